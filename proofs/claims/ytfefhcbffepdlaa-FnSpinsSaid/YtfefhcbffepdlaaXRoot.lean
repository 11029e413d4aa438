import Derived.Test.YtfefhcbffepdlaaXWrap
/- Square roots: how great they are. -/
namespace Go.Fx
open Ieee

theorem rootFrom_le (n : Nat) : ∀ (todo root : Nat), root * root ≤ n → Datum.rootFrom n todo root * Datum.rootFrom n todo root ≤ n := by
  intro todo
  induction todo with
  | zero => intro root h; exact h
  | succ t ih =>
    intro root h
    unfold Datum.rootFrom
    apply ih
    split
    · assumption
    · exact h

theorem sq_le {a b : Nat} (h : a * a ≤ b * b) : a ≤ b := by
  rcases Nat.lt_or_ge b a with h1 | h1
  · have := Nat.mul_lt_mul'' h1 h1; omega
  · exact h1

theorem sqrt_le {e : Nat} {x : Int} (hx : Le .f64 (2 * e) x) (h0 : 0 ≤ fv .f64 x) (he : e + 1 ≤ 1000) : Le .f64 (e + 1) (real.sqrt x) := by
  obtain ⟨m, i, hr, hi, hv⟩ := fv_read hx.1
  have hle := hx.2
  rw [hv, sg_abs] at hle
  have hlp := lp_neg .f64
  unfold unit at hle
  by_cases hm : m = 0
  · have e1 : real.sqrt x = (FloatKind.f64.format.nearest (ng .f64 x) m i : Nat) := by
      show rSqrt x = _
      unfold rSqrt Format.sqrt
      simp only [hr, Datum.root]
      rw [if_pos hm]; rfl
    subst hm
    rw [e1]
    have hR := Rounds.of (k := .f64) (neg := ng .f64 x) (mag := 0) (place := i) (u := FloatKind.f64.format.leastPlace) (s := 0) hi (Int.le_refl _) (by simp) (fun h => absurd rfl h)
    exact Le.of_rounds hR he (by simp)
  · have hng : ng .f64 x = false := by
      cases hg : ng .f64 x with
      | false => rfl
      | true =>
        rw [hg] at hv
        simp only [sg, cond_true] at hv
        have : 0 < m * 2 ^ (i - FloatKind.f64.format.leastPlace).toNat := Nat.mul_pos (by omega) (Nat.two_pow_pos _)
        omega
    rw [hng] at hr
    obtain ⟨more, hmo, hpar⟩ : ∃ more : Nat, more = (2 * (FloatKind.f64.format.fractionBits + 2) - m.log2) + ((i - ((2 * (FloatKind.f64.format.fractionBits + 2) - m.log2 : Nat) : Int)) % 2).toNat ∧ ∃ h : Int, i - (more : Int) = 2 * h := by
      refine ⟨_, rfl, (i - ((2 * (FloatKind.f64.format.fractionBits + 2) - m.log2 : Nat) : Int)) / 2, ?_⟩
      generalize 2 * (FloatKind.f64.format.fractionBits + 2) - m.log2 = A
      omega
    obtain ⟨h, hh⟩ := hpar
    have e1 : real.sqrt x = (FloatKind.f64.format.nearest false (2 * Datum.rootFrom (m <<< more) ((m <<< more).log2 / 2 + 1) 0 + (Datum.rootFrom (m <<< more) ((m <<< more).log2 / 2 + 1) 0 * Datum.rootFrom (m <<< more) ((m <<< more).log2 / 2 + 1) 0 != m <<< more).toNat) ((i - (more : Int)) / 2 - 1) : Nat) := by
      show rSqrt x = _
      unfold rSqrt Format.sqrt
      simp only [hr, Datum.root]
      rw [if_neg hm, hmo]; rfl
    rw [e1]
    have hw := rootFrom_le (m <<< more) ((m <<< more).log2 / 2 + 1) 0 (by simp)
    generalize Datum.rootFrom (m <<< more) ((m <<< more).log2 / 2 + 1) 0 = w at *
    have hst : (w * w != m <<< more).toNat ≤ 1 := by cases (w * w != m <<< more) <;> simp
    generalize (w * w != m <<< more).toNat = st at *
    rw [Nat.shiftLeft_eq] at hw
    have hpl : (i - (more : Int)) / 2 - 1 = h - 1 := by omega
    rw [hpl]
    obtain ⟨lp, hlpe⟩ : ∃ lp, FloatKind.f64.format.leastPlace = lp := ⟨_, rfl⟩
    rw [hlpe] at hi hle hlp
    obtain ⟨u, hu1, hu2, hu3⟩ : ∃ u : Int, u ≤ h - 1 ∧ u ≤ lp ∧ 2 * u ≤ lp := ⟨min (h - 1) lp, by omega, by omega, by omega⟩
    have hR := Rounds.of (k := .f64) (neg := false) (mag := 2 * w + st) (place := h - 1) (u := u) (s := ((2 * w + st) * 2 ^ (h - 1 - u).toNat : Nat)) hu1 (by rw [hlpe]; exact hu2) (Int.natAbs_natCast _) (fun _ => by symm; apply decide_eq_false; omega)
    refine Le.of_rounds hR he ?_
    rw [Int.natAbs_natCast]
    unfold unit
    rw [hlpe, Nat.mul_assoc, two_mul_two]
    have eU : (-lp).toNat + (lp - u).toNat = (-u).toNat := by omega
    rw [eU]
    have hsq : (w * 2 ^ ((h - 1 - u).toNat + 1)) * (w * 2 ^ ((h - 1 - u).toNat + 1)) ≤ (2 ^ e * 2 ^ (-u).toNat) * (2 ^ e * 2 ^ (-u).toNat) ∧ (2 ^ ((h - 1 - u).toNat + 1)) * (2 ^ ((h - 1 - u).toNat + 1)) ≤ (2 ^ e * 2 ^ (-u).toNat) * (2 ^ e * 2 ^ (-u).toNat) := by
      have k1 := Nat.mul_le_mul_right (2 ^ ((h - 1 - u).toNat + 1) * 2 ^ ((h - 1 - u).toNat + 1)) hw
      have k2 := Nat.mul_le_mul_right (2 ^ (lp - 2 * u).toNat) hle
      have p1 : 2 ^ more * (2 ^ ((h - 1 - u).toNat + 1) * 2 ^ ((h - 1 - u).toNat + 1)) = 2 ^ (i - lp).toNat * 2 ^ (lp - 2 * u).toNat := by
        rw [two_mul_two, two_mul_two, two_mul_two]; congr 1; omega
      have p2 : 2 ^ (2 * e) * 2 ^ (-lp).toNat * 2 ^ (lp - 2 * u).toNat = (2 ^ e * 2 ^ (-u).toNat) * (2 ^ e * 2 ^ (-u).toNat) := by
        rw [two_mul_two, two_mul_two, two_mul_two, two_mul_two]; congr 1; omega
      have p3 : m * 2 ^ more * (2 ^ ((h - 1 - u).toNat + 1) * 2 ^ ((h - 1 - u).toNat + 1)) = m * 2 ^ (i - lp).toNat * 2 ^ (lp - 2 * u).toNat := by
        rw [Nat.mul_assoc, p1, Nat.mul_assoc]
      rw [p3] at k1
      rw [p2] at k2
      refine ⟨?_, ?_⟩
      · have : w * 2 ^ ((h - 1 - u).toNat + 1) * (w * 2 ^ ((h - 1 - u).toNat + 1)) = w * w * (2 ^ ((h - 1 - u).toNat + 1) * 2 ^ ((h - 1 - u).toNat + 1)) := by ac_rfl
        omega
      · have hn1 : 1 ≤ m * 2 ^ more := Nat.mul_pos (by omega) (Nat.two_pow_pos _)
        have := Nat.mul_le_mul_right (2 ^ ((h - 1 - u).toNat + 1) * 2 ^ ((h - 1 - u).toNat + 1)) hn1
        rw [p3] at this
        omega
    have h1 := sq_le hsq.1
    have h2 := sq_le hsq.2
    have e3 : 2 ^ (e + 1) * 2 ^ (-u).toNat = 2 * (2 ^ e * 2 ^ (-u).toNat) := by rw [Nat.pow_succ]; ac_rfl
    rw [e3]
    rw [Nat.pow_succ] at h1 h2
    generalize 2 ^ (h - 1 - u).toNat = T at *
    generalize 2 ^ e * 2 ^ (-u).toNat = B at *
    have e4 : (2 * w + st) * T = w * (T * 2) + st * T := by rw [Nat.add_mul]; congr 1; ac_rfl
    have e5 : st * T ≤ 1 * T := Nat.mul_le_mul_right T hst
    omega
end Go.Fx
