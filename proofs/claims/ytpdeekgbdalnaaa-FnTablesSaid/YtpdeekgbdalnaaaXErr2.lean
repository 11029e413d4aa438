import Derived.Test.YtpdeekgbdalnaaaF3
/- Errors of quotients. -/
namespace Go.Fx
open Ieee

theorem quo_err {k : FloatKind} {x y : Int} {d : Nat} (hx : Fin k x) (hy : Fin k y) (hy0 : 0 < fv k y) (hs : ((fv k x).natAbs : Int) * unit k ≤ ((2 ^ k.format.fractionBits * 2 ^ d : Nat) : Int) * fv k y) (hb : reachG k d < big k) :
    Bd k (reachG k d) (real.bin .quo k x y) ∧ (fv k (real.bin .quo k x y) * fv k y - fv k x * unit k).natAbs ≤ 2 * 2 ^ d * (fv k y).natAbs := by
  obtain ⟨m, i, hr, hi, hv⟩ := fv_read hx
  obtain ⟨n, j, hr2, hj, hv2⟩ := fv_read hy
  have hn0 : n ≠ 0 := by
    intro h0; subst h0; rw [hv2] at hy0; simp at hy0; cases hg : ng k y <;> rw [hg] at hy0 <;> simp [sg] at hy0
  have hny : ng k y = false := by
    cases hg : ng k y with
    | false => rfl
    | true => rw [hv2, hg] at hy0; simp only [sg, cond_true] at hy0; omega
  have hlp := lp_neg k
  have hX : ((fv k x).natAbs) = m * 2 ^ (i - k.format.leastPlace).toNat := by rw [hv, sg_abs]
  have hY : fv k y = ((n * 2 ^ (j - k.format.leastPlace).toNat : Nat) : Int) := by rw [hv2, hny]; rfl
  have hXs : fv k x = sg (ng k x) (fv k x).natAbs := by rw [hX]; exact hv
  have hYn : (fv k y).natAbs = n * 2 ^ (j - k.format.leastPlace).toNat := by rw [hY, Int.natAbs_natCast]
  have hsN : (fv k x).natAbs * unit k ≤ 2 ^ k.format.fractionBits * 2 ^ d * (fv k y).natAbs := by
    have e1 : ((fv k y).natAbs : Int) = fv k y := by omega
    rw [← e1] at hs
    exact_mod_cast hs
  have e : real.bin .quo k x y = (k.format.nearest (ng k x ^^ ng k y) (2 * ((m <<< (k.format.fractionBits + 2 + n.log2 - m.log2)) / n) + ((m <<< (k.format.fractionBits + 2 + n.log2 - m.log2)) % n != 0).toNat) (i - j - ((k.format.fractionBits + 2 + n.log2 - m.log2 : Nat) : Int) - 1) : Nat) := by
    show rBin .quo k x y = _
    unfold rBin floatBits Format.div
    simp only [hr, hr2, Datum.quotient]
    rw [if_neg hn0]
    rfl
  rw [e, hny, Bool.xor_false]
  have hD : m ≠ 0 → 2 ^ (k.format.fractionBits + 1) * n ≤ m <<< (k.format.fractionBits + 2 + n.log2 - m.log2) := by
    intro hm
    rw [Nat.shiftLeft_eq]
    have h1 : 2 ^ m.log2 ≤ m := Nat.log2_self_le hm
    have h2 : n < 2 ^ (n.log2 + 1) := Nat.lt_log2_self
    have h3 : 2 ^ (k.format.fractionBits + 1) * 2 ^ (n.log2 + 1) ≤ 2 ^ m.log2 * 2 ^ (k.format.fractionBits + 2 + n.log2 - m.log2) := by
      rw [← Nat.pow_add, ← Nat.pow_add]; exact Nat.pow_le_pow_right (by omega) (by omega)
    have h4 := Nat.mul_le_mul_right (2 ^ (k.format.fractionBits + 2 + n.log2 - m.log2)) h1
    have h5 := Nat.mul_le_mul_left (2 ^ (k.format.fractionBits + 1)) (Nat.le_of_lt h2)
    omega
  have hbin : reachG k d = 2 * 2 ^ k.format.fractionBits * 2 ^ d := rfl
  have hfb1 : 2 ^ (k.format.fractionBits + 1) = 2 * 2 ^ k.format.fractionBits := by rw [Nat.pow_succ]; omega
  rw [hfb1] at hD
  have hFpos : 0 < 2 ^ k.format.fractionBits := Nat.two_pow_pos _
  have hbinade : k.format.binade = 2 ^ k.format.fractionBits := rfl
  generalize ng k x = g at *
  unfold unit at *
  generalize hlpe : k.format.leastPlace = lp at *
  generalize hmore : k.format.fractionBits + 2 + n.log2 - m.log2 = more at *
  generalize 2 ^ k.format.fractionBits = Fb at *
  generalize hDe : m <<< more = D at *
  rw [Nat.shiftLeft_eq] at hDe
  have hmag1 : (2 * (D / n) + (D % n != 0).toNat) * n ≤ 2 * D + n ∧ 2 * D ≤ (2 * (D / n) + (D % n != 0).toNat) * n + n ∧ (m = 0 → (2 * (D / n) + (D % n != 0).toNat) = 0 ∧ D = 0) := by
    have h1 := Nat.div_add_mod D n
    have h2 := Nat.mod_lt D (show 0 < n by omega)
    rw [Nat.add_mul, Nat.mul_assoc, Nat.mul_comm (D / n) n]
    refine ⟨?_, ?_, fun hm => ?_⟩
    · rcases Nat.eq_zero_or_pos (D % n) with h0 | h0
      · rw [h0]; simp; omega
      · have hb : (D % n != 0).toNat = 1 := by have : (D % n != 0) = true := by simp; omega
                                               rw [this]; rfl
        rw [hb, Nat.one_mul]; omega
    · rcases Nat.eq_zero_or_pos (D % n) with h0 | h0
      · rw [h0]; simp; omega
      · have hb : (D % n != 0).toNat = 1 := by have : (D % n != 0) = true := by simp; omega
                                               rw [this]; rfl
        rw [hb, Nat.one_mul]; omega
    · subst hm
      rw [Nat.zero_mul] at hDe; subst hDe
      simp
  generalize 2 * (D / n) + (D % n != 0).toNat = mag at *
  generalize hpl : i - j - (more : Int) - 1 = place
  obtain ⟨u, hu1, hu2⟩ : ∃ u : Int, u ≤ place ∧ u ≤ lp := ⟨min place lp, by omega, by omega⟩
  have hR := Rounds.of (k := k) (neg := g) (mag := mag) (place := place) (u := u) (s := sg g (mag * 2 ^ (place - u).toNat)) hu1 (by rw [hlpe]; exact hu2) (sg_abs _ _) (fun h0 => by
    cases g with
    | false => simp only [sg, cond_false] at h0 ⊢; symm; apply decide_eq_false; omega
    | true => simp only [sg, cond_true] at h0 ⊢; symm; apply decide_eq_true; omega)
  rw [hlpe] at hR
  -- the true quotient, in the same units
  have p1 : 2 ^ more * (2 ^ (place - u).toNat * 2 ^ (j - lp).toNat) * 2 = 2 ^ (i - lp).toNat * 2 ^ (-lp).toNat * 2 ^ (lp - u).toNat := by
    rw [two_mul_two, two_mul_two, two_mul_two, two_mul_two, ← Nat.pow_succ]
    congr 1; omega
  have hDW : 2 * D * (2 ^ (place - u).toNat * 2 ^ (j - lp).toNat) = (fv k x).natAbs * 2 ^ (-lp).toNat * 2 ^ (lp - u).toNat := by
    rw [hX, ← hDe]
    have e3 : 2 * (m * 2 ^ more) * (2 ^ (place - u).toNat * 2 ^ (j - lp).toNat) = m * (2 ^ more * (2 ^ (place - u).toNat * 2 ^ (j - lp).toNat) * 2) := by ac_rfl
    rw [e3, p1]; ac_rfl
  have hW : 0 < 2 ^ (place - u).toNat * 2 ^ (j - lp).toNat := Nat.mul_pos (Nat.two_pow_pos _) (Nat.two_pow_pos _)
  have hMY : mag * 2 ^ (place - u).toNat * (fv k y).natAbs = mag * n * (2 ^ (place - u).toNat * 2 ^ (j - lp).toNat) := by rw [hYn]; ac_rfl
  have hc : 0 < 2 ^ (lp - u).toNat := Nat.two_pow_pos _
  generalize 2 ^ (lp - u).toNat = c at *
  generalize hXe : (fv k x).natAbs * 2 ^ (-lp).toNat = X at *
  have hYpos : 0 < (fv k y).natAbs := by omega
  have hYi : fv k y = ((fv k y).natAbs : Int) := by omega
  -- how far the sticky digit is off
  have hoff : 2 * (2 * (n * (2 ^ (place - u).toNat * 2 ^ (j - lp).toNat))) ≤ 2 ^ d * (fv k y).natAbs * c ∨ (mag = 0 ∧ X * c = 0) := by
    by_cases hm : m = 0
    · right
      obtain ⟨h1, h2⟩ := hmag1.2.2 hm
      refine ⟨h1, ?_⟩
      rw [← hDW, h2]; simp
    · left
      have h1 := Nat.mul_le_mul_right (2 ^ (place - u).toNat * 2 ^ (j - lp).toNat) (hD hm)
      have h2 := Nat.mul_le_mul_right c hsN
      generalize 2 ^ (place - u).toNat * 2 ^ (j - lp).toNat = W at *
      have h3 : 2 * D * W = 2 * (D * W) := by ac_rfl
      have h4 : 2 * Fb * n * W = Fb * (2 * (n * W)) := by ac_rfl
      have h5 : Fb * 2 ^ d * (fv k y).natAbs * c = Fb * (2 ^ d * (fv k y).natAbs * c) := by ac_rfl
      rw [h4] at h1
      rw [h5] at h2
      have h6 : Fb * (2 * (2 * (n * W))) ≤ Fb * (2 ^ d * (fv k y).natAbs * c) := by
        have : Fb * (2 * (2 * (n * W))) = 2 * (Fb * (2 * (n * W))) := by ac_rfl
        omega
      exact Nat.le_of_mul_le_mul_left h6 hFpos
  generalize 2 ^ (place - u).toNat * 2 ^ (j - lp).toNat = W at *
  generalize mag * 2 ^ (place - u).toNat = M at *
  generalize hYe : (fv k y).natAbs = Y at *
  -- M * Y and X * c are near
  have hn1 := Nat.mul_le_mul_right W hmag1.1
  have hn2 := Nat.mul_le_mul_right W hmag1.2.1
  rw [Nat.add_mul] at hn1 hn2
  rw [hDW] at hn1 hn2
  rw [← hMY] at hn1 hn2
  have hnear : M * Y ≤ X * c + 2 ^ d * Y * c ∧ X * c ≤ M * Y + 2 ^ d * Y * c ∧ 2 * (M * Y) ≤ 2 * (X * c) + 2 ^ d * Y * c := by
    rcases hoff with h | ⟨h1, h2⟩
    · generalize n * W = nw at *
      generalize 2 ^ d * Y * c = q at *
      omega
    · have : M * Y = 0 := by rw [hMY, h1]; simp
      rw [this, h2]; exact ⟨Nat.zero_le _, Nat.zero_le _, Nat.zero_le _⟩
  have hXc : X * c ≤ Fb * 2 ^ d * Y * c := Nat.mul_le_mul_right c hsN
  have hM : M ≤ 2 * Fb * 2 ^ d * c := by
    apply Nat.le_of_mul_le_mul_right _ hYpos
    have h1 : 2 ^ d * Y * c ≤ Fb * 2 ^ d * Y * c := by
      have e1 : Fb * 2 ^ d * Y * c = Fb * (2 ^ d * Y * c) := by ac_rfl
      rw [e1]; exact Nat.le_mul_of_pos_left _ hFpos
    have e2 : 2 * Fb * 2 ^ d * c * Y = 2 * (Fb * 2 ^ d * Y * c) := by ac_rfl
    rw [e2]
    omega
  have herr := hR.err (d := d) hc (by rw [sg_abs, hbinade]; exact hM) hb
  refine ⟨⟨herr.1, herr.2.2⟩, ?_⟩
  have h2 := herr.2.1
  generalize hq : fv k ((k.format.nearest g mag place : Nat) : Int) = q at *
  rw [hYi]
  -- multiply by c
  have hXs' : fv k x * ((2 ^ (-lp).toNat : Nat) : Int) * c = sg g (X * c) := by
    rw [hXs, ← sg_mul, ← sg_mul, hXe]
  have goal2 : ((q * (Y : Int) - fv k x * ((2 ^ (-lp).toNat : Nat) : Int)) * (c : Int)).natAbs ≤ 2 * 2 ^ d * Y * c := by
    have e1 : (q * (Y : Int) - fv k x * ((2 ^ (-lp).toNat : Nat) : Int)) * (c : Int) = (q * c - sg g M) * Y + (sg g (M * Y) - sg g (X * c)) := by
      rw [Int.sub_mul, Int.sub_mul, hXs', sg_mul g M Y]
      have : q * (Y : Int) * c = q * c * Y := by rw [Int.mul_assoc, Int.mul_comm (Y : Int), ← Int.mul_assoc]
      omega
    have e2 : (sg g (M * Y) - sg g (X * c)).natAbs ≤ 2 ^ d * Y * c := by
      have n1 := hnear.1
      have n2 := hnear.2.1
      generalize M * Y = A at *
      generalize X * c = B at *
      generalize 2 ^ d * Y * c = C at *
      cases g <;> simp only [sg, cond_true, cond_false] <;> omega
    have e3 : ((q * c - sg g M) * Y).natAbs ≤ 2 ^ d * Y * c := by
      rw [Int.natAbs_mul, Int.natAbs_natCast]
      have := Nat.mul_le_mul_right Y h2
      have e4 : 2 ^ d * c * Y = 2 ^ d * Y * c := by ac_rfl
      omega
    rw [e1]
    have e5 : 2 * 2 ^ d * Y * c = 2 ^ d * Y * c + 2 ^ d * Y * c := by
      have : 2 * 2 ^ d * Y * c = 2 * (2 ^ d * Y * c) := by ac_rfl
      omega
    omega
  rw [Int.natAbs_mul, Int.natAbs_natCast] at goal2
  exact Nat.le_of_mul_le_mul_right goal2 hc
end Go.Fx
