import Derived.Test.YtpdeekgbdalnaaaXSin
import Derived.Test.YtpdeekgbdalnaaaXErr2
/- The sine of some turns: how great it is, and how fast it changes. -/
namespace Go.Fx
open Ieee
set_option exponentiation.threshold 5000

@[irreducible] def gU : Nat := 2 ^ 925
theorem gU_pos : 0 < gU := by unfold gU; exact Nat.two_pow_pos 925
theorem unit_g : unit .f64 = 2 ^ 149 * gU := by rw [unit64', gU, pw_eq 149 925 1074 rfl]
theorem qt_g : qt = 2 ^ 147 * gU := by rw [qt, gU, pw_eq 147 925 1072 rfl]
theorem ep_g (j : Nat) : 2 ^ (1021 + j) = 2 ^ j * 2 ^ 96 * gU := by
  rw [gU, Nat.mul_assoc, pw_eq 96 925 1021 rfl, two_mul_two]; congr 1; omega

theorem bin64 : FloatKind.f64.format.binade = 2 ^ 52 := by decide
theorem bin32 : FloatKind.f32.format.binade = 2 ^ 23 := by decide
theorem reach64 (j : Nat) : reachG .f64 (1021 + j) = 2 ^ j * 2 ^ 149 * gU := by
  unfold reachG
  rw [bin64, show (2 : Nat) * 2 ^ 52 = 2 ^ 53 by decide, gU, two_mul_two, Nat.mul_assoc, two_mul_two 149 925, two_mul_two]
  congr 1; omega
theorem reach64_ok {j : Nat} (h : j ≤ 900) : reachG .f64 (1021 + j) < big .f64 := by
  unfold reachG
  rw [bin64, show (2 : Nat) * 2 ^ 52 = 2 ^ 53 by decide, two_mul_two, big64]; exact pw_lt _ _ (by omega)

section
variable {x y x' y' : Int} {B C e f t j : Nat}
theorem sub64 (hx : Bd .f64 (B * gU) x) (hy : Bd .f64 (C * gU) y) (hs : B + C ≤ 2 ^ j * 2 ^ 149) (hj : j ≤ 900) :
    Bd .f64 (2 ^ j * 2 ^ 149 * gU) (real.bin .sub .f64 x y) ∧ (fv .f64 (real.bin .sub .f64 x y) - (fv .f64 x - fv .f64 y)).natAbs ≤ 2 ^ j * 2 ^ 96 * gU := by
  have := sub_err (d := 1021 + j) hx hy (by rw [reach64, ← Nat.add_mul]; exact Nat.mul_le_mul_right _ hs) (reach64_ok hj)
  rwa [reach64, ep_g] at this
theorem prodG (h : B * C ≤ t * 2 ^ 149) : B * gU * (C * gU) ≤ t * gU * (2 ^ 149 * gU) := by
  have := Nat.mul_le_mul_right (gU * gU) h
  have e1 : B * gU * (C * gU) = B * C * (gU * gU) := Nat.mul_mul_mul_comm _ _ _ _
  have e2 : t * gU * (2 ^ 149 * gU) = t * 2 ^ 149 * (gU * gU) := Nat.mul_mul_mul_comm _ _ _ _
  rw [e1, e2]; exact this
theorem mul64 (hx : Bd .f64 (B * gU) x) (hy : Bd .f64 (C * gU) y) (hs : B * C ≤ 2 ^ j * 2 ^ 149 * 2 ^ 149) (hj : j ≤ 900) :
    Bd .f64 (2 ^ j * 2 ^ 149 * gU) (real.bin .mul .f64 x y) ∧ (fv .f64 (real.bin .mul .f64 x y) * (2 ^ 149 * gU : Nat) - fv .f64 x * fv .f64 y).natAbs ≤ 2 ^ j * 2 ^ 96 * gU * (2 ^ 149 * gU) := by
  have := mul_err (d := 1021 + j) hx hy (by rw [reach64, unit_g]; exact prodG hs) (reach64_ok hj)
  rwa [reach64, ep_g, unit_g] at this
theorem sub_nr64 (hx : Bd .f64 (B * gU) x) (hy : Bd .f64 (C * gU) y) (hx' : Bd .f64 (B * gU) x') (hy' : Bd .f64 (C * gU) y') (hs : B + C ≤ 2 ^ j * 2 ^ 149) (hj : j ≤ 900) (h1 : Nr .f64 (e * gU) x x') (h2 : Nr .f64 (f * gU) y y') :
    Nr .f64 ((e + f + 2 * (2 ^ j * 2 ^ 96)) * gU) (real.bin .sub .f64 x y) (real.bin .sub .f64 x' y') := by
  have := sub_nr (d := 1021 + j) hx hy hx' hy' (by rw [reach64, ← Nat.add_mul]; exact Nat.mul_le_mul_right _ hs) (reach64_ok hj) h1 h2
  rw [ep_g] at this
  refine this.mono (Nat.le_of_eq ?_)
  rw [Nat.add_mul, Nat.add_mul, Nat.mul_assoc 2 _ gU]
theorem mul_nr64 (hx : Bd .f64 (B * gU) x) (hy : Bd .f64 (C * gU) y) (hx' : Bd .f64 (B * gU) x') (hy' : Bd .f64 (C * gU) y') (hs : B * C ≤ 2 ^ j * 2 ^ 149 * 2 ^ 149) (hj : j ≤ 900) (h1 : Nr .f64 (e * gU) x x') (h2 : Nr .f64 (f * gU) y y') (ht : B * f + C * e ≤ t * 2 ^ 149) :
    Nr .f64 ((t + 2 * (2 ^ j * 2 ^ 96)) * gU) (real.bin .mul .f64 x y) (real.bin .mul .f64 x' y') := by
  have := mul_nr (d := 1021 + j) (t := t * gU) hx hy hx' hy' (by rw [reach64, unit_g]; exact prodG hs) (reach64_ok hj) h1 h2 (by
    rw [unit_g]
    have := Nat.mul_le_mul_right (gU * gU) ht
    have e1 : B * gU * (f * gU) + C * gU * (e * gU) = (B * f + C * e) * (gU * gU) := by
      rw [Nat.add_mul]
      have a1 : B * gU * (f * gU) = B * f * (gU * gU) := Nat.mul_mul_mul_comm _ _ _ _
      have a2 : C * gU * (e * gU) = C * e * (gU * gU) := Nat.mul_mul_mul_comm _ _ _ _
      rw [a1, a2]
    have e2 : t * gU * (2 ^ 149 * gU) = t * 2 ^ 149 * (gU * gU) := Nat.mul_mul_mul_comm _ _ _ _
    rw [e1, e2]; exact this)
  rw [ep_g] at this
  refine this.mono (Nat.le_of_eq ?_)
  rw [Nat.add_mul, Nat.mul_assoc 2 _ gU]
end

theorem mul_nonneg {k : FloatKind} {x y : Int} (hx : Fin k x) (hy : Fin k y) (h0 : 0 ≤ fv k x) (h1 : 0 ≤ fv k y) : 0 ≤ fv k (real.bin .mul k x y) := by
  obtain ⟨z1, z2⟩ := fin_zero k
  have := (mul_rounds hx hy).ge 0 z1.toNum (by rw [z2, Int.zero_mul]; exact Int.mul_nonneg h0 h1)
  rw [z2] at this; exact this

def stepP (u p : Int) (m : Nat) : Int := real.bin .sub .f64 4607182418800017408 (real.bin .quo .f64 (real.bin .mul .f64 u p) (real.ofInt .f64 m))

theorem sin_unroll {k : Nat} (hk0 : 1 ≤ k) (hk : k ≤ 8) : ∃ m : Nat, 6 ≤ m ∧ m ≤ 272 ∧ ∀ (u p : Int) (n : Nat), sinLoop u (n + 1) p k = sinLoop u n (stepP u p m) ((k - 1 : Nat) : Int) := by
  obtain ⟨k, rfl⟩ : ∃ j, k = j + 1 := ⟨k - 1, by omega⟩
  have hm : ∃ m : Nat, 2 * ((k + 1 : Nat) : Int) * (2 * ((k + 1 : Nat) : Int) + 1) = m ∧ 6 ≤ m ∧ m ≤ 272 := by
    refine ⟨2 * (k + 1) * (2 * (k + 1) + 1), by push_cast; rfl, ?_, ?_⟩
    · have : 2 * 3 ≤ 2 * (k + 1) * (2 * (k + 1) + 1) := Nat.mul_le_mul (by omega) (by omega)
      omega
    · have : 2 * (k + 1) * (2 * (k + 1) + 1) ≤ 16 * 17 := Nat.mul_le_mul (by omega) (by omega)
      omega
  obtain ⟨m, hm, hm1, hm2⟩ := hm
  refine ⟨m, hm1, hm2, fun u p n => ?_⟩
  conv => lhs; unfold sinLoop
  have e1 : decide (((k + 1 : Nat) : Int) ≥ 1) = true := by simp; omega
  have w1 : IntKind.wrap .i64 (2 * ((k + 1 : Nat) : Int)) = 2 * ((k + 1 : Nat) : Int) := wrap64 (by omega) (by omega)
  have w2 : IntKind.wrap .i64 (2 * ((k + 1 : Nat) : Int) + 1) = 2 * ((k + 1 : Nat) : Int) + 1 := wrap64 (by omega) (by omega)
  rw [e1, w1, w2, hm, wrap64 (n := (m : Int)) (by omega) (by omega), wrap64 (n := ((k + 1 : Nat) : Int) - 1) (by omega) (by omega), show ((k + 1 : Nat) : Int) - 1 = ((k + 1 - 1 : Nat) : Int) by omega]
  rfl

structure P01 (p : Int) : Prop where
  fin : Fin .f64 p
  ge : 0 ≤ fv .f64 p
  le : fv .f64 p ≤ ((2 ^ 149 + 2 ^ 110) * gU : Nat)
structure U03 (u : Int) : Prop where
  fin : Fin .f64 u
  ge : 0 ≤ fv .f64 u
  le : fv .f64 u ≤ (3 * 2 ^ 149 * gU : Nat)
theorem P01.bd {p : Int} (h : P01 p) : Bd .f64 ((2 ^ 149 + 2 ^ 110) * gU) p := ⟨h.fin, by have := h.ge; have := h.le; omega⟩
theorem U03.bd {p : Int} (h : U03 p) : Bd .f64 (3 * 2 ^ 149 * gU) p := ⟨h.fin, by have := h.ge; have := h.le; omega⟩

theorem one_g : Fin .f64 4607182418800017408 ∧ fv .f64 4607182418800017408 = (2 ^ 149 * gU : Nat) := by
  refine ⟨k_one.1, ?_⟩
  have := k_one.2
  rw [qt_g] at this
  omega
theorem p01_one : P01 4607182418800017408 := ⟨one_g.1, by rw [one_g.2]; omega, by rw [one_g.2]; omega⟩

theorem step_prod {u p : Int} (hu : U03 u) (hp : P01 p) : Bd .f64 (2 ^ 2 * 2 ^ 149 * gU) (real.bin .mul .f64 u p) ∧ 0 ≤ fv .f64 (real.bin .mul .f64 u p) :=
  ⟨(mul64 (j := 2) hu.bd hp.bd (by decide +kernel) (by omega)).1, mul_nonneg hu.fin hp.fin hu.ge hp.ge⟩

theorem ofInt_g {m : Nat} (h2 : m ≤ 272) : Fin .f64 (real.ofInt .f64 m) ∧ fv .f64 (real.ofInt .f64 m) = m * ((2 ^ 149 * gU : Nat) : Int) := by
  obtain ⟨c1, c2⟩ := ofInt_fv (k := .f64) (n := (m : Int)) (by rw [bin64]; omega)
  exact ⟨c1, by rw [c2, unit_g]⟩

theorem step_quo {a : Int} {m : Nat} (ha : Bd .f64 (2 ^ 2 * 2 ^ 149 * gU) a) (h1 : 6 ≤ m) (h2 : m ≤ 272) :
    Fin .f64 (real.bin .quo .f64 a (real.ofInt .f64 m)) ∧ (fv .f64 (real.bin .quo .f64 a (real.ofInt .f64 m)) * m - fv .f64 a).natAbs ≤ 2 ^ 98 * gU * m := by
  obtain ⟨a1, a2⟩ := ha
  obtain ⟨c1, c2⟩ := ofInt_g h2
  have hG := gU_pos
  have hU : 0 < 2 ^ 149 * gU := by omega
  have key := quo_err (d := 1021 + 1) a1 c1 (by rw [c2]; exact Int.mul_pos (by omega) (by omega)) (by
    rw [c2, unit_g, ep_g]
    have e1 : FloatKind.f64.format.fractionBits = 52 := by decide
    rw [e1]
    have b0 : (fv .f64 a).natAbs ≤ 2 ^ 52 * (2 ^ 1 * 2 ^ 96 * gU) * m := by
      have : 2 ^ 52 * (2 ^ 1 * 2 ^ 96 * gU) * 6 ≤ 2 ^ 52 * (2 ^ 1 * 2 ^ 96 * gU) * m := Nat.mul_le_mul_left _ h1
      omega
    have b1 := Nat.mul_le_mul_right (2 ^ 149 * gU) b0
    rw [Nat.mul_assoc _ m] at b1
    exact_mod_cast b1) (reach64_ok (by omega))
  obtain ⟨q1, q2⟩ := key
  refine ⟨q1.1, ?_⟩
  rw [c2, unit_g, ep_g] at q2
  generalize fv .f64 (real.bin .quo .f64 a (real.ofInt .f64 m)) = q at *
  have e1 : q * ((m : Int) * ((2 ^ 149 * gU : Nat) : Int)) - fv .f64 a * ((2 ^ 149 * gU : Nat) : Int) = (q * m - fv .f64 a) * ((2 ^ 149 * gU : Nat) : Int) := by rw [Int.sub_mul, Int.mul_assoc]
  rw [e1, Int.natAbs_mul, Int.natAbs_natCast, Int.natAbs_mul, Int.natAbs_natCast, Int.natAbs_natCast, ← Nat.mul_assoc (2 * (2 ^ 1 * 2 ^ 96 * gU)) m] at q2
  have := Nat.le_of_mul_le_mul_right q2 hU
  refine Nat.le_trans this (Nat.le_of_eq ?_)
  have : 2 * (2 ^ 1 * 2 ^ 96 * gU) = 2 ^ 98 * gU := by omega
  rw [this]

theorem step_01 {u p : Int} {m : Nat} (hu : U03 u) (hp : P01 p) (h1 : 6 ≤ m) (h2 : m ≤ 272) : P01 (stepP u p m) ∧ Bd .f64 (2 ^ 149 * gU) (real.bin .quo .f64 (real.bin .mul .f64 u p) (real.ofInt .f64 m)) := by
  obtain ⟨ha, a3⟩ := step_prod hu hp
  obtain ⟨q1, q2⟩ := step_quo ha h1 h2
  obtain ⟨o1, o2⟩ := one_g
  have a2 := ha.2
  unfold stepP
  generalize real.bin .mul .f64 u p = a at *
  generalize real.bin .quo .f64 a (real.ofInt .f64 m) = q at *
  have hG := gU_pos
  have hq : -((2 ^ 98 * gU : Nat) : Int) ≤ fv .f64 q ∧ fv .f64 q ≤ ((2 ^ 149 * gU : Nat) : Int) := by
    have e : ((2 ^ 98 * gU * m : Nat) : Int) = ((2 ^ 98 * gU : Nat) : Int) * m := Int.natCast_mul _ _
    have hm : (0 : Int) < m := by omega
    constructor
    · have : -((2 ^ 98 * gU : Nat) : Int) * m ≤ fv .f64 q * m := by rw [Int.neg_mul]; omega
      exact Int.le_of_mul_le_mul_right this hm
    · have h6 : (((2 ^ 149 - 2 ^ 98) * gU * 6 : Nat) : Int) ≤ (((2 ^ 149 - 2 ^ 98) * gU : Nat) : Int) * m := by
        have := Nat.mul_le_mul_left ((2 ^ 149 - 2 ^ 98) * gU) h1
        have e3 : (((2 ^ 149 - 2 ^ 98) * gU * m : Nat) : Int) = (((2 ^ 149 - 2 ^ 98) * gU : Nat) : Int) * m := Int.natCast_mul _ _
        omega
      have : fv .f64 q * m ≤ ((2 ^ 149 * gU : Nat) : Int) * m := by
        have e2 : ((2 ^ 149 * gU : Nat) : Int) * m = (((2 ^ 149 - 2 ^ 98) * gU : Nat) : Int) * m + ((2 ^ 98 * gU : Nat) : Int) * m := by
          rw [← Int.add_mul]; congr 1; omega
        omega
      exact Int.le_of_mul_le_mul_right this hm
  have hqb : Bd .f64 (2 ^ 149 * gU) q := ⟨q1, by omega⟩
  obtain ⟨s1, s2⟩ := sub64 (j := 1) (B := 2 ^ 149) (C := 2 ^ 149) ⟨o1, by rw [o2]; omega⟩ hqb (by decide +kernel) (by omega)
  refine ⟨⟨s1.1, ?_, ?_⟩, hqb⟩
  · obtain ⟨z1, z2⟩ := fin_zero .f64
    have := (sub_rounds o1 q1).ge 0 z1.toNum (by rw [z2, o2]; omega)
    rw [z2] at this; exact this
  · rw [o2] at s2; omega

theorem step_nr {u p u' p' : Int} {m : Nat} (hu : U03 u) (hp : P01 p) (hu' : U03 u') (hp' : P01 p') (h1 : 6 ≤ m) (h2 : m ≤ 272) (hn : Nr .f64 (190 * 2 ^ 133 * gU) u u') (hpn : Nr .f64 (2 ^ 140 * gU) p p') :
    Nr .f64 (2 ^ 140 * gU) (stepP u p m) (stepP u' p' m) := by
  have ha := mul_nr64 (j := 2) (t := 3 * 2 ^ 140 + 380 * 2 ^ 133) hu.bd hp.bd hu'.bd hp'.bd (by decide +kernel) (by omega) hn hpn (by decide +kernel)
  obtain ⟨p1, _⟩ := step_prod hu hp
  obtain ⟨p2, _⟩ := step_prod hu' hp'
  obtain ⟨_, q2⟩ := step_quo p1 h1 h2
  obtain ⟨_, q3⟩ := step_quo p2 h1 h2
  have b1 := (step_01 hu hp h1 h2).2
  have b2 := (step_01 hu' hp' h1 h2).2
  obtain ⟨o1, o2⟩ := one_g
  have ob : Bd .f64 (2 ^ 149 * gU) 4607182418800017408 := ⟨o1, by rw [o2]; omega⟩
  unfold stepP
  generalize real.bin .mul .f64 u p = a at *
  generalize real.bin .mul .f64 u' p' = a' at *
  generalize real.bin .quo .f64 a (real.ofInt .f64 m) = q at *
  generalize real.bin .quo .f64 a' (real.ofInt .f64 m) = q' at *
  have hG := gU_pos
  have hq : Nr .f64 ((2 ^ 139 + 127 * 2 ^ 132) * gU) q q' := by
    unfold Nr at *
    have e : ((2 ^ 98 * gU * m : Nat) : Int) = ((2 ^ 98 * gU : Nat) : Int) * m := Int.natCast_mul _ _
    have hm : 0 < m := by omega
    have e2 : ((fv .f64 q - fv .f64 q') * (m : Int)).natAbs ≤ (2 ^ 139 + 127 * 2 ^ 132) * gU * m := by
      rw [Int.sub_mul]
      have h6 : ((2 ^ 139 + 127 * 2 ^ 132 - 2 ^ 99) * gU) * 6 ≤ ((2 ^ 139 + 127 * 2 ^ 132 - 2 ^ 99) * gU) * m := Nat.mul_le_mul_left _ h1
      have e3 : (2 ^ 139 + 127 * 2 ^ 132) * gU * m = ((2 ^ 139 + 127 * 2 ^ 132 - 2 ^ 99) * gU) * m + 2 * (2 ^ 98 * gU * m) := by
        have e4 : (2 ^ 139 + 127 * 2 ^ 132) * gU = (2 ^ 139 + 127 * 2 ^ 132 - 2 ^ 99) * gU + 2 * (2 ^ 98 * gU) := by omega
        rw [e4, Nat.add_mul, Nat.mul_assoc 2]
      rw [e3]
      clear e3
      generalize 2 ^ 98 * gU * m = M1 at *
      generalize (2 ^ 139 + 127 * 2 ^ 132 - 2 ^ 99) * gU * m = M2 at *
      generalize fv .f64 q * (m : Int) = Q1 at *
      generalize fv .f64 q' * (m : Int) = Q2 at *
      omega
    rw [Int.natAbs_mul, Int.natAbs_natCast] at e2
    exact Nat.le_of_mul_le_mul_right e2 hm
  have := sub_nr64 (j := 1) (e := 0) ob b1 ob b2 (by decide +kernel) (by omega) (by rw [Nat.zero_mul]; exact Nr.refl _ _) hq
  exact this.mono (by omega)

theorem loop_nr {u u' : Int} (hu : U03 u) (hu' : U03 u') (hn : Nr .f64 (190 * 2 ^ 133 * gU) u u') : ∀ (k n : Nat) (p p' : Int), k < n → k ≤ 8 → P01 p → P01 p' → Nr .f64 (2 ^ 140 * gU) p p' →
    P01 (sinLoop u n p k).2 ∧ P01 (sinLoop u' n p' k).2 ∧ Nr .f64 (2 ^ 140 * gU) (sinLoop u n p k).2 (sinLoop u' n p' k).2 := by
  intro k
  induction k with
  | zero =>
    intro n p p' hn _ hp hp' h
    match n, hn with
    | n + 1, _ => exact ⟨hp, hp', h⟩
  | succ k ih =>
    intro n p p' hkn hk hp hp' h
    match n, hkn with
    | n + 1, hkn =>
      obtain ⟨m, h1, h2, h3⟩ := sin_unroll (k := k + 1) (by omega) hk
      rw [h3, h3]
      exact ih n _ _ (by omega) (by omega) (step_01 hu hp h1 h2).1 (step_01 hu' hp' h1 h2).1 (step_nr hu hp hu' hp' h1 h2 hn h)

theorem tau_g : Bd .f64 (13 * 2 ^ 148 * gU) 4618760256179416344 ∧ 0 ≤ fv .f64 4618760256179416344 := by
  have h : Fin .f64 4618760256179416344 ∧ 0 ≤ fv .f64 4618760256179416344 ∧ 2 * (fv .f64 4618760256179416344).natAbs ≤ 13 * unit .f64 := by
    refine ⟨⟨by decide, by decide +kernel, by decide +kernel⟩, by decide +kernel, by decide +kernel⟩
  refine ⟨⟨h.1, ?_⟩, h.2.1⟩
  have := h.2.2
  rw [unit_g] at this
  omega

theorem small_bd {m : Int} (h : Small m) : Bd .f64 (2 ^ 147 * gU) m := ⟨h.fin, by have := h.ge; have := h.le; rw [unit_g] at this; omega⟩

def sinZ (m : Int) : Int := real.bin .mul .f64 m 4618760256179416344
theorem sinZ_facts {m : Int} (h : Small m) : Bd .f64 (27 * 2 ^ 145 * gU) (sinZ m) ∧ 0 ≤ fv .f64 (sinZ m) := by
  obtain ⟨t1, t2⟩ := tau_g
  have hm := small_bd h
  obtain ⟨z1, z2⟩ := mul64 (j := 1) hm t1 (by decide +kernel) (by omega)
  have z3 := mul_nonneg h.fin t1.1 h.ge t2
  refine ⟨⟨z1.1, ?_⟩, z3⟩
  have hG := gU_pos
  have hp : (fv .f64 m * fv .f64 4618760256179416344).natAbs ≤ 2 ^ 147 * gU * (13 * 2 ^ 148 * gU) := by rw [Int.natAbs_mul]; exact Nat.mul_le_mul hm.2 t1.2
  have e1 : 2 ^ 147 * gU * (13 * 2 ^ 148 * gU) = 13 * 2 ^ 146 * gU * (2 ^ 149 * gU) := by
    rw [Nat.mul_mul_mul_comm, Nat.mul_mul_mul_comm (13 * 2 ^ 146) gU]
  rw [e1] at hp
  unfold sinZ at *
  generalize fv .f64 (real.bin .mul .f64 m 4618760256179416344) = z at *
  have e2 : (z * ((2 ^ 149 * gU : Nat) : Int)).natAbs ≤ (13 * 2 ^ 146 * gU + 2 ^ 1 * 2 ^ 96 * gU) * (2 ^ 149 * gU) := by rw [Nat.add_mul]; omega
  rw [Int.natAbs_mul, Int.natAbs_natCast] at e2
  have := Nat.le_of_mul_le_mul_right e2 (by omega)
  omega

theorem sinU_facts {m : Int} (h : Small m) : U03 (sinU m) := by
  obtain ⟨z1, z2⟩ := sinZ_facts h
  obtain ⟨u1, u2⟩ := mul64 (j := 2) z1 z1 (by decide +kernel) (by omega)
  have u3 := mul_nonneg z1.1 z1.1 z2 z2
  have hG := gU_pos
  have hp : (fv .f64 (sinZ m) * fv .f64 (sinZ m)).natAbs ≤ 27 * 2 ^ 145 * gU * (27 * 2 ^ 145 * gU) := by rw [Int.natAbs_mul]; exact Nat.mul_le_mul z1.2 z1.2
  have e1 : 27 * 2 ^ 145 * gU * (27 * 2 ^ 145 * gU) = 729 * 2 ^ 141 * gU * (2 ^ 149 * gU) := by
    rw [Nat.mul_mul_mul_comm, Nat.mul_mul_mul_comm (729 * 2 ^ 141) gU]
  rw [e1] at hp
  refine ⟨u1.1, u3, ?_⟩
  change fv .f64 (real.bin .mul .f64 (sinZ m) (sinZ m)) ≤ _
  generalize fv .f64 (real.bin .mul .f64 (sinZ m) (sinZ m)) = z at *
  have e2 : (z * ((2 ^ 149 * gU : Nat) : Int)).natAbs ≤ (729 * 2 ^ 141 * gU + 2 ^ 2 * 2 ^ 96 * gU) * (2 ^ 149 * gU) := by rw [Nat.add_mul]; omega
  rw [Int.natAbs_mul, Int.natAbs_natCast] at e2
  have := Nat.le_of_mul_le_mul_right e2 (by omega)
  omega

def sinY (m : Int) : Int := real.bin .mul .f64 (sinZ m) (sinL m).2
theorem sinL_01 {m : Int} (h : Small m) : P01 (sinL m).2 :=
  (loop_nr (sinU_facts h) (sinU_facts h) (Nat.le_trans (Nat.le_of_eq (by rw [Int.sub_self]; rfl)) (Nat.zero_le _)) 8 9 _ _ (by omega) (by omega) p01_one p01_one ((Nr.refl _ _).mono (Nat.zero_le _))).1

theorem sinY_facts {m : Int} (h : Small m) : Bd .f64 (2 ^ 1 * 2 ^ 149 * gU) (sinY m) ∧ fv .f64 (sinY m) ≤ (28 * 2 ^ 145 * gU : Nat) ∧ 0 ≤ fv .f64 (sinY m) := by
  obtain ⟨z1, z2⟩ := sinZ_facts h
  have hp := sinL_01 h
  obtain ⟨y1, y2⟩ := mul64 (j := 1) z1 hp.bd (by decide +kernel) (by omega)
  have y3 := mul_nonneg z1.1 hp.fin z2 hp.ge
  refine ⟨y1, ?_, y3⟩
  have hG := gU_pos
  have hq : (fv .f64 (sinZ m) * fv .f64 (sinL m).2).natAbs ≤ 27 * 2 ^ 145 * gU * ((2 ^ 149 + 2 ^ 110) * gU) := by rw [Int.natAbs_mul]; exact Nat.mul_le_mul z1.2 hp.bd.2
  have e1 : 27 * 2 ^ 145 * gU * ((2 ^ 149 + 2 ^ 110) * gU) = 27 * (2 ^ 145 + 2 ^ 106) * gU * (2 ^ 149 * gU) := by
    rw [Nat.mul_mul_mul_comm, Nat.mul_mul_mul_comm (27 * (2 ^ 145 + 2 ^ 106)) gU]
  rw [e1] at hq
  unfold sinY at *
  generalize fv .f64 (real.bin .mul .f64 (sinZ m) (sinL m).2) = z at *
  have e2 : (z * ((2 ^ 149 * gU : Nat) : Int)).natAbs ≤ (27 * (2 ^ 145 + 2 ^ 106) * gU + 2 ^ 1 * 2 ^ 96 * gU) * (2 ^ 149 * gU) := by rw [Nat.add_mul]; omega
  rw [Int.natAbs_mul, Int.natAbs_natCast] at e2
  have := Nat.le_of_mul_le_mul_right e2 (by omega)
  omega

theorem sinY_nr {m m' : Int} (h : Small m) (h' : Small m') (hn : Nr .f64 (2 ^ 136 * gU) m m') : Nr .f64 (70 * 2 ^ 135 * gU) (sinY m) (sinY m') := by
  obtain ⟨t1, t2⟩ := tau_g
  have hz := mul_nr64 (j := 1) (t := 13 * 2 ^ 135) (f := 0) (small_bd h) t1 (small_bd h') t1 (by decide +kernel) (by omega) hn (by rw [Nat.zero_mul]; exact Nr.refl _ _) (by decide +kernel)
  have hz' : Nr .f64 (14 * 2 ^ 135 * gU) (sinZ m) (sinZ m') := hz.mono (by omega)
  obtain ⟨z1, z2⟩ := sinZ_facts h
  obtain ⟨z3, z4⟩ := sinZ_facts h'
  have hu := mul_nr64 (j := 2) (t := 189 * 2 ^ 133) z1 z1 z3 z3 (by decide +kernel) (by omega) hz' hz' (by decide +kernel)
  have hu' : Nr .f64 (190 * 2 ^ 133 * gU) (sinU m) (sinU m') := hu.mono (by omega)
  obtain ⟨l1, l2, l3⟩ := loop_nr (sinU_facts h) (sinU_facts h') hu' 8 9 _ _ (by omega) (by omega) p01_one p01_one ((Nr.refl _ _).mono (Nat.zero_le _))
  have hy := mul_nr64 (j := 1) (t := 69 * 2 ^ 135) z1 l1.bd z3 l2.bd (by decide +kernel) (by omega) hz' l3 (by decide +kernel)
  exact hy.mono (by omega)

theorem sinY_small {m : Int} (h : Small m) (hm : fv .f64 m ≤ (2 ^ 136 * gU : Nat)) : fv .f64 (sinY m) ≤ (35 * 2 ^ 135 * gU : Nat) := by
  obtain ⟨t1, t2⟩ := tau_g
  have hmb : Bd .f64 (2 ^ 136 * gU) m := ⟨h.fin, by have := h.ge; omega⟩
  have hG := gU_pos
  obtain ⟨z1, z2⟩ := mul64 (j := 0) hmb t1 (by decide +kernel) (by omega)
  have hp : (fv .f64 m * fv .f64 4618760256179416344).natAbs ≤ 2 ^ 136 * gU * (13 * 2 ^ 148 * gU) := by rw [Int.natAbs_mul]; exact Nat.mul_le_mul hmb.2 t1.2
  have e1 : 2 ^ 136 * gU * (13 * 2 ^ 148 * gU) = 13 * 2 ^ 135 * gU * (2 ^ 149 * gU) := by
    rw [Nat.mul_mul_mul_comm, Nat.mul_mul_mul_comm (13 * 2 ^ 135) gU]
  rw [e1] at hp
  have zb : Bd .f64 (14 * 2 ^ 135 * gU) (sinZ m) := by
    refine ⟨z1.1, ?_⟩
    unfold sinZ at *
    generalize fv .f64 (real.bin .mul .f64 m 4618760256179416344) = z at *
    have e2 : (z * ((2 ^ 149 * gU : Nat) : Int)).natAbs ≤ (13 * 2 ^ 135 * gU + 2 ^ 0 * 2 ^ 96 * gU) * (2 ^ 149 * gU) := by rw [Nat.add_mul]; omega
    rw [Int.natAbs_mul, Int.natAbs_natCast] at e2
    have := Nat.le_of_mul_le_mul_right e2 (by omega)
    omega
  have hl := sinL_01 h
  obtain ⟨y1, y2⟩ := mul64 (j := 0) zb hl.bd (by decide +kernel) (by omega)
  have hq : (fv .f64 (sinZ m) * fv .f64 (sinL m).2).natAbs ≤ 14 * 2 ^ 135 * gU * ((2 ^ 149 + 2 ^ 110) * gU) := by rw [Int.natAbs_mul]; exact Nat.mul_le_mul zb.2 hl.bd.2
  have e3 : 14 * 2 ^ 135 * gU * ((2 ^ 149 + 2 ^ 110) * gU) = 14 * (2 ^ 135 + 2 ^ 96) * gU * (2 ^ 149 * gU) := by
    rw [Nat.mul_mul_mul_comm, Nat.mul_mul_mul_comm (14 * (2 ^ 135 + 2 ^ 96)) gU]
  rw [e3] at hq
  unfold sinY at *
  generalize fv .f64 (real.bin .mul .f64 (sinZ m) (sinL m).2) = z at *
  have e2 : (z * ((2 ^ 149 * gU : Nat) : Int)).natAbs ≤ (14 * (2 ^ 135 + 2 ^ 96) * gU + 2 ^ 0 * 2 ^ 96 * gU) * (2 ^ 149 * gU) := by rw [Nat.add_mul]; omega
  rw [Int.natAbs_mul, Int.natAbs_natCast] at e2
  have := Nat.le_of_mul_le_mul_right e2 (by omega)
  omega
end Go.Fx
