import Derived.Test.YtmcfcijddhgphaaXWrap
import Derived.Test.YtmcfcijddhgphaaF3
/- Halving and doubling of double numbers, and whole numbers counted as such. -/
namespace Go.Fx
open Ieee

theorem half_quo64 (x : Int) : real.bin .quo .f64 x 4611686018427387904 = real.bin .mul .f64 4602678819172646912 x := by
  show rBin .quo .f64 x 4611686018427387904 = rBin .mul .f64 4602678819172646912 x
  unfold rBin floatBits Format.div Format.mul
  have r2 : FloatKind.f64.format.read (4611686018427387904 : Int).toNat = .number false 4503599627370496 (-51) := by decide +kernel
  have rh : FloatKind.f64.format.read (4602678819172646912 : Int).toNat = .number false 4503599627370496 (-53) := by decide +kernel
  simp only [r2, rh]
  cases hr : FloatKind.f64.format.read x.toNat with
  | nan s t => rfl
  | infinity s => cases s <;> rfl
  | number s m i =>
    have hm := read_bound hr
    have hb : FloatKind.f64.format.binade = 4503599627370496 := by decide +kernel
    have hf : FloatKind.f64.format.fractionBits = 52 := by decide
    rw [hb] at hm
    simp only [Datum.quotient, Datum.product, Option.map_some, Option.getD_some, Format.write, hf]
    have hn : (4503599627370496 : Nat).log2 = 52 := by decide +kernel
    rw [if_neg (by decide), hn]
    simp only [Option.map_some, Option.getD_some]
    have hl : m.log2 ≤ 53 := by
      rcases Nat.eq_zero_or_pos m with h0 | h0
      · subst h0; decide
      · have := Nat.log2_self_le (show m ≠ 0 by omega)
        rcases Nat.lt_or_ge 53 m.log2 with h1 | h1
        · have : 2 ^ 54 ≤ 2 ^ m.log2 := Nat.pow_le_pow_right (by omega) h1
          omega
        · exact h1
    have e1 : m <<< (52 + 2 + 52 - m.log2) = m * 2 ^ (54 - m.log2) * 4503599627370496 := by
      rw [Nat.shiftLeft_eq, show 52 + 2 + 52 - m.log2 = (54 - m.log2) + 52 by omega, Nat.pow_add, Nat.mul_assoc]
    rw [e1, Nat.mul_div_cancel _ (by decide), Nat.mul_mod_left]
    have e2 : 2 * (m * 2 ^ (54 - m.log2)) + ((0 : Nat) != 0).toNat = m * 2 ^ (55 - m.log2) := by
      rw [show 55 - m.log2 = (54 - m.log2) + 1 by omega, Nat.pow_succ]
      simp; rw [Nat.mul_comm, Nat.mul_assoc]
    rw [e2]
    have e3 : (i - -51 - ((52 + 2 + 52 - m.log2 : Nat) : Int) - 1) = (i - 1) - ((55 - m.log2 : Nat) : Int) := by omega
    rw [e3]
    simp only [Format.write]
    rw [nearest_shift]
    have e4 : (4503599627370496 * m : Nat) = m * 2 ^ 52 := by rw [Nat.mul_comm]
    have e5 : (-53 + i : Int) = (i - 1) - ((52 : Nat) : Int) := by omega
    rw [e4, e5, nearest_shift]
    cases s <;> rfl

theorem k_two : Fin .f64 4611686018427387904 ∧ fv .f64 4611686018427387904 = 2 * (unit .f64 : Int) := ⟨⟨by decide, by decide +kernel, by decide +kernel⟩, by decide +kernel⟩
theorem k_three4 : Fin .f64 4604930618986332160 ∧ 4 * fv .f64 4604930618986332160 = 3 * (unit .f64 : Int) := ⟨⟨by decide, by decide +kernel, by decide +kernel⟩, by decide +kernel⟩
theorem k_three2 : Fin .f64 4609434218613702656 ∧ 2 * fv .f64 4609434218613702656 = 3 * (unit .f64 : Int) := ⟨⟨by decide, by decide +kernel, by decide +kernel⟩, by decide +kernel⟩
theorem k_one64 : Fin .f64 4607182418800017408 ∧ fv .f64 4607182418800017408 = (unit .f64 : Int) := ⟨⟨by decide, by decide +kernel, by decide +kernel⟩, by decide +kernel⟩

theorem has_double {k : FloatKind} {y : Int} (h : Fin k y) (hb : 2 * (fv k y).natAbs < big k) : Has k (2 * fv k y) := by
  obtain ⟨m, e, _, _, h3, h4, _⟩ := fv_parts h
  rw [h3, sg_abs] at hb
  have hd := Has.digits (k := k) (ng k y) (m := m) (d := (e - k.format.leastPlace).toNat + 1) (by omega) (by rw [Nat.pow_succ, ← Nat.mul_assoc]; omega)
  have e1 : m * 2 ^ ((e - k.format.leastPlace).toNat + 1) = m * 2 ^ (e - k.format.leastPlace).toNat * 2 := by rw [Nat.pow_succ, Nat.mul_assoc]
  rw [e1, sg_mul] at hd
  rw [h3, Int.mul_comm]
  exact hd

theorem dbl {y : Int} (h : Fin .f64 y) (h0 : 0 ≤ fv .f64 y) (hb : fv .f64 y ≤ unit .f64) : Fin .f64 (real.bin .mul .f64 y 4611686018427387904) ∧ fv .f64 (real.bin .mul .f64 y 4611686018427387904) = 2 * fv .f64 y := by
  have hr := mul_rounds h k_two.1
  rw [k_two.2] at hr
  have hu := (bounds_ok .f64).2
  have hbin := binade_pos FloatKind.f64.format
  have hlt : 2 * (fv .f64 y).natAbs < big .f64 := by
    have h1 : 2 * unit .f64 ≤ 2 * FloatKind.f64.format.binade * unit .f64 := by
      rw [Nat.mul_assoc]
      exact Nat.mul_le_mul_left 2 (Nat.le_mul_of_pos_left _ hbin)
    omega
  exact hr.exact (has_double h hlt) (by rw [← Int.mul_assoc, Int.mul_comm (fv .f64 y) 2])

theorem hlv {y : Int} {e : Nat} (h : Fin .f64 y) (h0 : 3 * (unit .f64 : Int) ≤ 2 * fv .f64 y) (hb : fv .f64 y ≤ ((2 ^ (e + 1) * unit .f64 : Nat) : Int)) (he : e ≤ 1000) :
    Fin .f64 (real.bin .quo .f64 y 4611686018427387904) ∧ 3 * (unit .f64 : Int) ≤ 4 * fv .f64 (real.bin .quo .f64 y 4611686018427387904) ∧ fv .f64 (real.bin .quo .f64 y 4611686018427387904) ≤ ((2 ^ e * unit .f64 : Nat) : Int) := by
  rw [half_quo64]
  have hr := mul_rounds fin_half h
  have hh := fv_half
  have h34 := k_three4.2
  have hup := unit_pos .f64
  generalize hu : unit .f64 = u at *
  have hp : 2 * (fv .f64 4602678819172646912 * fv .f64 y) = u * fv .f64 y := by rw [← Int.mul_assoc, hh]
  have ht := has_two (k := .f64) (e := e) he
  rw [hu] at ht
  have hpe : ((2 ^ (e + 1) * u : Nat) : Int) = 2 * ((2 ^ e * u : Nat) : Int) := by rw [Nat.pow_succ, Nat.mul_comm (2 ^ e) 2, Nat.mul_assoc]; push_cast; rfl
  rw [hpe] at hb
  generalize ((2 ^ e * u : Nat) : Int) = B at *
  generalize fv .f64 y = v at *
  generalize fv .f64 4602678819172646912 * v = s at *
  have hm1 : (u : Int) * (3 * u) ≤ u * (2 * v) := Int.mul_le_mul_of_nonneg_left h0 (by omega)
  have hm2 : (u : Int) * v ≤ u * (2 * B) := Int.mul_le_mul_of_nonneg_left hb (by omega)
  have a1 : fv .f64 4604930618986332160 * (u : Int) ≤ s := by
    have : 4 * (fv .f64 4604930618986332160 * (u : Int)) = 3 * (u : Int) * u := by rw [← Int.mul_assoc, h34]
    have e2 : (u : Int) * (3 * u) = 3 * (u : Int) * u := Int.mul_comm _ _
    have e3 : (u : Int) * (2 * v) = 2 * (u * v) := Int.mul_left_comm _ _ _
    omega
  have a2 : s ≤ B * u := by
    have e3 : (u : Int) * (2 * B) = 2 * (u * B) := Int.mul_left_comm _ _ _
    have e4 : B * (u : Int) = u * B := Int.mul_comm _ _
    omega
  obtain ⟨w1, w2, w3⟩ := hr.within ⟨_, k_three4.1, rfl⟩ ht a1 a2
  exact ⟨w1, by omega, w3⟩

theorem cnt_fin {i : Int} (h : i.natAbs ≤ 2000) : Fin .f64 (real.ofInt .f64 i) ∧ fv .f64 (real.ofInt .f64 i) = i * unit .f64 := by
  have hb : FloatKind.f64.format.binade = 4503599627370496 := by decide +kernel
  exact ofInt_fv (by rw [hb]; omega)

theorem has_cnt {i : Int} (h : i.natAbs ≤ 2000) : Has .f64 (i * unit .f64) := ⟨_, (cnt_fin h).1, (cnt_fin h).2⟩

theorem cnt_down {i : Int} (h1 : -1000 ≤ i) (h2 : i ≤ 0) : real.bin .sub .f64 (real.ofInt .f64 i) 4607182418800017408 = real.ofInt .f64 (i - 1) := by
  obtain ⟨a1, a2⟩ := cnt_fin (i := i) (by omega)
  obtain ⟨b1, b2⟩ := cnt_fin (i := i - 1) (by omega)
  have hr := sub_rounds a1 k_one64.1
  rw [a2, k_one64.2] at hr
  have hup := unit_pos .f64
  obtain ⟨c1, c2⟩ := hr.exact (has_cnt (i := i - 1) (by omega)) (by rw [Int.sub_mul]; omega)
  refine c1.toNum.fv_inj b1.toNum (by rw [c2, b2]) ?_
  rw [c2]
  have : i - 1 ≠ 0 := by omega
  exact Int.mul_ne_zero this (by omega)

theorem cnt_up {i : Int} (h1 : 0 ≤ i) (h2 : i ≤ 1000) : real.bin .add .f64 (real.ofInt .f64 i) 4607182418800017408 = real.ofInt .f64 (i + 1) := by
  obtain ⟨a1, a2⟩ := cnt_fin (i := i) (by omega)
  obtain ⟨b1, b2⟩ := cnt_fin (i := i + 1) (by omega)
  have hr := add_rounds a1 k_one64.1
  rw [a2, k_one64.2] at hr
  have hup := unit_pos .f64
  obtain ⟨c1, c2⟩ := hr.exact (has_cnt (i := i + 1) (by omega)) (by rw [Int.add_mul]; omega)
  refine c1.toNum.fv_inj b1.toNum (by rw [c2, b2]) ?_
  rw [c2]
  have : i + 1 ≠ 0 := by omega
  exact Int.mul_ne_zero this (by omega)

theorem cnt_zero : real.ofInt .f64 0 = 0 := by decide +kernel
end Go.Fx
