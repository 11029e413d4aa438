/- Half of a number: taken by a division or by a product. -/
import Derived.Test.YtpgpjkkncghbhaaF3
namespace Go.Fx
open Ieee

theorem cut_shift (x d a : Nat) : Toward.even.cut false (x * 2 ^ a) (d + a) = Toward.even.cut false x d := by
  rw [cut_eq, cut_eq, Nat.pow_add, Nat.mul_div_mul_right _ _ (Nat.two_pow_pos a), Nat.mul_mod_mul_right]
  have ha : 0 < 2 ^ a := Nat.two_pow_pos a
  have h1 : decide (2 ^ d * 2 ^ a < 2 * (x % 2 ^ d * 2 ^ a)) = decide (2 ^ d < 2 * (x % 2 ^ d)) := by
    congr 1
    rw [← Nat.mul_assoc]
    exact propext (Nat.mul_lt_mul_right ha)
  have h2 : (2 ^ d * 2 ^ a == 2 * (x % 2 ^ d * 2 ^ a)) = (2 ^ d == 2 * (x % 2 ^ d)) := by
    rw [← Nat.mul_assoc, Bool.eq_iff_iff, beq_iff_eq, beq_iff_eq]
    exact ⟨fun h => Nat.eq_of_mul_eq_mul_right ha h, fun h => congrArg (· * 2 ^ a) h⟩
  rw [h1, h2]

theorem log2_shift {m : Nat} (h : m ≠ 0) (a : Nat) : (m * 2 ^ a).log2 = m.log2 + a := by
  have ha : 0 < 2 ^ a := Nat.two_pow_pos a
  have h0 : m * 2 ^ a ≠ 0 := Nat.mul_ne_zero h (by omega)
  rw [Nat.log2_eq_iff h0]
  constructor
  · rw [Nat.pow_add]; exact Nat.mul_le_mul_right _ (Nat.log2_self_le h)
  · rw [show m.log2 + a + 1 = (m.log2 + 1) + a by omega, Nat.pow_add]
    exact (Nat.mul_lt_mul_right ha).2 Nat.lt_log2_self

theorem rung0_shift (f : Format) {m : Nat} (h : m ≠ 0) (p : Int) (a : Nat) : rung0 f (m * 2 ^ a) (p - a) = rung0 f m p := by
  unfold rung0
  have el : max (p - (a : Int) + ((m * 2 ^ a).log2 : Nat) - f.fractionBits) f.leastPlace = max (p + (m.log2 : Nat) - f.fractionBits) f.leastPlace := by
    rw [log2_shift h]; congr 1; push_cast; omega
  simp only [el]
  generalize max (p + (m.log2 : Nat) - (f.fractionBits : Int)) f.leastPlace = last
  congr 1
  simp only [Nat.shiftLeft_eq]
  rcases Int.le_total (last + a) p with h1 | h1
  · rw [show (last - (p - a)).toNat = 0 by omega, show (last - p).toNat = 0 by omega, show (p - last).toNat = a + (p - a - last).toNat by omega, Nat.pow_add, Nat.mul_assoc]
  · rcases Int.le_total last p with h2 | h2
    · rw [show (p - a - last).toNat = 0 by omega, Nat.pow_zero, Nat.mul_one, show (last - p).toNat = 0 by omega]
      have e : m * 2 ^ a = (m * 2 ^ (p - last).toNat) * 2 ^ (last - (p - a)).toNat := by
        rw [Nat.mul_assoc, ← Nat.pow_add]; congr 2; omega
      rw [e]
      have := cut_shift (m * 2 ^ (p - last).toNat) 0 (last - (p - a)).toNat
      rw [Nat.zero_add] at this
      exact this
    · rw [show (p - a - last).toNat = 0 by omega, show (p - last).toNat = 0 by omega, Nat.pow_zero, Nat.mul_one, Nat.mul_one, show (last - (p - a)).toNat = (last - p).toNat + a by omega]
      exact cut_shift _ _ _

theorem nearest_shift (f : Format) (neg : Bool) (m : Nat) (p : Int) (a : Nat) : f.nearest neg (m * 2 ^ a) (p - a) = f.nearest neg m p := by
  rw [nearest_rung, nearest_rung]
  congr 1
  unfold rung
  by_cases h : m = 0
  · subst h; simp
  · rw [if_neg h, if_neg (Nat.mul_ne_zero h (by have := Nat.two_pow_pos a; omega)), rung0_shift f h]

theorem read_bound {f : Format} {w : Nat} {s : Bool} {m : Nat} {e : Int} (h : f.read w = .number s m e) : m < 2 * f.binade := by
  have hb := binade_pos f
  unfold Format.read at h
  simp only at h
  split at h
  · cases h; omega
  · split at h
    · cases h
      have := Nat.mod_lt (w % f.signWeight) hb
      omega
    · split at h <;> cases h

theorem half_quo (x : Int) : real.bin .quo .f32 x 1073741824 = real.bin .mul .f32 1056964608 x := by
  show rBin .quo .f32 x 1073741824 = rBin .mul .f32 1056964608 x
  unfold rBin floatBits Format.div Format.mul
  have r2 : FloatKind.f32.format.read (1073741824 : Int).toNat = .number false 8388608 (-22) := by decide +kernel
  have rh : FloatKind.f32.format.read (1056964608 : Int).toNat = .number false 8388608 (-24) := by decide +kernel
  simp only [r2, rh]
  cases hr : FloatKind.f32.format.read x.toNat with
  | nan s t => rfl
  | infinity s => cases s <;> rfl
  | number s m i =>
    have hm := read_bound hr
    have hb : FloatKind.f32.format.binade = 8388608 := by decide
    have hf : FloatKind.f32.format.fractionBits = 23 := by decide
    rw [hb] at hm
    simp only [Datum.quotient, Datum.product, Option.map_some, Option.getD_some, Format.write, hf]
    have hn : (8388608 : Nat).log2 = 23 := by decide
    rw [if_neg (by decide), hn]
    simp only [Option.map_some, Option.getD_some]
    have hl : m.log2 ≤ 24 := by
      rcases Nat.eq_zero_or_pos m with h0 | h0
      · subst h0; decide
      · have := Nat.log2_self_le (show m ≠ 0 by omega)
        rcases Nat.lt_or_ge 24 m.log2 with h1 | h1
        · have : 2 ^ 25 ≤ 2 ^ m.log2 := Nat.pow_le_pow_right (by omega) h1
          omega
        · exact h1
    have e1 : m <<< (23 + 2 + 23 - m.log2) = m * 2 ^ (25 - m.log2) * 8388608 := by
      rw [Nat.shiftLeft_eq, show 23 + 2 + 23 - m.log2 = (25 - m.log2) + 23 by omega, Nat.pow_add, Nat.mul_assoc]
    rw [e1, Nat.mul_div_cancel _ (by decide), Nat.mul_mod_left]
    have e2 : 2 * (m * 2 ^ (25 - m.log2)) + ((0 : Nat) != 0).toNat = m * 2 ^ (26 - m.log2) := by
      rw [show 26 - m.log2 = (25 - m.log2) + 1 by omega, Nat.pow_succ]
      simp; rw [Nat.mul_comm, Nat.mul_assoc]
    rw [e2]
    have e3 : (i - -22 - ((23 + 2 + 23 - m.log2 : Nat) : Int) - 1) = (i - 1) - ((26 - m.log2 : Nat) : Int) := by omega
    rw [e3]
    simp only [Format.write]
    rw [nearest_shift]
    have e4 : (8388608 * m : Nat) = m * 2 ^ 23 := by rw [Nat.mul_comm]
    have e5 : (-24 + i : Int) = (i - 1) - ((23 : Nat) : Int) := by omega
    rw [e4, e5, nearest_shift]
    cases s <;> rfl
end Go.Fx
