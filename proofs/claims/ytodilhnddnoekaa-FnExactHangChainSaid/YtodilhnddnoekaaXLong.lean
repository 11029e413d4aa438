import Derived.Test.YtodilhnddnoekaaXRoot2
/- Lengths: squares, their sums and roots of these are numbers. -/
namespace Go.Fx
open Ieee

def Nn (k : FloatKind) (x : Int) : Prop := Num k x ∧ 0 ≤ fv k x

theorem Num.notfin_rg {k : FloatKind} {x : Int} (h : Num k x) (hf : ¬ Fin k x) : rg k x = k.format.infRung := by
  rcases Nat.lt_or_ge (rg k x) k.format.infRung with h1 | h1
  · exact absurd ⟨h.nonneg, h.word, h1⟩ hf
  · exact Nat.le_antisymm h.num h1

theorem inf32_num : Num .f32 2139095040 := ⟨by decide, by decide +kernel, by decide +kernel⟩
theorem inf32_nn : Nn .f32 2139095040 := ⟨inf32_num, by decide +kernel⟩

theorem Nn.notfin {x : Int} (h : Nn .f32 x) (hf : ¬ Fin .f32 x) : x = 2139095040 := by
  have he := h.1.notfin_rg hf
  have h0 := h.2
  rw [h.1.eq_word, he]
  cases hg : ng .f32 x with
  | false => decide +kernel
  | true =>
    unfold fv at h0
    rw [hg, he] at h0
    revert h0
    decide +kernel

theorem sub_num {x y : Int} (hx : Fin .f32 x) (hy : Fin .f32 y) : Num .f32 (real.bin .sub .f32 x y) := (sub_rounds hx hy).num

theorem nn_sq {x : Int} (h : Num .f32 x) : Nn .f32 (real.bin .mul .f32 x x) := by
  by_cases hf : Fin .f32 x
  · have hr := mul_rounds hf hf
    refine ⟨hr.num, ?_⟩
    obtain ⟨z, hz, he⟩ := has_zero .f32
    have := hr.ge z hz.toNum (by rw [he, Int.zero_mul]; rcases Int.le_total 0 (fv .f32 x) with h1 | h1; exact Int.mul_nonneg h1 h1; exact Int.mul_nonneg_of_nonpos_of_nonpos h1 h1)
    rw [he] at this
    exact this
  · have he := h.notfin_rg hf
    have : real.bin .mul .f32 x x = 2139095040 := by
      have hr := read_inf he (binade_le_inf _)
      show rBin .mul .f32 x x = _
      unfold rBin floatBits Format.mul
      simp only [hr]
      cases ng .f32 x
      · show ((FloatKind.f32.format.write (.infinity false) : Nat) : Int) = 2139095040
        decide +kernel
      · show ((FloatKind.f32.format.write (.infinity false) : Nat) : Int) = 2139095040
        decide +kernel
    rw [this]
    exact inf32_nn

theorem nn_add {x y : Int} (hx : Nn .f32 x) (hy : Nn .f32 y) : Nn .f32 (real.bin .add .f32 x y) := by
  by_cases hfx : Fin .f32 x
  · by_cases hfy : Fin .f32 y
    · have hr := add_rounds hfx hfy
      refine ⟨hr.num, ?_⟩
      obtain ⟨z, hz, he⟩ := has_zero .f32
      have h1 := hx.2
      have h2 := hy.2
      have := hr.ge z hz.toNum (by rw [he]; omega)
      rw [he] at this
      exact this
    · have := hy.notfin hfy
      subst this
      have : real.bin .add .f32 x 2139095040 = 2139095040 := by
        obtain ⟨m, e, hr, _⟩ := fv_read hfx
        have hi : FloatKind.f32.format.read (2139095040 : Int).toNat = .infinity false := read_inf (x := 2139095040) (by decide +kernel) (binade_le_inf _)
        show rBin .add .f32 x 2139095040 = _
        unfold rBin floatBits Format.add
        simp only [hr, hi]
        have e : (Datum.number (ng .f32 x) m e).sum (.infinity false) = some (.infinity false) := rfl
        rw [e]
        decide +kernel
      rw [this]
      exact inf32_nn
  · have := hx.notfin hfx
    subst this
    have hi : FloatKind.f32.format.read (2139095040 : Int).toNat = .infinity false := read_inf (x := 2139095040) (by decide +kernel) (binade_le_inf _)
    by_cases hfy : Fin .f32 y
    · have : real.bin .add .f32 2139095040 y = 2139095040 := by
        obtain ⟨m, e, hr, _⟩ := fv_read hfy
        show rBin .add .f32 2139095040 y = _
        unfold rBin floatBits Format.add
        simp only [hr, hi]
        have e : (Datum.infinity false).sum (Datum.number (ng .f32 y) m e) = some (.infinity false) := rfl
        rw [e]
        decide +kernel
      rw [this]
      exact inf32_nn
    · have := hy.notfin hfy
      subst this
      have : real.bin .add .f32 2139095040 2139095040 = 2139095040 := by decide +kernel
      rw [this]
      exact inf32_nn

theorem nn_root {x : Int} (h : Nn .f32 x) : Num .f32 (real.conv .f64 .f32 (real.sqrt (real.conv .f32 .f64 x))) := by
  by_cases hf : Fin .f32 x
  · obtain ⟨u1, u2⟩ := conv_up hf
    have hp : 0 ≤ fv .f64 (real.conv .f32 .f64 x) := by
      rw [u2]; exact Int.mul_nonneg h.2 (Int.natCast_nonneg _)
    have h1 : Le .f64 (2 * 64) (real.conv .f32 .f64 x) := Le.up (Le.ofFin32 hf)
    exact (Le.down (sqrt_le h1 hp (by omega)) (by omega)).1.fin.toNum
  · have := h.notfin hf
    subst this
    have : real.conv .f64 .f32 (real.sqrt (real.conv .f32 .f64 2139095040)) = 2139095040 := by decide +kernel
    rw [this]
    exact inf32_num
end Go.Fx
