import Derived.Test.YtfefhcbffepdlaaXWrap
import Derived.Test.YtfefhcbffepdlaaXFin
/- Signs: to add what is taken minus once is to take away. -/
namespace Go.Fx
open Ieee

theorem read_opposite {k : FloatKind} {x y : Int} (h1 : rg k y = rg k x) (h2 : ng k y = !ng k x) : k.format.read y.toNat = (k.format.read x.toNat).opposite := by
  unfold rg at h1
  unfold ng at h2
  unfold Format.read
  simp only [h1, h2]
  split
  · rfl
  · split
    · rfl
    · split <;> rfl

theorem sub_neg {k : FloatKind} {x y : Int} (hy : Num k y) : real.bin .add k x (real.neg k y) = real.bin .sub k x y := by
  obtain ⟨_, _, h1, h2⟩ := neg_num hy
  show rBin .add k x (real.neg k y) = rBin .sub k x y
  unfold rBin floatBits Format.add Format.sub
  rw [read_opposite h1 h2]

theorem Num.okF' {k : FloatKind} {x : Int} (h : Num k x) : OkF k x := by
  refine ⟨x.toNat, ?_, ?_⟩
  · rw [cf_of_num h.notNaN]; have := h.nonneg; omega
  · have := h.word
    cases k
    · have h2 : FloatKind.f32.format.signWeight = 2147483648 := by decide
      simp [FloatKind.has]; omega
    · have h2 : FloatKind.f64.format.signWeight = 9223372036854775808 := by decide
      simp [FloatKind.has]; omega

theorem num_cases {k : FloatKind} {x : Int} (h : OkF k x) : x = (nanOf k : Nat) ∨ Fin k x ∨ ∃ s, x = (k.format.word s k.format.infRung : Nat) := by
  cases hn : isNaNb k x.toNat with
  | true => exact .inl (h.nan hn)
  | false =>
    have hd := okF_num h hn
    rcases Nat.lt_or_ge (rg k x) k.format.infRung with h1 | h1
    · exact .inr (.inl ⟨hd.nonneg, hd.word, h1⟩)
    · refine .inr (.inr ⟨ng k x, ?_⟩)
      have e := hd.eq_word
      rwa [Nat.le_antisymm hd.num h1] at e

theorem f32_mone : Fin .f32 3212836864 ∧ fv .f32 3212836864 = -(unit .f32 : Int) := ⟨⟨by decide, by decide +kernel, by decide +kernel⟩, by decide +kernel⟩

theorem zero_word {k : FloatKind} {d : Int} (h : Num k d) (h0 : fv k d = 0) : ∃ s, d = (k.format.word s 0 : Nat) := by
  have := h.eq_word
  rw [fv_zero_iff.1 h0] at this
  exact ⟨_, this⟩

theorem mone_mul {y : Int} (hy : Num .f32 y) : real.bin .mul .f32 3212836864 y = real.neg .f32 y := by
  rcases num_cases hy.okF' with h | h | ⟨s, h⟩
  · rw [h] at hy; exact absurd hy.notNaN (by decide +kernel)
  · have hr := mul_rounds f32_mone.1 h
    rw [f32_mone.2] at hr
    obtain ⟨n1, n2⟩ := neg_fin h
    obtain ⟨g1, g2⟩ := hr.exact (Has.neg ⟨y, h, rfl⟩) (by rw [Int.neg_mul, Int.neg_mul, Int.mul_comm])
    by_cases h0 : fv .f32 y = 0
    · obtain ⟨s, rfl⟩ := zero_word hy h0
      cases s <;> decide +kernel
    · exact g1.toNum.fv_inj n1.toNum (by rw [g2, n2]) (by rw [g2]; omega)
  · subst h; cases s <;> decide +kernel

theorem one_mul {y : Int} (hy : OkF .f32 y) : real.bin .mul .f32 1065353216 y = y := by
  rcases num_cases hy with h | h | ⟨s, h⟩
  · subst h; decide +kernel
  · exact one_mul32 h
  · subst h; cases s <;> decide +kernel

theorem add_mone (x : Int) {y : Int} (hy : OkF .f32 y) : real.bin .add .f32 x (real.bin .mul .f32 3212836864 y) = real.bin .sub .f32 x y := by
  cases hn : isNaNb .f32 y.toNat with
  | true =>
    have e := hy.nan hn
    have e2 : real.bin .mul .f32 3212836864 y = (nanOf .f32 : Nat) := bin_nan_right hn
    rw [e2, bin_nan_right (op := .sub) hn]
    exact bin_nan_right (by decide +kernel)
  | false =>
    have hd := okF_num hy hn
    rw [mone_mul hd, sub_neg hd]
theorem add_one (x : Int) {y : Int} (hy : OkF .f32 y) : real.bin .add .f32 x (real.bin .mul .f32 1065353216 y) = real.bin .add .f32 x y := by
  rw [one_mul hy]
end Go.Fx
