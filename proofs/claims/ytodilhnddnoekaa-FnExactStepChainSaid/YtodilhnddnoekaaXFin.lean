import Derived.Test.YtodilhnddnoekaaXWrap
/- What is finite came from finite numbers. -/
namespace Go.Fx
open Ieee

theorem notfin_nan (k : FloatKind) : ¬ Fin k (nanOf k : Nat) := by
  intro h
  have := h.toNum.notNaN
  rw [Int.toNat_natCast, isNaNb_nanOf] at this
  cases this

theorem notfin_inf (k : FloatKind) (s : Bool) : ¬ Fin k (k.format.write (.infinity s) : Nat) := by
  intro h
  have h1 : k.format.write (.infinity s) = k.format.word s k.format.infRung := rfl
  rw [h1] at h
  have := (word_rg (k := k) (b := s) (Nat.le_refl _)).1
  have := h.fin
  omega

/-- A number that isn't finite reads as no number. -/
theorem notfin_read {k : FloatKind} {x : Int} (hx : OkF k x) (h : ¬ Fin k x) : isNaNb k x.toNat = true ∨ ∃ s, k.format.read x.toNat = .infinity s := by
  cases hn : isNaNb k x.toNat with
  | true => exact .inl rfl
  | false =>
    right
    have hnum := okF_num hx hn
    have he : rg k x = k.format.infRung := by
      rcases Nat.lt_or_ge (rg k x) k.format.infRung with h1 | h1
      · exact absurd ⟨hnum.nonneg, hnum.word, h1⟩ h
      · exact Nat.le_antisymm hnum.num h1
    exact ⟨_, read_inf he (binade_le_inf k)⟩

theorem bin_nan_left {op : BinOp} {k : FloatKind} {x y : Int} (h : isNaNb k x.toNat = true) : real.bin op k x y = (nanOf k : Nat) := by
  show rBin op k x y = _
  unfold rBin; rw [floatBits_nan_left h]; rfl
theorem bin_nan_right {op : BinOp} {k : FloatKind} {x y : Int} (h : isNaNb k y.toNat = true) : real.bin op k x y = (nanOf k : Nat) := by
  show rBin op k x y = _
  unfold rBin; rw [floatBits_nan_right h]; rfl

theorem fin_add {k : FloatKind} {x y : Int} (hx : OkF k x) (hy : OkF k y) (h : Fin k (real.bin .add k x y)) : Fin k x ∧ Fin k y := by
  constructor
  · apply Classical.byContradiction; intro hf
    rcases notfin_read hx hf with hn | ⟨s, hr⟩
    · rw [bin_nan_left hn] at h; exact notfin_nan k h
    · revert h
      show ¬ Fin k (rBin .add k x y)
      unfold rBin floatBits Format.add
      simp only [hr]
      cases k.format.read y.toNat with
      | nan a b => exact notfin_nan k
      | infinity t => cases s <;> cases t <;> first | exact notfin_nan k | exact notfin_inf k _
      | number t m e => exact notfin_inf k _
  · apply Classical.byContradiction; intro hf
    rcases notfin_read hy hf with hn | ⟨s, hr⟩
    · rw [bin_nan_right hn] at h; exact notfin_nan k h
    · revert h
      show ¬ Fin k (rBin .add k x y)
      unfold rBin floatBits Format.add
      simp only [hr]
      cases k.format.read x.toNat with
      | nan a b => exact notfin_nan k
      | infinity t => cases s <;> cases t <;> first | exact notfin_nan k | exact notfin_inf k _
      | number t m e => exact notfin_inf k _

theorem fin_sub {k : FloatKind} {x y : Int} (hx : OkF k x) (hy : OkF k y) (h : Fin k (real.bin .sub k x y)) : Fin k x ∧ Fin k y := by
  constructor
  · apply Classical.byContradiction; intro hf
    rcases notfin_read hx hf with hn | ⟨s, hr⟩
    · rw [bin_nan_left hn] at h; exact notfin_nan k h
    · revert h
      show ¬ Fin k (rBin .sub k x y)
      unfold rBin floatBits Format.sub
      simp only [hr]
      cases k.format.read y.toNat with
      | nan a b => exact notfin_nan k
      | infinity t => cases s <;> cases t <;> first | exact notfin_nan k | exact notfin_inf k _
      | number t m e => exact notfin_inf k _
  · apply Classical.byContradiction; intro hf
    rcases notfin_read hy hf with hn | ⟨s, hr⟩
    · rw [bin_nan_right hn] at h; exact notfin_nan k h
    · revert h
      show ¬ Fin k (rBin .sub k x y)
      unfold rBin floatBits Format.sub
      simp only [hr]
      cases k.format.read x.toNat with
      | nan a b => exact notfin_nan k
      | infinity t => cases s <;> cases t <;> first | exact notfin_nan k | exact notfin_inf k _
      | number t m e => exact notfin_inf k _

theorem fin_mul {k : FloatKind} {x y : Int} (hx : OkF k x) (hy : OkF k y) (h : Fin k (real.bin .mul k x y)) : Fin k x ∧ Fin k y := by
  constructor
  · apply Classical.byContradiction; intro hf
    rcases notfin_read hx hf with hn | ⟨s, hr⟩
    · rw [bin_nan_left hn] at h; exact notfin_nan k h
    · revert h
      show ¬ Fin k (rBin .mul k x y)
      unfold rBin floatBits Format.mul
      simp only [hr]
      cases k.format.read y.toNat with
      | nan a b => exact notfin_nan k
      | infinity t => exact notfin_inf k _
      | number t m e =>
        by_cases h0 : m = 0
        · subst h0; exact notfin_nan k
        · simp only [Datum.product]; rw [if_neg h0]; exact notfin_inf k _
  · apply Classical.byContradiction; intro hf
    rcases notfin_read hy hf with hn | ⟨s, hr⟩
    · rw [bin_nan_right hn] at h; exact notfin_nan k h
    · revert h
      show ¬ Fin k (rBin .mul k x y)
      unfold rBin floatBits Format.mul
      simp only [hr]
      cases k.format.read x.toNat with
      | nan a b => exact notfin_nan k
      | infinity t => exact notfin_inf k _
      | number t m e =>
        by_cases h0 : m = 0
        · subst h0; exact notfin_nan k
        · simp only [Datum.product]; rw [if_neg h0]; exact notfin_inf k _
end Go.Fx
