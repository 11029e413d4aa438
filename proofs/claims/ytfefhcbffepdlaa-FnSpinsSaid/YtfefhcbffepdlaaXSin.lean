import Derived.Test.YtfefhcbffepdlaaF3
/- The sine of some turns. -/
namespace Go.Fx
open Ieee

structure Small (m : Int) : Prop where
  fin : Fin .f64 m
  ge : 0 ≤ fv .f64 m
  le : 4 * fv .f64 m ≤ unit .f64

theorem fin_zero (k : FloatKind) : Fin k 0 ∧ fv k 0 = 0 := by cases k <;> exact ⟨⟨by decide, by decide +kernel, by decide +kernel⟩, by decide +kernel⟩

theorem sub_zero {y : Int} (hy : Fin .f64 y) : real.bin .sub .f64 y 0 = y := by
  obtain ⟨z1, z2⟩ := fin_zero .f64
  obtain ⟨h1, h2⟩ := (sub_rounds hy z1).exact ⟨y, hy, rfl⟩ (by rw [z2]; omega)
  by_cases h0 : fv .f64 y = 0
  · have hr := fv_zero_iff.1 h0
    rcases hg : ng .f64 y with _ | _
    · have : y = 0 := by
        rw [hy.toNum.eq_word, hg, hr]; decide +kernel
      subst this; decide +kernel
    · have : y = 9223372036854775808 := by
        rw [hy.toNum.eq_word, hg, hr]; decide +kernel
      subst this; decide +kernel
  · exact h1.toNum.fv_inj hy.toNum h2 (by rw [h2]; exact h0)

end Go.Fx
