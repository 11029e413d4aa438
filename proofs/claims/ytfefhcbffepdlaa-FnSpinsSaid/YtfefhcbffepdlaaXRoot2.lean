import Derived.Test.YtfefhcbffepdlaaXRoot
import Derived.Test.YtfefhcbffepdlaaXWrap
/- Square roots of single numbers: never too great. -/
namespace Go.Fx
open Ieee

theorem sqrt_neg {y : Int} (h : Fin .f64 y) (h0 : fv .f64 y < 0) : real.sqrt y = (nanOf .f64 : Nat) := by
  obtain ⟨m, i, hr, hi, hv⟩ := fv_read h
  have hm : m ≠ 0 := by
    intro hm
    subst hm
    rw [Nat.zero_mul] at hv
    cases hg : ng .f64 y <;> rw [hg] at hv <;> simp [sg] at hv <;> omega
  have hg : ng .f64 y = true := by
    cases hg : ng .f64 y with
    | true => rfl
    | false => rw [hg] at hv; simp only [sg, cond_false] at hv; omega
  rw [hg] at hr
  show rSqrt y = _
  unfold rSqrt Format.sqrt
  simp only [hr, Datum.root]
  rw [if_neg hm]
  rfl

theorem root_ok {x : Int} (h : OkF .f32 x) : real.convOk .f64 .f32 (real.sqrt (real.conv .f32 .f64 x)) = true := by
  by_cases hf : Fin .f32 x
  · obtain ⟨u1, u2⟩ := conv_up hf
    rcases Int.lt_or_le (fv .f64 (real.conv .f32 .f64 x)) 0 with hn | hp
    · rw [sqrt_neg u1 hn]; decide +kernel
    · have h1 : Le .f64 (2 * 64) (real.conv .f32 .f64 x) := Le.up (Le.ofFin32 hf)
      exact (Le.down (sqrt_le h1 hp (by omega)) (by omega)).2
  · cases hn : isNaNb .f32 x.toNat with
    | true =>
      have := h.nan hn
      subst this
      decide +kernel
    | false =>
      have hnum := okF_num h hn
      have he : rg .f32 x = FloatKind.f32.format.infRung := by
        rcases Nat.lt_or_ge (rg .f32 x) FloatKind.f32.format.infRung with h1 | h1
        · exact absurd ⟨hnum.nonneg, hnum.word, h1⟩ hf
        · exact Nat.le_antisymm hnum.num h1
      rw [hnum.eq_word, he]
      cases ng .f32 x <;> decide +kernel
end Go.Fx
