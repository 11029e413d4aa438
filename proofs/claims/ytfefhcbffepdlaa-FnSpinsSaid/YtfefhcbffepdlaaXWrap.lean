import Derived.Test.YtfefhcbffepdlaaXSin
/- Turns and kicks wrapped. -/
namespace Go.Fx
open Ieee

theorem Fin.okF {k : FloatKind} {x : Int} (h : Fin k x) : OkF k x := by
  have h := h.toNum
  refine ⟨x.toNat, ?_, ?_⟩
  · rw [cf_of_num h.notNaN]; have := h.nonneg; omega
  · have := h.word
    cases k
    · have h2 : FloatKind.f32.format.signWeight = 2147483648 := by decide
      simp [FloatKind.has]; omega
    · have h2 : FloatKind.f64.format.signWeight = 9223372036854775808 := by decide
      simp [FloatKind.has]; omega

theorem between {k : FloatKind} {x a b : Int} (hx : Num k x) (ha : Fin k a) (hb : Fin k b) (h1 : fv k a ≤ fv k x) (h2 : fv k x ≤ fv k b) : Fin k x := by
  have g1 := ha.toNum.fin_iff.1 ha
  have g2 := hb.toNum.fin_iff.1 hb
  exact hx.fin_iff.2 ⟨by omega, by omega⟩

structure Turn (t : Int) : Prop where
  fin : Fin .f32 t
  ge : 0 ≤ fv .f32 t
  lt : fv .f32 t < unit .f32

theorem Turn.le {t : Int} (h : Turn t) : Le .f32 0 t := ⟨h.fin, by have := h.ge; have := h.lt; rw [Nat.pow_zero, Nat.one_mul]; omega⟩

theorem f32_one : Fin .f32 1065353216 ∧ fv .f32 1065353216 = unit .f32 := ⟨⟨by decide, by decide +kernel, by decide +kernel⟩, by decide +kernel⟩
theorem f32_zero : Fin .f32 0 ∧ fv .f32 0 = 0 := fin_zero .f32
end Go.Fx
