import Derived.Test.YtodilhnddnoekaaXSin
/- Turns and kicks wrapped. -/
namespace Go.Fx
open Ieee

theorem between {k : FloatKind} {x a b : Int} (hx : Num k x) (ha : Fin k a) (hb : Fin k b) (h1 : fv k a ≤ fv k x) (h2 : fv k x ≤ fv k b) : Fin k x := by
  have g1 := ha.toNum.fin_iff.1 ha
  have g2 := hb.toNum.fin_iff.1 hb
  exact hx.fin_iff.2 ⟨by omega, by omega⟩

structure Turn (t : Int) : Prop where
  fin : Fin .f32 t
  ge : 0 ≤ fv .f32 t
  lt : fv .f32 t < unit .f32

theorem Turn.le {t : Int} (h : Turn t) : Le .f32 0 t := ⟨h.fin, by have := h.ge; have := h.lt; rw [Nat.pow_zero, Nat.one_mul]; omega⟩

end Go.Fx
