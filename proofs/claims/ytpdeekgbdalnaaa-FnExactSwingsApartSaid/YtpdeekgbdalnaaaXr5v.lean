import Derived.Test.YtpdeekgbdalnaaaXr5c
import Derived.Test.YtpdeekgbdalnaaaXr5u
import Derived.Test.YtpdeekgbdalnaaaXFin
namespace Go.Fx

theorem isFinite_false {x : Int} (h : OkF .f32 x) (hf : ¬ Fin .f32 x) : Pure.impl_IsFinite real x = false := by
  cases hh : Pure.impl_IsFinite real x with
  | false => rfl
  | true => exact absurd (fin_of h hh) hf

end Go.Fx
