import Derived.Test.YtodilhnddnoekaaF3
/- The sine of some turns. -/
namespace Go.Fx
open Ieee

structure Small (m : Int) : Prop where
  fin : Fin .f64 m
  ge : 0 ≤ fv .f64 m
  le : 4 * fv .f64 m ≤ unit .f64

end Go.Fx
