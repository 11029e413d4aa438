import Derived.Test.YtmcfcijddhgphaaXr4b2
import Derived.KernelRfl
namespace Go.Fx
open Go.Proofs
set_option maxRecDepth 100000
def Pure.math_IsInf (F : FOps) (x0 : Int) (x1 : Int) : Bool := bif x1 == 0 then FOps.cmp F BinOp.gtr FloatKind.f64 (FOps.abs F FloatKind.f64 x0) 9218868437227405311 else bif Decidable.decide (x1 < 0) then FOps.cmp F BinOp.gtr FloatKind.f64 (FOps.neg F FloatKind.f64 x0) 9218868437227405311 else FOps.cmp F BinOp.gtr FloatKind.f64 x0 9218868437227405311
def c_math_IsInf (F : FOps) : Con
  | [V.at (A.fl FloatKind.f64 x0), V.at (A.int IntKind.i64 x1)], [] => some (true, ⟨V.at (A.bool (Pure.math_IsInf F x0 x1)), none, []⟩)
  | _, _ => none
theorem e_math_IsInf (F : FOps) (x0 : Int) (x1 : Int) : evFn (cxS F tyl [(127, c_math_Abs F)] [] [] 0) Try.f117 false [V.at (A.fl FloatKind.f64 x0), V.at (A.int IntKind.i64 x1)] [] = some ⟨V.at (A.bool (Pure.math_IsInf F x0 x1)), none, []⟩ := by
  have h0 : evFn (cxS F tyl [(127, c_math_Abs F)] [] [] 0) Try.f117 false [V.at (A.fl FloatKind.f64 x0), V.at (A.int IntKind.i64 x1)] [] = bif x1 == 0 then some ⟨V.at (A.bool (FOps.cmp F BinOp.gtr FloatKind.f64 (FOps.abs F FloatKind.f64 x0) 9218868437227405311)), none, []⟩ else bif Decidable.decide (x1 < 0) then some ⟨V.at (A.bool (FOps.cmp F BinOp.gtr FloatKind.f64 (FOps.neg F FloatKind.f64 x0) 9218868437227405311)), none, []⟩ else some ⟨V.at (A.bool (FOps.cmp F BinOp.gtr FloatKind.f64 x0 9218868437227405311)), none, []⟩ := by kernel_rfl
  rw [h0]
  unfold Pure.math_IsInf
  cases (x1 == 0) with
  | true =>
    rfl
  | false =>
    cases (Decidable.decide (x1 < 0)) with
    | true =>
      rfl
    | false =>
      rfl
theorem ok_math_IsInf : CallOK Try.prog 117 (c_math_IsInf real) := by
  refine callOK_of fun args h ret hc => ?_
  unfold c_math_IsInf at hc
  split at hc
  · rename_i x0 x1
    obtain ⟨_, rfl⟩ := some_ret hc
    exact holds_ev prog_ok (allOK_cons ok_math_Abs allOK_nil) Try.func117 rfl rfl smL_nil rfl (e_math_IsInf real x0 x1)
  · cases hc
end Go.Fx
