import Derived.Test.YtmcfcijddhgphaaXr4h
import Derived.KernelRfl
namespace Go.Fx
open Go.Proofs
set_option maxRecDepth 100000
def Pure.impl_apart (F : FOps) (x0 : Int) (x1 : Int) : Int := bif FOps.cmp F BinOp.gtr .f32 (FOps.bin F BinOp.sub .f32 (Pure.impl_WrapTurn F x1) (Pure.impl_WrapTurn F x0)) 1056964608 then FOps.bin F BinOp.sub .f32 (FOps.bin F BinOp.sub .f32 (Pure.impl_WrapTurn F x1) (Pure.impl_WrapTurn F x0)) 1065353216 else bif FOps.cmp F BinOp.leq .f32 (FOps.bin F BinOp.sub .f32 (Pure.impl_WrapTurn F x1) (Pure.impl_WrapTurn F x0)) 3204448256 then FOps.bin F BinOp.add .f32 (FOps.bin F BinOp.sub .f32 (Pure.impl_WrapTurn F x1) (Pure.impl_WrapTurn F x0)) 1065353216 else FOps.bin F BinOp.sub .f32 (Pure.impl_WrapTurn F x1) (Pure.impl_WrapTurn F x0)
def Pure.impl_apart_ok (F : FOps) (x0 : Int) (x1 : Int) : Bool := bif Pure.impl_wrapped_ok F x1 then Pure.impl_wrapped_ok F x0 else false
def c_impl_apart (F : FOps) : Con
  | [V.at (A.fl .f32 x0), V.at (A.fl .f32 x1)], [] => some (Pure.impl_apart_ok F x0 x1, ⟨V.at (A.fl .f32 (Pure.impl_apart F x0 x1)), none, []⟩)
  | _, _ => none
theorem e_impl_apart (F : FOps) (x0 : Int) (x1 : Int) : Pure.impl_apart_ok F x0 x1 = true → evFn (cxS F tyl [(94, c_impl_wrapped F)] [] [] 0) Try.f50 false [V.at (A.fl .f32 x0), V.at (A.fl .f32 x1)] [] = some ⟨V.at (A.fl .f32 (Pure.impl_apart F x0 x1)), none, []⟩ := by
  have h0 : evFn (cxS F tyl [(94, c_impl_wrapped F)] [] [] 0) Try.f50 false [V.at (A.fl .f32 x0), V.at (A.fl .f32 x1)] [] = bif Pure.impl_wrapped_ok F x1 then bif Pure.impl_wrapped_ok F x0 then bif FOps.cmp F BinOp.gtr .f32 (FOps.bin F BinOp.sub .f32 (Pure.impl_WrapTurn F x1) (Pure.impl_WrapTurn F x0)) 1056964608 then some ⟨V.at (A.fl .f32 (FOps.bin F BinOp.sub .f32 (FOps.bin F BinOp.sub .f32 (Pure.impl_WrapTurn F x1) (Pure.impl_WrapTurn F x0)) 1065353216)), none, []⟩ else bif FOps.cmp F BinOp.leq .f32 (FOps.bin F BinOp.sub .f32 (Pure.impl_WrapTurn F x1) (Pure.impl_WrapTurn F x0)) 3204448256 then some ⟨V.at (A.fl .f32 (FOps.bin F BinOp.add .f32 (FOps.bin F BinOp.sub .f32 (Pure.impl_WrapTurn F x1) (Pure.impl_WrapTurn F x0)) 1065353216)), none, []⟩ else some ⟨V.at (A.fl .f32 (FOps.bin F BinOp.sub .f32 (Pure.impl_WrapTurn F x1) (Pure.impl_WrapTurn F x0))), none, []⟩ else none else none := by kernel_rfl
  rw [h0]
  unfold Pure.impl_apart Pure.impl_apart_ok
  cases (Pure.impl_wrapped_ok F x1) with
  | true =>
    cases (Pure.impl_wrapped_ok F x0) with
    | true =>
      cases (FOps.cmp F BinOp.gtr .f32 (FOps.bin F BinOp.sub .f32 (Pure.impl_WrapTurn F x1) (Pure.impl_WrapTurn F x0)) 1056964608) with
      | true =>
        intro _; rfl
      | false =>
        cases (FOps.cmp F BinOp.leq .f32 (FOps.bin F BinOp.sub .f32 (Pure.impl_WrapTurn F x1) (Pure.impl_WrapTurn F x0)) 3204448256) with
        | true =>
          intro _; rfl
        | false =>
          intro _; rfl
    | false =>
      intro h; exact absurd h Bool.false_ne_true
  | false =>
    intro h; exact absurd h Bool.false_ne_true
theorem ok_impl_apart : CallOK Try.prog 50 (c_impl_apart real) := by
  refine callOK_of fun args h ret hc => ?_
  unfold c_impl_apart at hc
  split at hc
  · rename_i x0 x1
    obtain ⟨hok, rfl⟩ := some_ret hc
    exact holds_ev prog_ok (allOK_cons ok_impl_wrapped allOK_nil) Try.func50 rfl rfl smL_nil rfl (e_impl_apart real x0 x1 hok)
  · cases hc
end Go.Fx
