import Derived.Test.YtmcfcijddhgphaaXr4c
import Derived.KernelRfl
namespace Go.Fx
open Go.Proofs
set_option maxRecDepth 100000
def Pure.impl_WrapKick (F : FOps) (x0 : Int) : Int := bif Pure.impl_IsFinite F x0 then bif FOps.cmp F BinOp.geq .f32 (FOps.conv F .f64 .f32 (FOps.bin F BinOp.sub .f64 (FOps.conv F .f32 .f64 x0) (FOps.integral F Ieee.Toward.down (FOps.bin F BinOp.add .f64 (FOps.conv F .f32 .f64 x0) 4602678819172646912)))) 1056964608 then 3204448256 else bif FOps.cmp F BinOp.eql .f32 (FOps.conv F .f64 .f32 (FOps.bin F BinOp.sub .f64 (FOps.conv F .f32 .f64 x0) (FOps.integral F Ieee.Toward.down (FOps.bin F BinOp.add .f64 (FOps.conv F .f32 .f64 x0) 4602678819172646912)))) 0 then 0 else FOps.conv F .f64 .f32 (FOps.bin F BinOp.sub .f64 (FOps.conv F .f32 .f64 x0) (FOps.integral F Ieee.Toward.down (FOps.bin F BinOp.add .f64 (FOps.conv F .f32 .f64 x0) 4602678819172646912))) else 0
def Pure.impl_WrapKick_ok (F : FOps) (x0 : Int) : Bool := bif Pure.impl_IsFinite F x0 then bif FOps.convOk F .f32 .f64 x0 then FOps.convOk F .f64 .f32 (FOps.bin F BinOp.sub .f64 (FOps.conv F .f32 .f64 x0) (FOps.integral F Ieee.Toward.down (FOps.bin F BinOp.add .f64 (FOps.conv F .f32 .f64 x0) 4602678819172646912))) else false else true
def c_impl_WrapKick (F : FOps) : Con
  | [V.at (A.fl .f32 x0)], [] => some (Pure.impl_WrapKick_ok F x0, ⟨V.tup [(false, [A.fl .f32 (Pure.impl_WrapKick F x0)]), (false, [A.bool (Pure.impl_IsFinite F x0)])], none, []⟩)
  | _, _ => none
theorem e_impl_WrapKick (F : FOps) (x0 : Int) : Pure.impl_WrapKick_ok F x0 = true → evFn (cxS F tyl [(47, c_impl_IsFinite F), (48, c_math_Floor F)] [] [] 0) Try.f16 false [V.at (A.fl .f32 x0)] [] = some ⟨V.tup [(false, [A.fl .f32 (Pure.impl_WrapKick F x0)]), (false, [A.bool (Pure.impl_IsFinite F x0)])], none, []⟩ := by
  have h0 : evFn (cxS F tyl [(47, c_impl_IsFinite F), (48, c_math_Floor F)] [] [] 0) Try.f16 false [V.at (A.fl .f32 x0)] [] = bif Bool.not (Pure.impl_IsFinite F x0) then some ⟨V.tup [(false, [A.fl .f32 0]), (false, [A.bool false])], none, []⟩ else bif FOps.convOk F .f32 .f64 x0 then bif FOps.convOk F .f32 .f64 x0 then bif FOps.convOk F .f64 .f32 (FOps.bin F BinOp.sub .f64 (FOps.conv F .f32 .f64 x0) (FOps.integral F Ieee.Toward.down (FOps.bin F BinOp.add .f64 (FOps.conv F .f32 .f64 x0) 4602678819172646912))) then bif FOps.cmp F BinOp.geq .f32 (FOps.conv F .f64 .f32 (FOps.bin F BinOp.sub .f64 (FOps.conv F .f32 .f64 x0) (FOps.integral F Ieee.Toward.down (FOps.bin F BinOp.add .f64 (FOps.conv F .f32 .f64 x0) 4602678819172646912)))) 1056964608 then some ⟨V.tup [(false, [A.fl .f32 3204448256]), (false, [A.bool true])], none, []⟩ else bif FOps.cmp F BinOp.eql .f32 (FOps.conv F .f64 .f32 (FOps.bin F BinOp.sub .f64 (FOps.conv F .f32 .f64 x0) (FOps.integral F Ieee.Toward.down (FOps.bin F BinOp.add .f64 (FOps.conv F .f32 .f64 x0) 4602678819172646912)))) 0 then some ⟨V.tup [(false, [A.fl .f32 0]), (false, [A.bool true])], none, []⟩ else some ⟨V.tup [(false, [A.fl .f32 (FOps.conv F .f64 .f32 (FOps.bin F BinOp.sub .f64 (FOps.conv F .f32 .f64 x0) (FOps.integral F Ieee.Toward.down (FOps.bin F BinOp.add .f64 (FOps.conv F .f32 .f64 x0) 4602678819172646912))))]), (false, [A.bool true])], none, []⟩ else none else none else none := by kernel_rfl
  rw [h0]
  unfold Pure.impl_WrapKick Pure.impl_WrapKick_ok
  cases (Pure.impl_IsFinite F x0) with
  | true =>
    cases (FOps.convOk F .f32 .f64 x0) with
    | true =>
      cases (FOps.convOk F .f64 .f32 (FOps.bin F BinOp.sub .f64 (FOps.conv F .f32 .f64 x0) (FOps.integral F Ieee.Toward.down (FOps.bin F BinOp.add .f64 (FOps.conv F .f32 .f64 x0) 4602678819172646912)))) with
      | true =>
        cases (FOps.cmp F BinOp.geq .f32 (FOps.conv F .f64 .f32 (FOps.bin F BinOp.sub .f64 (FOps.conv F .f32 .f64 x0) (FOps.integral F Ieee.Toward.down (FOps.bin F BinOp.add .f64 (FOps.conv F .f32 .f64 x0) 4602678819172646912)))) 1056964608) with
        | true =>
          intro _; rfl
        | false =>
          cases (FOps.cmp F BinOp.eql .f32 (FOps.conv F .f64 .f32 (FOps.bin F BinOp.sub .f64 (FOps.conv F .f32 .f64 x0) (FOps.integral F Ieee.Toward.down (FOps.bin F BinOp.add .f64 (FOps.conv F .f32 .f64 x0) 4602678819172646912)))) 0) with
          | true =>
            intro _; rfl
          | false =>
            intro _; rfl
      | false =>
        intro h; exact absurd h Bool.false_ne_true
    | false =>
      intro h; exact absurd h Bool.false_ne_true
  | false =>
    intro _; rfl
theorem ok_impl_WrapKick : CallOK Try.prog 16 (c_impl_WrapKick real) := by
  refine callOK_of fun args h ret hc => ?_
  unfold c_impl_WrapKick at hc
  split at hc
  · rename_i x0
    obtain ⟨hok, rfl⟩ := some_ret hc
    exact holds_ev prog_ok (allOK_cons ok_impl_IsFinite (allOK_cons ok_math_Floor allOK_nil)) Try.func16 rfl rfl smL_nil rfl (e_impl_WrapKick real x0 hok)
  · cases hc
def Pure.impl_WrapTurn (F : FOps) (x0 : Int) : Int := bif Pure.impl_IsFinite F x0 then bif FOps.cmp F BinOp.eql .f32 (FOps.conv F .f64 .f32 (FOps.bin F BinOp.sub .f64 (FOps.conv F .f32 .f64 x0) (FOps.integral F Ieee.Toward.down (FOps.conv F .f32 .f64 x0)))) 1065353216 then 0 else bif FOps.cmp F BinOp.eql .f32 (FOps.conv F .f64 .f32 (FOps.bin F BinOp.sub .f64 (FOps.conv F .f32 .f64 x0) (FOps.integral F Ieee.Toward.down (FOps.conv F .f32 .f64 x0)))) 0 then 0 else FOps.conv F .f64 .f32 (FOps.bin F BinOp.sub .f64 (FOps.conv F .f32 .f64 x0) (FOps.integral F Ieee.Toward.down (FOps.conv F .f32 .f64 x0))) else 0
def Pure.impl_WrapTurn_ok (F : FOps) (x0 : Int) : Bool := bif Pure.impl_IsFinite F x0 then bif FOps.convOk F .f32 .f64 x0 then FOps.convOk F .f64 .f32 (FOps.bin F BinOp.sub .f64 (FOps.conv F .f32 .f64 x0) (FOps.integral F Ieee.Toward.down (FOps.conv F .f32 .f64 x0))) else false else true
def c_impl_WrapTurn (F : FOps) : Con
  | [V.at (A.fl .f32 x0)], [] => some (Pure.impl_WrapTurn_ok F x0, ⟨V.tup [(false, [A.fl .f32 (Pure.impl_WrapTurn F x0)]), (false, [A.bool (Pure.impl_IsFinite F x0)])], none, []⟩)
  | _, _ => none
theorem e_impl_WrapTurn (F : FOps) (x0 : Int) : Pure.impl_WrapTurn_ok F x0 = true → evFn (cxS F tyl [(47, c_impl_IsFinite F), (48, c_math_Floor F)] [] [] 0) Try.f14 false [V.at (A.fl .f32 x0)] [] = some ⟨V.tup [(false, [A.fl .f32 (Pure.impl_WrapTurn F x0)]), (false, [A.bool (Pure.impl_IsFinite F x0)])], none, []⟩ := by
  have h0 : evFn (cxS F tyl [(47, c_impl_IsFinite F), (48, c_math_Floor F)] [] [] 0) Try.f14 false [V.at (A.fl .f32 x0)] [] = bif Bool.not (Pure.impl_IsFinite F x0) then some ⟨V.tup [(false, [A.fl .f32 0]), (false, [A.bool false])], none, []⟩ else bif FOps.convOk F .f32 .f64 x0 then bif FOps.convOk F .f32 .f64 x0 then bif FOps.convOk F .f64 .f32 (FOps.bin F BinOp.sub .f64 (FOps.conv F .f32 .f64 x0) (FOps.integral F Ieee.Toward.down (FOps.conv F .f32 .f64 x0))) then bif FOps.cmp F BinOp.eql .f32 (FOps.conv F .f64 .f32 (FOps.bin F BinOp.sub .f64 (FOps.conv F .f32 .f64 x0) (FOps.integral F Ieee.Toward.down (FOps.conv F .f32 .f64 x0)))) 1065353216 then some ⟨V.tup [(false, [A.fl .f32 0]), (false, [A.bool true])], none, []⟩ else bif FOps.cmp F BinOp.eql .f32 (FOps.conv F .f64 .f32 (FOps.bin F BinOp.sub .f64 (FOps.conv F .f32 .f64 x0) (FOps.integral F Ieee.Toward.down (FOps.conv F .f32 .f64 x0)))) 0 then some ⟨V.tup [(false, [A.fl .f32 0]), (false, [A.bool true])], none, []⟩ else some ⟨V.tup [(false, [A.fl .f32 (FOps.conv F .f64 .f32 (FOps.bin F BinOp.sub .f64 (FOps.conv F .f32 .f64 x0) (FOps.integral F Ieee.Toward.down (FOps.conv F .f32 .f64 x0))))]), (false, [A.bool true])], none, []⟩ else none else none else none := by kernel_rfl
  rw [h0]
  unfold Pure.impl_WrapTurn Pure.impl_WrapTurn_ok
  cases (Pure.impl_IsFinite F x0) with
  | true =>
    cases (FOps.convOk F .f32 .f64 x0) with
    | true =>
      cases (FOps.convOk F .f64 .f32 (FOps.bin F BinOp.sub .f64 (FOps.conv F .f32 .f64 x0) (FOps.integral F Ieee.Toward.down (FOps.conv F .f32 .f64 x0)))) with
      | true =>
        cases (FOps.cmp F BinOp.eql .f32 (FOps.conv F .f64 .f32 (FOps.bin F BinOp.sub .f64 (FOps.conv F .f32 .f64 x0) (FOps.integral F Ieee.Toward.down (FOps.conv F .f32 .f64 x0)))) 1065353216) with
        | true =>
          intro _; rfl
        | false =>
          cases (FOps.cmp F BinOp.eql .f32 (FOps.conv F .f64 .f32 (FOps.bin F BinOp.sub .f64 (FOps.conv F .f32 .f64 x0) (FOps.integral F Ieee.Toward.down (FOps.conv F .f32 .f64 x0)))) 0) with
          | true =>
            intro _; rfl
          | false =>
            intro _; rfl
      | false =>
        intro h; exact absurd h Bool.false_ne_true
    | false =>
      intro h; exact absurd h Bool.false_ne_true
  | false =>
    intro _; rfl
theorem ok_impl_WrapTurn : CallOK Try.prog 14 (c_impl_WrapTurn real) := by
  refine callOK_of fun args h ret hc => ?_
  unfold c_impl_WrapTurn at hc
  split at hc
  · rename_i x0
    obtain ⟨hok, rfl⟩ := some_ret hc
    exact holds_ev prog_ok (allOK_cons ok_impl_IsFinite (allOK_cons ok_math_Floor allOK_nil)) Try.func14 rfl rfl smL_nil rfl (e_impl_WrapTurn real x0 hok)
  · cases hc
def Pure.impl_wrapped_ok (F : FOps) (x0 : Int) : Bool := Pure.impl_WrapTurn_ok F x0
def c_impl_wrapped (F : FOps) : Con
  | [V.at (A.fl .f32 x0)], [] => some (Pure.impl_wrapped_ok F x0, ⟨V.at (A.fl .f32 (Pure.impl_WrapTurn F x0)), none, []⟩)
  | _, _ => none
theorem e_impl_wrapped (F : FOps) (x0 : Int) : Pure.impl_wrapped_ok F x0 = true → evFn (cxS F tyl [(14, c_impl_WrapTurn F)] [] [] 0) Try.f94 false [V.at (A.fl .f32 x0)] [] = some ⟨V.at (A.fl .f32 (Pure.impl_WrapTurn F x0)), none, []⟩ := by
  have h0 : evFn (cxS F tyl [(14, c_impl_WrapTurn F)] [] [] 0) Try.f94 false [V.at (A.fl .f32 x0)] [] = bif Pure.impl_WrapTurn_ok F x0 then some ⟨V.at (A.fl .f32 (Pure.impl_WrapTurn F x0)), none, []⟩ else none := by kernel_rfl
  rw [h0]
  unfold Pure.impl_wrapped_ok
  cases (Pure.impl_WrapTurn_ok F x0) with
  | true =>
    intro _; rfl
  | false =>
    intro h; exact absurd h Bool.false_ne_true
theorem ok_impl_wrapped : CallOK Try.prog 94 (c_impl_wrapped real) := by
  refine callOK_of fun args h ret hc => ?_
  unfold c_impl_wrapped at hc
  split at hc
  · rename_i x0
    obtain ⟨hok, rfl⟩ := some_ret hc
    exact holds_ev prog_ok (allOK_cons ok_impl_WrapTurn allOK_nil) Try.func94 rfl rfl smL_nil rfl (e_impl_wrapped real x0 hok)
  · cases hc
def Pure.impl_finite (F : FOps) (x0 : List (List Int)) : Bool := bif Pure.slices_ContainsFunc_float32_float32_finite F x0 then false else true
def Pure.impl_finite_ok (F : FOps) (x0 : List (List Int)) : Bool := Pure.slices_ContainsFunc_float32_float32_finite_ok F x0
def c_impl_finite (F : FOps) : Con
  | [V.at (A.sl 0)], [⟨false, .rows [K.f .f32] x0⟩] => some (Pure.impl_finite_ok F x0, ⟨V.at (A.bool (Pure.impl_finite F x0)), none, []⟩)
  | _, _ => none
theorem e_impl_finite (F : FOps) (x0 : List (List Int)) : Pure.impl_finite_ok F x0 = true → evFn (cxS F tyl [(92, c_slices_ContainsFunc_float32_float32_finite F), (93, c_impl_finite_c1 F)] [] [] 0) Try.f49 false [V.at (A.sl 0)] [⟨false, .rows [K.f .f32] x0⟩] = some ⟨V.at (A.bool (Pure.impl_finite F x0)), none, []⟩ := by
  have h0 : evFn (cxS F tyl [(92, c_slices_ContainsFunc_float32_float32_finite F), (93, c_impl_finite_c1 F)] [] [] 0) Try.f49 false [V.at (A.sl 0)] [⟨false, .rows [K.f .f32] x0⟩] = bif Pure.slices_ContainsFunc_float32_float32_finite_ok F x0 then some ⟨V.at (A.bool (bif Pure.slices_ContainsFunc_float32_float32_finite F x0 then false else true)), none, []⟩ else none := by kernel_rfl
  rw [h0]
  unfold Pure.impl_finite Pure.impl_finite_ok
  cases (Pure.slices_ContainsFunc_float32_float32_finite_ok F x0) with
  | true =>
    intro _; rfl
  | false =>
    intro h; exact absurd h Bool.false_ne_true
theorem ok_impl_finite : CallOK Try.prog 49 (c_impl_finite real) := by
  refine callOK_of fun args h ret hc => ?_
  unfold c_impl_finite at hc
  split at hc
  · rename_i x0
    obtain ⟨hok, rfl⟩ := some_ret hc
    exact holds_ev prog_ok (allOK_cons ok_slices_ContainsFunc_float32_float32_finite (allOK_cons ok_impl_finite_c1 allOK_nil)) Try.func49 rfl rfl smL_nil rfl (e_impl_finite real x0 hok)
  · cases hc
end Go.Fx
