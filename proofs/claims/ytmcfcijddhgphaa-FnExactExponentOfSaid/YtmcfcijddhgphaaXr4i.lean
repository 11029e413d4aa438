import Derived.Test.YtmcfcijddhgphaaXr4h
import Derived.KernelRfl
namespace Go.Fx
open Go.Proofs
set_option maxRecDepth 100000
def c_math_sqrt (F : FOps) : Con
  | [V.at (A.fl FloatKind.f64 x)], [] => some (true, ⟨V.at (A.fl FloatKind.f64 (F.sqrt x)), none, []⟩)
  | _, _ => none
theorem ok_math_sqrt : CallOK Try.prog 126 (c_math_sqrt real) := by
  refine callOK_of fun args h ret hc => ?_
  unfold c_math_sqrt at hc
  split at hc
  · rename_i x
    obtain ⟨_, rfl⟩ := some_ret hc
    exact ext_sqrt Try.func126 rfl rfl (by kernel_rfl) (by kernel_rfl) x
  · cases hc
def c_math_Sqrt (F : FOps) : Con
  | [V.at (A.fl FloatKind.f64 x0)], [] => some (true, ⟨V.at (A.fl FloatKind.f64 (FOps.sqrt F x0)), none, []⟩)
  | _, _ => none
theorem e_math_Sqrt (F : FOps) (x0 : Int) : evFn (cxS F tyl [(126, c_math_sqrt F)] [] [] 0) Try.f114 false [V.at (A.fl FloatKind.f64 x0)] [] = some ⟨V.at (A.fl FloatKind.f64 (FOps.sqrt F x0)), none, []⟩ := by
  kernel_rfl
theorem ok_math_Sqrt : CallOK Try.prog 114 (c_math_Sqrt real) := by
  refine callOK_of fun args h ret hc => ?_
  unfold c_math_Sqrt at hc
  split at hc
  · rename_i x0
    obtain ⟨_, rfl⟩ := some_ret hc
    exact holds_ev prog_ok (allOK_cons ok_math_sqrt allOK_nil) Try.func114 rfl rfl smL_nil rfl (e_math_Sqrt real x0)
  · cases hc
def Pure.spec_l01Sqrt (F : FOps) (x0 : Int) : Int := Pure.spec_l01Narrow F (FOps.sqrt F (FOps.conv F FloatKind.f32 FloatKind.f64 x0))
def Pure.spec_l01Sqrt_ok (F : FOps) (x0 : Int) : Bool := bif FOps.convOk F FloatKind.f32 FloatKind.f64 x0 then Pure.spec_l01Narrow_ok F (FOps.sqrt F (FOps.conv F FloatKind.f32 FloatKind.f64 x0)) else false
def c_spec_l01Sqrt (F : FOps) : Con
  | [V.at (A.fl FloatKind.f32 x0)], [] => some (Pure.spec_l01Sqrt_ok F x0, ⟨V.at (A.fl FloatKind.f32 (Pure.spec_l01Sqrt F x0)), none, []⟩)
  | _, _ => none
theorem e_spec_l01Sqrt (F : FOps) (x0 : Int) : Pure.spec_l01Sqrt_ok F x0 = true → evFn (cxS F tyl [(114, c_math_Sqrt F), (100, c_spec_l01Narrow F)] [] [] 0) Try.f81 false [V.at (A.fl FloatKind.f32 x0)] [] = some ⟨V.at (A.fl FloatKind.f32 (Pure.spec_l01Sqrt F x0)), none, []⟩ := by
  have h0 : evFn (cxS F tyl [(114, c_math_Sqrt F), (100, c_spec_l01Narrow F)] [] [] 0) Try.f81 false [V.at (A.fl FloatKind.f32 x0)] [] = bif FOps.convOk F FloatKind.f32 FloatKind.f64 x0 then bif Pure.spec_l01Narrow_ok F (FOps.sqrt F (FOps.conv F FloatKind.f32 FloatKind.f64 x0)) then some ⟨V.at (A.fl FloatKind.f32 (Pure.spec_l01Narrow F (FOps.sqrt F (FOps.conv F FloatKind.f32 FloatKind.f64 x0)))), none, []⟩ else none else none := by kernel_rfl
  rw [h0]
  unfold Pure.spec_l01Sqrt Pure.spec_l01Sqrt_ok
  cases (FOps.convOk F FloatKind.f32 FloatKind.f64 x0) with
  | true =>
    cases (Pure.spec_l01Narrow_ok F (FOps.sqrt F (FOps.conv F FloatKind.f32 FloatKind.f64 x0))) with
    | true =>
      intro _; rfl
    | false =>
      intro h; exact absurd h Bool.false_ne_true
  | false =>
    intro h; exact absurd h Bool.false_ne_true
theorem ok_spec_l01Sqrt : CallOK Try.prog 81 (c_spec_l01Sqrt real) := by
  refine callOK_of fun args h ret hc => ?_
  unfold c_spec_l01Sqrt at hc
  split at hc
  · rename_i x0
    obtain ⟨hok, rfl⟩ := some_ret hc
    exact holds_ev prog_ok (allOK_cons ok_math_Sqrt (allOK_cons ok_spec_l01Narrow allOK_nil)) Try.func81 rfl rfl smL_nil rfl (e_spec_l01Sqrt real x0 hok)
  · cases hc
def Pure.impl_RootNumber (F : FOps) (x0 : Int) : Int := FOps.conv F FloatKind.f64 FloatKind.f32 (FOps.sqrt F (FOps.conv F FloatKind.f32 FloatKind.f64 x0))
def Pure.impl_RootNumber_ok (F : FOps) (x0 : Int) : Bool := bif FOps.convOk F FloatKind.f32 FloatKind.f64 x0 then FOps.convOk F FloatKind.f64 FloatKind.f32 (FOps.sqrt F (FOps.conv F FloatKind.f32 FloatKind.f64 x0)) else false
def c_impl_RootNumber (F : FOps) : Con
  | [V.at (A.fl FloatKind.f32 x0)], [] => some (Pure.impl_RootNumber_ok F x0, ⟨V.at (A.fl FloatKind.f32 (Pure.impl_RootNumber F x0)), none, []⟩)
  | _, _ => none
theorem e_impl_RootNumber (F : FOps) (x0 : Int) : Pure.impl_RootNumber_ok F x0 = true → evFn (cxS F tyl [(114, c_math_Sqrt F)] [] [] 0) Try.f83 false [V.at (A.fl FloatKind.f32 x0)] [] = some ⟨V.at (A.fl FloatKind.f32 (Pure.impl_RootNumber F x0)), none, []⟩ := by
  have h0 : evFn (cxS F tyl [(114, c_math_Sqrt F)] [] [] 0) Try.f83 false [V.at (A.fl FloatKind.f32 x0)] [] = bif FOps.convOk F FloatKind.f32 FloatKind.f64 x0 then bif FOps.convOk F FloatKind.f64 FloatKind.f32 (FOps.sqrt F (FOps.conv F FloatKind.f32 FloatKind.f64 x0)) then some ⟨V.at (A.fl FloatKind.f32 (FOps.conv F FloatKind.f64 FloatKind.f32 (FOps.sqrt F (FOps.conv F FloatKind.f32 FloatKind.f64 x0)))), none, []⟩ else none else none := by kernel_rfl
  rw [h0]
  unfold Pure.impl_RootNumber Pure.impl_RootNumber_ok
  cases (FOps.convOk F FloatKind.f32 FloatKind.f64 x0) with
  | true =>
    cases (FOps.convOk F FloatKind.f64 FloatKind.f32 (FOps.sqrt F (FOps.conv F FloatKind.f32 FloatKind.f64 x0))) with
    | true =>
      intro _; rfl
    | false =>
      intro h; exact absurd h Bool.false_ne_true
  | false =>
    intro h; exact absurd h Bool.false_ne_true
theorem ok_impl_RootNumber : CallOK Try.prog 83 (c_impl_RootNumber real) := by
  refine callOK_of fun args h ret hc => ?_
  unfold c_impl_RootNumber at hc
  split at hc
  · rename_i x0
    obtain ⟨hok, rfl⟩ := some_ret hc
    exact holds_ev prog_ok (allOK_cons ok_math_Sqrt allOK_nil) Try.func83 rfl rfl smL_nil rfl (e_impl_RootNumber real x0 hok)
  · cases hc
end Go.Fx
