import Derived.Test.YtpncophaaedjpaaXr1b
import Derived.KernelRfl
namespace Go.Fx
open Go.Proofs
def c_math_Float32bits (_ : FOps) : Con
  | [V.at (A.fl FloatKind.f32 x)], [] => some ⟨V.at (A.raw FloatKind.f32 x), none, []⟩
  | _, _ => none
theorem ok_math_Float32bits : CallOK Try.prog 44 (c_math_Float32bits real) := by
  intro args h r news hc
  unfold c_math_Float32bits at hc
  split at hc
  · rename_i x
    obtain ⟨rfl, rfl⟩ := some_ret hc
    exact ext_bits32 Try.func44 rfl rfl (by kernel_rfl) (by kernel_rfl) x
  · cases hc
def c_impl_isNaN (F : FOps) : Con
  | [V.at (A.fl FloatKind.f32 x0)], [] => some ⟨V.at (A.bool (FOps.cmp F BinOp.neq FloatKind.f32 x0 x0)), none, []⟩
  | _, _ => none
theorem e_impl_isNaN (F : FOps) (x0 : Int) : evFn (cxS F tyl [] (fun _ => none) 0) Try.f43 false [V.at (A.fl FloatKind.f32 x0)] [] = some ⟨V.at (A.bool (FOps.cmp F BinOp.neq FloatKind.f32 x0 x0)), none, []⟩ := by kernel_rfl
theorem ok_impl_isNaN : CallOK Try.prog 43 (c_impl_isNaN real) := by
  intro args h r news hc
  unfold c_impl_isNaN at hc
  split at hc
  · rename_i x0
    obtain ⟨rfl, rfl⟩ := some_ret hc
    exact holds_ev prog_ok allOK_nil Try.func43 rfl rfl rfl (e_impl_isNaN real x0)
  · cases hc
def Pure.impl_SameNumber (F : FOps) (x0 : Int) (x1 : Int) : Bool := bif FOps.cmp F BinOp.neq FloatKind.f32 x0 x0 then FOps.cmp F BinOp.neq FloatKind.f32 x1 x1 else bif FOps.cmp F BinOp.neq FloatKind.f32 x1 x1 then false else x0 == x1
def c_impl_SameNumber (F : FOps) : Con
  | [V.at (A.fl FloatKind.f32 x0), V.at (A.fl FloatKind.f32 x1)], [] => some ⟨V.at (A.bool (Pure.impl_SameNumber F x0 x1)), none, []⟩
  | _, _ => none
theorem e_impl_SameNumber (F : FOps) (x0 : Int) (x1 : Int) : evFn (cxS F tyl [(43, c_impl_isNaN F), (44, c_math_Float32bits F)] (fun _ => none) 0) Try.f28 false [V.at (A.fl FloatKind.f32 x0), V.at (A.fl FloatKind.f32 x1)] [] = some ⟨V.at (A.bool (Pure.impl_SameNumber F x0 x1)), none, []⟩ := by
  have h0 : evFn (cxS F tyl [(43, c_impl_isNaN F), (44, c_math_Float32bits F)] (fun _ => none) 0) Try.f28 false [V.at (A.fl FloatKind.f32 x0), V.at (A.fl FloatKind.f32 x1)] [] = bif FOps.cmp F BinOp.neq FloatKind.f32 x0 x0 then bif FOps.cmp F BinOp.neq FloatKind.f32 x0 x0 then some ⟨V.at (A.bool (FOps.cmp F BinOp.neq FloatKind.f32 x1 x1)), none, []⟩ else some ⟨V.at (A.bool false), none, []⟩ else bif FOps.cmp F BinOp.neq FloatKind.f32 x1 x1 then bif FOps.cmp F BinOp.neq FloatKind.f32 x0 x0 then some ⟨V.at (A.bool (FOps.cmp F BinOp.neq FloatKind.f32 x1 x1)), none, []⟩ else some ⟨V.at (A.bool false), none, []⟩ else bif bif FOps.cmp F BinOp.neq FloatKind.f32 x0 x0 then false else true then bif bif FOps.cmp F BinOp.neq FloatKind.f32 x1 x1 then false else true then some ⟨V.at (A.bool (x0 == x1)), none, []⟩ else none else none := by kernel_rfl
  rw [h0]
  unfold Pure.impl_SameNumber
  cases (FOps.cmp F BinOp.neq FloatKind.f32 x0 x0) with
  | true =>
    rfl
  | false =>
    cases (FOps.cmp F BinOp.neq FloatKind.f32 x1 x1) with
    | true =>
      rfl
    | false =>
      rfl
theorem ok_impl_SameNumber : CallOK Try.prog 28 (c_impl_SameNumber real) := by
  intro args h r news hc
  unfold c_impl_SameNumber at hc
  split at hc
  · rename_i x0 x1
    obtain ⟨rfl, rfl⟩ := some_ret hc
    exact holds_ev prog_ok (allOK_cons ok_impl_isNaN (allOK_cons ok_math_Float32bits allOK_nil)) Try.func28 rfl rfl rfl (e_impl_SameNumber real x0 x1)
  · cases hc
def Pure.spec_l01Bits (F : FOps) (x0 : Int) : Int := bif FOps.cmp F BinOp.neq FloatKind.f32 x0 x0 then 2143289344 else IntKind.wrap IntKind.i64 x0
def c_spec_l01Bits (F : FOps) : Con
  | [V.at (A.fl FloatKind.f32 x0)], [] => some ⟨V.at (A.int IntKind.i64 (Pure.spec_l01Bits F x0)), none, []⟩
  | _, _ => none
theorem e_spec_l01Bits (F : FOps) (x0 : Int) : evFn (cxS F tyl [(44, c_math_Float32bits F)] (fun _ => none) 0) Try.f42 false [V.at (A.fl FloatKind.f32 x0)] [] = some ⟨V.at (A.int IntKind.i64 (Pure.spec_l01Bits F x0)), none, []⟩ := by
  have h0 : evFn (cxS F tyl [(44, c_math_Float32bits F)] (fun _ => none) 0) Try.f42 false [V.at (A.fl FloatKind.f32 x0)] [] = bif FOps.cmp F BinOp.neq FloatKind.f32 x0 x0 then some ⟨V.at (A.int IntKind.i64 2143289344), none, []⟩ else bif bif FOps.cmp F BinOp.neq FloatKind.f32 x0 x0 then false else true then some ⟨V.at (A.int IntKind.i64 (IntKind.wrap IntKind.i64 x0)), none, []⟩ else none := by kernel_rfl
  rw [h0]
  unfold Pure.spec_l01Bits
  cases (FOps.cmp F BinOp.neq FloatKind.f32 x0 x0) with
  | true =>
    rfl
  | false =>
    rfl
theorem ok_spec_l01Bits : CallOK Try.prog 42 (c_spec_l01Bits real) := by
  intro args h r news hc
  unfold c_spec_l01Bits at hc
  split at hc
  · rename_i x0
    obtain ⟨rfl, rfl⟩ := some_ret hc
    exact holds_ev prog_ok (allOK_cons ok_math_Float32bits allOK_nil) Try.func42 rfl rfl rfl (e_spec_l01Bits real x0)
  · cases hc
def Pure.spec_l01Same (F : FOps) (x0 : Int) (x1 : Int) : Bool := (Pure.spec_l01Bits F x0) == (Pure.spec_l01Bits F x1)
def c_spec_l01Same (F : FOps) : Con
  | [V.at (A.fl FloatKind.f32 x0), V.at (A.fl FloatKind.f32 x1)], [] => some ⟨V.at (A.bool (Pure.spec_l01Same F x0 x1)), none, []⟩
  | _, _ => none
theorem e_spec_l01Same (F : FOps) (x0 : Int) (x1 : Int) : evFn (cxS F tyl [(42, c_spec_l01Bits F)] (fun _ => none) 0) Try.f27 false [V.at (A.fl FloatKind.f32 x0), V.at (A.fl FloatKind.f32 x1)] [] = some ⟨V.at (A.bool (Pure.spec_l01Same F x0 x1)), none, []⟩ := by kernel_rfl
theorem ok_spec_l01Same : CallOK Try.prog 27 (c_spec_l01Same real) := by
  intro args h r news hc
  unfold c_spec_l01Same at hc
  split at hc
  · rename_i x0 x1
    obtain ⟨rfl, rfl⟩ := some_ret hc
    exact holds_ev prog_ok (allOK_cons ok_spec_l01Bits allOK_nil) Try.func27 rfl rfl rfl (e_spec_l01Same real x0 x1)
  · cases hc
def Pure.impl_SameState (F : FOps) (x0 : Int) (x1 : Int) (x2 : Int) (x3 : Int) : Bool := bif Pure.impl_SameNumber F x0 x2 then Pure.impl_SameNumber F x1 x3 else false
def c_impl_SameState (F : FOps) : Con
  | [V.agg [A.fl FloatKind.f32 x0, A.fl FloatKind.f32 x1], V.agg [A.fl FloatKind.f32 x2, A.fl FloatKind.f32 x3]], [] => some ⟨V.at (A.bool (Pure.impl_SameState F x0 x1 x2 x3)), none, []⟩
  | _, _ => none
theorem e_impl_SameState (F : FOps) (x0 : Int) (x1 : Int) (x2 : Int) (x3 : Int) : evFn (cxS F tyl [(28, c_impl_SameNumber F)] (fun _ => none) 0) Try.f13 false [V.agg [A.fl FloatKind.f32 x0, A.fl FloatKind.f32 x1], V.agg [A.fl FloatKind.f32 x2, A.fl FloatKind.f32 x3]] [] = some ⟨V.at (A.bool (Pure.impl_SameState F x0 x1 x2 x3)), none, []⟩ := by
  have h0 : evFn (cxS F tyl [(28, c_impl_SameNumber F)] (fun _ => none) 0) Try.f13 false [V.agg [A.fl FloatKind.f32 x0, A.fl FloatKind.f32 x1], V.agg [A.fl FloatKind.f32 x2, A.fl FloatKind.f32 x3]] [] = bif Pure.impl_SameNumber F x0 x2 then some ⟨V.at (A.bool (Pure.impl_SameNumber F x1 x3)), none, []⟩ else some ⟨V.at (A.bool false), none, []⟩ := by kernel_rfl
  rw [h0]
  unfold Pure.impl_SameState
  cases (Pure.impl_SameNumber F x0 x2) with
  | true =>
    rfl
  | false =>
    rfl
theorem ok_impl_SameState : CallOK Try.prog 13 (c_impl_SameState real) := by
  intro args h r news hc
  unfold c_impl_SameState at hc
  split at hc
  · rename_i x0 x1 x2 x3
    obtain ⟨rfl, rfl⟩ := some_ret hc
    exact holds_ev prog_ok (allOK_cons ok_impl_SameNumber allOK_nil) Try.func13 rfl rfl rfl (e_impl_SameState real x0 x1 x2 x3)
  · cases hc
def Pure.spec_SameState (F : FOps) (x0 : Int) (x1 : Int) (x2 : Int) (x3 : Int) : Bool := bif Pure.spec_l01Same F x0 x2 then Pure.spec_l01Same F x1 x3 else false
def c_spec_SameState (F : FOps) : Con
  | [V.agg [A.fl FloatKind.f32 x0, A.fl FloatKind.f32 x1], V.agg [A.fl FloatKind.f32 x2, A.fl FloatKind.f32 x3]], [] => some ⟨V.at (A.bool (Pure.spec_SameState F x0 x1 x2 x3)), none, []⟩
  | _, _ => none
theorem e_spec_SameState (F : FOps) (x0 : Int) (x1 : Int) (x2 : Int) (x3 : Int) : evFn (cxS F tyl [(27, c_spec_l01Same F)] (fun _ => none) 0) Try.f12 false [V.agg [A.fl FloatKind.f32 x0, A.fl FloatKind.f32 x1], V.agg [A.fl FloatKind.f32 x2, A.fl FloatKind.f32 x3]] [] = some ⟨V.at (A.bool (Pure.spec_SameState F x0 x1 x2 x3)), none, []⟩ := by
  have h0 : evFn (cxS F tyl [(27, c_spec_l01Same F)] (fun _ => none) 0) Try.f12 false [V.agg [A.fl FloatKind.f32 x0, A.fl FloatKind.f32 x1], V.agg [A.fl FloatKind.f32 x2, A.fl FloatKind.f32 x3]] [] = bif Pure.spec_l01Same F x0 x2 then some ⟨V.at (A.bool (Pure.spec_l01Same F x1 x3)), none, []⟩ else some ⟨V.at (A.bool false), none, []⟩ := by kernel_rfl
  rw [h0]
  unfold Pure.spec_SameState
  cases (Pure.spec_l01Same F x0 x2) with
  | true =>
    rfl
  | false =>
    rfl
theorem ok_spec_SameState : CallOK Try.prog 12 (c_spec_SameState real) := by
  intro args h r news hc
  unfold c_spec_SameState at hc
  split at hc
  · rename_i x0 x1 x2 x3
    obtain ⟨rfl, rfl⟩ := some_ret hc
    exact holds_ev prog_ok (allOK_cons ok_spec_l01Same allOK_nil) Try.func12 rfl rfl rfl (e_spec_SameState real x0 x1 x2 x3)
  · cases hc
def Pure.laws_FnExactSameState (F : FOps) (x0 : Int) (x1 : Int) (x2 : Int) (x3 : Int) : Bool := (Pure.impl_SameState F x0 x1 x2 x3) == (Pure.spec_SameState F x0 x1 x2 x3)
def c_laws_FnExactSameState (F : FOps) : Con
  | [V.agg [A.fl FloatKind.f32 x0, A.fl FloatKind.f32 x1], V.agg [A.fl FloatKind.f32 x2, A.fl FloatKind.f32 x3]], [] => some ⟨V.at (A.bool (Pure.laws_FnExactSameState F x0 x1 x2 x3)), none, []⟩
  | _, _ => none
theorem e_laws_FnExactSameState (F : FOps) (x0 : Int) (x1 : Int) (x2 : Int) (x3 : Int) : evFn (cxS F tyl [(12, c_spec_SameState F), (10, c_laws_toState F), (13, c_impl_SameState F)] (fun _ => none) 0) Try.f4 false [V.agg [A.fl FloatKind.f32 x0, A.fl FloatKind.f32 x1], V.agg [A.fl FloatKind.f32 x2, A.fl FloatKind.f32 x3]] [] = some ⟨V.at (A.bool (Pure.laws_FnExactSameState F x0 x1 x2 x3)), none, []⟩ := by
  have h0 : evFn (cxS F tyl [(12, c_spec_SameState F), (10, c_laws_toState F), (13, c_impl_SameState F)] (fun _ => none) 0) Try.f4 false [V.agg [A.fl FloatKind.f32 x0, A.fl FloatKind.f32 x1], V.agg [A.fl FloatKind.f32 x2, A.fl FloatKind.f32 x3]] [] = bif Bool.not ((Pure.impl_SameState F x0 x1 x2 x3) == (Pure.spec_SameState F x0 x1 x2 x3)) then some ⟨V.at (A.bool false), none, []⟩ else some ⟨V.at (A.bool true), none, []⟩ := by kernel_rfl
  rw [h0]
  unfold Pure.laws_FnExactSameState
  cases ((Pure.impl_SameState F x0 x1 x2 x3) == (Pure.spec_SameState F x0 x1 x2 x3)) with
  | true =>
    rfl
  | false =>
    rfl
theorem ok_laws_FnExactSameState : CallOK Try.prog 4 (c_laws_FnExactSameState real) := by
  intro args h r news hc
  unfold c_laws_FnExactSameState at hc
  split at hc
  · rename_i x0 x1 x2 x3
    obtain ⟨rfl, rfl⟩ := some_ret hc
    exact holds_ev prog_ok (allOK_cons ok_spec_SameState (allOK_cons ok_laws_toState (allOK_cons ok_impl_SameState allOK_nil))) Try.func4 rfl rfl rfl (e_laws_FnExactSameState real x0 x1 x2 x3)
  · cases hc
end Go.Fx
