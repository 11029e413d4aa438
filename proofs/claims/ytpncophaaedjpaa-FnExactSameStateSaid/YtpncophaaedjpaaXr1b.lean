import Derived.Test.YtpncophaaedjpaaXr1a
import Derived.KernelRfl
namespace Go.Fx
open Go.Proofs
def Pure.spec_l07Is (F : FOps) (x0 : Int) (x1 : Int) : Bool := bif FOps.cmp F BinOp.geq FloatKind.f32 x0 0 then bif FOps.cmp F BinOp.lss FloatKind.f32 x0 1065353216 then bif FOps.cmp F BinOp.geq FloatKind.f32 x1 3204448256 then FOps.cmp F BinOp.lss FloatKind.f32 x1 1056964608 else false else false else false
def c_spec_l07Is (F : FOps) : Con
  | [V.agg [A.fl FloatKind.f32 x0, A.fl FloatKind.f32 x1]], [] => some ⟨V.at (A.bool (Pure.spec_l07Is F x0 x1)), none, []⟩
  | _, _ => none
theorem e_spec_l07Is (F : FOps) (x0 : Int) (x1 : Int) : evFn (cxS F tyl [] (fun _ => none) 0) Try.f26 false [V.agg [A.fl FloatKind.f32 x0, A.fl FloatKind.f32 x1]] [] = some ⟨V.at (A.bool (Pure.spec_l07Is F x0 x1)), none, []⟩ := by
  have h0 : evFn (cxS F tyl [] (fun _ => none) 0) Try.f26 false [V.agg [A.fl FloatKind.f32 x0, A.fl FloatKind.f32 x1]] [] = bif FOps.cmp F BinOp.geq FloatKind.f32 x0 0 then bif FOps.cmp F BinOp.lss FloatKind.f32 x0 1065353216 then bif FOps.cmp F BinOp.geq FloatKind.f32 x1 3204448256 then some ⟨V.at (A.bool (FOps.cmp F BinOp.lss FloatKind.f32 x1 1056964608)), none, []⟩ else some ⟨V.at (A.bool false), none, []⟩ else some ⟨V.at (A.bool false), none, []⟩ else some ⟨V.at (A.bool false), none, []⟩ := by kernel_rfl
  rw [h0]
  unfold Pure.spec_l07Is
  cases (FOps.cmp F BinOp.geq FloatKind.f32 x0 0) with
  | true =>
    cases (FOps.cmp F BinOp.lss FloatKind.f32 x0 1065353216) with
    | true =>
      cases (FOps.cmp F BinOp.geq FloatKind.f32 x1 3204448256) with
      | true =>
        rfl
      | false =>
        rfl
    | false =>
      rfl
  | false =>
    rfl
theorem ok_spec_l07Is : CallOK Try.prog 26 (c_spec_l07Is real) := by
  intro args h r news hc
  unfold c_spec_l07Is at hc
  split at hc
  · rename_i x0 x1
    obtain ⟨rfl, rfl⟩ := some_ret hc
    exact holds_ev prog_ok allOK_nil Try.func26 rfl rfl rfl (e_spec_l07Is real x0 x1)
  · cases hc
def Pure.impl_ValidState (F : FOps) (x0 : Int) (x1 : Int) : Bool := bif FOps.cmp F BinOp.geq FloatKind.f32 x0 0 then bif FOps.cmp F BinOp.lss FloatKind.f32 x0 1065353216 then bif FOps.cmp F BinOp.geq FloatKind.f32 x1 3204448256 then FOps.cmp F BinOp.lss FloatKind.f32 x1 1056964608 else false else false else false
def c_impl_ValidState (F : FOps) : Con
  | [V.agg [A.fl FloatKind.f32 x0, A.fl FloatKind.f32 x1]], [] => some ⟨V.at (A.bool (Pure.impl_ValidState F x0 x1)), none, []⟩
  | _, _ => none
theorem e_impl_ValidState (F : FOps) (x0 : Int) (x1 : Int) : evFn (cxS F tyl [] (fun _ => none) 0) Try.f11 false [V.agg [A.fl FloatKind.f32 x0, A.fl FloatKind.f32 x1]] [] = some ⟨V.at (A.bool (Pure.impl_ValidState F x0 x1)), none, []⟩ := by
  have h0 : evFn (cxS F tyl [] (fun _ => none) 0) Try.f11 false [V.agg [A.fl FloatKind.f32 x0, A.fl FloatKind.f32 x1]] [] = bif FOps.cmp F BinOp.geq FloatKind.f32 x0 0 then bif FOps.cmp F BinOp.lss FloatKind.f32 x0 1065353216 then bif FOps.cmp F BinOp.geq FloatKind.f32 x1 3204448256 then some ⟨V.at (A.bool (FOps.cmp F BinOp.lss FloatKind.f32 x1 1056964608)), none, []⟩ else some ⟨V.at (A.bool false), none, []⟩ else some ⟨V.at (A.bool false), none, []⟩ else some ⟨V.at (A.bool false), none, []⟩ := by kernel_rfl
  rw [h0]
  unfold Pure.impl_ValidState
  cases (FOps.cmp F BinOp.geq FloatKind.f32 x0 0) with
  | true =>
    cases (FOps.cmp F BinOp.lss FloatKind.f32 x0 1065353216) with
    | true =>
      cases (FOps.cmp F BinOp.geq FloatKind.f32 x1 3204448256) with
      | true =>
        rfl
      | false =>
        rfl
    | false =>
      rfl
  | false =>
    rfl
theorem ok_impl_ValidState : CallOK Try.prog 11 (c_impl_ValidState real) := by
  intro args h r news hc
  unfold c_impl_ValidState at hc
  split at hc
  · rename_i x0 x1
    obtain ⟨rfl, rfl⟩ := some_ret hc
    exact holds_ev prog_ok allOK_nil Try.func11 rfl rfl rfl (e_impl_ValidState real x0 x1)
  · cases hc
def c_laws_toState (F : FOps) : Con
  | [V.agg [A.fl FloatKind.f32 x0, A.fl FloatKind.f32 x1]], [] => some ⟨V.agg [A.fl FloatKind.f32 x0, A.fl FloatKind.f32 x1], none, []⟩
  | _, _ => none
theorem e_laws_toState (F : FOps) (x0 : Int) (x1 : Int) : evFn (cxS F tyl [] (fun _ => none) 0) Try.f10 false [V.agg [A.fl FloatKind.f32 x0, A.fl FloatKind.f32 x1]] [] = some ⟨V.agg [A.fl FloatKind.f32 x0, A.fl FloatKind.f32 x1], none, []⟩ := by kernel_rfl
theorem ok_laws_toState : CallOK Try.prog 10 (c_laws_toState real) := by
  intro args h r news hc
  unfold c_laws_toState at hc
  split at hc
  · rename_i x0 x1
    obtain ⟨rfl, rfl⟩ := some_ret hc
    exact holds_ev prog_ok allOK_nil Try.func10 rfl rfl rfl (e_laws_toState real x0 x1)
  · cases hc
def c_spec_ValidState (F : FOps) : Con
  | [V.agg [A.fl FloatKind.f32 x0, A.fl FloatKind.f32 x1]], [] => some ⟨V.at (A.bool (Pure.spec_l07Is F x0 x1)), none, []⟩
  | _, _ => none
theorem e_spec_ValidState (F : FOps) (x0 : Int) (x1 : Int) : evFn (cxS F tyl [(26, c_spec_l07Is F)] (fun _ => none) 0) Try.f9 false [V.agg [A.fl FloatKind.f32 x0, A.fl FloatKind.f32 x1]] [] = some ⟨V.at (A.bool (Pure.spec_l07Is F x0 x1)), none, []⟩ := by kernel_rfl
theorem ok_spec_ValidState : CallOK Try.prog 9 (c_spec_ValidState real) := by
  intro args h r news hc
  unfold c_spec_ValidState at hc
  split at hc
  · rename_i x0 x1
    obtain ⟨rfl, rfl⟩ := some_ret hc
    exact holds_ev prog_ok (allOK_cons ok_spec_l07Is allOK_nil) Try.func9 rfl rfl rfl (e_spec_ValidState real x0 x1)
  · cases hc
def Pure.laws_FnExactValidState (F : FOps) (x0 : Int) (x1 : Int) : Bool := (Pure.impl_ValidState F x0 x1) == (Pure.spec_l07Is F x0 x1)
def c_laws_FnExactValidState (F : FOps) : Con
  | [V.agg [A.fl FloatKind.f32 x0, A.fl FloatKind.f32 x1]], [] => some ⟨V.at (A.bool (Pure.laws_FnExactValidState F x0 x1)), none, []⟩
  | _, _ => none
theorem e_laws_FnExactValidState (F : FOps) (x0 : Int) (x1 : Int) : evFn (cxS F tyl [(9, c_spec_ValidState F), (10, c_laws_toState F), (11, c_impl_ValidState F)] (fun _ => none) 0) Try.f3 false [V.agg [A.fl FloatKind.f32 x0, A.fl FloatKind.f32 x1]] [] = some ⟨V.at (A.bool (Pure.laws_FnExactValidState F x0 x1)), none, []⟩ := by
  have h0 : evFn (cxS F tyl [(9, c_spec_ValidState F), (10, c_laws_toState F), (11, c_impl_ValidState F)] (fun _ => none) 0) Try.f3 false [V.agg [A.fl FloatKind.f32 x0, A.fl FloatKind.f32 x1]] [] = bif Bool.not ((Pure.impl_ValidState F x0 x1) == (Pure.spec_l07Is F x0 x1)) then some ⟨V.at (A.bool false), none, []⟩ else some ⟨V.at (A.bool true), none, []⟩ := by kernel_rfl
  rw [h0]
  unfold Pure.laws_FnExactValidState
  cases ((Pure.impl_ValidState F x0 x1) == (Pure.spec_l07Is F x0 x1)) with
  | true =>
    rfl
  | false =>
    rfl
theorem ok_laws_FnExactValidState : CallOK Try.prog 3 (c_laws_FnExactValidState real) := by
  intro args h r news hc
  unfold c_laws_FnExactValidState at hc
  split at hc
  · rename_i x0 x1
    obtain ⟨rfl, rfl⟩ := some_ret hc
    exact holds_ev prog_ok (allOK_cons ok_spec_ValidState (allOK_cons ok_laws_toState (allOK_cons ok_impl_ValidState allOK_nil))) Try.func3 rfl rfl rfl (e_laws_FnExactValidState real x0 x1)
  · cases hc
end Go.Fx
