import Derived.Test.YtpdeekgbdalnaaaXr5b2
import Derived.KernelRfl
namespace Go.Fx
open Go.Proofs
set_option maxRecDepth 100000
def c_laws_toTable (_ : FOps) : Con
  | [V.agg [A.fl FloatKind.f32 x0, A.fl FloatKind.f32 x1, A.fl FloatKind.f32 x2, A.fl FloatKind.f32 x3]], [] => some (true, ⟨V.agg [A.fl FloatKind.f32 x0, A.fl FloatKind.f32 x1, A.fl FloatKind.f32 x2, A.fl FloatKind.f32 x3], none, []⟩)
  | _, _ => none
theorem e_laws_toTable (F : FOps) (x0 : Int) (x1 : Int) (x2 : Int) (x3 : Int) : evFn (cxS F tyl [] [] [] 0) Try.f16 false [V.agg [A.fl FloatKind.f32 x0, A.fl FloatKind.f32 x1, A.fl FloatKind.f32 x2, A.fl FloatKind.f32 x3]] [] = some ⟨V.agg [A.fl FloatKind.f32 x0, A.fl FloatKind.f32 x1, A.fl FloatKind.f32 x2, A.fl FloatKind.f32 x3], none, []⟩ := by
  kernel_rfl
theorem ok_laws_toTable : CallOK Try.prog 16 (c_laws_toTable real) := by
  refine callOK_of fun args h ret hc => ?_
  unfold c_laws_toTable at hc
  split at hc
  · rename_i x0 x1 x2 x3
    obtain ⟨_, rfl⟩ := some_ret hc
    exact holds_ev prog_ok allOK_nil Try.func16 rfl rfl smL_nil rfl (e_laws_toTable real x0 x1 x2 x3)
  · cases hc
def Pure.spec_l01Finite (F : FOps) (x0 : Int) : Bool := FOps.cmp F BinOp.eql FloatKind.f32 (FOps.bin F BinOp.sub FloatKind.f32 x0 x0) 0
def c_spec_l01Finite (F : FOps) : Con
  | [V.at (A.fl FloatKind.f32 x0)], [] => some (true, ⟨V.at (A.bool (Pure.spec_l01Finite F x0)), none, []⟩)
  | _, _ => none
theorem e_spec_l01Finite (F : FOps) (x0 : Int) : evFn (cxS F tyl [] [] [] 0) Try.f59 false [V.at (A.fl FloatKind.f32 x0)] [] = some ⟨V.at (A.bool (Pure.spec_l01Finite F x0)), none, []⟩ := by
  kernel_rfl
theorem ok_spec_l01Finite : CallOK Try.prog 59 (c_spec_l01Finite real) := by
  refine callOK_of fun args h ret hc => ?_
  unfold c_spec_l01Finite at hc
  split at hc
  · rename_i x0
    obtain ⟨_, rfl⟩ := some_ret hc
    exact holds_ev prog_ok allOK_nil Try.func59 rfl rfl smL_nil rfl (e_spec_l01Finite real x0)
  · cases hc
def Pure.spec_l06Share (F : FOps) (x0 : Int) : Bool := bif FOps.cmp F BinOp.geq FloatKind.f32 x0 0 then FOps.cmp F BinOp.leq FloatKind.f32 x0 1065353216 else false
def c_spec_l06Share (F : FOps) : Con
  | [V.at (A.fl FloatKind.f32 x0)], [] => some (true, ⟨V.at (A.bool (Pure.spec_l06Share F x0)), none, []⟩)
  | _, _ => none
theorem e_spec_l06Share (F : FOps) (x0 : Int) : evFn (cxS F tyl [] [] [] 0) Try.f97 false [V.at (A.fl FloatKind.f32 x0)] [] = some ⟨V.at (A.bool (Pure.spec_l06Share F x0)), none, []⟩ := by
  have h0 : evFn (cxS F tyl [] [] [] 0) Try.f97 false [V.at (A.fl FloatKind.f32 x0)] [] = bif FOps.cmp F BinOp.geq FloatKind.f32 x0 0 then some ⟨V.at (A.bool (FOps.cmp F BinOp.leq FloatKind.f32 x0 1065353216)), none, []⟩ else some ⟨V.at (A.bool false), none, []⟩ := by kernel_rfl
  rw [h0]
  unfold Pure.spec_l06Share
  cases (FOps.cmp F BinOp.geq FloatKind.f32 x0 0) with
  | true =>
    rfl
  | false =>
    rfl
theorem ok_spec_l06Share : CallOK Try.prog 97 (c_spec_l06Share real) := by
  refine callOK_of fun args h ret hc => ?_
  unfold c_spec_l06Share at hc
  split at hc
  · rename_i x0
    obtain ⟨_, rfl⟩ := some_ret hc
    exact holds_ev prog_ok allOK_nil Try.func97 rfl rfl smL_nil rfl (e_spec_l06Share real x0)
  · cases hc
def Pure.spec_l02Above (F : FOps) (x0 : Int) : Bool := bif Pure.spec_l01Finite F x0 then FOps.cmp F BinOp.gtr FloatKind.f32 x0 0 else false
def c_spec_l02Above (F : FOps) : Con
  | [V.at (A.fl FloatKind.f32 x0)], [] => some (true, ⟨V.at (A.bool (Pure.spec_l02Above F x0)), none, []⟩)
  | _, _ => none
theorem e_spec_l02Above (F : FOps) (x0 : Int) : evFn (cxS F tyl [(59, c_spec_l01Finite F)] [] [] 0) Try.f98 false [V.at (A.fl FloatKind.f32 x0)] [] = some ⟨V.at (A.bool (Pure.spec_l02Above F x0)), none, []⟩ := by
  have h0 : evFn (cxS F tyl [(59, c_spec_l01Finite F)] [] [] 0) Try.f98 false [V.at (A.fl FloatKind.f32 x0)] [] = bif Pure.spec_l01Finite F x0 then some ⟨V.at (A.bool (FOps.cmp F BinOp.gtr FloatKind.f32 x0 0)), none, []⟩ else some ⟨V.at (A.bool false), none, []⟩ := by kernel_rfl
  rw [h0]
  unfold Pure.spec_l02Above
  cases (Pure.spec_l01Finite F x0) with
  | true =>
    rfl
  | false =>
    rfl
theorem ok_spec_l02Above : CallOK Try.prog 98 (c_spec_l02Above real) := by
  refine callOK_of fun args h ret hc => ?_
  unfold c_spec_l02Above at hc
  split at hc
  · rename_i x0
    obtain ⟨_, rfl⟩ := some_ret hc
    exact holds_ev prog_ok (allOK_cons ok_spec_l01Finite allOK_nil) Try.func98 rfl rfl smL_nil rfl (e_spec_l02Above real x0)
  · cases hc
def Pure.spec_l06Table (F : FOps) (x0 : Int) (x1 : Int) (x2 : Int) (x3 : Int) : Bool := bif Pure.spec_l01Finite F x0 then bif Pure.spec_l01Finite F x1 then bif Pure.spec_l06Share F x2 then Pure.spec_l02Above F x3 else false else false else false
def c_spec_l06Table (F : FOps) : Con
  | [V.at (A.ptr 0 0 0)], [⟨false, OC.box [A.fl FloatKind.f32 x0, A.fl FloatKind.f32 x1, A.fl FloatKind.f32 x2, A.fl FloatKind.f32 x3]⟩] => some (true, ⟨V.at (A.bool (Pure.spec_l06Table F x0 x1 x2 x3)), none, []⟩)
  | _, _ => none
theorem e_spec_l06Table (F : FOps) (x0 : Int) (x1 : Int) (x2 : Int) (x3 : Int) : evFn (cxS F tyl [(59, c_spec_l01Finite F), (97, c_spec_l06Share F), (98, c_spec_l02Above F)] [] [] 0) Try.f58 false [V.at (A.ptr 0 0 0)] [⟨false, OC.box [A.fl FloatKind.f32 x0, A.fl FloatKind.f32 x1, A.fl FloatKind.f32 x2, A.fl FloatKind.f32 x3]⟩] = some ⟨V.at (A.bool (Pure.spec_l06Table F x0 x1 x2 x3)), none, []⟩ := by
  have h0 : evFn (cxS F tyl [(59, c_spec_l01Finite F), (97, c_spec_l06Share F), (98, c_spec_l02Above F)] [] [] 0) Try.f58 false [V.at (A.ptr 0 0 0)] [⟨false, OC.box [A.fl FloatKind.f32 x0, A.fl FloatKind.f32 x1, A.fl FloatKind.f32 x2, A.fl FloatKind.f32 x3]⟩] = bif Pure.spec_l01Finite F x0 then bif Pure.spec_l01Finite F x1 then bif Pure.spec_l06Share F x2 then some ⟨V.at (A.bool (Pure.spec_l02Above F x3)), none, []⟩ else some ⟨V.at (A.bool false), none, []⟩ else some ⟨V.at (A.bool false), none, []⟩ else some ⟨V.at (A.bool false), none, []⟩ := by kernel_rfl
  rw [h0]
  unfold Pure.spec_l06Table
  cases (Pure.spec_l01Finite F x0) with
  | true =>
    cases (Pure.spec_l01Finite F x1) with
    | true =>
      cases (Pure.spec_l06Share F x2) with
      | true =>
        rfl
      | false =>
        rfl
    | false =>
      rfl
  | false =>
    rfl
theorem ok_spec_l06Table : CallOK Try.prog 58 (c_spec_l06Table real) := by
  refine callOK_of fun args h ret hc => ?_
  unfold c_spec_l06Table at hc
  split at hc
  · rename_i x0 x1 x2 x3
    obtain ⟨_, rfl⟩ := some_ret hc
    exact holds_ev prog_ok (allOK_cons ok_spec_l01Finite (allOK_cons ok_spec_l06Share (allOK_cons ok_spec_l02Above allOK_nil))) Try.func58 rfl rfl smL_nil rfl (e_spec_l06Table real x0 x1 x2 x3)
  · cases hc
def Pure.spec_l06High (F : FOps) (x0 : Int) (x1 : Int) (x2 : Int) (x3 : Int) (x4 : Int) : Int := FOps.bin F BinOp.mul FloatKind.f32 x0 (Pure.spec_l01Sine F (FOps.bin F BinOp.mul FloatKind.f32 x1 x4))
def Pure.spec_l06High_ok (F : FOps) (x0 : Int) (x1 : Int) (x2 : Int) (x3 : Int) (x4 : Int) : Bool := Pure.spec_l01Sine_ok F (FOps.bin F BinOp.mul FloatKind.f32 x1 x4)
def c_spec_l06High (F : FOps) : Con
  | [V.at (A.ptr 0 0 0), V.at (A.fl FloatKind.f32 x4)], [⟨false, OC.box [A.fl FloatKind.f32 x0, A.fl FloatKind.f32 x1, A.fl FloatKind.f32 x2, A.fl FloatKind.f32 x3]⟩] => some (Pure.spec_l06High_ok F x0 x1 x2 x3 x4, ⟨V.at (A.fl FloatKind.f32 (Pure.spec_l06High F x0 x1 x2 x3 x4)), none, []⟩)
  | _, _ => none
theorem e_spec_l06High (F : FOps) (x0 : Int) (x1 : Int) (x2 : Int) (x3 : Int) (x4 : Int) : Pure.spec_l06High_ok F x0 x1 x2 x3 x4 = true → evFn (cxS F tyl [(99, c_spec_l01Sine F)] [] [] 0) Try.f61 false [V.at (A.ptr 0 0 0), V.at (A.fl FloatKind.f32 x4)] [⟨false, OC.box [A.fl FloatKind.f32 x0, A.fl FloatKind.f32 x1, A.fl FloatKind.f32 x2, A.fl FloatKind.f32 x3]⟩] = some ⟨V.at (A.fl FloatKind.f32 (Pure.spec_l06High F x0 x1 x2 x3 x4)), none, []⟩ := by
  have h0 : evFn (cxS F tyl [(99, c_spec_l01Sine F)] [] [] 0) Try.f61 false [V.at (A.ptr 0 0 0), V.at (A.fl FloatKind.f32 x4)] [⟨false, OC.box [A.fl FloatKind.f32 x0, A.fl FloatKind.f32 x1, A.fl FloatKind.f32 x2, A.fl FloatKind.f32 x3]⟩] = bif Pure.spec_l01Sine_ok F (FOps.bin F BinOp.mul FloatKind.f32 x1 x4) then some ⟨V.at (A.fl FloatKind.f32 (FOps.bin F BinOp.mul FloatKind.f32 x0 (Pure.spec_l01Sine F (FOps.bin F BinOp.mul FloatKind.f32 x1 x4)))), none, []⟩ else none := by kernel_rfl
  rw [h0]
  unfold Pure.spec_l06High Pure.spec_l06High_ok
  cases (Pure.spec_l01Sine_ok F (FOps.bin F BinOp.mul FloatKind.f32 x1 x4)) with
  | true =>
    intro _; rfl
  | false =>
    intro h; exact absurd h Bool.false_ne_true
theorem ok_spec_l06High : CallOK Try.prog 61 (c_spec_l06High real) := by
  refine callOK_of fun args h ret hc => ?_
  unfold c_spec_l06High at hc
  split at hc
  · rename_i x4 x0 x1 x2 x3
    obtain ⟨hok, rfl⟩ := some_ret hc
    exact holds_ev prog_ok (allOK_cons ok_spec_l01Sine allOK_nil) Try.func61 rfl rfl smL_nil rfl (e_spec_l06High real x0 x1 x2 x3 x4 hok)
  · cases hc
def Pure.spec_l02Number (F : FOps) (x0 : Int) : Int := bif Pure.spec_l01Finite F x0 then x0 else 0
def Pure.spec_TableAt (F : FOps) (x0 : Int) (x1 : Int) (x2 : Int) (x3 : Int) (x4 : Int) : Int := bif Pure.spec_l06Table F x0 x1 x2 x3 then bif Pure.spec_l01Finite F x4 then Pure.spec_l02Number F (Pure.spec_l06High F x0 x1 x2 x3 x4) else 0 else 0
def Pure.spec_TableAt_1 (F : FOps) (x0 : Int) (x1 : Int) (x2 : Int) (x3 : Int) (x4 : Int) : Bool := bif Pure.spec_l06Table F x0 x1 x2 x3 then bif Pure.spec_l01Finite F x4 then Pure.spec_l01Finite F (Pure.spec_l06High F x0 x1 x2 x3 x4) else false else false
def Pure.spec_TableAt_ok (F : FOps) (x0 : Int) (x1 : Int) (x2 : Int) (x3 : Int) (x4 : Int) : Bool := bif Pure.spec_l06Table F x0 x1 x2 x3 then bif Pure.spec_l01Finite F x4 then Pure.spec_l06High_ok F x0 x1 x2 x3 x4 else true else true
def Pure.impl_finite (F : FOps) (x0 : List (List Int)) : Bool := bif Pure.slices_ContainsFunc_float32_float32_finite F x0 then false else true
def Pure.impl_finite_ok (F : FOps) (x0 : List (List Int)) : Bool := Pure.slices_ContainsFunc_float32_float32_finite_ok F x0
def c_impl_finite (F : FOps) : Con
  | [V.at (A.sl 0)], [⟨false, OC.rows [K.f FloatKind.f32] x0⟩] => some (Pure.impl_finite_ok F x0, ⟨V.at (A.bool (Pure.impl_finite F x0)), none, []⟩)
  | _, _ => none
theorem e_impl_finite (F : FOps) (x0 : List (List Int)) : Pure.impl_finite_ok F x0 = true → evFn (cxS F tyl [(103, c_slices_ContainsFunc_float32_float32_finite F), (104, c_impl_finite_c1 F)] [] [] 0) Try.f70 false [V.at (A.sl 0)] [⟨false, OC.rows [K.f FloatKind.f32] x0⟩] = some ⟨V.at (A.bool (Pure.impl_finite F x0)), none, []⟩ := by
  have h0 : evFn (cxS F tyl [(103, c_slices_ContainsFunc_float32_float32_finite F), (104, c_impl_finite_c1 F)] [] [] 0) Try.f70 false [V.at (A.sl 0)] [⟨false, OC.rows [K.f FloatKind.f32] x0⟩] = bif Pure.slices_ContainsFunc_float32_float32_finite_ok F x0 then some ⟨V.at (A.bool (bif Pure.slices_ContainsFunc_float32_float32_finite F x0 then false else true)), none, []⟩ else none := by kernel_rfl
  rw [h0]
  unfold Pure.impl_finite Pure.impl_finite_ok
  cases (Pure.slices_ContainsFunc_float32_float32_finite_ok F x0) with
  | true =>
    intro _; rfl
  | false =>
    intro h; exact absurd h Bool.false_ne_true
theorem ok_impl_finite : CallOK Try.prog 70 (c_impl_finite real) := by
  refine callOK_of fun args h ret hc => ?_
  unfold c_impl_finite at hc
  split at hc
  · rename_i x0
    obtain ⟨hok, rfl⟩ := some_ret hc
    exact holds_ev prog_ok (allOK_cons ok_slices_ContainsFunc_float32_float32_finite (allOK_cons ok_impl_finite_c1 allOK_nil)) Try.func70 rfl rfl smL_nil rfl (e_impl_finite real x0 hok)
  · cases hc
def Pure.impl_shareOk (F : FOps) (x0 : Int) : Bool := bif FOps.cmp F BinOp.geq FloatKind.f32 x0 0 then FOps.cmp F BinOp.leq FloatKind.f32 x0 1065353216 else false
def c_impl_shareOk (F : FOps) : Con
  | [V.at (A.fl FloatKind.f32 x0)], [] => some (true, ⟨V.at (A.bool (Pure.impl_shareOk F x0)), none, []⟩)
  | _, _ => none
theorem e_impl_shareOk (F : FOps) (x0 : Int) : evFn (cxS F tyl [] [] [] 0) Try.f71 false [V.at (A.fl FloatKind.f32 x0)] [] = some ⟨V.at (A.bool (Pure.impl_shareOk F x0)), none, []⟩ := by
  have h0 : evFn (cxS F tyl [] [] [] 0) Try.f71 false [V.at (A.fl FloatKind.f32 x0)] [] = bif FOps.cmp F BinOp.geq FloatKind.f32 x0 0 then some ⟨V.at (A.bool (FOps.cmp F BinOp.leq FloatKind.f32 x0 1065353216)), none, []⟩ else some ⟨V.at (A.bool false), none, []⟩ := by kernel_rfl
  rw [h0]
  unfold Pure.impl_shareOk
  cases (FOps.cmp F BinOp.geq FloatKind.f32 x0 0) with
  | true =>
    rfl
  | false =>
    rfl
theorem ok_impl_shareOk : CallOK Try.prog 71 (c_impl_shareOk real) := by
  refine callOK_of fun args h ret hc => ?_
  unfold c_impl_shareOk at hc
  split at hc
  · rename_i x0
    obtain ⟨_, rfl⟩ := some_ret hc
    exact holds_ev prog_ok allOK_nil Try.func71 rfl rfl smL_nil rfl (e_impl_shareOk real x0)
  · cases hc
def Pure.impl_lengthOk (F : FOps) (x0 : Int) : Bool := bif Pure.impl_IsFinite F x0 then FOps.cmp F BinOp.gtr FloatKind.f32 x0 0 else false
def c_impl_lengthOk (F : FOps) : Con
  | [V.at (A.fl FloatKind.f32 x0)], [] => some (true, ⟨V.at (A.bool (Pure.impl_lengthOk F x0)), none, []⟩)
  | _, _ => none
theorem e_impl_lengthOk (F : FOps) (x0 : Int) : evFn (cxS F tyl [(62, c_impl_IsFinite F)] [] [] 0) Try.f67 false [V.at (A.fl FloatKind.f32 x0)] [] = some ⟨V.at (A.bool (Pure.impl_lengthOk F x0)), none, []⟩ := by
  have h0 : evFn (cxS F tyl [(62, c_impl_IsFinite F)] [] [] 0) Try.f67 false [V.at (A.fl FloatKind.f32 x0)] [] = bif Pure.impl_IsFinite F x0 then some ⟨V.at (A.bool (FOps.cmp F BinOp.gtr FloatKind.f32 x0 0)), none, []⟩ else some ⟨V.at (A.bool false), none, []⟩ := by kernel_rfl
  rw [h0]
  unfold Pure.impl_lengthOk
  cases (Pure.impl_IsFinite F x0) with
  | true =>
    rfl
  | false =>
    rfl
theorem ok_impl_lengthOk : CallOK Try.prog 67 (c_impl_lengthOk real) := by
  refine callOK_of fun args h ret hc => ?_
  unfold c_impl_lengthOk at hc
  split at hc
  · rename_i x0
    obtain ⟨_, rfl⟩ := some_ret hc
    exact holds_ev prog_ok (allOK_cons ok_impl_IsFinite allOK_nil) Try.func67 rfl rfl smL_nil rfl (e_impl_lengthOk real x0)
  · cases hc
def Pure.impl_ValidTable (F : FOps) (x0 : Int) (x1 : Int) (x2 : Int) (x3 : Int) : Bool := bif Pure.impl_finite F [[x0], [x1]] then bif Pure.impl_shareOk F x2 then Pure.impl_lengthOk F x3 else false else false
def Pure.impl_ValidTable_ok (F : FOps) (x0 : Int) (x1 : Int) (x2 : Int) (x3 : Int) : Bool := Pure.impl_finite_ok F [[x0], [x1]]
def c_impl_ValidTable (F : FOps) : Con
  | [V.agg [A.fl FloatKind.f32 x0, A.fl FloatKind.f32 x1, A.fl FloatKind.f32 x2, A.fl FloatKind.f32 x3]], [] => some (Pure.impl_ValidTable_ok F x0 x1 x2 x3, ⟨V.at (A.bool (Pure.impl_ValidTable F x0 x1 x2 x3)), none, []⟩)
  | _, _ => none
theorem e_impl_ValidTable (F : FOps) (x0 : Int) (x1 : Int) (x2 : Int) (x3 : Int) : Pure.impl_ValidTable_ok F x0 x1 x2 x3 = true → evFn (cxS F tyl [(70, c_impl_finite F), (71, c_impl_shareOk F), (67, c_impl_lengthOk F)] [] [] 0) Try.f24 false [V.agg [A.fl FloatKind.f32 x0, A.fl FloatKind.f32 x1, A.fl FloatKind.f32 x2, A.fl FloatKind.f32 x3]] [] = some ⟨V.at (A.bool (Pure.impl_ValidTable F x0 x1 x2 x3)), none, []⟩ := by
  have h0 : evFn (cxS F tyl [(70, c_impl_finite F), (71, c_impl_shareOk F), (67, c_impl_lengthOk F)] [] [] 0) Try.f24 false [V.agg [A.fl FloatKind.f32 x0, A.fl FloatKind.f32 x1, A.fl FloatKind.f32 x2, A.fl FloatKind.f32 x3]] [] = bif Pure.impl_finite_ok F [[x0], [x1]] then bif Pure.impl_finite F [[x0], [x1]] then bif Pure.impl_shareOk F x2 then some ⟨V.at (A.bool (Pure.impl_lengthOk F x3)), none, []⟩ else some ⟨V.at (A.bool false), none, []⟩ else some ⟨V.at (A.bool false), none, []⟩ else none := by kernel_rfl
  rw [h0]
  unfold Pure.impl_ValidTable Pure.impl_ValidTable_ok
  cases (Pure.impl_finite_ok F [[x0], [x1]]) with
  | true =>
    cases (Pure.impl_finite F [[x0], [x1]]) with
    | true =>
      cases (Pure.impl_shareOk F x2) with
      | true =>
        intro _; rfl
      | false =>
        intro _; rfl
    | false =>
      intro _; rfl
  | false =>
    intro h; exact absurd h Bool.false_ne_true
theorem ok_impl_ValidTable : CallOK Try.prog 24 (c_impl_ValidTable real) := by
  refine callOK_of fun args h ret hc => ?_
  unfold c_impl_ValidTable at hc
  split at hc
  · rename_i x0 x1 x2 x3
    obtain ⟨hok, rfl⟩ := some_ret hc
    exact holds_ev prog_ok (allOK_cons ok_impl_finite (allOK_cons ok_impl_shareOk (allOK_cons ok_impl_lengthOk allOK_nil))) Try.func24 rfl rfl smL_nil rfl (e_impl_ValidTable real x0 x1 x2 x3 hok)
  · cases hc
def Pure.impl_toldNumber (F : FOps) (x0 : Int) : Int := bif Pure.impl_IsFinite F x0 then x0 else 0
def c_impl_toldNumber (F : FOps) : Con
  | [V.at (A.fl FloatKind.f32 x0)], [] => some (true, ⟨V.tup [(false, [A.fl FloatKind.f32 (Pure.impl_toldNumber F x0)]), (false, [A.bool (Pure.impl_IsFinite F x0)])], none, []⟩)
  | _, _ => none
theorem e_impl_toldNumber (F : FOps) (x0 : Int) : evFn (cxS F tyl [(62, c_impl_IsFinite F)] [] [] 0) Try.f63 false [V.at (A.fl FloatKind.f32 x0)] [] = some ⟨V.tup [(false, [A.fl FloatKind.f32 (Pure.impl_toldNumber F x0)]), (false, [A.bool (Pure.impl_IsFinite F x0)])], none, []⟩ := by
  have h0 : evFn (cxS F tyl [(62, c_impl_IsFinite F)] [] [] 0) Try.f63 false [V.at (A.fl FloatKind.f32 x0)] [] = bif Bool.not (Pure.impl_IsFinite F x0) then some ⟨V.tup [(false, [A.fl FloatKind.f32 0]), (false, [A.bool false])], none, []⟩ else some ⟨V.tup [(false, [A.fl FloatKind.f32 x0]), (false, [A.bool true])], none, []⟩ := by kernel_rfl
  rw [h0]
  unfold Pure.impl_toldNumber
  cases (Pure.impl_IsFinite F x0) with
  | true =>
    rfl
  | false =>
    rfl
theorem ok_impl_toldNumber : CallOK Try.prog 63 (c_impl_toldNumber real) := by
  refine callOK_of fun args h ret hc => ?_
  unfold c_impl_toldNumber at hc
  split at hc
  · rename_i x0
    obtain ⟨_, rfl⟩ := some_ret hc
    exact holds_ev prog_ok (allOK_cons ok_impl_IsFinite allOK_nil) Try.func63 rfl rfl smL_nil rfl (e_impl_toldNumber real x0)
  · cases hc
def Pure.impl_TableAt (F : FOps) (x0 : Int) (x1 : Int) (x2 : Int) (x3 : Int) (x4 : Int) : Int := bif Pure.impl_ValidTable F x0 x1 x2 x3 then bif Pure.impl_IsFinite F x4 then Pure.impl_toldNumber F (FOps.bin F BinOp.mul FloatKind.f32 x0 (Pure.impl_SineTurns F (FOps.bin F BinOp.mul FloatKind.f32 x1 x4))) else 0 else 0
def Pure.impl_TableAt_1 (F : FOps) (x0 : Int) (x1 : Int) (x2 : Int) (x3 : Int) (x4 : Int) : Bool := bif Pure.impl_ValidTable F x0 x1 x2 x3 then bif Pure.impl_IsFinite F x4 then Pure.impl_IsFinite F (FOps.bin F BinOp.mul FloatKind.f32 x0 (Pure.impl_SineTurns F (FOps.bin F BinOp.mul FloatKind.f32 x1 x4))) else false else false
def Pure.impl_TableAt_ok (F : FOps) (x0 : Int) (x1 : Int) (x2 : Int) (x3 : Int) (x4 : Int) : Bool := bif Pure.impl_ValidTable_ok F x0 x1 x2 x3 then bif Pure.impl_ValidTable F x0 x1 x2 x3 then bif Pure.impl_IsFinite F x4 then Pure.impl_SineTurns_ok F (FOps.bin F BinOp.mul FloatKind.f32 x1 x4) else true else true else false
def c_impl_TableAt (F : FOps) : Con
  | [V.agg [A.fl FloatKind.f32 x0, A.fl FloatKind.f32 x1, A.fl FloatKind.f32 x2, A.fl FloatKind.f32 x3], V.at (A.fl FloatKind.f32 x4)], [] => some (Pure.impl_TableAt_ok F x0 x1 x2 x3 x4, ⟨V.tup [(false, [A.fl FloatKind.f32 (Pure.impl_TableAt F x0 x1 x2 x3 x4)]), (false, [A.bool (Pure.impl_TableAt_1 F x0 x1 x2 x3 x4)])], none, []⟩)
  | _, _ => none
theorem e_impl_TableAt (F : FOps) (x0 : Int) (x1 : Int) (x2 : Int) (x3 : Int) (x4 : Int) : Pure.impl_TableAt_ok F x0 x1 x2 x3 x4 = true → evFn (cxS F tyl [(24, c_impl_ValidTable F), (62, c_impl_IsFinite F), (64, c_impl_SineTurns F), (63, c_impl_toldNumber F)] [] [] 0) Try.f17 false [V.agg [A.fl FloatKind.f32 x0, A.fl FloatKind.f32 x1, A.fl FloatKind.f32 x2, A.fl FloatKind.f32 x3], V.at (A.fl FloatKind.f32 x4)] [] = some ⟨V.tup [(false, [A.fl FloatKind.f32 (Pure.impl_TableAt F x0 x1 x2 x3 x4)]), (false, [A.bool (Pure.impl_TableAt_1 F x0 x1 x2 x3 x4)])], none, []⟩ := by
  have h0 : evFn (cxS F tyl [(24, c_impl_ValidTable F), (62, c_impl_IsFinite F), (64, c_impl_SineTurns F), (63, c_impl_toldNumber F)] [] [] 0) Try.f17 false [V.agg [A.fl FloatKind.f32 x0, A.fl FloatKind.f32 x1, A.fl FloatKind.f32 x2, A.fl FloatKind.f32 x3], V.at (A.fl FloatKind.f32 x4)] [] = bif Pure.impl_ValidTable_ok F x0 x1 x2 x3 then bif Bool.not (Pure.impl_ValidTable F x0 x1 x2 x3) then some ⟨V.tup [(false, [A.fl FloatKind.f32 0]), (false, [A.bool false])], none, []⟩ else bif Bool.not (Pure.impl_IsFinite F x4) then some ⟨V.tup [(false, [A.fl FloatKind.f32 0]), (false, [A.bool false])], none, []⟩ else bif Pure.impl_SineTurns_ok F (FOps.bin F BinOp.mul FloatKind.f32 x1 x4) then some ⟨V.tup [(false, [A.fl FloatKind.f32 (Pure.impl_toldNumber F (FOps.bin F BinOp.mul FloatKind.f32 x0 (Pure.impl_SineTurns F (FOps.bin F BinOp.mul FloatKind.f32 x1 x4))))]), (false, [A.bool (Pure.impl_IsFinite F (FOps.bin F BinOp.mul FloatKind.f32 x0 (Pure.impl_SineTurns F (FOps.bin F BinOp.mul FloatKind.f32 x1 x4))))])], none, []⟩ else none else none := by kernel_rfl
  rw [h0]
  unfold Pure.impl_TableAt Pure.impl_TableAt_1 Pure.impl_TableAt_ok
  cases (Pure.impl_ValidTable_ok F x0 x1 x2 x3) with
  | true =>
    cases (Pure.impl_ValidTable F x0 x1 x2 x3) with
    | true =>
      cases (Pure.impl_IsFinite F x4) with
      | true =>
        cases (Pure.impl_SineTurns_ok F (FOps.bin F BinOp.mul FloatKind.f32 x1 x4)) with
        | true =>
          intro _; rfl
        | false =>
          intro h; exact absurd h Bool.false_ne_true
      | false =>
        intro _; rfl
    | false =>
      intro _; rfl
  | false =>
    intro h; exact absurd h Bool.false_ne_true
theorem ok_impl_TableAt : CallOK Try.prog 17 (c_impl_TableAt real) := by
  refine callOK_of fun args h ret hc => ?_
  unfold c_impl_TableAt at hc
  split at hc
  · rename_i x0 x1 x2 x3 x4
    obtain ⟨hok, rfl⟩ := some_ret hc
    exact holds_ev prog_ok (allOK_cons ok_impl_ValidTable (allOK_cons ok_impl_IsFinite (allOK_cons ok_impl_SineTurns (allOK_cons ok_impl_toldNumber allOK_nil)))) Try.func17 rfl rfl smL_nil rfl (e_impl_TableAt real x0 x1 x2 x3 x4 hok)
  · cases hc
def Pure.laws_sameFloat (F : FOps) (x0 : Int) (x1 : Int) : Bool := bif FOps.cmp F BinOp.neq FloatKind.f64 x0 x0 then FOps.cmp F BinOp.neq FloatKind.f64 x1 x1 else bif FOps.cmp F BinOp.neq FloatKind.f64 x1 x1 then false else bif FOps.cmp F BinOp.eql FloatKind.f64 x0 0 then bif FOps.cmp F BinOp.eql FloatKind.f64 x1 0 then (FOps.cmp F BinOp.gtr FloatKind.f64 (FOps.bin F BinOp.quo FloatKind.f64 4607182418800017408 x0) 0) == (FOps.cmp F BinOp.gtr FloatKind.f64 (FOps.bin F BinOp.quo FloatKind.f64 4607182418800017408 x1) 0) else FOps.cmp F BinOp.eql FloatKind.f64 x0 x1 else FOps.cmp F BinOp.eql FloatKind.f64 x0 x1
def c_laws_sameFloat (F : FOps) : Con
  | [V.at (A.fl FloatKind.f64 x0), V.at (A.fl FloatKind.f64 x1)], [] => some (true, ⟨V.at (A.bool (Pure.laws_sameFloat F x0 x1)), none, []⟩)
  | _, _ => none
theorem e_laws_sameFloat (F : FOps) (x0 : Int) (x1 : Int) : evFn (cxS F tyl [] [] [] 0) Try.f18 false [V.at (A.fl FloatKind.f64 x0), V.at (A.fl FloatKind.f64 x1)] [] = some ⟨V.at (A.bool (Pure.laws_sameFloat F x0 x1)), none, []⟩ := by
  have h0 : evFn (cxS F tyl [] [] [] 0) Try.f18 false [V.at (A.fl FloatKind.f64 x0), V.at (A.fl FloatKind.f64 x1)] [] = bif FOps.cmp F BinOp.neq FloatKind.f64 x0 x0 then bif FOps.cmp F BinOp.neq FloatKind.f64 x0 x0 then some ⟨V.at (A.bool (FOps.cmp F BinOp.neq FloatKind.f64 x1 x1)), none, []⟩ else some ⟨V.at (A.bool false), none, []⟩ else bif FOps.cmp F BinOp.neq FloatKind.f64 x1 x1 then bif FOps.cmp F BinOp.neq FloatKind.f64 x0 x0 then some ⟨V.at (A.bool (FOps.cmp F BinOp.neq FloatKind.f64 x1 x1)), none, []⟩ else some ⟨V.at (A.bool false), none, []⟩ else bif FOps.cmp F BinOp.eql FloatKind.f64 x0 0 then bif FOps.cmp F BinOp.eql FloatKind.f64 x1 0 then some ⟨V.at (A.bool ((FOps.cmp F BinOp.gtr FloatKind.f64 (FOps.bin F BinOp.quo FloatKind.f64 4607182418800017408 x0) 0) == (FOps.cmp F BinOp.gtr FloatKind.f64 (FOps.bin F BinOp.quo FloatKind.f64 4607182418800017408 x1) 0))), none, []⟩ else some ⟨V.at (A.bool (FOps.cmp F BinOp.eql FloatKind.f64 x0 x1)), none, []⟩ else some ⟨V.at (A.bool (FOps.cmp F BinOp.eql FloatKind.f64 x0 x1)), none, []⟩ := by kernel_rfl
  rw [h0]
  unfold Pure.laws_sameFloat
  cases (FOps.cmp F BinOp.neq FloatKind.f64 x0 x0) with
  | true =>
    rfl
  | false =>
    cases (FOps.cmp F BinOp.neq FloatKind.f64 x1 x1) with
    | true =>
      rfl
    | false =>
      cases (FOps.cmp F BinOp.eql FloatKind.f64 x0 0) with
      | true =>
        cases (FOps.cmp F BinOp.eql FloatKind.f64 x1 0) with
        | true =>
          rfl
        | false =>
          rfl
      | false =>
        rfl
theorem ok_laws_sameFloat : CallOK Try.prog 18 (c_laws_sameFloat real) := by
  refine callOK_of fun args h ret hc => ?_
  unfold c_laws_sameFloat at hc
  split at hc
  · rename_i x0 x1
    obtain ⟨_, rfl⟩ := some_ret hc
    exact holds_ev prog_ok allOK_nil Try.func18 rfl rfl smL_nil rfl (e_laws_sameFloat real x0 x1)
  · cases hc
def Pure.spec_l06Fast (F : FOps) (x0 : Int) (x1 : Int) (x2 : Int) (x3 : Int) (x4 : Int) : Int := FOps.bin F BinOp.mul FloatKind.f32 (FOps.bin F BinOp.mul FloatKind.f32 (FOps.bin F BinOp.mul FloatKind.f32 1086918619 x1) x0) (Pure.spec_l01Sine F (FOps.bin F BinOp.add FloatKind.f32 (FOps.bin F BinOp.mul FloatKind.f32 x1 x4) 1048576000))
def Pure.spec_l06Fast_ok (F : FOps) (x0 : Int) (x1 : Int) (x2 : Int) (x3 : Int) (x4 : Int) : Bool := Pure.spec_l01Sine_ok F (FOps.bin F BinOp.add FloatKind.f32 (FOps.bin F BinOp.mul FloatKind.f32 x1 x4) 1048576000)
def c_spec_l06Fast (F : FOps) : Con
  | [V.at (A.ptr 0 0 0), V.at (A.fl FloatKind.f32 x4)], [⟨false, OC.box [A.fl FloatKind.f32 x0, A.fl FloatKind.f32 x1, A.fl FloatKind.f32 x2, A.fl FloatKind.f32 x3]⟩] => some (Pure.spec_l06Fast_ok F x0 x1 x2 x3 x4, ⟨V.at (A.fl FloatKind.f32 (Pure.spec_l06Fast F x0 x1 x2 x3 x4)), none, []⟩)
  | _, _ => none
theorem e_spec_l06Fast (F : FOps) (x0 : Int) (x1 : Int) (x2 : Int) (x3 : Int) (x4 : Int) : Pure.spec_l06Fast_ok F x0 x1 x2 x3 x4 = true → evFn (cxS F tyl [(99, c_spec_l01Sine F)] [] [] 0) Try.f65 false [V.at (A.ptr 0 0 0), V.at (A.fl FloatKind.f32 x4)] [⟨false, OC.box [A.fl FloatKind.f32 x0, A.fl FloatKind.f32 x1, A.fl FloatKind.f32 x2, A.fl FloatKind.f32 x3]⟩] = some ⟨V.at (A.fl FloatKind.f32 (Pure.spec_l06Fast F x0 x1 x2 x3 x4)), none, []⟩ := by
  have h0 : evFn (cxS F tyl [(99, c_spec_l01Sine F)] [] [] 0) Try.f65 false [V.at (A.ptr 0 0 0), V.at (A.fl FloatKind.f32 x4)] [⟨false, OC.box [A.fl FloatKind.f32 x0, A.fl FloatKind.f32 x1, A.fl FloatKind.f32 x2, A.fl FloatKind.f32 x3]⟩] = bif Pure.spec_l01Sine_ok F (FOps.bin F BinOp.add FloatKind.f32 (FOps.bin F BinOp.mul FloatKind.f32 x1 x4) 1048576000) then some ⟨V.at (A.fl FloatKind.f32 (FOps.bin F BinOp.mul FloatKind.f32 (FOps.bin F BinOp.mul FloatKind.f32 (FOps.bin F BinOp.mul FloatKind.f32 1086918619 x1) x0) (Pure.spec_l01Sine F (FOps.bin F BinOp.add FloatKind.f32 (FOps.bin F BinOp.mul FloatKind.f32 x1 x4) 1048576000)))), none, []⟩ else none := by kernel_rfl
  rw [h0]
  unfold Pure.spec_l06Fast Pure.spec_l06Fast_ok
  cases (Pure.spec_l01Sine_ok F (FOps.bin F BinOp.add FloatKind.f32 (FOps.bin F BinOp.mul FloatKind.f32 x1 x4) 1048576000)) with
  | true =>
    intro _; rfl
  | false =>
    intro h; exact absurd h Bool.false_ne_true
theorem ok_spec_l06Fast : CallOK Try.prog 65 (c_spec_l06Fast real) := by
  refine callOK_of fun args h ret hc => ?_
  unfold c_spec_l06Fast at hc
  split at hc
  · rename_i x4 x0 x1 x2 x3
    obtain ⟨hok, rfl⟩ := some_ret hc
    exact holds_ev prog_ok (allOK_cons ok_spec_l01Sine allOK_nil) Try.func65 rfl rfl smL_nil rfl (e_spec_l06Fast real x0 x1 x2 x3 x4 hok)
  · cases hc
def Pure.spec_TableSpeed (F : FOps) (x0 : Int) (x1 : Int) (x2 : Int) (x3 : Int) (x4 : Int) : Int := bif Pure.spec_l06Table F x0 x1 x2 x3 then bif Pure.spec_l01Finite F x4 then Pure.spec_l02Number F (Pure.spec_l06Fast F x0 x1 x2 x3 x4) else 0 else 0
def Pure.spec_TableSpeed_1 (F : FOps) (x0 : Int) (x1 : Int) (x2 : Int) (x3 : Int) (x4 : Int) : Bool := bif Pure.spec_l06Table F x0 x1 x2 x3 then bif Pure.spec_l01Finite F x4 then Pure.spec_l01Finite F (Pure.spec_l06Fast F x0 x1 x2 x3 x4) else false else false
def Pure.spec_TableSpeed_ok (F : FOps) (x0 : Int) (x1 : Int) (x2 : Int) (x3 : Int) (x4 : Int) : Bool := bif Pure.spec_l06Table F x0 x1 x2 x3 then bif Pure.spec_l01Finite F x4 then Pure.spec_l06Fast_ok F x0 x1 x2 x3 x4 else true else true
def Pure.impl_TableSpeed (F : FOps) (x0 : Int) (x1 : Int) (x2 : Int) (x3 : Int) (x4 : Int) : Int := bif Pure.impl_ValidTable F x0 x1 x2 x3 then bif Pure.impl_IsFinite F x4 then Pure.impl_toldNumber F (FOps.bin F BinOp.mul FloatKind.f32 (FOps.bin F BinOp.mul FloatKind.f32 (FOps.bin F BinOp.mul FloatKind.f32 1086918619 x1) x0) (Pure.impl_SineTurns F (FOps.bin F BinOp.add FloatKind.f32 (FOps.bin F BinOp.mul FloatKind.f32 x1 x4) 1048576000))) else 0 else 0
def Pure.impl_TableSpeed_1 (F : FOps) (x0 : Int) (x1 : Int) (x2 : Int) (x3 : Int) (x4 : Int) : Bool := bif Pure.impl_ValidTable F x0 x1 x2 x3 then bif Pure.impl_IsFinite F x4 then Pure.impl_IsFinite F (FOps.bin F BinOp.mul FloatKind.f32 (FOps.bin F BinOp.mul FloatKind.f32 (FOps.bin F BinOp.mul FloatKind.f32 1086918619 x1) x0) (Pure.impl_SineTurns F (FOps.bin F BinOp.add FloatKind.f32 (FOps.bin F BinOp.mul FloatKind.f32 x1 x4) 1048576000))) else false else false
def Pure.impl_TableSpeed_ok (F : FOps) (x0 : Int) (x1 : Int) (x2 : Int) (x3 : Int) (x4 : Int) : Bool := bif Pure.impl_ValidTable_ok F x0 x1 x2 x3 then bif Pure.impl_ValidTable F x0 x1 x2 x3 then bif Pure.impl_IsFinite F x4 then Pure.impl_SineTurns_ok F (FOps.bin F BinOp.add FloatKind.f32 (FOps.bin F BinOp.mul FloatKind.f32 x1 x4) 1048576000) else true else true else false
def c_impl_TableSpeed (F : FOps) : Con
  | [V.agg [A.fl FloatKind.f32 x0, A.fl FloatKind.f32 x1, A.fl FloatKind.f32 x2, A.fl FloatKind.f32 x3], V.at (A.fl FloatKind.f32 x4)], [] => some (Pure.impl_TableSpeed_ok F x0 x1 x2 x3 x4, ⟨V.tup [(false, [A.fl FloatKind.f32 (Pure.impl_TableSpeed F x0 x1 x2 x3 x4)]), (false, [A.bool (Pure.impl_TableSpeed_1 F x0 x1 x2 x3 x4)])], none, []⟩)
  | _, _ => none
theorem e_impl_TableSpeed (F : FOps) (x0 : Int) (x1 : Int) (x2 : Int) (x3 : Int) (x4 : Int) : Pure.impl_TableSpeed_ok F x0 x1 x2 x3 x4 = true → evFn (cxS F tyl [(24, c_impl_ValidTable F), (62, c_impl_IsFinite F), (64, c_impl_SineTurns F), (63, c_impl_toldNumber F)] [] [] 0) Try.f20 false [V.agg [A.fl FloatKind.f32 x0, A.fl FloatKind.f32 x1, A.fl FloatKind.f32 x2, A.fl FloatKind.f32 x3], V.at (A.fl FloatKind.f32 x4)] [] = some ⟨V.tup [(false, [A.fl FloatKind.f32 (Pure.impl_TableSpeed F x0 x1 x2 x3 x4)]), (false, [A.bool (Pure.impl_TableSpeed_1 F x0 x1 x2 x3 x4)])], none, []⟩ := by
  have h0 : evFn (cxS F tyl [(24, c_impl_ValidTable F), (62, c_impl_IsFinite F), (64, c_impl_SineTurns F), (63, c_impl_toldNumber F)] [] [] 0) Try.f20 false [V.agg [A.fl FloatKind.f32 x0, A.fl FloatKind.f32 x1, A.fl FloatKind.f32 x2, A.fl FloatKind.f32 x3], V.at (A.fl FloatKind.f32 x4)] [] = bif Pure.impl_ValidTable_ok F x0 x1 x2 x3 then bif Bool.not (Pure.impl_ValidTable F x0 x1 x2 x3) then some ⟨V.tup [(false, [A.fl FloatKind.f32 0]), (false, [A.bool false])], none, []⟩ else bif Bool.not (Pure.impl_IsFinite F x4) then some ⟨V.tup [(false, [A.fl FloatKind.f32 0]), (false, [A.bool false])], none, []⟩ else bif Pure.impl_SineTurns_ok F (FOps.bin F BinOp.add FloatKind.f32 (FOps.bin F BinOp.mul FloatKind.f32 x1 x4) 1048576000) then some ⟨V.tup [(false, [A.fl FloatKind.f32 (Pure.impl_toldNumber F (FOps.bin F BinOp.mul FloatKind.f32 (FOps.bin F BinOp.mul FloatKind.f32 (FOps.bin F BinOp.mul FloatKind.f32 1086918619 x1) x0) (Pure.impl_SineTurns F (FOps.bin F BinOp.add FloatKind.f32 (FOps.bin F BinOp.mul FloatKind.f32 x1 x4) 1048576000))))]), (false, [A.bool (Pure.impl_IsFinite F (FOps.bin F BinOp.mul FloatKind.f32 (FOps.bin F BinOp.mul FloatKind.f32 (FOps.bin F BinOp.mul FloatKind.f32 1086918619 x1) x0) (Pure.impl_SineTurns F (FOps.bin F BinOp.add FloatKind.f32 (FOps.bin F BinOp.mul FloatKind.f32 x1 x4) 1048576000))))])], none, []⟩ else none else none := by kernel_rfl
  rw [h0]
  unfold Pure.impl_TableSpeed Pure.impl_TableSpeed_1 Pure.impl_TableSpeed_ok
  cases (Pure.impl_ValidTable_ok F x0 x1 x2 x3) with
  | true =>
    cases (Pure.impl_ValidTable F x0 x1 x2 x3) with
    | true =>
      cases (Pure.impl_IsFinite F x4) with
      | true =>
        cases (Pure.impl_SineTurns_ok F (FOps.bin F BinOp.add FloatKind.f32 (FOps.bin F BinOp.mul FloatKind.f32 x1 x4) 1048576000)) with
        | true =>
          intro _; rfl
        | false =>
          intro h; exact absurd h Bool.false_ne_true
      | false =>
        intro _; rfl
    | false =>
      intro _; rfl
  | false =>
    intro h; exact absurd h Bool.false_ne_true
theorem ok_impl_TableSpeed : CallOK Try.prog 20 (c_impl_TableSpeed real) := by
  refine callOK_of fun args h ret hc => ?_
  unfold c_impl_TableSpeed at hc
  split at hc
  · rename_i x0 x1 x2 x3 x4
    obtain ⟨hok, rfl⟩ := some_ret hc
    exact holds_ev prog_ok (allOK_cons ok_impl_ValidTable (allOK_cons ok_impl_IsFinite (allOK_cons ok_impl_SineTurns (allOK_cons ok_impl_toldNumber allOK_nil)))) Try.func20 rfl rfl smL_nil rfl (e_impl_TableSpeed real x0 x1 x2 x3 x4 hok)
  · cases hc
end Go.Fx
