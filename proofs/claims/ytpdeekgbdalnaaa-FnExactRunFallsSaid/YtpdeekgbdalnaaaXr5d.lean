import Derived.Test.YtpdeekgbdalnaaaXr5c
import Derived.KernelRfl
namespace Go.Fx
open Go.Proofs
set_option maxRecDepth 100000
def c_laws_toFall (_ : FOps) : Con
  | [V.agg [A.fl FloatKind.f32 x0, A.fl FloatKind.f32 x1, A.fl FloatKind.f32 x2]], [] => some (true, ⟨V.agg [A.fl FloatKind.f32 x0, A.fl FloatKind.f32 x1, A.fl FloatKind.f32 x2], none, []⟩)
  | _, _ => none
theorem e_laws_toFall (F : FOps) (x0 : Int) (x1 : Int) (x2 : Int) : evFn (cxS F tyl [] [] [] 0) Try.f30 false [V.agg [A.fl FloatKind.f32 x0, A.fl FloatKind.f32 x1, A.fl FloatKind.f32 x2]] [] = some ⟨V.agg [A.fl FloatKind.f32 x0, A.fl FloatKind.f32 x1, A.fl FloatKind.f32 x2], none, []⟩ := by
  kernel_rfl
theorem ok_laws_toFall : CallOK Try.prog 30 (c_laws_toFall real) := by
  refine callOK_of fun args h ret hc => ?_
  unfold c_laws_toFall at hc
  split at hc
  · rename_i x0 x1 x2
    obtain ⟨_, rfl⟩ := some_ret hc
    exact holds_ev prog_ok allOK_nil Try.func30 rfl rfl smL_nil rfl (e_laws_toFall real x0 x1 x2)
  · cases hc
def Pure.spec_l06Fall (F : FOps) (x0 : Int) (x1 : Int) (x2 : Int) : Bool := bif Pure.spec_l01Finite F x0 then bif Pure.spec_l01Finite F x1 then Pure.spec_l01Finite F x2 else false else false
def c_spec_l06Fall (F : FOps) : Con
  | [V.at (A.ptr 0 0 0)], [⟨false, OC.box [A.fl FloatKind.f32 x0, A.fl FloatKind.f32 x1, A.fl FloatKind.f32 x2]⟩] => some (true, ⟨V.at (A.bool (Pure.spec_l06Fall F x0 x1 x2)), none, []⟩)
  | _, _ => none
theorem e_spec_l06Fall (F : FOps) (x0 : Int) (x1 : Int) (x2 : Int) : evFn (cxS F tyl [(59, c_spec_l01Finite F)] [] [] 0) Try.f74 false [V.at (A.ptr 0 0 0)] [⟨false, OC.box [A.fl FloatKind.f32 x0, A.fl FloatKind.f32 x1, A.fl FloatKind.f32 x2]⟩] = some ⟨V.at (A.bool (Pure.spec_l06Fall F x0 x1 x2)), none, []⟩ := by
  have h0 : evFn (cxS F tyl [(59, c_spec_l01Finite F)] [] [] 0) Try.f74 false [V.at (A.ptr 0 0 0)] [⟨false, OC.box [A.fl FloatKind.f32 x0, A.fl FloatKind.f32 x1, A.fl FloatKind.f32 x2]⟩] = bif Pure.spec_l01Finite F x0 then bif Pure.spec_l01Finite F x1 then some ⟨V.at (A.bool (Pure.spec_l01Finite F x2)), none, []⟩ else some ⟨V.at (A.bool false), none, []⟩ else some ⟨V.at (A.bool false), none, []⟩ := by kernel_rfl
  rw [h0]
  unfold Pure.spec_l06Fall
  cases (Pure.spec_l01Finite F x0) with
  | true =>
    cases (Pure.spec_l01Finite F x1) with
    | true =>
      rfl
    | false =>
      rfl
  | false =>
    rfl
theorem ok_spec_l06Fall : CallOK Try.prog 74 (c_spec_l06Fall real) := by
  refine callOK_of fun args h ret hc => ?_
  unfold c_spec_l06Fall at hc
  split at hc
  · rename_i x0 x1 x2
    obtain ⟨_, rfl⟩ := some_ret hc
    exact holds_ev prog_ok (allOK_cons ok_spec_l01Finite allOK_nil) Try.func74 rfl rfl smL_nil rfl (e_spec_l06Fall real x0 x1 x2)
  · cases hc
def Pure.spec_l06Both (F : FOps) (x0 : Int) (x1 : Int) (x2 : Int) (x3 : Int) (x4 : Int) (x5 : Int) (x6 : Int) : Bool := bif Pure.spec_l06Table F x0 x1 x2 x3 then Pure.spec_l06Fall F x4 x5 x6 else false
def c_spec_l06Both (F : FOps) : Con
  | [V.at (A.ptr 0 0 0), V.at (A.ptr 1 0 0)], [⟨false, OC.box [A.fl FloatKind.f32 x0, A.fl FloatKind.f32 x1, A.fl FloatKind.f32 x2, A.fl FloatKind.f32 x3]⟩, ⟨false, OC.box [A.fl FloatKind.f32 x4, A.fl FloatKind.f32 x5, A.fl FloatKind.f32 x6]⟩] => some (true, ⟨V.at (A.bool (Pure.spec_l06Both F x0 x1 x2 x3 x4 x5 x6)), none, []⟩)
  | _, _ => none
theorem e_spec_l06Both (F : FOps) (x0 : Int) (x1 : Int) (x2 : Int) (x3 : Int) (x4 : Int) (x5 : Int) (x6 : Int) : evFn (cxS F tyl [(58, c_spec_l06Table F), (74, c_spec_l06Fall F)] [] [] 0) Try.f72 false [V.at (A.ptr 0 0 0), V.at (A.ptr 1 0 0)] [⟨false, OC.box [A.fl FloatKind.f32 x0, A.fl FloatKind.f32 x1, A.fl FloatKind.f32 x2, A.fl FloatKind.f32 x3]⟩, ⟨false, OC.box [A.fl FloatKind.f32 x4, A.fl FloatKind.f32 x5, A.fl FloatKind.f32 x6]⟩] = some ⟨V.at (A.bool (Pure.spec_l06Both F x0 x1 x2 x3 x4 x5 x6)), none, []⟩ := by
  have h0 : evFn (cxS F tyl [(58, c_spec_l06Table F), (74, c_spec_l06Fall F)] [] [] 0) Try.f72 false [V.at (A.ptr 0 0 0), V.at (A.ptr 1 0 0)] [⟨false, OC.box [A.fl FloatKind.f32 x0, A.fl FloatKind.f32 x1, A.fl FloatKind.f32 x2, A.fl FloatKind.f32 x3]⟩, ⟨false, OC.box [A.fl FloatKind.f32 x4, A.fl FloatKind.f32 x5, A.fl FloatKind.f32 x6]⟩] = bif Pure.spec_l06Table F x0 x1 x2 x3 then some ⟨V.at (A.bool (Pure.spec_l06Fall F x4 x5 x6)), none, []⟩ else some ⟨V.at (A.bool false), none, []⟩ := by kernel_rfl
  rw [h0]
  unfold Pure.spec_l06Both
  cases (Pure.spec_l06Table F x0 x1 x2 x3) with
  | true =>
    rfl
  | false =>
    rfl
theorem ok_spec_l06Both : CallOK Try.prog 72 (c_spec_l06Both real) := by
  refine callOK_of fun args h ret hc => ?_
  unfold c_spec_l06Both at hc
  split at hc
  · rename_i x0 x1 x2 x3 x4 x5 x6
    obtain ⟨_, rfl⟩ := some_ret hc
    exact holds_ev prog_ok (allOK_cons ok_spec_l06Table (allOK_cons ok_spec_l06Fall allOK_nil)) Try.func72 rfl rfl smL_nil rfl (e_spec_l06Both real x0 x1 x2 x3 x4 x5 x6)
  · cases hc
def Pure.spec_l06Bounce (F : FOps) (x0 : Int) (x1 : Int) (x2 : Int) (x3 : Int) (x4 : Int) (x5 : Int) (x6 : Int) : Int := FOps.bin F BinOp.add FloatKind.f32 (Pure.spec_l06Fast F x0 x1 x2 x3 x6) (FOps.bin F BinOp.mul FloatKind.f32 x2 (FOps.bin F BinOp.sub FloatKind.f32 (Pure.spec_l06Fast F x0 x1 x2 x3 x6) x5))
def Pure.spec_l06Bounce_ok (F : FOps) (x0 : Int) (x1 : Int) (x2 : Int) (x3 : Int) (x4 : Int) (x5 : Int) (x6 : Int) : Bool := bif Pure.spec_l06Fast_ok F x0 x1 x2 x3 x6 then Pure.spec_l06High_ok F x0 x1 x2 x3 x6 else false
def c_spec_l06Bounce (F : FOps) : Con
  | [V.at (A.ptr 0 0 0), V.agg [A.fl FloatKind.f32 x4, A.fl FloatKind.f32 x5, A.fl FloatKind.f32 x6]], [⟨false, OC.box [A.fl FloatKind.f32 x0, A.fl FloatKind.f32 x1, A.fl FloatKind.f32 x2, A.fl FloatKind.f32 x3]⟩] => some (Pure.spec_l06Bounce_ok F x0 x1 x2 x3 x4 x5 x6, ⟨V.agg [A.fl FloatKind.f32 (Pure.spec_l06High F x0 x1 x2 x3 x6), A.fl FloatKind.f32 (Pure.spec_l06Bounce F x0 x1 x2 x3 x4 x5 x6), A.fl FloatKind.f32 x6], none, []⟩)
  | _, _ => none
theorem e_spec_l06Bounce (F : FOps) (x0 : Int) (x1 : Int) (x2 : Int) (x3 : Int) (x4 : Int) (x5 : Int) (x6 : Int) : Pure.spec_l06Bounce_ok F x0 x1 x2 x3 x4 x5 x6 = true → evFn (cxS F tyl [(65, c_spec_l06Fast F), (61, c_spec_l06High F)] [] [] 0) Try.f73 false [V.at (A.ptr 0 0 0), V.agg [A.fl FloatKind.f32 x4, A.fl FloatKind.f32 x5, A.fl FloatKind.f32 x6]] [⟨false, OC.box [A.fl FloatKind.f32 x0, A.fl FloatKind.f32 x1, A.fl FloatKind.f32 x2, A.fl FloatKind.f32 x3]⟩] = some ⟨V.agg [A.fl FloatKind.f32 (Pure.spec_l06High F x0 x1 x2 x3 x6), A.fl FloatKind.f32 (Pure.spec_l06Bounce F x0 x1 x2 x3 x4 x5 x6), A.fl FloatKind.f32 x6], none, []⟩ := by
  have h0 : evFn (cxS F tyl [(65, c_spec_l06Fast F), (61, c_spec_l06High F)] [] [] 0) Try.f73 false [V.at (A.ptr 0 0 0), V.agg [A.fl FloatKind.f32 x4, A.fl FloatKind.f32 x5, A.fl FloatKind.f32 x6]] [⟨false, OC.box [A.fl FloatKind.f32 x0, A.fl FloatKind.f32 x1, A.fl FloatKind.f32 x2, A.fl FloatKind.f32 x3]⟩] = bif Pure.spec_l06Fast_ok F x0 x1 x2 x3 x6 then bif Pure.spec_l06High_ok F x0 x1 x2 x3 x6 then some ⟨V.agg [A.fl FloatKind.f32 (Pure.spec_l06High F x0 x1 x2 x3 x6), A.fl FloatKind.f32 (FOps.bin F BinOp.add FloatKind.f32 (Pure.spec_l06Fast F x0 x1 x2 x3 x6) (FOps.bin F BinOp.mul FloatKind.f32 x2 (FOps.bin F BinOp.sub FloatKind.f32 (Pure.spec_l06Fast F x0 x1 x2 x3 x6) x5))), A.fl FloatKind.f32 x6], none, []⟩ else none else none := by kernel_rfl
  rw [h0]
  unfold Pure.spec_l06Bounce Pure.spec_l06Bounce_ok
  cases (Pure.spec_l06Fast_ok F x0 x1 x2 x3 x6) with
  | true =>
    cases (Pure.spec_l06High_ok F x0 x1 x2 x3 x6) with
    | true =>
      intro _; rfl
    | false =>
      intro h; exact absurd h Bool.false_ne_true
  | false =>
    intro h; exact absurd h Bool.false_ne_true
theorem ok_spec_l06Bounce : CallOK Try.prog 73 (c_spec_l06Bounce real) := by
  refine callOK_of fun args h ret hc => ?_
  unfold c_spec_l06Bounce at hc
  split at hc
  · rename_i x4 x5 x6 x0 x1 x2 x3
    obtain ⟨hok, rfl⟩ := some_ret hc
    exact holds_ev prog_ok (allOK_cons ok_spec_l06Fast (allOK_cons ok_spec_l06High allOK_nil)) Try.func73 rfl rfl smL_nil rfl (e_spec_l06Bounce real x0 x1 x2 x3 x4 x5 x6 hok)
  · cases hc
def Pure.spec_HitFall (F : FOps) (x0 : Int) (x1 : Int) (x2 : Int) (x3 : Int) (x4 : Int) (x5 : Int) (x6 : Int) : Int := bif Pure.spec_l06Both F x0 x1 x2 x3 x4 x5 x6 then bif Pure.spec_l06Fall F (Pure.spec_l06High F x0 x1 x2 x3 x6) (Pure.spec_l06Bounce F x0 x1 x2 x3 x4 x5 x6) x6 then Pure.spec_l06High F x0 x1 x2 x3 x6 else 0 else 0
def Pure.spec_HitFall_1 (F : FOps) (x0 : Int) (x1 : Int) (x2 : Int) (x3 : Int) (x4 : Int) (x5 : Int) (x6 : Int) : Int := bif Pure.spec_l06Both F x0 x1 x2 x3 x4 x5 x6 then bif Pure.spec_l06Fall F (Pure.spec_l06High F x0 x1 x2 x3 x6) (Pure.spec_l06Bounce F x0 x1 x2 x3 x4 x5 x6) x6 then Pure.spec_l06Bounce F x0 x1 x2 x3 x4 x5 x6 else 0 else 0
def Pure.spec_HitFall_2 (F : FOps) (x0 : Int) (x1 : Int) (x2 : Int) (x3 : Int) (x4 : Int) (x5 : Int) (x6 : Int) : Int := bif Pure.spec_l06Both F x0 x1 x2 x3 x4 x5 x6 then bif Pure.spec_l06Fall F (Pure.spec_l06High F x0 x1 x2 x3 x6) (Pure.spec_l06Bounce F x0 x1 x2 x3 x4 x5 x6) x6 then x6 else 0 else 0
def Pure.spec_HitFall_3 (F : FOps) (x0 : Int) (x1 : Int) (x2 : Int) (x3 : Int) (x4 : Int) (x5 : Int) (x6 : Int) : Bool := bif Pure.spec_l06Both F x0 x1 x2 x3 x4 x5 x6 then Pure.spec_l06Fall F (Pure.spec_l06High F x0 x1 x2 x3 x6) (Pure.spec_l06Bounce F x0 x1 x2 x3 x4 x5 x6) x6 else false
def Pure.spec_HitFall_ok (F : FOps) (x0 : Int) (x1 : Int) (x2 : Int) (x3 : Int) (x4 : Int) (x5 : Int) (x6 : Int) : Bool := bif Pure.spec_l06Both F x0 x1 x2 x3 x4 x5 x6 then Pure.spec_l06Bounce_ok F x0 x1 x2 x3 x4 x5 x6 else true
def Pure.impl_fallOk (F : FOps) (x0 : Int) (x1 : Int) (x2 : Int) (x3 : Int) (x4 : Int) (x5 : Int) (x6 : Int) : Bool := bif Pure.impl_ValidTable F x0 x1 x2 x3 then Pure.impl_finite F [[x4], [x5], [x6]] else false
def Pure.impl_fallOk_ok (F : FOps) (x0 : Int) (x1 : Int) (x2 : Int) (x3 : Int) (x4 : Int) (x5 : Int) (x6 : Int) : Bool := bif Pure.impl_ValidTable_ok F x0 x1 x2 x3 then bif Pure.impl_ValidTable F x0 x1 x2 x3 then Pure.impl_finite_ok F [[x4], [x5], [x6]] else true else false
def c_impl_fallOk (F : FOps) : Con
  | [V.agg [A.fl FloatKind.f32 x0, A.fl FloatKind.f32 x1, A.fl FloatKind.f32 x2, A.fl FloatKind.f32 x3], V.agg [A.fl FloatKind.f32 x4, A.fl FloatKind.f32 x5, A.fl FloatKind.f32 x6]], [] => some (Pure.impl_fallOk_ok F x0 x1 x2 x3 x4 x5 x6, ⟨V.at (A.bool (Pure.impl_fallOk F x0 x1 x2 x3 x4 x5 x6)), none, []⟩)
  | _, _ => none
theorem e_impl_fallOk (F : FOps) (x0 : Int) (x1 : Int) (x2 : Int) (x3 : Int) (x4 : Int) (x5 : Int) (x6 : Int) : Pure.impl_fallOk_ok F x0 x1 x2 x3 x4 x5 x6 = true → evFn (cxS F tyl [(24, c_impl_ValidTable F), (70, c_impl_finite F)] [] [] 0) Try.f66 false [V.agg [A.fl FloatKind.f32 x0, A.fl FloatKind.f32 x1, A.fl FloatKind.f32 x2, A.fl FloatKind.f32 x3], V.agg [A.fl FloatKind.f32 x4, A.fl FloatKind.f32 x5, A.fl FloatKind.f32 x6]] [] = some ⟨V.at (A.bool (Pure.impl_fallOk F x0 x1 x2 x3 x4 x5 x6)), none, []⟩ := by
  have h0 : evFn (cxS F tyl [(24, c_impl_ValidTable F), (70, c_impl_finite F)] [] [] 0) Try.f66 false [V.agg [A.fl FloatKind.f32 x0, A.fl FloatKind.f32 x1, A.fl FloatKind.f32 x2, A.fl FloatKind.f32 x3], V.agg [A.fl FloatKind.f32 x4, A.fl FloatKind.f32 x5, A.fl FloatKind.f32 x6]] [] = bif Pure.impl_ValidTable_ok F x0 x1 x2 x3 then bif Pure.impl_ValidTable F x0 x1 x2 x3 then bif Pure.impl_finite_ok F [[x4], [x5], [x6]] then some ⟨V.at (A.bool (Pure.impl_finite F [[x4], [x5], [x6]])), none, []⟩ else none else some ⟨V.at (A.bool false), none, []⟩ else none := by kernel_rfl
  rw [h0]
  unfold Pure.impl_fallOk Pure.impl_fallOk_ok
  cases (Pure.impl_ValidTable_ok F x0 x1 x2 x3) with
  | true =>
    cases (Pure.impl_ValidTable F x0 x1 x2 x3) with
    | true =>
      cases (Pure.impl_finite_ok F [[x4], [x5], [x6]]) with
      | true =>
        intro _; rfl
      | false =>
        intro h; exact absurd h Bool.false_ne_true
    | false =>
      intro _; rfl
  | false =>
    intro h; exact absurd h Bool.false_ne_true
theorem ok_impl_fallOk : CallOK Try.prog 66 (c_impl_fallOk real) := by
  refine callOK_of fun args h ret hc => ?_
  unfold c_impl_fallOk at hc
  split at hc
  · rename_i x0 x1 x2 x3 x4 x5 x6
    obtain ⟨hok, rfl⟩ := some_ret hc
    exact holds_ev prog_ok (allOK_cons ok_impl_ValidTable (allOK_cons ok_impl_finite allOK_nil)) Try.func66 rfl rfl smL_nil rfl (e_impl_fallOk real x0 x1 x2 x3 x4 x5 x6 hok)
  · cases hc
def Pure.impl_HitFall (F : FOps) (x0 : Int) (x1 : Int) (x2 : Int) (x3 : Int) (x4 : Int) (x5 : Int) (x6 : Int) : Int := bif Pure.impl_fallOk F x0 x1 x2 x3 x4 x5 x6 then bif Pure.impl_TableAt_1 F x0 x1 x2 x3 x6 then bif Pure.impl_TableSpeed_1 F x0 x1 x2 x3 x6 then bif Pure.impl_IsFinite F (FOps.bin F BinOp.add FloatKind.f32 (Pure.impl_TableSpeed F x0 x1 x2 x3 x6) (FOps.bin F BinOp.mul FloatKind.f32 x2 (FOps.bin F BinOp.sub FloatKind.f32 (Pure.impl_TableSpeed F x0 x1 x2 x3 x6) x5))) then Pure.impl_TableAt F x0 x1 x2 x3 x6 else 0 else 0 else 0 else 0
def Pure.impl_HitFall_1 (F : FOps) (x0 : Int) (x1 : Int) (x2 : Int) (x3 : Int) (x4 : Int) (x5 : Int) (x6 : Int) : Int := bif Pure.impl_fallOk F x0 x1 x2 x3 x4 x5 x6 then bif Pure.impl_TableAt_1 F x0 x1 x2 x3 x6 then bif Pure.impl_TableSpeed_1 F x0 x1 x2 x3 x6 then bif Pure.impl_IsFinite F (FOps.bin F BinOp.add FloatKind.f32 (Pure.impl_TableSpeed F x0 x1 x2 x3 x6) (FOps.bin F BinOp.mul FloatKind.f32 x2 (FOps.bin F BinOp.sub FloatKind.f32 (Pure.impl_TableSpeed F x0 x1 x2 x3 x6) x5))) then FOps.bin F BinOp.add FloatKind.f32 (Pure.impl_TableSpeed F x0 x1 x2 x3 x6) (FOps.bin F BinOp.mul FloatKind.f32 x2 (FOps.bin F BinOp.sub FloatKind.f32 (Pure.impl_TableSpeed F x0 x1 x2 x3 x6) x5)) else 0 else 0 else 0 else 0
def Pure.impl_HitFall_2 (F : FOps) (x0 : Int) (x1 : Int) (x2 : Int) (x3 : Int) (x4 : Int) (x5 : Int) (x6 : Int) : Int := bif Pure.impl_fallOk F x0 x1 x2 x3 x4 x5 x6 then bif Pure.impl_TableAt_1 F x0 x1 x2 x3 x6 then bif Pure.impl_TableSpeed_1 F x0 x1 x2 x3 x6 then bif Pure.impl_IsFinite F (FOps.bin F BinOp.add FloatKind.f32 (Pure.impl_TableSpeed F x0 x1 x2 x3 x6) (FOps.bin F BinOp.mul FloatKind.f32 x2 (FOps.bin F BinOp.sub FloatKind.f32 (Pure.impl_TableSpeed F x0 x1 x2 x3 x6) x5))) then x6 else 0 else 0 else 0 else 0
def Pure.impl_HitFall_3 (F : FOps) (x0 : Int) (x1 : Int) (x2 : Int) (x3 : Int) (x4 : Int) (x5 : Int) (x6 : Int) : Bool := bif Pure.impl_fallOk F x0 x1 x2 x3 x4 x5 x6 then bif Pure.impl_TableAt_1 F x0 x1 x2 x3 x6 then bif Pure.impl_TableSpeed_1 F x0 x1 x2 x3 x6 then Pure.impl_IsFinite F (FOps.bin F BinOp.add FloatKind.f32 (Pure.impl_TableSpeed F x0 x1 x2 x3 x6) (FOps.bin F BinOp.mul FloatKind.f32 x2 (FOps.bin F BinOp.sub FloatKind.f32 (Pure.impl_TableSpeed F x0 x1 x2 x3 x6) x5))) else false else false else false
def Pure.impl_HitFall_ok (F : FOps) (x0 : Int) (x1 : Int) (x2 : Int) (x3 : Int) (x4 : Int) (x5 : Int) (x6 : Int) : Bool := bif Pure.impl_TableAt_ok F x0 x1 x2 x3 x6 then bif Pure.impl_TableSpeed_ok F x0 x1 x2 x3 x6 then Pure.impl_fallOk_ok F x0 x1 x2 x3 x4 x5 x6 else false else false
def c_impl_HitFall (F : FOps) : Con
  | [V.agg [A.fl FloatKind.f32 x0, A.fl FloatKind.f32 x1, A.fl FloatKind.f32 x2, A.fl FloatKind.f32 x3], V.agg [A.fl FloatKind.f32 x4, A.fl FloatKind.f32 x5, A.fl FloatKind.f32 x6]], [] => some (Pure.impl_HitFall_ok F x0 x1 x2 x3 x4 x5 x6, ⟨V.tup [(true, [A.fl FloatKind.f32 (Pure.impl_HitFall F x0 x1 x2 x3 x4 x5 x6), A.fl FloatKind.f32 (Pure.impl_HitFall_1 F x0 x1 x2 x3 x4 x5 x6), A.fl FloatKind.f32 (Pure.impl_HitFall_2 F x0 x1 x2 x3 x4 x5 x6)]), (false, [A.bool (Pure.impl_HitFall_3 F x0 x1 x2 x3 x4 x5 x6)])], none, []⟩)
  | _, _ => none
theorem e_impl_HitFall (F : FOps) (x0 : Int) (x1 : Int) (x2 : Int) (x3 : Int) (x4 : Int) (x5 : Int) (x6 : Int) : Pure.impl_HitFall_ok F x0 x1 x2 x3 x4 x5 x6 = true → evFn (cxS F tyl [(17, c_impl_TableAt F), (20, c_impl_TableSpeed F), (66, c_impl_fallOk F), (62, c_impl_IsFinite F)] [] [] 0) Try.f26 false [V.agg [A.fl FloatKind.f32 x0, A.fl FloatKind.f32 x1, A.fl FloatKind.f32 x2, A.fl FloatKind.f32 x3], V.agg [A.fl FloatKind.f32 x4, A.fl FloatKind.f32 x5, A.fl FloatKind.f32 x6]] [] = some ⟨V.tup [(true, [A.fl FloatKind.f32 (Pure.impl_HitFall F x0 x1 x2 x3 x4 x5 x6), A.fl FloatKind.f32 (Pure.impl_HitFall_1 F x0 x1 x2 x3 x4 x5 x6), A.fl FloatKind.f32 (Pure.impl_HitFall_2 F x0 x1 x2 x3 x4 x5 x6)]), (false, [A.bool (Pure.impl_HitFall_3 F x0 x1 x2 x3 x4 x5 x6)])], none, []⟩ := by
  have h0 : evFn (cxS F tyl [(17, c_impl_TableAt F), (20, c_impl_TableSpeed F), (66, c_impl_fallOk F), (62, c_impl_IsFinite F)] [] [] 0) Try.f26 false [V.agg [A.fl FloatKind.f32 x0, A.fl FloatKind.f32 x1, A.fl FloatKind.f32 x2, A.fl FloatKind.f32 x3], V.agg [A.fl FloatKind.f32 x4, A.fl FloatKind.f32 x5, A.fl FloatKind.f32 x6]] [] = bif Pure.impl_TableAt_ok F x0 x1 x2 x3 x6 then bif Pure.impl_TableSpeed_ok F x0 x1 x2 x3 x6 then bif Pure.impl_fallOk_ok F x0 x1 x2 x3 x4 x5 x6 then bif Bool.not (Pure.impl_fallOk F x0 x1 x2 x3 x4 x5 x6) then some ⟨V.tup [(true, [A.fl FloatKind.f32 0, A.fl FloatKind.f32 0, A.fl FloatKind.f32 0]), (false, [A.bool false])], none, []⟩ else bif Bool.not (Pure.impl_TableAt_1 F x0 x1 x2 x3 x6) then some ⟨V.tup [(true, [A.fl FloatKind.f32 0, A.fl FloatKind.f32 0, A.fl FloatKind.f32 0]), (false, [A.bool false])], none, []⟩ else bif Bool.not (Pure.impl_TableSpeed_1 F x0 x1 x2 x3 x6) then some ⟨V.tup [(true, [A.fl FloatKind.f32 0, A.fl FloatKind.f32 0, A.fl FloatKind.f32 0]), (false, [A.bool false])], none, []⟩ else bif Bool.not (Pure.impl_IsFinite F (FOps.bin F BinOp.add FloatKind.f32 (Pure.impl_TableSpeed F x0 x1 x2 x3 x6) (FOps.bin F BinOp.mul FloatKind.f32 x2 (FOps.bin F BinOp.sub FloatKind.f32 (Pure.impl_TableSpeed F x0 x1 x2 x3 x6) x5)))) then some ⟨V.tup [(true, [A.fl FloatKind.f32 0, A.fl FloatKind.f32 0, A.fl FloatKind.f32 0]), (false, [A.bool false])], none, []⟩ else some ⟨V.tup [(true, [A.fl FloatKind.f32 (Pure.impl_TableAt F x0 x1 x2 x3 x6), A.fl FloatKind.f32 (FOps.bin F BinOp.add FloatKind.f32 (Pure.impl_TableSpeed F x0 x1 x2 x3 x6) (FOps.bin F BinOp.mul FloatKind.f32 x2 (FOps.bin F BinOp.sub FloatKind.f32 (Pure.impl_TableSpeed F x0 x1 x2 x3 x6) x5))), A.fl FloatKind.f32 x6]), (false, [A.bool true])], none, []⟩ else none else none else none := by kernel_rfl
  rw [h0]
  unfold Pure.impl_HitFall Pure.impl_HitFall_1 Pure.impl_HitFall_2 Pure.impl_HitFall_3 Pure.impl_HitFall_ok
  cases (Pure.impl_TableAt_ok F x0 x1 x2 x3 x6) with
  | true =>
    cases (Pure.impl_TableSpeed_ok F x0 x1 x2 x3 x6) with
    | true =>
      cases (Pure.impl_fallOk_ok F x0 x1 x2 x3 x4 x5 x6) with
      | true =>
        cases (Pure.impl_fallOk F x0 x1 x2 x3 x4 x5 x6) with
        | true =>
          cases (Pure.impl_TableAt_1 F x0 x1 x2 x3 x6) with
          | true =>
            cases (Pure.impl_TableSpeed_1 F x0 x1 x2 x3 x6) with
            | true =>
              cases (Pure.impl_IsFinite F (FOps.bin F BinOp.add FloatKind.f32 (Pure.impl_TableSpeed F x0 x1 x2 x3 x6) (FOps.bin F BinOp.mul FloatKind.f32 x2 (FOps.bin F BinOp.sub FloatKind.f32 (Pure.impl_TableSpeed F x0 x1 x2 x3 x6) x5)))) with
              | true =>
                intro _; rfl
              | false =>
                intro _; rfl
            | false =>
              intro _; rfl
          | false =>
            intro _; rfl
        | false =>
          intro _; rfl
      | false =>
        intro h; exact absurd h Bool.false_ne_true
    | false =>
      intro h; exact absurd h Bool.false_ne_true
  | false =>
    intro h; exact absurd h Bool.false_ne_true
theorem ok_impl_HitFall : CallOK Try.prog 26 (c_impl_HitFall real) := by
  refine callOK_of fun args h ret hc => ?_
  unfold c_impl_HitFall at hc
  split at hc
  · rename_i x0 x1 x2 x3 x4 x5 x6
    obtain ⟨hok, rfl⟩ := some_ret hc
    exact holds_ev prog_ok (allOK_cons ok_impl_TableAt (allOK_cons ok_impl_TableSpeed (allOK_cons ok_impl_fallOk (allOK_cons ok_impl_IsFinite allOK_nil)))) Try.func26 rfl rfl smL_nil rfl (e_impl_HitFall real x0 x1 x2 x3 x4 x5 x6 hok)
  · cases hc
def Pure.laws_eqFall (F : FOps) (x0 : Int) (x1 : Int) (x2 : Int) (x3 : Int) (x4 : Int) (x5 : Int) : Bool := bif Pure.laws_sameFloat F (FOps.conv F FloatKind.f32 FloatKind.f64 x0) (FOps.conv F FloatKind.f32 FloatKind.f64 x3) then bif Pure.laws_sameFloat F (FOps.conv F FloatKind.f32 FloatKind.f64 x1) (FOps.conv F FloatKind.f32 FloatKind.f64 x4) then Pure.laws_sameFloat F (FOps.conv F FloatKind.f32 FloatKind.f64 x2) (FOps.conv F FloatKind.f32 FloatKind.f64 x5) else false else false
def Pure.laws_eqFall_ok (F : FOps) (x0 : Int) (x1 : Int) (x2 : Int) (x3 : Int) (x4 : Int) (x5 : Int) : Bool := bif FOps.convOk F FloatKind.f32 FloatKind.f64 x0 then bif FOps.convOk F FloatKind.f32 FloatKind.f64 x3 then bif Pure.laws_sameFloat F (FOps.conv F FloatKind.f32 FloatKind.f64 x0) (FOps.conv F FloatKind.f32 FloatKind.f64 x3) then bif FOps.convOk F FloatKind.f32 FloatKind.f64 x1 then bif FOps.convOk F FloatKind.f32 FloatKind.f64 x4 then bif Pure.laws_sameFloat F (FOps.conv F FloatKind.f32 FloatKind.f64 x1) (FOps.conv F FloatKind.f32 FloatKind.f64 x4) then bif FOps.convOk F FloatKind.f32 FloatKind.f64 x2 then FOps.convOk F FloatKind.f32 FloatKind.f64 x5 else false else true else false else false else true else false else false
def c_laws_eqFall (F : FOps) : Con
  | [V.agg [A.fl FloatKind.f32 x0, A.fl FloatKind.f32 x1, A.fl FloatKind.f32 x2], V.agg [A.fl FloatKind.f32 x3, A.fl FloatKind.f32 x4, A.fl FloatKind.f32 x5]], [] => some (Pure.laws_eqFall_ok F x0 x1 x2 x3 x4 x5, ⟨V.at (A.bool (Pure.laws_eqFall F x0 x1 x2 x3 x4 x5)), none, []⟩)
  | _, _ => none
theorem e_laws_eqFall (F : FOps) (x0 : Int) (x1 : Int) (x2 : Int) (x3 : Int) (x4 : Int) (x5 : Int) : Pure.laws_eqFall_ok F x0 x1 x2 x3 x4 x5 = true → evFn (cxS F tyl [(18, c_laws_sameFloat F)] [] [] 0) Try.f31 false [V.agg [A.fl FloatKind.f32 x0, A.fl FloatKind.f32 x1, A.fl FloatKind.f32 x2], V.agg [A.fl FloatKind.f32 x3, A.fl FloatKind.f32 x4, A.fl FloatKind.f32 x5]] [] = some ⟨V.at (A.bool (Pure.laws_eqFall F x0 x1 x2 x3 x4 x5)), none, []⟩ := by
  have h0 : evFn (cxS F tyl [(18, c_laws_sameFloat F)] [] [] 0) Try.f31 false [V.agg [A.fl FloatKind.f32 x0, A.fl FloatKind.f32 x1, A.fl FloatKind.f32 x2], V.agg [A.fl FloatKind.f32 x3, A.fl FloatKind.f32 x4, A.fl FloatKind.f32 x5]] [] = bif FOps.convOk F FloatKind.f32 FloatKind.f64 x0 then bif FOps.convOk F FloatKind.f32 FloatKind.f64 x3 then bif Bool.not (Pure.laws_sameFloat F (FOps.conv F FloatKind.f32 FloatKind.f64 x0) (FOps.conv F FloatKind.f32 FloatKind.f64 x3)) then some ⟨V.at (A.bool false), none, []⟩ else bif FOps.convOk F FloatKind.f32 FloatKind.f64 x1 then bif FOps.convOk F FloatKind.f32 FloatKind.f64 x4 then bif Bool.not (Pure.laws_sameFloat F (FOps.conv F FloatKind.f32 FloatKind.f64 x1) (FOps.conv F FloatKind.f32 FloatKind.f64 x4)) then some ⟨V.at (A.bool false), none, []⟩ else bif FOps.convOk F FloatKind.f32 FloatKind.f64 x2 then bif FOps.convOk F FloatKind.f32 FloatKind.f64 x5 then bif Bool.not (Pure.laws_sameFloat F (FOps.conv F FloatKind.f32 FloatKind.f64 x2) (FOps.conv F FloatKind.f32 FloatKind.f64 x5)) then some ⟨V.at (A.bool false), none, []⟩ else some ⟨V.at (A.bool true), none, []⟩ else none else none else none else none else none else none := by kernel_rfl
  rw [h0]
  unfold Pure.laws_eqFall Pure.laws_eqFall_ok
  cases (FOps.convOk F FloatKind.f32 FloatKind.f64 x0) with
  | true =>
    cases (FOps.convOk F FloatKind.f32 FloatKind.f64 x3) with
    | true =>
      cases (Pure.laws_sameFloat F (FOps.conv F FloatKind.f32 FloatKind.f64 x0) (FOps.conv F FloatKind.f32 FloatKind.f64 x3)) with
      | true =>
        cases (FOps.convOk F FloatKind.f32 FloatKind.f64 x1) with
        | true =>
          cases (FOps.convOk F FloatKind.f32 FloatKind.f64 x4) with
          | true =>
            cases (Pure.laws_sameFloat F (FOps.conv F FloatKind.f32 FloatKind.f64 x1) (FOps.conv F FloatKind.f32 FloatKind.f64 x4)) with
            | true =>
              cases (FOps.convOk F FloatKind.f32 FloatKind.f64 x2) with
              | true =>
                cases (FOps.convOk F FloatKind.f32 FloatKind.f64 x5) with
                | true =>
                  cases (Pure.laws_sameFloat F (FOps.conv F FloatKind.f32 FloatKind.f64 x2) (FOps.conv F FloatKind.f32 FloatKind.f64 x5)) with
                  | true =>
                    intro _; rfl
                  | false =>
                    intro _; rfl
                | false =>
                  intro h; exact absurd h Bool.false_ne_true
              | false =>
                intro h; exact absurd h Bool.false_ne_true
            | false =>
              intro _; rfl
          | false =>
            intro h; exact absurd h Bool.false_ne_true
        | false =>
          intro h; exact absurd h Bool.false_ne_true
      | false =>
        intro _; rfl
    | false =>
      intro h; exact absurd h Bool.false_ne_true
  | false =>
    intro h; exact absurd h Bool.false_ne_true
theorem ok_laws_eqFall : CallOK Try.prog 31 (c_laws_eqFall real) := by
  refine callOK_of fun args h ret hc => ?_
  unfold c_laws_eqFall at hc
  split at hc
  · rename_i x0 x1 x2 x3 x4 x5
    obtain ⟨hok, rfl⟩ := some_ret hc
    exact holds_ev prog_ok (allOK_cons ok_laws_sameFloat allOK_nil) Try.func31 rfl rfl smL_nil rfl (e_laws_eqFall real x0 x1 x2 x3 x4 x5 hok)
  · cases hc
end Go.Fx
