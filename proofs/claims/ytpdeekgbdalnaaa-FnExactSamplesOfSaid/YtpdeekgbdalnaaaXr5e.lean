import Derived.Test.YtpdeekgbdalnaaaXr5c
import Derived.KernelRfl
namespace Go.Fx
open Go.Proofs
set_option maxRecDepth 100000
def c_laws_toPendulum (_ : FOps) : Con
  | [V.agg [A.fl FloatKind.f32 x0, A.fl FloatKind.f32 x1, A.fl FloatKind.f32 x2, A.fl FloatKind.f32 x3, A.fl FloatKind.f32 x4]], [] => some (true, ⟨V.agg [A.fl FloatKind.f32 x0, A.fl FloatKind.f32 x1, A.fl FloatKind.f32 x2, A.fl FloatKind.f32 x3, A.fl FloatKind.f32 x4], none, []⟩)
  | _, _ => none
theorem e_laws_toPendulum (F : FOps) (x0 : Int) (x1 : Int) (x2 : Int) (x3 : Int) (x4 : Int) : evFn (cxS F tyl [] [] [] 0) Try.f33 false [V.agg [A.fl FloatKind.f32 x0, A.fl FloatKind.f32 x1, A.fl FloatKind.f32 x2, A.fl FloatKind.f32 x3, A.fl FloatKind.f32 x4]] [] = some ⟨V.agg [A.fl FloatKind.f32 x0, A.fl FloatKind.f32 x1, A.fl FloatKind.f32 x2, A.fl FloatKind.f32 x3, A.fl FloatKind.f32 x4], none, []⟩ := by
  kernel_rfl
theorem ok_laws_toPendulum : CallOK Try.prog 33 (c_laws_toPendulum real) := by
  refine callOK_of fun args h ret hc => ?_
  unfold c_laws_toPendulum at hc
  split at hc
  · rename_i x0 x1 x2 x3 x4
    obtain ⟨_, rfl⟩ := some_ret hc
    exact holds_ev prog_ok allOK_nil Try.func33 rfl rfl smL_nil rfl (e_laws_toPendulum real x0 x1 x2 x3 x4)
  · cases hc
def c_laws_toSwing (_ : FOps) : Con
  | [V.agg [A.fl FloatKind.f32 x0, A.fl FloatKind.f32 x1, A.fl FloatKind.f32 x2]], [] => some (true, ⟨V.agg [A.fl FloatKind.f32 x0, A.fl FloatKind.f32 x1, A.fl FloatKind.f32 x2], none, []⟩)
  | _, _ => none
theorem e_laws_toSwing (F : FOps) (x0 : Int) (x1 : Int) (x2 : Int) : evFn (cxS F tyl [] [] [] 0) Try.f34 false [V.agg [A.fl FloatKind.f32 x0, A.fl FloatKind.f32 x1, A.fl FloatKind.f32 x2]] [] = some ⟨V.agg [A.fl FloatKind.f32 x0, A.fl FloatKind.f32 x1, A.fl FloatKind.f32 x2], none, []⟩ := by
  kernel_rfl
theorem ok_laws_toSwing : CallOK Try.prog 34 (c_laws_toSwing real) := by
  refine callOK_of fun args h ret hc => ?_
  unfold c_laws_toSwing at hc
  split at hc
  · rename_i x0 x1 x2
    obtain ⟨_, rfl⟩ := some_ret hc
    exact holds_ev prog_ok allOK_nil Try.func34 rfl rfl smL_nil rfl (e_laws_toSwing real x0 x1 x2)
  · cases hc
def Pure.spec_l02Least (F : FOps) (x0 : Int) : Bool := bif Pure.spec_l01Finite F x0 then FOps.cmp F BinOp.geq FloatKind.f32 x0 0 else false
def c_spec_l02Least (F : FOps) : Con
  | [V.at (A.fl FloatKind.f32 x0)], [] => some (true, ⟨V.at (A.bool (Pure.spec_l02Least F x0)), none, []⟩)
  | _, _ => none
theorem e_spec_l02Least (F : FOps) (x0 : Int) : evFn (cxS F tyl [(59, c_spec_l01Finite F)] [] [] 0) Try.f123 false [V.at (A.fl FloatKind.f32 x0)] [] = some ⟨V.at (A.bool (Pure.spec_l02Least F x0)), none, []⟩ := by
  have h0 : evFn (cxS F tyl [(59, c_spec_l01Finite F)] [] [] 0) Try.f123 false [V.at (A.fl FloatKind.f32 x0)] [] = bif Pure.spec_l01Finite F x0 then some ⟨V.at (A.bool (FOps.cmp F BinOp.geq FloatKind.f32 x0 0)), none, []⟩ else some ⟨V.at (A.bool false), none, []⟩ := by kernel_rfl
  rw [h0]
  unfold Pure.spec_l02Least
  cases (Pure.spec_l01Finite F x0) with
  | true =>
    rfl
  | false =>
    rfl
theorem ok_spec_l02Least : CallOK Try.prog 123 (c_spec_l02Least real) := by
  refine callOK_of fun args h ret hc => ?_
  unfold c_spec_l02Least at hc
  split at hc
  · rename_i x0
    obtain ⟨_, rfl⟩ := some_ret hc
    exact holds_ev prog_ok (allOK_cons ok_spec_l01Finite allOK_nil) Try.func123 rfl rfl smL_nil rfl (e_spec_l02Least real x0)
  · cases hc
def Pure.spec_l02Is (F : FOps) (x0 : Int) (x1 : Int) (x2 : Int) (x3 : Int) (x4 : Int) : Bool := bif Pure.spec_l02Above F x0 then bif Pure.spec_l02Least F x1 then bif Pure.spec_l02Least F x2 then bif Pure.spec_l01Finite F x3 then Pure.spec_l01Finite F x4 else false else false else false else false
def c_spec_l02Is (F : FOps) : Con
  | [V.at (A.ptr 0 0 0)], [⟨false, OC.box [A.fl FloatKind.f32 x0, A.fl FloatKind.f32 x1, A.fl FloatKind.f32 x2, A.fl FloatKind.f32 x3, A.fl FloatKind.f32 x4]⟩] => some (true, ⟨V.at (A.bool (Pure.spec_l02Is F x0 x1 x2 x3 x4)), none, []⟩)
  | _, _ => none
theorem e_spec_l02Is (F : FOps) (x0 : Int) (x1 : Int) (x2 : Int) (x3 : Int) (x4 : Int) : evFn (cxS F tyl [(98, c_spec_l02Above F), (123, c_spec_l02Least F), (59, c_spec_l01Finite F)] [] [] 0) Try.f105 false [V.at (A.ptr 0 0 0)] [⟨false, OC.box [A.fl FloatKind.f32 x0, A.fl FloatKind.f32 x1, A.fl FloatKind.f32 x2, A.fl FloatKind.f32 x3, A.fl FloatKind.f32 x4]⟩] = some ⟨V.at (A.bool (Pure.spec_l02Is F x0 x1 x2 x3 x4)), none, []⟩ := by
  have h0 : evFn (cxS F tyl [(98, c_spec_l02Above F), (123, c_spec_l02Least F), (59, c_spec_l01Finite F)] [] [] 0) Try.f105 false [V.at (A.ptr 0 0 0)] [⟨false, OC.box [A.fl FloatKind.f32 x0, A.fl FloatKind.f32 x1, A.fl FloatKind.f32 x2, A.fl FloatKind.f32 x3, A.fl FloatKind.f32 x4]⟩] = bif Pure.spec_l02Above F x0 then bif Pure.spec_l02Least F x1 then bif Pure.spec_l02Least F x2 then bif Pure.spec_l01Finite F x3 then some ⟨V.at (A.bool (Pure.spec_l01Finite F x4)), none, []⟩ else some ⟨V.at (A.bool false), none, []⟩ else some ⟨V.at (A.bool false), none, []⟩ else some ⟨V.at (A.bool false), none, []⟩ else some ⟨V.at (A.bool false), none, []⟩ := by kernel_rfl
  rw [h0]
  unfold Pure.spec_l02Is
  cases (Pure.spec_l02Above F x0) with
  | true =>
    cases (Pure.spec_l02Least F x1) with
    | true =>
      cases (Pure.spec_l02Least F x2) with
      | true =>
        cases (Pure.spec_l01Finite F x3) with
        | true =>
          rfl
        | false =>
          rfl
      | false =>
        rfl
    | false =>
      rfl
  | false =>
    rfl
theorem ok_spec_l02Is : CallOK Try.prog 105 (c_spec_l02Is real) := by
  refine callOK_of fun args h ret hc => ?_
  unfold c_spec_l02Is at hc
  split at hc
  · rename_i x0 x1 x2 x3 x4
    obtain ⟨_, rfl⟩ := some_ret hc
    exact holds_ev prog_ok (allOK_cons ok_spec_l02Above (allOK_cons ok_spec_l02Least (allOK_cons ok_spec_l01Finite allOK_nil))) Try.func105 rfl rfl smL_nil rfl (e_spec_l02Is real x0 x1 x2 x3 x4)
  · cases hc
def Pure.spec_l02Swing (F : FOps) (x0 : Int) (x1 : Int) (x2 : Int) : Bool := bif Pure.spec_l01Finite F x0 then bif Pure.spec_l01Finite F x1 then Pure.spec_l01Finite F x2 else false else false
def c_spec_l02Swing (F : FOps) : Con
  | [V.at (A.ptr 0 0 0)], [⟨false, OC.box [A.fl FloatKind.f32 x0, A.fl FloatKind.f32 x1, A.fl FloatKind.f32 x2]⟩] => some (true, ⟨V.at (A.bool (Pure.spec_l02Swing F x0 x1 x2)), none, []⟩)
  | _, _ => none
theorem e_spec_l02Swing (F : FOps) (x0 : Int) (x1 : Int) (x2 : Int) : evFn (cxS F tyl [(59, c_spec_l01Finite F)] [] [] 0) Try.f106 false [V.at (A.ptr 0 0 0)] [⟨false, OC.box [A.fl FloatKind.f32 x0, A.fl FloatKind.f32 x1, A.fl FloatKind.f32 x2]⟩] = some ⟨V.at (A.bool (Pure.spec_l02Swing F x0 x1 x2)), none, []⟩ := by
  have h0 : evFn (cxS F tyl [(59, c_spec_l01Finite F)] [] [] 0) Try.f106 false [V.at (A.ptr 0 0 0)] [⟨false, OC.box [A.fl FloatKind.f32 x0, A.fl FloatKind.f32 x1, A.fl FloatKind.f32 x2]⟩] = bif Pure.spec_l01Finite F x0 then bif Pure.spec_l01Finite F x1 then some ⟨V.at (A.bool (Pure.spec_l01Finite F x2)), none, []⟩ else some ⟨V.at (A.bool false), none, []⟩ else some ⟨V.at (A.bool false), none, []⟩ := by kernel_rfl
  rw [h0]
  unfold Pure.spec_l02Swing
  cases (Pure.spec_l01Finite F x0) with
  | true =>
    cases (Pure.spec_l01Finite F x1) with
    | true =>
      rfl
    | false =>
      rfl
  | false =>
    rfl
theorem ok_spec_l02Swing : CallOK Try.prog 106 (c_spec_l02Swing real) := by
  refine callOK_of fun args h ret hc => ?_
  unfold c_spec_l02Swing at hc
  split at hc
  · rename_i x0 x1 x2
    obtain ⟨_, rfl⟩ := some_ret hc
    exact holds_ev prog_ok (allOK_cons ok_spec_l01Finite allOK_nil) Try.func106 rfl rfl smL_nil rfl (e_spec_l02Swing real x0 x1 x2)
  · cases hc
def Pure.spec_l02Both (F : FOps) (x0 : Int) (x1 : Int) (x2 : Int) (x3 : Int) (x4 : Int) (x5 : Int) (x6 : Int) (x7 : Int) : Bool := bif Pure.spec_l02Is F x0 x1 x2 x3 x4 then Pure.spec_l02Swing F x5 x6 x7 else false
def c_spec_l02Both (F : FOps) : Con
  | [V.at (A.ptr 0 0 0), V.at (A.ptr 1 0 0)], [⟨false, OC.box [A.fl FloatKind.f32 x0, A.fl FloatKind.f32 x1, A.fl FloatKind.f32 x2, A.fl FloatKind.f32 x3, A.fl FloatKind.f32 x4]⟩, ⟨false, OC.box [A.fl FloatKind.f32 x5, A.fl FloatKind.f32 x6, A.fl FloatKind.f32 x7]⟩] => some (true, ⟨V.at (A.bool (Pure.spec_l02Both F x0 x1 x2 x3 x4 x5 x6 x7)), none, []⟩)
  | _, _ => none
theorem e_spec_l02Both (F : FOps) (x0 : Int) (x1 : Int) (x2 : Int) (x3 : Int) (x4 : Int) (x5 : Int) (x6 : Int) (x7 : Int) : evFn (cxS F tyl [(105, c_spec_l02Is F), (106, c_spec_l02Swing F)] [] [] 0) Try.f75 false [V.at (A.ptr 0 0 0), V.at (A.ptr 1 0 0)] [⟨false, OC.box [A.fl FloatKind.f32 x0, A.fl FloatKind.f32 x1, A.fl FloatKind.f32 x2, A.fl FloatKind.f32 x3, A.fl FloatKind.f32 x4]⟩, ⟨false, OC.box [A.fl FloatKind.f32 x5, A.fl FloatKind.f32 x6, A.fl FloatKind.f32 x7]⟩] = some ⟨V.at (A.bool (Pure.spec_l02Both F x0 x1 x2 x3 x4 x5 x6 x7)), none, []⟩ := by
  have h0 : evFn (cxS F tyl [(105, c_spec_l02Is F), (106, c_spec_l02Swing F)] [] [] 0) Try.f75 false [V.at (A.ptr 0 0 0), V.at (A.ptr 1 0 0)] [⟨false, OC.box [A.fl FloatKind.f32 x0, A.fl FloatKind.f32 x1, A.fl FloatKind.f32 x2, A.fl FloatKind.f32 x3, A.fl FloatKind.f32 x4]⟩, ⟨false, OC.box [A.fl FloatKind.f32 x5, A.fl FloatKind.f32 x6, A.fl FloatKind.f32 x7]⟩] = bif Pure.spec_l02Is F x0 x1 x2 x3 x4 then some ⟨V.at (A.bool (Pure.spec_l02Swing F x5 x6 x7)), none, []⟩ else some ⟨V.at (A.bool false), none, []⟩ := by kernel_rfl
  rw [h0]
  unfold Pure.spec_l02Both
  cases (Pure.spec_l02Is F x0 x1 x2 x3 x4) with
  | true =>
    rfl
  | false =>
    rfl
theorem ok_spec_l02Both : CallOK Try.prog 75 (c_spec_l02Both real) := by
  refine callOK_of fun args h ret hc => ?_
  unfold c_spec_l02Both at hc
  split at hc
  · rename_i x0 x1 x2 x3 x4 x5 x6 x7
    obtain ⟨_, rfl⟩ := some_ret hc
    exact holds_ev prog_ok (allOK_cons ok_spec_l02Is (allOK_cons ok_spec_l02Swing allOK_nil)) Try.func75 rfl rfl smL_nil rfl (e_spec_l02Both real x0 x1 x2 x3 x4 x5 x6 x7)
  · cases hc
def Pure.spec_l02Tick (F : FOps) (x0 : Int) : Bool := bif Pure.spec_l01Finite F x0 then FOps.cmp F BinOp.neq FloatKind.f32 x0 0 else false
def c_spec_l02Tick (F : FOps) : Con
  | [V.at (A.fl FloatKind.f32 x0)], [] => some (true, ⟨V.at (A.bool (Pure.spec_l02Tick F x0)), none, []⟩)
  | _, _ => none
theorem e_spec_l02Tick (F : FOps) (x0 : Int) : evFn (cxS F tyl [(59, c_spec_l01Finite F)] [] [] 0) Try.f76 false [V.at (A.fl FloatKind.f32 x0)] [] = some ⟨V.at (A.bool (Pure.spec_l02Tick F x0)), none, []⟩ := by
  have h0 : evFn (cxS F tyl [(59, c_spec_l01Finite F)] [] [] 0) Try.f76 false [V.at (A.fl FloatKind.f32 x0)] [] = bif Pure.spec_l01Finite F x0 then some ⟨V.at (A.bool (FOps.cmp F BinOp.neq FloatKind.f32 x0 0)), none, []⟩ else some ⟨V.at (A.bool false), none, []⟩ := by kernel_rfl
  rw [h0]
  unfold Pure.spec_l02Tick
  cases (Pure.spec_l01Finite F x0) with
  | true =>
    rfl
  | false =>
    rfl
theorem ok_spec_l02Tick : CallOK Try.prog 76 (c_spec_l02Tick real) := by
  refine callOK_of fun args h ret hc => ?_
  unfold c_spec_l02Tick at hc
  split at hc
  · rename_i x0
    obtain ⟨_, rfl⟩ := some_ret hc
    exact holds_ev prog_ok (allOK_cons ok_spec_l01Finite allOK_nil) Try.func76 rfl rfl smL_nil rfl (e_spec_l02Tick real x0)
  · cases hc
def Pure.spec_l02Pull (F : FOps) (x0 : Int) (x1 : Int) (x2 : Int) (x3 : Int) (x4 : Int) (x5 : Int) : Int := FOps.neg F FloatKind.f32 (FOps.bin F BinOp.mul FloatKind.f32 (FOps.bin F BinOp.quo FloatKind.f32 x1 x0) (FOps.bin F BinOp.quo FloatKind.f32 (Pure.spec_l01Sine F x5) 1086918619))
def Pure.spec_l02Pull_ok (F : FOps) (x0 : Int) (x1 : Int) (x2 : Int) (x3 : Int) (x4 : Int) (x5 : Int) : Bool := Pure.spec_l01Sine_ok F x5
def c_spec_l02Pull (F : FOps) : Con
  | [V.at (A.ptr 0 0 0), V.at (A.fl FloatKind.f32 x5)], [⟨false, OC.box [A.fl FloatKind.f32 x0, A.fl FloatKind.f32 x1, A.fl FloatKind.f32 x2, A.fl FloatKind.f32 x3, A.fl FloatKind.f32 x4]⟩] => some (Pure.spec_l02Pull_ok F x0 x1 x2 x3 x4 x5, ⟨V.at (A.fl FloatKind.f32 (Pure.spec_l02Pull F x0 x1 x2 x3 x4 x5)), none, []⟩)
  | _, _ => none
theorem e_spec_l02Pull (F : FOps) (x0 : Int) (x1 : Int) (x2 : Int) (x3 : Int) (x4 : Int) (x5 : Int) : Pure.spec_l02Pull_ok F x0 x1 x2 x3 x4 x5 = true → evFn (cxS F tyl [(99, c_spec_l01Sine F)] [] [] 0) Try.f124 false [V.at (A.ptr 0 0 0), V.at (A.fl FloatKind.f32 x5)] [⟨false, OC.box [A.fl FloatKind.f32 x0, A.fl FloatKind.f32 x1, A.fl FloatKind.f32 x2, A.fl FloatKind.f32 x3, A.fl FloatKind.f32 x4]⟩] = some ⟨V.at (A.fl FloatKind.f32 (Pure.spec_l02Pull F x0 x1 x2 x3 x4 x5)), none, []⟩ := by
  have h0 : evFn (cxS F tyl [(99, c_spec_l01Sine F)] [] [] 0) Try.f124 false [V.at (A.ptr 0 0 0), V.at (A.fl FloatKind.f32 x5)] [⟨false, OC.box [A.fl FloatKind.f32 x0, A.fl FloatKind.f32 x1, A.fl FloatKind.f32 x2, A.fl FloatKind.f32 x3, A.fl FloatKind.f32 x4]⟩] = bif Pure.spec_l01Sine_ok F x5 then some ⟨V.at (A.fl FloatKind.f32 (FOps.neg F FloatKind.f32 (FOps.bin F BinOp.mul FloatKind.f32 (FOps.bin F BinOp.quo FloatKind.f32 x1 x0) (FOps.bin F BinOp.quo FloatKind.f32 (Pure.spec_l01Sine F x5) 1086918619)))), none, []⟩ else none := by kernel_rfl
  rw [h0]
  unfold Pure.spec_l02Pull Pure.spec_l02Pull_ok
  cases (Pure.spec_l01Sine_ok F x5) with
  | true =>
    intro _; rfl
  | false =>
    intro h; exact absurd h Bool.false_ne_true
theorem ok_spec_l02Pull : CallOK Try.prog 124 (c_spec_l02Pull real) := by
  refine callOK_of fun args h ret hc => ?_
  unfold c_spec_l02Pull at hc
  split at hc
  · rename_i x5 x0 x1 x2 x3 x4
    obtain ⟨hok, rfl⟩ := some_ret hc
    exact holds_ev prog_ok (allOK_cons ok_spec_l01Sine allOK_nil) Try.func124 rfl rfl smL_nil rfl (e_spec_l02Pull real x0 x1 x2 x3 x4 x5 hok)
  · cases hc
def Pure.spec_l02Drive (F : FOps) (x0 : Int) (x1 : Int) (x2 : Int) (x3 : Int) (x4 : Int) (x5 : Int) : Int := FOps.bin F BinOp.mul FloatKind.f32 x3 (Pure.spec_l01Sine F (FOps.bin F BinOp.mul FloatKind.f32 x4 x5))
def Pure.spec_l02Drive_ok (F : FOps) (x0 : Int) (x1 : Int) (x2 : Int) (x3 : Int) (x4 : Int) (x5 : Int) : Bool := Pure.spec_l01Sine_ok F (FOps.bin F BinOp.mul FloatKind.f32 x4 x5)
def c_spec_l02Drive (F : FOps) : Con
  | [V.at (A.ptr 0 0 0), V.at (A.fl FloatKind.f32 x5)], [⟨false, OC.box [A.fl FloatKind.f32 x0, A.fl FloatKind.f32 x1, A.fl FloatKind.f32 x2, A.fl FloatKind.f32 x3, A.fl FloatKind.f32 x4]⟩] => some (Pure.spec_l02Drive_ok F x0 x1 x2 x3 x4 x5, ⟨V.at (A.fl FloatKind.f32 (Pure.spec_l02Drive F x0 x1 x2 x3 x4 x5)), none, []⟩)
  | _, _ => none
theorem e_spec_l02Drive (F : FOps) (x0 : Int) (x1 : Int) (x2 : Int) (x3 : Int) (x4 : Int) (x5 : Int) : Pure.spec_l02Drive_ok F x0 x1 x2 x3 x4 x5 = true → evFn (cxS F tyl [(99, c_spec_l01Sine F)] [] [] 0) Try.f125 false [V.at (A.ptr 0 0 0), V.at (A.fl FloatKind.f32 x5)] [⟨false, OC.box [A.fl FloatKind.f32 x0, A.fl FloatKind.f32 x1, A.fl FloatKind.f32 x2, A.fl FloatKind.f32 x3, A.fl FloatKind.f32 x4]⟩] = some ⟨V.at (A.fl FloatKind.f32 (Pure.spec_l02Drive F x0 x1 x2 x3 x4 x5)), none, []⟩ := by
  have h0 : evFn (cxS F tyl [(99, c_spec_l01Sine F)] [] [] 0) Try.f125 false [V.at (A.ptr 0 0 0), V.at (A.fl FloatKind.f32 x5)] [⟨false, OC.box [A.fl FloatKind.f32 x0, A.fl FloatKind.f32 x1, A.fl FloatKind.f32 x2, A.fl FloatKind.f32 x3, A.fl FloatKind.f32 x4]⟩] = bif Pure.spec_l01Sine_ok F (FOps.bin F BinOp.mul FloatKind.f32 x4 x5) then some ⟨V.at (A.fl FloatKind.f32 (FOps.bin F BinOp.mul FloatKind.f32 x3 (Pure.spec_l01Sine F (FOps.bin F BinOp.mul FloatKind.f32 x4 x5)))), none, []⟩ else none := by kernel_rfl
  rw [h0]
  unfold Pure.spec_l02Drive Pure.spec_l02Drive_ok
  cases (Pure.spec_l01Sine_ok F (FOps.bin F BinOp.mul FloatKind.f32 x4 x5)) with
  | true =>
    intro _; rfl
  | false =>
    intro h; exact absurd h Bool.false_ne_true
theorem ok_spec_l02Drive : CallOK Try.prog 125 (c_spec_l02Drive real) := by
  refine callOK_of fun args h ret hc => ?_
  unfold c_spec_l02Drive at hc
  split at hc
  · rename_i x5 x0 x1 x2 x3 x4
    obtain ⟨hok, rfl⟩ := some_ret hc
    exact holds_ev prog_ok (allOK_cons ok_spec_l01Sine allOK_nil) Try.func125 rfl rfl smL_nil rfl (e_spec_l02Drive real x0 x1 x2 x3 x4 x5 hok)
  · cases hc
def Pure.spec_l02Force (F : FOps) (x0 : Int) (x1 : Int) (x2 : Int) (x3 : Int) (x4 : Int) (x5 : Int) (x6 : Int) (x7 : Int) : Int := FOps.bin F BinOp.add FloatKind.f32 (FOps.bin F BinOp.sub FloatKind.f32 (Pure.spec_l02Pull F x0 x1 x2 x3 x4 x5) (FOps.bin F BinOp.mul FloatKind.f32 x2 x6)) (Pure.spec_l02Drive F x0 x1 x2 x3 x4 x7)
def Pure.spec_l02Force_ok (F : FOps) (x0 : Int) (x1 : Int) (x2 : Int) (x3 : Int) (x4 : Int) (x5 : Int) (x6 : Int) (x7 : Int) : Bool := bif Pure.spec_l02Pull_ok F x0 x1 x2 x3 x4 x5 then Pure.spec_l02Drive_ok F x0 x1 x2 x3 x4 x7 else false
def c_spec_l02Force (F : FOps) : Con
  | [V.at (A.ptr 0 0 0), V.agg [A.fl FloatKind.f32 x5, A.fl FloatKind.f32 x6, A.fl FloatKind.f32 x7]], [⟨false, OC.box [A.fl FloatKind.f32 x0, A.fl FloatKind.f32 x1, A.fl FloatKind.f32 x2, A.fl FloatKind.f32 x3, A.fl FloatKind.f32 x4]⟩] => some (Pure.spec_l02Force_ok F x0 x1 x2 x3 x4 x5 x6 x7, ⟨V.at (A.fl FloatKind.f32 (Pure.spec_l02Force F x0 x1 x2 x3 x4 x5 x6 x7)), none, []⟩)
  | _, _ => none
theorem e_spec_l02Force (F : FOps) (x0 : Int) (x1 : Int) (x2 : Int) (x3 : Int) (x4 : Int) (x5 : Int) (x6 : Int) (x7 : Int) : Pure.spec_l02Force_ok F x0 x1 x2 x3 x4 x5 x6 x7 = true → evFn (cxS F tyl [(124, c_spec_l02Pull F), (125, c_spec_l02Drive F)] [] [] 0) Try.f107 false [V.at (A.ptr 0 0 0), V.agg [A.fl FloatKind.f32 x5, A.fl FloatKind.f32 x6, A.fl FloatKind.f32 x7]] [⟨false, OC.box [A.fl FloatKind.f32 x0, A.fl FloatKind.f32 x1, A.fl FloatKind.f32 x2, A.fl FloatKind.f32 x3, A.fl FloatKind.f32 x4]⟩] = some ⟨V.at (A.fl FloatKind.f32 (Pure.spec_l02Force F x0 x1 x2 x3 x4 x5 x6 x7)), none, []⟩ := by
  have h0 : evFn (cxS F tyl [(124, c_spec_l02Pull F), (125, c_spec_l02Drive F)] [] [] 0) Try.f107 false [V.at (A.ptr 0 0 0), V.agg [A.fl FloatKind.f32 x5, A.fl FloatKind.f32 x6, A.fl FloatKind.f32 x7]] [⟨false, OC.box [A.fl FloatKind.f32 x0, A.fl FloatKind.f32 x1, A.fl FloatKind.f32 x2, A.fl FloatKind.f32 x3, A.fl FloatKind.f32 x4]⟩] = bif Pure.spec_l02Pull_ok F x0 x1 x2 x3 x4 x5 then bif Pure.spec_l02Drive_ok F x0 x1 x2 x3 x4 x7 then some ⟨V.at (A.fl FloatKind.f32 (FOps.bin F BinOp.add FloatKind.f32 (FOps.bin F BinOp.sub FloatKind.f32 (Pure.spec_l02Pull F x0 x1 x2 x3 x4 x5) (FOps.bin F BinOp.mul FloatKind.f32 x2 x6)) (Pure.spec_l02Drive F x0 x1 x2 x3 x4 x7))), none, []⟩ else none else none := by kernel_rfl
  rw [h0]
  unfold Pure.spec_l02Force Pure.spec_l02Force_ok
  cases (Pure.spec_l02Pull_ok F x0 x1 x2 x3 x4 x5) with
  | true =>
    cases (Pure.spec_l02Drive_ok F x0 x1 x2 x3 x4 x7) with
    | true =>
      intro _; rfl
    | false =>
      intro h; exact absurd h Bool.false_ne_true
  | false =>
    intro h; exact absurd h Bool.false_ne_true
theorem ok_spec_l02Force : CallOK Try.prog 107 (c_spec_l02Force real) := by
  refine callOK_of fun args h ret hc => ?_
  unfold c_spec_l02Force at hc
  split at hc
  · rename_i x5 x6 x7 x0 x1 x2 x3 x4
    obtain ⟨hok, rfl⟩ := some_ret hc
    exact holds_ev prog_ok (allOK_cons ok_spec_l02Pull (allOK_cons ok_spec_l02Drive allOK_nil)) Try.func107 rfl rfl smL_nil rfl (e_spec_l02Force real x0 x1 x2 x3 x4 x5 x6 x7 hok)
  · cases hc
def Pure.spec_l02Step (F : FOps) (x0 : Int) (x1 : Int) (x2 : Int) (x3 : Int) (x4 : Int) (x5 : Int) (x6 : Int) (x7 : Int) (x8 : Int) : Int := FOps.bin F BinOp.add FloatKind.f32 x5 (FOps.bin F BinOp.mul FloatKind.f32 x8 (FOps.bin F BinOp.add FloatKind.f32 x6 (FOps.bin F BinOp.mul FloatKind.f32 (FOps.bin F BinOp.mul FloatKind.f32 1056964608 x8) (Pure.spec_l02Force F x0 x1 x2 x3 x4 x5 x6 x7))))
def Pure.spec_l02Step_1 (F : FOps) (x0 : Int) (x1 : Int) (x2 : Int) (x3 : Int) (x4 : Int) (x5 : Int) (x6 : Int) (x7 : Int) (x8 : Int) : Int := FOps.bin F BinOp.add FloatKind.f32 (FOps.bin F BinOp.add FloatKind.f32 x6 (FOps.bin F BinOp.mul FloatKind.f32 (FOps.bin F BinOp.mul FloatKind.f32 1056964608 x8) (Pure.spec_l02Force F x0 x1 x2 x3 x4 x5 x6 x7))) (FOps.bin F BinOp.mul FloatKind.f32 (FOps.bin F BinOp.mul FloatKind.f32 1056964608 x8) (Pure.spec_l02Force F x0 x1 x2 x3 x4 (FOps.bin F BinOp.add FloatKind.f32 x5 (FOps.bin F BinOp.mul FloatKind.f32 x8 (FOps.bin F BinOp.add FloatKind.f32 x6 (FOps.bin F BinOp.mul FloatKind.f32 (FOps.bin F BinOp.mul FloatKind.f32 1056964608 x8) (Pure.spec_l02Force F x0 x1 x2 x3 x4 x5 x6 x7))))) (FOps.bin F BinOp.add FloatKind.f32 x6 (FOps.bin F BinOp.mul FloatKind.f32 (FOps.bin F BinOp.mul FloatKind.f32 1056964608 x8) (Pure.spec_l02Force F x0 x1 x2 x3 x4 x5 x6 x7))) (FOps.bin F BinOp.add FloatKind.f32 x7 x8)))
def Pure.spec_l02Step_2 (F : FOps) (x0 : Int) (x1 : Int) (x2 : Int) (x3 : Int) (x4 : Int) (x5 : Int) (x6 : Int) (x7 : Int) (x8 : Int) : Int := FOps.bin F BinOp.add FloatKind.f32 x7 x8
def Pure.spec_l02Step_ok (F : FOps) (x0 : Int) (x1 : Int) (x2 : Int) (x3 : Int) (x4 : Int) (x5 : Int) (x6 : Int) (x7 : Int) (x8 : Int) : Bool := bif Pure.spec_l02Force_ok F x0 x1 x2 x3 x4 x5 x6 x7 then Pure.spec_l02Force_ok F x0 x1 x2 x3 x4 (FOps.bin F BinOp.add FloatKind.f32 x5 (FOps.bin F BinOp.mul FloatKind.f32 x8 (FOps.bin F BinOp.add FloatKind.f32 x6 (FOps.bin F BinOp.mul FloatKind.f32 (FOps.bin F BinOp.mul FloatKind.f32 1056964608 x8) (Pure.spec_l02Force F x0 x1 x2 x3 x4 x5 x6 x7))))) (FOps.bin F BinOp.add FloatKind.f32 x6 (FOps.bin F BinOp.mul FloatKind.f32 (FOps.bin F BinOp.mul FloatKind.f32 1056964608 x8) (Pure.spec_l02Force F x0 x1 x2 x3 x4 x5 x6 x7))) (FOps.bin F BinOp.add FloatKind.f32 x7 x8) else false
def c_spec_l02Step (F : FOps) : Con
  | [V.at (A.ptr 0 0 0), V.agg [A.fl FloatKind.f32 x5, A.fl FloatKind.f32 x6, A.fl FloatKind.f32 x7], V.at (A.fl FloatKind.f32 x8)], [⟨false, OC.box [A.fl FloatKind.f32 x0, A.fl FloatKind.f32 x1, A.fl FloatKind.f32 x2, A.fl FloatKind.f32 x3, A.fl FloatKind.f32 x4]⟩] => some (Pure.spec_l02Step_ok F x0 x1 x2 x3 x4 x5 x6 x7 x8, ⟨V.agg [A.fl FloatKind.f32 (Pure.spec_l02Step F x0 x1 x2 x3 x4 x5 x6 x7 x8), A.fl FloatKind.f32 (Pure.spec_l02Step_1 F x0 x1 x2 x3 x4 x5 x6 x7 x8), A.fl FloatKind.f32 (Pure.spec_l02Step_2 F x0 x1 x2 x3 x4 x5 x6 x7 x8)], none, []⟩)
  | _, _ => none
theorem e_spec_l02Step (F : FOps) (x0 : Int) (x1 : Int) (x2 : Int) (x3 : Int) (x4 : Int) (x5 : Int) (x6 : Int) (x7 : Int) (x8 : Int) : Pure.spec_l02Step_ok F x0 x1 x2 x3 x4 x5 x6 x7 x8 = true → evFn (cxS F tyl [(107, c_spec_l02Force F)] [] [] 0) Try.f78 false [V.at (A.ptr 0 0 0), V.agg [A.fl FloatKind.f32 x5, A.fl FloatKind.f32 x6, A.fl FloatKind.f32 x7], V.at (A.fl FloatKind.f32 x8)] [⟨false, OC.box [A.fl FloatKind.f32 x0, A.fl FloatKind.f32 x1, A.fl FloatKind.f32 x2, A.fl FloatKind.f32 x3, A.fl FloatKind.f32 x4]⟩] = some ⟨V.agg [A.fl FloatKind.f32 (Pure.spec_l02Step F x0 x1 x2 x3 x4 x5 x6 x7 x8), A.fl FloatKind.f32 (Pure.spec_l02Step_1 F x0 x1 x2 x3 x4 x5 x6 x7 x8), A.fl FloatKind.f32 (Pure.spec_l02Step_2 F x0 x1 x2 x3 x4 x5 x6 x7 x8)], none, []⟩ := by
  have h0 : evFn (cxS F tyl [(107, c_spec_l02Force F)] [] [] 0) Try.f78 false [V.at (A.ptr 0 0 0), V.agg [A.fl FloatKind.f32 x5, A.fl FloatKind.f32 x6, A.fl FloatKind.f32 x7], V.at (A.fl FloatKind.f32 x8)] [⟨false, OC.box [A.fl FloatKind.f32 x0, A.fl FloatKind.f32 x1, A.fl FloatKind.f32 x2, A.fl FloatKind.f32 x3, A.fl FloatKind.f32 x4]⟩] = bif Pure.spec_l02Force_ok F x0 x1 x2 x3 x4 x5 x6 x7 then bif Pure.spec_l02Force_ok F x0 x1 x2 x3 x4 (FOps.bin F BinOp.add FloatKind.f32 x5 (FOps.bin F BinOp.mul FloatKind.f32 x8 (FOps.bin F BinOp.add FloatKind.f32 x6 (FOps.bin F BinOp.mul FloatKind.f32 (FOps.bin F BinOp.mul FloatKind.f32 1056964608 x8) (Pure.spec_l02Force F x0 x1 x2 x3 x4 x5 x6 x7))))) (FOps.bin F BinOp.add FloatKind.f32 x6 (FOps.bin F BinOp.mul FloatKind.f32 (FOps.bin F BinOp.mul FloatKind.f32 1056964608 x8) (Pure.spec_l02Force F x0 x1 x2 x3 x4 x5 x6 x7))) (FOps.bin F BinOp.add FloatKind.f32 x7 x8) then some ⟨V.agg [A.fl FloatKind.f32 (FOps.bin F BinOp.add FloatKind.f32 x5 (FOps.bin F BinOp.mul FloatKind.f32 x8 (FOps.bin F BinOp.add FloatKind.f32 x6 (FOps.bin F BinOp.mul FloatKind.f32 (FOps.bin F BinOp.mul FloatKind.f32 1056964608 x8) (Pure.spec_l02Force F x0 x1 x2 x3 x4 x5 x6 x7))))), A.fl FloatKind.f32 (FOps.bin F BinOp.add FloatKind.f32 (FOps.bin F BinOp.add FloatKind.f32 x6 (FOps.bin F BinOp.mul FloatKind.f32 (FOps.bin F BinOp.mul FloatKind.f32 1056964608 x8) (Pure.spec_l02Force F x0 x1 x2 x3 x4 x5 x6 x7))) (FOps.bin F BinOp.mul FloatKind.f32 (FOps.bin F BinOp.mul FloatKind.f32 1056964608 x8) (Pure.spec_l02Force F x0 x1 x2 x3 x4 (FOps.bin F BinOp.add FloatKind.f32 x5 (FOps.bin F BinOp.mul FloatKind.f32 x8 (FOps.bin F BinOp.add FloatKind.f32 x6 (FOps.bin F BinOp.mul FloatKind.f32 (FOps.bin F BinOp.mul FloatKind.f32 1056964608 x8) (Pure.spec_l02Force F x0 x1 x2 x3 x4 x5 x6 x7))))) (FOps.bin F BinOp.add FloatKind.f32 x6 (FOps.bin F BinOp.mul FloatKind.f32 (FOps.bin F BinOp.mul FloatKind.f32 1056964608 x8) (Pure.spec_l02Force F x0 x1 x2 x3 x4 x5 x6 x7))) (FOps.bin F BinOp.add FloatKind.f32 x7 x8)))), A.fl FloatKind.f32 (FOps.bin F BinOp.add FloatKind.f32 x7 x8)], none, []⟩ else none else none := by kernel_rfl
  rw [h0]
  unfold Pure.spec_l02Step Pure.spec_l02Step_1 Pure.spec_l02Step_2 Pure.spec_l02Step_ok
  cases (Pure.spec_l02Force_ok F x0 x1 x2 x3 x4 x5 x6 x7) with
  | true =>
    cases (Pure.spec_l02Force_ok F x0 x1 x2 x3 x4 (FOps.bin F BinOp.add FloatKind.f32 x5 (FOps.bin F BinOp.mul FloatKind.f32 x8 (FOps.bin F BinOp.add FloatKind.f32 x6 (FOps.bin F BinOp.mul FloatKind.f32 (FOps.bin F BinOp.mul FloatKind.f32 1056964608 x8) (Pure.spec_l02Force F x0 x1 x2 x3 x4 x5 x6 x7))))) (FOps.bin F BinOp.add FloatKind.f32 x6 (FOps.bin F BinOp.mul FloatKind.f32 (FOps.bin F BinOp.mul FloatKind.f32 1056964608 x8) (Pure.spec_l02Force F x0 x1 x2 x3 x4 x5 x6 x7))) (FOps.bin F BinOp.add FloatKind.f32 x7 x8)) with
    | true =>
      intro _; rfl
    | false =>
      intro h; exact absurd h Bool.false_ne_true
  | false =>
    intro h; exact absurd h Bool.false_ne_true
theorem ok_spec_l02Step : CallOK Try.prog 78 (c_spec_l02Step real) := by
  refine callOK_of fun args h ret hc => ?_
  unfold c_spec_l02Step at hc
  split at hc
  · rename_i x5 x6 x7 x8 x0 x1 x2 x3 x4
    obtain ⟨hok, rfl⟩ := some_ret hc
    exact holds_ev prog_ok (allOK_cons ok_spec_l02Force allOK_nil) Try.func78 rfl rfl smL_nil rfl (e_spec_l02Step real x0 x1 x2 x3 x4 x5 x6 x7 x8 hok)
  · cases hc
def Pure.impl_Pendulum_numbers (F : FOps) (x0 : Int) (x1 : Int) (x2 : Int) (x3 : Int) (x4 : Int) : List (List Int) := [[x0], [x1], [x2], [x3], [x4]]
def c_impl_Pendulum_numbers (F : FOps) : Con
  | [V.at (A.ptr 0 0 0)], [⟨false, OC.box [A.fl FloatKind.f32 x0, A.fl FloatKind.f32 x1, A.fl FloatKind.f32 x2, A.fl FloatKind.f32 x3, A.fl FloatKind.f32 x4]⟩] => some (true, ⟨V.at (A.sl 1), none, [⟨true, OC.rows [K.f FloatKind.f32] (Pure.impl_Pendulum_numbers F x0 x1 x2 x3 x4)⟩]⟩)
  | _, _ => none
theorem e_impl_Pendulum_numbers (F : FOps) (x0 : Int) (x1 : Int) (x2 : Int) (x3 : Int) (x4 : Int) : evFn (cxS F tyl [] [] [] 0) Try.f126 false [V.at (A.ptr 0 0 0)] [⟨false, OC.box [A.fl FloatKind.f32 x0, A.fl FloatKind.f32 x1, A.fl FloatKind.f32 x2, A.fl FloatKind.f32 x3, A.fl FloatKind.f32 x4]⟩] = some ⟨V.at (A.sl 1), none, [⟨true, OC.rows [K.f FloatKind.f32] (Pure.impl_Pendulum_numbers F x0 x1 x2 x3 x4)⟩]⟩ := by
  kernel_rfl
theorem ok_impl_Pendulum_numbers : CallOK Try.prog 126 (c_impl_Pendulum_numbers real) := by
  refine callOK_of fun args h ret hc => ?_
  unfold c_impl_Pendulum_numbers at hc
  split at hc
  · rename_i x0 x1 x2 x3 x4
    obtain ⟨_, rfl⟩ := some_ret hc
    exact holds_ev prog_ok allOK_nil Try.func126 rfl rfl smL_nil rfl (e_impl_Pendulum_numbers real x0 x1 x2 x3 x4)
  · cases hc
def Pure.impl_ValidPendulum (F : FOps) (x0 : Int) (x1 : Int) (x2 : Int) (x3 : Int) (x4 : Int) : Bool := bif Pure.impl_finite F (Pure.impl_Pendulum_numbers F x0 x1 x2 x3 x4) then bif FOps.cmp F BinOp.gtr FloatKind.f32 x0 0 then bif FOps.cmp F BinOp.geq FloatKind.f32 x1 0 then FOps.cmp F BinOp.geq FloatKind.f32 x2 0 else false else false else false
def Pure.impl_ValidPendulum_ok (F : FOps) (x0 : Int) (x1 : Int) (x2 : Int) (x3 : Int) (x4 : Int) : Bool := Pure.impl_finite_ok F (Pure.impl_Pendulum_numbers F x0 x1 x2 x3 x4)
def c_impl_ValidPendulum (F : FOps) : Con
  | [V.agg [A.fl FloatKind.f32 x0, A.fl FloatKind.f32 x1, A.fl FloatKind.f32 x2, A.fl FloatKind.f32 x3, A.fl FloatKind.f32 x4]], [] => some (Pure.impl_ValidPendulum_ok F x0 x1 x2 x3 x4, ⟨V.at (A.bool (Pure.impl_ValidPendulum F x0 x1 x2 x3 x4)), none, []⟩)
  | _, _ => none
theorem e_impl_ValidPendulum (F : FOps) (x0 : Int) (x1 : Int) (x2 : Int) (x3 : Int) (x4 : Int) : Pure.impl_ValidPendulum_ok F x0 x1 x2 x3 x4 = true → evFn (cxS F tyl [(126, c_impl_Pendulum_numbers F), (70, c_impl_finite F)] [] [] 0) Try.f108 false [V.agg [A.fl FloatKind.f32 x0, A.fl FloatKind.f32 x1, A.fl FloatKind.f32 x2, A.fl FloatKind.f32 x3, A.fl FloatKind.f32 x4]] [] = some ⟨V.at (A.bool (Pure.impl_ValidPendulum F x0 x1 x2 x3 x4)), none, []⟩ := by
  have h0 : evFn (cxS F tyl [(126, c_impl_Pendulum_numbers F), (70, c_impl_finite F)] [] [] 0) Try.f108 false [V.agg [A.fl FloatKind.f32 x0, A.fl FloatKind.f32 x1, A.fl FloatKind.f32 x2, A.fl FloatKind.f32 x3, A.fl FloatKind.f32 x4]] [] = bif Pure.impl_finite_ok F (Pure.impl_Pendulum_numbers F x0 x1 x2 x3 x4) then bif Pure.impl_finite F (Pure.impl_Pendulum_numbers F x0 x1 x2 x3 x4) then bif FOps.cmp F BinOp.gtr FloatKind.f32 x0 0 then bif FOps.cmp F BinOp.geq FloatKind.f32 x1 0 then some ⟨V.at (A.bool (FOps.cmp F BinOp.geq FloatKind.f32 x2 0)), none, []⟩ else some ⟨V.at (A.bool false), none, []⟩ else some ⟨V.at (A.bool false), none, []⟩ else some ⟨V.at (A.bool false), none, []⟩ else none := by kernel_rfl
  rw [h0]
  unfold Pure.impl_ValidPendulum Pure.impl_ValidPendulum_ok
  cases (Pure.impl_finite_ok F (Pure.impl_Pendulum_numbers F x0 x1 x2 x3 x4)) with
  | true =>
    cases (Pure.impl_finite F (Pure.impl_Pendulum_numbers F x0 x1 x2 x3 x4)) with
    | true =>
      cases (FOps.cmp F BinOp.gtr FloatKind.f32 x0 0) with
      | true =>
        cases (FOps.cmp F BinOp.geq FloatKind.f32 x1 0) with
        | true =>
          intro _; rfl
        | false =>
          intro _; rfl
      | false =>
        intro _; rfl
    | false =>
      intro _; rfl
  | false =>
    intro h; exact absurd h Bool.false_ne_true
theorem ok_impl_ValidPendulum : CallOK Try.prog 108 (c_impl_ValidPendulum real) := by
  refine callOK_of fun args h ret hc => ?_
  unfold c_impl_ValidPendulum at hc
  split at hc
  · rename_i x0 x1 x2 x3 x4
    obtain ⟨hok, rfl⟩ := some_ret hc
    exact holds_ev prog_ok (allOK_cons ok_impl_Pendulum_numbers (allOK_cons ok_impl_finite allOK_nil)) Try.func108 rfl rfl smL_nil rfl (e_impl_ValidPendulum real x0 x1 x2 x3 x4 hok)
  · cases hc
def Pure.impl_Swing_numbers (F : FOps) (x0 : Int) (x1 : Int) (x2 : Int) : List (List Int) := [[x0], [x1], [x2]]
def c_impl_Swing_numbers (F : FOps) : Con
  | [V.at (A.ptr 0 0 0)], [⟨false, OC.box [A.fl FloatKind.f32 x0, A.fl FloatKind.f32 x1, A.fl FloatKind.f32 x2]⟩] => some (true, ⟨V.at (A.sl 1), none, [⟨true, OC.rows [K.f FloatKind.f32] (Pure.impl_Swing_numbers F x0 x1 x2)⟩]⟩)
  | _, _ => none
theorem e_impl_Swing_numbers (F : FOps) (x0 : Int) (x1 : Int) (x2 : Int) : evFn (cxS F tyl [] [] [] 0) Try.f127 false [V.at (A.ptr 0 0 0)] [⟨false, OC.box [A.fl FloatKind.f32 x0, A.fl FloatKind.f32 x1, A.fl FloatKind.f32 x2]⟩] = some ⟨V.at (A.sl 1), none, [⟨true, OC.rows [K.f FloatKind.f32] (Pure.impl_Swing_numbers F x0 x1 x2)⟩]⟩ := by
  kernel_rfl
theorem ok_impl_Swing_numbers : CallOK Try.prog 127 (c_impl_Swing_numbers real) := by
  refine callOK_of fun args h ret hc => ?_
  unfold c_impl_Swing_numbers at hc
  split at hc
  · rename_i x0 x1 x2
    obtain ⟨_, rfl⟩ := some_ret hc
    exact holds_ev prog_ok allOK_nil Try.func127 rfl rfl smL_nil rfl (e_impl_Swing_numbers real x0 x1 x2)
  · cases hc
def Pure.impl_ValidSwing (F : FOps) (x0 : Int) (x1 : Int) (x2 : Int) : Bool := Pure.impl_finite F (Pure.impl_Swing_numbers F x0 x1 x2)
def Pure.impl_ValidSwing_ok (F : FOps) (x0 : Int) (x1 : Int) (x2 : Int) : Bool := Pure.impl_finite_ok F (Pure.impl_Swing_numbers F x0 x1 x2)
def c_impl_ValidSwing (F : FOps) : Con
  | [V.agg [A.fl FloatKind.f32 x0, A.fl FloatKind.f32 x1, A.fl FloatKind.f32 x2]], [] => some (Pure.impl_ValidSwing_ok F x0 x1 x2, ⟨V.at (A.bool (Pure.impl_ValidSwing F x0 x1 x2)), none, []⟩)
  | _, _ => none
theorem e_impl_ValidSwing (F : FOps) (x0 : Int) (x1 : Int) (x2 : Int) : Pure.impl_ValidSwing_ok F x0 x1 x2 = true → evFn (cxS F tyl [(127, c_impl_Swing_numbers F), (70, c_impl_finite F)] [] [] 0) Try.f109 false [V.agg [A.fl FloatKind.f32 x0, A.fl FloatKind.f32 x1, A.fl FloatKind.f32 x2]] [] = some ⟨V.at (A.bool (Pure.impl_ValidSwing F x0 x1 x2)), none, []⟩ := by
  have h0 : evFn (cxS F tyl [(127, c_impl_Swing_numbers F), (70, c_impl_finite F)] [] [] 0) Try.f109 false [V.agg [A.fl FloatKind.f32 x0, A.fl FloatKind.f32 x1, A.fl FloatKind.f32 x2]] [] = bif Pure.impl_finite_ok F (Pure.impl_Swing_numbers F x0 x1 x2) then some ⟨V.at (A.bool (Pure.impl_finite F (Pure.impl_Swing_numbers F x0 x1 x2))), none, []⟩ else none := by kernel_rfl
  rw [h0]
  unfold Pure.impl_ValidSwing Pure.impl_ValidSwing_ok
  cases (Pure.impl_finite_ok F (Pure.impl_Swing_numbers F x0 x1 x2)) with
  | true =>
    intro _; rfl
  | false =>
    intro h; exact absurd h Bool.false_ne_true
theorem ok_impl_ValidSwing : CallOK Try.prog 109 (c_impl_ValidSwing real) := by
  refine callOK_of fun args h ret hc => ?_
  unfold c_impl_ValidSwing at hc
  split at hc
  · rename_i x0 x1 x2
    obtain ⟨hok, rfl⟩ := some_ret hc
    exact holds_ev prog_ok (allOK_cons ok_impl_Swing_numbers (allOK_cons ok_impl_finite allOK_nil)) Try.func109 rfl rfl smL_nil rfl (e_impl_ValidSwing real x0 x1 x2 hok)
  · cases hc
def Pure.impl_tickOk (F : FOps) (x0 : Int) : Bool := bif Pure.impl_IsFinite F x0 then FOps.cmp F BinOp.neq FloatKind.f32 x0 0 else false
def c_impl_tickOk (F : FOps) : Con
  | [V.at (A.fl FloatKind.f32 x0)], [] => some (true, ⟨V.at (A.bool (Pure.impl_tickOk F x0)), none, []⟩)
  | _, _ => none
theorem e_impl_tickOk (F : FOps) (x0 : Int) : evFn (cxS F tyl [(62, c_impl_IsFinite F)] [] [] 0) Try.f110 false [V.at (A.fl FloatKind.f32 x0)] [] = some ⟨V.at (A.bool (Pure.impl_tickOk F x0)), none, []⟩ := by
  have h0 : evFn (cxS F tyl [(62, c_impl_IsFinite F)] [] [] 0) Try.f110 false [V.at (A.fl FloatKind.f32 x0)] [] = bif Pure.impl_IsFinite F x0 then some ⟨V.at (A.bool (FOps.cmp F BinOp.neq FloatKind.f32 x0 0)), none, []⟩ else some ⟨V.at (A.bool false), none, []⟩ := by kernel_rfl
  rw [h0]
  unfold Pure.impl_tickOk
  cases (Pure.impl_IsFinite F x0) with
  | true =>
    rfl
  | false =>
    rfl
theorem ok_impl_tickOk : CallOK Try.prog 110 (c_impl_tickOk real) := by
  refine callOK_of fun args h ret hc => ?_
  unfold c_impl_tickOk at hc
  split at hc
  · rename_i x0
    obtain ⟨_, rfl⟩ := some_ret hc
    exact holds_ev prog_ok (allOK_cons ok_impl_IsFinite allOK_nil) Try.func110 rfl rfl smL_nil rfl (e_impl_tickOk real x0)
  · cases hc
def Pure.impl_swingOk (F : FOps) (x0 : Int) (x1 : Int) (x2 : Int) (x3 : Int) (x4 : Int) (x5 : Int) (x6 : Int) (x7 : Int) (x8 : Int) : Bool := bif Pure.impl_ValidPendulum F x0 x1 x2 x3 x4 then bif Pure.impl_ValidSwing F x5 x6 x7 then Pure.impl_tickOk F x8 else false else false
def Pure.impl_swingOk_ok (F : FOps) (x0 : Int) (x1 : Int) (x2 : Int) (x3 : Int) (x4 : Int) (x5 : Int) (x6 : Int) (x7 : Int) (x8 : Int) : Bool := bif Pure.impl_ValidPendulum_ok F x0 x1 x2 x3 x4 then bif Pure.impl_ValidPendulum F x0 x1 x2 x3 x4 then Pure.impl_ValidSwing_ok F x5 x6 x7 else true else false
def c_impl_swingOk (F : FOps) : Con
  | [V.agg [A.fl FloatKind.f32 x0, A.fl FloatKind.f32 x1, A.fl FloatKind.f32 x2, A.fl FloatKind.f32 x3, A.fl FloatKind.f32 x4], V.agg [A.fl FloatKind.f32 x5, A.fl FloatKind.f32 x6, A.fl FloatKind.f32 x7], V.at (A.fl FloatKind.f32 x8)], [] => some (Pure.impl_swingOk_ok F x0 x1 x2 x3 x4 x5 x6 x7 x8, ⟨V.at (A.bool (Pure.impl_swingOk F x0 x1 x2 x3 x4 x5 x6 x7 x8)), none, []⟩)
  | _, _ => none
theorem e_impl_swingOk (F : FOps) (x0 : Int) (x1 : Int) (x2 : Int) (x3 : Int) (x4 : Int) (x5 : Int) (x6 : Int) (x7 : Int) (x8 : Int) : Pure.impl_swingOk_ok F x0 x1 x2 x3 x4 x5 x6 x7 x8 = true → evFn (cxS F tyl [(108, c_impl_ValidPendulum F), (109, c_impl_ValidSwing F), (110, c_impl_tickOk F)] [] [] 0) Try.f79 false [V.agg [A.fl FloatKind.f32 x0, A.fl FloatKind.f32 x1, A.fl FloatKind.f32 x2, A.fl FloatKind.f32 x3, A.fl FloatKind.f32 x4], V.agg [A.fl FloatKind.f32 x5, A.fl FloatKind.f32 x6, A.fl FloatKind.f32 x7], V.at (A.fl FloatKind.f32 x8)] [] = some ⟨V.at (A.bool (Pure.impl_swingOk F x0 x1 x2 x3 x4 x5 x6 x7 x8)), none, []⟩ := by
  have h0 : evFn (cxS F tyl [(108, c_impl_ValidPendulum F), (109, c_impl_ValidSwing F), (110, c_impl_tickOk F)] [] [] 0) Try.f79 false [V.agg [A.fl FloatKind.f32 x0, A.fl FloatKind.f32 x1, A.fl FloatKind.f32 x2, A.fl FloatKind.f32 x3, A.fl FloatKind.f32 x4], V.agg [A.fl FloatKind.f32 x5, A.fl FloatKind.f32 x6, A.fl FloatKind.f32 x7], V.at (A.fl FloatKind.f32 x8)] [] = bif Pure.impl_ValidPendulum_ok F x0 x1 x2 x3 x4 then bif Pure.impl_ValidPendulum F x0 x1 x2 x3 x4 then bif Pure.impl_ValidSwing_ok F x5 x6 x7 then bif Pure.impl_ValidSwing F x5 x6 x7 then some ⟨V.at (A.bool (Pure.impl_tickOk F x8)), none, []⟩ else some ⟨V.at (A.bool false), none, []⟩ else none else some ⟨V.at (A.bool false), none, []⟩ else none := by kernel_rfl
  rw [h0]
  unfold Pure.impl_swingOk Pure.impl_swingOk_ok
  cases (Pure.impl_ValidPendulum_ok F x0 x1 x2 x3 x4) with
  | true =>
    cases (Pure.impl_ValidPendulum F x0 x1 x2 x3 x4) with
    | true =>
      cases (Pure.impl_ValidSwing_ok F x5 x6 x7) with
      | true =>
        cases (Pure.impl_ValidSwing F x5 x6 x7) with
        | true =>
          intro _; rfl
        | false =>
          intro _; rfl
      | false =>
        intro h; exact absurd h Bool.false_ne_true
    | false =>
      intro _; rfl
  | false =>
    intro h; exact absurd h Bool.false_ne_true
theorem ok_impl_swingOk : CallOK Try.prog 79 (c_impl_swingOk real) := by
  refine callOK_of fun args h ret hc => ?_
  unfold c_impl_swingOk at hc
  split at hc
  · rename_i x0 x1 x2 x3 x4 x5 x6 x7 x8
    obtain ⟨hok, rfl⟩ := some_ret hc
    exact holds_ev prog_ok (allOK_cons ok_impl_ValidPendulum (allOK_cons ok_impl_ValidSwing (allOK_cons ok_impl_tickOk allOK_nil))) Try.func79 rfl rfl smL_nil rfl (e_impl_swingOk real x0 x1 x2 x3 x4 x5 x6 x7 x8 hok)
  · cases hc
def Pure.impl_Pendulum_pull (F : FOps) (x0 : Int) (x1 : Int) (x2 : Int) (x3 : Int) (x4 : Int) (x5 : Int) : Int := FOps.neg F FloatKind.f32 (FOps.bin F BinOp.mul FloatKind.f32 (FOps.bin F BinOp.quo FloatKind.f32 x1 x0) (FOps.bin F BinOp.quo FloatKind.f32 (Pure.impl_SineTurns F x5) 1086918619))
def Pure.impl_Pendulum_pull_ok (F : FOps) (x0 : Int) (x1 : Int) (x2 : Int) (x3 : Int) (x4 : Int) (x5 : Int) : Bool := Pure.impl_SineTurns_ok F x5
def c_impl_Pendulum_pull (F : FOps) : Con
  | [V.at (A.ptr 0 0 0), V.at (A.fl FloatKind.f32 x5)], [⟨false, OC.box [A.fl FloatKind.f32 x0, A.fl FloatKind.f32 x1, A.fl FloatKind.f32 x2, A.fl FloatKind.f32 x3, A.fl FloatKind.f32 x4]⟩] => some (Pure.impl_Pendulum_pull_ok F x0 x1 x2 x3 x4 x5, ⟨V.at (A.fl FloatKind.f32 (Pure.impl_Pendulum_pull F x0 x1 x2 x3 x4 x5)), none, []⟩)
  | _, _ => none
theorem e_impl_Pendulum_pull (F : FOps) (x0 : Int) (x1 : Int) (x2 : Int) (x3 : Int) (x4 : Int) (x5 : Int) : Pure.impl_Pendulum_pull_ok F x0 x1 x2 x3 x4 x5 = true → evFn (cxS F tyl [(64, c_impl_SineTurns F)] [] [] 0) Try.f128 false [V.at (A.ptr 0 0 0), V.at (A.fl FloatKind.f32 x5)] [⟨false, OC.box [A.fl FloatKind.f32 x0, A.fl FloatKind.f32 x1, A.fl FloatKind.f32 x2, A.fl FloatKind.f32 x3, A.fl FloatKind.f32 x4]⟩] = some ⟨V.at (A.fl FloatKind.f32 (Pure.impl_Pendulum_pull F x0 x1 x2 x3 x4 x5)), none, []⟩ := by
  have h0 : evFn (cxS F tyl [(64, c_impl_SineTurns F)] [] [] 0) Try.f128 false [V.at (A.ptr 0 0 0), V.at (A.fl FloatKind.f32 x5)] [⟨false, OC.box [A.fl FloatKind.f32 x0, A.fl FloatKind.f32 x1, A.fl FloatKind.f32 x2, A.fl FloatKind.f32 x3, A.fl FloatKind.f32 x4]⟩] = bif Pure.impl_SineTurns_ok F x5 then some ⟨V.at (A.fl FloatKind.f32 (FOps.neg F FloatKind.f32 (FOps.bin F BinOp.mul FloatKind.f32 (FOps.bin F BinOp.quo FloatKind.f32 x1 x0) (FOps.bin F BinOp.quo FloatKind.f32 (Pure.impl_SineTurns F x5) 1086918619)))), none, []⟩ else none := by kernel_rfl
  rw [h0]
  unfold Pure.impl_Pendulum_pull Pure.impl_Pendulum_pull_ok
  cases (Pure.impl_SineTurns_ok F x5) with
  | true =>
    intro _; rfl
  | false =>
    intro h; exact absurd h Bool.false_ne_true
theorem ok_impl_Pendulum_pull : CallOK Try.prog 128 (c_impl_Pendulum_pull real) := by
  refine callOK_of fun args h ret hc => ?_
  unfold c_impl_Pendulum_pull at hc
  split at hc
  · rename_i x5 x0 x1 x2 x3 x4
    obtain ⟨hok, rfl⟩ := some_ret hc
    exact holds_ev prog_ok (allOK_cons ok_impl_SineTurns allOK_nil) Try.func128 rfl rfl smL_nil rfl (e_impl_Pendulum_pull real x0 x1 x2 x3 x4 x5 hok)
  · cases hc
def Pure.impl_Pendulum_drive (F : FOps) (x0 : Int) (x1 : Int) (x2 : Int) (x3 : Int) (x4 : Int) (x5 : Int) : Int := FOps.bin F BinOp.mul FloatKind.f32 x3 (Pure.impl_SineTurns F (FOps.bin F BinOp.mul FloatKind.f32 x4 x5))
def Pure.impl_Pendulum_drive_ok (F : FOps) (x0 : Int) (x1 : Int) (x2 : Int) (x3 : Int) (x4 : Int) (x5 : Int) : Bool := Pure.impl_SineTurns_ok F (FOps.bin F BinOp.mul FloatKind.f32 x4 x5)
def c_impl_Pendulum_drive (F : FOps) : Con
  | [V.at (A.ptr 0 0 0), V.at (A.fl FloatKind.f32 x5)], [⟨false, OC.box [A.fl FloatKind.f32 x0, A.fl FloatKind.f32 x1, A.fl FloatKind.f32 x2, A.fl FloatKind.f32 x3, A.fl FloatKind.f32 x4]⟩] => some (Pure.impl_Pendulum_drive_ok F x0 x1 x2 x3 x4 x5, ⟨V.at (A.fl FloatKind.f32 (Pure.impl_Pendulum_drive F x0 x1 x2 x3 x4 x5)), none, []⟩)
  | _, _ => none
theorem e_impl_Pendulum_drive (F : FOps) (x0 : Int) (x1 : Int) (x2 : Int) (x3 : Int) (x4 : Int) (x5 : Int) : Pure.impl_Pendulum_drive_ok F x0 x1 x2 x3 x4 x5 = true → evFn (cxS F tyl [(64, c_impl_SineTurns F)] [] [] 0) Try.f129 false [V.at (A.ptr 0 0 0), V.at (A.fl FloatKind.f32 x5)] [⟨false, OC.box [A.fl FloatKind.f32 x0, A.fl FloatKind.f32 x1, A.fl FloatKind.f32 x2, A.fl FloatKind.f32 x3, A.fl FloatKind.f32 x4]⟩] = some ⟨V.at (A.fl FloatKind.f32 (Pure.impl_Pendulum_drive F x0 x1 x2 x3 x4 x5)), none, []⟩ := by
  have h0 : evFn (cxS F tyl [(64, c_impl_SineTurns F)] [] [] 0) Try.f129 false [V.at (A.ptr 0 0 0), V.at (A.fl FloatKind.f32 x5)] [⟨false, OC.box [A.fl FloatKind.f32 x0, A.fl FloatKind.f32 x1, A.fl FloatKind.f32 x2, A.fl FloatKind.f32 x3, A.fl FloatKind.f32 x4]⟩] = bif Pure.impl_SineTurns_ok F (FOps.bin F BinOp.mul FloatKind.f32 x4 x5) then some ⟨V.at (A.fl FloatKind.f32 (FOps.bin F BinOp.mul FloatKind.f32 x3 (Pure.impl_SineTurns F (FOps.bin F BinOp.mul FloatKind.f32 x4 x5)))), none, []⟩ else none := by kernel_rfl
  rw [h0]
  unfold Pure.impl_Pendulum_drive Pure.impl_Pendulum_drive_ok
  cases (Pure.impl_SineTurns_ok F (FOps.bin F BinOp.mul FloatKind.f32 x4 x5)) with
  | true =>
    intro _; rfl
  | false =>
    intro h; exact absurd h Bool.false_ne_true
theorem ok_impl_Pendulum_drive : CallOK Try.prog 129 (c_impl_Pendulum_drive real) := by
  refine callOK_of fun args h ret hc => ?_
  unfold c_impl_Pendulum_drive at hc
  split at hc
  · rename_i x5 x0 x1 x2 x3 x4
    obtain ⟨hok, rfl⟩ := some_ret hc
    exact holds_ev prog_ok (allOK_cons ok_impl_SineTurns allOK_nil) Try.func129 rfl rfl smL_nil rfl (e_impl_Pendulum_drive real x0 x1 x2 x3 x4 x5 hok)
  · cases hc
def Pure.impl_Pendulum_force (F : FOps) (x0 : Int) (x1 : Int) (x2 : Int) (x3 : Int) (x4 : Int) (x5 : Int) (x6 : Int) (x7 : Int) : Int := FOps.bin F BinOp.add FloatKind.f32 (FOps.bin F BinOp.sub FloatKind.f32 (Pure.impl_Pendulum_pull F x0 x1 x2 x3 x4 x5) (FOps.bin F BinOp.mul FloatKind.f32 x2 x6)) (Pure.impl_Pendulum_drive F x0 x1 x2 x3 x4 x7)
def Pure.impl_Pendulum_force_ok (F : FOps) (x0 : Int) (x1 : Int) (x2 : Int) (x3 : Int) (x4 : Int) (x5 : Int) (x6 : Int) (x7 : Int) : Bool := bif Pure.impl_Pendulum_pull_ok F x0 x1 x2 x3 x4 x5 then Pure.impl_Pendulum_drive_ok F x0 x1 x2 x3 x4 x7 else false
def c_impl_Pendulum_force (F : FOps) : Con
  | [V.at (A.ptr 0 0 0), V.agg [A.fl FloatKind.f32 x5, A.fl FloatKind.f32 x6, A.fl FloatKind.f32 x7]], [⟨false, OC.box [A.fl FloatKind.f32 x0, A.fl FloatKind.f32 x1, A.fl FloatKind.f32 x2, A.fl FloatKind.f32 x3, A.fl FloatKind.f32 x4]⟩] => some (Pure.impl_Pendulum_force_ok F x0 x1 x2 x3 x4 x5 x6 x7, ⟨V.at (A.fl FloatKind.f32 (Pure.impl_Pendulum_force F x0 x1 x2 x3 x4 x5 x6 x7)), none, []⟩)
  | _, _ => none
theorem e_impl_Pendulum_force (F : FOps) (x0 : Int) (x1 : Int) (x2 : Int) (x3 : Int) (x4 : Int) (x5 : Int) (x6 : Int) (x7 : Int) : Pure.impl_Pendulum_force_ok F x0 x1 x2 x3 x4 x5 x6 x7 = true → evFn (cxS F tyl [(128, c_impl_Pendulum_pull F), (129, c_impl_Pendulum_drive F)] [] [] 0) Try.f111 false [V.at (A.ptr 0 0 0), V.agg [A.fl FloatKind.f32 x5, A.fl FloatKind.f32 x6, A.fl FloatKind.f32 x7]] [⟨false, OC.box [A.fl FloatKind.f32 x0, A.fl FloatKind.f32 x1, A.fl FloatKind.f32 x2, A.fl FloatKind.f32 x3, A.fl FloatKind.f32 x4]⟩] = some ⟨V.at (A.fl FloatKind.f32 (Pure.impl_Pendulum_force F x0 x1 x2 x3 x4 x5 x6 x7)), none, []⟩ := by
  have h0 : evFn (cxS F tyl [(128, c_impl_Pendulum_pull F), (129, c_impl_Pendulum_drive F)] [] [] 0) Try.f111 false [V.at (A.ptr 0 0 0), V.agg [A.fl FloatKind.f32 x5, A.fl FloatKind.f32 x6, A.fl FloatKind.f32 x7]] [⟨false, OC.box [A.fl FloatKind.f32 x0, A.fl FloatKind.f32 x1, A.fl FloatKind.f32 x2, A.fl FloatKind.f32 x3, A.fl FloatKind.f32 x4]⟩] = bif Pure.impl_Pendulum_pull_ok F x0 x1 x2 x3 x4 x5 then bif Pure.impl_Pendulum_drive_ok F x0 x1 x2 x3 x4 x7 then some ⟨V.at (A.fl FloatKind.f32 (FOps.bin F BinOp.add FloatKind.f32 (FOps.bin F BinOp.sub FloatKind.f32 (Pure.impl_Pendulum_pull F x0 x1 x2 x3 x4 x5) (FOps.bin F BinOp.mul FloatKind.f32 x2 x6)) (Pure.impl_Pendulum_drive F x0 x1 x2 x3 x4 x7))), none, []⟩ else none else none := by kernel_rfl
  rw [h0]
  unfold Pure.impl_Pendulum_force Pure.impl_Pendulum_force_ok
  cases (Pure.impl_Pendulum_pull_ok F x0 x1 x2 x3 x4 x5) with
  | true =>
    cases (Pure.impl_Pendulum_drive_ok F x0 x1 x2 x3 x4 x7) with
    | true =>
      intro _; rfl
    | false =>
      intro h; exact absurd h Bool.false_ne_true
  | false =>
    intro h; exact absurd h Bool.false_ne_true
theorem ok_impl_Pendulum_force : CallOK Try.prog 111 (c_impl_Pendulum_force real) := by
  refine callOK_of fun args h ret hc => ?_
  unfold c_impl_Pendulum_force at hc
  split at hc
  · rename_i x5 x6 x7 x0 x1 x2 x3 x4
    obtain ⟨hok, rfl⟩ := some_ret hc
    exact holds_ev prog_ok (allOK_cons ok_impl_Pendulum_pull (allOK_cons ok_impl_Pendulum_drive allOK_nil)) Try.func111 rfl rfl smL_nil rfl (e_impl_Pendulum_force real x0 x1 x2 x3 x4 x5 x6 x7 hok)
  · cases hc
def Pure.impl_Pendulum_step (F : FOps) (x0 : Int) (x1 : Int) (x2 : Int) (x3 : Int) (x4 : Int) (x5 : Int) (x6 : Int) (x7 : Int) (x8 : Int) : Int := bif Pure.impl_ValidSwing F (FOps.bin F BinOp.add FloatKind.f32 x5 (FOps.bin F BinOp.mul FloatKind.f32 x8 (FOps.bin F BinOp.add FloatKind.f32 x6 (FOps.bin F BinOp.mul FloatKind.f32 (FOps.bin F BinOp.quo FloatKind.f32 x8 1073741824) (Pure.impl_Pendulum_force F x0 x1 x2 x3 x4 x5 x6 x7))))) (FOps.bin F BinOp.add FloatKind.f32 x6 (FOps.bin F BinOp.mul FloatKind.f32 (FOps.bin F BinOp.quo FloatKind.f32 x8 1073741824) (Pure.impl_Pendulum_force F x0 x1 x2 x3 x4 x5 x6 x7))) (FOps.bin F BinOp.add FloatKind.f32 x7 x8) then FOps.bin F BinOp.add FloatKind.f32 x5 (FOps.bin F BinOp.mul FloatKind.f32 x8 (FOps.bin F BinOp.add FloatKind.f32 x6 (FOps.bin F BinOp.mul FloatKind.f32 (FOps.bin F BinOp.quo FloatKind.f32 x8 1073741824) (Pure.impl_Pendulum_force F x0 x1 x2 x3 x4 x5 x6 x7)))) else 0
def Pure.impl_Pendulum_step_1 (F : FOps) (x0 : Int) (x1 : Int) (x2 : Int) (x3 : Int) (x4 : Int) (x5 : Int) (x6 : Int) (x7 : Int) (x8 : Int) : Int := bif Pure.impl_ValidSwing F (FOps.bin F BinOp.add FloatKind.f32 x5 (FOps.bin F BinOp.mul FloatKind.f32 x8 (FOps.bin F BinOp.add FloatKind.f32 x6 (FOps.bin F BinOp.mul FloatKind.f32 (FOps.bin F BinOp.quo FloatKind.f32 x8 1073741824) (Pure.impl_Pendulum_force F x0 x1 x2 x3 x4 x5 x6 x7))))) (FOps.bin F BinOp.add FloatKind.f32 x6 (FOps.bin F BinOp.mul FloatKind.f32 (FOps.bin F BinOp.quo FloatKind.f32 x8 1073741824) (Pure.impl_Pendulum_force F x0 x1 x2 x3 x4 x5 x6 x7))) (FOps.bin F BinOp.add FloatKind.f32 x7 x8) then FOps.bin F BinOp.add FloatKind.f32 (FOps.bin F BinOp.add FloatKind.f32 x6 (FOps.bin F BinOp.mul FloatKind.f32 (FOps.bin F BinOp.quo FloatKind.f32 x8 1073741824) (Pure.impl_Pendulum_force F x0 x1 x2 x3 x4 x5 x6 x7))) (FOps.bin F BinOp.mul FloatKind.f32 (FOps.bin F BinOp.quo FloatKind.f32 x8 1073741824) (Pure.impl_Pendulum_force F x0 x1 x2 x3 x4 (FOps.bin F BinOp.add FloatKind.f32 x5 (FOps.bin F BinOp.mul FloatKind.f32 x8 (FOps.bin F BinOp.add FloatKind.f32 x6 (FOps.bin F BinOp.mul FloatKind.f32 (FOps.bin F BinOp.quo FloatKind.f32 x8 1073741824) (Pure.impl_Pendulum_force F x0 x1 x2 x3 x4 x5 x6 x7))))) (FOps.bin F BinOp.add FloatKind.f32 x6 (FOps.bin F BinOp.mul FloatKind.f32 (FOps.bin F BinOp.quo FloatKind.f32 x8 1073741824) (Pure.impl_Pendulum_force F x0 x1 x2 x3 x4 x5 x6 x7))) (FOps.bin F BinOp.add FloatKind.f32 x7 x8))) else 0
def Pure.impl_Pendulum_step_2 (F : FOps) (x0 : Int) (x1 : Int) (x2 : Int) (x3 : Int) (x4 : Int) (x5 : Int) (x6 : Int) (x7 : Int) (x8 : Int) : Int := bif Pure.impl_ValidSwing F (FOps.bin F BinOp.add FloatKind.f32 x5 (FOps.bin F BinOp.mul FloatKind.f32 x8 (FOps.bin F BinOp.add FloatKind.f32 x6 (FOps.bin F BinOp.mul FloatKind.f32 (FOps.bin F BinOp.quo FloatKind.f32 x8 1073741824) (Pure.impl_Pendulum_force F x0 x1 x2 x3 x4 x5 x6 x7))))) (FOps.bin F BinOp.add FloatKind.f32 x6 (FOps.bin F BinOp.mul FloatKind.f32 (FOps.bin F BinOp.quo FloatKind.f32 x8 1073741824) (Pure.impl_Pendulum_force F x0 x1 x2 x3 x4 x5 x6 x7))) (FOps.bin F BinOp.add FloatKind.f32 x7 x8) then FOps.bin F BinOp.add FloatKind.f32 x7 x8 else 0
def Pure.impl_Pendulum_step_3 (F : FOps) (x0 : Int) (x1 : Int) (x2 : Int) (x3 : Int) (x4 : Int) (x5 : Int) (x6 : Int) (x7 : Int) (x8 : Int) : Bool := bif Pure.impl_ValidSwing F (FOps.bin F BinOp.add FloatKind.f32 x5 (FOps.bin F BinOp.mul FloatKind.f32 x8 (FOps.bin F BinOp.add FloatKind.f32 x6 (FOps.bin F BinOp.mul FloatKind.f32 (FOps.bin F BinOp.quo FloatKind.f32 x8 1073741824) (Pure.impl_Pendulum_force F x0 x1 x2 x3 x4 x5 x6 x7))))) (FOps.bin F BinOp.add FloatKind.f32 x6 (FOps.bin F BinOp.mul FloatKind.f32 (FOps.bin F BinOp.quo FloatKind.f32 x8 1073741824) (Pure.impl_Pendulum_force F x0 x1 x2 x3 x4 x5 x6 x7))) (FOps.bin F BinOp.add FloatKind.f32 x7 x8) then Pure.impl_ValidSwing F (FOps.bin F BinOp.add FloatKind.f32 x5 (FOps.bin F BinOp.mul FloatKind.f32 x8 (FOps.bin F BinOp.add FloatKind.f32 x6 (FOps.bin F BinOp.mul FloatKind.f32 (FOps.bin F BinOp.quo FloatKind.f32 x8 1073741824) (Pure.impl_Pendulum_force F x0 x1 x2 x3 x4 x5 x6 x7))))) (FOps.bin F BinOp.add FloatKind.f32 (FOps.bin F BinOp.add FloatKind.f32 x6 (FOps.bin F BinOp.mul FloatKind.f32 (FOps.bin F BinOp.quo FloatKind.f32 x8 1073741824) (Pure.impl_Pendulum_force F x0 x1 x2 x3 x4 x5 x6 x7))) (FOps.bin F BinOp.mul FloatKind.f32 (FOps.bin F BinOp.quo FloatKind.f32 x8 1073741824) (Pure.impl_Pendulum_force F x0 x1 x2 x3 x4 (FOps.bin F BinOp.add FloatKind.f32 x5 (FOps.bin F BinOp.mul FloatKind.f32 x8 (FOps.bin F BinOp.add FloatKind.f32 x6 (FOps.bin F BinOp.mul FloatKind.f32 (FOps.bin F BinOp.quo FloatKind.f32 x8 1073741824) (Pure.impl_Pendulum_force F x0 x1 x2 x3 x4 x5 x6 x7))))) (FOps.bin F BinOp.add FloatKind.f32 x6 (FOps.bin F BinOp.mul FloatKind.f32 (FOps.bin F BinOp.quo FloatKind.f32 x8 1073741824) (Pure.impl_Pendulum_force F x0 x1 x2 x3 x4 x5 x6 x7))) (FOps.bin F BinOp.add FloatKind.f32 x7 x8)))) (FOps.bin F BinOp.add FloatKind.f32 x7 x8) else false
def Pure.impl_Pendulum_step_ok (F : FOps) (x0 : Int) (x1 : Int) (x2 : Int) (x3 : Int) (x4 : Int) (x5 : Int) (x6 : Int) (x7 : Int) (x8 : Int) : Bool := bif Pure.impl_Pendulum_force_ok F x0 x1 x2 x3 x4 x5 x6 x7 then bif Pure.impl_ValidSwing_ok F (FOps.bin F BinOp.add FloatKind.f32 x5 (FOps.bin F BinOp.mul FloatKind.f32 x8 (FOps.bin F BinOp.add FloatKind.f32 x6 (FOps.bin F BinOp.mul FloatKind.f32 (FOps.bin F BinOp.quo FloatKind.f32 x8 1073741824) (Pure.impl_Pendulum_force F x0 x1 x2 x3 x4 x5 x6 x7))))) (FOps.bin F BinOp.add FloatKind.f32 x6 (FOps.bin F BinOp.mul FloatKind.f32 (FOps.bin F BinOp.quo FloatKind.f32 x8 1073741824) (Pure.impl_Pendulum_force F x0 x1 x2 x3 x4 x5 x6 x7))) (FOps.bin F BinOp.add FloatKind.f32 x7 x8) then bif Pure.impl_ValidSwing F (FOps.bin F BinOp.add FloatKind.f32 x5 (FOps.bin F BinOp.mul FloatKind.f32 x8 (FOps.bin F BinOp.add FloatKind.f32 x6 (FOps.bin F BinOp.mul FloatKind.f32 (FOps.bin F BinOp.quo FloatKind.f32 x8 1073741824) (Pure.impl_Pendulum_force F x0 x1 x2 x3 x4 x5 x6 x7))))) (FOps.bin F BinOp.add FloatKind.f32 x6 (FOps.bin F BinOp.mul FloatKind.f32 (FOps.bin F BinOp.quo FloatKind.f32 x8 1073741824) (Pure.impl_Pendulum_force F x0 x1 x2 x3 x4 x5 x6 x7))) (FOps.bin F BinOp.add FloatKind.f32 x7 x8) then bif Pure.impl_Pendulum_force_ok F x0 x1 x2 x3 x4 (FOps.bin F BinOp.add FloatKind.f32 x5 (FOps.bin F BinOp.mul FloatKind.f32 x8 (FOps.bin F BinOp.add FloatKind.f32 x6 (FOps.bin F BinOp.mul FloatKind.f32 (FOps.bin F BinOp.quo FloatKind.f32 x8 1073741824) (Pure.impl_Pendulum_force F x0 x1 x2 x3 x4 x5 x6 x7))))) (FOps.bin F BinOp.add FloatKind.f32 x6 (FOps.bin F BinOp.mul FloatKind.f32 (FOps.bin F BinOp.quo FloatKind.f32 x8 1073741824) (Pure.impl_Pendulum_force F x0 x1 x2 x3 x4 x5 x6 x7))) (FOps.bin F BinOp.add FloatKind.f32 x7 x8) then Pure.impl_ValidSwing_ok F (FOps.bin F BinOp.add FloatKind.f32 x5 (FOps.bin F BinOp.mul FloatKind.f32 x8 (FOps.bin F BinOp.add FloatKind.f32 x6 (FOps.bin F BinOp.mul FloatKind.f32 (FOps.bin F BinOp.quo FloatKind.f32 x8 1073741824) (Pure.impl_Pendulum_force F x0 x1 x2 x3 x4 x5 x6 x7))))) (FOps.bin F BinOp.add FloatKind.f32 (FOps.bin F BinOp.add FloatKind.f32 x6 (FOps.bin F BinOp.mul FloatKind.f32 (FOps.bin F BinOp.quo FloatKind.f32 x8 1073741824) (Pure.impl_Pendulum_force F x0 x1 x2 x3 x4 x5 x6 x7))) (FOps.bin F BinOp.mul FloatKind.f32 (FOps.bin F BinOp.quo FloatKind.f32 x8 1073741824) (Pure.impl_Pendulum_force F x0 x1 x2 x3 x4 (FOps.bin F BinOp.add FloatKind.f32 x5 (FOps.bin F BinOp.mul FloatKind.f32 x8 (FOps.bin F BinOp.add FloatKind.f32 x6 (FOps.bin F BinOp.mul FloatKind.f32 (FOps.bin F BinOp.quo FloatKind.f32 x8 1073741824) (Pure.impl_Pendulum_force F x0 x1 x2 x3 x4 x5 x6 x7))))) (FOps.bin F BinOp.add FloatKind.f32 x6 (FOps.bin F BinOp.mul FloatKind.f32 (FOps.bin F BinOp.quo FloatKind.f32 x8 1073741824) (Pure.impl_Pendulum_force F x0 x1 x2 x3 x4 x5 x6 x7))) (FOps.bin F BinOp.add FloatKind.f32 x7 x8)))) (FOps.bin F BinOp.add FloatKind.f32 x7 x8) else false else true else false else false
def c_impl_Pendulum_step (F : FOps) : Con
  | [V.at (A.ptr 0 0 0), V.agg [A.fl FloatKind.f32 x5, A.fl FloatKind.f32 x6, A.fl FloatKind.f32 x7], V.at (A.fl FloatKind.f32 x8)], [⟨false, OC.box [A.fl FloatKind.f32 x0, A.fl FloatKind.f32 x1, A.fl FloatKind.f32 x2, A.fl FloatKind.f32 x3, A.fl FloatKind.f32 x4]⟩] => some (Pure.impl_Pendulum_step_ok F x0 x1 x2 x3 x4 x5 x6 x7 x8, ⟨V.tup [(true, [A.fl FloatKind.f32 (Pure.impl_Pendulum_step F x0 x1 x2 x3 x4 x5 x6 x7 x8), A.fl FloatKind.f32 (Pure.impl_Pendulum_step_1 F x0 x1 x2 x3 x4 x5 x6 x7 x8), A.fl FloatKind.f32 (Pure.impl_Pendulum_step_2 F x0 x1 x2 x3 x4 x5 x6 x7 x8)]), (false, [A.bool (Pure.impl_Pendulum_step_3 F x0 x1 x2 x3 x4 x5 x6 x7 x8)])], none, []⟩)
  | _, _ => none
theorem e_impl_Pendulum_step (F : FOps) (x0 : Int) (x1 : Int) (x2 : Int) (x3 : Int) (x4 : Int) (x5 : Int) (x6 : Int) (x7 : Int) (x8 : Int) : Pure.impl_Pendulum_step_ok F x0 x1 x2 x3 x4 x5 x6 x7 x8 = true → evFn (cxS F tyl [(111, c_impl_Pendulum_force F), (109, c_impl_ValidSwing F)] [] [] 0) Try.f80 false [V.at (A.ptr 0 0 0), V.agg [A.fl FloatKind.f32 x5, A.fl FloatKind.f32 x6, A.fl FloatKind.f32 x7], V.at (A.fl FloatKind.f32 x8)] [⟨false, OC.box [A.fl FloatKind.f32 x0, A.fl FloatKind.f32 x1, A.fl FloatKind.f32 x2, A.fl FloatKind.f32 x3, A.fl FloatKind.f32 x4]⟩] = some ⟨V.tup [(true, [A.fl FloatKind.f32 (Pure.impl_Pendulum_step F x0 x1 x2 x3 x4 x5 x6 x7 x8), A.fl FloatKind.f32 (Pure.impl_Pendulum_step_1 F x0 x1 x2 x3 x4 x5 x6 x7 x8), A.fl FloatKind.f32 (Pure.impl_Pendulum_step_2 F x0 x1 x2 x3 x4 x5 x6 x7 x8)]), (false, [A.bool (Pure.impl_Pendulum_step_3 F x0 x1 x2 x3 x4 x5 x6 x7 x8)])], none, []⟩ := by
  have h0 : evFn (cxS F tyl [(111, c_impl_Pendulum_force F), (109, c_impl_ValidSwing F)] [] [] 0) Try.f80 false [V.at (A.ptr 0 0 0), V.agg [A.fl FloatKind.f32 x5, A.fl FloatKind.f32 x6, A.fl FloatKind.f32 x7], V.at (A.fl FloatKind.f32 x8)] [⟨false, OC.box [A.fl FloatKind.f32 x0, A.fl FloatKind.f32 x1, A.fl FloatKind.f32 x2, A.fl FloatKind.f32 x3, A.fl FloatKind.f32 x4]⟩] = bif Pure.impl_Pendulum_force_ok F x0 x1 x2 x3 x4 x5 x6 x7 then bif Pure.impl_ValidSwing_ok F (FOps.bin F BinOp.add FloatKind.f32 x5 (FOps.bin F BinOp.mul FloatKind.f32 x8 (FOps.bin F BinOp.add FloatKind.f32 x6 (FOps.bin F BinOp.mul FloatKind.f32 (FOps.bin F BinOp.quo FloatKind.f32 x8 1073741824) (Pure.impl_Pendulum_force F x0 x1 x2 x3 x4 x5 x6 x7))))) (FOps.bin F BinOp.add FloatKind.f32 x6 (FOps.bin F BinOp.mul FloatKind.f32 (FOps.bin F BinOp.quo FloatKind.f32 x8 1073741824) (Pure.impl_Pendulum_force F x0 x1 x2 x3 x4 x5 x6 x7))) (FOps.bin F BinOp.add FloatKind.f32 x7 x8) then bif Bool.not (Pure.impl_ValidSwing F (FOps.bin F BinOp.add FloatKind.f32 x5 (FOps.bin F BinOp.mul FloatKind.f32 x8 (FOps.bin F BinOp.add FloatKind.f32 x6 (FOps.bin F BinOp.mul FloatKind.f32 (FOps.bin F BinOp.quo FloatKind.f32 x8 1073741824) (Pure.impl_Pendulum_force F x0 x1 x2 x3 x4 x5 x6 x7))))) (FOps.bin F BinOp.add FloatKind.f32 x6 (FOps.bin F BinOp.mul FloatKind.f32 (FOps.bin F BinOp.quo FloatKind.f32 x8 1073741824) (Pure.impl_Pendulum_force F x0 x1 x2 x3 x4 x5 x6 x7))) (FOps.bin F BinOp.add FloatKind.f32 x7 x8)) then some ⟨V.tup [(true, [A.fl FloatKind.f32 0, A.fl FloatKind.f32 0, A.fl FloatKind.f32 0]), (false, [A.bool false])], none, []⟩ else bif Pure.impl_Pendulum_force_ok F x0 x1 x2 x3 x4 (FOps.bin F BinOp.add FloatKind.f32 x5 (FOps.bin F BinOp.mul FloatKind.f32 x8 (FOps.bin F BinOp.add FloatKind.f32 x6 (FOps.bin F BinOp.mul FloatKind.f32 (FOps.bin F BinOp.quo FloatKind.f32 x8 1073741824) (Pure.impl_Pendulum_force F x0 x1 x2 x3 x4 x5 x6 x7))))) (FOps.bin F BinOp.add FloatKind.f32 x6 (FOps.bin F BinOp.mul FloatKind.f32 (FOps.bin F BinOp.quo FloatKind.f32 x8 1073741824) (Pure.impl_Pendulum_force F x0 x1 x2 x3 x4 x5 x6 x7))) (FOps.bin F BinOp.add FloatKind.f32 x7 x8) then bif Pure.impl_ValidSwing_ok F (FOps.bin F BinOp.add FloatKind.f32 x5 (FOps.bin F BinOp.mul FloatKind.f32 x8 (FOps.bin F BinOp.add FloatKind.f32 x6 (FOps.bin F BinOp.mul FloatKind.f32 (FOps.bin F BinOp.quo FloatKind.f32 x8 1073741824) (Pure.impl_Pendulum_force F x0 x1 x2 x3 x4 x5 x6 x7))))) (FOps.bin F BinOp.add FloatKind.f32 (FOps.bin F BinOp.add FloatKind.f32 x6 (FOps.bin F BinOp.mul FloatKind.f32 (FOps.bin F BinOp.quo FloatKind.f32 x8 1073741824) (Pure.impl_Pendulum_force F x0 x1 x2 x3 x4 x5 x6 x7))) (FOps.bin F BinOp.mul FloatKind.f32 (FOps.bin F BinOp.quo FloatKind.f32 x8 1073741824) (Pure.impl_Pendulum_force F x0 x1 x2 x3 x4 (FOps.bin F BinOp.add FloatKind.f32 x5 (FOps.bin F BinOp.mul FloatKind.f32 x8 (FOps.bin F BinOp.add FloatKind.f32 x6 (FOps.bin F BinOp.mul FloatKind.f32 (FOps.bin F BinOp.quo FloatKind.f32 x8 1073741824) (Pure.impl_Pendulum_force F x0 x1 x2 x3 x4 x5 x6 x7))))) (FOps.bin F BinOp.add FloatKind.f32 x6 (FOps.bin F BinOp.mul FloatKind.f32 (FOps.bin F BinOp.quo FloatKind.f32 x8 1073741824) (Pure.impl_Pendulum_force F x0 x1 x2 x3 x4 x5 x6 x7))) (FOps.bin F BinOp.add FloatKind.f32 x7 x8)))) (FOps.bin F BinOp.add FloatKind.f32 x7 x8) then some ⟨V.tup [(true, [A.fl FloatKind.f32 (FOps.bin F BinOp.add FloatKind.f32 x5 (FOps.bin F BinOp.mul FloatKind.f32 x8 (FOps.bin F BinOp.add FloatKind.f32 x6 (FOps.bin F BinOp.mul FloatKind.f32 (FOps.bin F BinOp.quo FloatKind.f32 x8 1073741824) (Pure.impl_Pendulum_force F x0 x1 x2 x3 x4 x5 x6 x7))))), A.fl FloatKind.f32 (FOps.bin F BinOp.add FloatKind.f32 (FOps.bin F BinOp.add FloatKind.f32 x6 (FOps.bin F BinOp.mul FloatKind.f32 (FOps.bin F BinOp.quo FloatKind.f32 x8 1073741824) (Pure.impl_Pendulum_force F x0 x1 x2 x3 x4 x5 x6 x7))) (FOps.bin F BinOp.mul FloatKind.f32 (FOps.bin F BinOp.quo FloatKind.f32 x8 1073741824) (Pure.impl_Pendulum_force F x0 x1 x2 x3 x4 (FOps.bin F BinOp.add FloatKind.f32 x5 (FOps.bin F BinOp.mul FloatKind.f32 x8 (FOps.bin F BinOp.add FloatKind.f32 x6 (FOps.bin F BinOp.mul FloatKind.f32 (FOps.bin F BinOp.quo FloatKind.f32 x8 1073741824) (Pure.impl_Pendulum_force F x0 x1 x2 x3 x4 x5 x6 x7))))) (FOps.bin F BinOp.add FloatKind.f32 x6 (FOps.bin F BinOp.mul FloatKind.f32 (FOps.bin F BinOp.quo FloatKind.f32 x8 1073741824) (Pure.impl_Pendulum_force F x0 x1 x2 x3 x4 x5 x6 x7))) (FOps.bin F BinOp.add FloatKind.f32 x7 x8)))), A.fl FloatKind.f32 (FOps.bin F BinOp.add FloatKind.f32 x7 x8)]), (false, [A.bool (Pure.impl_ValidSwing F (FOps.bin F BinOp.add FloatKind.f32 x5 (FOps.bin F BinOp.mul FloatKind.f32 x8 (FOps.bin F BinOp.add FloatKind.f32 x6 (FOps.bin F BinOp.mul FloatKind.f32 (FOps.bin F BinOp.quo FloatKind.f32 x8 1073741824) (Pure.impl_Pendulum_force F x0 x1 x2 x3 x4 x5 x6 x7))))) (FOps.bin F BinOp.add FloatKind.f32 (FOps.bin F BinOp.add FloatKind.f32 x6 (FOps.bin F BinOp.mul FloatKind.f32 (FOps.bin F BinOp.quo FloatKind.f32 x8 1073741824) (Pure.impl_Pendulum_force F x0 x1 x2 x3 x4 x5 x6 x7))) (FOps.bin F BinOp.mul FloatKind.f32 (FOps.bin F BinOp.quo FloatKind.f32 x8 1073741824) (Pure.impl_Pendulum_force F x0 x1 x2 x3 x4 (FOps.bin F BinOp.add FloatKind.f32 x5 (FOps.bin F BinOp.mul FloatKind.f32 x8 (FOps.bin F BinOp.add FloatKind.f32 x6 (FOps.bin F BinOp.mul FloatKind.f32 (FOps.bin F BinOp.quo FloatKind.f32 x8 1073741824) (Pure.impl_Pendulum_force F x0 x1 x2 x3 x4 x5 x6 x7))))) (FOps.bin F BinOp.add FloatKind.f32 x6 (FOps.bin F BinOp.mul FloatKind.f32 (FOps.bin F BinOp.quo FloatKind.f32 x8 1073741824) (Pure.impl_Pendulum_force F x0 x1 x2 x3 x4 x5 x6 x7))) (FOps.bin F BinOp.add FloatKind.f32 x7 x8)))) (FOps.bin F BinOp.add FloatKind.f32 x7 x8))])], none, []⟩ else none else none else none else none := by kernel_rfl
  rw [h0]
  unfold Pure.impl_Pendulum_step Pure.impl_Pendulum_step_1 Pure.impl_Pendulum_step_2 Pure.impl_Pendulum_step_3 Pure.impl_Pendulum_step_ok
  cases (Pure.impl_Pendulum_force_ok F x0 x1 x2 x3 x4 x5 x6 x7) with
  | true =>
    cases (Pure.impl_ValidSwing_ok F (FOps.bin F BinOp.add FloatKind.f32 x5 (FOps.bin F BinOp.mul FloatKind.f32 x8 (FOps.bin F BinOp.add FloatKind.f32 x6 (FOps.bin F BinOp.mul FloatKind.f32 (FOps.bin F BinOp.quo FloatKind.f32 x8 1073741824) (Pure.impl_Pendulum_force F x0 x1 x2 x3 x4 x5 x6 x7))))) (FOps.bin F BinOp.add FloatKind.f32 x6 (FOps.bin F BinOp.mul FloatKind.f32 (FOps.bin F BinOp.quo FloatKind.f32 x8 1073741824) (Pure.impl_Pendulum_force F x0 x1 x2 x3 x4 x5 x6 x7))) (FOps.bin F BinOp.add FloatKind.f32 x7 x8)) with
    | true =>
      cases (Pure.impl_ValidSwing F (FOps.bin F BinOp.add FloatKind.f32 x5 (FOps.bin F BinOp.mul FloatKind.f32 x8 (FOps.bin F BinOp.add FloatKind.f32 x6 (FOps.bin F BinOp.mul FloatKind.f32 (FOps.bin F BinOp.quo FloatKind.f32 x8 1073741824) (Pure.impl_Pendulum_force F x0 x1 x2 x3 x4 x5 x6 x7))))) (FOps.bin F BinOp.add FloatKind.f32 x6 (FOps.bin F BinOp.mul FloatKind.f32 (FOps.bin F BinOp.quo FloatKind.f32 x8 1073741824) (Pure.impl_Pendulum_force F x0 x1 x2 x3 x4 x5 x6 x7))) (FOps.bin F BinOp.add FloatKind.f32 x7 x8)) with
      | true =>
        cases (Pure.impl_Pendulum_force_ok F x0 x1 x2 x3 x4 (FOps.bin F BinOp.add FloatKind.f32 x5 (FOps.bin F BinOp.mul FloatKind.f32 x8 (FOps.bin F BinOp.add FloatKind.f32 x6 (FOps.bin F BinOp.mul FloatKind.f32 (FOps.bin F BinOp.quo FloatKind.f32 x8 1073741824) (Pure.impl_Pendulum_force F x0 x1 x2 x3 x4 x5 x6 x7))))) (FOps.bin F BinOp.add FloatKind.f32 x6 (FOps.bin F BinOp.mul FloatKind.f32 (FOps.bin F BinOp.quo FloatKind.f32 x8 1073741824) (Pure.impl_Pendulum_force F x0 x1 x2 x3 x4 x5 x6 x7))) (FOps.bin F BinOp.add FloatKind.f32 x7 x8)) with
        | true =>
          cases (Pure.impl_ValidSwing_ok F (FOps.bin F BinOp.add FloatKind.f32 x5 (FOps.bin F BinOp.mul FloatKind.f32 x8 (FOps.bin F BinOp.add FloatKind.f32 x6 (FOps.bin F BinOp.mul FloatKind.f32 (FOps.bin F BinOp.quo FloatKind.f32 x8 1073741824) (Pure.impl_Pendulum_force F x0 x1 x2 x3 x4 x5 x6 x7))))) (FOps.bin F BinOp.add FloatKind.f32 (FOps.bin F BinOp.add FloatKind.f32 x6 (FOps.bin F BinOp.mul FloatKind.f32 (FOps.bin F BinOp.quo FloatKind.f32 x8 1073741824) (Pure.impl_Pendulum_force F x0 x1 x2 x3 x4 x5 x6 x7))) (FOps.bin F BinOp.mul FloatKind.f32 (FOps.bin F BinOp.quo FloatKind.f32 x8 1073741824) (Pure.impl_Pendulum_force F x0 x1 x2 x3 x4 (FOps.bin F BinOp.add FloatKind.f32 x5 (FOps.bin F BinOp.mul FloatKind.f32 x8 (FOps.bin F BinOp.add FloatKind.f32 x6 (FOps.bin F BinOp.mul FloatKind.f32 (FOps.bin F BinOp.quo FloatKind.f32 x8 1073741824) (Pure.impl_Pendulum_force F x0 x1 x2 x3 x4 x5 x6 x7))))) (FOps.bin F BinOp.add FloatKind.f32 x6 (FOps.bin F BinOp.mul FloatKind.f32 (FOps.bin F BinOp.quo FloatKind.f32 x8 1073741824) (Pure.impl_Pendulum_force F x0 x1 x2 x3 x4 x5 x6 x7))) (FOps.bin F BinOp.add FloatKind.f32 x7 x8)))) (FOps.bin F BinOp.add FloatKind.f32 x7 x8)) with
          | true =>
            intro _; rfl
          | false =>
            intro h; exact absurd h Bool.false_ne_true
        | false =>
          intro h; exact absurd h Bool.false_ne_true
      | false =>
        intro _; rfl
    | false =>
      intro h; exact absurd h Bool.false_ne_true
  | false =>
    intro h; exact absurd h Bool.false_ne_true
theorem ok_impl_Pendulum_step : CallOK Try.prog 80 (c_impl_Pendulum_step real) := by
  refine callOK_of fun args h ret hc => ?_
  unfold c_impl_Pendulum_step at hc
  split at hc
  · rename_i x5 x6 x7 x8 x0 x1 x2 x3 x4
    obtain ⟨hok, rfl⟩ := some_ret hc
    exact holds_ev prog_ok (allOK_cons ok_impl_Pendulum_force (allOK_cons ok_impl_ValidSwing allOK_nil)) Try.func80 rfl rfl smL_nil rfl (e_impl_Pendulum_step real x0 x1 x2 x3 x4 x5 x6 x7 x8 hok)
  · cases hc
def Pure.laws_eqSwing (F : FOps) (x0 : Int) (x1 : Int) (x2 : Int) (x3 : Int) (x4 : Int) (x5 : Int) : Bool := bif Pure.laws_sameFloat F (FOps.conv F FloatKind.f32 FloatKind.f64 x0) (FOps.conv F FloatKind.f32 FloatKind.f64 x3) then bif Pure.laws_sameFloat F (FOps.conv F FloatKind.f32 FloatKind.f64 x1) (FOps.conv F FloatKind.f32 FloatKind.f64 x4) then Pure.laws_sameFloat F (FOps.conv F FloatKind.f32 FloatKind.f64 x2) (FOps.conv F FloatKind.f32 FloatKind.f64 x5) else false else false
def Pure.laws_eqSwing_ok (F : FOps) (x0 : Int) (x1 : Int) (x2 : Int) (x3 : Int) (x4 : Int) (x5 : Int) : Bool := bif FOps.convOk F FloatKind.f32 FloatKind.f64 x0 then bif FOps.convOk F FloatKind.f32 FloatKind.f64 x3 then bif Pure.laws_sameFloat F (FOps.conv F FloatKind.f32 FloatKind.f64 x0) (FOps.conv F FloatKind.f32 FloatKind.f64 x3) then bif FOps.convOk F FloatKind.f32 FloatKind.f64 x1 then bif FOps.convOk F FloatKind.f32 FloatKind.f64 x4 then bif Pure.laws_sameFloat F (FOps.conv F FloatKind.f32 FloatKind.f64 x1) (FOps.conv F FloatKind.f32 FloatKind.f64 x4) then bif FOps.convOk F FloatKind.f32 FloatKind.f64 x2 then FOps.convOk F FloatKind.f32 FloatKind.f64 x5 else false else true else false else false else true else false else false
def c_laws_eqSwing (F : FOps) : Con
  | [V.agg [A.fl FloatKind.f32 x0, A.fl FloatKind.f32 x1, A.fl FloatKind.f32 x2], V.agg [A.fl FloatKind.f32 x3, A.fl FloatKind.f32 x4, A.fl FloatKind.f32 x5]], [] => some (Pure.laws_eqSwing_ok F x0 x1 x2 x3 x4 x5, ⟨V.at (A.bool (Pure.laws_eqSwing F x0 x1 x2 x3 x4 x5)), none, []⟩)
  | _, _ => none
theorem e_laws_eqSwing (F : FOps) (x0 : Int) (x1 : Int) (x2 : Int) (x3 : Int) (x4 : Int) (x5 : Int) : Pure.laws_eqSwing_ok F x0 x1 x2 x3 x4 x5 = true → evFn (cxS F tyl [(18, c_laws_sameFloat F)] [] [] 0) Try.f36 false [V.agg [A.fl FloatKind.f32 x0, A.fl FloatKind.f32 x1, A.fl FloatKind.f32 x2], V.agg [A.fl FloatKind.f32 x3, A.fl FloatKind.f32 x4, A.fl FloatKind.f32 x5]] [] = some ⟨V.at (A.bool (Pure.laws_eqSwing F x0 x1 x2 x3 x4 x5)), none, []⟩ := by
  have h0 : evFn (cxS F tyl [(18, c_laws_sameFloat F)] [] [] 0) Try.f36 false [V.agg [A.fl FloatKind.f32 x0, A.fl FloatKind.f32 x1, A.fl FloatKind.f32 x2], V.agg [A.fl FloatKind.f32 x3, A.fl FloatKind.f32 x4, A.fl FloatKind.f32 x5]] [] = bif FOps.convOk F FloatKind.f32 FloatKind.f64 x0 then bif FOps.convOk F FloatKind.f32 FloatKind.f64 x3 then bif Bool.not (Pure.laws_sameFloat F (FOps.conv F FloatKind.f32 FloatKind.f64 x0) (FOps.conv F FloatKind.f32 FloatKind.f64 x3)) then some ⟨V.at (A.bool false), none, []⟩ else bif FOps.convOk F FloatKind.f32 FloatKind.f64 x1 then bif FOps.convOk F FloatKind.f32 FloatKind.f64 x4 then bif Bool.not (Pure.laws_sameFloat F (FOps.conv F FloatKind.f32 FloatKind.f64 x1) (FOps.conv F FloatKind.f32 FloatKind.f64 x4)) then some ⟨V.at (A.bool false), none, []⟩ else bif FOps.convOk F FloatKind.f32 FloatKind.f64 x2 then bif FOps.convOk F FloatKind.f32 FloatKind.f64 x5 then bif Bool.not (Pure.laws_sameFloat F (FOps.conv F FloatKind.f32 FloatKind.f64 x2) (FOps.conv F FloatKind.f32 FloatKind.f64 x5)) then some ⟨V.at (A.bool false), none, []⟩ else some ⟨V.at (A.bool true), none, []⟩ else none else none else none else none else none else none := by kernel_rfl
  rw [h0]
  unfold Pure.laws_eqSwing Pure.laws_eqSwing_ok
  cases (FOps.convOk F FloatKind.f32 FloatKind.f64 x0) with
  | true =>
    cases (FOps.convOk F FloatKind.f32 FloatKind.f64 x3) with
    | true =>
      cases (Pure.laws_sameFloat F (FOps.conv F FloatKind.f32 FloatKind.f64 x0) (FOps.conv F FloatKind.f32 FloatKind.f64 x3)) with
      | true =>
        cases (FOps.convOk F FloatKind.f32 FloatKind.f64 x1) with
        | true =>
          cases (FOps.convOk F FloatKind.f32 FloatKind.f64 x4) with
          | true =>
            cases (Pure.laws_sameFloat F (FOps.conv F FloatKind.f32 FloatKind.f64 x1) (FOps.conv F FloatKind.f32 FloatKind.f64 x4)) with
            | true =>
              cases (FOps.convOk F FloatKind.f32 FloatKind.f64 x2) with
              | true =>
                cases (FOps.convOk F FloatKind.f32 FloatKind.f64 x5) with
                | true =>
                  cases (Pure.laws_sameFloat F (FOps.conv F FloatKind.f32 FloatKind.f64 x2) (FOps.conv F FloatKind.f32 FloatKind.f64 x5)) with
                  | true =>
                    intro _; rfl
                  | false =>
                    intro _; rfl
                | false =>
                  intro h; exact absurd h Bool.false_ne_true
              | false =>
                intro h; exact absurd h Bool.false_ne_true
            | false =>
              intro _; rfl
          | false =>
            intro h; exact absurd h Bool.false_ne_true
        | false =>
          intro h; exact absurd h Bool.false_ne_true
      | false =>
        intro _; rfl
    | false =>
      intro h; exact absurd h Bool.false_ne_true
  | false =>
    intro h; exact absurd h Bool.false_ne_true
theorem ok_laws_eqSwing : CallOK Try.prog 36 (c_laws_eqSwing real) := by
  refine callOK_of fun args h ret hc => ?_
  unfold c_laws_eqSwing at hc
  split at hc
  · rename_i x0 x1 x2 x3 x4 x5
    obtain ⟨hok, rfl⟩ := some_ret hc
    exact holds_ev prog_ok (allOK_cons ok_laws_sameFloat allOK_nil) Try.func36 rfl rfl smL_nil rfl (e_laws_eqSwing real x0 x1 x2 x3 x4 x5 hok)
  · cases hc
end Go.Fx
