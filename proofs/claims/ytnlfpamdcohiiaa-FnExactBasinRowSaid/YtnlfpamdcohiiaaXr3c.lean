import Derived.Test.YtnlfpamdcohiiaaXr3s
import Derived.KernelRfl
namespace Go.Fx
open Go.Proofs
set_option maxRecDepth 100000
def Pure.spec_l07Size (F : FOps) (x0 : Int) : Bool := bif FOps.cmp F BinOp.geq FloatKind.f32 x0 3229614080 then FOps.cmp F BinOp.leq FloatKind.f32 x0 1082130432 else false
def c_spec_l07Size (F : FOps) : Con
  | [V.at (A.fl FloatKind.f32 x0)], [] => some (true, ⟨V.at (A.bool (Pure.spec_l07Size F x0)), none, []⟩)
  | _, _ => none
theorem e_spec_l07Size (F : FOps) (x0 : Int) : evFn (cxS F tyl [] [] [] 0) Try.f57 false [V.at (A.fl FloatKind.f32 x0)] [] = some ⟨V.at (A.bool (Pure.spec_l07Size F x0)), none, []⟩ := by
  have h0 : evFn (cxS F tyl [] [] [] 0) Try.f57 false [V.at (A.fl FloatKind.f32 x0)] [] = bif FOps.cmp F BinOp.geq FloatKind.f32 x0 3229614080 then some ⟨V.at (A.bool (FOps.cmp F BinOp.leq FloatKind.f32 x0 1082130432)), none, []⟩ else some ⟨V.at (A.bool false), none, []⟩ := by kernel_rfl
  rw [h0]
  unfold Pure.spec_l07Size
  cases (FOps.cmp F BinOp.geq FloatKind.f32 x0 3229614080) with
  | true =>
    rfl
  | false =>
    rfl
theorem ok_spec_l07Size : CallOK Try.prog 57 (c_spec_l07Size real) := by
  refine callOK_of fun args h ret hc => ?_
  unfold c_spec_l07Size at hc
  split at hc
  · rename_i x0
    obtain ⟨_, rfl⟩ := some_ret hc
    exact holds_ev prog_ok allOK_nil Try.func57 rfl rfl smL_nil rfl (e_spec_l07Size real x0)
  · cases hc
def Pure.spec_l07Map (F : FOps) (x0 : Int) (x1 : Int) (x2 : Int) : Int := Pure.spec_l05Wrap F (FOps.bin F BinOp.add FloatKind.f32 x0 (Pure.spec_l07Kick F (FOps.bin F BinOp.add FloatKind.f32 x1 (FOps.bin F BinOp.mul FloatKind.f32 x2 (Pure.spec_l01Sine F x0)))))
def Pure.spec_l07Map_1 (F : FOps) (x0 : Int) (x1 : Int) (x2 : Int) : Int := Pure.spec_l07Kick F (FOps.bin F BinOp.add FloatKind.f32 x1 (FOps.bin F BinOp.mul FloatKind.f32 x2 (Pure.spec_l01Sine F x0)))
def Pure.spec_l07Map_ok (F : FOps) (x0 : Int) (x1 : Int) (x2 : Int) : Bool := bif Pure.spec_l01Sine_ok F x0 then bif Pure.spec_l07Kick_ok F (FOps.bin F BinOp.add FloatKind.f32 x1 (FOps.bin F BinOp.mul FloatKind.f32 x2 (Pure.spec_l01Sine F x0))) then Pure.spec_l05Wrap_ok F (FOps.bin F BinOp.add FloatKind.f32 x0 (Pure.spec_l07Kick F (FOps.bin F BinOp.add FloatKind.f32 x1 (FOps.bin F BinOp.mul FloatKind.f32 x2 (Pure.spec_l01Sine F x0))))) else false else false
def c_spec_l07Map (F : FOps) : Con
  | [V.agg [A.fl FloatKind.f32 x0, A.fl FloatKind.f32 x1], V.at (A.fl FloatKind.f32 x2)], [] => some (Pure.spec_l07Map_ok F x0 x1 x2, ⟨V.agg [A.fl FloatKind.f32 (Pure.spec_l07Map F x0 x1 x2), A.fl FloatKind.f32 (Pure.spec_l07Map_1 F x0 x1 x2)], none, []⟩)
  | _, _ => none
theorem e_spec_l07Map (F : FOps) (x0 : Int) (x1 : Int) (x2 : Int) : Pure.spec_l07Map_ok F x0 x1 x2 = true → evFn (cxS F tyl [(62, c_spec_l01Sine F), (53, c_spec_l07Kick F), (52, c_spec_l05Wrap F)] [] [] 0) Try.f64 false [V.agg [A.fl FloatKind.f32 x0, A.fl FloatKind.f32 x1], V.at (A.fl FloatKind.f32 x2)] [] = some ⟨V.agg [A.fl FloatKind.f32 (Pure.spec_l07Map F x0 x1 x2), A.fl FloatKind.f32 (Pure.spec_l07Map_1 F x0 x1 x2)], none, []⟩ := by
  have h0 : evFn (cxS F tyl [(62, c_spec_l01Sine F), (53, c_spec_l07Kick F), (52, c_spec_l05Wrap F)] [] [] 0) Try.f64 false [V.agg [A.fl FloatKind.f32 x0, A.fl FloatKind.f32 x1], V.at (A.fl FloatKind.f32 x2)] [] = bif Pure.spec_l01Sine_ok F x0 then bif Pure.spec_l07Kick_ok F (FOps.bin F BinOp.add FloatKind.f32 x1 (FOps.bin F BinOp.mul FloatKind.f32 x2 (Pure.spec_l01Sine F x0))) then bif Pure.spec_l05Wrap_ok F (FOps.bin F BinOp.add FloatKind.f32 x0 (Pure.spec_l07Kick F (FOps.bin F BinOp.add FloatKind.f32 x1 (FOps.bin F BinOp.mul FloatKind.f32 x2 (Pure.spec_l01Sine F x0))))) then some ⟨V.agg [A.fl FloatKind.f32 (Pure.spec_l05Wrap F (FOps.bin F BinOp.add FloatKind.f32 x0 (Pure.spec_l07Kick F (FOps.bin F BinOp.add FloatKind.f32 x1 (FOps.bin F BinOp.mul FloatKind.f32 x2 (Pure.spec_l01Sine F x0)))))), A.fl FloatKind.f32 (Pure.spec_l07Kick F (FOps.bin F BinOp.add FloatKind.f32 x1 (FOps.bin F BinOp.mul FloatKind.f32 x2 (Pure.spec_l01Sine F x0))))], none, []⟩ else none else none else none := by kernel_rfl
  rw [h0]
  unfold Pure.spec_l07Map Pure.spec_l07Map_1 Pure.spec_l07Map_ok
  cases (Pure.spec_l01Sine_ok F x0) with
  | true =>
    cases (Pure.spec_l07Kick_ok F (FOps.bin F BinOp.add FloatKind.f32 x1 (FOps.bin F BinOp.mul FloatKind.f32 x2 (Pure.spec_l01Sine F x0)))) with
    | true =>
      cases (Pure.spec_l05Wrap_ok F (FOps.bin F BinOp.add FloatKind.f32 x0 (Pure.spec_l07Kick F (FOps.bin F BinOp.add FloatKind.f32 x1 (FOps.bin F BinOp.mul FloatKind.f32 x2 (Pure.spec_l01Sine F x0)))))) with
      | true =>
        intro _; rfl
      | false =>
        intro h; exact absurd h Bool.false_ne_true
    | false =>
      intro h; exact absurd h Bool.false_ne_true
  | false =>
    intro h; exact absurd h Bool.false_ne_true
theorem ok_spec_l07Map : CallOK Try.prog 64 (c_spec_l07Map real) := by
  refine callOK_of fun args h ret hc => ?_
  unfold c_spec_l07Map at hc
  split at hc
  · rename_i x0 x1 x2
    obtain ⟨hok, rfl⟩ := some_ret hc
    exact holds_ev prog_ok (allOK_cons ok_spec_l01Sine (allOK_cons ok_spec_l07Kick (allOK_cons ok_spec_l05Wrap allOK_nil))) Try.func64 rfl rfl smL_nil rfl (e_spec_l07Map real x0 x1 x2 hok)
  · cases hc
def Pure.spec_MapState (F : FOps) (x0 : Int) (x1 : Int) (x2 : Int) : Int := bif Pure.spec_l07Is F x0 x1 then bif Pure.spec_l07Size F x2 then Pure.spec_l07Map F x0 x1 x2 else 0 else 0
def Pure.spec_MapState_1 (F : FOps) (x0 : Int) (x1 : Int) (x2 : Int) : Int := bif Pure.spec_l07Is F x0 x1 then bif Pure.spec_l07Size F x2 then Pure.spec_l07Map_1 F x0 x1 x2 else 0 else 0
def Pure.spec_MapState_2 (F : FOps) (x0 : Int) (x1 : Int) (x2 : Int) : Bool := bif Pure.spec_l07Is F x0 x1 then Pure.spec_l07Size F x2 else false
def Pure.spec_MapState_ok (F : FOps) (x0 : Int) (x1 : Int) (x2 : Int) : Bool := bif Pure.spec_l07Is F x0 x1 then bif Pure.spec_l07Size F x2 then Pure.spec_l07Map_ok F x0 x1 x2 else true else true
def c_spec_MapState (F : FOps) : Con
  | [V.agg [A.fl FloatKind.f32 x0, A.fl FloatKind.f32 x1], V.at (A.fl FloatKind.f32 x2)], [] => some (Pure.spec_MapState_ok F x0 x1 x2, ⟨V.tup [(true, [A.fl FloatKind.f32 (Pure.spec_MapState F x0 x1 x2), A.fl FloatKind.f32 (Pure.spec_MapState_1 F x0 x1 x2)]), (false, [A.bool (Pure.spec_MapState_2 F x0 x1 x2)])], none, []⟩)
  | _, _ => none
theorem e_spec_MapState (F : FOps) (x0 : Int) (x1 : Int) (x2 : Int) : Pure.spec_MapState_ok F x0 x1 x2 = true → evFn (cxS F tyl [(51, c_spec_l07Is F), (57, c_spec_l07Size F), (64, c_spec_l07Map F)] [] [] 0) Try.f26 false [V.agg [A.fl FloatKind.f32 x0, A.fl FloatKind.f32 x1], V.at (A.fl FloatKind.f32 x2)] [] = some ⟨V.tup [(true, [A.fl FloatKind.f32 (Pure.spec_MapState F x0 x1 x2), A.fl FloatKind.f32 (Pure.spec_MapState_1 F x0 x1 x2)]), (false, [A.bool (Pure.spec_MapState_2 F x0 x1 x2)])], none, []⟩ := by
  have h0 : evFn (cxS F tyl [(51, c_spec_l07Is F), (57, c_spec_l07Size F), (64, c_spec_l07Map F)] [] [] 0) Try.f26 false [V.agg [A.fl FloatKind.f32 x0, A.fl FloatKind.f32 x1], V.at (A.fl FloatKind.f32 x2)] [] = bif Bool.not (Pure.spec_l07Is F x0 x1) then some ⟨V.tup [(true, [A.fl FloatKind.f32 0, A.fl FloatKind.f32 0]), (false, [A.bool false])], none, []⟩ else bif Bool.not (Pure.spec_l07Size F x2) then some ⟨V.tup [(true, [A.fl FloatKind.f32 0, A.fl FloatKind.f32 0]), (false, [A.bool false])], none, []⟩ else bif Pure.spec_l07Map_ok F x0 x1 x2 then some ⟨V.tup [(true, [A.fl FloatKind.f32 (Pure.spec_l07Map F x0 x1 x2), A.fl FloatKind.f32 (Pure.spec_l07Map_1 F x0 x1 x2)]), (false, [A.bool true])], none, []⟩ else none := by kernel_rfl
  rw [h0]
  unfold Pure.spec_MapState Pure.spec_MapState_1 Pure.spec_MapState_2 Pure.spec_MapState_ok
  cases (Pure.spec_l07Is F x0 x1) with
  | true =>
    cases (Pure.spec_l07Size F x2) with
    | true =>
      cases (Pure.spec_l07Map_ok F x0 x1 x2) with
      | true =>
        intro _; rfl
      | false =>
        intro h; exact absurd h Bool.false_ne_true
    | false =>
      intro _; rfl
  | false =>
    intro _; rfl
theorem ok_spec_MapState : CallOK Try.prog 26 (c_spec_MapState real) := by
  refine callOK_of fun args h ret hc => ?_
  unfold c_spec_MapState at hc
  split at hc
  · rename_i x0 x1 x2
    obtain ⟨hok, rfl⟩ := some_ret hc
    exact holds_ev prog_ok (allOK_cons ok_spec_l07Is (allOK_cons ok_spec_l07Size (allOK_cons ok_spec_l07Map allOK_nil))) Try.func26 rfl rfl smL_nil rfl (e_spec_MapState real x0 x1 x2 hok)
  · cases hc
def Pure.impl_sizeOk (F : FOps) (x0 : Int) : Bool := bif FOps.cmp F BinOp.geq FloatKind.f32 x0 3229614080 then FOps.cmp F BinOp.leq FloatKind.f32 x0 1082130432 else false
def c_impl_sizeOk (F : FOps) : Con
  | [V.at (A.fl FloatKind.f32 x0)], [] => some (true, ⟨V.at (A.bool (Pure.impl_sizeOk F x0)), none, []⟩)
  | _, _ => none
theorem e_impl_sizeOk (F : FOps) (x0 : Int) : evFn (cxS F tyl [] [] [] 0) Try.f92 false [V.at (A.fl FloatKind.f32 x0)] [] = some ⟨V.at (A.bool (Pure.impl_sizeOk F x0)), none, []⟩ := by
  have h0 : evFn (cxS F tyl [] [] [] 0) Try.f92 false [V.at (A.fl FloatKind.f32 x0)] [] = bif FOps.cmp F BinOp.geq FloatKind.f32 x0 3229614080 then some ⟨V.at (A.bool (FOps.cmp F BinOp.leq FloatKind.f32 x0 1082130432)), none, []⟩ else some ⟨V.at (A.bool false), none, []⟩ := by kernel_rfl
  rw [h0]
  unfold Pure.impl_sizeOk
  cases (FOps.cmp F BinOp.geq FloatKind.f32 x0 3229614080) with
  | true =>
    rfl
  | false =>
    rfl
theorem ok_impl_sizeOk : CallOK Try.prog 92 (c_impl_sizeOk real) := by
  refine callOK_of fun args h ret hc => ?_
  unfold c_impl_sizeOk at hc
  split at hc
  · rename_i x0
    obtain ⟨_, rfl⟩ := some_ret hc
    exact holds_ev prog_ok allOK_nil Try.func92 rfl rfl smL_nil rfl (e_impl_sizeOk real x0)
  · cases hc
def Pure.impl_stateOk (F : FOps) (x0 : Int) (x1 : Int) (x2 : Int) : Bool := bif Pure.impl_ValidState F x0 x1 then Pure.impl_sizeOk F x2 else false
def c_impl_stateOk (F : FOps) : Con
  | [V.agg [A.fl FloatKind.f32 x0, A.fl FloatKind.f32 x1], V.at (A.fl FloatKind.f32 x2)], [] => some (true, ⟨V.at (A.bool (Pure.impl_stateOk F x0 x1 x2)), none, []⟩)
  | _, _ => none
theorem e_impl_stateOk (F : FOps) (x0 : Int) (x1 : Int) (x2 : Int) : evFn (cxS F tyl [(54, c_impl_ValidState F), (92, c_impl_sizeOk F)] [] [] 0) Try.f59 false [V.agg [A.fl FloatKind.f32 x0, A.fl FloatKind.f32 x1], V.at (A.fl FloatKind.f32 x2)] [] = some ⟨V.at (A.bool (Pure.impl_stateOk F x0 x1 x2)), none, []⟩ := by
  have h0 : evFn (cxS F tyl [(54, c_impl_ValidState F), (92, c_impl_sizeOk F)] [] [] 0) Try.f59 false [V.agg [A.fl FloatKind.f32 x0, A.fl FloatKind.f32 x1], V.at (A.fl FloatKind.f32 x2)] [] = bif Pure.impl_ValidState F x0 x1 then some ⟨V.at (A.bool (Pure.impl_sizeOk F x2)), none, []⟩ else some ⟨V.at (A.bool false), none, []⟩ := by kernel_rfl
  rw [h0]
  unfold Pure.impl_stateOk
  cases (Pure.impl_ValidState F x0 x1) with
  | true =>
    rfl
  | false =>
    rfl
theorem ok_impl_stateOk : CallOK Try.prog 59 (c_impl_stateOk real) := by
  refine callOK_of fun args h ret hc => ?_
  unfold c_impl_stateOk at hc
  split at hc
  · rename_i x0 x1 x2
    obtain ⟨_, rfl⟩ := some_ret hc
    exact holds_ev prog_ok (allOK_cons ok_impl_ValidState (allOK_cons ok_impl_sizeOk allOK_nil)) Try.func59 rfl rfl smL_nil rfl (e_impl_stateOk real x0 x1 x2)
  · cases hc
def Pure.impl_State_damped (F : FOps) (x0 : Int) (x1 : Int) (x2 : Int) (x3 : Int) : Int := Pure.impl_WrapTurn F (FOps.bin F BinOp.add FloatKind.f32 x0 (Pure.impl_WrapKick F (FOps.bin F BinOp.add FloatKind.f32 (FOps.bin F BinOp.mul FloatKind.f32 x3 x1) (FOps.bin F BinOp.mul FloatKind.f32 x2 (Pure.impl_SineTurns F x0)))))
def Pure.impl_State_damped_1 (F : FOps) (x0 : Int) (x1 : Int) (x2 : Int) (x3 : Int) : Int := Pure.impl_WrapKick F (FOps.bin F BinOp.add FloatKind.f32 (FOps.bin F BinOp.mul FloatKind.f32 x3 x1) (FOps.bin F BinOp.mul FloatKind.f32 x2 (Pure.impl_SineTurns F x0)))
def Pure.impl_State_damped_ok (F : FOps) (x0 : Int) (x1 : Int) (x2 : Int) (x3 : Int) : Bool := bif Pure.impl_SineTurns_ok F x0 then bif Pure.impl_kicked_ok F (FOps.bin F BinOp.add FloatKind.f32 (FOps.bin F BinOp.mul FloatKind.f32 x3 x1) (FOps.bin F BinOp.mul FloatKind.f32 x2 (Pure.impl_SineTurns F x0))) then Pure.impl_wrapped_ok F (FOps.bin F BinOp.add FloatKind.f32 x0 (Pure.impl_WrapKick F (FOps.bin F BinOp.add FloatKind.f32 (FOps.bin F BinOp.mul FloatKind.f32 x3 x1) (FOps.bin F BinOp.mul FloatKind.f32 x2 (Pure.impl_SineTurns F x0))))) else false else false
def c_impl_State_damped (F : FOps) : Con
  | [V.agg [A.fl FloatKind.f32 x0, A.fl FloatKind.f32 x1], V.at (A.fl FloatKind.f32 x2), V.at (A.fl FloatKind.f32 x3)], [] => some (Pure.impl_State_damped_ok F x0 x1 x2 x3, ⟨V.agg [A.fl FloatKind.f32 (Pure.impl_State_damped F x0 x1 x2 x3), A.fl FloatKind.f32 (Pure.impl_State_damped_1 F x0 x1 x2 x3)], none, []⟩)
  | _, _ => none
theorem e_impl_State_damped (F : FOps) (x0 : Int) (x1 : Int) (x2 : Int) (x3 : Int) : Pure.impl_State_damped_ok F x0 x1 x2 x3 = true → evFn (cxS F tyl [(63, c_impl_SineTurns F), (56, c_impl_kicked F), (55, c_impl_wrapped F)] [] [] 0) Try.f69 false [V.agg [A.fl FloatKind.f32 x0, A.fl FloatKind.f32 x1], V.at (A.fl FloatKind.f32 x2), V.at (A.fl FloatKind.f32 x3)] [] = some ⟨V.agg [A.fl FloatKind.f32 (Pure.impl_State_damped F x0 x1 x2 x3), A.fl FloatKind.f32 (Pure.impl_State_damped_1 F x0 x1 x2 x3)], none, []⟩ := by
  have h0 : evFn (cxS F tyl [(63, c_impl_SineTurns F), (56, c_impl_kicked F), (55, c_impl_wrapped F)] [] [] 0) Try.f69 false [V.agg [A.fl FloatKind.f32 x0, A.fl FloatKind.f32 x1], V.at (A.fl FloatKind.f32 x2), V.at (A.fl FloatKind.f32 x3)] [] = bif Pure.impl_SineTurns_ok F x0 then bif Pure.impl_kicked_ok F (FOps.bin F BinOp.add FloatKind.f32 (FOps.bin F BinOp.mul FloatKind.f32 x3 x1) (FOps.bin F BinOp.mul FloatKind.f32 x2 (Pure.impl_SineTurns F x0))) then bif Pure.impl_wrapped_ok F (FOps.bin F BinOp.add FloatKind.f32 x0 (Pure.impl_WrapKick F (FOps.bin F BinOp.add FloatKind.f32 (FOps.bin F BinOp.mul FloatKind.f32 x3 x1) (FOps.bin F BinOp.mul FloatKind.f32 x2 (Pure.impl_SineTurns F x0))))) then some ⟨V.agg [A.fl FloatKind.f32 (Pure.impl_WrapTurn F (FOps.bin F BinOp.add FloatKind.f32 x0 (Pure.impl_WrapKick F (FOps.bin F BinOp.add FloatKind.f32 (FOps.bin F BinOp.mul FloatKind.f32 x3 x1) (FOps.bin F BinOp.mul FloatKind.f32 x2 (Pure.impl_SineTurns F x0)))))), A.fl FloatKind.f32 (Pure.impl_WrapKick F (FOps.bin F BinOp.add FloatKind.f32 (FOps.bin F BinOp.mul FloatKind.f32 x3 x1) (FOps.bin F BinOp.mul FloatKind.f32 x2 (Pure.impl_SineTurns F x0))))], none, []⟩ else none else none else none := by kernel_rfl
  rw [h0]
  unfold Pure.impl_State_damped Pure.impl_State_damped_1 Pure.impl_State_damped_ok
  cases (Pure.impl_SineTurns_ok F x0) with
  | true =>
    cases (Pure.impl_kicked_ok F (FOps.bin F BinOp.add FloatKind.f32 (FOps.bin F BinOp.mul FloatKind.f32 x3 x1) (FOps.bin F BinOp.mul FloatKind.f32 x2 (Pure.impl_SineTurns F x0)))) with
    | true =>
      cases (Pure.impl_wrapped_ok F (FOps.bin F BinOp.add FloatKind.f32 x0 (Pure.impl_WrapKick F (FOps.bin F BinOp.add FloatKind.f32 (FOps.bin F BinOp.mul FloatKind.f32 x3 x1) (FOps.bin F BinOp.mul FloatKind.f32 x2 (Pure.impl_SineTurns F x0)))))) with
      | true =>
        intro _; rfl
      | false =>
        intro h; exact absurd h Bool.false_ne_true
    | false =>
      intro h; exact absurd h Bool.false_ne_true
  | false =>
    intro h; exact absurd h Bool.false_ne_true
theorem ok_impl_State_damped : CallOK Try.prog 69 (c_impl_State_damped real) := by
  refine callOK_of fun args h ret hc => ?_
  unfold c_impl_State_damped at hc
  split at hc
  · rename_i x0 x1 x2 x3
    obtain ⟨hok, rfl⟩ := some_ret hc
    exact holds_ev prog_ok (allOK_cons ok_impl_SineTurns (allOK_cons ok_impl_kicked (allOK_cons ok_impl_wrapped allOK_nil))) Try.func69 rfl rfl smL_nil rfl (e_impl_State_damped real x0 x1 x2 x3 hok)
  · cases hc
def Pure.impl_State_mapped_ok (F : FOps) (x0 : Int) (x1 : Int) (x2 : Int) : Bool := Pure.impl_State_damped_ok F x0 x1 x2 1065353216
def c_impl_State_mapped (F : FOps) : Con
  | [V.agg [A.fl FloatKind.f32 x0, A.fl FloatKind.f32 x1], V.at (A.fl FloatKind.f32 x2)], [] => some (Pure.impl_State_mapped_ok F x0 x1 x2, ⟨V.agg [A.fl FloatKind.f32 (Pure.impl_State_damped F x0 x1 x2 1065353216), A.fl FloatKind.f32 (Pure.impl_State_damped_1 F x0 x1 x2 1065353216)], none, []⟩)
  | _, _ => none
theorem e_impl_State_mapped (F : FOps) (x0 : Int) (x1 : Int) (x2 : Int) : Pure.impl_State_mapped_ok F x0 x1 x2 = true → evFn (cxS F tyl [(69, c_impl_State_damped F)] [] [] 0) Try.f65 false [V.agg [A.fl FloatKind.f32 x0, A.fl FloatKind.f32 x1], V.at (A.fl FloatKind.f32 x2)] [] = some ⟨V.agg [A.fl FloatKind.f32 (Pure.impl_State_damped F x0 x1 x2 1065353216), A.fl FloatKind.f32 (Pure.impl_State_damped_1 F x0 x1 x2 1065353216)], none, []⟩ := by
  have h0 : evFn (cxS F tyl [(69, c_impl_State_damped F)] [] [] 0) Try.f65 false [V.agg [A.fl FloatKind.f32 x0, A.fl FloatKind.f32 x1], V.at (A.fl FloatKind.f32 x2)] [] = bif Pure.impl_State_damped_ok F x0 x1 x2 1065353216 then some ⟨V.agg [A.fl FloatKind.f32 (Pure.impl_State_damped F x0 x1 x2 1065353216), A.fl FloatKind.f32 (Pure.impl_State_damped_1 F x0 x1 x2 1065353216)], none, []⟩ else none := by kernel_rfl
  rw [h0]
  unfold Pure.impl_State_mapped_ok
  cases (Pure.impl_State_damped_ok F x0 x1 x2 1065353216) with
  | true =>
    intro _; rfl
  | false =>
    intro h; exact absurd h Bool.false_ne_true
theorem ok_impl_State_mapped : CallOK Try.prog 65 (c_impl_State_mapped real) := by
  refine callOK_of fun args h ret hc => ?_
  unfold c_impl_State_mapped at hc
  split at hc
  · rename_i x0 x1 x2
    obtain ⟨hok, rfl⟩ := some_ret hc
    exact holds_ev prog_ok (allOK_cons ok_impl_State_damped allOK_nil) Try.func65 rfl rfl smL_nil rfl (e_impl_State_mapped real x0 x1 x2 hok)
  · cases hc
def Pure.impl_MapState (F : FOps) (x0 : Int) (x1 : Int) (x2 : Int) : Int := bif Pure.impl_stateOk F x0 x1 x2 then Pure.impl_State_damped F x0 x1 x2 1065353216 else 0
def Pure.impl_MapState_1 (F : FOps) (x0 : Int) (x1 : Int) (x2 : Int) : Int := bif Pure.impl_stateOk F x0 x1 x2 then Pure.impl_State_damped_1 F x0 x1 x2 1065353216 else 0
def Pure.impl_MapState_ok (F : FOps) (x0 : Int) (x1 : Int) (x2 : Int) : Bool := bif Pure.impl_stateOk F x0 x1 x2 then Pure.impl_State_mapped_ok F x0 x1 x2 else true
def c_impl_MapState (F : FOps) : Con
  | [V.agg [A.fl FloatKind.f32 x0, A.fl FloatKind.f32 x1], V.at (A.fl FloatKind.f32 x2)], [] => some (Pure.impl_MapState_ok F x0 x1 x2, ⟨V.tup [(true, [A.fl FloatKind.f32 (Pure.impl_MapState F x0 x1 x2), A.fl FloatKind.f32 (Pure.impl_MapState_1 F x0 x1 x2)]), (false, [A.bool (Pure.impl_stateOk F x0 x1 x2)])], none, []⟩)
  | _, _ => none
theorem e_impl_MapState (F : FOps) (x0 : Int) (x1 : Int) (x2 : Int) : Pure.impl_MapState_ok F x0 x1 x2 = true → evFn (cxS F tyl [(59, c_impl_stateOk F), (65, c_impl_State_mapped F)] [] [] 0) Try.f27 false [V.agg [A.fl FloatKind.f32 x0, A.fl FloatKind.f32 x1], V.at (A.fl FloatKind.f32 x2)] [] = some ⟨V.tup [(true, [A.fl FloatKind.f32 (Pure.impl_MapState F x0 x1 x2), A.fl FloatKind.f32 (Pure.impl_MapState_1 F x0 x1 x2)]), (false, [A.bool (Pure.impl_stateOk F x0 x1 x2)])], none, []⟩ := by
  have h0 : evFn (cxS F tyl [(59, c_impl_stateOk F), (65, c_impl_State_mapped F)] [] [] 0) Try.f27 false [V.agg [A.fl FloatKind.f32 x0, A.fl FloatKind.f32 x1], V.at (A.fl FloatKind.f32 x2)] [] = bif Bool.not (Pure.impl_stateOk F x0 x1 x2) then some ⟨V.tup [(true, [A.fl FloatKind.f32 0, A.fl FloatKind.f32 0]), (false, [A.bool false])], none, []⟩ else bif Pure.impl_State_mapped_ok F x0 x1 x2 then some ⟨V.tup [(true, [A.fl FloatKind.f32 (Pure.impl_State_damped F x0 x1 x2 1065353216), A.fl FloatKind.f32 (Pure.impl_State_damped_1 F x0 x1 x2 1065353216)]), (false, [A.bool true])], none, []⟩ else none := by kernel_rfl
  rw [h0]
  unfold Pure.impl_MapState Pure.impl_MapState_1 Pure.impl_MapState_ok
  cases (Pure.impl_stateOk F x0 x1 x2) with
  | true =>
    cases (Pure.impl_State_mapped_ok F x0 x1 x2) with
    | true =>
      intro _; rfl
    | false =>
      intro h; exact absurd h Bool.false_ne_true
  | false =>
    intro _; rfl
theorem ok_impl_MapState : CallOK Try.prog 27 (c_impl_MapState real) := by
  refine callOK_of fun args h ret hc => ?_
  unfold c_impl_MapState at hc
  split at hc
  · rename_i x0 x1 x2
    obtain ⟨hok, rfl⟩ := some_ret hc
    exact holds_ev prog_ok (allOK_cons ok_impl_stateOk (allOK_cons ok_impl_State_mapped allOK_nil)) Try.func27 rfl rfl smL_nil rfl (e_impl_MapState real x0 x1 x2 hok)
  · cases hc
def Pure.laws_FnExactMapState (F : FOps) (x0 : Int) (x1 : Int) (x2 : Int) : Bool := bif Pure.laws_eqState F (Pure.impl_MapState F x0 x1 x2) (Pure.impl_MapState_1 F x0 x1 x2) (Pure.spec_MapState F x0 x1 x2) (Pure.spec_MapState_1 F x0 x1 x2) then (Pure.impl_stateOk F x0 x1 x2) == (Pure.spec_MapState_2 F x0 x1 x2) else false
def Pure.laws_FnExactMapState_ok (F : FOps) (x0 : Int) (x1 : Int) (x2 : Int) : Bool := bif Pure.spec_MapState_ok F x0 x1 x2 then bif Pure.impl_MapState_ok F x0 x1 x2 then Pure.laws_eqState_ok F (Pure.impl_MapState F x0 x1 x2) (Pure.impl_MapState_1 F x0 x1 x2) (Pure.spec_MapState F x0 x1 x2) (Pure.spec_MapState_1 F x0 x1 x2) else false else false
def c_laws_FnExactMapState (F : FOps) : Con
  | [V.agg [A.fl FloatKind.f32 x0, A.fl FloatKind.f32 x1], V.at (A.fl FloatKind.f32 x2)], [] => some (Pure.laws_FnExactMapState_ok F x0 x1 x2, ⟨V.at (A.bool (Pure.laws_FnExactMapState F x0 x1 x2)), none, []⟩)
  | _, _ => none
theorem e_laws_FnExactMapState (F : FOps) (x0 : Int) (x1 : Int) (x2 : Int) : Pure.laws_FnExactMapState_ok F x0 x1 x2 = true → evFn (cxS F tyl [(16, c_laws_toState F), (26, c_spec_MapState F), (27, c_impl_MapState F), (18, c_laws_eqState F)] [] [] 0) Try.f6 false [V.agg [A.fl FloatKind.f32 x0, A.fl FloatKind.f32 x1], V.at (A.fl FloatKind.f32 x2)] [] = some ⟨V.at (A.bool (Pure.laws_FnExactMapState F x0 x1 x2)), none, []⟩ := by
  have h0 : evFn (cxS F tyl [(16, c_laws_toState F), (26, c_spec_MapState F), (27, c_impl_MapState F), (18, c_laws_eqState F)] [] [] 0) Try.f6 false [V.agg [A.fl FloatKind.f32 x0, A.fl FloatKind.f32 x1], V.at (A.fl FloatKind.f32 x2)] [] = bif Pure.spec_MapState_ok F x0 x1 x2 then bif Pure.impl_MapState_ok F x0 x1 x2 then bif Pure.laws_eqState_ok F (Pure.impl_MapState F x0 x1 x2) (Pure.impl_MapState_1 F x0 x1 x2) (Pure.spec_MapState F x0 x1 x2) (Pure.spec_MapState_1 F x0 x1 x2) then bif Bool.not (Pure.laws_eqState F (Pure.impl_MapState F x0 x1 x2) (Pure.impl_MapState_1 F x0 x1 x2) (Pure.spec_MapState F x0 x1 x2) (Pure.spec_MapState_1 F x0 x1 x2)) then some ⟨V.at (A.bool false), none, []⟩ else bif Bool.not ((Pure.impl_stateOk F x0 x1 x2) == (Pure.spec_MapState_2 F x0 x1 x2)) then some ⟨V.at (A.bool false), none, []⟩ else some ⟨V.at (A.bool true), none, []⟩ else none else none else none := by kernel_rfl
  rw [h0]
  unfold Pure.laws_FnExactMapState Pure.laws_FnExactMapState_ok
  cases (Pure.spec_MapState_ok F x0 x1 x2) with
  | true =>
    cases (Pure.impl_MapState_ok F x0 x1 x2) with
    | true =>
      cases (Pure.laws_eqState_ok F (Pure.impl_MapState F x0 x1 x2) (Pure.impl_MapState_1 F x0 x1 x2) (Pure.spec_MapState F x0 x1 x2) (Pure.spec_MapState_1 F x0 x1 x2)) with
      | true =>
        cases (Pure.laws_eqState F (Pure.impl_MapState F x0 x1 x2) (Pure.impl_MapState_1 F x0 x1 x2) (Pure.spec_MapState F x0 x1 x2) (Pure.spec_MapState_1 F x0 x1 x2)) with
        | true =>
          cases ((Pure.impl_stateOk F x0 x1 x2) == (Pure.spec_MapState_2 F x0 x1 x2)) with
          | true =>
            intro _; rfl
          | false =>
            intro _; rfl
        | false =>
          intro _; rfl
      | false =>
        intro h; exact absurd h Bool.false_ne_true
    | false =>
      intro h; exact absurd h Bool.false_ne_true
  | false =>
    intro h; exact absurd h Bool.false_ne_true
theorem ok_laws_FnExactMapState : CallOK Try.prog 6 (c_laws_FnExactMapState real) := by
  refine callOK_of fun args h ret hc => ?_
  unfold c_laws_FnExactMapState at hc
  split at hc
  · rename_i x0 x1 x2
    obtain ⟨hok, rfl⟩ := some_ret hc
    exact holds_ev prog_ok (allOK_cons ok_laws_toState (allOK_cons ok_spec_MapState (allOK_cons ok_impl_MapState (allOK_cons ok_laws_eqState allOK_nil)))) Try.func6 rfl rfl smL_nil rfl (e_laws_FnExactMapState real x0 x1 x2 hok)
  · cases hc
def Pure.spec_BackState (F : FOps) (x0 : Int) (x1 : Int) (x2 : Int) : Int := bif Pure.spec_l07Is F x0 x1 then bif Pure.spec_l07Size F x2 then Pure.spec_l05Wrap F (FOps.bin F BinOp.sub FloatKind.f32 x0 x1) else 0 else 0
def Pure.spec_BackState_1 (F : FOps) (x0 : Int) (x1 : Int) (x2 : Int) : Int := bif Pure.spec_l07Is F x0 x1 then bif Pure.spec_l07Size F x2 then Pure.spec_l07Kick F (FOps.bin F BinOp.sub FloatKind.f32 x1 (FOps.bin F BinOp.mul FloatKind.f32 x2 (Pure.spec_l01Sine F (Pure.spec_l05Wrap F (FOps.bin F BinOp.sub FloatKind.f32 x0 x1))))) else 0 else 0
def Pure.spec_BackState_2 (F : FOps) (x0 : Int) (x1 : Int) (x2 : Int) : Bool := bif Pure.spec_l07Is F x0 x1 then Pure.spec_l07Size F x2 else false
def Pure.spec_BackState_ok (F : FOps) (x0 : Int) (x1 : Int) (x2 : Int) : Bool := bif Pure.spec_l07Is F x0 x1 then bif Pure.spec_l07Size F x2 then bif Pure.spec_l05Wrap_ok F (FOps.bin F BinOp.sub FloatKind.f32 x0 x1) then bif Pure.spec_l01Sine_ok F (Pure.spec_l05Wrap F (FOps.bin F BinOp.sub FloatKind.f32 x0 x1)) then Pure.spec_l07Kick_ok F (FOps.bin F BinOp.sub FloatKind.f32 x1 (FOps.bin F BinOp.mul FloatKind.f32 x2 (Pure.spec_l01Sine F (Pure.spec_l05Wrap F (FOps.bin F BinOp.sub FloatKind.f32 x0 x1))))) else false else false else true else true
def c_spec_BackState (F : FOps) : Con
  | [V.agg [A.fl FloatKind.f32 x0, A.fl FloatKind.f32 x1], V.at (A.fl FloatKind.f32 x2)], [] => some (Pure.spec_BackState_ok F x0 x1 x2, ⟨V.tup [(true, [A.fl FloatKind.f32 (Pure.spec_BackState F x0 x1 x2), A.fl FloatKind.f32 (Pure.spec_BackState_1 F x0 x1 x2)]), (false, [A.bool (Pure.spec_BackState_2 F x0 x1 x2)])], none, []⟩)
  | _, _ => none
theorem e_spec_BackState (F : FOps) (x0 : Int) (x1 : Int) (x2 : Int) : Pure.spec_BackState_ok F x0 x1 x2 = true → evFn (cxS F tyl [(51, c_spec_l07Is F), (57, c_spec_l07Size F), (52, c_spec_l05Wrap F), (62, c_spec_l01Sine F), (53, c_spec_l07Kick F)] [] [] 0) Try.f24 false [V.agg [A.fl FloatKind.f32 x0, A.fl FloatKind.f32 x1], V.at (A.fl FloatKind.f32 x2)] [] = some ⟨V.tup [(true, [A.fl FloatKind.f32 (Pure.spec_BackState F x0 x1 x2), A.fl FloatKind.f32 (Pure.spec_BackState_1 F x0 x1 x2)]), (false, [A.bool (Pure.spec_BackState_2 F x0 x1 x2)])], none, []⟩ := by
  have h0 : evFn (cxS F tyl [(51, c_spec_l07Is F), (57, c_spec_l07Size F), (52, c_spec_l05Wrap F), (62, c_spec_l01Sine F), (53, c_spec_l07Kick F)] [] [] 0) Try.f24 false [V.agg [A.fl FloatKind.f32 x0, A.fl FloatKind.f32 x1], V.at (A.fl FloatKind.f32 x2)] [] = bif Bool.not (Pure.spec_l07Is F x0 x1) then some ⟨V.tup [(true, [A.fl FloatKind.f32 0, A.fl FloatKind.f32 0]), (false, [A.bool false])], none, []⟩ else bif Bool.not (Pure.spec_l07Size F x2) then some ⟨V.tup [(true, [A.fl FloatKind.f32 0, A.fl FloatKind.f32 0]), (false, [A.bool false])], none, []⟩ else bif Pure.spec_l05Wrap_ok F (FOps.bin F BinOp.sub FloatKind.f32 x0 x1) then bif Pure.spec_l01Sine_ok F (Pure.spec_l05Wrap F (FOps.bin F BinOp.sub FloatKind.f32 x0 x1)) then bif Pure.spec_l07Kick_ok F (FOps.bin F BinOp.sub FloatKind.f32 x1 (FOps.bin F BinOp.mul FloatKind.f32 x2 (Pure.spec_l01Sine F (Pure.spec_l05Wrap F (FOps.bin F BinOp.sub FloatKind.f32 x0 x1))))) then some ⟨V.tup [(true, [A.fl FloatKind.f32 (Pure.spec_l05Wrap F (FOps.bin F BinOp.sub FloatKind.f32 x0 x1)), A.fl FloatKind.f32 (Pure.spec_l07Kick F (FOps.bin F BinOp.sub FloatKind.f32 x1 (FOps.bin F BinOp.mul FloatKind.f32 x2 (Pure.spec_l01Sine F (Pure.spec_l05Wrap F (FOps.bin F BinOp.sub FloatKind.f32 x0 x1))))))]), (false, [A.bool true])], none, []⟩ else none else none else none := by kernel_rfl
  rw [h0]
  unfold Pure.spec_BackState Pure.spec_BackState_1 Pure.spec_BackState_2 Pure.spec_BackState_ok
  cases (Pure.spec_l07Is F x0 x1) with
  | true =>
    cases (Pure.spec_l07Size F x2) with
    | true =>
      cases (Pure.spec_l05Wrap_ok F (FOps.bin F BinOp.sub FloatKind.f32 x0 x1)) with
      | true =>
        cases (Pure.spec_l01Sine_ok F (Pure.spec_l05Wrap F (FOps.bin F BinOp.sub FloatKind.f32 x0 x1))) with
        | true =>
          cases (Pure.spec_l07Kick_ok F (FOps.bin F BinOp.sub FloatKind.f32 x1 (FOps.bin F BinOp.mul FloatKind.f32 x2 (Pure.spec_l01Sine F (Pure.spec_l05Wrap F (FOps.bin F BinOp.sub FloatKind.f32 x0 x1)))))) with
          | true =>
            intro _; rfl
          | false =>
            intro h; exact absurd h Bool.false_ne_true
        | false =>
          intro h; exact absurd h Bool.false_ne_true
      | false =>
        intro h; exact absurd h Bool.false_ne_true
    | false =>
      intro _; rfl
  | false =>
    intro _; rfl
theorem ok_spec_BackState : CallOK Try.prog 24 (c_spec_BackState real) := by
  refine callOK_of fun args h ret hc => ?_
  unfold c_spec_BackState at hc
  split at hc
  · rename_i x0 x1 x2
    obtain ⟨hok, rfl⟩ := some_ret hc
    exact holds_ev prog_ok (allOK_cons ok_spec_l07Is (allOK_cons ok_spec_l07Size (allOK_cons ok_spec_l05Wrap (allOK_cons ok_spec_l01Sine (allOK_cons ok_spec_l07Kick allOK_nil))))) Try.func24 rfl rfl smL_nil rfl (e_spec_BackState real x0 x1 x2 hok)
  · cases hc
def Pure.impl_BackState (F : FOps) (x0 : Int) (x1 : Int) (x2 : Int) : Int := bif Pure.impl_stateOk F x0 x1 x2 then Pure.impl_WrapTurn F (FOps.bin F BinOp.sub FloatKind.f32 x0 x1) else 0
def Pure.impl_BackState_1 (F : FOps) (x0 : Int) (x1 : Int) (x2 : Int) : Int := bif Pure.impl_stateOk F x0 x1 x2 then Pure.impl_WrapKick F (FOps.bin F BinOp.sub FloatKind.f32 x1 (FOps.bin F BinOp.mul FloatKind.f32 x2 (Pure.impl_SineTurns F (Pure.impl_WrapTurn F (FOps.bin F BinOp.sub FloatKind.f32 x0 x1))))) else 0
def Pure.impl_BackState_ok (F : FOps) (x0 : Int) (x1 : Int) (x2 : Int) : Bool := bif Pure.impl_stateOk F x0 x1 x2 then bif Pure.impl_wrapped_ok F (FOps.bin F BinOp.sub FloatKind.f32 x0 x1) then bif Pure.impl_SineTurns_ok F (Pure.impl_WrapTurn F (FOps.bin F BinOp.sub FloatKind.f32 x0 x1)) then Pure.impl_kicked_ok F (FOps.bin F BinOp.sub FloatKind.f32 x1 (FOps.bin F BinOp.mul FloatKind.f32 x2 (Pure.impl_SineTurns F (Pure.impl_WrapTurn F (FOps.bin F BinOp.sub FloatKind.f32 x0 x1))))) else false else false else true
def c_impl_BackState (F : FOps) : Con
  | [V.agg [A.fl FloatKind.f32 x0, A.fl FloatKind.f32 x1], V.at (A.fl FloatKind.f32 x2)], [] => some (Pure.impl_BackState_ok F x0 x1 x2, ⟨V.tup [(true, [A.fl FloatKind.f32 (Pure.impl_BackState F x0 x1 x2), A.fl FloatKind.f32 (Pure.impl_BackState_1 F x0 x1 x2)]), (false, [A.bool (Pure.impl_stateOk F x0 x1 x2)])], none, []⟩)
  | _, _ => none
theorem e_impl_BackState (F : FOps) (x0 : Int) (x1 : Int) (x2 : Int) : Pure.impl_BackState_ok F x0 x1 x2 = true → evFn (cxS F tyl [(59, c_impl_stateOk F), (55, c_impl_wrapped F), (63, c_impl_SineTurns F), (56, c_impl_kicked F)] [] [] 0) Try.f25 false [V.agg [A.fl FloatKind.f32 x0, A.fl FloatKind.f32 x1], V.at (A.fl FloatKind.f32 x2)] [] = some ⟨V.tup [(true, [A.fl FloatKind.f32 (Pure.impl_BackState F x0 x1 x2), A.fl FloatKind.f32 (Pure.impl_BackState_1 F x0 x1 x2)]), (false, [A.bool (Pure.impl_stateOk F x0 x1 x2)])], none, []⟩ := by
  have h0 : evFn (cxS F tyl [(59, c_impl_stateOk F), (55, c_impl_wrapped F), (63, c_impl_SineTurns F), (56, c_impl_kicked F)] [] [] 0) Try.f25 false [V.agg [A.fl FloatKind.f32 x0, A.fl FloatKind.f32 x1], V.at (A.fl FloatKind.f32 x2)] [] = bif Bool.not (Pure.impl_stateOk F x0 x1 x2) then some ⟨V.tup [(true, [A.fl FloatKind.f32 0, A.fl FloatKind.f32 0]), (false, [A.bool false])], none, []⟩ else bif Pure.impl_wrapped_ok F (FOps.bin F BinOp.sub FloatKind.f32 x0 x1) then bif Pure.impl_SineTurns_ok F (Pure.impl_WrapTurn F (FOps.bin F BinOp.sub FloatKind.f32 x0 x1)) then bif Pure.impl_kicked_ok F (FOps.bin F BinOp.sub FloatKind.f32 x1 (FOps.bin F BinOp.mul FloatKind.f32 x2 (Pure.impl_SineTurns F (Pure.impl_WrapTurn F (FOps.bin F BinOp.sub FloatKind.f32 x0 x1))))) then some ⟨V.tup [(true, [A.fl FloatKind.f32 (Pure.impl_WrapTurn F (FOps.bin F BinOp.sub FloatKind.f32 x0 x1)), A.fl FloatKind.f32 (Pure.impl_WrapKick F (FOps.bin F BinOp.sub FloatKind.f32 x1 (FOps.bin F BinOp.mul FloatKind.f32 x2 (Pure.impl_SineTurns F (Pure.impl_WrapTurn F (FOps.bin F BinOp.sub FloatKind.f32 x0 x1))))))]), (false, [A.bool true])], none, []⟩ else none else none else none := by kernel_rfl
  rw [h0]
  unfold Pure.impl_BackState Pure.impl_BackState_1 Pure.impl_BackState_ok
  cases (Pure.impl_stateOk F x0 x1 x2) with
  | true =>
    cases (Pure.impl_wrapped_ok F (FOps.bin F BinOp.sub FloatKind.f32 x0 x1)) with
    | true =>
      cases (Pure.impl_SineTurns_ok F (Pure.impl_WrapTurn F (FOps.bin F BinOp.sub FloatKind.f32 x0 x1))) with
      | true =>
        cases (Pure.impl_kicked_ok F (FOps.bin F BinOp.sub FloatKind.f32 x1 (FOps.bin F BinOp.mul FloatKind.f32 x2 (Pure.impl_SineTurns F (Pure.impl_WrapTurn F (FOps.bin F BinOp.sub FloatKind.f32 x0 x1)))))) with
        | true =>
          intro _; rfl
        | false =>
          intro h; exact absurd h Bool.false_ne_true
      | false =>
        intro h; exact absurd h Bool.false_ne_true
    | false =>
      intro h; exact absurd h Bool.false_ne_true
  | false =>
    intro _; rfl
theorem ok_impl_BackState : CallOK Try.prog 25 (c_impl_BackState real) := by
  refine callOK_of fun args h ret hc => ?_
  unfold c_impl_BackState at hc
  split at hc
  · rename_i x0 x1 x2
    obtain ⟨hok, rfl⟩ := some_ret hc
    exact holds_ev prog_ok (allOK_cons ok_impl_stateOk (allOK_cons ok_impl_wrapped (allOK_cons ok_impl_SineTurns (allOK_cons ok_impl_kicked allOK_nil)))) Try.func25 rfl rfl smL_nil rfl (e_impl_BackState real x0 x1 x2 hok)
  · cases hc
def Pure.laws_FnExactBackState (F : FOps) (x0 : Int) (x1 : Int) (x2 : Int) : Bool := bif Pure.laws_eqState F (Pure.impl_BackState F x0 x1 x2) (Pure.impl_BackState_1 F x0 x1 x2) (Pure.spec_BackState F x0 x1 x2) (Pure.spec_BackState_1 F x0 x1 x2) then (Pure.impl_stateOk F x0 x1 x2) == (Pure.spec_BackState_2 F x0 x1 x2) else false
def Pure.laws_FnExactBackState_ok (F : FOps) (x0 : Int) (x1 : Int) (x2 : Int) : Bool := bif Pure.spec_BackState_ok F x0 x1 x2 then bif Pure.impl_BackState_ok F x0 x1 x2 then Pure.laws_eqState_ok F (Pure.impl_BackState F x0 x1 x2) (Pure.impl_BackState_1 F x0 x1 x2) (Pure.spec_BackState F x0 x1 x2) (Pure.spec_BackState_1 F x0 x1 x2) else false else false
def c_laws_FnExactBackState (F : FOps) : Con
  | [V.agg [A.fl FloatKind.f32 x0, A.fl FloatKind.f32 x1], V.at (A.fl FloatKind.f32 x2)], [] => some (Pure.laws_FnExactBackState_ok F x0 x1 x2, ⟨V.at (A.bool (Pure.laws_FnExactBackState F x0 x1 x2)), none, []⟩)
  | _, _ => none
theorem e_laws_FnExactBackState (F : FOps) (x0 : Int) (x1 : Int) (x2 : Int) : Pure.laws_FnExactBackState_ok F x0 x1 x2 = true → evFn (cxS F tyl [(16, c_laws_toState F), (24, c_spec_BackState F), (25, c_impl_BackState F), (18, c_laws_eqState F)] [] [] 0) Try.f5 false [V.agg [A.fl FloatKind.f32 x0, A.fl FloatKind.f32 x1], V.at (A.fl FloatKind.f32 x2)] [] = some ⟨V.at (A.bool (Pure.laws_FnExactBackState F x0 x1 x2)), none, []⟩ := by
  have h0 : evFn (cxS F tyl [(16, c_laws_toState F), (24, c_spec_BackState F), (25, c_impl_BackState F), (18, c_laws_eqState F)] [] [] 0) Try.f5 false [V.agg [A.fl FloatKind.f32 x0, A.fl FloatKind.f32 x1], V.at (A.fl FloatKind.f32 x2)] [] = bif Pure.spec_BackState_ok F x0 x1 x2 then bif Pure.impl_BackState_ok F x0 x1 x2 then bif Pure.laws_eqState_ok F (Pure.impl_BackState F x0 x1 x2) (Pure.impl_BackState_1 F x0 x1 x2) (Pure.spec_BackState F x0 x1 x2) (Pure.spec_BackState_1 F x0 x1 x2) then bif Bool.not (Pure.laws_eqState F (Pure.impl_BackState F x0 x1 x2) (Pure.impl_BackState_1 F x0 x1 x2) (Pure.spec_BackState F x0 x1 x2) (Pure.spec_BackState_1 F x0 x1 x2)) then some ⟨V.at (A.bool false), none, []⟩ else bif Bool.not ((Pure.impl_stateOk F x0 x1 x2) == (Pure.spec_BackState_2 F x0 x1 x2)) then some ⟨V.at (A.bool false), none, []⟩ else some ⟨V.at (A.bool true), none, []⟩ else none else none else none := by kernel_rfl
  rw [h0]
  unfold Pure.laws_FnExactBackState Pure.laws_FnExactBackState_ok
  cases (Pure.spec_BackState_ok F x0 x1 x2) with
  | true =>
    cases (Pure.impl_BackState_ok F x0 x1 x2) with
    | true =>
      cases (Pure.laws_eqState_ok F (Pure.impl_BackState F x0 x1 x2) (Pure.impl_BackState_1 F x0 x1 x2) (Pure.spec_BackState F x0 x1 x2) (Pure.spec_BackState_1 F x0 x1 x2)) with
      | true =>
        cases (Pure.laws_eqState F (Pure.impl_BackState F x0 x1 x2) (Pure.impl_BackState_1 F x0 x1 x2) (Pure.spec_BackState F x0 x1 x2) (Pure.spec_BackState_1 F x0 x1 x2)) with
        | true =>
          cases ((Pure.impl_stateOk F x0 x1 x2) == (Pure.spec_BackState_2 F x0 x1 x2)) with
          | true =>
            intro _; rfl
          | false =>
            intro _; rfl
        | false =>
          intro _; rfl
      | false =>
        intro h; exact absurd h Bool.false_ne_true
    | false =>
      intro h; exact absurd h Bool.false_ne_true
  | false =>
    intro h; exact absurd h Bool.false_ne_true
theorem ok_laws_FnExactBackState : CallOK Try.prog 5 (c_laws_FnExactBackState real) := by
  refine callOK_of fun args h ret hc => ?_
  unfold c_laws_FnExactBackState at hc
  split at hc
  · rename_i x0 x1 x2
    obtain ⟨hok, rfl⟩ := some_ret hc
    exact holds_ev prog_ok (allOK_cons ok_laws_toState (allOK_cons ok_spec_BackState (allOK_cons ok_impl_BackState (allOK_cons ok_laws_eqState allOK_nil)))) Try.func5 rfl rfl smL_nil rfl (e_laws_FnExactBackState real x0 x1 x2 hok)
  · cases hc
def Pure.spec_l07Keep (F : FOps) (x0 : Int) : Bool := bif FOps.cmp F BinOp.geq FloatKind.f32 x0 0 then FOps.cmp F BinOp.leq FloatKind.f32 x0 1065353216 else false
def c_spec_l07Keep (F : FOps) : Con
  | [V.at (A.fl FloatKind.f32 x0)], [] => some (true, ⟨V.at (A.bool (Pure.spec_l07Keep F x0)), none, []⟩)
  | _, _ => none
theorem e_spec_l07Keep (F : FOps) (x0 : Int) : evFn (cxS F tyl [] [] [] 0) Try.f66 false [V.at (A.fl FloatKind.f32 x0)] [] = some ⟨V.at (A.bool (Pure.spec_l07Keep F x0)), none, []⟩ := by
  have h0 : evFn (cxS F tyl [] [] [] 0) Try.f66 false [V.at (A.fl FloatKind.f32 x0)] [] = bif FOps.cmp F BinOp.geq FloatKind.f32 x0 0 then some ⟨V.at (A.bool (FOps.cmp F BinOp.leq FloatKind.f32 x0 1065353216)), none, []⟩ else some ⟨V.at (A.bool false), none, []⟩ := by kernel_rfl
  rw [h0]
  unfold Pure.spec_l07Keep
  cases (FOps.cmp F BinOp.geq FloatKind.f32 x0 0) with
  | true =>
    rfl
  | false =>
    rfl
theorem ok_spec_l07Keep : CallOK Try.prog 66 (c_spec_l07Keep real) := by
  refine callOK_of fun args h ret hc => ?_
  unfold c_spec_l07Keep at hc
  split at hc
  · rename_i x0
    obtain ⟨_, rfl⟩ := some_ret hc
    exact holds_ev prog_ok allOK_nil Try.func66 rfl rfl smL_nil rfl (e_spec_l07Keep real x0)
  · cases hc
def Pure.spec_l07Damp (F : FOps) (x0 : Int) (x1 : Int) (x2 : Int) (x3 : Int) : Int := Pure.spec_l05Wrap F (FOps.bin F BinOp.add FloatKind.f32 x0 (Pure.spec_l07Kick F (FOps.bin F BinOp.add FloatKind.f32 (FOps.bin F BinOp.mul FloatKind.f32 x3 x1) (FOps.bin F BinOp.mul FloatKind.f32 x2 (Pure.spec_l01Sine F x0)))))
def Pure.spec_l07Damp_1 (F : FOps) (x0 : Int) (x1 : Int) (x2 : Int) (x3 : Int) : Int := Pure.spec_l07Kick F (FOps.bin F BinOp.add FloatKind.f32 (FOps.bin F BinOp.mul FloatKind.f32 x3 x1) (FOps.bin F BinOp.mul FloatKind.f32 x2 (Pure.spec_l01Sine F x0)))
def Pure.spec_l07Damp_ok (F : FOps) (x0 : Int) (x1 : Int) (x2 : Int) (x3 : Int) : Bool := bif Pure.spec_l01Sine_ok F x0 then bif Pure.spec_l07Kick_ok F (FOps.bin F BinOp.add FloatKind.f32 (FOps.bin F BinOp.mul FloatKind.f32 x3 x1) (FOps.bin F BinOp.mul FloatKind.f32 x2 (Pure.spec_l01Sine F x0))) then Pure.spec_l05Wrap_ok F (FOps.bin F BinOp.add FloatKind.f32 x0 (Pure.spec_l07Kick F (FOps.bin F BinOp.add FloatKind.f32 (FOps.bin F BinOp.mul FloatKind.f32 x3 x1) (FOps.bin F BinOp.mul FloatKind.f32 x2 (Pure.spec_l01Sine F x0))))) else false else false
def c_spec_l07Damp (F : FOps) : Con
  | [V.agg [A.fl FloatKind.f32 x0, A.fl FloatKind.f32 x1], V.at (A.fl FloatKind.f32 x2), V.at (A.fl FloatKind.f32 x3)], [] => some (Pure.spec_l07Damp_ok F x0 x1 x2 x3, ⟨V.agg [A.fl FloatKind.f32 (Pure.spec_l07Damp F x0 x1 x2 x3), A.fl FloatKind.f32 (Pure.spec_l07Damp_1 F x0 x1 x2 x3)], none, []⟩)
  | _, _ => none
theorem e_spec_l07Damp (F : FOps) (x0 : Int) (x1 : Int) (x2 : Int) (x3 : Int) : Pure.spec_l07Damp_ok F x0 x1 x2 x3 = true → evFn (cxS F tyl [(62, c_spec_l01Sine F), (53, c_spec_l07Kick F), (52, c_spec_l05Wrap F)] [] [] 0) Try.f67 false [V.agg [A.fl FloatKind.f32 x0, A.fl FloatKind.f32 x1], V.at (A.fl FloatKind.f32 x2), V.at (A.fl FloatKind.f32 x3)] [] = some ⟨V.agg [A.fl FloatKind.f32 (Pure.spec_l07Damp F x0 x1 x2 x3), A.fl FloatKind.f32 (Pure.spec_l07Damp_1 F x0 x1 x2 x3)], none, []⟩ := by
  have h0 : evFn (cxS F tyl [(62, c_spec_l01Sine F), (53, c_spec_l07Kick F), (52, c_spec_l05Wrap F)] [] [] 0) Try.f67 false [V.agg [A.fl FloatKind.f32 x0, A.fl FloatKind.f32 x1], V.at (A.fl FloatKind.f32 x2), V.at (A.fl FloatKind.f32 x3)] [] = bif Pure.spec_l01Sine_ok F x0 then bif Pure.spec_l07Kick_ok F (FOps.bin F BinOp.add FloatKind.f32 (FOps.bin F BinOp.mul FloatKind.f32 x3 x1) (FOps.bin F BinOp.mul FloatKind.f32 x2 (Pure.spec_l01Sine F x0))) then bif Pure.spec_l05Wrap_ok F (FOps.bin F BinOp.add FloatKind.f32 x0 (Pure.spec_l07Kick F (FOps.bin F BinOp.add FloatKind.f32 (FOps.bin F BinOp.mul FloatKind.f32 x3 x1) (FOps.bin F BinOp.mul FloatKind.f32 x2 (Pure.spec_l01Sine F x0))))) then some ⟨V.agg [A.fl FloatKind.f32 (Pure.spec_l05Wrap F (FOps.bin F BinOp.add FloatKind.f32 x0 (Pure.spec_l07Kick F (FOps.bin F BinOp.add FloatKind.f32 (FOps.bin F BinOp.mul FloatKind.f32 x3 x1) (FOps.bin F BinOp.mul FloatKind.f32 x2 (Pure.spec_l01Sine F x0)))))), A.fl FloatKind.f32 (Pure.spec_l07Kick F (FOps.bin F BinOp.add FloatKind.f32 (FOps.bin F BinOp.mul FloatKind.f32 x3 x1) (FOps.bin F BinOp.mul FloatKind.f32 x2 (Pure.spec_l01Sine F x0))))], none, []⟩ else none else none else none := by kernel_rfl
  rw [h0]
  unfold Pure.spec_l07Damp Pure.spec_l07Damp_1 Pure.spec_l07Damp_ok
  cases (Pure.spec_l01Sine_ok F x0) with
  | true =>
    cases (Pure.spec_l07Kick_ok F (FOps.bin F BinOp.add FloatKind.f32 (FOps.bin F BinOp.mul FloatKind.f32 x3 x1) (FOps.bin F BinOp.mul FloatKind.f32 x2 (Pure.spec_l01Sine F x0)))) with
    | true =>
      cases (Pure.spec_l05Wrap_ok F (FOps.bin F BinOp.add FloatKind.f32 x0 (Pure.spec_l07Kick F (FOps.bin F BinOp.add FloatKind.f32 (FOps.bin F BinOp.mul FloatKind.f32 x3 x1) (FOps.bin F BinOp.mul FloatKind.f32 x2 (Pure.spec_l01Sine F x0)))))) with
      | true =>
        intro _; rfl
      | false =>
        intro h; exact absurd h Bool.false_ne_true
    | false =>
      intro h; exact absurd h Bool.false_ne_true
  | false =>
    intro h; exact absurd h Bool.false_ne_true
theorem ok_spec_l07Damp : CallOK Try.prog 67 (c_spec_l07Damp real) := by
  refine callOK_of fun args h ret hc => ?_
  unfold c_spec_l07Damp at hc
  split at hc
  · rename_i x0 x1 x2 x3
    obtain ⟨hok, rfl⟩ := some_ret hc
    exact holds_ev prog_ok (allOK_cons ok_spec_l01Sine (allOK_cons ok_spec_l07Kick (allOK_cons ok_spec_l05Wrap allOK_nil))) Try.func67 rfl rfl smL_nil rfl (e_spec_l07Damp real x0 x1 x2 x3 hok)
  · cases hc
def Pure.spec_DampState (F : FOps) (x0 : Int) (x1 : Int) (x2 : Int) (x3 : Int) : Int := bif Pure.spec_l07Is F x0 x1 then bif Pure.spec_l07Size F x2 then bif Pure.spec_l07Keep F x3 then Pure.spec_l07Damp F x0 x1 x2 x3 else 0 else 0 else 0
def Pure.spec_DampState_1 (F : FOps) (x0 : Int) (x1 : Int) (x2 : Int) (x3 : Int) : Int := bif Pure.spec_l07Is F x0 x1 then bif Pure.spec_l07Size F x2 then bif Pure.spec_l07Keep F x3 then Pure.spec_l07Damp_1 F x0 x1 x2 x3 else 0 else 0 else 0
def Pure.spec_DampState_2 (F : FOps) (x0 : Int) (x1 : Int) (x2 : Int) (x3 : Int) : Bool := bif Pure.spec_l07Is F x0 x1 then bif Pure.spec_l07Size F x2 then Pure.spec_l07Keep F x3 else false else false
def Pure.spec_DampState_ok (F : FOps) (x0 : Int) (x1 : Int) (x2 : Int) (x3 : Int) : Bool := bif Pure.spec_l07Is F x0 x1 then bif Pure.spec_l07Size F x2 then bif Pure.spec_l07Keep F x3 then Pure.spec_l07Damp_ok F x0 x1 x2 x3 else true else true else true
def c_spec_DampState (F : FOps) : Con
  | [V.agg [A.fl FloatKind.f32 x0, A.fl FloatKind.f32 x1], V.at (A.fl FloatKind.f32 x2), V.at (A.fl FloatKind.f32 x3)], [] => some (Pure.spec_DampState_ok F x0 x1 x2 x3, ⟨V.tup [(true, [A.fl FloatKind.f32 (Pure.spec_DampState F x0 x1 x2 x3), A.fl FloatKind.f32 (Pure.spec_DampState_1 F x0 x1 x2 x3)]), (false, [A.bool (Pure.spec_DampState_2 F x0 x1 x2 x3)])], none, []⟩)
  | _, _ => none
theorem e_spec_DampState (F : FOps) (x0 : Int) (x1 : Int) (x2 : Int) (x3 : Int) : Pure.spec_DampState_ok F x0 x1 x2 x3 = true → evFn (cxS F tyl [(51, c_spec_l07Is F), (57, c_spec_l07Size F), (66, c_spec_l07Keep F), (67, c_spec_l07Damp F)] [] [] 0) Try.f28 false [V.agg [A.fl FloatKind.f32 x0, A.fl FloatKind.f32 x1], V.at (A.fl FloatKind.f32 x2), V.at (A.fl FloatKind.f32 x3)] [] = some ⟨V.tup [(true, [A.fl FloatKind.f32 (Pure.spec_DampState F x0 x1 x2 x3), A.fl FloatKind.f32 (Pure.spec_DampState_1 F x0 x1 x2 x3)]), (false, [A.bool (Pure.spec_DampState_2 F x0 x1 x2 x3)])], none, []⟩ := by
  have h0 : evFn (cxS F tyl [(51, c_spec_l07Is F), (57, c_spec_l07Size F), (66, c_spec_l07Keep F), (67, c_spec_l07Damp F)] [] [] 0) Try.f28 false [V.agg [A.fl FloatKind.f32 x0, A.fl FloatKind.f32 x1], V.at (A.fl FloatKind.f32 x2), V.at (A.fl FloatKind.f32 x3)] [] = bif Bool.not (Pure.spec_l07Is F x0 x1) then some ⟨V.tup [(true, [A.fl FloatKind.f32 0, A.fl FloatKind.f32 0]), (false, [A.bool false])], none, []⟩ else bif Bool.not (Pure.spec_l07Size F x2) then some ⟨V.tup [(true, [A.fl FloatKind.f32 0, A.fl FloatKind.f32 0]), (false, [A.bool false])], none, []⟩ else bif Bool.not (Pure.spec_l07Keep F x3) then some ⟨V.tup [(true, [A.fl FloatKind.f32 0, A.fl FloatKind.f32 0]), (false, [A.bool false])], none, []⟩ else bif Pure.spec_l07Damp_ok F x0 x1 x2 x3 then some ⟨V.tup [(true, [A.fl FloatKind.f32 (Pure.spec_l07Damp F x0 x1 x2 x3), A.fl FloatKind.f32 (Pure.spec_l07Damp_1 F x0 x1 x2 x3)]), (false, [A.bool true])], none, []⟩ else none := by kernel_rfl
  rw [h0]
  unfold Pure.spec_DampState Pure.spec_DampState_1 Pure.spec_DampState_2 Pure.spec_DampState_ok
  cases (Pure.spec_l07Is F x0 x1) with
  | true =>
    cases (Pure.spec_l07Size F x2) with
    | true =>
      cases (Pure.spec_l07Keep F x3) with
      | true =>
        cases (Pure.spec_l07Damp_ok F x0 x1 x2 x3) with
        | true =>
          intro _; rfl
        | false =>
          intro h; exact absurd h Bool.false_ne_true
      | false =>
        intro _; rfl
    | false =>
      intro _; rfl
  | false =>
    intro _; rfl
theorem ok_spec_DampState : CallOK Try.prog 28 (c_spec_DampState real) := by
  refine callOK_of fun args h ret hc => ?_
  unfold c_spec_DampState at hc
  split at hc
  · rename_i x0 x1 x2 x3
    obtain ⟨hok, rfl⟩ := some_ret hc
    exact holds_ev prog_ok (allOK_cons ok_spec_l07Is (allOK_cons ok_spec_l07Size (allOK_cons ok_spec_l07Keep (allOK_cons ok_spec_l07Damp allOK_nil)))) Try.func28 rfl rfl smL_nil rfl (e_spec_DampState real x0 x1 x2 x3 hok)
  · cases hc
def Pure.impl_shareOk (F : FOps) (x0 : Int) : Bool := bif FOps.cmp F BinOp.geq FloatKind.f32 x0 0 then FOps.cmp F BinOp.leq FloatKind.f32 x0 1065353216 else false
def c_impl_shareOk (F : FOps) : Con
  | [V.at (A.fl FloatKind.f32 x0)], [] => some (true, ⟨V.at (A.bool (Pure.impl_shareOk F x0)), none, []⟩)
  | _, _ => none
theorem e_impl_shareOk (F : FOps) (x0 : Int) : evFn (cxS F tyl [] [] [] 0) Try.f68 false [V.at (A.fl FloatKind.f32 x0)] [] = some ⟨V.at (A.bool (Pure.impl_shareOk F x0)), none, []⟩ := by
  have h0 : evFn (cxS F tyl [] [] [] 0) Try.f68 false [V.at (A.fl FloatKind.f32 x0)] [] = bif FOps.cmp F BinOp.geq FloatKind.f32 x0 0 then some ⟨V.at (A.bool (FOps.cmp F BinOp.leq FloatKind.f32 x0 1065353216)), none, []⟩ else some ⟨V.at (A.bool false), none, []⟩ := by kernel_rfl
  rw [h0]
  unfold Pure.impl_shareOk
  cases (FOps.cmp F BinOp.geq FloatKind.f32 x0 0) with
  | true =>
    rfl
  | false =>
    rfl
theorem ok_impl_shareOk : CallOK Try.prog 68 (c_impl_shareOk real) := by
  refine callOK_of fun args h ret hc => ?_
  unfold c_impl_shareOk at hc
  split at hc
  · rename_i x0
    obtain ⟨_, rfl⟩ := some_ret hc
    exact holds_ev prog_ok allOK_nil Try.func68 rfl rfl smL_nil rfl (e_impl_shareOk real x0)
  · cases hc
def Pure.impl_DampState (F : FOps) (x0 : Int) (x1 : Int) (x2 : Int) (x3 : Int) : Int := bif Pure.impl_stateOk F x0 x1 x2 then bif Pure.impl_shareOk F x3 then Pure.impl_State_damped F x0 x1 x2 x3 else 0 else 0
def Pure.impl_DampState_1 (F : FOps) (x0 : Int) (x1 : Int) (x2 : Int) (x3 : Int) : Int := bif Pure.impl_stateOk F x0 x1 x2 then bif Pure.impl_shareOk F x3 then Pure.impl_State_damped_1 F x0 x1 x2 x3 else 0 else 0
def Pure.impl_DampState_2 (F : FOps) (x0 : Int) (x1 : Int) (x2 : Int) (x3 : Int) : Bool := bif Pure.impl_stateOk F x0 x1 x2 then Pure.impl_shareOk F x3 else false
def Pure.impl_DampState_ok (F : FOps) (x0 : Int) (x1 : Int) (x2 : Int) (x3 : Int) : Bool := bif Pure.impl_stateOk F x0 x1 x2 then bif Pure.impl_shareOk F x3 then Pure.impl_State_damped_ok F x0 x1 x2 x3 else true else true
def c_impl_DampState (F : FOps) : Con
  | [V.agg [A.fl FloatKind.f32 x0, A.fl FloatKind.f32 x1], V.at (A.fl FloatKind.f32 x2), V.at (A.fl FloatKind.f32 x3)], [] => some (Pure.impl_DampState_ok F x0 x1 x2 x3, ⟨V.tup [(true, [A.fl FloatKind.f32 (Pure.impl_DampState F x0 x1 x2 x3), A.fl FloatKind.f32 (Pure.impl_DampState_1 F x0 x1 x2 x3)]), (false, [A.bool (Pure.impl_DampState_2 F x0 x1 x2 x3)])], none, []⟩)
  | _, _ => none
theorem e_impl_DampState (F : FOps) (x0 : Int) (x1 : Int) (x2 : Int) (x3 : Int) : Pure.impl_DampState_ok F x0 x1 x2 x3 = true → evFn (cxS F tyl [(59, c_impl_stateOk F), (68, c_impl_shareOk F), (69, c_impl_State_damped F)] [] [] 0) Try.f29 false [V.agg [A.fl FloatKind.f32 x0, A.fl FloatKind.f32 x1], V.at (A.fl FloatKind.f32 x2), V.at (A.fl FloatKind.f32 x3)] [] = some ⟨V.tup [(true, [A.fl FloatKind.f32 (Pure.impl_DampState F x0 x1 x2 x3), A.fl FloatKind.f32 (Pure.impl_DampState_1 F x0 x1 x2 x3)]), (false, [A.bool (Pure.impl_DampState_2 F x0 x1 x2 x3)])], none, []⟩ := by
  have h0 : evFn (cxS F tyl [(59, c_impl_stateOk F), (68, c_impl_shareOk F), (69, c_impl_State_damped F)] [] [] 0) Try.f29 false [V.agg [A.fl FloatKind.f32 x0, A.fl FloatKind.f32 x1], V.at (A.fl FloatKind.f32 x2), V.at (A.fl FloatKind.f32 x3)] [] = bif Bool.not (Pure.impl_stateOk F x0 x1 x2) then some ⟨V.tup [(true, [A.fl FloatKind.f32 0, A.fl FloatKind.f32 0]), (false, [A.bool false])], none, []⟩ else bif Bool.not (Pure.impl_shareOk F x3) then some ⟨V.tup [(true, [A.fl FloatKind.f32 0, A.fl FloatKind.f32 0]), (false, [A.bool false])], none, []⟩ else bif Pure.impl_State_damped_ok F x0 x1 x2 x3 then some ⟨V.tup [(true, [A.fl FloatKind.f32 (Pure.impl_State_damped F x0 x1 x2 x3), A.fl FloatKind.f32 (Pure.impl_State_damped_1 F x0 x1 x2 x3)]), (false, [A.bool true])], none, []⟩ else none := by kernel_rfl
  rw [h0]
  unfold Pure.impl_DampState Pure.impl_DampState_1 Pure.impl_DampState_2 Pure.impl_DampState_ok
  cases (Pure.impl_stateOk F x0 x1 x2) with
  | true =>
    cases (Pure.impl_shareOk F x3) with
    | true =>
      cases (Pure.impl_State_damped_ok F x0 x1 x2 x3) with
      | true =>
        intro _; rfl
      | false =>
        intro h; exact absurd h Bool.false_ne_true
    | false =>
      intro _; rfl
  | false =>
    intro _; rfl
theorem ok_impl_DampState : CallOK Try.prog 29 (c_impl_DampState real) := by
  refine callOK_of fun args h ret hc => ?_
  unfold c_impl_DampState at hc
  split at hc
  · rename_i x0 x1 x2 x3
    obtain ⟨hok, rfl⟩ := some_ret hc
    exact holds_ev prog_ok (allOK_cons ok_impl_stateOk (allOK_cons ok_impl_shareOk (allOK_cons ok_impl_State_damped allOK_nil))) Try.func29 rfl rfl smL_nil rfl (e_impl_DampState real x0 x1 x2 x3 hok)
  · cases hc
def Pure.laws_FnExactDampState (F : FOps) (x0 : Int) (x1 : Int) (x2 : Int) (x3 : Int) : Bool := bif Pure.laws_eqState F (Pure.impl_DampState F x0 x1 x2 x3) (Pure.impl_DampState_1 F x0 x1 x2 x3) (Pure.spec_DampState F x0 x1 x2 x3) (Pure.spec_DampState_1 F x0 x1 x2 x3) then (Pure.impl_DampState_2 F x0 x1 x2 x3) == (Pure.spec_DampState_2 F x0 x1 x2 x3) else false
def Pure.laws_FnExactDampState_ok (F : FOps) (x0 : Int) (x1 : Int) (x2 : Int) (x3 : Int) : Bool := bif Pure.spec_DampState_ok F x0 x1 x2 x3 then bif Pure.impl_DampState_ok F x0 x1 x2 x3 then Pure.laws_eqState_ok F (Pure.impl_DampState F x0 x1 x2 x3) (Pure.impl_DampState_1 F x0 x1 x2 x3) (Pure.spec_DampState F x0 x1 x2 x3) (Pure.spec_DampState_1 F x0 x1 x2 x3) else false else false
def c_laws_FnExactDampState (F : FOps) : Con
  | [V.agg [A.fl FloatKind.f32 x0, A.fl FloatKind.f32 x1], V.at (A.fl FloatKind.f32 x2), V.at (A.fl FloatKind.f32 x3)], [] => some (Pure.laws_FnExactDampState_ok F x0 x1 x2 x3, ⟨V.at (A.bool (Pure.laws_FnExactDampState F x0 x1 x2 x3)), none, []⟩)
  | _, _ => none
theorem e_laws_FnExactDampState (F : FOps) (x0 : Int) (x1 : Int) (x2 : Int) (x3 : Int) : Pure.laws_FnExactDampState_ok F x0 x1 x2 x3 = true → evFn (cxS F tyl [(16, c_laws_toState F), (28, c_spec_DampState F), (29, c_impl_DampState F), (18, c_laws_eqState F)] [] [] 0) Try.f7 false [V.agg [A.fl FloatKind.f32 x0, A.fl FloatKind.f32 x1], V.at (A.fl FloatKind.f32 x2), V.at (A.fl FloatKind.f32 x3)] [] = some ⟨V.at (A.bool (Pure.laws_FnExactDampState F x0 x1 x2 x3)), none, []⟩ := by
  have h0 : evFn (cxS F tyl [(16, c_laws_toState F), (28, c_spec_DampState F), (29, c_impl_DampState F), (18, c_laws_eqState F)] [] [] 0) Try.f7 false [V.agg [A.fl FloatKind.f32 x0, A.fl FloatKind.f32 x1], V.at (A.fl FloatKind.f32 x2), V.at (A.fl FloatKind.f32 x3)] [] = bif Pure.spec_DampState_ok F x0 x1 x2 x3 then bif Pure.impl_DampState_ok F x0 x1 x2 x3 then bif Pure.laws_eqState_ok F (Pure.impl_DampState F x0 x1 x2 x3) (Pure.impl_DampState_1 F x0 x1 x2 x3) (Pure.spec_DampState F x0 x1 x2 x3) (Pure.spec_DampState_1 F x0 x1 x2 x3) then bif Bool.not (Pure.laws_eqState F (Pure.impl_DampState F x0 x1 x2 x3) (Pure.impl_DampState_1 F x0 x1 x2 x3) (Pure.spec_DampState F x0 x1 x2 x3) (Pure.spec_DampState_1 F x0 x1 x2 x3)) then some ⟨V.at (A.bool false), none, []⟩ else bif Bool.not ((Pure.impl_DampState_2 F x0 x1 x2 x3) == (Pure.spec_DampState_2 F x0 x1 x2 x3)) then some ⟨V.at (A.bool false), none, []⟩ else some ⟨V.at (A.bool true), none, []⟩ else none else none else none := by kernel_rfl
  rw [h0]
  unfold Pure.laws_FnExactDampState Pure.laws_FnExactDampState_ok
  cases (Pure.spec_DampState_ok F x0 x1 x2 x3) with
  | true =>
    cases (Pure.impl_DampState_ok F x0 x1 x2 x3) with
    | true =>
      cases (Pure.laws_eqState_ok F (Pure.impl_DampState F x0 x1 x2 x3) (Pure.impl_DampState_1 F x0 x1 x2 x3) (Pure.spec_DampState F x0 x1 x2 x3) (Pure.spec_DampState_1 F x0 x1 x2 x3)) with
      | true =>
        cases (Pure.laws_eqState F (Pure.impl_DampState F x0 x1 x2 x3) (Pure.impl_DampState_1 F x0 x1 x2 x3) (Pure.spec_DampState F x0 x1 x2 x3) (Pure.spec_DampState_1 F x0 x1 x2 x3)) with
        | true =>
          cases ((Pure.impl_DampState_2 F x0 x1 x2 x3) == (Pure.spec_DampState_2 F x0 x1 x2 x3)) with
          | true =>
            intro _; rfl
          | false =>
            intro _; rfl
        | false =>
          intro _; rfl
      | false =>
        intro h; exact absurd h Bool.false_ne_true
    | false =>
      intro h; exact absurd h Bool.false_ne_true
  | false =>
    intro h; exact absurd h Bool.false_ne_true
theorem ok_laws_FnExactDampState : CallOK Try.prog 7 (c_laws_FnExactDampState real) := by
  refine callOK_of fun args h ret hc => ?_
  unfold c_laws_FnExactDampState at hc
  split at hc
  · rename_i x0 x1 x2 x3
    obtain ⟨hok, rfl⟩ := some_ret hc
    exact holds_ev prog_ok (allOK_cons ok_laws_toState (allOK_cons ok_spec_DampState (allOK_cons ok_impl_DampState (allOK_cons ok_laws_eqState allOK_nil)))) Try.func7 rfl rfl smL_nil rfl (e_laws_FnExactDampState real x0 x1 x2 x3 hok)
  · cases hc
end Go.Fx
