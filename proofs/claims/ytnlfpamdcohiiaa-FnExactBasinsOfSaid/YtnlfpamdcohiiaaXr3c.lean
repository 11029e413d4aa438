import Derived.Test.YtnlfpamdcohiiaaXr3s
import Derived.KernelRfl
namespace Go.Fx
open Go.Proofs
set_option maxRecDepth 100000
def Pure.spec_l07Size (F : FOps) (x0 : Int) : Bool := bif F.cmp .geq .f32 x0 3229614080 then F.cmp .leq .f32 x0 1082130432 else false
def c_spec_l07Size (F : FOps) : Con
  | [V.at (A.fl .f32 x0)], [] => some (true, ⟨V.at (A.bool (Pure.spec_l07Size F x0)), none, []⟩)
  | _, _ => none
theorem e_spec_l07Size (F : FOps) (x0 : Int) : evFn (cxS F tyl [] [] [] 0) Try.f57 false [V.at (A.fl .f32 x0)] [] = some ⟨V.at (A.bool (Pure.spec_l07Size F x0)), none, []⟩ := by
  have h0 : evFn (cxS F tyl [] [] [] 0) Try.f57 false [V.at (A.fl .f32 x0)] [] = bif F.cmp .geq .f32 x0 3229614080 then some ⟨V.at (A.bool (F.cmp .leq .f32 x0 1082130432)), none, []⟩ else some ⟨V.at (A.bool false), none, []⟩ := by kernel_rfl
  rw [h0]
  unfold Pure.spec_l07Size
  cases (F.cmp .geq .f32 x0 3229614080) with
  | true =>
    rfl
  | false =>
    rfl
theorem ok_spec_l07Size : CallOK Try.prog 57 (c_spec_l07Size real) := by
  refine callOK_of fun args h ret hc => ?_
  unfold c_spec_l07Size at hc
  split at hc
  · rename_i x0
    obtain ⟨_, rfl⟩ := some_ret hc
    exact holds_ev prog_ok allOK_nil Try.func57 rfl rfl smL_nil rfl (e_spec_l07Size real x0)
  · cases hc
def Pure.impl_sizeOk (F : FOps) (x0 : Int) : Bool := bif F.cmp .geq .f32 x0 3229614080 then F.cmp .leq .f32 x0 1082130432 else false
def c_impl_sizeOk (F : FOps) : Con
  | [V.at (A.fl .f32 x0)], [] => some (true, ⟨V.at (A.bool (Pure.impl_sizeOk F x0)), none, []⟩)
  | _, _ => none
theorem e_impl_sizeOk (F : FOps) (x0 : Int) : evFn (cxS F tyl [] [] [] 0) Try.f92 false [V.at (A.fl .f32 x0)] [] = some ⟨V.at (A.bool (Pure.impl_sizeOk F x0)), none, []⟩ := by
  have h0 : evFn (cxS F tyl [] [] [] 0) Try.f92 false [V.at (A.fl .f32 x0)] [] = bif F.cmp .geq .f32 x0 3229614080 then some ⟨V.at (A.bool (F.cmp .leq .f32 x0 1082130432)), none, []⟩ else some ⟨V.at (A.bool false), none, []⟩ := by kernel_rfl
  rw [h0]
  unfold Pure.impl_sizeOk
  cases (F.cmp .geq .f32 x0 3229614080) with
  | true =>
    rfl
  | false =>
    rfl
theorem ok_impl_sizeOk : CallOK Try.prog 92 (c_impl_sizeOk real) := by
  refine callOK_of fun args h ret hc => ?_
  unfold c_impl_sizeOk at hc
  split at hc
  · rename_i x0
    obtain ⟨_, rfl⟩ := some_ret hc
    exact holds_ev prog_ok allOK_nil Try.func92 rfl rfl smL_nil rfl (e_impl_sizeOk real x0)
  · cases hc
def Pure.impl_State_damped (F : FOps) (x0 x1 x2 x3 : Int) : Int := Pure.impl_WrapTurn F (F.bin .add .f32 x0 (Pure.impl_WrapKick F (F.bin .add .f32 (F.bin .mul .f32 x3 x1) (F.bin .mul .f32 x2 (Pure.impl_SineTurns F x0)))))
def Pure.impl_State_damped_1 (F : FOps) (x0 x1 x2 x3 : Int) : Int := Pure.impl_WrapKick F (F.bin .add .f32 (F.bin .mul .f32 x3 x1) (F.bin .mul .f32 x2 (Pure.impl_SineTurns F x0)))
def Pure.impl_State_damped_ok (F : FOps) (x0 x1 x2 x3 : Int) : Bool := bif Pure.impl_SineTurns_ok F x0 then bif Pure.impl_kicked_ok F (F.bin .add .f32 (F.bin .mul .f32 x3 x1) (F.bin .mul .f32 x2 (Pure.impl_SineTurns F x0))) then Pure.impl_wrapped_ok F (F.bin .add .f32 x0 (Pure.impl_WrapKick F (F.bin .add .f32 (F.bin .mul .f32 x3 x1) (F.bin .mul .f32 x2 (Pure.impl_SineTurns F x0))))) else false else false
def c_impl_State_damped (F : FOps) : Con
  | [V.agg [A.fl .f32 x0, A.fl .f32 x1], V.at (A.fl .f32 x2), V.at (A.fl .f32 x3)], [] => some (Pure.impl_State_damped_ok F x0 x1 x2 x3, ⟨V.agg [A.fl .f32 (Pure.impl_State_damped F x0 x1 x2 x3), A.fl .f32 (Pure.impl_State_damped_1 F x0 x1 x2 x3)], none, []⟩)
  | _, _ => none
theorem e_impl_State_damped (F : FOps) (x0 x1 x2 x3 : Int) : Pure.impl_State_damped_ok F x0 x1 x2 x3 = true → evFn (cxS F tyl [(63, c_impl_SineTurns F), (56, c_impl_kicked F), (55, c_impl_wrapped F)] [] [] 0) Try.f69 false [V.agg [A.fl .f32 x0, A.fl .f32 x1], V.at (A.fl .f32 x2), V.at (A.fl .f32 x3)] [] = some ⟨V.agg [A.fl .f32 (Pure.impl_State_damped F x0 x1 x2 x3), A.fl .f32 (Pure.impl_State_damped_1 F x0 x1 x2 x3)], none, []⟩ := by
  have h0 : evFn (cxS F tyl [(63, c_impl_SineTurns F), (56, c_impl_kicked F), (55, c_impl_wrapped F)] [] [] 0) Try.f69 false [V.agg [A.fl .f32 x0, A.fl .f32 x1], V.at (A.fl .f32 x2), V.at (A.fl .f32 x3)] [] = bif Pure.impl_SineTurns_ok F x0 then bif Pure.impl_kicked_ok F (F.bin .add .f32 (F.bin .mul .f32 x3 x1) (F.bin .mul .f32 x2 (Pure.impl_SineTurns F x0))) then bif Pure.impl_wrapped_ok F (F.bin .add .f32 x0 (Pure.impl_WrapKick F (F.bin .add .f32 (F.bin .mul .f32 x3 x1) (F.bin .mul .f32 x2 (Pure.impl_SineTurns F x0))))) then some ⟨V.agg [A.fl .f32 (Pure.impl_WrapTurn F (F.bin .add .f32 x0 (Pure.impl_WrapKick F (F.bin .add .f32 (F.bin .mul .f32 x3 x1) (F.bin .mul .f32 x2 (Pure.impl_SineTurns F x0)))))), A.fl .f32 (Pure.impl_WrapKick F (F.bin .add .f32 (F.bin .mul .f32 x3 x1) (F.bin .mul .f32 x2 (Pure.impl_SineTurns F x0))))], none, []⟩ else none else none else none := by kernel_rfl
  rw [h0]
  unfold Pure.impl_State_damped Pure.impl_State_damped_1 Pure.impl_State_damped_ok
  cases (Pure.impl_SineTurns_ok F x0) with
  | true =>
    cases (Pure.impl_kicked_ok F (F.bin .add .f32 (F.bin .mul .f32 x3 x1) (F.bin .mul .f32 x2 (Pure.impl_SineTurns F x0)))) with
    | true =>
      cases (Pure.impl_wrapped_ok F (F.bin .add .f32 x0 (Pure.impl_WrapKick F (F.bin .add .f32 (F.bin .mul .f32 x3 x1) (F.bin .mul .f32 x2 (Pure.impl_SineTurns F x0)))))) with
      | true =>
        intro _; rfl
      | false =>
        intro h; exact absurd h Bool.false_ne_true
    | false =>
      intro h; exact absurd h Bool.false_ne_true
  | false =>
    intro h; exact absurd h Bool.false_ne_true
theorem ok_impl_State_damped : CallOK Try.prog 69 (c_impl_State_damped real) := by
  refine callOK_of fun args h ret hc => ?_
  unfold c_impl_State_damped at hc
  split at hc
  · rename_i x0 x1 x2 x3
    obtain ⟨hok, rfl⟩ := some_ret hc
    exact holds_ev prog_ok (allOK_cons ok_impl_SineTurns (allOK_cons ok_impl_kicked (allOK_cons ok_impl_wrapped allOK_nil))) Try.func69 rfl rfl smL_nil rfl (e_impl_State_damped real x0 x1 x2 x3 hok)
  · cases hc
def Pure.spec_l07Keep (F : FOps) (x0 : Int) : Bool := bif F.cmp .geq .f32 x0 0 then F.cmp .leq .f32 x0 1065353216 else false
def c_spec_l07Keep (F : FOps) : Con
  | [V.at (A.fl .f32 x0)], [] => some (true, ⟨V.at (A.bool (Pure.spec_l07Keep F x0)), none, []⟩)
  | _, _ => none
theorem e_spec_l07Keep (F : FOps) (x0 : Int) : evFn (cxS F tyl [] [] [] 0) Try.f66 false [V.at (A.fl .f32 x0)] [] = some ⟨V.at (A.bool (Pure.spec_l07Keep F x0)), none, []⟩ := by
  have h0 : evFn (cxS F tyl [] [] [] 0) Try.f66 false [V.at (A.fl .f32 x0)] [] = bif F.cmp .geq .f32 x0 0 then some ⟨V.at (A.bool (F.cmp .leq .f32 x0 1065353216)), none, []⟩ else some ⟨V.at (A.bool false), none, []⟩ := by kernel_rfl
  rw [h0]
  unfold Pure.spec_l07Keep
  cases (F.cmp .geq .f32 x0 0) with
  | true =>
    rfl
  | false =>
    rfl
theorem ok_spec_l07Keep : CallOK Try.prog 66 (c_spec_l07Keep real) := by
  refine callOK_of fun args h ret hc => ?_
  unfold c_spec_l07Keep at hc
  split at hc
  · rename_i x0
    obtain ⟨_, rfl⟩ := some_ret hc
    exact holds_ev prog_ok allOK_nil Try.func66 rfl rfl smL_nil rfl (e_spec_l07Keep real x0)
  · cases hc
def Pure.spec_l07Damp (F : FOps) (x0 x1 x2 x3 : Int) : Int := Pure.spec_l05Wrap F (F.bin .add .f32 x0 (Pure.spec_l07Kick F (F.bin .add .f32 (F.bin .mul .f32 x3 x1) (F.bin .mul .f32 x2 (Pure.spec_l01Sine F x0)))))
def Pure.spec_l07Damp_1 (F : FOps) (x0 x1 x2 x3 : Int) : Int := Pure.spec_l07Kick F (F.bin .add .f32 (F.bin .mul .f32 x3 x1) (F.bin .mul .f32 x2 (Pure.spec_l01Sine F x0)))
def Pure.spec_l07Damp_ok (F : FOps) (x0 x1 x2 x3 : Int) : Bool := bif Pure.spec_l01Sine_ok F x0 then bif Pure.spec_l07Kick_ok F (F.bin .add .f32 (F.bin .mul .f32 x3 x1) (F.bin .mul .f32 x2 (Pure.spec_l01Sine F x0))) then Pure.spec_l05Wrap_ok F (F.bin .add .f32 x0 (Pure.spec_l07Kick F (F.bin .add .f32 (F.bin .mul .f32 x3 x1) (F.bin .mul .f32 x2 (Pure.spec_l01Sine F x0))))) else false else false
def c_spec_l07Damp (F : FOps) : Con
  | [V.agg [A.fl .f32 x0, A.fl .f32 x1], V.at (A.fl .f32 x2), V.at (A.fl .f32 x3)], [] => some (Pure.spec_l07Damp_ok F x0 x1 x2 x3, ⟨V.agg [A.fl .f32 (Pure.spec_l07Damp F x0 x1 x2 x3), A.fl .f32 (Pure.spec_l07Damp_1 F x0 x1 x2 x3)], none, []⟩)
  | _, _ => none
theorem e_spec_l07Damp (F : FOps) (x0 x1 x2 x3 : Int) : Pure.spec_l07Damp_ok F x0 x1 x2 x3 = true → evFn (cxS F tyl [(62, c_spec_l01Sine F), (53, c_spec_l07Kick F), (52, c_spec_l05Wrap F)] [] [] 0) Try.f67 false [V.agg [A.fl .f32 x0, A.fl .f32 x1], V.at (A.fl .f32 x2), V.at (A.fl .f32 x3)] [] = some ⟨V.agg [A.fl .f32 (Pure.spec_l07Damp F x0 x1 x2 x3), A.fl .f32 (Pure.spec_l07Damp_1 F x0 x1 x2 x3)], none, []⟩ := by
  have h0 : evFn (cxS F tyl [(62, c_spec_l01Sine F), (53, c_spec_l07Kick F), (52, c_spec_l05Wrap F)] [] [] 0) Try.f67 false [V.agg [A.fl .f32 x0, A.fl .f32 x1], V.at (A.fl .f32 x2), V.at (A.fl .f32 x3)] [] = bif Pure.spec_l01Sine_ok F x0 then bif Pure.spec_l07Kick_ok F (F.bin .add .f32 (F.bin .mul .f32 x3 x1) (F.bin .mul .f32 x2 (Pure.spec_l01Sine F x0))) then bif Pure.spec_l05Wrap_ok F (F.bin .add .f32 x0 (Pure.spec_l07Kick F (F.bin .add .f32 (F.bin .mul .f32 x3 x1) (F.bin .mul .f32 x2 (Pure.spec_l01Sine F x0))))) then some ⟨V.agg [A.fl .f32 (Pure.spec_l05Wrap F (F.bin .add .f32 x0 (Pure.spec_l07Kick F (F.bin .add .f32 (F.bin .mul .f32 x3 x1) (F.bin .mul .f32 x2 (Pure.spec_l01Sine F x0)))))), A.fl .f32 (Pure.spec_l07Kick F (F.bin .add .f32 (F.bin .mul .f32 x3 x1) (F.bin .mul .f32 x2 (Pure.spec_l01Sine F x0))))], none, []⟩ else none else none else none := by kernel_rfl
  rw [h0]
  unfold Pure.spec_l07Damp Pure.spec_l07Damp_1 Pure.spec_l07Damp_ok
  cases (Pure.spec_l01Sine_ok F x0) with
  | true =>
    cases (Pure.spec_l07Kick_ok F (F.bin .add .f32 (F.bin .mul .f32 x3 x1) (F.bin .mul .f32 x2 (Pure.spec_l01Sine F x0)))) with
    | true =>
      cases (Pure.spec_l05Wrap_ok F (F.bin .add .f32 x0 (Pure.spec_l07Kick F (F.bin .add .f32 (F.bin .mul .f32 x3 x1) (F.bin .mul .f32 x2 (Pure.spec_l01Sine F x0)))))) with
      | true =>
        intro _; rfl
      | false =>
        intro h; exact absurd h Bool.false_ne_true
    | false =>
      intro h; exact absurd h Bool.false_ne_true
  | false =>
    intro h; exact absurd h Bool.false_ne_true
theorem ok_spec_l07Damp : CallOK Try.prog 67 (c_spec_l07Damp real) := by
  refine callOK_of fun args h ret hc => ?_
  unfold c_spec_l07Damp at hc
  split at hc
  · rename_i x0 x1 x2 x3
    obtain ⟨hok, rfl⟩ := some_ret hc
    exact holds_ev prog_ok (allOK_cons ok_spec_l01Sine (allOK_cons ok_spec_l07Kick (allOK_cons ok_spec_l05Wrap allOK_nil))) Try.func67 rfl rfl smL_nil rfl (e_spec_l07Damp real x0 x1 x2 x3 hok)
  · cases hc
def Pure.impl_shareOk (F : FOps) (x0 : Int) : Bool := bif F.cmp .geq .f32 x0 0 then F.cmp .leq .f32 x0 1065353216 else false
def c_impl_shareOk (F : FOps) : Con
  | [V.at (A.fl .f32 x0)], [] => some (true, ⟨V.at (A.bool (Pure.impl_shareOk F x0)), none, []⟩)
  | _, _ => none
theorem e_impl_shareOk (F : FOps) (x0 : Int) : evFn (cxS F tyl [] [] [] 0) Try.f68 false [V.at (A.fl .f32 x0)] [] = some ⟨V.at (A.bool (Pure.impl_shareOk F x0)), none, []⟩ := by
  have h0 : evFn (cxS F tyl [] [] [] 0) Try.f68 false [V.at (A.fl .f32 x0)] [] = bif F.cmp .geq .f32 x0 0 then some ⟨V.at (A.bool (F.cmp .leq .f32 x0 1065353216)), none, []⟩ else some ⟨V.at (A.bool false), none, []⟩ := by kernel_rfl
  rw [h0]
  unfold Pure.impl_shareOk
  cases (F.cmp .geq .f32 x0 0) with
  | true =>
    rfl
  | false =>
    rfl
theorem ok_impl_shareOk : CallOK Try.prog 68 (c_impl_shareOk real) := by
  refine callOK_of fun args h ret hc => ?_
  unfold c_impl_shareOk at hc
  split at hc
  · rename_i x0
    obtain ⟨_, rfl⟩ := some_ret hc
    exact holds_ev prog_ok allOK_nil Try.func68 rfl rfl smL_nil rfl (e_impl_shareOk real x0)
  · cases hc
end Go.Fx
