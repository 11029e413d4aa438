import Derived.Test.YtnlfpamdcohiiaaXr3c
import Derived.KernelRfl
namespace Go.Fx
open Go.Proofs
set_option maxRecDepth 100000
def Pure.spec_l07Slopes (F : FOps) (x0 : Int) (x1 : Int) (x2 : Int) : List (List Int) := [[FOps.bin F BinOp.add FloatKind.f32 1065353216 (FOps.bin F BinOp.mul FloatKind.f32 (FOps.bin F BinOp.mul FloatKind.f32 x2 1086918619) (Pure.spec_l01Sine F (FOps.bin F BinOp.add FloatKind.f32 x0 1048576000)))], [1065353216], [FOps.bin F BinOp.mul FloatKind.f32 (FOps.bin F BinOp.mul FloatKind.f32 x2 1086918619) (Pure.spec_l01Sine F (FOps.bin F BinOp.add FloatKind.f32 x0 1048576000))], [1065353216]]
def Pure.spec_l07Slopes_ok (F : FOps) (x0 : Int) (x1 : Int) (x2 : Int) : Bool := Pure.spec_l01Sine_ok F (FOps.bin F BinOp.add FloatKind.f32 x0 1048576000)
def c_spec_l07Slopes (F : FOps) : Con
  | [V.agg [A.fl FloatKind.f32 x0, A.fl FloatKind.f32 x1], V.at (A.fl FloatKind.f32 x2)], [] => some (Pure.spec_l07Slopes_ok F x0 x1 x2, ⟨V.at (A.sl 0), none, [⟨true, OC.rows [K.f FloatKind.f32] (Pure.spec_l07Slopes F x0 x1 x2)⟩]⟩)
  | _, _ => none
theorem e_spec_l07Slopes (F : FOps) (x0 : Int) (x1 : Int) (x2 : Int) : Pure.spec_l07Slopes_ok F x0 x1 x2 = true → evFn (cxS F tyl [(62, c_spec_l01Sine F)] [] [] 0) Try.f58 false [V.agg [A.fl FloatKind.f32 x0, A.fl FloatKind.f32 x1], V.at (A.fl FloatKind.f32 x2)] [] = some ⟨V.at (A.sl 0), none, [⟨true, OC.rows [K.f FloatKind.f32] (Pure.spec_l07Slopes F x0 x1 x2)⟩]⟩ := by
  have h0 : evFn (cxS F tyl [(62, c_spec_l01Sine F)] [] [] 0) Try.f58 false [V.agg [A.fl FloatKind.f32 x0, A.fl FloatKind.f32 x1], V.at (A.fl FloatKind.f32 x2)] [] = bif Pure.spec_l01Sine_ok F (FOps.bin F BinOp.add FloatKind.f32 x0 1048576000) then some ⟨V.at (A.sl 0), none, [⟨true, OC.rows [K.f FloatKind.f32] [[FOps.bin F BinOp.add FloatKind.f32 1065353216 (FOps.bin F BinOp.mul FloatKind.f32 (FOps.bin F BinOp.mul FloatKind.f32 x2 1086918619) (Pure.spec_l01Sine F (FOps.bin F BinOp.add FloatKind.f32 x0 1048576000)))], [1065353216], [FOps.bin F BinOp.mul FloatKind.f32 (FOps.bin F BinOp.mul FloatKind.f32 x2 1086918619) (Pure.spec_l01Sine F (FOps.bin F BinOp.add FloatKind.f32 x0 1048576000))], [1065353216]]⟩]⟩ else none := by kernel_rfl
  rw [h0]
  unfold Pure.spec_l07Slopes Pure.spec_l07Slopes_ok
  cases (Pure.spec_l01Sine_ok F (FOps.bin F BinOp.add FloatKind.f32 x0 1048576000)) with
  | true =>
    intro _; rfl
  | false =>
    intro h; exact absurd h Bool.false_ne_true
theorem ok_spec_l07Slopes : CallOK Try.prog 58 (c_spec_l07Slopes real) := by
  refine callOK_of fun args h ret hc => ?_
  unfold c_spec_l07Slopes at hc
  split at hc
  · rename_i x0 x1 x2
    obtain ⟨hok, rfl⟩ := some_ret hc
    exact holds_ev prog_ok (allOK_cons ok_spec_l01Sine allOK_nil) Try.func58 rfl rfl smL_nil rfl (e_spec_l07Slopes real x0 x1 x2 hok)
  · cases hc
def Pure.spec_SlopesOf (F : FOps) (x0 : Int) (x1 : Int) (x2 : Int) : Bool := bif Pure.spec_l07Is F x0 x1 then Pure.spec_l07Size F x2 else false
def Pure.spec_SlopesOf_1 (F : FOps) (x0 : Int) (x1 : Int) (x2 : Int) : List (List Int) := bif Pure.spec_l07Is F x0 x1 then bif Pure.spec_l07Size F x2 then Pure.spec_l07Slopes F x0 x1 x2 else [] else []
def Pure.spec_SlopesOf_ok (F : FOps) (x0 : Int) (x1 : Int) (x2 : Int) : Bool := bif Pure.spec_l07Is F x0 x1 then bif Pure.spec_l07Size F x2 then Pure.spec_l07Slopes_ok F x0 x1 x2 else true else true
def c_spec_SlopesOf (F : FOps) : Con
  | [V.agg [A.fl FloatKind.f32 x0, A.fl FloatKind.f32 x1], V.at (A.fl FloatKind.f32 x2)], [] => some (Pure.spec_SlopesOf_ok F x0 x1 x2, ⟨V.tup [(false, [A.sl 0]), (false, [A.bool (Pure.spec_SlopesOf F x0 x1 x2)])], none, [⟨true, OC.rows [K.f FloatKind.f32] (Pure.spec_SlopesOf_1 F x0 x1 x2)⟩]⟩)
  | _, _ => none
theorem e_spec_SlopesOf (F : FOps) (x0 : Int) (x1 : Int) (x2 : Int) : Pure.spec_SlopesOf_ok F x0 x1 x2 = true → evFn (cxS F tyl [(51, c_spec_l07Is F), (57, c_spec_l07Size F), (58, c_spec_l07Slopes F)] [] [] 0) Try.f19 false [V.agg [A.fl FloatKind.f32 x0, A.fl FloatKind.f32 x1], V.at (A.fl FloatKind.f32 x2)] [] = some ⟨V.tup [(false, [A.sl 0]), (false, [A.bool (Pure.spec_SlopesOf F x0 x1 x2)])], none, [⟨true, OC.rows [K.f FloatKind.f32] (Pure.spec_SlopesOf_1 F x0 x1 x2)⟩]⟩ := by
  have h0 : evFn (cxS F tyl [(51, c_spec_l07Is F), (57, c_spec_l07Size F), (58, c_spec_l07Slopes F)] [] [] 0) Try.f19 false [V.agg [A.fl FloatKind.f32 x0, A.fl FloatKind.f32 x1], V.at (A.fl FloatKind.f32 x2)] [] = bif Bool.not (Pure.spec_l07Is F x0 x1) then some ⟨V.tup [(false, [A.sl 0]), (false, [A.bool false])], none, [⟨true, OC.rows [K.f FloatKind.f32] []⟩]⟩ else bif Bool.not (Pure.spec_l07Size F x2) then some ⟨V.tup [(false, [A.sl 0]), (false, [A.bool false])], none, [⟨true, OC.rows [K.f FloatKind.f32] []⟩]⟩ else bif Pure.spec_l07Slopes_ok F x0 x1 x2 then some ⟨V.tup [(false, [A.sl 0]), (false, [A.bool true])], none, [⟨true, OC.rows [K.f FloatKind.f32] (Pure.spec_l07Slopes F x0 x1 x2)⟩]⟩ else none := by kernel_rfl
  rw [h0]
  unfold Pure.spec_SlopesOf Pure.spec_SlopesOf_1 Pure.spec_SlopesOf_ok
  cases (Pure.spec_l07Is F x0 x1) with
  | true =>
    cases (Pure.spec_l07Size F x2) with
    | true =>
      cases (Pure.spec_l07Slopes_ok F x0 x1 x2) with
      | true =>
        intro _; rfl
      | false =>
        intro h; exact absurd h Bool.false_ne_true
    | false =>
      intro _; rfl
  | false =>
    intro _; rfl
theorem ok_spec_SlopesOf : CallOK Try.prog 19 (c_spec_SlopesOf real) := by
  refine callOK_of fun args h ret hc => ?_
  unfold c_spec_SlopesOf at hc
  split at hc
  · rename_i x0 x1 x2
    obtain ⟨hok, rfl⟩ := some_ret hc
    exact holds_ev prog_ok (allOK_cons ok_spec_l07Is (allOK_cons ok_spec_l07Size (allOK_cons ok_spec_l07Slopes allOK_nil))) Try.func19 rfl rfl smL_nil rfl (e_spec_SlopesOf real x0 x1 x2 hok)
  · cases hc
def Pure.impl_State_slopes (F : FOps) (x0 : Int) (x1 : Int) (x2 : Int) : Int := List.getD [FOps.bin F BinOp.add FloatKind.f32 1065353216 (FOps.bin F BinOp.mul FloatKind.f32 (FOps.bin F BinOp.mul FloatKind.f32 x2 1086918619) (Pure.impl_SineTurns F (FOps.bin F BinOp.add FloatKind.f32 x0 1048576000)))] 0 0
def Pure.impl_State_slopes_1 (F : FOps) (x0 : Int) (x1 : Int) (x2 : Int) : Int := List.getD [FOps.bin F BinOp.mul FloatKind.f32 (FOps.bin F BinOp.mul FloatKind.f32 x2 1086918619) (Pure.impl_SineTurns F (FOps.bin F BinOp.add FloatKind.f32 x0 1048576000))] 0 0
def Pure.impl_State_slopes_ok (F : FOps) (x0 : Int) (x1 : Int) (x2 : Int) : Bool := Pure.impl_SineTurns_ok F (FOps.bin F BinOp.add FloatKind.f32 x0 1048576000)
def c_impl_State_slopes (F : FOps) : Con
  | [V.agg [A.fl FloatKind.f32 x0, A.fl FloatKind.f32 x1], V.at (A.fl FloatKind.f32 x2)], [] => some (Pure.impl_State_slopes_ok F x0 x1 x2, ⟨V.agg [A.fl FloatKind.f32 (Pure.impl_State_slopes F x0 x1 x2), A.fl FloatKind.f32 1065353216, A.fl FloatKind.f32 (Pure.impl_State_slopes_1 F x0 x1 x2), A.fl FloatKind.f32 1065353216], none, []⟩)
  | _, _ => none
theorem e_impl_State_slopes (F : FOps) (x0 : Int) (x1 : Int) (x2 : Int) : Pure.impl_State_slopes_ok F x0 x1 x2 = true → evFn (cxS F tyl [(63, c_impl_SineTurns F)] [] [] 0) Try.f60 false [V.agg [A.fl FloatKind.f32 x0, A.fl FloatKind.f32 x1], V.at (A.fl FloatKind.f32 x2)] [] = some ⟨V.agg [A.fl FloatKind.f32 (Pure.impl_State_slopes F x0 x1 x2), A.fl FloatKind.f32 1065353216, A.fl FloatKind.f32 (Pure.impl_State_slopes_1 F x0 x1 x2), A.fl FloatKind.f32 1065353216], none, []⟩ := by
  have h0 : evFn (cxS F tyl [(63, c_impl_SineTurns F)] [] [] 0) Try.f60 false [V.agg [A.fl FloatKind.f32 x0, A.fl FloatKind.f32 x1], V.at (A.fl FloatKind.f32 x2)] [] = bif Pure.impl_SineTurns_ok F (FOps.bin F BinOp.add FloatKind.f32 x0 1048576000) then some ⟨V.agg [A.fl FloatKind.f32 (List.getD [FOps.bin F BinOp.add FloatKind.f32 1065353216 (FOps.bin F BinOp.mul FloatKind.f32 (FOps.bin F BinOp.mul FloatKind.f32 x2 1086918619) (Pure.impl_SineTurns F (FOps.bin F BinOp.add FloatKind.f32 x0 1048576000)))] 0 0), A.fl FloatKind.f32 1065353216, A.fl FloatKind.f32 (List.getD [FOps.bin F BinOp.mul FloatKind.f32 (FOps.bin F BinOp.mul FloatKind.f32 x2 1086918619) (Pure.impl_SineTurns F (FOps.bin F BinOp.add FloatKind.f32 x0 1048576000))] 0 0), A.fl FloatKind.f32 1065353216], none, []⟩ else none := by kernel_rfl
  rw [h0]
  unfold Pure.impl_State_slopes Pure.impl_State_slopes_1 Pure.impl_State_slopes_ok
  cases (Pure.impl_SineTurns_ok F (FOps.bin F BinOp.add FloatKind.f32 x0 1048576000)) with
  | true =>
    intro _; rfl
  | false =>
    intro h; exact absurd h Bool.false_ne_true
theorem ok_impl_State_slopes : CallOK Try.prog 60 (c_impl_State_slopes real) := by
  refine callOK_of fun args h ret hc => ?_
  unfold c_impl_State_slopes at hc
  split at hc
  · rename_i x0 x1 x2
    obtain ⟨hok, rfl⟩ := some_ret hc
    exact holds_ev prog_ok (allOK_cons ok_impl_SineTurns allOK_nil) Try.func60 rfl rfl smL_nil rfl (e_impl_State_slopes real x0 x1 x2 hok)
  · cases hc
def Pure.impl_finite (F : FOps) (x0 : List (List Int)) : Bool := bif Pure.slices_ContainsFunc_float32_float32_finite F x0 then false else true
def Pure.impl_finite_ok (F : FOps) (x0 : List (List Int)) : Bool := Pure.slices_ContainsFunc_float32_float32_finite_ok F x0
def c_impl_finite (F : FOps) : Con
  | [V.at (A.sl 0)], [⟨false, OC.rows [K.f FloatKind.f32] x0⟩] => some (Pure.impl_finite_ok F x0, ⟨V.at (A.bool (Pure.impl_finite F x0)), none, []⟩)
  | _, _ => none
theorem e_impl_finite (F : FOps) (x0 : List (List Int)) : Pure.impl_finite_ok F x0 = true → evFn (cxS F tyl [(103, c_slices_ContainsFunc_float32_float32_finite F), (104, c_impl_finite_c1 F)] [] [] 0) Try.f93 false [V.at (A.sl 0)] [⟨false, OC.rows [K.f FloatKind.f32] x0⟩] = some ⟨V.at (A.bool (Pure.impl_finite F x0)), none, []⟩ := by
  have h0 : evFn (cxS F tyl [(103, c_slices_ContainsFunc_float32_float32_finite F), (104, c_impl_finite_c1 F)] [] [] 0) Try.f93 false [V.at (A.sl 0)] [⟨false, OC.rows [K.f FloatKind.f32] x0⟩] = bif Pure.slices_ContainsFunc_float32_float32_finite_ok F x0 then some ⟨V.at (A.bool (bif Pure.slices_ContainsFunc_float32_float32_finite F x0 then false else true)), none, []⟩ else none := by kernel_rfl
  rw [h0]
  unfold Pure.impl_finite Pure.impl_finite_ok
  cases (Pure.slices_ContainsFunc_float32_float32_finite_ok F x0) with
  | true =>
    intro _; rfl
  | false =>
    intro h; exact absurd h Bool.false_ne_true
theorem ok_impl_finite : CallOK Try.prog 93 (c_impl_finite real) := by
  refine callOK_of fun args h ret hc => ?_
  unfold c_impl_finite at hc
  split at hc
  · rename_i x0
    obtain ⟨hok, rfl⟩ := some_ret hc
    exact holds_ev prog_ok (allOK_cons ok_slices_ContainsFunc_float32_float32_finite (allOK_cons ok_impl_finite_c1 allOK_nil)) Try.func93 rfl rfl smL_nil rfl (e_impl_finite real x0 hok)
  · cases hc
def Pure.impl_toldNumbers_way (F : FOps) (x0 : List (List Int)) : Bool := Pure.impl_finite F x0
def Pure.impl_toldNumbers_okA (F : FOps) (x0 : List (List Int)) : Bool := Pure.impl_finite_ok F x0
def Pure.impl_toldNumbers_okB (F : FOps) (x0 : List (List Int)) : Bool := Pure.impl_finite_ok F x0
def c2_impl_toldNumbers (F : FOps) : Con2
  | [V.at (A.sl 0)], [⟨false, OC.rows [K.f FloatKind.f32] x0⟩] => some (Pure.impl_toldNumbers_way F x0, (Pure.impl_toldNumbers_okA F x0, ⟨V.tup [(false, [A.sl 0]), (false, [A.bool true])], none, []⟩), (Pure.impl_toldNumbers_okB F x0, ⟨V.tup [(false, [A.sl 1]), (false, [A.bool false])], none, [⟨true, OC.rows [K.f FloatKind.f32] []⟩]⟩))
  | _, _ => none
theorem e2_impl_toldNumbers_true (F : FOps) (x0 : List (List Int)) : Pure.impl_toldNumbers_way F x0 = true → Pure.impl_toldNumbers_okA F x0 = true → evFn (cxS F tyl [(93, c_impl_finite F)] [] [] 0) Try.f61 false [V.at (A.sl 0)] [⟨false, OC.rows [K.f FloatKind.f32] x0⟩] = some ⟨V.tup [(false, [A.sl 0]), (false, [A.bool true])], none, []⟩ := by
  have h0 : evFn (cxS F tyl [(93, c_impl_finite F)] [] [] 0) Try.f61 false [V.at (A.sl 0)] [⟨false, OC.rows [K.f FloatKind.f32] x0⟩] = bif Pure.impl_finite_ok F x0 then bif Bool.not (Pure.impl_finite F x0) then some ⟨V.tup [(false, [A.sl 1]), (false, [A.bool false])], none, [⟨true, OC.rows [K.f FloatKind.f32] []⟩]⟩ else some ⟨V.tup [(false, [A.sl 0]), (false, [A.bool true])], none, []⟩ else none := by kernel_rfl
  rw [h0]
  unfold Pure.impl_toldNumbers_way Pure.impl_toldNumbers_okA
  cases (Pure.impl_finite_ok F x0) with
  | true =>
    cases (Pure.impl_finite F x0) with
    | true =>
      intro h1 h2; first | rfl | cases h1 | cases h2
    | false =>
      intro h1 h2; first | rfl | cases h1 | cases h2
  | false =>
    intro h1 h2; first | rfl | cases h1 | cases h2
theorem e2_impl_toldNumbers_false (F : FOps) (x0 : List (List Int)) : Pure.impl_toldNumbers_way F x0 = false → Pure.impl_toldNumbers_okB F x0 = true → evFn (cxS F tyl [(93, c_impl_finite F)] [] [] 0) Try.f61 false [V.at (A.sl 0)] [⟨false, OC.rows [K.f FloatKind.f32] x0⟩] = some ⟨V.tup [(false, [A.sl 1]), (false, [A.bool false])], none, [⟨true, OC.rows [K.f FloatKind.f32] []⟩]⟩ := by
  have h0 : evFn (cxS F tyl [(93, c_impl_finite F)] [] [] 0) Try.f61 false [V.at (A.sl 0)] [⟨false, OC.rows [K.f FloatKind.f32] x0⟩] = bif Pure.impl_finite_ok F x0 then bif Bool.not (Pure.impl_finite F x0) then some ⟨V.tup [(false, [A.sl 1]), (false, [A.bool false])], none, [⟨true, OC.rows [K.f FloatKind.f32] []⟩]⟩ else some ⟨V.tup [(false, [A.sl 0]), (false, [A.bool true])], none, []⟩ else none := by kernel_rfl
  rw [h0]
  unfold Pure.impl_toldNumbers_way Pure.impl_toldNumbers_okB
  cases (Pure.impl_finite_ok F x0) with
  | true =>
    cases (Pure.impl_finite F x0) with
    | true =>
      intro h1 h2; first | rfl | cases h1 | cases h2
    | false =>
      intro h1 h2; first | rfl | cases h1 | cases h2
  | false =>
    intro h1 h2; first | rfl | cases h1 | cases h2
theorem ok2_impl_toldNumbers : TwoOK Try.prog 61 (c2_impl_toldNumbers real) := by
  intro args h b x y r news hc hb
  unfold c2_impl_toldNumbers at hc
  split at hc
  · rename_i x0
    obtain ⟨rfl, rfl, rfl⟩ := two_ret hc
    cases hq : Pure.impl_toldNumbers_way real x0 with
    | true =>
      rw [hq] at hb
      obtain ⟨hok, hr⟩ := ret_two hb
      have he := e2_impl_toldNumbers_true real x0 hq hok
      rw [hr] at he
      exact holds_ev prog_ok (allOK_cons ok_impl_finite allOK_nil) Try.func61 rfl rfl smL_nil rfl he
    | false =>
      rw [hq] at hb
      obtain ⟨hok, hr⟩ := ret_two hb
      have he := e2_impl_toldNumbers_false real x0 hq hok
      rw [hr] at he
      exact holds_ev prog_ok (allOK_cons ok_impl_finite allOK_nil) Try.func61 rfl rfl smL_nil rfl he
  · cases hc
def Pure.impl_SlopesOf (F : FOps) (x0 : Int) (x1 : Int) (x2 : Int) : Bool := bif Pure.impl_stateOk F x0 x1 x2 then Pure.impl_toldNumbers_way F [[Pure.impl_State_slopes F x0 x1 x2], [1065353216], [Pure.impl_State_slopes_1 F x0 x1 x2], [1065353216]] else false
def Pure.impl_SlopesOf_1 (F : FOps) (x0 : Int) (x1 : Int) (x2 : Int) : List (List Int) := bif Pure.impl_stateOk F x0 x1 x2 then bif Pure.impl_toldNumbers_way F [[Pure.impl_State_slopes F x0 x1 x2], [1065353216], [Pure.impl_State_slopes_1 F x0 x1 x2], [1065353216]] then [[Pure.impl_State_slopes F x0 x1 x2], [1065353216], [Pure.impl_State_slopes_1 F x0 x1 x2], [1065353216]] else [] else []
def Pure.impl_SlopesOf_ok (F : FOps) (x0 : Int) (x1 : Int) (x2 : Int) : Bool := bif Pure.impl_stateOk F x0 x1 x2 then bif Pure.impl_State_slopes_ok F x0 x1 x2 then bif Pure.impl_toldNumbers_way F [[Pure.impl_State_slopes F x0 x1 x2], [1065353216], [Pure.impl_State_slopes_1 F x0 x1 x2], [1065353216]] then Pure.impl_toldNumbers_okA F [[Pure.impl_State_slopes F x0 x1 x2], [1065353216], [Pure.impl_State_slopes_1 F x0 x1 x2], [1065353216]] else Pure.impl_toldNumbers_okB F [[Pure.impl_State_slopes F x0 x1 x2], [1065353216], [Pure.impl_State_slopes_1 F x0 x1 x2], [1065353216]] else false else true
def c_impl_SlopesOf (F : FOps) : Con
  | [V.agg [A.fl FloatKind.f32 x0, A.fl FloatKind.f32 x1], V.at (A.fl FloatKind.f32 x2)], [] => some (Pure.impl_SlopesOf_ok F x0 x1 x2, ⟨V.tup [(false, [A.sl 0]), (false, [A.bool (Pure.impl_SlopesOf F x0 x1 x2)])], none, [⟨true, OC.rows [K.f FloatKind.f32] (Pure.impl_SlopesOf_1 F x0 x1 x2)⟩]⟩)
  | _, _ => none
theorem e_impl_SlopesOf (F : FOps) (x0 : Int) (x1 : Int) (x2 : Int) : Pure.impl_SlopesOf_ok F x0 x1 x2 = true → evFn (cxS F tyl [(59, c_impl_stateOk F), (60, c_impl_State_slopes F)] [] [] 0 [(61, c2_impl_toldNumbers F)]) Try.f20 false [V.agg [A.fl FloatKind.f32 x0, A.fl FloatKind.f32 x1], V.at (A.fl FloatKind.f32 x2)] [] = some ⟨V.tup [(false, [A.sl 0]), (false, [A.bool (Pure.impl_SlopesOf F x0 x1 x2)])], none, [⟨true, OC.rows [K.f FloatKind.f32] (Pure.impl_SlopesOf_1 F x0 x1 x2)⟩]⟩ := by
  have h0 : evFn (cxS F tyl [(59, c_impl_stateOk F), (60, c_impl_State_slopes F)] [] [] 0 [(61, c2_impl_toldNumbers F)]) Try.f20 false [V.agg [A.fl FloatKind.f32 x0, A.fl FloatKind.f32 x1], V.at (A.fl FloatKind.f32 x2)] [] = bif Bool.not (Pure.impl_stateOk F x0 x1 x2) then some ⟨V.tup [(false, [A.sl 0]), (false, [A.bool false])], none, [⟨true, OC.rows [K.f FloatKind.f32] []⟩]⟩ else bif Pure.impl_State_slopes_ok F x0 x1 x2 then bif Pure.impl_toldNumbers_way F [[Pure.impl_State_slopes F x0 x1 x2], [1065353216], [Pure.impl_State_slopes_1 F x0 x1 x2], [1065353216]] then bif Pure.impl_toldNumbers_okA F [[Pure.impl_State_slopes F x0 x1 x2], [1065353216], [Pure.impl_State_slopes_1 F x0 x1 x2], [1065353216]] then some ⟨V.tup [(false, [A.sl 0]), (false, [A.bool true])], none, [⟨true, OC.rows [K.f FloatKind.f32] [[Pure.impl_State_slopes F x0 x1 x2], [1065353216], [Pure.impl_State_slopes_1 F x0 x1 x2], [1065353216]]⟩]⟩ else none else bif Pure.impl_toldNumbers_okB F [[Pure.impl_State_slopes F x0 x1 x2], [1065353216], [Pure.impl_State_slopes_1 F x0 x1 x2], [1065353216]] then some ⟨V.tup [(false, [A.sl 0]), (false, [A.bool false])], none, [⟨true, OC.rows [K.f FloatKind.f32] []⟩]⟩ else none else none := by kernel_rfl
  rw [h0]
  unfold Pure.impl_SlopesOf Pure.impl_SlopesOf_1 Pure.impl_SlopesOf_ok
  cases (Pure.impl_stateOk F x0 x1 x2) with
  | true =>
    cases (Pure.impl_State_slopes_ok F x0 x1 x2) with
    | true =>
      cases (Pure.impl_toldNumbers_way F [[Pure.impl_State_slopes F x0 x1 x2], [1065353216], [Pure.impl_State_slopes_1 F x0 x1 x2], [1065353216]]) with
      | true =>
        cases (Pure.impl_toldNumbers_okA F [[Pure.impl_State_slopes F x0 x1 x2], [1065353216], [Pure.impl_State_slopes_1 F x0 x1 x2], [1065353216]]) with
        | true =>
          intro _; rfl
        | false =>
          intro h; exact absurd h Bool.false_ne_true
      | false =>
        cases (Pure.impl_toldNumbers_okB F [[Pure.impl_State_slopes F x0 x1 x2], [1065353216], [Pure.impl_State_slopes_1 F x0 x1 x2], [1065353216]]) with
        | true =>
          intro _; rfl
        | false =>
          intro h; exact absurd h Bool.false_ne_true
    | false =>
      intro h; exact absurd h Bool.false_ne_true
  | false =>
    intro _; rfl
theorem ok_impl_SlopesOf : CallOK Try.prog 20 (c_impl_SlopesOf real) := by
  refine callOK_of fun args h ret hc => ?_
  unfold c_impl_SlopesOf at hc
  split at hc
  · rename_i x0 x1 x2
    obtain ⟨hok, rfl⟩ := some_ret hc
    exact holds_ev2 prog_ok (allOK_cons ok_impl_stateOk (allOK_cons ok_impl_State_slopes allOK_nil)) (allTwo_cons ok2_impl_toldNumbers allTwo_nil) Try.func20 rfl rfl smL_nil rfl (e_impl_SlopesOf real x0 x1 x2 hok)
  · cases hc
def Pure.laws_eqFloat32S_L0 (F : FOps) (y1 : List (List Int)) (y2 : List (List Int)) : Nat → Int → (Bool × Bool)
  | 0, _ => (false, false)
  | n + 1, y0 => bif (Decidable.decide (y0 < (Int.ofNat (List.length y1)))) then (bif (Decidable.decide (0 ≤ y0)) then (bif (Decidable.decide (y0 < (Int.ofNat (List.length y1)))) then (bif (FOps.convOk F FloatKind.f32 FloatKind.f64 (List.getD (List.getD y1 (Int.toNat y0) []) 0 0)) then (bif (Decidable.decide (0 ≤ y0)) then (bif (Decidable.decide (y0 < (Int.ofNat (List.length y2)))) then (bif (FOps.convOk F FloatKind.f32 FloatKind.f64 (List.getD (List.getD y2 (Int.toNat y0) []) 0 0)) then (bif (Pure.laws_sameFloat F (FOps.conv F FloatKind.f32 FloatKind.f64 (List.getD (List.getD y1 (Int.toNat y0) []) 0 0)) (FOps.conv F FloatKind.f32 FloatKind.f64 (List.getD (List.getD y2 (Int.toNat y0) []) 0 0))) then (Pure.laws_eqFloat32S_L0 F y1 y2 n (IntKind.wrap IntKind.i64 (y0 + 1))) else ((true, true))) else ((false, false))) else ((false, false))) else ((false, false))) else ((false, false))) else ((false, false))) else ((false, false))) else ((true, false))
def R_laws_eqFloat32S_L0 (y1 : List (List Int)) (y2 : List (List Int)) (r : (Bool × Bool)) : Bool × Bool × (Ex × List V × List Ob) × (Ex × List V × List Ob) := ((r).1, (r).2, (Ex.normal, [V.at A.undef], [⟨false, OC.rows [K.f FloatKind.f32] y1⟩, ⟨false, OC.rows [K.f FloatKind.f32] y2⟩]), (Ex.ret, [V.at (A.bool false)], [⟨false, OC.rows [K.f FloatKind.f32] y1⟩, ⟨false, OC.rows [K.f FloatKind.f32] y2⟩]))
def S_laws_eqFloat32S_L0 (F : FOps) : Sm := ⟨[0, 1, 5], [31, 31, 3], [4], fun vals hp => match vals, hp with
  | [V.at (A.sl 0), V.at (A.sl 1), V.at (A.int IntKind.i64 y0)], [⟨false, OC.rows [K.f FloatKind.f32] y1⟩, ⟨false, OC.rows [K.f FloatKind.f32] y2⟩] => some (R_laws_eqFloat32S_L0 y1 y2 (Pure.laws_eqFloat32S_L0 F y1 y2 ((Int.ofNat (List.length y1)) - y0 + 1).toNat y0))
  | _, _ => none⟩
theorem l_laws_eqFloat32S_L0 (F : FOps) (y1 : List (List Int)) (y2 : List (List Int)) : ∀ (fuel : Nat) (y0 : Int), (Pure.laws_eqFloat32S_L0 F y1 y2 fuel y0).1 = true → loopOf (cxS F tyl [(34, c_laws_sameFloat F)] [] [] 0) 2 29 0 [0, 1, 5] [31, 31, 3] [4] (loopB 0 (codeOf Try.f21)) fuel [V.at (A.sl 0), V.at (A.sl 1), V.at (A.int IntKind.i64 y0)] [⟨false, OC.rows [K.f FloatKind.f32] y1⟩, ⟨false, OC.rows [K.f FloatKind.f32] y2⟩] = resOf (R_laws_eqFloat32S_L0 y1 y2 (Pure.laws_eqFloat32S_L0 F y1 y2 fuel y0)) := by
  intro fuel
  induction fuel with
  | zero => intro y0 h; exact absurd h Bool.false_ne_true
  | succ n ih =>
    intro y0
    have h0 : roundOf (cxS F tyl [(34, c_laws_sameFloat F)] [] [] 0) 2 29 0 [0, 1, 5] [31, 31, 3] [4] (loopB 0 (codeOf Try.f21)) [V.at (A.sl 0), V.at (A.sl 1), V.at (A.int IntKind.i64 y0)] [⟨false, OC.rows [K.f FloatKind.f32] y1⟩, ⟨false, OC.rows [K.f FloatKind.f32] y2⟩] = (bif Decidable.decide (y0 < (Int.ofNat (List.length y1))) then bif Decidable.decide (0 ≤ y0) then bif Decidable.decide (y0 < (Int.ofNat (List.length y1))) then bif FOps.convOk F FloatKind.f32 FloatKind.f64 (List.getD (List.getD y1 (Int.toNat y0) []) 0 0) then bif Decidable.decide (0 ≤ y0) then bif Decidable.decide (y0 < (Int.ofNat (List.length y2))) then bif FOps.convOk F FloatKind.f32 FloatKind.f64 (List.getD (List.getD y2 (Int.toNat y0) []) 0 0) then bif Bool.not (Pure.laws_sameFloat F (FOps.conv F FloatKind.f32 FloatKind.f64 (List.getD (List.getD y1 (Int.toNat y0) []) 0 0)) (FOps.conv F FloatKind.f32 FloatKind.f64 (List.getD (List.getD y2 (Int.toNat y0) []) 0 0))) then some (false, (Ex.ret, ([V.at (A.bool false)], [⟨false, OC.rows [K.f FloatKind.f32] y1⟩, ⟨false, OC.rows [K.f FloatKind.f32] y2⟩]))) else some (true, (Ex.normal, ([V.at (A.sl 0), V.at (A.sl 1), V.at (A.int IntKind.i64 (IntKind.wrap IntKind.i64 (y0 + 1)))], [⟨false, OC.rows [K.f FloatKind.f32] y1⟩, ⟨false, OC.rows [K.f FloatKind.f32] y2⟩]))) else none else none else none else none else none else none else some (false, (Ex.normal, ([V.at A.undef], [⟨false, OC.rows [K.f FloatKind.f32] y1⟩, ⟨false, OC.rows [K.f FloatKind.f32] y2⟩])))) := by kernel_rfl
    unfold loopOf
    rw [h0]
    unfold Pure.laws_eqFloat32S_L0
    cases (Decidable.decide (y0 < (Int.ofNat (List.length y1)))) with
    | true =>
      cases (Decidable.decide (0 ≤ y0)) with
      | true =>
        cases (FOps.convOk F FloatKind.f32 FloatKind.f64 (List.getD (List.getD y1 (Int.toNat y0) []) 0 0)) with
        | true =>
          cases (Decidable.decide (y0 < (Int.ofNat (List.length y2)))) with
          | true =>
            cases (FOps.convOk F FloatKind.f32 FloatKind.f64 (List.getD (List.getD y2 (Int.toNat y0) []) 0 0)) with
            | true =>
              cases (Pure.laws_sameFloat F (FOps.conv F FloatKind.f32 FloatKind.f64 (List.getD (List.getD y1 (Int.toNat y0) []) 0 0)) (FOps.conv F FloatKind.f32 FloatKind.f64 (List.getD (List.getD y2 (Int.toNat y0) []) 0 0))) with
              | true =>
                exact ih _
              | false =>
                intro _; rfl
            | false =>
              intro h; exact absurd h Bool.false_ne_true
          | false =>
            intro h; exact absurd h Bool.false_ne_true
        | false =>
          intro h; exact absurd h Bool.false_ne_true
      | false =>
        intro h; exact absurd h Bool.false_ne_true
    | false =>
      intro _; rfl
theorem t_laws_eqFloat32S_L0 : SmTo Try.prog 2 29 (S_laws_eqFloat32S_L0 real) 0 (.loop (loopB 0 (codeOf Try.f21))) := by
  refine smTo_ev (cl := [(34, c_laws_sameFloat real)]) (ef := []) (sm := []) (un := 0) prog_ok (allOK_cons ok_laws_sameFloat allOK_nil) smL_nil ?_
  intro vals hp q r h hq
  unfold S_laws_eqFloat32S_L0 at h
  dsimp only at h
  split at h
  · rename_i y0 y1 y2
    obtain rfl := Option.some.inj h
    have h1 := hq
    unfold resOf at h1
    rw [chk_some] at h1
    exact ⟨_, (l_laws_eqFloat32S_L0 real y1 y2 _ y0 h1.1).trans hq⟩
  · cases h
def Pure.laws_eqFloat32S (F : FOps) (x0 : List (List Int)) (x1 : List (List Int)) : Bool := bif (Int.ofNat (List.length x0)) != (Int.ofNat (List.length x1)) then false else bif Prod.snd (Pure.laws_eqFloat32S_L0 F x0 x1 (Nat.succ ((List.length x0) + 0)) 0) then false else true
def Pure.laws_eqFloat32S_ok (F : FOps) (x0 : List (List Int)) (x1 : List (List Int)) : Bool := bif (Int.ofNat (List.length x0)) != (Int.ofNat (List.length x1)) then true else Prod.fst (Pure.laws_eqFloat32S_L0 F x0 x1 (Nat.succ ((List.length x0) + 0)) 0)
def c_laws_eqFloat32S (F : FOps) : Con
  | [V.at (A.sl 0), V.at (A.sl 1)], [⟨false, OC.rows [K.f FloatKind.f32] x0⟩, ⟨false, OC.rows [K.f FloatKind.f32] x1⟩] => some (Pure.laws_eqFloat32S_ok F x0 x1, ⟨V.at (A.bool (Pure.laws_eqFloat32S F x0 x1)), none, []⟩)
  | _, _ => none
theorem e_laws_eqFloat32S (F : FOps) (x0 : List (List Int)) (x1 : List (List Int)) : Pure.laws_eqFloat32S_ok F x0 x1 = true → evFn (cxS F tyl [(34, c_laws_sameFloat F)] [] [(0, S_laws_eqFloat32S_L0 F)] 0) Try.f21 false [V.at (A.sl 0), V.at (A.sl 1)] [⟨false, OC.rows [K.f FloatKind.f32] x0⟩, ⟨false, OC.rows [K.f FloatKind.f32] x1⟩] = some ⟨V.at (A.bool (Pure.laws_eqFloat32S F x0 x1)), none, []⟩ := by
  have h0 : evFn (cxS F tyl [(34, c_laws_sameFloat F)] [] [(0, S_laws_eqFloat32S_L0 F)] 0) Try.f21 false [V.at (A.sl 0), V.at (A.sl 1)] [⟨false, OC.rows [K.f FloatKind.f32] x0⟩, ⟨false, OC.rows [K.f FloatKind.f32] x1⟩] = bif (Int.ofNat (List.length x0)) != (Int.ofNat (List.length x1)) then some ⟨V.at (A.bool false), none, []⟩ else bif Prod.fst (Pure.laws_eqFloat32S_L0 F x0 x1 (Nat.succ ((List.length x0) + 0)) 0) then bif Prod.snd (Pure.laws_eqFloat32S_L0 F x0 x1 (Nat.succ ((List.length x0) + 0)) 0) then some ⟨V.at (A.bool false), none, []⟩ else some ⟨V.at (A.bool true), none, []⟩ else none := by kernel_rfl
  rw [h0]
  unfold Pure.laws_eqFloat32S Pure.laws_eqFloat32S_ok
  cases ((Int.ofNat (List.length x0)) != (Int.ofNat (List.length x1))) with
  | true =>
    intro _; rfl
  | false =>
    cases (Prod.fst (Pure.laws_eqFloat32S_L0 F x0 x1 (Nat.succ ((List.length x0) + 0)) 0)) with
    | true =>
      cases (Prod.snd (Pure.laws_eqFloat32S_L0 F x0 x1 (Nat.succ ((List.length x0) + 0)) 0)) with
      | true =>
        intro _; rfl
      | false =>
        intro _; rfl
    | false =>
      intro h; exact absurd h Bool.false_ne_true
theorem ok_laws_eqFloat32S : CallOK Try.prog 21 (c_laws_eqFloat32S real) := by
  refine callOK_of fun args h ret hc => ?_
  unfold c_laws_eqFloat32S at hc
  split at hc
  · rename_i x0 x1
    obtain ⟨hok, rfl⟩ := some_ret hc
    exact holds_ev prog_ok (allOK_cons ok_laws_sameFloat allOK_nil) Try.func21 rfl rfl (smL_cons (body := .loop (loopB 0 (codeOf Try.f21))) (by kernel_rfl) t_laws_eqFloat32S_L0 smL_nil) rfl (e_laws_eqFloat32S real x0 x1 hok)
  · cases hc
def Pure.laws_markFloat32S_L0 (F : FOps) : Nat → Int → Int → (List (List Int)) → (Bool × Int × (List (List Int)))
  | 0, _, _, _ => (false, 0, [])
  | n + 1, y0, y1, y2 => bif (Decidable.decide (y1 < (Int.ofNat (List.length y2)))) then (bif (Decidable.decide (0 ≤ y1)) then (bif (Decidable.decide (y1 < (Int.ofNat (List.length y2)))) then (Pure.laws_markFloat32S_L0 F  n (IntKind.wrap IntKind.i64 (y0 + 1)) (IntKind.wrap IntKind.i64 (y1 + 1)) (List.set y2 (Int.toNat y1) [FOps.ofInt F FloatKind.f32 y0])) else ((false, 0, []))) else ((false, 0, []))) else ((true, y0, y2))
def R_laws_markFloat32S_L0 (r : (Bool × Int × (List (List Int)))) : Bool × Bool × (Ex × List V × List Ob) × (Ex × List V × List Ob) := ((r).1, false, (Ex.normal, [V.at (A.int IntKind.i64 (r).2.1)], [⟨true, OC.rows [K.f FloatKind.f32] (r).2.2⟩]), (Ex.normal, [V.at (A.int IntKind.i64 (r).2.1)], [⟨true, OC.rows [K.f FloatKind.f32] (r).2.2⟩]))
def S_laws_markFloat32S_L0 (F : FOps) : Sm := ⟨[0, 1, 5], [31, 3, 3], [1], fun vals hp => match vals, hp with
  | [V.at (A.sl 0), V.at (A.int IntKind.i64 y0), V.at (A.int IntKind.i64 y1)], [⟨true, OC.rows [K.f FloatKind.f32] y2⟩] => some (R_laws_markFloat32S_L0  (Pure.laws_markFloat32S_L0 F  ((Int.ofNat (List.length y2)) - y1 + 1).toNat y0 y1 y2))
  | _, _ => none⟩
theorem l_laws_markFloat32S_L0 (F : FOps) : ∀ (fuel : Nat) (y0 : Int) (y1 : Int) (y2 : List (List Int)), (Pure.laws_markFloat32S_L0 F  fuel y0 y1 y2).1 = true → loopOf (cxS F tyl [] [] [] 0) 1 20 0 [0, 1, 5] [31, 3, 3] [1] (loopB 0 (codeOf Try.f22)) fuel [V.at (A.sl 0), V.at (A.int IntKind.i64 y0), V.at (A.int IntKind.i64 y1)] [⟨true, OC.rows [K.f FloatKind.f32] y2⟩] = resOf (R_laws_markFloat32S_L0  (Pure.laws_markFloat32S_L0 F  fuel y0 y1 y2)) := by
  intro fuel
  induction fuel with
  | zero => intro y0 y1 y2 h; exact absurd h Bool.false_ne_true
  | succ n ih =>
    intro y0 y1 y2
    have h0 : roundOf (cxS F tyl [] [] [] 0) 1 20 0 [0, 1, 5] [31, 3, 3] [1] (loopB 0 (codeOf Try.f22)) [V.at (A.sl 0), V.at (A.int IntKind.i64 y0), V.at (A.int IntKind.i64 y1)] [⟨true, OC.rows [K.f FloatKind.f32] y2⟩] = (bif Decidable.decide (y1 < (Int.ofNat (List.length y2))) then bif Decidable.decide (0 ≤ y1) then bif Decidable.decide (y1 < (Int.ofNat (List.length y2))) then some (true, (Ex.normal, ([V.at (A.sl 0), V.at (A.int IntKind.i64 (IntKind.wrap IntKind.i64 (y0 + 1))), V.at (A.int IntKind.i64 (IntKind.wrap IntKind.i64 (y1 + 1)))], [⟨true, OC.rows [K.f FloatKind.f32] (List.set y2 (Int.toNat y1) [FOps.ofInt F FloatKind.f32 y0])⟩]))) else none else none else some (false, (Ex.normal, ([V.at (A.int IntKind.i64 y0)], [⟨true, OC.rows [K.f FloatKind.f32] y2⟩])))) := by kernel_rfl
    unfold loopOf
    rw [h0]
    unfold Pure.laws_markFloat32S_L0
    cases (Decidable.decide (y1 < (Int.ofNat (List.length y2)))) with
    | true =>
      cases (Decidable.decide (0 ≤ y1)) with
      | true =>
        exact ih _ _ _
      | false =>
        intro h; exact absurd h Bool.false_ne_true
    | false =>
      intro _; rfl
theorem t_laws_markFloat32S_L0 : SmTo Try.prog 1 20 (S_laws_markFloat32S_L0 real) 0 (.loop (loopB 0 (codeOf Try.f22))) := by
  refine smTo_ev (cl := []) (ef := []) (sm := []) (un := 0) prog_ok allOK_nil smL_nil ?_
  intro vals hp q r h hq
  unfold S_laws_markFloat32S_L0 at h
  dsimp only at h
  split at h
  · rename_i y0 y1 y2
    obtain rfl := Option.some.inj h
    have h1 := hq
    unfold resOf at h1
    rw [chk_some] at h1
    exact ⟨_, (l_laws_markFloat32S_L0 real _ y0 y1 y2 h1.1).trans hq⟩
  · cases h
def Pure.laws_markFloat32S (F : FOps) (x0 : List (List Int)) (x1 : Int) : Int := Prod.fst (Prod.snd (Pure.laws_markFloat32S_L0 F (Nat.succ ((List.length x0) + 0)) x1 0 x0))
def Pure.laws_markFloat32S_1 (F : FOps) (x0 : List (List Int)) (x1 : Int) : List (List Int) := Prod.snd (Prod.snd (Pure.laws_markFloat32S_L0 F (Nat.succ ((List.length x0) + 0)) x1 0 x0))
def Pure.laws_markFloat32S_ok (F : FOps) (x0 : List (List Int)) (x1 : Int) : Bool := Prod.fst (Pure.laws_markFloat32S_L0 F (Nat.succ ((List.length x0) + 0)) x1 0 x0)
def c_laws_markFloat32S (F : FOps) : Con
  | [V.at (A.sl 0), V.at (A.int IntKind.i64 x1)], [⟨true, OC.rows [K.f FloatKind.f32] x0⟩] => some (Pure.laws_markFloat32S_ok F x0 x1, ⟨V.at (A.int IntKind.i64 (Pure.laws_markFloat32S F x0 x1)), some [⟨true, OC.rows [K.f FloatKind.f32] (Pure.laws_markFloat32S_1 F x0 x1)⟩], []⟩)
  | _, _ => none
theorem e_laws_markFloat32S (F : FOps) (x0 : List (List Int)) (x1 : Int) : Pure.laws_markFloat32S_ok F x0 x1 = true → evFn (cxS F tyl [] [] [(0, S_laws_markFloat32S_L0 F)] 0) Try.f22 true [V.at (A.sl 0), V.at (A.int IntKind.i64 x1)] [⟨true, OC.rows [K.f FloatKind.f32] x0⟩] = some ⟨V.at (A.int IntKind.i64 (Pure.laws_markFloat32S F x0 x1)), some [⟨true, OC.rows [K.f FloatKind.f32] (Pure.laws_markFloat32S_1 F x0 x1)⟩], []⟩ := by
  have h0 : evFn (cxS F tyl [] [] [(0, S_laws_markFloat32S_L0 F)] 0) Try.f22 true [V.at (A.sl 0), V.at (A.int IntKind.i64 x1)] [⟨true, OC.rows [K.f FloatKind.f32] x0⟩] = bif Prod.fst (Pure.laws_markFloat32S_L0 F (Nat.succ ((List.length x0) + 0)) x1 0 x0) then some ⟨V.at (A.int IntKind.i64 (Prod.fst (Prod.snd (Pure.laws_markFloat32S_L0 F (Nat.succ ((List.length x0) + 0)) x1 0 x0)))), some [⟨true, OC.rows [K.f FloatKind.f32] (Prod.snd (Prod.snd (Pure.laws_markFloat32S_L0 F (Nat.succ ((List.length x0) + 0)) x1 0 x0)))⟩], []⟩ else none := by kernel_rfl
  rw [h0]
  unfold Pure.laws_markFloat32S Pure.laws_markFloat32S_1 Pure.laws_markFloat32S_ok
  cases (Prod.fst (Pure.laws_markFloat32S_L0 F (Nat.succ ((List.length x0) + 0)) x1 0 x0)) with
  | true =>
    intro _; rfl
  | false =>
    intro h; exact absurd h Bool.false_ne_true
theorem ok_laws_markFloat32S : CallOK Try.prog 22 (c_laws_markFloat32S real) := by
  refine callOK_of fun args h ret hc => ?_
  unfold c_laws_markFloat32S at hc
  split at hc
  · rename_i x1 x0
    obtain ⟨hok, rfl⟩ := some_ret hc
    exact holdsE_ev prog_ok allOK_nil Try.func22 rfl rfl (smL_cons (body := .loop (loopB 0 (codeOf Try.f22))) (by kernel_rfl) t_laws_markFloat32S_L0 smL_nil) (e_laws_markFloat32S real x0 x1 hok)
  · cases hc
def Pure.laws_heldFloat32S_L0 (F : FOps) (y2 : List (List Int)) : Nat → Int → Int → (Bool × Bool × Int × Int)
  | 0, _, _ => (false, false, 0, 0)
  | n + 1, y0, y1 => bif (Decidable.decide (y1 < (Int.ofNat (List.length y2)))) then (bif (Decidable.decide (0 ≤ y1)) then (bif (Decidable.decide (y1 < (Int.ofNat (List.length y2)))) then (bif (FOps.cmp F BinOp.neq FloatKind.f32 (List.getD (List.getD y2 (Int.toNat y1) []) 0 0) (FOps.ofInt F FloatKind.f32 y0)) then ((true, true, 0, y0)) else (Pure.laws_heldFloat32S_L0 F y2 n (IntKind.wrap IntKind.i64 (y0 + 1)) (IntKind.wrap IntKind.i64 (y1 + 1)))) else ((false, false, 0, 0))) else ((false, false, 0, 0))) else ((true, false, y0, 0))
def R_laws_heldFloat32S_L0 (y2 : List (List Int)) (r : (Bool × Bool × Int × Int)) : Bool × Bool × (Ex × List V × List Ob) × (Ex × List V × List Ob) := ((r).1, (r).2.1, (Ex.normal, [V.at (A.int IntKind.i64 (r).2.2.1), V.at A.undef], [⟨false, OC.rows [K.f FloatKind.f32] y2⟩]), (Ex.ret, [V.at (A.int IntKind.i64 (r).2.2.2), V.at (A.int IntKind.i64 (-1))], [⟨false, OC.rows [K.f FloatKind.f32] y2⟩]))
def S_laws_heldFloat32S_L0 (F : FOps) : Sm := ⟨[0, 1, 5], [31, 3, 3], [1, 4], fun vals hp => match vals, hp with
  | [V.at (A.sl 0), V.at (A.int IntKind.i64 y0), V.at (A.int IntKind.i64 y1)], [⟨false, OC.rows [K.f FloatKind.f32] y2⟩] => some (R_laws_heldFloat32S_L0 y2 (Pure.laws_heldFloat32S_L0 F y2 ((Int.ofNat (List.length y2)) - y1 + 1).toNat y0 y1))
  | _, _ => none⟩
theorem l_laws_heldFloat32S_L0 (F : FOps) (y2 : List (List Int)) : ∀ (fuel : Nat) (y0 : Int) (y1 : Int), (Pure.laws_heldFloat32S_L0 F y2 fuel y0 y1).1 = true → loopOf (cxS F tyl [] [] [] 0) 1 22 0 [0, 1, 5] [31, 3, 3] [1, 4] (loopB 0 (codeOf Try.f23)) fuel [V.at (A.sl 0), V.at (A.int IntKind.i64 y0), V.at (A.int IntKind.i64 y1)] [⟨false, OC.rows [K.f FloatKind.f32] y2⟩] = resOf (R_laws_heldFloat32S_L0 y2 (Pure.laws_heldFloat32S_L0 F y2 fuel y0 y1)) := by
  intro fuel
  induction fuel with
  | zero => intro y0 y1 h; exact absurd h Bool.false_ne_true
  | succ n ih =>
    intro y0 y1
    have h0 : roundOf (cxS F tyl [] [] [] 0) 1 22 0 [0, 1, 5] [31, 3, 3] [1, 4] (loopB 0 (codeOf Try.f23)) [V.at (A.sl 0), V.at (A.int IntKind.i64 y0), V.at (A.int IntKind.i64 y1)] [⟨false, OC.rows [K.f FloatKind.f32] y2⟩] = (bif Decidable.decide (y1 < (Int.ofNat (List.length y2))) then bif Decidable.decide (0 ≤ y1) then bif Decidable.decide (y1 < (Int.ofNat (List.length y2))) then bif FOps.cmp F BinOp.neq FloatKind.f32 (List.getD (List.getD y2 (Int.toNat y1) []) 0 0) (FOps.ofInt F FloatKind.f32 y0) then some (false, (Ex.ret, ([V.at (A.int IntKind.i64 y0), V.at (A.int IntKind.i64 (-1))], [⟨false, OC.rows [K.f FloatKind.f32] y2⟩]))) else some (true, (Ex.normal, ([V.at (A.sl 0), V.at (A.int IntKind.i64 (IntKind.wrap IntKind.i64 (y0 + 1))), V.at (A.int IntKind.i64 (IntKind.wrap IntKind.i64 (y1 + 1)))], [⟨false, OC.rows [K.f FloatKind.f32] y2⟩]))) else none else none else some (false, (Ex.normal, ([V.at (A.int IntKind.i64 y0), V.at A.undef], [⟨false, OC.rows [K.f FloatKind.f32] y2⟩])))) := by kernel_rfl
    unfold loopOf
    rw [h0]
    unfold Pure.laws_heldFloat32S_L0
    cases (Decidable.decide (y1 < (Int.ofNat (List.length y2)))) with
    | true =>
      cases (Decidable.decide (0 ≤ y1)) with
      | true =>
        cases (FOps.cmp F BinOp.neq FloatKind.f32 (List.getD (List.getD y2 (Int.toNat y1) []) 0 0) (FOps.ofInt F FloatKind.f32 y0)) with
        | true =>
          intro _; rfl
        | false =>
          exact ih _ _
      | false =>
        intro h; exact absurd h Bool.false_ne_true
    | false =>
      intro _; rfl
theorem t_laws_heldFloat32S_L0 : SmTo Try.prog 1 22 (S_laws_heldFloat32S_L0 real) 0 (.loop (loopB 0 (codeOf Try.f23))) := by
  refine smTo_ev (cl := []) (ef := []) (sm := []) (un := 0) prog_ok allOK_nil smL_nil ?_
  intro vals hp q r h hq
  unfold S_laws_heldFloat32S_L0 at h
  dsimp only at h
  split at h
  · rename_i y0 y1 y2
    obtain rfl := Option.some.inj h
    have h1 := hq
    unfold resOf at h1
    rw [chk_some] at h1
    exact ⟨_, (l_laws_heldFloat32S_L0 real y2 _ y0 y1 h1.1).trans hq⟩
  · cases h
def Pure.laws_heldFloat32S (F : FOps) (x0 : List (List Int)) (x1 : Int) : Int := bif Prod.fst (Prod.snd (Pure.laws_heldFloat32S_L0 F x0 (Nat.succ ((List.length x0) + 0)) x1 0)) then (-1) else Prod.fst (Prod.snd (Prod.snd (Pure.laws_heldFloat32S_L0 F x0 (Nat.succ ((List.length x0) + 0)) x1 0)))
def Pure.laws_heldFloat32S_ok (F : FOps) (x0 : List (List Int)) (x1 : Int) : Bool := Prod.fst (Pure.laws_heldFloat32S_L0 F x0 (Nat.succ ((List.length x0) + 0)) x1 0)
def c_laws_heldFloat32S (F : FOps) : Con
  | [V.at (A.sl 0), V.at (A.int IntKind.i64 x1)], [⟨false, OC.rows [K.f FloatKind.f32] x0⟩] => some (Pure.laws_heldFloat32S_ok F x0 x1, ⟨V.at (A.int IntKind.i64 (Pure.laws_heldFloat32S F x0 x1)), none, []⟩)
  | _, _ => none
theorem e_laws_heldFloat32S (F : FOps) (x0 : List (List Int)) (x1 : Int) : Pure.laws_heldFloat32S_ok F x0 x1 = true → evFn (cxS F tyl [] [] [(0, S_laws_heldFloat32S_L0 F)] 0) Try.f23 false [V.at (A.sl 0), V.at (A.int IntKind.i64 x1)] [⟨false, OC.rows [K.f FloatKind.f32] x0⟩] = some ⟨V.at (A.int IntKind.i64 (Pure.laws_heldFloat32S F x0 x1)), none, []⟩ := by
  have h0 : evFn (cxS F tyl [] [] [(0, S_laws_heldFloat32S_L0 F)] 0) Try.f23 false [V.at (A.sl 0), V.at (A.int IntKind.i64 x1)] [⟨false, OC.rows [K.f FloatKind.f32] x0⟩] = bif Prod.fst (Pure.laws_heldFloat32S_L0 F x0 (Nat.succ ((List.length x0) + 0)) x1 0) then bif Prod.fst (Prod.snd (Pure.laws_heldFloat32S_L0 F x0 (Nat.succ ((List.length x0) + 0)) x1 0)) then some ⟨V.at (A.int IntKind.i64 (-1)), none, []⟩ else some ⟨V.at (A.int IntKind.i64 (Prod.fst (Prod.snd (Prod.snd (Pure.laws_heldFloat32S_L0 F x0 (Nat.succ ((List.length x0) + 0)) x1 0))))), none, []⟩ else none := by kernel_rfl
  rw [h0]
  unfold Pure.laws_heldFloat32S Pure.laws_heldFloat32S_ok
  cases (Prod.fst (Pure.laws_heldFloat32S_L0 F x0 (Nat.succ ((List.length x0) + 0)) x1 0)) with
  | true =>
    cases (Prod.fst (Prod.snd (Pure.laws_heldFloat32S_L0 F x0 (Nat.succ ((List.length x0) + 0)) x1 0))) with
    | true =>
      intro _; rfl
    | false =>
      intro _; rfl
  | false =>
    intro h; exact absurd h Bool.false_ne_true
theorem ok_laws_heldFloat32S : CallOK Try.prog 23 (c_laws_heldFloat32S real) := by
  refine callOK_of fun args h ret hc => ?_
  unfold c_laws_heldFloat32S at hc
  split at hc
  · rename_i x1 x0
    obtain ⟨hok, rfl⟩ := some_ret hc
    exact holds_ev prog_ok allOK_nil Try.func23 rfl rfl (smL_cons (body := .loop (loopB 0 (codeOf Try.f23))) (by kernel_rfl) t_laws_heldFloat32S_L0 smL_nil) rfl (e_laws_heldFloat32S real x0 x1 hok)
  · cases hc
def Pure.laws_FnExactSlopesOf (F : FOps) (x0 : Int) (x1 : Int) (x2 : Int) : Bool := bif Pure.laws_eqFloat32S F (Pure.impl_SlopesOf_1 F x0 x1 x2) (Pure.spec_SlopesOf_1 F x0 x1 x2) then bif (Pure.impl_SlopesOf F x0 x1 x2) == (Pure.spec_SlopesOf F x0 x1 x2) then bif Decidable.decide ((Pure.laws_heldFloat32S F (Pure.laws_markFloat32S_1 F (Pure.impl_SlopesOf_1 F x0 x1 x2) 1) 1) < 0) then false else bif (Pure.laws_heldFloat32S F (Pure.laws_markFloat32S_1 F (Pure.impl_SlopesOf_1 F x0 x1 x2) 1) 1) != (Pure.laws_markFloat32S F (Pure.impl_SlopesOf_1 F x0 x1 x2) 1) then false else true else false else false
def Pure.laws_FnExactSlopesOf_ok (F : FOps) (x0 : Int) (x1 : Int) (x2 : Int) : Bool := bif Pure.spec_SlopesOf_ok F x0 x1 x2 then bif Pure.impl_SlopesOf_ok F x0 x1 x2 then bif Pure.laws_eqFloat32S_ok F (Pure.impl_SlopesOf_1 F x0 x1 x2) (Pure.spec_SlopesOf_1 F x0 x1 x2) then bif Pure.laws_eqFloat32S F (Pure.impl_SlopesOf_1 F x0 x1 x2) (Pure.spec_SlopesOf_1 F x0 x1 x2) then bif (Pure.impl_SlopesOf F x0 x1 x2) == (Pure.spec_SlopesOf F x0 x1 x2) then bif Pure.laws_markFloat32S_ok F (Pure.impl_SlopesOf_1 F x0 x1 x2) 1 then Pure.laws_heldFloat32S_ok F (Pure.laws_markFloat32S_1 F (Pure.impl_SlopesOf_1 F x0 x1 x2) 1) 1 else false else true else true else false else false else false
def c_laws_FnExactSlopesOf (F : FOps) : Con
  | [V.agg [A.fl FloatKind.f32 x0, A.fl FloatKind.f32 x1], V.at (A.fl FloatKind.f32 x2)], [] => some (Pure.laws_FnExactSlopesOf_ok F x0 x1 x2, ⟨V.at (A.bool (Pure.laws_FnExactSlopesOf F x0 x1 x2)), none, []⟩)
  | _, _ => none
theorem e_laws_FnExactSlopesOf (F : FOps) (x0 : Int) (x1 : Int) (x2 : Int) : Pure.laws_FnExactSlopesOf_ok F x0 x1 x2 = true → evFn (cxS F tyl [(16, c_laws_toState F), (19, c_spec_SlopesOf F), (20, c_impl_SlopesOf F), (21, c_laws_eqFloat32S F), (22, c_laws_markFloat32S F), (23, c_laws_heldFloat32S F)] [22] [] 0) Try.f4 false [V.agg [A.fl FloatKind.f32 x0, A.fl FloatKind.f32 x1], V.at (A.fl FloatKind.f32 x2)] [] = some ⟨V.at (A.bool (Pure.laws_FnExactSlopesOf F x0 x1 x2)), none, []⟩ := by
  have h0 : evFn (cxS F tyl [(16, c_laws_toState F), (19, c_spec_SlopesOf F), (20, c_impl_SlopesOf F), (21, c_laws_eqFloat32S F), (22, c_laws_markFloat32S F), (23, c_laws_heldFloat32S F)] [22] [] 0) Try.f4 false [V.agg [A.fl FloatKind.f32 x0, A.fl FloatKind.f32 x1], V.at (A.fl FloatKind.f32 x2)] [] = bif Pure.spec_SlopesOf_ok F x0 x1 x2 then bif Pure.impl_SlopesOf_ok F x0 x1 x2 then bif Pure.laws_eqFloat32S_ok F (Pure.impl_SlopesOf_1 F x0 x1 x2) (Pure.spec_SlopesOf_1 F x0 x1 x2) then bif Bool.not (Pure.laws_eqFloat32S F (Pure.impl_SlopesOf_1 F x0 x1 x2) (Pure.spec_SlopesOf_1 F x0 x1 x2)) then some ⟨V.at (A.bool false), none, []⟩ else bif Bool.not ((Pure.impl_SlopesOf F x0 x1 x2) == (Pure.spec_SlopesOf F x0 x1 x2)) then some ⟨V.at (A.bool false), none, []⟩ else bif Pure.laws_markFloat32S_ok F (Pure.impl_SlopesOf_1 F x0 x1 x2) 1 then bif Pure.laws_heldFloat32S_ok F (Pure.laws_markFloat32S_1 F (Pure.impl_SlopesOf_1 F x0 x1 x2) 1) 1 then bif Decidable.decide ((Pure.laws_heldFloat32S F (Pure.laws_markFloat32S_1 F (Pure.impl_SlopesOf_1 F x0 x1 x2) 1) 1) < 0) then some ⟨V.at (A.bool false), none, []⟩ else bif (Pure.laws_heldFloat32S F (Pure.laws_markFloat32S_1 F (Pure.impl_SlopesOf_1 F x0 x1 x2) 1) 1) != (Pure.laws_markFloat32S F (Pure.impl_SlopesOf_1 F x0 x1 x2) 1) then some ⟨V.at (A.bool false), none, []⟩ else bif Pure.impl_SlopesOf_ok F x0 x1 x2 then bif Pure.laws_eqFloat32S_ok F (Pure.impl_SlopesOf_1 F x0 x1 x2) (Pure.spec_SlopesOf_1 F x0 x1 x2) then bif Bool.not (Pure.laws_eqFloat32S F (Pure.impl_SlopesOf_1 F x0 x1 x2) (Pure.spec_SlopesOf_1 F x0 x1 x2)) then some ⟨V.at (A.bool false), none, []⟩ else bif Bool.not ((Pure.impl_SlopesOf F x0 x1 x2) == (Pure.spec_SlopesOf F x0 x1 x2)) then some ⟨V.at (A.bool false), none, []⟩ else bif Pure.laws_heldFloat32S_ok F (Pure.laws_markFloat32S_1 F (Pure.impl_SlopesOf_1 F x0 x1 x2) 1) 1 then bif Decidable.decide ((Pure.laws_heldFloat32S F (Pure.laws_markFloat32S_1 F (Pure.impl_SlopesOf_1 F x0 x1 x2) 1) 1) < 0) then some ⟨V.at (A.bool false), none, []⟩ else bif (Pure.laws_heldFloat32S F (Pure.laws_markFloat32S_1 F (Pure.impl_SlopesOf_1 F x0 x1 x2) 1) 1) != (Pure.laws_markFloat32S F (Pure.impl_SlopesOf_1 F x0 x1 x2) 1) then some ⟨V.at (A.bool false), none, []⟩ else some ⟨V.at (A.bool true), none, []⟩ else none else none else none else none else none else none else none else none := by kernel_rfl
  rw [h0]
  unfold Pure.laws_FnExactSlopesOf Pure.laws_FnExactSlopesOf_ok
  cases (Pure.spec_SlopesOf_ok F x0 x1 x2) with
  | true =>
    cases (Pure.impl_SlopesOf_ok F x0 x1 x2) with
    | true =>
      cases (Pure.laws_eqFloat32S_ok F (Pure.impl_SlopesOf_1 F x0 x1 x2) (Pure.spec_SlopesOf_1 F x0 x1 x2)) with
      | true =>
        cases (Pure.laws_eqFloat32S F (Pure.impl_SlopesOf_1 F x0 x1 x2) (Pure.spec_SlopesOf_1 F x0 x1 x2)) with
        | true =>
          cases ((Pure.impl_SlopesOf F x0 x1 x2) == (Pure.spec_SlopesOf F x0 x1 x2)) with
          | true =>
            cases (Pure.laws_markFloat32S_ok F (Pure.impl_SlopesOf_1 F x0 x1 x2) 1) with
            | true =>
              cases (Pure.laws_heldFloat32S_ok F (Pure.laws_markFloat32S_1 F (Pure.impl_SlopesOf_1 F x0 x1 x2) 1) 1) with
              | true =>
                cases (Decidable.decide ((Pure.laws_heldFloat32S F (Pure.laws_markFloat32S_1 F (Pure.impl_SlopesOf_1 F x0 x1 x2) 1) 1) < 0)) with
                | true =>
                  intro _; rfl
                | false =>
                  cases ((Pure.laws_heldFloat32S F (Pure.laws_markFloat32S_1 F (Pure.impl_SlopesOf_1 F x0 x1 x2) 1) 1) != (Pure.laws_markFloat32S F (Pure.impl_SlopesOf_1 F x0 x1 x2) 1)) with
                  | true =>
                    intro _; rfl
                  | false =>
                    intro _; rfl
              | false =>
                intro h; exact absurd h Bool.false_ne_true
            | false =>
              intro h; exact absurd h Bool.false_ne_true
          | false =>
            intro _; rfl
        | false =>
          intro _; rfl
      | false =>
        intro h; exact absurd h Bool.false_ne_true
    | false =>
      intro h; exact absurd h Bool.false_ne_true
  | false =>
    intro h; exact absurd h Bool.false_ne_true
theorem ok_laws_FnExactSlopesOf : CallOK Try.prog 4 (c_laws_FnExactSlopesOf real) := by
  refine callOK_of fun args h ret hc => ?_
  unfold c_laws_FnExactSlopesOf at hc
  split at hc
  · rename_i x0 x1 x2
    obtain ⟨hok, rfl⟩ := some_ret hc
    exact holds_ev prog_ok (allOK_cons ok_laws_toState (allOK_cons ok_spec_SlopesOf (allOK_cons ok_impl_SlopesOf (allOK_cons ok_laws_eqFloat32S (allOK_cons ok_laws_markFloat32S (allOK_cons ok_laws_heldFloat32S allOK_nil)))))) Try.func4 rfl rfl smL_nil rfl (e_laws_FnExactSlopesOf real x0 x1 x2 hok)
  · cases hc
end Go.Fx
