import Derived.Test.YtpgpjkkncghbhaaXr2e
import Derived.KernelRfl
namespace Go.Fx
open Go.Proofs
def Pure.impl_SetBall_c1 (F : FOps) (x0 : List (List Int)) (x1 : Int) (x2 : Int) (x3 : Int) (x4 : Int) (x5 : Int) : Bool := Pure.impl_in F x2 0 (IntKind.wrap IntKind.i64 ((Int.ofNat (List.length x0)) - 1))
def Pure.impl_SetBall_c1_1 (F : FOps) (x0 : List (List Int)) (x1 : Int) (x2 : Int) (x3 : Int) (x4 : Int) (x5 : Int) : List (List Int) := bif Pure.impl_in F x2 0 (IntKind.wrap IntKind.i64 ((Int.ofNat (List.length x0)) - 1)) then List.set x0 (Int.toNat x2) [x3, x4, x5] else x0
def Pure.impl_SetBall_c1_ok (F : FOps) (x0 : List (List Int)) (x1 : Int) (x2 : Int) (x3 : Int) (x4 : Int) (x5 : Int) : Bool := bif Pure.impl_in F x2 0 (IntKind.wrap IntKind.i64 ((Int.ofNat (List.length x0)) - 1)) then bif Decidable.decide (0 ≤ x2) then Decidable.decide (x2 < (Int.ofNat (List.length x0))) else false else true
def c_impl_SetBall_c1 (F : FOps) : Con
  | [V.at (A.ptr 0 0 0), V.at (A.ptr 1 0 0), V.at (A.ptr 2 0 0)], [⟨true, OC.box [A.sl 3, A.fl FloatKind.f32 x1]⟩, ⟨false, OC.box [A.int IntKind.i64 x2]⟩, ⟨false, OC.box [A.fl FloatKind.f32 x3, A.fl FloatKind.f32 x4, A.fl FloatKind.f32 x5]⟩, ⟨true, OC.rows [K.f FloatKind.f32, K.f FloatKind.f32, K.f FloatKind.f32] x0⟩] => some (Pure.impl_SetBall_c1_ok F x0 x1 x2 x3 x4 x5, ⟨V.at (A.bool (Pure.impl_SetBall_c1 F x0 x1 x2 x3 x4 x5)), some [⟨true, OC.box [A.sl 3, A.fl FloatKind.f32 x1]⟩, ⟨false, OC.box [A.int IntKind.i64 x2]⟩, ⟨false, OC.box [A.fl FloatKind.f32 x3, A.fl FloatKind.f32 x4, A.fl FloatKind.f32 x5]⟩, ⟨true, OC.rows [K.f FloatKind.f32, K.f FloatKind.f32, K.f FloatKind.f32] (Pure.impl_SetBall_c1_1 F x0 x1 x2 x3 x4 x5)⟩], []⟩)
  | _, _ => none
theorem e_impl_SetBall_c1 (F : FOps) (x0 : List (List Int)) (x1 : Int) (x2 : Int) (x3 : Int) (x4 : Int) (x5 : Int) : Pure.impl_SetBall_c1_ok F x0 x1 x2 x3 x4 x5 = true → evFn (cxS F tyl [(48, c_impl_in F)] [] [] 0) Try.f69 true [V.at (A.ptr 0 0 0), V.at (A.ptr 1 0 0), V.at (A.ptr 2 0 0)] [⟨true, OC.box [A.sl 3, A.fl FloatKind.f32 x1]⟩, ⟨false, OC.box [A.int IntKind.i64 x2]⟩, ⟨false, OC.box [A.fl FloatKind.f32 x3, A.fl FloatKind.f32 x4, A.fl FloatKind.f32 x5]⟩, ⟨true, OC.rows [K.f FloatKind.f32, K.f FloatKind.f32, K.f FloatKind.f32] x0⟩] = some ⟨V.at (A.bool (Pure.impl_SetBall_c1 F x0 x1 x2 x3 x4 x5)), some [⟨true, OC.box [A.sl 3, A.fl FloatKind.f32 x1]⟩, ⟨false, OC.box [A.int IntKind.i64 x2]⟩, ⟨false, OC.box [A.fl FloatKind.f32 x3, A.fl FloatKind.f32 x4, A.fl FloatKind.f32 x5]⟩, ⟨true, OC.rows [K.f FloatKind.f32, K.f FloatKind.f32, K.f FloatKind.f32] (Pure.impl_SetBall_c1_1 F x0 x1 x2 x3 x4 x5)⟩], []⟩ := by
  have h0 : evFn (cxS F tyl [(48, c_impl_in F)] [] [] 0) Try.f69 true [V.at (A.ptr 0 0 0), V.at (A.ptr 1 0 0), V.at (A.ptr 2 0 0)] [⟨true, OC.box [A.sl 3, A.fl FloatKind.f32 x1]⟩, ⟨false, OC.box [A.int IntKind.i64 x2]⟩, ⟨false, OC.box [A.fl FloatKind.f32 x3, A.fl FloatKind.f32 x4, A.fl FloatKind.f32 x5]⟩, ⟨true, OC.rows [K.f FloatKind.f32, K.f FloatKind.f32, K.f FloatKind.f32] x0⟩] = bif Bool.not (Pure.impl_in F x2 0 (IntKind.wrap IntKind.i64 ((Int.ofNat (List.length x0)) - 1))) then some ⟨V.at (A.bool false), some [⟨true, OC.box [A.sl 3, A.fl FloatKind.f32 x1]⟩, ⟨false, OC.box [A.int IntKind.i64 x2]⟩, ⟨false, OC.box [A.fl FloatKind.f32 x3, A.fl FloatKind.f32 x4, A.fl FloatKind.f32 x5]⟩, ⟨true, OC.rows [K.f FloatKind.f32, K.f FloatKind.f32, K.f FloatKind.f32] x0⟩], []⟩ else bif Decidable.decide (0 ≤ x2) then bif Decidable.decide (x2 < (Int.ofNat (List.length x0))) then some ⟨V.at (A.bool true), some [⟨true, OC.box [A.sl 3, A.fl FloatKind.f32 x1]⟩, ⟨false, OC.box [A.int IntKind.i64 x2]⟩, ⟨false, OC.box [A.fl FloatKind.f32 x3, A.fl FloatKind.f32 x4, A.fl FloatKind.f32 x5]⟩, ⟨true, OC.rows [K.f FloatKind.f32, K.f FloatKind.f32, K.f FloatKind.f32] (List.set x0 (Int.toNat x2) [x3, x4, x5])⟩], []⟩ else none else none := by kernel_rfl
  rw [h0]
  unfold Pure.impl_SetBall_c1 Pure.impl_SetBall_c1_1 Pure.impl_SetBall_c1_ok
  cases (Pure.impl_in F x2 0 (IntKind.wrap IntKind.i64 ((Int.ofNat (List.length x0)) - 1))) with
  | true =>
    cases (Decidable.decide (0 ≤ x2)) with
    | true =>
      cases (Decidable.decide (x2 < (Int.ofNat (List.length x0)))) with
      | true =>
        intro _; rfl
      | false =>
        intro h; exact absurd h Bool.false_ne_true
    | false =>
      intro h; exact absurd h Bool.false_ne_true
  | false =>
    intro _; rfl
theorem ok_impl_SetBall_c1 : CallOK Try.prog 69 (c_impl_SetBall_c1 real) := by
  refine callOK_of fun args h ret hc => ?_
  unfold c_impl_SetBall_c1 at hc
  split at hc
  · rename_i x1 x2 x3 x4 x5 x0
    obtain ⟨hok, rfl⟩ := some_ret hc
    exact holdsE_ev prog_ok (allOK_cons ok_impl_in allOK_nil) Try.func69 rfl rfl smL_nil (e_impl_SetBall_c1 real x0 x1 x2 x3 x4 x5 hok)
  · cases hc
def Pure.impl_changedRow_set (F : FOps) (x0 : List (List Int)) (x1 : Int) (x2 : Int) (x3 : Int) (x4 : Int) (x5 : Int) : Int := bif Pure.impl_ValidRow F x0 x1 then bif Pure.impl_SetBall_c1 F x0 x1 x2 x3 x4 x5 then bif Pure.impl_ValidRow F (Pure.impl_SetBall_c1_1 F x0 x1 x2 x3 x4 x5) x1 then x1 else 0 else 0 else 0
def Pure.impl_changedRow_set_1 (F : FOps) (x0 : List (List Int)) (x1 : Int) (x2 : Int) (x3 : Int) (x4 : Int) (x5 : Int) : Bool := bif Pure.impl_ValidRow F x0 x1 then bif Pure.impl_SetBall_c1 F x0 x1 x2 x3 x4 x5 then Pure.impl_ValidRow F (Pure.impl_SetBall_c1_1 F x0 x1 x2 x3 x4 x5) x1 else false else false
def Pure.impl_changedRow_set_2 (F : FOps) (x0 : List (List Int)) (x1 : Int) (x2 : Int) (x3 : Int) (x4 : Int) (x5 : Int) : List (List Int) := bif Pure.impl_ValidRow F x0 x1 then bif Pure.impl_SetBall_c1 F x0 x1 x2 x3 x4 x5 then bif Pure.impl_ValidRow F (Pure.impl_SetBall_c1_1 F x0 x1 x2 x3 x4 x5) x1 then Pure.impl_SetBall_c1_1 F x0 x1 x2 x3 x4 x5 else [] else [] else []
def Pure.impl_changedRow_set_ok (F : FOps) (x0 : List (List Int)) (x1 : Int) (x2 : Int) (x3 : Int) (x4 : Int) (x5 : Int) : Bool := bif Pure.impl_ValidRow_ok F x0 x1 then bif Pure.impl_ValidRow F x0 x1 then bif Decidable.decide ((List.length x0) ≤ 1073741824) then bif Pure.impl_SetBall_c1_ok F x0 x1 x2 x3 x4 x5 then bif Pure.impl_SetBall_c1 F x0 x1 x2 x3 x4 x5 then Pure.impl_ValidRow_ok F (Pure.impl_SetBall_c1_1 F x0 x1 x2 x3 x4 x5) x1 else true else false else false else true else false
def c_impl_changedRow_set (F : FOps) : Con
  | [V.agg [A.sl 0, A.fl FloatKind.f32 x1], V.at (A.fn 69 [(1, (0, 0)), (2, (0, 0))])], [⟨false, OC.rows [K.f FloatKind.f32, K.f FloatKind.f32, K.f FloatKind.f32] x0⟩, ⟨false, OC.box [A.int IntKind.i64 x2]⟩, ⟨false, OC.box [A.fl FloatKind.f32 x3, A.fl FloatKind.f32 x4, A.fl FloatKind.f32 x5]⟩] => some (Pure.impl_changedRow_set_ok F x0 x1 x2 x3 x4 x5, ⟨V.tup [(true, [A.sl 3, A.fl FloatKind.f32 (Pure.impl_changedRow_set F x0 x1 x2 x3 x4 x5)]), (false, [A.bool (Pure.impl_changedRow_set_1 F x0 x1 x2 x3 x4 x5)])], none, [⟨true, OC.rows [K.f FloatKind.f32, K.f FloatKind.f32, K.f FloatKind.f32] (Pure.impl_changedRow_set_2 F x0 x1 x2 x3 x4 x5)⟩]⟩)
  | _, _ => none
theorem e_impl_changedRow_set (F : FOps) (x0 : List (List Int)) (x1 : Int) (x2 : Int) (x3 : Int) (x4 : Int) (x5 : Int) : Pure.impl_changedRow_set_ok F x0 x1 x2 x3 x4 x5 = true → evFn (cxS F tyl [(49, c_impl_ValidRow F), (85, c_slices_Clone_impl_Ball_impl_Ball F), (69, c_impl_SetBall_c1 F)] [69] [] 0) Try.f66 false [V.agg [A.sl 0, A.fl FloatKind.f32 x1], V.at (A.fn 69 [(1, (0, 0)), (2, (0, 0))])] [⟨false, OC.rows [K.f FloatKind.f32, K.f FloatKind.f32, K.f FloatKind.f32] x0⟩, ⟨false, OC.box [A.int IntKind.i64 x2]⟩, ⟨false, OC.box [A.fl FloatKind.f32 x3, A.fl FloatKind.f32 x4, A.fl FloatKind.f32 x5]⟩] = some ⟨V.tup [(true, [A.sl 3, A.fl FloatKind.f32 (Pure.impl_changedRow_set F x0 x1 x2 x3 x4 x5)]), (false, [A.bool (Pure.impl_changedRow_set_1 F x0 x1 x2 x3 x4 x5)])], none, [⟨true, OC.rows [K.f FloatKind.f32, K.f FloatKind.f32, K.f FloatKind.f32] (Pure.impl_changedRow_set_2 F x0 x1 x2 x3 x4 x5)⟩]⟩ := by
  have h0 : evFn (cxS F tyl [(49, c_impl_ValidRow F), (85, c_slices_Clone_impl_Ball_impl_Ball F), (69, c_impl_SetBall_c1 F)] [69] [] 0) Try.f66 false [V.agg [A.sl 0, A.fl FloatKind.f32 x1], V.at (A.fn 69 [(1, (0, 0)), (2, (0, 0))])] [⟨false, OC.rows [K.f FloatKind.f32, K.f FloatKind.f32, K.f FloatKind.f32] x0⟩, ⟨false, OC.box [A.int IntKind.i64 x2]⟩, ⟨false, OC.box [A.fl FloatKind.f32 x3, A.fl FloatKind.f32 x4, A.fl FloatKind.f32 x5]⟩] = bif Pure.impl_ValidRow_ok F x0 x1 then bif Bool.not (Pure.impl_ValidRow F x0 x1) then some ⟨V.tup [(true, [A.sl 3, A.fl FloatKind.f32 0]), (false, [A.bool false])], none, [⟨true, OC.rows [K.f FloatKind.f32, K.f FloatKind.f32, K.f FloatKind.f32] []⟩]⟩ else bif Decidable.decide ((List.length x0) ≤ 1073741824) then bif Pure.impl_SetBall_c1_ok F x0 x1 x2 x3 x4 x5 then bif Bool.not (Pure.impl_SetBall_c1 F x0 x1 x2 x3 x4 x5) then some ⟨V.tup [(true, [A.sl 3, A.fl FloatKind.f32 0]), (false, [A.bool false])], none, [⟨true, OC.rows [K.f FloatKind.f32, K.f FloatKind.f32, K.f FloatKind.f32] []⟩]⟩ else bif Pure.impl_ValidRow_ok F (Pure.impl_SetBall_c1_1 F x0 x1 x2 x3 x4 x5) x1 then bif Bool.not (Pure.impl_ValidRow F (Pure.impl_SetBall_c1_1 F x0 x1 x2 x3 x4 x5) x1) then some ⟨V.tup [(true, [A.sl 3, A.fl FloatKind.f32 0]), (false, [A.bool false])], none, [⟨true, OC.rows [K.f FloatKind.f32, K.f FloatKind.f32, K.f FloatKind.f32] []⟩]⟩ else some ⟨V.tup [(true, [A.sl 3, A.fl FloatKind.f32 x1]), (false, [A.bool true])], none, [⟨true, OC.rows [K.f FloatKind.f32, K.f FloatKind.f32, K.f FloatKind.f32] (Pure.impl_SetBall_c1_1 F x0 x1 x2 x3 x4 x5)⟩]⟩ else none else none else none else none := by kernel_rfl
  rw [h0]
  unfold Pure.impl_changedRow_set Pure.impl_changedRow_set_1 Pure.impl_changedRow_set_2 Pure.impl_changedRow_set_ok
  cases (Pure.impl_ValidRow_ok F x0 x1) with
  | true =>
    cases (Pure.impl_ValidRow F x0 x1) with
    | true =>
      cases (Decidable.decide ((List.length x0) ≤ 1073741824)) with
      | true =>
        cases (Pure.impl_SetBall_c1_ok F x0 x1 x2 x3 x4 x5) with
        | true =>
          cases (Pure.impl_SetBall_c1 F x0 x1 x2 x3 x4 x5) with
          | true =>
            cases (Pure.impl_ValidRow_ok F (Pure.impl_SetBall_c1_1 F x0 x1 x2 x3 x4 x5) x1) with
            | true =>
              cases (Pure.impl_ValidRow F (Pure.impl_SetBall_c1_1 F x0 x1 x2 x3 x4 x5) x1) with
              | true =>
                intro _; rfl
              | false =>
                intro _; rfl
            | false =>
              intro h; exact absurd h Bool.false_ne_true
          | false =>
            intro _; rfl
        | false =>
          intro h; exact absurd h Bool.false_ne_true
      | false =>
        intro h; exact absurd h Bool.false_ne_true
    | false =>
      intro _; rfl
  | false =>
    intro h; exact absurd h Bool.false_ne_true
theorem ok_impl_changedRow_set : CallOK Try.prog 66 (c_impl_changedRow_set real) := by
  refine callOK_of fun args h ret hc => ?_
  unfold c_impl_changedRow_set at hc
  split at hc
  · rename_i x1 x0 x2 x3 x4 x5
    obtain ⟨hok, rfl⟩ := some_ret hc
    exact holds_ev prog_ok (allOK_cons ok_impl_ValidRow (allOK_cons ok_slices_Clone_impl_Ball_impl_Ball (allOK_cons ok_impl_SetBall_c1 allOK_nil))) Try.func66 rfl rfl smL_nil rfl (e_impl_changedRow_set real x0 x1 x2 x3 x4 x5 hok)
  · cases hc
def c_impl_changedRow_or3 (F : FOps) : Con := orC (c_impl_changedRow_or2 F) (c_impl_changedRow_set F)
theorem ok_impl_changedRow_or3 : CallOK Try.prog 66 (c_impl_changedRow_or3 real) := callOK_or ok_impl_changedRow_or2 ok_impl_changedRow_set
def Pure.spec_l00In (F : FOps) (x0 : Int) (x1 : Int) (x2 : Int) : Bool := bif Decidable.decide (x0 ≥ x1) then Decidable.decide (x0 ≤ x2) else false
def c_spec_l00In (F : FOps) : Con
  | [V.at (A.int IntKind.i64 x0), V.at (A.int IntKind.i64 x1), V.at (A.int IntKind.i64 x2)], [] => some (true, ⟨V.at (A.bool (Pure.spec_l00In F x0 x1 x2)), none, []⟩)
  | _, _ => none
theorem e_spec_l00In (F : FOps) (x0 : Int) (x1 : Int) (x2 : Int) : evFn (cxS F tyl [] [] [] 0) Try.f46 false [V.at (A.int IntKind.i64 x0), V.at (A.int IntKind.i64 x1), V.at (A.int IntKind.i64 x2)] [] = some ⟨V.at (A.bool (Pure.spec_l00In F x0 x1 x2)), none, []⟩ := by
  have h0 : evFn (cxS F tyl [] [] [] 0) Try.f46 false [V.at (A.int IntKind.i64 x0), V.at (A.int IntKind.i64 x1), V.at (A.int IntKind.i64 x2)] [] = bif Decidable.decide (x0 ≥ x1) then some ⟨V.at (A.bool (Decidable.decide (x0 ≤ x2))), none, []⟩ else some ⟨V.at (A.bool false), none, []⟩ := by kernel_rfl
  rw [h0]
  unfold Pure.spec_l00In
  cases (Decidable.decide (x0 ≥ x1)) with
  | true =>
    rfl
  | false =>
    rfl
theorem ok_spec_l00In : CallOK Try.prog 46 (c_spec_l00In real) := by
  refine callOK_of fun args h ret hc => ?_
  unfold c_spec_l00In at hc
  split at hc
  · rename_i x0 x1 x2
    obtain ⟨_, rfl⟩ := some_ret hc
    exact holds_ev prog_ok allOK_nil Try.func46 rfl rfl smL_nil rfl (e_spec_l00In real x0 x1 x2)
  · cases hc
def Pure.spec_SetBall (F : FOps) (x0 : List (List Int)) (x1 : Int) (x2 : Int) (x3 : Int) (x4 : Int) (x5 : Int) : Int := bif Pure.spec_l06Is F x0 x1 then bif Pure.spec_l00In F x2 0 (IntKind.wrap IntKind.i64 ((Int.ofNat (List.length x0)) - 1)) then bif Pure.spec_l06Give_way F (List.set x0 (Int.toNat x2) [x3, x4, x5]) x1 then x1 else 0 else 0 else 0
def Pure.spec_SetBall_1 (F : FOps) (x0 : List (List Int)) (x1 : Int) (x2 : Int) (x3 : Int) (x4 : Int) (x5 : Int) : Bool := bif Pure.spec_l06Is F x0 x1 then bif Pure.spec_l00In F x2 0 (IntKind.wrap IntKind.i64 ((Int.ofNat (List.length x0)) - 1)) then Pure.spec_l06Give_way F (List.set x0 (Int.toNat x2) [x3, x4, x5]) x1 else false else false
def Pure.spec_SetBall_2 (F : FOps) (x0 : List (List Int)) (x1 : Int) (x2 : Int) (x3 : Int) (x4 : Int) (x5 : Int) : List (List Int) := bif Pure.spec_l06Is F x0 x1 then bif Pure.spec_l00In F x2 0 (IntKind.wrap IntKind.i64 ((Int.ofNat (List.length x0)) - 1)) then bif Pure.spec_l06Give_way F (List.set x0 (Int.toNat x2) [x3, x4, x5]) x1 then List.set x0 (Int.toNat x2) [x3, x4, x5] else [] else [] else []
def Pure.spec_SetBall_ok (F : FOps) (x0 : List (List Int)) (x1 : Int) (x2 : Int) (x3 : Int) (x4 : Int) (x5 : Int) : Bool := bif Pure.spec_l06Is_ok F x0 x1 then bif Pure.spec_l06Is F x0 x1 then bif Pure.spec_l00In F x2 0 (IntKind.wrap IntKind.i64 ((Int.ofNat (List.length x0)) - 1)) then bif Pure.spec_l06Own_ok F x0 x1 then bif Decidable.decide (0 ≤ x2) then bif Decidable.decide (x2 < (Int.ofNat (List.length x0))) then bif Pure.spec_l06Give_way F (List.set x0 (Int.toNat x2) [x3, x4, x5]) x1 then Pure.spec_l06Give_okA F (List.set x0 (Int.toNat x2) [x3, x4, x5]) x1 else Pure.spec_l06Give_okB F (List.set x0 (Int.toNat x2) [x3, x4, x5]) x1 else false else false else false else true else true else false
def c_spec_SetBall (F : FOps) : Con
  | [V.agg [A.sl 0, A.fl FloatKind.f32 x1], V.at (A.int IntKind.i64 x2), V.agg [A.fl FloatKind.f32 x3, A.fl FloatKind.f32 x4, A.fl FloatKind.f32 x5]], [⟨false, OC.rows [K.f FloatKind.f32, K.f FloatKind.f32, K.f FloatKind.f32] x0⟩] => some (Pure.spec_SetBall_ok F x0 x1 x2 x3 x4 x5, ⟨V.tup [(true, [A.sl 1, A.fl FloatKind.f32 (Pure.spec_SetBall F x0 x1 x2 x3 x4 x5)]), (false, [A.bool (Pure.spec_SetBall_1 F x0 x1 x2 x3 x4 x5)])], none, [⟨true, OC.rows [K.f FloatKind.f32, K.f FloatKind.f32, K.f FloatKind.f32] (Pure.spec_SetBall_2 F x0 x1 x2 x3 x4 x5)⟩]⟩)
  | _, _ => none
theorem e_spec_SetBall (F : FOps) (x0 : List (List Int)) (x1 : Int) (x2 : Int) (x3 : Int) (x4 : Int) (x5 : Int) : Pure.spec_SetBall_ok F x0 x1 x2 x3 x4 x5 = true → evFn (cxS F tyl [(54, c_spec_l06Is F), (46, c_spec_l00In F), (63, c_spec_l06Own F)] [] [] 0 [(47, c2_spec_l06Give F)]) Try.f37 false [V.agg [A.sl 0, A.fl FloatKind.f32 x1], V.at (A.int IntKind.i64 x2), V.agg [A.fl FloatKind.f32 x3, A.fl FloatKind.f32 x4, A.fl FloatKind.f32 x5]] [⟨false, OC.rows [K.f FloatKind.f32, K.f FloatKind.f32, K.f FloatKind.f32] x0⟩] = some ⟨V.tup [(true, [A.sl 1, A.fl FloatKind.f32 (Pure.spec_SetBall F x0 x1 x2 x3 x4 x5)]), (false, [A.bool (Pure.spec_SetBall_1 F x0 x1 x2 x3 x4 x5)])], none, [⟨true, OC.rows [K.f FloatKind.f32, K.f FloatKind.f32, K.f FloatKind.f32] (Pure.spec_SetBall_2 F x0 x1 x2 x3 x4 x5)⟩]⟩ := by
  have h0 : evFn (cxS F tyl [(54, c_spec_l06Is F), (46, c_spec_l00In F), (63, c_spec_l06Own F)] [] [] 0 [(47, c2_spec_l06Give F)]) Try.f37 false [V.agg [A.sl 0, A.fl FloatKind.f32 x1], V.at (A.int IntKind.i64 x2), V.agg [A.fl FloatKind.f32 x3, A.fl FloatKind.f32 x4, A.fl FloatKind.f32 x5]] [⟨false, OC.rows [K.f FloatKind.f32, K.f FloatKind.f32, K.f FloatKind.f32] x0⟩] = bif Pure.spec_l06Is_ok F x0 x1 then bif Bool.not (Pure.spec_l06Is F x0 x1) then some ⟨V.tup [(true, [A.sl 1, A.fl FloatKind.f32 0]), (false, [A.bool false])], none, [⟨true, OC.rows [K.f FloatKind.f32, K.f FloatKind.f32, K.f FloatKind.f32] []⟩]⟩ else bif Bool.not (Pure.spec_l00In F x2 0 (IntKind.wrap IntKind.i64 ((Int.ofNat (List.length x0)) - 1))) then some ⟨V.tup [(true, [A.sl 1, A.fl FloatKind.f32 0]), (false, [A.bool false])], none, [⟨true, OC.rows [K.f FloatKind.f32, K.f FloatKind.f32, K.f FloatKind.f32] []⟩]⟩ else bif Pure.spec_l06Own_ok F x0 x1 then bif Decidable.decide (0 ≤ x2) then bif Decidable.decide (x2 < (Int.ofNat (List.length x0))) then bif Pure.spec_l06Give_way F (List.set x0 (Int.toNat x2) [x3, x4, x5]) x1 then bif Pure.spec_l06Give_okA F (List.set x0 (Int.toNat x2) [x3, x4, x5]) x1 then some ⟨V.tup [(true, [A.sl 1, A.fl FloatKind.f32 x1]), (false, [A.bool true])], none, [⟨true, OC.rows [K.f FloatKind.f32, K.f FloatKind.f32, K.f FloatKind.f32] (List.set x0 (Int.toNat x2) [x3, x4, x5])⟩]⟩ else none else bif Pure.spec_l06Give_okB F (List.set x0 (Int.toNat x2) [x3, x4, x5]) x1 then some ⟨V.tup [(true, [A.sl 1, A.fl FloatKind.f32 0]), (false, [A.bool false])], none, [⟨true, OC.rows [K.f FloatKind.f32, K.f FloatKind.f32, K.f FloatKind.f32] []⟩]⟩ else none else none else none else none else none := by kernel_rfl
  rw [h0]
  unfold Pure.spec_SetBall Pure.spec_SetBall_1 Pure.spec_SetBall_2 Pure.spec_SetBall_ok
  cases (Pure.spec_l06Is_ok F x0 x1) with
  | true =>
    cases (Pure.spec_l06Is F x0 x1) with
    | true =>
      cases (Pure.spec_l00In F x2 0 (IntKind.wrap IntKind.i64 ((Int.ofNat (List.length x0)) - 1))) with
      | true =>
        cases (Pure.spec_l06Own_ok F x0 x1) with
        | true =>
          cases (Decidable.decide (0 ≤ x2)) with
          | true =>
            cases (Decidable.decide (x2 < (Int.ofNat (List.length x0)))) with
            | true =>
              cases (Pure.spec_l06Give_way F (List.set x0 (Int.toNat x2) [x3, x4, x5]) x1) with
              | true =>
                cases (Pure.spec_l06Give_okA F (List.set x0 (Int.toNat x2) [x3, x4, x5]) x1) with
                | true =>
                  intro _; rfl
                | false =>
                  intro h; exact absurd h Bool.false_ne_true
              | false =>
                cases (Pure.spec_l06Give_okB F (List.set x0 (Int.toNat x2) [x3, x4, x5]) x1) with
                | true =>
                  intro _; rfl
                | false =>
                  intro h; exact absurd h Bool.false_ne_true
            | false =>
              intro h; exact absurd h Bool.false_ne_true
          | false =>
            intro h; exact absurd h Bool.false_ne_true
        | false =>
          intro h; exact absurd h Bool.false_ne_true
      | false =>
        intro _; rfl
    | false =>
      intro _; rfl
  | false =>
    intro h; exact absurd h Bool.false_ne_true
theorem ok_spec_SetBall : CallOK Try.prog 37 (c_spec_SetBall real) := by
  refine callOK_of fun args h ret hc => ?_
  unfold c_spec_SetBall at hc
  split at hc
  · rename_i x1 x2 x3 x4 x5 x0
    obtain ⟨hok, rfl⟩ := some_ret hc
    exact holds_ev2 prog_ok (allOK_cons ok_spec_l06Is (allOK_cons ok_spec_l00In (allOK_cons ok_spec_l06Own allOK_nil))) (allTwo_cons ok2_spec_l06Give allTwo_nil) Try.func37 rfl rfl smL_nil rfl (e_spec_SetBall real x0 x1 x2 x3 x4 x5 hok)
  · cases hc
def Pure.impl_SetBall_ok (F : FOps) (x0 : List (List Int)) (x1 : Int) (x2 : Int) (x3 : Int) (x4 : Int) (x5 : Int) : Bool := Pure.impl_changedRow_set_ok F x0 x1 x2 x3 x4 x5
def c_impl_SetBall (F : FOps) : Con
  | [V.agg [A.sl 0, A.fl FloatKind.f32 x1], V.at (A.int IntKind.i64 x2), V.agg [A.fl FloatKind.f32 x3, A.fl FloatKind.f32 x4, A.fl FloatKind.f32 x5]], [⟨false, OC.rows [K.f FloatKind.f32, K.f FloatKind.f32, K.f FloatKind.f32] x0⟩] => some (Pure.impl_SetBall_ok F x0 x1 x2 x3 x4 x5, ⟨V.tup [(true, [A.sl 1, A.fl FloatKind.f32 (Pure.impl_changedRow_set F x0 x1 x2 x3 x4 x5)]), (false, [A.bool (Pure.impl_changedRow_set_1 F x0 x1 x2 x3 x4 x5)])], none, [⟨true, OC.rows [K.f FloatKind.f32, K.f FloatKind.f32, K.f FloatKind.f32] (Pure.impl_changedRow_set_2 F x0 x1 x2 x3 x4 x5)⟩]⟩)
  | _, _ => none
theorem e_impl_SetBall (F : FOps) (x0 : List (List Int)) (x1 : Int) (x2 : Int) (x3 : Int) (x4 : Int) (x5 : Int) : Pure.impl_SetBall_ok F x0 x1 x2 x3 x4 x5 = true → evFn (cxS F tyl [(69, c_impl_SetBall_c1 F), (66, c_impl_changedRow_or3 F)] [69] [] 0) Try.f39 false [V.agg [A.sl 0, A.fl FloatKind.f32 x1], V.at (A.int IntKind.i64 x2), V.agg [A.fl FloatKind.f32 x3, A.fl FloatKind.f32 x4, A.fl FloatKind.f32 x5]] [⟨false, OC.rows [K.f FloatKind.f32, K.f FloatKind.f32, K.f FloatKind.f32] x0⟩] = some ⟨V.tup [(true, [A.sl 1, A.fl FloatKind.f32 (Pure.impl_changedRow_set F x0 x1 x2 x3 x4 x5)]), (false, [A.bool (Pure.impl_changedRow_set_1 F x0 x1 x2 x3 x4 x5)])], none, [⟨true, OC.rows [K.f FloatKind.f32, K.f FloatKind.f32, K.f FloatKind.f32] (Pure.impl_changedRow_set_2 F x0 x1 x2 x3 x4 x5)⟩]⟩ := by
  have h0 : evFn (cxS F tyl [(69, c_impl_SetBall_c1 F), (66, c_impl_changedRow_or3 F)] [69] [] 0) Try.f39 false [V.agg [A.sl 0, A.fl FloatKind.f32 x1], V.at (A.int IntKind.i64 x2), V.agg [A.fl FloatKind.f32 x3, A.fl FloatKind.f32 x4, A.fl FloatKind.f32 x5]] [⟨false, OC.rows [K.f FloatKind.f32, K.f FloatKind.f32, K.f FloatKind.f32] x0⟩] = bif Pure.impl_changedRow_set_ok F x0 x1 x2 x3 x4 x5 then some ⟨V.tup [(true, [A.sl 1, A.fl FloatKind.f32 (Pure.impl_changedRow_set F x0 x1 x2 x3 x4 x5)]), (false, [A.bool (Pure.impl_changedRow_set_1 F x0 x1 x2 x3 x4 x5)])], none, [⟨true, OC.rows [K.f FloatKind.f32, K.f FloatKind.f32, K.f FloatKind.f32] (Pure.impl_changedRow_set_2 F x0 x1 x2 x3 x4 x5)⟩]⟩ else none := by kernel_rfl
  rw [h0]
  unfold Pure.impl_SetBall_ok
  cases (Pure.impl_changedRow_set_ok F x0 x1 x2 x3 x4 x5) with
  | true =>
    intro _; rfl
  | false =>
    intro h; exact absurd h Bool.false_ne_true
theorem ok_impl_SetBall : CallOK Try.prog 39 (c_impl_SetBall real) := by
  refine callOK_of fun args h ret hc => ?_
  unfold c_impl_SetBall at hc
  split at hc
  · rename_i x1 x2 x3 x4 x5 x0
    obtain ⟨hok, rfl⟩ := some_ret hc
    exact holds_ev prog_ok (allOK_cons ok_impl_SetBall_c1 (allOK_cons ok_impl_changedRow_or3 allOK_nil)) Try.func39 rfl rfl smL_nil rfl (e_impl_SetBall real x0 x1 x2 x3 x4 x5 hok)
  · cases hc
def Pure.laws_FnExactSetBall (F : FOps) (x0 : List (List Int)) (x1 : Int) (x2 : Int) (x3 : Int) (x4 : Int) (x5 : Int) : Bool := bif Decidable.decide ((Pure.laws_szRow F x0 x1 1048576) < 0) then true else bif Pure.laws_eqRow F (Pure.impl_changedRow_set_2 F (Pure.laws_toBallS F x0) x1 x2 x3 x4 x5) (Pure.impl_changedRow_set F (Pure.laws_toBallS F x0) x1 x2 x3 x4 x5) (Pure.spec_SetBall_2 F (Pure.laws_toBallS F x0) x1 x2 x3 x4 x5) (Pure.spec_SetBall F (Pure.laws_toBallS F x0) x1 x2 x3 x4 x5) then bif (Pure.impl_changedRow_set_1 F (Pure.laws_toBallS F x0) x1 x2 x3 x4 x5) == (Pure.spec_SetBall_1 F (Pure.laws_toBallS F x0) x1 x2 x3 x4 x5) then bif Pure.laws_eqRow F (Pure.laws_toBallS F x0) x1 (Pure.laws_toBallS F x0) x1 then bif Decidable.decide ((Pure.laws_markBallS F (Pure.laws_toBallS F x0) 1) < 0) then false else bif Decidable.decide ((Pure.laws_heldRow F (Pure.laws_markBallS_1 F (Pure.impl_changedRow_set_2 F (Pure.laws_toBallS F x0) x1 x2 x3 x4 x5) 1) (Pure.impl_changedRow_set F (Pure.laws_toBallS F x0) x1 x2 x3 x4 x5) 1) < 0) then false else bif (Pure.laws_heldRow F (Pure.laws_markBallS_1 F (Pure.impl_changedRow_set_2 F (Pure.laws_toBallS F x0) x1 x2 x3 x4 x5) 1) (Pure.impl_changedRow_set F (Pure.laws_toBallS F x0) x1 x2 x3 x4 x5) 1) != (Pure.laws_markBallS F (Pure.impl_changedRow_set_2 F (Pure.laws_toBallS F x0) x1 x2 x3 x4 x5) 1) then false else true else false else false else false
def Pure.laws_FnExactSetBall_ok (F : FOps) (x0 : List (List Int)) (x1 : Int) (x2 : Int) (x3 : Int) (x4 : Int) (x5 : Int) : Bool := bif Decidable.decide ((Pure.laws_szRow F x0 x1 1048576) < 0) then true else bif Pure.laws_toRow_ok F x0 x1 then bif Pure.spec_SetBall_ok F (Pure.laws_toBallS F x0) x1 x2 x3 x4 x5 then bif Pure.impl_SetBall_ok F (Pure.laws_toBallS F x0) x1 x2 x3 x4 x5 then bif Pure.laws_eqRow_ok F (Pure.impl_changedRow_set_2 F (Pure.laws_toBallS F x0) x1 x2 x3 x4 x5) (Pure.impl_changedRow_set F (Pure.laws_toBallS F x0) x1 x2 x3 x4 x5) (Pure.spec_SetBall_2 F (Pure.laws_toBallS F x0) x1 x2 x3 x4 x5) (Pure.spec_SetBall F (Pure.laws_toBallS F x0) x1 x2 x3 x4 x5) then bif Pure.laws_eqRow F (Pure.impl_changedRow_set_2 F (Pure.laws_toBallS F x0) x1 x2 x3 x4 x5) (Pure.impl_changedRow_set F (Pure.laws_toBallS F x0) x1 x2 x3 x4 x5) (Pure.spec_SetBall_2 F (Pure.laws_toBallS F x0) x1 x2 x3 x4 x5) (Pure.spec_SetBall F (Pure.laws_toBallS F x0) x1 x2 x3 x4 x5) then bif (Pure.impl_changedRow_set_1 F (Pure.laws_toBallS F x0) x1 x2 x3 x4 x5) == (Pure.spec_SetBall_1 F (Pure.laws_toBallS F x0) x1 x2 x3 x4 x5) then bif Pure.laws_eqRow_ok F (Pure.laws_toBallS F x0) x1 (Pure.laws_toBallS F x0) x1 then bif Pure.laws_eqRow F (Pure.laws_toBallS F x0) x1 (Pure.laws_toBallS F x0) x1 then bif Pure.laws_markRow_ok F (Pure.laws_toBallS F x0) x1 1 then bif Decidable.decide ((Pure.laws_markBallS F (Pure.laws_toBallS F x0) 1) < 0) then true else bif Pure.laws_markRow_ok F (Pure.impl_changedRow_set_2 F (Pure.laws_toBallS F x0) x1 x2 x3 x4 x5) (Pure.impl_changedRow_set F (Pure.laws_toBallS F x0) x1 x2 x3 x4 x5) 1 then Pure.laws_heldRow_ok F (Pure.laws_markBallS_1 F (Pure.impl_changedRow_set_2 F (Pure.laws_toBallS F x0) x1 x2 x3 x4 x5) 1) (Pure.impl_changedRow_set F (Pure.laws_toBallS F x0) x1 x2 x3 x4 x5) 1 else false else false else true else false else true else true else false else false else false else false
def c_laws_FnExactSetBall (F : FOps) : Con
  | [V.agg [A.sl 0, A.fl FloatKind.f32 x1], V.at (A.int IntKind.i64 x2), V.agg [A.fl FloatKind.f32 x3, A.fl FloatKind.f32 x4, A.fl FloatKind.f32 x5]], [⟨false, OC.rows [K.f FloatKind.f32, K.f FloatKind.f32, K.f FloatKind.f32] x0⟩] => some (Pure.laws_FnExactSetBall_ok F x0 x1 x2 x3 x4 x5, ⟨V.at (A.bool (Pure.laws_FnExactSetBall F x0 x1 x2 x3 x4 x5)), none, []⟩)
  | _, _ => none
theorem e_laws_FnExactSetBall (F : FOps) (x0 : List (List Int)) (x1 : Int) (x2 : Int) (x3 : Int) (x4 : Int) (x5 : Int) : Pure.laws_FnExactSetBall_ok F x0 x1 x2 x3 x4 x5 = true → evFn (cxS F tyl [(19, c_laws_szRow F), (21, c_laws_toRow F), (38, c_laws_toBall F), (37, c_spec_SetBall F), (39, c_impl_SetBall F), (16, c_laws_eqRow F), (17, c_laws_markRow F), (18, c_laws_heldRow F)] [17] [] 0) Try.f10 false [V.agg [A.sl 0, A.fl FloatKind.f32 x1], V.at (A.int IntKind.i64 x2), V.agg [A.fl FloatKind.f32 x3, A.fl FloatKind.f32 x4, A.fl FloatKind.f32 x5]] [⟨false, OC.rows [K.f FloatKind.f32, K.f FloatKind.f32, K.f FloatKind.f32] x0⟩] = some ⟨V.at (A.bool (Pure.laws_FnExactSetBall F x0 x1 x2 x3 x4 x5)), none, []⟩ := by
  have h0 : evFn (cxS F tyl [(19, c_laws_szRow F), (21, c_laws_toRow F), (38, c_laws_toBall F), (37, c_spec_SetBall F), (39, c_impl_SetBall F), (16, c_laws_eqRow F), (17, c_laws_markRow F), (18, c_laws_heldRow F)] [17] [] 0) Try.f10 false [V.agg [A.sl 0, A.fl FloatKind.f32 x1], V.at (A.int IntKind.i64 x2), V.agg [A.fl FloatKind.f32 x3, A.fl FloatKind.f32 x4, A.fl FloatKind.f32 x5]] [⟨false, OC.rows [K.f FloatKind.f32, K.f FloatKind.f32, K.f FloatKind.f32] x0⟩] = bif Decidable.decide ((Pure.laws_szRow F x0 x1 1048576) < 0) then some ⟨V.at (A.bool true), none, []⟩ else bif Pure.laws_toRow_ok F x0 x1 then bif Pure.spec_SetBall_ok F (Pure.laws_toBallS F x0) x1 x2 x3 x4 x5 then bif Pure.laws_toRow_ok F x0 x1 then bif Pure.impl_SetBall_ok F (Pure.laws_toBallS F x0) x1 x2 x3 x4 x5 then bif Pure.laws_eqRow_ok F (Pure.impl_changedRow_set_2 F (Pure.laws_toBallS F x0) x1 x2 x3 x4 x5) (Pure.impl_changedRow_set F (Pure.laws_toBallS F x0) x1 x2 x3 x4 x5) (Pure.spec_SetBall_2 F (Pure.laws_toBallS F x0) x1 x2 x3 x4 x5) (Pure.spec_SetBall F (Pure.laws_toBallS F x0) x1 x2 x3 x4 x5) then bif Bool.not (Pure.laws_eqRow F (Pure.impl_changedRow_set_2 F (Pure.laws_toBallS F x0) x1 x2 x3 x4 x5) (Pure.impl_changedRow_set F (Pure.laws_toBallS F x0) x1 x2 x3 x4 x5) (Pure.spec_SetBall_2 F (Pure.laws_toBallS F x0) x1 x2 x3 x4 x5) (Pure.spec_SetBall F (Pure.laws_toBallS F x0) x1 x2 x3 x4 x5)) then some ⟨V.at (A.bool false), none, []⟩ else bif Bool.not ((Pure.impl_changedRow_set_1 F (Pure.laws_toBallS F x0) x1 x2 x3 x4 x5) == (Pure.spec_SetBall_1 F (Pure.laws_toBallS F x0) x1 x2 x3 x4 x5)) then some ⟨V.at (A.bool false), none, []⟩ else bif Pure.laws_toRow_ok F x0 x1 then bif Pure.laws_eqRow_ok F (Pure.laws_toBallS F x0) x1 (Pure.laws_toBallS F x0) x1 then bif Bool.not (Pure.laws_eqRow F (Pure.laws_toBallS F x0) x1 (Pure.laws_toBallS F x0) x1) then some ⟨V.at (A.bool false), none, []⟩ else bif Pure.laws_markRow_ok F (Pure.laws_toBallS F x0) x1 1 then bif Decidable.decide ((Pure.laws_markBallS F (Pure.laws_toBallS F x0) 1) < 0) then some ⟨V.at (A.bool false), none, []⟩ else bif Pure.laws_eqRow_ok F (Pure.impl_changedRow_set_2 F (Pure.laws_toBallS F x0) x1 x2 x3 x4 x5) (Pure.impl_changedRow_set F (Pure.laws_toBallS F x0) x1 x2 x3 x4 x5) (Pure.spec_SetBall_2 F (Pure.laws_toBallS F x0) x1 x2 x3 x4 x5) (Pure.spec_SetBall F (Pure.laws_toBallS F x0) x1 x2 x3 x4 x5) then bif Bool.not (Pure.laws_eqRow F (Pure.impl_changedRow_set_2 F (Pure.laws_toBallS F x0) x1 x2 x3 x4 x5) (Pure.impl_changedRow_set F (Pure.laws_toBallS F x0) x1 x2 x3 x4 x5) (Pure.spec_SetBall_2 F (Pure.laws_toBallS F x0) x1 x2 x3 x4 x5) (Pure.spec_SetBall F (Pure.laws_toBallS F x0) x1 x2 x3 x4 x5)) then some ⟨V.at (A.bool false), none, []⟩ else bif Bool.not ((Pure.impl_changedRow_set_1 F (Pure.laws_toBallS F x0) x1 x2 x3 x4 x5) == (Pure.spec_SetBall_1 F (Pure.laws_toBallS F x0) x1 x2 x3 x4 x5)) then some ⟨V.at (A.bool false), none, []⟩ else bif Pure.laws_markRow_ok F (Pure.impl_changedRow_set_2 F (Pure.laws_toBallS F x0) x1 x2 x3 x4 x5) (Pure.impl_changedRow_set F (Pure.laws_toBallS F x0) x1 x2 x3 x4 x5) 1 then bif Pure.laws_heldRow_ok F (Pure.laws_markBallS_1 F (Pure.impl_changedRow_set_2 F (Pure.laws_toBallS F x0) x1 x2 x3 x4 x5) 1) (Pure.impl_changedRow_set F (Pure.laws_toBallS F x0) x1 x2 x3 x4 x5) 1 then bif Decidable.decide ((Pure.laws_heldRow F (Pure.laws_markBallS_1 F (Pure.impl_changedRow_set_2 F (Pure.laws_toBallS F x0) x1 x2 x3 x4 x5) 1) (Pure.impl_changedRow_set F (Pure.laws_toBallS F x0) x1 x2 x3 x4 x5) 1) < 0) then some ⟨V.at (A.bool false), none, []⟩ else bif (Pure.laws_heldRow F (Pure.laws_markBallS_1 F (Pure.impl_changedRow_set_2 F (Pure.laws_toBallS F x0) x1 x2 x3 x4 x5) 1) (Pure.impl_changedRow_set F (Pure.laws_toBallS F x0) x1 x2 x3 x4 x5) 1) != (Pure.laws_markBallS F (Pure.impl_changedRow_set_2 F (Pure.laws_toBallS F x0) x1 x2 x3 x4 x5) 1) then some ⟨V.at (A.bool false), none, []⟩ else bif Pure.laws_toRow_ok F x0 x1 then bif Pure.impl_SetBall_ok F (Pure.laws_toBallS F x0) x1 x2 x3 x4 x5 then bif Pure.laws_eqRow_ok F (Pure.impl_changedRow_set_2 F (Pure.laws_toBallS F x0) x1 x2 x3 x4 x5) (Pure.impl_changedRow_set F (Pure.laws_toBallS F x0) x1 x2 x3 x4 x5) (Pure.spec_SetBall_2 F (Pure.laws_toBallS F x0) x1 x2 x3 x4 x5) (Pure.spec_SetBall F (Pure.laws_toBallS F x0) x1 x2 x3 x4 x5) then bif Bool.not (Pure.laws_eqRow F (Pure.impl_changedRow_set_2 F (Pure.laws_toBallS F x0) x1 x2 x3 x4 x5) (Pure.impl_changedRow_set F (Pure.laws_toBallS F x0) x1 x2 x3 x4 x5) (Pure.spec_SetBall_2 F (Pure.laws_toBallS F x0) x1 x2 x3 x4 x5) (Pure.spec_SetBall F (Pure.laws_toBallS F x0) x1 x2 x3 x4 x5)) then some ⟨V.at (A.bool false), none, []⟩ else bif Bool.not ((Pure.impl_changedRow_set_1 F (Pure.laws_toBallS F x0) x1 x2 x3 x4 x5) == (Pure.spec_SetBall_1 F (Pure.laws_toBallS F x0) x1 x2 x3 x4 x5)) then some ⟨V.at (A.bool false), none, []⟩ else bif Pure.laws_heldRow_ok F (Pure.laws_markBallS_1 F (Pure.impl_changedRow_set_2 F (Pure.laws_toBallS F x0) x1 x2 x3 x4 x5) 1) (Pure.impl_changedRow_set F (Pure.laws_toBallS F x0) x1 x2 x3 x4 x5) 1 then bif Decidable.decide ((Pure.laws_heldRow F (Pure.laws_markBallS_1 F (Pure.impl_changedRow_set_2 F (Pure.laws_toBallS F x0) x1 x2 x3 x4 x5) 1) (Pure.impl_changedRow_set F (Pure.laws_toBallS F x0) x1 x2 x3 x4 x5) 1) < 0) then some ⟨V.at (A.bool false), none, []⟩ else bif (Pure.laws_heldRow F (Pure.laws_markBallS_1 F (Pure.impl_changedRow_set_2 F (Pure.laws_toBallS F x0) x1 x2 x3 x4 x5) 1) (Pure.impl_changedRow_set F (Pure.laws_toBallS F x0) x1 x2 x3 x4 x5) 1) != (Pure.laws_markBallS F (Pure.impl_changedRow_set_2 F (Pure.laws_toBallS F x0) x1 x2 x3 x4 x5) 1) then some ⟨V.at (A.bool false), none, []⟩ else some ⟨V.at (A.bool true), none, []⟩ else none else none else none else none else none else none else none else none else none else none else none else none else none else none else none := by kernel_rfl
  rw [h0]
  unfold Pure.laws_FnExactSetBall Pure.laws_FnExactSetBall_ok
  cases (Decidable.decide ((Pure.laws_szRow F x0 x1 1048576) < 0)) with
  | true =>
    intro _; rfl
  | false =>
    cases (Pure.laws_toRow_ok F x0 x1) with
    | true =>
      cases (Pure.spec_SetBall_ok F (Pure.laws_toBallS F x0) x1 x2 x3 x4 x5) with
      | true =>
        cases (Pure.impl_SetBall_ok F (Pure.laws_toBallS F x0) x1 x2 x3 x4 x5) with
        | true =>
          cases (Pure.laws_eqRow_ok F (Pure.impl_changedRow_set_2 F (Pure.laws_toBallS F x0) x1 x2 x3 x4 x5) (Pure.impl_changedRow_set F (Pure.laws_toBallS F x0) x1 x2 x3 x4 x5) (Pure.spec_SetBall_2 F (Pure.laws_toBallS F x0) x1 x2 x3 x4 x5) (Pure.spec_SetBall F (Pure.laws_toBallS F x0) x1 x2 x3 x4 x5)) with
          | true =>
            cases (Pure.laws_eqRow F (Pure.impl_changedRow_set_2 F (Pure.laws_toBallS F x0) x1 x2 x3 x4 x5) (Pure.impl_changedRow_set F (Pure.laws_toBallS F x0) x1 x2 x3 x4 x5) (Pure.spec_SetBall_2 F (Pure.laws_toBallS F x0) x1 x2 x3 x4 x5) (Pure.spec_SetBall F (Pure.laws_toBallS F x0) x1 x2 x3 x4 x5)) with
            | true =>
              cases ((Pure.impl_changedRow_set_1 F (Pure.laws_toBallS F x0) x1 x2 x3 x4 x5) == (Pure.spec_SetBall_1 F (Pure.laws_toBallS F x0) x1 x2 x3 x4 x5)) with
              | true =>
                cases (Pure.laws_eqRow_ok F (Pure.laws_toBallS F x0) x1 (Pure.laws_toBallS F x0) x1) with
                | true =>
                  cases (Pure.laws_eqRow F (Pure.laws_toBallS F x0) x1 (Pure.laws_toBallS F x0) x1) with
                  | true =>
                    cases (Pure.laws_markRow_ok F (Pure.laws_toBallS F x0) x1 1) with
                    | true =>
                      cases (Decidable.decide ((Pure.laws_markBallS F (Pure.laws_toBallS F x0) 1) < 0)) with
                      | true =>
                        intro _; rfl
                      | false =>
                        cases (Pure.laws_markRow_ok F (Pure.impl_changedRow_set_2 F (Pure.laws_toBallS F x0) x1 x2 x3 x4 x5) (Pure.impl_changedRow_set F (Pure.laws_toBallS F x0) x1 x2 x3 x4 x5) 1) with
                        | true =>
                          cases (Pure.laws_heldRow_ok F (Pure.laws_markBallS_1 F (Pure.impl_changedRow_set_2 F (Pure.laws_toBallS F x0) x1 x2 x3 x4 x5) 1) (Pure.impl_changedRow_set F (Pure.laws_toBallS F x0) x1 x2 x3 x4 x5) 1) with
                          | true =>
                            cases (Decidable.decide ((Pure.laws_heldRow F (Pure.laws_markBallS_1 F (Pure.impl_changedRow_set_2 F (Pure.laws_toBallS F x0) x1 x2 x3 x4 x5) 1) (Pure.impl_changedRow_set F (Pure.laws_toBallS F x0) x1 x2 x3 x4 x5) 1) < 0)) with
                            | true =>
                              intro _; rfl
                            | false =>
                              cases ((Pure.laws_heldRow F (Pure.laws_markBallS_1 F (Pure.impl_changedRow_set_2 F (Pure.laws_toBallS F x0) x1 x2 x3 x4 x5) 1) (Pure.impl_changedRow_set F (Pure.laws_toBallS F x0) x1 x2 x3 x4 x5) 1) != (Pure.laws_markBallS F (Pure.impl_changedRow_set_2 F (Pure.laws_toBallS F x0) x1 x2 x3 x4 x5) 1)) with
                              | true =>
                                intro _; rfl
                              | false =>
                                intro _; rfl
                          | false =>
                            intro h; exact absurd h Bool.false_ne_true
                        | false =>
                          intro h; exact absurd h Bool.false_ne_true
                    | false =>
                      intro h; exact absurd h Bool.false_ne_true
                  | false =>
                    intro _; rfl
                | false =>
                  intro h; exact absurd h Bool.false_ne_true
              | false =>
                intro _; rfl
            | false =>
              intro _; rfl
          | false =>
            intro h; exact absurd h Bool.false_ne_true
        | false =>
          intro h; exact absurd h Bool.false_ne_true
      | false =>
        intro h; exact absurd h Bool.false_ne_true
    | false =>
      intro h; exact absurd h Bool.false_ne_true
theorem ok_laws_FnExactSetBall : CallOK Try.prog 10 (c_laws_FnExactSetBall real) := by
  refine callOK_of fun args h ret hc => ?_
  unfold c_laws_FnExactSetBall at hc
  split at hc
  · rename_i x1 x2 x3 x4 x5 x0
    obtain ⟨hok, rfl⟩ := some_ret hc
    exact holds_ev prog_ok (allOK_cons ok_laws_szRow (allOK_cons ok_laws_toRow (allOK_cons ok_laws_toBall (allOK_cons ok_spec_SetBall (allOK_cons ok_impl_SetBall (allOK_cons ok_laws_eqRow (allOK_cons ok_laws_markRow (allOK_cons ok_laws_heldRow allOK_nil)))))))) Try.func10 rfl rfl smL_nil rfl (e_laws_FnExactSetBall real x0 x1 x2 x3 x4 x5 hok)
  · cases hc
end Go.Fx
