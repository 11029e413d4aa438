import Derived.Test.YtpgpjkkncghbhaaXr2d
import Derived.KernelRfl
namespace Go.Fx
open Go.Proofs
def Pure.impl_MoveRow_c1 (F : FOps) (x0 : Nat) (x1 : List (List Int)) (x2 : Int) : List (List Int) := List.set x1 x0 (setFrom (List.getD x1 x0 []) 0 [FOps.bin F BinOp.add FloatKind.f32 (List.getD (List.getD x1 x0 []) 0 0) (FOps.bin F BinOp.mul FloatKind.f32 x2 (List.getD (List.getD x1 x0 []) 1 0))])
def c_impl_MoveRow_c1 (F : FOps) : Con
  | [V.at (A.ptr 0 x0 0), V.at (A.ptr 1 0 0)], [⟨true, OC.rows [K.f FloatKind.f32, K.f FloatKind.f32, K.f FloatKind.f32] x1⟩, ⟨false, OC.box [A.fl FloatKind.f32 x2]⟩] => some (true, ⟨V.tup [], some [⟨true, OC.rows [K.f FloatKind.f32, K.f FloatKind.f32, K.f FloatKind.f32] (Pure.impl_MoveRow_c1 F x0 x1 x2)⟩, ⟨false, OC.box [A.fl FloatKind.f32 x2]⟩], []⟩)
  | _, _ => none
theorem e_impl_MoveRow_c1 (F : FOps) (x0 : Nat) (x1 : List (List Int)) (x2 : Int) : evFn (cxS F tyl [] [] [] 0) Try.f74 true [V.at (A.ptr 0 x0 0), V.at (A.ptr 1 0 0)] [⟨true, OC.rows [K.f FloatKind.f32, K.f FloatKind.f32, K.f FloatKind.f32] x1⟩, ⟨false, OC.box [A.fl FloatKind.f32 x2]⟩] = some ⟨V.tup [], some [⟨true, OC.rows [K.f FloatKind.f32, K.f FloatKind.f32, K.f FloatKind.f32] (Pure.impl_MoveRow_c1 F x0 x1 x2)⟩, ⟨false, OC.box [A.fl FloatKind.f32 x2]⟩], []⟩ := by
  kernel_rfl
theorem ok_impl_MoveRow_c1 : CallOK Try.prog 74 (c_impl_MoveRow_c1 real) := by
  refine callOK_of fun args h ret hc => ?_
  unfold c_impl_MoveRow_c1 at hc
  split at hc
  · rename_i x0 x1 x2
    obtain ⟨_, rfl⟩ := some_ret hc
    exact holdsE_ev prog_ok allOK_nil Try.func74 rfl rfl smL_nil (e_impl_MoveRow_c1 real x0 x1 x2)
  · cases hc
def Pure.impl_each_c1_move_L0 (F : FOps) (y0 : Int) (y2 : Int) (y4 : Int) : Nat → Int → (List (List Int)) → (Bool × (List (List Int)))
  | 0, _, _ => (false, [])
  | n + 1, y1, y3 => bif (Decidable.decide (y1 < y0)) then (bif (Decidable.decide (0 ≤ y1)) then (bif (Decidable.decide (y1 < (Int.ofNat (List.length y3)))) then (Pure.impl_each_c1_move_L0 F y0 y2 y4 n (IntKind.wrap IntKind.i64 (y1 + 1)) (Pure.impl_MoveRow_c1 F (Int.toNat y1) y3 y4)) else ((false, []))) else ((false, []))) else ((true, y3))
def R_impl_each_c1_move_L0 (y2 : Int) (y4 : Int) (r : (Bool × (List (List Int)))) : Bool × Bool × (Ex × List V × List Ob) × (Ex × List V × List Ob) := ((r).1, false, (Ex.normal, [], [⟨true, OC.box [A.sl 2, A.fl FloatKind.f32 y2]⟩, ⟨false, OC.box [A.fn 74 [(3, (0, 0))]]⟩, ⟨true, OC.rows [K.f FloatKind.f32, K.f FloatKind.f32, K.f FloatKind.f32] (r).2⟩, ⟨false, OC.box [A.fl FloatKind.f32 y4]⟩]), (Ex.normal, [], [⟨true, OC.box [A.sl 2, A.fl FloatKind.f32 y2]⟩, ⟨false, OC.box [A.fn 74 [(3, (0, 0))]]⟩, ⟨true, OC.rows [K.f FloatKind.f32, K.f FloatKind.f32, K.f FloatKind.f32] (r).2⟩, ⟨false, OC.box [A.fl FloatKind.f32 y4]⟩]))
def S_impl_each_c1_move_L0 (F : FOps) : Sm := ⟨[0, 1, 9, 10], [63, 0, 3, 3], [], fun vals hp => match vals, hp with
  | [V.at (A.ptr 0 0 0), V.at (A.ptr 1 0 0), V.at (A.int IntKind.i64 y0), V.at (A.int IntKind.i64 y1)], [⟨true, OC.box [A.sl 2, A.fl FloatKind.f32 y2]⟩, ⟨false, OC.box [A.fn 74 [(3, (0, 0))]]⟩, ⟨true, OC.rows [K.f FloatKind.f32, K.f FloatKind.f32, K.f FloatKind.f32] y3⟩, ⟨false, OC.box [A.fl FloatKind.f32 y4]⟩] => some (R_impl_each_c1_move_L0 y2 y4 (Pure.impl_each_c1_move_L0 F y0 y2 y4 (y0 - y1 + 1).toNat y1 y3))
  | _, _ => none⟩
theorem l_impl_each_c1_move_L0 (F : FOps) (y0 : Int) (y2 : Int) (y4 : Int) : ∀ (fuel : Nat) (y1 : Int) (y3 : List (List Int)), (Pure.impl_each_c1_move_L0 F y0 y2 y4 fuel y1 y3).1 = true → loopOf (cxS F tyl [(74, c_impl_MoveRow_c1 F)] [74] [] 0) 4 22 0 [0, 1, 9, 10] [63, 0, 3, 3] [] (loopB 0 (codeOf Try.f84)) fuel [V.at (A.ptr 0 0 0), V.at (A.ptr 1 0 0), V.at (A.int IntKind.i64 y0), V.at (A.int IntKind.i64 y1)] [⟨true, OC.box [A.sl 2, A.fl FloatKind.f32 y2]⟩, ⟨false, OC.box [A.fn 74 [(3, (0, 0))]]⟩, ⟨true, OC.rows [K.f FloatKind.f32, K.f FloatKind.f32, K.f FloatKind.f32] y3⟩, ⟨false, OC.box [A.fl FloatKind.f32 y4]⟩] = resOf (R_impl_each_c1_move_L0 y2 y4 (Pure.impl_each_c1_move_L0 F y0 y2 y4 fuel y1 y3)) := by
  intro fuel
  induction fuel with
  | zero => intro y1 y3 h; exact absurd h Bool.false_ne_true
  | succ n ih =>
    intro y1 y3
    have h0 : roundOf (cxS F tyl [(74, c_impl_MoveRow_c1 F)] [74] [] 0) 4 22 0 [0, 1, 9, 10] [63, 0, 3, 3] [] (loopB 0 (codeOf Try.f84)) [V.at (A.ptr 0 0 0), V.at (A.ptr 1 0 0), V.at (A.int IntKind.i64 y0), V.at (A.int IntKind.i64 y1)] [⟨true, OC.box [A.sl 2, A.fl FloatKind.f32 y2]⟩, ⟨false, OC.box [A.fn 74 [(3, (0, 0))]]⟩, ⟨true, OC.rows [K.f FloatKind.f32, K.f FloatKind.f32, K.f FloatKind.f32] y3⟩, ⟨false, OC.box [A.fl FloatKind.f32 y4]⟩] = (bif Decidable.decide (y1 < y0) then bif Decidable.decide (0 ≤ y1) then bif Decidable.decide (y1 < (Int.ofNat (List.length y3))) then some (true, (Ex.normal, ([V.at (A.ptr 0 0 0), V.at (A.ptr 1 0 0), V.at (A.int IntKind.i64 y0), V.at (A.int IntKind.i64 (IntKind.wrap IntKind.i64 (y1 + 1)))], [⟨true, OC.box [A.sl 2, A.fl FloatKind.f32 y2]⟩, ⟨false, OC.box [A.fn 74 [(3, (0, 0))]]⟩, ⟨true, OC.rows [K.f FloatKind.f32, K.f FloatKind.f32, K.f FloatKind.f32] (Pure.impl_MoveRow_c1 F (Int.toNat y1) y3 y4)⟩, ⟨false, OC.box [A.fl FloatKind.f32 y4]⟩]))) else none else none else some (false, (Ex.normal, ([], [⟨true, OC.box [A.sl 2, A.fl FloatKind.f32 y2]⟩, ⟨false, OC.box [A.fn 74 [(3, (0, 0))]]⟩, ⟨true, OC.rows [K.f FloatKind.f32, K.f FloatKind.f32, K.f FloatKind.f32] y3⟩, ⟨false, OC.box [A.fl FloatKind.f32 y4]⟩])))) := by kernel_rfl
    unfold loopOf
    rw [h0]
    unfold Pure.impl_each_c1_move_L0
    cases (Decidable.decide (y1 < y0)) with
    | true =>
      cases (Decidable.decide (0 ≤ y1)) with
      | true =>
        cases (Decidable.decide (y1 < (Int.ofNat (List.length y3)))) with
        | true =>
          exact ih _ _
        | false =>
          intro h; exact absurd h Bool.false_ne_true
      | false =>
        intro h; exact absurd h Bool.false_ne_true
    | false =>
      intro _; rfl
theorem t_impl_each_c1_move_L0 : SmTo Try.prog 4 22 (S_impl_each_c1_move_L0 real) 0 (.loop (loopB 0 (codeOf Try.f84))) := by
  refine smTo_ev (cl := [(74, c_impl_MoveRow_c1 real)]) (ef := [74]) (sm := []) (un := 0) prog_ok (allOK_cons ok_impl_MoveRow_c1 allOK_nil) smL_nil ?_
  intro vals hp q r h hq
  unfold S_impl_each_c1_move_L0 at h
  dsimp only at h
  split at h
  · rename_i y0 y1 y2 y3 y4
    obtain rfl := Option.some.inj h
    have h1 := hq
    unfold resOf at h1
    rw [chk_some] at h1
    exact ⟨_, (l_impl_each_c1_move_L0 real y0 y2 y4 _ y1 y3 h1.1).trans hq⟩
  · cases h
def Pure.impl_each_c1_move (F : FOps) (x0 : List (List Int)) (x1 : Int) (x2 : Int) : List (List Int) := Prod.snd (Pure.impl_each_c1_move_L0 F (Int.ofNat (List.length x0)) x1 x2 (Nat.succ ((List.length x0) + 0)) 0 x0)
def Pure.impl_each_c1_move_ok (F : FOps) (x0 : List (List Int)) (x1 : Int) (x2 : Int) : Bool := Prod.fst (Pure.impl_each_c1_move_L0 F (Int.ofNat (List.length x0)) x1 x2 (Nat.succ ((List.length x0) + 0)) 0 x0)
def c_impl_each_c1_move (F : FOps) : Con
  | [V.at (A.ptr 0 0 0), V.at (A.ptr 1 0 0)], [⟨true, OC.box [A.sl 2, A.fl FloatKind.f32 x1]⟩, ⟨false, OC.box [A.fn 74 [(3, (0, 0))]]⟩, ⟨true, OC.rows [K.f FloatKind.f32, K.f FloatKind.f32, K.f FloatKind.f32] x0⟩, ⟨false, OC.box [A.fl FloatKind.f32 x2]⟩] => some (Pure.impl_each_c1_move_ok F x0 x1 x2, ⟨V.at (A.bool true), some [⟨true, OC.box [A.sl 2, A.fl FloatKind.f32 x1]⟩, ⟨false, OC.box [A.fn 74 [(3, (0, 0))]]⟩, ⟨true, OC.rows [K.f FloatKind.f32, K.f FloatKind.f32, K.f FloatKind.f32] (Pure.impl_each_c1_move F x0 x1 x2)⟩, ⟨false, OC.box [A.fl FloatKind.f32 x2]⟩], []⟩)
  | _, _ => none
theorem e_impl_each_c1_move (F : FOps) (x0 : List (List Int)) (x1 : Int) (x2 : Int) : Pure.impl_each_c1_move_ok F x0 x1 x2 = true → evFn (cxS F tyl [(74, c_impl_MoveRow_c1 F)] [74] [(0, S_impl_each_c1_move_L0 F)] 0) Try.f84 true [V.at (A.ptr 0 0 0), V.at (A.ptr 1 0 0)] [⟨true, OC.box [A.sl 2, A.fl FloatKind.f32 x1]⟩, ⟨false, OC.box [A.fn 74 [(3, (0, 0))]]⟩, ⟨true, OC.rows [K.f FloatKind.f32, K.f FloatKind.f32, K.f FloatKind.f32] x0⟩, ⟨false, OC.box [A.fl FloatKind.f32 x2]⟩] = some ⟨V.at (A.bool true), some [⟨true, OC.box [A.sl 2, A.fl FloatKind.f32 x1]⟩, ⟨false, OC.box [A.fn 74 [(3, (0, 0))]]⟩, ⟨true, OC.rows [K.f FloatKind.f32, K.f FloatKind.f32, K.f FloatKind.f32] (Pure.impl_each_c1_move F x0 x1 x2)⟩, ⟨false, OC.box [A.fl FloatKind.f32 x2]⟩], []⟩ := by
  have h0 : evFn (cxS F tyl [(74, c_impl_MoveRow_c1 F)] [74] [(0, S_impl_each_c1_move_L0 F)] 0) Try.f84 true [V.at (A.ptr 0 0 0), V.at (A.ptr 1 0 0)] [⟨true, OC.box [A.sl 2, A.fl FloatKind.f32 x1]⟩, ⟨false, OC.box [A.fn 74 [(3, (0, 0))]]⟩, ⟨true, OC.rows [K.f FloatKind.f32, K.f FloatKind.f32, K.f FloatKind.f32] x0⟩, ⟨false, OC.box [A.fl FloatKind.f32 x2]⟩] = bif Prod.fst (Pure.impl_each_c1_move_L0 F (Int.ofNat (List.length x0)) x1 x2 (Nat.succ ((List.length x0) + 0)) 0 x0) then some ⟨V.at (A.bool true), some [⟨true, OC.box [A.sl 2, A.fl FloatKind.f32 x1]⟩, ⟨false, OC.box [A.fn 74 [(3, (0, 0))]]⟩, ⟨true, OC.rows [K.f FloatKind.f32, K.f FloatKind.f32, K.f FloatKind.f32] (Prod.snd (Pure.impl_each_c1_move_L0 F (Int.ofNat (List.length x0)) x1 x2 (Nat.succ ((List.length x0) + 0)) 0 x0))⟩, ⟨false, OC.box [A.fl FloatKind.f32 x2]⟩], []⟩ else none := by kernel_rfl
  rw [h0]
  unfold Pure.impl_each_c1_move Pure.impl_each_c1_move_ok
  cases (Prod.fst (Pure.impl_each_c1_move_L0 F (Int.ofNat (List.length x0)) x1 x2 (Nat.succ ((List.length x0) + 0)) 0 x0)) with
  | true =>
    intro _; rfl
  | false =>
    intro h; exact absurd h Bool.false_ne_true
theorem ok_impl_each_c1_move : CallOK Try.prog 84 (c_impl_each_c1_move real) := by
  refine callOK_of fun args h ret hc => ?_
  unfold c_impl_each_c1_move at hc
  split at hc
  · rename_i x1 x0 x2
    obtain ⟨hok, rfl⟩ := some_ret hc
    exact holdsE_ev prog_ok (allOK_cons ok_impl_MoveRow_c1 allOK_nil) Try.func84 rfl rfl (smL_cons (body := .loop (loopB 0 (codeOf Try.f84))) (by kernel_rfl) t_impl_each_c1_move_L0 smL_nil) (e_impl_each_c1_move real x0 x1 x2 hok)
  · cases hc
def c_impl_each_c1_or2 (F : FOps) : Con := orC (c_impl_each_c1_or1 F) (c_impl_each_c1_move F)
theorem ok_impl_each_c1_or2 : CallOK Try.prog 84 (c_impl_each_c1_or2 real) := callOK_or ok_impl_each_c1_or1 ok_impl_each_c1_move
def Pure.impl_changedRow_move (F : FOps) (x0 : List (List Int)) (x1 : Int) (x2 : Int) : Int := bif Pure.impl_ValidRow F x0 x1 then bif Pure.impl_ValidRow F (Pure.impl_each_c1_move F x0 x1 x2) x1 then x1 else 0 else 0
def Pure.impl_changedRow_move_1 (F : FOps) (x0 : List (List Int)) (x1 : Int) (x2 : Int) : Bool := bif Pure.impl_ValidRow F x0 x1 then Pure.impl_ValidRow F (Pure.impl_each_c1_move F x0 x1 x2) x1 else false
def Pure.impl_changedRow_move_2 (F : FOps) (x0 : List (List Int)) (x1 : Int) (x2 : Int) : List (List Int) := bif Pure.impl_ValidRow F x0 x1 then bif Pure.impl_ValidRow F (Pure.impl_each_c1_move F x0 x1 x2) x1 then Pure.impl_each_c1_move F x0 x1 x2 else [] else []
def Pure.impl_changedRow_move_ok (F : FOps) (x0 : List (List Int)) (x1 : Int) (x2 : Int) : Bool := bif Pure.impl_ValidRow_ok F x0 x1 then bif Pure.impl_ValidRow F x0 x1 then bif Decidable.decide ((List.length x0) ≤ 1073741824) then bif Pure.impl_each_c1_move_ok F x0 x1 x2 then Pure.impl_ValidRow_ok F (Pure.impl_each_c1_move F x0 x1 x2) x1 else false else false else true else false
def c_impl_changedRow_move (F : FOps) : Con
  | [V.agg [A.sl 0, A.fl FloatKind.f32 x1], V.at (A.fn 84 [(1, (0, 0))])], [⟨false, OC.rows [K.f FloatKind.f32, K.f FloatKind.f32, K.f FloatKind.f32] x0⟩, ⟨false, OC.box [A.fn 74 [(2, (0, 0))]]⟩, ⟨false, OC.box [A.fl FloatKind.f32 x2]⟩] => some (Pure.impl_changedRow_move_ok F x0 x1 x2, ⟨V.tup [(true, [A.sl 3, A.fl FloatKind.f32 (Pure.impl_changedRow_move F x0 x1 x2)]), (false, [A.bool (Pure.impl_changedRow_move_1 F x0 x1 x2)])], none, [⟨true, OC.rows [K.f FloatKind.f32, K.f FloatKind.f32, K.f FloatKind.f32] (Pure.impl_changedRow_move_2 F x0 x1 x2)⟩]⟩)
  | _, _ => none
theorem e_impl_changedRow_move (F : FOps) (x0 : List (List Int)) (x1 : Int) (x2 : Int) : Pure.impl_changedRow_move_ok F x0 x1 x2 = true → evFn (cxS F tyl [(49, c_impl_ValidRow F), (85, c_slices_Clone_impl_Ball_impl_Ball F), (84, c_impl_each_c1_or2 F), (74, c_impl_MoveRow_c1 F)] [84, 74] [] 0) Try.f66 false [V.agg [A.sl 0, A.fl FloatKind.f32 x1], V.at (A.fn 84 [(1, (0, 0))])] [⟨false, OC.rows [K.f FloatKind.f32, K.f FloatKind.f32, K.f FloatKind.f32] x0⟩, ⟨false, OC.box [A.fn 74 [(2, (0, 0))]]⟩, ⟨false, OC.box [A.fl FloatKind.f32 x2]⟩] = some ⟨V.tup [(true, [A.sl 3, A.fl FloatKind.f32 (Pure.impl_changedRow_move F x0 x1 x2)]), (false, [A.bool (Pure.impl_changedRow_move_1 F x0 x1 x2)])], none, [⟨true, OC.rows [K.f FloatKind.f32, K.f FloatKind.f32, K.f FloatKind.f32] (Pure.impl_changedRow_move_2 F x0 x1 x2)⟩]⟩ := by
  have h0 : evFn (cxS F tyl [(49, c_impl_ValidRow F), (85, c_slices_Clone_impl_Ball_impl_Ball F), (84, c_impl_each_c1_or2 F), (74, c_impl_MoveRow_c1 F)] [84, 74] [] 0) Try.f66 false [V.agg [A.sl 0, A.fl FloatKind.f32 x1], V.at (A.fn 84 [(1, (0, 0))])] [⟨false, OC.rows [K.f FloatKind.f32, K.f FloatKind.f32, K.f FloatKind.f32] x0⟩, ⟨false, OC.box [A.fn 74 [(2, (0, 0))]]⟩, ⟨false, OC.box [A.fl FloatKind.f32 x2]⟩] = bif Pure.impl_ValidRow_ok F x0 x1 then bif Bool.not (Pure.impl_ValidRow F x0 x1) then some ⟨V.tup [(true, [A.sl 3, A.fl FloatKind.f32 0]), (false, [A.bool false])], none, [⟨true, OC.rows [K.f FloatKind.f32, K.f FloatKind.f32, K.f FloatKind.f32] []⟩]⟩ else bif Decidable.decide ((List.length x0) ≤ 1073741824) then bif Pure.impl_each_c1_move_ok F x0 x1 x2 then bif Pure.impl_ValidRow_ok F (Pure.impl_each_c1_move F x0 x1 x2) x1 then bif Bool.not (Pure.impl_ValidRow F (Pure.impl_each_c1_move F x0 x1 x2) x1) then some ⟨V.tup [(true, [A.sl 3, A.fl FloatKind.f32 0]), (false, [A.bool false])], none, [⟨true, OC.rows [K.f FloatKind.f32, K.f FloatKind.f32, K.f FloatKind.f32] []⟩]⟩ else some ⟨V.tup [(true, [A.sl 3, A.fl FloatKind.f32 x1]), (false, [A.bool true])], none, [⟨true, OC.rows [K.f FloatKind.f32, K.f FloatKind.f32, K.f FloatKind.f32] (Pure.impl_each_c1_move F x0 x1 x2)⟩]⟩ else none else none else none else none := by kernel_rfl
  rw [h0]
  unfold Pure.impl_changedRow_move Pure.impl_changedRow_move_1 Pure.impl_changedRow_move_2 Pure.impl_changedRow_move_ok
  cases (Pure.impl_ValidRow_ok F x0 x1) with
  | true =>
    cases (Pure.impl_ValidRow F x0 x1) with
    | true =>
      cases (Decidable.decide ((List.length x0) ≤ 1073741824)) with
      | true =>
        cases (Pure.impl_each_c1_move_ok F x0 x1 x2) with
        | true =>
          cases (Pure.impl_ValidRow_ok F (Pure.impl_each_c1_move F x0 x1 x2) x1) with
          | true =>
            cases (Pure.impl_ValidRow F (Pure.impl_each_c1_move F x0 x1 x2) x1) with
            | true =>
              intro _; rfl
            | false =>
              intro _; rfl
          | false =>
            intro h; exact absurd h Bool.false_ne_true
        | false =>
          intro h; exact absurd h Bool.false_ne_true
      | false =>
        intro h; exact absurd h Bool.false_ne_true
    | false =>
      intro _; rfl
  | false =>
    intro h; exact absurd h Bool.false_ne_true
theorem ok_impl_changedRow_move : CallOK Try.prog 66 (c_impl_changedRow_move real) := by
  refine callOK_of fun args h ret hc => ?_
  unfold c_impl_changedRow_move at hc
  split at hc
  · rename_i x1 x0 x2
    obtain ⟨hok, rfl⟩ := some_ret hc
    exact holds_ev prog_ok (allOK_cons ok_impl_ValidRow (allOK_cons ok_slices_Clone_impl_Ball_impl_Ball (allOK_cons ok_impl_each_c1_or2 (allOK_cons ok_impl_MoveRow_c1 allOK_nil)))) Try.func66 rfl rfl smL_nil rfl (e_impl_changedRow_move real x0 x1 x2 hok)
  · cases hc
def c_impl_changedRow_or2 (F : FOps) : Con := orC (c_impl_changedRow_or1 F) (c_impl_changedRow_move F)
theorem ok_impl_changedRow_or2 : CallOK Try.prog 66 (c_impl_changedRow_or2 real) := callOK_or ok_impl_changedRow_or1 ok_impl_changedRow_move
def Pure.impl_each_move_ok (F : FOps) (x0 : List (List Int)) (x1 : Int) (x2 : Int) : Bool := Pure.impl_changedRow_move_ok F x0 x1 x2
def c_impl_each_move (F : FOps) : Con
  | [V.agg [A.sl 0, A.fl FloatKind.f32 x1], V.at (A.fn 74 [(1, (0, 0))])], [⟨false, OC.rows [K.f FloatKind.f32, K.f FloatKind.f32, K.f FloatKind.f32] x0⟩, ⟨false, OC.box [A.fl FloatKind.f32 x2]⟩] => some (Pure.impl_each_move_ok F x0 x1 x2, ⟨V.tup [(true, [A.sl 2, A.fl FloatKind.f32 (Pure.impl_changedRow_move F x0 x1 x2)]), (false, [A.bool (Pure.impl_changedRow_move_1 F x0 x1 x2)])], none, [⟨true, OC.rows [K.f FloatKind.f32, K.f FloatKind.f32, K.f FloatKind.f32] (Pure.impl_changedRow_move_2 F x0 x1 x2)⟩]⟩)
  | _, _ => none
theorem e_impl_each_move (F : FOps) (x0 : List (List Int)) (x1 : Int) (x2 : Int) : Pure.impl_each_move_ok F x0 x1 x2 = true → evFn (cxS F tyl [(84, c_impl_each_c1_or2 F), (66, c_impl_changedRow_or2 F), (74, c_impl_MoveRow_c1 F)] [84, 74] [] 0) Try.f64 false [V.agg [A.sl 0, A.fl FloatKind.f32 x1], V.at (A.fn 74 [(1, (0, 0))])] [⟨false, OC.rows [K.f FloatKind.f32, K.f FloatKind.f32, K.f FloatKind.f32] x0⟩, ⟨false, OC.box [A.fl FloatKind.f32 x2]⟩] = some ⟨V.tup [(true, [A.sl 2, A.fl FloatKind.f32 (Pure.impl_changedRow_move F x0 x1 x2)]), (false, [A.bool (Pure.impl_changedRow_move_1 F x0 x1 x2)])], none, [⟨true, OC.rows [K.f FloatKind.f32, K.f FloatKind.f32, K.f FloatKind.f32] (Pure.impl_changedRow_move_2 F x0 x1 x2)⟩]⟩ := by
  have h0 : evFn (cxS F tyl [(84, c_impl_each_c1_or2 F), (66, c_impl_changedRow_or2 F), (74, c_impl_MoveRow_c1 F)] [84, 74] [] 0) Try.f64 false [V.agg [A.sl 0, A.fl FloatKind.f32 x1], V.at (A.fn 74 [(1, (0, 0))])] [⟨false, OC.rows [K.f FloatKind.f32, K.f FloatKind.f32, K.f FloatKind.f32] x0⟩, ⟨false, OC.box [A.fl FloatKind.f32 x2]⟩] = bif Pure.impl_changedRow_move_ok F x0 x1 x2 then some ⟨V.tup [(true, [A.sl 2, A.fl FloatKind.f32 (Pure.impl_changedRow_move F x0 x1 x2)]), (false, [A.bool (Pure.impl_changedRow_move_1 F x0 x1 x2)])], none, [⟨true, OC.rows [K.f FloatKind.f32, K.f FloatKind.f32, K.f FloatKind.f32] (Pure.impl_changedRow_move_2 F x0 x1 x2)⟩]⟩ else none := by kernel_rfl
  rw [h0]
  unfold Pure.impl_each_move_ok
  cases (Pure.impl_changedRow_move_ok F x0 x1 x2) with
  | true =>
    intro _; rfl
  | false =>
    intro h; exact absurd h Bool.false_ne_true
theorem ok_impl_each_move : CallOK Try.prog 64 (c_impl_each_move real) := by
  refine callOK_of fun args h ret hc => ?_
  unfold c_impl_each_move at hc
  split at hc
  · rename_i x1 x0 x2
    obtain ⟨hok, rfl⟩ := some_ret hc
    exact holds_ev prog_ok (allOK_cons ok_impl_each_c1_or2 (allOK_cons ok_impl_changedRow_or2 (allOK_cons ok_impl_MoveRow_c1 allOK_nil))) Try.func64 rfl rfl smL_nil rfl (e_impl_each_move real x0 x1 x2 hok)
  · cases hc
def c_impl_each_or2 (F : FOps) : Con := orC (c_impl_each_or1 F) (c_impl_each_move F)
theorem ok_impl_each_or2 : CallOK Try.prog 64 (c_impl_each_or2 real) := callOK_or ok_impl_each_or1 ok_impl_each_move
def Pure.spec_l06Move_L0 (F : FOps) (y0 : Int) (y2 : Int) (y3 : List (List Int)) (y4 : Int) (y5 : Int) : Nat → Int → (List (List Int)) → (Bool × (List (List Int)))
  | 0, _, _ => (false, [])
  | n + 1, y1, y6 => bif (Decidable.decide (y1 < (Int.ofNat (List.length y6)))) then (bif (Decidable.decide (0 ≤ y1)) then (bif (Decidable.decide (y1 < (Int.ofNat (List.length y6)))) then (bif (Decidable.decide (0 ≤ y1)) then (bif (Decidable.decide (y1 < (Int.ofNat (List.length y6)))) then (bif (Decidable.decide (0 ≤ y1)) then (bif (Decidable.decide (y1 < (Int.ofNat (List.length y6)))) then (Pure.spec_l06Move_L0 F y0 y2 y3 y4 y5 n (IntKind.wrap IntKind.i64 (y1 + 1)) (List.set y6 (Int.toNat y1) (setFrom (List.getD y6 (Int.toNat y1) []) 0 [FOps.bin F BinOp.add FloatKind.f32 (List.getD (List.getD y6 (Int.toNat y1) []) 0 0) (FOps.bin F BinOp.mul FloatKind.f32 y0 (List.getD (List.getD y6 (Int.toNat y1) []) 1 0))]))) else ((false, []))) else ((false, []))) else ((false, []))) else ((false, []))) else ((false, []))) else ((false, []))) else ((true, y6))
def R_spec_l06Move_L0 (y2 : Int) (y3 : List (List Int)) (y4 : Int) (y5 : Int) (r : (Bool × (List (List Int)))) : Bool × Bool × (Ex × List V × List Ob) × (Ex × List V × List Ob) := ((r).1, false, (Ex.normal, [V.at (A.ptr 2 0 0), V.at (A.ptr 3 0 0)], [⟨false, OC.box [A.sl 1, A.fl FloatKind.f32 y2]⟩, ⟨false, OC.rows [K.f FloatKind.f32, K.f FloatKind.f32, K.f FloatKind.f32] y3⟩, ⟨true, OC.box [A.nil, A.fl FloatKind.f32 y4]⟩, ⟨true, OC.box [A.sl 4, A.fl FloatKind.f32 y5]⟩, ⟨true, OC.rows [K.f FloatKind.f32, K.f FloatKind.f32, K.f FloatKind.f32] (r).2⟩]), (Ex.normal, [V.at (A.ptr 2 0 0), V.at (A.ptr 3 0 0)], [⟨false, OC.box [A.sl 1, A.fl FloatKind.f32 y2]⟩, ⟨false, OC.rows [K.f FloatKind.f32, K.f FloatKind.f32, K.f FloatKind.f32] y3⟩, ⟨true, OC.box [A.nil, A.fl FloatKind.f32 y4]⟩, ⟨true, OC.box [A.sl 4, A.fl FloatKind.f32 y5]⟩, ⟨true, OC.rows [K.f FloatKind.f32, K.f FloatKind.f32, K.f FloatKind.f32] (r).2⟩]))
def S_spec_l06Move_L0 (F : FOps) : Sm := ⟨[1, 4, 5, 6], [22, 0, 0, 3], [4, 5], fun vals hp => match vals, hp with
  | [V.at (A.fl FloatKind.f32 y0), V.at (A.ptr 2 0 0), V.at (A.ptr 3 0 0), V.at (A.int IntKind.i64 y1)], [⟨false, OC.box [A.sl 1, A.fl FloatKind.f32 y2]⟩, ⟨false, OC.rows [K.f FloatKind.f32, K.f FloatKind.f32, K.f FloatKind.f32] y3⟩, ⟨true, OC.box [A.nil, A.fl FloatKind.f32 y4]⟩, ⟨true, OC.box [A.sl 4, A.fl FloatKind.f32 y5]⟩, ⟨true, OC.rows [K.f FloatKind.f32, K.f FloatKind.f32, K.f FloatKind.f32] y6⟩] => some (R_spec_l06Move_L0 y2 y3 y4 y5 (Pure.spec_l06Move_L0 F y0 y2 y3 y4 y5 ((Int.ofNat (List.length y6)) - y1 + 1).toNat y1 y6))
  | _, _ => none⟩
theorem l_spec_l06Move_L0 (F : FOps) (y0 : Int) (y2 : Int) (y3 : List (List Int)) (y4 : Int) (y5 : Int) : ∀ (fuel : Nat) (y1 : Int) (y6 : List (List Int)), (Pure.spec_l06Move_L0 F y0 y2 y3 y4 y5 fuel y1 y6).1 = true → loopOf (cxS F tyl [(63, c_spec_l06Own F)] [] [] 0) 2 37 0 [1, 4, 5, 6] [22, 0, 0, 3] [4, 5] (loopB 0 (codeOf Try.f72)) fuel [V.at (A.fl FloatKind.f32 y0), V.at (A.ptr 2 0 0), V.at (A.ptr 3 0 0), V.at (A.int IntKind.i64 y1)] [⟨false, OC.box [A.sl 1, A.fl FloatKind.f32 y2]⟩, ⟨false, OC.rows [K.f FloatKind.f32, K.f FloatKind.f32, K.f FloatKind.f32] y3⟩, ⟨true, OC.box [A.nil, A.fl FloatKind.f32 y4]⟩, ⟨true, OC.box [A.sl 4, A.fl FloatKind.f32 y5]⟩, ⟨true, OC.rows [K.f FloatKind.f32, K.f FloatKind.f32, K.f FloatKind.f32] y6⟩] = resOf (R_spec_l06Move_L0 y2 y3 y4 y5 (Pure.spec_l06Move_L0 F y0 y2 y3 y4 y5 fuel y1 y6)) := by
  intro fuel
  induction fuel with
  | zero => intro y1 y6 h; exact absurd h Bool.false_ne_true
  | succ n ih =>
    intro y1 y6
    have h0 : roundOf (cxS F tyl [(63, c_spec_l06Own F)] [] [] 0) 2 37 0 [1, 4, 5, 6] [22, 0, 0, 3] [4, 5] (loopB 0 (codeOf Try.f72)) [V.at (A.fl FloatKind.f32 y0), V.at (A.ptr 2 0 0), V.at (A.ptr 3 0 0), V.at (A.int IntKind.i64 y1)] [⟨false, OC.box [A.sl 1, A.fl FloatKind.f32 y2]⟩, ⟨false, OC.rows [K.f FloatKind.f32, K.f FloatKind.f32, K.f FloatKind.f32] y3⟩, ⟨true, OC.box [A.nil, A.fl FloatKind.f32 y4]⟩, ⟨true, OC.box [A.sl 4, A.fl FloatKind.f32 y5]⟩, ⟨true, OC.rows [K.f FloatKind.f32, K.f FloatKind.f32, K.f FloatKind.f32] y6⟩] = (bif Decidable.decide (y1 < (Int.ofNat (List.length y6))) then bif Decidable.decide (0 ≤ y1) then bif Decidable.decide (y1 < (Int.ofNat (List.length y6))) then bif Decidable.decide (0 ≤ y1) then bif Decidable.decide (y1 < (Int.ofNat (List.length y6))) then bif Decidable.decide (0 ≤ y1) then bif Decidable.decide (y1 < (Int.ofNat (List.length y6))) then some (true, (Ex.normal, ([V.at (A.fl FloatKind.f32 y0), V.at (A.ptr 2 0 0), V.at (A.ptr 3 0 0), V.at (A.int IntKind.i64 (IntKind.wrap IntKind.i64 (y1 + 1)))], [⟨false, OC.box [A.sl 1, A.fl FloatKind.f32 y2]⟩, ⟨false, OC.rows [K.f FloatKind.f32, K.f FloatKind.f32, K.f FloatKind.f32] y3⟩, ⟨true, OC.box [A.nil, A.fl FloatKind.f32 y4]⟩, ⟨true, OC.box [A.sl 4, A.fl FloatKind.f32 y5]⟩, ⟨true, OC.rows [K.f FloatKind.f32, K.f FloatKind.f32, K.f FloatKind.f32] (List.set y6 (Int.toNat y1) (setFrom (List.getD y6 (Int.toNat y1) []) 0 [FOps.bin F BinOp.add FloatKind.f32 (List.getD (List.getD y6 (Int.toNat y1) []) 0 0) (FOps.bin F BinOp.mul FloatKind.f32 y0 (List.getD (List.getD y6 (Int.toNat y1) []) 1 0))]))⟩]))) else none else none else none else none else none else none else some (false, (Ex.normal, ([V.at (A.ptr 2 0 0), V.at (A.ptr 3 0 0)], [⟨false, OC.box [A.sl 1, A.fl FloatKind.f32 y2]⟩, ⟨false, OC.rows [K.f FloatKind.f32, K.f FloatKind.f32, K.f FloatKind.f32] y3⟩, ⟨true, OC.box [A.nil, A.fl FloatKind.f32 y4]⟩, ⟨true, OC.box [A.sl 4, A.fl FloatKind.f32 y5]⟩, ⟨true, OC.rows [K.f FloatKind.f32, K.f FloatKind.f32, K.f FloatKind.f32] y6⟩])))) := by kernel_rfl
    unfold loopOf
    rw [h0]
    unfold Pure.spec_l06Move_L0
    cases (Decidable.decide (y1 < (Int.ofNat (List.length y6)))) with
    | true =>
      cases (Decidable.decide (0 ≤ y1)) with
      | true =>
        exact ih _ _
      | false =>
        intro h; exact absurd h Bool.false_ne_true
    | false =>
      intro _; rfl
theorem t_spec_l06Move_L0 : SmTo Try.prog 2 37 (S_spec_l06Move_L0 real) 0 (.loop (loopB 0 (codeOf Try.f72))) := by
  refine smTo_ev (cl := [(63, c_spec_l06Own real)]) (ef := []) (sm := []) (un := 0) prog_ok (allOK_cons ok_spec_l06Own allOK_nil) smL_nil ?_
  intro vals hp q r h hq
  unfold S_spec_l06Move_L0 at h
  dsimp only at h
  split at h
  · rename_i y0 y1 y2 y3 y4 y5 y6
    obtain rfl := Option.some.inj h
    have h1 := hq
    unfold resOf at h1
    rw [chk_some] at h1
    exact ⟨_, (l_spec_l06Move_L0 real y0 y2 y3 y4 y5 _ y1 y6 h1.1).trans hq⟩
  · cases h
def Pure.spec_l06Move (F : FOps) (x0 : List (List Int)) (x1 : Int) (x2 : Int) : List (List Int) := Prod.snd (Pure.spec_l06Move_L0 F x2 x1 x0 0 x1 (Nat.succ ((List.length x0) + 0)) 0 x0)
def Pure.spec_l06Move_ok (F : FOps) (x0 : List (List Int)) (x1 : Int) (x2 : Int) : Bool := bif Pure.spec_l06Own_ok F x0 x1 then Prod.fst (Pure.spec_l06Move_L0 F x2 x1 x0 0 x1 (Nat.succ ((List.length x0) + 0)) 0 x0) else false
def c_spec_l06Move (F : FOps) : Con
  | [V.at (A.ptr 0 0 0), V.at (A.fl FloatKind.f32 x2)], [⟨false, OC.box [A.sl 1, A.fl FloatKind.f32 x1]⟩, ⟨false, OC.rows [K.f FloatKind.f32, K.f FloatKind.f32, K.f FloatKind.f32] x0⟩] => some (Pure.spec_l06Move_ok F x0 x1 x2, ⟨V.agg [A.sl 2, A.fl FloatKind.f32 x1], none, [⟨true, OC.rows [K.f FloatKind.f32, K.f FloatKind.f32, K.f FloatKind.f32] (Pure.spec_l06Move F x0 x1 x2)⟩]⟩)
  | _, _ => none
theorem e_spec_l06Move (F : FOps) (x0 : List (List Int)) (x1 : Int) (x2 : Int) : Pure.spec_l06Move_ok F x0 x1 x2 = true → evFn (cxS F tyl [(63, c_spec_l06Own F)] [] [(0, S_spec_l06Move_L0 F)] 0) Try.f72 false [V.at (A.ptr 0 0 0), V.at (A.fl FloatKind.f32 x2)] [⟨false, OC.box [A.sl 1, A.fl FloatKind.f32 x1]⟩, ⟨false, OC.rows [K.f FloatKind.f32, K.f FloatKind.f32, K.f FloatKind.f32] x0⟩] = some ⟨V.agg [A.sl 2, A.fl FloatKind.f32 x1], none, [⟨true, OC.rows [K.f FloatKind.f32, K.f FloatKind.f32, K.f FloatKind.f32] (Pure.spec_l06Move F x0 x1 x2)⟩]⟩ := by
  have h0 : evFn (cxS F tyl [(63, c_spec_l06Own F)] [] [(0, S_spec_l06Move_L0 F)] 0) Try.f72 false [V.at (A.ptr 0 0 0), V.at (A.fl FloatKind.f32 x2)] [⟨false, OC.box [A.sl 1, A.fl FloatKind.f32 x1]⟩, ⟨false, OC.rows [K.f FloatKind.f32, K.f FloatKind.f32, K.f FloatKind.f32] x0⟩] = bif Pure.spec_l06Own_ok F x0 x1 then bif Prod.fst (Pure.spec_l06Move_L0 F x2 x1 x0 0 x1 (Nat.succ ((List.length x0) + 0)) 0 x0) then some ⟨V.agg [A.sl 2, A.fl FloatKind.f32 x1], none, [⟨true, OC.rows [K.f FloatKind.f32, K.f FloatKind.f32, K.f FloatKind.f32] (Prod.snd (Pure.spec_l06Move_L0 F x2 x1 x0 0 x1 (Nat.succ ((List.length x0) + 0)) 0 x0))⟩]⟩ else none else none := by kernel_rfl
  rw [h0]
  unfold Pure.spec_l06Move Pure.spec_l06Move_ok
  cases (Pure.spec_l06Own_ok F x0 x1) with
  | true =>
    cases (Prod.fst (Pure.spec_l06Move_L0 F x2 x1 x0 0 x1 (Nat.succ ((List.length x0) + 0)) 0 x0)) with
    | true =>
      intro _; rfl
    | false =>
      intro h; exact absurd h Bool.false_ne_true
  | false =>
    intro h; exact absurd h Bool.false_ne_true
theorem ok_spec_l06Move : CallOK Try.prog 72 (c_spec_l06Move real) := by
  refine callOK_of fun args h ret hc => ?_
  unfold c_spec_l06Move at hc
  split at hc
  · rename_i x2 x1 x0
    obtain ⟨hok, rfl⟩ := some_ret hc
    exact holds_ev prog_ok (allOK_cons ok_spec_l06Own allOK_nil) Try.func72 rfl rfl (smL_cons (body := .loop (loopB 0 (codeOf Try.f72))) (by kernel_rfl) t_spec_l06Move_L0 smL_nil) rfl (e_spec_l06Move real x0 x1 x2 hok)
  · cases hc
def Pure.spec_MoveRow (F : FOps) (x0 : List (List Int)) (x1 : Int) (x2 : Int) : Int := bif Pure.spec_l06Is F x0 x1 then bif Pure.spec_l01Finite F x2 then bif Pure.spec_l06Give_way F (Pure.spec_l06Move F x0 x1 x2) x1 then x1 else 0 else 0 else 0
def Pure.spec_MoveRow_1 (F : FOps) (x0 : List (List Int)) (x1 : Int) (x2 : Int) : Bool := bif Pure.spec_l06Is F x0 x1 then bif Pure.spec_l01Finite F x2 then Pure.spec_l06Give_way F (Pure.spec_l06Move F x0 x1 x2) x1 else false else false
def Pure.spec_MoveRow_2 (F : FOps) (x0 : List (List Int)) (x1 : Int) (x2 : Int) : List (List Int) := bif Pure.spec_l06Is F x0 x1 then bif Pure.spec_l01Finite F x2 then bif Pure.spec_l06Give_way F (Pure.spec_l06Move F x0 x1 x2) x1 then Pure.spec_l06Move F x0 x1 x2 else [] else [] else []
def Pure.spec_MoveRow_ok (F : FOps) (x0 : List (List Int)) (x1 : Int) (x2 : Int) : Bool := bif Pure.spec_l06Is_ok F x0 x1 then bif Pure.spec_l06Is F x0 x1 then bif Pure.spec_l01Finite F x2 then bif Pure.spec_l06Move_ok F x0 x1 x2 then bif Pure.spec_l06Give_way F (Pure.spec_l06Move F x0 x1 x2) x1 then Pure.spec_l06Give_okA F (Pure.spec_l06Move F x0 x1 x2) x1 else Pure.spec_l06Give_okB F (Pure.spec_l06Move F x0 x1 x2) x1 else false else true else true else false
def c_spec_MoveRow (F : FOps) : Con
  | [V.agg [A.sl 0, A.fl FloatKind.f32 x1], V.at (A.fl FloatKind.f32 x2)], [⟨false, OC.rows [K.f FloatKind.f32, K.f FloatKind.f32, K.f FloatKind.f32] x0⟩] => some (Pure.spec_MoveRow_ok F x0 x1 x2, ⟨V.tup [(true, [A.sl 1, A.fl FloatKind.f32 (Pure.spec_MoveRow F x0 x1 x2)]), (false, [A.bool (Pure.spec_MoveRow_1 F x0 x1 x2)])], none, [⟨true, OC.rows [K.f FloatKind.f32, K.f FloatKind.f32, K.f FloatKind.f32] (Pure.spec_MoveRow_2 F x0 x1 x2)⟩]⟩)
  | _, _ => none
theorem e_spec_MoveRow (F : FOps) (x0 : List (List Int)) (x1 : Int) (x2 : Int) : Pure.spec_MoveRow_ok F x0 x1 x2 = true → evFn (cxS F tyl [(54, c_spec_l06Is F), (71, c_spec_l01Finite F), (72, c_spec_l06Move F)] [] [] 0 [(47, c2_spec_l06Give F)]) Try.f42 false [V.agg [A.sl 0, A.fl FloatKind.f32 x1], V.at (A.fl FloatKind.f32 x2)] [⟨false, OC.rows [K.f FloatKind.f32, K.f FloatKind.f32, K.f FloatKind.f32] x0⟩] = some ⟨V.tup [(true, [A.sl 1, A.fl FloatKind.f32 (Pure.spec_MoveRow F x0 x1 x2)]), (false, [A.bool (Pure.spec_MoveRow_1 F x0 x1 x2)])], none, [⟨true, OC.rows [K.f FloatKind.f32, K.f FloatKind.f32, K.f FloatKind.f32] (Pure.spec_MoveRow_2 F x0 x1 x2)⟩]⟩ := by
  have h0 : evFn (cxS F tyl [(54, c_spec_l06Is F), (71, c_spec_l01Finite F), (72, c_spec_l06Move F)] [] [] 0 [(47, c2_spec_l06Give F)]) Try.f42 false [V.agg [A.sl 0, A.fl FloatKind.f32 x1], V.at (A.fl FloatKind.f32 x2)] [⟨false, OC.rows [K.f FloatKind.f32, K.f FloatKind.f32, K.f FloatKind.f32] x0⟩] = bif Pure.spec_l06Is_ok F x0 x1 then bif Bool.not (Pure.spec_l06Is F x0 x1) then some ⟨V.tup [(true, [A.sl 1, A.fl FloatKind.f32 0]), (false, [A.bool false])], none, [⟨true, OC.rows [K.f FloatKind.f32, K.f FloatKind.f32, K.f FloatKind.f32] []⟩]⟩ else bif Bool.not (Pure.spec_l01Finite F x2) then some ⟨V.tup [(true, [A.sl 1, A.fl FloatKind.f32 0]), (false, [A.bool false])], none, [⟨true, OC.rows [K.f FloatKind.f32, K.f FloatKind.f32, K.f FloatKind.f32] []⟩]⟩ else bif Pure.spec_l06Move_ok F x0 x1 x2 then bif Pure.spec_l06Give_way F (Pure.spec_l06Move F x0 x1 x2) x1 then bif Pure.spec_l06Give_okA F (Pure.spec_l06Move F x0 x1 x2) x1 then some ⟨V.tup [(true, [A.sl 1, A.fl FloatKind.f32 x1]), (false, [A.bool true])], none, [⟨true, OC.rows [K.f FloatKind.f32, K.f FloatKind.f32, K.f FloatKind.f32] (Pure.spec_l06Move F x0 x1 x2)⟩]⟩ else none else bif Pure.spec_l06Give_okB F (Pure.spec_l06Move F x0 x1 x2) x1 then some ⟨V.tup [(true, [A.sl 1, A.fl FloatKind.f32 0]), (false, [A.bool false])], none, [⟨true, OC.rows [K.f FloatKind.f32, K.f FloatKind.f32, K.f FloatKind.f32] []⟩]⟩ else none else none else none := by kernel_rfl
  rw [h0]
  unfold Pure.spec_MoveRow Pure.spec_MoveRow_1 Pure.spec_MoveRow_2 Pure.spec_MoveRow_ok
  cases (Pure.spec_l06Is_ok F x0 x1) with
  | true =>
    cases (Pure.spec_l06Is F x0 x1) with
    | true =>
      cases (Pure.spec_l01Finite F x2) with
      | true =>
        cases (Pure.spec_l06Move_ok F x0 x1 x2) with
        | true =>
          cases (Pure.spec_l06Give_way F (Pure.spec_l06Move F x0 x1 x2) x1) with
          | true =>
            cases (Pure.spec_l06Give_okA F (Pure.spec_l06Move F x0 x1 x2) x1) with
            | true =>
              intro _; rfl
            | false =>
              intro h; exact absurd h Bool.false_ne_true
          | false =>
            cases (Pure.spec_l06Give_okB F (Pure.spec_l06Move F x0 x1 x2) x1) with
            | true =>
              intro _; rfl
            | false =>
              intro h; exact absurd h Bool.false_ne_true
        | false =>
          intro h; exact absurd h Bool.false_ne_true
      | false =>
        intro _; rfl
    | false =>
      intro _; rfl
  | false =>
    intro h; exact absurd h Bool.false_ne_true
theorem ok_spec_MoveRow : CallOK Try.prog 42 (c_spec_MoveRow real) := by
  refine callOK_of fun args h ret hc => ?_
  unfold c_spec_MoveRow at hc
  split at hc
  · rename_i x1 x2 x0
    obtain ⟨hok, rfl⟩ := some_ret hc
    exact holds_ev2 prog_ok (allOK_cons ok_spec_l06Is (allOK_cons ok_spec_l01Finite (allOK_cons ok_spec_l06Move allOK_nil))) (allTwo_cons ok2_spec_l06Give allTwo_nil) Try.func42 rfl rfl smL_nil rfl (e_spec_MoveRow real x0 x1 x2 hok)
  · cases hc
def Pure.impl_MoveRow (F : FOps) (x0 : List (List Int)) (x1 : Int) (x2 : Int) : Int := bif Pure.impl_IsFinite F x2 then Pure.impl_changedRow_move F x0 x1 x2 else 0
def Pure.impl_MoveRow_1 (F : FOps) (x0 : List (List Int)) (x1 : Int) (x2 : Int) : Bool := bif Pure.impl_IsFinite F x2 then Pure.impl_changedRow_move_1 F x0 x1 x2 else false
def Pure.impl_MoveRow_2 (F : FOps) (x0 : List (List Int)) (x1 : Int) (x2 : Int) : List (List Int) := bif Pure.impl_IsFinite F x2 then Pure.impl_changedRow_move_2 F x0 x1 x2 else []
def Pure.impl_MoveRow_ok (F : FOps) (x0 : List (List Int)) (x1 : Int) (x2 : Int) : Bool := bif Pure.impl_IsFinite F x2 then Pure.impl_each_move_ok F x0 x1 x2 else true
def c_impl_MoveRow (F : FOps) : Con
  | [V.agg [A.sl 0, A.fl FloatKind.f32 x1], V.at (A.fl FloatKind.f32 x2)], [⟨false, OC.rows [K.f FloatKind.f32, K.f FloatKind.f32, K.f FloatKind.f32] x0⟩] => some (Pure.impl_MoveRow_ok F x0 x1 x2, ⟨V.tup [(true, [A.sl 1, A.fl FloatKind.f32 (Pure.impl_MoveRow F x0 x1 x2)]), (false, [A.bool (Pure.impl_MoveRow_1 F x0 x1 x2)])], none, [⟨true, OC.rows [K.f FloatKind.f32, K.f FloatKind.f32, K.f FloatKind.f32] (Pure.impl_MoveRow_2 F x0 x1 x2)⟩]⟩)
  | _, _ => none
theorem e_impl_MoveRow (F : FOps) (x0 : List (List Int)) (x1 : Int) (x2 : Int) : Pure.impl_MoveRow_ok F x0 x1 x2 = true → evFn (cxS F tyl [(73, c_impl_IsFinite F), (74, c_impl_MoveRow_c1 F), (64, c_impl_each_or2 F)] [74] [] 0) Try.f43 false [V.agg [A.sl 0, A.fl FloatKind.f32 x1], V.at (A.fl FloatKind.f32 x2)] [⟨false, OC.rows [K.f FloatKind.f32, K.f FloatKind.f32, K.f FloatKind.f32] x0⟩] = some ⟨V.tup [(true, [A.sl 1, A.fl FloatKind.f32 (Pure.impl_MoveRow F x0 x1 x2)]), (false, [A.bool (Pure.impl_MoveRow_1 F x0 x1 x2)])], none, [⟨true, OC.rows [K.f FloatKind.f32, K.f FloatKind.f32, K.f FloatKind.f32] (Pure.impl_MoveRow_2 F x0 x1 x2)⟩]⟩ := by
  have h0 : evFn (cxS F tyl [(73, c_impl_IsFinite F), (74, c_impl_MoveRow_c1 F), (64, c_impl_each_or2 F)] [74] [] 0) Try.f43 false [V.agg [A.sl 0, A.fl FloatKind.f32 x1], V.at (A.fl FloatKind.f32 x2)] [⟨false, OC.rows [K.f FloatKind.f32, K.f FloatKind.f32, K.f FloatKind.f32] x0⟩] = bif Bool.not (Pure.impl_IsFinite F x2) then some ⟨V.tup [(true, [A.sl 1, A.fl FloatKind.f32 0]), (false, [A.bool false])], none, [⟨true, OC.rows [K.f FloatKind.f32, K.f FloatKind.f32, K.f FloatKind.f32] []⟩]⟩ else bif Pure.impl_each_move_ok F x0 x1 x2 then some ⟨V.tup [(true, [A.sl 1, A.fl FloatKind.f32 (Pure.impl_changedRow_move F x0 x1 x2)]), (false, [A.bool (Pure.impl_changedRow_move_1 F x0 x1 x2)])], none, [⟨true, OC.rows [K.f FloatKind.f32, K.f FloatKind.f32, K.f FloatKind.f32] (Pure.impl_changedRow_move_2 F x0 x1 x2)⟩]⟩ else none := by kernel_rfl
  rw [h0]
  unfold Pure.impl_MoveRow Pure.impl_MoveRow_1 Pure.impl_MoveRow_2 Pure.impl_MoveRow_ok
  cases (Pure.impl_IsFinite F x2) with
  | true =>
    cases (Pure.impl_each_move_ok F x0 x1 x2) with
    | true =>
      intro _; rfl
    | false =>
      intro h; exact absurd h Bool.false_ne_true
  | false =>
    intro _; rfl
theorem ok_impl_MoveRow : CallOK Try.prog 43 (c_impl_MoveRow real) := by
  refine callOK_of fun args h ret hc => ?_
  unfold c_impl_MoveRow at hc
  split at hc
  · rename_i x1 x2 x0
    obtain ⟨hok, rfl⟩ := some_ret hc
    exact holds_ev prog_ok (allOK_cons ok_impl_IsFinite (allOK_cons ok_impl_MoveRow_c1 (allOK_cons ok_impl_each_or2 allOK_nil))) Try.func43 rfl rfl smL_nil rfl (e_impl_MoveRow real x0 x1 x2 hok)
  · cases hc
def Pure.laws_FnExactMoveRow (F : FOps) (x0 : List (List Int)) (x1 : Int) (x2 : Int) : Bool := bif Decidable.decide ((Pure.laws_szRow F x0 x1 1048576) < 0) then true else bif Pure.laws_eqRow F (Pure.impl_MoveRow_2 F (Pure.laws_toBallS F x0) x1 x2) (Pure.impl_MoveRow F (Pure.laws_toBallS F x0) x1 x2) (Pure.spec_MoveRow_2 F (Pure.laws_toBallS F x0) x1 x2) (Pure.spec_MoveRow F (Pure.laws_toBallS F x0) x1 x2) then bif (Pure.impl_MoveRow_1 F (Pure.laws_toBallS F x0) x1 x2) == (Pure.spec_MoveRow_1 F (Pure.laws_toBallS F x0) x1 x2) then bif Pure.laws_eqRow F (Pure.laws_toBallS F x0) x1 (Pure.laws_toBallS F x0) x1 then bif Decidable.decide ((Pure.laws_markBallS F (Pure.laws_toBallS F x0) 1) < 0) then false else bif Decidable.decide ((Pure.laws_heldRow F (Pure.laws_markBallS_1 F (Pure.impl_MoveRow_2 F (Pure.laws_toBallS F x0) x1 x2) 1) (Pure.impl_MoveRow F (Pure.laws_toBallS F x0) x1 x2) 1) < 0) then false else bif (Pure.laws_heldRow F (Pure.laws_markBallS_1 F (Pure.impl_MoveRow_2 F (Pure.laws_toBallS F x0) x1 x2) 1) (Pure.impl_MoveRow F (Pure.laws_toBallS F x0) x1 x2) 1) != (Pure.laws_markBallS F (Pure.impl_MoveRow_2 F (Pure.laws_toBallS F x0) x1 x2) 1) then false else true else false else false else false
def Pure.laws_FnExactMoveRow_ok (F : FOps) (x0 : List (List Int)) (x1 : Int) (x2 : Int) : Bool := bif Decidable.decide ((Pure.laws_szRow F x0 x1 1048576) < 0) then true else bif Pure.laws_toRow_ok F x0 x1 then bif Pure.spec_MoveRow_ok F (Pure.laws_toBallS F x0) x1 x2 then bif Pure.impl_MoveRow_ok F (Pure.laws_toBallS F x0) x1 x2 then bif Pure.laws_eqRow_ok F (Pure.impl_MoveRow_2 F (Pure.laws_toBallS F x0) x1 x2) (Pure.impl_MoveRow F (Pure.laws_toBallS F x0) x1 x2) (Pure.spec_MoveRow_2 F (Pure.laws_toBallS F x0) x1 x2) (Pure.spec_MoveRow F (Pure.laws_toBallS F x0) x1 x2) then bif Pure.laws_eqRow F (Pure.impl_MoveRow_2 F (Pure.laws_toBallS F x0) x1 x2) (Pure.impl_MoveRow F (Pure.laws_toBallS F x0) x1 x2) (Pure.spec_MoveRow_2 F (Pure.laws_toBallS F x0) x1 x2) (Pure.spec_MoveRow F (Pure.laws_toBallS F x0) x1 x2) then bif (Pure.impl_MoveRow_1 F (Pure.laws_toBallS F x0) x1 x2) == (Pure.spec_MoveRow_1 F (Pure.laws_toBallS F x0) x1 x2) then bif Pure.laws_eqRow_ok F (Pure.laws_toBallS F x0) x1 (Pure.laws_toBallS F x0) x1 then bif Pure.laws_eqRow F (Pure.laws_toBallS F x0) x1 (Pure.laws_toBallS F x0) x1 then bif Pure.laws_markRow_ok F (Pure.laws_toBallS F x0) x1 1 then bif Decidable.decide ((Pure.laws_markBallS F (Pure.laws_toBallS F x0) 1) < 0) then true else bif Pure.laws_markRow_ok F (Pure.impl_MoveRow_2 F (Pure.laws_toBallS F x0) x1 x2) (Pure.impl_MoveRow F (Pure.laws_toBallS F x0) x1 x2) 1 then Pure.laws_heldRow_ok F (Pure.laws_markBallS_1 F (Pure.impl_MoveRow_2 F (Pure.laws_toBallS F x0) x1 x2) 1) (Pure.impl_MoveRow F (Pure.laws_toBallS F x0) x1 x2) 1 else false else false else true else false else true else true else false else false else false else false
def c_laws_FnExactMoveRow (F : FOps) : Con
  | [V.agg [A.sl 0, A.fl FloatKind.f32 x1], V.at (A.fl FloatKind.f32 x2)], [⟨false, OC.rows [K.f FloatKind.f32, K.f FloatKind.f32, K.f FloatKind.f32] x0⟩] => some (Pure.laws_FnExactMoveRow_ok F x0 x1 x2, ⟨V.at (A.bool (Pure.laws_FnExactMoveRow F x0 x1 x2)), none, []⟩)
  | _, _ => none
theorem e_laws_FnExactMoveRow (F : FOps) (x0 : List (List Int)) (x1 : Int) (x2 : Int) : Pure.laws_FnExactMoveRow_ok F x0 x1 x2 = true → evFn (cxS F tyl [(19, c_laws_szRow F), (21, c_laws_toRow F), (42, c_spec_MoveRow F), (43, c_impl_MoveRow F), (16, c_laws_eqRow F), (17, c_laws_markRow F), (18, c_laws_heldRow F)] [17] [] 0) Try.f12 false [V.agg [A.sl 0, A.fl FloatKind.f32 x1], V.at (A.fl FloatKind.f32 x2)] [⟨false, OC.rows [K.f FloatKind.f32, K.f FloatKind.f32, K.f FloatKind.f32] x0⟩] = some ⟨V.at (A.bool (Pure.laws_FnExactMoveRow F x0 x1 x2)), none, []⟩ := by
  have h0 : evFn (cxS F tyl [(19, c_laws_szRow F), (21, c_laws_toRow F), (42, c_spec_MoveRow F), (43, c_impl_MoveRow F), (16, c_laws_eqRow F), (17, c_laws_markRow F), (18, c_laws_heldRow F)] [17] [] 0) Try.f12 false [V.agg [A.sl 0, A.fl FloatKind.f32 x1], V.at (A.fl FloatKind.f32 x2)] [⟨false, OC.rows [K.f FloatKind.f32, K.f FloatKind.f32, K.f FloatKind.f32] x0⟩] = bif Decidable.decide ((Pure.laws_szRow F x0 x1 1048576) < 0) then some ⟨V.at (A.bool true), none, []⟩ else bif Pure.laws_toRow_ok F x0 x1 then bif Pure.spec_MoveRow_ok F (Pure.laws_toBallS F x0) x1 x2 then bif Pure.laws_toRow_ok F x0 x1 then bif Pure.impl_MoveRow_ok F (Pure.laws_toBallS F x0) x1 x2 then bif Pure.laws_eqRow_ok F (Pure.impl_MoveRow_2 F (Pure.laws_toBallS F x0) x1 x2) (Pure.impl_MoveRow F (Pure.laws_toBallS F x0) x1 x2) (Pure.spec_MoveRow_2 F (Pure.laws_toBallS F x0) x1 x2) (Pure.spec_MoveRow F (Pure.laws_toBallS F x0) x1 x2) then bif Bool.not (Pure.laws_eqRow F (Pure.impl_MoveRow_2 F (Pure.laws_toBallS F x0) x1 x2) (Pure.impl_MoveRow F (Pure.laws_toBallS F x0) x1 x2) (Pure.spec_MoveRow_2 F (Pure.laws_toBallS F x0) x1 x2) (Pure.spec_MoveRow F (Pure.laws_toBallS F x0) x1 x2)) then some ⟨V.at (A.bool false), none, []⟩ else bif Bool.not ((Pure.impl_MoveRow_1 F (Pure.laws_toBallS F x0) x1 x2) == (Pure.spec_MoveRow_1 F (Pure.laws_toBallS F x0) x1 x2)) then some ⟨V.at (A.bool false), none, []⟩ else bif Pure.laws_toRow_ok F x0 x1 then bif Pure.laws_eqRow_ok F (Pure.laws_toBallS F x0) x1 (Pure.laws_toBallS F x0) x1 then bif Bool.not (Pure.laws_eqRow F (Pure.laws_toBallS F x0) x1 (Pure.laws_toBallS F x0) x1) then some ⟨V.at (A.bool false), none, []⟩ else bif Pure.laws_markRow_ok F (Pure.laws_toBallS F x0) x1 1 then bif Decidable.decide ((Pure.laws_markBallS F (Pure.laws_toBallS F x0) 1) < 0) then some ⟨V.at (A.bool false), none, []⟩ else bif Pure.laws_eqRow_ok F (Pure.impl_MoveRow_2 F (Pure.laws_toBallS F x0) x1 x2) (Pure.impl_MoveRow F (Pure.laws_toBallS F x0) x1 x2) (Pure.spec_MoveRow_2 F (Pure.laws_toBallS F x0) x1 x2) (Pure.spec_MoveRow F (Pure.laws_toBallS F x0) x1 x2) then bif Bool.not (Pure.laws_eqRow F (Pure.impl_MoveRow_2 F (Pure.laws_toBallS F x0) x1 x2) (Pure.impl_MoveRow F (Pure.laws_toBallS F x0) x1 x2) (Pure.spec_MoveRow_2 F (Pure.laws_toBallS F x0) x1 x2) (Pure.spec_MoveRow F (Pure.laws_toBallS F x0) x1 x2)) then some ⟨V.at (A.bool false), none, []⟩ else bif Bool.not ((Pure.impl_MoveRow_1 F (Pure.laws_toBallS F x0) x1 x2) == (Pure.spec_MoveRow_1 F (Pure.laws_toBallS F x0) x1 x2)) then some ⟨V.at (A.bool false), none, []⟩ else bif Pure.laws_markRow_ok F (Pure.impl_MoveRow_2 F (Pure.laws_toBallS F x0) x1 x2) (Pure.impl_MoveRow F (Pure.laws_toBallS F x0) x1 x2) 1 then bif Pure.laws_heldRow_ok F (Pure.laws_markBallS_1 F (Pure.impl_MoveRow_2 F (Pure.laws_toBallS F x0) x1 x2) 1) (Pure.impl_MoveRow F (Pure.laws_toBallS F x0) x1 x2) 1 then bif Decidable.decide ((Pure.laws_heldRow F (Pure.laws_markBallS_1 F (Pure.impl_MoveRow_2 F (Pure.laws_toBallS F x0) x1 x2) 1) (Pure.impl_MoveRow F (Pure.laws_toBallS F x0) x1 x2) 1) < 0) then some ⟨V.at (A.bool false), none, []⟩ else bif (Pure.laws_heldRow F (Pure.laws_markBallS_1 F (Pure.impl_MoveRow_2 F (Pure.laws_toBallS F x0) x1 x2) 1) (Pure.impl_MoveRow F (Pure.laws_toBallS F x0) x1 x2) 1) != (Pure.laws_markBallS F (Pure.impl_MoveRow_2 F (Pure.laws_toBallS F x0) x1 x2) 1) then some ⟨V.at (A.bool false), none, []⟩ else bif Pure.laws_toRow_ok F x0 x1 then bif Pure.impl_MoveRow_ok F (Pure.laws_toBallS F x0) x1 x2 then bif Pure.laws_eqRow_ok F (Pure.impl_MoveRow_2 F (Pure.laws_toBallS F x0) x1 x2) (Pure.impl_MoveRow F (Pure.laws_toBallS F x0) x1 x2) (Pure.spec_MoveRow_2 F (Pure.laws_toBallS F x0) x1 x2) (Pure.spec_MoveRow F (Pure.laws_toBallS F x0) x1 x2) then bif Bool.not (Pure.laws_eqRow F (Pure.impl_MoveRow_2 F (Pure.laws_toBallS F x0) x1 x2) (Pure.impl_MoveRow F (Pure.laws_toBallS F x0) x1 x2) (Pure.spec_MoveRow_2 F (Pure.laws_toBallS F x0) x1 x2) (Pure.spec_MoveRow F (Pure.laws_toBallS F x0) x1 x2)) then some ⟨V.at (A.bool false), none, []⟩ else bif Bool.not ((Pure.impl_MoveRow_1 F (Pure.laws_toBallS F x0) x1 x2) == (Pure.spec_MoveRow_1 F (Pure.laws_toBallS F x0) x1 x2)) then some ⟨V.at (A.bool false), none, []⟩ else bif Pure.laws_heldRow_ok F (Pure.laws_markBallS_1 F (Pure.impl_MoveRow_2 F (Pure.laws_toBallS F x0) x1 x2) 1) (Pure.impl_MoveRow F (Pure.laws_toBallS F x0) x1 x2) 1 then bif Decidable.decide ((Pure.laws_heldRow F (Pure.laws_markBallS_1 F (Pure.impl_MoveRow_2 F (Pure.laws_toBallS F x0) x1 x2) 1) (Pure.impl_MoveRow F (Pure.laws_toBallS F x0) x1 x2) 1) < 0) then some ⟨V.at (A.bool false), none, []⟩ else bif (Pure.laws_heldRow F (Pure.laws_markBallS_1 F (Pure.impl_MoveRow_2 F (Pure.laws_toBallS F x0) x1 x2) 1) (Pure.impl_MoveRow F (Pure.laws_toBallS F x0) x1 x2) 1) != (Pure.laws_markBallS F (Pure.impl_MoveRow_2 F (Pure.laws_toBallS F x0) x1 x2) 1) then some ⟨V.at (A.bool false), none, []⟩ else some ⟨V.at (A.bool true), none, []⟩ else none else none else none else none else none else none else none else none else none else none else none else none else none else none else none := by kernel_rfl
  rw [h0]
  unfold Pure.laws_FnExactMoveRow Pure.laws_FnExactMoveRow_ok
  cases (Decidable.decide ((Pure.laws_szRow F x0 x1 1048576) < 0)) with
  | true =>
    intro _; rfl
  | false =>
    cases (Pure.laws_toRow_ok F x0 x1) with
    | true =>
      cases (Pure.spec_MoveRow_ok F (Pure.laws_toBallS F x0) x1 x2) with
      | true =>
        cases (Pure.impl_MoveRow_ok F (Pure.laws_toBallS F x0) x1 x2) with
        | true =>
          cases (Pure.laws_eqRow_ok F (Pure.impl_MoveRow_2 F (Pure.laws_toBallS F x0) x1 x2) (Pure.impl_MoveRow F (Pure.laws_toBallS F x0) x1 x2) (Pure.spec_MoveRow_2 F (Pure.laws_toBallS F x0) x1 x2) (Pure.spec_MoveRow F (Pure.laws_toBallS F x0) x1 x2)) with
          | true =>
            cases (Pure.laws_eqRow F (Pure.impl_MoveRow_2 F (Pure.laws_toBallS F x0) x1 x2) (Pure.impl_MoveRow F (Pure.laws_toBallS F x0) x1 x2) (Pure.spec_MoveRow_2 F (Pure.laws_toBallS F x0) x1 x2) (Pure.spec_MoveRow F (Pure.laws_toBallS F x0) x1 x2)) with
            | true =>
              cases ((Pure.impl_MoveRow_1 F (Pure.laws_toBallS F x0) x1 x2) == (Pure.spec_MoveRow_1 F (Pure.laws_toBallS F x0) x1 x2)) with
              | true =>
                cases (Pure.laws_eqRow_ok F (Pure.laws_toBallS F x0) x1 (Pure.laws_toBallS F x0) x1) with
                | true =>
                  cases (Pure.laws_eqRow F (Pure.laws_toBallS F x0) x1 (Pure.laws_toBallS F x0) x1) with
                  | true =>
                    cases (Pure.laws_markRow_ok F (Pure.laws_toBallS F x0) x1 1) with
                    | true =>
                      cases (Decidable.decide ((Pure.laws_markBallS F (Pure.laws_toBallS F x0) 1) < 0)) with
                      | true =>
                        intro _; rfl
                      | false =>
                        cases (Pure.laws_markRow_ok F (Pure.impl_MoveRow_2 F (Pure.laws_toBallS F x0) x1 x2) (Pure.impl_MoveRow F (Pure.laws_toBallS F x0) x1 x2) 1) with
                        | true =>
                          cases (Pure.laws_heldRow_ok F (Pure.laws_markBallS_1 F (Pure.impl_MoveRow_2 F (Pure.laws_toBallS F x0) x1 x2) 1) (Pure.impl_MoveRow F (Pure.laws_toBallS F x0) x1 x2) 1) with
                          | true =>
                            cases (Decidable.decide ((Pure.laws_heldRow F (Pure.laws_markBallS_1 F (Pure.impl_MoveRow_2 F (Pure.laws_toBallS F x0) x1 x2) 1) (Pure.impl_MoveRow F (Pure.laws_toBallS F x0) x1 x2) 1) < 0)) with
                            | true =>
                              intro _; rfl
                            | false =>
                              cases ((Pure.laws_heldRow F (Pure.laws_markBallS_1 F (Pure.impl_MoveRow_2 F (Pure.laws_toBallS F x0) x1 x2) 1) (Pure.impl_MoveRow F (Pure.laws_toBallS F x0) x1 x2) 1) != (Pure.laws_markBallS F (Pure.impl_MoveRow_2 F (Pure.laws_toBallS F x0) x1 x2) 1)) with
                              | true =>
                                intro _; rfl
                              | false =>
                                intro _; rfl
                          | false =>
                            intro h; exact absurd h Bool.false_ne_true
                        | false =>
                          intro h; exact absurd h Bool.false_ne_true
                    | false =>
                      intro h; exact absurd h Bool.false_ne_true
                  | false =>
                    intro _; rfl
                | false =>
                  intro h; exact absurd h Bool.false_ne_true
              | false =>
                intro _; rfl
            | false =>
              intro _; rfl
          | false =>
            intro h; exact absurd h Bool.false_ne_true
        | false =>
          intro h; exact absurd h Bool.false_ne_true
      | false =>
        intro h; exact absurd h Bool.false_ne_true
    | false =>
      intro h; exact absurd h Bool.false_ne_true
theorem ok_laws_FnExactMoveRow : CallOK Try.prog 12 (c_laws_FnExactMoveRow real) := by
  refine callOK_of fun args h ret hc => ?_
  unfold c_laws_FnExactMoveRow at hc
  split at hc
  · rename_i x1 x2 x0
    obtain ⟨hok, rfl⟩ := some_ret hc
    exact holds_ev prog_ok (allOK_cons ok_laws_szRow (allOK_cons ok_laws_toRow (allOK_cons ok_spec_MoveRow (allOK_cons ok_impl_MoveRow (allOK_cons ok_laws_eqRow (allOK_cons ok_laws_markRow (allOK_cons ok_laws_heldRow allOK_nil))))))) Try.func12 rfl rfl smL_nil rfl (e_laws_FnExactMoveRow real x0 x1 x2 hok)
  · cases hc
end Go.Fx
