import Derived.Test.YtnlfpamdcohiiaaXr3e
import Derived.KernelRfl
namespace Go.Fx
open Go.Proofs
set_option maxRecDepth 100000
def Pure.spec_l07Orbit_L0 (F : FOps) (y0 : Int) : Nat → Int → Int → Int → (List (List Int)) → (Bool × (List (List Int)))
  | 0, _, _, _, _ => (false, [])
  | n + 1, y1, y2, y3, y4 => bif (Decidable.decide (y1 > 0)) then (bif (Pure.spec_l07Map_ok F y2 y3 y0) then (bif (Decidable.decide ((Nat.succ (List.length y4)) ≤ 1073741824)) then (Pure.spec_l07Orbit_L0 F y0 n (IntKind.wrap IntKind.i64 (y1 - 1)) (Pure.spec_l07Map F y2 y3 y0) (Pure.spec_l07Map_1 F y2 y3 y0) (y4 ++ [[Pure.spec_l07Map F y2 y3 y0, Pure.spec_l07Map_1 F y2 y3 y0]])) else ((false, []))) else ((false, []))) else ((true, y4))
def R_spec_l07Orbit_L0 (r : (Bool × (List (List Int)))) : Bool × Bool × (Ex × List V × List Ob) × (Ex × List V × List Ob) := ((r).1, false, (Ex.normal, [V.at (A.sl 0)], [⟨true, OC.rows [K.f FloatKind.f32, K.f FloatKind.f32] (r).2⟩]), (Ex.normal, [V.at (A.sl 0)], [⟨true, OC.rows [K.f FloatKind.f32, K.f FloatKind.f32] (r).2⟩]))
def S_spec_l07Orbit_L0 (F : FOps) : Sm := ⟨[1, 2, 3, 7], [22, 2, 0, 56], [7], fun vals hp => match vals, hp with
  | [V.at (A.fl FloatKind.f32 y0), V.at (A.int IntKind.i64 y1), V.at (A.ptr 0 0 0), V.at (A.sl 1)], [⟨true, OC.box [A.fl FloatKind.f32 y2, A.fl FloatKind.f32 y3]⟩, ⟨true, OC.rows [K.f FloatKind.f32, K.f FloatKind.f32] y4⟩] => some (R_spec_l07Orbit_L0  (Pure.spec_l07Orbit_L0 F y0 (y1 - 0 + 1).toNat y1 y2 y3 y4))
  | _, _ => none⟩
theorem l_spec_l07Orbit_L0 (F : FOps) (y0 : Int) : ∀ (fuel : Nat) (y1 : Int) (y2 : Int) (y3 : Int) (y4 : List (List Int)), (Pure.spec_l07Orbit_L0 F y0 fuel y1 y2 y3 y4).1 = true → loopOf (cxS F tyl [(64, c_spec_l07Map F)] [] [] 0) 0 22 0 [1, 2, 3, 7] [22, 2, 0, 56] [7] (loopB 0 (codeOf Try.f75)) fuel [V.at (A.fl FloatKind.f32 y0), V.at (A.int IntKind.i64 y1), V.at (A.ptr 0 0 0), V.at (A.sl 1)] [⟨true, OC.box [A.fl FloatKind.f32 y2, A.fl FloatKind.f32 y3]⟩, ⟨true, OC.rows [K.f FloatKind.f32, K.f FloatKind.f32] y4⟩] = resOf (R_spec_l07Orbit_L0  (Pure.spec_l07Orbit_L0 F y0 fuel y1 y2 y3 y4)) := by
  intro fuel
  induction fuel with
  | zero => intro y1 y2 y3 y4 h; exact absurd h Bool.false_ne_true
  | succ n ih =>
    intro y1 y2 y3 y4
    have h0 : roundOf (cxS F tyl [(64, c_spec_l07Map F)] [] [] 0) 0 22 0 [1, 2, 3, 7] [22, 2, 0, 56] [7] (loopB 0 (codeOf Try.f75)) [V.at (A.fl FloatKind.f32 y0), V.at (A.int IntKind.i64 y1), V.at (A.ptr 0 0 0), V.at (A.sl 1)] [⟨true, OC.box [A.fl FloatKind.f32 y2, A.fl FloatKind.f32 y3]⟩, ⟨true, OC.rows [K.f FloatKind.f32, K.f FloatKind.f32] y4⟩] = (bif Decidable.decide (y1 > 0) then bif Pure.spec_l07Map_ok F y2 y3 y0 then bif Decidable.decide ((Nat.succ (List.length y4)) ≤ 1073741824) then some (true, (Ex.normal, ([V.at (A.fl FloatKind.f32 y0), V.at (A.int IntKind.i64 (IntKind.wrap IntKind.i64 (y1 - 1))), V.at (A.ptr 0 0 0), V.at (A.sl 1)], [⟨true, OC.box [A.fl FloatKind.f32 (Pure.spec_l07Map F y2 y3 y0), A.fl FloatKind.f32 (Pure.spec_l07Map_1 F y2 y3 y0)]⟩, ⟨true, OC.rows [K.f FloatKind.f32, K.f FloatKind.f32] (y4 ++ [[Pure.spec_l07Map F y2 y3 y0, Pure.spec_l07Map_1 F y2 y3 y0]])⟩]))) else none else none else some (false, (Ex.normal, ([V.at (A.sl 0)], [⟨true, OC.rows [K.f FloatKind.f32, K.f FloatKind.f32] y4⟩])))) := by kernel_rfl
    unfold loopOf
    rw [h0]
    unfold Pure.spec_l07Orbit_L0
    cases (Decidable.decide (y1 > 0)) with
    | true =>
      cases (Pure.spec_l07Map_ok F y2 y3 y0) with
      | true =>
        cases (Decidable.decide ((Nat.succ (List.length y4)) ≤ 1073741824)) with
        | true =>
          exact ih _ _ _ _
        | false =>
          intro h; exact absurd h Bool.false_ne_true
      | false =>
        intro h; exact absurd h Bool.false_ne_true
    | false =>
      intro _; rfl
theorem t_spec_l07Orbit_L0 : SmTo Try.prog 0 22 (S_spec_l07Orbit_L0 real) 0 (.loop (loopB 0 (codeOf Try.f75))) := by
  refine smTo_ev (cl := [(64, c_spec_l07Map real)]) (ef := []) (sm := []) (un := 0) prog_ok (allOK_cons ok_spec_l07Map allOK_nil) smL_nil ?_
  intro vals hp q r h hq
  unfold S_spec_l07Orbit_L0 at h
  dsimp only at h
  split at h
  · rename_i y0 y1 y2 y3 y4
    obtain rfl := Option.some.inj h
    have h1 := hq
    unfold resOf at h1
    rw [chk_some] at h1
    exact ⟨_, (l_spec_l07Orbit_L0 real y0 _ y1 y2 y3 y4 h1.1).trans hq⟩
  · cases h
def Pure.spec_l07Orbit (F : FOps) (x0 : Int) (x1 : Int) (x2 : Int) (x3 : Int) : List (List Int) := Prod.snd (Pure.spec_l07Orbit_L0 F x2 (Int.toNat ((x3 - 0) + 1)) x3 x0 x1 [[x0, x1]])
def Pure.spec_l07Orbit_ok (F : FOps) (x0 : Int) (x1 : Int) (x2 : Int) (x3 : Int) : Bool := Prod.fst (Pure.spec_l07Orbit_L0 F x2 (Int.toNat ((x3 - 0) + 1)) x3 x0 x1 [[x0, x1]])
def c_spec_l07Orbit (F : FOps) : Con
  | [V.agg [A.fl FloatKind.f32 x0, A.fl FloatKind.f32 x1], V.at (A.fl FloatKind.f32 x2), V.at (A.int IntKind.i64 x3)], [] => some (Pure.spec_l07Orbit_ok F x0 x1 x2 x3, ⟨V.at (A.sl 0), none, [⟨true, OC.rows [K.f FloatKind.f32, K.f FloatKind.f32] (Pure.spec_l07Orbit F x0 x1 x2 x3)⟩]⟩)
  | _, _ => none
theorem e_spec_l07Orbit (F : FOps) (x0 : Int) (x1 : Int) (x2 : Int) (x3 : Int) : Pure.spec_l07Orbit_ok F x0 x1 x2 x3 = true → evFn (cxS F tyl [(64, c_spec_l07Map F)] [] [(0, S_spec_l07Orbit_L0 F)] 0) Try.f75 false [V.agg [A.fl FloatKind.f32 x0, A.fl FloatKind.f32 x1], V.at (A.fl FloatKind.f32 x2), V.at (A.int IntKind.i64 x3)] [] = some ⟨V.at (A.sl 0), none, [⟨true, OC.rows [K.f FloatKind.f32, K.f FloatKind.f32] (Pure.spec_l07Orbit F x0 x1 x2 x3)⟩]⟩ := by
  have h0 : evFn (cxS F tyl [(64, c_spec_l07Map F)] [] [(0, S_spec_l07Orbit_L0 F)] 0) Try.f75 false [V.agg [A.fl FloatKind.f32 x0, A.fl FloatKind.f32 x1], V.at (A.fl FloatKind.f32 x2), V.at (A.int IntKind.i64 x3)] [] = bif Prod.fst (Pure.spec_l07Orbit_L0 F x2 (Int.toNat ((x3 - 0) + 1)) x3 x0 x1 [[x0, x1]]) then some ⟨V.at (A.sl 0), none, [⟨true, OC.rows [K.f FloatKind.f32, K.f FloatKind.f32] (Prod.snd (Pure.spec_l07Orbit_L0 F x2 (Int.toNat ((x3 - 0) + 1)) x3 x0 x1 [[x0, x1]]))⟩]⟩ else none := by kernel_rfl
  rw [h0]
  unfold Pure.spec_l07Orbit Pure.spec_l07Orbit_ok
  cases (Prod.fst (Pure.spec_l07Orbit_L0 F x2 (Int.toNat ((x3 - 0) + 1)) x3 x0 x1 [[x0, x1]])) with
  | true =>
    intro _; rfl
  | false =>
    intro h; exact absurd h Bool.false_ne_true
theorem ok_spec_l07Orbit : CallOK Try.prog 75 (c_spec_l07Orbit real) := by
  refine callOK_of fun args h ret hc => ?_
  unfold c_spec_l07Orbit at hc
  split at hc
  · rename_i x0 x1 x2 x3
    obtain ⟨hok, rfl⟩ := some_ret hc
    exact holds_ev prog_ok (allOK_cons ok_spec_l07Map allOK_nil) Try.func75 rfl rfl (smL_cons (body := .loop (loopB 0 (codeOf Try.f75))) (by kernel_rfl) t_spec_l07Orbit_L0 smL_nil) rfl (e_spec_l07Orbit real x0 x1 x2 x3 hok)
  · cases hc
def Pure.spec_WindingOf_L0 (F : FOps) (y0 : Int) (y3 : List (List Int)) : Nat → Int → Int → (Bool × Int)
  | 0, _, _ => (false, 0)
  | n + 1, y1, y2 => bif (Decidable.decide (y2 < (Int.ofNat (List.length y3)))) then (bif (Decidable.decide (0 ≤ y2)) then (bif (Decidable.decide (y2 < (Int.ofNat (List.length y3)))) then (Pure.spec_WindingOf_L0 F y0 y3 n (FOps.bin F BinOp.add FloatKind.f32 y1 (List.getD (List.getD y3 (Int.toNat y2) []) 1 0)) (IntKind.wrap IntKind.i64 (y2 + 1))) else ((false, 0))) else ((false, 0))) else ((true, y1))
def R_spec_WindingOf_L0 (y0 : Int) (r : (Bool × Int)) : Bool × Bool × (Ex × List V × List Ob) × (Ex × List V × List Ob) := ((r).1, false, (Ex.normal, [V.at (A.int IntKind.i64 y0), V.at (A.fl FloatKind.f32 (r).2)], []), (Ex.normal, [V.at (A.int IntKind.i64 y0), V.at (A.fl FloatKind.f32 (r).2)], []))
def S_spec_WindingOf_L0 (F : FOps) : Sm := ⟨[2, 8, 9, 10], [2, 22, 56, 3], [2, 8], fun vals hp => match vals, hp with
  | [V.at (A.int IntKind.i64 y0), V.at (A.fl FloatKind.f32 y1), V.at (A.sl 0), V.at (A.int IntKind.i64 y2)], [⟨true, OC.rows [K.f FloatKind.f32, K.f FloatKind.f32] y3⟩] => some (R_spec_WindingOf_L0 y0 (Pure.spec_WindingOf_L0 F y0 y3 ((Int.ofNat (List.length y3)) - y2 + 1).toNat y1 y2))
  | _, _ => none⟩
theorem l_spec_WindingOf_L0 (F : FOps) (y0 : Int) (y3 : List (List Int)) : ∀ (fuel : Nat) (y1 : Int) (y2 : Int), (Pure.spec_WindingOf_L0 F y0 y3 fuel y1 y2).1 = true → loopOf (cxS F tyl [(51, c_spec_l07Is F), (57, c_spec_l07Size F), (74, c_spec_l07Count F), (75, c_spec_l07Orbit F)] [] [] 0) 0 45 0 [2, 8, 9, 10] [2, 22, 56, 3] [2, 8] (loopB 0 (codeOf Try.f32)) fuel [V.at (A.int IntKind.i64 y0), V.at (A.fl FloatKind.f32 y1), V.at (A.sl 0), V.at (A.int IntKind.i64 y2)] [⟨true, OC.rows [K.f FloatKind.f32, K.f FloatKind.f32] y3⟩] = resOf (R_spec_WindingOf_L0 y0 (Pure.spec_WindingOf_L0 F y0 y3 fuel y1 y2)) := by
  intro fuel
  induction fuel with
  | zero => intro y1 y2 h; exact absurd h Bool.false_ne_true
  | succ n ih =>
    intro y1 y2
    have h0 : roundOf (cxS F tyl [(51, c_spec_l07Is F), (57, c_spec_l07Size F), (74, c_spec_l07Count F), (75, c_spec_l07Orbit F)] [] [] 0) 0 45 0 [2, 8, 9, 10] [2, 22, 56, 3] [2, 8] (loopB 0 (codeOf Try.f32)) [V.at (A.int IntKind.i64 y0), V.at (A.fl FloatKind.f32 y1), V.at (A.sl 0), V.at (A.int IntKind.i64 y2)] [⟨true, OC.rows [K.f FloatKind.f32, K.f FloatKind.f32] y3⟩] = (bif Decidable.decide (y2 < (Int.ofNat (List.length y3))) then bif Decidable.decide (0 ≤ y2) then bif Decidable.decide (y2 < (Int.ofNat (List.length y3))) then some (true, (Ex.normal, ([V.at (A.int IntKind.i64 y0), V.at (A.fl FloatKind.f32 (FOps.bin F BinOp.add FloatKind.f32 y1 (List.getD (List.getD y3 (Int.toNat y2) []) 1 0))), V.at (A.sl 0), V.at (A.int IntKind.i64 (IntKind.wrap IntKind.i64 (y2 + 1)))], [⟨true, OC.rows [K.f FloatKind.f32, K.f FloatKind.f32] y3⟩]))) else none else none else some (false, (Ex.normal, ([V.at (A.int IntKind.i64 y0), V.at (A.fl FloatKind.f32 y1)], [])))) := by kernel_rfl
    unfold loopOf
    rw [h0]
    unfold Pure.spec_WindingOf_L0
    cases (Decidable.decide (y2 < (Int.ofNat (List.length y3)))) with
    | true =>
      cases (Decidable.decide (0 ≤ y2)) with
      | true =>
        exact ih _ _
      | false =>
        intro h; exact absurd h Bool.false_ne_true
    | false =>
      intro _; rfl
theorem t_spec_WindingOf_L0 : SmTo Try.prog 0 45 (S_spec_WindingOf_L0 real) 0 (.loop (loopB 0 (codeOf Try.f32))) := by
  refine smTo_ev (cl := [(51, c_spec_l07Is real), (57, c_spec_l07Size real), (74, c_spec_l07Count real), (75, c_spec_l07Orbit real)]) (ef := []) (sm := []) (un := 0) prog_ok (allOK_cons ok_spec_l07Is (allOK_cons ok_spec_l07Size (allOK_cons ok_spec_l07Count (allOK_cons ok_spec_l07Orbit allOK_nil)))) smL_nil ?_
  intro vals hp q r h hq
  unfold S_spec_WindingOf_L0 at h
  dsimp only at h
  split at h
  · rename_i y0 y1 y2 y3
    obtain rfl := Option.some.inj h
    have h1 := hq
    unfold resOf at h1
    rw [chk_some] at h1
    exact ⟨_, (l_spec_WindingOf_L0 real y0 y3 _ y1 y2 h1.1).trans hq⟩
  · cases h
def Pure.spec_WindingOf (F : FOps) (x0 : Int) (x1 : Int) (x2 : Int) (x3 : Int) : Int := bif Pure.spec_l07Is F x0 x1 then bif Pure.spec_l07Size F x2 then bif Pure.spec_l00In F x3 1 128 then FOps.bin F BinOp.quo FloatKind.f32 (Prod.snd (Pure.spec_WindingOf_L0 F x3 (Pure.spec_l07Orbit F x0 x1 x2 x3) (Int.toNat (((Int.ofNat (List.length (Pure.spec_l07Orbit F x0 x1 x2 x3))) - 1) + 1)) 0 1)) (FOps.ofInt F FloatKind.f32 x3) else 0 else 0 else 0
def Pure.spec_WindingOf_1 (F : FOps) (x0 : Int) (x1 : Int) (x2 : Int) (x3 : Int) : Bool := bif Pure.spec_l07Is F x0 x1 then bif Pure.spec_l07Size F x2 then Pure.spec_l00In F x3 1 128 else false else false
def Pure.spec_WindingOf_ok (F : FOps) (x0 : Int) (x1 : Int) (x2 : Int) (x3 : Int) : Bool := bif Pure.spec_l07Is F x0 x1 then bif Pure.spec_l07Size F x2 then bif Pure.spec_l00In F x3 1 128 then bif Pure.spec_l07Orbit_ok F x0 x1 x2 x3 then Prod.fst (Pure.spec_WindingOf_L0 F x3 (Pure.spec_l07Orbit F x0 x1 x2 x3) (Int.toNat (((Int.ofNat (List.length (Pure.spec_l07Orbit F x0 x1 x2 x3))) - 1) + 1)) 0 1) else false else true else true else true
def c_spec_WindingOf (F : FOps) : Con
  | [V.agg [A.fl FloatKind.f32 x0, A.fl FloatKind.f32 x1], V.at (A.fl FloatKind.f32 x2), V.at (A.int IntKind.i64 x3)], [] => some (Pure.spec_WindingOf_ok F x0 x1 x2 x3, ⟨V.tup [(false, [A.fl FloatKind.f32 (Pure.spec_WindingOf F x0 x1 x2 x3)]), (false, [A.bool (Pure.spec_WindingOf_1 F x0 x1 x2 x3)])], none, []⟩)
  | _, _ => none
theorem e_spec_WindingOf (F : FOps) (x0 : Int) (x1 : Int) (x2 : Int) (x3 : Int) : Pure.spec_WindingOf_ok F x0 x1 x2 x3 = true → evFn (cxS F tyl [(51, c_spec_l07Is F), (57, c_spec_l07Size F), (74, c_spec_l07Count F), (75, c_spec_l07Orbit F)] [] [(0, S_spec_WindingOf_L0 F)] 0) Try.f32 false [V.agg [A.fl FloatKind.f32 x0, A.fl FloatKind.f32 x1], V.at (A.fl FloatKind.f32 x2), V.at (A.int IntKind.i64 x3)] [] = some ⟨V.tup [(false, [A.fl FloatKind.f32 (Pure.spec_WindingOf F x0 x1 x2 x3)]), (false, [A.bool (Pure.spec_WindingOf_1 F x0 x1 x2 x3)])], none, []⟩ := by
  have h0 : evFn (cxS F tyl [(51, c_spec_l07Is F), (57, c_spec_l07Size F), (74, c_spec_l07Count F), (75, c_spec_l07Orbit F)] [] [(0, S_spec_WindingOf_L0 F)] 0) Try.f32 false [V.agg [A.fl FloatKind.f32 x0, A.fl FloatKind.f32 x1], V.at (A.fl FloatKind.f32 x2), V.at (A.int IntKind.i64 x3)] [] = bif Bool.not (Pure.spec_l07Is F x0 x1) then some ⟨V.tup [(false, [A.fl FloatKind.f32 0]), (false, [A.bool false])], none, []⟩ else bif Bool.not (Pure.spec_l07Size F x2) then some ⟨V.tup [(false, [A.fl FloatKind.f32 0]), (false, [A.bool false])], none, []⟩ else bif Bool.not (Pure.spec_l00In F x3 1 128) then some ⟨V.tup [(false, [A.fl FloatKind.f32 0]), (false, [A.bool false])], none, []⟩ else bif Pure.spec_l07Orbit_ok F x0 x1 x2 x3 then bif Prod.fst (Pure.spec_WindingOf_L0 F x3 (Pure.spec_l07Orbit F x0 x1 x2 x3) (Int.toNat (((Int.ofNat (List.length (Pure.spec_l07Orbit F x0 x1 x2 x3))) - 1) + 1)) 0 1) then some ⟨V.tup [(false, [A.fl FloatKind.f32 (FOps.bin F BinOp.quo FloatKind.f32 (Prod.snd (Pure.spec_WindingOf_L0 F x3 (Pure.spec_l07Orbit F x0 x1 x2 x3) (Int.toNat (((Int.ofNat (List.length (Pure.spec_l07Orbit F x0 x1 x2 x3))) - 1) + 1)) 0 1)) (FOps.ofInt F FloatKind.f32 x3))]), (false, [A.bool true])], none, []⟩ else none else none := by kernel_rfl
  rw [h0]
  unfold Pure.spec_WindingOf Pure.spec_WindingOf_1 Pure.spec_WindingOf_ok
  cases (Pure.spec_l07Is F x0 x1) with
  | true =>
    cases (Pure.spec_l07Size F x2) with
    | true =>
      cases (Pure.spec_l00In F x3 1 128) with
      | true =>
        cases (Pure.spec_l07Orbit_ok F x0 x1 x2 x3) with
        | true =>
          cases (Prod.fst (Pure.spec_WindingOf_L0 F x3 (Pure.spec_l07Orbit F x0 x1 x2 x3) (Int.toNat (((Int.ofNat (List.length (Pure.spec_l07Orbit F x0 x1 x2 x3))) - 1) + 1)) 0 1)) with
          | true =>
            intro _; rfl
          | false =>
            intro h; exact absurd h Bool.false_ne_true
        | false =>
          intro h; exact absurd h Bool.false_ne_true
      | false =>
        intro _; rfl
    | false =>
      intro _; rfl
  | false =>
    intro _; rfl
theorem ok_spec_WindingOf : CallOK Try.prog 32 (c_spec_WindingOf real) := by
  refine callOK_of fun args h ret hc => ?_
  unfold c_spec_WindingOf at hc
  split at hc
  · rename_i x0 x1 x2 x3
    obtain ⟨hok, rfl⟩ := some_ret hc
    exact holds_ev prog_ok (allOK_cons ok_spec_l07Is (allOK_cons ok_spec_l07Size (allOK_cons ok_spec_l07Count (allOK_cons ok_spec_l07Orbit allOK_nil)))) Try.func32 rfl rfl (smL_cons (body := .loop (loopB 0 (codeOf Try.f32))) (by kernel_rfl) t_spec_WindingOf_L0 smL_nil) rfl (e_spec_WindingOf real x0 x1 x2 x3 hok)
  · cases hc
def Pure.impl_State_orbit_L0 (F : FOps) (y0 : Int) (y1 : Int) : Nat → Int → Int → Int → (List (List Int)) → (Bool × (List (List Int)))
  | 0, _, _, _, _ => (false, [])
  | n + 1, y2, y3, y4, y5 => bif (Decidable.decide (y2 < y1)) then (bif (Pure.impl_State_mapped_ok F y3 y4 y0) then (bif (Decidable.decide ((Nat.succ (List.length y5)) ≤ 1073741824)) then (Pure.impl_State_orbit_L0 F y0 y1 n (IntKind.wrap IntKind.i64 (y2 + 1)) (Pure.impl_State_damped F y3 y4 y0 1065353216) (Pure.impl_State_damped_1 F y3 y4 y0 1065353216) (y5 ++ [[Pure.impl_State_damped F y3 y4 y0 1065353216, Pure.impl_State_damped_1 F y3 y4 y0 1065353216]])) else ((false, []))) else ((false, []))) else ((true, y5))
def R_impl_State_orbit_L0 (r : (Bool × (List (List Int)))) : Bool × Bool × (Ex × List V × List Ob) × (Ex × List V × List Ob) := ((r).1, false, (Ex.normal, [V.at (A.sl 0)], [⟨true, OC.rows [K.f FloatKind.f32, K.f FloatKind.f32] (r).2⟩]), (Ex.normal, [V.at (A.sl 0)], [⟨true, OC.rows [K.f FloatKind.f32, K.f FloatKind.f32] (r).2⟩]))
def S_impl_State_orbit_L0 (F : FOps) : Sm := ⟨[1, 3, 7, 10, 11], [22, 0, 56, 2, 2], [7], fun vals hp => match vals, hp with
  | [V.at (A.fl FloatKind.f32 y0), V.at (A.ptr 0 0 0), V.at (A.sl 1), V.at (A.int IntKind.i64 y1), V.at (A.int IntKind.i64 y2)], [⟨true, OC.box [A.fl FloatKind.f32 y3, A.fl FloatKind.f32 y4]⟩, ⟨true, OC.rows [K.f FloatKind.f32, K.f FloatKind.f32] y5⟩] => some (R_impl_State_orbit_L0  (Pure.impl_State_orbit_L0 F y0 y1 (y1 - y2 + 1).toNat y2 y3 y4 y5))
  | _, _ => none⟩
theorem l_impl_State_orbit_L0 (F : FOps) (y0 : Int) (y1 : Int) : ∀ (fuel : Nat) (y2 : Int) (y3 : Int) (y4 : Int) (y5 : List (List Int)), (Pure.impl_State_orbit_L0 F y0 y1 fuel y2 y3 y4 y5).1 = true → loopOf (cxS F tyl [(65, c_impl_State_mapped F)] [] [] 0) 0 22 0 [1, 3, 7, 10, 11] [22, 0, 56, 2, 2] [7] (loopB 0 (codeOf Try.f77)) fuel [V.at (A.fl FloatKind.f32 y0), V.at (A.ptr 0 0 0), V.at (A.sl 1), V.at (A.int IntKind.i64 y1), V.at (A.int IntKind.i64 y2)] [⟨true, OC.box [A.fl FloatKind.f32 y3, A.fl FloatKind.f32 y4]⟩, ⟨true, OC.rows [K.f FloatKind.f32, K.f FloatKind.f32] y5⟩] = resOf (R_impl_State_orbit_L0  (Pure.impl_State_orbit_L0 F y0 y1 fuel y2 y3 y4 y5)) := by
  intro fuel
  induction fuel with
  | zero => intro y2 y3 y4 y5 h; exact absurd h Bool.false_ne_true
  | succ n ih =>
    intro y2 y3 y4 y5
    have h0 : roundOf (cxS F tyl [(65, c_impl_State_mapped F)] [] [] 0) 0 22 0 [1, 3, 7, 10, 11] [22, 0, 56, 2, 2] [7] (loopB 0 (codeOf Try.f77)) [V.at (A.fl FloatKind.f32 y0), V.at (A.ptr 0 0 0), V.at (A.sl 1), V.at (A.int IntKind.i64 y1), V.at (A.int IntKind.i64 y2)] [⟨true, OC.box [A.fl FloatKind.f32 y3, A.fl FloatKind.f32 y4]⟩, ⟨true, OC.rows [K.f FloatKind.f32, K.f FloatKind.f32] y5⟩] = (bif Decidable.decide (y2 < y1) then bif Pure.impl_State_mapped_ok F y3 y4 y0 then bif Decidable.decide ((Nat.succ (List.length y5)) ≤ 1073741824) then some (true, (Ex.normal, ([V.at (A.fl FloatKind.f32 y0), V.at (A.ptr 0 0 0), V.at (A.sl 1), V.at (A.int IntKind.i64 y1), V.at (A.int IntKind.i64 (IntKind.wrap IntKind.i64 (y2 + 1)))], [⟨true, OC.box [A.fl FloatKind.f32 (Pure.impl_State_damped F y3 y4 y0 1065353216), A.fl FloatKind.f32 (Pure.impl_State_damped_1 F y3 y4 y0 1065353216)]⟩, ⟨true, OC.rows [K.f FloatKind.f32, K.f FloatKind.f32] (y5 ++ [[Pure.impl_State_damped F y3 y4 y0 1065353216, Pure.impl_State_damped_1 F y3 y4 y0 1065353216]])⟩]))) else none else none else some (false, (Ex.normal, ([V.at (A.sl 0)], [⟨true, OC.rows [K.f FloatKind.f32, K.f FloatKind.f32] y5⟩])))) := by kernel_rfl
    unfold loopOf
    rw [h0]
    unfold Pure.impl_State_orbit_L0
    cases (Decidable.decide (y2 < y1)) with
    | true =>
      cases (Pure.impl_State_mapped_ok F y3 y4 y0) with
      | true =>
        cases (Decidable.decide ((Nat.succ (List.length y5)) ≤ 1073741824)) with
        | true =>
          exact ih _ _ _ _
        | false =>
          intro h; exact absurd h Bool.false_ne_true
      | false =>
        intro h; exact absurd h Bool.false_ne_true
    | false =>
      intro _; rfl
theorem t_impl_State_orbit_L0 : SmTo Try.prog 0 22 (S_impl_State_orbit_L0 real) 0 (.loop (loopB 0 (codeOf Try.f77))) := by
  refine smTo_ev (cl := [(65, c_impl_State_mapped real)]) (ef := []) (sm := []) (un := 0) prog_ok (allOK_cons ok_impl_State_mapped allOK_nil) smL_nil ?_
  intro vals hp q r h hq
  unfold S_impl_State_orbit_L0 at h
  dsimp only at h
  split at h
  · rename_i y0 y1 y2 y3 y4 y5
    obtain rfl := Option.some.inj h
    have h1 := hq
    unfold resOf at h1
    rw [chk_some] at h1
    exact ⟨_, (l_impl_State_orbit_L0 real y0 y1 _ y2 y3 y4 y5 h1.1).trans hq⟩
  · cases h
def Pure.impl_State_orbit (F : FOps) (x0 : Int) (x1 : Int) (x2 : Int) (x3 : Int) : List (List Int) := Prod.snd (Pure.impl_State_orbit_L0 F x2 x3 (Int.toNat ((x3 - 0) + 1)) 0 x0 x1 [[x0, x1]])
def Pure.impl_State_orbit_ok (F : FOps) (x0 : Int) (x1 : Int) (x2 : Int) (x3 : Int) : Bool := Prod.fst (Pure.impl_State_orbit_L0 F x2 x3 (Int.toNat ((x3 - 0) + 1)) 0 x0 x1 [[x0, x1]])
def c_impl_State_orbit (F : FOps) : Con
  | [V.agg [A.fl FloatKind.f32 x0, A.fl FloatKind.f32 x1], V.at (A.fl FloatKind.f32 x2), V.at (A.int IntKind.i64 x3)], [] => some (Pure.impl_State_orbit_ok F x0 x1 x2 x3, ⟨V.at (A.sl 0), none, [⟨true, OC.rows [K.f FloatKind.f32, K.f FloatKind.f32] (Pure.impl_State_orbit F x0 x1 x2 x3)⟩]⟩)
  | _, _ => none
theorem e_impl_State_orbit (F : FOps) (x0 : Int) (x1 : Int) (x2 : Int) (x3 : Int) : Pure.impl_State_orbit_ok F x0 x1 x2 x3 = true → evFn (cxS F tyl [(65, c_impl_State_mapped F)] [] [(0, S_impl_State_orbit_L0 F)] 0) Try.f77 false [V.agg [A.fl FloatKind.f32 x0, A.fl FloatKind.f32 x1], V.at (A.fl FloatKind.f32 x2), V.at (A.int IntKind.i64 x3)] [] = some ⟨V.at (A.sl 0), none, [⟨true, OC.rows [K.f FloatKind.f32, K.f FloatKind.f32] (Pure.impl_State_orbit F x0 x1 x2 x3)⟩]⟩ := by
  have h0 : evFn (cxS F tyl [(65, c_impl_State_mapped F)] [] [(0, S_impl_State_orbit_L0 F)] 0) Try.f77 false [V.agg [A.fl FloatKind.f32 x0, A.fl FloatKind.f32 x1], V.at (A.fl FloatKind.f32 x2), V.at (A.int IntKind.i64 x3)] [] = bif Prod.fst (Pure.impl_State_orbit_L0 F x2 x3 (Int.toNat ((x3 - 0) + 1)) 0 x0 x1 [[x0, x1]]) then some ⟨V.at (A.sl 0), none, [⟨true, OC.rows [K.f FloatKind.f32, K.f FloatKind.f32] (Prod.snd (Pure.impl_State_orbit_L0 F x2 x3 (Int.toNat ((x3 - 0) + 1)) 0 x0 x1 [[x0, x1]]))⟩]⟩ else none := by kernel_rfl
  rw [h0]
  unfold Pure.impl_State_orbit Pure.impl_State_orbit_ok
  cases (Prod.fst (Pure.impl_State_orbit_L0 F x2 x3 (Int.toNat ((x3 - 0) + 1)) 0 x0 x1 [[x0, x1]])) with
  | true =>
    intro _; rfl
  | false =>
    intro h; exact absurd h Bool.false_ne_true
theorem ok_impl_State_orbit : CallOK Try.prog 77 (c_impl_State_orbit real) := by
  refine callOK_of fun args h ret hc => ?_
  unfold c_impl_State_orbit at hc
  split at hc
  · rename_i x0 x1 x2 x3
    obtain ⟨hok, rfl⟩ := some_ret hc
    exact holds_ev prog_ok (allOK_cons ok_impl_State_mapped allOK_nil) Try.func77 rfl rfl (smL_cons (body := .loop (loopB 0 (codeOf Try.f77))) (by kernel_rfl) t_impl_State_orbit_L0 smL_nil) rfl (e_impl_State_orbit real x0 x1 x2 x3 hok)
  · cases hc
def Pure.impl_WindingOf_L0 (F : FOps) (y0 : Int) (y2 : Nat) (y3 : Nat) (y4 : Int) (y6 : List (List Int)) : Nat → Int → Int → (Bool × Int)
  | 0, _, _ => (false, 0)
  | n + 1, y1, y5 => bif (Decidable.decide (y5 < y4)) then (bif (Decidable.decide (0 ≤ y5)) then (bif (Decidable.decide (y5 < (Int.ofNat y3))) then (Pure.impl_WindingOf_L0 F y0 y2 y3 y4 y6 n (FOps.bin F BinOp.add FloatKind.f32 y1 (List.getD (List.getD y6 (y2 + (Int.toNat y5)) []) 1 0)) (IntKind.wrap IntKind.i64 (y5 + 1))) else ((false, 0))) else ((false, 0))) else ((true, y1))
def R_impl_WindingOf_L0 (y0 : Int) (r : (Bool × Int)) : Bool × Bool × (Ex × List V × List Ob) × (Ex × List V × List Ob) := ((r).1, false, (Ex.normal, [V.at (A.int IntKind.i64 y0), V.at (A.fl FloatKind.f32 (r).2)], []), (Ex.normal, [V.at (A.int IntKind.i64 y0), V.at (A.fl FloatKind.f32 (r).2)], []))
def S_impl_WindingOf_L0 (F : FOps) : Sm := ⟨[2, 8, 24, 25, 26], [2, 22, 56, 3, 3], [2, 8], fun vals hp => match vals, hp with
  | [V.at (A.int IntKind.i64 y0), V.at (A.fl FloatKind.f32 y1), V.at (A.sub 0 y2 y3 none), V.at (A.int IntKind.i64 y4), V.at (A.int IntKind.i64 y5)], [⟨true, OC.rows [K.f FloatKind.f32, K.f FloatKind.f32] y6⟩] => some (R_impl_WindingOf_L0 y0 (Pure.impl_WindingOf_L0 F y0 y2 y3 y4 y6 (y4 - y5 + 1).toNat y1 y5))
  | _, _ => none⟩
theorem l_impl_WindingOf_L0 (F : FOps) (y0 : Int) (y2 : Nat) (y3 : Nat) (y4 : Int) (y6 : List (List Int)) : ∀ (fuel : Nat) (y1 : Int) (y5 : Int), (Pure.impl_WindingOf_L0 F y0 y2 y3 y4 y6 fuel y1 y5).1 = true → loopOf (cxS F tyl [(59, c_impl_stateOk F), (76, c_impl_in F), (77, c_impl_State_orbit F)] [] [] 0) 0 39 0 [2, 8, 24, 25, 26] [2, 22, 56, 3, 3] [2, 8] (loopB 0 (codeOf Try.f33)) fuel [V.at (A.int IntKind.i64 y0), V.at (A.fl FloatKind.f32 y1), V.at (A.sub 0 y2 y3 none), V.at (A.int IntKind.i64 y4), V.at (A.int IntKind.i64 y5)] [⟨true, OC.rows [K.f FloatKind.f32, K.f FloatKind.f32] y6⟩] = resOf (R_impl_WindingOf_L0 y0 (Pure.impl_WindingOf_L0 F y0 y2 y3 y4 y6 fuel y1 y5)) := by
  intro fuel
  induction fuel with
  | zero => intro y1 y5 h; exact absurd h Bool.false_ne_true
  | succ n ih =>
    intro y1 y5
    have h0 : roundOf (cxS F tyl [(59, c_impl_stateOk F), (76, c_impl_in F), (77, c_impl_State_orbit F)] [] [] 0) 0 39 0 [2, 8, 24, 25, 26] [2, 22, 56, 3, 3] [2, 8] (loopB 0 (codeOf Try.f33)) [V.at (A.int IntKind.i64 y0), V.at (A.fl FloatKind.f32 y1), V.at (A.sub 0 y2 y3 none), V.at (A.int IntKind.i64 y4), V.at (A.int IntKind.i64 y5)] [⟨true, OC.rows [K.f FloatKind.f32, K.f FloatKind.f32] y6⟩] = (bif Decidable.decide (y5 < y4) then bif Decidable.decide (0 ≤ y5) then bif Decidable.decide (y5 < (Int.ofNat y3)) then some (true, (Ex.normal, ([V.at (A.int IntKind.i64 y0), V.at (A.fl FloatKind.f32 (FOps.bin F BinOp.add FloatKind.f32 y1 (List.getD (List.getD y6 (y2 + (Int.toNat y5)) []) 1 0))), V.at (A.sub 0 y2 y3 none), V.at (A.int IntKind.i64 y4), V.at (A.int IntKind.i64 (IntKind.wrap IntKind.i64 (y5 + 1)))], [⟨true, OC.rows [K.f FloatKind.f32, K.f FloatKind.f32] y6⟩]))) else none else none else some (false, (Ex.normal, ([V.at (A.int IntKind.i64 y0), V.at (A.fl FloatKind.f32 y1)], [])))) := by kernel_rfl
    unfold loopOf
    rw [h0]
    unfold Pure.impl_WindingOf_L0
    cases (Decidable.decide (y5 < y4)) with
    | true =>
      cases (Decidable.decide (0 ≤ y5)) with
      | true =>
        cases (Decidable.decide (y5 < (Int.ofNat y3))) with
        | true =>
          exact ih _ _
        | false =>
          intro h; exact absurd h Bool.false_ne_true
      | false =>
        intro h; exact absurd h Bool.false_ne_true
    | false =>
      intro _; rfl
theorem t_impl_WindingOf_L0 : SmTo Try.prog 0 39 (S_impl_WindingOf_L0 real) 0 (.loop (loopB 0 (codeOf Try.f33))) := by
  refine smTo_ev (cl := [(59, c_impl_stateOk real), (76, c_impl_in real), (77, c_impl_State_orbit real)]) (ef := []) (sm := []) (un := 0) prog_ok (allOK_cons ok_impl_stateOk (allOK_cons ok_impl_in (allOK_cons ok_impl_State_orbit allOK_nil))) smL_nil ?_
  intro vals hp q r h hq
  unfold S_impl_WindingOf_L0 at h
  dsimp only at h
  split at h
  · rename_i y0 y1 y2 y3 y4 y5 y6
    obtain rfl := Option.some.inj h
    have h1 := hq
    unfold resOf at h1
    rw [chk_some] at h1
    exact ⟨_, (l_impl_WindingOf_L0 real y0 y2 y3 y4 y6 _ y1 y5 h1.1).trans hq⟩
  · cases h
def Pure.impl_WindingOf (F : FOps) (x0 : Int) (x1 : Int) (x2 : Int) (x3 : Int) : Int := bif Pure.impl_stateOk F x0 x1 x2 then bif Pure.impl_in F x3 1 128 then FOps.bin F BinOp.quo FloatKind.f32 (Prod.snd (Pure.impl_WindingOf_L0 F x3 1 ((List.length (Pure.impl_State_orbit F x0 x1 x2 x3)) - 1) (Int.ofNat ((List.length (Pure.impl_State_orbit F x0 x1 x2 x3)) - 1)) (Pure.impl_State_orbit F x0 x1 x2 x3) (Nat.succ (((List.length (Pure.impl_State_orbit F x0 x1 x2 x3)) - 1) + 0)) 0 0)) (FOps.ofInt F FloatKind.f32 x3) else 0 else 0
def Pure.impl_WindingOf_1 (F : FOps) (x0 : Int) (x1 : Int) (x2 : Int) (x3 : Int) : Bool := bif Pure.impl_stateOk F x0 x1 x2 then Pure.impl_in F x3 1 128 else false
def Pure.impl_WindingOf_ok (F : FOps) (x0 : Int) (x1 : Int) (x2 : Int) (x3 : Int) : Bool := bif Pure.impl_stateOk F x0 x1 x2 then bif Pure.impl_in F x3 1 128 then bif Pure.impl_State_orbit_ok F x0 x1 x2 x3 then bif Decidable.decide (1 ≤ (Int.ofNat (List.length (Pure.impl_State_orbit F x0 x1 x2 x3)))) then Prod.fst (Pure.impl_WindingOf_L0 F x3 1 ((List.length (Pure.impl_State_orbit F x0 x1 x2 x3)) - 1) (Int.ofNat ((List.length (Pure.impl_State_orbit F x0 x1 x2 x3)) - 1)) (Pure.impl_State_orbit F x0 x1 x2 x3) (Nat.succ (((List.length (Pure.impl_State_orbit F x0 x1 x2 x3)) - 1) + 0)) 0 0) else false else false else true else true
def c_impl_WindingOf (F : FOps) : Con
  | [V.agg [A.fl FloatKind.f32 x0, A.fl FloatKind.f32 x1], V.at (A.fl FloatKind.f32 x2), V.at (A.int IntKind.i64 x3)], [] => some (Pure.impl_WindingOf_ok F x0 x1 x2 x3, ⟨V.tup [(false, [A.fl FloatKind.f32 (Pure.impl_WindingOf F x0 x1 x2 x3)]), (false, [A.bool (Pure.impl_WindingOf_1 F x0 x1 x2 x3)])], none, []⟩)
  | _, _ => none
theorem e_impl_WindingOf (F : FOps) (x0 : Int) (x1 : Int) (x2 : Int) (x3 : Int) : Pure.impl_WindingOf_ok F x0 x1 x2 x3 = true → evFn (cxS F tyl [(59, c_impl_stateOk F), (76, c_impl_in F), (77, c_impl_State_orbit F)] [] [(0, S_impl_WindingOf_L0 F)] 0) Try.f33 false [V.agg [A.fl FloatKind.f32 x0, A.fl FloatKind.f32 x1], V.at (A.fl FloatKind.f32 x2), V.at (A.int IntKind.i64 x3)] [] = some ⟨V.tup [(false, [A.fl FloatKind.f32 (Pure.impl_WindingOf F x0 x1 x2 x3)]), (false, [A.bool (Pure.impl_WindingOf_1 F x0 x1 x2 x3)])], none, []⟩ := by
  have h0 : evFn (cxS F tyl [(59, c_impl_stateOk F), (76, c_impl_in F), (77, c_impl_State_orbit F)] [] [(0, S_impl_WindingOf_L0 F)] 0) Try.f33 false [V.agg [A.fl FloatKind.f32 x0, A.fl FloatKind.f32 x1], V.at (A.fl FloatKind.f32 x2), V.at (A.int IntKind.i64 x3)] [] = bif Bool.not (Pure.impl_stateOk F x0 x1 x2) then some ⟨V.tup [(false, [A.fl FloatKind.f32 0]), (false, [A.bool false])], none, []⟩ else bif Bool.not (Pure.impl_in F x3 1 128) then some ⟨V.tup [(false, [A.fl FloatKind.f32 0]), (false, [A.bool false])], none, []⟩ else bif Pure.impl_State_orbit_ok F x0 x1 x2 x3 then bif Decidable.decide (1 ≤ (Int.ofNat (List.length (Pure.impl_State_orbit F x0 x1 x2 x3)))) then bif Prod.fst (Pure.impl_WindingOf_L0 F x3 1 ((List.length (Pure.impl_State_orbit F x0 x1 x2 x3)) - 1) (Int.ofNat ((List.length (Pure.impl_State_orbit F x0 x1 x2 x3)) - 1)) (Pure.impl_State_orbit F x0 x1 x2 x3) (Nat.succ (((List.length (Pure.impl_State_orbit F x0 x1 x2 x3)) - 1) + 0)) 0 0) then some ⟨V.tup [(false, [A.fl FloatKind.f32 (FOps.bin F BinOp.quo FloatKind.f32 (Prod.snd (Pure.impl_WindingOf_L0 F x3 1 ((List.length (Pure.impl_State_orbit F x0 x1 x2 x3)) - 1) (Int.ofNat ((List.length (Pure.impl_State_orbit F x0 x1 x2 x3)) - 1)) (Pure.impl_State_orbit F x0 x1 x2 x3) (Nat.succ (((List.length (Pure.impl_State_orbit F x0 x1 x2 x3)) - 1) + 0)) 0 0)) (FOps.ofInt F FloatKind.f32 x3))]), (false, [A.bool true])], none, []⟩ else none else none else none := by kernel_rfl
  rw [h0]
  unfold Pure.impl_WindingOf Pure.impl_WindingOf_1 Pure.impl_WindingOf_ok
  cases (Pure.impl_stateOk F x0 x1 x2) with
  | true =>
    cases (Pure.impl_in F x3 1 128) with
    | true =>
      cases (Pure.impl_State_orbit_ok F x0 x1 x2 x3) with
      | true =>
        cases (Decidable.decide (1 ≤ (Int.ofNat (List.length (Pure.impl_State_orbit F x0 x1 x2 x3))))) with
        | true =>
          cases (Prod.fst (Pure.impl_WindingOf_L0 F x3 1 ((List.length (Pure.impl_State_orbit F x0 x1 x2 x3)) - 1) (Int.ofNat ((List.length (Pure.impl_State_orbit F x0 x1 x2 x3)) - 1)) (Pure.impl_State_orbit F x0 x1 x2 x3) (Nat.succ (((List.length (Pure.impl_State_orbit F x0 x1 x2 x3)) - 1) + 0)) 0 0)) with
          | true =>
            intro _; rfl
          | false =>
            intro h; exact absurd h Bool.false_ne_true
        | false =>
          intro h; exact absurd h Bool.false_ne_true
      | false =>
        intro h; exact absurd h Bool.false_ne_true
    | false =>
      intro _; rfl
  | false =>
    intro _; rfl
theorem ok_impl_WindingOf : CallOK Try.prog 33 (c_impl_WindingOf real) := by
  refine callOK_of fun args h ret hc => ?_
  unfold c_impl_WindingOf at hc
  split at hc
  · rename_i x0 x1 x2 x3
    obtain ⟨hok, rfl⟩ := some_ret hc
    exact holds_ev prog_ok (allOK_cons ok_impl_stateOk (allOK_cons ok_impl_in (allOK_cons ok_impl_State_orbit allOK_nil))) Try.func33 rfl rfl (smL_cons (body := .loop (loopB 0 (codeOf Try.f33))) (by kernel_rfl) t_impl_WindingOf_L0 smL_nil) rfl (e_impl_WindingOf real x0 x1 x2 x3 hok)
  · cases hc
def Pure.laws_FnExactWindingOf (F : FOps) (x0 : Int) (x1 : Int) (x2 : Int) (x3 : Int) : Bool := bif Pure.laws_sameFloat F (FOps.conv F FloatKind.f32 FloatKind.f64 (Pure.impl_WindingOf F x0 x1 x2 x3)) (FOps.conv F FloatKind.f32 FloatKind.f64 (Pure.spec_WindingOf F x0 x1 x2 x3)) then (Pure.impl_WindingOf_1 F x0 x1 x2 x3) == (Pure.spec_WindingOf_1 F x0 x1 x2 x3) else false
def Pure.laws_FnExactWindingOf_ok (F : FOps) (x0 : Int) (x1 : Int) (x2 : Int) (x3 : Int) : Bool := bif Pure.spec_WindingOf_ok F x0 x1 x2 x3 then bif Pure.impl_WindingOf_ok F x0 x1 x2 x3 then bif FOps.convOk F FloatKind.f32 FloatKind.f64 (Pure.impl_WindingOf F x0 x1 x2 x3) then FOps.convOk F FloatKind.f32 FloatKind.f64 (Pure.spec_WindingOf F x0 x1 x2 x3) else false else false else false
def c_laws_FnExactWindingOf (F : FOps) : Con
  | [V.agg [A.fl FloatKind.f32 x0, A.fl FloatKind.f32 x1], V.at (A.fl FloatKind.f32 x2), V.at (A.int IntKind.i64 x3)], [] => some (Pure.laws_FnExactWindingOf_ok F x0 x1 x2 x3, ⟨V.at (A.bool (Pure.laws_FnExactWindingOf F x0 x1 x2 x3)), none, []⟩)
  | _, _ => none
theorem e_laws_FnExactWindingOf (F : FOps) (x0 : Int) (x1 : Int) (x2 : Int) (x3 : Int) : Pure.laws_FnExactWindingOf_ok F x0 x1 x2 x3 = true → evFn (cxS F tyl [(16, c_laws_toState F), (32, c_spec_WindingOf F), (33, c_impl_WindingOf F), (34, c_laws_sameFloat F)] [] [] 0) Try.f9 false [V.agg [A.fl FloatKind.f32 x0, A.fl FloatKind.f32 x1], V.at (A.fl FloatKind.f32 x2), V.at (A.int IntKind.i64 x3)] [] = some ⟨V.at (A.bool (Pure.laws_FnExactWindingOf F x0 x1 x2 x3)), none, []⟩ := by
  have h0 : evFn (cxS F tyl [(16, c_laws_toState F), (32, c_spec_WindingOf F), (33, c_impl_WindingOf F), (34, c_laws_sameFloat F)] [] [] 0) Try.f9 false [V.agg [A.fl FloatKind.f32 x0, A.fl FloatKind.f32 x1], V.at (A.fl FloatKind.f32 x2), V.at (A.int IntKind.i64 x3)] [] = bif Pure.spec_WindingOf_ok F x0 x1 x2 x3 then bif Pure.impl_WindingOf_ok F x0 x1 x2 x3 then bif FOps.convOk F FloatKind.f32 FloatKind.f64 (Pure.impl_WindingOf F x0 x1 x2 x3) then bif FOps.convOk F FloatKind.f32 FloatKind.f64 (Pure.spec_WindingOf F x0 x1 x2 x3) then bif Bool.not (Pure.laws_sameFloat F (FOps.conv F FloatKind.f32 FloatKind.f64 (Pure.impl_WindingOf F x0 x1 x2 x3)) (FOps.conv F FloatKind.f32 FloatKind.f64 (Pure.spec_WindingOf F x0 x1 x2 x3))) then some ⟨V.at (A.bool false), none, []⟩ else bif Bool.not ((Pure.impl_WindingOf_1 F x0 x1 x2 x3) == (Pure.spec_WindingOf_1 F x0 x1 x2 x3)) then some ⟨V.at (A.bool false), none, []⟩ else some ⟨V.at (A.bool true), none, []⟩ else none else none else none else none := by kernel_rfl
  rw [h0]
  unfold Pure.laws_FnExactWindingOf Pure.laws_FnExactWindingOf_ok
  cases (Pure.spec_WindingOf_ok F x0 x1 x2 x3) with
  | true =>
    cases (Pure.impl_WindingOf_ok F x0 x1 x2 x3) with
    | true =>
      cases (FOps.convOk F FloatKind.f32 FloatKind.f64 (Pure.impl_WindingOf F x0 x1 x2 x3)) with
      | true =>
        cases (FOps.convOk F FloatKind.f32 FloatKind.f64 (Pure.spec_WindingOf F x0 x1 x2 x3)) with
        | true =>
          cases (Pure.laws_sameFloat F (FOps.conv F FloatKind.f32 FloatKind.f64 (Pure.impl_WindingOf F x0 x1 x2 x3)) (FOps.conv F FloatKind.f32 FloatKind.f64 (Pure.spec_WindingOf F x0 x1 x2 x3))) with
          | true =>
            cases ((Pure.impl_WindingOf_1 F x0 x1 x2 x3) == (Pure.spec_WindingOf_1 F x0 x1 x2 x3)) with
            | true =>
              intro _; rfl
            | false =>
              intro _; rfl
          | false =>
            intro _; rfl
        | false =>
          intro h; exact absurd h Bool.false_ne_true
      | false =>
        intro h; exact absurd h Bool.false_ne_true
    | false =>
      intro h; exact absurd h Bool.false_ne_true
  | false =>
    intro h; exact absurd h Bool.false_ne_true
theorem ok_laws_FnExactWindingOf : CallOK Try.prog 9 (c_laws_FnExactWindingOf real) := by
  refine callOK_of fun args h ret hc => ?_
  unfold c_laws_FnExactWindingOf at hc
  split at hc
  · rename_i x0 x1 x2 x3
    obtain ⟨hok, rfl⟩ := some_ret hc
    exact holds_ev prog_ok (allOK_cons ok_laws_toState (allOK_cons ok_spec_WindingOf (allOK_cons ok_impl_WindingOf (allOK_cons ok_laws_sameFloat allOK_nil)))) Try.func9 rfl rfl smL_nil rfl (e_laws_FnExactWindingOf real x0 x1 x2 x3 hok)
  · cases hc
end Go.Fx
