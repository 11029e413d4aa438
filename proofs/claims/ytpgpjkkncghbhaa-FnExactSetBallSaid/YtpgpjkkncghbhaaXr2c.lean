import Derived.Test.YtpgpjkkncghbhaaXr2b
import Derived.KernelRfl
namespace Go.Fx
open Go.Proofs
def Pure.impl_CentreOfRow_c1 (F : FOps) (x0 : Int) (x1 : Int) (x2 : Int) : Int := FOps.bin F BinOp.mul FloatKind.f32 x2 x0
def c_impl_CentreOfRow_c1 (F : FOps) : Con
  | [V.agg [A.fl FloatKind.f32 x0, A.fl FloatKind.f32 x1, A.fl FloatKind.f32 x2]], [] => some (true, ⟨V.at (A.fl FloatKind.f32 (Pure.impl_CentreOfRow_c1 F x0 x1 x2)), none, []⟩)
  | _, _ => none
theorem e_impl_CentreOfRow_c1 (F : FOps) (x0 : Int) (x1 : Int) (x2 : Int) : evFn (cxS F tyl [] [] [] 0) Try.f61 false [V.agg [A.fl FloatKind.f32 x0, A.fl FloatKind.f32 x1, A.fl FloatKind.f32 x2]] [] = some ⟨V.at (A.fl FloatKind.f32 (Pure.impl_CentreOfRow_c1 F x0 x1 x2)), none, []⟩ := by
  kernel_rfl
theorem ok_impl_CentreOfRow_c1 : CallOK Try.prog 61 (c_impl_CentreOfRow_c1 real) := by
  refine callOK_of fun args h ret hc => ?_
  unfold c_impl_CentreOfRow_c1 at hc
  split at hc
  · rename_i x0 x1 x2
    obtain ⟨_, rfl⟩ := some_ret hc
    exact holds_ev prog_ok allOK_nil Try.func61 rfl rfl smL_nil rfl (e_impl_CentreOfRow_c1 real x0 x1 x2)
  · cases hc
def Pure.impl_Row_summed_cen1_L0 (F : FOps) (y1 : Int) (y3 : Int) (y4 : List (List Int)) : Nat → Int → Int → (Bool × Int)
  | 0, _, _ => (false, 0)
  | n + 1, y0, y2 => bif (Decidable.decide (y2 < y1)) then (bif (Decidable.decide (0 ≤ y2)) then (bif (Decidable.decide (y2 < (Int.ofNat (List.length y4)))) then (Pure.impl_Row_summed_cen1_L0 F y1 y3 y4 n (FOps.bin F BinOp.add FloatKind.f32 y0 (Pure.impl_CentreOfRow_c1 F (List.getD (List.getD y4 (Int.toNat y2) []) 0 0) (List.getD (List.getD y4 (Int.toNat y2) []) 1 0) (List.getD (List.getD y4 (Int.toNat y2) []) 2 0))) (IntKind.wrap IntKind.i64 (y2 + 1))) else ((false, 0))) else ((false, 0))) else ((true, y0))
def R_impl_Row_summed_cen1_L0 (y3 : Int) (y4 : List (List Int)) (r : (Bool × Int)) : Bool × Bool × (Ex × List V × List Ob) × (Ex × List V × List Ob) := ((r).1, false, (Ex.normal, [V.at (A.fl FloatKind.f32 (r).2)], [⟨false, OC.box [A.sl 1, A.fl FloatKind.f32 y3]⟩, ⟨false, OC.rows [K.f FloatKind.f32, K.f FloatKind.f32, K.f FloatKind.f32] y4⟩]), (Ex.normal, [V.at (A.fl FloatKind.f32 (r).2)], [⟨false, OC.box [A.sl 1, A.fl FloatKind.f32 y3]⟩, ⟨false, OC.rows [K.f FloatKind.f32, K.f FloatKind.f32, K.f FloatKind.f32] y4⟩]))
def S_impl_Row_summed_cen1_L0 (F : FOps) : Sm := ⟨[1, 5, 11, 12, 13], [67, 22, 23, 3, 3], [5], fun vals hp => match vals, hp with
  | [V.at (A.fn 61 []), V.at (A.fl FloatKind.f32 y0), V.at (A.sl 1), V.at (A.int IntKind.i64 y1), V.at (A.int IntKind.i64 y2)], [⟨false, OC.box [A.sl 1, A.fl FloatKind.f32 y3]⟩, ⟨false, OC.rows [K.f FloatKind.f32, K.f FloatKind.f32, K.f FloatKind.f32] y4⟩] => some (R_impl_Row_summed_cen1_L0 y3 y4 (Pure.impl_Row_summed_cen1_L0 F y1 y3 y4 (y1 - y2 + 1).toNat y0 y2))
  | _, _ => none⟩
theorem l_impl_Row_summed_cen1_L0 (F : FOps) (y1 : Int) (y3 : Int) (y4 : List (List Int)) : ∀ (fuel : Nat) (y0 : Int) (y2 : Int), (Pure.impl_Row_summed_cen1_L0 F y1 y3 y4 fuel y0 y2).1 = true → loopOf (cxS F tyl [(61, c_impl_CentreOfRow_c1 F)] [] [] 0) 2 24 0 [1, 5, 11, 12, 13] [67, 22, 23, 3, 3] [5] (loopB 0 (codeOf Try.f58)) fuel [V.at (A.fn 61 []), V.at (A.fl FloatKind.f32 y0), V.at (A.sl 1), V.at (A.int IntKind.i64 y1), V.at (A.int IntKind.i64 y2)] [⟨false, OC.box [A.sl 1, A.fl FloatKind.f32 y3]⟩, ⟨false, OC.rows [K.f FloatKind.f32, K.f FloatKind.f32, K.f FloatKind.f32] y4⟩] = resOf (R_impl_Row_summed_cen1_L0 y3 y4 (Pure.impl_Row_summed_cen1_L0 F y1 y3 y4 fuel y0 y2)) := by
  intro fuel
  induction fuel with
  | zero => intro y0 y2 h; exact absurd h Bool.false_ne_true
  | succ n ih =>
    intro y0 y2
    have h0 : roundOf (cxS F tyl [(61, c_impl_CentreOfRow_c1 F)] [] [] 0) 2 24 0 [1, 5, 11, 12, 13] [67, 22, 23, 3, 3] [5] (loopB 0 (codeOf Try.f58)) [V.at (A.fn 61 []), V.at (A.fl FloatKind.f32 y0), V.at (A.sl 1), V.at (A.int IntKind.i64 y1), V.at (A.int IntKind.i64 y2)] [⟨false, OC.box [A.sl 1, A.fl FloatKind.f32 y3]⟩, ⟨false, OC.rows [K.f FloatKind.f32, K.f FloatKind.f32, K.f FloatKind.f32] y4⟩] = (bif Decidable.decide (y2 < y1) then bif Decidable.decide (0 ≤ y2) then bif Decidable.decide (y2 < (Int.ofNat (List.length y4))) then some (true, (Ex.normal, ([V.at (A.fn 61 []), V.at (A.fl FloatKind.f32 (FOps.bin F BinOp.add FloatKind.f32 y0 (Pure.impl_CentreOfRow_c1 F (List.getD (List.getD y4 (Int.toNat y2) []) 0 0) (List.getD (List.getD y4 (Int.toNat y2) []) 1 0) (List.getD (List.getD y4 (Int.toNat y2) []) 2 0)))), V.at (A.sl 1), V.at (A.int IntKind.i64 y1), V.at (A.int IntKind.i64 (IntKind.wrap IntKind.i64 (y2 + 1)))], [⟨false, OC.box [A.sl 1, A.fl FloatKind.f32 y3]⟩, ⟨false, OC.rows [K.f FloatKind.f32, K.f FloatKind.f32, K.f FloatKind.f32] y4⟩]))) else none else none else some (false, (Ex.normal, ([V.at (A.fl FloatKind.f32 y0)], [⟨false, OC.box [A.sl 1, A.fl FloatKind.f32 y3]⟩, ⟨false, OC.rows [K.f FloatKind.f32, K.f FloatKind.f32, K.f FloatKind.f32] y4⟩])))) := by kernel_rfl
    unfold loopOf
    rw [h0]
    unfold Pure.impl_Row_summed_cen1_L0
    cases (Decidable.decide (y2 < y1)) with
    | true =>
      cases (Decidable.decide (0 ≤ y2)) with
      | true =>
        cases (Decidable.decide (y2 < (Int.ofNat (List.length y4)))) with
        | true =>
          exact ih _ _
        | false =>
          intro h; exact absurd h Bool.false_ne_true
      | false =>
        intro h; exact absurd h Bool.false_ne_true
    | false =>
      intro _; rfl
theorem t_impl_Row_summed_cen1_L0 : SmTo Try.prog 2 24 (S_impl_Row_summed_cen1_L0 real) 0 (.loop (loopB 0 (codeOf Try.f58))) := by
  refine smTo_ev (cl := [(61, c_impl_CentreOfRow_c1 real)]) (ef := []) (sm := []) (un := 0) prog_ok (allOK_cons ok_impl_CentreOfRow_c1 allOK_nil) smL_nil ?_
  intro vals hp q r h hq
  unfold S_impl_Row_summed_cen1_L0 at h
  dsimp only at h
  split at h
  · rename_i y0 y1 y2 y3 y4
    obtain rfl := Option.some.inj h
    have h1 := hq
    unfold resOf at h1
    rw [chk_some] at h1
    exact ⟨_, (l_impl_Row_summed_cen1_L0 real y1 y3 y4 _ y0 y2 h1.1).trans hq⟩
  · cases h
def Pure.impl_Row_summed_cen1 (F : FOps) (x0 : List (List Int)) (x1 : Int) : Int := Prod.snd (Pure.impl_Row_summed_cen1_L0 F (Int.ofNat (List.length x0)) x1 x0 (Nat.succ ((List.length x0) + 0)) 0 0)
def Pure.impl_Row_summed_cen1_ok (F : FOps) (x0 : List (List Int)) (x1 : Int) : Bool := Prod.fst (Pure.impl_Row_summed_cen1_L0 F (Int.ofNat (List.length x0)) x1 x0 (Nat.succ ((List.length x0) + 0)) 0 0)
def c_impl_Row_summed_cen1 (F : FOps) : Con
  | [V.at (A.ptr 0 0 0), V.at (A.fn 61 [])], [⟨false, OC.box [A.sl 1, A.fl FloatKind.f32 x1]⟩, ⟨false, OC.rows [K.f FloatKind.f32, K.f FloatKind.f32, K.f FloatKind.f32] x0⟩] => some (Pure.impl_Row_summed_cen1_ok F x0 x1, ⟨V.at (A.fl FloatKind.f32 (Pure.impl_Row_summed_cen1 F x0 x1)), none, []⟩)
  | _, _ => none
theorem e_impl_Row_summed_cen1 (F : FOps) (x0 : List (List Int)) (x1 : Int) : Pure.impl_Row_summed_cen1_ok F x0 x1 = true → evFn (cxS F tyl [(61, c_impl_CentreOfRow_c1 F)] [] [(0, S_impl_Row_summed_cen1_L0 F)] 0) Try.f58 false [V.at (A.ptr 0 0 0), V.at (A.fn 61 [])] [⟨false, OC.box [A.sl 1, A.fl FloatKind.f32 x1]⟩, ⟨false, OC.rows [K.f FloatKind.f32, K.f FloatKind.f32, K.f FloatKind.f32] x0⟩] = some ⟨V.at (A.fl FloatKind.f32 (Pure.impl_Row_summed_cen1 F x0 x1)), none, []⟩ := by
  have h0 : evFn (cxS F tyl [(61, c_impl_CentreOfRow_c1 F)] [] [(0, S_impl_Row_summed_cen1_L0 F)] 0) Try.f58 false [V.at (A.ptr 0 0 0), V.at (A.fn 61 [])] [⟨false, OC.box [A.sl 1, A.fl FloatKind.f32 x1]⟩, ⟨false, OC.rows [K.f FloatKind.f32, K.f FloatKind.f32, K.f FloatKind.f32] x0⟩] = bif Prod.fst (Pure.impl_Row_summed_cen1_L0 F (Int.ofNat (List.length x0)) x1 x0 (Nat.succ ((List.length x0) + 0)) 0 0) then some ⟨V.at (A.fl FloatKind.f32 (Prod.snd (Pure.impl_Row_summed_cen1_L0 F (Int.ofNat (List.length x0)) x1 x0 (Nat.succ ((List.length x0) + 0)) 0 0))), none, []⟩ else none := by kernel_rfl
  rw [h0]
  unfold Pure.impl_Row_summed_cen1 Pure.impl_Row_summed_cen1_ok
  cases (Prod.fst (Pure.impl_Row_summed_cen1_L0 F (Int.ofNat (List.length x0)) x1 x0 (Nat.succ ((List.length x0) + 0)) 0 0)) with
  | true =>
    intro _; rfl
  | false =>
    intro h; exact absurd h Bool.false_ne_true
theorem ok_impl_Row_summed_cen1 : CallOK Try.prog 58 (c_impl_Row_summed_cen1 real) := by
  refine callOK_of fun args h ret hc => ?_
  unfold c_impl_Row_summed_cen1 at hc
  split at hc
  · rename_i x1 x0
    obtain ⟨hok, rfl⟩ := some_ret hc
    exact holds_ev prog_ok (allOK_cons ok_impl_CentreOfRow_c1 allOK_nil) Try.func58 rfl rfl (smL_cons (body := .loop (loopB 0 (codeOf Try.f58))) (by kernel_rfl) t_impl_Row_summed_cen1_L0 smL_nil) rfl (e_impl_Row_summed_cen1 real x0 x1 hok)
  · cases hc
def c_impl_Row_summed_or2 (F : FOps) : Con := orC (c_impl_Row_summed_or1 F) (c_impl_Row_summed_cen1 F)
theorem ok_impl_Row_summed_or2 : CallOK Try.prog 58 (c_impl_Row_summed_or2 real) := callOK_or ok_impl_Row_summed_or1 ok_impl_Row_summed_cen1
def c_impl_CentreOfRow_c2 (_ : FOps) : Con
  | [V.agg [A.fl FloatKind.f32 x0, A.fl FloatKind.f32 x1, A.fl FloatKind.f32 x2]], [] => some (true, ⟨V.at (A.fl FloatKind.f32 x2), none, []⟩)
  | _, _ => none
theorem e_impl_CentreOfRow_c2 (F : FOps) (x0 : Int) (x1 : Int) (x2 : Int) : evFn (cxS F tyl [] [] [] 0) Try.f62 false [V.agg [A.fl FloatKind.f32 x0, A.fl FloatKind.f32 x1, A.fl FloatKind.f32 x2]] [] = some ⟨V.at (A.fl FloatKind.f32 x2), none, []⟩ := by
  kernel_rfl
theorem ok_impl_CentreOfRow_c2 : CallOK Try.prog 62 (c_impl_CentreOfRow_c2 real) := by
  refine callOK_of fun args h ret hc => ?_
  unfold c_impl_CentreOfRow_c2 at hc
  split at hc
  · rename_i x0 x1 x2
    obtain ⟨_, rfl⟩ := some_ret hc
    exact holds_ev prog_ok allOK_nil Try.func62 rfl rfl smL_nil rfl (e_impl_CentreOfRow_c2 real x0 x1 x2)
  · cases hc
def Pure.impl_Row_summed_cen2_L0 (F : FOps) (y1 : Int) (y3 : Int) (y4 : List (List Int)) : Nat → Int → Int → (Bool × Int)
  | 0, _, _ => (false, 0)
  | n + 1, y0, y2 => bif (Decidable.decide (y2 < y1)) then (bif (Decidable.decide (0 ≤ y2)) then (bif (Decidable.decide (y2 < (Int.ofNat (List.length y4)))) then (Pure.impl_Row_summed_cen2_L0 F y1 y3 y4 n (FOps.bin F BinOp.add FloatKind.f32 y0 (List.getD (List.getD y4 (Int.toNat y2) []) 2 0)) (IntKind.wrap IntKind.i64 (y2 + 1))) else ((false, 0))) else ((false, 0))) else ((true, y0))
def R_impl_Row_summed_cen2_L0 (y3 : Int) (y4 : List (List Int)) (r : (Bool × Int)) : Bool × Bool × (Ex × List V × List Ob) × (Ex × List V × List Ob) := ((r).1, false, (Ex.normal, [V.at (A.fl FloatKind.f32 (r).2)], [⟨false, OC.box [A.sl 1, A.fl FloatKind.f32 y3]⟩, ⟨false, OC.rows [K.f FloatKind.f32, K.f FloatKind.f32, K.f FloatKind.f32] y4⟩]), (Ex.normal, [V.at (A.fl FloatKind.f32 (r).2)], [⟨false, OC.box [A.sl 1, A.fl FloatKind.f32 y3]⟩, ⟨false, OC.rows [K.f FloatKind.f32, K.f FloatKind.f32, K.f FloatKind.f32] y4⟩]))
def S_impl_Row_summed_cen2_L0 (F : FOps) : Sm := ⟨[1, 5, 11, 12, 13], [67, 22, 23, 3, 3], [5], fun vals hp => match vals, hp with
  | [V.at (A.fn 62 []), V.at (A.fl FloatKind.f32 y0), V.at (A.sl 1), V.at (A.int IntKind.i64 y1), V.at (A.int IntKind.i64 y2)], [⟨false, OC.box [A.sl 1, A.fl FloatKind.f32 y3]⟩, ⟨false, OC.rows [K.f FloatKind.f32, K.f FloatKind.f32, K.f FloatKind.f32] y4⟩] => some (R_impl_Row_summed_cen2_L0 y3 y4 (Pure.impl_Row_summed_cen2_L0 F y1 y3 y4 (y1 - y2 + 1).toNat y0 y2))
  | _, _ => none⟩
theorem l_impl_Row_summed_cen2_L0 (F : FOps) (y1 : Int) (y3 : Int) (y4 : List (List Int)) : ∀ (fuel : Nat) (y0 : Int) (y2 : Int), (Pure.impl_Row_summed_cen2_L0 F y1 y3 y4 fuel y0 y2).1 = true → loopOf (cxS F tyl [(62, c_impl_CentreOfRow_c2 F)] [] [] 0) 2 24 0 [1, 5, 11, 12, 13] [67, 22, 23, 3, 3] [5] (loopB 0 (codeOf Try.f58)) fuel [V.at (A.fn 62 []), V.at (A.fl FloatKind.f32 y0), V.at (A.sl 1), V.at (A.int IntKind.i64 y1), V.at (A.int IntKind.i64 y2)] [⟨false, OC.box [A.sl 1, A.fl FloatKind.f32 y3]⟩, ⟨false, OC.rows [K.f FloatKind.f32, K.f FloatKind.f32, K.f FloatKind.f32] y4⟩] = resOf (R_impl_Row_summed_cen2_L0 y3 y4 (Pure.impl_Row_summed_cen2_L0 F y1 y3 y4 fuel y0 y2)) := by
  intro fuel
  induction fuel with
  | zero => intro y0 y2 h; exact absurd h Bool.false_ne_true
  | succ n ih =>
    intro y0 y2
    have h0 : roundOf (cxS F tyl [(62, c_impl_CentreOfRow_c2 F)] [] [] 0) 2 24 0 [1, 5, 11, 12, 13] [67, 22, 23, 3, 3] [5] (loopB 0 (codeOf Try.f58)) [V.at (A.fn 62 []), V.at (A.fl FloatKind.f32 y0), V.at (A.sl 1), V.at (A.int IntKind.i64 y1), V.at (A.int IntKind.i64 y2)] [⟨false, OC.box [A.sl 1, A.fl FloatKind.f32 y3]⟩, ⟨false, OC.rows [K.f FloatKind.f32, K.f FloatKind.f32, K.f FloatKind.f32] y4⟩] = (bif Decidable.decide (y2 < y1) then bif Decidable.decide (0 ≤ y2) then bif Decidable.decide (y2 < (Int.ofNat (List.length y4))) then some (true, (Ex.normal, ([V.at (A.fn 62 []), V.at (A.fl FloatKind.f32 (FOps.bin F BinOp.add FloatKind.f32 y0 (List.getD (List.getD y4 (Int.toNat y2) []) 2 0))), V.at (A.sl 1), V.at (A.int IntKind.i64 y1), V.at (A.int IntKind.i64 (IntKind.wrap IntKind.i64 (y2 + 1)))], [⟨false, OC.box [A.sl 1, A.fl FloatKind.f32 y3]⟩, ⟨false, OC.rows [K.f FloatKind.f32, K.f FloatKind.f32, K.f FloatKind.f32] y4⟩]))) else none else none else some (false, (Ex.normal, ([V.at (A.fl FloatKind.f32 y0)], [⟨false, OC.box [A.sl 1, A.fl FloatKind.f32 y3]⟩, ⟨false, OC.rows [K.f FloatKind.f32, K.f FloatKind.f32, K.f FloatKind.f32] y4⟩])))) := by kernel_rfl
    unfold loopOf
    rw [h0]
    unfold Pure.impl_Row_summed_cen2_L0
    cases (Decidable.decide (y2 < y1)) with
    | true =>
      cases (Decidable.decide (0 ≤ y2)) with
      | true =>
        cases (Decidable.decide (y2 < (Int.ofNat (List.length y4)))) with
        | true =>
          exact ih _ _
        | false =>
          intro h; exact absurd h Bool.false_ne_true
      | false =>
        intro h; exact absurd h Bool.false_ne_true
    | false =>
      intro _; rfl
theorem t_impl_Row_summed_cen2_L0 : SmTo Try.prog 2 24 (S_impl_Row_summed_cen2_L0 real) 0 (.loop (loopB 0 (codeOf Try.f58))) := by
  refine smTo_ev (cl := [(62, c_impl_CentreOfRow_c2 real)]) (ef := []) (sm := []) (un := 0) prog_ok (allOK_cons ok_impl_CentreOfRow_c2 allOK_nil) smL_nil ?_
  intro vals hp q r h hq
  unfold S_impl_Row_summed_cen2_L0 at h
  dsimp only at h
  split at h
  · rename_i y0 y1 y2 y3 y4
    obtain rfl := Option.some.inj h
    have h1 := hq
    unfold resOf at h1
    rw [chk_some] at h1
    exact ⟨_, (l_impl_Row_summed_cen2_L0 real y1 y3 y4 _ y0 y2 h1.1).trans hq⟩
  · cases h
def Pure.impl_Row_summed_cen2 (F : FOps) (x0 : List (List Int)) (x1 : Int) : Int := Prod.snd (Pure.impl_Row_summed_cen2_L0 F (Int.ofNat (List.length x0)) x1 x0 (Nat.succ ((List.length x0) + 0)) 0 0)
def Pure.impl_Row_summed_cen2_ok (F : FOps) (x0 : List (List Int)) (x1 : Int) : Bool := Prod.fst (Pure.impl_Row_summed_cen2_L0 F (Int.ofNat (List.length x0)) x1 x0 (Nat.succ ((List.length x0) + 0)) 0 0)
def c_impl_Row_summed_cen2 (F : FOps) : Con
  | [V.at (A.ptr 0 0 0), V.at (A.fn 62 [])], [⟨false, OC.box [A.sl 1, A.fl FloatKind.f32 x1]⟩, ⟨false, OC.rows [K.f FloatKind.f32, K.f FloatKind.f32, K.f FloatKind.f32] x0⟩] => some (Pure.impl_Row_summed_cen2_ok F x0 x1, ⟨V.at (A.fl FloatKind.f32 (Pure.impl_Row_summed_cen2 F x0 x1)), none, []⟩)
  | _, _ => none
theorem e_impl_Row_summed_cen2 (F : FOps) (x0 : List (List Int)) (x1 : Int) : Pure.impl_Row_summed_cen2_ok F x0 x1 = true → evFn (cxS F tyl [(62, c_impl_CentreOfRow_c2 F)] [] [(0, S_impl_Row_summed_cen2_L0 F)] 0) Try.f58 false [V.at (A.ptr 0 0 0), V.at (A.fn 62 [])] [⟨false, OC.box [A.sl 1, A.fl FloatKind.f32 x1]⟩, ⟨false, OC.rows [K.f FloatKind.f32, K.f FloatKind.f32, K.f FloatKind.f32] x0⟩] = some ⟨V.at (A.fl FloatKind.f32 (Pure.impl_Row_summed_cen2 F x0 x1)), none, []⟩ := by
  have h0 : evFn (cxS F tyl [(62, c_impl_CentreOfRow_c2 F)] [] [(0, S_impl_Row_summed_cen2_L0 F)] 0) Try.f58 false [V.at (A.ptr 0 0 0), V.at (A.fn 62 [])] [⟨false, OC.box [A.sl 1, A.fl FloatKind.f32 x1]⟩, ⟨false, OC.rows [K.f FloatKind.f32, K.f FloatKind.f32, K.f FloatKind.f32] x0⟩] = bif Prod.fst (Pure.impl_Row_summed_cen2_L0 F (Int.ofNat (List.length x0)) x1 x0 (Nat.succ ((List.length x0) + 0)) 0 0) then some ⟨V.at (A.fl FloatKind.f32 (Prod.snd (Pure.impl_Row_summed_cen2_L0 F (Int.ofNat (List.length x0)) x1 x0 (Nat.succ ((List.length x0) + 0)) 0 0))), none, []⟩ else none := by kernel_rfl
  rw [h0]
  unfold Pure.impl_Row_summed_cen2 Pure.impl_Row_summed_cen2_ok
  cases (Prod.fst (Pure.impl_Row_summed_cen2_L0 F (Int.ofNat (List.length x0)) x1 x0 (Nat.succ ((List.length x0) + 0)) 0 0)) with
  | true =>
    intro _; rfl
  | false =>
    intro h; exact absurd h Bool.false_ne_true
theorem ok_impl_Row_summed_cen2 : CallOK Try.prog 58 (c_impl_Row_summed_cen2 real) := by
  refine callOK_of fun args h ret hc => ?_
  unfold c_impl_Row_summed_cen2 at hc
  split at hc
  · rename_i x1 x0
    obtain ⟨hok, rfl⟩ := some_ret hc
    exact holds_ev prog_ok (allOK_cons ok_impl_CentreOfRow_c2 allOK_nil) Try.func58 rfl rfl (smL_cons (body := .loop (loopB 0 (codeOf Try.f58))) (by kernel_rfl) t_impl_Row_summed_cen2_L0 smL_nil) rfl (e_impl_Row_summed_cen2 real x0 x1 hok)
  · cases hc
def c_impl_Row_summed_or3 (F : FOps) : Con := orC (c_impl_Row_summed_or2 F) (c_impl_Row_summed_cen2 F)
theorem ok_impl_Row_summed_or3 : CallOK Try.prog 58 (c_impl_Row_summed_or3 real) := callOK_or ok_impl_Row_summed_or2 ok_impl_Row_summed_cen2
def Pure.spec_CentreOfRow_L0 (F : FOps) (y3 : List (List Int)) (y4 : Int) : Nat → Int → Int → Int → (Bool × Int × Int)
  | 0, _, _, _ => (false, 0, 0)
  | n + 1, y0, y1, y2 => bif (Decidable.decide (y2 < (Int.ofNat (List.length y3)))) then (bif (Decidable.decide (0 ≤ y2)) then (bif (Decidable.decide (y2 < (Int.ofNat (List.length y3)))) then (bif (Decidable.decide (0 ≤ y2)) then (bif (Decidable.decide (y2 < (Int.ofNat (List.length y3)))) then (bif (Decidable.decide (0 ≤ y2)) then (bif (Decidable.decide (y2 < (Int.ofNat (List.length y3)))) then (Pure.spec_CentreOfRow_L0 F y3 y4 n (FOps.bin F BinOp.add FloatKind.f32 y0 (FOps.bin F BinOp.mul FloatKind.f32 (List.getD (List.getD y3 (Int.toNat y2) []) 2 0) (List.getD (List.getD y3 (Int.toNat y2) []) 0 0))) (FOps.bin F BinOp.add FloatKind.f32 y1 (List.getD (List.getD y3 (Int.toNat y2) []) 2 0)) (IntKind.wrap IntKind.i64 (y2 + 1))) else ((false, 0, 0))) else ((false, 0, 0))) else ((false, 0, 0))) else ((false, 0, 0))) else ((false, 0, 0))) else ((false, 0, 0))) else ((true, y0, y1))
def R_spec_CentreOfRow_L0 (y3 : List (List Int)) (r : (Bool × Int × Int)) : Bool × Bool × (Ex × List V × List Ob) × (Ex × List V × List Ob) := ((r).1, false, (Ex.normal, [V.at (A.fl FloatKind.f32 (r).2.1), V.at (A.fl FloatKind.f32 (r).2.2)], [⟨false, OC.rows [K.f FloatKind.f32, K.f FloatKind.f32, K.f FloatKind.f32] y3⟩]), (Ex.normal, [V.at (A.fl FloatKind.f32 (r).2.1), V.at (A.fl FloatKind.f32 (r).2.2)], [⟨false, OC.rows [K.f FloatKind.f32, K.f FloatKind.f32, K.f FloatKind.f32] y3⟩]))
def S_spec_CentreOfRow_L0 (F : FOps) : Sm := ⟨[1, 4, 5, 6], [0, 22, 22, 3], [4, 5], fun vals hp => match vals, hp with
  | [V.at (A.ptr 1 0 0), V.at (A.fl FloatKind.f32 y0), V.at (A.fl FloatKind.f32 y1), V.at (A.int IntKind.i64 y2)], [⟨false, OC.rows [K.f FloatKind.f32, K.f FloatKind.f32, K.f FloatKind.f32] y3⟩, ⟨true, OC.box [A.sl 0, A.fl FloatKind.f32 y4]⟩] => some (R_spec_CentreOfRow_L0 y3 (Pure.spec_CentreOfRow_L0 F y3 y4 ((Int.ofNat (List.length y3)) - y2 + 1).toNat y0 y1 y2))
  | _, _ => none⟩
theorem l_spec_CentreOfRow_L0 (F : FOps) (y3 : List (List Int)) (y4 : Int) : ∀ (fuel : Nat) (y0 : Int) (y1 : Int) (y2 : Int), (Pure.spec_CentreOfRow_L0 F y3 y4 fuel y0 y1 y2).1 = true → loopOf (cxS F tyl [(54, c_spec_l06Is F), (55, c_spec_l02Number F)] [] [] 0) 1 45 0 [1, 4, 5, 6] [0, 22, 22, 3] [4, 5] (loopB 0 (codeOf Try.f26)) fuel [V.at (A.ptr 1 0 0), V.at (A.fl FloatKind.f32 y0), V.at (A.fl FloatKind.f32 y1), V.at (A.int IntKind.i64 y2)] [⟨false, OC.rows [K.f FloatKind.f32, K.f FloatKind.f32, K.f FloatKind.f32] y3⟩, ⟨true, OC.box [A.sl 0, A.fl FloatKind.f32 y4]⟩] = resOf (R_spec_CentreOfRow_L0 y3 (Pure.spec_CentreOfRow_L0 F y3 y4 fuel y0 y1 y2)) := by
  intro fuel
  induction fuel with
  | zero => intro y0 y1 y2 h; exact absurd h Bool.false_ne_true
  | succ n ih =>
    intro y0 y1 y2
    have h0 : roundOf (cxS F tyl [(54, c_spec_l06Is F), (55, c_spec_l02Number F)] [] [] 0) 1 45 0 [1, 4, 5, 6] [0, 22, 22, 3] [4, 5] (loopB 0 (codeOf Try.f26)) [V.at (A.ptr 1 0 0), V.at (A.fl FloatKind.f32 y0), V.at (A.fl FloatKind.f32 y1), V.at (A.int IntKind.i64 y2)] [⟨false, OC.rows [K.f FloatKind.f32, K.f FloatKind.f32, K.f FloatKind.f32] y3⟩, ⟨true, OC.box [A.sl 0, A.fl FloatKind.f32 y4]⟩] = (bif Decidable.decide (y2 < (Int.ofNat (List.length y3))) then bif Decidable.decide (0 ≤ y2) then bif Decidable.decide (y2 < (Int.ofNat (List.length y3))) then bif Decidable.decide (0 ≤ y2) then bif Decidable.decide (y2 < (Int.ofNat (List.length y3))) then bif Decidable.decide (0 ≤ y2) then bif Decidable.decide (y2 < (Int.ofNat (List.length y3))) then some (true, (Ex.normal, ([V.at (A.ptr 1 0 0), V.at (A.fl FloatKind.f32 (FOps.bin F BinOp.add FloatKind.f32 y0 (FOps.bin F BinOp.mul FloatKind.f32 (List.getD (List.getD y3 (Int.toNat y2) []) 2 0) (List.getD (List.getD y3 (Int.toNat y2) []) 0 0)))), V.at (A.fl FloatKind.f32 (FOps.bin F BinOp.add FloatKind.f32 y1 (List.getD (List.getD y3 (Int.toNat y2) []) 2 0))), V.at (A.int IntKind.i64 (IntKind.wrap IntKind.i64 (y2 + 1)))], [⟨false, OC.rows [K.f FloatKind.f32, K.f FloatKind.f32, K.f FloatKind.f32] y3⟩, ⟨true, OC.box [A.sl 0, A.fl FloatKind.f32 y4]⟩]))) else none else none else none else none else none else none else some (false, (Ex.normal, ([V.at (A.fl FloatKind.f32 y0), V.at (A.fl FloatKind.f32 y1)], [⟨false, OC.rows [K.f FloatKind.f32, K.f FloatKind.f32, K.f FloatKind.f32] y3⟩])))) := by kernel_rfl
    unfold loopOf
    rw [h0]
    unfold Pure.spec_CentreOfRow_L0
    cases (Decidable.decide (y2 < (Int.ofNat (List.length y3)))) with
    | true =>
      cases (Decidable.decide (0 ≤ y2)) with
      | true =>
        exact ih _ _ _
      | false =>
        intro h; exact absurd h Bool.false_ne_true
    | false =>
      intro _; rfl
theorem t_spec_CentreOfRow_L0 : SmTo Try.prog 1 45 (S_spec_CentreOfRow_L0 real) 0 (.loop (loopB 0 (codeOf Try.f26))) := by
  refine smTo_ev (cl := [(54, c_spec_l06Is real), (55, c_spec_l02Number real)]) (ef := []) (sm := []) (un := 0) prog_ok (allOK_cons ok_spec_l06Is (allOK_cons ok_spec_l02Number allOK_nil)) smL_nil ?_
  intro vals hp q r h hq
  unfold S_spec_CentreOfRow_L0 at h
  dsimp only at h
  split at h
  · rename_i y0 y1 y2 y3 y4
    obtain rfl := Option.some.inj h
    have h1 := hq
    unfold resOf at h1
    rw [chk_some] at h1
    exact ⟨_, (l_spec_CentreOfRow_L0 real y3 y4 _ y0 y1 y2 h1.1).trans hq⟩
  · cases h
def Pure.spec_CentreOfRow (F : FOps) (x0 : List (List Int)) (x1 : Int) : Int := bif Pure.spec_l06Is F x0 x1 then Pure.spec_l02Number F (FOps.bin F BinOp.quo FloatKind.f32 (Prod.fst (Prod.snd (Pure.spec_CentreOfRow_L0 F x0 x1 (Nat.succ ((List.length x0) + 0)) 0 0 0))) (Prod.snd (Prod.snd (Pure.spec_CentreOfRow_L0 F x0 x1 (Nat.succ ((List.length x0) + 0)) 0 0 0)))) else 0
def Pure.spec_CentreOfRow_1 (F : FOps) (x0 : List (List Int)) (x1 : Int) : Bool := bif Pure.spec_l06Is F x0 x1 then Pure.spec_l01Finite F (FOps.bin F BinOp.quo FloatKind.f32 (Prod.fst (Prod.snd (Pure.spec_CentreOfRow_L0 F x0 x1 (Nat.succ ((List.length x0) + 0)) 0 0 0))) (Prod.snd (Prod.snd (Pure.spec_CentreOfRow_L0 F x0 x1 (Nat.succ ((List.length x0) + 0)) 0 0 0)))) else false
def Pure.spec_CentreOfRow_ok (F : FOps) (x0 : List (List Int)) (x1 : Int) : Bool := bif Pure.spec_l06Is_ok F x0 x1 then bif Pure.spec_l06Is F x0 x1 then Prod.fst (Pure.spec_CentreOfRow_L0 F x0 x1 (Nat.succ ((List.length x0) + 0)) 0 0 0) else true else false
def c_spec_CentreOfRow (F : FOps) : Con
  | [V.agg [A.sl 0, A.fl FloatKind.f32 x1]], [⟨false, OC.rows [K.f FloatKind.f32, K.f FloatKind.f32, K.f FloatKind.f32] x0⟩] => some (Pure.spec_CentreOfRow_ok F x0 x1, ⟨V.tup [(false, [A.fl FloatKind.f32 (Pure.spec_CentreOfRow F x0 x1)]), (false, [A.bool (Pure.spec_CentreOfRow_1 F x0 x1)])], none, []⟩)
  | _, _ => none
theorem e_spec_CentreOfRow (F : FOps) (x0 : List (List Int)) (x1 : Int) : Pure.spec_CentreOfRow_ok F x0 x1 = true → evFn (cxS F tyl [(54, c_spec_l06Is F), (55, c_spec_l02Number F)] [] [(0, S_spec_CentreOfRow_L0 F)] 0) Try.f26 false [V.agg [A.sl 0, A.fl FloatKind.f32 x1]] [⟨false, OC.rows [K.f FloatKind.f32, K.f FloatKind.f32, K.f FloatKind.f32] x0⟩] = some ⟨V.tup [(false, [A.fl FloatKind.f32 (Pure.spec_CentreOfRow F x0 x1)]), (false, [A.bool (Pure.spec_CentreOfRow_1 F x0 x1)])], none, []⟩ := by
  have h0 : evFn (cxS F tyl [(54, c_spec_l06Is F), (55, c_spec_l02Number F)] [] [(0, S_spec_CentreOfRow_L0 F)] 0) Try.f26 false [V.agg [A.sl 0, A.fl FloatKind.f32 x1]] [⟨false, OC.rows [K.f FloatKind.f32, K.f FloatKind.f32, K.f FloatKind.f32] x0⟩] = bif Pure.spec_l06Is_ok F x0 x1 then bif Bool.not (Pure.spec_l06Is F x0 x1) then some ⟨V.tup [(false, [A.fl FloatKind.f32 0]), (false, [A.bool false])], none, []⟩ else bif Prod.fst (Pure.spec_CentreOfRow_L0 F x0 x1 (Nat.succ ((List.length x0) + 0)) 0 0 0) then some ⟨V.tup [(false, [A.fl FloatKind.f32 (Pure.spec_l02Number F (FOps.bin F BinOp.quo FloatKind.f32 (Prod.fst (Prod.snd (Pure.spec_CentreOfRow_L0 F x0 x1 (Nat.succ ((List.length x0) + 0)) 0 0 0))) (Prod.snd (Prod.snd (Pure.spec_CentreOfRow_L0 F x0 x1 (Nat.succ ((List.length x0) + 0)) 0 0 0)))))]), (false, [A.bool (Pure.spec_l01Finite F (FOps.bin F BinOp.quo FloatKind.f32 (Prod.fst (Prod.snd (Pure.spec_CentreOfRow_L0 F x0 x1 (Nat.succ ((List.length x0) + 0)) 0 0 0))) (Prod.snd (Prod.snd (Pure.spec_CentreOfRow_L0 F x0 x1 (Nat.succ ((List.length x0) + 0)) 0 0 0)))))])], none, []⟩ else none else none := by kernel_rfl
  rw [h0]
  unfold Pure.spec_CentreOfRow Pure.spec_CentreOfRow_1 Pure.spec_CentreOfRow_ok
  cases (Pure.spec_l06Is_ok F x0 x1) with
  | true =>
    cases (Pure.spec_l06Is F x0 x1) with
    | true =>
      cases (Prod.fst (Pure.spec_CentreOfRow_L0 F x0 x1 (Nat.succ ((List.length x0) + 0)) 0 0 0)) with
      | true =>
        intro _; rfl
      | false =>
        intro h; exact absurd h Bool.false_ne_true
    | false =>
      intro _; rfl
  | false =>
    intro h; exact absurd h Bool.false_ne_true
theorem ok_spec_CentreOfRow : CallOK Try.prog 26 (c_spec_CentreOfRow real) := by
  refine callOK_of fun args h ret hc => ?_
  unfold c_spec_CentreOfRow at hc
  split at hc
  · rename_i x1 x0
    obtain ⟨hok, rfl⟩ := some_ret hc
    exact holds_ev prog_ok (allOK_cons ok_spec_l06Is (allOK_cons ok_spec_l02Number allOK_nil)) Try.func26 rfl rfl (smL_cons (body := .loop (loopB 0 (codeOf Try.f26))) (by kernel_rfl) t_spec_CentreOfRow_L0 smL_nil) rfl (e_spec_CentreOfRow real x0 x1 hok)
  · cases hc
def Pure.impl_CentreOfRow (F : FOps) (x0 : List (List Int)) (x1 : Int) : Int := bif Pure.impl_ValidRow F x0 x1 then Pure.impl_toldNumber F (FOps.bin F BinOp.quo FloatKind.f32 (Pure.impl_Row_summed_cen1 F x0 x1) (Pure.impl_Row_summed_cen2 F x0 x1)) else 0
def Pure.impl_CentreOfRow_1 (F : FOps) (x0 : List (List Int)) (x1 : Int) : Bool := bif Pure.impl_ValidRow F x0 x1 then Pure.impl_IsFinite F (FOps.bin F BinOp.quo FloatKind.f32 (Pure.impl_Row_summed_cen1 F x0 x1) (Pure.impl_Row_summed_cen2 F x0 x1)) else false
def Pure.impl_CentreOfRow_ok (F : FOps) (x0 : List (List Int)) (x1 : Int) : Bool := bif Pure.impl_ValidRow_ok F x0 x1 then bif Pure.impl_ValidRow F x0 x1 then bif Pure.impl_Row_summed_cen1_ok F x0 x1 then Pure.impl_Row_summed_cen2_ok F x0 x1 else false else true else false
def c_impl_CentreOfRow (F : FOps) : Con
  | [V.agg [A.sl 0, A.fl FloatKind.f32 x1]], [⟨false, OC.rows [K.f FloatKind.f32, K.f FloatKind.f32, K.f FloatKind.f32] x0⟩] => some (Pure.impl_CentreOfRow_ok F x0 x1, ⟨V.tup [(false, [A.fl FloatKind.f32 (Pure.impl_CentreOfRow F x0 x1)]), (false, [A.bool (Pure.impl_CentreOfRow_1 F x0 x1)])], none, []⟩)
  | _, _ => none
theorem e_impl_CentreOfRow (F : FOps) (x0 : List (List Int)) (x1 : Int) : Pure.impl_CentreOfRow_ok F x0 x1 = true → evFn (cxS F tyl [(49, c_impl_ValidRow F), (58, c_impl_Row_summed_or3 F), (61, c_impl_CentreOfRow_c1 F), (62, c_impl_CentreOfRow_c2 F), (57, c_impl_toldNumber F)] [] [] 0) Try.f27 false [V.agg [A.sl 0, A.fl FloatKind.f32 x1]] [⟨false, OC.rows [K.f FloatKind.f32, K.f FloatKind.f32, K.f FloatKind.f32] x0⟩] = some ⟨V.tup [(false, [A.fl FloatKind.f32 (Pure.impl_CentreOfRow F x0 x1)]), (false, [A.bool (Pure.impl_CentreOfRow_1 F x0 x1)])], none, []⟩ := by
  have h0 : evFn (cxS F tyl [(49, c_impl_ValidRow F), (58, c_impl_Row_summed_or3 F), (61, c_impl_CentreOfRow_c1 F), (62, c_impl_CentreOfRow_c2 F), (57, c_impl_toldNumber F)] [] [] 0) Try.f27 false [V.agg [A.sl 0, A.fl FloatKind.f32 x1]] [⟨false, OC.rows [K.f FloatKind.f32, K.f FloatKind.f32, K.f FloatKind.f32] x0⟩] = bif Pure.impl_ValidRow_ok F x0 x1 then bif Bool.not (Pure.impl_ValidRow F x0 x1) then some ⟨V.tup [(false, [A.fl FloatKind.f32 0]), (false, [A.bool false])], none, []⟩ else bif Pure.impl_Row_summed_cen1_ok F x0 x1 then bif Pure.impl_Row_summed_cen2_ok F x0 x1 then some ⟨V.tup [(false, [A.fl FloatKind.f32 (Pure.impl_toldNumber F (FOps.bin F BinOp.quo FloatKind.f32 (Pure.impl_Row_summed_cen1 F x0 x1) (Pure.impl_Row_summed_cen2 F x0 x1)))]), (false, [A.bool (Pure.impl_IsFinite F (FOps.bin F BinOp.quo FloatKind.f32 (Pure.impl_Row_summed_cen1 F x0 x1) (Pure.impl_Row_summed_cen2 F x0 x1)))])], none, []⟩ else none else none else none := by kernel_rfl
  rw [h0]
  unfold Pure.impl_CentreOfRow Pure.impl_CentreOfRow_1 Pure.impl_CentreOfRow_ok
  cases (Pure.impl_ValidRow_ok F x0 x1) with
  | true =>
    cases (Pure.impl_ValidRow F x0 x1) with
    | true =>
      cases (Pure.impl_Row_summed_cen1_ok F x0 x1) with
      | true =>
        cases (Pure.impl_Row_summed_cen2_ok F x0 x1) with
        | true =>
          intro _; rfl
        | false =>
          intro h; exact absurd h Bool.false_ne_true
      | false =>
        intro h; exact absurd h Bool.false_ne_true
    | false =>
      intro _; rfl
  | false =>
    intro h; exact absurd h Bool.false_ne_true
theorem ok_impl_CentreOfRow : CallOK Try.prog 27 (c_impl_CentreOfRow real) := by
  refine callOK_of fun args h ret hc => ?_
  unfold c_impl_CentreOfRow at hc
  split at hc
  · rename_i x1 x0
    obtain ⟨hok, rfl⟩ := some_ret hc
    exact holds_ev prog_ok (allOK_cons ok_impl_ValidRow (allOK_cons ok_impl_Row_summed_or3 (allOK_cons ok_impl_CentreOfRow_c1 (allOK_cons ok_impl_CentreOfRow_c2 (allOK_cons ok_impl_toldNumber allOK_nil))))) Try.func27 rfl rfl smL_nil rfl (e_impl_CentreOfRow real x0 x1 hok)
  · cases hc
def Pure.laws_FnExactCentreOfRow (F : FOps) (x0 : List (List Int)) (x1 : Int) : Bool := bif Decidable.decide ((Pure.laws_szRow F x0 x1 1048576) < 0) then true else bif Pure.laws_sameFloat F (FOps.conv F FloatKind.f32 FloatKind.f64 (Pure.impl_CentreOfRow F (Pure.laws_toBallS F x0) x1)) (FOps.conv F FloatKind.f32 FloatKind.f64 (Pure.spec_CentreOfRow F (Pure.laws_toBallS F x0) x1)) then bif (Pure.impl_CentreOfRow_1 F (Pure.laws_toBallS F x0) x1) == (Pure.spec_CentreOfRow_1 F (Pure.laws_toBallS F x0) x1) then Pure.laws_eqRow F (Pure.laws_toBallS F x0) x1 (Pure.laws_toBallS F x0) x1 else false else false
def Pure.laws_FnExactCentreOfRow_ok (F : FOps) (x0 : List (List Int)) (x1 : Int) : Bool := bif Decidable.decide ((Pure.laws_szRow F x0 x1 1048576) < 0) then true else bif Pure.laws_toRow_ok F x0 x1 then bif Pure.spec_CentreOfRow_ok F (Pure.laws_toBallS F x0) x1 then bif Pure.impl_CentreOfRow_ok F (Pure.laws_toBallS F x0) x1 then bif FOps.convOk F FloatKind.f32 FloatKind.f64 (Pure.impl_CentreOfRow F (Pure.laws_toBallS F x0) x1) then bif FOps.convOk F FloatKind.f32 FloatKind.f64 (Pure.spec_CentreOfRow F (Pure.laws_toBallS F x0) x1) then bif Pure.laws_sameFloat F (FOps.conv F FloatKind.f32 FloatKind.f64 (Pure.impl_CentreOfRow F (Pure.laws_toBallS F x0) x1)) (FOps.conv F FloatKind.f32 FloatKind.f64 (Pure.spec_CentreOfRow F (Pure.laws_toBallS F x0) x1)) then bif (Pure.impl_CentreOfRow_1 F (Pure.laws_toBallS F x0) x1) == (Pure.spec_CentreOfRow_1 F (Pure.laws_toBallS F x0) x1) then Pure.laws_eqRow_ok F (Pure.laws_toBallS F x0) x1 (Pure.laws_toBallS F x0) x1 else true else true else false else false else false else false else false
def c_laws_FnExactCentreOfRow (F : FOps) : Con
  | [V.agg [A.sl 0, A.fl FloatKind.f32 x1]], [⟨false, OC.rows [K.f FloatKind.f32, K.f FloatKind.f32, K.f FloatKind.f32] x0⟩] => some (Pure.laws_FnExactCentreOfRow_ok F x0 x1, ⟨V.at (A.bool (Pure.laws_FnExactCentreOfRow F x0 x1)), none, []⟩)
  | _, _ => none
theorem e_laws_FnExactCentreOfRow (F : FOps) (x0 : List (List Int)) (x1 : Int) : Pure.laws_FnExactCentreOfRow_ok F x0 x1 = true → evFn (cxS F tyl [(19, c_laws_szRow F), (21, c_laws_toRow F), (26, c_spec_CentreOfRow F), (27, c_impl_CentreOfRow F), (23, c_laws_sameFloat F), (16, c_laws_eqRow F)] [] [] 0) Try.f6 false [V.agg [A.sl 0, A.fl FloatKind.f32 x1]] [⟨false, OC.rows [K.f FloatKind.f32, K.f FloatKind.f32, K.f FloatKind.f32] x0⟩] = some ⟨V.at (A.bool (Pure.laws_FnExactCentreOfRow F x0 x1)), none, []⟩ := by
  have h0 : evFn (cxS F tyl [(19, c_laws_szRow F), (21, c_laws_toRow F), (26, c_spec_CentreOfRow F), (27, c_impl_CentreOfRow F), (23, c_laws_sameFloat F), (16, c_laws_eqRow F)] [] [] 0) Try.f6 false [V.agg [A.sl 0, A.fl FloatKind.f32 x1]] [⟨false, OC.rows [K.f FloatKind.f32, K.f FloatKind.f32, K.f FloatKind.f32] x0⟩] = bif Decidable.decide ((Pure.laws_szRow F x0 x1 1048576) < 0) then some ⟨V.at (A.bool true), none, []⟩ else bif Pure.laws_toRow_ok F x0 x1 then bif Pure.spec_CentreOfRow_ok F (Pure.laws_toBallS F x0) x1 then bif Pure.laws_toRow_ok F x0 x1 then bif Pure.impl_CentreOfRow_ok F (Pure.laws_toBallS F x0) x1 then bif FOps.convOk F FloatKind.f32 FloatKind.f64 (Pure.impl_CentreOfRow F (Pure.laws_toBallS F x0) x1) then bif FOps.convOk F FloatKind.f32 FloatKind.f64 (Pure.spec_CentreOfRow F (Pure.laws_toBallS F x0) x1) then bif Bool.not (Pure.laws_sameFloat F (FOps.conv F FloatKind.f32 FloatKind.f64 (Pure.impl_CentreOfRow F (Pure.laws_toBallS F x0) x1)) (FOps.conv F FloatKind.f32 FloatKind.f64 (Pure.spec_CentreOfRow F (Pure.laws_toBallS F x0) x1))) then some ⟨V.at (A.bool false), none, []⟩ else bif Bool.not ((Pure.impl_CentreOfRow_1 F (Pure.laws_toBallS F x0) x1) == (Pure.spec_CentreOfRow_1 F (Pure.laws_toBallS F x0) x1)) then some ⟨V.at (A.bool false), none, []⟩ else bif Pure.laws_toRow_ok F x0 x1 then bif Pure.laws_eqRow_ok F (Pure.laws_toBallS F x0) x1 (Pure.laws_toBallS F x0) x1 then bif Bool.not (Pure.laws_eqRow F (Pure.laws_toBallS F x0) x1 (Pure.laws_toBallS F x0) x1) then some ⟨V.at (A.bool false), none, []⟩ else some ⟨V.at (A.bool true), none, []⟩ else none else none else none else none else none else none else none else none := by kernel_rfl
  rw [h0]
  unfold Pure.laws_FnExactCentreOfRow Pure.laws_FnExactCentreOfRow_ok
  cases (Decidable.decide ((Pure.laws_szRow F x0 x1 1048576) < 0)) with
  | true =>
    intro _; rfl
  | false =>
    cases (Pure.laws_toRow_ok F x0 x1) with
    | true =>
      cases (Pure.spec_CentreOfRow_ok F (Pure.laws_toBallS F x0) x1) with
      | true =>
        cases (Pure.impl_CentreOfRow_ok F (Pure.laws_toBallS F x0) x1) with
        | true =>
          cases (FOps.convOk F FloatKind.f32 FloatKind.f64 (Pure.impl_CentreOfRow F (Pure.laws_toBallS F x0) x1)) with
          | true =>
            cases (FOps.convOk F FloatKind.f32 FloatKind.f64 (Pure.spec_CentreOfRow F (Pure.laws_toBallS F x0) x1)) with
            | true =>
              cases (Pure.laws_sameFloat F (FOps.conv F FloatKind.f32 FloatKind.f64 (Pure.impl_CentreOfRow F (Pure.laws_toBallS F x0) x1)) (FOps.conv F FloatKind.f32 FloatKind.f64 (Pure.spec_CentreOfRow F (Pure.laws_toBallS F x0) x1))) with
              | true =>
                cases ((Pure.impl_CentreOfRow_1 F (Pure.laws_toBallS F x0) x1) == (Pure.spec_CentreOfRow_1 F (Pure.laws_toBallS F x0) x1)) with
                | true =>
                  cases (Pure.laws_eqRow_ok F (Pure.laws_toBallS F x0) x1 (Pure.laws_toBallS F x0) x1) with
                  | true =>
                    cases (Pure.laws_eqRow F (Pure.laws_toBallS F x0) x1 (Pure.laws_toBallS F x0) x1) with
                    | true =>
                      intro _; rfl
                    | false =>
                      intro _; rfl
                  | false =>
                    intro h; exact absurd h Bool.false_ne_true
                | false =>
                  intro _; rfl
              | false =>
                intro _; rfl
            | false =>
              intro h; exact absurd h Bool.false_ne_true
          | false =>
            intro h; exact absurd h Bool.false_ne_true
        | false =>
          intro h; exact absurd h Bool.false_ne_true
      | false =>
        intro h; exact absurd h Bool.false_ne_true
    | false =>
      intro h; exact absurd h Bool.false_ne_true
theorem ok_laws_FnExactCentreOfRow : CallOK Try.prog 6 (c_laws_FnExactCentreOfRow real) := by
  refine callOK_of fun args h ret hc => ?_
  unfold c_laws_FnExactCentreOfRow at hc
  split at hc
  · rename_i x1 x0
    obtain ⟨hok, rfl⟩ := some_ret hc
    exact holds_ev prog_ok (allOK_cons ok_laws_szRow (allOK_cons ok_laws_toRow (allOK_cons ok_spec_CentreOfRow (allOK_cons ok_impl_CentreOfRow (allOK_cons ok_laws_sameFloat (allOK_cons ok_laws_eqRow allOK_nil)))))) Try.func6 rfl rfl smL_nil rfl (e_laws_FnExactCentreOfRow real x0 x1 hok)
  · cases hc
def Pure.spec_SpeedsOfRow_L0 (F : FOps) (y1 : List (List Int)) (y2 : Int) : Nat → Int → (List (List Int)) → (Bool × (List (List Int)))
  | 0, _, _ => (false, [])
  | n + 1, y0, y3 => bif (Decidable.decide (y0 < (Int.ofNat (List.length y1)))) then (bif (Decidable.decide (0 ≤ y0)) then (bif (Decidable.decide (y0 < (Int.ofNat (List.length y1)))) then (bif (Decidable.decide ((Nat.succ (List.length y3)) ≤ 1073741824)) then (Pure.spec_SpeedsOfRow_L0 F y1 y2 n (IntKind.wrap IntKind.i64 (y0 + 1)) (y3 ++ [[List.getD (List.getD y1 (Int.toNat y0) []) 1 0]])) else ((false, []))) else ((false, []))) else ((false, []))) else ((true, y3))
def R_spec_SpeedsOfRow_L0 (y1 : List (List Int)) (r : (Bool × (List (List Int)))) : Bool × Bool × (Ex × List V × List Ob) × (Ex × List V × List Ob) := ((r).1, false, (Ex.normal, [V.at (A.sl 1)], [⟨false, OC.rows [K.f FloatKind.f32, K.f FloatKind.f32, K.f FloatKind.f32] y1⟩, ⟨true, OC.rows [K.f FloatKind.f32] (r).2⟩]), (Ex.normal, [V.at (A.sl 1)], [⟨false, OC.rows [K.f FloatKind.f32, K.f FloatKind.f32, K.f FloatKind.f32] y1⟩, ⟨true, OC.rows [K.f FloatKind.f32] (r).2⟩]))
def S_spec_SpeedsOfRow_L0 (F : FOps) : Sm := ⟨[1, 4, 5], [0, 41, 3], [4], fun vals hp => match vals, hp with
  | [V.at (A.ptr 1 0 0), V.at (A.sl 2), V.at (A.int IntKind.i64 y0)], [⟨false, OC.rows [K.f FloatKind.f32, K.f FloatKind.f32, K.f FloatKind.f32] y1⟩, ⟨true, OC.box [A.sl 0, A.fl FloatKind.f32 y2]⟩, ⟨true, OC.rows [K.f FloatKind.f32] y3⟩] => some (R_spec_SpeedsOfRow_L0 y1 (Pure.spec_SpeedsOfRow_L0 F y1 y2 ((Int.ofNat (List.length y1)) - y0 + 1).toNat y0 y3))
  | _, _ => none⟩
theorem l_spec_SpeedsOfRow_L0 (F : FOps) (y1 : List (List Int)) (y2 : Int) : ∀ (fuel : Nat) (y0 : Int) (y3 : List (List Int)), (Pure.spec_SpeedsOfRow_L0 F y1 y2 fuel y0 y3).1 = true → loopOf (cxS F tyl [(54, c_spec_l06Is F)] [] [] 0) 1 26 0 [1, 4, 5] [0, 41, 3] [4] (loopB 0 (codeOf Try.f28)) fuel [V.at (A.ptr 1 0 0), V.at (A.sl 2), V.at (A.int IntKind.i64 y0)] [⟨false, OC.rows [K.f FloatKind.f32, K.f FloatKind.f32, K.f FloatKind.f32] y1⟩, ⟨true, OC.box [A.sl 0, A.fl FloatKind.f32 y2]⟩, ⟨true, OC.rows [K.f FloatKind.f32] y3⟩] = resOf (R_spec_SpeedsOfRow_L0 y1 (Pure.spec_SpeedsOfRow_L0 F y1 y2 fuel y0 y3)) := by
  intro fuel
  induction fuel with
  | zero => intro y0 y3 h; exact absurd h Bool.false_ne_true
  | succ n ih =>
    intro y0 y3
    have h0 : roundOf (cxS F tyl [(54, c_spec_l06Is F)] [] [] 0) 1 26 0 [1, 4, 5] [0, 41, 3] [4] (loopB 0 (codeOf Try.f28)) [V.at (A.ptr 1 0 0), V.at (A.sl 2), V.at (A.int IntKind.i64 y0)] [⟨false, OC.rows [K.f FloatKind.f32, K.f FloatKind.f32, K.f FloatKind.f32] y1⟩, ⟨true, OC.box [A.sl 0, A.fl FloatKind.f32 y2]⟩, ⟨true, OC.rows [K.f FloatKind.f32] y3⟩] = (bif Decidable.decide (y0 < (Int.ofNat (List.length y1))) then bif Decidable.decide (0 ≤ y0) then bif Decidable.decide (y0 < (Int.ofNat (List.length y1))) then bif Decidable.decide ((Nat.succ (List.length y3)) ≤ 1073741824) then some (true, (Ex.normal, ([V.at (A.ptr 1 0 0), V.at (A.sl 2), V.at (A.int IntKind.i64 (IntKind.wrap IntKind.i64 (y0 + 1)))], [⟨false, OC.rows [K.f FloatKind.f32, K.f FloatKind.f32, K.f FloatKind.f32] y1⟩, ⟨true, OC.box [A.sl 0, A.fl FloatKind.f32 y2]⟩, ⟨true, OC.rows [K.f FloatKind.f32] (y3 ++ [[List.getD (List.getD y1 (Int.toNat y0) []) 1 0]])⟩]))) else none else none else none else some (false, (Ex.normal, ([V.at (A.sl 1)], [⟨false, OC.rows [K.f FloatKind.f32, K.f FloatKind.f32, K.f FloatKind.f32] y1⟩, ⟨true, OC.rows [K.f FloatKind.f32] y3⟩])))) := by kernel_rfl
    unfold loopOf
    rw [h0]
    unfold Pure.spec_SpeedsOfRow_L0
    cases (Decidable.decide (y0 < (Int.ofNat (List.length y1)))) with
    | true =>
      cases (Decidable.decide (0 ≤ y0)) with
      | true =>
        cases (Decidable.decide ((Nat.succ (List.length y3)) ≤ 1073741824)) with
        | true =>
          exact ih _ _
        | false =>
          intro h; exact absurd h Bool.false_ne_true
      | false =>
        intro h; exact absurd h Bool.false_ne_true
    | false =>
      intro _; rfl
theorem t_spec_SpeedsOfRow_L0 : SmTo Try.prog 1 26 (S_spec_SpeedsOfRow_L0 real) 0 (.loop (loopB 0 (codeOf Try.f28))) := by
  refine smTo_ev (cl := [(54, c_spec_l06Is real)]) (ef := []) (sm := []) (un := 0) prog_ok (allOK_cons ok_spec_l06Is allOK_nil) smL_nil ?_
  intro vals hp q r h hq
  unfold S_spec_SpeedsOfRow_L0 at h
  dsimp only at h
  split at h
  · rename_i y0 y1 y2 y3
    obtain rfl := Option.some.inj h
    have h1 := hq
    unfold resOf at h1
    rw [chk_some] at h1
    exact ⟨_, (l_spec_SpeedsOfRow_L0 real y1 y2 _ y0 y3 h1.1).trans hq⟩
  · cases h
def Pure.spec_SpeedsOfRow (F : FOps) (x0 : List (List Int)) (x1 : Int) : List (List Int) := bif Pure.spec_l06Is F x0 x1 then Prod.snd (Pure.spec_SpeedsOfRow_L0 F x0 x1 (Nat.succ ((List.length x0) + 0)) 0 []) else []
def Pure.spec_SpeedsOfRow_ok (F : FOps) (x0 : List (List Int)) (x1 : Int) : Bool := bif Pure.spec_l06Is_ok F x0 x1 then bif Pure.spec_l06Is F x0 x1 then Prod.fst (Pure.spec_SpeedsOfRow_L0 F x0 x1 (Nat.succ ((List.length x0) + 0)) 0 []) else true else false
def c_spec_SpeedsOfRow (F : FOps) : Con
  | [V.agg [A.sl 0, A.fl FloatKind.f32 x1]], [⟨false, OC.rows [K.f FloatKind.f32, K.f FloatKind.f32, K.f FloatKind.f32] x0⟩] => some (Pure.spec_SpeedsOfRow_ok F x0 x1, ⟨V.tup [(false, [A.sl 1]), (false, [A.bool (Pure.spec_l06Is F x0 x1)])], none, [⟨true, OC.rows [K.f FloatKind.f32] (Pure.spec_SpeedsOfRow F x0 x1)⟩]⟩)
  | _, _ => none
theorem e_spec_SpeedsOfRow (F : FOps) (x0 : List (List Int)) (x1 : Int) : Pure.spec_SpeedsOfRow_ok F x0 x1 = true → evFn (cxS F tyl [(54, c_spec_l06Is F)] [] [(0, S_spec_SpeedsOfRow_L0 F)] 0) Try.f28 false [V.agg [A.sl 0, A.fl FloatKind.f32 x1]] [⟨false, OC.rows [K.f FloatKind.f32, K.f FloatKind.f32, K.f FloatKind.f32] x0⟩] = some ⟨V.tup [(false, [A.sl 1]), (false, [A.bool (Pure.spec_l06Is F x0 x1)])], none, [⟨true, OC.rows [K.f FloatKind.f32] (Pure.spec_SpeedsOfRow F x0 x1)⟩]⟩ := by
  have h0 : evFn (cxS F tyl [(54, c_spec_l06Is F)] [] [(0, S_spec_SpeedsOfRow_L0 F)] 0) Try.f28 false [V.agg [A.sl 0, A.fl FloatKind.f32 x1]] [⟨false, OC.rows [K.f FloatKind.f32, K.f FloatKind.f32, K.f FloatKind.f32] x0⟩] = bif Pure.spec_l06Is_ok F x0 x1 then bif Bool.not (Pure.spec_l06Is F x0 x1) then some ⟨V.tup [(false, [A.sl 1]), (false, [A.bool false])], none, [⟨true, OC.rows [K.f FloatKind.f32] []⟩]⟩ else bif Prod.fst (Pure.spec_SpeedsOfRow_L0 F x0 x1 (Nat.succ ((List.length x0) + 0)) 0 []) then some ⟨V.tup [(false, [A.sl 1]), (false, [A.bool true])], none, [⟨true, OC.rows [K.f FloatKind.f32] (Prod.snd (Pure.spec_SpeedsOfRow_L0 F x0 x1 (Nat.succ ((List.length x0) + 0)) 0 []))⟩]⟩ else none else none := by kernel_rfl
  rw [h0]
  unfold Pure.spec_SpeedsOfRow Pure.spec_SpeedsOfRow_ok
  cases (Pure.spec_l06Is_ok F x0 x1) with
  | true =>
    cases (Pure.spec_l06Is F x0 x1) with
    | true =>
      cases (Prod.fst (Pure.spec_SpeedsOfRow_L0 F x0 x1 (Nat.succ ((List.length x0) + 0)) 0 [])) with
      | true =>
        intro _; rfl
      | false =>
        intro h; exact absurd h Bool.false_ne_true
    | false =>
      intro _; rfl
  | false =>
    intro h; exact absurd h Bool.false_ne_true
theorem ok_spec_SpeedsOfRow : CallOK Try.prog 28 (c_spec_SpeedsOfRow real) := by
  refine callOK_of fun args h ret hc => ?_
  unfold c_spec_SpeedsOfRow at hc
  split at hc
  · rename_i x1 x0
    obtain ⟨hok, rfl⟩ := some_ret hc
    exact holds_ev prog_ok (allOK_cons ok_spec_l06Is allOK_nil) Try.func28 rfl rfl (smL_cons (body := .loop (loopB 0 (codeOf Try.f28))) (by kernel_rfl) t_spec_SpeedsOfRow_L0 smL_nil) rfl (e_spec_SpeedsOfRow real x0 x1 hok)
  · cases hc
def Pure.impl_SpeedsOfRow_L0 (F : FOps) (y0 : Int) (y2 : List (List Int)) : Nat → Int → (List (List Int)) → (Bool × (List (List Int)))
  | 0, _, _ => (false, [])
  | n + 1, y1, y3 => bif (Decidable.decide (y1 < y0)) then (bif (Decidable.decide (0 ≤ y1)) then (bif (Decidable.decide (y1 < (Int.ofNat (List.length y2)))) then (bif (Decidable.decide ((Nat.succ (List.length y3)) ≤ 1073741824)) then (Pure.impl_SpeedsOfRow_L0 F y0 y2 n (IntKind.wrap IntKind.i64 (y1 + 1)) (y3 ++ [[List.getD (List.getD y2 (Int.toNat y1) []) 1 0]])) else ((false, []))) else ((false, []))) else ((false, []))) else ((true, y3))
def R_impl_SpeedsOfRow_L0 (y2 : List (List Int)) (r : (Bool × (List (List Int)))) : Bool × Bool × (Ex × List V × List Ob) × (Ex × List V × List Ob) := ((r).1, false, (Ex.normal, [V.at (A.sl 1)], [⟨false, OC.rows [K.f FloatKind.f32, K.f FloatKind.f32, K.f FloatKind.f32] y2⟩, ⟨true, OC.rows [K.f FloatKind.f32] (r).2⟩]), (Ex.normal, [V.at (A.sl 1)], [⟨false, OC.rows [K.f FloatKind.f32, K.f FloatKind.f32, K.f FloatKind.f32] y2⟩, ⟨true, OC.rows [K.f FloatKind.f32] (r).2⟩]))
def S_impl_SpeedsOfRow_L0 (F : FOps) : Sm := ⟨[4, 12, 13, 14], [41, 23, 3, 3], [4], fun vals hp => match vals, hp with
  | [V.at (A.sl 1), V.at (A.sl 0), V.at (A.int IntKind.i64 y0), V.at (A.int IntKind.i64 y1)], [⟨false, OC.rows [K.f FloatKind.f32, K.f FloatKind.f32, K.f FloatKind.f32] y2⟩, ⟨true, OC.rows [K.f FloatKind.f32] y3⟩] => some (R_impl_SpeedsOfRow_L0 y2 (Pure.impl_SpeedsOfRow_L0 F y0 y2 (y0 - y1 + 1).toNat y1 y3))
  | _, _ => none⟩
theorem l_impl_SpeedsOfRow_L0 (F : FOps) (y0 : Int) (y2 : List (List Int)) : ∀ (fuel : Nat) (y1 : Int) (y3 : List (List Int)), (Pure.impl_SpeedsOfRow_L0 F y0 y2 fuel y1 y3).1 = true → loopOf (cxS F tyl [(49, c_impl_ValidRow F)] [] [] 0) 1 25 0 [4, 12, 13, 14] [41, 23, 3, 3] [4] (loopB 0 (codeOf Try.f29)) fuel [V.at (A.sl 1), V.at (A.sl 0), V.at (A.int IntKind.i64 y0), V.at (A.int IntKind.i64 y1)] [⟨false, OC.rows [K.f FloatKind.f32, K.f FloatKind.f32, K.f FloatKind.f32] y2⟩, ⟨true, OC.rows [K.f FloatKind.f32] y3⟩] = resOf (R_impl_SpeedsOfRow_L0 y2 (Pure.impl_SpeedsOfRow_L0 F y0 y2 fuel y1 y3)) := by
  intro fuel
  induction fuel with
  | zero => intro y1 y3 h; exact absurd h Bool.false_ne_true
  | succ n ih =>
    intro y1 y3
    have h0 : roundOf (cxS F tyl [(49, c_impl_ValidRow F)] [] [] 0) 1 25 0 [4, 12, 13, 14] [41, 23, 3, 3] [4] (loopB 0 (codeOf Try.f29)) [V.at (A.sl 1), V.at (A.sl 0), V.at (A.int IntKind.i64 y0), V.at (A.int IntKind.i64 y1)] [⟨false, OC.rows [K.f FloatKind.f32, K.f FloatKind.f32, K.f FloatKind.f32] y2⟩, ⟨true, OC.rows [K.f FloatKind.f32] y3⟩] = (bif Decidable.decide (y1 < y0) then bif Decidable.decide (0 ≤ y1) then bif Decidable.decide (y1 < (Int.ofNat (List.length y2))) then bif Decidable.decide ((Nat.succ (List.length y3)) ≤ 1073741824) then some (true, (Ex.normal, ([V.at (A.sl 1), V.at (A.sl 0), V.at (A.int IntKind.i64 y0), V.at (A.int IntKind.i64 (IntKind.wrap IntKind.i64 (y1 + 1)))], [⟨false, OC.rows [K.f FloatKind.f32, K.f FloatKind.f32, K.f FloatKind.f32] y2⟩, ⟨true, OC.rows [K.f FloatKind.f32] (y3 ++ [[List.getD (List.getD y2 (Int.toNat y1) []) 1 0]])⟩]))) else none else none else none else some (false, (Ex.normal, ([V.at (A.sl 1)], [⟨false, OC.rows [K.f FloatKind.f32, K.f FloatKind.f32, K.f FloatKind.f32] y2⟩, ⟨true, OC.rows [K.f FloatKind.f32] y3⟩])))) := by kernel_rfl
    unfold loopOf
    rw [h0]
    unfold Pure.impl_SpeedsOfRow_L0
    cases (Decidable.decide (y1 < y0)) with
    | true =>
      cases (Decidable.decide (0 ≤ y1)) with
      | true =>
        cases (Decidable.decide (y1 < (Int.ofNat (List.length y2)))) with
        | true =>
          cases (Decidable.decide ((Nat.succ (List.length y3)) ≤ 1073741824)) with
          | true =>
            exact ih _ _
          | false =>
            intro h; exact absurd h Bool.false_ne_true
        | false =>
          intro h; exact absurd h Bool.false_ne_true
      | false =>
        intro h; exact absurd h Bool.false_ne_true
    | false =>
      intro _; rfl
theorem t_impl_SpeedsOfRow_L0 : SmTo Try.prog 1 25 (S_impl_SpeedsOfRow_L0 real) 0 (.loop (loopB 0 (codeOf Try.f29))) := by
  refine smTo_ev (cl := [(49, c_impl_ValidRow real)]) (ef := []) (sm := []) (un := 0) prog_ok (allOK_cons ok_impl_ValidRow allOK_nil) smL_nil ?_
  intro vals hp q r h hq
  unfold S_impl_SpeedsOfRow_L0 at h
  dsimp only at h
  split at h
  · rename_i y0 y1 y2 y3
    obtain rfl := Option.some.inj h
    have h1 := hq
    unfold resOf at h1
    rw [chk_some] at h1
    exact ⟨_, (l_impl_SpeedsOfRow_L0 real y0 y2 _ y1 y3 h1.1).trans hq⟩
  · cases h
def Pure.impl_SpeedsOfRow (F : FOps) (x0 : List (List Int)) (x1 : Int) : List (List Int) := bif Pure.impl_ValidRow F x0 x1 then Prod.snd (Pure.impl_SpeedsOfRow_L0 F (Int.ofNat (List.length x0)) x0 (Nat.succ ((List.length x0) + 0)) 0 []) else []
def Pure.impl_SpeedsOfRow_ok (F : FOps) (x0 : List (List Int)) (x1 : Int) : Bool := bif Pure.impl_ValidRow_ok F x0 x1 then bif Pure.impl_ValidRow F x0 x1 then Prod.fst (Pure.impl_SpeedsOfRow_L0 F (Int.ofNat (List.length x0)) x0 (Nat.succ ((List.length x0) + 0)) 0 []) else true else false
def c_impl_SpeedsOfRow (F : FOps) : Con
  | [V.agg [A.sl 0, A.fl FloatKind.f32 x1]], [⟨false, OC.rows [K.f FloatKind.f32, K.f FloatKind.f32, K.f FloatKind.f32] x0⟩] => some (Pure.impl_SpeedsOfRow_ok F x0 x1, ⟨V.tup [(false, [A.sl 1]), (false, [A.bool (Pure.impl_ValidRow F x0 x1)])], none, [⟨true, OC.rows [K.f FloatKind.f32] (Pure.impl_SpeedsOfRow F x0 x1)⟩]⟩)
  | _, _ => none
theorem e_impl_SpeedsOfRow (F : FOps) (x0 : List (List Int)) (x1 : Int) : Pure.impl_SpeedsOfRow_ok F x0 x1 = true → evFn (cxS F tyl [(49, c_impl_ValidRow F)] [] [(0, S_impl_SpeedsOfRow_L0 F)] 0) Try.f29 false [V.agg [A.sl 0, A.fl FloatKind.f32 x1]] [⟨false, OC.rows [K.f FloatKind.f32, K.f FloatKind.f32, K.f FloatKind.f32] x0⟩] = some ⟨V.tup [(false, [A.sl 1]), (false, [A.bool (Pure.impl_ValidRow F x0 x1)])], none, [⟨true, OC.rows [K.f FloatKind.f32] (Pure.impl_SpeedsOfRow F x0 x1)⟩]⟩ := by
  have h0 : evFn (cxS F tyl [(49, c_impl_ValidRow F)] [] [(0, S_impl_SpeedsOfRow_L0 F)] 0) Try.f29 false [V.agg [A.sl 0, A.fl FloatKind.f32 x1]] [⟨false, OC.rows [K.f FloatKind.f32, K.f FloatKind.f32, K.f FloatKind.f32] x0⟩] = bif Pure.impl_ValidRow_ok F x0 x1 then bif Bool.not (Pure.impl_ValidRow F x0 x1) then some ⟨V.tup [(false, [A.sl 1]), (false, [A.bool false])], none, [⟨true, OC.rows [K.f FloatKind.f32] []⟩]⟩ else bif Prod.fst (Pure.impl_SpeedsOfRow_L0 F (Int.ofNat (List.length x0)) x0 (Nat.succ ((List.length x0) + 0)) 0 []) then some ⟨V.tup [(false, [A.sl 1]), (false, [A.bool true])], none, [⟨true, OC.rows [K.f FloatKind.f32] (Prod.snd (Pure.impl_SpeedsOfRow_L0 F (Int.ofNat (List.length x0)) x0 (Nat.succ ((List.length x0) + 0)) 0 []))⟩]⟩ else none else none := by kernel_rfl
  rw [h0]
  unfold Pure.impl_SpeedsOfRow Pure.impl_SpeedsOfRow_ok
  cases (Pure.impl_ValidRow_ok F x0 x1) with
  | true =>
    cases (Pure.impl_ValidRow F x0 x1) with
    | true =>
      cases (Prod.fst (Pure.impl_SpeedsOfRow_L0 F (Int.ofNat (List.length x0)) x0 (Nat.succ ((List.length x0) + 0)) 0 [])) with
      | true =>
        intro _; rfl
      | false =>
        intro h; exact absurd h Bool.false_ne_true
    | false =>
      intro _; rfl
  | false =>
    intro h; exact absurd h Bool.false_ne_true
theorem ok_impl_SpeedsOfRow : CallOK Try.prog 29 (c_impl_SpeedsOfRow real) := by
  refine callOK_of fun args h ret hc => ?_
  unfold c_impl_SpeedsOfRow at hc
  split at hc
  · rename_i x1 x0
    obtain ⟨hok, rfl⟩ := some_ret hc
    exact holds_ev prog_ok (allOK_cons ok_impl_ValidRow allOK_nil) Try.func29 rfl rfl (smL_cons (body := .loop (loopB 0 (codeOf Try.f29))) (by kernel_rfl) t_impl_SpeedsOfRow_L0 smL_nil) rfl (e_impl_SpeedsOfRow real x0 x1 hok)
  · cases hc
def Pure.laws_eqFloat32S_L0 (F : FOps) (y1 : List (List Int)) (y2 : List (List Int)) : Nat → Int → (Bool × Bool)
  | 0, _ => (false, false)
  | n + 1, y0 => bif (Decidable.decide (y0 < (Int.ofNat (List.length y1)))) then (bif (Decidable.decide (0 ≤ y0)) then (bif (Decidable.decide (y0 < (Int.ofNat (List.length y1)))) then (bif (FOps.convOk F FloatKind.f32 FloatKind.f64 (List.getD (List.getD y1 (Int.toNat y0) []) 0 0)) then (bif (Decidable.decide (0 ≤ y0)) then (bif (Decidable.decide (y0 < (Int.ofNat (List.length y2)))) then (bif (FOps.convOk F FloatKind.f32 FloatKind.f64 (List.getD (List.getD y2 (Int.toNat y0) []) 0 0)) then (bif (Pure.laws_sameFloat F (FOps.conv F FloatKind.f32 FloatKind.f64 (List.getD (List.getD y1 (Int.toNat y0) []) 0 0)) (FOps.conv F FloatKind.f32 FloatKind.f64 (List.getD (List.getD y2 (Int.toNat y0) []) 0 0))) then (Pure.laws_eqFloat32S_L0 F y1 y2 n (IntKind.wrap IntKind.i64 (y0 + 1))) else ((true, true))) else ((false, false))) else ((false, false))) else ((false, false))) else ((false, false))) else ((false, false))) else ((false, false))) else ((true, false))
def R_laws_eqFloat32S_L0 (y1 : List (List Int)) (y2 : List (List Int)) (r : (Bool × Bool)) : Bool × Bool × (Ex × List V × List Ob) × (Ex × List V × List Ob) := ((r).1, (r).2, (Ex.normal, [V.at A.undef], [⟨false, OC.rows [K.f FloatKind.f32] y1⟩, ⟨false, OC.rows [K.f FloatKind.f32] y2⟩]), (Ex.ret, [V.at (A.bool false)], [⟨false, OC.rows [K.f FloatKind.f32] y1⟩, ⟨false, OC.rows [K.f FloatKind.f32] y2⟩]))
def S_laws_eqFloat32S_L0 (F : FOps) : Sm := ⟨[0, 1, 5], [41, 41, 3], [4], fun vals hp => match vals, hp with
  | [V.at (A.sl 0), V.at (A.sl 1), V.at (A.int IntKind.i64 y0)], [⟨false, OC.rows [K.f FloatKind.f32] y1⟩, ⟨false, OC.rows [K.f FloatKind.f32] y2⟩] => some (R_laws_eqFloat32S_L0 y1 y2 (Pure.laws_eqFloat32S_L0 F y1 y2 ((Int.ofNat (List.length y1)) - y0 + 1).toNat y0))
  | _, _ => none⟩
theorem l_laws_eqFloat32S_L0 (F : FOps) (y1 : List (List Int)) (y2 : List (List Int)) : ∀ (fuel : Nat) (y0 : Int), (Pure.laws_eqFloat32S_L0 F y1 y2 fuel y0).1 = true → loopOf (cxS F tyl [(23, c_laws_sameFloat F)] [] [] 0) 2 29 0 [0, 1, 5] [41, 41, 3] [4] (loopB 0 (codeOf Try.f30)) fuel [V.at (A.sl 0), V.at (A.sl 1), V.at (A.int IntKind.i64 y0)] [⟨false, OC.rows [K.f FloatKind.f32] y1⟩, ⟨false, OC.rows [K.f FloatKind.f32] y2⟩] = resOf (R_laws_eqFloat32S_L0 y1 y2 (Pure.laws_eqFloat32S_L0 F y1 y2 fuel y0)) := by
  intro fuel
  induction fuel with
  | zero => intro y0 h; exact absurd h Bool.false_ne_true
  | succ n ih =>
    intro y0
    have h0 : roundOf (cxS F tyl [(23, c_laws_sameFloat F)] [] [] 0) 2 29 0 [0, 1, 5] [41, 41, 3] [4] (loopB 0 (codeOf Try.f30)) [V.at (A.sl 0), V.at (A.sl 1), V.at (A.int IntKind.i64 y0)] [⟨false, OC.rows [K.f FloatKind.f32] y1⟩, ⟨false, OC.rows [K.f FloatKind.f32] y2⟩] = (bif Decidable.decide (y0 < (Int.ofNat (List.length y1))) then bif Decidable.decide (0 ≤ y0) then bif Decidable.decide (y0 < (Int.ofNat (List.length y1))) then bif FOps.convOk F FloatKind.f32 FloatKind.f64 (List.getD (List.getD y1 (Int.toNat y0) []) 0 0) then bif Decidable.decide (0 ≤ y0) then bif Decidable.decide (y0 < (Int.ofNat (List.length y2))) then bif FOps.convOk F FloatKind.f32 FloatKind.f64 (List.getD (List.getD y2 (Int.toNat y0) []) 0 0) then bif Bool.not (Pure.laws_sameFloat F (FOps.conv F FloatKind.f32 FloatKind.f64 (List.getD (List.getD y1 (Int.toNat y0) []) 0 0)) (FOps.conv F FloatKind.f32 FloatKind.f64 (List.getD (List.getD y2 (Int.toNat y0) []) 0 0))) then some (false, (Ex.ret, ([V.at (A.bool false)], [⟨false, OC.rows [K.f FloatKind.f32] y1⟩, ⟨false, OC.rows [K.f FloatKind.f32] y2⟩]))) else some (true, (Ex.normal, ([V.at (A.sl 0), V.at (A.sl 1), V.at (A.int IntKind.i64 (IntKind.wrap IntKind.i64 (y0 + 1)))], [⟨false, OC.rows [K.f FloatKind.f32] y1⟩, ⟨false, OC.rows [K.f FloatKind.f32] y2⟩]))) else none else none else none else none else none else none else some (false, (Ex.normal, ([V.at A.undef], [⟨false, OC.rows [K.f FloatKind.f32] y1⟩, ⟨false, OC.rows [K.f FloatKind.f32] y2⟩])))) := by kernel_rfl
    unfold loopOf
    rw [h0]
    unfold Pure.laws_eqFloat32S_L0
    cases (Decidable.decide (y0 < (Int.ofNat (List.length y1)))) with
    | true =>
      cases (Decidable.decide (0 ≤ y0)) with
      | true =>
        cases (FOps.convOk F FloatKind.f32 FloatKind.f64 (List.getD (List.getD y1 (Int.toNat y0) []) 0 0)) with
        | true =>
          cases (Decidable.decide (y0 < (Int.ofNat (List.length y2)))) with
          | true =>
            cases (FOps.convOk F FloatKind.f32 FloatKind.f64 (List.getD (List.getD y2 (Int.toNat y0) []) 0 0)) with
            | true =>
              cases (Pure.laws_sameFloat F (FOps.conv F FloatKind.f32 FloatKind.f64 (List.getD (List.getD y1 (Int.toNat y0) []) 0 0)) (FOps.conv F FloatKind.f32 FloatKind.f64 (List.getD (List.getD y2 (Int.toNat y0) []) 0 0))) with
              | true =>
                exact ih _
              | false =>
                intro _; rfl
            | false =>
              intro h; exact absurd h Bool.false_ne_true
          | false =>
            intro h; exact absurd h Bool.false_ne_true
        | false =>
          intro h; exact absurd h Bool.false_ne_true
      | false =>
        intro h; exact absurd h Bool.false_ne_true
    | false =>
      intro _; rfl
theorem t_laws_eqFloat32S_L0 : SmTo Try.prog 2 29 (S_laws_eqFloat32S_L0 real) 0 (.loop (loopB 0 (codeOf Try.f30))) := by
  refine smTo_ev (cl := [(23, c_laws_sameFloat real)]) (ef := []) (sm := []) (un := 0) prog_ok (allOK_cons ok_laws_sameFloat allOK_nil) smL_nil ?_
  intro vals hp q r h hq
  unfold S_laws_eqFloat32S_L0 at h
  dsimp only at h
  split at h
  · rename_i y0 y1 y2
    obtain rfl := Option.some.inj h
    have h1 := hq
    unfold resOf at h1
    rw [chk_some] at h1
    exact ⟨_, (l_laws_eqFloat32S_L0 real y1 y2 _ y0 h1.1).trans hq⟩
  · cases h
def Pure.laws_eqFloat32S (F : FOps) (x0 : List (List Int)) (x1 : List (List Int)) : Bool := bif (Int.ofNat (List.length x0)) != (Int.ofNat (List.length x1)) then false else bif Prod.snd (Pure.laws_eqFloat32S_L0 F x0 x1 (Nat.succ ((List.length x0) + 0)) 0) then false else true
def Pure.laws_eqFloat32S_ok (F : FOps) (x0 : List (List Int)) (x1 : List (List Int)) : Bool := bif (Int.ofNat (List.length x0)) != (Int.ofNat (List.length x1)) then true else Prod.fst (Pure.laws_eqFloat32S_L0 F x0 x1 (Nat.succ ((List.length x0) + 0)) 0)
def c_laws_eqFloat32S (F : FOps) : Con
  | [V.at (A.sl 0), V.at (A.sl 1)], [⟨false, OC.rows [K.f FloatKind.f32] x0⟩, ⟨false, OC.rows [K.f FloatKind.f32] x1⟩] => some (Pure.laws_eqFloat32S_ok F x0 x1, ⟨V.at (A.bool (Pure.laws_eqFloat32S F x0 x1)), none, []⟩)
  | _, _ => none
theorem e_laws_eqFloat32S (F : FOps) (x0 : List (List Int)) (x1 : List (List Int)) : Pure.laws_eqFloat32S_ok F x0 x1 = true → evFn (cxS F tyl [(23, c_laws_sameFloat F)] [] [(0, S_laws_eqFloat32S_L0 F)] 0) Try.f30 false [V.at (A.sl 0), V.at (A.sl 1)] [⟨false, OC.rows [K.f FloatKind.f32] x0⟩, ⟨false, OC.rows [K.f FloatKind.f32] x1⟩] = some ⟨V.at (A.bool (Pure.laws_eqFloat32S F x0 x1)), none, []⟩ := by
  have h0 : evFn (cxS F tyl [(23, c_laws_sameFloat F)] [] [(0, S_laws_eqFloat32S_L0 F)] 0) Try.f30 false [V.at (A.sl 0), V.at (A.sl 1)] [⟨false, OC.rows [K.f FloatKind.f32] x0⟩, ⟨false, OC.rows [K.f FloatKind.f32] x1⟩] = bif (Int.ofNat (List.length x0)) != (Int.ofNat (List.length x1)) then some ⟨V.at (A.bool false), none, []⟩ else bif Prod.fst (Pure.laws_eqFloat32S_L0 F x0 x1 (Nat.succ ((List.length x0) + 0)) 0) then bif Prod.snd (Pure.laws_eqFloat32S_L0 F x0 x1 (Nat.succ ((List.length x0) + 0)) 0) then some ⟨V.at (A.bool false), none, []⟩ else some ⟨V.at (A.bool true), none, []⟩ else none := by kernel_rfl
  rw [h0]
  unfold Pure.laws_eqFloat32S Pure.laws_eqFloat32S_ok
  cases ((Int.ofNat (List.length x0)) != (Int.ofNat (List.length x1))) with
  | true =>
    intro _; rfl
  | false =>
    cases (Prod.fst (Pure.laws_eqFloat32S_L0 F x0 x1 (Nat.succ ((List.length x0) + 0)) 0)) with
    | true =>
      cases (Prod.snd (Pure.laws_eqFloat32S_L0 F x0 x1 (Nat.succ ((List.length x0) + 0)) 0)) with
      | true =>
        intro _; rfl
      | false =>
        intro _; rfl
    | false =>
      intro h; exact absurd h Bool.false_ne_true
theorem ok_laws_eqFloat32S : CallOK Try.prog 30 (c_laws_eqFloat32S real) := by
  refine callOK_of fun args h ret hc => ?_
  unfold c_laws_eqFloat32S at hc
  split at hc
  · rename_i x0 x1
    obtain ⟨hok, rfl⟩ := some_ret hc
    exact holds_ev prog_ok (allOK_cons ok_laws_sameFloat allOK_nil) Try.func30 rfl rfl (smL_cons (body := .loop (loopB 0 (codeOf Try.f30))) (by kernel_rfl) t_laws_eqFloat32S_L0 smL_nil) rfl (e_laws_eqFloat32S real x0 x1 hok)
  · cases hc
def Pure.laws_markBallS_L0 (F : FOps) : Nat → Int → Int → (List (List Int)) → (Bool × Int × (List (List Int)))
  | 0, _, _, _ => (false, 0, [])
  | n + 1, y0, y1, y2 => bif (Decidable.decide (y1 < (Int.ofNat (List.length y2)))) then (bif (Decidable.decide (0 ≤ y1)) then (bif (Decidable.decide (y1 < (Int.ofNat (List.length y2)))) then (bif (Decidable.decide (0 ≤ y1)) then (bif (Decidable.decide (y1 < (Int.ofNat (List.length (List.set y2 (Int.toNat y1) (setFrom (List.getD y2 (Int.toNat y1) []) 0 [FOps.ofInt F FloatKind.f32 y0])))))) then (bif (Decidable.decide (0 ≤ y1)) then (bif (Decidable.decide (y1 < (Int.ofNat (List.length (List.set (List.set y2 (Int.toNat y1) (setFrom (List.getD y2 (Int.toNat y1) []) 0 [FOps.ofInt F FloatKind.f32 y0])) (Int.toNat y1) (setFrom (List.getD (List.set y2 (Int.toNat y1) (setFrom (List.getD y2 (Int.toNat y1) []) 0 [FOps.ofInt F FloatKind.f32 y0])) (Int.toNat y1) []) 1 [FOps.ofInt F FloatKind.f32 (IntKind.wrap IntKind.i64 (y0 + 1))])))))) then (Pure.laws_markBallS_L0 F  n (IntKind.wrap IntKind.i64 ((IntKind.wrap IntKind.i64 ((IntKind.wrap IntKind.i64 (y0 + 1)) + 1)) + 1)) (IntKind.wrap IntKind.i64 (y1 + 1)) (List.set (List.set (List.set y2 (Int.toNat y1) (setFrom (List.getD y2 (Int.toNat y1) []) 0 [FOps.ofInt F FloatKind.f32 y0])) (Int.toNat y1) (setFrom (List.getD (List.set y2 (Int.toNat y1) (setFrom (List.getD y2 (Int.toNat y1) []) 0 [FOps.ofInt F FloatKind.f32 y0])) (Int.toNat y1) []) 1 [FOps.ofInt F FloatKind.f32 (IntKind.wrap IntKind.i64 (y0 + 1))])) (Int.toNat y1) (setFrom (List.getD (List.set (List.set y2 (Int.toNat y1) (setFrom (List.getD y2 (Int.toNat y1) []) 0 [FOps.ofInt F FloatKind.f32 y0])) (Int.toNat y1) (setFrom (List.getD (List.set y2 (Int.toNat y1) (setFrom (List.getD y2 (Int.toNat y1) []) 0 [FOps.ofInt F FloatKind.f32 y0])) (Int.toNat y1) []) 1 [FOps.ofInt F FloatKind.f32 (IntKind.wrap IntKind.i64 (y0 + 1))])) (Int.toNat y1) []) 2 [FOps.ofInt F FloatKind.f32 (IntKind.wrap IntKind.i64 ((IntKind.wrap IntKind.i64 (y0 + 1)) + 1))]))) else ((false, 0, []))) else ((false, 0, []))) else ((false, 0, []))) else ((false, 0, []))) else ((false, 0, []))) else ((false, 0, []))) else ((true, y0, y2))
def R_laws_markBallS_L0 (r : (Bool × Int × (List (List Int)))) : Bool × Bool × (Ex × List V × List Ob) × (Ex × List V × List Ob) := ((r).1, false, (Ex.normal, [V.at (A.int IntKind.i64 (r).2.1)], [⟨true, OC.rows [K.f FloatKind.f32, K.f FloatKind.f32, K.f FloatKind.f32] (r).2.2⟩]), (Ex.normal, [V.at (A.int IntKind.i64 (r).2.1)], [⟨true, OC.rows [K.f FloatKind.f32, K.f FloatKind.f32, K.f FloatKind.f32] (r).2.2⟩]))
def S_laws_markBallS_L0 (F : FOps) : Sm := ⟨[0, 1, 5], [23, 3, 3], [1], fun vals hp => match vals, hp with
  | [V.at (A.sl 0), V.at (A.int IntKind.i64 y0), V.at (A.int IntKind.i64 y1)], [⟨true, OC.rows [K.f FloatKind.f32, K.f FloatKind.f32, K.f FloatKind.f32] y2⟩] => some (R_laws_markBallS_L0  (Pure.laws_markBallS_L0 F  ((Int.ofNat (List.length y2)) - y1 + 1).toNat y0 y1 y2))
  | _, _ => none⟩
theorem l_laws_markBallS_L0 (F : FOps) : ∀ (fuel : Nat) (y0 : Int) (y1 : Int) (y2 : List (List Int)), (Pure.laws_markBallS_L0 F  fuel y0 y1 y2).1 = true → loopOf (cxS F tyl [] [] [] 0) 1 37 0 [0, 1, 5] [23, 3, 3] [1] (loopB 0 (codeOf Try.f51)) fuel [V.at (A.sl 0), V.at (A.int IntKind.i64 y0), V.at (A.int IntKind.i64 y1)] [⟨true, OC.rows [K.f FloatKind.f32, K.f FloatKind.f32, K.f FloatKind.f32] y2⟩] = resOf (R_laws_markBallS_L0  (Pure.laws_markBallS_L0 F  fuel y0 y1 y2)) := by
  intro fuel
  induction fuel with
  | zero => intro y0 y1 y2 h; exact absurd h Bool.false_ne_true
  | succ n ih =>
    intro y0 y1 y2
    have h0 : roundOf (cxS F tyl [] [] [] 0) 1 37 0 [0, 1, 5] [23, 3, 3] [1] (loopB 0 (codeOf Try.f51)) [V.at (A.sl 0), V.at (A.int IntKind.i64 y0), V.at (A.int IntKind.i64 y1)] [⟨true, OC.rows [K.f FloatKind.f32, K.f FloatKind.f32, K.f FloatKind.f32] y2⟩] = (bif Decidable.decide (y1 < (Int.ofNat (List.length y2))) then bif Decidable.decide (0 ≤ y1) then bif Decidable.decide (y1 < (Int.ofNat (List.length y2))) then bif Decidable.decide (0 ≤ y1) then bif Decidable.decide (y1 < (Int.ofNat (List.length (List.set y2 (Int.toNat y1) (setFrom (List.getD y2 (Int.toNat y1) []) 0 [FOps.ofInt F FloatKind.f32 y0]))))) then bif Decidable.decide (0 ≤ y1) then bif Decidable.decide (y1 < (Int.ofNat (List.length (List.set (List.set y2 (Int.toNat y1) (setFrom (List.getD y2 (Int.toNat y1) []) 0 [FOps.ofInt F FloatKind.f32 y0])) (Int.toNat y1) (setFrom (List.getD (List.set y2 (Int.toNat y1) (setFrom (List.getD y2 (Int.toNat y1) []) 0 [FOps.ofInt F FloatKind.f32 y0])) (Int.toNat y1) []) 1 [FOps.ofInt F FloatKind.f32 (IntKind.wrap IntKind.i64 (y0 + 1))]))))) then some (true, (Ex.normal, ([V.at (A.sl 0), V.at (A.int IntKind.i64 (IntKind.wrap IntKind.i64 ((IntKind.wrap IntKind.i64 ((IntKind.wrap IntKind.i64 (y0 + 1)) + 1)) + 1))), V.at (A.int IntKind.i64 (IntKind.wrap IntKind.i64 (y1 + 1)))], [⟨true, OC.rows [K.f FloatKind.f32, K.f FloatKind.f32, K.f FloatKind.f32] (List.set (List.set (List.set y2 (Int.toNat y1) (setFrom (List.getD y2 (Int.toNat y1) []) 0 [FOps.ofInt F FloatKind.f32 y0])) (Int.toNat y1) (setFrom (List.getD (List.set y2 (Int.toNat y1) (setFrom (List.getD y2 (Int.toNat y1) []) 0 [FOps.ofInt F FloatKind.f32 y0])) (Int.toNat y1) []) 1 [FOps.ofInt F FloatKind.f32 (IntKind.wrap IntKind.i64 (y0 + 1))])) (Int.toNat y1) (setFrom (List.getD (List.set (List.set y2 (Int.toNat y1) (setFrom (List.getD y2 (Int.toNat y1) []) 0 [FOps.ofInt F FloatKind.f32 y0])) (Int.toNat y1) (setFrom (List.getD (List.set y2 (Int.toNat y1) (setFrom (List.getD y2 (Int.toNat y1) []) 0 [FOps.ofInt F FloatKind.f32 y0])) (Int.toNat y1) []) 1 [FOps.ofInt F FloatKind.f32 (IntKind.wrap IntKind.i64 (y0 + 1))])) (Int.toNat y1) []) 2 [FOps.ofInt F FloatKind.f32 (IntKind.wrap IntKind.i64 ((IntKind.wrap IntKind.i64 (y0 + 1)) + 1))]))⟩]))) else none else none else none else none else none else none else some (false, (Ex.normal, ([V.at (A.int IntKind.i64 y0)], [⟨true, OC.rows [K.f FloatKind.f32, K.f FloatKind.f32, K.f FloatKind.f32] y2⟩])))) := by kernel_rfl
    unfold loopOf
    rw [h0]
    unfold Pure.laws_markBallS_L0
    cases (Decidable.decide (y1 < (Int.ofNat (List.length y2)))) with
    | true =>
      cases (Decidable.decide (0 ≤ y1)) with
      | true =>
        cases (Decidable.decide (y1 < (Int.ofNat (List.length (List.set y2 (Int.toNat y1) (setFrom (List.getD y2 (Int.toNat y1) []) 0 [FOps.ofInt F FloatKind.f32 y0])))))) with
        | true =>
          cases (Decidable.decide (y1 < (Int.ofNat (List.length (List.set (List.set y2 (Int.toNat y1) (setFrom (List.getD y2 (Int.toNat y1) []) 0 [FOps.ofInt F FloatKind.f32 y0])) (Int.toNat y1) (setFrom (List.getD (List.set y2 (Int.toNat y1) (setFrom (List.getD y2 (Int.toNat y1) []) 0 [FOps.ofInt F FloatKind.f32 y0])) (Int.toNat y1) []) 1 [FOps.ofInt F FloatKind.f32 (IntKind.wrap IntKind.i64 (y0 + 1))])))))) with
          | true =>
            exact ih _ _ _
          | false =>
            intro h; exact absurd h Bool.false_ne_true
        | false =>
          intro h; exact absurd h Bool.false_ne_true
      | false =>
        intro h; exact absurd h Bool.false_ne_true
    | false =>
      intro _; rfl
theorem t_laws_markBallS_L0 : SmTo Try.prog 1 37 (S_laws_markBallS_L0 real) 0 (.loop (loopB 0 (codeOf Try.f51))) := by
  refine smTo_ev (cl := []) (ef := []) (sm := []) (un := 0) prog_ok allOK_nil smL_nil ?_
  intro vals hp q r h hq
  unfold S_laws_markBallS_L0 at h
  dsimp only at h
  split at h
  · rename_i y0 y1 y2
    obtain rfl := Option.some.inj h
    have h1 := hq
    unfold resOf at h1
    rw [chk_some] at h1
    exact ⟨_, (l_laws_markBallS_L0 real _ y0 y1 y2 h1.1).trans hq⟩
  · cases h
def Pure.laws_markBallS (F : FOps) (x0 : List (List Int)) (x1 : Int) : Int := Prod.fst (Prod.snd (Pure.laws_markBallS_L0 F (Nat.succ ((List.length x0) + 0)) x1 0 x0))
def Pure.laws_markBallS_1 (F : FOps) (x0 : List (List Int)) (x1 : Int) : List (List Int) := Prod.snd (Prod.snd (Pure.laws_markBallS_L0 F (Nat.succ ((List.length x0) + 0)) x1 0 x0))
def Pure.laws_markBallS_ok (F : FOps) (x0 : List (List Int)) (x1 : Int) : Bool := Prod.fst (Pure.laws_markBallS_L0 F (Nat.succ ((List.length x0) + 0)) x1 0 x0)
def c_laws_markBallS (F : FOps) : Con
  | [V.at (A.sl 0), V.at (A.int IntKind.i64 x1)], [⟨true, OC.rows [K.f FloatKind.f32, K.f FloatKind.f32, K.f FloatKind.f32] x0⟩] => some (Pure.laws_markBallS_ok F x0 x1, ⟨V.at (A.int IntKind.i64 (Pure.laws_markBallS F x0 x1)), some [⟨true, OC.rows [K.f FloatKind.f32, K.f FloatKind.f32, K.f FloatKind.f32] (Pure.laws_markBallS_1 F x0 x1)⟩], []⟩)
  | _, _ => none
theorem e_laws_markBallS (F : FOps) (x0 : List (List Int)) (x1 : Int) : Pure.laws_markBallS_ok F x0 x1 = true → evFn (cxS F tyl [] [] [(0, S_laws_markBallS_L0 F)] 0) Try.f51 true [V.at (A.sl 0), V.at (A.int IntKind.i64 x1)] [⟨true, OC.rows [K.f FloatKind.f32, K.f FloatKind.f32, K.f FloatKind.f32] x0⟩] = some ⟨V.at (A.int IntKind.i64 (Pure.laws_markBallS F x0 x1)), some [⟨true, OC.rows [K.f FloatKind.f32, K.f FloatKind.f32, K.f FloatKind.f32] (Pure.laws_markBallS_1 F x0 x1)⟩], []⟩ := by
  have h0 : evFn (cxS F tyl [] [] [(0, S_laws_markBallS_L0 F)] 0) Try.f51 true [V.at (A.sl 0), V.at (A.int IntKind.i64 x1)] [⟨true, OC.rows [K.f FloatKind.f32, K.f FloatKind.f32, K.f FloatKind.f32] x0⟩] = bif Prod.fst (Pure.laws_markBallS_L0 F (Nat.succ ((List.length x0) + 0)) x1 0 x0) then some ⟨V.at (A.int IntKind.i64 (Prod.fst (Prod.snd (Pure.laws_markBallS_L0 F (Nat.succ ((List.length x0) + 0)) x1 0 x0)))), some [⟨true, OC.rows [K.f FloatKind.f32, K.f FloatKind.f32, K.f FloatKind.f32] (Prod.snd (Prod.snd (Pure.laws_markBallS_L0 F (Nat.succ ((List.length x0) + 0)) x1 0 x0)))⟩], []⟩ else none := by kernel_rfl
  rw [h0]
  unfold Pure.laws_markBallS Pure.laws_markBallS_1 Pure.laws_markBallS_ok
  cases (Prod.fst (Pure.laws_markBallS_L0 F (Nat.succ ((List.length x0) + 0)) x1 0 x0)) with
  | true =>
    intro _; rfl
  | false =>
    intro h; exact absurd h Bool.false_ne_true
theorem ok_laws_markBallS : CallOK Try.prog 51 (c_laws_markBallS real) := by
  refine callOK_of fun args h ret hc => ?_
  unfold c_laws_markBallS at hc
  split at hc
  · rename_i x1 x0
    obtain ⟨hok, rfl⟩ := some_ret hc
    exact holdsE_ev prog_ok allOK_nil Try.func51 rfl rfl (smL_cons (body := .loop (loopB 0 (codeOf Try.f51))) (by kernel_rfl) t_laws_markBallS_L0 smL_nil) (e_laws_markBallS real x0 x1 hok)
  · cases hc
def Pure.laws_markRow_ok (F : FOps) (x0 : List (List Int)) (x1 : Int) (x2 : Int) : Bool := Pure.laws_markBallS_ok F x0 x2
def c_laws_markRow (F : FOps) : Con
  | [V.agg [A.sl 0, A.fl FloatKind.f32 x1], V.at (A.int IntKind.i64 x2)], [⟨true, OC.rows [K.f FloatKind.f32, K.f FloatKind.f32, K.f FloatKind.f32] x0⟩] => some (Pure.laws_markRow_ok F x0 x1 x2, ⟨V.at (A.int IntKind.i64 (Pure.laws_markBallS F x0 x2)), some [⟨true, OC.rows [K.f FloatKind.f32, K.f FloatKind.f32, K.f FloatKind.f32] (Pure.laws_markBallS_1 F x0 x2)⟩], []⟩)
  | _, _ => none
theorem e_laws_markRow (F : FOps) (x0 : List (List Int)) (x1 : Int) (x2 : Int) : Pure.laws_markRow_ok F x0 x1 x2 = true → evFn (cxS F tyl [(51, c_laws_markBallS F)] [51] [] 0) Try.f17 true [V.agg [A.sl 0, A.fl FloatKind.f32 x1], V.at (A.int IntKind.i64 x2)] [⟨true, OC.rows [K.f FloatKind.f32, K.f FloatKind.f32, K.f FloatKind.f32] x0⟩] = some ⟨V.at (A.int IntKind.i64 (Pure.laws_markBallS F x0 x2)), some [⟨true, OC.rows [K.f FloatKind.f32, K.f FloatKind.f32, K.f FloatKind.f32] (Pure.laws_markBallS_1 F x0 x2)⟩], []⟩ := by
  have h0 : evFn (cxS F tyl [(51, c_laws_markBallS F)] [51] [] 0) Try.f17 true [V.agg [A.sl 0, A.fl FloatKind.f32 x1], V.at (A.int IntKind.i64 x2)] [⟨true, OC.rows [K.f FloatKind.f32, K.f FloatKind.f32, K.f FloatKind.f32] x0⟩] = bif Pure.laws_markBallS_ok F x0 x2 then some ⟨V.at (A.int IntKind.i64 (Pure.laws_markBallS F x0 x2)), some [⟨true, OC.rows [K.f FloatKind.f32, K.f FloatKind.f32, K.f FloatKind.f32] (Pure.laws_markBallS_1 F x0 x2)⟩], []⟩ else none := by kernel_rfl
  rw [h0]
  unfold Pure.laws_markRow_ok
  cases (Pure.laws_markBallS_ok F x0 x2) with
  | true =>
    intro _; rfl
  | false =>
    intro h; exact absurd h Bool.false_ne_true
theorem ok_laws_markRow : CallOK Try.prog 17 (c_laws_markRow real) := by
  refine callOK_of fun args h ret hc => ?_
  unfold c_laws_markRow at hc
  split at hc
  · rename_i x1 x2 x0
    obtain ⟨hok, rfl⟩ := some_ret hc
    exact holdsE_ev prog_ok (allOK_cons ok_laws_markBallS allOK_nil) Try.func17 rfl rfl smL_nil (e_laws_markRow real x0 x1 x2 hok)
  · cases hc
def Pure.laws_markFloat32S_L0 (F : FOps) : Nat → Int → Int → (List (List Int)) → (Bool × Int × (List (List Int)))
  | 0, _, _, _ => (false, 0, [])
  | n + 1, y0, y1, y2 => bif (Decidable.decide (y1 < (Int.ofNat (List.length y2)))) then (bif (Decidable.decide (0 ≤ y1)) then (bif (Decidable.decide (y1 < (Int.ofNat (List.length y2)))) then (Pure.laws_markFloat32S_L0 F  n (IntKind.wrap IntKind.i64 (y0 + 1)) (IntKind.wrap IntKind.i64 (y1 + 1)) (List.set y2 (Int.toNat y1) [FOps.ofInt F FloatKind.f32 y0])) else ((false, 0, []))) else ((false, 0, []))) else ((true, y0, y2))
def R_laws_markFloat32S_L0 (r : (Bool × Int × (List (List Int)))) : Bool × Bool × (Ex × List V × List Ob) × (Ex × List V × List Ob) := ((r).1, false, (Ex.normal, [V.at (A.int IntKind.i64 (r).2.1)], [⟨true, OC.rows [K.f FloatKind.f32] (r).2.2⟩]), (Ex.normal, [V.at (A.int IntKind.i64 (r).2.1)], [⟨true, OC.rows [K.f FloatKind.f32] (r).2.2⟩]))
def S_laws_markFloat32S_L0 (F : FOps) : Sm := ⟨[0, 1, 5], [41, 3, 3], [1], fun vals hp => match vals, hp with
  | [V.at (A.sl 0), V.at (A.int IntKind.i64 y0), V.at (A.int IntKind.i64 y1)], [⟨true, OC.rows [K.f FloatKind.f32] y2⟩] => some (R_laws_markFloat32S_L0  (Pure.laws_markFloat32S_L0 F  ((Int.ofNat (List.length y2)) - y1 + 1).toNat y0 y1 y2))
  | _, _ => none⟩
theorem l_laws_markFloat32S_L0 (F : FOps) : ∀ (fuel : Nat) (y0 : Int) (y1 : Int) (y2 : List (List Int)), (Pure.laws_markFloat32S_L0 F  fuel y0 y1 y2).1 = true → loopOf (cxS F tyl [] [] [] 0) 1 20 0 [0, 1, 5] [41, 3, 3] [1] (loopB 0 (codeOf Try.f31)) fuel [V.at (A.sl 0), V.at (A.int IntKind.i64 y0), V.at (A.int IntKind.i64 y1)] [⟨true, OC.rows [K.f FloatKind.f32] y2⟩] = resOf (R_laws_markFloat32S_L0  (Pure.laws_markFloat32S_L0 F  fuel y0 y1 y2)) := by
  intro fuel
  induction fuel with
  | zero => intro y0 y1 y2 h; exact absurd h Bool.false_ne_true
  | succ n ih =>
    intro y0 y1 y2
    have h0 : roundOf (cxS F tyl [] [] [] 0) 1 20 0 [0, 1, 5] [41, 3, 3] [1] (loopB 0 (codeOf Try.f31)) [V.at (A.sl 0), V.at (A.int IntKind.i64 y0), V.at (A.int IntKind.i64 y1)] [⟨true, OC.rows [K.f FloatKind.f32] y2⟩] = (bif Decidable.decide (y1 < (Int.ofNat (List.length y2))) then bif Decidable.decide (0 ≤ y1) then bif Decidable.decide (y1 < (Int.ofNat (List.length y2))) then some (true, (Ex.normal, ([V.at (A.sl 0), V.at (A.int IntKind.i64 (IntKind.wrap IntKind.i64 (y0 + 1))), V.at (A.int IntKind.i64 (IntKind.wrap IntKind.i64 (y1 + 1)))], [⟨true, OC.rows [K.f FloatKind.f32] (List.set y2 (Int.toNat y1) [FOps.ofInt F FloatKind.f32 y0])⟩]))) else none else none else some (false, (Ex.normal, ([V.at (A.int IntKind.i64 y0)], [⟨true, OC.rows [K.f FloatKind.f32] y2⟩])))) := by kernel_rfl
    unfold loopOf
    rw [h0]
    unfold Pure.laws_markFloat32S_L0
    cases (Decidable.decide (y1 < (Int.ofNat (List.length y2)))) with
    | true =>
      cases (Decidable.decide (0 ≤ y1)) with
      | true =>
        exact ih _ _ _
      | false =>
        intro h; exact absurd h Bool.false_ne_true
    | false =>
      intro _; rfl
theorem t_laws_markFloat32S_L0 : SmTo Try.prog 1 20 (S_laws_markFloat32S_L0 real) 0 (.loop (loopB 0 (codeOf Try.f31))) := by
  refine smTo_ev (cl := []) (ef := []) (sm := []) (un := 0) prog_ok allOK_nil smL_nil ?_
  intro vals hp q r h hq
  unfold S_laws_markFloat32S_L0 at h
  dsimp only at h
  split at h
  · rename_i y0 y1 y2
    obtain rfl := Option.some.inj h
    have h1 := hq
    unfold resOf at h1
    rw [chk_some] at h1
    exact ⟨_, (l_laws_markFloat32S_L0 real _ y0 y1 y2 h1.1).trans hq⟩
  · cases h
def Pure.laws_markFloat32S (F : FOps) (x0 : List (List Int)) (x1 : Int) : Int := Prod.fst (Prod.snd (Pure.laws_markFloat32S_L0 F (Nat.succ ((List.length x0) + 0)) x1 0 x0))
def Pure.laws_markFloat32S_1 (F : FOps) (x0 : List (List Int)) (x1 : Int) : List (List Int) := Prod.snd (Prod.snd (Pure.laws_markFloat32S_L0 F (Nat.succ ((List.length x0) + 0)) x1 0 x0))
def Pure.laws_markFloat32S_ok (F : FOps) (x0 : List (List Int)) (x1 : Int) : Bool := Prod.fst (Pure.laws_markFloat32S_L0 F (Nat.succ ((List.length x0) + 0)) x1 0 x0)
def c_laws_markFloat32S (F : FOps) : Con
  | [V.at (A.sl 0), V.at (A.int IntKind.i64 x1)], [⟨true, OC.rows [K.f FloatKind.f32] x0⟩] => some (Pure.laws_markFloat32S_ok F x0 x1, ⟨V.at (A.int IntKind.i64 (Pure.laws_markFloat32S F x0 x1)), some [⟨true, OC.rows [K.f FloatKind.f32] (Pure.laws_markFloat32S_1 F x0 x1)⟩], []⟩)
  | _, _ => none
theorem e_laws_markFloat32S (F : FOps) (x0 : List (List Int)) (x1 : Int) : Pure.laws_markFloat32S_ok F x0 x1 = true → evFn (cxS F tyl [] [] [(0, S_laws_markFloat32S_L0 F)] 0) Try.f31 true [V.at (A.sl 0), V.at (A.int IntKind.i64 x1)] [⟨true, OC.rows [K.f FloatKind.f32] x0⟩] = some ⟨V.at (A.int IntKind.i64 (Pure.laws_markFloat32S F x0 x1)), some [⟨true, OC.rows [K.f FloatKind.f32] (Pure.laws_markFloat32S_1 F x0 x1)⟩], []⟩ := by
  have h0 : evFn (cxS F tyl [] [] [(0, S_laws_markFloat32S_L0 F)] 0) Try.f31 true [V.at (A.sl 0), V.at (A.int IntKind.i64 x1)] [⟨true, OC.rows [K.f FloatKind.f32] x0⟩] = bif Prod.fst (Pure.laws_markFloat32S_L0 F (Nat.succ ((List.length x0) + 0)) x1 0 x0) then some ⟨V.at (A.int IntKind.i64 (Prod.fst (Prod.snd (Pure.laws_markFloat32S_L0 F (Nat.succ ((List.length x0) + 0)) x1 0 x0)))), some [⟨true, OC.rows [K.f FloatKind.f32] (Prod.snd (Prod.snd (Pure.laws_markFloat32S_L0 F (Nat.succ ((List.length x0) + 0)) x1 0 x0)))⟩], []⟩ else none := by kernel_rfl
  rw [h0]
  unfold Pure.laws_markFloat32S Pure.laws_markFloat32S_1 Pure.laws_markFloat32S_ok
  cases (Prod.fst (Pure.laws_markFloat32S_L0 F (Nat.succ ((List.length x0) + 0)) x1 0 x0)) with
  | true =>
    intro _; rfl
  | false =>
    intro h; exact absurd h Bool.false_ne_true
theorem ok_laws_markFloat32S : CallOK Try.prog 31 (c_laws_markFloat32S real) := by
  refine callOK_of fun args h ret hc => ?_
  unfold c_laws_markFloat32S at hc
  split at hc
  · rename_i x1 x0
    obtain ⟨hok, rfl⟩ := some_ret hc
    exact holdsE_ev prog_ok allOK_nil Try.func31 rfl rfl (smL_cons (body := .loop (loopB 0 (codeOf Try.f31))) (by kernel_rfl) t_laws_markFloat32S_L0 smL_nil) (e_laws_markFloat32S real x0 x1 hok)
  · cases hc
def Pure.laws_heldFloat32S_L0 (F : FOps) (y2 : List (List Int)) : Nat → Int → Int → (Bool × Bool × Int × Int)
  | 0, _, _ => (false, false, 0, 0)
  | n + 1, y0, y1 => bif (Decidable.decide (y1 < (Int.ofNat (List.length y2)))) then (bif (Decidable.decide (0 ≤ y1)) then (bif (Decidable.decide (y1 < (Int.ofNat (List.length y2)))) then (bif (FOps.cmp F BinOp.neq FloatKind.f32 (List.getD (List.getD y2 (Int.toNat y1) []) 0 0) (FOps.ofInt F FloatKind.f32 y0)) then ((true, true, 0, y0)) else (Pure.laws_heldFloat32S_L0 F y2 n (IntKind.wrap IntKind.i64 (y0 + 1)) (IntKind.wrap IntKind.i64 (y1 + 1)))) else ((false, false, 0, 0))) else ((false, false, 0, 0))) else ((true, false, y0, 0))
def R_laws_heldFloat32S_L0 (y2 : List (List Int)) (r : (Bool × Bool × Int × Int)) : Bool × Bool × (Ex × List V × List Ob) × (Ex × List V × List Ob) := ((r).1, (r).2.1, (Ex.normal, [V.at (A.int IntKind.i64 (r).2.2.1), V.at A.undef], [⟨false, OC.rows [K.f FloatKind.f32] y2⟩]), (Ex.ret, [V.at (A.int IntKind.i64 (r).2.2.2), V.at (A.int IntKind.i64 (-1))], [⟨false, OC.rows [K.f FloatKind.f32] y2⟩]))
def S_laws_heldFloat32S_L0 (F : FOps) : Sm := ⟨[0, 1, 5], [41, 3, 3], [1, 4], fun vals hp => match vals, hp with
  | [V.at (A.sl 0), V.at (A.int IntKind.i64 y0), V.at (A.int IntKind.i64 y1)], [⟨false, OC.rows [K.f FloatKind.f32] y2⟩] => some (R_laws_heldFloat32S_L0 y2 (Pure.laws_heldFloat32S_L0 F y2 ((Int.ofNat (List.length y2)) - y1 + 1).toNat y0 y1))
  | _, _ => none⟩
theorem l_laws_heldFloat32S_L0 (F : FOps) (y2 : List (List Int)) : ∀ (fuel : Nat) (y0 : Int) (y1 : Int), (Pure.laws_heldFloat32S_L0 F y2 fuel y0 y1).1 = true → loopOf (cxS F tyl [] [] [] 0) 1 22 0 [0, 1, 5] [41, 3, 3] [1, 4] (loopB 0 (codeOf Try.f32)) fuel [V.at (A.sl 0), V.at (A.int IntKind.i64 y0), V.at (A.int IntKind.i64 y1)] [⟨false, OC.rows [K.f FloatKind.f32] y2⟩] = resOf (R_laws_heldFloat32S_L0 y2 (Pure.laws_heldFloat32S_L0 F y2 fuel y0 y1)) := by
  intro fuel
  induction fuel with
  | zero => intro y0 y1 h; exact absurd h Bool.false_ne_true
  | succ n ih =>
    intro y0 y1
    have h0 : roundOf (cxS F tyl [] [] [] 0) 1 22 0 [0, 1, 5] [41, 3, 3] [1, 4] (loopB 0 (codeOf Try.f32)) [V.at (A.sl 0), V.at (A.int IntKind.i64 y0), V.at (A.int IntKind.i64 y1)] [⟨false, OC.rows [K.f FloatKind.f32] y2⟩] = (bif Decidable.decide (y1 < (Int.ofNat (List.length y2))) then bif Decidable.decide (0 ≤ y1) then bif Decidable.decide (y1 < (Int.ofNat (List.length y2))) then bif FOps.cmp F BinOp.neq FloatKind.f32 (List.getD (List.getD y2 (Int.toNat y1) []) 0 0) (FOps.ofInt F FloatKind.f32 y0) then some (false, (Ex.ret, ([V.at (A.int IntKind.i64 y0), V.at (A.int IntKind.i64 (-1))], [⟨false, OC.rows [K.f FloatKind.f32] y2⟩]))) else some (true, (Ex.normal, ([V.at (A.sl 0), V.at (A.int IntKind.i64 (IntKind.wrap IntKind.i64 (y0 + 1))), V.at (A.int IntKind.i64 (IntKind.wrap IntKind.i64 (y1 + 1)))], [⟨false, OC.rows [K.f FloatKind.f32] y2⟩]))) else none else none else some (false, (Ex.normal, ([V.at (A.int IntKind.i64 y0), V.at A.undef], [⟨false, OC.rows [K.f FloatKind.f32] y2⟩])))) := by kernel_rfl
    unfold loopOf
    rw [h0]
    unfold Pure.laws_heldFloat32S_L0
    cases (Decidable.decide (y1 < (Int.ofNat (List.length y2)))) with
    | true =>
      cases (Decidable.decide (0 ≤ y1)) with
      | true =>
        cases (FOps.cmp F BinOp.neq FloatKind.f32 (List.getD (List.getD y2 (Int.toNat y1) []) 0 0) (FOps.ofInt F FloatKind.f32 y0)) with
        | true =>
          intro _; rfl
        | false =>
          exact ih _ _
      | false =>
        intro h; exact absurd h Bool.false_ne_true
    | false =>
      intro _; rfl
theorem t_laws_heldFloat32S_L0 : SmTo Try.prog 1 22 (S_laws_heldFloat32S_L0 real) 0 (.loop (loopB 0 (codeOf Try.f32))) := by
  refine smTo_ev (cl := []) (ef := []) (sm := []) (un := 0) prog_ok allOK_nil smL_nil ?_
  intro vals hp q r h hq
  unfold S_laws_heldFloat32S_L0 at h
  dsimp only at h
  split at h
  · rename_i y0 y1 y2
    obtain rfl := Option.some.inj h
    have h1 := hq
    unfold resOf at h1
    rw [chk_some] at h1
    exact ⟨_, (l_laws_heldFloat32S_L0 real y2 _ y0 y1 h1.1).trans hq⟩
  · cases h
def Pure.laws_heldFloat32S (F : FOps) (x0 : List (List Int)) (x1 : Int) : Int := bif Prod.fst (Prod.snd (Pure.laws_heldFloat32S_L0 F x0 (Nat.succ ((List.length x0) + 0)) x1 0)) then (-1) else Prod.fst (Prod.snd (Prod.snd (Pure.laws_heldFloat32S_L0 F x0 (Nat.succ ((List.length x0) + 0)) x1 0)))
def Pure.laws_heldFloat32S_ok (F : FOps) (x0 : List (List Int)) (x1 : Int) : Bool := Prod.fst (Pure.laws_heldFloat32S_L0 F x0 (Nat.succ ((List.length x0) + 0)) x1 0)
def c_laws_heldFloat32S (F : FOps) : Con
  | [V.at (A.sl 0), V.at (A.int IntKind.i64 x1)], [⟨false, OC.rows [K.f FloatKind.f32] x0⟩] => some (Pure.laws_heldFloat32S_ok F x0 x1, ⟨V.at (A.int IntKind.i64 (Pure.laws_heldFloat32S F x0 x1)), none, []⟩)
  | _, _ => none
theorem e_laws_heldFloat32S (F : FOps) (x0 : List (List Int)) (x1 : Int) : Pure.laws_heldFloat32S_ok F x0 x1 = true → evFn (cxS F tyl [] [] [(0, S_laws_heldFloat32S_L0 F)] 0) Try.f32 false [V.at (A.sl 0), V.at (A.int IntKind.i64 x1)] [⟨false, OC.rows [K.f FloatKind.f32] x0⟩] = some ⟨V.at (A.int IntKind.i64 (Pure.laws_heldFloat32S F x0 x1)), none, []⟩ := by
  have h0 : evFn (cxS F tyl [] [] [(0, S_laws_heldFloat32S_L0 F)] 0) Try.f32 false [V.at (A.sl 0), V.at (A.int IntKind.i64 x1)] [⟨false, OC.rows [K.f FloatKind.f32] x0⟩] = bif Prod.fst (Pure.laws_heldFloat32S_L0 F x0 (Nat.succ ((List.length x0) + 0)) x1 0) then bif Prod.fst (Prod.snd (Pure.laws_heldFloat32S_L0 F x0 (Nat.succ ((List.length x0) + 0)) x1 0)) then some ⟨V.at (A.int IntKind.i64 (-1)), none, []⟩ else some ⟨V.at (A.int IntKind.i64 (Prod.fst (Prod.snd (Prod.snd (Pure.laws_heldFloat32S_L0 F x0 (Nat.succ ((List.length x0) + 0)) x1 0))))), none, []⟩ else none := by kernel_rfl
  rw [h0]
  unfold Pure.laws_heldFloat32S Pure.laws_heldFloat32S_ok
  cases (Prod.fst (Pure.laws_heldFloat32S_L0 F x0 (Nat.succ ((List.length x0) + 0)) x1 0)) with
  | true =>
    cases (Prod.fst (Prod.snd (Pure.laws_heldFloat32S_L0 F x0 (Nat.succ ((List.length x0) + 0)) x1 0))) with
    | true =>
      intro _; rfl
    | false =>
      intro _; rfl
  | false =>
    intro h; exact absurd h Bool.false_ne_true
theorem ok_laws_heldFloat32S : CallOK Try.prog 32 (c_laws_heldFloat32S real) := by
  refine callOK_of fun args h ret hc => ?_
  unfold c_laws_heldFloat32S at hc
  split at hc
  · rename_i x1 x0
    obtain ⟨hok, rfl⟩ := some_ret hc
    exact holds_ev prog_ok allOK_nil Try.func32 rfl rfl (smL_cons (body := .loop (loopB 0 (codeOf Try.f32))) (by kernel_rfl) t_laws_heldFloat32S_L0 smL_nil) rfl (e_laws_heldFloat32S real x0 x1 hok)
  · cases hc
def Pure.laws_FnExactSpeedsOfRow (F : FOps) (x0 : List (List Int)) (x1 : Int) : Bool := bif Decidable.decide ((Pure.laws_szRow F x0 x1 1048576) < 0) then true else bif Pure.laws_eqFloat32S F (Pure.impl_SpeedsOfRow F (Pure.laws_toBallS F x0) x1) (Pure.spec_SpeedsOfRow F (Pure.laws_toBallS F x0) x1) then bif (Pure.impl_ValidRow F (Pure.laws_toBallS F x0) x1) == (Pure.spec_l06Is F (Pure.laws_toBallS F x0) x1) then bif Pure.laws_eqRow F (Pure.laws_toBallS F x0) x1 (Pure.laws_toBallS F x0) x1 then bif Decidable.decide ((Pure.laws_markBallS F (Pure.laws_toBallS F x0) 1) < 0) then false else bif Decidable.decide ((Pure.laws_heldFloat32S F (Pure.laws_markFloat32S_1 F (Pure.impl_SpeedsOfRow F (Pure.laws_toBallS F x0) x1) 1) 1) < 0) then false else bif (Pure.laws_heldFloat32S F (Pure.laws_markFloat32S_1 F (Pure.impl_SpeedsOfRow F (Pure.laws_toBallS F x0) x1) 1) 1) != (Pure.laws_markFloat32S F (Pure.impl_SpeedsOfRow F (Pure.laws_toBallS F x0) x1) 1) then false else true else false else false else false
def Pure.laws_FnExactSpeedsOfRow_ok (F : FOps) (x0 : List (List Int)) (x1 : Int) : Bool := bif Decidable.decide ((Pure.laws_szRow F x0 x1 1048576) < 0) then true else bif Pure.laws_toRow_ok F x0 x1 then bif Pure.spec_SpeedsOfRow_ok F (Pure.laws_toBallS F x0) x1 then bif Pure.impl_SpeedsOfRow_ok F (Pure.laws_toBallS F x0) x1 then bif Pure.laws_eqFloat32S_ok F (Pure.impl_SpeedsOfRow F (Pure.laws_toBallS F x0) x1) (Pure.spec_SpeedsOfRow F (Pure.laws_toBallS F x0) x1) then bif Pure.laws_eqFloat32S F (Pure.impl_SpeedsOfRow F (Pure.laws_toBallS F x0) x1) (Pure.spec_SpeedsOfRow F (Pure.laws_toBallS F x0) x1) then bif (Pure.impl_ValidRow F (Pure.laws_toBallS F x0) x1) == (Pure.spec_l06Is F (Pure.laws_toBallS F x0) x1) then bif Pure.laws_eqRow_ok F (Pure.laws_toBallS F x0) x1 (Pure.laws_toBallS F x0) x1 then bif Pure.laws_eqRow F (Pure.laws_toBallS F x0) x1 (Pure.laws_toBallS F x0) x1 then bif Pure.laws_markRow_ok F (Pure.laws_toBallS F x0) x1 1 then bif Decidable.decide ((Pure.laws_markBallS F (Pure.laws_toBallS F x0) 1) < 0) then true else bif Pure.laws_markFloat32S_ok F (Pure.impl_SpeedsOfRow F (Pure.laws_toBallS F x0) x1) 1 then Pure.laws_heldFloat32S_ok F (Pure.laws_markFloat32S_1 F (Pure.impl_SpeedsOfRow F (Pure.laws_toBallS F x0) x1) 1) 1 else false else false else true else false else true else true else false else false else false else false
def c_laws_FnExactSpeedsOfRow (F : FOps) : Con
  | [V.agg [A.sl 0, A.fl FloatKind.f32 x1]], [⟨false, OC.rows [K.f FloatKind.f32, K.f FloatKind.f32, K.f FloatKind.f32] x0⟩] => some (Pure.laws_FnExactSpeedsOfRow_ok F x0 x1, ⟨V.at (A.bool (Pure.laws_FnExactSpeedsOfRow F x0 x1)), none, []⟩)
  | _, _ => none
theorem e_laws_FnExactSpeedsOfRow (F : FOps) (x0 : List (List Int)) (x1 : Int) : Pure.laws_FnExactSpeedsOfRow_ok F x0 x1 = true → evFn (cxS F tyl [(19, c_laws_szRow F), (21, c_laws_toRow F), (28, c_spec_SpeedsOfRow F), (29, c_impl_SpeedsOfRow F), (30, c_laws_eqFloat32S F), (16, c_laws_eqRow F), (17, c_laws_markRow F), (31, c_laws_markFloat32S F), (32, c_laws_heldFloat32S F)] [17, 31] [] 0) Try.f7 false [V.agg [A.sl 0, A.fl FloatKind.f32 x1]] [⟨false, OC.rows [K.f FloatKind.f32, K.f FloatKind.f32, K.f FloatKind.f32] x0⟩] = some ⟨V.at (A.bool (Pure.laws_FnExactSpeedsOfRow F x0 x1)), none, []⟩ := by
  have h0 : evFn (cxS F tyl [(19, c_laws_szRow F), (21, c_laws_toRow F), (28, c_spec_SpeedsOfRow F), (29, c_impl_SpeedsOfRow F), (30, c_laws_eqFloat32S F), (16, c_laws_eqRow F), (17, c_laws_markRow F), (31, c_laws_markFloat32S F), (32, c_laws_heldFloat32S F)] [17, 31] [] 0) Try.f7 false [V.agg [A.sl 0, A.fl FloatKind.f32 x1]] [⟨false, OC.rows [K.f FloatKind.f32, K.f FloatKind.f32, K.f FloatKind.f32] x0⟩] = bif Decidable.decide ((Pure.laws_szRow F x0 x1 1048576) < 0) then some ⟨V.at (A.bool true), none, []⟩ else bif Pure.laws_toRow_ok F x0 x1 then bif Pure.spec_SpeedsOfRow_ok F (Pure.laws_toBallS F x0) x1 then bif Pure.laws_toRow_ok F x0 x1 then bif Pure.impl_SpeedsOfRow_ok F (Pure.laws_toBallS F x0) x1 then bif Pure.laws_eqFloat32S_ok F (Pure.impl_SpeedsOfRow F (Pure.laws_toBallS F x0) x1) (Pure.spec_SpeedsOfRow F (Pure.laws_toBallS F x0) x1) then bif Bool.not (Pure.laws_eqFloat32S F (Pure.impl_SpeedsOfRow F (Pure.laws_toBallS F x0) x1) (Pure.spec_SpeedsOfRow F (Pure.laws_toBallS F x0) x1)) then some ⟨V.at (A.bool false), none, []⟩ else bif Bool.not ((Pure.impl_ValidRow F (Pure.laws_toBallS F x0) x1) == (Pure.spec_l06Is F (Pure.laws_toBallS F x0) x1)) then some ⟨V.at (A.bool false), none, []⟩ else bif Pure.laws_toRow_ok F x0 x1 then bif Pure.laws_eqRow_ok F (Pure.laws_toBallS F x0) x1 (Pure.laws_toBallS F x0) x1 then bif Bool.not (Pure.laws_eqRow F (Pure.laws_toBallS F x0) x1 (Pure.laws_toBallS F x0) x1) then some ⟨V.at (A.bool false), none, []⟩ else bif Pure.laws_markRow_ok F (Pure.laws_toBallS F x0) x1 1 then bif Decidable.decide ((Pure.laws_markBallS F (Pure.laws_toBallS F x0) 1) < 0) then some ⟨V.at (A.bool false), none, []⟩ else bif Pure.laws_eqFloat32S_ok F (Pure.impl_SpeedsOfRow F (Pure.laws_toBallS F x0) x1) (Pure.spec_SpeedsOfRow F (Pure.laws_toBallS F x0) x1) then bif Bool.not (Pure.laws_eqFloat32S F (Pure.impl_SpeedsOfRow F (Pure.laws_toBallS F x0) x1) (Pure.spec_SpeedsOfRow F (Pure.laws_toBallS F x0) x1)) then some ⟨V.at (A.bool false), none, []⟩ else bif Bool.not ((Pure.impl_ValidRow F (Pure.laws_toBallS F x0) x1) == (Pure.spec_l06Is F (Pure.laws_toBallS F x0) x1)) then some ⟨V.at (A.bool false), none, []⟩ else bif Pure.laws_markFloat32S_ok F (Pure.impl_SpeedsOfRow F (Pure.laws_toBallS F x0) x1) 1 then bif Pure.laws_heldFloat32S_ok F (Pure.laws_markFloat32S_1 F (Pure.impl_SpeedsOfRow F (Pure.laws_toBallS F x0) x1) 1) 1 then bif Decidable.decide ((Pure.laws_heldFloat32S F (Pure.laws_markFloat32S_1 F (Pure.impl_SpeedsOfRow F (Pure.laws_toBallS F x0) x1) 1) 1) < 0) then some ⟨V.at (A.bool false), none, []⟩ else bif (Pure.laws_heldFloat32S F (Pure.laws_markFloat32S_1 F (Pure.impl_SpeedsOfRow F (Pure.laws_toBallS F x0) x1) 1) 1) != (Pure.laws_markFloat32S F (Pure.impl_SpeedsOfRow F (Pure.laws_toBallS F x0) x1) 1) then some ⟨V.at (A.bool false), none, []⟩ else bif Pure.laws_toRow_ok F x0 x1 then bif Pure.impl_SpeedsOfRow_ok F (Pure.laws_toBallS F x0) x1 then bif Pure.laws_eqFloat32S_ok F (Pure.impl_SpeedsOfRow F (Pure.laws_toBallS F x0) x1) (Pure.spec_SpeedsOfRow F (Pure.laws_toBallS F x0) x1) then bif Bool.not (Pure.laws_eqFloat32S F (Pure.impl_SpeedsOfRow F (Pure.laws_toBallS F x0) x1) (Pure.spec_SpeedsOfRow F (Pure.laws_toBallS F x0) x1)) then some ⟨V.at (A.bool false), none, []⟩ else bif Bool.not ((Pure.impl_ValidRow F (Pure.laws_toBallS F x0) x1) == (Pure.spec_l06Is F (Pure.laws_toBallS F x0) x1)) then some ⟨V.at (A.bool false), none, []⟩ else bif Pure.laws_heldFloat32S_ok F (Pure.laws_markFloat32S_1 F (Pure.impl_SpeedsOfRow F (Pure.laws_toBallS F x0) x1) 1) 1 then bif Decidable.decide ((Pure.laws_heldFloat32S F (Pure.laws_markFloat32S_1 F (Pure.impl_SpeedsOfRow F (Pure.laws_toBallS F x0) x1) 1) 1) < 0) then some ⟨V.at (A.bool false), none, []⟩ else bif (Pure.laws_heldFloat32S F (Pure.laws_markFloat32S_1 F (Pure.impl_SpeedsOfRow F (Pure.laws_toBallS F x0) x1) 1) 1) != (Pure.laws_markFloat32S F (Pure.impl_SpeedsOfRow F (Pure.laws_toBallS F x0) x1) 1) then some ⟨V.at (A.bool false), none, []⟩ else some ⟨V.at (A.bool true), none, []⟩ else none else none else none else none else none else none else none else none else none else none else none else none else none else none else none := by kernel_rfl
  rw [h0]
  unfold Pure.laws_FnExactSpeedsOfRow Pure.laws_FnExactSpeedsOfRow_ok
  cases (Decidable.decide ((Pure.laws_szRow F x0 x1 1048576) < 0)) with
  | true =>
    intro _; rfl
  | false =>
    cases (Pure.laws_toRow_ok F x0 x1) with
    | true =>
      cases (Pure.spec_SpeedsOfRow_ok F (Pure.laws_toBallS F x0) x1) with
      | true =>
        cases (Pure.impl_SpeedsOfRow_ok F (Pure.laws_toBallS F x0) x1) with
        | true =>
          cases (Pure.laws_eqFloat32S_ok F (Pure.impl_SpeedsOfRow F (Pure.laws_toBallS F x0) x1) (Pure.spec_SpeedsOfRow F (Pure.laws_toBallS F x0) x1)) with
          | true =>
            cases (Pure.laws_eqFloat32S F (Pure.impl_SpeedsOfRow F (Pure.laws_toBallS F x0) x1) (Pure.spec_SpeedsOfRow F (Pure.laws_toBallS F x0) x1)) with
            | true =>
              cases ((Pure.impl_ValidRow F (Pure.laws_toBallS F x0) x1) == (Pure.spec_l06Is F (Pure.laws_toBallS F x0) x1)) with
              | true =>
                cases (Pure.laws_eqRow_ok F (Pure.laws_toBallS F x0) x1 (Pure.laws_toBallS F x0) x1) with
                | true =>
                  cases (Pure.laws_eqRow F (Pure.laws_toBallS F x0) x1 (Pure.laws_toBallS F x0) x1) with
                  | true =>
                    cases (Pure.laws_markRow_ok F (Pure.laws_toBallS F x0) x1 1) with
                    | true =>
                      cases (Decidable.decide ((Pure.laws_markBallS F (Pure.laws_toBallS F x0) 1) < 0)) with
                      | true =>
                        intro _; rfl
                      | false =>
                        cases (Pure.laws_markFloat32S_ok F (Pure.impl_SpeedsOfRow F (Pure.laws_toBallS F x0) x1) 1) with
                        | true =>
                          cases (Pure.laws_heldFloat32S_ok F (Pure.laws_markFloat32S_1 F (Pure.impl_SpeedsOfRow F (Pure.laws_toBallS F x0) x1) 1) 1) with
                          | true =>
                            cases (Decidable.decide ((Pure.laws_heldFloat32S F (Pure.laws_markFloat32S_1 F (Pure.impl_SpeedsOfRow F (Pure.laws_toBallS F x0) x1) 1) 1) < 0)) with
                            | true =>
                              intro _; rfl
                            | false =>
                              cases ((Pure.laws_heldFloat32S F (Pure.laws_markFloat32S_1 F (Pure.impl_SpeedsOfRow F (Pure.laws_toBallS F x0) x1) 1) 1) != (Pure.laws_markFloat32S F (Pure.impl_SpeedsOfRow F (Pure.laws_toBallS F x0) x1) 1)) with
                              | true =>
                                intro _; rfl
                              | false =>
                                intro _; rfl
                          | false =>
                            intro h; exact absurd h Bool.false_ne_true
                        | false =>
                          intro h; exact absurd h Bool.false_ne_true
                    | false =>
                      intro h; exact absurd h Bool.false_ne_true
                  | false =>
                    intro _; rfl
                | false =>
                  intro h; exact absurd h Bool.false_ne_true
              | false =>
                intro _; rfl
            | false =>
              intro _; rfl
          | false =>
            intro h; exact absurd h Bool.false_ne_true
        | false =>
          intro h; exact absurd h Bool.false_ne_true
      | false =>
        intro h; exact absurd h Bool.false_ne_true
    | false =>
      intro h; exact absurd h Bool.false_ne_true
theorem ok_laws_FnExactSpeedsOfRow : CallOK Try.prog 7 (c_laws_FnExactSpeedsOfRow real) := by
  refine callOK_of fun args h ret hc => ?_
  unfold c_laws_FnExactSpeedsOfRow at hc
  split at hc
  · rename_i x1 x0
    obtain ⟨hok, rfl⟩ := some_ret hc
    exact holds_ev prog_ok (allOK_cons ok_laws_szRow (allOK_cons ok_laws_toRow (allOK_cons ok_spec_SpeedsOfRow (allOK_cons ok_impl_SpeedsOfRow (allOK_cons ok_laws_eqFloat32S (allOK_cons ok_laws_eqRow (allOK_cons ok_laws_markRow (allOK_cons ok_laws_markFloat32S (allOK_cons ok_laws_heldFloat32S allOK_nil))))))))) Try.func7 rfl rfl smL_nil rfl (e_laws_FnExactSpeedsOfRow real x0 x1 hok)
  · cases hc
end Go.Fx
