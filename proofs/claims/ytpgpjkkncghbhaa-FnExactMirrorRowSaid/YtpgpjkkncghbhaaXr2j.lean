import Derived.Test.YtpgpjkkncghbhaaXr2i
import Derived.KernelRfl
namespace Go.Fx
open Go.Proofs
set_option maxRecDepth 100000
def Pure.slices_Reverse_impl_Ball_impl_Ball_L0 (F : FOps) : Nat → Int → Int → (List (List Int)) → (Bool × (List (List Int)))
  | 0, _, _, _ => (false, [])
  | n + 1, y0, y1, y2 => bif (decide (y0 < y1)) then (bif (decide (0 ≤ y1)) then (bif (decide (y1 < (Int.ofNat y2.length))) then (bif (decide (0 ≤ y0)) then (bif (decide (y0 < (Int.ofNat y2.length))) then (bif (decide (0 ≤ y0)) then (bif (decide (y0 < (Int.ofNat y2.length))) then (bif (decide (0 ≤ y1)) then (bif (decide (y1 < (Int.ofNat (List.length (List.set y2 (Int.toNat y0) [List.getD (List.getD y2 (Int.toNat y1) []) 0 0, List.getD (List.getD y2 (Int.toNat y1) []) 1 0, List.getD (List.getD y2 (Int.toNat y1) []) 2 0]))))) then (Pure.slices_Reverse_impl_Ball_impl_Ball_L0 F  n (IntKind.wrap .i64 (y0 + 1)) (IntKind.wrap .i64 (y1 - 1)) (List.set (List.set y2 (Int.toNat y0) [List.getD (List.getD y2 (Int.toNat y1) []) 0 0, List.getD (List.getD y2 (Int.toNat y1) []) 1 0, List.getD (List.getD y2 (Int.toNat y1) []) 2 0]) (Int.toNat y1) [List.getD (List.getD y2 (Int.toNat y0) []) 0 0, List.getD (List.getD y2 (Int.toNat y0) []) 1 0, List.getD (List.getD y2 (Int.toNat y0) []) 2 0])) else ((false, []))) else ((false, []))) else ((false, []))) else ((false, []))) else ((false, []))) else ((false, []))) else ((false, []))) else ((false, []))) else ((true, y2))
def R_slices_Reverse_impl_Ball_impl_Ball_L0 (r : (Bool × (List (List Int)))) : Bool × Ends := ((r).1, (.one Ex.normal [] [⟨true, .rows [K.f .f32, K.f .f32, K.f .f32] (r).2⟩]))
def S_slices_Reverse_impl_Ball_impl_Ball_L0 (F : FOps) : Sm := ⟨[0, 2, 3], [23, 3, 3], [], fun vals hp => match vals, hp with
  | [V.at (A.sl 0), V.at (A.int .i64 y0), V.at (A.int .i64 y1)], [⟨true, .rows [K.f .f32, K.f .f32, K.f .f32] y2⟩] => some (R_slices_Reverse_impl_Ball_impl_Ball_L0  (Pure.slices_Reverse_impl_Ball_impl_Ball_L0 F  (y1 - y0 + 1).toNat y0 y1 y2))
  | _, _ => none⟩
theorem l_slices_Reverse_impl_Ball_impl_Ball_L0 (F : FOps) : ∀ (fuel : Nat) (y0 y1 : Int) (y2 : List (List Int)), (Pure.slices_Reverse_impl_Ball_impl_Ball_L0 F  fuel y0 y1 y2).1 = true → loopOf (cxS F tyl [] [] [] 0) 1 28 0 [0, 2, 3] [23, 3, 3] [] (loopB 0 (codeOf Try.f68)) fuel [V.at (A.sl 0), V.at (A.int .i64 y0), V.at (A.int .i64 y1)] [⟨true, .rows [K.f .f32, K.f .f32, K.f .f32] y2⟩] = resOf (R_slices_Reverse_impl_Ball_impl_Ball_L0  (Pure.slices_Reverse_impl_Ball_impl_Ball_L0 F  fuel y0 y1 y2)) := by
  intro fuel
  induction fuel with
  | zero => intro y0 y1 y2 h; exact absurd h Bool.false_ne_true
  | succ n ih =>
    intro y0 y1 y2
    have h0 : roundOf (cxS F tyl [] [] [] 0) 1 28 0 [0, 2, 3] [23, 3, 3] [] (loopB 0 (codeOf Try.f68)) [V.at (A.sl 0), V.at (A.int .i64 y0), V.at (A.int .i64 y1)] [⟨true, .rows [K.f .f32, K.f .f32, K.f .f32] y2⟩] = (bif decide (y0 < y1) then bif decide (0 ≤ y1) then bif decide (y1 < (Int.ofNat y2.length)) then bif decide (0 ≤ y0) then bif decide (y0 < (Int.ofNat y2.length)) then bif decide (0 ≤ y0) then bif decide (y0 < (Int.ofNat y2.length)) then bif decide (0 ≤ y1) then bif decide (y1 < (Int.ofNat (List.length (List.set y2 (Int.toNat y0) [List.getD (List.getD y2 (Int.toNat y1) []) 0 0, List.getD (List.getD y2 (Int.toNat y1) []) 1 0, List.getD (List.getD y2 (Int.toNat y1) []) 2 0])))) then some (true, (Ex.normal, ([V.at (A.sl 0), V.at (A.int .i64 (IntKind.wrap .i64 (y0 + 1))), V.at (A.int .i64 (IntKind.wrap .i64 (y1 - 1)))], [⟨true, .rows [K.f .f32, K.f .f32, K.f .f32] (List.set (List.set y2 (Int.toNat y0) [List.getD (List.getD y2 (Int.toNat y1) []) 0 0, List.getD (List.getD y2 (Int.toNat y1) []) 1 0, List.getD (List.getD y2 (Int.toNat y1) []) 2 0]) (Int.toNat y1) [List.getD (List.getD y2 (Int.toNat y0) []) 0 0, List.getD (List.getD y2 (Int.toNat y0) []) 1 0, List.getD (List.getD y2 (Int.toNat y0) []) 2 0])⟩]))) else none else none else none else none else none else none else none else none else some (false, (Ex.normal, ([], [⟨true, .rows [K.f .f32, K.f .f32, K.f .f32] y2⟩])))) := by kernel_rfl
    unfold loopOf
    rw [h0]
    unfold Pure.slices_Reverse_impl_Ball_impl_Ball_L0
    cases (decide (y0 < y1)) with
    | true =>
      cases (decide (0 ≤ y1)) with
      | true =>
        cases (decide (y1 < (Int.ofNat y2.length))) with
        | true =>
          cases (decide (0 ≤ y0)) with
          | true =>
            cases (decide (y0 < (Int.ofNat y2.length))) with
            | true =>
              cases (decide (y1 < (Int.ofNat (List.length (List.set y2 (Int.toNat y0) [List.getD (List.getD y2 (Int.toNat y1) []) 0 0, List.getD (List.getD y2 (Int.toNat y1) []) 1 0, List.getD (List.getD y2 (Int.toNat y1) []) 2 0]))))) with
              | true =>
                exact ih _ _ _
              | false =>
                intro h; exact absurd h Bool.false_ne_true
            | false =>
              intro h; exact absurd h Bool.false_ne_true
          | false =>
            intro h; exact absurd h Bool.false_ne_true
        | false =>
          intro h; exact absurd h Bool.false_ne_true
      | false =>
        intro h; exact absurd h Bool.false_ne_true
    | false =>
      intro _; rfl
theorem t_slices_Reverse_impl_Ball_impl_Ball_L0 : SmTo Try.prog 1 28 (S_slices_Reverse_impl_Ball_impl_Ball_L0 real) 0 (.loop (loopB 0 (codeOf Try.f68))) := by
  refine smTo_ev (cl := []) (ef := []) (sm := []) (un := 0) prog_ok allOK_nil smL_nil ?_
  intro vals hp q r h hq
  unfold S_slices_Reverse_impl_Ball_impl_Ball_L0 at h
  dsimp only at h
  split at h
  · rename_i y0 y1 y2
    obtain rfl := Option.some.inj h
    have h1 := hq
    unfold resOf at h1
    rw [chk_some] at h1
    exact ⟨_, (l_slices_Reverse_impl_Ball_impl_Ball_L0 real _ y0 y1 y2 h1.1).trans hq⟩
  · cases h
def Pure.slices_Reverse_impl_Ball_impl_Ball (F : FOps) (x0 : List (List Int)) : List (List Int) := Prod.snd (Pure.slices_Reverse_impl_Ball_impl_Ball_L0 F (Int.toNat (((IntKind.wrap .i64 ((Int.ofNat x0.length) - 1)) - 0) + 1)) 0 (IntKind.wrap .i64 ((Int.ofNat x0.length) - 1)) x0)
def Pure.slices_Reverse_impl_Ball_impl_Ball_ok (F : FOps) (x0 : List (List Int)) : Bool := Prod.fst (Pure.slices_Reverse_impl_Ball_impl_Ball_L0 F (Int.toNat (((IntKind.wrap .i64 ((Int.ofNat x0.length) - 1)) - 0) + 1)) 0 (IntKind.wrap .i64 ((Int.ofNat x0.length) - 1)) x0)
def c_slices_Reverse_impl_Ball_impl_Ball (F : FOps) : Con
  | [V.at (A.sl 0)], [⟨true, .rows [K.f .f32, K.f .f32, K.f .f32] x0⟩] => some (Pure.slices_Reverse_impl_Ball_impl_Ball_ok F x0, ⟨V.tup [], some [⟨true, .rows [K.f .f32, K.f .f32, K.f .f32] (Pure.slices_Reverse_impl_Ball_impl_Ball F x0)⟩], []⟩)
  | _, _ => none
theorem e_slices_Reverse_impl_Ball_impl_Ball (F : FOps) (x0 : List (List Int)) : Pure.slices_Reverse_impl_Ball_impl_Ball_ok F x0 = true → evFn (cxS F tyl [] [] [(0, S_slices_Reverse_impl_Ball_impl_Ball_L0 F)] 0) Try.f68 true [V.at (A.sl 0)] [⟨true, .rows [K.f .f32, K.f .f32, K.f .f32] x0⟩] = some ⟨V.tup [], some [⟨true, .rows [K.f .f32, K.f .f32, K.f .f32] (Pure.slices_Reverse_impl_Ball_impl_Ball F x0)⟩], []⟩ := by
  have h0 : evFn (cxS F tyl [] [] [(0, S_slices_Reverse_impl_Ball_impl_Ball_L0 F)] 0) Try.f68 true [V.at (A.sl 0)] [⟨true, .rows [K.f .f32, K.f .f32, K.f .f32] x0⟩] = bif Prod.fst (Pure.slices_Reverse_impl_Ball_impl_Ball_L0 F (Int.toNat (((IntKind.wrap .i64 ((Int.ofNat x0.length) - 1)) - 0) + 1)) 0 (IntKind.wrap .i64 ((Int.ofNat x0.length) - 1)) x0) then some ⟨V.tup [], some [⟨true, .rows [K.f .f32, K.f .f32, K.f .f32] (Prod.snd (Pure.slices_Reverse_impl_Ball_impl_Ball_L0 F (Int.toNat (((IntKind.wrap .i64 ((Int.ofNat x0.length) - 1)) - 0) + 1)) 0 (IntKind.wrap .i64 ((Int.ofNat x0.length) - 1)) x0))⟩], []⟩ else none := by kernel_rfl
  rw [h0]
  unfold Pure.slices_Reverse_impl_Ball_impl_Ball Pure.slices_Reverse_impl_Ball_impl_Ball_ok
  cases (Prod.fst (Pure.slices_Reverse_impl_Ball_impl_Ball_L0 F (Int.toNat (((IntKind.wrap .i64 ((Int.ofNat x0.length) - 1)) - 0) + 1)) 0 (IntKind.wrap .i64 ((Int.ofNat x0.length) - 1)) x0)) with
  | true =>
    intro _; rfl
  | false =>
    intro h; exact absurd h Bool.false_ne_true
theorem ok_slices_Reverse_impl_Ball_impl_Ball : CallOK Try.prog 68 (c_slices_Reverse_impl_Ball_impl_Ball real) := by
  refine callOK_of fun args h ret hc => ?_
  unfold c_slices_Reverse_impl_Ball_impl_Ball at hc
  split at hc
  · rename_i x0
    obtain ⟨hok, rfl⟩ := some_ret hc
    exact holdsE_ev prog_ok allOK_nil Try.func68 rfl rfl (smL_cons (body := .loop (loopB 0 (codeOf Try.f68))) (by kernel_rfl) t_slices_Reverse_impl_Ball_impl_Ball_L0 smL_nil) (e_slices_Reverse_impl_Ball_impl_Ball real x0 hok)
  · cases hc
def Pure.impl_MirrorRow_c1_L0 (F : FOps) (y0 y2 : Int) : Nat → Int → (List (List Int)) → (Bool × (List (List Int)))
  | 0, _, _ => (false, [])
  | n + 1, y1, y3 => bif (decide (y1 < y0)) then (bif (decide (0 ≤ y1)) then (bif (decide (y1 < (Int.ofNat y3.length))) then (Pure.impl_MirrorRow_c1_L0 F y0 y2 n (IntKind.wrap .i64 (y1 + 1)) (List.set (List.set y3 (Int.toNat y1) (setFrom (List.getD y3 (Int.toNat y1) []) 0 [F.neg .f32 ((y3.getD y1.toNat []).getD 0 0)])) (Int.toNat y1) (setFrom (List.getD (List.set y3 (Int.toNat y1) (setFrom (List.getD y3 (Int.toNat y1) []) 0 [F.neg .f32 ((y3.getD y1.toNat []).getD 0 0)])) (Int.toNat y1) []) 1 [F.neg .f32 ((y3.getD y1.toNat []).getD 1 0)]))) else ((false, []))) else ((false, []))) else ((true, y3))
def R_impl_MirrorRow_c1_L0 (y2 : Int) (r : (Bool × (List (List Int)))) : Bool × Ends := ((r).1, (.one Ex.normal [] [⟨true, .box [A.sl 1, A.fl .f32 y2]⟩, ⟨true, .rows [K.f .f32, K.f .f32, K.f .f32] (r).2⟩]))
def S_impl_MirrorRow_c1_L0 (F : FOps) : Sm := ⟨[0, 14, 15], [63, 3, 3], [], fun vals hp => match vals, hp with
  | [V.at (A.ptr 0 0 0), V.at (A.int .i64 y0), V.at (A.int .i64 y1)], [⟨true, .box [A.sl 1, A.fl .f32 y2]⟩, ⟨true, .rows [K.f .f32, K.f .f32, K.f .f32] y3⟩] => some (R_impl_MirrorRow_c1_L0 y2 (Pure.impl_MirrorRow_c1_L0 F y0 y2 (y0 - y1 + 1).toNat y1 y3))
  | _, _ => none⟩
theorem l_impl_MirrorRow_c1_L0 (F : FOps) (y0 y2 : Int) : ∀ (fuel : Nat) (y1 : Int) (y3 : List (List Int)), (Pure.impl_MirrorRow_c1_L0 F y0 y2 fuel y1 y3).1 = true → loopOf (cxS F tyl [(68, c_slices_Reverse_impl_Ball_impl_Ball F)] [68] [] 0) 2 41 0 [0, 14, 15] [63, 3, 3] [] (loopB 0 (codeOf Try.f67)) fuel [V.at (A.ptr 0 0 0), V.at (A.int .i64 y0), V.at (A.int .i64 y1)] [⟨true, .box [A.sl 1, A.fl .f32 y2]⟩, ⟨true, .rows [K.f .f32, K.f .f32, K.f .f32] y3⟩] = resOf (R_impl_MirrorRow_c1_L0 y2 (Pure.impl_MirrorRow_c1_L0 F y0 y2 fuel y1 y3)) := by
  intro fuel
  induction fuel with
  | zero => intro y1 y3 h; exact absurd h Bool.false_ne_true
  | succ n ih =>
    intro y1 y3
    have h0 : roundOf (cxS F tyl [(68, c_slices_Reverse_impl_Ball_impl_Ball F)] [68] [] 0) 2 41 0 [0, 14, 15] [63, 3, 3] [] (loopB 0 (codeOf Try.f67)) [V.at (A.ptr 0 0 0), V.at (A.int .i64 y0), V.at (A.int .i64 y1)] [⟨true, .box [A.sl 1, A.fl .f32 y2]⟩, ⟨true, .rows [K.f .f32, K.f .f32, K.f .f32] y3⟩] = (bif decide (y1 < y0) then bif decide (0 ≤ y1) then bif decide (y1 < (Int.ofNat y3.length)) then some (true, (Ex.normal, ([V.at (A.ptr 0 0 0), V.at (A.int .i64 y0), V.at (A.int .i64 (IntKind.wrap .i64 (y1 + 1)))], [⟨true, .box [A.sl 1, A.fl .f32 y2]⟩, ⟨true, .rows [K.f .f32, K.f .f32, K.f .f32] (List.set (List.set y3 (Int.toNat y1) (setFrom (List.getD y3 (Int.toNat y1) []) 0 [F.neg .f32 ((y3.getD y1.toNat []).getD 0 0)])) (Int.toNat y1) (setFrom (List.getD (List.set y3 (Int.toNat y1) (setFrom (List.getD y3 (Int.toNat y1) []) 0 [F.neg .f32 ((y3.getD y1.toNat []).getD 0 0)])) (Int.toNat y1) []) 1 [F.neg .f32 ((y3.getD y1.toNat []).getD 1 0)]))⟩]))) else none else none else some (false, (Ex.normal, ([], [⟨true, .box [A.sl 1, A.fl .f32 y2]⟩, ⟨true, .rows [K.f .f32, K.f .f32, K.f .f32] y3⟩])))) := by kernel_rfl
    unfold loopOf
    rw [h0]
    unfold Pure.impl_MirrorRow_c1_L0
    cases (decide (y1 < y0)) with
    | true =>
      cases (decide (0 ≤ y1)) with
      | true =>
        cases (decide (y1 < (Int.ofNat y3.length))) with
        | true =>
          exact ih _ _
        | false =>
          intro h; exact absurd h Bool.false_ne_true
      | false =>
        intro h; exact absurd h Bool.false_ne_true
    | false =>
      intro _; rfl
theorem t_impl_MirrorRow_c1_L0 : SmTo Try.prog 2 41 (S_impl_MirrorRow_c1_L0 real) 0 (.loop (loopB 0 (codeOf Try.f67))) := by
  refine smTo_ev (cl := [(68, c_slices_Reverse_impl_Ball_impl_Ball real)]) (ef := [68]) (sm := []) (un := 0) prog_ok (allOK_cons ok_slices_Reverse_impl_Ball_impl_Ball allOK_nil) smL_nil ?_
  intro vals hp q r h hq
  unfold S_impl_MirrorRow_c1_L0 at h
  dsimp only at h
  split at h
  · rename_i y0 y1 y2 y3
    obtain rfl := Option.some.inj h
    have h1 := hq
    unfold resOf at h1
    rw [chk_some] at h1
    exact ⟨_, (l_impl_MirrorRow_c1_L0 real y0 y2 _ y1 y3 h1.1).trans hq⟩
  · cases h
def Pure.impl_MirrorRow_c1 (F : FOps) (x0 : List (List Int)) (x1 : Int) : List (List Int) := Prod.snd (Pure.impl_MirrorRow_c1_L0 F (Int.ofNat (List.length (Pure.slices_Reverse_impl_Ball_impl_Ball F x0))) x1 (Nat.succ ((List.length (Pure.slices_Reverse_impl_Ball_impl_Ball F x0)) + 0)) 0 (Pure.slices_Reverse_impl_Ball_impl_Ball F x0))
def Pure.impl_MirrorRow_c1_ok (F : FOps) (x0 : List (List Int)) (x1 : Int) : Bool := bif Pure.slices_Reverse_impl_Ball_impl_Ball_ok F x0 then Prod.fst (Pure.impl_MirrorRow_c1_L0 F (Int.ofNat (List.length (Pure.slices_Reverse_impl_Ball_impl_Ball F x0))) x1 (Nat.succ ((List.length (Pure.slices_Reverse_impl_Ball_impl_Ball F x0)) + 0)) 0 (Pure.slices_Reverse_impl_Ball_impl_Ball F x0)) else false
def c_impl_MirrorRow_c1 (F : FOps) : Con
  | [V.at (A.ptr 0 0 0)], [⟨true, .box [A.sl 1, A.fl .f32 x1]⟩, ⟨true, .rows [K.f .f32, K.f .f32, K.f .f32] x0⟩] => some (Pure.impl_MirrorRow_c1_ok F x0 x1, ⟨V.at (A.bool true), some [⟨true, .box [A.sl 1, A.fl .f32 x1]⟩, ⟨true, .rows [K.f .f32, K.f .f32, K.f .f32] (Pure.impl_MirrorRow_c1 F x0 x1)⟩], []⟩)
  | _, _ => none
theorem e_impl_MirrorRow_c1 (F : FOps) (x0 : List (List Int)) (x1 : Int) : Pure.impl_MirrorRow_c1_ok F x0 x1 = true → evFn (cxS F tyl [(68, c_slices_Reverse_impl_Ball_impl_Ball F)] [68] [(0, S_impl_MirrorRow_c1_L0 F)] 0) Try.f67 true [V.at (A.ptr 0 0 0)] [⟨true, .box [A.sl 1, A.fl .f32 x1]⟩, ⟨true, .rows [K.f .f32, K.f .f32, K.f .f32] x0⟩] = some ⟨V.at (A.bool true), some [⟨true, .box [A.sl 1, A.fl .f32 x1]⟩, ⟨true, .rows [K.f .f32, K.f .f32, K.f .f32] (Pure.impl_MirrorRow_c1 F x0 x1)⟩], []⟩ := by
  have h0 : evFn (cxS F tyl [(68, c_slices_Reverse_impl_Ball_impl_Ball F)] [68] [(0, S_impl_MirrorRow_c1_L0 F)] 0) Try.f67 true [V.at (A.ptr 0 0 0)] [⟨true, .box [A.sl 1, A.fl .f32 x1]⟩, ⟨true, .rows [K.f .f32, K.f .f32, K.f .f32] x0⟩] = bif Pure.slices_Reverse_impl_Ball_impl_Ball_ok F x0 then bif Prod.fst (Pure.impl_MirrorRow_c1_L0 F (Int.ofNat (List.length (Pure.slices_Reverse_impl_Ball_impl_Ball F x0))) x1 (Nat.succ ((List.length (Pure.slices_Reverse_impl_Ball_impl_Ball F x0)) + 0)) 0 (Pure.slices_Reverse_impl_Ball_impl_Ball F x0)) then some ⟨V.at (A.bool true), some [⟨true, .box [A.sl 1, A.fl .f32 x1]⟩, ⟨true, .rows [K.f .f32, K.f .f32, K.f .f32] (Prod.snd (Pure.impl_MirrorRow_c1_L0 F (Int.ofNat (List.length (Pure.slices_Reverse_impl_Ball_impl_Ball F x0))) x1 (Nat.succ ((List.length (Pure.slices_Reverse_impl_Ball_impl_Ball F x0)) + 0)) 0 (Pure.slices_Reverse_impl_Ball_impl_Ball F x0)))⟩], []⟩ else none else none := by kernel_rfl
  rw [h0]
  unfold Pure.impl_MirrorRow_c1 Pure.impl_MirrorRow_c1_ok
  cases (Pure.slices_Reverse_impl_Ball_impl_Ball_ok F x0) with
  | true =>
    cases (Prod.fst (Pure.impl_MirrorRow_c1_L0 F (Int.ofNat (List.length (Pure.slices_Reverse_impl_Ball_impl_Ball F x0))) x1 (Nat.succ ((List.length (Pure.slices_Reverse_impl_Ball_impl_Ball F x0)) + 0)) 0 (Pure.slices_Reverse_impl_Ball_impl_Ball F x0))) with
    | true =>
      intro _; rfl
    | false =>
      intro h; exact absurd h Bool.false_ne_true
  | false =>
    intro h; exact absurd h Bool.false_ne_true
theorem ok_impl_MirrorRow_c1 : CallOK Try.prog 67 (c_impl_MirrorRow_c1 real) := by
  refine callOK_of fun args h ret hc => ?_
  unfold c_impl_MirrorRow_c1 at hc
  split at hc
  · rename_i x1 x0
    obtain ⟨hok, rfl⟩ := some_ret hc
    exact holdsE_ev prog_ok (allOK_cons ok_slices_Reverse_impl_Ball_impl_Ball allOK_nil) Try.func67 rfl rfl (smL_cons (body := .loop (loopB 0 (codeOf Try.f67))) (by kernel_rfl) t_impl_MirrorRow_c1_L0 smL_nil) (e_impl_MirrorRow_c1 real x0 x1 hok)
  · cases hc
def c_slices_Clone_impl_Ball_impl_Ball (_ : FOps) : Con
  | [V.at (A.sl 0)], [⟨false, .rows [K.f .f32, K.f .f32, K.f .f32] x0⟩] => some (decide (x0.length ≤ 1073741824), ⟨V.at (A.sl 1), none, [⟨true, .rows [K.f .f32, K.f .f32, K.f .f32] x0⟩]⟩)
  | _, _ => none
theorem ok_slices_Clone_impl_Ball_impl_Ball : CallOK Try.prog 85 (c_slices_Clone_impl_Ball_impl_Ball real) := by
  refine callOK_of fun args h ret hc => ?_
  unfold c_slices_Clone_impl_Ball_impl_Ball at hc
  split at hc
  · rename_i x0
    obtain ⟨hok, rfl⟩ := some_ret hc
    refine holds_of_nilcmp (cx := cxS real tyl [] [] [] 0) (cxS_ok prog_ok.ty allOK_nil) prog_ok.mix Try.func85 (o0 := opC 0 (codeOf Try.f85)) (o1 := opC 1 (codeOf Try.f85)) (o2 := opC 2 (codeOf Try.f85)) (i0 := 0) (i1 := 1) (cnd := cndC (codeOf Try.f85)) (rest := endC (codeOf Try.f85)) (t := 23)
      (by kernel_rfl) (by decide) rfl ⟨by kernel_rfl, by kernel_rfl, by kernel_rfl⟩ ⟨by kernel_rfl, by kernel_rfl, by kernel_rfl⟩ ⟨by kernel_rfl, by kernel_rfl, by kernel_rfl⟩ ⟨50, by kernel_rfl⟩ (smL_sms smL_nil) ?_
    intro b hb
    cases b with
    | true => obtain rfl := hb rfl; kernel_rfl
    | false =>
      clear hb hc
      revert hok
      generalize hg : decide (x0.length ≤ 1073741824) = q
      intro hok
      subst hok
      have h0 : ∀ F : FOps, evC (cxS F tyl [] [] [] 0) 1 (restC (codeOf Try.f85)) ⟨[.at (.sl 0), .at .void, .at .nil, .at (.sl 0), .at (.bool false), .at .void, .at .void, .at .void], [⟨false, .rows [K.f .f32, K.f .f32, K.f .f32] x0⟩]⟩ (fun e st => match e with | .normal => finish (cxS F tyl [] [] [] 0) Try.f85 false 1 st | .ret => finish (cxS F tyl [] [] [] 0) Try.f85 false 1 st | .exit _ => none) = bif decide (x0.length ≤ 1073741824) then some ⟨V.at (A.sl 1), none, [⟨true, .rows [K.f .f32, K.f .f32, K.f .f32] x0⟩]⟩ else none := by
        intro F
        kernel_rfl
      rw [hg] at h0
      exact h0 real
  · cases hc
def Pure.impl_changedRow_mirror (F : FOps) (x0 : List (List Int)) (x1 : Int) : Int := bif Pure.impl_ValidRow F x0 x1 then bif Pure.impl_ValidRow F (Pure.impl_MirrorRow_c1 F x0 x1) x1 then x1 else 0 else 0
def Pure.impl_changedRow_mirror_1 (F : FOps) (x0 : List (List Int)) (x1 : Int) : Bool := bif Pure.impl_ValidRow F x0 x1 then Pure.impl_ValidRow F (Pure.impl_MirrorRow_c1 F x0 x1) x1 else false
def Pure.impl_changedRow_mirror_2 (F : FOps) (x0 : List (List Int)) (x1 : Int) : List (List Int) := bif Pure.impl_ValidRow F x0 x1 then bif Pure.impl_ValidRow F (Pure.impl_MirrorRow_c1 F x0 x1) x1 then Pure.impl_MirrorRow_c1 F x0 x1 else [] else []
def Pure.impl_changedRow_mirror_ok (F : FOps) (x0 : List (List Int)) (x1 : Int) : Bool := bif Pure.impl_ValidRow_ok F x0 x1 then bif Pure.impl_ValidRow F x0 x1 then bif decide (x0.length ≤ 1073741824) then bif Pure.impl_MirrorRow_c1_ok F x0 x1 then Pure.impl_ValidRow_ok F (Pure.impl_MirrorRow_c1 F x0 x1) x1 else false else false else true else false
def c_impl_changedRow_mirror (F : FOps) : Con
  | [V.agg [A.sl 0, A.fl .f32 x1], V.at (A.fn 67 [])], [⟨false, .rows [K.f .f32, K.f .f32, K.f .f32] x0⟩] => some (Pure.impl_changedRow_mirror_ok F x0 x1, ⟨V.tup [(true, [A.sl 1, A.fl .f32 (Pure.impl_changedRow_mirror F x0 x1)]), (false, [A.bool (Pure.impl_changedRow_mirror_1 F x0 x1)])], none, [⟨true, .rows [K.f .f32, K.f .f32, K.f .f32] (Pure.impl_changedRow_mirror_2 F x0 x1)⟩]⟩)
  | _, _ => none
theorem e_impl_changedRow_mirror (F : FOps) (x0 : List (List Int)) (x1 : Int) : Pure.impl_changedRow_mirror_ok F x0 x1 = true → evFn (cxS F tyl [(49, c_impl_ValidRow F), (85, c_slices_Clone_impl_Ball_impl_Ball F), (67, c_impl_MirrorRow_c1 F)] [67] [] 0) Try.f66 false [V.agg [A.sl 0, A.fl .f32 x1], V.at (A.fn 67 [])] [⟨false, .rows [K.f .f32, K.f .f32, K.f .f32] x0⟩] = some ⟨V.tup [(true, [A.sl 1, A.fl .f32 (Pure.impl_changedRow_mirror F x0 x1)]), (false, [A.bool (Pure.impl_changedRow_mirror_1 F x0 x1)])], none, [⟨true, .rows [K.f .f32, K.f .f32, K.f .f32] (Pure.impl_changedRow_mirror_2 F x0 x1)⟩]⟩ := by
  have h0 : evFn (cxS F tyl [(49, c_impl_ValidRow F), (85, c_slices_Clone_impl_Ball_impl_Ball F), (67, c_impl_MirrorRow_c1 F)] [67] [] 0) Try.f66 false [V.agg [A.sl 0, A.fl .f32 x1], V.at (A.fn 67 [])] [⟨false, .rows [K.f .f32, K.f .f32, K.f .f32] x0⟩] = bif Pure.impl_ValidRow_ok F x0 x1 then bif Bool.not (Pure.impl_ValidRow F x0 x1) then some ⟨V.tup [(true, [A.sl 1, A.fl .f32 0]), (false, [A.bool false])], none, [⟨true, .rows [K.f .f32, K.f .f32, K.f .f32] []⟩]⟩ else bif decide (x0.length ≤ 1073741824) then bif Pure.impl_MirrorRow_c1_ok F x0 x1 then bif Pure.impl_ValidRow_ok F (Pure.impl_MirrorRow_c1 F x0 x1) x1 then bif Bool.not (Pure.impl_ValidRow F (Pure.impl_MirrorRow_c1 F x0 x1) x1) then some ⟨V.tup [(true, [A.sl 1, A.fl .f32 0]), (false, [A.bool false])], none, [⟨true, .rows [K.f .f32, K.f .f32, K.f .f32] []⟩]⟩ else some ⟨V.tup [(true, [A.sl 1, A.fl .f32 x1]), (false, [A.bool true])], none, [⟨true, .rows [K.f .f32, K.f .f32, K.f .f32] (Pure.impl_MirrorRow_c1 F x0 x1)⟩]⟩ else none else none else none else none := by kernel_rfl
  rw [h0]
  unfold Pure.impl_changedRow_mirror Pure.impl_changedRow_mirror_1 Pure.impl_changedRow_mirror_2 Pure.impl_changedRow_mirror_ok
  cases (Pure.impl_ValidRow_ok F x0 x1) with
  | true =>
    cases (Pure.impl_ValidRow F x0 x1) with
    | true =>
      cases (decide (x0.length ≤ 1073741824)) with
      | true =>
        cases (Pure.impl_MirrorRow_c1_ok F x0 x1) with
        | true =>
          cases (Pure.impl_ValidRow_ok F (Pure.impl_MirrorRow_c1 F x0 x1) x1) with
          | true =>
            cases (Pure.impl_ValidRow F (Pure.impl_MirrorRow_c1 F x0 x1) x1) with
            | true =>
              intro _; rfl
            | false =>
              intro _; rfl
          | false =>
            intro h; exact absurd h Bool.false_ne_true
        | false =>
          intro h; exact absurd h Bool.false_ne_true
      | false =>
        intro h; exact absurd h Bool.false_ne_true
    | false =>
      intro _; rfl
  | false =>
    intro h; exact absurd h Bool.false_ne_true
theorem ok_impl_changedRow_mirror : CallOK Try.prog 66 (c_impl_changedRow_mirror real) := by
  refine callOK_of fun args h ret hc => ?_
  unfold c_impl_changedRow_mirror at hc
  split at hc
  · rename_i x1 x0
    obtain ⟨hok, rfl⟩ := some_ret hc
    exact holds_ev prog_ok (allOK_cons ok_impl_ValidRow (allOK_cons ok_slices_Clone_impl_Ball_impl_Ball (allOK_cons ok_impl_MirrorRow_c1 allOK_nil))) Try.func66 rfl rfl smL_nil rfl (e_impl_changedRow_mirror real x0 x1 hok)
  · cases hc
def Pure.laws_szBallS (F : FOps) (x0 : List (List Int)) (x1 : Int) : Int := bif decide ((IntKind.wrap .i64 (x1 - (Int.ofNat x0.length))) < 0) then (-1) else IntKind.wrap .i64 (x1 - (Int.ofNat x0.length))
def c_laws_szBallS (F : FOps) : Con
  | [V.at (A.sl 0), V.at (A.int .i64 x1)], [⟨false, .rows [K.f .f32, K.f .f32, K.f .f32] x0⟩] => some (true, ⟨V.at (A.int .i64 (Pure.laws_szBallS F x0 x1)), none, []⟩)
  | _, _ => none
theorem e_laws_szBallS (F : FOps) (x0 : List (List Int)) (x1 : Int) : evFn (cxS F tyl [] [] [] 0) Try.f53 false [V.at (A.sl 0), V.at (A.int .i64 x1)] [⟨false, .rows [K.f .f32, K.f .f32, K.f .f32] x0⟩] = some ⟨V.at (A.int .i64 (Pure.laws_szBallS F x0 x1)), none, []⟩ := by
  have h0 : evFn (cxS F tyl [] [] [] 0) Try.f53 false [V.at (A.sl 0), V.at (A.int .i64 x1)] [⟨false, .rows [K.f .f32, K.f .f32, K.f .f32] x0⟩] = bif decide ((IntKind.wrap .i64 (x1 - (Int.ofNat x0.length))) < 0) then some ⟨V.at (A.int .i64 (-1)), none, []⟩ else some ⟨V.at (A.int .i64 (IntKind.wrap .i64 (x1 - (Int.ofNat x0.length)))), none, []⟩ := by kernel_rfl
  rw [h0]
  unfold Pure.laws_szBallS
  cases (decide ((IntKind.wrap .i64 (x1 - (Int.ofNat x0.length))) < 0)) with
  | true =>
    rfl
  | false =>
    rfl
theorem ok_laws_szBallS : CallOK Try.prog 53 (c_laws_szBallS real) := by
  refine callOK_of fun args h ret hc => ?_
  unfold c_laws_szBallS at hc
  split at hc
  · rename_i x1 x0
    obtain ⟨_, rfl⟩ := some_ret hc
    exact holds_ev prog_ok allOK_nil Try.func53 rfl rfl smL_nil rfl (e_laws_szBallS real x0 x1)
  · cases hc
def Pure.laws_szRow (F : FOps) (x0 : List (List Int)) (x1 x2 : Int) : Int := bif decide ((Pure.laws_szBallS F x0 x2) < 0) then (-1) else Pure.laws_szBallS F x0 x2
def c_laws_szRow (F : FOps) : Con
  | [V.agg [A.sl 0, A.fl .f32 x1], V.at (A.int .i64 x2)], [⟨false, .rows [K.f .f32, K.f .f32, K.f .f32] x0⟩] => some (true, ⟨V.at (A.int .i64 (Pure.laws_szRow F x0 x1 x2)), none, []⟩)
  | _, _ => none
theorem e_laws_szRow (F : FOps) (x0 : List (List Int)) (x1 x2 : Int) : evFn (cxS F tyl [(53, c_laws_szBallS F)] [] [] 0) Try.f19 false [V.agg [A.sl 0, A.fl .f32 x1], V.at (A.int .i64 x2)] [⟨false, .rows [K.f .f32, K.f .f32, K.f .f32] x0⟩] = some ⟨V.at (A.int .i64 (Pure.laws_szRow F x0 x1 x2)), none, []⟩ := by
  have h0 : evFn (cxS F tyl [(53, c_laws_szBallS F)] [] [] 0) Try.f19 false [V.agg [A.sl 0, A.fl .f32 x1], V.at (A.int .i64 x2)] [⟨false, .rows [K.f .f32, K.f .f32, K.f .f32] x0⟩] = bif decide ((Pure.laws_szBallS F x0 x2) < 0) then some ⟨V.at (A.int .i64 (-1)), none, []⟩ else some ⟨V.at (A.int .i64 (Pure.laws_szBallS F x0 x2)), none, []⟩ := by kernel_rfl
  rw [h0]
  unfold Pure.laws_szRow
  cases (decide ((Pure.laws_szBallS F x0 x2) < 0)) with
  | true =>
    rfl
  | false =>
    rfl
theorem ok_laws_szRow : CallOK Try.prog 19 (c_laws_szRow real) := by
  refine callOK_of fun args h ret hc => ?_
  unfold c_laws_szRow at hc
  split at hc
  · rename_i x1 x2 x0
    obtain ⟨_, rfl⟩ := some_ret hc
    exact holds_ev prog_ok (allOK_cons ok_laws_szBallS allOK_nil) Try.func19 rfl rfl smL_nil rfl (e_laws_szRow real x0 x1 x2)
  · cases hc
def c_laws_toBall (_ : FOps) : Con
  | [V.agg [A.fl .f32 x0, A.fl .f32 x1, A.fl .f32 x2]], [] => some (true, ⟨V.agg [A.fl .f32 x0, A.fl .f32 x1, A.fl .f32 x2], none, []⟩)
  | _, _ => none
theorem e_laws_toBall (F : FOps) (x0 x1 x2 : Int) : evFn (cxS F tyl [] [] [] 0) Try.f38 false [V.agg [A.fl .f32 x0, A.fl .f32 x1, A.fl .f32 x2]] [] = some ⟨V.agg [A.fl .f32 x0, A.fl .f32 x1, A.fl .f32 x2], none, []⟩ := by
  kernel_rfl
theorem ok_laws_toBall : CallOK Try.prog 38 (c_laws_toBall real) := by
  refine callOK_of fun args h ret hc => ?_
  unfold c_laws_toBall at hc
  split at hc
  · rename_i x0 x1 x2
    obtain ⟨_, rfl⟩ := some_ret hc
    exact holds_ev prog_ok allOK_nil Try.func38 rfl rfl smL_nil rfl (e_laws_toBall real x0 x1 x2)
  · cases hc
def Pure.laws_toBallS_L0 (F : FOps) (y1 : List (List Int)) : Nat → Int → (List (List Int)) → (Bool × (List (List Int)))
  | 0, _, _ => (false, [])
  | n + 1, y0, y2 => bif (decide (y0 < (Int.ofNat y1.length))) then (bif (decide (0 ≤ y0)) then (bif (decide (y0 < (Int.ofNat y1.length))) then (bif (decide (0 ≤ y0)) then (bif (decide (y0 < (Int.ofNat y2.length))) then (Pure.laws_toBallS_L0 F y1 n (IntKind.wrap .i64 (y0 + 1)) (List.set y2 (Int.toNat y0) [List.getD (List.getD y1 (Int.toNat y0) []) 0 0, List.getD (List.getD y1 (Int.toNat y0) []) 1 0, List.getD (List.getD y1 (Int.toNat y0) []) 2 0])) else ((false, []))) else ((false, []))) else ((false, []))) else ((false, []))) else ((true, y2))
def R_laws_toBallS_L0 (y1 : List (List Int)) (r : (Bool × (List (List Int)))) : Bool × Ends := ((r).1, (.one Ex.normal [V.at (A.sl 1)] [⟨false, .rows [K.f .f32, K.f .f32, K.f .f32] y1⟩, ⟨true, .rows [K.f .f32, K.f .f32, K.f .f32] (r).2⟩]))
def S_laws_toBallS_L0 (F : FOps) : Sm := ⟨[0, 3, 4], [31, 23, 3], [3], fun vals hp => match vals, hp with
  | [V.at (A.sl 0), V.at (A.sl 1), V.at (A.int .i64 y0)], [⟨false, .rows [K.f .f32, K.f .f32, K.f .f32] y1⟩, ⟨true, .rows [K.f .f32, K.f .f32, K.f .f32] y2⟩] => some (R_laws_toBallS_L0 y1 (Pure.laws_toBallS_L0 F y1 ((Int.ofNat y1.length) - y0 + 1).toNat y0 y2))
  | _, _ => none⟩
theorem l_laws_toBallS_L0 (F : FOps) (y1 : List (List Int)) : ∀ (fuel : Nat) (y0 : Int) (y2 : List (List Int)), (Pure.laws_toBallS_L0 F y1 fuel y0 y2).1 = true → loopOf (cxS F tyl [(38, c_laws_toBall F)] [] [] 0) 1 23 0 [0, 3, 4] [31, 23, 3] [3] (loopB 0 (codeOf Try.f56)) fuel [V.at (A.sl 0), V.at (A.sl 1), V.at (A.int .i64 y0)] [⟨false, .rows [K.f .f32, K.f .f32, K.f .f32] y1⟩, ⟨true, .rows [K.f .f32, K.f .f32, K.f .f32] y2⟩] = resOf (R_laws_toBallS_L0 y1 (Pure.laws_toBallS_L0 F y1 fuel y0 y2)) := by
  intro fuel
  induction fuel with
  | zero => intro y0 y2 h; exact absurd h Bool.false_ne_true
  | succ n ih =>
    intro y0 y2
    have h0 : roundOf (cxS F tyl [(38, c_laws_toBall F)] [] [] 0) 1 23 0 [0, 3, 4] [31, 23, 3] [3] (loopB 0 (codeOf Try.f56)) [V.at (A.sl 0), V.at (A.sl 1), V.at (A.int .i64 y0)] [⟨false, .rows [K.f .f32, K.f .f32, K.f .f32] y1⟩, ⟨true, .rows [K.f .f32, K.f .f32, K.f .f32] y2⟩] = (bif decide (y0 < (Int.ofNat y1.length)) then bif decide (0 ≤ y0) then bif decide (y0 < (Int.ofNat y1.length)) then bif decide (0 ≤ y0) then bif decide (y0 < (Int.ofNat y2.length)) then some (true, (Ex.normal, ([V.at (A.sl 0), V.at (A.sl 1), V.at (A.int .i64 (IntKind.wrap .i64 (y0 + 1)))], [⟨false, .rows [K.f .f32, K.f .f32, K.f .f32] y1⟩, ⟨true, .rows [K.f .f32, K.f .f32, K.f .f32] (List.set y2 (Int.toNat y0) [List.getD (List.getD y1 (Int.toNat y0) []) 0 0, List.getD (List.getD y1 (Int.toNat y0) []) 1 0, List.getD (List.getD y1 (Int.toNat y0) []) 2 0])⟩]))) else none else none else none else none else some (false, (Ex.normal, ([V.at (A.sl 1)], [⟨false, .rows [K.f .f32, K.f .f32, K.f .f32] y1⟩, ⟨true, .rows [K.f .f32, K.f .f32, K.f .f32] y2⟩])))) := by kernel_rfl
    unfold loopOf
    rw [h0]
    unfold Pure.laws_toBallS_L0
    cases (decide (y0 < (Int.ofNat y1.length))) with
    | true =>
      cases (decide (0 ≤ y0)) with
      | true =>
        cases (decide (y0 < (Int.ofNat y2.length))) with
        | true =>
          exact ih _ _
        | false =>
          intro h; exact absurd h Bool.false_ne_true
      | false =>
        intro h; exact absurd h Bool.false_ne_true
    | false =>
      intro _; rfl
theorem t_laws_toBallS_L0 : SmTo Try.prog 1 23 (S_laws_toBallS_L0 real) 0 (.loop (loopB 0 (codeOf Try.f56))) := by
  refine smTo_ev (cl := [(38, c_laws_toBall real)]) (ef := []) (sm := []) (un := 0) prog_ok (allOK_cons ok_laws_toBall allOK_nil) smL_nil ?_
  intro vals hp q r h hq
  unfold S_laws_toBallS_L0 at h
  dsimp only at h
  split at h
  · rename_i y0 y1 y2
    obtain rfl := Option.some.inj h
    have h1 := hq
    unfold resOf at h1
    rw [chk_some] at h1
    exact ⟨_, (l_laws_toBallS_L0 real y1 _ y0 y2 h1.1).trans hq⟩
  · cases h
def Pure.laws_toBallS (F : FOps) (x0 : List (List Int)) : List (List Int) := Prod.snd (Pure.laws_toBallS_L0 F x0 (Nat.succ (x0.length + 0)) 0 (List.replicate (Int.toNat (Int.ofNat x0.length)) [0, 0, 0]))
def Pure.laws_toBallS_ok (F : FOps) (x0 : List (List Int)) : Bool := bif (Int.ofNat x0.length) == (Int.ofNat x0.length) then bif decide ((Int.ofNat x0.length) ≤ 1073741824) then Prod.fst (Pure.laws_toBallS_L0 F x0 (Nat.succ (x0.length + 0)) 0 (List.replicate (Int.toNat (Int.ofNat x0.length)) [0, 0, 0])) else false else false
def c_laws_toBallS (F : FOps) : Con
  | [V.at (A.sl 0)], [⟨false, .rows [K.f .f32, K.f .f32, K.f .f32] x0⟩] => some (Pure.laws_toBallS_ok F x0, ⟨V.at (A.sl 1), none, [⟨true, .rows [K.f .f32, K.f .f32, K.f .f32] (Pure.laws_toBallS F x0)⟩]⟩)
  | _, _ => none
theorem e_laws_toBallS (F : FOps) (x0 : List (List Int)) : Pure.laws_toBallS_ok F x0 = true → evFn (cxS F tyl [(38, c_laws_toBall F)] [] [(0, S_laws_toBallS_L0 F)] 0) Try.f56 false [V.at (A.sl 0)] [⟨false, .rows [K.f .f32, K.f .f32, K.f .f32] x0⟩] = some ⟨V.at (A.sl 1), none, [⟨true, .rows [K.f .f32, K.f .f32, K.f .f32] (Pure.laws_toBallS F x0)⟩]⟩ := by
  have h0 : evFn (cxS F tyl [(38, c_laws_toBall F)] [] [(0, S_laws_toBallS_L0 F)] 0) Try.f56 false [V.at (A.sl 0)] [⟨false, .rows [K.f .f32, K.f .f32, K.f .f32] x0⟩] = bif (Int.ofNat x0.length) == (Int.ofNat x0.length) then bif decide ((Int.ofNat x0.length) ≤ 1073741824) then bif Prod.fst (Pure.laws_toBallS_L0 F x0 (Nat.succ (x0.length + 0)) 0 (List.replicate (Int.toNat (Int.ofNat x0.length)) [0, 0, 0])) then some ⟨V.at (A.sl 1), none, [⟨true, .rows [K.f .f32, K.f .f32, K.f .f32] (Prod.snd (Pure.laws_toBallS_L0 F x0 (Nat.succ (x0.length + 0)) 0 (List.replicate (Int.toNat (Int.ofNat x0.length)) [0, 0, 0])))⟩]⟩ else none else none else none := by kernel_rfl
  rw [h0]
  unfold Pure.laws_toBallS Pure.laws_toBallS_ok
  cases ((Int.ofNat x0.length) == (Int.ofNat x0.length)) with
  | true =>
    cases (decide ((Int.ofNat x0.length) ≤ 1073741824)) with
    | true =>
      cases (Prod.fst (Pure.laws_toBallS_L0 F x0 (Nat.succ (x0.length + 0)) 0 (List.replicate (Int.toNat (Int.ofNat x0.length)) [0, 0, 0]))) with
      | true =>
        intro _; rfl
      | false =>
        intro h; exact absurd h Bool.false_ne_true
    | false =>
      intro h; exact absurd h Bool.false_ne_true
  | false =>
    intro h; exact absurd h Bool.false_ne_true
theorem ok_laws_toBallS : CallOK Try.prog 56 (c_laws_toBallS real) := by
  refine callOK_of fun args h ret hc => ?_
  unfold c_laws_toBallS at hc
  split at hc
  · rename_i x0
    obtain ⟨hok, rfl⟩ := some_ret hc
    exact holds_ev prog_ok (allOK_cons ok_laws_toBall allOK_nil) Try.func56 rfl rfl (smL_cons (body := .loop (loopB 0 (codeOf Try.f56))) (by kernel_rfl) t_laws_toBallS_L0 smL_nil) rfl (e_laws_toBallS real x0 hok)
  · cases hc
def Pure.laws_toRow_ok (F : FOps) (x0 : List (List Int)) (x1 : Int) : Bool := Pure.laws_toBallS_ok F x0
def c_laws_toRow (F : FOps) : Con
  | [V.agg [A.sl 0, A.fl .f32 x1]], [⟨false, .rows [K.f .f32, K.f .f32, K.f .f32] x0⟩] => some (Pure.laws_toRow_ok F x0 x1, ⟨V.agg [A.sl 1, A.fl .f32 x1], none, [⟨true, .rows [K.f .f32, K.f .f32, K.f .f32] (Pure.laws_toBallS F x0)⟩]⟩)
  | _, _ => none
theorem e_laws_toRow (F : FOps) (x0 : List (List Int)) (x1 : Int) : Pure.laws_toRow_ok F x0 x1 = true → evFn (cxS F tyl [(56, c_laws_toBallS F)] [] [] 0) Try.f21 false [V.agg [A.sl 0, A.fl .f32 x1]] [⟨false, .rows [K.f .f32, K.f .f32, K.f .f32] x0⟩] = some ⟨V.agg [A.sl 1, A.fl .f32 x1], none, [⟨true, .rows [K.f .f32, K.f .f32, K.f .f32] (Pure.laws_toBallS F x0)⟩]⟩ := by
  have h0 : evFn (cxS F tyl [(56, c_laws_toBallS F)] [] [] 0) Try.f21 false [V.agg [A.sl 0, A.fl .f32 x1]] [⟨false, .rows [K.f .f32, K.f .f32, K.f .f32] x0⟩] = bif Pure.laws_toBallS_ok F x0 then some ⟨V.agg [A.sl 1, A.fl .f32 x1], none, [⟨true, .rows [K.f .f32, K.f .f32, K.f .f32] (Pure.laws_toBallS F x0)⟩]⟩ else none := by kernel_rfl
  rw [h0]
  unfold Pure.laws_toRow_ok
  cases (Pure.laws_toBallS_ok F x0) with
  | true =>
    intro _; rfl
  | false =>
    intro h; exact absurd h Bool.false_ne_true
theorem ok_laws_toRow : CallOK Try.prog 21 (c_laws_toRow real) := by
  refine callOK_of fun args h ret hc => ?_
  unfold c_laws_toRow at hc
  split at hc
  · rename_i x1 x0
    obtain ⟨hok, rfl⟩ := some_ret hc
    exact holds_ev prog_ok (allOK_cons ok_laws_toBallS allOK_nil) Try.func21 rfl rfl smL_nil rfl (e_laws_toRow real x0 x1 hok)
  · cases hc
def Pure.spec_MirrorRow_L0 (F : FOps) (y1 : List (List Int)) (y2 y3 y4 : Int) (y5 : List (List Int)) : Nat → Int → (List (List Int)) → (Bool × (List (List Int)))
  | 0, _, _ => (false, [])
  | n + 1, y0, y6 => bif (decide (y0 ≥ 0)) then (bif (decide (0 ≤ y0)) then (bif (decide (y0 < (Int.ofNat y1.length))) then (bif (decide ((Nat.succ y6.length) ≤ 1073741824)) then (Pure.spec_MirrorRow_L0 F y1 y2 y3 y4 y5 n (IntKind.wrap .i64 (y0 - 1)) (y6 ++ [[F.neg .f32 ((y1.getD y0.toNat []).getD 0 0), F.neg .f32 ((y1.getD y0.toNat []).getD 1 0), List.getD (List.getD y1 (Int.toNat y0) []) 2 0]])) else ((false, []))) else ((false, []))) else ((false, []))) else ((true, y6))
def R_spec_MirrorRow_L0 (y1 : List (List Int)) (y3 y4 : Int) (y5 : List (List Int)) (r : (Bool × (List (List Int)))) : Bool × Ends := ((r).1, (.one Ex.normal [V.at (A.ptr 1 0 0), V.at (A.ptr 2 0 0)] [⟨false, .rows [K.f .f32, K.f .f32, K.f .f32] y1⟩, ⟨true, .box [A.sl 3, A.fl .f32 y3]⟩, ⟨true, .box [A.sl 4, A.fl .f32 y4]⟩, ⟨true, .rows [K.f .f32, K.f .f32, K.f .f32] y5⟩, ⟨true, .rows [K.f .f32, K.f .f32, K.f .f32] (r).2⟩]))
def S_spec_MirrorRow_L0 (F : FOps) : Sm := ⟨[1, 2, 4, 5], [0, 0, 0, 3, 25], [2, 4], fun vals hp => match vals, hp with
  | [V.at (A.ptr 1 0 0), V.at (A.ptr 2 0 0), V.at (A.ptr 3 0 0), V.at (A.int .i64 y0)], [⟨false, .rows [K.f .f32, K.f .f32, K.f .f32] y1⟩, ⟨true, .box [A.sl 0, A.fl .f32 y2]⟩, ⟨true, .box [A.sl 4, A.fl .f32 y3]⟩, ⟨true, .box [A.sl 5, A.fl .f32 y4]⟩, ⟨true, .rows [K.f .f32, K.f .f32, K.f .f32] y5⟩, ⟨true, .rows [K.f .f32, K.f .f32, K.f .f32] y6⟩] => some (R_spec_MirrorRow_L0 y1 y3 y4 y5 (Pure.spec_MirrorRow_L0 F y1 y2 y3 y4 y5 (y0 - 0 + 2).toNat y0 y6))
  | _, _ => none⟩
theorem l_spec_MirrorRow_L0 (F : FOps) (y1 : List (List Int)) (y2 y3 y4 : Int) (y5 : List (List Int)) : ∀ (fuel : Nat) (y0 : Int) (y6 : List (List Int)), (Pure.spec_MirrorRow_L0 F y1 y2 y3 y4 y5 fuel y0 y6).1 = true → loopOf (cxS F tyl [(54, c_spec_l06Is F)] [] [] 0) 1 42 0 [1, 2, 4, 5] [0, 0, 0, 3, 25] [2, 4] (loopB 0 (codeOf Try.f35)) fuel [V.at (A.ptr 1 0 0), V.at (A.ptr 2 0 0), V.at (A.ptr 3 0 0), V.at (A.int .i64 y0)] [⟨false, .rows [K.f .f32, K.f .f32, K.f .f32] y1⟩, ⟨true, .box [A.sl 0, A.fl .f32 y2]⟩, ⟨true, .box [A.sl 4, A.fl .f32 y3]⟩, ⟨true, .box [A.sl 5, A.fl .f32 y4]⟩, ⟨true, .rows [K.f .f32, K.f .f32, K.f .f32] y5⟩, ⟨true, .rows [K.f .f32, K.f .f32, K.f .f32] y6⟩] = resOf (R_spec_MirrorRow_L0 y1 y3 y4 y5 (Pure.spec_MirrorRow_L0 F y1 y2 y3 y4 y5 fuel y0 y6)) := by
  intro fuel
  induction fuel with
  | zero => intro y0 y6 h; exact absurd h Bool.false_ne_true
  | succ n ih =>
    intro y0 y6
    have h0 : roundOf (cxS F tyl [(54, c_spec_l06Is F)] [] [] 0) 1 42 0 [1, 2, 4, 5] [0, 0, 0, 3, 25] [2, 4] (loopB 0 (codeOf Try.f35)) [V.at (A.ptr 1 0 0), V.at (A.ptr 2 0 0), V.at (A.ptr 3 0 0), V.at (A.int .i64 y0)] [⟨false, .rows [K.f .f32, K.f .f32, K.f .f32] y1⟩, ⟨true, .box [A.sl 0, A.fl .f32 y2]⟩, ⟨true, .box [A.sl 4, A.fl .f32 y3]⟩, ⟨true, .box [A.sl 5, A.fl .f32 y4]⟩, ⟨true, .rows [K.f .f32, K.f .f32, K.f .f32] y5⟩, ⟨true, .rows [K.f .f32, K.f .f32, K.f .f32] y6⟩] = (bif decide (y0 ≥ 0) then bif decide (0 ≤ y0) then bif decide (y0 < (Int.ofNat y1.length)) then bif decide ((Nat.succ y6.length) ≤ 1073741824) then some (true, (Ex.normal, ([V.at (A.ptr 1 0 0), V.at (A.ptr 2 0 0), V.at (A.ptr 3 0 0), V.at (A.int .i64 (IntKind.wrap .i64 (y0 - 1)))], [⟨false, .rows [K.f .f32, K.f .f32, K.f .f32] y1⟩, ⟨true, .box [A.sl 0, A.fl .f32 y2]⟩, ⟨true, .box [A.sl 4, A.fl .f32 y3]⟩, ⟨true, .box [A.sl 5, A.fl .f32 y4]⟩, ⟨true, .rows [K.f .f32, K.f .f32, K.f .f32] y5⟩, ⟨true, .rows [K.f .f32, K.f .f32, K.f .f32] (y6 ++ [[F.neg .f32 ((y1.getD y0.toNat []).getD 0 0), F.neg .f32 ((y1.getD y0.toNat []).getD 1 0), List.getD (List.getD y1 (Int.toNat y0) []) 2 0]])⟩]))) else none else none else none else some (false, (Ex.normal, ([V.at (A.ptr 1 0 0), V.at (A.ptr 2 0 0)], [⟨false, .rows [K.f .f32, K.f .f32, K.f .f32] y1⟩, ⟨true, .box [A.sl 3, A.fl .f32 y3]⟩, ⟨true, .box [A.sl 4, A.fl .f32 y4]⟩, ⟨true, .rows [K.f .f32, K.f .f32, K.f .f32] y5⟩, ⟨true, .rows [K.f .f32, K.f .f32, K.f .f32] y6⟩])))) := by kernel_rfl
    unfold loopOf
    rw [h0]
    unfold Pure.spec_MirrorRow_L0
    cases (decide (y0 ≥ 0)) with
    | true =>
      cases (decide (y0 < (Int.ofNat y1.length))) with
      | true =>
        cases (decide ((Nat.succ y6.length) ≤ 1073741824)) with
        | true =>
          exact ih _ _
        | false =>
          intro h; exact absurd h Bool.false_ne_true
      | false =>
        intro h; exact absurd h Bool.false_ne_true
    | false =>
      intro _; rfl
theorem t_spec_MirrorRow_L0 : SmTo Try.prog 1 42 (S_spec_MirrorRow_L0 real) 0 (.loop (loopB 0 (codeOf Try.f35))) := by
  refine smTo_ev (cl := [(54, c_spec_l06Is real)]) (ef := []) (sm := []) (un := 0) prog_ok (allOK_cons ok_spec_l06Is allOK_nil) smL_nil ?_
  intro vals hp q r h hq
  unfold S_spec_MirrorRow_L0 at h
  dsimp only at h
  split at h
  · rename_i y0 y1 y2 y3 y4 y5 y6
    obtain rfl := Option.some.inj h
    have h1 := hq
    unfold resOf at h1
    rw [chk_some] at h1
    exact ⟨_, (l_spec_MirrorRow_L0 real y1 y2 y3 y4 y5 _ y0 y6 h1.1).trans hq⟩
  · cases h
def Pure.spec_MirrorRow (F : FOps) (x0 : List (List Int)) (x1 : Int) : Int := bif Pure.spec_l06Is F x0 x1 then x1 else 0
def Pure.spec_MirrorRow_1 (F : FOps) (x0 : List (List Int)) (x1 : Int) : List (List Int) := bif Pure.spec_l06Is F x0 x1 then Prod.snd (Pure.spec_MirrorRow_L0 F x0 x1 0 x1 [] (Int.toNat (((IntKind.wrap .i64 ((Int.ofNat x0.length) - 1)) - 0) + 2)) (IntKind.wrap .i64 ((Int.ofNat x0.length) - 1)) []) else []
def Pure.spec_MirrorRow_ok (F : FOps) (x0 : List (List Int)) (x1 : Int) : Bool := bif Pure.spec_l06Is_ok F x0 x1 then bif Pure.spec_l06Is F x0 x1 then Prod.fst (Pure.spec_MirrorRow_L0 F x0 x1 0 x1 [] (Int.toNat (((IntKind.wrap .i64 ((Int.ofNat x0.length) - 1)) - 0) + 2)) (IntKind.wrap .i64 ((Int.ofNat x0.length) - 1)) []) else true else false
def c_spec_MirrorRow (F : FOps) : Con
  | [V.agg [A.sl 0, A.fl .f32 x1]], [⟨false, .rows [K.f .f32, K.f .f32, K.f .f32] x0⟩] => some (Pure.spec_MirrorRow_ok F x0 x1, ⟨V.tup [(true, [A.sl 1, A.fl .f32 (Pure.spec_MirrorRow F x0 x1)]), (false, [A.bool (Pure.spec_l06Is F x0 x1)])], none, [⟨true, .rows [K.f .f32, K.f .f32, K.f .f32] (Pure.spec_MirrorRow_1 F x0 x1)⟩]⟩)
  | _, _ => none
theorem e_spec_MirrorRow (F : FOps) (x0 : List (List Int)) (x1 : Int) : Pure.spec_MirrorRow_ok F x0 x1 = true → evFn (cxS F tyl [(54, c_spec_l06Is F)] [] [(0, S_spec_MirrorRow_L0 F)] 0) Try.f35 false [V.agg [A.sl 0, A.fl .f32 x1]] [⟨false, .rows [K.f .f32, K.f .f32, K.f .f32] x0⟩] = some ⟨V.tup [(true, [A.sl 1, A.fl .f32 (Pure.spec_MirrorRow F x0 x1)]), (false, [A.bool (Pure.spec_l06Is F x0 x1)])], none, [⟨true, .rows [K.f .f32, K.f .f32, K.f .f32] (Pure.spec_MirrorRow_1 F x0 x1)⟩]⟩ := by
  have h0 : evFn (cxS F tyl [(54, c_spec_l06Is F)] [] [(0, S_spec_MirrorRow_L0 F)] 0) Try.f35 false [V.agg [A.sl 0, A.fl .f32 x1]] [⟨false, .rows [K.f .f32, K.f .f32, K.f .f32] x0⟩] = bif Pure.spec_l06Is_ok F x0 x1 then bif Bool.not (Pure.spec_l06Is F x0 x1) then some ⟨V.tup [(true, [A.sl 1, A.fl .f32 0]), (false, [A.bool false])], none, [⟨true, .rows [K.f .f32, K.f .f32, K.f .f32] []⟩]⟩ else bif Prod.fst (Pure.spec_MirrorRow_L0 F x0 x1 0 x1 [] (Int.toNat (((IntKind.wrap .i64 ((Int.ofNat x0.length) - 1)) - 0) + 2)) (IntKind.wrap .i64 ((Int.ofNat x0.length) - 1)) []) then some ⟨V.tup [(true, [A.sl 1, A.fl .f32 x1]), (false, [A.bool true])], none, [⟨true, .rows [K.f .f32, K.f .f32, K.f .f32] (Prod.snd (Pure.spec_MirrorRow_L0 F x0 x1 0 x1 [] (Int.toNat (((IntKind.wrap .i64 ((Int.ofNat x0.length) - 1)) - 0) + 2)) (IntKind.wrap .i64 ((Int.ofNat x0.length) - 1)) []))⟩]⟩ else none else none := by kernel_rfl
  rw [h0]
  unfold Pure.spec_MirrorRow Pure.spec_MirrorRow_1 Pure.spec_MirrorRow_ok
  cases (Pure.spec_l06Is_ok F x0 x1) with
  | true =>
    cases (Pure.spec_l06Is F x0 x1) with
    | true =>
      cases (Prod.fst (Pure.spec_MirrorRow_L0 F x0 x1 0 x1 [] (Int.toNat (((IntKind.wrap .i64 ((Int.ofNat x0.length) - 1)) - 0) + 2)) (IntKind.wrap .i64 ((Int.ofNat x0.length) - 1)) [])) with
      | true =>
        intro _; rfl
      | false =>
        intro h; exact absurd h Bool.false_ne_true
    | false =>
      intro _; rfl
  | false =>
    intro h; exact absurd h Bool.false_ne_true
theorem ok_spec_MirrorRow : CallOK Try.prog 35 (c_spec_MirrorRow real) := by
  refine callOK_of fun args h ret hc => ?_
  unfold c_spec_MirrorRow at hc
  split at hc
  · rename_i x1 x0
    obtain ⟨hok, rfl⟩ := some_ret hc
    exact holds_ev prog_ok (allOK_cons ok_spec_l06Is allOK_nil) Try.func35 rfl rfl (smL_cons (body := .loop (loopB 0 (codeOf Try.f35))) (by kernel_rfl) t_spec_MirrorRow_L0 smL_nil) rfl (e_spec_MirrorRow real x0 x1 hok)
  · cases hc
def Pure.impl_MirrorRow_ok (F : FOps) (x0 : List (List Int)) (x1 : Int) : Bool := Pure.impl_changedRow_mirror_ok F x0 x1
def c_impl_MirrorRow (F : FOps) : Con
  | [V.agg [A.sl 0, A.fl .f32 x1]], [⟨false, .rows [K.f .f32, K.f .f32, K.f .f32] x0⟩] => some (Pure.impl_MirrorRow_ok F x0 x1, ⟨V.tup [(true, [A.sl 1, A.fl .f32 (Pure.impl_changedRow_mirror F x0 x1)]), (false, [A.bool (Pure.impl_changedRow_mirror_1 F x0 x1)])], none, [⟨true, .rows [K.f .f32, K.f .f32, K.f .f32] (Pure.impl_changedRow_mirror_2 F x0 x1)⟩]⟩)
  | _, _ => none
theorem e_impl_MirrorRow (F : FOps) (x0 : List (List Int)) (x1 : Int) : Pure.impl_MirrorRow_ok F x0 x1 = true → evFn (cxS F tyl [(66, c_impl_changedRow_mirror F), (67, c_impl_MirrorRow_c1 F)] [67] [] 0) Try.f36 false [V.agg [A.sl 0, A.fl .f32 x1]] [⟨false, .rows [K.f .f32, K.f .f32, K.f .f32] x0⟩] = some ⟨V.tup [(true, [A.sl 1, A.fl .f32 (Pure.impl_changedRow_mirror F x0 x1)]), (false, [A.bool (Pure.impl_changedRow_mirror_1 F x0 x1)])], none, [⟨true, .rows [K.f .f32, K.f .f32, K.f .f32] (Pure.impl_changedRow_mirror_2 F x0 x1)⟩]⟩ := by
  have h0 : evFn (cxS F tyl [(66, c_impl_changedRow_mirror F), (67, c_impl_MirrorRow_c1 F)] [67] [] 0) Try.f36 false [V.agg [A.sl 0, A.fl .f32 x1]] [⟨false, .rows [K.f .f32, K.f .f32, K.f .f32] x0⟩] = bif Pure.impl_changedRow_mirror_ok F x0 x1 then some ⟨V.tup [(true, [A.sl 1, A.fl .f32 (Pure.impl_changedRow_mirror F x0 x1)]), (false, [A.bool (Pure.impl_changedRow_mirror_1 F x0 x1)])], none, [⟨true, .rows [K.f .f32, K.f .f32, K.f .f32] (Pure.impl_changedRow_mirror_2 F x0 x1)⟩]⟩ else none := by kernel_rfl
  rw [h0]
  unfold Pure.impl_MirrorRow_ok
  cases (Pure.impl_changedRow_mirror_ok F x0 x1) with
  | true =>
    intro _; rfl
  | false =>
    intro h; exact absurd h Bool.false_ne_true
theorem ok_impl_MirrorRow : CallOK Try.prog 36 (c_impl_MirrorRow real) := by
  refine callOK_of fun args h ret hc => ?_
  unfold c_impl_MirrorRow at hc
  split at hc
  · rename_i x1 x0
    obtain ⟨hok, rfl⟩ := some_ret hc
    exact holds_ev prog_ok (allOK_cons ok_impl_changedRow_mirror (allOK_cons ok_impl_MirrorRow_c1 allOK_nil)) Try.func36 rfl rfl smL_nil rfl (e_impl_MirrorRow real x0 x1 hok)
  · cases hc
def Pure.laws_FnExactMirrorRow (F : FOps) (x0 : List (List Int)) (x1 : Int) : Bool := bif decide ((Pure.laws_szRow F x0 x1 1048576) < 0) then true else bif Pure.laws_eqRow F (Pure.impl_changedRow_mirror_2 F (Pure.laws_toBallS F x0) x1) (Pure.impl_changedRow_mirror F (Pure.laws_toBallS F x0) x1) (Pure.spec_MirrorRow_1 F (Pure.laws_toBallS F x0) x1) (Pure.spec_MirrorRow F (Pure.laws_toBallS F x0) x1) then bif (Pure.impl_changedRow_mirror_1 F (Pure.laws_toBallS F x0) x1) == (Pure.spec_l06Is F (Pure.laws_toBallS F x0) x1) then bif Pure.laws_eqRow F (Pure.laws_toBallS F x0) x1 (Pure.laws_toBallS F x0) x1 then bif decide ((Pure.laws_markBallS F (Pure.laws_toBallS F x0) 1) < 0) then false else bif decide ((Pure.laws_heldRow F (Pure.laws_markBallS_1 F (Pure.impl_changedRow_mirror_2 F (Pure.laws_toBallS F x0) x1) 1) (Pure.impl_changedRow_mirror F (Pure.laws_toBallS F x0) x1) 1) < 0) then false else bif (Pure.laws_heldRow F (Pure.laws_markBallS_1 F (Pure.impl_changedRow_mirror_2 F (Pure.laws_toBallS F x0) x1) 1) (Pure.impl_changedRow_mirror F (Pure.laws_toBallS F x0) x1) 1) != (Pure.laws_markBallS F (Pure.impl_changedRow_mirror_2 F (Pure.laws_toBallS F x0) x1) 1) then false else true else false else false else false
def Pure.laws_FnExactMirrorRow_ok (F : FOps) (x0 : List (List Int)) (x1 : Int) : Bool := bif decide ((Pure.laws_szRow F x0 x1 1048576) < 0) then true else bif Pure.laws_toRow_ok F x0 x1 then bif Pure.spec_MirrorRow_ok F (Pure.laws_toBallS F x0) x1 then bif Pure.impl_MirrorRow_ok F (Pure.laws_toBallS F x0) x1 then bif Pure.laws_eqRow_ok F (Pure.impl_changedRow_mirror_2 F (Pure.laws_toBallS F x0) x1) (Pure.impl_changedRow_mirror F (Pure.laws_toBallS F x0) x1) (Pure.spec_MirrorRow_1 F (Pure.laws_toBallS F x0) x1) (Pure.spec_MirrorRow F (Pure.laws_toBallS F x0) x1) then bif Pure.laws_eqRow F (Pure.impl_changedRow_mirror_2 F (Pure.laws_toBallS F x0) x1) (Pure.impl_changedRow_mirror F (Pure.laws_toBallS F x0) x1) (Pure.spec_MirrorRow_1 F (Pure.laws_toBallS F x0) x1) (Pure.spec_MirrorRow F (Pure.laws_toBallS F x0) x1) then bif (Pure.impl_changedRow_mirror_1 F (Pure.laws_toBallS F x0) x1) == (Pure.spec_l06Is F (Pure.laws_toBallS F x0) x1) then bif Pure.laws_eqRow_ok F (Pure.laws_toBallS F x0) x1 (Pure.laws_toBallS F x0) x1 then bif Pure.laws_eqRow F (Pure.laws_toBallS F x0) x1 (Pure.laws_toBallS F x0) x1 then bif Pure.laws_markRow_ok F (Pure.laws_toBallS F x0) x1 1 then bif decide ((Pure.laws_markBallS F (Pure.laws_toBallS F x0) 1) < 0) then true else bif Pure.laws_markRow_ok F (Pure.impl_changedRow_mirror_2 F (Pure.laws_toBallS F x0) x1) (Pure.impl_changedRow_mirror F (Pure.laws_toBallS F x0) x1) 1 then Pure.laws_heldRow_ok F (Pure.laws_markBallS_1 F (Pure.impl_changedRow_mirror_2 F (Pure.laws_toBallS F x0) x1) 1) (Pure.impl_changedRow_mirror F (Pure.laws_toBallS F x0) x1) 1 else false else false else true else false else true else true else false else false else false else false
def c_laws_FnExactMirrorRow (F : FOps) : Con
  | [V.agg [A.sl 0, A.fl .f32 x1]], [⟨false, .rows [K.f .f32, K.f .f32, K.f .f32] x0⟩] => some (Pure.laws_FnExactMirrorRow_ok F x0 x1, ⟨V.at (A.bool (Pure.laws_FnExactMirrorRow F x0 x1)), none, []⟩)
  | _, _ => none
theorem e_laws_FnExactMirrorRow (F : FOps) (x0 : List (List Int)) (x1 : Int) : Pure.laws_FnExactMirrorRow_ok F x0 x1 = true → evFn (cxS F tyl [(19, c_laws_szRow F), (21, c_laws_toRow F), (35, c_spec_MirrorRow F), (36, c_impl_MirrorRow F), (16, c_laws_eqRow F), (17, c_laws_markRow F), (18, c_laws_heldRow F)] [17] [] 0) Try.f9 false [V.agg [A.sl 0, A.fl .f32 x1]] [⟨false, .rows [K.f .f32, K.f .f32, K.f .f32] x0⟩] = some ⟨V.at (A.bool (Pure.laws_FnExactMirrorRow F x0 x1)), none, []⟩ := by
  have h0 : evFn (cxS F tyl [(19, c_laws_szRow F), (21, c_laws_toRow F), (35, c_spec_MirrorRow F), (36, c_impl_MirrorRow F), (16, c_laws_eqRow F), (17, c_laws_markRow F), (18, c_laws_heldRow F)] [17] [] 0) Try.f9 false [V.agg [A.sl 0, A.fl .f32 x1]] [⟨false, .rows [K.f .f32, K.f .f32, K.f .f32] x0⟩] = bif decide ((Pure.laws_szRow F x0 x1 1048576) < 0) then some ⟨V.at (A.bool true), none, []⟩ else bif Pure.laws_toRow_ok F x0 x1 then bif Pure.spec_MirrorRow_ok F (Pure.laws_toBallS F x0) x1 then bif Pure.laws_toRow_ok F x0 x1 then bif Pure.impl_MirrorRow_ok F (Pure.laws_toBallS F x0) x1 then bif Pure.laws_eqRow_ok F (Pure.impl_changedRow_mirror_2 F (Pure.laws_toBallS F x0) x1) (Pure.impl_changedRow_mirror F (Pure.laws_toBallS F x0) x1) (Pure.spec_MirrorRow_1 F (Pure.laws_toBallS F x0) x1) (Pure.spec_MirrorRow F (Pure.laws_toBallS F x0) x1) then bif Bool.not (Pure.laws_eqRow F (Pure.impl_changedRow_mirror_2 F (Pure.laws_toBallS F x0) x1) (Pure.impl_changedRow_mirror F (Pure.laws_toBallS F x0) x1) (Pure.spec_MirrorRow_1 F (Pure.laws_toBallS F x0) x1) (Pure.spec_MirrorRow F (Pure.laws_toBallS F x0) x1)) then some ⟨V.at (A.bool false), none, []⟩ else bif Bool.not ((Pure.impl_changedRow_mirror_1 F (Pure.laws_toBallS F x0) x1) == (Pure.spec_l06Is F (Pure.laws_toBallS F x0) x1)) then some ⟨V.at (A.bool false), none, []⟩ else bif Pure.laws_toRow_ok F x0 x1 then bif Pure.laws_eqRow_ok F (Pure.laws_toBallS F x0) x1 (Pure.laws_toBallS F x0) x1 then bif Bool.not (Pure.laws_eqRow F (Pure.laws_toBallS F x0) x1 (Pure.laws_toBallS F x0) x1) then some ⟨V.at (A.bool false), none, []⟩ else bif Pure.laws_markRow_ok F (Pure.laws_toBallS F x0) x1 1 then bif decide ((Pure.laws_markBallS F (Pure.laws_toBallS F x0) 1) < 0) then some ⟨V.at (A.bool false), none, []⟩ else bif Pure.laws_eqRow_ok F (Pure.impl_changedRow_mirror_2 F (Pure.laws_toBallS F x0) x1) (Pure.impl_changedRow_mirror F (Pure.laws_toBallS F x0) x1) (Pure.spec_MirrorRow_1 F (Pure.laws_toBallS F x0) x1) (Pure.spec_MirrorRow F (Pure.laws_toBallS F x0) x1) then bif Bool.not (Pure.laws_eqRow F (Pure.impl_changedRow_mirror_2 F (Pure.laws_toBallS F x0) x1) (Pure.impl_changedRow_mirror F (Pure.laws_toBallS F x0) x1) (Pure.spec_MirrorRow_1 F (Pure.laws_toBallS F x0) x1) (Pure.spec_MirrorRow F (Pure.laws_toBallS F x0) x1)) then some ⟨V.at (A.bool false), none, []⟩ else bif Bool.not ((Pure.impl_changedRow_mirror_1 F (Pure.laws_toBallS F x0) x1) == (Pure.spec_l06Is F (Pure.laws_toBallS F x0) x1)) then some ⟨V.at (A.bool false), none, []⟩ else bif Pure.laws_markRow_ok F (Pure.impl_changedRow_mirror_2 F (Pure.laws_toBallS F x0) x1) (Pure.impl_changedRow_mirror F (Pure.laws_toBallS F x0) x1) 1 then bif Pure.laws_heldRow_ok F (Pure.laws_markBallS_1 F (Pure.impl_changedRow_mirror_2 F (Pure.laws_toBallS F x0) x1) 1) (Pure.impl_changedRow_mirror F (Pure.laws_toBallS F x0) x1) 1 then bif decide ((Pure.laws_heldRow F (Pure.laws_markBallS_1 F (Pure.impl_changedRow_mirror_2 F (Pure.laws_toBallS F x0) x1) 1) (Pure.impl_changedRow_mirror F (Pure.laws_toBallS F x0) x1) 1) < 0) then some ⟨V.at (A.bool false), none, []⟩ else bif (Pure.laws_heldRow F (Pure.laws_markBallS_1 F (Pure.impl_changedRow_mirror_2 F (Pure.laws_toBallS F x0) x1) 1) (Pure.impl_changedRow_mirror F (Pure.laws_toBallS F x0) x1) 1) != (Pure.laws_markBallS F (Pure.impl_changedRow_mirror_2 F (Pure.laws_toBallS F x0) x1) 1) then some ⟨V.at (A.bool false), none, []⟩ else bif Pure.laws_toRow_ok F x0 x1 then bif Pure.impl_MirrorRow_ok F (Pure.laws_toBallS F x0) x1 then bif Pure.laws_eqRow_ok F (Pure.impl_changedRow_mirror_2 F (Pure.laws_toBallS F x0) x1) (Pure.impl_changedRow_mirror F (Pure.laws_toBallS F x0) x1) (Pure.spec_MirrorRow_1 F (Pure.laws_toBallS F x0) x1) (Pure.spec_MirrorRow F (Pure.laws_toBallS F x0) x1) then bif Bool.not (Pure.laws_eqRow F (Pure.impl_changedRow_mirror_2 F (Pure.laws_toBallS F x0) x1) (Pure.impl_changedRow_mirror F (Pure.laws_toBallS F x0) x1) (Pure.spec_MirrorRow_1 F (Pure.laws_toBallS F x0) x1) (Pure.spec_MirrorRow F (Pure.laws_toBallS F x0) x1)) then some ⟨V.at (A.bool false), none, []⟩ else bif Bool.not ((Pure.impl_changedRow_mirror_1 F (Pure.laws_toBallS F x0) x1) == (Pure.spec_l06Is F (Pure.laws_toBallS F x0) x1)) then some ⟨V.at (A.bool false), none, []⟩ else bif Pure.laws_heldRow_ok F (Pure.laws_markBallS_1 F (Pure.impl_changedRow_mirror_2 F (Pure.laws_toBallS F x0) x1) 1) (Pure.impl_changedRow_mirror F (Pure.laws_toBallS F x0) x1) 1 then bif decide ((Pure.laws_heldRow F (Pure.laws_markBallS_1 F (Pure.impl_changedRow_mirror_2 F (Pure.laws_toBallS F x0) x1) 1) (Pure.impl_changedRow_mirror F (Pure.laws_toBallS F x0) x1) 1) < 0) then some ⟨V.at (A.bool false), none, []⟩ else bif (Pure.laws_heldRow F (Pure.laws_markBallS_1 F (Pure.impl_changedRow_mirror_2 F (Pure.laws_toBallS F x0) x1) 1) (Pure.impl_changedRow_mirror F (Pure.laws_toBallS F x0) x1) 1) != (Pure.laws_markBallS F (Pure.impl_changedRow_mirror_2 F (Pure.laws_toBallS F x0) x1) 1) then some ⟨V.at (A.bool false), none, []⟩ else some ⟨V.at (A.bool true), none, []⟩ else none else none else none else none else none else none else none else none else none else none else none else none else none else none else none := by kernel_rfl
  rw [h0]
  unfold Pure.laws_FnExactMirrorRow Pure.laws_FnExactMirrorRow_ok
  cases (decide ((Pure.laws_szRow F x0 x1 1048576) < 0)) with
  | true =>
    intro _; rfl
  | false =>
    cases (Pure.laws_toRow_ok F x0 x1) with
    | true =>
      cases (Pure.spec_MirrorRow_ok F (Pure.laws_toBallS F x0) x1) with
      | true =>
        cases (Pure.impl_MirrorRow_ok F (Pure.laws_toBallS F x0) x1) with
        | true =>
          cases (Pure.laws_eqRow_ok F (Pure.impl_changedRow_mirror_2 F (Pure.laws_toBallS F x0) x1) (Pure.impl_changedRow_mirror F (Pure.laws_toBallS F x0) x1) (Pure.spec_MirrorRow_1 F (Pure.laws_toBallS F x0) x1) (Pure.spec_MirrorRow F (Pure.laws_toBallS F x0) x1)) with
          | true =>
            cases (Pure.laws_eqRow F (Pure.impl_changedRow_mirror_2 F (Pure.laws_toBallS F x0) x1) (Pure.impl_changedRow_mirror F (Pure.laws_toBallS F x0) x1) (Pure.spec_MirrorRow_1 F (Pure.laws_toBallS F x0) x1) (Pure.spec_MirrorRow F (Pure.laws_toBallS F x0) x1)) with
            | true =>
              cases ((Pure.impl_changedRow_mirror_1 F (Pure.laws_toBallS F x0) x1) == (Pure.spec_l06Is F (Pure.laws_toBallS F x0) x1)) with
              | true =>
                cases (Pure.laws_eqRow_ok F (Pure.laws_toBallS F x0) x1 (Pure.laws_toBallS F x0) x1) with
                | true =>
                  cases (Pure.laws_eqRow F (Pure.laws_toBallS F x0) x1 (Pure.laws_toBallS F x0) x1) with
                  | true =>
                    cases (Pure.laws_markRow_ok F (Pure.laws_toBallS F x0) x1 1) with
                    | true =>
                      cases (decide ((Pure.laws_markBallS F (Pure.laws_toBallS F x0) 1) < 0)) with
                      | true =>
                        intro _; rfl
                      | false =>
                        cases (Pure.laws_markRow_ok F (Pure.impl_changedRow_mirror_2 F (Pure.laws_toBallS F x0) x1) (Pure.impl_changedRow_mirror F (Pure.laws_toBallS F x0) x1) 1) with
                        | true =>
                          cases (Pure.laws_heldRow_ok F (Pure.laws_markBallS_1 F (Pure.impl_changedRow_mirror_2 F (Pure.laws_toBallS F x0) x1) 1) (Pure.impl_changedRow_mirror F (Pure.laws_toBallS F x0) x1) 1) with
                          | true =>
                            cases (decide ((Pure.laws_heldRow F (Pure.laws_markBallS_1 F (Pure.impl_changedRow_mirror_2 F (Pure.laws_toBallS F x0) x1) 1) (Pure.impl_changedRow_mirror F (Pure.laws_toBallS F x0) x1) 1) < 0)) with
                            | true =>
                              intro _; rfl
                            | false =>
                              cases ((Pure.laws_heldRow F (Pure.laws_markBallS_1 F (Pure.impl_changedRow_mirror_2 F (Pure.laws_toBallS F x0) x1) 1) (Pure.impl_changedRow_mirror F (Pure.laws_toBallS F x0) x1) 1) != (Pure.laws_markBallS F (Pure.impl_changedRow_mirror_2 F (Pure.laws_toBallS F x0) x1) 1)) with
                              | true =>
                                intro _; rfl
                              | false =>
                                intro _; rfl
                          | false =>
                            intro h; exact absurd h Bool.false_ne_true
                        | false =>
                          intro h; exact absurd h Bool.false_ne_true
                    | false =>
                      intro h; exact absurd h Bool.false_ne_true
                  | false =>
                    intro _; rfl
                | false =>
                  intro h; exact absurd h Bool.false_ne_true
              | false =>
                intro _; rfl
            | false =>
              intro _; rfl
          | false =>
            intro h; exact absurd h Bool.false_ne_true
        | false =>
          intro h; exact absurd h Bool.false_ne_true
      | false =>
        intro h; exact absurd h Bool.false_ne_true
    | false =>
      intro h; exact absurd h Bool.false_ne_true
theorem ok_laws_FnExactMirrorRow : CallOK Try.prog 9 (c_laws_FnExactMirrorRow real) := by
  refine callOK_of fun args h ret hc => ?_
  unfold c_laws_FnExactMirrorRow at hc
  split at hc
  · rename_i x1 x0
    obtain ⟨hok, rfl⟩ := some_ret hc
    exact holds_ev prog_ok (allOK_cons ok_laws_szRow (allOK_cons ok_laws_toRow (allOK_cons ok_spec_MirrorRow (allOK_cons ok_impl_MirrorRow (allOK_cons ok_laws_eqRow (allOK_cons ok_laws_markRow (allOK_cons ok_laws_heldRow allOK_nil))))))) Try.func9 rfl rfl smL_nil rfl (e_laws_FnExactMirrorRow real x0 x1 hok)
  · cases hc
end Go.Fx
