import Derived.Test.YtnlfpamdcohiiaaXr3g
import Derived.KernelRfl
namespace Go.Fx
open Go.Proofs
set_option maxRecDepth 100000
def Pure.impl_slopes_times_c1 (F : FOps) (x0 : Int) (x1 : Int) (x2 : Int) (x3 : Int) (x4 : Int) (x5 : Int) (x6 : Int) (x7 : Int) (x8 : Int) (x9 : Int) : Int := FOps.bin F BinOp.add FloatKind.f32 (FOps.bin F BinOp.mul FloatKind.f32 (List.getD (List.getD [[x2], [x3], [x4], [x5]] (Int.toNat x0) []) 0 0) (List.getD (List.getD [[x6], [x7], [x8], [x9]] (Int.toNat x1) []) 0 0)) (FOps.bin F BinOp.mul FloatKind.f32 (List.getD (List.getD [[x2], [x3], [x4], [x5]] (Int.toNat (IntKind.wrap IntKind.i64 (x0 + 1))) []) 0 0) (List.getD (List.getD [[x6], [x7], [x8], [x9]] (Int.toNat (IntKind.wrap IntKind.i64 (x1 + 2))) []) 0 0))
def Pure.impl_slopes_times_c1_ok (F : FOps) (x0 : Int) (x1 : Int) (x2 : Int) (x3 : Int) (x4 : Int) (x5 : Int) (x6 : Int) (x7 : Int) (x8 : Int) (x9 : Int) : Bool := bif Decidable.decide (0 ≤ x0) then bif Decidable.decide (x0 < 4) then bif Decidable.decide (0 ≤ x1) then bif Decidable.decide (x1 < 4) then bif Decidable.decide (0 ≤ (IntKind.wrap IntKind.i64 (x0 + 1))) then bif Decidable.decide ((IntKind.wrap IntKind.i64 (x0 + 1)) < 4) then bif Decidable.decide (0 ≤ (IntKind.wrap IntKind.i64 (x1 + 2))) then Decidable.decide ((IntKind.wrap IntKind.i64 (x1 + 2)) < 4) else false else false else false else false else false else false else false
def c_impl_slopes_times_c1 (F : FOps) : Con
  | [V.at (A.int IntKind.i64 x0), V.at (A.int IntKind.i64 x1), V.at (A.ptr 0 0 0), V.at (A.ptr 1 0 0)], [⟨false, OC.rows [K.f FloatKind.f32] [[x2], [x3], [x4], [x5]]⟩, ⟨false, OC.rows [K.f FloatKind.f32] [[x6], [x7], [x8], [x9]]⟩] => some (Pure.impl_slopes_times_c1_ok F x0 x1 x2 x3 x4 x5 x6 x7 x8 x9, ⟨V.at (A.fl FloatKind.f32 (Pure.impl_slopes_times_c1 F x0 x1 x2 x3 x4 x5 x6 x7 x8 x9)), none, []⟩)
  | _, _ => none
theorem e_impl_slopes_times_c1 (F : FOps) (x0 : Int) (x1 : Int) (x2 : Int) (x3 : Int) (x4 : Int) (x5 : Int) (x6 : Int) (x7 : Int) (x8 : Int) (x9 : Int) : Pure.impl_slopes_times_c1_ok F x0 x1 x2 x3 x4 x5 x6 x7 x8 x9 = true → evFn (cxS F tyl [] [] [] 0) Try.f115 false [V.at (A.int IntKind.i64 x0), V.at (A.int IntKind.i64 x1), V.at (A.ptr 0 0 0), V.at (A.ptr 1 0 0)] [⟨false, OC.rows [K.f FloatKind.f32] [[x2], [x3], [x4], [x5]]⟩, ⟨false, OC.rows [K.f FloatKind.f32] [[x6], [x7], [x8], [x9]]⟩] = some ⟨V.at (A.fl FloatKind.f32 (Pure.impl_slopes_times_c1 F x0 x1 x2 x3 x4 x5 x6 x7 x8 x9)), none, []⟩ := by
  have h0 : evFn (cxS F tyl [] [] [] 0) Try.f115 false [V.at (A.int IntKind.i64 x0), V.at (A.int IntKind.i64 x1), V.at (A.ptr 0 0 0), V.at (A.ptr 1 0 0)] [⟨false, OC.rows [K.f FloatKind.f32] [[x2], [x3], [x4], [x5]]⟩, ⟨false, OC.rows [K.f FloatKind.f32] [[x6], [x7], [x8], [x9]]⟩] = bif Decidable.decide (0 ≤ x0) then bif Decidable.decide (x0 < 4) then bif Decidable.decide (0 ≤ x1) then bif Decidable.decide (x1 < 4) then bif Decidable.decide (0 ≤ (IntKind.wrap IntKind.i64 (x0 + 1))) then bif Decidable.decide ((IntKind.wrap IntKind.i64 (x0 + 1)) < 4) then bif Decidable.decide (0 ≤ (IntKind.wrap IntKind.i64 (x1 + 2))) then bif Decidable.decide ((IntKind.wrap IntKind.i64 (x1 + 2)) < 4) then some ⟨V.at (A.fl FloatKind.f32 (FOps.bin F BinOp.add FloatKind.f32 (FOps.bin F BinOp.mul FloatKind.f32 (List.getD (List.getD [[x2], [x3], [x4], [x5]] (Int.toNat x0) []) 0 0) (List.getD (List.getD [[x6], [x7], [x8], [x9]] (Int.toNat x1) []) 0 0)) (FOps.bin F BinOp.mul FloatKind.f32 (List.getD (List.getD [[x2], [x3], [x4], [x5]] (Int.toNat (IntKind.wrap IntKind.i64 (x0 + 1))) []) 0 0) (List.getD (List.getD [[x6], [x7], [x8], [x9]] (Int.toNat (IntKind.wrap IntKind.i64 (x1 + 2))) []) 0 0)))), none, []⟩ else none else none else none else none else none else none else none else none := by kernel_rfl
  rw [h0]
  unfold Pure.impl_slopes_times_c1 Pure.impl_slopes_times_c1_ok
  cases (Decidable.decide (0 ≤ x0)) with
  | true =>
    cases (Decidable.decide (x0 < 4)) with
    | true =>
      cases (Decidable.decide (0 ≤ x1)) with
      | true =>
        cases (Decidable.decide (x1 < 4)) with
        | true =>
          cases (Decidable.decide (0 ≤ (IntKind.wrap IntKind.i64 (x0 + 1)))) with
          | true =>
            cases (Decidable.decide ((IntKind.wrap IntKind.i64 (x0 + 1)) < 4)) with
            | true =>
              cases (Decidable.decide (0 ≤ (IntKind.wrap IntKind.i64 (x1 + 2)))) with
              | true =>
                cases (Decidable.decide ((IntKind.wrap IntKind.i64 (x1 + 2)) < 4)) with
                | true =>
                  intro _; rfl
                | false =>
                  intro h; exact absurd h Bool.false_ne_true
              | false =>
                intro h; exact absurd h Bool.false_ne_true
            | false =>
              intro h; exact absurd h Bool.false_ne_true
          | false =>
            intro h; exact absurd h Bool.false_ne_true
        | false =>
          intro h; exact absurd h Bool.false_ne_true
      | false =>
        intro h; exact absurd h Bool.false_ne_true
    | false =>
      intro h; exact absurd h Bool.false_ne_true
  | false =>
    intro h; exact absurd h Bool.false_ne_true
theorem ok_impl_slopes_times_c1 : CallOK Try.prog 115 (c_impl_slopes_times_c1 real) := by
  refine callOK_of fun args h ret hc => ?_
  unfold c_impl_slopes_times_c1 at hc
  split at hc
  · rename_i x0 x1 x2 x3 x4 x5 x6 x7 x8 x9
    obtain ⟨hok, rfl⟩ := some_ret hc
    exact holds_ev prog_ok allOK_nil Try.func115 rfl rfl smL_nil rfl (e_impl_slopes_times_c1 real x0 x1 x2 x3 x4 x5 x6 x7 x8 x9 hok)
  · cases hc
def Pure.spec_l07Along_L0 (F : FOps) (y0 : Int) (y1 : Int) (y4 : List (List Int)) : Nat → Int → (List (List Int)) → (Bool × (List (List Int)))
  | 0, _, _ => (false, [])
  | n + 1, y2, y3 => bif (Decidable.decide (y2 < y1)) then (bif (Decidable.decide (0 ≤ y2)) then (bif (Decidable.decide (y2 < (Int.ofNat (List.length y4)))) then (bif (Pure.spec_l07Slopes_ok F (List.getD (List.getD y4 (Int.toNat y2) []) 0 0) (List.getD (List.getD y4 (Int.toNat y2) []) 1 0) y0) then (bif (Decidable.decide (0 < (Int.ofNat (List.length (Pure.spec_l07Slopes F (List.getD (List.getD y4 (Int.toNat y2) []) 0 0) (List.getD (List.getD y4 (Int.toNat y2) []) 1 0) y0))))) then (bif (Decidable.decide (0 < (Int.ofNat (List.length y3)))) then (bif (Decidable.decide (1 < (Int.ofNat (List.length (Pure.spec_l07Slopes F (List.getD (List.getD y4 (Int.toNat y2) []) 0 0) (List.getD (List.getD y4 (Int.toNat y2) []) 1 0) y0))))) then (bif (Decidable.decide (2 < (Int.ofNat (List.length y3)))) then (bif (Decidable.decide (0 < (Int.ofNat (List.length (Pure.spec_l07Slopes F (List.getD (List.getD y4 (Int.toNat y2) []) 0 0) (List.getD (List.getD y4 (Int.toNat y2) []) 1 0) y0))))) then (bif (Decidable.decide (1 < (Int.ofNat (List.length y3)))) then (bif (Decidable.decide (1 < (Int.ofNat (List.length (Pure.spec_l07Slopes F (List.getD (List.getD y4 (Int.toNat y2) []) 0 0) (List.getD (List.getD y4 (Int.toNat y2) []) 1 0) y0))))) then (bif (Decidable.decide (3 < (Int.ofNat (List.length y3)))) then (bif (Decidable.decide (2 < (Int.ofNat (List.length (Pure.spec_l07Slopes F (List.getD (List.getD y4 (Int.toNat y2) []) 0 0) (List.getD (List.getD y4 (Int.toNat y2) []) 1 0) y0))))) then (bif (Decidable.decide (0 < (Int.ofNat (List.length y3)))) then (bif (Decidable.decide (3 < (Int.ofNat (List.length (Pure.spec_l07Slopes F (List.getD (List.getD y4 (Int.toNat y2) []) 0 0) (List.getD (List.getD y4 (Int.toNat y2) []) 1 0) y0))))) then (bif (Decidable.decide (2 < (Int.ofNat (List.length y3)))) then (bif (Decidable.decide (2 < (Int.ofNat (List.length (Pure.spec_l07Slopes F (List.getD (List.getD y4 (Int.toNat y2) []) 0 0) (List.getD (List.getD y4 (Int.toNat y2) []) 1 0) y0))))) then (bif (Decidable.decide (1 < (Int.ofNat (List.length y3)))) then (bif (Decidable.decide (3 < (Int.ofNat (List.length (Pure.spec_l07Slopes F (List.getD (List.getD y4 (Int.toNat y2) []) 0 0) (List.getD (List.getD y4 (Int.toNat y2) []) 1 0) y0))))) then (bif (Decidable.decide (3 < (Int.ofNat (List.length y3)))) then (Pure.spec_l07Along_L0 F y0 y1 y4 n (IntKind.wrap IntKind.i64 (y2 + 1)) [[FOps.bin F BinOp.add FloatKind.f32 (FOps.bin F BinOp.mul FloatKind.f32 (List.getD (List.getD (Pure.spec_l07Slopes F (List.getD (List.getD y4 (Int.toNat y2) []) 0 0) (List.getD (List.getD y4 (Int.toNat y2) []) 1 0) y0) 0 []) 0 0) (List.getD (List.getD y3 0 []) 0 0)) (FOps.bin F BinOp.mul FloatKind.f32 (List.getD (List.getD (Pure.spec_l07Slopes F (List.getD (List.getD y4 (Int.toNat y2) []) 0 0) (List.getD (List.getD y4 (Int.toNat y2) []) 1 0) y0) 1 []) 0 0) (List.getD (List.getD y3 2 []) 0 0))], [FOps.bin F BinOp.add FloatKind.f32 (FOps.bin F BinOp.mul FloatKind.f32 (List.getD (List.getD (Pure.spec_l07Slopes F (List.getD (List.getD y4 (Int.toNat y2) []) 0 0) (List.getD (List.getD y4 (Int.toNat y2) []) 1 0) y0) 0 []) 0 0) (List.getD (List.getD y3 1 []) 0 0)) (FOps.bin F BinOp.mul FloatKind.f32 (List.getD (List.getD (Pure.spec_l07Slopes F (List.getD (List.getD y4 (Int.toNat y2) []) 0 0) (List.getD (List.getD y4 (Int.toNat y2) []) 1 0) y0) 1 []) 0 0) (List.getD (List.getD y3 3 []) 0 0))], [FOps.bin F BinOp.add FloatKind.f32 (FOps.bin F BinOp.mul FloatKind.f32 (List.getD (List.getD (Pure.spec_l07Slopes F (List.getD (List.getD y4 (Int.toNat y2) []) 0 0) (List.getD (List.getD y4 (Int.toNat y2) []) 1 0) y0) 2 []) 0 0) (List.getD (List.getD y3 0 []) 0 0)) (FOps.bin F BinOp.mul FloatKind.f32 (List.getD (List.getD (Pure.spec_l07Slopes F (List.getD (List.getD y4 (Int.toNat y2) []) 0 0) (List.getD (List.getD y4 (Int.toNat y2) []) 1 0) y0) 3 []) 0 0) (List.getD (List.getD y3 2 []) 0 0))], [FOps.bin F BinOp.add FloatKind.f32 (FOps.bin F BinOp.mul FloatKind.f32 (List.getD (List.getD (Pure.spec_l07Slopes F (List.getD (List.getD y4 (Int.toNat y2) []) 0 0) (List.getD (List.getD y4 (Int.toNat y2) []) 1 0) y0) 2 []) 0 0) (List.getD (List.getD y3 1 []) 0 0)) (FOps.bin F BinOp.mul FloatKind.f32 (List.getD (List.getD (Pure.spec_l07Slopes F (List.getD (List.getD y4 (Int.toNat y2) []) 0 0) (List.getD (List.getD y4 (Int.toNat y2) []) 1 0) y0) 3 []) 0 0) (List.getD (List.getD y3 3 []) 0 0))]]) else ((false, []))) else ((false, []))) else ((false, []))) else ((false, []))) else ((false, []))) else ((false, []))) else ((false, []))) else ((false, []))) else ((false, []))) else ((false, []))) else ((false, []))) else ((false, []))) else ((false, []))) else ((false, []))) else ((false, []))) else ((false, []))) else ((false, []))) else ((false, []))) else ((false, []))) else ((true, y3))
def R_spec_l07Along_L0 (r : (Bool × (List (List Int)))) : Bool × Bool × (Ex × List V × List Ob) × (Ex × List V × List Ob) := ((r).1, false, (Ex.normal, [V.at (A.sl 0)], [⟨true, OC.rows [K.f FloatKind.f32] (r).2⟩]), (Ex.normal, [V.at (A.sl 0)], [⟨true, OC.rows [K.f FloatKind.f32] (r).2⟩]))
def S_spec_l07Along_L0 (F : FOps) : Sm := ⟨[1, 2, 7, 8, 9], [22, 2, 31, 56, 2], [7], fun vals hp => match vals, hp with
  | [V.at (A.fl FloatKind.f32 y0), V.at (A.int IntKind.i64 y1), V.at (A.sl 0), V.at (A.sl 1), V.at (A.int IntKind.i64 y2)], [⟨true, OC.rows [K.f FloatKind.f32] y3⟩, ⟨true, OC.rows [K.f FloatKind.f32, K.f FloatKind.f32] y4⟩] => some (R_spec_l07Along_L0  (Pure.spec_l07Along_L0 F y0 y1 y4 (y1 - y2 + 1).toNat y2 y3))
  | _, _ => none⟩
theorem l_spec_l07Along_L0 (F : FOps) (y0 : Int) (y1 : Int) (y4 : List (List Int)) : ∀ (fuel : Nat) (y2 : Int) (y3 : List (List Int)), (Pure.spec_l07Along_L0 F y0 y1 y4 fuel y2 y3).1 = true → loopOf (cxS F tyl [(75, c_spec_l07Orbit F), (58, c_spec_l07Slopes F)] [] [] 0) 0 89 0 [1, 2, 7, 8, 9] [22, 2, 31, 56, 2] [7] (loopB 0 (codeOf Try.f85)) fuel [V.at (A.fl FloatKind.f32 y0), V.at (A.int IntKind.i64 y1), V.at (A.sl 0), V.at (A.sl 1), V.at (A.int IntKind.i64 y2)] [⟨true, OC.rows [K.f FloatKind.f32] y3⟩, ⟨true, OC.rows [K.f FloatKind.f32, K.f FloatKind.f32] y4⟩] = resOf (R_spec_l07Along_L0  (Pure.spec_l07Along_L0 F y0 y1 y4 fuel y2 y3)) := by
  intro fuel
  induction fuel with
  | zero => intro y2 y3 h; exact absurd h Bool.false_ne_true
  | succ n ih =>
    intro y2 y3
    have h0 : roundOf (cxS F tyl [(75, c_spec_l07Orbit F), (58, c_spec_l07Slopes F)] [] [] 0) 0 89 0 [1, 2, 7, 8, 9] [22, 2, 31, 56, 2] [7] (loopB 0 (codeOf Try.f85)) [V.at (A.fl FloatKind.f32 y0), V.at (A.int IntKind.i64 y1), V.at (A.sl 0), V.at (A.sl 1), V.at (A.int IntKind.i64 y2)] [⟨true, OC.rows [K.f FloatKind.f32] y3⟩, ⟨true, OC.rows [K.f FloatKind.f32, K.f FloatKind.f32] y4⟩] = (bif Decidable.decide (y2 < y1) then bif Decidable.decide (0 ≤ y2) then bif Decidable.decide (y2 < (Int.ofNat (List.length y4))) then bif Pure.spec_l07Slopes_ok F (List.getD (List.getD y4 (Int.toNat y2) []) 0 0) (List.getD (List.getD y4 (Int.toNat y2) []) 1 0) y0 then bif Decidable.decide (0 < (Int.ofNat (List.length (Pure.spec_l07Slopes F (List.getD (List.getD y4 (Int.toNat y2) []) 0 0) (List.getD (List.getD y4 (Int.toNat y2) []) 1 0) y0)))) then bif Decidable.decide (0 < (Int.ofNat (List.length y3))) then bif Decidable.decide (1 < (Int.ofNat (List.length (Pure.spec_l07Slopes F (List.getD (List.getD y4 (Int.toNat y2) []) 0 0) (List.getD (List.getD y4 (Int.toNat y2) []) 1 0) y0)))) then bif Decidable.decide (2 < (Int.ofNat (List.length y3))) then bif Decidable.decide (0 < (Int.ofNat (List.length (Pure.spec_l07Slopes F (List.getD (List.getD y4 (Int.toNat y2) []) 0 0) (List.getD (List.getD y4 (Int.toNat y2) []) 1 0) y0)))) then bif Decidable.decide (1 < (Int.ofNat (List.length y3))) then bif Decidable.decide (1 < (Int.ofNat (List.length (Pure.spec_l07Slopes F (List.getD (List.getD y4 (Int.toNat y2) []) 0 0) (List.getD (List.getD y4 (Int.toNat y2) []) 1 0) y0)))) then bif Decidable.decide (3 < (Int.ofNat (List.length y3))) then bif Decidable.decide (2 < (Int.ofNat (List.length (Pure.spec_l07Slopes F (List.getD (List.getD y4 (Int.toNat y2) []) 0 0) (List.getD (List.getD y4 (Int.toNat y2) []) 1 0) y0)))) then bif Decidable.decide (0 < (Int.ofNat (List.length y3))) then bif Decidable.decide (3 < (Int.ofNat (List.length (Pure.spec_l07Slopes F (List.getD (List.getD y4 (Int.toNat y2) []) 0 0) (List.getD (List.getD y4 (Int.toNat y2) []) 1 0) y0)))) then bif Decidable.decide (2 < (Int.ofNat (List.length y3))) then bif Decidable.decide (2 < (Int.ofNat (List.length (Pure.spec_l07Slopes F (List.getD (List.getD y4 (Int.toNat y2) []) 0 0) (List.getD (List.getD y4 (Int.toNat y2) []) 1 0) y0)))) then bif Decidable.decide (1 < (Int.ofNat (List.length y3))) then bif Decidable.decide (3 < (Int.ofNat (List.length (Pure.spec_l07Slopes F (List.getD (List.getD y4 (Int.toNat y2) []) 0 0) (List.getD (List.getD y4 (Int.toNat y2) []) 1 0) y0)))) then bif Decidable.decide (3 < (Int.ofNat (List.length y3))) then some (true, (Ex.normal, ([V.at (A.fl FloatKind.f32 y0), V.at (A.int IntKind.i64 y1), V.at (A.sl 0), V.at (A.sl 1), V.at (A.int IntKind.i64 (IntKind.wrap IntKind.i64 (y2 + 1)))], [⟨true, OC.rows [K.f FloatKind.f32] [[FOps.bin F BinOp.add FloatKind.f32 (FOps.bin F BinOp.mul FloatKind.f32 (List.getD (List.getD (Pure.spec_l07Slopes F (List.getD (List.getD y4 (Int.toNat y2) []) 0 0) (List.getD (List.getD y4 (Int.toNat y2) []) 1 0) y0) 0 []) 0 0) (List.getD (List.getD y3 0 []) 0 0)) (FOps.bin F BinOp.mul FloatKind.f32 (List.getD (List.getD (Pure.spec_l07Slopes F (List.getD (List.getD y4 (Int.toNat y2) []) 0 0) (List.getD (List.getD y4 (Int.toNat y2) []) 1 0) y0) 1 []) 0 0) (List.getD (List.getD y3 2 []) 0 0))], [FOps.bin F BinOp.add FloatKind.f32 (FOps.bin F BinOp.mul FloatKind.f32 (List.getD (List.getD (Pure.spec_l07Slopes F (List.getD (List.getD y4 (Int.toNat y2) []) 0 0) (List.getD (List.getD y4 (Int.toNat y2) []) 1 0) y0) 0 []) 0 0) (List.getD (List.getD y3 1 []) 0 0)) (FOps.bin F BinOp.mul FloatKind.f32 (List.getD (List.getD (Pure.spec_l07Slopes F (List.getD (List.getD y4 (Int.toNat y2) []) 0 0) (List.getD (List.getD y4 (Int.toNat y2) []) 1 0) y0) 1 []) 0 0) (List.getD (List.getD y3 3 []) 0 0))], [FOps.bin F BinOp.add FloatKind.f32 (FOps.bin F BinOp.mul FloatKind.f32 (List.getD (List.getD (Pure.spec_l07Slopes F (List.getD (List.getD y4 (Int.toNat y2) []) 0 0) (List.getD (List.getD y4 (Int.toNat y2) []) 1 0) y0) 2 []) 0 0) (List.getD (List.getD y3 0 []) 0 0)) (FOps.bin F BinOp.mul FloatKind.f32 (List.getD (List.getD (Pure.spec_l07Slopes F (List.getD (List.getD y4 (Int.toNat y2) []) 0 0) (List.getD (List.getD y4 (Int.toNat y2) []) 1 0) y0) 3 []) 0 0) (List.getD (List.getD y3 2 []) 0 0))], [FOps.bin F BinOp.add FloatKind.f32 (FOps.bin F BinOp.mul FloatKind.f32 (List.getD (List.getD (Pure.spec_l07Slopes F (List.getD (List.getD y4 (Int.toNat y2) []) 0 0) (List.getD (List.getD y4 (Int.toNat y2) []) 1 0) y0) 2 []) 0 0) (List.getD (List.getD y3 1 []) 0 0)) (FOps.bin F BinOp.mul FloatKind.f32 (List.getD (List.getD (Pure.spec_l07Slopes F (List.getD (List.getD y4 (Int.toNat y2) []) 0 0) (List.getD (List.getD y4 (Int.toNat y2) []) 1 0) y0) 3 []) 0 0) (List.getD (List.getD y3 3 []) 0 0))]]⟩, ⟨true, OC.rows [K.f FloatKind.f32, K.f FloatKind.f32] y4⟩]))) else none else none else none else none else none else none else none else none else none else none else none else none else none else none else none else none else none else none else none else some (false, (Ex.normal, ([V.at (A.sl 0)], [⟨true, OC.rows [K.f FloatKind.f32] y3⟩])))) := by kernel_rfl
    unfold loopOf
    rw [h0]
    unfold Pure.spec_l07Along_L0
    cases (Decidable.decide (y2 < y1)) with
    | true =>
      cases (Decidable.decide (0 ≤ y2)) with
      | true =>
        cases (Decidable.decide (y2 < (Int.ofNat (List.length y4)))) with
        | true =>
          cases (Pure.spec_l07Slopes_ok F (List.getD (List.getD y4 (Int.toNat y2) []) 0 0) (List.getD (List.getD y4 (Int.toNat y2) []) 1 0) y0) with
          | true =>
            cases (Decidable.decide (0 < (Int.ofNat (List.length (Pure.spec_l07Slopes F (List.getD (List.getD y4 (Int.toNat y2) []) 0 0) (List.getD (List.getD y4 (Int.toNat y2) []) 1 0) y0))))) with
            | true =>
              cases (Decidable.decide (0 < (Int.ofNat (List.length y3)))) with
              | true =>
                cases (Decidable.decide (1 < (Int.ofNat (List.length (Pure.spec_l07Slopes F (List.getD (List.getD y4 (Int.toNat y2) []) 0 0) (List.getD (List.getD y4 (Int.toNat y2) []) 1 0) y0))))) with
                | true =>
                  cases (Decidable.decide (2 < (Int.ofNat (List.length y3)))) with
                  | true =>
                    cases (Decidable.decide (1 < (Int.ofNat (List.length y3)))) with
                    | true =>
                      cases (Decidable.decide (3 < (Int.ofNat (List.length y3)))) with
                      | true =>
                        cases (Decidable.decide (2 < (Int.ofNat (List.length (Pure.spec_l07Slopes F (List.getD (List.getD y4 (Int.toNat y2) []) 0 0) (List.getD (List.getD y4 (Int.toNat y2) []) 1 0) y0))))) with
                        | true =>
                          cases (Decidable.decide (3 < (Int.ofNat (List.length (Pure.spec_l07Slopes F (List.getD (List.getD y4 (Int.toNat y2) []) 0 0) (List.getD (List.getD y4 (Int.toNat y2) []) 1 0) y0))))) with
                          | true =>
                            exact ih _ _
                          | false =>
                            intro h; exact absurd h Bool.false_ne_true
                        | false =>
                          intro h; exact absurd h Bool.false_ne_true
                      | false =>
                        intro h; exact absurd h Bool.false_ne_true
                    | false =>
                      intro h; exact absurd h Bool.false_ne_true
                  | false =>
                    intro h; exact absurd h Bool.false_ne_true
                | false =>
                  intro h; exact absurd h Bool.false_ne_true
              | false =>
                intro h; exact absurd h Bool.false_ne_true
            | false =>
              intro h; exact absurd h Bool.false_ne_true
          | false =>
            intro h; exact absurd h Bool.false_ne_true
        | false =>
          intro h; exact absurd h Bool.false_ne_true
      | false =>
        intro h; exact absurd h Bool.false_ne_true
    | false =>
      intro _; rfl
theorem t_spec_l07Along_L0 : SmTo Try.prog 0 89 (S_spec_l07Along_L0 real) 0 (.loop (loopB 0 (codeOf Try.f85))) := by
  refine smTo_ev (cl := [(75, c_spec_l07Orbit real), (58, c_spec_l07Slopes real)]) (ef := []) (sm := []) (un := 0) prog_ok (allOK_cons ok_spec_l07Orbit (allOK_cons ok_spec_l07Slopes allOK_nil)) smL_nil ?_
  intro vals hp q r h hq
  unfold S_spec_l07Along_L0 at h
  dsimp only at h
  split at h
  · rename_i y0 y1 y2 y3 y4
    obtain rfl := Option.some.inj h
    have h1 := hq
    unfold resOf at h1
    rw [chk_some] at h1
    exact ⟨_, (l_spec_l07Along_L0 real y0 y1 y4 _ y2 y3 h1.1).trans hq⟩
  · cases h
def Pure.spec_l07Along (F : FOps) (x0 : Int) (x1 : Int) (x2 : Int) (x3 : Int) : List (List Int) := Prod.snd (Pure.spec_l07Along_L0 F x2 x3 (Pure.spec_l07Orbit F x0 x1 x2 x3) (Int.toNat ((x3 - 0) + 1)) 0 [[1065353216], [0], [0], [1065353216]])
def Pure.spec_l07Along_ok (F : FOps) (x0 : Int) (x1 : Int) (x2 : Int) (x3 : Int) : Bool := bif Pure.spec_l07Orbit_ok F x0 x1 x2 x3 then Prod.fst (Pure.spec_l07Along_L0 F x2 x3 (Pure.spec_l07Orbit F x0 x1 x2 x3) (Int.toNat ((x3 - 0) + 1)) 0 [[1065353216], [0], [0], [1065353216]]) else false
def c_spec_l07Along (F : FOps) : Con
  | [V.agg [A.fl FloatKind.f32 x0, A.fl FloatKind.f32 x1], V.at (A.fl FloatKind.f32 x2), V.at (A.int IntKind.i64 x3)], [] => some (Pure.spec_l07Along_ok F x0 x1 x2 x3, ⟨V.at (A.sl 0), none, [⟨true, OC.rows [K.f FloatKind.f32] (Pure.spec_l07Along F x0 x1 x2 x3)⟩]⟩)
  | _, _ => none
theorem e_spec_l07Along (F : FOps) (x0 : Int) (x1 : Int) (x2 : Int) (x3 : Int) : Pure.spec_l07Along_ok F x0 x1 x2 x3 = true → evFn (cxS F tyl [(75, c_spec_l07Orbit F), (58, c_spec_l07Slopes F)] [] [(0, S_spec_l07Along_L0 F)] 0) Try.f85 false [V.agg [A.fl FloatKind.f32 x0, A.fl FloatKind.f32 x1], V.at (A.fl FloatKind.f32 x2), V.at (A.int IntKind.i64 x3)] [] = some ⟨V.at (A.sl 0), none, [⟨true, OC.rows [K.f FloatKind.f32] (Pure.spec_l07Along F x0 x1 x2 x3)⟩]⟩ := by
  have h0 : evFn (cxS F tyl [(75, c_spec_l07Orbit F), (58, c_spec_l07Slopes F)] [] [(0, S_spec_l07Along_L0 F)] 0) Try.f85 false [V.agg [A.fl FloatKind.f32 x0, A.fl FloatKind.f32 x1], V.at (A.fl FloatKind.f32 x2), V.at (A.int IntKind.i64 x3)] [] = bif Pure.spec_l07Orbit_ok F x0 x1 x2 x3 then bif Prod.fst (Pure.spec_l07Along_L0 F x2 x3 (Pure.spec_l07Orbit F x0 x1 x2 x3) (Int.toNat ((x3 - 0) + 1)) 0 [[1065353216], [0], [0], [1065353216]]) then some ⟨V.at (A.sl 0), none, [⟨true, OC.rows [K.f FloatKind.f32] (Prod.snd (Pure.spec_l07Along_L0 F x2 x3 (Pure.spec_l07Orbit F x0 x1 x2 x3) (Int.toNat ((x3 - 0) + 1)) 0 [[1065353216], [0], [0], [1065353216]]))⟩]⟩ else none else none := by kernel_rfl
  rw [h0]
  unfold Pure.spec_l07Along Pure.spec_l07Along_ok
  cases (Pure.spec_l07Orbit_ok F x0 x1 x2 x3) with
  | true =>
    cases (Prod.fst (Pure.spec_l07Along_L0 F x2 x3 (Pure.spec_l07Orbit F x0 x1 x2 x3) (Int.toNat ((x3 - 0) + 1)) 0 [[1065353216], [0], [0], [1065353216]])) with
    | true =>
      intro _; rfl
    | false =>
      intro h; exact absurd h Bool.false_ne_true
  | false =>
    intro h; exact absurd h Bool.false_ne_true
theorem ok_spec_l07Along : CallOK Try.prog 85 (c_spec_l07Along real) := by
  refine callOK_of fun args h ret hc => ?_
  unfold c_spec_l07Along at hc
  split at hc
  · rename_i x0 x1 x2 x3
    obtain ⟨hok, rfl⟩ := some_ret hc
    exact holds_ev prog_ok (allOK_cons ok_spec_l07Orbit (allOK_cons ok_spec_l07Slopes allOK_nil)) Try.func85 rfl rfl (smL_cons (body := .loop (loopB 0 (codeOf Try.f85))) (by kernel_rfl) t_spec_l07Along_L0 smL_nil) rfl (e_spec_l07Along real x0 x1 x2 x3 hok)
  · cases hc
def Pure.spec_IsCalmOrbit (F : FOps) (x0 : Int) (x1 : Int) (x2 : Int) (x3 : Int) : Bool := bif Pure.spec_l07Is F x0 x1 then bif Pure.spec_l07Size F x2 then bif Pure.spec_l00In F x3 1 128 then bif FOps.cmp F BinOp.lss FloatKind.f32 (FOps.bin F BinOp.add FloatKind.f32 (List.getD (List.getD (Pure.spec_l07Along F x0 x1 x2 x3) 0 []) 0 0) (List.getD (List.getD (Pure.spec_l07Along F x0 x1 x2 x3) 3 []) 0 0)) 1073741824 then FOps.cmp F BinOp.gtr FloatKind.f32 (FOps.bin F BinOp.add FloatKind.f32 (List.getD (List.getD (Pure.spec_l07Along F x0 x1 x2 x3) 0 []) 0 0) (List.getD (List.getD (Pure.spec_l07Along F x0 x1 x2 x3) 3 []) 0 0)) 3221225472 else false else false else false else false
def Pure.spec_IsCalmOrbit_ok (F : FOps) (x0 : Int) (x1 : Int) (x2 : Int) (x3 : Int) : Bool := bif Pure.spec_l07Is F x0 x1 then bif Pure.spec_l07Size F x2 then bif Pure.spec_l00In F x3 1 128 then bif Pure.spec_l07Along_ok F x0 x1 x2 x3 then bif Decidable.decide (0 < (Int.ofNat (List.length (Pure.spec_l07Along F x0 x1 x2 x3)))) then Decidable.decide (3 < (Int.ofNat (List.length (Pure.spec_l07Along F x0 x1 x2 x3)))) else false else false else true else true else true
def c_spec_IsCalmOrbit (F : FOps) : Con
  | [V.agg [A.fl FloatKind.f32 x0, A.fl FloatKind.f32 x1], V.at (A.fl FloatKind.f32 x2), V.at (A.int IntKind.i64 x3)], [] => some (Pure.spec_IsCalmOrbit_ok F x0 x1 x2 x3, ⟨V.at (A.bool (Pure.spec_IsCalmOrbit F x0 x1 x2 x3)), none, []⟩)
  | _, _ => none
theorem e_spec_IsCalmOrbit (F : FOps) (x0 : Int) (x1 : Int) (x2 : Int) (x3 : Int) : Pure.spec_IsCalmOrbit_ok F x0 x1 x2 x3 = true → evFn (cxS F tyl [(51, c_spec_l07Is F), (57, c_spec_l07Size F), (74, c_spec_l07Count F), (85, c_spec_l07Along F)] [] [] 0) Try.f47 false [V.agg [A.fl FloatKind.f32 x0, A.fl FloatKind.f32 x1], V.at (A.fl FloatKind.f32 x2), V.at (A.int IntKind.i64 x3)] [] = some ⟨V.at (A.bool (Pure.spec_IsCalmOrbit F x0 x1 x2 x3)), none, []⟩ := by
  have h0 : evFn (cxS F tyl [(51, c_spec_l07Is F), (57, c_spec_l07Size F), (74, c_spec_l07Count F), (85, c_spec_l07Along F)] [] [] 0) Try.f47 false [V.agg [A.fl FloatKind.f32 x0, A.fl FloatKind.f32 x1], V.at (A.fl FloatKind.f32 x2), V.at (A.int IntKind.i64 x3)] [] = bif Bool.not (Pure.spec_l07Is F x0 x1) then some ⟨V.at (A.bool false), none, []⟩ else bif Bool.not (Pure.spec_l07Size F x2) then some ⟨V.at (A.bool false), none, []⟩ else bif Bool.not (Pure.spec_l00In F x3 1 128) then some ⟨V.at (A.bool false), none, []⟩ else bif Pure.spec_l07Along_ok F x0 x1 x2 x3 then bif Decidable.decide (0 < (Int.ofNat (List.length (Pure.spec_l07Along F x0 x1 x2 x3)))) then bif Decidable.decide (3 < (Int.ofNat (List.length (Pure.spec_l07Along F x0 x1 x2 x3)))) then bif FOps.cmp F BinOp.lss FloatKind.f32 (FOps.bin F BinOp.add FloatKind.f32 (List.getD (List.getD (Pure.spec_l07Along F x0 x1 x2 x3) 0 []) 0 0) (List.getD (List.getD (Pure.spec_l07Along F x0 x1 x2 x3) 3 []) 0 0)) 1073741824 then some ⟨V.at (A.bool (FOps.cmp F BinOp.gtr FloatKind.f32 (FOps.bin F BinOp.add FloatKind.f32 (List.getD (List.getD (Pure.spec_l07Along F x0 x1 x2 x3) 0 []) 0 0) (List.getD (List.getD (Pure.spec_l07Along F x0 x1 x2 x3) 3 []) 0 0)) 3221225472)), none, []⟩ else some ⟨V.at (A.bool false), none, []⟩ else none else none else none := by kernel_rfl
  rw [h0]
  unfold Pure.spec_IsCalmOrbit Pure.spec_IsCalmOrbit_ok
  cases (Pure.spec_l07Is F x0 x1) with
  | true =>
    cases (Pure.spec_l07Size F x2) with
    | true =>
      cases (Pure.spec_l00In F x3 1 128) with
      | true =>
        cases (Pure.spec_l07Along_ok F x0 x1 x2 x3) with
        | true =>
          cases (Decidable.decide (0 < (Int.ofNat (List.length (Pure.spec_l07Along F x0 x1 x2 x3))))) with
          | true =>
            cases (Decidable.decide (3 < (Int.ofNat (List.length (Pure.spec_l07Along F x0 x1 x2 x3))))) with
            | true =>
              cases (FOps.cmp F BinOp.lss FloatKind.f32 (FOps.bin F BinOp.add FloatKind.f32 (List.getD (List.getD (Pure.spec_l07Along F x0 x1 x2 x3) 0 []) 0 0) (List.getD (List.getD (Pure.spec_l07Along F x0 x1 x2 x3) 3 []) 0 0)) 1073741824) with
              | true =>
                intro _; rfl
              | false =>
                intro _; rfl
            | false =>
              intro h; exact absurd h Bool.false_ne_true
          | false =>
            intro h; exact absurd h Bool.false_ne_true
        | false =>
          intro h; exact absurd h Bool.false_ne_true
      | false =>
        intro _; rfl
    | false =>
      intro _; rfl
  | false =>
    intro _; rfl
theorem ok_spec_IsCalmOrbit : CallOK Try.prog 47 (c_spec_IsCalmOrbit real) := by
  refine callOK_of fun args h ret hc => ?_
  unfold c_spec_IsCalmOrbit at hc
  split at hc
  · rename_i x0 x1 x2 x3
    obtain ⟨hok, rfl⟩ := some_ret hc
    exact holds_ev prog_ok (allOK_cons ok_spec_l07Is (allOK_cons ok_spec_l07Size (allOK_cons ok_spec_l07Count (allOK_cons ok_spec_l07Along allOK_nil)))) Try.func47 rfl rfl smL_nil rfl (e_spec_IsCalmOrbit real x0 x1 x2 x3 hok)
  · cases hc
def Pure.impl_slopes_times (F : FOps) (x0 : Int) (x1 : Int) (x2 : Int) (x3 : Int) (x4 : Int) (x5 : Int) (x6 : Int) (x7 : Int) : Int := List.getD [Pure.impl_slopes_times_c1 F 0 0 x0 x1 x2 x3 x4 x5 x6 x7] 0 0
def Pure.impl_slopes_times_1 (F : FOps) (x0 : Int) (x1 : Int) (x2 : Int) (x3 : Int) (x4 : Int) (x5 : Int) (x6 : Int) (x7 : Int) : Int := List.getD [Pure.impl_slopes_times_c1 F 0 1 x0 x1 x2 x3 x4 x5 x6 x7] 0 0
def Pure.impl_slopes_times_2 (F : FOps) (x0 : Int) (x1 : Int) (x2 : Int) (x3 : Int) (x4 : Int) (x5 : Int) (x6 : Int) (x7 : Int) : Int := List.getD [Pure.impl_slopes_times_c1 F 2 0 x0 x1 x2 x3 x4 x5 x6 x7] 0 0
def Pure.impl_slopes_times_3 (F : FOps) (x0 : Int) (x1 : Int) (x2 : Int) (x3 : Int) (x4 : Int) (x5 : Int) (x6 : Int) (x7 : Int) : Int := List.getD [Pure.impl_slopes_times_c1 F 2 1 x0 x1 x2 x3 x4 x5 x6 x7] 0 0
def Pure.impl_slopes_times_ok (F : FOps) (x0 : Int) (x1 : Int) (x2 : Int) (x3 : Int) (x4 : Int) (x5 : Int) (x6 : Int) (x7 : Int) : Bool := bif Pure.impl_slopes_times_c1_ok F 0 0 x0 x1 x2 x3 x4 x5 x6 x7 then bif Pure.impl_slopes_times_c1_ok F 0 1 x0 x1 x2 x3 x4 x5 x6 x7 then bif Pure.impl_slopes_times_c1_ok F 2 0 x0 x1 x2 x3 x4 x5 x6 x7 then Pure.impl_slopes_times_c1_ok F 2 1 x0 x1 x2 x3 x4 x5 x6 x7 else false else false else false
def c_impl_slopes_times (F : FOps) : Con
  | [V.agg [A.fl FloatKind.f32 x0, A.fl FloatKind.f32 x1, A.fl FloatKind.f32 x2, A.fl FloatKind.f32 x3], V.agg [A.fl FloatKind.f32 x4, A.fl FloatKind.f32 x5, A.fl FloatKind.f32 x6, A.fl FloatKind.f32 x7]], [] => some (Pure.impl_slopes_times_ok F x0 x1 x2 x3 x4 x5 x6 x7, ⟨V.agg [A.fl FloatKind.f32 (Pure.impl_slopes_times F x0 x1 x2 x3 x4 x5 x6 x7), A.fl FloatKind.f32 (Pure.impl_slopes_times_1 F x0 x1 x2 x3 x4 x5 x6 x7), A.fl FloatKind.f32 (Pure.impl_slopes_times_2 F x0 x1 x2 x3 x4 x5 x6 x7), A.fl FloatKind.f32 (Pure.impl_slopes_times_3 F x0 x1 x2 x3 x4 x5 x6 x7)], none, []⟩)
  | _, _ => none
theorem e_impl_slopes_times (F : FOps) (x0 : Int) (x1 : Int) (x2 : Int) (x3 : Int) (x4 : Int) (x5 : Int) (x6 : Int) (x7 : Int) : Pure.impl_slopes_times_ok F x0 x1 x2 x3 x4 x5 x6 x7 = true → evFn (cxS F tyl [(115, c_impl_slopes_times_c1 F)] [] [] 0) Try.f109 false [V.agg [A.fl FloatKind.f32 x0, A.fl FloatKind.f32 x1, A.fl FloatKind.f32 x2, A.fl FloatKind.f32 x3], V.agg [A.fl FloatKind.f32 x4, A.fl FloatKind.f32 x5, A.fl FloatKind.f32 x6, A.fl FloatKind.f32 x7]] [] = some ⟨V.agg [A.fl FloatKind.f32 (Pure.impl_slopes_times F x0 x1 x2 x3 x4 x5 x6 x7), A.fl FloatKind.f32 (Pure.impl_slopes_times_1 F x0 x1 x2 x3 x4 x5 x6 x7), A.fl FloatKind.f32 (Pure.impl_slopes_times_2 F x0 x1 x2 x3 x4 x5 x6 x7), A.fl FloatKind.f32 (Pure.impl_slopes_times_3 F x0 x1 x2 x3 x4 x5 x6 x7)], none, []⟩ := by
  have h0 : evFn (cxS F tyl [(115, c_impl_slopes_times_c1 F)] [] [] 0) Try.f109 false [V.agg [A.fl FloatKind.f32 x0, A.fl FloatKind.f32 x1, A.fl FloatKind.f32 x2, A.fl FloatKind.f32 x3], V.agg [A.fl FloatKind.f32 x4, A.fl FloatKind.f32 x5, A.fl FloatKind.f32 x6, A.fl FloatKind.f32 x7]] [] = bif Pure.impl_slopes_times_c1_ok F 0 0 x0 x1 x2 x3 x4 x5 x6 x7 then bif Pure.impl_slopes_times_c1_ok F 0 1 x0 x1 x2 x3 x4 x5 x6 x7 then bif Pure.impl_slopes_times_c1_ok F 2 0 x0 x1 x2 x3 x4 x5 x6 x7 then bif Pure.impl_slopes_times_c1_ok F 2 1 x0 x1 x2 x3 x4 x5 x6 x7 then some ⟨V.agg [A.fl FloatKind.f32 (List.getD [Pure.impl_slopes_times_c1 F 0 0 x0 x1 x2 x3 x4 x5 x6 x7] 0 0), A.fl FloatKind.f32 (List.getD [Pure.impl_slopes_times_c1 F 0 1 x0 x1 x2 x3 x4 x5 x6 x7] 0 0), A.fl FloatKind.f32 (List.getD [Pure.impl_slopes_times_c1 F 2 0 x0 x1 x2 x3 x4 x5 x6 x7] 0 0), A.fl FloatKind.f32 (List.getD [Pure.impl_slopes_times_c1 F 2 1 x0 x1 x2 x3 x4 x5 x6 x7] 0 0)], none, []⟩ else none else none else none else none := by kernel_rfl
  rw [h0]
  unfold Pure.impl_slopes_times Pure.impl_slopes_times_1 Pure.impl_slopes_times_2 Pure.impl_slopes_times_3 Pure.impl_slopes_times_ok
  cases (Pure.impl_slopes_times_c1_ok F 0 0 x0 x1 x2 x3 x4 x5 x6 x7) with
  | true =>
    cases (Pure.impl_slopes_times_c1_ok F 0 1 x0 x1 x2 x3 x4 x5 x6 x7) with
    | true =>
      cases (Pure.impl_slopes_times_c1_ok F 2 0 x0 x1 x2 x3 x4 x5 x6 x7) with
      | true =>
        cases (Pure.impl_slopes_times_c1_ok F 2 1 x0 x1 x2 x3 x4 x5 x6 x7) with
        | true =>
          intro _; rfl
        | false =>
          intro h; exact absurd h Bool.false_ne_true
      | false =>
        intro h; exact absurd h Bool.false_ne_true
    | false =>
      intro h; exact absurd h Bool.false_ne_true
  | false =>
    intro h; exact absurd h Bool.false_ne_true
theorem ok_impl_slopes_times : CallOK Try.prog 109 (c_impl_slopes_times real) := by
  refine callOK_of fun args h ret hc => ?_
  unfold c_impl_slopes_times at hc
  split at hc
  · rename_i x0 x1 x2 x3 x4 x5 x6 x7
    obtain ⟨hok, rfl⟩ := some_ret hc
    exact holds_ev prog_ok (allOK_cons ok_impl_slopes_times_c1 allOK_nil) Try.func109 rfl rfl smL_nil rfl (e_impl_slopes_times real x0 x1 x2 x3 x4 x5 x6 x7 hok)
  · cases hc
def Pure.impl_State_along_L0 (F : FOps) (y0 : Int) (y1 : Int) (y5 : Int) (y6 : Int) (y7 : Int) (y8 : Int) : Nat → Int → Int → Int → Int → Int → Int → Int → (Bool × Int × Int × Int × Int)
  | 0, _, _, _, _, _, _, _ => (false, 0, 0, 0, 0)
  | n + 1, y2, y3, y4, y9, y10, y11, y12 => bif (Decidable.decide (y2 < y1)) then (bif (Pure.impl_State_slopes_ok F y3 y4 y0) then (bif (Pure.impl_slopes_times_ok F (Pure.impl_State_slopes F y3 y4 y0) 1065353216 (Pure.impl_State_slopes_1 F y3 y4 y0) 1065353216 (List.getD [y9] 0 0) (List.getD [y10] 0 0) (List.getD [y11] 0 0) (List.getD [y12] 0 0)) then (bif (Pure.impl_State_mapped_ok F y3 y4 y0) then (Pure.impl_State_along_L0 F y0 y1 y5 y6 y7 y8 n (IntKind.wrap IntKind.i64 (y2 + 1)) (Pure.impl_State_damped F y3 y4 y0 1065353216) (Pure.impl_State_damped_1 F y3 y4 y0 1065353216) (Pure.impl_slopes_times F (Pure.impl_State_slopes F y3 y4 y0) 1065353216 (Pure.impl_State_slopes_1 F y3 y4 y0) 1065353216 (List.getD [y9] 0 0) (List.getD [y10] 0 0) (List.getD [y11] 0 0) (List.getD [y12] 0 0)) (Pure.impl_slopes_times_1 F (Pure.impl_State_slopes F y3 y4 y0) 1065353216 (Pure.impl_State_slopes_1 F y3 y4 y0) 1065353216 (List.getD [y9] 0 0) (List.getD [y10] 0 0) (List.getD [y11] 0 0) (List.getD [y12] 0 0)) (Pure.impl_slopes_times_2 F (Pure.impl_State_slopes F y3 y4 y0) 1065353216 (Pure.impl_State_slopes_1 F y3 y4 y0) 1065353216 (List.getD [y9] 0 0) (List.getD [y10] 0 0) (List.getD [y11] 0 0) (List.getD [y12] 0 0)) (Pure.impl_slopes_times_3 F (Pure.impl_State_slopes F y3 y4 y0) 1065353216 (Pure.impl_State_slopes_1 F y3 y4 y0) 1065353216 (List.getD [y9] 0 0) (List.getD [y10] 0 0) (List.getD [y11] 0 0) (List.getD [y12] 0 0))) else ((false, 0, 0, 0, 0))) else ((false, 0, 0, 0, 0))) else ((false, 0, 0, 0, 0))) else ((true, y9, y10, y11, y12))
def R_impl_State_along_L0 (y5 : Int) (y6 : Int) (y7 : Int) (y8 : Int) (r : (Bool × Int × Int × Int × Int)) : Bool × Bool × (Ex × List V × List Ob) × (Ex × List V × List Ob) := ((r).1, false, (Ex.normal, [V.at (A.ptr 0 0 0), V.at (A.ptr 1 0 0)], [⟨true, OC.rows [K.f FloatKind.f32] [[y5], [y6], [y7], [y8]]⟩, ⟨true, OC.rows [K.f FloatKind.f32] [[(r).2.1], [(r).2.2.1], [(r).2.2.2.1], [(r).2.2.2.2]]⟩]), (Ex.normal, [V.at (A.ptr 0 0 0), V.at (A.ptr 1 0 0)], [⟨true, OC.rows [K.f FloatKind.f32] [[y5], [y6], [y7], [y8]]⟩, ⟨true, OC.rows [K.f FloatKind.f32] [[(r).2.1], [(r).2.2.1], [(r).2.2.2.1], [(r).2.2.2.2]]⟩]))
def S_impl_State_along_L0 (F : FOps) : Sm := ⟨[1, 3, 6, 7, 9, 10], [22, 0, 0, 0, 2, 2], [6, 7], fun vals hp => match vals, hp with
  | [V.at (A.fl FloatKind.f32 y0), V.at (A.ptr 0 0 0), V.at (A.ptr 1 0 0), V.at (A.ptr 2 0 0), V.at (A.int IntKind.i64 y1), V.at (A.int IntKind.i64 y2)], [⟨true, OC.box [A.fl FloatKind.f32 y3, A.fl FloatKind.f32 y4]⟩, ⟨true, OC.rows [K.f FloatKind.f32] [[y5], [y6], [y7], [y8]]⟩, ⟨true, OC.rows [K.f FloatKind.f32] [[y9], [y10], [y11], [y12]]⟩] => some (R_impl_State_along_L0 y5 y6 y7 y8 (Pure.impl_State_along_L0 F y0 y1 y5 y6 y7 y8 (y1 - y2 + 1).toNat y2 y3 y4 y9 y10 y11 y12))
  | _, _ => none⟩
theorem l_impl_State_along_L0 (F : FOps) (y0 : Int) (y1 : Int) (y5 : Int) (y6 : Int) (y7 : Int) (y8 : Int) : ∀ (fuel : Nat) (y2 : Int) (y3 : Int) (y4 : Int) (y9 : Int) (y10 : Int) (y11 : Int) (y12 : Int), (Pure.impl_State_along_L0 F y0 y1 y5 y6 y7 y8 fuel y2 y3 y4 y9 y10 y11 y12).1 = true → loopOf (cxS F tyl [(60, c_impl_State_slopes F), (109, c_impl_slopes_times F), (65, c_impl_State_mapped F)] [] [] 0) 0 22 0 [1, 3, 6, 7, 9, 10] [22, 0, 0, 0, 2, 2] [6, 7] (loopB 0 (codeOf Try.f99)) fuel [V.at (A.fl FloatKind.f32 y0), V.at (A.ptr 0 0 0), V.at (A.ptr 1 0 0), V.at (A.ptr 2 0 0), V.at (A.int IntKind.i64 y1), V.at (A.int IntKind.i64 y2)] [⟨true, OC.box [A.fl FloatKind.f32 y3, A.fl FloatKind.f32 y4]⟩, ⟨true, OC.rows [K.f FloatKind.f32] [[y5], [y6], [y7], [y8]]⟩, ⟨true, OC.rows [K.f FloatKind.f32] [[y9], [y10], [y11], [y12]]⟩] = resOf (R_impl_State_along_L0 y5 y6 y7 y8 (Pure.impl_State_along_L0 F y0 y1 y5 y6 y7 y8 fuel y2 y3 y4 y9 y10 y11 y12)) := by
  intro fuel
  induction fuel with
  | zero => intro y2 y3 y4 y9 y10 y11 y12 h; exact absurd h Bool.false_ne_true
  | succ n ih =>
    intro y2 y3 y4 y9 y10 y11 y12
    have h0 : roundOf (cxS F tyl [(60, c_impl_State_slopes F), (109, c_impl_slopes_times F), (65, c_impl_State_mapped F)] [] [] 0) 0 22 0 [1, 3, 6, 7, 9, 10] [22, 0, 0, 0, 2, 2] [6, 7] (loopB 0 (codeOf Try.f99)) [V.at (A.fl FloatKind.f32 y0), V.at (A.ptr 0 0 0), V.at (A.ptr 1 0 0), V.at (A.ptr 2 0 0), V.at (A.int IntKind.i64 y1), V.at (A.int IntKind.i64 y2)] [⟨true, OC.box [A.fl FloatKind.f32 y3, A.fl FloatKind.f32 y4]⟩, ⟨true, OC.rows [K.f FloatKind.f32] [[y5], [y6], [y7], [y8]]⟩, ⟨true, OC.rows [K.f FloatKind.f32] [[y9], [y10], [y11], [y12]]⟩] = (bif Decidable.decide (y2 < y1) then bif Pure.impl_State_slopes_ok F y3 y4 y0 then bif Pure.impl_slopes_times_ok F (Pure.impl_State_slopes F y3 y4 y0) 1065353216 (Pure.impl_State_slopes_1 F y3 y4 y0) 1065353216 (List.getD [y9] 0 0) (List.getD [y10] 0 0) (List.getD [y11] 0 0) (List.getD [y12] 0 0) then bif Pure.impl_State_mapped_ok F y3 y4 y0 then some (true, (Ex.normal, ([V.at (A.fl FloatKind.f32 y0), V.at (A.ptr 0 0 0), V.at (A.ptr 1 0 0), V.at (A.ptr 2 0 0), V.at (A.int IntKind.i64 y1), V.at (A.int IntKind.i64 (IntKind.wrap IntKind.i64 (y2 + 1)))], [⟨true, OC.box [A.fl FloatKind.f32 (Pure.impl_State_damped F y3 y4 y0 1065353216), A.fl FloatKind.f32 (Pure.impl_State_damped_1 F y3 y4 y0 1065353216)]⟩, ⟨true, OC.rows [K.f FloatKind.f32] [[y5], [y6], [y7], [y8]]⟩, ⟨true, OC.rows [K.f FloatKind.f32] [[Pure.impl_slopes_times F (Pure.impl_State_slopes F y3 y4 y0) 1065353216 (Pure.impl_State_slopes_1 F y3 y4 y0) 1065353216 (List.getD [y9] 0 0) (List.getD [y10] 0 0) (List.getD [y11] 0 0) (List.getD [y12] 0 0)], [Pure.impl_slopes_times_1 F (Pure.impl_State_slopes F y3 y4 y0) 1065353216 (Pure.impl_State_slopes_1 F y3 y4 y0) 1065353216 (List.getD [y9] 0 0) (List.getD [y10] 0 0) (List.getD [y11] 0 0) (List.getD [y12] 0 0)], [Pure.impl_slopes_times_2 F (Pure.impl_State_slopes F y3 y4 y0) 1065353216 (Pure.impl_State_slopes_1 F y3 y4 y0) 1065353216 (List.getD [y9] 0 0) (List.getD [y10] 0 0) (List.getD [y11] 0 0) (List.getD [y12] 0 0)], [Pure.impl_slopes_times_3 F (Pure.impl_State_slopes F y3 y4 y0) 1065353216 (Pure.impl_State_slopes_1 F y3 y4 y0) 1065353216 (List.getD [y9] 0 0) (List.getD [y10] 0 0) (List.getD [y11] 0 0) (List.getD [y12] 0 0)]]⟩]))) else none else none else none else some (false, (Ex.normal, ([V.at (A.ptr 0 0 0), V.at (A.ptr 1 0 0)], [⟨true, OC.rows [K.f FloatKind.f32] [[y5], [y6], [y7], [y8]]⟩, ⟨true, OC.rows [K.f FloatKind.f32] [[y9], [y10], [y11], [y12]]⟩])))) := by kernel_rfl
    unfold loopOf
    rw [h0]
    unfold Pure.impl_State_along_L0
    cases (Decidable.decide (y2 < y1)) with
    | true =>
      cases (Pure.impl_State_slopes_ok F y3 y4 y0) with
      | true =>
        cases (Pure.impl_slopes_times_ok F (Pure.impl_State_slopes F y3 y4 y0) 1065353216 (Pure.impl_State_slopes_1 F y3 y4 y0) 1065353216 (List.getD [y9] 0 0) (List.getD [y10] 0 0) (List.getD [y11] 0 0) (List.getD [y12] 0 0)) with
        | true =>
          cases (Pure.impl_State_mapped_ok F y3 y4 y0) with
          | true =>
            exact ih _ _ _ _ _ _ _
          | false =>
            intro h; exact absurd h Bool.false_ne_true
        | false =>
          intro h; exact absurd h Bool.false_ne_true
      | false =>
        intro h; exact absurd h Bool.false_ne_true
    | false =>
      intro _; rfl
theorem t_impl_State_along_L0 : SmTo Try.prog 0 22 (S_impl_State_along_L0 real) 0 (.loop (loopB 0 (codeOf Try.f99))) := by
  refine smTo_ev (cl := [(60, c_impl_State_slopes real), (109, c_impl_slopes_times real), (65, c_impl_State_mapped real)]) (ef := []) (sm := []) (un := 0) prog_ok (allOK_cons ok_impl_State_slopes (allOK_cons ok_impl_slopes_times (allOK_cons ok_impl_State_mapped allOK_nil))) smL_nil ?_
  intro vals hp q r h hq
  unfold S_impl_State_along_L0 at h
  dsimp only at h
  split at h
  · rename_i y0 y1 y2 y3 y4 y5 y6 y7 y8 y9 y10 y11 y12
    obtain rfl := Option.some.inj h
    have h1 := hq
    unfold resOf at h1
    rw [chk_some] at h1
    exact ⟨_, (l_impl_State_along_L0 real y0 y1 y5 y6 y7 y8 _ y2 y3 y4 y9 y10 y11 y12 h1.1).trans hq⟩
  · cases h
def Pure.impl_State_along (F : FOps) (x0 : Int) (x1 : Int) (x2 : Int) (x3 : Int) : Int := List.getD [List.getD [Prod.fst (Prod.snd (Pure.impl_State_along_L0 F x2 x3 0 0 0 0 (Int.toNat ((x3 - 0) + 1)) 0 x0 x1 1065353216 0 0 1065353216))] 0 0] 0 0
def Pure.impl_State_along_1 (F : FOps) (x0 : Int) (x1 : Int) (x2 : Int) (x3 : Int) : Int := List.getD [List.getD [Prod.fst (Prod.snd (Prod.snd (Pure.impl_State_along_L0 F x2 x3 0 0 0 0 (Int.toNat ((x3 - 0) + 1)) 0 x0 x1 1065353216 0 0 1065353216)))] 0 0] 0 0
def Pure.impl_State_along_2 (F : FOps) (x0 : Int) (x1 : Int) (x2 : Int) (x3 : Int) : Int := List.getD [List.getD [Prod.fst (Prod.snd (Prod.snd (Prod.snd (Pure.impl_State_along_L0 F x2 x3 0 0 0 0 (Int.toNat ((x3 - 0) + 1)) 0 x0 x1 1065353216 0 0 1065353216))))] 0 0] 0 0
def Pure.impl_State_along_3 (F : FOps) (x0 : Int) (x1 : Int) (x2 : Int) (x3 : Int) : Int := List.getD [List.getD [Prod.snd (Prod.snd (Prod.snd (Prod.snd (Pure.impl_State_along_L0 F x2 x3 0 0 0 0 (Int.toNat ((x3 - 0) + 1)) 0 x0 x1 1065353216 0 0 1065353216))))] 0 0] 0 0
def Pure.impl_State_along_ok (F : FOps) (x0 : Int) (x1 : Int) (x2 : Int) (x3 : Int) : Bool := Prod.fst (Pure.impl_State_along_L0 F x2 x3 0 0 0 0 (Int.toNat ((x3 - 0) + 1)) 0 x0 x1 1065353216 0 0 1065353216)
def c_impl_State_along (F : FOps) : Con
  | [V.agg [A.fl FloatKind.f32 x0, A.fl FloatKind.f32 x1], V.at (A.fl FloatKind.f32 x2), V.at (A.int IntKind.i64 x3)], [] => some (Pure.impl_State_along_ok F x0 x1 x2 x3, ⟨V.agg [A.fl FloatKind.f32 (Pure.impl_State_along F x0 x1 x2 x3), A.fl FloatKind.f32 (Pure.impl_State_along_1 F x0 x1 x2 x3), A.fl FloatKind.f32 (Pure.impl_State_along_2 F x0 x1 x2 x3), A.fl FloatKind.f32 (Pure.impl_State_along_3 F x0 x1 x2 x3)], none, []⟩)
  | _, _ => none
theorem e_impl_State_along (F : FOps) (x0 : Int) (x1 : Int) (x2 : Int) (x3 : Int) : Pure.impl_State_along_ok F x0 x1 x2 x3 = true → evFn (cxS F tyl [(60, c_impl_State_slopes F), (109, c_impl_slopes_times F), (65, c_impl_State_mapped F)] [] [(0, S_impl_State_along_L0 F)] 0) Try.f99 false [V.agg [A.fl FloatKind.f32 x0, A.fl FloatKind.f32 x1], V.at (A.fl FloatKind.f32 x2), V.at (A.int IntKind.i64 x3)] [] = some ⟨V.agg [A.fl FloatKind.f32 (Pure.impl_State_along F x0 x1 x2 x3), A.fl FloatKind.f32 (Pure.impl_State_along_1 F x0 x1 x2 x3), A.fl FloatKind.f32 (Pure.impl_State_along_2 F x0 x1 x2 x3), A.fl FloatKind.f32 (Pure.impl_State_along_3 F x0 x1 x2 x3)], none, []⟩ := by
  have h0 : evFn (cxS F tyl [(60, c_impl_State_slopes F), (109, c_impl_slopes_times F), (65, c_impl_State_mapped F)] [] [(0, S_impl_State_along_L0 F)] 0) Try.f99 false [V.agg [A.fl FloatKind.f32 x0, A.fl FloatKind.f32 x1], V.at (A.fl FloatKind.f32 x2), V.at (A.int IntKind.i64 x3)] [] = bif Prod.fst (Pure.impl_State_along_L0 F x2 x3 0 0 0 0 (Int.toNat ((x3 - 0) + 1)) 0 x0 x1 1065353216 0 0 1065353216) then some ⟨V.agg [A.fl FloatKind.f32 (List.getD [List.getD [Prod.fst (Prod.snd (Pure.impl_State_along_L0 F x2 x3 0 0 0 0 (Int.toNat ((x3 - 0) + 1)) 0 x0 x1 1065353216 0 0 1065353216))] 0 0] 0 0), A.fl FloatKind.f32 (List.getD [List.getD [Prod.fst (Prod.snd (Prod.snd (Pure.impl_State_along_L0 F x2 x3 0 0 0 0 (Int.toNat ((x3 - 0) + 1)) 0 x0 x1 1065353216 0 0 1065353216)))] 0 0] 0 0), A.fl FloatKind.f32 (List.getD [List.getD [Prod.fst (Prod.snd (Prod.snd (Prod.snd (Pure.impl_State_along_L0 F x2 x3 0 0 0 0 (Int.toNat ((x3 - 0) + 1)) 0 x0 x1 1065353216 0 0 1065353216))))] 0 0] 0 0), A.fl FloatKind.f32 (List.getD [List.getD [Prod.snd (Prod.snd (Prod.snd (Prod.snd (Pure.impl_State_along_L0 F x2 x3 0 0 0 0 (Int.toNat ((x3 - 0) + 1)) 0 x0 x1 1065353216 0 0 1065353216))))] 0 0] 0 0)], none, []⟩ else none := by kernel_rfl
  rw [h0]
  unfold Pure.impl_State_along Pure.impl_State_along_1 Pure.impl_State_along_2 Pure.impl_State_along_3 Pure.impl_State_along_ok
  cases (Prod.fst (Pure.impl_State_along_L0 F x2 x3 0 0 0 0 (Int.toNat ((x3 - 0) + 1)) 0 x0 x1 1065353216 0 0 1065353216)) with
  | true =>
    intro _; rfl
  | false =>
    intro h; exact absurd h Bool.false_ne_true
theorem ok_impl_State_along : CallOK Try.prog 99 (c_impl_State_along real) := by
  refine callOK_of fun args h ret hc => ?_
  unfold c_impl_State_along at hc
  split at hc
  · rename_i x0 x1 x2 x3
    obtain ⟨hok, rfl⟩ := some_ret hc
    exact holds_ev prog_ok (allOK_cons ok_impl_State_slopes (allOK_cons ok_impl_slopes_times (allOK_cons ok_impl_State_mapped allOK_nil))) Try.func99 rfl rfl (smL_cons (body := .loop (loopB 0 (codeOf Try.f99))) (by kernel_rfl) t_impl_State_along_L0 smL_nil) rfl (e_impl_State_along real x0 x1 x2 x3 hok)
  · cases hc
def Pure.impl_SlopesAlong (F : FOps) (x0 : Int) (x1 : Int) (x2 : Int) (x3 : Int) : Bool := bif Pure.impl_stateOk F x0 x1 x2 then bif Pure.impl_in F x3 0 128 then Pure.impl_toldNumbers_way F [[Pure.impl_State_along F x0 x1 x2 x3], [Pure.impl_State_along_1 F x0 x1 x2 x3], [Pure.impl_State_along_2 F x0 x1 x2 x3], [Pure.impl_State_along_3 F x0 x1 x2 x3]] else false else false
def Pure.impl_SlopesAlong_1 (F : FOps) (x0 : Int) (x1 : Int) (x2 : Int) (x3 : Int) : List (List Int) := bif Pure.impl_stateOk F x0 x1 x2 then bif Pure.impl_in F x3 0 128 then bif Pure.impl_toldNumbers_way F [[Pure.impl_State_along F x0 x1 x2 x3], [Pure.impl_State_along_1 F x0 x1 x2 x3], [Pure.impl_State_along_2 F x0 x1 x2 x3], [Pure.impl_State_along_3 F x0 x1 x2 x3]] then [[Pure.impl_State_along F x0 x1 x2 x3], [Pure.impl_State_along_1 F x0 x1 x2 x3], [Pure.impl_State_along_2 F x0 x1 x2 x3], [Pure.impl_State_along_3 F x0 x1 x2 x3]] else [] else [] else []
def Pure.impl_SlopesAlong_ok (F : FOps) (x0 : Int) (x1 : Int) (x2 : Int) (x3 : Int) : Bool := bif Pure.impl_stateOk F x0 x1 x2 then bif Pure.impl_in F x3 0 128 then bif Pure.impl_State_along_ok F x0 x1 x2 x3 then bif Pure.impl_toldNumbers_way F [[Pure.impl_State_along F x0 x1 x2 x3], [Pure.impl_State_along_1 F x0 x1 x2 x3], [Pure.impl_State_along_2 F x0 x1 x2 x3], [Pure.impl_State_along_3 F x0 x1 x2 x3]] then Pure.impl_toldNumbers_okA F [[Pure.impl_State_along F x0 x1 x2 x3], [Pure.impl_State_along_1 F x0 x1 x2 x3], [Pure.impl_State_along_2 F x0 x1 x2 x3], [Pure.impl_State_along_3 F x0 x1 x2 x3]] else Pure.impl_toldNumbers_okB F [[Pure.impl_State_along F x0 x1 x2 x3], [Pure.impl_State_along_1 F x0 x1 x2 x3], [Pure.impl_State_along_2 F x0 x1 x2 x3], [Pure.impl_State_along_3 F x0 x1 x2 x3]] else false else true else true
def c_impl_SlopesAlong (F : FOps) : Con
  | [V.agg [A.fl FloatKind.f32 x0, A.fl FloatKind.f32 x1], V.at (A.fl FloatKind.f32 x2), V.at (A.int IntKind.i64 x3)], [] => some (Pure.impl_SlopesAlong_ok F x0 x1 x2 x3, ⟨V.tup [(false, [A.sl 0]), (false, [A.bool (Pure.impl_SlopesAlong F x0 x1 x2 x3)])], none, [⟨true, OC.rows [K.f FloatKind.f32] (Pure.impl_SlopesAlong_1 F x0 x1 x2 x3)⟩]⟩)
  | _, _ => none
theorem e_impl_SlopesAlong (F : FOps) (x0 : Int) (x1 : Int) (x2 : Int) (x3 : Int) : Pure.impl_SlopesAlong_ok F x0 x1 x2 x3 = true → evFn (cxS F tyl [(59, c_impl_stateOk F), (76, c_impl_in F), (99, c_impl_State_along F)] [] [] 0 [(61, c2_impl_toldNumbers F)]) Try.f86 false [V.agg [A.fl FloatKind.f32 x0, A.fl FloatKind.f32 x1], V.at (A.fl FloatKind.f32 x2), V.at (A.int IntKind.i64 x3)] [] = some ⟨V.tup [(false, [A.sl 0]), (false, [A.bool (Pure.impl_SlopesAlong F x0 x1 x2 x3)])], none, [⟨true, OC.rows [K.f FloatKind.f32] (Pure.impl_SlopesAlong_1 F x0 x1 x2 x3)⟩]⟩ := by
  have h0 : evFn (cxS F tyl [(59, c_impl_stateOk F), (76, c_impl_in F), (99, c_impl_State_along F)] [] [] 0 [(61, c2_impl_toldNumbers F)]) Try.f86 false [V.agg [A.fl FloatKind.f32 x0, A.fl FloatKind.f32 x1], V.at (A.fl FloatKind.f32 x2), V.at (A.int IntKind.i64 x3)] [] = bif Bool.not (Pure.impl_stateOk F x0 x1 x2) then some ⟨V.tup [(false, [A.sl 0]), (false, [A.bool false])], none, [⟨true, OC.rows [K.f FloatKind.f32] []⟩]⟩ else bif Bool.not (Pure.impl_in F x3 0 128) then some ⟨V.tup [(false, [A.sl 0]), (false, [A.bool false])], none, [⟨true, OC.rows [K.f FloatKind.f32] []⟩]⟩ else bif Pure.impl_State_along_ok F x0 x1 x2 x3 then bif Pure.impl_toldNumbers_way F [[Pure.impl_State_along F x0 x1 x2 x3], [Pure.impl_State_along_1 F x0 x1 x2 x3], [Pure.impl_State_along_2 F x0 x1 x2 x3], [Pure.impl_State_along_3 F x0 x1 x2 x3]] then bif Pure.impl_toldNumbers_okA F [[Pure.impl_State_along F x0 x1 x2 x3], [Pure.impl_State_along_1 F x0 x1 x2 x3], [Pure.impl_State_along_2 F x0 x1 x2 x3], [Pure.impl_State_along_3 F x0 x1 x2 x3]] then some ⟨V.tup [(false, [A.sl 0]), (false, [A.bool true])], none, [⟨true, OC.rows [K.f FloatKind.f32] [[Pure.impl_State_along F x0 x1 x2 x3], [Pure.impl_State_along_1 F x0 x1 x2 x3], [Pure.impl_State_along_2 F x0 x1 x2 x3], [Pure.impl_State_along_3 F x0 x1 x2 x3]]⟩]⟩ else none else bif Pure.impl_toldNumbers_okB F [[Pure.impl_State_along F x0 x1 x2 x3], [Pure.impl_State_along_1 F x0 x1 x2 x3], [Pure.impl_State_along_2 F x0 x1 x2 x3], [Pure.impl_State_along_3 F x0 x1 x2 x3]] then some ⟨V.tup [(false, [A.sl 0]), (false, [A.bool false])], none, [⟨true, OC.rows [K.f FloatKind.f32] []⟩]⟩ else none else none := by kernel_rfl
  rw [h0]
  unfold Pure.impl_SlopesAlong Pure.impl_SlopesAlong_1 Pure.impl_SlopesAlong_ok
  cases (Pure.impl_stateOk F x0 x1 x2) with
  | true =>
    cases (Pure.impl_in F x3 0 128) with
    | true =>
      cases (Pure.impl_State_along_ok F x0 x1 x2 x3) with
      | true =>
        cases (Pure.impl_toldNumbers_way F [[Pure.impl_State_along F x0 x1 x2 x3], [Pure.impl_State_along_1 F x0 x1 x2 x3], [Pure.impl_State_along_2 F x0 x1 x2 x3], [Pure.impl_State_along_3 F x0 x1 x2 x3]]) with
        | true =>
          cases (Pure.impl_toldNumbers_okA F [[Pure.impl_State_along F x0 x1 x2 x3], [Pure.impl_State_along_1 F x0 x1 x2 x3], [Pure.impl_State_along_2 F x0 x1 x2 x3], [Pure.impl_State_along_3 F x0 x1 x2 x3]]) with
          | true =>
            intro _; rfl
          | false =>
            intro h; exact absurd h Bool.false_ne_true
        | false =>
          cases (Pure.impl_toldNumbers_okB F [[Pure.impl_State_along F x0 x1 x2 x3], [Pure.impl_State_along_1 F x0 x1 x2 x3], [Pure.impl_State_along_2 F x0 x1 x2 x3], [Pure.impl_State_along_3 F x0 x1 x2 x3]]) with
          | true =>
            intro _; rfl
          | false =>
            intro h; exact absurd h Bool.false_ne_true
      | false =>
        intro h; exact absurd h Bool.false_ne_true
    | false =>
      intro _; rfl
  | false =>
    intro _; rfl
theorem ok_impl_SlopesAlong : CallOK Try.prog 86 (c_impl_SlopesAlong real) := by
  refine callOK_of fun args h ret hc => ?_
  unfold c_impl_SlopesAlong at hc
  split at hc
  · rename_i x0 x1 x2 x3
    obtain ⟨hok, rfl⟩ := some_ret hc
    exact holds_ev2 prog_ok (allOK_cons ok_impl_stateOk (allOK_cons ok_impl_in (allOK_cons ok_impl_State_along allOK_nil))) (allTwo_cons ok2_impl_toldNumbers allTwo_nil) Try.func86 rfl rfl smL_nil rfl (e_impl_SlopesAlong real x0 x1 x2 x3 hok)
  · cases hc
def Pure.impl_IsCalmOrbit (F : FOps) (x0 : Int) (x1 : Int) (x2 : Int) (x3 : Int) : Bool := bif Pure.impl_SlopesAlong F x0 x1 x2 x3 then bif Decidable.decide (x3 < 1) then false else bif FOps.cmp F BinOp.gtr FloatKind.f32 (FOps.bin F BinOp.add FloatKind.f32 (List.getD (List.getD (Pure.impl_SlopesAlong_1 F x0 x1 x2 x3) 0 []) 0 0) (List.getD (List.getD (Pure.impl_SlopesAlong_1 F x0 x1 x2 x3) 3 []) 0 0)) 3221225472 then FOps.cmp F BinOp.lss FloatKind.f32 (FOps.bin F BinOp.add FloatKind.f32 (List.getD (List.getD (Pure.impl_SlopesAlong_1 F x0 x1 x2 x3) 0 []) 0 0) (List.getD (List.getD (Pure.impl_SlopesAlong_1 F x0 x1 x2 x3) 3 []) 0 0)) 1073741824 else false else false
def Pure.impl_IsCalmOrbit_ok (F : FOps) (x0 : Int) (x1 : Int) (x2 : Int) (x3 : Int) : Bool := bif Pure.impl_SlopesAlong_ok F x0 x1 x2 x3 then bif Pure.impl_SlopesAlong F x0 x1 x2 x3 then bif Decidable.decide (x3 < 1) then true else bif Decidable.decide (0 < (Int.ofNat (List.length (Pure.impl_SlopesAlong_1 F x0 x1 x2 x3)))) then Decidable.decide (3 < (Int.ofNat (List.length (Pure.impl_SlopesAlong_1 F x0 x1 x2 x3)))) else false else true else false
def c_impl_IsCalmOrbit (F : FOps) : Con
  | [V.agg [A.fl FloatKind.f32 x0, A.fl FloatKind.f32 x1], V.at (A.fl FloatKind.f32 x2), V.at (A.int IntKind.i64 x3)], [] => some (Pure.impl_IsCalmOrbit_ok F x0 x1 x2 x3, ⟨V.at (A.bool (Pure.impl_IsCalmOrbit F x0 x1 x2 x3)), none, []⟩)
  | _, _ => none
theorem e_impl_IsCalmOrbit (F : FOps) (x0 : Int) (x1 : Int) (x2 : Int) (x3 : Int) : Pure.impl_IsCalmOrbit_ok F x0 x1 x2 x3 = true → evFn (cxS F tyl [(86, c_impl_SlopesAlong F)] [] [] 0) Try.f48 false [V.agg [A.fl FloatKind.f32 x0, A.fl FloatKind.f32 x1], V.at (A.fl FloatKind.f32 x2), V.at (A.int IntKind.i64 x3)] [] = some ⟨V.at (A.bool (Pure.impl_IsCalmOrbit F x0 x1 x2 x3)), none, []⟩ := by
  have h0 : evFn (cxS F tyl [(86, c_impl_SlopesAlong F)] [] [] 0) Try.f48 false [V.agg [A.fl FloatKind.f32 x0, A.fl FloatKind.f32 x1], V.at (A.fl FloatKind.f32 x2), V.at (A.int IntKind.i64 x3)] [] = bif Pure.impl_SlopesAlong_ok F x0 x1 x2 x3 then bif Bool.not (Pure.impl_SlopesAlong F x0 x1 x2 x3) then some ⟨V.at (A.bool false), none, []⟩ else bif Decidable.decide (x3 < 1) then some ⟨V.at (A.bool false), none, []⟩ else bif Decidable.decide (0 < (Int.ofNat (List.length (Pure.impl_SlopesAlong_1 F x0 x1 x2 x3)))) then bif Decidable.decide (3 < (Int.ofNat (List.length (Pure.impl_SlopesAlong_1 F x0 x1 x2 x3)))) then bif FOps.cmp F BinOp.gtr FloatKind.f32 (FOps.bin F BinOp.add FloatKind.f32 (List.getD (List.getD (Pure.impl_SlopesAlong_1 F x0 x1 x2 x3) 0 []) 0 0) (List.getD (List.getD (Pure.impl_SlopesAlong_1 F x0 x1 x2 x3) 3 []) 0 0)) 3221225472 then some ⟨V.at (A.bool (FOps.cmp F BinOp.lss FloatKind.f32 (FOps.bin F BinOp.add FloatKind.f32 (List.getD (List.getD (Pure.impl_SlopesAlong_1 F x0 x1 x2 x3) 0 []) 0 0) (List.getD (List.getD (Pure.impl_SlopesAlong_1 F x0 x1 x2 x3) 3 []) 0 0)) 1073741824)), none, []⟩ else some ⟨V.at (A.bool false), none, []⟩ else none else none else none := by kernel_rfl
  rw [h0]
  unfold Pure.impl_IsCalmOrbit Pure.impl_IsCalmOrbit_ok
  cases (Pure.impl_SlopesAlong_ok F x0 x1 x2 x3) with
  | true =>
    cases (Pure.impl_SlopesAlong F x0 x1 x2 x3) with
    | true =>
      cases (Decidable.decide (x3 < 1)) with
      | true =>
        intro _; rfl
      | false =>
        cases (Decidable.decide (0 < (Int.ofNat (List.length (Pure.impl_SlopesAlong_1 F x0 x1 x2 x3))))) with
        | true =>
          cases (Decidable.decide (3 < (Int.ofNat (List.length (Pure.impl_SlopesAlong_1 F x0 x1 x2 x3))))) with
          | true =>
            cases (FOps.cmp F BinOp.gtr FloatKind.f32 (FOps.bin F BinOp.add FloatKind.f32 (List.getD (List.getD (Pure.impl_SlopesAlong_1 F x0 x1 x2 x3) 0 []) 0 0) (List.getD (List.getD (Pure.impl_SlopesAlong_1 F x0 x1 x2 x3) 3 []) 0 0)) 3221225472) with
            | true =>
              intro _; rfl
            | false =>
              intro _; rfl
          | false =>
            intro h; exact absurd h Bool.false_ne_true
        | false =>
          intro h; exact absurd h Bool.false_ne_true
    | false =>
      intro _; rfl
  | false =>
    intro h; exact absurd h Bool.false_ne_true
theorem ok_impl_IsCalmOrbit : CallOK Try.prog 48 (c_impl_IsCalmOrbit real) := by
  refine callOK_of fun args h ret hc => ?_
  unfold c_impl_IsCalmOrbit at hc
  split at hc
  · rename_i x0 x1 x2 x3
    obtain ⟨hok, rfl⟩ := some_ret hc
    exact holds_ev prog_ok (allOK_cons ok_impl_SlopesAlong allOK_nil) Try.func48 rfl rfl smL_nil rfl (e_impl_IsCalmOrbit real x0 x1 x2 x3 hok)
  · cases hc
def Pure.laws_FnExactIsCalmOrbit (F : FOps) (x0 : Int) (x1 : Int) (x2 : Int) (x3 : Int) : Bool := (Pure.impl_IsCalmOrbit F x0 x1 x2 x3) == (Pure.spec_IsCalmOrbit F x0 x1 x2 x3)
def Pure.laws_FnExactIsCalmOrbit_ok (F : FOps) (x0 : Int) (x1 : Int) (x2 : Int) (x3 : Int) : Bool := bif Pure.spec_IsCalmOrbit_ok F x0 x1 x2 x3 then Pure.impl_IsCalmOrbit_ok F x0 x1 x2 x3 else false
def c_laws_FnExactIsCalmOrbit (F : FOps) : Con
  | [V.agg [A.fl FloatKind.f32 x0, A.fl FloatKind.f32 x1], V.at (A.fl FloatKind.f32 x2), V.at (A.int IntKind.i64 x3)], [] => some (Pure.laws_FnExactIsCalmOrbit_ok F x0 x1 x2 x3, ⟨V.at (A.bool (Pure.laws_FnExactIsCalmOrbit F x0 x1 x2 x3)), none, []⟩)
  | _, _ => none
theorem e_laws_FnExactIsCalmOrbit (F : FOps) (x0 : Int) (x1 : Int) (x2 : Int) (x3 : Int) : Pure.laws_FnExactIsCalmOrbit_ok F x0 x1 x2 x3 = true → evFn (cxS F tyl [(16, c_laws_toState F), (47, c_spec_IsCalmOrbit F), (48, c_impl_IsCalmOrbit F)] [] [] 0) Try.f13 false [V.agg [A.fl FloatKind.f32 x0, A.fl FloatKind.f32 x1], V.at (A.fl FloatKind.f32 x2), V.at (A.int IntKind.i64 x3)] [] = some ⟨V.at (A.bool (Pure.laws_FnExactIsCalmOrbit F x0 x1 x2 x3)), none, []⟩ := by
  have h0 : evFn (cxS F tyl [(16, c_laws_toState F), (47, c_spec_IsCalmOrbit F), (48, c_impl_IsCalmOrbit F)] [] [] 0) Try.f13 false [V.agg [A.fl FloatKind.f32 x0, A.fl FloatKind.f32 x1], V.at (A.fl FloatKind.f32 x2), V.at (A.int IntKind.i64 x3)] [] = bif Pure.spec_IsCalmOrbit_ok F x0 x1 x2 x3 then bif Pure.impl_IsCalmOrbit_ok F x0 x1 x2 x3 then bif Bool.not ((Pure.impl_IsCalmOrbit F x0 x1 x2 x3) == (Pure.spec_IsCalmOrbit F x0 x1 x2 x3)) then some ⟨V.at (A.bool false), none, []⟩ else some ⟨V.at (A.bool true), none, []⟩ else none else none := by kernel_rfl
  rw [h0]
  unfold Pure.laws_FnExactIsCalmOrbit Pure.laws_FnExactIsCalmOrbit_ok
  cases (Pure.spec_IsCalmOrbit_ok F x0 x1 x2 x3) with
  | true =>
    cases (Pure.impl_IsCalmOrbit_ok F x0 x1 x2 x3) with
    | true =>
      cases ((Pure.impl_IsCalmOrbit F x0 x1 x2 x3) == (Pure.spec_IsCalmOrbit F x0 x1 x2 x3)) with
      | true =>
        intro _; rfl
      | false =>
        intro _; rfl
    | false =>
      intro h; exact absurd h Bool.false_ne_true
  | false =>
    intro h; exact absurd h Bool.false_ne_true
theorem ok_laws_FnExactIsCalmOrbit : CallOK Try.prog 13 (c_laws_FnExactIsCalmOrbit real) := by
  refine callOK_of fun args h ret hc => ?_
  unfold c_laws_FnExactIsCalmOrbit at hc
  split at hc
  · rename_i x0 x1 x2 x3
    obtain ⟨hok, rfl⟩ := some_ret hc
    exact holds_ev prog_ok (allOK_cons ok_laws_toState (allOK_cons ok_spec_IsCalmOrbit (allOK_cons ok_impl_IsCalmOrbit allOK_nil))) Try.func13 rfl rfl smL_nil rfl (e_laws_FnExactIsCalmOrbit real x0 x1 x2 x3 hok)
  · cases hc
end Go.Fx
