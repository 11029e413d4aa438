import Derived.Test.YtfefhcbffepdlaaXr6e
import Derived.KernelRfl
namespace Go.Fx
open Go.Proofs
set_option maxRecDepth 100000
def Pure.spec_BestRate_L0 (F : FOps) (y2 : List (List Int)) (y3 : List (List Int)) : Nat → Int → Int → (Bool × Int)
  | 0, _, _ => (false, 0)
  | n + 1, y0, y1 => bif (Decidable.decide (y1 < (Int.ofNat (List.length y3)))) then (bif (Decidable.decide (0 ≤ y1)) then (bif (Decidable.decide (y1 < (Int.ofNat (List.length y3)))) then (bif (Decidable.decide (0 ≤ y0)) then (bif (Decidable.decide (y0 < (Int.ofNat (List.length y3)))) then (bif (FOps.cmp F BinOp.gtr FloatKind.f32 (List.getD (List.getD y3 (Int.toNat y1) []) 0 0) (List.getD (List.getD y3 (Int.toNat y0) []) 0 0)) then (Pure.spec_BestRate_L0 F y2 y3 n y1 (IntKind.wrap IntKind.i64 (y1 + 1))) else (Pure.spec_BestRate_L0 F y2 y3 n y0 (IntKind.wrap IntKind.i64 (y1 + 1)))) else ((false, 0))) else ((false, 0))) else ((false, 0))) else ((false, 0))) else ((true, y0))
def R_spec_BestRate_L0 (y2 : List (List Int)) (y3 : List (List Int)) (r : (Bool × Int)) : Bool × Bool × (Ex × List V × List Ob) × (Ex × List V × List Ob) := ((r).1, false, (Ex.normal, [V.at (A.sl 1), V.at (A.int IntKind.i64 (r).2)], [⟨false, OC.rows [K.f FloatKind.f32] y2⟩, ⟨true, OC.rows [K.f FloatKind.f32] y3⟩]), (Ex.normal, [V.at (A.sl 1), V.at (A.int IntKind.i64 (r).2)], [⟨false, OC.rows [K.f FloatKind.f32] y2⟩, ⟨true, OC.rows [K.f FloatKind.f32] y3⟩]))
def S_spec_BestRate_L0 (F : FOps) : Sm := ⟨[15, 17, 18], [58, 3, 3], [15, 17], fun vals hp => match vals, hp with
  | [V.at (A.sl 1), V.at (A.int IntKind.i64 y0), V.at (A.int IntKind.i64 y1)], [⟨false, OC.rows [K.f FloatKind.f32] y2⟩, ⟨true, OC.rows [K.f FloatKind.f32] y3⟩] => some (R_spec_BestRate_L0 y2 y3 (Pure.spec_BestRate_L0 F y2 y3 ((Int.ofNat (List.length y3)) - y1 + 1).toNat y0 y1))
  | _, _ => none⟩
theorem l_spec_BestRate_L0 (F : FOps) (y2 : List (List Int)) (y3 : List (List Int)) : ∀ (fuel : Nat) (y0 : Int) (y1 : Int), (Pure.spec_BestRate_L0 F y2 y3 fuel y0 y1).1 = true → loopOf (cxS F tyl [(26, c_spec_ScanRates F)] [] [] 0) 1 52 0 [15, 17, 18] [58, 3, 3] [15, 17] (loopB 0 (codeOf Try.f34)) fuel [V.at (A.sl 1), V.at (A.int IntKind.i64 y0), V.at (A.int IntKind.i64 y1)] [⟨false, OC.rows [K.f FloatKind.f32] y2⟩, ⟨true, OC.rows [K.f FloatKind.f32] y3⟩] = resOf (R_spec_BestRate_L0 y2 y3 (Pure.spec_BestRate_L0 F y2 y3 fuel y0 y1)) := by
  intro fuel
  induction fuel with
  | zero => intro y0 y1 h; exact absurd h Bool.false_ne_true
  | succ n ih =>
    intro y0 y1
    have h0 : roundOf (cxS F tyl [(26, c_spec_ScanRates F)] [] [] 0) 1 52 0 [15, 17, 18] [58, 3, 3] [15, 17] (loopB 0 (codeOf Try.f34)) [V.at (A.sl 1), V.at (A.int IntKind.i64 y0), V.at (A.int IntKind.i64 y1)] [⟨false, OC.rows [K.f FloatKind.f32] y2⟩, ⟨true, OC.rows [K.f FloatKind.f32] y3⟩] = (bif Decidable.decide (y1 < (Int.ofNat (List.length y3))) then bif Decidable.decide (0 ≤ y1) then bif Decidable.decide (y1 < (Int.ofNat (List.length y3))) then bif Decidable.decide (0 ≤ y0) then bif Decidable.decide (y0 < (Int.ofNat (List.length y3))) then bif FOps.cmp F BinOp.gtr FloatKind.f32 (List.getD (List.getD y3 (Int.toNat y1) []) 0 0) (List.getD (List.getD y3 (Int.toNat y0) []) 0 0) then some (true, (Ex.normal, ([V.at (A.sl 1), V.at (A.int IntKind.i64 y1), V.at (A.int IntKind.i64 (IntKind.wrap IntKind.i64 (y1 + 1)))], [⟨false, OC.rows [K.f FloatKind.f32] y2⟩, ⟨true, OC.rows [K.f FloatKind.f32] y3⟩]))) else some (true, (Ex.normal, ([V.at (A.sl 1), V.at (A.int IntKind.i64 y0), V.at (A.int IntKind.i64 (IntKind.wrap IntKind.i64 (y1 + 1)))], [⟨false, OC.rows [K.f FloatKind.f32] y2⟩, ⟨true, OC.rows [K.f FloatKind.f32] y3⟩]))) else none else none else none else none else some (false, (Ex.normal, ([V.at (A.sl 1), V.at (A.int IntKind.i64 y0)], [⟨false, OC.rows [K.f FloatKind.f32] y2⟩, ⟨true, OC.rows [K.f FloatKind.f32] y3⟩])))) := by kernel_rfl
    unfold loopOf
    rw [h0]
    unfold Pure.spec_BestRate_L0
    cases (Decidable.decide (y1 < (Int.ofNat (List.length y3)))) with
    | true =>
      cases (Decidable.decide (0 ≤ y1)) with
      | true =>
        cases (Decidable.decide (0 ≤ y0)) with
        | true =>
          cases (Decidable.decide (y0 < (Int.ofNat (List.length y3)))) with
          | true =>
            cases (FOps.cmp F BinOp.gtr FloatKind.f32 (List.getD (List.getD y3 (Int.toNat y1) []) 0 0) (List.getD (List.getD y3 (Int.toNat y0) []) 0 0)) with
            | true =>
              exact ih _ _
            | false =>
              exact ih _ _
          | false =>
            intro h; exact absurd h Bool.false_ne_true
        | false =>
          intro h; exact absurd h Bool.false_ne_true
      | false =>
        intro h; exact absurd h Bool.false_ne_true
    | false =>
      intro _; rfl
theorem t_spec_BestRate_L0 : SmTo Try.prog 1 52 (S_spec_BestRate_L0 real) 0 (.loop (loopB 0 (codeOf Try.f34))) := by
  refine smTo_ev (cl := [(26, c_spec_ScanRates real)]) (ef := []) (sm := []) (un := 0) prog_ok (allOK_cons ok_spec_ScanRates allOK_nil) smL_nil ?_
  intro vals hp q r h hq
  unfold S_spec_BestRate_L0 at h
  dsimp only at h
  split at h
  · rename_i y0 y1 y2 y3
    obtain rfl := Option.some.inj h
    have h1 := hq
    unfold resOf at h1
    rw [chk_some] at h1
    exact ⟨_, (l_spec_BestRate_L0 real y2 y3 _ y0 y1 h1.1).trans hq⟩
  · cases h
def Pure.spec_BestRate (F : FOps) (x0 : Int) (x1 : Int) (x2 : Int) (x3 : Int) (x4 : Int) (x5 : Int) (x6 : Int) (x7 : Int) (x8 : List (List Int)) (x9 : Int) (x10 : Int) (x11 : Int) : Int := bif Pure.spec_ScanRates F x0 x1 x2 x3 x4 x5 x6 x7 x8 x9 x10 x11 then Prod.snd (Pure.spec_BestRate_L0 F x8 (Pure.spec_ScanRates_1 F x0 x1 x2 x3 x4 x5 x6 x7 x8 x9 x10 x11) (Int.toNat (((Int.ofNat (List.length (Pure.spec_ScanRates_1 F x0 x1 x2 x3 x4 x5 x6 x7 x8 x9 x10 x11))) - 1) + 1)) 0 1) else 0
def Pure.spec_BestRate_1 (F : FOps) (x0 : Int) (x1 : Int) (x2 : Int) (x3 : Int) (x4 : Int) (x5 : Int) (x6 : Int) (x7 : Int) (x8 : List (List Int)) (x9 : Int) (x10 : Int) (x11 : Int) : Int := bif Pure.spec_ScanRates F x0 x1 x2 x3 x4 x5 x6 x7 x8 x9 x10 x11 then List.getD (List.getD (Pure.spec_ScanRates_1 F x0 x1 x2 x3 x4 x5 x6 x7 x8 x9 x10 x11) (Int.toNat (Prod.snd (Pure.spec_BestRate_L0 F x8 (Pure.spec_ScanRates_1 F x0 x1 x2 x3 x4 x5 x6 x7 x8 x9 x10 x11) (Int.toNat (((Int.ofNat (List.length (Pure.spec_ScanRates_1 F x0 x1 x2 x3 x4 x5 x6 x7 x8 x9 x10 x11))) - 1) + 1)) 0 1))) []) 0 0 else 0
def Pure.spec_BestRate_ok (F : FOps) (x0 : Int) (x1 : Int) (x2 : Int) (x3 : Int) (x4 : Int) (x5 : Int) (x6 : Int) (x7 : Int) (x8 : List (List Int)) (x9 : Int) (x10 : Int) (x11 : Int) : Bool := bif Pure.spec_ScanRates_ok F x0 x1 x2 x3 x4 x5 x6 x7 x8 x9 x10 x11 then bif Pure.spec_ScanRates F x0 x1 x2 x3 x4 x5 x6 x7 x8 x9 x10 x11 then bif Prod.fst (Pure.spec_BestRate_L0 F x8 (Pure.spec_ScanRates_1 F x0 x1 x2 x3 x4 x5 x6 x7 x8 x9 x10 x11) (Int.toNat (((Int.ofNat (List.length (Pure.spec_ScanRates_1 F x0 x1 x2 x3 x4 x5 x6 x7 x8 x9 x10 x11))) - 1) + 1)) 0 1) then bif Decidable.decide (0 ≤ (Prod.snd (Pure.spec_BestRate_L0 F x8 (Pure.spec_ScanRates_1 F x0 x1 x2 x3 x4 x5 x6 x7 x8 x9 x10 x11) (Int.toNat (((Int.ofNat (List.length (Pure.spec_ScanRates_1 F x0 x1 x2 x3 x4 x5 x6 x7 x8 x9 x10 x11))) - 1) + 1)) 0 1))) then Decidable.decide ((Prod.snd (Pure.spec_BestRate_L0 F x8 (Pure.spec_ScanRates_1 F x0 x1 x2 x3 x4 x5 x6 x7 x8 x9 x10 x11) (Int.toNat (((Int.ofNat (List.length (Pure.spec_ScanRates_1 F x0 x1 x2 x3 x4 x5 x6 x7 x8 x9 x10 x11))) - 1) + 1)) 0 1)) < (Int.ofNat (List.length (Pure.spec_ScanRates_1 F x0 x1 x2 x3 x4 x5 x6 x7 x8 x9 x10 x11)))) else false else false else true else false
def c_spec_BestRate (F : FOps) : Con
  | [V.agg [A.fl FloatKind.f32 x0, A.fl FloatKind.f32 x1, A.fl FloatKind.f32 x2, A.fl FloatKind.f32 x3, A.fl FloatKind.f32 x4], V.agg [A.fl FloatKind.f32 x5, A.fl FloatKind.f32 x6, A.fl FloatKind.f32 x7], V.at (A.sl 0), V.at (A.fl FloatKind.f32 x9), V.at (A.int IntKind.i64 x10), V.at (A.int IntKind.i64 x11)], [⟨false, OC.rows [K.f FloatKind.f32] x8⟩] => some (Pure.spec_BestRate_ok F x0 x1 x2 x3 x4 x5 x6 x7 x8 x9 x10 x11, ⟨V.tup [(false, [A.int IntKind.i64 (Pure.spec_BestRate F x0 x1 x2 x3 x4 x5 x6 x7 x8 x9 x10 x11)]), (false, [A.fl FloatKind.f32 (Pure.spec_BestRate_1 F x0 x1 x2 x3 x4 x5 x6 x7 x8 x9 x10 x11)]), (false, [A.bool (Pure.spec_ScanRates F x0 x1 x2 x3 x4 x5 x6 x7 x8 x9 x10 x11)])], none, []⟩)
  | _, _ => none
theorem e_spec_BestRate (F : FOps) (x0 : Int) (x1 : Int) (x2 : Int) (x3 : Int) (x4 : Int) (x5 : Int) (x6 : Int) (x7 : Int) (x8 : List (List Int)) (x9 : Int) (x10 : Int) (x11 : Int) : Pure.spec_BestRate_ok F x0 x1 x2 x3 x4 x5 x6 x7 x8 x9 x10 x11 = true → evFn (cxS F tyl [(26, c_spec_ScanRates F)] [] [(0, S_spec_BestRate_L0 F)] 0) Try.f34 false [V.agg [A.fl FloatKind.f32 x0, A.fl FloatKind.f32 x1, A.fl FloatKind.f32 x2, A.fl FloatKind.f32 x3, A.fl FloatKind.f32 x4], V.agg [A.fl FloatKind.f32 x5, A.fl FloatKind.f32 x6, A.fl FloatKind.f32 x7], V.at (A.sl 0), V.at (A.fl FloatKind.f32 x9), V.at (A.int IntKind.i64 x10), V.at (A.int IntKind.i64 x11)] [⟨false, OC.rows [K.f FloatKind.f32] x8⟩] = some ⟨V.tup [(false, [A.int IntKind.i64 (Pure.spec_BestRate F x0 x1 x2 x3 x4 x5 x6 x7 x8 x9 x10 x11)]), (false, [A.fl FloatKind.f32 (Pure.spec_BestRate_1 F x0 x1 x2 x3 x4 x5 x6 x7 x8 x9 x10 x11)]), (false, [A.bool (Pure.spec_ScanRates F x0 x1 x2 x3 x4 x5 x6 x7 x8 x9 x10 x11)])], none, []⟩ := by
  have h0 : evFn (cxS F tyl [(26, c_spec_ScanRates F)] [] [(0, S_spec_BestRate_L0 F)] 0) Try.f34 false [V.agg [A.fl FloatKind.f32 x0, A.fl FloatKind.f32 x1, A.fl FloatKind.f32 x2, A.fl FloatKind.f32 x3, A.fl FloatKind.f32 x4], V.agg [A.fl FloatKind.f32 x5, A.fl FloatKind.f32 x6, A.fl FloatKind.f32 x7], V.at (A.sl 0), V.at (A.fl FloatKind.f32 x9), V.at (A.int IntKind.i64 x10), V.at (A.int IntKind.i64 x11)] [⟨false, OC.rows [K.f FloatKind.f32] x8⟩] = bif Pure.spec_ScanRates_ok F x0 x1 x2 x3 x4 x5 x6 x7 x8 x9 x10 x11 then bif Bool.not (Pure.spec_ScanRates F x0 x1 x2 x3 x4 x5 x6 x7 x8 x9 x10 x11) then some ⟨V.tup [(false, [A.int IntKind.i64 0]), (false, [A.fl FloatKind.f32 0]), (false, [A.bool false])], none, []⟩ else bif Prod.fst (Pure.spec_BestRate_L0 F x8 (Pure.spec_ScanRates_1 F x0 x1 x2 x3 x4 x5 x6 x7 x8 x9 x10 x11) (Int.toNat (((Int.ofNat (List.length (Pure.spec_ScanRates_1 F x0 x1 x2 x3 x4 x5 x6 x7 x8 x9 x10 x11))) - 1) + 1)) 0 1) then bif Decidable.decide (0 ≤ (Prod.snd (Pure.spec_BestRate_L0 F x8 (Pure.spec_ScanRates_1 F x0 x1 x2 x3 x4 x5 x6 x7 x8 x9 x10 x11) (Int.toNat (((Int.ofNat (List.length (Pure.spec_ScanRates_1 F x0 x1 x2 x3 x4 x5 x6 x7 x8 x9 x10 x11))) - 1) + 1)) 0 1))) then bif Decidable.decide ((Prod.snd (Pure.spec_BestRate_L0 F x8 (Pure.spec_ScanRates_1 F x0 x1 x2 x3 x4 x5 x6 x7 x8 x9 x10 x11) (Int.toNat (((Int.ofNat (List.length (Pure.spec_ScanRates_1 F x0 x1 x2 x3 x4 x5 x6 x7 x8 x9 x10 x11))) - 1) + 1)) 0 1)) < (Int.ofNat (List.length (Pure.spec_ScanRates_1 F x0 x1 x2 x3 x4 x5 x6 x7 x8 x9 x10 x11)))) then some ⟨V.tup [(false, [A.int IntKind.i64 (Prod.snd (Pure.spec_BestRate_L0 F x8 (Pure.spec_ScanRates_1 F x0 x1 x2 x3 x4 x5 x6 x7 x8 x9 x10 x11) (Int.toNat (((Int.ofNat (List.length (Pure.spec_ScanRates_1 F x0 x1 x2 x3 x4 x5 x6 x7 x8 x9 x10 x11))) - 1) + 1)) 0 1))]), (false, [A.fl FloatKind.f32 (List.getD (List.getD (Pure.spec_ScanRates_1 F x0 x1 x2 x3 x4 x5 x6 x7 x8 x9 x10 x11) (Int.toNat (Prod.snd (Pure.spec_BestRate_L0 F x8 (Pure.spec_ScanRates_1 F x0 x1 x2 x3 x4 x5 x6 x7 x8 x9 x10 x11) (Int.toNat (((Int.ofNat (List.length (Pure.spec_ScanRates_1 F x0 x1 x2 x3 x4 x5 x6 x7 x8 x9 x10 x11))) - 1) + 1)) 0 1))) []) 0 0)]), (false, [A.bool true])], none, []⟩ else none else none else none else none := by kernel_rfl
  rw [h0]
  unfold Pure.spec_BestRate Pure.spec_BestRate_1 Pure.spec_BestRate_ok
  cases (Pure.spec_ScanRates_ok F x0 x1 x2 x3 x4 x5 x6 x7 x8 x9 x10 x11) with
  | true =>
    cases (Pure.spec_ScanRates F x0 x1 x2 x3 x4 x5 x6 x7 x8 x9 x10 x11) with
    | true =>
      cases (Prod.fst (Pure.spec_BestRate_L0 F x8 (Pure.spec_ScanRates_1 F x0 x1 x2 x3 x4 x5 x6 x7 x8 x9 x10 x11) (Int.toNat (((Int.ofNat (List.length (Pure.spec_ScanRates_1 F x0 x1 x2 x3 x4 x5 x6 x7 x8 x9 x10 x11))) - 1) + 1)) 0 1)) with
      | true =>
        cases (Decidable.decide (0 ≤ (Prod.snd (Pure.spec_BestRate_L0 F x8 (Pure.spec_ScanRates_1 F x0 x1 x2 x3 x4 x5 x6 x7 x8 x9 x10 x11) (Int.toNat (((Int.ofNat (List.length (Pure.spec_ScanRates_1 F x0 x1 x2 x3 x4 x5 x6 x7 x8 x9 x10 x11))) - 1) + 1)) 0 1)))) with
        | true =>
          cases (Decidable.decide ((Prod.snd (Pure.spec_BestRate_L0 F x8 (Pure.spec_ScanRates_1 F x0 x1 x2 x3 x4 x5 x6 x7 x8 x9 x10 x11) (Int.toNat (((Int.ofNat (List.length (Pure.spec_ScanRates_1 F x0 x1 x2 x3 x4 x5 x6 x7 x8 x9 x10 x11))) - 1) + 1)) 0 1)) < (Int.ofNat (List.length (Pure.spec_ScanRates_1 F x0 x1 x2 x3 x4 x5 x6 x7 x8 x9 x10 x11))))) with
          | true =>
            intro _; rfl
          | false =>
            intro h; exact absurd h Bool.false_ne_true
        | false =>
          intro h; exact absurd h Bool.false_ne_true
      | false =>
        intro h; exact absurd h Bool.false_ne_true
    | false =>
      intro _; rfl
  | false =>
    intro h; exact absurd h Bool.false_ne_true
theorem ok_spec_BestRate : CallOK Try.prog 34 (c_spec_BestRate real) := by
  refine callOK_of fun args h ret hc => ?_
  unfold c_spec_BestRate at hc
  split at hc
  · rename_i x0 x1 x2 x3 x4 x5 x6 x7 x9 x10 x11 x8
    obtain ⟨hok, rfl⟩ := some_ret hc
    exact holds_ev prog_ok (allOK_cons ok_spec_ScanRates allOK_nil) Try.func34 rfl rfl (smL_cons (body := .loop (loopB 0 (codeOf Try.f34))) (by kernel_rfl) t_spec_BestRate_L0 smL_nil) rfl (e_spec_BestRate real x0 x1 x2 x3 x4 x5 x6 x7 x8 x9 x10 x11 hok)
  · cases hc
def Pure.slices_Max_float32_float32_L0 (F : FOps) (y2 : List (List Int)) : Nat → Int → Int → (Bool × Int)
  | 0, _, _ => (false, 0)
  | n + 1, y0, y1 => bif (Decidable.decide (y1 < (Int.ofNat (List.length y2)))) then (bif (Decidable.decide (0 ≤ y1)) then (bif (Decidable.decide (y1 < (Int.ofNat (List.length y2)))) then (Pure.slices_Max_float32_float32_L0 F y2 n (FOps.mx F FloatKind.f32 y0 (List.getD (List.getD y2 (Int.toNat y1) []) 0 0)) (IntKind.wrap IntKind.i64 (y1 + 1))) else ((false, 0))) else ((false, 0))) else ((true, y0))
def R_slices_Max_float32_float32_L0 (y2 : List (List Int)) (r : (Bool × Int)) : Bool × Bool × (Ex × List V × List Ob) × (Ex × List V × List Ob) := ((r).1, false, (Ex.normal, [V.at (A.fl FloatKind.f32 (r).2)], [⟨false, OC.rows [K.f FloatKind.f32] y2⟩]), (Ex.normal, [V.at (A.fl FloatKind.f32 (r).2)], [⟨false, OC.rows [K.f FloatKind.f32] y2⟩]))
def S_slices_Max_float32_float32_L0 (F : FOps) : Sm := ⟨[0, 3, 4], [58, 24, 3], [3], fun vals hp => match vals, hp with
  | [V.at (A.sl 0), V.at (A.fl FloatKind.f32 y0), V.at (A.int IntKind.i64 y1)], [⟨false, OC.rows [K.f FloatKind.f32] y2⟩] => some (R_slices_Max_float32_float32_L0 y2 (Pure.slices_Max_float32_float32_L0 F y2 ((Int.ofNat (List.length y2)) - y1 + 1).toNat y0 y1))
  | _, _ => none⟩
theorem l_slices_Max_float32_float32_L0 (F : FOps) (y2 : List (List Int)) : ∀ (fuel : Nat) (y0 : Int) (y1 : Int), (Pure.slices_Max_float32_float32_L0 F y2 fuel y0 y1).1 = true → loopOf (cxS F tyl [] [] [] 0) 1 25 0 [0, 3, 4] [58, 24, 3] [3] (loopB 0 (codeOf Try.f65)) fuel [V.at (A.sl 0), V.at (A.fl FloatKind.f32 y0), V.at (A.int IntKind.i64 y1)] [⟨false, OC.rows [K.f FloatKind.f32] y2⟩] = resOf (R_slices_Max_float32_float32_L0 y2 (Pure.slices_Max_float32_float32_L0 F y2 fuel y0 y1)) := by
  intro fuel
  induction fuel with
  | zero => intro y0 y1 h; exact absurd h Bool.false_ne_true
  | succ n ih =>
    intro y0 y1
    have h0 : roundOf (cxS F tyl [] [] [] 0) 1 25 0 [0, 3, 4] [58, 24, 3] [3] (loopB 0 (codeOf Try.f65)) [V.at (A.sl 0), V.at (A.fl FloatKind.f32 y0), V.at (A.int IntKind.i64 y1)] [⟨false, OC.rows [K.f FloatKind.f32] y2⟩] = (bif Decidable.decide (y1 < (Int.ofNat (List.length y2))) then bif Decidable.decide (0 ≤ y1) then bif Decidable.decide (y1 < (Int.ofNat (List.length y2))) then some (true, (Ex.normal, ([V.at (A.sl 0), V.at (A.fl FloatKind.f32 (FOps.mx F FloatKind.f32 y0 (List.getD (List.getD y2 (Int.toNat y1) []) 0 0))), V.at (A.int IntKind.i64 (IntKind.wrap IntKind.i64 (y1 + 1)))], [⟨false, OC.rows [K.f FloatKind.f32] y2⟩]))) else none else none else some (false, (Ex.normal, ([V.at (A.fl FloatKind.f32 y0)], [⟨false, OC.rows [K.f FloatKind.f32] y2⟩])))) := by kernel_rfl
    unfold loopOf
    rw [h0]
    unfold Pure.slices_Max_float32_float32_L0
    cases (Decidable.decide (y1 < (Int.ofNat (List.length y2)))) with
    | true =>
      cases (Decidable.decide (0 ≤ y1)) with
      | true =>
        exact ih _ _
      | false =>
        intro h; exact absurd h Bool.false_ne_true
    | false =>
      intro _; rfl
theorem t_slices_Max_float32_float32_L0 : SmTo Try.prog 1 25 (S_slices_Max_float32_float32_L0 real) 0 (.loop (loopB 0 (codeOf Try.f65))) := by
  refine smTo_ev (cl := []) (ef := []) (sm := []) (un := 0) prog_ok allOK_nil smL_nil ?_
  intro vals hp q r h hq
  unfold S_slices_Max_float32_float32_L0 at h
  dsimp only at h
  split at h
  · rename_i y0 y1 y2
    obtain rfl := Option.some.inj h
    have h1 := hq
    unfold resOf at h1
    rw [chk_some] at h1
    exact ⟨_, (l_slices_Max_float32_float32_L0 real y2 _ y0 y1 h1.1).trans hq⟩
  · cases h
def Pure.slices_Max_float32_float32 (F : FOps) (x0 : List (List Int)) : Int := Prod.snd (Pure.slices_Max_float32_float32_L0 F x0 (Int.toNat (((Int.ofNat (List.length x0)) - 1) + 1)) (List.getD (List.getD x0 0 []) 0 0) 1)
def Pure.slices_Max_float32_float32_ok (F : FOps) (x0 : List (List Int)) : Bool := bif Decidable.decide ((Int.ofNat (List.length x0)) < 1) then false else bif Decidable.decide (0 < (Int.ofNat (List.length x0))) then Prod.fst (Pure.slices_Max_float32_float32_L0 F x0 (Int.toNat (((Int.ofNat (List.length x0)) - 1) + 1)) (List.getD (List.getD x0 0 []) 0 0) 1) else false
def c_slices_Max_float32_float32 (F : FOps) : Con
  | [V.at (A.sl 0)], [⟨false, OC.rows [K.f FloatKind.f32] x0⟩] => some (Pure.slices_Max_float32_float32_ok F x0, ⟨V.at (A.fl FloatKind.f32 (Pure.slices_Max_float32_float32 F x0)), none, []⟩)
  | _, _ => none
theorem e_slices_Max_float32_float32 (F : FOps) (x0 : List (List Int)) : Pure.slices_Max_float32_float32_ok F x0 = true → evFn (cxS F tyl [] [] [(0, S_slices_Max_float32_float32_L0 F)] 0) Try.f65 false [V.at (A.sl 0)] [⟨false, OC.rows [K.f FloatKind.f32] x0⟩] = some ⟨V.at (A.fl FloatKind.f32 (Pure.slices_Max_float32_float32 F x0)), none, []⟩ := by
  have h0 : evFn (cxS F tyl [] [] [(0, S_slices_Max_float32_float32_L0 F)] 0) Try.f65 false [V.at (A.sl 0)] [⟨false, OC.rows [K.f FloatKind.f32] x0⟩] = bif Decidable.decide ((Int.ofNat (List.length x0)) < 1) then none else bif Decidable.decide (0 < (Int.ofNat (List.length x0))) then bif Prod.fst (Pure.slices_Max_float32_float32_L0 F x0 (Int.toNat (((Int.ofNat (List.length x0)) - 1) + 1)) (List.getD (List.getD x0 0 []) 0 0) 1) then some ⟨V.at (A.fl FloatKind.f32 (Prod.snd (Pure.slices_Max_float32_float32_L0 F x0 (Int.toNat (((Int.ofNat (List.length x0)) - 1) + 1)) (List.getD (List.getD x0 0 []) 0 0) 1))), none, []⟩ else none else none := by kernel_rfl
  rw [h0]
  unfold Pure.slices_Max_float32_float32 Pure.slices_Max_float32_float32_ok
  cases (Decidable.decide ((Int.ofNat (List.length x0)) < 1)) with
  | true =>
    intro h; exact absurd h Bool.false_ne_true
  | false =>
    cases (Decidable.decide (0 < (Int.ofNat (List.length x0)))) with
    | true =>
      cases (Prod.fst (Pure.slices_Max_float32_float32_L0 F x0 (Int.toNat (((Int.ofNat (List.length x0)) - 1) + 1)) (List.getD (List.getD x0 0 []) 0 0) 1)) with
      | true =>
        intro _; rfl
      | false =>
        intro h; exact absurd h Bool.false_ne_true
    | false =>
      intro h; exact absurd h Bool.false_ne_true
theorem ok_slices_Max_float32_float32 : CallOK Try.prog 65 (c_slices_Max_float32_float32 real) := by
  refine callOK_of fun args h ret hc => ?_
  unfold c_slices_Max_float32_float32 at hc
  split at hc
  · rename_i x0
    obtain ⟨hok, rfl⟩ := some_ret hc
    exact holds_ev prog_ok allOK_nil Try.func65 rfl rfl (smL_cons (body := .loop (loopB 0 (codeOf Try.f65))) (by kernel_rfl) t_slices_Max_float32_float32_L0 smL_nil) rfl (e_slices_Max_float32_float32 real x0 hok)
  · cases hc
def Pure.slices_Index_float32_float32_L0 (F : FOps) (y0 : Int) (y1 : Int) (y3 : List (List Int)) : Nat → Int → (Bool × Bool × Int)
  | 0, _ => (false, false, 0)
  | n + 1, y2 => bif (Decidable.decide (y2 < y1)) then (bif (Decidable.decide (0 ≤ y2)) then (bif (Decidable.decide (y2 < (Int.ofNat (List.length y3)))) then (bif (FOps.cmp F BinOp.eql FloatKind.f32 y0 (List.getD (List.getD y3 (Int.toNat y2) []) 0 0)) then ((true, true, y2)) else (Pure.slices_Index_float32_float32_L0 F y0 y1 y3 n (IntKind.wrap IntKind.i64 (y2 + 1)))) else ((false, false, 0))) else ((false, false, 0))) else ((true, false, 0))
def R_slices_Index_float32_float32_L0 (y3 : List (List Int)) (r : (Bool × Bool × Int)) : Bool × Bool × (Ex × List V × List Ob) × (Ex × List V × List Ob) := ((r).1, (r).2.1, (Ex.normal, [V.at A.undef], [⟨false, OC.rows [K.f FloatKind.f32] y3⟩]), (Ex.ret, [V.at (A.int IntKind.i64 (r).2.2)], [⟨false, OC.rows [K.f FloatKind.f32] y3⟩]))
def S_slices_Index_float32_float32_L0 (F : FOps) : Sm := ⟨[0, 1, 7, 8], [58, 24, 3, 3], [4], fun vals hp => match vals, hp with
  | [V.at (A.sl 0), V.at (A.fl FloatKind.f32 y0), V.at (A.int IntKind.i64 y1), V.at (A.int IntKind.i64 y2)], [⟨false, OC.rows [K.f FloatKind.f32] y3⟩] => some (R_slices_Index_float32_float32_L0 y3 (Pure.slices_Index_float32_float32_L0 F y0 y1 y3 (y1 - y2 + 1).toNat y2))
  | _, _ => none⟩
theorem l_slices_Index_float32_float32_L0 (F : FOps) (y0 : Int) (y1 : Int) (y3 : List (List Int)) : ∀ (fuel : Nat) (y2 : Int), (Pure.slices_Index_float32_float32_L0 F y0 y1 y3 fuel y2).1 = true → loopOf (cxS F tyl [] [] [] 0) 1 19 0 [0, 1, 7, 8] [58, 24, 3, 3] [4] (loopB 0 (codeOf Try.f64)) fuel [V.at (A.sl 0), V.at (A.fl FloatKind.f32 y0), V.at (A.int IntKind.i64 y1), V.at (A.int IntKind.i64 y2)] [⟨false, OC.rows [K.f FloatKind.f32] y3⟩] = resOf (R_slices_Index_float32_float32_L0 y3 (Pure.slices_Index_float32_float32_L0 F y0 y1 y3 fuel y2)) := by
  intro fuel
  induction fuel with
  | zero => intro y2 h; exact absurd h Bool.false_ne_true
  | succ n ih =>
    intro y2
    have h0 : roundOf (cxS F tyl [] [] [] 0) 1 19 0 [0, 1, 7, 8] [58, 24, 3, 3] [4] (loopB 0 (codeOf Try.f64)) [V.at (A.sl 0), V.at (A.fl FloatKind.f32 y0), V.at (A.int IntKind.i64 y1), V.at (A.int IntKind.i64 y2)] [⟨false, OC.rows [K.f FloatKind.f32] y3⟩] = (bif Decidable.decide (y2 < y1) then bif Decidable.decide (0 ≤ y2) then bif Decidable.decide (y2 < (Int.ofNat (List.length y3))) then bif FOps.cmp F BinOp.eql FloatKind.f32 y0 (List.getD (List.getD y3 (Int.toNat y2) []) 0 0) then some (false, (Ex.ret, ([V.at (A.int IntKind.i64 y2)], [⟨false, OC.rows [K.f FloatKind.f32] y3⟩]))) else some (true, (Ex.normal, ([V.at (A.sl 0), V.at (A.fl FloatKind.f32 y0), V.at (A.int IntKind.i64 y1), V.at (A.int IntKind.i64 (IntKind.wrap IntKind.i64 (y2 + 1)))], [⟨false, OC.rows [K.f FloatKind.f32] y3⟩]))) else none else none else some (false, (Ex.normal, ([V.at A.undef], [⟨false, OC.rows [K.f FloatKind.f32] y3⟩])))) := by kernel_rfl
    unfold loopOf
    rw [h0]
    unfold Pure.slices_Index_float32_float32_L0
    cases (Decidable.decide (y2 < y1)) with
    | true =>
      cases (Decidable.decide (0 ≤ y2)) with
      | true =>
        cases (Decidable.decide (y2 < (Int.ofNat (List.length y3)))) with
        | true =>
          cases (FOps.cmp F BinOp.eql FloatKind.f32 y0 (List.getD (List.getD y3 (Int.toNat y2) []) 0 0)) with
          | true =>
            intro _; rfl
          | false =>
            exact ih _
        | false =>
          intro h; exact absurd h Bool.false_ne_true
      | false =>
        intro h; exact absurd h Bool.false_ne_true
    | false =>
      intro _; rfl
theorem t_slices_Index_float32_float32_L0 : SmTo Try.prog 1 19 (S_slices_Index_float32_float32_L0 real) 0 (.loop (loopB 0 (codeOf Try.f64))) := by
  refine smTo_ev (cl := []) (ef := []) (sm := []) (un := 0) prog_ok allOK_nil smL_nil ?_
  intro vals hp q r h hq
  unfold S_slices_Index_float32_float32_L0 at h
  dsimp only at h
  split at h
  · rename_i y0 y1 y2 y3
    obtain rfl := Option.some.inj h
    have h1 := hq
    unfold resOf at h1
    rw [chk_some] at h1
    exact ⟨_, (l_slices_Index_float32_float32_L0 real y0 y1 y3 _ y2 h1.1).trans hq⟩
  · cases h
def Pure.slices_Index_float32_float32 (F : FOps) (x0 : List (List Int)) (x1 : Int) : Int := bif Prod.fst (Prod.snd (Pure.slices_Index_float32_float32_L0 F x1 (Int.ofNat (List.length x0)) x0 (Nat.succ ((List.length x0) + 0)) 0)) then Prod.snd (Prod.snd (Pure.slices_Index_float32_float32_L0 F x1 (Int.ofNat (List.length x0)) x0 (Nat.succ ((List.length x0) + 0)) 0)) else (-1)
def Pure.slices_Index_float32_float32_ok (F : FOps) (x0 : List (List Int)) (x1 : Int) : Bool := Prod.fst (Pure.slices_Index_float32_float32_L0 F x1 (Int.ofNat (List.length x0)) x0 (Nat.succ ((List.length x0) + 0)) 0)
def c_slices_Index_float32_float32 (F : FOps) : Con
  | [V.at (A.sl 0), V.at (A.fl FloatKind.f32 x1)], [⟨false, OC.rows [K.f FloatKind.f32] x0⟩] => some (Pure.slices_Index_float32_float32_ok F x0 x1, ⟨V.at (A.int IntKind.i64 (Pure.slices_Index_float32_float32 F x0 x1)), none, []⟩)
  | _, _ => none
theorem e_slices_Index_float32_float32 (F : FOps) (x0 : List (List Int)) (x1 : Int) : Pure.slices_Index_float32_float32_ok F x0 x1 = true → evFn (cxS F tyl [] [] [(0, S_slices_Index_float32_float32_L0 F)] 0) Try.f64 false [V.at (A.sl 0), V.at (A.fl FloatKind.f32 x1)] [⟨false, OC.rows [K.f FloatKind.f32] x0⟩] = some ⟨V.at (A.int IntKind.i64 (Pure.slices_Index_float32_float32 F x0 x1)), none, []⟩ := by
  have h0 : evFn (cxS F tyl [] [] [(0, S_slices_Index_float32_float32_L0 F)] 0) Try.f64 false [V.at (A.sl 0), V.at (A.fl FloatKind.f32 x1)] [⟨false, OC.rows [K.f FloatKind.f32] x0⟩] = bif Prod.fst (Pure.slices_Index_float32_float32_L0 F x1 (Int.ofNat (List.length x0)) x0 (Nat.succ ((List.length x0) + 0)) 0) then bif Prod.fst (Prod.snd (Pure.slices_Index_float32_float32_L0 F x1 (Int.ofNat (List.length x0)) x0 (Nat.succ ((List.length x0) + 0)) 0)) then some ⟨V.at (A.int IntKind.i64 (Prod.snd (Prod.snd (Pure.slices_Index_float32_float32_L0 F x1 (Int.ofNat (List.length x0)) x0 (Nat.succ ((List.length x0) + 0)) 0)))), none, []⟩ else some ⟨V.at (A.int IntKind.i64 (-1)), none, []⟩ else none := by kernel_rfl
  rw [h0]
  unfold Pure.slices_Index_float32_float32 Pure.slices_Index_float32_float32_ok
  cases (Prod.fst (Pure.slices_Index_float32_float32_L0 F x1 (Int.ofNat (List.length x0)) x0 (Nat.succ ((List.length x0) + 0)) 0)) with
  | true =>
    cases (Prod.fst (Prod.snd (Pure.slices_Index_float32_float32_L0 F x1 (Int.ofNat (List.length x0)) x0 (Nat.succ ((List.length x0) + 0)) 0))) with
    | true =>
      intro _; rfl
    | false =>
      intro _; rfl
  | false =>
    intro h; exact absurd h Bool.false_ne_true
theorem ok_slices_Index_float32_float32 : CallOK Try.prog 64 (c_slices_Index_float32_float32 real) := by
  refine callOK_of fun args h ret hc => ?_
  unfold c_slices_Index_float32_float32 at hc
  split at hc
  · rename_i x1 x0
    obtain ⟨hok, rfl⟩ := some_ret hc
    exact holds_ev prog_ok allOK_nil Try.func64 rfl rfl (smL_cons (body := .loop (loopB 0 (codeOf Try.f64))) (by kernel_rfl) t_slices_Index_float32_float32_L0 smL_nil) rfl (e_slices_Index_float32_float32 real x0 x1 hok)
  · cases hc
def Pure.impl_BestRate (F : FOps) (x0 : Int) (x1 : Int) (x2 : Int) (x3 : Int) (x4 : Int) (x5 : Int) (x6 : Int) (x7 : Int) (x8 : List (List Int)) (x9 : Int) (x10 : Int) (x11 : Int) : Int := bif Pure.impl_ScanRates F x0 x1 x2 x3 x4 x5 x6 x7 x8 x9 x10 x11 then Pure.slices_Index_float32_float32 F (Pure.impl_ScanRates_1 F x0 x1 x2 x3 x4 x5 x6 x7 x8 x9 x10 x11) (Pure.slices_Max_float32_float32 F (Pure.impl_ScanRates_1 F x0 x1 x2 x3 x4 x5 x6 x7 x8 x9 x10 x11)) else 0
def Pure.impl_BestRate_1 (F : FOps) (x0 : Int) (x1 : Int) (x2 : Int) (x3 : Int) (x4 : Int) (x5 : Int) (x6 : Int) (x7 : Int) (x8 : List (List Int)) (x9 : Int) (x10 : Int) (x11 : Int) : Int := bif Pure.impl_ScanRates F x0 x1 x2 x3 x4 x5 x6 x7 x8 x9 x10 x11 then List.getD (List.getD (Pure.impl_ScanRates_1 F x0 x1 x2 x3 x4 x5 x6 x7 x8 x9 x10 x11) (Int.toNat (Pure.slices_Index_float32_float32 F (Pure.impl_ScanRates_1 F x0 x1 x2 x3 x4 x5 x6 x7 x8 x9 x10 x11) (Pure.slices_Max_float32_float32 F (Pure.impl_ScanRates_1 F x0 x1 x2 x3 x4 x5 x6 x7 x8 x9 x10 x11)))) []) 0 0 else 0
def Pure.impl_BestRate_ok (F : FOps) (x0 : Int) (x1 : Int) (x2 : Int) (x3 : Int) (x4 : Int) (x5 : Int) (x6 : Int) (x7 : Int) (x8 : List (List Int)) (x9 : Int) (x10 : Int) (x11 : Int) : Bool := bif Pure.impl_ScanRates_ok F x0 x1 x2 x3 x4 x5 x6 x7 x8 x9 x10 x11 then bif Pure.impl_ScanRates F x0 x1 x2 x3 x4 x5 x6 x7 x8 x9 x10 x11 then bif Pure.slices_Max_float32_float32_ok F (Pure.impl_ScanRates_1 F x0 x1 x2 x3 x4 x5 x6 x7 x8 x9 x10 x11) then bif Pure.slices_Index_float32_float32_ok F (Pure.impl_ScanRates_1 F x0 x1 x2 x3 x4 x5 x6 x7 x8 x9 x10 x11) (Pure.slices_Max_float32_float32 F (Pure.impl_ScanRates_1 F x0 x1 x2 x3 x4 x5 x6 x7 x8 x9 x10 x11)) then bif Decidable.decide (0 ≤ (Pure.slices_Index_float32_float32 F (Pure.impl_ScanRates_1 F x0 x1 x2 x3 x4 x5 x6 x7 x8 x9 x10 x11) (Pure.slices_Max_float32_float32 F (Pure.impl_ScanRates_1 F x0 x1 x2 x3 x4 x5 x6 x7 x8 x9 x10 x11)))) then Decidable.decide ((Pure.slices_Index_float32_float32 F (Pure.impl_ScanRates_1 F x0 x1 x2 x3 x4 x5 x6 x7 x8 x9 x10 x11) (Pure.slices_Max_float32_float32 F (Pure.impl_ScanRates_1 F x0 x1 x2 x3 x4 x5 x6 x7 x8 x9 x10 x11))) < (Int.ofNat (List.length (Pure.impl_ScanRates_1 F x0 x1 x2 x3 x4 x5 x6 x7 x8 x9 x10 x11)))) else false else false else false else true else false
def c_impl_BestRate (F : FOps) : Con
  | [V.agg [A.fl FloatKind.f32 x0, A.fl FloatKind.f32 x1, A.fl FloatKind.f32 x2, A.fl FloatKind.f32 x3, A.fl FloatKind.f32 x4], V.agg [A.fl FloatKind.f32 x5, A.fl FloatKind.f32 x6, A.fl FloatKind.f32 x7], V.at (A.sl 0), V.at (A.fl FloatKind.f32 x9), V.at (A.int IntKind.i64 x10), V.at (A.int IntKind.i64 x11)], [⟨false, OC.rows [K.f FloatKind.f32] x8⟩] => some (Pure.impl_BestRate_ok F x0 x1 x2 x3 x4 x5 x6 x7 x8 x9 x10 x11, ⟨V.tup [(false, [A.int IntKind.i64 (Pure.impl_BestRate F x0 x1 x2 x3 x4 x5 x6 x7 x8 x9 x10 x11)]), (false, [A.fl FloatKind.f32 (Pure.impl_BestRate_1 F x0 x1 x2 x3 x4 x5 x6 x7 x8 x9 x10 x11)]), (false, [A.bool (Pure.impl_ScanRates F x0 x1 x2 x3 x4 x5 x6 x7 x8 x9 x10 x11)])], none, []⟩)
  | _, _ => none
theorem e_impl_BestRate (F : FOps) (x0 : Int) (x1 : Int) (x2 : Int) (x3 : Int) (x4 : Int) (x5 : Int) (x6 : Int) (x7 : Int) (x8 : List (List Int)) (x9 : Int) (x10 : Int) (x11 : Int) : Pure.impl_BestRate_ok F x0 x1 x2 x3 x4 x5 x6 x7 x8 x9 x10 x11 = true → evFn (cxS F tyl [(30, c_impl_ScanRates F), (65, c_slices_Max_float32_float32 F), (64, c_slices_Index_float32_float32 F)] [] [] 0) Try.f35 false [V.agg [A.fl FloatKind.f32 x0, A.fl FloatKind.f32 x1, A.fl FloatKind.f32 x2, A.fl FloatKind.f32 x3, A.fl FloatKind.f32 x4], V.agg [A.fl FloatKind.f32 x5, A.fl FloatKind.f32 x6, A.fl FloatKind.f32 x7], V.at (A.sl 0), V.at (A.fl FloatKind.f32 x9), V.at (A.int IntKind.i64 x10), V.at (A.int IntKind.i64 x11)] [⟨false, OC.rows [K.f FloatKind.f32] x8⟩] = some ⟨V.tup [(false, [A.int IntKind.i64 (Pure.impl_BestRate F x0 x1 x2 x3 x4 x5 x6 x7 x8 x9 x10 x11)]), (false, [A.fl FloatKind.f32 (Pure.impl_BestRate_1 F x0 x1 x2 x3 x4 x5 x6 x7 x8 x9 x10 x11)]), (false, [A.bool (Pure.impl_ScanRates F x0 x1 x2 x3 x4 x5 x6 x7 x8 x9 x10 x11)])], none, []⟩ := by
  have h0 : evFn (cxS F tyl [(30, c_impl_ScanRates F), (65, c_slices_Max_float32_float32 F), (64, c_slices_Index_float32_float32 F)] [] [] 0) Try.f35 false [V.agg [A.fl FloatKind.f32 x0, A.fl FloatKind.f32 x1, A.fl FloatKind.f32 x2, A.fl FloatKind.f32 x3, A.fl FloatKind.f32 x4], V.agg [A.fl FloatKind.f32 x5, A.fl FloatKind.f32 x6, A.fl FloatKind.f32 x7], V.at (A.sl 0), V.at (A.fl FloatKind.f32 x9), V.at (A.int IntKind.i64 x10), V.at (A.int IntKind.i64 x11)] [⟨false, OC.rows [K.f FloatKind.f32] x8⟩] = bif Pure.impl_ScanRates_ok F x0 x1 x2 x3 x4 x5 x6 x7 x8 x9 x10 x11 then bif Bool.not (Pure.impl_ScanRates F x0 x1 x2 x3 x4 x5 x6 x7 x8 x9 x10 x11) then some ⟨V.tup [(false, [A.int IntKind.i64 0]), (false, [A.fl FloatKind.f32 0]), (false, [A.bool false])], none, []⟩ else bif Pure.slices_Max_float32_float32_ok F (Pure.impl_ScanRates_1 F x0 x1 x2 x3 x4 x5 x6 x7 x8 x9 x10 x11) then bif Pure.slices_Index_float32_float32_ok F (Pure.impl_ScanRates_1 F x0 x1 x2 x3 x4 x5 x6 x7 x8 x9 x10 x11) (Pure.slices_Max_float32_float32 F (Pure.impl_ScanRates_1 F x0 x1 x2 x3 x4 x5 x6 x7 x8 x9 x10 x11)) then bif Decidable.decide (0 ≤ (Pure.slices_Index_float32_float32 F (Pure.impl_ScanRates_1 F x0 x1 x2 x3 x4 x5 x6 x7 x8 x9 x10 x11) (Pure.slices_Max_float32_float32 F (Pure.impl_ScanRates_1 F x0 x1 x2 x3 x4 x5 x6 x7 x8 x9 x10 x11)))) then bif Decidable.decide ((Pure.slices_Index_float32_float32 F (Pure.impl_ScanRates_1 F x0 x1 x2 x3 x4 x5 x6 x7 x8 x9 x10 x11) (Pure.slices_Max_float32_float32 F (Pure.impl_ScanRates_1 F x0 x1 x2 x3 x4 x5 x6 x7 x8 x9 x10 x11))) < (Int.ofNat (List.length (Pure.impl_ScanRates_1 F x0 x1 x2 x3 x4 x5 x6 x7 x8 x9 x10 x11)))) then some ⟨V.tup [(false, [A.int IntKind.i64 (Pure.slices_Index_float32_float32 F (Pure.impl_ScanRates_1 F x0 x1 x2 x3 x4 x5 x6 x7 x8 x9 x10 x11) (Pure.slices_Max_float32_float32 F (Pure.impl_ScanRates_1 F x0 x1 x2 x3 x4 x5 x6 x7 x8 x9 x10 x11)))]), (false, [A.fl FloatKind.f32 (List.getD (List.getD (Pure.impl_ScanRates_1 F x0 x1 x2 x3 x4 x5 x6 x7 x8 x9 x10 x11) (Int.toNat (Pure.slices_Index_float32_float32 F (Pure.impl_ScanRates_1 F x0 x1 x2 x3 x4 x5 x6 x7 x8 x9 x10 x11) (Pure.slices_Max_float32_float32 F (Pure.impl_ScanRates_1 F x0 x1 x2 x3 x4 x5 x6 x7 x8 x9 x10 x11)))) []) 0 0)]), (false, [A.bool true])], none, []⟩ else none else none else none else none else none := by kernel_rfl
  rw [h0]
  unfold Pure.impl_BestRate Pure.impl_BestRate_1 Pure.impl_BestRate_ok
  cases (Pure.impl_ScanRates_ok F x0 x1 x2 x3 x4 x5 x6 x7 x8 x9 x10 x11) with
  | true =>
    cases (Pure.impl_ScanRates F x0 x1 x2 x3 x4 x5 x6 x7 x8 x9 x10 x11) with
    | true =>
      cases (Pure.slices_Max_float32_float32_ok F (Pure.impl_ScanRates_1 F x0 x1 x2 x3 x4 x5 x6 x7 x8 x9 x10 x11)) with
      | true =>
        cases (Pure.slices_Index_float32_float32_ok F (Pure.impl_ScanRates_1 F x0 x1 x2 x3 x4 x5 x6 x7 x8 x9 x10 x11) (Pure.slices_Max_float32_float32 F (Pure.impl_ScanRates_1 F x0 x1 x2 x3 x4 x5 x6 x7 x8 x9 x10 x11))) with
        | true =>
          cases (Decidable.decide (0 ≤ (Pure.slices_Index_float32_float32 F (Pure.impl_ScanRates_1 F x0 x1 x2 x3 x4 x5 x6 x7 x8 x9 x10 x11) (Pure.slices_Max_float32_float32 F (Pure.impl_ScanRates_1 F x0 x1 x2 x3 x4 x5 x6 x7 x8 x9 x10 x11))))) with
          | true =>
            cases (Decidable.decide ((Pure.slices_Index_float32_float32 F (Pure.impl_ScanRates_1 F x0 x1 x2 x3 x4 x5 x6 x7 x8 x9 x10 x11) (Pure.slices_Max_float32_float32 F (Pure.impl_ScanRates_1 F x0 x1 x2 x3 x4 x5 x6 x7 x8 x9 x10 x11))) < (Int.ofNat (List.length (Pure.impl_ScanRates_1 F x0 x1 x2 x3 x4 x5 x6 x7 x8 x9 x10 x11))))) with
            | true =>
              intro _; rfl
            | false =>
              intro h; exact absurd h Bool.false_ne_true
          | false =>
            intro h; exact absurd h Bool.false_ne_true
        | false =>
          intro h; exact absurd h Bool.false_ne_true
      | false =>
        intro h; exact absurd h Bool.false_ne_true
    | false =>
      intro _; rfl
  | false =>
    intro h; exact absurd h Bool.false_ne_true
theorem ok_impl_BestRate : CallOK Try.prog 35 (c_impl_BestRate real) := by
  refine callOK_of fun args h ret hc => ?_
  unfold c_impl_BestRate at hc
  split at hc
  · rename_i x0 x1 x2 x3 x4 x5 x6 x7 x9 x10 x11 x8
    obtain ⟨hok, rfl⟩ := some_ret hc
    exact holds_ev prog_ok (allOK_cons ok_impl_ScanRates (allOK_cons ok_slices_Max_float32_float32 (allOK_cons ok_slices_Index_float32_float32 allOK_nil))) Try.func35 rfl rfl smL_nil rfl (e_impl_BestRate real x0 x1 x2 x3 x4 x5 x6 x7 x8 x9 x10 x11 hok)
  · cases hc
def Pure.laws_FnExactBestRate (F : FOps) (x0 : Int) (x1 : Int) (x2 : Int) (x3 : Int) (x4 : Int) (x5 : Int) (x6 : Int) (x7 : Int) (x8 : List (List Int)) (x9 : Int) (x10 : Int) (x11 : Int) : Bool := bif Decidable.decide ((Int.ofNat (List.length x8)) > 1048576) then true else bif (Pure.impl_BestRate F x0 x1 x2 x3 x4 x5 x6 x7 (Pure.laws_toFloat32S F x8) x9 x10 x11) != (Pure.spec_BestRate F x0 x1 x2 x3 x4 x5 x6 x7 (Pure.laws_toFloat32S F x8) x9 x10 x11) then false else bif Pure.laws_sameFloat F (FOps.conv F FloatKind.f32 FloatKind.f64 (Pure.impl_BestRate_1 F x0 x1 x2 x3 x4 x5 x6 x7 (Pure.laws_toFloat32S F x8) x9 x10 x11)) (FOps.conv F FloatKind.f32 FloatKind.f64 (Pure.spec_BestRate_1 F x0 x1 x2 x3 x4 x5 x6 x7 (Pure.laws_toFloat32S F x8) x9 x10 x11)) then bif (Pure.impl_ScanRates F x0 x1 x2 x3 x4 x5 x6 x7 (Pure.laws_toFloat32S F x8) x9 x10 x11) == (Pure.spec_ScanRates F x0 x1 x2 x3 x4 x5 x6 x7 (Pure.laws_toFloat32S F x8) x9 x10 x11) then Pure.laws_eqFloat32S F (Pure.laws_toFloat32S F x8) (Pure.laws_toFloat32S F x8) else false else false
def Pure.laws_FnExactBestRate_ok (F : FOps) (x0 : Int) (x1 : Int) (x2 : Int) (x3 : Int) (x4 : Int) (x5 : Int) (x6 : Int) (x7 : Int) (x8 : List (List Int)) (x9 : Int) (x10 : Int) (x11 : Int) : Bool := bif Decidable.decide ((Int.ofNat (List.length x8)) > 1048576) then true else bif Pure.laws_toFloat32S_ok F x8 then bif Pure.spec_BestRate_ok F x0 x1 x2 x3 x4 x5 x6 x7 (Pure.laws_toFloat32S F x8) x9 x10 x11 then bif Pure.impl_BestRate_ok F x0 x1 x2 x3 x4 x5 x6 x7 (Pure.laws_toFloat32S F x8) x9 x10 x11 then bif (Pure.impl_BestRate F x0 x1 x2 x3 x4 x5 x6 x7 (Pure.laws_toFloat32S F x8) x9 x10 x11) != (Pure.spec_BestRate F x0 x1 x2 x3 x4 x5 x6 x7 (Pure.laws_toFloat32S F x8) x9 x10 x11) then true else bif FOps.convOk F FloatKind.f32 FloatKind.f64 (Pure.impl_BestRate_1 F x0 x1 x2 x3 x4 x5 x6 x7 (Pure.laws_toFloat32S F x8) x9 x10 x11) then bif FOps.convOk F FloatKind.f32 FloatKind.f64 (Pure.spec_BestRate_1 F x0 x1 x2 x3 x4 x5 x6 x7 (Pure.laws_toFloat32S F x8) x9 x10 x11) then bif Pure.laws_sameFloat F (FOps.conv F FloatKind.f32 FloatKind.f64 (Pure.impl_BestRate_1 F x0 x1 x2 x3 x4 x5 x6 x7 (Pure.laws_toFloat32S F x8) x9 x10 x11)) (FOps.conv F FloatKind.f32 FloatKind.f64 (Pure.spec_BestRate_1 F x0 x1 x2 x3 x4 x5 x6 x7 (Pure.laws_toFloat32S F x8) x9 x10 x11)) then bif (Pure.impl_ScanRates F x0 x1 x2 x3 x4 x5 x6 x7 (Pure.laws_toFloat32S F x8) x9 x10 x11) == (Pure.spec_ScanRates F x0 x1 x2 x3 x4 x5 x6 x7 (Pure.laws_toFloat32S F x8) x9 x10 x11) then Pure.laws_eqFloat32S_ok F (Pure.laws_toFloat32S F x8) (Pure.laws_toFloat32S F x8) else true else true else false else false else false else false else false
def c_laws_FnExactBestRate (F : FOps) : Con
  | [V.agg [A.fl FloatKind.f32 x0, A.fl FloatKind.f32 x1, A.fl FloatKind.f32 x2, A.fl FloatKind.f32 x3, A.fl FloatKind.f32 x4], V.agg [A.fl FloatKind.f32 x5, A.fl FloatKind.f32 x6, A.fl FloatKind.f32 x7], V.at (A.sl 0), V.at (A.fl FloatKind.f32 x9), V.at (A.int IntKind.i64 x10), V.at (A.int IntKind.i64 x11)], [⟨false, OC.rows [K.f FloatKind.f32] x8⟩] => some (Pure.laws_FnExactBestRate_ok F x0 x1 x2 x3 x4 x5 x6 x7 x8 x9 x10 x11, ⟨V.at (A.bool (Pure.laws_FnExactBestRate F x0 x1 x2 x3 x4 x5 x6 x7 x8 x9 x10 x11)), none, []⟩)
  | _, _ => none
theorem e_laws_FnExactBestRate (F : FOps) (x0 : Int) (x1 : Int) (x2 : Int) (x3 : Int) (x4 : Int) (x5 : Int) (x6 : Int) (x7 : Int) (x8 : List (List Int)) (x9 : Int) (x10 : Int) (x11 : Int) : Pure.laws_FnExactBestRate_ok F x0 x1 x2 x3 x4 x5 x6 x7 x8 x9 x10 x11 = true → evFn (cxS F tyl [(27, c_laws_toPendulum F), (28, c_laws_toSwing F), (29, c_laws_toFloat32S F), (34, c_spec_BestRate F), (35, c_impl_BestRate F), (36, c_laws_sameFloat F), (31, c_laws_eqFloat32S F)] [] [] 0) Try.f7 false [V.agg [A.fl FloatKind.f32 x0, A.fl FloatKind.f32 x1, A.fl FloatKind.f32 x2, A.fl FloatKind.f32 x3, A.fl FloatKind.f32 x4], V.agg [A.fl FloatKind.f32 x5, A.fl FloatKind.f32 x6, A.fl FloatKind.f32 x7], V.at (A.sl 0), V.at (A.fl FloatKind.f32 x9), V.at (A.int IntKind.i64 x10), V.at (A.int IntKind.i64 x11)] [⟨false, OC.rows [K.f FloatKind.f32] x8⟩] = some ⟨V.at (A.bool (Pure.laws_FnExactBestRate F x0 x1 x2 x3 x4 x5 x6 x7 x8 x9 x10 x11)), none, []⟩ := by
  have h0 : evFn (cxS F tyl [(27, c_laws_toPendulum F), (28, c_laws_toSwing F), (29, c_laws_toFloat32S F), (34, c_spec_BestRate F), (35, c_impl_BestRate F), (36, c_laws_sameFloat F), (31, c_laws_eqFloat32S F)] [] [] 0) Try.f7 false [V.agg [A.fl FloatKind.f32 x0, A.fl FloatKind.f32 x1, A.fl FloatKind.f32 x2, A.fl FloatKind.f32 x3, A.fl FloatKind.f32 x4], V.agg [A.fl FloatKind.f32 x5, A.fl FloatKind.f32 x6, A.fl FloatKind.f32 x7], V.at (A.sl 0), V.at (A.fl FloatKind.f32 x9), V.at (A.int IntKind.i64 x10), V.at (A.int IntKind.i64 x11)] [⟨false, OC.rows [K.f FloatKind.f32] x8⟩] = bif Decidable.decide ((Int.ofNat (List.length x8)) > 1048576) then some ⟨V.at (A.bool true), none, []⟩ else bif Pure.laws_toFloat32S_ok F x8 then bif Pure.spec_BestRate_ok F x0 x1 x2 x3 x4 x5 x6 x7 (Pure.laws_toFloat32S F x8) x9 x10 x11 then bif Pure.laws_toFloat32S_ok F x8 then bif Pure.impl_BestRate_ok F x0 x1 x2 x3 x4 x5 x6 x7 (Pure.laws_toFloat32S F x8) x9 x10 x11 then bif (Pure.impl_BestRate F x0 x1 x2 x3 x4 x5 x6 x7 (Pure.laws_toFloat32S F x8) x9 x10 x11) != (Pure.spec_BestRate F x0 x1 x2 x3 x4 x5 x6 x7 (Pure.laws_toFloat32S F x8) x9 x10 x11) then some ⟨V.at (A.bool false), none, []⟩ else bif FOps.convOk F FloatKind.f32 FloatKind.f64 (Pure.impl_BestRate_1 F x0 x1 x2 x3 x4 x5 x6 x7 (Pure.laws_toFloat32S F x8) x9 x10 x11) then bif FOps.convOk F FloatKind.f32 FloatKind.f64 (Pure.spec_BestRate_1 F x0 x1 x2 x3 x4 x5 x6 x7 (Pure.laws_toFloat32S F x8) x9 x10 x11) then bif Bool.not (Pure.laws_sameFloat F (FOps.conv F FloatKind.f32 FloatKind.f64 (Pure.impl_BestRate_1 F x0 x1 x2 x3 x4 x5 x6 x7 (Pure.laws_toFloat32S F x8) x9 x10 x11)) (FOps.conv F FloatKind.f32 FloatKind.f64 (Pure.spec_BestRate_1 F x0 x1 x2 x3 x4 x5 x6 x7 (Pure.laws_toFloat32S F x8) x9 x10 x11))) then some ⟨V.at (A.bool false), none, []⟩ else bif Bool.not ((Pure.impl_ScanRates F x0 x1 x2 x3 x4 x5 x6 x7 (Pure.laws_toFloat32S F x8) x9 x10 x11) == (Pure.spec_ScanRates F x0 x1 x2 x3 x4 x5 x6 x7 (Pure.laws_toFloat32S F x8) x9 x10 x11)) then some ⟨V.at (A.bool false), none, []⟩ else bif Pure.laws_toFloat32S_ok F x8 then bif Pure.laws_eqFloat32S_ok F (Pure.laws_toFloat32S F x8) (Pure.laws_toFloat32S F x8) then bif Bool.not (Pure.laws_eqFloat32S F (Pure.laws_toFloat32S F x8) (Pure.laws_toFloat32S F x8)) then some ⟨V.at (A.bool false), none, []⟩ else some ⟨V.at (A.bool true), none, []⟩ else none else none else none else none else none else none else none else none := by kernel_rfl
  rw [h0]
  unfold Pure.laws_FnExactBestRate Pure.laws_FnExactBestRate_ok
  cases (Decidable.decide ((Int.ofNat (List.length x8)) > 1048576)) with
  | true =>
    intro _; rfl
  | false =>
    cases (Pure.laws_toFloat32S_ok F x8) with
    | true =>
      cases (Pure.spec_BestRate_ok F x0 x1 x2 x3 x4 x5 x6 x7 (Pure.laws_toFloat32S F x8) x9 x10 x11) with
      | true =>
        cases (Pure.impl_BestRate_ok F x0 x1 x2 x3 x4 x5 x6 x7 (Pure.laws_toFloat32S F x8) x9 x10 x11) with
        | true =>
          cases ((Pure.impl_BestRate F x0 x1 x2 x3 x4 x5 x6 x7 (Pure.laws_toFloat32S F x8) x9 x10 x11) != (Pure.spec_BestRate F x0 x1 x2 x3 x4 x5 x6 x7 (Pure.laws_toFloat32S F x8) x9 x10 x11)) with
          | true =>
            intro _; rfl
          | false =>
            cases (FOps.convOk F FloatKind.f32 FloatKind.f64 (Pure.impl_BestRate_1 F x0 x1 x2 x3 x4 x5 x6 x7 (Pure.laws_toFloat32S F x8) x9 x10 x11)) with
            | true =>
              cases (FOps.convOk F FloatKind.f32 FloatKind.f64 (Pure.spec_BestRate_1 F x0 x1 x2 x3 x4 x5 x6 x7 (Pure.laws_toFloat32S F x8) x9 x10 x11)) with
              | true =>
                cases (Pure.laws_sameFloat F (FOps.conv F FloatKind.f32 FloatKind.f64 (Pure.impl_BestRate_1 F x0 x1 x2 x3 x4 x5 x6 x7 (Pure.laws_toFloat32S F x8) x9 x10 x11)) (FOps.conv F FloatKind.f32 FloatKind.f64 (Pure.spec_BestRate_1 F x0 x1 x2 x3 x4 x5 x6 x7 (Pure.laws_toFloat32S F x8) x9 x10 x11))) with
                | true =>
                  cases ((Pure.impl_ScanRates F x0 x1 x2 x3 x4 x5 x6 x7 (Pure.laws_toFloat32S F x8) x9 x10 x11) == (Pure.spec_ScanRates F x0 x1 x2 x3 x4 x5 x6 x7 (Pure.laws_toFloat32S F x8) x9 x10 x11)) with
                  | true =>
                    cases (Pure.laws_eqFloat32S_ok F (Pure.laws_toFloat32S F x8) (Pure.laws_toFloat32S F x8)) with
                    | true =>
                      cases (Pure.laws_eqFloat32S F (Pure.laws_toFloat32S F x8) (Pure.laws_toFloat32S F x8)) with
                      | true =>
                        intro _; rfl
                      | false =>
                        intro _; rfl
                    | false =>
                      intro h; exact absurd h Bool.false_ne_true
                  | false =>
                    intro _; rfl
                | false =>
                  intro _; rfl
              | false =>
                intro h; exact absurd h Bool.false_ne_true
            | false =>
              intro h; exact absurd h Bool.false_ne_true
        | false =>
          intro h; exact absurd h Bool.false_ne_true
      | false =>
        intro h; exact absurd h Bool.false_ne_true
    | false =>
      intro h; exact absurd h Bool.false_ne_true
theorem ok_laws_FnExactBestRate : CallOK Try.prog 7 (c_laws_FnExactBestRate real) := by
  refine callOK_of fun args h ret hc => ?_
  unfold c_laws_FnExactBestRate at hc
  split at hc
  · rename_i x0 x1 x2 x3 x4 x5 x6 x7 x9 x10 x11 x8
    obtain ⟨hok, rfl⟩ := some_ret hc
    exact holds_ev prog_ok (allOK_cons ok_laws_toPendulum (allOK_cons ok_laws_toSwing (allOK_cons ok_laws_toFloat32S (allOK_cons ok_spec_BestRate (allOK_cons ok_impl_BestRate (allOK_cons ok_laws_sameFloat (allOK_cons ok_laws_eqFloat32S allOK_nil))))))) Try.func7 rfl rfl smL_nil rfl (e_laws_FnExactBestRate real x0 x1 x2 x3 x4 x5 x6 x7 x8 x9 x10 x11 hok)
  · cases hc
end Go.Fx
