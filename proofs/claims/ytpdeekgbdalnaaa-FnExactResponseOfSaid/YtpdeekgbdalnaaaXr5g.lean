import Derived.Test.YtpdeekgbdalnaaaXr5f
import Derived.KernelRfl
namespace Go.Fx
open Go.Proofs
set_option maxRecDepth 100000
def Pure.spec_l02Can (F : FOps) (x0 : Int) (x1 : Int) (x2 : Int) (x3 : Int) (x4 : Int) (x5 : Int) (x6 : Int) (x7 : Int) (x8 : Int) (x9 : Int) (x10 : Int) : Bool := bif Pure.spec_l02Both F x0 x1 x2 x3 x4 x5 x6 x7 then bif Pure.spec_l02Tick F x8 then bif Pure.spec_l00In F x9 0 256 then bif Pure.spec_l00In F x10 0 256 then Decidable.decide ((IntKind.wrap IntKind.i64 (x9 + x10)) ≤ 256) else false else false else false else false
def c_spec_l02Can (F : FOps) : Con
  | [V.at (A.ptr 0 0 0), V.at (A.ptr 1 0 0), V.at (A.fl FloatKind.f32 x8), V.at (A.int IntKind.i64 x9), V.at (A.int IntKind.i64 x10)], [⟨false, OC.box [A.fl FloatKind.f32 x0, A.fl FloatKind.f32 x1, A.fl FloatKind.f32 x2, A.fl FloatKind.f32 x3, A.fl FloatKind.f32 x4]⟩, ⟨false, OC.box [A.fl FloatKind.f32 x5, A.fl FloatKind.f32 x6, A.fl FloatKind.f32 x7]⟩] => some (true, ⟨V.at (A.bool (Pure.spec_l02Can F x0 x1 x2 x3 x4 x5 x6 x7 x8 x9 x10)), none, []⟩)
  | _, _ => none
theorem e_spec_l02Can (F : FOps) (x0 : Int) (x1 : Int) (x2 : Int) (x3 : Int) (x4 : Int) (x5 : Int) (x6 : Int) (x7 : Int) (x8 : Int) (x9 : Int) (x10 : Int) : evFn (cxS F tyl [(75, c_spec_l02Both F), (76, c_spec_l02Tick F), (83, c_spec_l02Steps F)] [] [] 0) Try.f86 false [V.at (A.ptr 0 0 0), V.at (A.ptr 1 0 0), V.at (A.fl FloatKind.f32 x8), V.at (A.int IntKind.i64 x9), V.at (A.int IntKind.i64 x10)] [⟨false, OC.box [A.fl FloatKind.f32 x0, A.fl FloatKind.f32 x1, A.fl FloatKind.f32 x2, A.fl FloatKind.f32 x3, A.fl FloatKind.f32 x4]⟩, ⟨false, OC.box [A.fl FloatKind.f32 x5, A.fl FloatKind.f32 x6, A.fl FloatKind.f32 x7]⟩] = some ⟨V.at (A.bool (Pure.spec_l02Can F x0 x1 x2 x3 x4 x5 x6 x7 x8 x9 x10)), none, []⟩ := by
  have h0 : evFn (cxS F tyl [(75, c_spec_l02Both F), (76, c_spec_l02Tick F), (83, c_spec_l02Steps F)] [] [] 0) Try.f86 false [V.at (A.ptr 0 0 0), V.at (A.ptr 1 0 0), V.at (A.fl FloatKind.f32 x8), V.at (A.int IntKind.i64 x9), V.at (A.int IntKind.i64 x10)] [⟨false, OC.box [A.fl FloatKind.f32 x0, A.fl FloatKind.f32 x1, A.fl FloatKind.f32 x2, A.fl FloatKind.f32 x3, A.fl FloatKind.f32 x4]⟩, ⟨false, OC.box [A.fl FloatKind.f32 x5, A.fl FloatKind.f32 x6, A.fl FloatKind.f32 x7]⟩] = bif Pure.spec_l02Both F x0 x1 x2 x3 x4 x5 x6 x7 then bif Pure.spec_l02Tick F x8 then bif Pure.spec_l00In F x9 0 256 then bif Pure.spec_l00In F x10 0 256 then some ⟨V.at (A.bool (Decidable.decide ((IntKind.wrap IntKind.i64 (x9 + x10)) ≤ 256))), none, []⟩ else some ⟨V.at (A.bool false), none, []⟩ else some ⟨V.at (A.bool false), none, []⟩ else some ⟨V.at (A.bool false), none, []⟩ else some ⟨V.at (A.bool false), none, []⟩ := by kernel_rfl
  rw [h0]
  unfold Pure.spec_l02Can
  cases (Pure.spec_l02Both F x0 x1 x2 x3 x4 x5 x6 x7) with
  | true =>
    cases (Pure.spec_l02Tick F x8) with
    | true =>
      cases (Pure.spec_l00In F x9 0 256) with
      | true =>
        cases (Pure.spec_l00In F x10 0 256) with
        | true =>
          rfl
        | false =>
          rfl
      | false =>
        rfl
    | false =>
      rfl
  | false =>
    rfl
theorem ok_spec_l02Can : CallOK Try.prog 86 (c_spec_l02Can real) := by
  refine callOK_of fun args h ret hc => ?_
  unfold c_spec_l02Can at hc
  split at hc
  · rename_i x8 x9 x10 x0 x1 x2 x3 x4 x5 x6 x7
    obtain ⟨_, rfl⟩ := some_ret hc
    exact holds_ev prog_ok (allOK_cons ok_spec_l02Both (allOK_cons ok_spec_l02Tick (allOK_cons ok_spec_l02Steps allOK_nil))) Try.func86 rfl rfl smL_nil rfl (e_spec_l02Can real x0 x1 x2 x3 x4 x5 x6 x7 x8 x9 x10)
  · cases hc
def Pure.spec_l02Width_L0 (F : FOps) (y2 : List (List Int)) : Nat → Int → Int → (Bool × Int)
  | 0, _, _ => (false, 0)
  | n + 1, y0, y1 => bif (Decidable.decide (y1 < (Int.ofNat (List.length y2)))) then (bif (Decidable.decide (0 ≤ y1)) then (bif (Decidable.decide (y1 < (Int.ofNat (List.length y2)))) then (bif (FOps.cmp F BinOp.gtr FloatKind.f32 (List.getD (List.getD y2 (Int.toNat y1) []) 0 0) y0) then (bif (Decidable.decide (0 ≤ y1)) then (bif (Decidable.decide (y1 < (Int.ofNat (List.length y2)))) then (bif (Decidable.decide (0 ≤ y1)) then (bif (Decidable.decide (y1 < (Int.ofNat (List.length y2)))) then (bif (FOps.cmp F BinOp.gtr FloatKind.f32 (FOps.neg F FloatKind.f32 (List.getD (List.getD y2 (Int.toNat y1) []) 0 0)) (List.getD (List.getD y2 (Int.toNat y1) []) 0 0)) then (bif (Decidable.decide (0 ≤ y1)) then (bif (Decidable.decide (y1 < (Int.ofNat (List.length y2)))) then (Pure.spec_l02Width_L0 F y2 n (FOps.neg F FloatKind.f32 (List.getD (List.getD y2 (Int.toNat y1) []) 0 0)) (IntKind.wrap IntKind.i64 (y1 + 1))) else ((false, 0))) else ((false, 0))) else (Pure.spec_l02Width_L0 F y2 n (List.getD (List.getD y2 (Int.toNat y1) []) 0 0) (IntKind.wrap IntKind.i64 (y1 + 1)))) else ((false, 0))) else ((false, 0))) else ((false, 0))) else ((false, 0))) else (bif (Decidable.decide (0 ≤ y1)) then (bif (Decidable.decide (y1 < (Int.ofNat (List.length y2)))) then (bif (FOps.cmp F BinOp.gtr FloatKind.f32 (FOps.neg F FloatKind.f32 (List.getD (List.getD y2 (Int.toNat y1) []) 0 0)) y0) then (bif (Decidable.decide (0 ≤ y1)) then (bif (Decidable.decide (y1 < (Int.ofNat (List.length y2)))) then (Pure.spec_l02Width_L0 F y2 n (FOps.neg F FloatKind.f32 (List.getD (List.getD y2 (Int.toNat y1) []) 0 0)) (IntKind.wrap IntKind.i64 (y1 + 1))) else ((false, 0))) else ((false, 0))) else (Pure.spec_l02Width_L0 F y2 n y0 (IntKind.wrap IntKind.i64 (y1 + 1)))) else ((false, 0))) else ((false, 0)))) else ((false, 0))) else ((false, 0))) else ((true, y0))
def R_spec_l02Width_L0 (y2 : List (List Int)) (r : (Bool × Int)) : Bool × Bool × (Ex × List V × List Ob) × (Ex × List V × List Ob) := ((r).1, false, (Ex.normal, [V.at (A.fl FloatKind.f32 (r).2)], [⟨false, OC.rows [K.f FloatKind.f32] y2⟩]), (Ex.normal, [V.at (A.fl FloatKind.f32 (r).2)], [⟨false, OC.rows [K.f FloatKind.f32] y2⟩]))
def S_spec_l02Width_L0 (F : FOps) : Sm := ⟨[0, 3, 4], [63, 22, 3], [3], fun vals hp => match vals, hp with
  | [V.at (A.sl 0), V.at (A.fl FloatKind.f32 y0), V.at (A.int IntKind.i64 y1)], [⟨false, OC.rows [K.f FloatKind.f32] y2⟩] => some (R_spec_l02Width_L0 y2 (Pure.spec_l02Width_L0 F y2 ((Int.ofNat (List.length y2)) - y1 + 1).toNat y0 y1))
  | _, _ => none⟩
theorem l_spec_l02Width_L0 (F : FOps) (y2 : List (List Int)) : ∀ (fuel : Nat) (y0 : Int) (y1 : Int), (Pure.spec_l02Width_L0 F y2 fuel y0 y1).1 = true → loopOf (cxS F tyl [] [] [] 0) 1 34 0 [0, 3, 4] [63, 22, 3] [3] (loopB 0 (codeOf Try.f113)) fuel [V.at (A.sl 0), V.at (A.fl FloatKind.f32 y0), V.at (A.int IntKind.i64 y1)] [⟨false, OC.rows [K.f FloatKind.f32] y2⟩] = resOf (R_spec_l02Width_L0 y2 (Pure.spec_l02Width_L0 F y2 fuel y0 y1)) := by
  intro fuel
  induction fuel with
  | zero => intro y0 y1 h; exact absurd h Bool.false_ne_true
  | succ n ih =>
    intro y0 y1
    have h0 : roundOf (cxS F tyl [] [] [] 0) 1 34 0 [0, 3, 4] [63, 22, 3] [3] (loopB 0 (codeOf Try.f113)) [V.at (A.sl 0), V.at (A.fl FloatKind.f32 y0), V.at (A.int IntKind.i64 y1)] [⟨false, OC.rows [K.f FloatKind.f32] y2⟩] = (bif Decidable.decide (y1 < (Int.ofNat (List.length y2))) then bif Decidable.decide (0 ≤ y1) then bif Decidable.decide (y1 < (Int.ofNat (List.length y2))) then bif FOps.cmp F BinOp.gtr FloatKind.f32 (List.getD (List.getD y2 (Int.toNat y1) []) 0 0) y0 then bif Decidable.decide (0 ≤ y1) then bif Decidable.decide (y1 < (Int.ofNat (List.length y2))) then bif Decidable.decide (0 ≤ y1) then bif Decidable.decide (y1 < (Int.ofNat (List.length y2))) then bif FOps.cmp F BinOp.gtr FloatKind.f32 (FOps.neg F FloatKind.f32 (List.getD (List.getD y2 (Int.toNat y1) []) 0 0)) (List.getD (List.getD y2 (Int.toNat y1) []) 0 0) then bif Decidable.decide (0 ≤ y1) then bif Decidable.decide (y1 < (Int.ofNat (List.length y2))) then some (true, (Ex.normal, ([V.at (A.sl 0), V.at (A.fl FloatKind.f32 (FOps.neg F FloatKind.f32 (List.getD (List.getD y2 (Int.toNat y1) []) 0 0))), V.at (A.int IntKind.i64 (IntKind.wrap IntKind.i64 (y1 + 1)))], [⟨false, OC.rows [K.f FloatKind.f32] y2⟩]))) else none else none else some (true, (Ex.normal, ([V.at (A.sl 0), V.at (A.fl FloatKind.f32 (List.getD (List.getD y2 (Int.toNat y1) []) 0 0)), V.at (A.int IntKind.i64 (IntKind.wrap IntKind.i64 (y1 + 1)))], [⟨false, OC.rows [K.f FloatKind.f32] y2⟩]))) else none else none else none else none else bif Decidable.decide (0 ≤ y1) then bif Decidable.decide (y1 < (Int.ofNat (List.length y2))) then bif FOps.cmp F BinOp.gtr FloatKind.f32 (FOps.neg F FloatKind.f32 (List.getD (List.getD y2 (Int.toNat y1) []) 0 0)) y0 then bif Decidable.decide (0 ≤ y1) then bif Decidable.decide (y1 < (Int.ofNat (List.length y2))) then some (true, (Ex.normal, ([V.at (A.sl 0), V.at (A.fl FloatKind.f32 (FOps.neg F FloatKind.f32 (List.getD (List.getD y2 (Int.toNat y1) []) 0 0))), V.at (A.int IntKind.i64 (IntKind.wrap IntKind.i64 (y1 + 1)))], [⟨false, OC.rows [K.f FloatKind.f32] y2⟩]))) else none else none else some (true, (Ex.normal, ([V.at (A.sl 0), V.at (A.fl FloatKind.f32 y0), V.at (A.int IntKind.i64 (IntKind.wrap IntKind.i64 (y1 + 1)))], [⟨false, OC.rows [K.f FloatKind.f32] y2⟩]))) else none else none else none else none else some (false, (Ex.normal, ([V.at (A.fl FloatKind.f32 y0)], [⟨false, OC.rows [K.f FloatKind.f32] y2⟩])))) := by kernel_rfl
    unfold loopOf
    rw [h0]
    unfold Pure.spec_l02Width_L0
    cases (Decidable.decide (y1 < (Int.ofNat (List.length y2)))) with
    | true =>
      cases (Decidable.decide (0 ≤ y1)) with
      | true =>
        cases (FOps.cmp F BinOp.gtr FloatKind.f32 (List.getD (List.getD y2 (Int.toNat y1) []) 0 0) y0) with
        | true =>
          cases (FOps.cmp F BinOp.gtr FloatKind.f32 (FOps.neg F FloatKind.f32 (List.getD (List.getD y2 (Int.toNat y1) []) 0 0)) (List.getD (List.getD y2 (Int.toNat y1) []) 0 0)) with
          | true =>
            exact ih _ _
          | false =>
            exact ih _ _
        | false =>
          cases (FOps.cmp F BinOp.gtr FloatKind.f32 (FOps.neg F FloatKind.f32 (List.getD (List.getD y2 (Int.toNat y1) []) 0 0)) y0) with
          | true =>
            exact ih _ _
          | false =>
            exact ih _ _
      | false =>
        intro h; exact absurd h Bool.false_ne_true
    | false =>
      intro _; rfl
theorem t_spec_l02Width_L0 : SmTo Try.prog 1 34 (S_spec_l02Width_L0 real) 0 (.loop (loopB 0 (codeOf Try.f113))) := by
  refine smTo_ev (cl := []) (ef := []) (sm := []) (un := 0) prog_ok allOK_nil smL_nil ?_
  intro vals hp q r h hq
  unfold S_spec_l02Width_L0 at h
  dsimp only at h
  split at h
  · rename_i y0 y1 y2
    obtain rfl := Option.some.inj h
    have h1 := hq
    unfold resOf at h1
    rw [chk_some] at h1
    exact ⟨_, (l_spec_l02Width_L0 real y2 _ y0 y1 h1.1).trans hq⟩
  · cases h
def Pure.spec_l02Width (F : FOps) (x0 : List (List Int)) : Int := Prod.snd (Pure.spec_l02Width_L0 F x0 (Nat.succ ((List.length x0) + 0)) 0 0)
def Pure.spec_l02Width_ok (F : FOps) (x0 : List (List Int)) : Bool := Prod.fst (Pure.spec_l02Width_L0 F x0 (Nat.succ ((List.length x0) + 0)) 0 0)
def c_spec_l02Width (F : FOps) : Con
  | [V.at (A.sl 0)], [⟨false, OC.rows [K.f FloatKind.f32] x0⟩] => some (Pure.spec_l02Width_ok F x0, ⟨V.at (A.fl FloatKind.f32 (Pure.spec_l02Width F x0)), none, []⟩)
  | _, _ => none
theorem e_spec_l02Width (F : FOps) (x0 : List (List Int)) : Pure.spec_l02Width_ok F x0 = true → evFn (cxS F tyl [] [] [(0, S_spec_l02Width_L0 F)] 0) Try.f113 false [V.at (A.sl 0)] [⟨false, OC.rows [K.f FloatKind.f32] x0⟩] = some ⟨V.at (A.fl FloatKind.f32 (Pure.spec_l02Width F x0)), none, []⟩ := by
  have h0 : evFn (cxS F tyl [] [] [(0, S_spec_l02Width_L0 F)] 0) Try.f113 false [V.at (A.sl 0)] [⟨false, OC.rows [K.f FloatKind.f32] x0⟩] = bif Prod.fst (Pure.spec_l02Width_L0 F x0 (Nat.succ ((List.length x0) + 0)) 0 0) then some ⟨V.at (A.fl FloatKind.f32 (Prod.snd (Pure.spec_l02Width_L0 F x0 (Nat.succ ((List.length x0) + 0)) 0 0))), none, []⟩ else none := by kernel_rfl
  rw [h0]
  unfold Pure.spec_l02Width Pure.spec_l02Width_ok
  cases (Prod.fst (Pure.spec_l02Width_L0 F x0 (Nat.succ ((List.length x0) + 0)) 0 0)) with
  | true =>
    intro _; rfl
  | false =>
    intro h; exact absurd h Bool.false_ne_true
theorem ok_spec_l02Width : CallOK Try.prog 113 (c_spec_l02Width real) := by
  refine callOK_of fun args h ret hc => ?_
  unfold c_spec_l02Width at hc
  split at hc
  · rename_i x0
    obtain ⟨hok, rfl⟩ := some_ret hc
    exact holds_ev prog_ok allOK_nil Try.func113 rfl rfl (smL_cons (body := .loop (loopB 0 (codeOf Try.f113))) (by kernel_rfl) t_spec_l02Width_L0 smL_nil) rfl (e_spec_l02Width real x0 hok)
  · cases hc
def Pure.spec_l02Response (F : FOps) (x0 : Int) (x1 : Int) (x2 : Int) (x3 : Int) (x4 : Int) (x5 : Int) (x6 : Int) (x7 : Int) (x8 : Int) (x9 : Int) (x10 : Int) : Int := bif Pure.spec_l02Run_3 F x0 x1 x2 x3 x4 x5 x6 x7 x8 (IntKind.wrap IntKind.i64 (x9 + x10)) then Pure.spec_l02Width F (List.take ((List.length (Pure.spec_l02Run_4 F x0 x1 x2 x3 x4 x5 x6 x7 x8 (IntKind.wrap IntKind.i64 (x9 + x10)))) - (Int.toNat x9)) (List.drop (Int.toNat x9) (Pure.spec_l02Run_4 F x0 x1 x2 x3 x4 x5 x6 x7 x8 (IntKind.wrap IntKind.i64 (x9 + x10))))) else 0
def Pure.spec_l02Response_1 (F : FOps) (x0 : Int) (x1 : Int) (x2 : Int) (x3 : Int) (x4 : Int) (x5 : Int) (x6 : Int) (x7 : Int) (x8 : Int) (x9 : Int) (x10 : Int) : Bool := Pure.spec_l02Run_3 F x0 x1 x2 x3 x4 x5 x6 x7 x8 (IntKind.wrap IntKind.i64 (x9 + x10))
def Pure.spec_l02Response_ok (F : FOps) (x0 : Int) (x1 : Int) (x2 : Int) (x3 : Int) (x4 : Int) (x5 : Int) (x6 : Int) (x7 : Int) (x8 : Int) (x9 : Int) (x10 : Int) : Bool := bif Pure.spec_l02Run_ok F x0 x1 x2 x3 x4 x5 x6 x7 x8 (IntKind.wrap IntKind.i64 (x9 + x10)) then bif Pure.spec_l02Run_3 F x0 x1 x2 x3 x4 x5 x6 x7 x8 (IntKind.wrap IntKind.i64 (x9 + x10)) then bif Decidable.decide (0 ≤ x9) then bif Decidable.decide (x9 ≤ (Int.ofNat (List.length (Pure.spec_l02Run_4 F x0 x1 x2 x3 x4 x5 x6 x7 x8 (IntKind.wrap IntKind.i64 (x9 + x10)))))) then Pure.spec_l02Width_ok F (List.take ((List.length (Pure.spec_l02Run_4 F x0 x1 x2 x3 x4 x5 x6 x7 x8 (IntKind.wrap IntKind.i64 (x9 + x10)))) - (Int.toNat x9)) (List.drop (Int.toNat x9) (Pure.spec_l02Run_4 F x0 x1 x2 x3 x4 x5 x6 x7 x8 (IntKind.wrap IntKind.i64 (x9 + x10))))) else false else false else true else false
def c_spec_l02Response (F : FOps) : Con
  | [V.at (A.ptr 0 0 0), V.agg [A.fl FloatKind.f32 x5, A.fl FloatKind.f32 x6, A.fl FloatKind.f32 x7], V.at (A.fl FloatKind.f32 x8), V.at (A.int IntKind.i64 x9), V.at (A.int IntKind.i64 x10)], [⟨false, OC.box [A.fl FloatKind.f32 x0, A.fl FloatKind.f32 x1, A.fl FloatKind.f32 x2, A.fl FloatKind.f32 x3, A.fl FloatKind.f32 x4]⟩] => some (Pure.spec_l02Response_ok F x0 x1 x2 x3 x4 x5 x6 x7 x8 x9 x10, ⟨V.tup [(false, [A.fl FloatKind.f32 (Pure.spec_l02Response F x0 x1 x2 x3 x4 x5 x6 x7 x8 x9 x10)]), (false, [A.bool (Pure.spec_l02Response_1 F x0 x1 x2 x3 x4 x5 x6 x7 x8 x9 x10)])], none, []⟩)
  | _, _ => none
theorem e_spec_l02Response (F : FOps) (x0 : Int) (x1 : Int) (x2 : Int) (x3 : Int) (x4 : Int) (x5 : Int) (x6 : Int) (x7 : Int) (x8 : Int) (x9 : Int) (x10 : Int) : Pure.spec_l02Response_ok F x0 x1 x2 x3 x4 x5 x6 x7 x8 x9 x10 = true → evFn (cxS F tyl [(84, c_spec_l02Run F), (113, c_spec_l02Width F)] [] [] 0) Try.f87 false [V.at (A.ptr 0 0 0), V.agg [A.fl FloatKind.f32 x5, A.fl FloatKind.f32 x6, A.fl FloatKind.f32 x7], V.at (A.fl FloatKind.f32 x8), V.at (A.int IntKind.i64 x9), V.at (A.int IntKind.i64 x10)] [⟨false, OC.box [A.fl FloatKind.f32 x0, A.fl FloatKind.f32 x1, A.fl FloatKind.f32 x2, A.fl FloatKind.f32 x3, A.fl FloatKind.f32 x4]⟩] = some ⟨V.tup [(false, [A.fl FloatKind.f32 (Pure.spec_l02Response F x0 x1 x2 x3 x4 x5 x6 x7 x8 x9 x10)]), (false, [A.bool (Pure.spec_l02Response_1 F x0 x1 x2 x3 x4 x5 x6 x7 x8 x9 x10)])], none, []⟩ := by
  have h0 : evFn (cxS F tyl [(84, c_spec_l02Run F), (113, c_spec_l02Width F)] [] [] 0) Try.f87 false [V.at (A.ptr 0 0 0), V.agg [A.fl FloatKind.f32 x5, A.fl FloatKind.f32 x6, A.fl FloatKind.f32 x7], V.at (A.fl FloatKind.f32 x8), V.at (A.int IntKind.i64 x9), V.at (A.int IntKind.i64 x10)] [⟨false, OC.box [A.fl FloatKind.f32 x0, A.fl FloatKind.f32 x1, A.fl FloatKind.f32 x2, A.fl FloatKind.f32 x3, A.fl FloatKind.f32 x4]⟩] = bif Pure.spec_l02Run_ok F x0 x1 x2 x3 x4 x5 x6 x7 x8 (IntKind.wrap IntKind.i64 (x9 + x10)) then bif Bool.not (Pure.spec_l02Run_3 F x0 x1 x2 x3 x4 x5 x6 x7 x8 (IntKind.wrap IntKind.i64 (x9 + x10))) then some ⟨V.tup [(false, [A.fl FloatKind.f32 0]), (false, [A.bool false])], none, []⟩ else bif Decidable.decide (0 ≤ x9) then bif Decidable.decide (x9 ≤ (Int.ofNat (List.length (Pure.spec_l02Run_4 F x0 x1 x2 x3 x4 x5 x6 x7 x8 (IntKind.wrap IntKind.i64 (x9 + x10)))))) then bif Pure.spec_l02Width_ok F (List.take ((List.length (Pure.spec_l02Run_4 F x0 x1 x2 x3 x4 x5 x6 x7 x8 (IntKind.wrap IntKind.i64 (x9 + x10)))) - (Int.toNat x9)) (List.drop (Int.toNat x9) (Pure.spec_l02Run_4 F x0 x1 x2 x3 x4 x5 x6 x7 x8 (IntKind.wrap IntKind.i64 (x9 + x10))))) then some ⟨V.tup [(false, [A.fl FloatKind.f32 (Pure.spec_l02Width F (List.take ((List.length (Pure.spec_l02Run_4 F x0 x1 x2 x3 x4 x5 x6 x7 x8 (IntKind.wrap IntKind.i64 (x9 + x10)))) - (Int.toNat x9)) (List.drop (Int.toNat x9) (Pure.spec_l02Run_4 F x0 x1 x2 x3 x4 x5 x6 x7 x8 (IntKind.wrap IntKind.i64 (x9 + x10))))))]), (false, [A.bool true])], none, []⟩ else none else none else none else none := by kernel_rfl
  rw [h0]
  unfold Pure.spec_l02Response Pure.spec_l02Response_1 Pure.spec_l02Response_ok
  cases (Pure.spec_l02Run_ok F x0 x1 x2 x3 x4 x5 x6 x7 x8 (IntKind.wrap IntKind.i64 (x9 + x10))) with
  | true =>
    cases (Pure.spec_l02Run_3 F x0 x1 x2 x3 x4 x5 x6 x7 x8 (IntKind.wrap IntKind.i64 (x9 + x10))) with
    | true =>
      cases (Decidable.decide (0 ≤ x9)) with
      | true =>
        cases (Decidable.decide (x9 ≤ (Int.ofNat (List.length (Pure.spec_l02Run_4 F x0 x1 x2 x3 x4 x5 x6 x7 x8 (IntKind.wrap IntKind.i64 (x9 + x10))))))) with
        | true =>
          cases (Pure.spec_l02Width_ok F (List.take ((List.length (Pure.spec_l02Run_4 F x0 x1 x2 x3 x4 x5 x6 x7 x8 (IntKind.wrap IntKind.i64 (x9 + x10)))) - (Int.toNat x9)) (List.drop (Int.toNat x9) (Pure.spec_l02Run_4 F x0 x1 x2 x3 x4 x5 x6 x7 x8 (IntKind.wrap IntKind.i64 (x9 + x10)))))) with
          | true =>
            intro _; rfl
          | false =>
            intro h; exact absurd h Bool.false_ne_true
        | false =>
          intro h; exact absurd h Bool.false_ne_true
      | false =>
        intro h; exact absurd h Bool.false_ne_true
    | false =>
      intro _; rfl
  | false =>
    intro h; exact absurd h Bool.false_ne_true
theorem ok_spec_l02Response : CallOK Try.prog 87 (c_spec_l02Response real) := by
  refine callOK_of fun args h ret hc => ?_
  unfold c_spec_l02Response at hc
  split at hc
  · rename_i x5 x6 x7 x8 x9 x10 x0 x1 x2 x3 x4
    obtain ⟨hok, rfl⟩ := some_ret hc
    exact holds_ev prog_ok (allOK_cons ok_spec_l02Run (allOK_cons ok_spec_l02Width allOK_nil)) Try.func87 rfl rfl smL_nil rfl (e_spec_l02Response real x0 x1 x2 x3 x4 x5 x6 x7 x8 x9 x10 hok)
  · cases hc
def Pure.spec_ResponseOf (F : FOps) (x0 : Int) (x1 : Int) (x2 : Int) (x3 : Int) (x4 : Int) (x5 : Int) (x6 : Int) (x7 : Int) (x8 : Int) (x9 : Int) (x10 : Int) : Int := bif Pure.spec_l02Can F x0 x1 x2 x3 x4 x5 x6 x7 x8 x9 x10 then Pure.spec_l02Response F x0 x1 x2 x3 x4 x5 x6 x7 x8 x9 x10 else 0
def Pure.spec_ResponseOf_1 (F : FOps) (x0 : Int) (x1 : Int) (x2 : Int) (x3 : Int) (x4 : Int) (x5 : Int) (x6 : Int) (x7 : Int) (x8 : Int) (x9 : Int) (x10 : Int) : Bool := bif Pure.spec_l02Can F x0 x1 x2 x3 x4 x5 x6 x7 x8 x9 x10 then Pure.spec_l02Response_1 F x0 x1 x2 x3 x4 x5 x6 x7 x8 x9 x10 else false
def Pure.spec_ResponseOf_ok (F : FOps) (x0 : Int) (x1 : Int) (x2 : Int) (x3 : Int) (x4 : Int) (x5 : Int) (x6 : Int) (x7 : Int) (x8 : Int) (x9 : Int) (x10 : Int) : Bool := bif Pure.spec_l02Can F x0 x1 x2 x3 x4 x5 x6 x7 x8 x9 x10 then Pure.spec_l02Response_ok F x0 x1 x2 x3 x4 x5 x6 x7 x8 x9 x10 else true
def c_spec_ResponseOf (F : FOps) : Con
  | [V.agg [A.fl FloatKind.f32 x0, A.fl FloatKind.f32 x1, A.fl FloatKind.f32 x2, A.fl FloatKind.f32 x3, A.fl FloatKind.f32 x4], V.agg [A.fl FloatKind.f32 x5, A.fl FloatKind.f32 x6, A.fl FloatKind.f32 x7], V.at (A.fl FloatKind.f32 x8), V.at (A.int IntKind.i64 x9), V.at (A.int IntKind.i64 x10)], [] => some (Pure.spec_ResponseOf_ok F x0 x1 x2 x3 x4 x5 x6 x7 x8 x9 x10, ⟨V.tup [(false, [A.fl FloatKind.f32 (Pure.spec_ResponseOf F x0 x1 x2 x3 x4 x5 x6 x7 x8 x9 x10)]), (false, [A.bool (Pure.spec_ResponseOf_1 F x0 x1 x2 x3 x4 x5 x6 x7 x8 x9 x10)])], none, []⟩)
  | _, _ => none
theorem e_spec_ResponseOf (F : FOps) (x0 : Int) (x1 : Int) (x2 : Int) (x3 : Int) (x4 : Int) (x5 : Int) (x6 : Int) (x7 : Int) (x8 : Int) (x9 : Int) (x10 : Int) : Pure.spec_ResponseOf_ok F x0 x1 x2 x3 x4 x5 x6 x7 x8 x9 x10 = true → evFn (cxS F tyl [(86, c_spec_l02Can F), (87, c_spec_l02Response F)] [] [] 0) Try.f43 false [V.agg [A.fl FloatKind.f32 x0, A.fl FloatKind.f32 x1, A.fl FloatKind.f32 x2, A.fl FloatKind.f32 x3, A.fl FloatKind.f32 x4], V.agg [A.fl FloatKind.f32 x5, A.fl FloatKind.f32 x6, A.fl FloatKind.f32 x7], V.at (A.fl FloatKind.f32 x8), V.at (A.int IntKind.i64 x9), V.at (A.int IntKind.i64 x10)] [] = some ⟨V.tup [(false, [A.fl FloatKind.f32 (Pure.spec_ResponseOf F x0 x1 x2 x3 x4 x5 x6 x7 x8 x9 x10)]), (false, [A.bool (Pure.spec_ResponseOf_1 F x0 x1 x2 x3 x4 x5 x6 x7 x8 x9 x10)])], none, []⟩ := by
  have h0 : evFn (cxS F tyl [(86, c_spec_l02Can F), (87, c_spec_l02Response F)] [] [] 0) Try.f43 false [V.agg [A.fl FloatKind.f32 x0, A.fl FloatKind.f32 x1, A.fl FloatKind.f32 x2, A.fl FloatKind.f32 x3, A.fl FloatKind.f32 x4], V.agg [A.fl FloatKind.f32 x5, A.fl FloatKind.f32 x6, A.fl FloatKind.f32 x7], V.at (A.fl FloatKind.f32 x8), V.at (A.int IntKind.i64 x9), V.at (A.int IntKind.i64 x10)] [] = bif Bool.not (Pure.spec_l02Can F x0 x1 x2 x3 x4 x5 x6 x7 x8 x9 x10) then some ⟨V.tup [(false, [A.fl FloatKind.f32 0]), (false, [A.bool false])], none, []⟩ else bif Pure.spec_l02Response_ok F x0 x1 x2 x3 x4 x5 x6 x7 x8 x9 x10 then some ⟨V.tup [(false, [A.fl FloatKind.f32 (Pure.spec_l02Response F x0 x1 x2 x3 x4 x5 x6 x7 x8 x9 x10)]), (false, [A.bool (Pure.spec_l02Response_1 F x0 x1 x2 x3 x4 x5 x6 x7 x8 x9 x10)])], none, []⟩ else none := by kernel_rfl
  rw [h0]
  unfold Pure.spec_ResponseOf Pure.spec_ResponseOf_1 Pure.spec_ResponseOf_ok
  cases (Pure.spec_l02Can F x0 x1 x2 x3 x4 x5 x6 x7 x8 x9 x10) with
  | true =>
    cases (Pure.spec_l02Response_ok F x0 x1 x2 x3 x4 x5 x6 x7 x8 x9 x10) with
    | true =>
      intro _; rfl
    | false =>
      intro h; exact absurd h Bool.false_ne_true
  | false =>
    intro _; rfl
theorem ok_spec_ResponseOf : CallOK Try.prog 43 (c_spec_ResponseOf real) := by
  refine callOK_of fun args h ret hc => ?_
  unfold c_spec_ResponseOf at hc
  split at hc
  · rename_i x0 x1 x2 x3 x4 x5 x6 x7 x8 x9 x10
    obtain ⟨hok, rfl⟩ := some_ret hc
    exact holds_ev prog_ok (allOK_cons ok_spec_l02Can (allOK_cons ok_spec_l02Response allOK_nil)) Try.func43 rfl rfl smL_nil rfl (e_spec_ResponseOf real x0 x1 x2 x3 x4 x5 x6 x7 x8 x9 x10 hok)
  · cases hc
def c_math_Float32bits (_ : FOps) : Con
  | [V.at (A.fl FloatKind.f32 x)], [] => some (true, ⟨V.at (A.raw FloatKind.f32 x), none, []⟩)
  | _, _ => none
theorem ok_math_Float32bits : CallOK Try.prog 115 (c_math_Float32bits real) := by
  refine callOK_of fun args h ret hc => ?_
  unfold c_math_Float32bits at hc
  split at hc
  · rename_i x
    obtain ⟨_, rfl⟩ := some_ret hc
    exact ext_bits32 Try.func115 rfl rfl (by kernel_rfl) (by kernel_rfl) x
  · cases hc
def c_math_Float32frombits (_ : FOps) : Con
  | [V.at (A.raw FloatKind.f32 x)], [] => some (true, ⟨V.at (A.fl FloatKind.f32 x), none, []⟩)
  | _, _ => none
theorem ok_math_Float32frombits : CallOK Try.prog 114 (c_math_Float32frombits real) := by
  refine callOK_of fun args h ret hc => ?_
  unfold c_math_Float32frombits at hc
  split at hc
  · rename_i x
    obtain ⟨_, rfl⟩ := some_ret hc
    exact ext_from32 Try.func114 rfl rfl (by kernel_rfl) (by kernel_rfl) x
  · cases hc
def c_impl_abs (F : FOps) : Con
  | [V.at (A.fl FloatKind.f32 x0)], [] => some (true, ⟨V.at (A.fl FloatKind.f32 (FOps.abs F FloatKind.f32 x0)), none, []⟩)
  | _, _ => none
theorem e_impl_abs (F : FOps) (x0 : Int) : evFn (cxS F tyl [(115, c_math_Float32bits F), (114, c_math_Float32frombits F)] [] [] 0) Try.f94 false [V.at (A.fl FloatKind.f32 x0)] [] = some ⟨V.at (A.fl FloatKind.f32 (FOps.abs F FloatKind.f32 x0)), none, []⟩ := by
  kernel_rfl
theorem ok_impl_abs : CallOK Try.prog 94 (c_impl_abs real) := by
  refine callOK_of fun args h ret hc => ?_
  unfold c_impl_abs at hc
  split at hc
  · rename_i x0
    obtain ⟨_, rfl⟩ := some_ret hc
    exact holds_ev prog_ok (allOK_cons ok_math_Float32bits (allOK_cons ok_math_Float32frombits allOK_nil)) Try.func94 rfl rfl smL_nil rfl (e_impl_abs real x0)
  · cases hc
def Pure.impl_width_L0 (F : FOps) (y1 : Int) (y3 : List (List Int)) : Nat → Int → Int → (Bool × Int)
  | 0, _, _ => (false, 0)
  | n + 1, y0, y2 => bif (Decidable.decide (y2 < y1)) then (bif (Decidable.decide (0 ≤ y2)) then (bif (Decidable.decide (y2 < (Int.ofNat (List.length y3)))) then (bif (FOps.cmp F BinOp.gtr FloatKind.f32 (FOps.abs F FloatKind.f32 (List.getD (List.getD y3 (Int.toNat y2) []) 0 0)) y0) then (Pure.impl_width_L0 F y1 y3 n (FOps.abs F FloatKind.f32 (List.getD (List.getD y3 (Int.toNat y2) []) 0 0)) (IntKind.wrap IntKind.i64 (y2 + 1))) else (Pure.impl_width_L0 F y1 y3 n y0 (IntKind.wrap IntKind.i64 (y2 + 1)))) else ((false, 0))) else ((false, 0))) else ((true, y0))
def R_impl_width_L0 (y3 : List (List Int)) (r : (Bool × Int)) : Bool × Bool × (Ex × List V × List Ob) × (Ex × List V × List Ob) := ((r).1, false, (Ex.normal, [V.at (A.fl FloatKind.f32 (r).2)], [⟨false, OC.rows [K.f FloatKind.f32] y3⟩]), (Ex.normal, [V.at (A.fl FloatKind.f32 (r).2)], [⟨false, OC.rows [K.f FloatKind.f32] y3⟩]))
def S_impl_width_L0 (F : FOps) : Sm := ⟨[3, 6, 7, 8], [22, 63, 3, 3], [3], fun vals hp => match vals, hp with
  | [V.at (A.fl FloatKind.f32 y0), V.at (A.sl 0), V.at (A.int IntKind.i64 y1), V.at (A.int IntKind.i64 y2)], [⟨false, OC.rows [K.f FloatKind.f32] y3⟩] => some (R_impl_width_L0 y3 (Pure.impl_width_L0 F y1 y3 (y1 - y2 + 1).toNat y0 y2))
  | _, _ => none⟩
theorem l_impl_width_L0 (F : FOps) (y1 : Int) (y3 : List (List Int)) : ∀ (fuel : Nat) (y0 : Int) (y2 : Int), (Pure.impl_width_L0 F y1 y3 fuel y0 y2).1 = true → loopOf (cxS F tyl [(94, c_impl_abs F)] [] [] 0) 1 20 0 [3, 6, 7, 8] [22, 63, 3, 3] [3] (loopB 0 (codeOf Try.f88)) fuel [V.at (A.fl FloatKind.f32 y0), V.at (A.sl 0), V.at (A.int IntKind.i64 y1), V.at (A.int IntKind.i64 y2)] [⟨false, OC.rows [K.f FloatKind.f32] y3⟩] = resOf (R_impl_width_L0 y3 (Pure.impl_width_L0 F y1 y3 fuel y0 y2)) := by
  intro fuel
  induction fuel with
  | zero => intro y0 y2 h; exact absurd h Bool.false_ne_true
  | succ n ih =>
    intro y0 y2
    have h0 : roundOf (cxS F tyl [(94, c_impl_abs F)] [] [] 0) 1 20 0 [3, 6, 7, 8] [22, 63, 3, 3] [3] (loopB 0 (codeOf Try.f88)) [V.at (A.fl FloatKind.f32 y0), V.at (A.sl 0), V.at (A.int IntKind.i64 y1), V.at (A.int IntKind.i64 y2)] [⟨false, OC.rows [K.f FloatKind.f32] y3⟩] = (bif Decidable.decide (y2 < y1) then bif Decidable.decide (0 ≤ y2) then bif Decidable.decide (y2 < (Int.ofNat (List.length y3))) then bif FOps.cmp F BinOp.gtr FloatKind.f32 (FOps.abs F FloatKind.f32 (List.getD (List.getD y3 (Int.toNat y2) []) 0 0)) y0 then some (true, (Ex.normal, ([V.at (A.fl FloatKind.f32 (FOps.abs F FloatKind.f32 (List.getD (List.getD y3 (Int.toNat y2) []) 0 0))), V.at (A.sl 0), V.at (A.int IntKind.i64 y1), V.at (A.int IntKind.i64 (IntKind.wrap IntKind.i64 (y2 + 1)))], [⟨false, OC.rows [K.f FloatKind.f32] y3⟩]))) else some (true, (Ex.normal, ([V.at (A.fl FloatKind.f32 y0), V.at (A.sl 0), V.at (A.int IntKind.i64 y1), V.at (A.int IntKind.i64 (IntKind.wrap IntKind.i64 (y2 + 1)))], [⟨false, OC.rows [K.f FloatKind.f32] y3⟩]))) else none else none else some (false, (Ex.normal, ([V.at (A.fl FloatKind.f32 y0)], [⟨false, OC.rows [K.f FloatKind.f32] y3⟩])))) := by kernel_rfl
    unfold loopOf
    rw [h0]
    unfold Pure.impl_width_L0
    cases (Decidable.decide (y2 < y1)) with
    | true =>
      cases (Decidable.decide (0 ≤ y2)) with
      | true =>
        cases (Decidable.decide (y2 < (Int.ofNat (List.length y3)))) with
        | true =>
          cases (FOps.cmp F BinOp.gtr FloatKind.f32 (FOps.abs F FloatKind.f32 (List.getD (List.getD y3 (Int.toNat y2) []) 0 0)) y0) with
          | true =>
            exact ih _ _
          | false =>
            exact ih _ _
        | false =>
          intro h; exact absurd h Bool.false_ne_true
      | false =>
        intro h; exact absurd h Bool.false_ne_true
    | false =>
      intro _; rfl
theorem t_impl_width_L0 : SmTo Try.prog 1 20 (S_impl_width_L0 real) 0 (.loop (loopB 0 (codeOf Try.f88))) := by
  refine smTo_ev (cl := [(94, c_impl_abs real)]) (ef := []) (sm := []) (un := 0) prog_ok (allOK_cons ok_impl_abs allOK_nil) smL_nil ?_
  intro vals hp q r h hq
  unfold S_impl_width_L0 at h
  dsimp only at h
  split at h
  · rename_i y0 y1 y2 y3
    obtain rfl := Option.some.inj h
    have h1 := hq
    unfold resOf at h1
    rw [chk_some] at h1
    exact ⟨_, (l_impl_width_L0 real y1 y3 _ y0 y2 h1.1).trans hq⟩
  · cases h
def Pure.impl_width (F : FOps) (x0 : List (List Int)) : Int := Prod.snd (Pure.impl_width_L0 F (Int.ofNat (List.length x0)) x0 (Nat.succ ((List.length x0) + 0)) 0 0)
def Pure.impl_width_ok (F : FOps) (x0 : List (List Int)) : Bool := Prod.fst (Pure.impl_width_L0 F (Int.ofNat (List.length x0)) x0 (Nat.succ ((List.length x0) + 0)) 0 0)
def c_impl_width (F : FOps) : Con
  | [V.at (A.sl 0)], [⟨false, OC.rows [K.f FloatKind.f32] x0⟩] => some (Pure.impl_width_ok F x0, ⟨V.at (A.fl FloatKind.f32 (Pure.impl_width F x0)), none, []⟩)
  | _, _ => none
theorem e_impl_width (F : FOps) (x0 : List (List Int)) : Pure.impl_width_ok F x0 = true → evFn (cxS F tyl [(94, c_impl_abs F)] [] [(0, S_impl_width_L0 F)] 0) Try.f88 false [V.at (A.sl 0)] [⟨false, OC.rows [K.f FloatKind.f32] x0⟩] = some ⟨V.at (A.fl FloatKind.f32 (Pure.impl_width F x0)), none, []⟩ := by
  have h0 : evFn (cxS F tyl [(94, c_impl_abs F)] [] [(0, S_impl_width_L0 F)] 0) Try.f88 false [V.at (A.sl 0)] [⟨false, OC.rows [K.f FloatKind.f32] x0⟩] = bif Prod.fst (Pure.impl_width_L0 F (Int.ofNat (List.length x0)) x0 (Nat.succ ((List.length x0) + 0)) 0 0) then some ⟨V.at (A.fl FloatKind.f32 (Prod.snd (Pure.impl_width_L0 F (Int.ofNat (List.length x0)) x0 (Nat.succ ((List.length x0) + 0)) 0 0))), none, []⟩ else none := by kernel_rfl
  rw [h0]
  unfold Pure.impl_width Pure.impl_width_ok
  cases (Prod.fst (Pure.impl_width_L0 F (Int.ofNat (List.length x0)) x0 (Nat.succ ((List.length x0) + 0)) 0 0)) with
  | true =>
    intro _; rfl
  | false =>
    intro h; exact absurd h Bool.false_ne_true
theorem ok_impl_width : CallOK Try.prog 88 (c_impl_width real) := by
  refine callOK_of fun args h ret hc => ?_
  unfold c_impl_width at hc
  split at hc
  · rename_i x0
    obtain ⟨hok, rfl⟩ := some_ret hc
    exact holds_ev prog_ok (allOK_cons ok_impl_abs allOK_nil) Try.func88 rfl rfl (smL_cons (body := .loop (loopB 0 (codeOf Try.f88))) (by kernel_rfl) t_impl_width_L0 smL_nil) rfl (e_impl_width real x0 hok)
  · cases hc
def Pure.impl_ResponseOf (F : FOps) (x0 : Int) (x1 : Int) (x2 : Int) (x3 : Int) (x4 : Int) (x5 : Int) (x6 : Int) (x7 : Int) (x8 : Int) (x9 : Int) (x10 : Int) : Int := bif Pure.impl_in F x9 0 256 then bif Pure.impl_in F x10 0 (IntKind.wrap IntKind.i64 (256 - x9)) then bif Pure.impl_RunSwing_3 F x0 x1 x2 x3 x4 x5 x6 x7 x8 (IntKind.wrap IntKind.i64 (x9 + x10)) then Pure.impl_width F (List.take ((List.length (Pure.impl_RunSwing_4 F x0 x1 x2 x3 x4 x5 x6 x7 x8 (IntKind.wrap IntKind.i64 (x9 + x10)))) - (Int.toNat x9)) (List.drop (Int.toNat x9) (Pure.impl_RunSwing_4 F x0 x1 x2 x3 x4 x5 x6 x7 x8 (IntKind.wrap IntKind.i64 (x9 + x10))))) else 0 else 0 else 0
def Pure.impl_ResponseOf_1 (F : FOps) (x0 : Int) (x1 : Int) (x2 : Int) (x3 : Int) (x4 : Int) (x5 : Int) (x6 : Int) (x7 : Int) (x8 : Int) (x9 : Int) (x10 : Int) : Bool := bif Pure.impl_in F x9 0 256 then bif Pure.impl_in F x10 0 (IntKind.wrap IntKind.i64 (256 - x9)) then Pure.impl_RunSwing_3 F x0 x1 x2 x3 x4 x5 x6 x7 x8 (IntKind.wrap IntKind.i64 (x9 + x10)) else false else false
def Pure.impl_ResponseOf_ok (F : FOps) (x0 : Int) (x1 : Int) (x2 : Int) (x3 : Int) (x4 : Int) (x5 : Int) (x6 : Int) (x7 : Int) (x8 : Int) (x9 : Int) (x10 : Int) : Bool := bif Pure.impl_in F x9 0 256 then bif Pure.impl_in F x10 0 (IntKind.wrap IntKind.i64 (256 - x9)) then bif Pure.impl_RunSwing_ok F x0 x1 x2 x3 x4 x5 x6 x7 x8 (IntKind.wrap IntKind.i64 (x9 + x10)) then bif Pure.impl_RunSwing_3 F x0 x1 x2 x3 x4 x5 x6 x7 x8 (IntKind.wrap IntKind.i64 (x9 + x10)) then bif Decidable.decide (0 ≤ x9) then bif Decidable.decide (x9 ≤ (Int.ofNat (List.length (Pure.impl_RunSwing_4 F x0 x1 x2 x3 x4 x5 x6 x7 x8 (IntKind.wrap IntKind.i64 (x9 + x10)))))) then Pure.impl_width_ok F (List.take ((List.length (Pure.impl_RunSwing_4 F x0 x1 x2 x3 x4 x5 x6 x7 x8 (IntKind.wrap IntKind.i64 (x9 + x10)))) - (Int.toNat x9)) (List.drop (Int.toNat x9) (Pure.impl_RunSwing_4 F x0 x1 x2 x3 x4 x5 x6 x7 x8 (IntKind.wrap IntKind.i64 (x9 + x10))))) else false else false else true else false else true else true
def c_impl_ResponseOf (F : FOps) : Con
  | [V.agg [A.fl FloatKind.f32 x0, A.fl FloatKind.f32 x1, A.fl FloatKind.f32 x2, A.fl FloatKind.f32 x3, A.fl FloatKind.f32 x4], V.agg [A.fl FloatKind.f32 x5, A.fl FloatKind.f32 x6, A.fl FloatKind.f32 x7], V.at (A.fl FloatKind.f32 x8), V.at (A.int IntKind.i64 x9), V.at (A.int IntKind.i64 x10)], [] => some (Pure.impl_ResponseOf_ok F x0 x1 x2 x3 x4 x5 x6 x7 x8 x9 x10, ⟨V.tup [(false, [A.fl FloatKind.f32 (Pure.impl_ResponseOf F x0 x1 x2 x3 x4 x5 x6 x7 x8 x9 x10)]), (false, [A.bool (Pure.impl_ResponseOf_1 F x0 x1 x2 x3 x4 x5 x6 x7 x8 x9 x10)])], none, []⟩)
  | _, _ => none
theorem e_impl_ResponseOf (F : FOps) (x0 : Int) (x1 : Int) (x2 : Int) (x3 : Int) (x4 : Int) (x5 : Int) (x6 : Int) (x7 : Int) (x8 : Int) (x9 : Int) (x10 : Int) : Pure.impl_ResponseOf_ok F x0 x1 x2 x3 x4 x5 x6 x7 x8 x9 x10 = true → evFn (cxS F tyl [(68, c_impl_in F), (39, c_impl_RunSwing F), (88, c_impl_width F)] [] [] 0) Try.f44 false [V.agg [A.fl FloatKind.f32 x0, A.fl FloatKind.f32 x1, A.fl FloatKind.f32 x2, A.fl FloatKind.f32 x3, A.fl FloatKind.f32 x4], V.agg [A.fl FloatKind.f32 x5, A.fl FloatKind.f32 x6, A.fl FloatKind.f32 x7], V.at (A.fl FloatKind.f32 x8), V.at (A.int IntKind.i64 x9), V.at (A.int IntKind.i64 x10)] [] = some ⟨V.tup [(false, [A.fl FloatKind.f32 (Pure.impl_ResponseOf F x0 x1 x2 x3 x4 x5 x6 x7 x8 x9 x10)]), (false, [A.bool (Pure.impl_ResponseOf_1 F x0 x1 x2 x3 x4 x5 x6 x7 x8 x9 x10)])], none, []⟩ := by
  have h0 : evFn (cxS F tyl [(68, c_impl_in F), (39, c_impl_RunSwing F), (88, c_impl_width F)] [] [] 0) Try.f44 false [V.agg [A.fl FloatKind.f32 x0, A.fl FloatKind.f32 x1, A.fl FloatKind.f32 x2, A.fl FloatKind.f32 x3, A.fl FloatKind.f32 x4], V.agg [A.fl FloatKind.f32 x5, A.fl FloatKind.f32 x6, A.fl FloatKind.f32 x7], V.at (A.fl FloatKind.f32 x8), V.at (A.int IntKind.i64 x9), V.at (A.int IntKind.i64 x10)] [] = bif Bool.not (Pure.impl_in F x9 0 256) then some ⟨V.tup [(false, [A.fl FloatKind.f32 0]), (false, [A.bool false])], none, []⟩ else bif Bool.not (Pure.impl_in F x10 0 (IntKind.wrap IntKind.i64 (256 - x9))) then some ⟨V.tup [(false, [A.fl FloatKind.f32 0]), (false, [A.bool false])], none, []⟩ else bif Pure.impl_RunSwing_ok F x0 x1 x2 x3 x4 x5 x6 x7 x8 (IntKind.wrap IntKind.i64 (x9 + x10)) then bif Bool.not (Pure.impl_RunSwing_3 F x0 x1 x2 x3 x4 x5 x6 x7 x8 (IntKind.wrap IntKind.i64 (x9 + x10))) then some ⟨V.tup [(false, [A.fl FloatKind.f32 0]), (false, [A.bool false])], none, []⟩ else bif Decidable.decide (0 ≤ x9) then bif Decidable.decide (x9 ≤ (Int.ofNat (List.length (Pure.impl_RunSwing_4 F x0 x1 x2 x3 x4 x5 x6 x7 x8 (IntKind.wrap IntKind.i64 (x9 + x10)))))) then bif Pure.impl_width_ok F (List.take ((List.length (Pure.impl_RunSwing_4 F x0 x1 x2 x3 x4 x5 x6 x7 x8 (IntKind.wrap IntKind.i64 (x9 + x10)))) - (Int.toNat x9)) (List.drop (Int.toNat x9) (Pure.impl_RunSwing_4 F x0 x1 x2 x3 x4 x5 x6 x7 x8 (IntKind.wrap IntKind.i64 (x9 + x10))))) then some ⟨V.tup [(false, [A.fl FloatKind.f32 (Pure.impl_width F (List.take ((List.length (Pure.impl_RunSwing_4 F x0 x1 x2 x3 x4 x5 x6 x7 x8 (IntKind.wrap IntKind.i64 (x9 + x10)))) - (Int.toNat x9)) (List.drop (Int.toNat x9) (Pure.impl_RunSwing_4 F x0 x1 x2 x3 x4 x5 x6 x7 x8 (IntKind.wrap IntKind.i64 (x9 + x10))))))]), (false, [A.bool true])], none, []⟩ else none else none else none else none := by kernel_rfl
  rw [h0]
  unfold Pure.impl_ResponseOf Pure.impl_ResponseOf_1 Pure.impl_ResponseOf_ok
  cases (Pure.impl_in F x9 0 256) with
  | true =>
    cases (Pure.impl_in F x10 0 (IntKind.wrap IntKind.i64 (256 - x9))) with
    | true =>
      cases (Pure.impl_RunSwing_ok F x0 x1 x2 x3 x4 x5 x6 x7 x8 (IntKind.wrap IntKind.i64 (x9 + x10))) with
      | true =>
        cases (Pure.impl_RunSwing_3 F x0 x1 x2 x3 x4 x5 x6 x7 x8 (IntKind.wrap IntKind.i64 (x9 + x10))) with
        | true =>
          cases (Decidable.decide (0 ≤ x9)) with
          | true =>
            cases (Decidable.decide (x9 ≤ (Int.ofNat (List.length (Pure.impl_RunSwing_4 F x0 x1 x2 x3 x4 x5 x6 x7 x8 (IntKind.wrap IntKind.i64 (x9 + x10))))))) with
            | true =>
              cases (Pure.impl_width_ok F (List.take ((List.length (Pure.impl_RunSwing_4 F x0 x1 x2 x3 x4 x5 x6 x7 x8 (IntKind.wrap IntKind.i64 (x9 + x10)))) - (Int.toNat x9)) (List.drop (Int.toNat x9) (Pure.impl_RunSwing_4 F x0 x1 x2 x3 x4 x5 x6 x7 x8 (IntKind.wrap IntKind.i64 (x9 + x10)))))) with
              | true =>
                intro _; rfl
              | false =>
                intro h; exact absurd h Bool.false_ne_true
            | false =>
              intro h; exact absurd h Bool.false_ne_true
          | false =>
            intro h; exact absurd h Bool.false_ne_true
        | false =>
          intro _; rfl
      | false =>
        intro h; exact absurd h Bool.false_ne_true
    | false =>
      intro _; rfl
  | false =>
    intro _; rfl
theorem ok_impl_ResponseOf : CallOK Try.prog 44 (c_impl_ResponseOf real) := by
  refine callOK_of fun args h ret hc => ?_
  unfold c_impl_ResponseOf at hc
  split at hc
  · rename_i x0 x1 x2 x3 x4 x5 x6 x7 x8 x9 x10
    obtain ⟨hok, rfl⟩ := some_ret hc
    exact holds_ev prog_ok (allOK_cons ok_impl_in (allOK_cons ok_impl_RunSwing (allOK_cons ok_impl_width allOK_nil))) Try.func44 rfl rfl smL_nil rfl (e_impl_ResponseOf real x0 x1 x2 x3 x4 x5 x6 x7 x8 x9 x10 hok)
  · cases hc
def Pure.laws_FnExactResponseOf (F : FOps) (x0 : Int) (x1 : Int) (x2 : Int) (x3 : Int) (x4 : Int) (x5 : Int) (x6 : Int) (x7 : Int) (x8 : Int) (x9 : Int) (x10 : Int) : Bool := bif Pure.laws_sameFloat F (FOps.conv F FloatKind.f32 FloatKind.f64 (Pure.impl_ResponseOf F x0 x1 x2 x3 x4 x5 x6 x7 x8 x9 x10)) (FOps.conv F FloatKind.f32 FloatKind.f64 (Pure.spec_ResponseOf F x0 x1 x2 x3 x4 x5 x6 x7 x8 x9 x10)) then (Pure.impl_ResponseOf_1 F x0 x1 x2 x3 x4 x5 x6 x7 x8 x9 x10) == (Pure.spec_ResponseOf_1 F x0 x1 x2 x3 x4 x5 x6 x7 x8 x9 x10) else false
def Pure.laws_FnExactResponseOf_ok (F : FOps) (x0 : Int) (x1 : Int) (x2 : Int) (x3 : Int) (x4 : Int) (x5 : Int) (x6 : Int) (x7 : Int) (x8 : Int) (x9 : Int) (x10 : Int) : Bool := bif Pure.spec_ResponseOf_ok F x0 x1 x2 x3 x4 x5 x6 x7 x8 x9 x10 then bif Pure.impl_ResponseOf_ok F x0 x1 x2 x3 x4 x5 x6 x7 x8 x9 x10 then bif FOps.convOk F FloatKind.f32 FloatKind.f64 (Pure.impl_ResponseOf F x0 x1 x2 x3 x4 x5 x6 x7 x8 x9 x10) then FOps.convOk F FloatKind.f32 FloatKind.f64 (Pure.spec_ResponseOf F x0 x1 x2 x3 x4 x5 x6 x7 x8 x9 x10) else false else false else false
def c_laws_FnExactResponseOf (F : FOps) : Con
  | [V.agg [A.fl FloatKind.f32 x0, A.fl FloatKind.f32 x1, A.fl FloatKind.f32 x2, A.fl FloatKind.f32 x3, A.fl FloatKind.f32 x4], V.agg [A.fl FloatKind.f32 x5, A.fl FloatKind.f32 x6, A.fl FloatKind.f32 x7], V.at (A.fl FloatKind.f32 x8), V.at (A.int IntKind.i64 x9), V.at (A.int IntKind.i64 x10)], [] => some (Pure.laws_FnExactResponseOf_ok F x0 x1 x2 x3 x4 x5 x6 x7 x8 x9 x10, ⟨V.at (A.bool (Pure.laws_FnExactResponseOf F x0 x1 x2 x3 x4 x5 x6 x7 x8 x9 x10)), none, []⟩)
  | _, _ => none
theorem e_laws_FnExactResponseOf (F : FOps) (x0 : Int) (x1 : Int) (x2 : Int) (x3 : Int) (x4 : Int) (x5 : Int) (x6 : Int) (x7 : Int) (x8 : Int) (x9 : Int) (x10 : Int) : Pure.laws_FnExactResponseOf_ok F x0 x1 x2 x3 x4 x5 x6 x7 x8 x9 x10 = true → evFn (cxS F tyl [(33, c_laws_toPendulum F), (34, c_laws_toSwing F), (43, c_spec_ResponseOf F), (44, c_impl_ResponseOf F), (18, c_laws_sameFloat F)] [] [] 0) Try.f10 false [V.agg [A.fl FloatKind.f32 x0, A.fl FloatKind.f32 x1, A.fl FloatKind.f32 x2, A.fl FloatKind.f32 x3, A.fl FloatKind.f32 x4], V.agg [A.fl FloatKind.f32 x5, A.fl FloatKind.f32 x6, A.fl FloatKind.f32 x7], V.at (A.fl FloatKind.f32 x8), V.at (A.int IntKind.i64 x9), V.at (A.int IntKind.i64 x10)] [] = some ⟨V.at (A.bool (Pure.laws_FnExactResponseOf F x0 x1 x2 x3 x4 x5 x6 x7 x8 x9 x10)), none, []⟩ := by
  have h0 : evFn (cxS F tyl [(33, c_laws_toPendulum F), (34, c_laws_toSwing F), (43, c_spec_ResponseOf F), (44, c_impl_ResponseOf F), (18, c_laws_sameFloat F)] [] [] 0) Try.f10 false [V.agg [A.fl FloatKind.f32 x0, A.fl FloatKind.f32 x1, A.fl FloatKind.f32 x2, A.fl FloatKind.f32 x3, A.fl FloatKind.f32 x4], V.agg [A.fl FloatKind.f32 x5, A.fl FloatKind.f32 x6, A.fl FloatKind.f32 x7], V.at (A.fl FloatKind.f32 x8), V.at (A.int IntKind.i64 x9), V.at (A.int IntKind.i64 x10)] [] = bif Pure.spec_ResponseOf_ok F x0 x1 x2 x3 x4 x5 x6 x7 x8 x9 x10 then bif Pure.impl_ResponseOf_ok F x0 x1 x2 x3 x4 x5 x6 x7 x8 x9 x10 then bif FOps.convOk F FloatKind.f32 FloatKind.f64 (Pure.impl_ResponseOf F x0 x1 x2 x3 x4 x5 x6 x7 x8 x9 x10) then bif FOps.convOk F FloatKind.f32 FloatKind.f64 (Pure.spec_ResponseOf F x0 x1 x2 x3 x4 x5 x6 x7 x8 x9 x10) then bif Bool.not (Pure.laws_sameFloat F (FOps.conv F FloatKind.f32 FloatKind.f64 (Pure.impl_ResponseOf F x0 x1 x2 x3 x4 x5 x6 x7 x8 x9 x10)) (FOps.conv F FloatKind.f32 FloatKind.f64 (Pure.spec_ResponseOf F x0 x1 x2 x3 x4 x5 x6 x7 x8 x9 x10))) then some ⟨V.at (A.bool false), none, []⟩ else bif Bool.not ((Pure.impl_ResponseOf_1 F x0 x1 x2 x3 x4 x5 x6 x7 x8 x9 x10) == (Pure.spec_ResponseOf_1 F x0 x1 x2 x3 x4 x5 x6 x7 x8 x9 x10)) then some ⟨V.at (A.bool false), none, []⟩ else some ⟨V.at (A.bool true), none, []⟩ else none else none else none else none := by kernel_rfl
  rw [h0]
  unfold Pure.laws_FnExactResponseOf Pure.laws_FnExactResponseOf_ok
  cases (Pure.spec_ResponseOf_ok F x0 x1 x2 x3 x4 x5 x6 x7 x8 x9 x10) with
  | true =>
    cases (Pure.impl_ResponseOf_ok F x0 x1 x2 x3 x4 x5 x6 x7 x8 x9 x10) with
    | true =>
      cases (FOps.convOk F FloatKind.f32 FloatKind.f64 (Pure.impl_ResponseOf F x0 x1 x2 x3 x4 x5 x6 x7 x8 x9 x10)) with
      | true =>
        cases (FOps.convOk F FloatKind.f32 FloatKind.f64 (Pure.spec_ResponseOf F x0 x1 x2 x3 x4 x5 x6 x7 x8 x9 x10)) with
        | true =>
          cases (Pure.laws_sameFloat F (FOps.conv F FloatKind.f32 FloatKind.f64 (Pure.impl_ResponseOf F x0 x1 x2 x3 x4 x5 x6 x7 x8 x9 x10)) (FOps.conv F FloatKind.f32 FloatKind.f64 (Pure.spec_ResponseOf F x0 x1 x2 x3 x4 x5 x6 x7 x8 x9 x10))) with
          | true =>
            cases ((Pure.impl_ResponseOf_1 F x0 x1 x2 x3 x4 x5 x6 x7 x8 x9 x10) == (Pure.spec_ResponseOf_1 F x0 x1 x2 x3 x4 x5 x6 x7 x8 x9 x10)) with
            | true =>
              intro _; rfl
            | false =>
              intro _; rfl
          | false =>
            intro _; rfl
        | false =>
          intro h; exact absurd h Bool.false_ne_true
      | false =>
        intro h; exact absurd h Bool.false_ne_true
    | false =>
      intro h; exact absurd h Bool.false_ne_true
  | false =>
    intro h; exact absurd h Bool.false_ne_true
theorem ok_laws_FnExactResponseOf : CallOK Try.prog 10 (c_laws_FnExactResponseOf real) := by
  refine callOK_of fun args h ret hc => ?_
  unfold c_laws_FnExactResponseOf at hc
  split at hc
  · rename_i x0 x1 x2 x3 x4 x5 x6 x7 x8 x9 x10
    obtain ⟨hok, rfl⟩ := some_ret hc
    exact holds_ev prog_ok (allOK_cons ok_laws_toPendulum (allOK_cons ok_laws_toSwing (allOK_cons ok_spec_ResponseOf (allOK_cons ok_impl_ResponseOf (allOK_cons ok_laws_sameFloat allOK_nil))))) Try.func10 rfl rfl smL_nil rfl (e_laws_FnExactResponseOf real x0 x1 x2 x3 x4 x5 x6 x7 x8 x9 x10 hok)
  · cases hc
end Go.Fx
