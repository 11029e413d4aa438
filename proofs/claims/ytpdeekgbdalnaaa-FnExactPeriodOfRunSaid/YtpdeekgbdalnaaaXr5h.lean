import Derived.Test.YtpdeekgbdalnaaaXr5f
import Derived.KernelRfl
namespace Go.Fx
open Go.Proofs
set_option maxRecDepth 100000
def Pure.impl_PeriodOfRun_c1 (F : FOps) (x0 : Int) (x1 : List (List Int)) (x2 : Int) : Int := FOps.bin F BinOp.mul FloatKind.f32 x2 (FOps.bin F BinOp.add FloatKind.f32 (FOps.ofInt F FloatKind.f32 x0) (FOps.bin F BinOp.quo FloatKind.f32 (List.getD (List.getD x1 (Int.toNat (IntKind.wrap IntKind.i64 (x0 - 1))) []) 0 0) (FOps.bin F BinOp.sub FloatKind.f32 (List.getD (List.getD x1 (Int.toNat (IntKind.wrap IntKind.i64 (x0 - 1))) []) 0 0) (List.getD (List.getD x1 (Int.toNat x0) []) 0 0))))
def Pure.impl_PeriodOfRun_c1_ok (F : FOps) (x0 : Int) (x1 : List (List Int)) (x2 : Int) : Bool := bif Decidable.decide (0 ≤ (IntKind.wrap IntKind.i64 (x0 - 1))) then bif Decidable.decide ((IntKind.wrap IntKind.i64 (x0 - 1)) < (Int.ofNat (List.length x1))) then bif Decidable.decide (0 ≤ x0) then Decidable.decide (x0 < (Int.ofNat (List.length x1))) else false else false else false
def c_impl_PeriodOfRun_c1 (F : FOps) : Con
  | [V.at (A.int IntKind.i64 x0), V.at (A.ptr 0 0 0), V.at (A.ptr 1 0 0)], [⟨false, OC.box [A.sl 2]⟩, ⟨false, OC.box [A.fl FloatKind.f32 x2]⟩, ⟨false, OC.rows [K.f FloatKind.f32] x1⟩] => some (Pure.impl_PeriodOfRun_c1_ok F x0 x1 x2, ⟨V.at (A.fl FloatKind.f32 (Pure.impl_PeriodOfRun_c1 F x0 x1 x2)), none, []⟩)
  | _, _ => none
theorem e_impl_PeriodOfRun_c1 (F : FOps) (x0 : Int) (x1 : List (List Int)) (x2 : Int) : Pure.impl_PeriodOfRun_c1_ok F x0 x1 x2 = true → evFn (cxS F tyl [] [] [] 0) Try.f92 false [V.at (A.int IntKind.i64 x0), V.at (A.ptr 0 0 0), V.at (A.ptr 1 0 0)] [⟨false, OC.box [A.sl 2]⟩, ⟨false, OC.box [A.fl FloatKind.f32 x2]⟩, ⟨false, OC.rows [K.f FloatKind.f32] x1⟩] = some ⟨V.at (A.fl FloatKind.f32 (Pure.impl_PeriodOfRun_c1 F x0 x1 x2)), none, []⟩ := by
  have h0 : evFn (cxS F tyl [] [] [] 0) Try.f92 false [V.at (A.int IntKind.i64 x0), V.at (A.ptr 0 0 0), V.at (A.ptr 1 0 0)] [⟨false, OC.box [A.sl 2]⟩, ⟨false, OC.box [A.fl FloatKind.f32 x2]⟩, ⟨false, OC.rows [K.f FloatKind.f32] x1⟩] = bif Decidable.decide (0 ≤ (IntKind.wrap IntKind.i64 (x0 - 1))) then bif Decidable.decide ((IntKind.wrap IntKind.i64 (x0 - 1)) < (Int.ofNat (List.length x1))) then bif Decidable.decide (0 ≤ (IntKind.wrap IntKind.i64 (x0 - 1))) then bif Decidable.decide ((IntKind.wrap IntKind.i64 (x0 - 1)) < (Int.ofNat (List.length x1))) then bif Decidable.decide (0 ≤ x0) then bif Decidable.decide (x0 < (Int.ofNat (List.length x1))) then some ⟨V.at (A.fl FloatKind.f32 (FOps.bin F BinOp.mul FloatKind.f32 x2 (FOps.bin F BinOp.add FloatKind.f32 (FOps.ofInt F FloatKind.f32 x0) (FOps.bin F BinOp.quo FloatKind.f32 (List.getD (List.getD x1 (Int.toNat (IntKind.wrap IntKind.i64 (x0 - 1))) []) 0 0) (FOps.bin F BinOp.sub FloatKind.f32 (List.getD (List.getD x1 (Int.toNat (IntKind.wrap IntKind.i64 (x0 - 1))) []) 0 0) (List.getD (List.getD x1 (Int.toNat x0) []) 0 0)))))), none, []⟩ else none else none else none else none else none else none := by kernel_rfl
  rw [h0]
  unfold Pure.impl_PeriodOfRun_c1 Pure.impl_PeriodOfRun_c1_ok
  cases (Decidable.decide (0 ≤ (IntKind.wrap IntKind.i64 (x0 - 1)))) with
  | true =>
    cases (Decidable.decide ((IntKind.wrap IntKind.i64 (x0 - 1)) < (Int.ofNat (List.length x1)))) with
    | true =>
      cases (Decidable.decide (0 ≤ x0)) with
      | true =>
        cases (Decidable.decide (x0 < (Int.ofNat (List.length x1)))) with
        | true =>
          intro _; rfl
        | false =>
          intro h; exact absurd h Bool.false_ne_true
      | false =>
        intro h; exact absurd h Bool.false_ne_true
    | false =>
      intro h; exact absurd h Bool.false_ne_true
  | false =>
    intro h; exact absurd h Bool.false_ne_true
theorem ok_impl_PeriodOfRun_c1 : CallOK Try.prog 92 (c_impl_PeriodOfRun_c1 real) := by
  refine callOK_of fun args h ret hc => ?_
  unfold c_impl_PeriodOfRun_c1 at hc
  split at hc
  · rename_i x0 x2 x1
    obtain ⟨hok, rfl⟩ := some_ret hc
    exact holds_ev prog_ok allOK_nil Try.func92 rfl rfl smL_nil rfl (e_impl_PeriodOfRun_c1 real x0 x1 x2 hok)
  · cases hc
def Pure.spec_l02Rises_L0 (F : FOps) (y1 : List (List Int)) : Nat → Int → (List (List Int)) → (Bool × (List (List Int)))
  | 0, _, _ => (false, [])
  | n + 1, y0, y2 => bif (Decidable.decide (y0 < (Int.ofNat (List.length y1)))) then (bif (Decidable.decide (0 ≤ (IntKind.wrap IntKind.i64 (y0 - 1)))) then (bif (Decidable.decide ((IntKind.wrap IntKind.i64 (y0 - 1)) < (Int.ofNat (List.length y1)))) then (bif (FOps.cmp F BinOp.lss FloatKind.f32 (List.getD (List.getD y1 (Int.toNat (IntKind.wrap IntKind.i64 (y0 - 1))) []) 0 0) 0) then (bif (Decidable.decide (0 ≤ y0)) then (bif (Decidable.decide (y0 < (Int.ofNat (List.length y1)))) then (bif (FOps.cmp F BinOp.geq FloatKind.f32 (List.getD (List.getD y1 (Int.toNat y0) []) 0 0) 0) then (bif (Decidable.decide ((Nat.succ (List.length y2)) ≤ 1073741824)) then (Pure.spec_l02Rises_L0 F y1 n (IntKind.wrap IntKind.i64 (y0 + 1)) (y2 ++ [[y0]])) else ((false, []))) else (Pure.spec_l02Rises_L0 F y1 n (IntKind.wrap IntKind.i64 (y0 + 1)) y2)) else ((false, []))) else ((false, []))) else (Pure.spec_l02Rises_L0 F y1 n (IntKind.wrap IntKind.i64 (y0 + 1)) y2)) else ((false, []))) else ((false, []))) else ((true, y2))
def R_spec_l02Rises_L0 (y1 : List (List Int)) (r : (Bool × (List (List Int)))) : Bool × Bool × (Ex × List V × List Ob) × (Ex × List V × List Ob) := ((r).1, false, (Ex.normal, [V.at (A.sl 1)], [⟨false, OC.rows [K.f FloatKind.f32] y1⟩, ⟨true, OC.rows [K.i IntKind.i64] (r).2⟩]), (Ex.normal, [V.at (A.sl 1)], [⟨false, OC.rows [K.f FloatKind.f32] y1⟩, ⟨true, OC.rows [K.i IntKind.i64] (r).2⟩]))
def S_spec_l02Rises_L0 (F : FOps) : Sm := ⟨[0, 3, 4], [63, 113, 3], [3], fun vals hp => match vals, hp with
  | [V.at (A.sl 0), V.at (A.sl 1), V.at (A.int IntKind.i64 y0)], [⟨false, OC.rows [K.f FloatKind.f32] y1⟩, ⟨true, OC.rows [K.i IntKind.i64] y2⟩] => some (R_spec_l02Rises_L0 y1 (Pure.spec_l02Rises_L0 F y1 ((Int.ofNat (List.length y1)) - y0 + 2).toNat y0 y2))
  | _, _ => none⟩
theorem l_spec_l02Rises_L0 (F : FOps) (y1 : List (List Int)) : ∀ (fuel : Nat) (y0 : Int) (y2 : List (List Int)), (Pure.spec_l02Rises_L0 F y1 fuel y0 y2).1 = true → loopOf (cxS F tyl [] [] [] 0) 1 30 0 [0, 3, 4] [63, 113, 3] [3] (loopB 0 (codeOf Try.f89)) fuel [V.at (A.sl 0), V.at (A.sl 1), V.at (A.int IntKind.i64 y0)] [⟨false, OC.rows [K.f FloatKind.f32] y1⟩, ⟨true, OC.rows [K.i IntKind.i64] y2⟩] = resOf (R_spec_l02Rises_L0 y1 (Pure.spec_l02Rises_L0 F y1 fuel y0 y2)) := by
  intro fuel
  induction fuel with
  | zero => intro y0 y2 h; exact absurd h Bool.false_ne_true
  | succ n ih =>
    intro y0 y2
    have h0 : roundOf (cxS F tyl [] [] [] 0) 1 30 0 [0, 3, 4] [63, 113, 3] [3] (loopB 0 (codeOf Try.f89)) [V.at (A.sl 0), V.at (A.sl 1), V.at (A.int IntKind.i64 y0)] [⟨false, OC.rows [K.f FloatKind.f32] y1⟩, ⟨true, OC.rows [K.i IntKind.i64] y2⟩] = (bif Decidable.decide (y0 < (Int.ofNat (List.length y1))) then bif Decidable.decide (0 ≤ (IntKind.wrap IntKind.i64 (y0 - 1))) then bif Decidable.decide ((IntKind.wrap IntKind.i64 (y0 - 1)) < (Int.ofNat (List.length y1))) then bif FOps.cmp F BinOp.lss FloatKind.f32 (List.getD (List.getD y1 (Int.toNat (IntKind.wrap IntKind.i64 (y0 - 1))) []) 0 0) 0 then bif Decidable.decide (0 ≤ y0) then bif Decidable.decide (y0 < (Int.ofNat (List.length y1))) then bif FOps.cmp F BinOp.geq FloatKind.f32 (List.getD (List.getD y1 (Int.toNat y0) []) 0 0) 0 then bif Decidable.decide ((Nat.succ (List.length y2)) ≤ 1073741824) then some (true, (Ex.normal, ([V.at (A.sl 0), V.at (A.sl 1), V.at (A.int IntKind.i64 (IntKind.wrap IntKind.i64 (y0 + 1)))], [⟨false, OC.rows [K.f FloatKind.f32] y1⟩, ⟨true, OC.rows [K.i IntKind.i64] (y2 ++ [[y0]])⟩]))) else none else some (true, (Ex.normal, ([V.at (A.sl 0), V.at (A.sl 1), V.at (A.int IntKind.i64 (IntKind.wrap IntKind.i64 (y0 + 1)))], [⟨false, OC.rows [K.f FloatKind.f32] y1⟩, ⟨true, OC.rows [K.i IntKind.i64] y2⟩]))) else none else none else some (true, (Ex.normal, ([V.at (A.sl 0), V.at (A.sl 1), V.at (A.int IntKind.i64 (IntKind.wrap IntKind.i64 (y0 + 1)))], [⟨false, OC.rows [K.f FloatKind.f32] y1⟩, ⟨true, OC.rows [K.i IntKind.i64] y2⟩]))) else none else none else some (false, (Ex.normal, ([V.at (A.sl 1)], [⟨false, OC.rows [K.f FloatKind.f32] y1⟩, ⟨true, OC.rows [K.i IntKind.i64] y2⟩])))) := by kernel_rfl
    unfold loopOf
    rw [h0]
    unfold Pure.spec_l02Rises_L0
    cases (Decidable.decide (y0 < (Int.ofNat (List.length y1)))) with
    | true =>
      cases (Decidable.decide (0 ≤ (IntKind.wrap IntKind.i64 (y0 - 1)))) with
      | true =>
        cases (Decidable.decide ((IntKind.wrap IntKind.i64 (y0 - 1)) < (Int.ofNat (List.length y1)))) with
        | true =>
          cases (FOps.cmp F BinOp.lss FloatKind.f32 (List.getD (List.getD y1 (Int.toNat (IntKind.wrap IntKind.i64 (y0 - 1))) []) 0 0) 0) with
          | true =>
            cases (Decidable.decide (0 ≤ y0)) with
            | true =>
              cases (FOps.cmp F BinOp.geq FloatKind.f32 (List.getD (List.getD y1 (Int.toNat y0) []) 0 0) 0) with
              | true =>
                cases (Decidable.decide ((Nat.succ (List.length y2)) ≤ 1073741824)) with
                | true =>
                  exact ih _ _
                | false =>
                  intro h; exact absurd h Bool.false_ne_true
              | false =>
                exact ih _ _
            | false =>
              intro h; exact absurd h Bool.false_ne_true
          | false =>
            exact ih _ _
        | false =>
          intro h; exact absurd h Bool.false_ne_true
      | false =>
        intro h; exact absurd h Bool.false_ne_true
    | false =>
      intro _; rfl
theorem t_spec_l02Rises_L0 : SmTo Try.prog 1 30 (S_spec_l02Rises_L0 real) 0 (.loop (loopB 0 (codeOf Try.f89))) := by
  refine smTo_ev (cl := []) (ef := []) (sm := []) (un := 0) prog_ok allOK_nil smL_nil ?_
  intro vals hp q r h hq
  unfold S_spec_l02Rises_L0 at h
  dsimp only at h
  split at h
  · rename_i y0 y1 y2
    obtain rfl := Option.some.inj h
    have h1 := hq
    unfold resOf at h1
    rw [chk_some] at h1
    exact ⟨_, (l_spec_l02Rises_L0 real y1 _ y0 y2 h1.1).trans hq⟩
  · cases h
def Pure.spec_l02Rises (F : FOps) (x0 : List (List Int)) : List (List Int) := Prod.snd (Pure.spec_l02Rises_L0 F x0 (Int.toNat (((Int.ofNat (List.length x0)) - 1) + 2)) 1 [])
def Pure.spec_l02Rises_ok (F : FOps) (x0 : List (List Int)) : Bool := Prod.fst (Pure.spec_l02Rises_L0 F x0 (Int.toNat (((Int.ofNat (List.length x0)) - 1) + 2)) 1 [])
def c_spec_l02Rises (F : FOps) : Con
  | [V.at (A.sl 0)], [⟨false, OC.rows [K.f FloatKind.f32] x0⟩] => some (Pure.spec_l02Rises_ok F x0, ⟨V.at (A.sl 1), none, [⟨true, OC.rows [K.i IntKind.i64] (Pure.spec_l02Rises F x0)⟩]⟩)
  | _, _ => none
theorem e_spec_l02Rises (F : FOps) (x0 : List (List Int)) : Pure.spec_l02Rises_ok F x0 = true → evFn (cxS F tyl [] [] [(0, S_spec_l02Rises_L0 F)] 0) Try.f89 false [V.at (A.sl 0)] [⟨false, OC.rows [K.f FloatKind.f32] x0⟩] = some ⟨V.at (A.sl 1), none, [⟨true, OC.rows [K.i IntKind.i64] (Pure.spec_l02Rises F x0)⟩]⟩ := by
  have h0 : evFn (cxS F tyl [] [] [(0, S_spec_l02Rises_L0 F)] 0) Try.f89 false [V.at (A.sl 0)] [⟨false, OC.rows [K.f FloatKind.f32] x0⟩] = bif Prod.fst (Pure.spec_l02Rises_L0 F x0 (Int.toNat (((Int.ofNat (List.length x0)) - 1) + 2)) 1 []) then some ⟨V.at (A.sl 1), none, [⟨true, OC.rows [K.i IntKind.i64] (Prod.snd (Pure.spec_l02Rises_L0 F x0 (Int.toNat (((Int.ofNat (List.length x0)) - 1) + 2)) 1 []))⟩]⟩ else none := by kernel_rfl
  rw [h0]
  unfold Pure.spec_l02Rises Pure.spec_l02Rises_ok
  cases (Prod.fst (Pure.spec_l02Rises_L0 F x0 (Int.toNat (((Int.ofNat (List.length x0)) - 1) + 2)) 1 [])) with
  | true =>
    intro _; rfl
  | false =>
    intro h; exact absurd h Bool.false_ne_true
theorem ok_spec_l02Rises : CallOK Try.prog 89 (c_spec_l02Rises real) := by
  refine callOK_of fun args h ret hc => ?_
  unfold c_spec_l02Rises at hc
  split at hc
  · rename_i x0
    obtain ⟨hok, rfl⟩ := some_ret hc
    exact holds_ev prog_ok allOK_nil Try.func89 rfl rfl (smL_cons (body := .loop (loopB 0 (codeOf Try.f89))) (by kernel_rfl) t_spec_l02Rises_L0 smL_nil) rfl (e_spec_l02Rises real x0 hok)
  · cases hc
def Pure.spec_l02Rise (F : FOps) (x0 : List (List Int)) (x1 : Int) (x2 : Int) : Int := FOps.bin F BinOp.mul FloatKind.f32 x2 (FOps.bin F BinOp.add FloatKind.f32 (FOps.ofInt F FloatKind.f32 x1) (FOps.bin F BinOp.quo FloatKind.f32 (List.getD (List.getD x0 (Int.toNat (IntKind.wrap IntKind.i64 (x1 - 1))) []) 0 0) (FOps.bin F BinOp.sub FloatKind.f32 (List.getD (List.getD x0 (Int.toNat (IntKind.wrap IntKind.i64 (x1 - 1))) []) 0 0) (List.getD (List.getD x0 (Int.toNat x1) []) 0 0))))
def Pure.spec_l02Rise_ok (F : FOps) (x0 : List (List Int)) (x1 : Int) (x2 : Int) : Bool := bif Decidable.decide (0 ≤ (IntKind.wrap IntKind.i64 (x1 - 1))) then bif Decidable.decide ((IntKind.wrap IntKind.i64 (x1 - 1)) < (Int.ofNat (List.length x0))) then bif Decidable.decide (0 ≤ x1) then Decidable.decide (x1 < (Int.ofNat (List.length x0))) else false else false else false
def c_spec_l02Rise (F : FOps) : Con
  | [V.at (A.sl 0), V.at (A.int IntKind.i64 x1), V.at (A.fl FloatKind.f32 x2)], [⟨false, OC.rows [K.f FloatKind.f32] x0⟩] => some (Pure.spec_l02Rise_ok F x0 x1 x2, ⟨V.at (A.fl FloatKind.f32 (Pure.spec_l02Rise F x0 x1 x2)), none, []⟩)
  | _, _ => none
theorem e_spec_l02Rise (F : FOps) (x0 : List (List Int)) (x1 : Int) (x2 : Int) : Pure.spec_l02Rise_ok F x0 x1 x2 = true → evFn (cxS F tyl [] [] [] 0) Try.f90 false [V.at (A.sl 0), V.at (A.int IntKind.i64 x1), V.at (A.fl FloatKind.f32 x2)] [⟨false, OC.rows [K.f FloatKind.f32] x0⟩] = some ⟨V.at (A.fl FloatKind.f32 (Pure.spec_l02Rise F x0 x1 x2)), none, []⟩ := by
  have h0 : evFn (cxS F tyl [] [] [] 0) Try.f90 false [V.at (A.sl 0), V.at (A.int IntKind.i64 x1), V.at (A.fl FloatKind.f32 x2)] [⟨false, OC.rows [K.f FloatKind.f32] x0⟩] = bif Decidable.decide (0 ≤ (IntKind.wrap IntKind.i64 (x1 - 1))) then bif Decidable.decide ((IntKind.wrap IntKind.i64 (x1 - 1)) < (Int.ofNat (List.length x0))) then bif Decidable.decide (0 ≤ (IntKind.wrap IntKind.i64 (x1 - 1))) then bif Decidable.decide ((IntKind.wrap IntKind.i64 (x1 - 1)) < (Int.ofNat (List.length x0))) then bif Decidable.decide (0 ≤ x1) then bif Decidable.decide (x1 < (Int.ofNat (List.length x0))) then some ⟨V.at (A.fl FloatKind.f32 (FOps.bin F BinOp.mul FloatKind.f32 x2 (FOps.bin F BinOp.add FloatKind.f32 (FOps.ofInt F FloatKind.f32 x1) (FOps.bin F BinOp.quo FloatKind.f32 (List.getD (List.getD x0 (Int.toNat (IntKind.wrap IntKind.i64 (x1 - 1))) []) 0 0) (FOps.bin F BinOp.sub FloatKind.f32 (List.getD (List.getD x0 (Int.toNat (IntKind.wrap IntKind.i64 (x1 - 1))) []) 0 0) (List.getD (List.getD x0 (Int.toNat x1) []) 0 0)))))), none, []⟩ else none else none else none else none else none else none := by kernel_rfl
  rw [h0]
  unfold Pure.spec_l02Rise Pure.spec_l02Rise_ok
  cases (Decidable.decide (0 ≤ (IntKind.wrap IntKind.i64 (x1 - 1)))) with
  | true =>
    cases (Decidable.decide ((IntKind.wrap IntKind.i64 (x1 - 1)) < (Int.ofNat (List.length x0)))) with
    | true =>
      cases (Decidable.decide (0 ≤ x1)) with
      | true =>
        cases (Decidable.decide (x1 < (Int.ofNat (List.length x0)))) with
        | true =>
          intro _; rfl
        | false =>
          intro h; exact absurd h Bool.false_ne_true
      | false =>
        intro h; exact absurd h Bool.false_ne_true
    | false =>
      intro h; exact absurd h Bool.false_ne_true
  | false =>
    intro h; exact absurd h Bool.false_ne_true
theorem ok_spec_l02Rise : CallOK Try.prog 90 (c_spec_l02Rise real) := by
  refine callOK_of fun args h ret hc => ?_
  unfold c_spec_l02Rise at hc
  split at hc
  · rename_i x1 x2 x0
    obtain ⟨hok, rfl⟩ := some_ret hc
    exact holds_ev prog_ok allOK_nil Try.func90 rfl rfl smL_nil rfl (e_spec_l02Rise real x0 x1 x2 hok)
  · cases hc
def Pure.spec_PeriodOfRun (F : FOps) (x0 : Int) (x1 : Int) (x2 : Int) (x3 : Int) (x4 : Int) (x5 : Int) (x6 : Int) (x7 : Int) (x8 : Int) (x9 : Int) : Int := bif Pure.spec_RunSwing_3 F x0 x1 x2 x3 x4 x5 x6 x7 x8 x9 then bif Decidable.decide ((Int.ofNat (List.length (Pure.spec_l02Rises F (Pure.spec_RunSwing_4 F x0 x1 x2 x3 x4 x5 x6 x7 x8 x9)))) < 2) then 0 else Pure.spec_l02Number F (FOps.bin F BinOp.sub FloatKind.f32 (Pure.spec_l02Rise F (Pure.spec_RunSwing_4 F x0 x1 x2 x3 x4 x5 x6 x7 x8 x9) (List.getD (List.getD (Pure.spec_l02Rises F (Pure.spec_RunSwing_4 F x0 x1 x2 x3 x4 x5 x6 x7 x8 x9)) 1 []) 0 0) x8) (Pure.spec_l02Rise F (Pure.spec_RunSwing_4 F x0 x1 x2 x3 x4 x5 x6 x7 x8 x9) (List.getD (List.getD (Pure.spec_l02Rises F (Pure.spec_RunSwing_4 F x0 x1 x2 x3 x4 x5 x6 x7 x8 x9)) 0 []) 0 0) x8)) else 0
def Pure.spec_PeriodOfRun_1 (F : FOps) (x0 : Int) (x1 : Int) (x2 : Int) (x3 : Int) (x4 : Int) (x5 : Int) (x6 : Int) (x7 : Int) (x8 : Int) (x9 : Int) : Bool := bif Pure.spec_RunSwing_3 F x0 x1 x2 x3 x4 x5 x6 x7 x8 x9 then bif Decidable.decide ((Int.ofNat (List.length (Pure.spec_l02Rises F (Pure.spec_RunSwing_4 F x0 x1 x2 x3 x4 x5 x6 x7 x8 x9)))) < 2) then false else Pure.spec_l01Finite F (FOps.bin F BinOp.sub FloatKind.f32 (Pure.spec_l02Rise F (Pure.spec_RunSwing_4 F x0 x1 x2 x3 x4 x5 x6 x7 x8 x9) (List.getD (List.getD (Pure.spec_l02Rises F (Pure.spec_RunSwing_4 F x0 x1 x2 x3 x4 x5 x6 x7 x8 x9)) 1 []) 0 0) x8) (Pure.spec_l02Rise F (Pure.spec_RunSwing_4 F x0 x1 x2 x3 x4 x5 x6 x7 x8 x9) (List.getD (List.getD (Pure.spec_l02Rises F (Pure.spec_RunSwing_4 F x0 x1 x2 x3 x4 x5 x6 x7 x8 x9)) 0 []) 0 0) x8)) else false
def Pure.spec_PeriodOfRun_ok (F : FOps) (x0 : Int) (x1 : Int) (x2 : Int) (x3 : Int) (x4 : Int) (x5 : Int) (x6 : Int) (x7 : Int) (x8 : Int) (x9 : Int) : Bool := bif Pure.spec_RunSwing_ok F x0 x1 x2 x3 x4 x5 x6 x7 x8 x9 then bif Pure.spec_RunSwing_3 F x0 x1 x2 x3 x4 x5 x6 x7 x8 x9 then bif Pure.spec_l02Rises_ok F (Pure.spec_RunSwing_4 F x0 x1 x2 x3 x4 x5 x6 x7 x8 x9) then bif Decidable.decide ((Int.ofNat (List.length (Pure.spec_l02Rises F (Pure.spec_RunSwing_4 F x0 x1 x2 x3 x4 x5 x6 x7 x8 x9)))) < 2) then true else bif Decidable.decide (1 < (Int.ofNat (List.length (Pure.spec_l02Rises F (Pure.spec_RunSwing_4 F x0 x1 x2 x3 x4 x5 x6 x7 x8 x9))))) then bif Pure.spec_l02Rise_ok F (Pure.spec_RunSwing_4 F x0 x1 x2 x3 x4 x5 x6 x7 x8 x9) (List.getD (List.getD (Pure.spec_l02Rises F (Pure.spec_RunSwing_4 F x0 x1 x2 x3 x4 x5 x6 x7 x8 x9)) 1 []) 0 0) x8 then bif Decidable.decide (0 < (Int.ofNat (List.length (Pure.spec_l02Rises F (Pure.spec_RunSwing_4 F x0 x1 x2 x3 x4 x5 x6 x7 x8 x9))))) then Pure.spec_l02Rise_ok F (Pure.spec_RunSwing_4 F x0 x1 x2 x3 x4 x5 x6 x7 x8 x9) (List.getD (List.getD (Pure.spec_l02Rises F (Pure.spec_RunSwing_4 F x0 x1 x2 x3 x4 x5 x6 x7 x8 x9)) 0 []) 0 0) x8 else false else false else false else false else true else false
def c_spec_PeriodOfRun (F : FOps) : Con
  | [V.agg [A.fl FloatKind.f32 x0, A.fl FloatKind.f32 x1, A.fl FloatKind.f32 x2, A.fl FloatKind.f32 x3, A.fl FloatKind.f32 x4], V.agg [A.fl FloatKind.f32 x5, A.fl FloatKind.f32 x6, A.fl FloatKind.f32 x7], V.at (A.fl FloatKind.f32 x8), V.at (A.int IntKind.i64 x9)], [] => some (Pure.spec_PeriodOfRun_ok F x0 x1 x2 x3 x4 x5 x6 x7 x8 x9, ⟨V.tup [(false, [A.fl FloatKind.f32 (Pure.spec_PeriodOfRun F x0 x1 x2 x3 x4 x5 x6 x7 x8 x9)]), (false, [A.bool (Pure.spec_PeriodOfRun_1 F x0 x1 x2 x3 x4 x5 x6 x7 x8 x9)])], none, []⟩)
  | _, _ => none
theorem e_spec_PeriodOfRun (F : FOps) (x0 : Int) (x1 : Int) (x2 : Int) (x3 : Int) (x4 : Int) (x5 : Int) (x6 : Int) (x7 : Int) (x8 : Int) (x9 : Int) : Pure.spec_PeriodOfRun_ok F x0 x1 x2 x3 x4 x5 x6 x7 x8 x9 = true → evFn (cxS F tyl [(38, c_spec_RunSwing F), (89, c_spec_l02Rises F), (90, c_spec_l02Rise F), (60, c_spec_l02Number F)] [] [] 0) Try.f45 false [V.agg [A.fl FloatKind.f32 x0, A.fl FloatKind.f32 x1, A.fl FloatKind.f32 x2, A.fl FloatKind.f32 x3, A.fl FloatKind.f32 x4], V.agg [A.fl FloatKind.f32 x5, A.fl FloatKind.f32 x6, A.fl FloatKind.f32 x7], V.at (A.fl FloatKind.f32 x8), V.at (A.int IntKind.i64 x9)] [] = some ⟨V.tup [(false, [A.fl FloatKind.f32 (Pure.spec_PeriodOfRun F x0 x1 x2 x3 x4 x5 x6 x7 x8 x9)]), (false, [A.bool (Pure.spec_PeriodOfRun_1 F x0 x1 x2 x3 x4 x5 x6 x7 x8 x9)])], none, []⟩ := by
  have h0 : evFn (cxS F tyl [(38, c_spec_RunSwing F), (89, c_spec_l02Rises F), (90, c_spec_l02Rise F), (60, c_spec_l02Number F)] [] [] 0) Try.f45 false [V.agg [A.fl FloatKind.f32 x0, A.fl FloatKind.f32 x1, A.fl FloatKind.f32 x2, A.fl FloatKind.f32 x3, A.fl FloatKind.f32 x4], V.agg [A.fl FloatKind.f32 x5, A.fl FloatKind.f32 x6, A.fl FloatKind.f32 x7], V.at (A.fl FloatKind.f32 x8), V.at (A.int IntKind.i64 x9)] [] = bif Pure.spec_RunSwing_ok F x0 x1 x2 x3 x4 x5 x6 x7 x8 x9 then bif Bool.not (Pure.spec_RunSwing_3 F x0 x1 x2 x3 x4 x5 x6 x7 x8 x9) then some ⟨V.tup [(false, [A.fl FloatKind.f32 0]), (false, [A.bool false])], none, []⟩ else bif Pure.spec_l02Rises_ok F (Pure.spec_RunSwing_4 F x0 x1 x2 x3 x4 x5 x6 x7 x8 x9) then bif Decidable.decide ((Int.ofNat (List.length (Pure.spec_l02Rises F (Pure.spec_RunSwing_4 F x0 x1 x2 x3 x4 x5 x6 x7 x8 x9)))) < 2) then some ⟨V.tup [(false, [A.fl FloatKind.f32 0]), (false, [A.bool false])], none, []⟩ else bif Decidable.decide (1 < (Int.ofNat (List.length (Pure.spec_l02Rises F (Pure.spec_RunSwing_4 F x0 x1 x2 x3 x4 x5 x6 x7 x8 x9))))) then bif Pure.spec_l02Rise_ok F (Pure.spec_RunSwing_4 F x0 x1 x2 x3 x4 x5 x6 x7 x8 x9) (List.getD (List.getD (Pure.spec_l02Rises F (Pure.spec_RunSwing_4 F x0 x1 x2 x3 x4 x5 x6 x7 x8 x9)) 1 []) 0 0) x8 then bif Decidable.decide (0 < (Int.ofNat (List.length (Pure.spec_l02Rises F (Pure.spec_RunSwing_4 F x0 x1 x2 x3 x4 x5 x6 x7 x8 x9))))) then bif Pure.spec_l02Rise_ok F (Pure.spec_RunSwing_4 F x0 x1 x2 x3 x4 x5 x6 x7 x8 x9) (List.getD (List.getD (Pure.spec_l02Rises F (Pure.spec_RunSwing_4 F x0 x1 x2 x3 x4 x5 x6 x7 x8 x9)) 0 []) 0 0) x8 then some ⟨V.tup [(false, [A.fl FloatKind.f32 (Pure.spec_l02Number F (FOps.bin F BinOp.sub FloatKind.f32 (Pure.spec_l02Rise F (Pure.spec_RunSwing_4 F x0 x1 x2 x3 x4 x5 x6 x7 x8 x9) (List.getD (List.getD (Pure.spec_l02Rises F (Pure.spec_RunSwing_4 F x0 x1 x2 x3 x4 x5 x6 x7 x8 x9)) 1 []) 0 0) x8) (Pure.spec_l02Rise F (Pure.spec_RunSwing_4 F x0 x1 x2 x3 x4 x5 x6 x7 x8 x9) (List.getD (List.getD (Pure.spec_l02Rises F (Pure.spec_RunSwing_4 F x0 x1 x2 x3 x4 x5 x6 x7 x8 x9)) 0 []) 0 0) x8)))]), (false, [A.bool (Pure.spec_l01Finite F (FOps.bin F BinOp.sub FloatKind.f32 (Pure.spec_l02Rise F (Pure.spec_RunSwing_4 F x0 x1 x2 x3 x4 x5 x6 x7 x8 x9) (List.getD (List.getD (Pure.spec_l02Rises F (Pure.spec_RunSwing_4 F x0 x1 x2 x3 x4 x5 x6 x7 x8 x9)) 1 []) 0 0) x8) (Pure.spec_l02Rise F (Pure.spec_RunSwing_4 F x0 x1 x2 x3 x4 x5 x6 x7 x8 x9) (List.getD (List.getD (Pure.spec_l02Rises F (Pure.spec_RunSwing_4 F x0 x1 x2 x3 x4 x5 x6 x7 x8 x9)) 0 []) 0 0) x8)))])], none, []⟩ else none else none else none else none else none else none := by kernel_rfl
  rw [h0]
  unfold Pure.spec_PeriodOfRun Pure.spec_PeriodOfRun_1 Pure.spec_PeriodOfRun_ok
  cases (Pure.spec_RunSwing_ok F x0 x1 x2 x3 x4 x5 x6 x7 x8 x9) with
  | true =>
    cases (Pure.spec_RunSwing_3 F x0 x1 x2 x3 x4 x5 x6 x7 x8 x9) with
    | true =>
      cases (Pure.spec_l02Rises_ok F (Pure.spec_RunSwing_4 F x0 x1 x2 x3 x4 x5 x6 x7 x8 x9)) with
      | true =>
        cases (Decidable.decide ((Int.ofNat (List.length (Pure.spec_l02Rises F (Pure.spec_RunSwing_4 F x0 x1 x2 x3 x4 x5 x6 x7 x8 x9)))) < 2)) with
        | true =>
          intro _; rfl
        | false =>
          cases (Decidable.decide (1 < (Int.ofNat (List.length (Pure.spec_l02Rises F (Pure.spec_RunSwing_4 F x0 x1 x2 x3 x4 x5 x6 x7 x8 x9)))))) with
          | true =>
            cases (Pure.spec_l02Rise_ok F (Pure.spec_RunSwing_4 F x0 x1 x2 x3 x4 x5 x6 x7 x8 x9) (List.getD (List.getD (Pure.spec_l02Rises F (Pure.spec_RunSwing_4 F x0 x1 x2 x3 x4 x5 x6 x7 x8 x9)) 1 []) 0 0) x8) with
            | true =>
              cases (Decidable.decide (0 < (Int.ofNat (List.length (Pure.spec_l02Rises F (Pure.spec_RunSwing_4 F x0 x1 x2 x3 x4 x5 x6 x7 x8 x9)))))) with
              | true =>
                cases (Pure.spec_l02Rise_ok F (Pure.spec_RunSwing_4 F x0 x1 x2 x3 x4 x5 x6 x7 x8 x9) (List.getD (List.getD (Pure.spec_l02Rises F (Pure.spec_RunSwing_4 F x0 x1 x2 x3 x4 x5 x6 x7 x8 x9)) 0 []) 0 0) x8) with
                | true =>
                  intro _; rfl
                | false =>
                  intro h; exact absurd h Bool.false_ne_true
              | false =>
                intro h; exact absurd h Bool.false_ne_true
            | false =>
              intro h; exact absurd h Bool.false_ne_true
          | false =>
            intro h; exact absurd h Bool.false_ne_true
      | false =>
        intro h; exact absurd h Bool.false_ne_true
    | false =>
      intro _; rfl
  | false =>
    intro h; exact absurd h Bool.false_ne_true
theorem ok_spec_PeriodOfRun : CallOK Try.prog 45 (c_spec_PeriodOfRun real) := by
  refine callOK_of fun args h ret hc => ?_
  unfold c_spec_PeriodOfRun at hc
  split at hc
  · rename_i x0 x1 x2 x3 x4 x5 x6 x7 x8 x9
    obtain ⟨hok, rfl⟩ := some_ret hc
    exact holds_ev prog_ok (allOK_cons ok_spec_RunSwing (allOK_cons ok_spec_l02Rises (allOK_cons ok_spec_l02Rise (allOK_cons ok_spec_l02Number allOK_nil)))) Try.func45 rfl rfl smL_nil rfl (e_spec_PeriodOfRun real x0 x1 x2 x3 x4 x5 x6 x7 x8 x9 hok)
  · cases hc
def Pure.impl_rises_L0 (F : FOps) (y1 : List (List Int)) : Nat → Int → (List (List Int)) → (Bool × (List (List Int)))
  | 0, _, _ => (false, [])
  | n + 1, y0, y2 => bif (Decidable.decide (y0 < (Int.ofNat (List.length y1)))) then (bif (Decidable.decide (0 ≤ y0)) then (bif (Decidable.decide (y0 < (Int.ofNat (List.length y1)))) then (bif (FOps.cmp F BinOp.geq FloatKind.f32 (List.getD (List.getD y1 (Int.toNat y0) []) 0 0) 0) then (bif (Decidable.decide (0 ≤ (IntKind.wrap IntKind.i64 (y0 - 1)))) then (bif (Decidable.decide ((IntKind.wrap IntKind.i64 (y0 - 1)) < (Int.ofNat (List.length y1)))) then (bif (FOps.cmp F BinOp.lss FloatKind.f32 (List.getD (List.getD y1 (Int.toNat (IntKind.wrap IntKind.i64 (y0 - 1))) []) 0 0) 0) then (bif (Decidable.decide ((Nat.succ (List.length y2)) ≤ 1073741824)) then (Pure.impl_rises_L0 F y1 n (IntKind.wrap IntKind.i64 (y0 + 1)) (y2 ++ [[y0]])) else ((false, []))) else (Pure.impl_rises_L0 F y1 n (IntKind.wrap IntKind.i64 (y0 + 1)) y2)) else ((false, []))) else ((false, []))) else (Pure.impl_rises_L0 F y1 n (IntKind.wrap IntKind.i64 (y0 + 1)) y2)) else ((false, []))) else ((false, []))) else ((true, y2))
def R_impl_rises_L0 (y1 : List (List Int)) (r : (Bool × (List (List Int)))) : Bool × Bool × (Ex × List V × List Ob) × (Ex × List V × List Ob) := ((r).1, false, (Ex.normal, [V.at (A.sl 1)], [⟨false, OC.rows [K.f FloatKind.f32] y1⟩, ⟨true, OC.rows [K.i IntKind.i64] (r).2⟩]), (Ex.normal, [V.at (A.sl 1)], [⟨false, OC.rows [K.f FloatKind.f32] y1⟩, ⟨true, OC.rows [K.i IntKind.i64] (r).2⟩]))
def S_impl_rises_L0 (F : FOps) : Sm := ⟨[0, 3, 4], [63, 113, 3], [3], fun vals hp => match vals, hp with
  | [V.at (A.sl 0), V.at (A.sl 1), V.at (A.int IntKind.i64 y0)], [⟨false, OC.rows [K.f FloatKind.f32] y1⟩, ⟨true, OC.rows [K.i IntKind.i64] y2⟩] => some (R_impl_rises_L0 y1 (Pure.impl_rises_L0 F y1 ((Int.ofNat (List.length y1)) - y0 + 2).toNat y0 y2))
  | _, _ => none⟩
theorem l_impl_rises_L0 (F : FOps) (y1 : List (List Int)) : ∀ (fuel : Nat) (y0 : Int) (y2 : List (List Int)), (Pure.impl_rises_L0 F y1 fuel y0 y2).1 = true → loopOf (cxS F tyl [] [] [] 0) 1 30 0 [0, 3, 4] [63, 113, 3] [3] (loopB 0 (codeOf Try.f91)) fuel [V.at (A.sl 0), V.at (A.sl 1), V.at (A.int IntKind.i64 y0)] [⟨false, OC.rows [K.f FloatKind.f32] y1⟩, ⟨true, OC.rows [K.i IntKind.i64] y2⟩] = resOf (R_impl_rises_L0 y1 (Pure.impl_rises_L0 F y1 fuel y0 y2)) := by
  intro fuel
  induction fuel with
  | zero => intro y0 y2 h; exact absurd h Bool.false_ne_true
  | succ n ih =>
    intro y0 y2
    have h0 : roundOf (cxS F tyl [] [] [] 0) 1 30 0 [0, 3, 4] [63, 113, 3] [3] (loopB 0 (codeOf Try.f91)) [V.at (A.sl 0), V.at (A.sl 1), V.at (A.int IntKind.i64 y0)] [⟨false, OC.rows [K.f FloatKind.f32] y1⟩, ⟨true, OC.rows [K.i IntKind.i64] y2⟩] = (bif Decidable.decide (y0 < (Int.ofNat (List.length y1))) then bif Decidable.decide (0 ≤ y0) then bif Decidable.decide (y0 < (Int.ofNat (List.length y1))) then bif FOps.cmp F BinOp.geq FloatKind.f32 (List.getD (List.getD y1 (Int.toNat y0) []) 0 0) 0 then bif Decidable.decide (0 ≤ (IntKind.wrap IntKind.i64 (y0 - 1))) then bif Decidable.decide ((IntKind.wrap IntKind.i64 (y0 - 1)) < (Int.ofNat (List.length y1))) then bif FOps.cmp F BinOp.lss FloatKind.f32 (List.getD (List.getD y1 (Int.toNat (IntKind.wrap IntKind.i64 (y0 - 1))) []) 0 0) 0 then bif Decidable.decide ((Nat.succ (List.length y2)) ≤ 1073741824) then some (true, (Ex.normal, ([V.at (A.sl 0), V.at (A.sl 1), V.at (A.int IntKind.i64 (IntKind.wrap IntKind.i64 (y0 + 1)))], [⟨false, OC.rows [K.f FloatKind.f32] y1⟩, ⟨true, OC.rows [K.i IntKind.i64] (y2 ++ [[y0]])⟩]))) else none else some (true, (Ex.normal, ([V.at (A.sl 0), V.at (A.sl 1), V.at (A.int IntKind.i64 (IntKind.wrap IntKind.i64 (y0 + 1)))], [⟨false, OC.rows [K.f FloatKind.f32] y1⟩, ⟨true, OC.rows [K.i IntKind.i64] y2⟩]))) else none else none else some (true, (Ex.normal, ([V.at (A.sl 0), V.at (A.sl 1), V.at (A.int IntKind.i64 (IntKind.wrap IntKind.i64 (y0 + 1)))], [⟨false, OC.rows [K.f FloatKind.f32] y1⟩, ⟨true, OC.rows [K.i IntKind.i64] y2⟩]))) else none else none else some (false, (Ex.normal, ([V.at (A.sl 1)], [⟨false, OC.rows [K.f FloatKind.f32] y1⟩, ⟨true, OC.rows [K.i IntKind.i64] y2⟩])))) := by kernel_rfl
    unfold loopOf
    rw [h0]
    unfold Pure.impl_rises_L0
    cases (Decidable.decide (y0 < (Int.ofNat (List.length y1)))) with
    | true =>
      cases (Decidable.decide (0 ≤ y0)) with
      | true =>
        cases (FOps.cmp F BinOp.geq FloatKind.f32 (List.getD (List.getD y1 (Int.toNat y0) []) 0 0) 0) with
        | true =>
          cases (Decidable.decide (0 ≤ (IntKind.wrap IntKind.i64 (y0 - 1)))) with
          | true =>
            cases (Decidable.decide ((IntKind.wrap IntKind.i64 (y0 - 1)) < (Int.ofNat (List.length y1)))) with
            | true =>
              cases (FOps.cmp F BinOp.lss FloatKind.f32 (List.getD (List.getD y1 (Int.toNat (IntKind.wrap IntKind.i64 (y0 - 1))) []) 0 0) 0) with
              | true =>
                cases (Decidable.decide ((Nat.succ (List.length y2)) ≤ 1073741824)) with
                | true =>
                  exact ih _ _
                | false =>
                  intro h; exact absurd h Bool.false_ne_true
              | false =>
                exact ih _ _
            | false =>
              intro h; exact absurd h Bool.false_ne_true
          | false =>
            intro h; exact absurd h Bool.false_ne_true
        | false =>
          exact ih _ _
      | false =>
        intro h; exact absurd h Bool.false_ne_true
    | false =>
      intro _; rfl
theorem t_impl_rises_L0 : SmTo Try.prog 1 30 (S_impl_rises_L0 real) 0 (.loop (loopB 0 (codeOf Try.f91))) := by
  refine smTo_ev (cl := []) (ef := []) (sm := []) (un := 0) prog_ok allOK_nil smL_nil ?_
  intro vals hp q r h hq
  unfold S_impl_rises_L0 at h
  dsimp only at h
  split at h
  · rename_i y0 y1 y2
    obtain rfl := Option.some.inj h
    have h1 := hq
    unfold resOf at h1
    rw [chk_some] at h1
    exact ⟨_, (l_impl_rises_L0 real y1 _ y0 y2 h1.1).trans hq⟩
  · cases h
def Pure.impl_rises (F : FOps) (x0 : List (List Int)) : List (List Int) := Prod.snd (Pure.impl_rises_L0 F x0 (Int.toNat (((Int.ofNat (List.length x0)) - 1) + 2)) 1 [])
def Pure.impl_rises_ok (F : FOps) (x0 : List (List Int)) : Bool := Prod.fst (Pure.impl_rises_L0 F x0 (Int.toNat (((Int.ofNat (List.length x0)) - 1) + 2)) 1 [])
def c_impl_rises (F : FOps) : Con
  | [V.at (A.sl 0)], [⟨false, OC.rows [K.f FloatKind.f32] x0⟩] => some (Pure.impl_rises_ok F x0, ⟨V.at (A.sl 1), none, [⟨true, OC.rows [K.i IntKind.i64] (Pure.impl_rises F x0)⟩]⟩)
  | _, _ => none
theorem e_impl_rises (F : FOps) (x0 : List (List Int)) : Pure.impl_rises_ok F x0 = true → evFn (cxS F tyl [] [] [(0, S_impl_rises_L0 F)] 0) Try.f91 false [V.at (A.sl 0)] [⟨false, OC.rows [K.f FloatKind.f32] x0⟩] = some ⟨V.at (A.sl 1), none, [⟨true, OC.rows [K.i IntKind.i64] (Pure.impl_rises F x0)⟩]⟩ := by
  have h0 : evFn (cxS F tyl [] [] [(0, S_impl_rises_L0 F)] 0) Try.f91 false [V.at (A.sl 0)] [⟨false, OC.rows [K.f FloatKind.f32] x0⟩] = bif Prod.fst (Pure.impl_rises_L0 F x0 (Int.toNat (((Int.ofNat (List.length x0)) - 1) + 2)) 1 []) then some ⟨V.at (A.sl 1), none, [⟨true, OC.rows [K.i IntKind.i64] (Prod.snd (Pure.impl_rises_L0 F x0 (Int.toNat (((Int.ofNat (List.length x0)) - 1) + 2)) 1 []))⟩]⟩ else none := by kernel_rfl
  rw [h0]
  unfold Pure.impl_rises Pure.impl_rises_ok
  cases (Prod.fst (Pure.impl_rises_L0 F x0 (Int.toNat (((Int.ofNat (List.length x0)) - 1) + 2)) 1 [])) with
  | true =>
    intro _; rfl
  | false =>
    intro h; exact absurd h Bool.false_ne_true
theorem ok_impl_rises : CallOK Try.prog 91 (c_impl_rises real) := by
  refine callOK_of fun args h ret hc => ?_
  unfold c_impl_rises at hc
  split at hc
  · rename_i x0
    obtain ⟨hok, rfl⟩ := some_ret hc
    exact holds_ev prog_ok allOK_nil Try.func91 rfl rfl (smL_cons (body := .loop (loopB 0 (codeOf Try.f91))) (by kernel_rfl) t_impl_rises_L0 smL_nil) rfl (e_impl_rises real x0 hok)
  · cases hc
def Pure.impl_PeriodOfRun (F : FOps) (x0 : Int) (x1 : Int) (x2 : Int) (x3 : Int) (x4 : Int) (x5 : Int) (x6 : Int) (x7 : Int) (x8 : Int) (x9 : Int) : Int := bif Pure.impl_RunSwing_3 F x0 x1 x2 x3 x4 x5 x6 x7 x8 x9 then bif Decidable.decide ((Int.ofNat (List.length (Pure.impl_rises F (Pure.impl_RunSwing_4 F x0 x1 x2 x3 x4 x5 x6 x7 x8 x9)))) < 2) then 0 else Pure.impl_toldNumber F (FOps.bin F BinOp.sub FloatKind.f32 (Pure.impl_PeriodOfRun_c1 F (List.getD (List.getD (Pure.impl_rises F (Pure.impl_RunSwing_4 F x0 x1 x2 x3 x4 x5 x6 x7 x8 x9)) 1 []) 0 0) (Pure.impl_RunSwing_4 F x0 x1 x2 x3 x4 x5 x6 x7 x8 x9) x8) (Pure.impl_PeriodOfRun_c1 F (List.getD (List.getD (Pure.impl_rises F (Pure.impl_RunSwing_4 F x0 x1 x2 x3 x4 x5 x6 x7 x8 x9)) 0 []) 0 0) (Pure.impl_RunSwing_4 F x0 x1 x2 x3 x4 x5 x6 x7 x8 x9) x8)) else 0
def Pure.impl_PeriodOfRun_1 (F : FOps) (x0 : Int) (x1 : Int) (x2 : Int) (x3 : Int) (x4 : Int) (x5 : Int) (x6 : Int) (x7 : Int) (x8 : Int) (x9 : Int) : Bool := bif Pure.impl_RunSwing_3 F x0 x1 x2 x3 x4 x5 x6 x7 x8 x9 then bif Decidable.decide ((Int.ofNat (List.length (Pure.impl_rises F (Pure.impl_RunSwing_4 F x0 x1 x2 x3 x4 x5 x6 x7 x8 x9)))) < 2) then false else Pure.impl_IsFinite F (FOps.bin F BinOp.sub FloatKind.f32 (Pure.impl_PeriodOfRun_c1 F (List.getD (List.getD (Pure.impl_rises F (Pure.impl_RunSwing_4 F x0 x1 x2 x3 x4 x5 x6 x7 x8 x9)) 1 []) 0 0) (Pure.impl_RunSwing_4 F x0 x1 x2 x3 x4 x5 x6 x7 x8 x9) x8) (Pure.impl_PeriodOfRun_c1 F (List.getD (List.getD (Pure.impl_rises F (Pure.impl_RunSwing_4 F x0 x1 x2 x3 x4 x5 x6 x7 x8 x9)) 0 []) 0 0) (Pure.impl_RunSwing_4 F x0 x1 x2 x3 x4 x5 x6 x7 x8 x9) x8)) else false
def Pure.impl_PeriodOfRun_ok (F : FOps) (x0 : Int) (x1 : Int) (x2 : Int) (x3 : Int) (x4 : Int) (x5 : Int) (x6 : Int) (x7 : Int) (x8 : Int) (x9 : Int) : Bool := bif Pure.impl_RunSwing_ok F x0 x1 x2 x3 x4 x5 x6 x7 x8 x9 then bif Pure.impl_rises_ok F (Pure.impl_RunSwing_4 F x0 x1 x2 x3 x4 x5 x6 x7 x8 x9) then bif Pure.impl_RunSwing_3 F x0 x1 x2 x3 x4 x5 x6 x7 x8 x9 then bif Decidable.decide ((Int.ofNat (List.length (Pure.impl_rises F (Pure.impl_RunSwing_4 F x0 x1 x2 x3 x4 x5 x6 x7 x8 x9)))) < 2) then true else bif Decidable.decide (1 < (Int.ofNat (List.length (Pure.impl_rises F (Pure.impl_RunSwing_4 F x0 x1 x2 x3 x4 x5 x6 x7 x8 x9))))) then bif Pure.impl_PeriodOfRun_c1_ok F (List.getD (List.getD (Pure.impl_rises F (Pure.impl_RunSwing_4 F x0 x1 x2 x3 x4 x5 x6 x7 x8 x9)) 1 []) 0 0) (Pure.impl_RunSwing_4 F x0 x1 x2 x3 x4 x5 x6 x7 x8 x9) x8 then bif Decidable.decide (0 < (Int.ofNat (List.length (Pure.impl_rises F (Pure.impl_RunSwing_4 F x0 x1 x2 x3 x4 x5 x6 x7 x8 x9))))) then Pure.impl_PeriodOfRun_c1_ok F (List.getD (List.getD (Pure.impl_rises F (Pure.impl_RunSwing_4 F x0 x1 x2 x3 x4 x5 x6 x7 x8 x9)) 0 []) 0 0) (Pure.impl_RunSwing_4 F x0 x1 x2 x3 x4 x5 x6 x7 x8 x9) x8 else false else false else false else true else false else false
def c_impl_PeriodOfRun (F : FOps) : Con
  | [V.agg [A.fl FloatKind.f32 x0, A.fl FloatKind.f32 x1, A.fl FloatKind.f32 x2, A.fl FloatKind.f32 x3, A.fl FloatKind.f32 x4], V.agg [A.fl FloatKind.f32 x5, A.fl FloatKind.f32 x6, A.fl FloatKind.f32 x7], V.at (A.fl FloatKind.f32 x8), V.at (A.int IntKind.i64 x9)], [] => some (Pure.impl_PeriodOfRun_ok F x0 x1 x2 x3 x4 x5 x6 x7 x8 x9, ⟨V.tup [(false, [A.fl FloatKind.f32 (Pure.impl_PeriodOfRun F x0 x1 x2 x3 x4 x5 x6 x7 x8 x9)]), (false, [A.bool (Pure.impl_PeriodOfRun_1 F x0 x1 x2 x3 x4 x5 x6 x7 x8 x9)])], none, []⟩)
  | _, _ => none
theorem e_impl_PeriodOfRun (F : FOps) (x0 : Int) (x1 : Int) (x2 : Int) (x3 : Int) (x4 : Int) (x5 : Int) (x6 : Int) (x7 : Int) (x8 : Int) (x9 : Int) : Pure.impl_PeriodOfRun_ok F x0 x1 x2 x3 x4 x5 x6 x7 x8 x9 = true → evFn (cxS F tyl [(39, c_impl_RunSwing F), (91, c_impl_rises F), (92, c_impl_PeriodOfRun_c1 F), (63, c_impl_toldNumber F)] [] [] 0) Try.f46 false [V.agg [A.fl FloatKind.f32 x0, A.fl FloatKind.f32 x1, A.fl FloatKind.f32 x2, A.fl FloatKind.f32 x3, A.fl FloatKind.f32 x4], V.agg [A.fl FloatKind.f32 x5, A.fl FloatKind.f32 x6, A.fl FloatKind.f32 x7], V.at (A.fl FloatKind.f32 x8), V.at (A.int IntKind.i64 x9)] [] = some ⟨V.tup [(false, [A.fl FloatKind.f32 (Pure.impl_PeriodOfRun F x0 x1 x2 x3 x4 x5 x6 x7 x8 x9)]), (false, [A.bool (Pure.impl_PeriodOfRun_1 F x0 x1 x2 x3 x4 x5 x6 x7 x8 x9)])], none, []⟩ := by
  have h0 : evFn (cxS F tyl [(39, c_impl_RunSwing F), (91, c_impl_rises F), (92, c_impl_PeriodOfRun_c1 F), (63, c_impl_toldNumber F)] [] [] 0) Try.f46 false [V.agg [A.fl FloatKind.f32 x0, A.fl FloatKind.f32 x1, A.fl FloatKind.f32 x2, A.fl FloatKind.f32 x3, A.fl FloatKind.f32 x4], V.agg [A.fl FloatKind.f32 x5, A.fl FloatKind.f32 x6, A.fl FloatKind.f32 x7], V.at (A.fl FloatKind.f32 x8), V.at (A.int IntKind.i64 x9)] [] = bif Pure.impl_RunSwing_ok F x0 x1 x2 x3 x4 x5 x6 x7 x8 x9 then bif Pure.impl_rises_ok F (Pure.impl_RunSwing_4 F x0 x1 x2 x3 x4 x5 x6 x7 x8 x9) then bif Bool.not (Pure.impl_RunSwing_3 F x0 x1 x2 x3 x4 x5 x6 x7 x8 x9) then some ⟨V.tup [(false, [A.fl FloatKind.f32 0]), (false, [A.bool false])], none, []⟩ else bif Decidable.decide ((Int.ofNat (List.length (Pure.impl_rises F (Pure.impl_RunSwing_4 F x0 x1 x2 x3 x4 x5 x6 x7 x8 x9)))) < 2) then some ⟨V.tup [(false, [A.fl FloatKind.f32 0]), (false, [A.bool false])], none, []⟩ else bif Decidable.decide (1 < (Int.ofNat (List.length (Pure.impl_rises F (Pure.impl_RunSwing_4 F x0 x1 x2 x3 x4 x5 x6 x7 x8 x9))))) then bif Pure.impl_PeriodOfRun_c1_ok F (List.getD (List.getD (Pure.impl_rises F (Pure.impl_RunSwing_4 F x0 x1 x2 x3 x4 x5 x6 x7 x8 x9)) 1 []) 0 0) (Pure.impl_RunSwing_4 F x0 x1 x2 x3 x4 x5 x6 x7 x8 x9) x8 then bif Decidable.decide (0 < (Int.ofNat (List.length (Pure.impl_rises F (Pure.impl_RunSwing_4 F x0 x1 x2 x3 x4 x5 x6 x7 x8 x9))))) then bif Pure.impl_PeriodOfRun_c1_ok F (List.getD (List.getD (Pure.impl_rises F (Pure.impl_RunSwing_4 F x0 x1 x2 x3 x4 x5 x6 x7 x8 x9)) 0 []) 0 0) (Pure.impl_RunSwing_4 F x0 x1 x2 x3 x4 x5 x6 x7 x8 x9) x8 then some ⟨V.tup [(false, [A.fl FloatKind.f32 (Pure.impl_toldNumber F (FOps.bin F BinOp.sub FloatKind.f32 (Pure.impl_PeriodOfRun_c1 F (List.getD (List.getD (Pure.impl_rises F (Pure.impl_RunSwing_4 F x0 x1 x2 x3 x4 x5 x6 x7 x8 x9)) 1 []) 0 0) (Pure.impl_RunSwing_4 F x0 x1 x2 x3 x4 x5 x6 x7 x8 x9) x8) (Pure.impl_PeriodOfRun_c1 F (List.getD (List.getD (Pure.impl_rises F (Pure.impl_RunSwing_4 F x0 x1 x2 x3 x4 x5 x6 x7 x8 x9)) 0 []) 0 0) (Pure.impl_RunSwing_4 F x0 x1 x2 x3 x4 x5 x6 x7 x8 x9) x8)))]), (false, [A.bool (Pure.impl_IsFinite F (FOps.bin F BinOp.sub FloatKind.f32 (Pure.impl_PeriodOfRun_c1 F (List.getD (List.getD (Pure.impl_rises F (Pure.impl_RunSwing_4 F x0 x1 x2 x3 x4 x5 x6 x7 x8 x9)) 1 []) 0 0) (Pure.impl_RunSwing_4 F x0 x1 x2 x3 x4 x5 x6 x7 x8 x9) x8) (Pure.impl_PeriodOfRun_c1 F (List.getD (List.getD (Pure.impl_rises F (Pure.impl_RunSwing_4 F x0 x1 x2 x3 x4 x5 x6 x7 x8 x9)) 0 []) 0 0) (Pure.impl_RunSwing_4 F x0 x1 x2 x3 x4 x5 x6 x7 x8 x9) x8)))])], none, []⟩ else none else none else none else none else none else none := by kernel_rfl
  rw [h0]
  unfold Pure.impl_PeriodOfRun Pure.impl_PeriodOfRun_1 Pure.impl_PeriodOfRun_ok
  cases (Pure.impl_RunSwing_ok F x0 x1 x2 x3 x4 x5 x6 x7 x8 x9) with
  | true =>
    cases (Pure.impl_rises_ok F (Pure.impl_RunSwing_4 F x0 x1 x2 x3 x4 x5 x6 x7 x8 x9)) with
    | true =>
      cases (Pure.impl_RunSwing_3 F x0 x1 x2 x3 x4 x5 x6 x7 x8 x9) with
      | true =>
        cases (Decidable.decide ((Int.ofNat (List.length (Pure.impl_rises F (Pure.impl_RunSwing_4 F x0 x1 x2 x3 x4 x5 x6 x7 x8 x9)))) < 2)) with
        | true =>
          intro _; rfl
        | false =>
          cases (Decidable.decide (1 < (Int.ofNat (List.length (Pure.impl_rises F (Pure.impl_RunSwing_4 F x0 x1 x2 x3 x4 x5 x6 x7 x8 x9)))))) with
          | true =>
            cases (Pure.impl_PeriodOfRun_c1_ok F (List.getD (List.getD (Pure.impl_rises F (Pure.impl_RunSwing_4 F x0 x1 x2 x3 x4 x5 x6 x7 x8 x9)) 1 []) 0 0) (Pure.impl_RunSwing_4 F x0 x1 x2 x3 x4 x5 x6 x7 x8 x9) x8) with
            | true =>
              cases (Decidable.decide (0 < (Int.ofNat (List.length (Pure.impl_rises F (Pure.impl_RunSwing_4 F x0 x1 x2 x3 x4 x5 x6 x7 x8 x9)))))) with
              | true =>
                cases (Pure.impl_PeriodOfRun_c1_ok F (List.getD (List.getD (Pure.impl_rises F (Pure.impl_RunSwing_4 F x0 x1 x2 x3 x4 x5 x6 x7 x8 x9)) 0 []) 0 0) (Pure.impl_RunSwing_4 F x0 x1 x2 x3 x4 x5 x6 x7 x8 x9) x8) with
                | true =>
                  intro _; rfl
                | false =>
                  intro h; exact absurd h Bool.false_ne_true
              | false =>
                intro h; exact absurd h Bool.false_ne_true
            | false =>
              intro h; exact absurd h Bool.false_ne_true
          | false =>
            intro h; exact absurd h Bool.false_ne_true
      | false =>
        intro _; rfl
    | false =>
      intro h; exact absurd h Bool.false_ne_true
  | false =>
    intro h; exact absurd h Bool.false_ne_true
theorem ok_impl_PeriodOfRun : CallOK Try.prog 46 (c_impl_PeriodOfRun real) := by
  refine callOK_of fun args h ret hc => ?_
  unfold c_impl_PeriodOfRun at hc
  split at hc
  · rename_i x0 x1 x2 x3 x4 x5 x6 x7 x8 x9
    obtain ⟨hok, rfl⟩ := some_ret hc
    exact holds_ev prog_ok (allOK_cons ok_impl_RunSwing (allOK_cons ok_impl_rises (allOK_cons ok_impl_PeriodOfRun_c1 (allOK_cons ok_impl_toldNumber allOK_nil)))) Try.func46 rfl rfl smL_nil rfl (e_impl_PeriodOfRun real x0 x1 x2 x3 x4 x5 x6 x7 x8 x9 hok)
  · cases hc
def Pure.laws_FnExactPeriodOfRun (F : FOps) (x0 : Int) (x1 : Int) (x2 : Int) (x3 : Int) (x4 : Int) (x5 : Int) (x6 : Int) (x7 : Int) (x8 : Int) (x9 : Int) : Bool := bif Pure.laws_sameFloat F (FOps.conv F FloatKind.f32 FloatKind.f64 (Pure.impl_PeriodOfRun F x0 x1 x2 x3 x4 x5 x6 x7 x8 x9)) (FOps.conv F FloatKind.f32 FloatKind.f64 (Pure.spec_PeriodOfRun F x0 x1 x2 x3 x4 x5 x6 x7 x8 x9)) then (Pure.impl_PeriodOfRun_1 F x0 x1 x2 x3 x4 x5 x6 x7 x8 x9) == (Pure.spec_PeriodOfRun_1 F x0 x1 x2 x3 x4 x5 x6 x7 x8 x9) else false
def Pure.laws_FnExactPeriodOfRun_ok (F : FOps) (x0 : Int) (x1 : Int) (x2 : Int) (x3 : Int) (x4 : Int) (x5 : Int) (x6 : Int) (x7 : Int) (x8 : Int) (x9 : Int) : Bool := bif Pure.spec_PeriodOfRun_ok F x0 x1 x2 x3 x4 x5 x6 x7 x8 x9 then bif Pure.impl_PeriodOfRun_ok F x0 x1 x2 x3 x4 x5 x6 x7 x8 x9 then bif FOps.convOk F FloatKind.f32 FloatKind.f64 (Pure.impl_PeriodOfRun F x0 x1 x2 x3 x4 x5 x6 x7 x8 x9) then FOps.convOk F FloatKind.f32 FloatKind.f64 (Pure.spec_PeriodOfRun F x0 x1 x2 x3 x4 x5 x6 x7 x8 x9) else false else false else false
def c_laws_FnExactPeriodOfRun (F : FOps) : Con
  | [V.agg [A.fl FloatKind.f32 x0, A.fl FloatKind.f32 x1, A.fl FloatKind.f32 x2, A.fl FloatKind.f32 x3, A.fl FloatKind.f32 x4], V.agg [A.fl FloatKind.f32 x5, A.fl FloatKind.f32 x6, A.fl FloatKind.f32 x7], V.at (A.fl FloatKind.f32 x8), V.at (A.int IntKind.i64 x9)], [] => some (Pure.laws_FnExactPeriodOfRun_ok F x0 x1 x2 x3 x4 x5 x6 x7 x8 x9, ⟨V.at (A.bool (Pure.laws_FnExactPeriodOfRun F x0 x1 x2 x3 x4 x5 x6 x7 x8 x9)), none, []⟩)
  | _, _ => none
theorem e_laws_FnExactPeriodOfRun (F : FOps) (x0 : Int) (x1 : Int) (x2 : Int) (x3 : Int) (x4 : Int) (x5 : Int) (x6 : Int) (x7 : Int) (x8 : Int) (x9 : Int) : Pure.laws_FnExactPeriodOfRun_ok F x0 x1 x2 x3 x4 x5 x6 x7 x8 x9 = true → evFn (cxS F tyl [(33, c_laws_toPendulum F), (34, c_laws_toSwing F), (45, c_spec_PeriodOfRun F), (46, c_impl_PeriodOfRun F), (18, c_laws_sameFloat F)] [] [] 0) Try.f11 false [V.agg [A.fl FloatKind.f32 x0, A.fl FloatKind.f32 x1, A.fl FloatKind.f32 x2, A.fl FloatKind.f32 x3, A.fl FloatKind.f32 x4], V.agg [A.fl FloatKind.f32 x5, A.fl FloatKind.f32 x6, A.fl FloatKind.f32 x7], V.at (A.fl FloatKind.f32 x8), V.at (A.int IntKind.i64 x9)] [] = some ⟨V.at (A.bool (Pure.laws_FnExactPeriodOfRun F x0 x1 x2 x3 x4 x5 x6 x7 x8 x9)), none, []⟩ := by
  have h0 : evFn (cxS F tyl [(33, c_laws_toPendulum F), (34, c_laws_toSwing F), (45, c_spec_PeriodOfRun F), (46, c_impl_PeriodOfRun F), (18, c_laws_sameFloat F)] [] [] 0) Try.f11 false [V.agg [A.fl FloatKind.f32 x0, A.fl FloatKind.f32 x1, A.fl FloatKind.f32 x2, A.fl FloatKind.f32 x3, A.fl FloatKind.f32 x4], V.agg [A.fl FloatKind.f32 x5, A.fl FloatKind.f32 x6, A.fl FloatKind.f32 x7], V.at (A.fl FloatKind.f32 x8), V.at (A.int IntKind.i64 x9)] [] = bif Pure.spec_PeriodOfRun_ok F x0 x1 x2 x3 x4 x5 x6 x7 x8 x9 then bif Pure.impl_PeriodOfRun_ok F x0 x1 x2 x3 x4 x5 x6 x7 x8 x9 then bif FOps.convOk F FloatKind.f32 FloatKind.f64 (Pure.impl_PeriodOfRun F x0 x1 x2 x3 x4 x5 x6 x7 x8 x9) then bif FOps.convOk F FloatKind.f32 FloatKind.f64 (Pure.spec_PeriodOfRun F x0 x1 x2 x3 x4 x5 x6 x7 x8 x9) then bif Bool.not (Pure.laws_sameFloat F (FOps.conv F FloatKind.f32 FloatKind.f64 (Pure.impl_PeriodOfRun F x0 x1 x2 x3 x4 x5 x6 x7 x8 x9)) (FOps.conv F FloatKind.f32 FloatKind.f64 (Pure.spec_PeriodOfRun F x0 x1 x2 x3 x4 x5 x6 x7 x8 x9))) then some ⟨V.at (A.bool false), none, []⟩ else bif Bool.not ((Pure.impl_PeriodOfRun_1 F x0 x1 x2 x3 x4 x5 x6 x7 x8 x9) == (Pure.spec_PeriodOfRun_1 F x0 x1 x2 x3 x4 x5 x6 x7 x8 x9)) then some ⟨V.at (A.bool false), none, []⟩ else some ⟨V.at (A.bool true), none, []⟩ else none else none else none else none := by kernel_rfl
  rw [h0]
  unfold Pure.laws_FnExactPeriodOfRun Pure.laws_FnExactPeriodOfRun_ok
  cases (Pure.spec_PeriodOfRun_ok F x0 x1 x2 x3 x4 x5 x6 x7 x8 x9) with
  | true =>
    cases (Pure.impl_PeriodOfRun_ok F x0 x1 x2 x3 x4 x5 x6 x7 x8 x9) with
    | true =>
      cases (FOps.convOk F FloatKind.f32 FloatKind.f64 (Pure.impl_PeriodOfRun F x0 x1 x2 x3 x4 x5 x6 x7 x8 x9)) with
      | true =>
        cases (FOps.convOk F FloatKind.f32 FloatKind.f64 (Pure.spec_PeriodOfRun F x0 x1 x2 x3 x4 x5 x6 x7 x8 x9)) with
        | true =>
          cases (Pure.laws_sameFloat F (FOps.conv F FloatKind.f32 FloatKind.f64 (Pure.impl_PeriodOfRun F x0 x1 x2 x3 x4 x5 x6 x7 x8 x9)) (FOps.conv F FloatKind.f32 FloatKind.f64 (Pure.spec_PeriodOfRun F x0 x1 x2 x3 x4 x5 x6 x7 x8 x9))) with
          | true =>
            cases ((Pure.impl_PeriodOfRun_1 F x0 x1 x2 x3 x4 x5 x6 x7 x8 x9) == (Pure.spec_PeriodOfRun_1 F x0 x1 x2 x3 x4 x5 x6 x7 x8 x9)) with
            | true =>
              intro _; rfl
            | false =>
              intro _; rfl
          | false =>
            intro _; rfl
        | false =>
          intro h; exact absurd h Bool.false_ne_true
      | false =>
        intro h; exact absurd h Bool.false_ne_true
    | false =>
      intro h; exact absurd h Bool.false_ne_true
  | false =>
    intro h; exact absurd h Bool.false_ne_true
theorem ok_laws_FnExactPeriodOfRun : CallOK Try.prog 11 (c_laws_FnExactPeriodOfRun real) := by
  refine callOK_of fun args h ret hc => ?_
  unfold c_laws_FnExactPeriodOfRun at hc
  split at hc
  · rename_i x0 x1 x2 x3 x4 x5 x6 x7 x8 x9
    obtain ⟨hok, rfl⟩ := some_ret hc
    exact holds_ev prog_ok (allOK_cons ok_laws_toPendulum (allOK_cons ok_laws_toSwing (allOK_cons ok_spec_PeriodOfRun (allOK_cons ok_impl_PeriodOfRun (allOK_cons ok_laws_sameFloat allOK_nil))))) Try.func11 rfl rfl smL_nil rfl (e_laws_FnExactPeriodOfRun real x0 x1 x2 x3 x4 x5 x6 x7 x8 x9 hok)
  · cases hc
end Go.Fx
