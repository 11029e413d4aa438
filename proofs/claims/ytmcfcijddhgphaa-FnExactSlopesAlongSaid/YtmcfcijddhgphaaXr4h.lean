import Derived.Test.YtmcfcijddhgphaaXr4c
import Derived.KernelRfl
namespace Go.Fx
open Go.Proofs
set_option maxRecDepth 100000
def Pure.impl_slopes_times_c1 (F : FOps) (x0 : Int) (x1 : Int) (x2 : Int) (x3 : Int) (x4 : Int) (x5 : Int) (x6 : Int) (x7 : Int) (x8 : Int) (x9 : Int) : Int := FOps.bin F BinOp.add FloatKind.f32 (FOps.bin F BinOp.mul FloatKind.f32 (List.getD (List.getD [[x2], [x3], [x4], [x5]] (Int.toNat x0) []) 0 0) (List.getD (List.getD [[x6], [x7], [x8], [x9]] (Int.toNat x1) []) 0 0)) (FOps.bin F BinOp.mul FloatKind.f32 (List.getD (List.getD [[x2], [x3], [x4], [x5]] (Int.toNat (IntKind.wrap IntKind.i64 (x0 + 1))) []) 0 0) (List.getD (List.getD [[x6], [x7], [x8], [x9]] (Int.toNat (IntKind.wrap IntKind.i64 (x1 + 2))) []) 0 0))
def Pure.impl_slopes_times_c1_ok (F : FOps) (x0 : Int) (x1 : Int) (x2 : Int) (x3 : Int) (x4 : Int) (x5 : Int) (x6 : Int) (x7 : Int) (x8 : Int) (x9 : Int) : Bool := bif Decidable.decide (0 ≤ x0) then bif Decidable.decide (x0 < 4) then bif Decidable.decide (0 ≤ x1) then bif Decidable.decide (x1 < 4) then bif Decidable.decide (0 ≤ (IntKind.wrap IntKind.i64 (x0 + 1))) then bif Decidable.decide ((IntKind.wrap IntKind.i64 (x0 + 1)) < 4) then bif Decidable.decide (0 ≤ (IntKind.wrap IntKind.i64 (x1 + 2))) then Decidable.decide ((IntKind.wrap IntKind.i64 (x1 + 2)) < 4) else false else false else false else false else false else false else false
def c_impl_slopes_times_c1 (F : FOps) : Con
  | [V.at (A.int IntKind.i64 x0), V.at (A.int IntKind.i64 x1), V.at (A.ptr 0 0 0), V.at (A.ptr 1 0 0)], [⟨false, OC.rows [K.f FloatKind.f32] [[x2], [x3], [x4], [x5]]⟩, ⟨false, OC.rows [K.f FloatKind.f32] [[x6], [x7], [x8], [x9]]⟩] => some (Pure.impl_slopes_times_c1_ok F x0 x1 x2 x3 x4 x5 x6 x7 x8 x9, ⟨V.at (A.fl FloatKind.f32 (Pure.impl_slopes_times_c1 F x0 x1 x2 x3 x4 x5 x6 x7 x8 x9)), none, []⟩)
  | _, _ => none
theorem e_impl_slopes_times_c1 (F : FOps) (x0 : Int) (x1 : Int) (x2 : Int) (x3 : Int) (x4 : Int) (x5 : Int) (x6 : Int) (x7 : Int) (x8 : Int) (x9 : Int) : Pure.impl_slopes_times_c1_ok F x0 x1 x2 x3 x4 x5 x6 x7 x8 x9 = true → evFn (cxS F tyl [] [] [] 0) Try.f122 false [V.at (A.int IntKind.i64 x0), V.at (A.int IntKind.i64 x1), V.at (A.ptr 0 0 0), V.at (A.ptr 1 0 0)] [⟨false, OC.rows [K.f FloatKind.f32] [[x2], [x3], [x4], [x5]]⟩, ⟨false, OC.rows [K.f FloatKind.f32] [[x6], [x7], [x8], [x9]]⟩] = some ⟨V.at (A.fl FloatKind.f32 (Pure.impl_slopes_times_c1 F x0 x1 x2 x3 x4 x5 x6 x7 x8 x9)), none, []⟩ := by
  have h0 : evFn (cxS F tyl [] [] [] 0) Try.f122 false [V.at (A.int IntKind.i64 x0), V.at (A.int IntKind.i64 x1), V.at (A.ptr 0 0 0), V.at (A.ptr 1 0 0)] [⟨false, OC.rows [K.f FloatKind.f32] [[x2], [x3], [x4], [x5]]⟩, ⟨false, OC.rows [K.f FloatKind.f32] [[x6], [x7], [x8], [x9]]⟩] = bif Decidable.decide (0 ≤ x0) then bif Decidable.decide (x0 < 4) then bif Decidable.decide (0 ≤ x1) then bif Decidable.decide (x1 < 4) then bif Decidable.decide (0 ≤ (IntKind.wrap IntKind.i64 (x0 + 1))) then bif Decidable.decide ((IntKind.wrap IntKind.i64 (x0 + 1)) < 4) then bif Decidable.decide (0 ≤ (IntKind.wrap IntKind.i64 (x1 + 2))) then bif Decidable.decide ((IntKind.wrap IntKind.i64 (x1 + 2)) < 4) then some ⟨V.at (A.fl FloatKind.f32 (FOps.bin F BinOp.add FloatKind.f32 (FOps.bin F BinOp.mul FloatKind.f32 (List.getD (List.getD [[x2], [x3], [x4], [x5]] (Int.toNat x0) []) 0 0) (List.getD (List.getD [[x6], [x7], [x8], [x9]] (Int.toNat x1) []) 0 0)) (FOps.bin F BinOp.mul FloatKind.f32 (List.getD (List.getD [[x2], [x3], [x4], [x5]] (Int.toNat (IntKind.wrap IntKind.i64 (x0 + 1))) []) 0 0) (List.getD (List.getD [[x6], [x7], [x8], [x9]] (Int.toNat (IntKind.wrap IntKind.i64 (x1 + 2))) []) 0 0)))), none, []⟩ else none else none else none else none else none else none else none else none := by kernel_rfl
  rw [h0]
  unfold Pure.impl_slopes_times_c1 Pure.impl_slopes_times_c1_ok
  cases (Decidable.decide (0 ≤ x0)) with
  | true =>
    cases (Decidable.decide (x0 < 4)) with
    | true =>
      cases (Decidable.decide (0 ≤ x1)) with
      | true =>
        cases (Decidable.decide (x1 < 4)) with
        | true =>
          cases (Decidable.decide (0 ≤ (IntKind.wrap IntKind.i64 (x0 + 1)))) with
          | true =>
            cases (Decidable.decide ((IntKind.wrap IntKind.i64 (x0 + 1)) < 4)) with
            | true =>
              cases (Decidable.decide (0 ≤ (IntKind.wrap IntKind.i64 (x1 + 2)))) with
              | true =>
                cases (Decidable.decide ((IntKind.wrap IntKind.i64 (x1 + 2)) < 4)) with
                | true =>
                  intro _; rfl
                | false =>
                  intro h; exact absurd h Bool.false_ne_true
              | false =>
                intro h; exact absurd h Bool.false_ne_true
            | false =>
              intro h; exact absurd h Bool.false_ne_true
          | false =>
            intro h; exact absurd h Bool.false_ne_true
        | false =>
          intro h; exact absurd h Bool.false_ne_true
      | false =>
        intro h; exact absurd h Bool.false_ne_true
    | false =>
      intro h; exact absurd h Bool.false_ne_true
  | false =>
    intro h; exact absurd h Bool.false_ne_true
theorem ok_impl_slopes_times_c1 : CallOK Try.prog 122 (c_impl_slopes_times_c1 real) := by
  refine callOK_of fun args h ret hc => ?_
  unfold c_impl_slopes_times_c1 at hc
  split at hc
  · rename_i x0 x1 x2 x3 x4 x5 x6 x7 x8 x9
    obtain ⟨hok, rfl⟩ := some_ret hc
    exact holds_ev prog_ok allOK_nil Try.func122 rfl rfl smL_nil rfl (e_impl_slopes_times_c1 real x0 x1 x2 x3 x4 x5 x6 x7 x8 x9 hok)
  · cases hc
def c_laws_toState (_ : FOps) : Con
  | [V.agg [A.fl FloatKind.f32 x0, A.fl FloatKind.f32 x1]], [] => some (true, ⟨V.agg [A.fl FloatKind.f32 x0, A.fl FloatKind.f32 x1], none, []⟩)
  | _, _ => none
theorem e_laws_toState (F : FOps) (x0 : Int) (x1 : Int) : evFn (cxS F tyl [] [] [] 0) Try.f31 false [V.agg [A.fl FloatKind.f32 x0, A.fl FloatKind.f32 x1]] [] = some ⟨V.agg [A.fl FloatKind.f32 x0, A.fl FloatKind.f32 x1], none, []⟩ := by
  kernel_rfl
theorem ok_laws_toState : CallOK Try.prog 31 (c_laws_toState real) := by
  refine callOK_of fun args h ret hc => ?_
  unfold c_laws_toState at hc
  split at hc
  · rename_i x0 x1
    obtain ⟨_, rfl⟩ := some_ret hc
    exact holds_ev prog_ok allOK_nil Try.func31 rfl rfl smL_nil rfl (e_laws_toState real x0 x1)
  · cases hc
def Pure.spec_l07Is (F : FOps) (x0 : Int) (x1 : Int) : Bool := bif FOps.cmp F BinOp.geq FloatKind.f32 x0 0 then bif FOps.cmp F BinOp.lss FloatKind.f32 x0 1065353216 then bif FOps.cmp F BinOp.geq FloatKind.f32 x1 3204448256 then FOps.cmp F BinOp.lss FloatKind.f32 x1 1056964608 else false else false else false
def c_spec_l07Is (F : FOps) : Con
  | [V.agg [A.fl FloatKind.f32 x0, A.fl FloatKind.f32 x1]], [] => some (true, ⟨V.at (A.bool (Pure.spec_l07Is F x0 x1)), none, []⟩)
  | _, _ => none
theorem e_spec_l07Is (F : FOps) (x0 : Int) (x1 : Int) : evFn (cxS F tyl [] [] [] 0) Try.f66 false [V.agg [A.fl FloatKind.f32 x0, A.fl FloatKind.f32 x1]] [] = some ⟨V.at (A.bool (Pure.spec_l07Is F x0 x1)), none, []⟩ := by
  have h0 : evFn (cxS F tyl [] [] [] 0) Try.f66 false [V.agg [A.fl FloatKind.f32 x0, A.fl FloatKind.f32 x1]] [] = bif FOps.cmp F BinOp.geq FloatKind.f32 x0 0 then bif FOps.cmp F BinOp.lss FloatKind.f32 x0 1065353216 then bif FOps.cmp F BinOp.geq FloatKind.f32 x1 3204448256 then some ⟨V.at (A.bool (FOps.cmp F BinOp.lss FloatKind.f32 x1 1056964608)), none, []⟩ else some ⟨V.at (A.bool false), none, []⟩ else some ⟨V.at (A.bool false), none, []⟩ else some ⟨V.at (A.bool false), none, []⟩ := by kernel_rfl
  rw [h0]
  unfold Pure.spec_l07Is
  cases (FOps.cmp F BinOp.geq FloatKind.f32 x0 0) with
  | true =>
    cases (FOps.cmp F BinOp.lss FloatKind.f32 x0 1065353216) with
    | true =>
      cases (FOps.cmp F BinOp.geq FloatKind.f32 x1 3204448256) with
      | true =>
        rfl
      | false =>
        rfl
    | false =>
      rfl
  | false =>
    rfl
theorem ok_spec_l07Is : CallOK Try.prog 66 (c_spec_l07Is real) := by
  refine callOK_of fun args h ret hc => ?_
  unfold c_spec_l07Is at hc
  split at hc
  · rename_i x0 x1
    obtain ⟨_, rfl⟩ := some_ret hc
    exact holds_ev prog_ok allOK_nil Try.func66 rfl rfl smL_nil rfl (e_spec_l07Is real x0 x1)
  · cases hc
def Pure.spec_l07Size (F : FOps) (x0 : Int) : Bool := bif FOps.cmp F BinOp.geq FloatKind.f32 x0 3229614080 then FOps.cmp F BinOp.leq FloatKind.f32 x0 1082130432 else false
def c_spec_l07Size (F : FOps) : Con
  | [V.at (A.fl FloatKind.f32 x0)], [] => some (true, ⟨V.at (A.bool (Pure.spec_l07Size F x0)), none, []⟩)
  | _, _ => none
theorem e_spec_l07Size (F : FOps) (x0 : Int) : evFn (cxS F tyl [] [] [] 0) Try.f67 false [V.at (A.fl FloatKind.f32 x0)] [] = some ⟨V.at (A.bool (Pure.spec_l07Size F x0)), none, []⟩ := by
  have h0 : evFn (cxS F tyl [] [] [] 0) Try.f67 false [V.at (A.fl FloatKind.f32 x0)] [] = bif FOps.cmp F BinOp.geq FloatKind.f32 x0 3229614080 then some ⟨V.at (A.bool (FOps.cmp F BinOp.leq FloatKind.f32 x0 1082130432)), none, []⟩ else some ⟨V.at (A.bool false), none, []⟩ := by kernel_rfl
  rw [h0]
  unfold Pure.spec_l07Size
  cases (FOps.cmp F BinOp.geq FloatKind.f32 x0 3229614080) with
  | true =>
    rfl
  | false =>
    rfl
theorem ok_spec_l07Size : CallOK Try.prog 67 (c_spec_l07Size real) := by
  refine callOK_of fun args h ret hc => ?_
  unfold c_spec_l07Size at hc
  split at hc
  · rename_i x0
    obtain ⟨_, rfl⟩ := some_ret hc
    exact holds_ev prog_ok allOK_nil Try.func67 rfl rfl smL_nil rfl (e_spec_l07Size real x0)
  · cases hc
def Pure.spec_l00In (F : FOps) (x0 : Int) (x1 : Int) (x2 : Int) : Bool := bif Decidable.decide (x0 ≥ x1) then Decidable.decide (x0 ≤ x2) else false
def c_spec_l00In (F : FOps) : Con
  | [V.at (A.int IntKind.i64 x0), V.at (A.int IntKind.i64 x1), V.at (A.int IntKind.i64 x2)], [] => some (true, ⟨V.at (A.bool (Pure.spec_l00In F x0 x1 x2)), none, []⟩)
  | _, _ => none
theorem e_spec_l00In (F : FOps) (x0 : Int) (x1 : Int) (x2 : Int) : evFn (cxS F tyl [] [] [] 0) Try.f74 false [V.at (A.int IntKind.i64 x0), V.at (A.int IntKind.i64 x1), V.at (A.int IntKind.i64 x2)] [] = some ⟨V.at (A.bool (Pure.spec_l00In F x0 x1 x2)), none, []⟩ := by
  have h0 : evFn (cxS F tyl [] [] [] 0) Try.f74 false [V.at (A.int IntKind.i64 x0), V.at (A.int IntKind.i64 x1), V.at (A.int IntKind.i64 x2)] [] = bif Decidable.decide (x0 ≥ x1) then some ⟨V.at (A.bool (Decidable.decide (x0 ≤ x2))), none, []⟩ else some ⟨V.at (A.bool false), none, []⟩ := by kernel_rfl
  rw [h0]
  unfold Pure.spec_l00In
  cases (Decidable.decide (x0 ≥ x1)) with
  | true =>
    rfl
  | false =>
    rfl
theorem ok_spec_l00In : CallOK Try.prog 74 (c_spec_l00In real) := by
  refine callOK_of fun args h ret hc => ?_
  unfold c_spec_l00In at hc
  split at hc
  · rename_i x0 x1 x2
    obtain ⟨_, rfl⟩ := some_ret hc
    exact holds_ev prog_ok allOK_nil Try.func74 rfl rfl smL_nil rfl (e_spec_l00In real x0 x1 x2)
  · cases hc
def c_spec_l07Count (F : FOps) : Con
  | [V.at (A.int IntKind.i64 x0), V.at (A.int IntKind.i64 x1)], [] => some (true, ⟨V.at (A.bool (Pure.spec_l00In F x0 x1 128)), none, []⟩)
  | _, _ => none
theorem e_spec_l07Count (F : FOps) (x0 : Int) (x1 : Int) : evFn (cxS F tyl [(74, c_spec_l00In F)] [] [] 0) Try.f68 false [V.at (A.int IntKind.i64 x0), V.at (A.int IntKind.i64 x1)] [] = some ⟨V.at (A.bool (Pure.spec_l00In F x0 x1 128)), none, []⟩ := by
  kernel_rfl
theorem ok_spec_l07Count : CallOK Try.prog 68 (c_spec_l07Count real) := by
  refine callOK_of fun args h ret hc => ?_
  unfold c_spec_l07Count at hc
  split at hc
  · rename_i x0 x1
    obtain ⟨_, rfl⟩ := some_ret hc
    exact holds_ev prog_ok (allOK_cons ok_spec_l00In allOK_nil) Try.func68 rfl rfl smL_nil rfl (e_spec_l07Count real x0 x1)
  · cases hc
def Pure.spec_l07Orbit_L0 (F : FOps) (y0 : Int) : Nat → Int → Int → Int → (List (List Int)) → (Bool × (List (List Int)))
  | 0, _, _, _, _ => (false, [])
  | n + 1, y1, y2, y3, y4 => bif (Decidable.decide (y1 > 0)) then (bif (Pure.spec_l07Map_ok F y2 y3 y0) then (bif (Decidable.decide ((Nat.succ (List.length y4)) ≤ 1073741824)) then (Pure.spec_l07Orbit_L0 F y0 n (IntKind.wrap IntKind.i64 (y1 - 1)) (Pure.spec_l07Map F y2 y3 y0) (Pure.spec_l07Map_1 F y2 y3 y0) (y4 ++ [[Pure.spec_l07Map F y2 y3 y0, Pure.spec_l07Map_1 F y2 y3 y0]])) else ((false, []))) else ((false, []))) else ((true, y4))
def R_spec_l07Orbit_L0 (r : (Bool × (List (List Int)))) : Bool × Bool × (Ex × List V × List Ob) × (Ex × List V × List Ob) := ((r).1, false, (Ex.normal, [V.at (A.sl 0)], [⟨true, OC.rows [K.f FloatKind.f32, K.f FloatKind.f32] (r).2⟩]), (Ex.normal, [V.at (A.sl 0)], [⟨true, OC.rows [K.f FloatKind.f32, K.f FloatKind.f32] (r).2⟩]))
def S_spec_l07Orbit_L0 (F : FOps) : Sm := ⟨[1, 2, 3, 7], [24, 2, 0, 84], [7], fun vals hp => match vals, hp with
  | [V.at (A.fl FloatKind.f32 y0), V.at (A.int IntKind.i64 y1), V.at (A.ptr 0 0 0), V.at (A.sl 1)], [⟨true, OC.box [A.fl FloatKind.f32 y2, A.fl FloatKind.f32 y3]⟩, ⟨true, OC.rows [K.f FloatKind.f32, K.f FloatKind.f32] y4⟩] => some (R_spec_l07Orbit_L0  (Pure.spec_l07Orbit_L0 F y0 (y1 - 0 + 1).toNat y1 y2 y3 y4))
  | _, _ => none⟩
theorem l_spec_l07Orbit_L0 (F : FOps) (y0 : Int) : ∀ (fuel : Nat) (y1 : Int) (y2 : Int) (y3 : Int) (y4 : List (List Int)), (Pure.spec_l07Orbit_L0 F y0 fuel y1 y2 y3 y4).1 = true → loopOf (cxS F tyl [(112, c_spec_l07Map F)] [] [] 0) 0 22 0 [1, 2, 3, 7] [24, 2, 0, 84] [7] (loopB 0 (codeOf Try.f76)) fuel [V.at (A.fl FloatKind.f32 y0), V.at (A.int IntKind.i64 y1), V.at (A.ptr 0 0 0), V.at (A.sl 1)] [⟨true, OC.box [A.fl FloatKind.f32 y2, A.fl FloatKind.f32 y3]⟩, ⟨true, OC.rows [K.f FloatKind.f32, K.f FloatKind.f32] y4⟩] = resOf (R_spec_l07Orbit_L0  (Pure.spec_l07Orbit_L0 F y0 fuel y1 y2 y3 y4)) := by
  intro fuel
  induction fuel with
  | zero => intro y1 y2 y3 y4 h; exact absurd h Bool.false_ne_true
  | succ n ih =>
    intro y1 y2 y3 y4
    have h0 : roundOf (cxS F tyl [(112, c_spec_l07Map F)] [] [] 0) 0 22 0 [1, 2, 3, 7] [24, 2, 0, 84] [7] (loopB 0 (codeOf Try.f76)) [V.at (A.fl FloatKind.f32 y0), V.at (A.int IntKind.i64 y1), V.at (A.ptr 0 0 0), V.at (A.sl 1)] [⟨true, OC.box [A.fl FloatKind.f32 y2, A.fl FloatKind.f32 y3]⟩, ⟨true, OC.rows [K.f FloatKind.f32, K.f FloatKind.f32] y4⟩] = (bif Decidable.decide (y1 > 0) then bif Pure.spec_l07Map_ok F y2 y3 y0 then bif Decidable.decide ((Nat.succ (List.length y4)) ≤ 1073741824) then some (true, (Ex.normal, ([V.at (A.fl FloatKind.f32 y0), V.at (A.int IntKind.i64 (IntKind.wrap IntKind.i64 (y1 - 1))), V.at (A.ptr 0 0 0), V.at (A.sl 1)], [⟨true, OC.box [A.fl FloatKind.f32 (Pure.spec_l07Map F y2 y3 y0), A.fl FloatKind.f32 (Pure.spec_l07Map_1 F y2 y3 y0)]⟩, ⟨true, OC.rows [K.f FloatKind.f32, K.f FloatKind.f32] (y4 ++ [[Pure.spec_l07Map F y2 y3 y0, Pure.spec_l07Map_1 F y2 y3 y0]])⟩]))) else none else none else some (false, (Ex.normal, ([V.at (A.sl 0)], [⟨true, OC.rows [K.f FloatKind.f32, K.f FloatKind.f32] y4⟩])))) := by kernel_rfl
    unfold loopOf
    rw [h0]
    unfold Pure.spec_l07Orbit_L0
    cases (Decidable.decide (y1 > 0)) with
    | true =>
      cases (Pure.spec_l07Map_ok F y2 y3 y0) with
      | true =>
        cases (Decidable.decide ((Nat.succ (List.length y4)) ≤ 1073741824)) with
        | true =>
          exact ih _ _ _ _
        | false =>
          intro h; exact absurd h Bool.false_ne_true
      | false =>
        intro h; exact absurd h Bool.false_ne_true
    | false =>
      intro _; rfl
theorem t_spec_l07Orbit_L0 : SmTo Try.prog 0 22 (S_spec_l07Orbit_L0 real) 0 (.loop (loopB 0 (codeOf Try.f76))) := by
  refine smTo_ev (cl := [(112, c_spec_l07Map real)]) (ef := []) (sm := []) (un := 0) prog_ok (allOK_cons ok_spec_l07Map allOK_nil) smL_nil ?_
  intro vals hp q r h hq
  unfold S_spec_l07Orbit_L0 at h
  dsimp only at h
  split at h
  · rename_i y0 y1 y2 y3 y4
    obtain rfl := Option.some.inj h
    have h1 := hq
    unfold resOf at h1
    rw [chk_some] at h1
    exact ⟨_, (l_spec_l07Orbit_L0 real y0 _ y1 y2 y3 y4 h1.1).trans hq⟩
  · cases h
def Pure.spec_l07Orbit (F : FOps) (x0 : Int) (x1 : Int) (x2 : Int) (x3 : Int) : List (List Int) := Prod.snd (Pure.spec_l07Orbit_L0 F x2 (Int.toNat ((x3 - 0) + 1)) x3 x0 x1 [[x0, x1]])
def Pure.spec_l07Orbit_ok (F : FOps) (x0 : Int) (x1 : Int) (x2 : Int) (x3 : Int) : Bool := Prod.fst (Pure.spec_l07Orbit_L0 F x2 (Int.toNat ((x3 - 0) + 1)) x3 x0 x1 [[x0, x1]])
def c_spec_l07Orbit (F : FOps) : Con
  | [V.agg [A.fl FloatKind.f32 x0, A.fl FloatKind.f32 x1], V.at (A.fl FloatKind.f32 x2), V.at (A.int IntKind.i64 x3)], [] => some (Pure.spec_l07Orbit_ok F x0 x1 x2 x3, ⟨V.at (A.sl 0), none, [⟨true, OC.rows [K.f FloatKind.f32, K.f FloatKind.f32] (Pure.spec_l07Orbit F x0 x1 x2 x3)⟩]⟩)
  | _, _ => none
theorem e_spec_l07Orbit (F : FOps) (x0 : Int) (x1 : Int) (x2 : Int) (x3 : Int) : Pure.spec_l07Orbit_ok F x0 x1 x2 x3 = true → evFn (cxS F tyl [(112, c_spec_l07Map F)] [] [(0, S_spec_l07Orbit_L0 F)] 0) Try.f76 false [V.agg [A.fl FloatKind.f32 x0, A.fl FloatKind.f32 x1], V.at (A.fl FloatKind.f32 x2), V.at (A.int IntKind.i64 x3)] [] = some ⟨V.at (A.sl 0), none, [⟨true, OC.rows [K.f FloatKind.f32, K.f FloatKind.f32] (Pure.spec_l07Orbit F x0 x1 x2 x3)⟩]⟩ := by
  have h0 : evFn (cxS F tyl [(112, c_spec_l07Map F)] [] [(0, S_spec_l07Orbit_L0 F)] 0) Try.f76 false [V.agg [A.fl FloatKind.f32 x0, A.fl FloatKind.f32 x1], V.at (A.fl FloatKind.f32 x2), V.at (A.int IntKind.i64 x3)] [] = bif Prod.fst (Pure.spec_l07Orbit_L0 F x2 (Int.toNat ((x3 - 0) + 1)) x3 x0 x1 [[x0, x1]]) then some ⟨V.at (A.sl 0), none, [⟨true, OC.rows [K.f FloatKind.f32, K.f FloatKind.f32] (Prod.snd (Pure.spec_l07Orbit_L0 F x2 (Int.toNat ((x3 - 0) + 1)) x3 x0 x1 [[x0, x1]]))⟩]⟩ else none := by kernel_rfl
  rw [h0]
  unfold Pure.spec_l07Orbit Pure.spec_l07Orbit_ok
  cases (Prod.fst (Pure.spec_l07Orbit_L0 F x2 (Int.toNat ((x3 - 0) + 1)) x3 x0 x1 [[x0, x1]])) with
  | true =>
    intro _; rfl
  | false =>
    intro h; exact absurd h Bool.false_ne_true
theorem ok_spec_l07Orbit : CallOK Try.prog 76 (c_spec_l07Orbit real) := by
  refine callOK_of fun args h ret hc => ?_
  unfold c_spec_l07Orbit at hc
  split at hc
  · rename_i x0 x1 x2 x3
    obtain ⟨hok, rfl⟩ := some_ret hc
    exact holds_ev prog_ok (allOK_cons ok_spec_l07Map allOK_nil) Try.func76 rfl rfl (smL_cons (body := .loop (loopB 0 (codeOf Try.f76))) (by kernel_rfl) t_spec_l07Orbit_L0 smL_nil) rfl (e_spec_l07Orbit real x0 x1 x2 x3 hok)
  · cases hc
def Pure.spec_l07Slopes (F : FOps) (x0 : Int) (x1 : Int) (x2 : Int) : List (List Int) := [[FOps.bin F BinOp.add FloatKind.f32 1065353216 (FOps.bin F BinOp.mul FloatKind.f32 (FOps.bin F BinOp.mul FloatKind.f32 x2 1086918619) (Pure.spec_l01Sine F (FOps.bin F BinOp.add FloatKind.f32 x0 1048576000)))], [1065353216], [FOps.bin F BinOp.mul FloatKind.f32 (FOps.bin F BinOp.mul FloatKind.f32 x2 1086918619) (Pure.spec_l01Sine F (FOps.bin F BinOp.add FloatKind.f32 x0 1048576000))], [1065353216]]
def Pure.spec_l07Slopes_ok (F : FOps) (x0 : Int) (x1 : Int) (x2 : Int) : Bool := Pure.spec_l01Sine_ok F (FOps.bin F BinOp.add FloatKind.f32 x0 1048576000)
def c_spec_l07Slopes (F : FOps) : Con
  | [V.agg [A.fl FloatKind.f32 x0, A.fl FloatKind.f32 x1], V.at (A.fl FloatKind.f32 x2)], [] => some (Pure.spec_l07Slopes_ok F x0 x1 x2, ⟨V.at (A.sl 0), none, [⟨true, OC.rows [K.f FloatKind.f32] (Pure.spec_l07Slopes F x0 x1 x2)⟩]⟩)
  | _, _ => none
theorem e_spec_l07Slopes (F : FOps) (x0 : Int) (x1 : Int) (x2 : Int) : Pure.spec_l07Slopes_ok F x0 x1 x2 = true → evFn (cxS F tyl [(113, c_spec_l01Sine F)] [] [] 0) Try.f80 false [V.agg [A.fl FloatKind.f32 x0, A.fl FloatKind.f32 x1], V.at (A.fl FloatKind.f32 x2)] [] = some ⟨V.at (A.sl 0), none, [⟨true, OC.rows [K.f FloatKind.f32] (Pure.spec_l07Slopes F x0 x1 x2)⟩]⟩ := by
  have h0 : evFn (cxS F tyl [(113, c_spec_l01Sine F)] [] [] 0) Try.f80 false [V.agg [A.fl FloatKind.f32 x0, A.fl FloatKind.f32 x1], V.at (A.fl FloatKind.f32 x2)] [] = bif Pure.spec_l01Sine_ok F (FOps.bin F BinOp.add FloatKind.f32 x0 1048576000) then some ⟨V.at (A.sl 0), none, [⟨true, OC.rows [K.f FloatKind.f32] [[FOps.bin F BinOp.add FloatKind.f32 1065353216 (FOps.bin F BinOp.mul FloatKind.f32 (FOps.bin F BinOp.mul FloatKind.f32 x2 1086918619) (Pure.spec_l01Sine F (FOps.bin F BinOp.add FloatKind.f32 x0 1048576000)))], [1065353216], [FOps.bin F BinOp.mul FloatKind.f32 (FOps.bin F BinOp.mul FloatKind.f32 x2 1086918619) (Pure.spec_l01Sine F (FOps.bin F BinOp.add FloatKind.f32 x0 1048576000))], [1065353216]]⟩]⟩ else none := by kernel_rfl
  rw [h0]
  unfold Pure.spec_l07Slopes Pure.spec_l07Slopes_ok
  cases (Pure.spec_l01Sine_ok F (FOps.bin F BinOp.add FloatKind.f32 x0 1048576000)) with
  | true =>
    intro _; rfl
  | false =>
    intro h; exact absurd h Bool.false_ne_true
theorem ok_spec_l07Slopes : CallOK Try.prog 80 (c_spec_l07Slopes real) := by
  refine callOK_of fun args h ret hc => ?_
  unfold c_spec_l07Slopes at hc
  split at hc
  · rename_i x0 x1 x2
    obtain ⟨hok, rfl⟩ := some_ret hc
    exact holds_ev prog_ok (allOK_cons ok_spec_l01Sine allOK_nil) Try.func80 rfl rfl smL_nil rfl (e_spec_l07Slopes real x0 x1 x2 hok)
  · cases hc
def Pure.spec_l07Along_L0 (F : FOps) (y0 : Int) (y1 : Int) (y4 : List (List Int)) : Nat → Int → (List (List Int)) → (Bool × (List (List Int)))
  | 0, _, _ => (false, [])
  | n + 1, y2, y3 => bif (Decidable.decide (y2 < y1)) then (bif (Decidable.decide (0 ≤ y2)) then (bif (Decidable.decide (y2 < (Int.ofNat (List.length y4)))) then (bif (Pure.spec_l07Slopes_ok F (List.getD (List.getD y4 (Int.toNat y2) []) 0 0) (List.getD (List.getD y4 (Int.toNat y2) []) 1 0) y0) then (bif (Decidable.decide (0 < (Int.ofNat (List.length (Pure.spec_l07Slopes F (List.getD (List.getD y4 (Int.toNat y2) []) 0 0) (List.getD (List.getD y4 (Int.toNat y2) []) 1 0) y0))))) then (bif (Decidable.decide (0 < (Int.ofNat (List.length y3)))) then (bif (Decidable.decide (1 < (Int.ofNat (List.length (Pure.spec_l07Slopes F (List.getD (List.getD y4 (Int.toNat y2) []) 0 0) (List.getD (List.getD y4 (Int.toNat y2) []) 1 0) y0))))) then (bif (Decidable.decide (2 < (Int.ofNat (List.length y3)))) then (bif (Decidable.decide (0 < (Int.ofNat (List.length (Pure.spec_l07Slopes F (List.getD (List.getD y4 (Int.toNat y2) []) 0 0) (List.getD (List.getD y4 (Int.toNat y2) []) 1 0) y0))))) then (bif (Decidable.decide (1 < (Int.ofNat (List.length y3)))) then (bif (Decidable.decide (1 < (Int.ofNat (List.length (Pure.spec_l07Slopes F (List.getD (List.getD y4 (Int.toNat y2) []) 0 0) (List.getD (List.getD y4 (Int.toNat y2) []) 1 0) y0))))) then (bif (Decidable.decide (3 < (Int.ofNat (List.length y3)))) then (bif (Decidable.decide (2 < (Int.ofNat (List.length (Pure.spec_l07Slopes F (List.getD (List.getD y4 (Int.toNat y2) []) 0 0) (List.getD (List.getD y4 (Int.toNat y2) []) 1 0) y0))))) then (bif (Decidable.decide (0 < (Int.ofNat (List.length y3)))) then (bif (Decidable.decide (3 < (Int.ofNat (List.length (Pure.spec_l07Slopes F (List.getD (List.getD y4 (Int.toNat y2) []) 0 0) (List.getD (List.getD y4 (Int.toNat y2) []) 1 0) y0))))) then (bif (Decidable.decide (2 < (Int.ofNat (List.length y3)))) then (bif (Decidable.decide (2 < (Int.ofNat (List.length (Pure.spec_l07Slopes F (List.getD (List.getD y4 (Int.toNat y2) []) 0 0) (List.getD (List.getD y4 (Int.toNat y2) []) 1 0) y0))))) then (bif (Decidable.decide (1 < (Int.ofNat (List.length y3)))) then (bif (Decidable.decide (3 < (Int.ofNat (List.length (Pure.spec_l07Slopes F (List.getD (List.getD y4 (Int.toNat y2) []) 0 0) (List.getD (List.getD y4 (Int.toNat y2) []) 1 0) y0))))) then (bif (Decidable.decide (3 < (Int.ofNat (List.length y3)))) then (Pure.spec_l07Along_L0 F y0 y1 y4 n (IntKind.wrap IntKind.i64 (y2 + 1)) [[FOps.bin F BinOp.add FloatKind.f32 (FOps.bin F BinOp.mul FloatKind.f32 (List.getD (List.getD (Pure.spec_l07Slopes F (List.getD (List.getD y4 (Int.toNat y2) []) 0 0) (List.getD (List.getD y4 (Int.toNat y2) []) 1 0) y0) 0 []) 0 0) (List.getD (List.getD y3 0 []) 0 0)) (FOps.bin F BinOp.mul FloatKind.f32 (List.getD (List.getD (Pure.spec_l07Slopes F (List.getD (List.getD y4 (Int.toNat y2) []) 0 0) (List.getD (List.getD y4 (Int.toNat y2) []) 1 0) y0) 1 []) 0 0) (List.getD (List.getD y3 2 []) 0 0))], [FOps.bin F BinOp.add FloatKind.f32 (FOps.bin F BinOp.mul FloatKind.f32 (List.getD (List.getD (Pure.spec_l07Slopes F (List.getD (List.getD y4 (Int.toNat y2) []) 0 0) (List.getD (List.getD y4 (Int.toNat y2) []) 1 0) y0) 0 []) 0 0) (List.getD (List.getD y3 1 []) 0 0)) (FOps.bin F BinOp.mul FloatKind.f32 (List.getD (List.getD (Pure.spec_l07Slopes F (List.getD (List.getD y4 (Int.toNat y2) []) 0 0) (List.getD (List.getD y4 (Int.toNat y2) []) 1 0) y0) 1 []) 0 0) (List.getD (List.getD y3 3 []) 0 0))], [FOps.bin F BinOp.add FloatKind.f32 (FOps.bin F BinOp.mul FloatKind.f32 (List.getD (List.getD (Pure.spec_l07Slopes F (List.getD (List.getD y4 (Int.toNat y2) []) 0 0) (List.getD (List.getD y4 (Int.toNat y2) []) 1 0) y0) 2 []) 0 0) (List.getD (List.getD y3 0 []) 0 0)) (FOps.bin F BinOp.mul FloatKind.f32 (List.getD (List.getD (Pure.spec_l07Slopes F (List.getD (List.getD y4 (Int.toNat y2) []) 0 0) (List.getD (List.getD y4 (Int.toNat y2) []) 1 0) y0) 3 []) 0 0) (List.getD (List.getD y3 2 []) 0 0))], [FOps.bin F BinOp.add FloatKind.f32 (FOps.bin F BinOp.mul FloatKind.f32 (List.getD (List.getD (Pure.spec_l07Slopes F (List.getD (List.getD y4 (Int.toNat y2) []) 0 0) (List.getD (List.getD y4 (Int.toNat y2) []) 1 0) y0) 2 []) 0 0) (List.getD (List.getD y3 1 []) 0 0)) (FOps.bin F BinOp.mul FloatKind.f32 (List.getD (List.getD (Pure.spec_l07Slopes F (List.getD (List.getD y4 (Int.toNat y2) []) 0 0) (List.getD (List.getD y4 (Int.toNat y2) []) 1 0) y0) 3 []) 0 0) (List.getD (List.getD y3 3 []) 0 0))]]) else ((false, []))) else ((false, []))) else ((false, []))) else ((false, []))) else ((false, []))) else ((false, []))) else ((false, []))) else ((false, []))) else ((false, []))) else ((false, []))) else ((false, []))) else ((false, []))) else ((false, []))) else ((false, []))) else ((false, []))) else ((false, []))) else ((false, []))) else ((false, []))) else ((false, []))) else ((true, y3))
def R_spec_l07Along_L0 (r : (Bool × (List (List Int)))) : Bool × Bool × (Ex × List V × List Ob) × (Ex × List V × List Ob) := ((r).1, false, (Ex.normal, [V.at (A.sl 0)], [⟨true, OC.rows [K.f FloatKind.f32] (r).2⟩]), (Ex.normal, [V.at (A.sl 0)], [⟨true, OC.rows [K.f FloatKind.f32] (r).2⟩]))
def S_spec_l07Along_L0 (F : FOps) : Sm := ⟨[1, 2, 7, 8, 9], [24, 2, 30, 84, 2], [7], fun vals hp => match vals, hp with
  | [V.at (A.fl FloatKind.f32 y0), V.at (A.int IntKind.i64 y1), V.at (A.sl 0), V.at (A.sl 1), V.at (A.int IntKind.i64 y2)], [⟨true, OC.rows [K.f FloatKind.f32] y3⟩, ⟨true, OC.rows [K.f FloatKind.f32, K.f FloatKind.f32] y4⟩] => some (R_spec_l07Along_L0  (Pure.spec_l07Along_L0 F y0 y1 y4 (y1 - y2 + 1).toNat y2 y3))
  | _, _ => none⟩
theorem l_spec_l07Along_L0 (F : FOps) (y0 : Int) (y1 : Int) (y4 : List (List Int)) : ∀ (fuel : Nat) (y2 : Int) (y3 : List (List Int)), (Pure.spec_l07Along_L0 F y0 y1 y4 fuel y2 y3).1 = true → loopOf (cxS F tyl [(76, c_spec_l07Orbit F), (80, c_spec_l07Slopes F)] [] [] 0) 0 89 0 [1, 2, 7, 8, 9] [24, 2, 30, 84, 2] [7] (loopB 0 (codeOf Try.f69)) fuel [V.at (A.fl FloatKind.f32 y0), V.at (A.int IntKind.i64 y1), V.at (A.sl 0), V.at (A.sl 1), V.at (A.int IntKind.i64 y2)] [⟨true, OC.rows [K.f FloatKind.f32] y3⟩, ⟨true, OC.rows [K.f FloatKind.f32, K.f FloatKind.f32] y4⟩] = resOf (R_spec_l07Along_L0  (Pure.spec_l07Along_L0 F y0 y1 y4 fuel y2 y3)) := by
  intro fuel
  induction fuel with
  | zero => intro y2 y3 h; exact absurd h Bool.false_ne_true
  | succ n ih =>
    intro y2 y3
    have h0 : roundOf (cxS F tyl [(76, c_spec_l07Orbit F), (80, c_spec_l07Slopes F)] [] [] 0) 0 89 0 [1, 2, 7, 8, 9] [24, 2, 30, 84, 2] [7] (loopB 0 (codeOf Try.f69)) [V.at (A.fl FloatKind.f32 y0), V.at (A.int IntKind.i64 y1), V.at (A.sl 0), V.at (A.sl 1), V.at (A.int IntKind.i64 y2)] [⟨true, OC.rows [K.f FloatKind.f32] y3⟩, ⟨true, OC.rows [K.f FloatKind.f32, K.f FloatKind.f32] y4⟩] = (bif Decidable.decide (y2 < y1) then bif Decidable.decide (0 ≤ y2) then bif Decidable.decide (y2 < (Int.ofNat (List.length y4))) then bif Pure.spec_l07Slopes_ok F (List.getD (List.getD y4 (Int.toNat y2) []) 0 0) (List.getD (List.getD y4 (Int.toNat y2) []) 1 0) y0 then bif Decidable.decide (0 < (Int.ofNat (List.length (Pure.spec_l07Slopes F (List.getD (List.getD y4 (Int.toNat y2) []) 0 0) (List.getD (List.getD y4 (Int.toNat y2) []) 1 0) y0)))) then bif Decidable.decide (0 < (Int.ofNat (List.length y3))) then bif Decidable.decide (1 < (Int.ofNat (List.length (Pure.spec_l07Slopes F (List.getD (List.getD y4 (Int.toNat y2) []) 0 0) (List.getD (List.getD y4 (Int.toNat y2) []) 1 0) y0)))) then bif Decidable.decide (2 < (Int.ofNat (List.length y3))) then bif Decidable.decide (0 < (Int.ofNat (List.length (Pure.spec_l07Slopes F (List.getD (List.getD y4 (Int.toNat y2) []) 0 0) (List.getD (List.getD y4 (Int.toNat y2) []) 1 0) y0)))) then bif Decidable.decide (1 < (Int.ofNat (List.length y3))) then bif Decidable.decide (1 < (Int.ofNat (List.length (Pure.spec_l07Slopes F (List.getD (List.getD y4 (Int.toNat y2) []) 0 0) (List.getD (List.getD y4 (Int.toNat y2) []) 1 0) y0)))) then bif Decidable.decide (3 < (Int.ofNat (List.length y3))) then bif Decidable.decide (2 < (Int.ofNat (List.length (Pure.spec_l07Slopes F (List.getD (List.getD y4 (Int.toNat y2) []) 0 0) (List.getD (List.getD y4 (Int.toNat y2) []) 1 0) y0)))) then bif Decidable.decide (0 < (Int.ofNat (List.length y3))) then bif Decidable.decide (3 < (Int.ofNat (List.length (Pure.spec_l07Slopes F (List.getD (List.getD y4 (Int.toNat y2) []) 0 0) (List.getD (List.getD y4 (Int.toNat y2) []) 1 0) y0)))) then bif Decidable.decide (2 < (Int.ofNat (List.length y3))) then bif Decidable.decide (2 < (Int.ofNat (List.length (Pure.spec_l07Slopes F (List.getD (List.getD y4 (Int.toNat y2) []) 0 0) (List.getD (List.getD y4 (Int.toNat y2) []) 1 0) y0)))) then bif Decidable.decide (1 < (Int.ofNat (List.length y3))) then bif Decidable.decide (3 < (Int.ofNat (List.length (Pure.spec_l07Slopes F (List.getD (List.getD y4 (Int.toNat y2) []) 0 0) (List.getD (List.getD y4 (Int.toNat y2) []) 1 0) y0)))) then bif Decidable.decide (3 < (Int.ofNat (List.length y3))) then some (true, (Ex.normal, ([V.at (A.fl FloatKind.f32 y0), V.at (A.int IntKind.i64 y1), V.at (A.sl 0), V.at (A.sl 1), V.at (A.int IntKind.i64 (IntKind.wrap IntKind.i64 (y2 + 1)))], [⟨true, OC.rows [K.f FloatKind.f32] [[FOps.bin F BinOp.add FloatKind.f32 (FOps.bin F BinOp.mul FloatKind.f32 (List.getD (List.getD (Pure.spec_l07Slopes F (List.getD (List.getD y4 (Int.toNat y2) []) 0 0) (List.getD (List.getD y4 (Int.toNat y2) []) 1 0) y0) 0 []) 0 0) (List.getD (List.getD y3 0 []) 0 0)) (FOps.bin F BinOp.mul FloatKind.f32 (List.getD (List.getD (Pure.spec_l07Slopes F (List.getD (List.getD y4 (Int.toNat y2) []) 0 0) (List.getD (List.getD y4 (Int.toNat y2) []) 1 0) y0) 1 []) 0 0) (List.getD (List.getD y3 2 []) 0 0))], [FOps.bin F BinOp.add FloatKind.f32 (FOps.bin F BinOp.mul FloatKind.f32 (List.getD (List.getD (Pure.spec_l07Slopes F (List.getD (List.getD y4 (Int.toNat y2) []) 0 0) (List.getD (List.getD y4 (Int.toNat y2) []) 1 0) y0) 0 []) 0 0) (List.getD (List.getD y3 1 []) 0 0)) (FOps.bin F BinOp.mul FloatKind.f32 (List.getD (List.getD (Pure.spec_l07Slopes F (List.getD (List.getD y4 (Int.toNat y2) []) 0 0) (List.getD (List.getD y4 (Int.toNat y2) []) 1 0) y0) 1 []) 0 0) (List.getD (List.getD y3 3 []) 0 0))], [FOps.bin F BinOp.add FloatKind.f32 (FOps.bin F BinOp.mul FloatKind.f32 (List.getD (List.getD (Pure.spec_l07Slopes F (List.getD (List.getD y4 (Int.toNat y2) []) 0 0) (List.getD (List.getD y4 (Int.toNat y2) []) 1 0) y0) 2 []) 0 0) (List.getD (List.getD y3 0 []) 0 0)) (FOps.bin F BinOp.mul FloatKind.f32 (List.getD (List.getD (Pure.spec_l07Slopes F (List.getD (List.getD y4 (Int.toNat y2) []) 0 0) (List.getD (List.getD y4 (Int.toNat y2) []) 1 0) y0) 3 []) 0 0) (List.getD (List.getD y3 2 []) 0 0))], [FOps.bin F BinOp.add FloatKind.f32 (FOps.bin F BinOp.mul FloatKind.f32 (List.getD (List.getD (Pure.spec_l07Slopes F (List.getD (List.getD y4 (Int.toNat y2) []) 0 0) (List.getD (List.getD y4 (Int.toNat y2) []) 1 0) y0) 2 []) 0 0) (List.getD (List.getD y3 1 []) 0 0)) (FOps.bin F BinOp.mul FloatKind.f32 (List.getD (List.getD (Pure.spec_l07Slopes F (List.getD (List.getD y4 (Int.toNat y2) []) 0 0) (List.getD (List.getD y4 (Int.toNat y2) []) 1 0) y0) 3 []) 0 0) (List.getD (List.getD y3 3 []) 0 0))]]⟩, ⟨true, OC.rows [K.f FloatKind.f32, K.f FloatKind.f32] y4⟩]))) else none else none else none else none else none else none else none else none else none else none else none else none else none else none else none else none else none else none else none else some (false, (Ex.normal, ([V.at (A.sl 0)], [⟨true, OC.rows [K.f FloatKind.f32] y3⟩])))) := by kernel_rfl
    unfold loopOf
    rw [h0]
    unfold Pure.spec_l07Along_L0
    cases (Decidable.decide (y2 < y1)) with
    | true =>
      cases (Decidable.decide (0 ≤ y2)) with
      | true =>
        cases (Decidable.decide (y2 < (Int.ofNat (List.length y4)))) with
        | true =>
          cases (Pure.spec_l07Slopes_ok F (List.getD (List.getD y4 (Int.toNat y2) []) 0 0) (List.getD (List.getD y4 (Int.toNat y2) []) 1 0) y0) with
          | true =>
            cases (Decidable.decide (0 < (Int.ofNat (List.length (Pure.spec_l07Slopes F (List.getD (List.getD y4 (Int.toNat y2) []) 0 0) (List.getD (List.getD y4 (Int.toNat y2) []) 1 0) y0))))) with
            | true =>
              cases (Decidable.decide (0 < (Int.ofNat (List.length y3)))) with
              | true =>
                cases (Decidable.decide (1 < (Int.ofNat (List.length (Pure.spec_l07Slopes F (List.getD (List.getD y4 (Int.toNat y2) []) 0 0) (List.getD (List.getD y4 (Int.toNat y2) []) 1 0) y0))))) with
                | true =>
                  cases (Decidable.decide (2 < (Int.ofNat (List.length y3)))) with
                  | true =>
                    cases (Decidable.decide (1 < (Int.ofNat (List.length y3)))) with
                    | true =>
                      cases (Decidable.decide (3 < (Int.ofNat (List.length y3)))) with
                      | true =>
                        cases (Decidable.decide (2 < (Int.ofNat (List.length (Pure.spec_l07Slopes F (List.getD (List.getD y4 (Int.toNat y2) []) 0 0) (List.getD (List.getD y4 (Int.toNat y2) []) 1 0) y0))))) with
                        | true =>
                          cases (Decidable.decide (3 < (Int.ofNat (List.length (Pure.spec_l07Slopes F (List.getD (List.getD y4 (Int.toNat y2) []) 0 0) (List.getD (List.getD y4 (Int.toNat y2) []) 1 0) y0))))) with
                          | true =>
                            exact ih _ _
                          | false =>
                            intro h; exact absurd h Bool.false_ne_true
                        | false =>
                          intro h; exact absurd h Bool.false_ne_true
                      | false =>
                        intro h; exact absurd h Bool.false_ne_true
                    | false =>
                      intro h; exact absurd h Bool.false_ne_true
                  | false =>
                    intro h; exact absurd h Bool.false_ne_true
                | false =>
                  intro h; exact absurd h Bool.false_ne_true
              | false =>
                intro h; exact absurd h Bool.false_ne_true
            | false =>
              intro h; exact absurd h Bool.false_ne_true
          | false =>
            intro h; exact absurd h Bool.false_ne_true
        | false =>
          intro h; exact absurd h Bool.false_ne_true
      | false =>
        intro h; exact absurd h Bool.false_ne_true
    | false =>
      intro _; rfl
theorem t_spec_l07Along_L0 : SmTo Try.prog 0 89 (S_spec_l07Along_L0 real) 0 (.loop (loopB 0 (codeOf Try.f69))) := by
  refine smTo_ev (cl := [(76, c_spec_l07Orbit real), (80, c_spec_l07Slopes real)]) (ef := []) (sm := []) (un := 0) prog_ok (allOK_cons ok_spec_l07Orbit (allOK_cons ok_spec_l07Slopes allOK_nil)) smL_nil ?_
  intro vals hp q r h hq
  unfold S_spec_l07Along_L0 at h
  dsimp only at h
  split at h
  · rename_i y0 y1 y2 y3 y4
    obtain rfl := Option.some.inj h
    have h1 := hq
    unfold resOf at h1
    rw [chk_some] at h1
    exact ⟨_, (l_spec_l07Along_L0 real y0 y1 y4 _ y2 y3 h1.1).trans hq⟩
  · cases h
def Pure.spec_l07Along (F : FOps) (x0 : Int) (x1 : Int) (x2 : Int) (x3 : Int) : List (List Int) := Prod.snd (Pure.spec_l07Along_L0 F x2 x3 (Pure.spec_l07Orbit F x0 x1 x2 x3) (Int.toNat ((x3 - 0) + 1)) 0 [[1065353216], [0], [0], [1065353216]])
def Pure.spec_l07Along_ok (F : FOps) (x0 : Int) (x1 : Int) (x2 : Int) (x3 : Int) : Bool := bif Pure.spec_l07Orbit_ok F x0 x1 x2 x3 then Prod.fst (Pure.spec_l07Along_L0 F x2 x3 (Pure.spec_l07Orbit F x0 x1 x2 x3) (Int.toNat ((x3 - 0) + 1)) 0 [[1065353216], [0], [0], [1065353216]]) else false
def c_spec_l07Along (F : FOps) : Con
  | [V.agg [A.fl FloatKind.f32 x0, A.fl FloatKind.f32 x1], V.at (A.fl FloatKind.f32 x2), V.at (A.int IntKind.i64 x3)], [] => some (Pure.spec_l07Along_ok F x0 x1 x2 x3, ⟨V.at (A.sl 0), none, [⟨true, OC.rows [K.f FloatKind.f32] (Pure.spec_l07Along F x0 x1 x2 x3)⟩]⟩)
  | _, _ => none
theorem e_spec_l07Along (F : FOps) (x0 : Int) (x1 : Int) (x2 : Int) (x3 : Int) : Pure.spec_l07Along_ok F x0 x1 x2 x3 = true → evFn (cxS F tyl [(76, c_spec_l07Orbit F), (80, c_spec_l07Slopes F)] [] [(0, S_spec_l07Along_L0 F)] 0) Try.f69 false [V.agg [A.fl FloatKind.f32 x0, A.fl FloatKind.f32 x1], V.at (A.fl FloatKind.f32 x2), V.at (A.int IntKind.i64 x3)] [] = some ⟨V.at (A.sl 0), none, [⟨true, OC.rows [K.f FloatKind.f32] (Pure.spec_l07Along F x0 x1 x2 x3)⟩]⟩ := by
  have h0 : evFn (cxS F tyl [(76, c_spec_l07Orbit F), (80, c_spec_l07Slopes F)] [] [(0, S_spec_l07Along_L0 F)] 0) Try.f69 false [V.agg [A.fl FloatKind.f32 x0, A.fl FloatKind.f32 x1], V.at (A.fl FloatKind.f32 x2), V.at (A.int IntKind.i64 x3)] [] = bif Pure.spec_l07Orbit_ok F x0 x1 x2 x3 then bif Prod.fst (Pure.spec_l07Along_L0 F x2 x3 (Pure.spec_l07Orbit F x0 x1 x2 x3) (Int.toNat ((x3 - 0) + 1)) 0 [[1065353216], [0], [0], [1065353216]]) then some ⟨V.at (A.sl 0), none, [⟨true, OC.rows [K.f FloatKind.f32] (Prod.snd (Pure.spec_l07Along_L0 F x2 x3 (Pure.spec_l07Orbit F x0 x1 x2 x3) (Int.toNat ((x3 - 0) + 1)) 0 [[1065353216], [0], [0], [1065353216]]))⟩]⟩ else none else none := by kernel_rfl
  rw [h0]
  unfold Pure.spec_l07Along Pure.spec_l07Along_ok
  cases (Pure.spec_l07Orbit_ok F x0 x1 x2 x3) with
  | true =>
    cases (Prod.fst (Pure.spec_l07Along_L0 F x2 x3 (Pure.spec_l07Orbit F x0 x1 x2 x3) (Int.toNat ((x3 - 0) + 1)) 0 [[1065353216], [0], [0], [1065353216]])) with
    | true =>
      intro _; rfl
    | false =>
      intro h; exact absurd h Bool.false_ne_true
  | false =>
    intro h; exact absurd h Bool.false_ne_true
theorem ok_spec_l07Along : CallOK Try.prog 69 (c_spec_l07Along real) := by
  refine callOK_of fun args h ret hc => ?_
  unfold c_spec_l07Along at hc
  split at hc
  · rename_i x0 x1 x2 x3
    obtain ⟨hok, rfl⟩ := some_ret hc
    exact holds_ev prog_ok (allOK_cons ok_spec_l07Orbit (allOK_cons ok_spec_l07Slopes allOK_nil)) Try.func69 rfl rfl (smL_cons (body := .loop (loopB 0 (codeOf Try.f69))) (by kernel_rfl) t_spec_l07Along_L0 smL_nil) rfl (e_spec_l07Along real x0 x1 x2 x3 hok)
  · cases hc
def Pure.spec_l01Finite (F : FOps) (x0 : Int) : Bool := FOps.cmp F BinOp.eql FloatKind.f32 (FOps.bin F BinOp.sub FloatKind.f32 x0 x0) 0
def c_spec_l01Finite (F : FOps) : Con
  | [V.at (A.fl FloatKind.f32 x0)], [] => some (true, ⟨V.at (A.bool (Pure.spec_l01Finite F x0)), none, []⟩)
  | _, _ => none
theorem e_spec_l01Finite (F : FOps) (x0 : Int) : evFn (cxS F tyl [] [] [] 0) Try.f70 false [V.at (A.fl FloatKind.f32 x0)] [] = some ⟨V.at (A.bool (Pure.spec_l01Finite F x0)), none, []⟩ := by
  kernel_rfl
theorem ok_spec_l01Finite : CallOK Try.prog 70 (c_spec_l01Finite real) := by
  refine callOK_of fun args h ret hc => ?_
  unfold c_spec_l01Finite at hc
  split at hc
  · rename_i x0
    obtain ⟨_, rfl⟩ := some_ret hc
    exact holds_ev prog_ok allOK_nil Try.func70 rfl rfl smL_nil rfl (e_spec_l01Finite real x0)
  · cases hc
def Pure.spec_SlopesAlong_L0 (F : FOps) (y0 : Int) (y2 : List (List Int)) : Nat → Int → (Bool × Bool)
  | 0, _ => (false, false)
  | n + 1, y1 => bif (Decidable.decide (y1 < y0)) then (bif (Decidable.decide (0 ≤ y1)) then (bif (Decidable.decide (y1 < (Int.ofNat (List.length y2)))) then (bif (Pure.spec_l01Finite F (List.getD (List.getD y2 (Int.toNat y1) []) 0 0)) then (Pure.spec_SlopesAlong_L0 F y0 y2 n (IntKind.wrap IntKind.i64 (y1 + 1))) else ((true, true))) else ((false, false))) else ((false, false))) else ((true, false))
def R_spec_SlopesAlong_L0 (y2 : List (List Int)) (r : (Bool × Bool)) : Bool × Bool × (Ex × List V × List Ob) × (Ex × List V × List Ob) := ((r).1, (r).2, (Ex.normal, [V.at A.undef, V.at A.undef, V.at (A.sl 0)], [⟨true, OC.rows [K.f FloatKind.f32] y2⟩]), (Ex.ret, [V.at A.nil, V.at (A.bool false), V.at (A.sl 0)], [⟨true, OC.rows [K.f FloatKind.f32] y2⟩]))
def S_spec_SlopesAlong_L0 (F : FOps) : Sm := ⟨[8, 28, 29], [30, 3, 3], [6, 7, 8], fun vals hp => match vals, hp with
  | [V.at (A.sl 0), V.at (A.int IntKind.i64 y0), V.at (A.int IntKind.i64 y1)], [⟨true, OC.rows [K.f FloatKind.f32] y2⟩] => some (R_spec_SlopesAlong_L0 y2 (Pure.spec_SlopesAlong_L0 F y0 y2 (y0 - y1 + 1).toNat y1))
  | _, _ => none⟩
theorem l_spec_SlopesAlong_L0 (F : FOps) (y0 : Int) (y2 : List (List Int)) : ∀ (fuel : Nat) (y1 : Int), (Pure.spec_SlopesAlong_L0 F y0 y2 fuel y1).1 = true → loopOf (cxS F tyl [(66, c_spec_l07Is F), (67, c_spec_l07Size F), (68, c_spec_l07Count F), (69, c_spec_l07Along F), (70, c_spec_l01Finite F)] [] [] 0) 0 40 0 [8, 28, 29] [30, 3, 3] [6, 7, 8] (loopB 0 (codeOf Try.f30)) fuel [V.at (A.sl 0), V.at (A.int IntKind.i64 y0), V.at (A.int IntKind.i64 y1)] [⟨true, OC.rows [K.f FloatKind.f32] y2⟩] = resOf (R_spec_SlopesAlong_L0 y2 (Pure.spec_SlopesAlong_L0 F y0 y2 fuel y1)) := by
  intro fuel
  induction fuel with
  | zero => intro y1 h; exact absurd h Bool.false_ne_true
  | succ n ih =>
    intro y1
    have h0 : roundOf (cxS F tyl [(66, c_spec_l07Is F), (67, c_spec_l07Size F), (68, c_spec_l07Count F), (69, c_spec_l07Along F), (70, c_spec_l01Finite F)] [] [] 0) 0 40 0 [8, 28, 29] [30, 3, 3] [6, 7, 8] (loopB 0 (codeOf Try.f30)) [V.at (A.sl 0), V.at (A.int IntKind.i64 y0), V.at (A.int IntKind.i64 y1)] [⟨true, OC.rows [K.f FloatKind.f32] y2⟩] = (bif Decidable.decide (y1 < y0) then bif Decidable.decide (0 ≤ y1) then bif Decidable.decide (y1 < (Int.ofNat (List.length y2))) then bif Bool.not (Pure.spec_l01Finite F (List.getD (List.getD y2 (Int.toNat y1) []) 0 0)) then some (false, (Ex.ret, ([V.at A.nil, V.at (A.bool false), V.at (A.sl 0)], [⟨true, OC.rows [K.f FloatKind.f32] y2⟩]))) else some (true, (Ex.normal, ([V.at (A.sl 0), V.at (A.int IntKind.i64 y0), V.at (A.int IntKind.i64 (IntKind.wrap IntKind.i64 (y1 + 1)))], [⟨true, OC.rows [K.f FloatKind.f32] y2⟩]))) else none else none else some (false, (Ex.normal, ([V.at A.undef, V.at A.undef, V.at (A.sl 0)], [⟨true, OC.rows [K.f FloatKind.f32] y2⟩])))) := by kernel_rfl
    unfold loopOf
    rw [h0]
    unfold Pure.spec_SlopesAlong_L0
    cases (Decidable.decide (y1 < y0)) with
    | true =>
      cases (Decidable.decide (0 ≤ y1)) with
      | true =>
        cases (Decidable.decide (y1 < (Int.ofNat (List.length y2)))) with
        | true =>
          cases (Pure.spec_l01Finite F (List.getD (List.getD y2 (Int.toNat y1) []) 0 0)) with
          | true =>
            exact ih _
          | false =>
            intro _; rfl
        | false =>
          intro h; exact absurd h Bool.false_ne_true
      | false =>
        intro h; exact absurd h Bool.false_ne_true
    | false =>
      intro _; rfl
theorem t_spec_SlopesAlong_L0 : SmTo Try.prog 0 40 (S_spec_SlopesAlong_L0 real) 0 (.loop (loopB 0 (codeOf Try.f30))) := by
  refine smTo_ev (cl := [(66, c_spec_l07Is real), (67, c_spec_l07Size real), (68, c_spec_l07Count real), (69, c_spec_l07Along real), (70, c_spec_l01Finite real)]) (ef := []) (sm := []) (un := 0) prog_ok (allOK_cons ok_spec_l07Is (allOK_cons ok_spec_l07Size (allOK_cons ok_spec_l07Count (allOK_cons ok_spec_l07Along (allOK_cons ok_spec_l01Finite allOK_nil))))) smL_nil ?_
  intro vals hp q r h hq
  unfold S_spec_SlopesAlong_L0 at h
  dsimp only at h
  split at h
  · rename_i y0 y1 y2
    obtain rfl := Option.some.inj h
    have h1 := hq
    unfold resOf at h1
    rw [chk_some] at h1
    exact ⟨_, (l_spec_SlopesAlong_L0 real y0 y2 _ y1 h1.1).trans hq⟩
  · cases h
def Pure.spec_SlopesAlong (F : FOps) (x0 : Int) (x1 : Int) (x2 : Int) (x3 : Int) : Bool := bif Pure.spec_l07Is F x0 x1 then bif Pure.spec_l07Size F x2 then bif Pure.spec_l00In F x3 0 128 then bif Prod.snd (Pure.spec_SlopesAlong_L0 F (Int.ofNat (List.length (Pure.spec_l07Along F x0 x1 x2 x3))) (Pure.spec_l07Along F x0 x1 x2 x3) (Nat.succ ((List.length (Pure.spec_l07Along F x0 x1 x2 x3)) + 0)) 0) then false else true else false else false else false
def Pure.spec_SlopesAlong_1 (F : FOps) (x0 : Int) (x1 : Int) (x2 : Int) (x3 : Int) : List (List Int) := bif Pure.spec_l07Is F x0 x1 then bif Pure.spec_l07Size F x2 then bif Pure.spec_l00In F x3 0 128 then bif Prod.snd (Pure.spec_SlopesAlong_L0 F (Int.ofNat (List.length (Pure.spec_l07Along F x0 x1 x2 x3))) (Pure.spec_l07Along F x0 x1 x2 x3) (Nat.succ ((List.length (Pure.spec_l07Along F x0 x1 x2 x3)) + 0)) 0) then [] else Pure.spec_l07Along F x0 x1 x2 x3 else [] else [] else []
def Pure.spec_SlopesAlong_ok (F : FOps) (x0 : Int) (x1 : Int) (x2 : Int) (x3 : Int) : Bool := bif Pure.spec_l07Is F x0 x1 then bif Pure.spec_l07Size F x2 then bif Pure.spec_l00In F x3 0 128 then bif Pure.spec_l07Along_ok F x0 x1 x2 x3 then Prod.fst (Pure.spec_SlopesAlong_L0 F (Int.ofNat (List.length (Pure.spec_l07Along F x0 x1 x2 x3))) (Pure.spec_l07Along F x0 x1 x2 x3) (Nat.succ ((List.length (Pure.spec_l07Along F x0 x1 x2 x3)) + 0)) 0) else false else true else true else true
def c_spec_SlopesAlong (F : FOps) : Con
  | [V.agg [A.fl FloatKind.f32 x0, A.fl FloatKind.f32 x1], V.at (A.fl FloatKind.f32 x2), V.at (A.int IntKind.i64 x3)], [] => some (Pure.spec_SlopesAlong_ok F x0 x1 x2 x3, ⟨V.tup [(false, [A.sl 0]), (false, [A.bool (Pure.spec_SlopesAlong F x0 x1 x2 x3)])], none, [⟨true, OC.rows [K.f FloatKind.f32] (Pure.spec_SlopesAlong_1 F x0 x1 x2 x3)⟩]⟩)
  | _, _ => none
theorem e_spec_SlopesAlong (F : FOps) (x0 : Int) (x1 : Int) (x2 : Int) (x3 : Int) : Pure.spec_SlopesAlong_ok F x0 x1 x2 x3 = true → evFn (cxS F tyl [(66, c_spec_l07Is F), (67, c_spec_l07Size F), (68, c_spec_l07Count F), (69, c_spec_l07Along F), (70, c_spec_l01Finite F)] [] [(0, S_spec_SlopesAlong_L0 F)] 0) Try.f30 false [V.agg [A.fl FloatKind.f32 x0, A.fl FloatKind.f32 x1], V.at (A.fl FloatKind.f32 x2), V.at (A.int IntKind.i64 x3)] [] = some ⟨V.tup [(false, [A.sl 0]), (false, [A.bool (Pure.spec_SlopesAlong F x0 x1 x2 x3)])], none, [⟨true, OC.rows [K.f FloatKind.f32] (Pure.spec_SlopesAlong_1 F x0 x1 x2 x3)⟩]⟩ := by
  have h0 : evFn (cxS F tyl [(66, c_spec_l07Is F), (67, c_spec_l07Size F), (68, c_spec_l07Count F), (69, c_spec_l07Along F), (70, c_spec_l01Finite F)] [] [(0, S_spec_SlopesAlong_L0 F)] 0) Try.f30 false [V.agg [A.fl FloatKind.f32 x0, A.fl FloatKind.f32 x1], V.at (A.fl FloatKind.f32 x2), V.at (A.int IntKind.i64 x3)] [] = bif Bool.not (Pure.spec_l07Is F x0 x1) then some ⟨V.tup [(false, [A.sl 0]), (false, [A.bool false])], none, [⟨true, OC.rows [K.f FloatKind.f32] []⟩]⟩ else bif Bool.not (Pure.spec_l07Size F x2) then some ⟨V.tup [(false, [A.sl 0]), (false, [A.bool false])], none, [⟨true, OC.rows [K.f FloatKind.f32] []⟩]⟩ else bif Bool.not (Pure.spec_l00In F x3 0 128) then some ⟨V.tup [(false, [A.sl 0]), (false, [A.bool false])], none, [⟨true, OC.rows [K.f FloatKind.f32] []⟩]⟩ else bif Pure.spec_l07Along_ok F x0 x1 x2 x3 then bif Prod.fst (Pure.spec_SlopesAlong_L0 F (Int.ofNat (List.length (Pure.spec_l07Along F x0 x1 x2 x3))) (Pure.spec_l07Along F x0 x1 x2 x3) (Nat.succ ((List.length (Pure.spec_l07Along F x0 x1 x2 x3)) + 0)) 0) then bif Prod.snd (Pure.spec_SlopesAlong_L0 F (Int.ofNat (List.length (Pure.spec_l07Along F x0 x1 x2 x3))) (Pure.spec_l07Along F x0 x1 x2 x3) (Nat.succ ((List.length (Pure.spec_l07Along F x0 x1 x2 x3)) + 0)) 0) then some ⟨V.tup [(false, [A.sl 0]), (false, [A.bool false])], none, [⟨true, OC.rows [K.f FloatKind.f32] []⟩]⟩ else some ⟨V.tup [(false, [A.sl 0]), (false, [A.bool true])], none, [⟨true, OC.rows [K.f FloatKind.f32] (Pure.spec_l07Along F x0 x1 x2 x3)⟩]⟩ else none else none := by kernel_rfl
  rw [h0]
  unfold Pure.spec_SlopesAlong Pure.spec_SlopesAlong_1 Pure.spec_SlopesAlong_ok
  cases (Pure.spec_l07Is F x0 x1) with
  | true =>
    cases (Pure.spec_l07Size F x2) with
    | true =>
      cases (Pure.spec_l00In F x3 0 128) with
      | true =>
        cases (Pure.spec_l07Along_ok F x0 x1 x2 x3) with
        | true =>
          cases (Prod.fst (Pure.spec_SlopesAlong_L0 F (Int.ofNat (List.length (Pure.spec_l07Along F x0 x1 x2 x3))) (Pure.spec_l07Along F x0 x1 x2 x3) (Nat.succ ((List.length (Pure.spec_l07Along F x0 x1 x2 x3)) + 0)) 0)) with
          | true =>
            cases (Prod.snd (Pure.spec_SlopesAlong_L0 F (Int.ofNat (List.length (Pure.spec_l07Along F x0 x1 x2 x3))) (Pure.spec_l07Along F x0 x1 x2 x3) (Nat.succ ((List.length (Pure.spec_l07Along F x0 x1 x2 x3)) + 0)) 0)) with
            | true =>
              intro _; rfl
            | false =>
              intro _; rfl
          | false =>
            intro h; exact absurd h Bool.false_ne_true
        | false =>
          intro h; exact absurd h Bool.false_ne_true
      | false =>
        intro _; rfl
    | false =>
      intro _; rfl
  | false =>
    intro _; rfl
theorem ok_spec_SlopesAlong : CallOK Try.prog 30 (c_spec_SlopesAlong real) := by
  refine callOK_of fun args h ret hc => ?_
  unfold c_spec_SlopesAlong at hc
  split at hc
  · rename_i x0 x1 x2 x3
    obtain ⟨hok, rfl⟩ := some_ret hc
    exact holds_ev prog_ok (allOK_cons ok_spec_l07Is (allOK_cons ok_spec_l07Size (allOK_cons ok_spec_l07Count (allOK_cons ok_spec_l07Along (allOK_cons ok_spec_l01Finite allOK_nil))))) Try.func30 rfl rfl (smL_cons (body := .loop (loopB 0 (codeOf Try.f30))) (by kernel_rfl) t_spec_SlopesAlong_L0 smL_nil) rfl (e_spec_SlopesAlong real x0 x1 x2 x3 hok)
  · cases hc
def Pure.impl_in (F : FOps) (x0 : Int) (x1 : Int) (x2 : Int) : Bool := bif Decidable.decide (x0 ≥ x1) then Decidable.decide (x0 ≤ x2) else false
def c_impl_in (F : FOps) : Con
  | [V.at (A.int IntKind.i64 x0), V.at (A.int IntKind.i64 x1), V.at (A.int IntKind.i64 x2)], [] => some (true, ⟨V.at (A.bool (Pure.impl_in F x0 x1 x2)), none, []⟩)
  | _, _ => none
theorem e_impl_in (F : FOps) (x0 : Int) (x1 : Int) (x2 : Int) : evFn (cxS F tyl [] [] [] 0) Try.f51 false [V.at (A.int IntKind.i64 x0), V.at (A.int IntKind.i64 x1), V.at (A.int IntKind.i64 x2)] [] = some ⟨V.at (A.bool (Pure.impl_in F x0 x1 x2)), none, []⟩ := by
  have h0 : evFn (cxS F tyl [] [] [] 0) Try.f51 false [V.at (A.int IntKind.i64 x0), V.at (A.int IntKind.i64 x1), V.at (A.int IntKind.i64 x2)] [] = bif Decidable.decide (x0 ≥ x1) then some ⟨V.at (A.bool (Decidable.decide (x0 ≤ x2))), none, []⟩ else some ⟨V.at (A.bool false), none, []⟩ := by kernel_rfl
  rw [h0]
  unfold Pure.impl_in
  cases (Decidable.decide (x0 ≥ x1)) with
  | true =>
    rfl
  | false =>
    rfl
theorem ok_impl_in : CallOK Try.prog 51 (c_impl_in real) := by
  refine callOK_of fun args h ret hc => ?_
  unfold c_impl_in at hc
  split at hc
  · rename_i x0 x1 x2
    obtain ⟨_, rfl⟩ := some_ret hc
    exact holds_ev prog_ok allOK_nil Try.func51 rfl rfl smL_nil rfl (e_impl_in real x0 x1 x2)
  · cases hc
def Pure.impl_State_slopes (F : FOps) (x0 : Int) (x1 : Int) (x2 : Int) : Int := List.getD [FOps.bin F BinOp.add FloatKind.f32 1065353216 (FOps.bin F BinOp.mul FloatKind.f32 (FOps.bin F BinOp.mul FloatKind.f32 x2 1086918619) (Pure.impl_SineTurns F (FOps.bin F BinOp.add FloatKind.f32 x0 1048576000)))] 0 0
def Pure.impl_State_slopes_1 (F : FOps) (x0 : Int) (x1 : Int) (x2 : Int) : Int := List.getD [FOps.bin F BinOp.mul FloatKind.f32 (FOps.bin F BinOp.mul FloatKind.f32 x2 1086918619) (Pure.impl_SineTurns F (FOps.bin F BinOp.add FloatKind.f32 x0 1048576000))] 0 0
def Pure.impl_State_slopes_ok (F : FOps) (x0 : Int) (x1 : Int) (x2 : Int) : Bool := Pure.impl_SineTurns_ok F (FOps.bin F BinOp.add FloatKind.f32 x0 1048576000)
def c_impl_State_slopes (F : FOps) : Con
  | [V.agg [A.fl FloatKind.f32 x0, A.fl FloatKind.f32 x1], V.at (A.fl FloatKind.f32 x2)], [] => some (Pure.impl_State_slopes_ok F x0 x1 x2, ⟨V.agg [A.fl FloatKind.f32 (Pure.impl_State_slopes F x0 x1 x2), A.fl FloatKind.f32 1065353216, A.fl FloatKind.f32 (Pure.impl_State_slopes_1 F x0 x1 x2), A.fl FloatKind.f32 1065353216], none, []⟩)
  | _, _ => none
theorem e_impl_State_slopes (F : FOps) (x0 : Int) (x1 : Int) (x2 : Int) : Pure.impl_State_slopes_ok F x0 x1 x2 = true → evFn (cxS F tyl [(115, c_impl_SineTurns F)] [] [] 0) Try.f82 false [V.agg [A.fl FloatKind.f32 x0, A.fl FloatKind.f32 x1], V.at (A.fl FloatKind.f32 x2)] [] = some ⟨V.agg [A.fl FloatKind.f32 (Pure.impl_State_slopes F x0 x1 x2), A.fl FloatKind.f32 1065353216, A.fl FloatKind.f32 (Pure.impl_State_slopes_1 F x0 x1 x2), A.fl FloatKind.f32 1065353216], none, []⟩ := by
  have h0 : evFn (cxS F tyl [(115, c_impl_SineTurns F)] [] [] 0) Try.f82 false [V.agg [A.fl FloatKind.f32 x0, A.fl FloatKind.f32 x1], V.at (A.fl FloatKind.f32 x2)] [] = bif Pure.impl_SineTurns_ok F (FOps.bin F BinOp.add FloatKind.f32 x0 1048576000) then some ⟨V.agg [A.fl FloatKind.f32 (List.getD [FOps.bin F BinOp.add FloatKind.f32 1065353216 (FOps.bin F BinOp.mul FloatKind.f32 (FOps.bin F BinOp.mul FloatKind.f32 x2 1086918619) (Pure.impl_SineTurns F (FOps.bin F BinOp.add FloatKind.f32 x0 1048576000)))] 0 0), A.fl FloatKind.f32 1065353216, A.fl FloatKind.f32 (List.getD [FOps.bin F BinOp.mul FloatKind.f32 (FOps.bin F BinOp.mul FloatKind.f32 x2 1086918619) (Pure.impl_SineTurns F (FOps.bin F BinOp.add FloatKind.f32 x0 1048576000))] 0 0), A.fl FloatKind.f32 1065353216], none, []⟩ else none := by kernel_rfl
  rw [h0]
  unfold Pure.impl_State_slopes Pure.impl_State_slopes_1 Pure.impl_State_slopes_ok
  cases (Pure.impl_SineTurns_ok F (FOps.bin F BinOp.add FloatKind.f32 x0 1048576000)) with
  | true =>
    intro _; rfl
  | false =>
    intro h; exact absurd h Bool.false_ne_true
theorem ok_impl_State_slopes : CallOK Try.prog 82 (c_impl_State_slopes real) := by
  refine callOK_of fun args h ret hc => ?_
  unfold c_impl_State_slopes at hc
  split at hc
  · rename_i x0 x1 x2
    obtain ⟨hok, rfl⟩ := some_ret hc
    exact holds_ev prog_ok (allOK_cons ok_impl_SineTurns allOK_nil) Try.func82 rfl rfl smL_nil rfl (e_impl_State_slopes real x0 x1 x2 hok)
  · cases hc
def Pure.impl_slopes_times (F : FOps) (x0 : Int) (x1 : Int) (x2 : Int) (x3 : Int) (x4 : Int) (x5 : Int) (x6 : Int) (x7 : Int) : Int := List.getD [Pure.impl_slopes_times_c1 F 0 0 x0 x1 x2 x3 x4 x5 x6 x7] 0 0
def Pure.impl_slopes_times_1 (F : FOps) (x0 : Int) (x1 : Int) (x2 : Int) (x3 : Int) (x4 : Int) (x5 : Int) (x6 : Int) (x7 : Int) : Int := List.getD [Pure.impl_slopes_times_c1 F 0 1 x0 x1 x2 x3 x4 x5 x6 x7] 0 0
def Pure.impl_slopes_times_2 (F : FOps) (x0 : Int) (x1 : Int) (x2 : Int) (x3 : Int) (x4 : Int) (x5 : Int) (x6 : Int) (x7 : Int) : Int := List.getD [Pure.impl_slopes_times_c1 F 2 0 x0 x1 x2 x3 x4 x5 x6 x7] 0 0
def Pure.impl_slopes_times_3 (F : FOps) (x0 : Int) (x1 : Int) (x2 : Int) (x3 : Int) (x4 : Int) (x5 : Int) (x6 : Int) (x7 : Int) : Int := List.getD [Pure.impl_slopes_times_c1 F 2 1 x0 x1 x2 x3 x4 x5 x6 x7] 0 0
def Pure.impl_slopes_times_ok (F : FOps) (x0 : Int) (x1 : Int) (x2 : Int) (x3 : Int) (x4 : Int) (x5 : Int) (x6 : Int) (x7 : Int) : Bool := bif Pure.impl_slopes_times_c1_ok F 0 0 x0 x1 x2 x3 x4 x5 x6 x7 then bif Pure.impl_slopes_times_c1_ok F 0 1 x0 x1 x2 x3 x4 x5 x6 x7 then bif Pure.impl_slopes_times_c1_ok F 2 0 x0 x1 x2 x3 x4 x5 x6 x7 then Pure.impl_slopes_times_c1_ok F 2 1 x0 x1 x2 x3 x4 x5 x6 x7 else false else false else false
def c_impl_slopes_times (F : FOps) : Con
  | [V.agg [A.fl FloatKind.f32 x0, A.fl FloatKind.f32 x1, A.fl FloatKind.f32 x2, A.fl FloatKind.f32 x3], V.agg [A.fl FloatKind.f32 x4, A.fl FloatKind.f32 x5, A.fl FloatKind.f32 x6, A.fl FloatKind.f32 x7]], [] => some (Pure.impl_slopes_times_ok F x0 x1 x2 x3 x4 x5 x6 x7, ⟨V.agg [A.fl FloatKind.f32 (Pure.impl_slopes_times F x0 x1 x2 x3 x4 x5 x6 x7), A.fl FloatKind.f32 (Pure.impl_slopes_times_1 F x0 x1 x2 x3 x4 x5 x6 x7), A.fl FloatKind.f32 (Pure.impl_slopes_times_2 F x0 x1 x2 x3 x4 x5 x6 x7), A.fl FloatKind.f32 (Pure.impl_slopes_times_3 F x0 x1 x2 x3 x4 x5 x6 x7)], none, []⟩)
  | _, _ => none
theorem e_impl_slopes_times (F : FOps) (x0 : Int) (x1 : Int) (x2 : Int) (x3 : Int) (x4 : Int) (x5 : Int) (x6 : Int) (x7 : Int) : Pure.impl_slopes_times_ok F x0 x1 x2 x3 x4 x5 x6 x7 = true → evFn (cxS F tyl [(122, c_impl_slopes_times_c1 F)] [] [] 0) Try.f108 false [V.agg [A.fl FloatKind.f32 x0, A.fl FloatKind.f32 x1, A.fl FloatKind.f32 x2, A.fl FloatKind.f32 x3], V.agg [A.fl FloatKind.f32 x4, A.fl FloatKind.f32 x5, A.fl FloatKind.f32 x6, A.fl FloatKind.f32 x7]] [] = some ⟨V.agg [A.fl FloatKind.f32 (Pure.impl_slopes_times F x0 x1 x2 x3 x4 x5 x6 x7), A.fl FloatKind.f32 (Pure.impl_slopes_times_1 F x0 x1 x2 x3 x4 x5 x6 x7), A.fl FloatKind.f32 (Pure.impl_slopes_times_2 F x0 x1 x2 x3 x4 x5 x6 x7), A.fl FloatKind.f32 (Pure.impl_slopes_times_3 F x0 x1 x2 x3 x4 x5 x6 x7)], none, []⟩ := by
  have h0 : evFn (cxS F tyl [(122, c_impl_slopes_times_c1 F)] [] [] 0) Try.f108 false [V.agg [A.fl FloatKind.f32 x0, A.fl FloatKind.f32 x1, A.fl FloatKind.f32 x2, A.fl FloatKind.f32 x3], V.agg [A.fl FloatKind.f32 x4, A.fl FloatKind.f32 x5, A.fl FloatKind.f32 x6, A.fl FloatKind.f32 x7]] [] = bif Pure.impl_slopes_times_c1_ok F 0 0 x0 x1 x2 x3 x4 x5 x6 x7 then bif Pure.impl_slopes_times_c1_ok F 0 1 x0 x1 x2 x3 x4 x5 x6 x7 then bif Pure.impl_slopes_times_c1_ok F 2 0 x0 x1 x2 x3 x4 x5 x6 x7 then bif Pure.impl_slopes_times_c1_ok F 2 1 x0 x1 x2 x3 x4 x5 x6 x7 then some ⟨V.agg [A.fl FloatKind.f32 (List.getD [Pure.impl_slopes_times_c1 F 0 0 x0 x1 x2 x3 x4 x5 x6 x7] 0 0), A.fl FloatKind.f32 (List.getD [Pure.impl_slopes_times_c1 F 0 1 x0 x1 x2 x3 x4 x5 x6 x7] 0 0), A.fl FloatKind.f32 (List.getD [Pure.impl_slopes_times_c1 F 2 0 x0 x1 x2 x3 x4 x5 x6 x7] 0 0), A.fl FloatKind.f32 (List.getD [Pure.impl_slopes_times_c1 F 2 1 x0 x1 x2 x3 x4 x5 x6 x7] 0 0)], none, []⟩ else none else none else none else none := by kernel_rfl
  rw [h0]
  unfold Pure.impl_slopes_times Pure.impl_slopes_times_1 Pure.impl_slopes_times_2 Pure.impl_slopes_times_3 Pure.impl_slopes_times_ok
  cases (Pure.impl_slopes_times_c1_ok F 0 0 x0 x1 x2 x3 x4 x5 x6 x7) with
  | true =>
    cases (Pure.impl_slopes_times_c1_ok F 0 1 x0 x1 x2 x3 x4 x5 x6 x7) with
    | true =>
      cases (Pure.impl_slopes_times_c1_ok F 2 0 x0 x1 x2 x3 x4 x5 x6 x7) with
      | true =>
        cases (Pure.impl_slopes_times_c1_ok F 2 1 x0 x1 x2 x3 x4 x5 x6 x7) with
        | true =>
          intro _; rfl
        | false =>
          intro h; exact absurd h Bool.false_ne_true
      | false =>
        intro h; exact absurd h Bool.false_ne_true
    | false =>
      intro h; exact absurd h Bool.false_ne_true
  | false =>
    intro h; exact absurd h Bool.false_ne_true
theorem ok_impl_slopes_times : CallOK Try.prog 108 (c_impl_slopes_times real) := by
  refine callOK_of fun args h ret hc => ?_
  unfold c_impl_slopes_times at hc
  split at hc
  · rename_i x0 x1 x2 x3 x4 x5 x6 x7
    obtain ⟨hok, rfl⟩ := some_ret hc
    exact holds_ev prog_ok (allOK_cons ok_impl_slopes_times_c1 allOK_nil) Try.func108 rfl rfl smL_nil rfl (e_impl_slopes_times real x0 x1 x2 x3 x4 x5 x6 x7 hok)
  · cases hc
def Pure.impl_WrapKick (F : FOps) (x0 : Int) : Int := bif Pure.impl_IsFinite F x0 then bif FOps.cmp F BinOp.geq FloatKind.f32 (FOps.conv F FloatKind.f64 FloatKind.f32 (FOps.bin F BinOp.sub FloatKind.f64 (FOps.conv F FloatKind.f32 FloatKind.f64 x0) (FOps.integral F Ieee.Toward.down (FOps.bin F BinOp.add FloatKind.f64 (FOps.conv F FloatKind.f32 FloatKind.f64 x0) 4602678819172646912)))) 1056964608 then 3204448256 else bif FOps.cmp F BinOp.eql FloatKind.f32 (FOps.conv F FloatKind.f64 FloatKind.f32 (FOps.bin F BinOp.sub FloatKind.f64 (FOps.conv F FloatKind.f32 FloatKind.f64 x0) (FOps.integral F Ieee.Toward.down (FOps.bin F BinOp.add FloatKind.f64 (FOps.conv F FloatKind.f32 FloatKind.f64 x0) 4602678819172646912)))) 0 then 0 else FOps.conv F FloatKind.f64 FloatKind.f32 (FOps.bin F BinOp.sub FloatKind.f64 (FOps.conv F FloatKind.f32 FloatKind.f64 x0) (FOps.integral F Ieee.Toward.down (FOps.bin F BinOp.add FloatKind.f64 (FOps.conv F FloatKind.f32 FloatKind.f64 x0) 4602678819172646912))) else 0
def Pure.impl_WrapKick_ok (F : FOps) (x0 : Int) : Bool := bif Pure.impl_IsFinite F x0 then bif FOps.convOk F FloatKind.f32 FloatKind.f64 x0 then FOps.convOk F FloatKind.f64 FloatKind.f32 (FOps.bin F BinOp.sub FloatKind.f64 (FOps.conv F FloatKind.f32 FloatKind.f64 x0) (FOps.integral F Ieee.Toward.down (FOps.bin F BinOp.add FloatKind.f64 (FOps.conv F FloatKind.f32 FloatKind.f64 x0) 4602678819172646912))) else false else true
def c_impl_WrapKick (F : FOps) : Con
  | [V.at (A.fl FloatKind.f32 x0)], [] => some (Pure.impl_WrapKick_ok F x0, ⟨V.tup [(false, [A.fl FloatKind.f32 (Pure.impl_WrapKick F x0)]), (false, [A.bool (Pure.impl_IsFinite F x0)])], none, []⟩)
  | _, _ => none
theorem e_impl_WrapKick (F : FOps) (x0 : Int) : Pure.impl_WrapKick_ok F x0 = true → evFn (cxS F tyl [(47, c_impl_IsFinite F), (48, c_math_Floor F)] [] [] 0) Try.f16 false [V.at (A.fl FloatKind.f32 x0)] [] = some ⟨V.tup [(false, [A.fl FloatKind.f32 (Pure.impl_WrapKick F x0)]), (false, [A.bool (Pure.impl_IsFinite F x0)])], none, []⟩ := by
  have h0 : evFn (cxS F tyl [(47, c_impl_IsFinite F), (48, c_math_Floor F)] [] [] 0) Try.f16 false [V.at (A.fl FloatKind.f32 x0)] [] = bif Bool.not (Pure.impl_IsFinite F x0) then some ⟨V.tup [(false, [A.fl FloatKind.f32 0]), (false, [A.bool false])], none, []⟩ else bif FOps.convOk F FloatKind.f32 FloatKind.f64 x0 then bif FOps.convOk F FloatKind.f32 FloatKind.f64 x0 then bif FOps.convOk F FloatKind.f64 FloatKind.f32 (FOps.bin F BinOp.sub FloatKind.f64 (FOps.conv F FloatKind.f32 FloatKind.f64 x0) (FOps.integral F Ieee.Toward.down (FOps.bin F BinOp.add FloatKind.f64 (FOps.conv F FloatKind.f32 FloatKind.f64 x0) 4602678819172646912))) then bif FOps.cmp F BinOp.geq FloatKind.f32 (FOps.conv F FloatKind.f64 FloatKind.f32 (FOps.bin F BinOp.sub FloatKind.f64 (FOps.conv F FloatKind.f32 FloatKind.f64 x0) (FOps.integral F Ieee.Toward.down (FOps.bin F BinOp.add FloatKind.f64 (FOps.conv F FloatKind.f32 FloatKind.f64 x0) 4602678819172646912)))) 1056964608 then some ⟨V.tup [(false, [A.fl FloatKind.f32 3204448256]), (false, [A.bool true])], none, []⟩ else bif FOps.cmp F BinOp.eql FloatKind.f32 (FOps.conv F FloatKind.f64 FloatKind.f32 (FOps.bin F BinOp.sub FloatKind.f64 (FOps.conv F FloatKind.f32 FloatKind.f64 x0) (FOps.integral F Ieee.Toward.down (FOps.bin F BinOp.add FloatKind.f64 (FOps.conv F FloatKind.f32 FloatKind.f64 x0) 4602678819172646912)))) 0 then some ⟨V.tup [(false, [A.fl FloatKind.f32 0]), (false, [A.bool true])], none, []⟩ else some ⟨V.tup [(false, [A.fl FloatKind.f32 (FOps.conv F FloatKind.f64 FloatKind.f32 (FOps.bin F BinOp.sub FloatKind.f64 (FOps.conv F FloatKind.f32 FloatKind.f64 x0) (FOps.integral F Ieee.Toward.down (FOps.bin F BinOp.add FloatKind.f64 (FOps.conv F FloatKind.f32 FloatKind.f64 x0) 4602678819172646912))))]), (false, [A.bool true])], none, []⟩ else none else none else none := by kernel_rfl
  rw [h0]
  unfold Pure.impl_WrapKick Pure.impl_WrapKick_ok
  cases (Pure.impl_IsFinite F x0) with
  | true =>
    cases (FOps.convOk F FloatKind.f32 FloatKind.f64 x0) with
    | true =>
      cases (FOps.convOk F FloatKind.f64 FloatKind.f32 (FOps.bin F BinOp.sub FloatKind.f64 (FOps.conv F FloatKind.f32 FloatKind.f64 x0) (FOps.integral F Ieee.Toward.down (FOps.bin F BinOp.add FloatKind.f64 (FOps.conv F FloatKind.f32 FloatKind.f64 x0) 4602678819172646912)))) with
      | true =>
        cases (FOps.cmp F BinOp.geq FloatKind.f32 (FOps.conv F FloatKind.f64 FloatKind.f32 (FOps.bin F BinOp.sub FloatKind.f64 (FOps.conv F FloatKind.f32 FloatKind.f64 x0) (FOps.integral F Ieee.Toward.down (FOps.bin F BinOp.add FloatKind.f64 (FOps.conv F FloatKind.f32 FloatKind.f64 x0) 4602678819172646912)))) 1056964608) with
        | true =>
          intro _; rfl
        | false =>
          cases (FOps.cmp F BinOp.eql FloatKind.f32 (FOps.conv F FloatKind.f64 FloatKind.f32 (FOps.bin F BinOp.sub FloatKind.f64 (FOps.conv F FloatKind.f32 FloatKind.f64 x0) (FOps.integral F Ieee.Toward.down (FOps.bin F BinOp.add FloatKind.f64 (FOps.conv F FloatKind.f32 FloatKind.f64 x0) 4602678819172646912)))) 0) with
          | true =>
            intro _; rfl
          | false =>
            intro _; rfl
      | false =>
        intro h; exact absurd h Bool.false_ne_true
    | false =>
      intro h; exact absurd h Bool.false_ne_true
  | false =>
    intro _; rfl
theorem ok_impl_WrapKick : CallOK Try.prog 16 (c_impl_WrapKick real) := by
  refine callOK_of fun args h ret hc => ?_
  unfold c_impl_WrapKick at hc
  split at hc
  · rename_i x0
    obtain ⟨hok, rfl⟩ := some_ret hc
    exact holds_ev prog_ok (allOK_cons ok_impl_IsFinite (allOK_cons ok_math_Floor allOK_nil)) Try.func16 rfl rfl smL_nil rfl (e_impl_WrapKick real x0 hok)
  · cases hc
def Pure.impl_kicked_ok (F : FOps) (x0 : Int) : Bool := Pure.impl_WrapKick_ok F x0
def c_impl_kicked (F : FOps) : Con
  | [V.at (A.fl FloatKind.f32 x0)], [] => some (Pure.impl_kicked_ok F x0, ⟨V.at (A.fl FloatKind.f32 (Pure.impl_WrapKick F x0)), none, []⟩)
  | _, _ => none
theorem e_impl_kicked (F : FOps) (x0 : Int) : Pure.impl_kicked_ok F x0 = true → evFn (cxS F tyl [(16, c_impl_WrapKick F)] [] [] 0) Try.f105 false [V.at (A.fl FloatKind.f32 x0)] [] = some ⟨V.at (A.fl FloatKind.f32 (Pure.impl_WrapKick F x0)), none, []⟩ := by
  have h0 : evFn (cxS F tyl [(16, c_impl_WrapKick F)] [] [] 0) Try.f105 false [V.at (A.fl FloatKind.f32 x0)] [] = bif Pure.impl_WrapKick_ok F x0 then some ⟨V.at (A.fl FloatKind.f32 (Pure.impl_WrapKick F x0)), none, []⟩ else none := by kernel_rfl
  rw [h0]
  unfold Pure.impl_kicked_ok
  cases (Pure.impl_WrapKick_ok F x0) with
  | true =>
    intro _; rfl
  | false =>
    intro h; exact absurd h Bool.false_ne_true
theorem ok_impl_kicked : CallOK Try.prog 105 (c_impl_kicked real) := by
  refine callOK_of fun args h ret hc => ?_
  unfold c_impl_kicked at hc
  split at hc
  · rename_i x0
    obtain ⟨hok, rfl⟩ := some_ret hc
    exact holds_ev prog_ok (allOK_cons ok_impl_WrapKick allOK_nil) Try.func105 rfl rfl smL_nil rfl (e_impl_kicked real x0 hok)
  · cases hc
def Pure.impl_WrapTurn (F : FOps) (x0 : Int) : Int := bif Pure.impl_IsFinite F x0 then bif FOps.cmp F BinOp.eql FloatKind.f32 (FOps.conv F FloatKind.f64 FloatKind.f32 (FOps.bin F BinOp.sub FloatKind.f64 (FOps.conv F FloatKind.f32 FloatKind.f64 x0) (FOps.integral F Ieee.Toward.down (FOps.conv F FloatKind.f32 FloatKind.f64 x0)))) 1065353216 then 0 else bif FOps.cmp F BinOp.eql FloatKind.f32 (FOps.conv F FloatKind.f64 FloatKind.f32 (FOps.bin F BinOp.sub FloatKind.f64 (FOps.conv F FloatKind.f32 FloatKind.f64 x0) (FOps.integral F Ieee.Toward.down (FOps.conv F FloatKind.f32 FloatKind.f64 x0)))) 0 then 0 else FOps.conv F FloatKind.f64 FloatKind.f32 (FOps.bin F BinOp.sub FloatKind.f64 (FOps.conv F FloatKind.f32 FloatKind.f64 x0) (FOps.integral F Ieee.Toward.down (FOps.conv F FloatKind.f32 FloatKind.f64 x0))) else 0
def Pure.impl_WrapTurn_ok (F : FOps) (x0 : Int) : Bool := bif Pure.impl_IsFinite F x0 then bif FOps.convOk F FloatKind.f32 FloatKind.f64 x0 then FOps.convOk F FloatKind.f64 FloatKind.f32 (FOps.bin F BinOp.sub FloatKind.f64 (FOps.conv F FloatKind.f32 FloatKind.f64 x0) (FOps.integral F Ieee.Toward.down (FOps.conv F FloatKind.f32 FloatKind.f64 x0))) else false else true
def c_impl_WrapTurn (F : FOps) : Con
  | [V.at (A.fl FloatKind.f32 x0)], [] => some (Pure.impl_WrapTurn_ok F x0, ⟨V.tup [(false, [A.fl FloatKind.f32 (Pure.impl_WrapTurn F x0)]), (false, [A.bool (Pure.impl_IsFinite F x0)])], none, []⟩)
  | _, _ => none
theorem e_impl_WrapTurn (F : FOps) (x0 : Int) : Pure.impl_WrapTurn_ok F x0 = true → evFn (cxS F tyl [(47, c_impl_IsFinite F), (48, c_math_Floor F)] [] [] 0) Try.f14 false [V.at (A.fl FloatKind.f32 x0)] [] = some ⟨V.tup [(false, [A.fl FloatKind.f32 (Pure.impl_WrapTurn F x0)]), (false, [A.bool (Pure.impl_IsFinite F x0)])], none, []⟩ := by
  have h0 : evFn (cxS F tyl [(47, c_impl_IsFinite F), (48, c_math_Floor F)] [] [] 0) Try.f14 false [V.at (A.fl FloatKind.f32 x0)] [] = bif Bool.not (Pure.impl_IsFinite F x0) then some ⟨V.tup [(false, [A.fl FloatKind.f32 0]), (false, [A.bool false])], none, []⟩ else bif FOps.convOk F FloatKind.f32 FloatKind.f64 x0 then bif FOps.convOk F FloatKind.f32 FloatKind.f64 x0 then bif FOps.convOk F FloatKind.f64 FloatKind.f32 (FOps.bin F BinOp.sub FloatKind.f64 (FOps.conv F FloatKind.f32 FloatKind.f64 x0) (FOps.integral F Ieee.Toward.down (FOps.conv F FloatKind.f32 FloatKind.f64 x0))) then bif FOps.cmp F BinOp.eql FloatKind.f32 (FOps.conv F FloatKind.f64 FloatKind.f32 (FOps.bin F BinOp.sub FloatKind.f64 (FOps.conv F FloatKind.f32 FloatKind.f64 x0) (FOps.integral F Ieee.Toward.down (FOps.conv F FloatKind.f32 FloatKind.f64 x0)))) 1065353216 then some ⟨V.tup [(false, [A.fl FloatKind.f32 0]), (false, [A.bool true])], none, []⟩ else bif FOps.cmp F BinOp.eql FloatKind.f32 (FOps.conv F FloatKind.f64 FloatKind.f32 (FOps.bin F BinOp.sub FloatKind.f64 (FOps.conv F FloatKind.f32 FloatKind.f64 x0) (FOps.integral F Ieee.Toward.down (FOps.conv F FloatKind.f32 FloatKind.f64 x0)))) 0 then some ⟨V.tup [(false, [A.fl FloatKind.f32 0]), (false, [A.bool true])], none, []⟩ else some ⟨V.tup [(false, [A.fl FloatKind.f32 (FOps.conv F FloatKind.f64 FloatKind.f32 (FOps.bin F BinOp.sub FloatKind.f64 (FOps.conv F FloatKind.f32 FloatKind.f64 x0) (FOps.integral F Ieee.Toward.down (FOps.conv F FloatKind.f32 FloatKind.f64 x0))))]), (false, [A.bool true])], none, []⟩ else none else none else none := by kernel_rfl
  rw [h0]
  unfold Pure.impl_WrapTurn Pure.impl_WrapTurn_ok
  cases (Pure.impl_IsFinite F x0) with
  | true =>
    cases (FOps.convOk F FloatKind.f32 FloatKind.f64 x0) with
    | true =>
      cases (FOps.convOk F FloatKind.f64 FloatKind.f32 (FOps.bin F BinOp.sub FloatKind.f64 (FOps.conv F FloatKind.f32 FloatKind.f64 x0) (FOps.integral F Ieee.Toward.down (FOps.conv F FloatKind.f32 FloatKind.f64 x0)))) with
      | true =>
        cases (FOps.cmp F BinOp.eql FloatKind.f32 (FOps.conv F FloatKind.f64 FloatKind.f32 (FOps.bin F BinOp.sub FloatKind.f64 (FOps.conv F FloatKind.f32 FloatKind.f64 x0) (FOps.integral F Ieee.Toward.down (FOps.conv F FloatKind.f32 FloatKind.f64 x0)))) 1065353216) with
        | true =>
          intro _; rfl
        | false =>
          cases (FOps.cmp F BinOp.eql FloatKind.f32 (FOps.conv F FloatKind.f64 FloatKind.f32 (FOps.bin F BinOp.sub FloatKind.f64 (FOps.conv F FloatKind.f32 FloatKind.f64 x0) (FOps.integral F Ieee.Toward.down (FOps.conv F FloatKind.f32 FloatKind.f64 x0)))) 0) with
          | true =>
            intro _; rfl
          | false =>
            intro _; rfl
      | false =>
        intro h; exact absurd h Bool.false_ne_true
    | false =>
      intro h; exact absurd h Bool.false_ne_true
  | false =>
    intro _; rfl
theorem ok_impl_WrapTurn : CallOK Try.prog 14 (c_impl_WrapTurn real) := by
  refine callOK_of fun args h ret hc => ?_
  unfold c_impl_WrapTurn at hc
  split at hc
  · rename_i x0
    obtain ⟨hok, rfl⟩ := some_ret hc
    exact holds_ev prog_ok (allOK_cons ok_impl_IsFinite (allOK_cons ok_math_Floor allOK_nil)) Try.func14 rfl rfl smL_nil rfl (e_impl_WrapTurn real x0 hok)
  · cases hc
def Pure.impl_wrapped_ok (F : FOps) (x0 : Int) : Bool := Pure.impl_WrapTurn_ok F x0
def c_impl_wrapped (F : FOps) : Con
  | [V.at (A.fl FloatKind.f32 x0)], [] => some (Pure.impl_wrapped_ok F x0, ⟨V.at (A.fl FloatKind.f32 (Pure.impl_WrapTurn F x0)), none, []⟩)
  | _, _ => none
theorem e_impl_wrapped (F : FOps) (x0 : Int) : Pure.impl_wrapped_ok F x0 = true → evFn (cxS F tyl [(14, c_impl_WrapTurn F)] [] [] 0) Try.f94 false [V.at (A.fl FloatKind.f32 x0)] [] = some ⟨V.at (A.fl FloatKind.f32 (Pure.impl_WrapTurn F x0)), none, []⟩ := by
  have h0 : evFn (cxS F tyl [(14, c_impl_WrapTurn F)] [] [] 0) Try.f94 false [V.at (A.fl FloatKind.f32 x0)] [] = bif Pure.impl_WrapTurn_ok F x0 then some ⟨V.at (A.fl FloatKind.f32 (Pure.impl_WrapTurn F x0)), none, []⟩ else none := by kernel_rfl
  rw [h0]
  unfold Pure.impl_wrapped_ok
  cases (Pure.impl_WrapTurn_ok F x0) with
  | true =>
    intro _; rfl
  | false =>
    intro h; exact absurd h Bool.false_ne_true
theorem ok_impl_wrapped : CallOK Try.prog 94 (c_impl_wrapped real) := by
  refine callOK_of fun args h ret hc => ?_
  unfold c_impl_wrapped at hc
  split at hc
  · rename_i x0
    obtain ⟨hok, rfl⟩ := some_ret hc
    exact holds_ev prog_ok (allOK_cons ok_impl_WrapTurn allOK_nil) Try.func94 rfl rfl smL_nil rfl (e_impl_wrapped real x0 hok)
  · cases hc
def Pure.impl_State_damped (F : FOps) (x0 : Int) (x1 : Int) (x2 : Int) (x3 : Int) : Int := Pure.impl_WrapTurn F (FOps.bin F BinOp.add FloatKind.f32 x0 (Pure.impl_WrapKick F (FOps.bin F BinOp.add FloatKind.f32 (FOps.bin F BinOp.mul FloatKind.f32 x3 x1) (FOps.bin F BinOp.mul FloatKind.f32 x2 (Pure.impl_SineTurns F x0)))))
def Pure.impl_State_damped_1 (F : FOps) (x0 : Int) (x1 : Int) (x2 : Int) (x3 : Int) : Int := Pure.impl_WrapKick F (FOps.bin F BinOp.add FloatKind.f32 (FOps.bin F BinOp.mul FloatKind.f32 x3 x1) (FOps.bin F BinOp.mul FloatKind.f32 x2 (Pure.impl_SineTurns F x0)))
def Pure.impl_State_damped_ok (F : FOps) (x0 : Int) (x1 : Int) (x2 : Int) (x3 : Int) : Bool := bif Pure.impl_SineTurns_ok F x0 then bif Pure.impl_kicked_ok F (FOps.bin F BinOp.add FloatKind.f32 (FOps.bin F BinOp.mul FloatKind.f32 x3 x1) (FOps.bin F BinOp.mul FloatKind.f32 x2 (Pure.impl_SineTurns F x0))) then Pure.impl_wrapped_ok F (FOps.bin F BinOp.add FloatKind.f32 x0 (Pure.impl_WrapKick F (FOps.bin F BinOp.add FloatKind.f32 (FOps.bin F BinOp.mul FloatKind.f32 x3 x1) (FOps.bin F BinOp.mul FloatKind.f32 x2 (Pure.impl_SineTurns F x0))))) else false else false
def c_impl_State_damped (F : FOps) : Con
  | [V.agg [A.fl FloatKind.f32 x0, A.fl FloatKind.f32 x1], V.at (A.fl FloatKind.f32 x2), V.at (A.fl FloatKind.f32 x3)], [] => some (Pure.impl_State_damped_ok F x0 x1 x2 x3, ⟨V.agg [A.fl FloatKind.f32 (Pure.impl_State_damped F x0 x1 x2 x3), A.fl FloatKind.f32 (Pure.impl_State_damped_1 F x0 x1 x2 x3)], none, []⟩)
  | _, _ => none
theorem e_impl_State_damped (F : FOps) (x0 : Int) (x1 : Int) (x2 : Int) (x3 : Int) : Pure.impl_State_damped_ok F x0 x1 x2 x3 = true → evFn (cxS F tyl [(115, c_impl_SineTurns F), (105, c_impl_kicked F), (94, c_impl_wrapped F)] [] [] 0) Try.f106 false [V.agg [A.fl FloatKind.f32 x0, A.fl FloatKind.f32 x1], V.at (A.fl FloatKind.f32 x2), V.at (A.fl FloatKind.f32 x3)] [] = some ⟨V.agg [A.fl FloatKind.f32 (Pure.impl_State_damped F x0 x1 x2 x3), A.fl FloatKind.f32 (Pure.impl_State_damped_1 F x0 x1 x2 x3)], none, []⟩ := by
  have h0 : evFn (cxS F tyl [(115, c_impl_SineTurns F), (105, c_impl_kicked F), (94, c_impl_wrapped F)] [] [] 0) Try.f106 false [V.agg [A.fl FloatKind.f32 x0, A.fl FloatKind.f32 x1], V.at (A.fl FloatKind.f32 x2), V.at (A.fl FloatKind.f32 x3)] [] = bif Pure.impl_SineTurns_ok F x0 then bif Pure.impl_kicked_ok F (FOps.bin F BinOp.add FloatKind.f32 (FOps.bin F BinOp.mul FloatKind.f32 x3 x1) (FOps.bin F BinOp.mul FloatKind.f32 x2 (Pure.impl_SineTurns F x0))) then bif Pure.impl_wrapped_ok F (FOps.bin F BinOp.add FloatKind.f32 x0 (Pure.impl_WrapKick F (FOps.bin F BinOp.add FloatKind.f32 (FOps.bin F BinOp.mul FloatKind.f32 x3 x1) (FOps.bin F BinOp.mul FloatKind.f32 x2 (Pure.impl_SineTurns F x0))))) then some ⟨V.agg [A.fl FloatKind.f32 (Pure.impl_WrapTurn F (FOps.bin F BinOp.add FloatKind.f32 x0 (Pure.impl_WrapKick F (FOps.bin F BinOp.add FloatKind.f32 (FOps.bin F BinOp.mul FloatKind.f32 x3 x1) (FOps.bin F BinOp.mul FloatKind.f32 x2 (Pure.impl_SineTurns F x0)))))), A.fl FloatKind.f32 (Pure.impl_WrapKick F (FOps.bin F BinOp.add FloatKind.f32 (FOps.bin F BinOp.mul FloatKind.f32 x3 x1) (FOps.bin F BinOp.mul FloatKind.f32 x2 (Pure.impl_SineTurns F x0))))], none, []⟩ else none else none else none := by kernel_rfl
  rw [h0]
  unfold Pure.impl_State_damped Pure.impl_State_damped_1 Pure.impl_State_damped_ok
  cases (Pure.impl_SineTurns_ok F x0) with
  | true =>
    cases (Pure.impl_kicked_ok F (FOps.bin F BinOp.add FloatKind.f32 (FOps.bin F BinOp.mul FloatKind.f32 x3 x1) (FOps.bin F BinOp.mul FloatKind.f32 x2 (Pure.impl_SineTurns F x0)))) with
    | true =>
      cases (Pure.impl_wrapped_ok F (FOps.bin F BinOp.add FloatKind.f32 x0 (Pure.impl_WrapKick F (FOps.bin F BinOp.add FloatKind.f32 (FOps.bin F BinOp.mul FloatKind.f32 x3 x1) (FOps.bin F BinOp.mul FloatKind.f32 x2 (Pure.impl_SineTurns F x0)))))) with
      | true =>
        intro _; rfl
      | false =>
        intro h; exact absurd h Bool.false_ne_true
    | false =>
      intro h; exact absurd h Bool.false_ne_true
  | false =>
    intro h; exact absurd h Bool.false_ne_true
theorem ok_impl_State_damped : CallOK Try.prog 106 (c_impl_State_damped real) := by
  refine callOK_of fun args h ret hc => ?_
  unfold c_impl_State_damped at hc
  split at hc
  · rename_i x0 x1 x2 x3
    obtain ⟨hok, rfl⟩ := some_ret hc
    exact holds_ev prog_ok (allOK_cons ok_impl_SineTurns (allOK_cons ok_impl_kicked (allOK_cons ok_impl_wrapped allOK_nil))) Try.func106 rfl rfl smL_nil rfl (e_impl_State_damped real x0 x1 x2 x3 hok)
  · cases hc
def Pure.impl_State_mapped_ok (F : FOps) (x0 : Int) (x1 : Int) (x2 : Int) : Bool := Pure.impl_State_damped_ok F x0 x1 x2 1065353216
def c_impl_State_mapped (F : FOps) : Con
  | [V.agg [A.fl FloatKind.f32 x0, A.fl FloatKind.f32 x1], V.at (A.fl FloatKind.f32 x2)], [] => some (Pure.impl_State_mapped_ok F x0 x1 x2, ⟨V.agg [A.fl FloatKind.f32 (Pure.impl_State_damped F x0 x1 x2 1065353216), A.fl FloatKind.f32 (Pure.impl_State_damped_1 F x0 x1 x2 1065353216)], none, []⟩)
  | _, _ => none
theorem e_impl_State_mapped (F : FOps) (x0 : Int) (x1 : Int) (x2 : Int) : Pure.impl_State_mapped_ok F x0 x1 x2 = true → evFn (cxS F tyl [(106, c_impl_State_damped F)] [] [] 0) Try.f85 false [V.agg [A.fl FloatKind.f32 x0, A.fl FloatKind.f32 x1], V.at (A.fl FloatKind.f32 x2)] [] = some ⟨V.agg [A.fl FloatKind.f32 (Pure.impl_State_damped F x0 x1 x2 1065353216), A.fl FloatKind.f32 (Pure.impl_State_damped_1 F x0 x1 x2 1065353216)], none, []⟩ := by
  have h0 : evFn (cxS F tyl [(106, c_impl_State_damped F)] [] [] 0) Try.f85 false [V.agg [A.fl FloatKind.f32 x0, A.fl FloatKind.f32 x1], V.at (A.fl FloatKind.f32 x2)] [] = bif Pure.impl_State_damped_ok F x0 x1 x2 1065353216 then some ⟨V.agg [A.fl FloatKind.f32 (Pure.impl_State_damped F x0 x1 x2 1065353216), A.fl FloatKind.f32 (Pure.impl_State_damped_1 F x0 x1 x2 1065353216)], none, []⟩ else none := by kernel_rfl
  rw [h0]
  unfold Pure.impl_State_mapped_ok
  cases (Pure.impl_State_damped_ok F x0 x1 x2 1065353216) with
  | true =>
    intro _; rfl
  | false =>
    intro h; exact absurd h Bool.false_ne_true
theorem ok_impl_State_mapped : CallOK Try.prog 85 (c_impl_State_mapped real) := by
  refine callOK_of fun args h ret hc => ?_
  unfold c_impl_State_mapped at hc
  split at hc
  · rename_i x0 x1 x2
    obtain ⟨hok, rfl⟩ := some_ret hc
    exact holds_ev prog_ok (allOK_cons ok_impl_State_damped allOK_nil) Try.func85 rfl rfl smL_nil rfl (e_impl_State_mapped real x0 x1 x2 hok)
  · cases hc
def Pure.impl_State_along_L0 (F : FOps) (y0 : Int) (y1 : Int) (y5 : Int) (y6 : Int) (y7 : Int) (y8 : Int) : Nat → Int → Int → Int → Int → Int → Int → Int → (Bool × Int × Int × Int × Int)
  | 0, _, _, _, _, _, _, _ => (false, 0, 0, 0, 0)
  | n + 1, y2, y3, y4, y9, y10, y11, y12 => bif (Decidable.decide (y2 < y1)) then (bif (Pure.impl_State_slopes_ok F y3 y4 y0) then (bif (Pure.impl_slopes_times_ok F (Pure.impl_State_slopes F y3 y4 y0) 1065353216 (Pure.impl_State_slopes_1 F y3 y4 y0) 1065353216 (List.getD [y9] 0 0) (List.getD [y10] 0 0) (List.getD [y11] 0 0) (List.getD [y12] 0 0)) then (bif (Pure.impl_State_mapped_ok F y3 y4 y0) then (Pure.impl_State_along_L0 F y0 y1 y5 y6 y7 y8 n (IntKind.wrap IntKind.i64 (y2 + 1)) (Pure.impl_State_damped F y3 y4 y0 1065353216) (Pure.impl_State_damped_1 F y3 y4 y0 1065353216) (Pure.impl_slopes_times F (Pure.impl_State_slopes F y3 y4 y0) 1065353216 (Pure.impl_State_slopes_1 F y3 y4 y0) 1065353216 (List.getD [y9] 0 0) (List.getD [y10] 0 0) (List.getD [y11] 0 0) (List.getD [y12] 0 0)) (Pure.impl_slopes_times_1 F (Pure.impl_State_slopes F y3 y4 y0) 1065353216 (Pure.impl_State_slopes_1 F y3 y4 y0) 1065353216 (List.getD [y9] 0 0) (List.getD [y10] 0 0) (List.getD [y11] 0 0) (List.getD [y12] 0 0)) (Pure.impl_slopes_times_2 F (Pure.impl_State_slopes F y3 y4 y0) 1065353216 (Pure.impl_State_slopes_1 F y3 y4 y0) 1065353216 (List.getD [y9] 0 0) (List.getD [y10] 0 0) (List.getD [y11] 0 0) (List.getD [y12] 0 0)) (Pure.impl_slopes_times_3 F (Pure.impl_State_slopes F y3 y4 y0) 1065353216 (Pure.impl_State_slopes_1 F y3 y4 y0) 1065353216 (List.getD [y9] 0 0) (List.getD [y10] 0 0) (List.getD [y11] 0 0) (List.getD [y12] 0 0))) else ((false, 0, 0, 0, 0))) else ((false, 0, 0, 0, 0))) else ((false, 0, 0, 0, 0))) else ((true, y9, y10, y11, y12))
def R_impl_State_along_L0 (y5 : Int) (y6 : Int) (y7 : Int) (y8 : Int) (r : (Bool × Int × Int × Int × Int)) : Bool × Bool × (Ex × List V × List Ob) × (Ex × List V × List Ob) := ((r).1, false, (Ex.normal, [V.at (A.ptr 0 0 0), V.at (A.ptr 1 0 0)], [⟨true, OC.rows [K.f FloatKind.f32] [[y5], [y6], [y7], [y8]]⟩, ⟨true, OC.rows [K.f FloatKind.f32] [[(r).2.1], [(r).2.2.1], [(r).2.2.2.1], [(r).2.2.2.2]]⟩]), (Ex.normal, [V.at (A.ptr 0 0 0), V.at (A.ptr 1 0 0)], [⟨true, OC.rows [K.f FloatKind.f32] [[y5], [y6], [y7], [y8]]⟩, ⟨true, OC.rows [K.f FloatKind.f32] [[(r).2.1], [(r).2.2.1], [(r).2.2.2.1], [(r).2.2.2.2]]⟩]))
def S_impl_State_along_L0 (F : FOps) : Sm := ⟨[1, 3, 6, 7, 9, 10], [24, 0, 0, 0, 2, 2], [6, 7], fun vals hp => match vals, hp with
  | [V.at (A.fl FloatKind.f32 y0), V.at (A.ptr 0 0 0), V.at (A.ptr 1 0 0), V.at (A.ptr 2 0 0), V.at (A.int IntKind.i64 y1), V.at (A.int IntKind.i64 y2)], [⟨true, OC.box [A.fl FloatKind.f32 y3, A.fl FloatKind.f32 y4]⟩, ⟨true, OC.rows [K.f FloatKind.f32] [[y5], [y6], [y7], [y8]]⟩, ⟨true, OC.rows [K.f FloatKind.f32] [[y9], [y10], [y11], [y12]]⟩] => some (R_impl_State_along_L0 y5 y6 y7 y8 (Pure.impl_State_along_L0 F y0 y1 y5 y6 y7 y8 (y1 - y2 + 1).toNat y2 y3 y4 y9 y10 y11 y12))
  | _, _ => none⟩
theorem l_impl_State_along_L0 (F : FOps) (y0 : Int) (y1 : Int) (y5 : Int) (y6 : Int) (y7 : Int) (y8 : Int) : ∀ (fuel : Nat) (y2 : Int) (y3 : Int) (y4 : Int) (y9 : Int) (y10 : Int) (y11 : Int) (y12 : Int), (Pure.impl_State_along_L0 F y0 y1 y5 y6 y7 y8 fuel y2 y3 y4 y9 y10 y11 y12).1 = true → loopOf (cxS F tyl [(82, c_impl_State_slopes F), (108, c_impl_slopes_times F), (85, c_impl_State_mapped F)] [] [] 0) 0 22 0 [1, 3, 6, 7, 9, 10] [24, 0, 0, 0, 2, 2] [6, 7] (loopB 0 (codeOf Try.f72)) fuel [V.at (A.fl FloatKind.f32 y0), V.at (A.ptr 0 0 0), V.at (A.ptr 1 0 0), V.at (A.ptr 2 0 0), V.at (A.int IntKind.i64 y1), V.at (A.int IntKind.i64 y2)] [⟨true, OC.box [A.fl FloatKind.f32 y3, A.fl FloatKind.f32 y4]⟩, ⟨true, OC.rows [K.f FloatKind.f32] [[y5], [y6], [y7], [y8]]⟩, ⟨true, OC.rows [K.f FloatKind.f32] [[y9], [y10], [y11], [y12]]⟩] = resOf (R_impl_State_along_L0 y5 y6 y7 y8 (Pure.impl_State_along_L0 F y0 y1 y5 y6 y7 y8 fuel y2 y3 y4 y9 y10 y11 y12)) := by
  intro fuel
  induction fuel with
  | zero => intro y2 y3 y4 y9 y10 y11 y12 h; exact absurd h Bool.false_ne_true
  | succ n ih =>
    intro y2 y3 y4 y9 y10 y11 y12
    have h0 : roundOf (cxS F tyl [(82, c_impl_State_slopes F), (108, c_impl_slopes_times F), (85, c_impl_State_mapped F)] [] [] 0) 0 22 0 [1, 3, 6, 7, 9, 10] [24, 0, 0, 0, 2, 2] [6, 7] (loopB 0 (codeOf Try.f72)) [V.at (A.fl FloatKind.f32 y0), V.at (A.ptr 0 0 0), V.at (A.ptr 1 0 0), V.at (A.ptr 2 0 0), V.at (A.int IntKind.i64 y1), V.at (A.int IntKind.i64 y2)] [⟨true, OC.box [A.fl FloatKind.f32 y3, A.fl FloatKind.f32 y4]⟩, ⟨true, OC.rows [K.f FloatKind.f32] [[y5], [y6], [y7], [y8]]⟩, ⟨true, OC.rows [K.f FloatKind.f32] [[y9], [y10], [y11], [y12]]⟩] = (bif Decidable.decide (y2 < y1) then bif Pure.impl_State_slopes_ok F y3 y4 y0 then bif Pure.impl_slopes_times_ok F (Pure.impl_State_slopes F y3 y4 y0) 1065353216 (Pure.impl_State_slopes_1 F y3 y4 y0) 1065353216 (List.getD [y9] 0 0) (List.getD [y10] 0 0) (List.getD [y11] 0 0) (List.getD [y12] 0 0) then bif Pure.impl_State_mapped_ok F y3 y4 y0 then some (true, (Ex.normal, ([V.at (A.fl FloatKind.f32 y0), V.at (A.ptr 0 0 0), V.at (A.ptr 1 0 0), V.at (A.ptr 2 0 0), V.at (A.int IntKind.i64 y1), V.at (A.int IntKind.i64 (IntKind.wrap IntKind.i64 (y2 + 1)))], [⟨true, OC.box [A.fl FloatKind.f32 (Pure.impl_State_damped F y3 y4 y0 1065353216), A.fl FloatKind.f32 (Pure.impl_State_damped_1 F y3 y4 y0 1065353216)]⟩, ⟨true, OC.rows [K.f FloatKind.f32] [[y5], [y6], [y7], [y8]]⟩, ⟨true, OC.rows [K.f FloatKind.f32] [[Pure.impl_slopes_times F (Pure.impl_State_slopes F y3 y4 y0) 1065353216 (Pure.impl_State_slopes_1 F y3 y4 y0) 1065353216 (List.getD [y9] 0 0) (List.getD [y10] 0 0) (List.getD [y11] 0 0) (List.getD [y12] 0 0)], [Pure.impl_slopes_times_1 F (Pure.impl_State_slopes F y3 y4 y0) 1065353216 (Pure.impl_State_slopes_1 F y3 y4 y0) 1065353216 (List.getD [y9] 0 0) (List.getD [y10] 0 0) (List.getD [y11] 0 0) (List.getD [y12] 0 0)], [Pure.impl_slopes_times_2 F (Pure.impl_State_slopes F y3 y4 y0) 1065353216 (Pure.impl_State_slopes_1 F y3 y4 y0) 1065353216 (List.getD [y9] 0 0) (List.getD [y10] 0 0) (List.getD [y11] 0 0) (List.getD [y12] 0 0)], [Pure.impl_slopes_times_3 F (Pure.impl_State_slopes F y3 y4 y0) 1065353216 (Pure.impl_State_slopes_1 F y3 y4 y0) 1065353216 (List.getD [y9] 0 0) (List.getD [y10] 0 0) (List.getD [y11] 0 0) (List.getD [y12] 0 0)]]⟩]))) else none else none else none else some (false, (Ex.normal, ([V.at (A.ptr 0 0 0), V.at (A.ptr 1 0 0)], [⟨true, OC.rows [K.f FloatKind.f32] [[y5], [y6], [y7], [y8]]⟩, ⟨true, OC.rows [K.f FloatKind.f32] [[y9], [y10], [y11], [y12]]⟩])))) := by kernel_rfl
    unfold loopOf
    rw [h0]
    unfold Pure.impl_State_along_L0
    cases (Decidable.decide (y2 < y1)) with
    | true =>
      cases (Pure.impl_State_slopes_ok F y3 y4 y0) with
      | true =>
        cases (Pure.impl_slopes_times_ok F (Pure.impl_State_slopes F y3 y4 y0) 1065353216 (Pure.impl_State_slopes_1 F y3 y4 y0) 1065353216 (List.getD [y9] 0 0) (List.getD [y10] 0 0) (List.getD [y11] 0 0) (List.getD [y12] 0 0)) with
        | true =>
          cases (Pure.impl_State_mapped_ok F y3 y4 y0) with
          | true =>
            exact ih _ _ _ _ _ _ _
          | false =>
            intro h; exact absurd h Bool.false_ne_true
        | false =>
          intro h; exact absurd h Bool.false_ne_true
      | false =>
        intro h; exact absurd h Bool.false_ne_true
    | false =>
      intro _; rfl
theorem t_impl_State_along_L0 : SmTo Try.prog 0 22 (S_impl_State_along_L0 real) 0 (.loop (loopB 0 (codeOf Try.f72))) := by
  refine smTo_ev (cl := [(82, c_impl_State_slopes real), (108, c_impl_slopes_times real), (85, c_impl_State_mapped real)]) (ef := []) (sm := []) (un := 0) prog_ok (allOK_cons ok_impl_State_slopes (allOK_cons ok_impl_slopes_times (allOK_cons ok_impl_State_mapped allOK_nil))) smL_nil ?_
  intro vals hp q r h hq
  unfold S_impl_State_along_L0 at h
  dsimp only at h
  split at h
  · rename_i y0 y1 y2 y3 y4 y5 y6 y7 y8 y9 y10 y11 y12
    obtain rfl := Option.some.inj h
    have h1 := hq
    unfold resOf at h1
    rw [chk_some] at h1
    exact ⟨_, (l_impl_State_along_L0 real y0 y1 y5 y6 y7 y8 _ y2 y3 y4 y9 y10 y11 y12 h1.1).trans hq⟩
  · cases h
def Pure.impl_State_along (F : FOps) (x0 : Int) (x1 : Int) (x2 : Int) (x3 : Int) : Int := List.getD [List.getD [Prod.fst (Prod.snd (Pure.impl_State_along_L0 F x2 x3 0 0 0 0 (Int.toNat ((x3 - 0) + 1)) 0 x0 x1 1065353216 0 0 1065353216))] 0 0] 0 0
def Pure.impl_State_along_1 (F : FOps) (x0 : Int) (x1 : Int) (x2 : Int) (x3 : Int) : Int := List.getD [List.getD [Prod.fst (Prod.snd (Prod.snd (Pure.impl_State_along_L0 F x2 x3 0 0 0 0 (Int.toNat ((x3 - 0) + 1)) 0 x0 x1 1065353216 0 0 1065353216)))] 0 0] 0 0
def Pure.impl_State_along_2 (F : FOps) (x0 : Int) (x1 : Int) (x2 : Int) (x3 : Int) : Int := List.getD [List.getD [Prod.fst (Prod.snd (Prod.snd (Prod.snd (Pure.impl_State_along_L0 F x2 x3 0 0 0 0 (Int.toNat ((x3 - 0) + 1)) 0 x0 x1 1065353216 0 0 1065353216))))] 0 0] 0 0
def Pure.impl_State_along_3 (F : FOps) (x0 : Int) (x1 : Int) (x2 : Int) (x3 : Int) : Int := List.getD [List.getD [Prod.snd (Prod.snd (Prod.snd (Prod.snd (Pure.impl_State_along_L0 F x2 x3 0 0 0 0 (Int.toNat ((x3 - 0) + 1)) 0 x0 x1 1065353216 0 0 1065353216))))] 0 0] 0 0
def Pure.impl_State_along_ok (F : FOps) (x0 : Int) (x1 : Int) (x2 : Int) (x3 : Int) : Bool := Prod.fst (Pure.impl_State_along_L0 F x2 x3 0 0 0 0 (Int.toNat ((x3 - 0) + 1)) 0 x0 x1 1065353216 0 0 1065353216)
def c_impl_State_along (F : FOps) : Con
  | [V.agg [A.fl FloatKind.f32 x0, A.fl FloatKind.f32 x1], V.at (A.fl FloatKind.f32 x2), V.at (A.int IntKind.i64 x3)], [] => some (Pure.impl_State_along_ok F x0 x1 x2 x3, ⟨V.agg [A.fl FloatKind.f32 (Pure.impl_State_along F x0 x1 x2 x3), A.fl FloatKind.f32 (Pure.impl_State_along_1 F x0 x1 x2 x3), A.fl FloatKind.f32 (Pure.impl_State_along_2 F x0 x1 x2 x3), A.fl FloatKind.f32 (Pure.impl_State_along_3 F x0 x1 x2 x3)], none, []⟩)
  | _, _ => none
theorem e_impl_State_along (F : FOps) (x0 : Int) (x1 : Int) (x2 : Int) (x3 : Int) : Pure.impl_State_along_ok F x0 x1 x2 x3 = true → evFn (cxS F tyl [(82, c_impl_State_slopes F), (108, c_impl_slopes_times F), (85, c_impl_State_mapped F)] [] [(0, S_impl_State_along_L0 F)] 0) Try.f72 false [V.agg [A.fl FloatKind.f32 x0, A.fl FloatKind.f32 x1], V.at (A.fl FloatKind.f32 x2), V.at (A.int IntKind.i64 x3)] [] = some ⟨V.agg [A.fl FloatKind.f32 (Pure.impl_State_along F x0 x1 x2 x3), A.fl FloatKind.f32 (Pure.impl_State_along_1 F x0 x1 x2 x3), A.fl FloatKind.f32 (Pure.impl_State_along_2 F x0 x1 x2 x3), A.fl FloatKind.f32 (Pure.impl_State_along_3 F x0 x1 x2 x3)], none, []⟩ := by
  have h0 : evFn (cxS F tyl [(82, c_impl_State_slopes F), (108, c_impl_slopes_times F), (85, c_impl_State_mapped F)] [] [(0, S_impl_State_along_L0 F)] 0) Try.f72 false [V.agg [A.fl FloatKind.f32 x0, A.fl FloatKind.f32 x1], V.at (A.fl FloatKind.f32 x2), V.at (A.int IntKind.i64 x3)] [] = bif Prod.fst (Pure.impl_State_along_L0 F x2 x3 0 0 0 0 (Int.toNat ((x3 - 0) + 1)) 0 x0 x1 1065353216 0 0 1065353216) then some ⟨V.agg [A.fl FloatKind.f32 (List.getD [List.getD [Prod.fst (Prod.snd (Pure.impl_State_along_L0 F x2 x3 0 0 0 0 (Int.toNat ((x3 - 0) + 1)) 0 x0 x1 1065353216 0 0 1065353216))] 0 0] 0 0), A.fl FloatKind.f32 (List.getD [List.getD [Prod.fst (Prod.snd (Prod.snd (Pure.impl_State_along_L0 F x2 x3 0 0 0 0 (Int.toNat ((x3 - 0) + 1)) 0 x0 x1 1065353216 0 0 1065353216)))] 0 0] 0 0), A.fl FloatKind.f32 (List.getD [List.getD [Prod.fst (Prod.snd (Prod.snd (Prod.snd (Pure.impl_State_along_L0 F x2 x3 0 0 0 0 (Int.toNat ((x3 - 0) + 1)) 0 x0 x1 1065353216 0 0 1065353216))))] 0 0] 0 0), A.fl FloatKind.f32 (List.getD [List.getD [Prod.snd (Prod.snd (Prod.snd (Prod.snd (Pure.impl_State_along_L0 F x2 x3 0 0 0 0 (Int.toNat ((x3 - 0) + 1)) 0 x0 x1 1065353216 0 0 1065353216))))] 0 0] 0 0)], none, []⟩ else none := by kernel_rfl
  rw [h0]
  unfold Pure.impl_State_along Pure.impl_State_along_1 Pure.impl_State_along_2 Pure.impl_State_along_3 Pure.impl_State_along_ok
  cases (Prod.fst (Pure.impl_State_along_L0 F x2 x3 0 0 0 0 (Int.toNat ((x3 - 0) + 1)) 0 x0 x1 1065353216 0 0 1065353216)) with
  | true =>
    intro _; rfl
  | false =>
    intro h; exact absurd h Bool.false_ne_true
theorem ok_impl_State_along : CallOK Try.prog 72 (c_impl_State_along real) := by
  refine callOK_of fun args h ret hc => ?_
  unfold c_impl_State_along at hc
  split at hc
  · rename_i x0 x1 x2 x3
    obtain ⟨hok, rfl⟩ := some_ret hc
    exact holds_ev prog_ok (allOK_cons ok_impl_State_slopes (allOK_cons ok_impl_slopes_times (allOK_cons ok_impl_State_mapped allOK_nil))) Try.func72 rfl rfl (smL_cons (body := .loop (loopB 0 (codeOf Try.f72))) (by kernel_rfl) t_impl_State_along_L0 smL_nil) rfl (e_impl_State_along real x0 x1 x2 x3 hok)
  · cases hc
def Pure.impl_finite (F : FOps) (x0 : List (List Int)) : Bool := bif Pure.slices_ContainsFunc_float32_float32_finite F x0 then false else true
def Pure.impl_finite_ok (F : FOps) (x0 : List (List Int)) : Bool := Pure.slices_ContainsFunc_float32_float32_finite_ok F x0
def c_impl_finite (F : FOps) : Con
  | [V.at (A.sl 0)], [⟨false, OC.rows [K.f FloatKind.f32] x0⟩] => some (Pure.impl_finite_ok F x0, ⟨V.at (A.bool (Pure.impl_finite F x0)), none, []⟩)
  | _, _ => none
theorem e_impl_finite (F : FOps) (x0 : List (List Int)) : Pure.impl_finite_ok F x0 = true → evFn (cxS F tyl [(92, c_slices_ContainsFunc_float32_float32_finite F), (93, c_impl_finite_c1 F)] [] [] 0) Try.f49 false [V.at (A.sl 0)] [⟨false, OC.rows [K.f FloatKind.f32] x0⟩] = some ⟨V.at (A.bool (Pure.impl_finite F x0)), none, []⟩ := by
  have h0 : evFn (cxS F tyl [(92, c_slices_ContainsFunc_float32_float32_finite F), (93, c_impl_finite_c1 F)] [] [] 0) Try.f49 false [V.at (A.sl 0)] [⟨false, OC.rows [K.f FloatKind.f32] x0⟩] = bif Pure.slices_ContainsFunc_float32_float32_finite_ok F x0 then some ⟨V.at (A.bool (bif Pure.slices_ContainsFunc_float32_float32_finite F x0 then false else true)), none, []⟩ else none := by kernel_rfl
  rw [h0]
  unfold Pure.impl_finite Pure.impl_finite_ok
  cases (Pure.slices_ContainsFunc_float32_float32_finite_ok F x0) with
  | true =>
    intro _; rfl
  | false =>
    intro h; exact absurd h Bool.false_ne_true
theorem ok_impl_finite : CallOK Try.prog 49 (c_impl_finite real) := by
  refine callOK_of fun args h ret hc => ?_
  unfold c_impl_finite at hc
  split at hc
  · rename_i x0
    obtain ⟨hok, rfl⟩ := some_ret hc
    exact holds_ev prog_ok (allOK_cons ok_slices_ContainsFunc_float32_float32_finite (allOK_cons ok_impl_finite_c1 allOK_nil)) Try.func49 rfl rfl smL_nil rfl (e_impl_finite real x0 hok)
  · cases hc
def Pure.impl_toldNumbers_way (F : FOps) (x0 : List (List Int)) : Bool := Pure.impl_finite F x0
def Pure.impl_toldNumbers_okA (F : FOps) (x0 : List (List Int)) : Bool := Pure.impl_finite_ok F x0
def Pure.impl_toldNumbers_okB (F : FOps) (x0 : List (List Int)) : Bool := Pure.impl_finite_ok F x0
def c2_impl_toldNumbers (F : FOps) : Con2
  | [V.at (A.sl 0)], [⟨false, OC.rows [K.f FloatKind.f32] x0⟩] => some (Pure.impl_toldNumbers_way F x0, (Pure.impl_toldNumbers_okA F x0, ⟨V.tup [(false, [A.sl 0]), (false, [A.bool true])], none, []⟩), (Pure.impl_toldNumbers_okB F x0, ⟨V.tup [(false, [A.sl 1]), (false, [A.bool false])], none, [⟨true, OC.rows [K.f FloatKind.f32] []⟩]⟩))
  | _, _ => none
theorem e2_impl_toldNumbers_true (F : FOps) (x0 : List (List Int)) : Pure.impl_toldNumbers_way F x0 = true → Pure.impl_toldNumbers_okA F x0 = true → evFn (cxS F tyl [(49, c_impl_finite F)] [] [] 0) Try.f73 false [V.at (A.sl 0)] [⟨false, OC.rows [K.f FloatKind.f32] x0⟩] = some ⟨V.tup [(false, [A.sl 0]), (false, [A.bool true])], none, []⟩ := by
  have h0 : evFn (cxS F tyl [(49, c_impl_finite F)] [] [] 0) Try.f73 false [V.at (A.sl 0)] [⟨false, OC.rows [K.f FloatKind.f32] x0⟩] = bif Pure.impl_finite_ok F x0 then bif Bool.not (Pure.impl_finite F x0) then some ⟨V.tup [(false, [A.sl 1]), (false, [A.bool false])], none, [⟨true, OC.rows [K.f FloatKind.f32] []⟩]⟩ else some ⟨V.tup [(false, [A.sl 0]), (false, [A.bool true])], none, []⟩ else none := by kernel_rfl
  rw [h0]
  unfold Pure.impl_toldNumbers_way Pure.impl_toldNumbers_okA
  cases (Pure.impl_finite_ok F x0) with
  | true =>
    cases (Pure.impl_finite F x0) with
    | true =>
      intro h1 h2; first | rfl | cases h1 | cases h2
    | false =>
      intro h1 h2; first | rfl | cases h1 | cases h2
  | false =>
    intro h1 h2; first | rfl | cases h1 | cases h2
theorem e2_impl_toldNumbers_false (F : FOps) (x0 : List (List Int)) : Pure.impl_toldNumbers_way F x0 = false → Pure.impl_toldNumbers_okB F x0 = true → evFn (cxS F tyl [(49, c_impl_finite F)] [] [] 0) Try.f73 false [V.at (A.sl 0)] [⟨false, OC.rows [K.f FloatKind.f32] x0⟩] = some ⟨V.tup [(false, [A.sl 1]), (false, [A.bool false])], none, [⟨true, OC.rows [K.f FloatKind.f32] []⟩]⟩ := by
  have h0 : evFn (cxS F tyl [(49, c_impl_finite F)] [] [] 0) Try.f73 false [V.at (A.sl 0)] [⟨false, OC.rows [K.f FloatKind.f32] x0⟩] = bif Pure.impl_finite_ok F x0 then bif Bool.not (Pure.impl_finite F x0) then some ⟨V.tup [(false, [A.sl 1]), (false, [A.bool false])], none, [⟨true, OC.rows [K.f FloatKind.f32] []⟩]⟩ else some ⟨V.tup [(false, [A.sl 0]), (false, [A.bool true])], none, []⟩ else none := by kernel_rfl
  rw [h0]
  unfold Pure.impl_toldNumbers_way Pure.impl_toldNumbers_okB
  cases (Pure.impl_finite_ok F x0) with
  | true =>
    cases (Pure.impl_finite F x0) with
    | true =>
      intro h1 h2; first | rfl | cases h1 | cases h2
    | false =>
      intro h1 h2; first | rfl | cases h1 | cases h2
  | false =>
    intro h1 h2; first | rfl | cases h1 | cases h2
theorem ok2_impl_toldNumbers : TwoOK Try.prog 73 (c2_impl_toldNumbers real) := by
  intro args h b x y r news hc hb
  unfold c2_impl_toldNumbers at hc
  split at hc
  · rename_i x0
    obtain ⟨rfl, rfl, rfl⟩ := two_ret hc
    cases hq : Pure.impl_toldNumbers_way real x0 with
    | true =>
      rw [hq] at hb
      obtain ⟨hok, hr⟩ := ret_two hb
      have he := e2_impl_toldNumbers_true real x0 hq hok
      rw [hr] at he
      exact holds_ev prog_ok (allOK_cons ok_impl_finite allOK_nil) Try.func73 rfl rfl smL_nil rfl he
    | false =>
      rw [hq] at hb
      obtain ⟨hok, hr⟩ := ret_two hb
      have he := e2_impl_toldNumbers_false real x0 hq hok
      rw [hr] at he
      exact holds_ev prog_ok (allOK_cons ok_impl_finite allOK_nil) Try.func73 rfl rfl smL_nil rfl he
  · cases hc
def Pure.impl_SlopesAlong (F : FOps) (x0 : Int) (x1 : Int) (x2 : Int) (x3 : Int) : Bool := bif Pure.impl_stateOk F x0 x1 x2 then bif Pure.impl_in F x3 0 128 then Pure.impl_toldNumbers_way F [[Pure.impl_State_along F x0 x1 x2 x3], [Pure.impl_State_along_1 F x0 x1 x2 x3], [Pure.impl_State_along_2 F x0 x1 x2 x3], [Pure.impl_State_along_3 F x0 x1 x2 x3]] else false else false
def Pure.impl_SlopesAlong_1 (F : FOps) (x0 : Int) (x1 : Int) (x2 : Int) (x3 : Int) : List (List Int) := bif Pure.impl_stateOk F x0 x1 x2 then bif Pure.impl_in F x3 0 128 then bif Pure.impl_toldNumbers_way F [[Pure.impl_State_along F x0 x1 x2 x3], [Pure.impl_State_along_1 F x0 x1 x2 x3], [Pure.impl_State_along_2 F x0 x1 x2 x3], [Pure.impl_State_along_3 F x0 x1 x2 x3]] then [[Pure.impl_State_along F x0 x1 x2 x3], [Pure.impl_State_along_1 F x0 x1 x2 x3], [Pure.impl_State_along_2 F x0 x1 x2 x3], [Pure.impl_State_along_3 F x0 x1 x2 x3]] else [] else [] else []
def Pure.impl_SlopesAlong_ok (F : FOps) (x0 : Int) (x1 : Int) (x2 : Int) (x3 : Int) : Bool := bif Pure.impl_stateOk F x0 x1 x2 then bif Pure.impl_in F x3 0 128 then bif Pure.impl_State_along_ok F x0 x1 x2 x3 then bif Pure.impl_toldNumbers_way F [[Pure.impl_State_along F x0 x1 x2 x3], [Pure.impl_State_along_1 F x0 x1 x2 x3], [Pure.impl_State_along_2 F x0 x1 x2 x3], [Pure.impl_State_along_3 F x0 x1 x2 x3]] then Pure.impl_toldNumbers_okA F [[Pure.impl_State_along F x0 x1 x2 x3], [Pure.impl_State_along_1 F x0 x1 x2 x3], [Pure.impl_State_along_2 F x0 x1 x2 x3], [Pure.impl_State_along_3 F x0 x1 x2 x3]] else Pure.impl_toldNumbers_okB F [[Pure.impl_State_along F x0 x1 x2 x3], [Pure.impl_State_along_1 F x0 x1 x2 x3], [Pure.impl_State_along_2 F x0 x1 x2 x3], [Pure.impl_State_along_3 F x0 x1 x2 x3]] else false else true else true
def c_impl_SlopesAlong (F : FOps) : Con
  | [V.agg [A.fl FloatKind.f32 x0, A.fl FloatKind.f32 x1], V.at (A.fl FloatKind.f32 x2), V.at (A.int IntKind.i64 x3)], [] => some (Pure.impl_SlopesAlong_ok F x0 x1 x2 x3, ⟨V.tup [(false, [A.sl 0]), (false, [A.bool (Pure.impl_SlopesAlong F x0 x1 x2 x3)])], none, [⟨true, OC.rows [K.f FloatKind.f32] (Pure.impl_SlopesAlong_1 F x0 x1 x2 x3)⟩]⟩)
  | _, _ => none
theorem e_impl_SlopesAlong (F : FOps) (x0 : Int) (x1 : Int) (x2 : Int) (x3 : Int) : Pure.impl_SlopesAlong_ok F x0 x1 x2 x3 = true → evFn (cxS F tyl [(71, c_impl_stateOk F), (51, c_impl_in F), (72, c_impl_State_along F)] [] [] 0 [(73, c2_impl_toldNumbers F)]) Try.f32 false [V.agg [A.fl FloatKind.f32 x0, A.fl FloatKind.f32 x1], V.at (A.fl FloatKind.f32 x2), V.at (A.int IntKind.i64 x3)] [] = some ⟨V.tup [(false, [A.sl 0]), (false, [A.bool (Pure.impl_SlopesAlong F x0 x1 x2 x3)])], none, [⟨true, OC.rows [K.f FloatKind.f32] (Pure.impl_SlopesAlong_1 F x0 x1 x2 x3)⟩]⟩ := by
  have h0 : evFn (cxS F tyl [(71, c_impl_stateOk F), (51, c_impl_in F), (72, c_impl_State_along F)] [] [] 0 [(73, c2_impl_toldNumbers F)]) Try.f32 false [V.agg [A.fl FloatKind.f32 x0, A.fl FloatKind.f32 x1], V.at (A.fl FloatKind.f32 x2), V.at (A.int IntKind.i64 x3)] [] = bif Bool.not (Pure.impl_stateOk F x0 x1 x2) then some ⟨V.tup [(false, [A.sl 0]), (false, [A.bool false])], none, [⟨true, OC.rows [K.f FloatKind.f32] []⟩]⟩ else bif Bool.not (Pure.impl_in F x3 0 128) then some ⟨V.tup [(false, [A.sl 0]), (false, [A.bool false])], none, [⟨true, OC.rows [K.f FloatKind.f32] []⟩]⟩ else bif Pure.impl_State_along_ok F x0 x1 x2 x3 then bif Pure.impl_toldNumbers_way F [[Pure.impl_State_along F x0 x1 x2 x3], [Pure.impl_State_along_1 F x0 x1 x2 x3], [Pure.impl_State_along_2 F x0 x1 x2 x3], [Pure.impl_State_along_3 F x0 x1 x2 x3]] then bif Pure.impl_toldNumbers_okA F [[Pure.impl_State_along F x0 x1 x2 x3], [Pure.impl_State_along_1 F x0 x1 x2 x3], [Pure.impl_State_along_2 F x0 x1 x2 x3], [Pure.impl_State_along_3 F x0 x1 x2 x3]] then some ⟨V.tup [(false, [A.sl 0]), (false, [A.bool true])], none, [⟨true, OC.rows [K.f FloatKind.f32] [[Pure.impl_State_along F x0 x1 x2 x3], [Pure.impl_State_along_1 F x0 x1 x2 x3], [Pure.impl_State_along_2 F x0 x1 x2 x3], [Pure.impl_State_along_3 F x0 x1 x2 x3]]⟩]⟩ else none else bif Pure.impl_toldNumbers_okB F [[Pure.impl_State_along F x0 x1 x2 x3], [Pure.impl_State_along_1 F x0 x1 x2 x3], [Pure.impl_State_along_2 F x0 x1 x2 x3], [Pure.impl_State_along_3 F x0 x1 x2 x3]] then some ⟨V.tup [(false, [A.sl 0]), (false, [A.bool false])], none, [⟨true, OC.rows [K.f FloatKind.f32] []⟩]⟩ else none else none := by kernel_rfl
  rw [h0]
  unfold Pure.impl_SlopesAlong Pure.impl_SlopesAlong_1 Pure.impl_SlopesAlong_ok
  cases (Pure.impl_stateOk F x0 x1 x2) with
  | true =>
    cases (Pure.impl_in F x3 0 128) with
    | true =>
      cases (Pure.impl_State_along_ok F x0 x1 x2 x3) with
      | true =>
        cases (Pure.impl_toldNumbers_way F [[Pure.impl_State_along F x0 x1 x2 x3], [Pure.impl_State_along_1 F x0 x1 x2 x3], [Pure.impl_State_along_2 F x0 x1 x2 x3], [Pure.impl_State_along_3 F x0 x1 x2 x3]]) with
        | true =>
          cases (Pure.impl_toldNumbers_okA F [[Pure.impl_State_along F x0 x1 x2 x3], [Pure.impl_State_along_1 F x0 x1 x2 x3], [Pure.impl_State_along_2 F x0 x1 x2 x3], [Pure.impl_State_along_3 F x0 x1 x2 x3]]) with
          | true =>
            intro _; rfl
          | false =>
            intro h; exact absurd h Bool.false_ne_true
        | false =>
          cases (Pure.impl_toldNumbers_okB F [[Pure.impl_State_along F x0 x1 x2 x3], [Pure.impl_State_along_1 F x0 x1 x2 x3], [Pure.impl_State_along_2 F x0 x1 x2 x3], [Pure.impl_State_along_3 F x0 x1 x2 x3]]) with
          | true =>
            intro _; rfl
          | false =>
            intro h; exact absurd h Bool.false_ne_true
      | false =>
        intro h; exact absurd h Bool.false_ne_true
    | false =>
      intro _; rfl
  | false =>
    intro _; rfl
theorem ok_impl_SlopesAlong : CallOK Try.prog 32 (c_impl_SlopesAlong real) := by
  refine callOK_of fun args h ret hc => ?_
  unfold c_impl_SlopesAlong at hc
  split at hc
  · rename_i x0 x1 x2 x3
    obtain ⟨hok, rfl⟩ := some_ret hc
    exact holds_ev2 prog_ok (allOK_cons ok_impl_stateOk (allOK_cons ok_impl_in (allOK_cons ok_impl_State_along allOK_nil))) (allTwo_cons ok2_impl_toldNumbers allTwo_nil) Try.func32 rfl rfl smL_nil rfl (e_impl_SlopesAlong real x0 x1 x2 x3 hok)
  · cases hc
def Pure.laws_sameFloat (F : FOps) (x0 : Int) (x1 : Int) : Bool := bif FOps.cmp F BinOp.neq FloatKind.f64 x0 x0 then FOps.cmp F BinOp.neq FloatKind.f64 x1 x1 else bif FOps.cmp F BinOp.neq FloatKind.f64 x1 x1 then false else bif FOps.cmp F BinOp.eql FloatKind.f64 x0 0 then bif FOps.cmp F BinOp.eql FloatKind.f64 x1 0 then (FOps.cmp F BinOp.gtr FloatKind.f64 (FOps.bin F BinOp.quo FloatKind.f64 4607182418800017408 x0) 0) == (FOps.cmp F BinOp.gtr FloatKind.f64 (FOps.bin F BinOp.quo FloatKind.f64 4607182418800017408 x1) 0) else FOps.cmp F BinOp.eql FloatKind.f64 x0 x1 else FOps.cmp F BinOp.eql FloatKind.f64 x0 x1
def c_laws_sameFloat (F : FOps) : Con
  | [V.at (A.fl FloatKind.f64 x0), V.at (A.fl FloatKind.f64 x1)], [] => some (true, ⟨V.at (A.bool (Pure.laws_sameFloat F x0 x1)), none, []⟩)
  | _, _ => none
theorem e_laws_sameFloat (F : FOps) (x0 : Int) (x1 : Int) : evFn (cxS F tyl [] [] [] 0) Try.f24 false [V.at (A.fl FloatKind.f64 x0), V.at (A.fl FloatKind.f64 x1)] [] = some ⟨V.at (A.bool (Pure.laws_sameFloat F x0 x1)), none, []⟩ := by
  have h0 : evFn (cxS F tyl [] [] [] 0) Try.f24 false [V.at (A.fl FloatKind.f64 x0), V.at (A.fl FloatKind.f64 x1)] [] = bif FOps.cmp F BinOp.neq FloatKind.f64 x0 x0 then bif FOps.cmp F BinOp.neq FloatKind.f64 x0 x0 then some ⟨V.at (A.bool (FOps.cmp F BinOp.neq FloatKind.f64 x1 x1)), none, []⟩ else some ⟨V.at (A.bool false), none, []⟩ else bif FOps.cmp F BinOp.neq FloatKind.f64 x1 x1 then bif FOps.cmp F BinOp.neq FloatKind.f64 x0 x0 then some ⟨V.at (A.bool (FOps.cmp F BinOp.neq FloatKind.f64 x1 x1)), none, []⟩ else some ⟨V.at (A.bool false), none, []⟩ else bif FOps.cmp F BinOp.eql FloatKind.f64 x0 0 then bif FOps.cmp F BinOp.eql FloatKind.f64 x1 0 then some ⟨V.at (A.bool ((FOps.cmp F BinOp.gtr FloatKind.f64 (FOps.bin F BinOp.quo FloatKind.f64 4607182418800017408 x0) 0) == (FOps.cmp F BinOp.gtr FloatKind.f64 (FOps.bin F BinOp.quo FloatKind.f64 4607182418800017408 x1) 0))), none, []⟩ else some ⟨V.at (A.bool (FOps.cmp F BinOp.eql FloatKind.f64 x0 x1)), none, []⟩ else some ⟨V.at (A.bool (FOps.cmp F BinOp.eql FloatKind.f64 x0 x1)), none, []⟩ := by kernel_rfl
  rw [h0]
  unfold Pure.laws_sameFloat
  cases (FOps.cmp F BinOp.neq FloatKind.f64 x0 x0) with
  | true =>
    rfl
  | false =>
    cases (FOps.cmp F BinOp.neq FloatKind.f64 x1 x1) with
    | true =>
      rfl
    | false =>
      cases (FOps.cmp F BinOp.eql FloatKind.f64 x0 0) with
      | true =>
        cases (FOps.cmp F BinOp.eql FloatKind.f64 x1 0) with
        | true =>
          rfl
        | false =>
          rfl
      | false =>
        rfl
theorem ok_laws_sameFloat : CallOK Try.prog 24 (c_laws_sameFloat real) := by
  refine callOK_of fun args h ret hc => ?_
  unfold c_laws_sameFloat at hc
  split at hc
  · rename_i x0 x1
    obtain ⟨_, rfl⟩ := some_ret hc
    exact holds_ev prog_ok allOK_nil Try.func24 rfl rfl smL_nil rfl (e_laws_sameFloat real x0 x1)
  · cases hc
def Pure.laws_eqFloat32S_L0 (F : FOps) (y1 : List (List Int)) (y2 : List (List Int)) : Nat → Int → (Bool × Bool)
  | 0, _ => (false, false)
  | n + 1, y0 => bif (Decidable.decide (y0 < (Int.ofNat (List.length y1)))) then (bif (Decidable.decide (0 ≤ y0)) then (bif (Decidable.decide (y0 < (Int.ofNat (List.length y1)))) then (bif (FOps.convOk F FloatKind.f32 FloatKind.f64 (List.getD (List.getD y1 (Int.toNat y0) []) 0 0)) then (bif (Decidable.decide (0 ≤ y0)) then (bif (Decidable.decide (y0 < (Int.ofNat (List.length y2)))) then (bif (FOps.convOk F FloatKind.f32 FloatKind.f64 (List.getD (List.getD y2 (Int.toNat y0) []) 0 0)) then (bif (Pure.laws_sameFloat F (FOps.conv F FloatKind.f32 FloatKind.f64 (List.getD (List.getD y1 (Int.toNat y0) []) 0 0)) (FOps.conv F FloatKind.f32 FloatKind.f64 (List.getD (List.getD y2 (Int.toNat y0) []) 0 0))) then (Pure.laws_eqFloat32S_L0 F y1 y2 n (IntKind.wrap IntKind.i64 (y0 + 1))) else ((true, true))) else ((false, false))) else ((false, false))) else ((false, false))) else ((false, false))) else ((false, false))) else ((false, false))) else ((true, false))
def R_laws_eqFloat32S_L0 (y1 : List (List Int)) (y2 : List (List Int)) (r : (Bool × Bool)) : Bool × Bool × (Ex × List V × List Ob) × (Ex × List V × List Ob) := ((r).1, (r).2, (Ex.normal, [V.at A.undef], [⟨false, OC.rows [K.f FloatKind.f32] y1⟩, ⟨false, OC.rows [K.f FloatKind.f32] y2⟩]), (Ex.ret, [V.at (A.bool false)], [⟨false, OC.rows [K.f FloatKind.f32] y1⟩, ⟨false, OC.rows [K.f FloatKind.f32] y2⟩]))
def S_laws_eqFloat32S_L0 (F : FOps) : Sm := ⟨[0, 1, 5], [30, 30, 3], [4], fun vals hp => match vals, hp with
  | [V.at (A.sl 0), V.at (A.sl 1), V.at (A.int IntKind.i64 y0)], [⟨false, OC.rows [K.f FloatKind.f32] y1⟩, ⟨false, OC.rows [K.f FloatKind.f32] y2⟩] => some (R_laws_eqFloat32S_L0 y1 y2 (Pure.laws_eqFloat32S_L0 F y1 y2 ((Int.ofNat (List.length y1)) - y0 + 1).toNat y0))
  | _, _ => none⟩
theorem l_laws_eqFloat32S_L0 (F : FOps) (y1 : List (List Int)) (y2 : List (List Int)) : ∀ (fuel : Nat) (y0 : Int), (Pure.laws_eqFloat32S_L0 F y1 y2 fuel y0).1 = true → loopOf (cxS F tyl [(24, c_laws_sameFloat F)] [] [] 0) 2 29 0 [0, 1, 5] [30, 30, 3] [4] (loopB 0 (codeOf Try.f33)) fuel [V.at (A.sl 0), V.at (A.sl 1), V.at (A.int IntKind.i64 y0)] [⟨false, OC.rows [K.f FloatKind.f32] y1⟩, ⟨false, OC.rows [K.f FloatKind.f32] y2⟩] = resOf (R_laws_eqFloat32S_L0 y1 y2 (Pure.laws_eqFloat32S_L0 F y1 y2 fuel y0)) := by
  intro fuel
  induction fuel with
  | zero => intro y0 h; exact absurd h Bool.false_ne_true
  | succ n ih =>
    intro y0
    have h0 : roundOf (cxS F tyl [(24, c_laws_sameFloat F)] [] [] 0) 2 29 0 [0, 1, 5] [30, 30, 3] [4] (loopB 0 (codeOf Try.f33)) [V.at (A.sl 0), V.at (A.sl 1), V.at (A.int IntKind.i64 y0)] [⟨false, OC.rows [K.f FloatKind.f32] y1⟩, ⟨false, OC.rows [K.f FloatKind.f32] y2⟩] = (bif Decidable.decide (y0 < (Int.ofNat (List.length y1))) then bif Decidable.decide (0 ≤ y0) then bif Decidable.decide (y0 < (Int.ofNat (List.length y1))) then bif FOps.convOk F FloatKind.f32 FloatKind.f64 (List.getD (List.getD y1 (Int.toNat y0) []) 0 0) then bif Decidable.decide (0 ≤ y0) then bif Decidable.decide (y0 < (Int.ofNat (List.length y2))) then bif FOps.convOk F FloatKind.f32 FloatKind.f64 (List.getD (List.getD y2 (Int.toNat y0) []) 0 0) then bif Bool.not (Pure.laws_sameFloat F (FOps.conv F FloatKind.f32 FloatKind.f64 (List.getD (List.getD y1 (Int.toNat y0) []) 0 0)) (FOps.conv F FloatKind.f32 FloatKind.f64 (List.getD (List.getD y2 (Int.toNat y0) []) 0 0))) then some (false, (Ex.ret, ([V.at (A.bool false)], [⟨false, OC.rows [K.f FloatKind.f32] y1⟩, ⟨false, OC.rows [K.f FloatKind.f32] y2⟩]))) else some (true, (Ex.normal, ([V.at (A.sl 0), V.at (A.sl 1), V.at (A.int IntKind.i64 (IntKind.wrap IntKind.i64 (y0 + 1)))], [⟨false, OC.rows [K.f FloatKind.f32] y1⟩, ⟨false, OC.rows [K.f FloatKind.f32] y2⟩]))) else none else none else none else none else none else none else some (false, (Ex.normal, ([V.at A.undef], [⟨false, OC.rows [K.f FloatKind.f32] y1⟩, ⟨false, OC.rows [K.f FloatKind.f32] y2⟩])))) := by kernel_rfl
    unfold loopOf
    rw [h0]
    unfold Pure.laws_eqFloat32S_L0
    cases (Decidable.decide (y0 < (Int.ofNat (List.length y1)))) with
    | true =>
      cases (Decidable.decide (0 ≤ y0)) with
      | true =>
        cases (FOps.convOk F FloatKind.f32 FloatKind.f64 (List.getD (List.getD y1 (Int.toNat y0) []) 0 0)) with
        | true =>
          cases (Decidable.decide (y0 < (Int.ofNat (List.length y2)))) with
          | true =>
            cases (FOps.convOk F FloatKind.f32 FloatKind.f64 (List.getD (List.getD y2 (Int.toNat y0) []) 0 0)) with
            | true =>
              cases (Pure.laws_sameFloat F (FOps.conv F FloatKind.f32 FloatKind.f64 (List.getD (List.getD y1 (Int.toNat y0) []) 0 0)) (FOps.conv F FloatKind.f32 FloatKind.f64 (List.getD (List.getD y2 (Int.toNat y0) []) 0 0))) with
              | true =>
                exact ih _
              | false =>
                intro _; rfl
            | false =>
              intro h; exact absurd h Bool.false_ne_true
          | false =>
            intro h; exact absurd h Bool.false_ne_true
        | false =>
          intro h; exact absurd h Bool.false_ne_true
      | false =>
        intro h; exact absurd h Bool.false_ne_true
    | false =>
      intro _; rfl
theorem t_laws_eqFloat32S_L0 : SmTo Try.prog 2 29 (S_laws_eqFloat32S_L0 real) 0 (.loop (loopB 0 (codeOf Try.f33))) := by
  refine smTo_ev (cl := [(24, c_laws_sameFloat real)]) (ef := []) (sm := []) (un := 0) prog_ok (allOK_cons ok_laws_sameFloat allOK_nil) smL_nil ?_
  intro vals hp q r h hq
  unfold S_laws_eqFloat32S_L0 at h
  dsimp only at h
  split at h
  · rename_i y0 y1 y2
    obtain rfl := Option.some.inj h
    have h1 := hq
    unfold resOf at h1
    rw [chk_some] at h1
    exact ⟨_, (l_laws_eqFloat32S_L0 real y1 y2 _ y0 h1.1).trans hq⟩
  · cases h
def Pure.laws_eqFloat32S (F : FOps) (x0 : List (List Int)) (x1 : List (List Int)) : Bool := bif (Int.ofNat (List.length x0)) != (Int.ofNat (List.length x1)) then false else bif Prod.snd (Pure.laws_eqFloat32S_L0 F x0 x1 (Nat.succ ((List.length x0) + 0)) 0) then false else true
def Pure.laws_eqFloat32S_ok (F : FOps) (x0 : List (List Int)) (x1 : List (List Int)) : Bool := bif (Int.ofNat (List.length x0)) != (Int.ofNat (List.length x1)) then true else Prod.fst (Pure.laws_eqFloat32S_L0 F x0 x1 (Nat.succ ((List.length x0) + 0)) 0)
def c_laws_eqFloat32S (F : FOps) : Con
  | [V.at (A.sl 0), V.at (A.sl 1)], [⟨false, OC.rows [K.f FloatKind.f32] x0⟩, ⟨false, OC.rows [K.f FloatKind.f32] x1⟩] => some (Pure.laws_eqFloat32S_ok F x0 x1, ⟨V.at (A.bool (Pure.laws_eqFloat32S F x0 x1)), none, []⟩)
  | _, _ => none
theorem e_laws_eqFloat32S (F : FOps) (x0 : List (List Int)) (x1 : List (List Int)) : Pure.laws_eqFloat32S_ok F x0 x1 = true → evFn (cxS F tyl [(24, c_laws_sameFloat F)] [] [(0, S_laws_eqFloat32S_L0 F)] 0) Try.f33 false [V.at (A.sl 0), V.at (A.sl 1)] [⟨false, OC.rows [K.f FloatKind.f32] x0⟩, ⟨false, OC.rows [K.f FloatKind.f32] x1⟩] = some ⟨V.at (A.bool (Pure.laws_eqFloat32S F x0 x1)), none, []⟩ := by
  have h0 : evFn (cxS F tyl [(24, c_laws_sameFloat F)] [] [(0, S_laws_eqFloat32S_L0 F)] 0) Try.f33 false [V.at (A.sl 0), V.at (A.sl 1)] [⟨false, OC.rows [K.f FloatKind.f32] x0⟩, ⟨false, OC.rows [K.f FloatKind.f32] x1⟩] = bif (Int.ofNat (List.length x0)) != (Int.ofNat (List.length x1)) then some ⟨V.at (A.bool false), none, []⟩ else bif Prod.fst (Pure.laws_eqFloat32S_L0 F x0 x1 (Nat.succ ((List.length x0) + 0)) 0) then bif Prod.snd (Pure.laws_eqFloat32S_L0 F x0 x1 (Nat.succ ((List.length x0) + 0)) 0) then some ⟨V.at (A.bool false), none, []⟩ else some ⟨V.at (A.bool true), none, []⟩ else none := by kernel_rfl
  rw [h0]
  unfold Pure.laws_eqFloat32S Pure.laws_eqFloat32S_ok
  cases ((Int.ofNat (List.length x0)) != (Int.ofNat (List.length x1))) with
  | true =>
    intro _; rfl
  | false =>
    cases (Prod.fst (Pure.laws_eqFloat32S_L0 F x0 x1 (Nat.succ ((List.length x0) + 0)) 0)) with
    | true =>
      cases (Prod.snd (Pure.laws_eqFloat32S_L0 F x0 x1 (Nat.succ ((List.length x0) + 0)) 0)) with
      | true =>
        intro _; rfl
      | false =>
        intro _; rfl
    | false =>
      intro h; exact absurd h Bool.false_ne_true
theorem ok_laws_eqFloat32S : CallOK Try.prog 33 (c_laws_eqFloat32S real) := by
  refine callOK_of fun args h ret hc => ?_
  unfold c_laws_eqFloat32S at hc
  split at hc
  · rename_i x0 x1
    obtain ⟨hok, rfl⟩ := some_ret hc
    exact holds_ev prog_ok (allOK_cons ok_laws_sameFloat allOK_nil) Try.func33 rfl rfl (smL_cons (body := .loop (loopB 0 (codeOf Try.f33))) (by kernel_rfl) t_laws_eqFloat32S_L0 smL_nil) rfl (e_laws_eqFloat32S real x0 x1 hok)
  · cases hc
def Pure.laws_markFloat32S_L0 (F : FOps) : Nat → Int → Int → (List (List Int)) → (Bool × Int × (List (List Int)))
  | 0, _, _, _ => (false, 0, [])
  | n + 1, y0, y1, y2 => bif (Decidable.decide (y1 < (Int.ofNat (List.length y2)))) then (bif (Decidable.decide (0 ≤ y1)) then (bif (Decidable.decide (y1 < (Int.ofNat (List.length y2)))) then (Pure.laws_markFloat32S_L0 F  n (IntKind.wrap IntKind.i64 (y0 + 1)) (IntKind.wrap IntKind.i64 (y1 + 1)) (List.set y2 (Int.toNat y1) [FOps.ofInt F FloatKind.f32 y0])) else ((false, 0, []))) else ((false, 0, []))) else ((true, y0, y2))
def R_laws_markFloat32S_L0 (r : (Bool × Int × (List (List Int)))) : Bool × Bool × (Ex × List V × List Ob) × (Ex × List V × List Ob) := ((r).1, false, (Ex.normal, [V.at (A.int IntKind.i64 (r).2.1)], [⟨true, OC.rows [K.f FloatKind.f32] (r).2.2⟩]), (Ex.normal, [V.at (A.int IntKind.i64 (r).2.1)], [⟨true, OC.rows [K.f FloatKind.f32] (r).2.2⟩]))
def S_laws_markFloat32S_L0 (F : FOps) : Sm := ⟨[0, 1, 5], [30, 3, 3], [1], fun vals hp => match vals, hp with
  | [V.at (A.sl 0), V.at (A.int IntKind.i64 y0), V.at (A.int IntKind.i64 y1)], [⟨true, OC.rows [K.f FloatKind.f32] y2⟩] => some (R_laws_markFloat32S_L0  (Pure.laws_markFloat32S_L0 F  ((Int.ofNat (List.length y2)) - y1 + 1).toNat y0 y1 y2))
  | _, _ => none⟩
theorem l_laws_markFloat32S_L0 (F : FOps) : ∀ (fuel : Nat) (y0 : Int) (y1 : Int) (y2 : List (List Int)), (Pure.laws_markFloat32S_L0 F  fuel y0 y1 y2).1 = true → loopOf (cxS F tyl [] [] [] 0) 1 20 0 [0, 1, 5] [30, 3, 3] [1] (loopB 0 (codeOf Try.f34)) fuel [V.at (A.sl 0), V.at (A.int IntKind.i64 y0), V.at (A.int IntKind.i64 y1)] [⟨true, OC.rows [K.f FloatKind.f32] y2⟩] = resOf (R_laws_markFloat32S_L0  (Pure.laws_markFloat32S_L0 F  fuel y0 y1 y2)) := by
  intro fuel
  induction fuel with
  | zero => intro y0 y1 y2 h; exact absurd h Bool.false_ne_true
  | succ n ih =>
    intro y0 y1 y2
    have h0 : roundOf (cxS F tyl [] [] [] 0) 1 20 0 [0, 1, 5] [30, 3, 3] [1] (loopB 0 (codeOf Try.f34)) [V.at (A.sl 0), V.at (A.int IntKind.i64 y0), V.at (A.int IntKind.i64 y1)] [⟨true, OC.rows [K.f FloatKind.f32] y2⟩] = (bif Decidable.decide (y1 < (Int.ofNat (List.length y2))) then bif Decidable.decide (0 ≤ y1) then bif Decidable.decide (y1 < (Int.ofNat (List.length y2))) then some (true, (Ex.normal, ([V.at (A.sl 0), V.at (A.int IntKind.i64 (IntKind.wrap IntKind.i64 (y0 + 1))), V.at (A.int IntKind.i64 (IntKind.wrap IntKind.i64 (y1 + 1)))], [⟨true, OC.rows [K.f FloatKind.f32] (List.set y2 (Int.toNat y1) [FOps.ofInt F FloatKind.f32 y0])⟩]))) else none else none else some (false, (Ex.normal, ([V.at (A.int IntKind.i64 y0)], [⟨true, OC.rows [K.f FloatKind.f32] y2⟩])))) := by kernel_rfl
    unfold loopOf
    rw [h0]
    unfold Pure.laws_markFloat32S_L0
    cases (Decidable.decide (y1 < (Int.ofNat (List.length y2)))) with
    | true =>
      cases (Decidable.decide (0 ≤ y1)) with
      | true =>
        exact ih _ _ _
      | false =>
        intro h; exact absurd h Bool.false_ne_true
    | false =>
      intro _; rfl
theorem t_laws_markFloat32S_L0 : SmTo Try.prog 1 20 (S_laws_markFloat32S_L0 real) 0 (.loop (loopB 0 (codeOf Try.f34))) := by
  refine smTo_ev (cl := []) (ef := []) (sm := []) (un := 0) prog_ok allOK_nil smL_nil ?_
  intro vals hp q r h hq
  unfold S_laws_markFloat32S_L0 at h
  dsimp only at h
  split at h
  · rename_i y0 y1 y2
    obtain rfl := Option.some.inj h
    have h1 := hq
    unfold resOf at h1
    rw [chk_some] at h1
    exact ⟨_, (l_laws_markFloat32S_L0 real _ y0 y1 y2 h1.1).trans hq⟩
  · cases h
def Pure.laws_markFloat32S (F : FOps) (x0 : List (List Int)) (x1 : Int) : Int := Prod.fst (Prod.snd (Pure.laws_markFloat32S_L0 F (Nat.succ ((List.length x0) + 0)) x1 0 x0))
def Pure.laws_markFloat32S_1 (F : FOps) (x0 : List (List Int)) (x1 : Int) : List (List Int) := Prod.snd (Prod.snd (Pure.laws_markFloat32S_L0 F (Nat.succ ((List.length x0) + 0)) x1 0 x0))
def Pure.laws_markFloat32S_ok (F : FOps) (x0 : List (List Int)) (x1 : Int) : Bool := Prod.fst (Pure.laws_markFloat32S_L0 F (Nat.succ ((List.length x0) + 0)) x1 0 x0)
def c_laws_markFloat32S (F : FOps) : Con
  | [V.at (A.sl 0), V.at (A.int IntKind.i64 x1)], [⟨true, OC.rows [K.f FloatKind.f32] x0⟩] => some (Pure.laws_markFloat32S_ok F x0 x1, ⟨V.at (A.int IntKind.i64 (Pure.laws_markFloat32S F x0 x1)), some [⟨true, OC.rows [K.f FloatKind.f32] (Pure.laws_markFloat32S_1 F x0 x1)⟩], []⟩)
  | _, _ => none
theorem e_laws_markFloat32S (F : FOps) (x0 : List (List Int)) (x1 : Int) : Pure.laws_markFloat32S_ok F x0 x1 = true → evFn (cxS F tyl [] [] [(0, S_laws_markFloat32S_L0 F)] 0) Try.f34 true [V.at (A.sl 0), V.at (A.int IntKind.i64 x1)] [⟨true, OC.rows [K.f FloatKind.f32] x0⟩] = some ⟨V.at (A.int IntKind.i64 (Pure.laws_markFloat32S F x0 x1)), some [⟨true, OC.rows [K.f FloatKind.f32] (Pure.laws_markFloat32S_1 F x0 x1)⟩], []⟩ := by
  have h0 : evFn (cxS F tyl [] [] [(0, S_laws_markFloat32S_L0 F)] 0) Try.f34 true [V.at (A.sl 0), V.at (A.int IntKind.i64 x1)] [⟨true, OC.rows [K.f FloatKind.f32] x0⟩] = bif Prod.fst (Pure.laws_markFloat32S_L0 F (Nat.succ ((List.length x0) + 0)) x1 0 x0) then some ⟨V.at (A.int IntKind.i64 (Prod.fst (Prod.snd (Pure.laws_markFloat32S_L0 F (Nat.succ ((List.length x0) + 0)) x1 0 x0)))), some [⟨true, OC.rows [K.f FloatKind.f32] (Prod.snd (Prod.snd (Pure.laws_markFloat32S_L0 F (Nat.succ ((List.length x0) + 0)) x1 0 x0)))⟩], []⟩ else none := by kernel_rfl
  rw [h0]
  unfold Pure.laws_markFloat32S Pure.laws_markFloat32S_1 Pure.laws_markFloat32S_ok
  cases (Prod.fst (Pure.laws_markFloat32S_L0 F (Nat.succ ((List.length x0) + 0)) x1 0 x0)) with
  | true =>
    intro _; rfl
  | false =>
    intro h; exact absurd h Bool.false_ne_true
theorem ok_laws_markFloat32S : CallOK Try.prog 34 (c_laws_markFloat32S real) := by
  refine callOK_of fun args h ret hc => ?_
  unfold c_laws_markFloat32S at hc
  split at hc
  · rename_i x1 x0
    obtain ⟨hok, rfl⟩ := some_ret hc
    exact holdsE_ev prog_ok allOK_nil Try.func34 rfl rfl (smL_cons (body := .loop (loopB 0 (codeOf Try.f34))) (by kernel_rfl) t_laws_markFloat32S_L0 smL_nil) (e_laws_markFloat32S real x0 x1 hok)
  · cases hc
def Pure.laws_heldFloat32S_L0 (F : FOps) (y2 : List (List Int)) : Nat → Int → Int → (Bool × Bool × Int × Int)
  | 0, _, _ => (false, false, 0, 0)
  | n + 1, y0, y1 => bif (Decidable.decide (y1 < (Int.ofNat (List.length y2)))) then (bif (Decidable.decide (0 ≤ y1)) then (bif (Decidable.decide (y1 < (Int.ofNat (List.length y2)))) then (bif (FOps.cmp F BinOp.neq FloatKind.f32 (List.getD (List.getD y2 (Int.toNat y1) []) 0 0) (FOps.ofInt F FloatKind.f32 y0)) then ((true, true, 0, y0)) else (Pure.laws_heldFloat32S_L0 F y2 n (IntKind.wrap IntKind.i64 (y0 + 1)) (IntKind.wrap IntKind.i64 (y1 + 1)))) else ((false, false, 0, 0))) else ((false, false, 0, 0))) else ((true, false, y0, 0))
def R_laws_heldFloat32S_L0 (y2 : List (List Int)) (r : (Bool × Bool × Int × Int)) : Bool × Bool × (Ex × List V × List Ob) × (Ex × List V × List Ob) := ((r).1, (r).2.1, (Ex.normal, [V.at (A.int IntKind.i64 (r).2.2.1), V.at A.undef], [⟨false, OC.rows [K.f FloatKind.f32] y2⟩]), (Ex.ret, [V.at (A.int IntKind.i64 (r).2.2.2), V.at (A.int IntKind.i64 (-1))], [⟨false, OC.rows [K.f FloatKind.f32] y2⟩]))
def S_laws_heldFloat32S_L0 (F : FOps) : Sm := ⟨[0, 1, 5], [30, 3, 3], [1, 4], fun vals hp => match vals, hp with
  | [V.at (A.sl 0), V.at (A.int IntKind.i64 y0), V.at (A.int IntKind.i64 y1)], [⟨false, OC.rows [K.f FloatKind.f32] y2⟩] => some (R_laws_heldFloat32S_L0 y2 (Pure.laws_heldFloat32S_L0 F y2 ((Int.ofNat (List.length y2)) - y1 + 1).toNat y0 y1))
  | _, _ => none⟩
theorem l_laws_heldFloat32S_L0 (F : FOps) (y2 : List (List Int)) : ∀ (fuel : Nat) (y0 : Int) (y1 : Int), (Pure.laws_heldFloat32S_L0 F y2 fuel y0 y1).1 = true → loopOf (cxS F tyl [] [] [] 0) 1 22 0 [0, 1, 5] [30, 3, 3] [1, 4] (loopB 0 (codeOf Try.f35)) fuel [V.at (A.sl 0), V.at (A.int IntKind.i64 y0), V.at (A.int IntKind.i64 y1)] [⟨false, OC.rows [K.f FloatKind.f32] y2⟩] = resOf (R_laws_heldFloat32S_L0 y2 (Pure.laws_heldFloat32S_L0 F y2 fuel y0 y1)) := by
  intro fuel
  induction fuel with
  | zero => intro y0 y1 h; exact absurd h Bool.false_ne_true
  | succ n ih =>
    intro y0 y1
    have h0 : roundOf (cxS F tyl [] [] [] 0) 1 22 0 [0, 1, 5] [30, 3, 3] [1, 4] (loopB 0 (codeOf Try.f35)) [V.at (A.sl 0), V.at (A.int IntKind.i64 y0), V.at (A.int IntKind.i64 y1)] [⟨false, OC.rows [K.f FloatKind.f32] y2⟩] = (bif Decidable.decide (y1 < (Int.ofNat (List.length y2))) then bif Decidable.decide (0 ≤ y1) then bif Decidable.decide (y1 < (Int.ofNat (List.length y2))) then bif FOps.cmp F BinOp.neq FloatKind.f32 (List.getD (List.getD y2 (Int.toNat y1) []) 0 0) (FOps.ofInt F FloatKind.f32 y0) then some (false, (Ex.ret, ([V.at (A.int IntKind.i64 y0), V.at (A.int IntKind.i64 (-1))], [⟨false, OC.rows [K.f FloatKind.f32] y2⟩]))) else some (true, (Ex.normal, ([V.at (A.sl 0), V.at (A.int IntKind.i64 (IntKind.wrap IntKind.i64 (y0 + 1))), V.at (A.int IntKind.i64 (IntKind.wrap IntKind.i64 (y1 + 1)))], [⟨false, OC.rows [K.f FloatKind.f32] y2⟩]))) else none else none else some (false, (Ex.normal, ([V.at (A.int IntKind.i64 y0), V.at A.undef], [⟨false, OC.rows [K.f FloatKind.f32] y2⟩])))) := by kernel_rfl
    unfold loopOf
    rw [h0]
    unfold Pure.laws_heldFloat32S_L0
    cases (Decidable.decide (y1 < (Int.ofNat (List.length y2)))) with
    | true =>
      cases (Decidable.decide (0 ≤ y1)) with
      | true =>
        cases (FOps.cmp F BinOp.neq FloatKind.f32 (List.getD (List.getD y2 (Int.toNat y1) []) 0 0) (FOps.ofInt F FloatKind.f32 y0)) with
        | true =>
          intro _; rfl
        | false =>
          exact ih _ _
      | false =>
        intro h; exact absurd h Bool.false_ne_true
    | false =>
      intro _; rfl
theorem t_laws_heldFloat32S_L0 : SmTo Try.prog 1 22 (S_laws_heldFloat32S_L0 real) 0 (.loop (loopB 0 (codeOf Try.f35))) := by
  refine smTo_ev (cl := []) (ef := []) (sm := []) (un := 0) prog_ok allOK_nil smL_nil ?_
  intro vals hp q r h hq
  unfold S_laws_heldFloat32S_L0 at h
  dsimp only at h
  split at h
  · rename_i y0 y1 y2
    obtain rfl := Option.some.inj h
    have h1 := hq
    unfold resOf at h1
    rw [chk_some] at h1
    exact ⟨_, (l_laws_heldFloat32S_L0 real y2 _ y0 y1 h1.1).trans hq⟩
  · cases h
def Pure.laws_heldFloat32S (F : FOps) (x0 : List (List Int)) (x1 : Int) : Int := bif Prod.fst (Prod.snd (Pure.laws_heldFloat32S_L0 F x0 (Nat.succ ((List.length x0) + 0)) x1 0)) then (-1) else Prod.fst (Prod.snd (Prod.snd (Pure.laws_heldFloat32S_L0 F x0 (Nat.succ ((List.length x0) + 0)) x1 0)))
def Pure.laws_heldFloat32S_ok (F : FOps) (x0 : List (List Int)) (x1 : Int) : Bool := Prod.fst (Pure.laws_heldFloat32S_L0 F x0 (Nat.succ ((List.length x0) + 0)) x1 0)
def c_laws_heldFloat32S (F : FOps) : Con
  | [V.at (A.sl 0), V.at (A.int IntKind.i64 x1)], [⟨false, OC.rows [K.f FloatKind.f32] x0⟩] => some (Pure.laws_heldFloat32S_ok F x0 x1, ⟨V.at (A.int IntKind.i64 (Pure.laws_heldFloat32S F x0 x1)), none, []⟩)
  | _, _ => none
theorem e_laws_heldFloat32S (F : FOps) (x0 : List (List Int)) (x1 : Int) : Pure.laws_heldFloat32S_ok F x0 x1 = true → evFn (cxS F tyl [] [] [(0, S_laws_heldFloat32S_L0 F)] 0) Try.f35 false [V.at (A.sl 0), V.at (A.int IntKind.i64 x1)] [⟨false, OC.rows [K.f FloatKind.f32] x0⟩] = some ⟨V.at (A.int IntKind.i64 (Pure.laws_heldFloat32S F x0 x1)), none, []⟩ := by
  have h0 : evFn (cxS F tyl [] [] [(0, S_laws_heldFloat32S_L0 F)] 0) Try.f35 false [V.at (A.sl 0), V.at (A.int IntKind.i64 x1)] [⟨false, OC.rows [K.f FloatKind.f32] x0⟩] = bif Prod.fst (Pure.laws_heldFloat32S_L0 F x0 (Nat.succ ((List.length x0) + 0)) x1 0) then bif Prod.fst (Prod.snd (Pure.laws_heldFloat32S_L0 F x0 (Nat.succ ((List.length x0) + 0)) x1 0)) then some ⟨V.at (A.int IntKind.i64 (-1)), none, []⟩ else some ⟨V.at (A.int IntKind.i64 (Prod.fst (Prod.snd (Prod.snd (Pure.laws_heldFloat32S_L0 F x0 (Nat.succ ((List.length x0) + 0)) x1 0))))), none, []⟩ else none := by kernel_rfl
  rw [h0]
  unfold Pure.laws_heldFloat32S Pure.laws_heldFloat32S_ok
  cases (Prod.fst (Pure.laws_heldFloat32S_L0 F x0 (Nat.succ ((List.length x0) + 0)) x1 0)) with
  | true =>
    cases (Prod.fst (Prod.snd (Pure.laws_heldFloat32S_L0 F x0 (Nat.succ ((List.length x0) + 0)) x1 0))) with
    | true =>
      intro _; rfl
    | false =>
      intro _; rfl
  | false =>
    intro h; exact absurd h Bool.false_ne_true
theorem ok_laws_heldFloat32S : CallOK Try.prog 35 (c_laws_heldFloat32S real) := by
  refine callOK_of fun args h ret hc => ?_
  unfold c_laws_heldFloat32S at hc
  split at hc
  · rename_i x1 x0
    obtain ⟨hok, rfl⟩ := some_ret hc
    exact holds_ev prog_ok allOK_nil Try.func35 rfl rfl (smL_cons (body := .loop (loopB 0 (codeOf Try.f35))) (by kernel_rfl) t_laws_heldFloat32S_L0 smL_nil) rfl (e_laws_heldFloat32S real x0 x1 hok)
  · cases hc
def Pure.laws_FnExactSlopesAlong (F : FOps) (x0 : Int) (x1 : Int) (x2 : Int) (x3 : Int) : Bool := bif Pure.laws_eqFloat32S F (Pure.impl_SlopesAlong_1 F x0 x1 x2 x3) (Pure.spec_SlopesAlong_1 F x0 x1 x2 x3) then bif (Pure.impl_SlopesAlong F x0 x1 x2 x3) == (Pure.spec_SlopesAlong F x0 x1 x2 x3) then bif Decidable.decide ((Pure.laws_heldFloat32S F (Pure.laws_markFloat32S_1 F (Pure.impl_SlopesAlong_1 F x0 x1 x2 x3) 1) 1) < 0) then false else bif (Pure.laws_heldFloat32S F (Pure.laws_markFloat32S_1 F (Pure.impl_SlopesAlong_1 F x0 x1 x2 x3) 1) 1) != (Pure.laws_markFloat32S F (Pure.impl_SlopesAlong_1 F x0 x1 x2 x3) 1) then false else true else false else false
def Pure.laws_FnExactSlopesAlong_ok (F : FOps) (x0 : Int) (x1 : Int) (x2 : Int) (x3 : Int) : Bool := bif Pure.spec_SlopesAlong_ok F x0 x1 x2 x3 then bif Pure.impl_SlopesAlong_ok F x0 x1 x2 x3 then bif Pure.laws_eqFloat32S_ok F (Pure.impl_SlopesAlong_1 F x0 x1 x2 x3) (Pure.spec_SlopesAlong_1 F x0 x1 x2 x3) then bif Pure.laws_eqFloat32S F (Pure.impl_SlopesAlong_1 F x0 x1 x2 x3) (Pure.spec_SlopesAlong_1 F x0 x1 x2 x3) then bif (Pure.impl_SlopesAlong F x0 x1 x2 x3) == (Pure.spec_SlopesAlong F x0 x1 x2 x3) then bif Pure.laws_markFloat32S_ok F (Pure.impl_SlopesAlong_1 F x0 x1 x2 x3) 1 then Pure.laws_heldFloat32S_ok F (Pure.laws_markFloat32S_1 F (Pure.impl_SlopesAlong_1 F x0 x1 x2 x3) 1) 1 else false else true else true else false else false else false
def c_laws_FnExactSlopesAlong (F : FOps) : Con
  | [V.agg [A.fl FloatKind.f32 x0, A.fl FloatKind.f32 x1], V.at (A.fl FloatKind.f32 x2), V.at (A.int IntKind.i64 x3)], [] => some (Pure.laws_FnExactSlopesAlong_ok F x0 x1 x2 x3, ⟨V.at (A.bool (Pure.laws_FnExactSlopesAlong F x0 x1 x2 x3)), none, []⟩)
  | _, _ => none
theorem e_laws_FnExactSlopesAlong (F : FOps) (x0 : Int) (x1 : Int) (x2 : Int) (x3 : Int) : Pure.laws_FnExactSlopesAlong_ok F x0 x1 x2 x3 = true → evFn (cxS F tyl [(31, c_laws_toState F), (30, c_spec_SlopesAlong F), (32, c_impl_SlopesAlong F), (33, c_laws_eqFloat32S F), (34, c_laws_markFloat32S F), (35, c_laws_heldFloat32S F)] [34] [] 0) Try.f7 false [V.agg [A.fl FloatKind.f32 x0, A.fl FloatKind.f32 x1], V.at (A.fl FloatKind.f32 x2), V.at (A.int IntKind.i64 x3)] [] = some ⟨V.at (A.bool (Pure.laws_FnExactSlopesAlong F x0 x1 x2 x3)), none, []⟩ := by
  have h0 : evFn (cxS F tyl [(31, c_laws_toState F), (30, c_spec_SlopesAlong F), (32, c_impl_SlopesAlong F), (33, c_laws_eqFloat32S F), (34, c_laws_markFloat32S F), (35, c_laws_heldFloat32S F)] [34] [] 0) Try.f7 false [V.agg [A.fl FloatKind.f32 x0, A.fl FloatKind.f32 x1], V.at (A.fl FloatKind.f32 x2), V.at (A.int IntKind.i64 x3)] [] = bif Pure.spec_SlopesAlong_ok F x0 x1 x2 x3 then bif Pure.impl_SlopesAlong_ok F x0 x1 x2 x3 then bif Pure.laws_eqFloat32S_ok F (Pure.impl_SlopesAlong_1 F x0 x1 x2 x3) (Pure.spec_SlopesAlong_1 F x0 x1 x2 x3) then bif Bool.not (Pure.laws_eqFloat32S F (Pure.impl_SlopesAlong_1 F x0 x1 x2 x3) (Pure.spec_SlopesAlong_1 F x0 x1 x2 x3)) then some ⟨V.at (A.bool false), none, []⟩ else bif Bool.not ((Pure.impl_SlopesAlong F x0 x1 x2 x3) == (Pure.spec_SlopesAlong F x0 x1 x2 x3)) then some ⟨V.at (A.bool false), none, []⟩ else bif Pure.laws_markFloat32S_ok F (Pure.impl_SlopesAlong_1 F x0 x1 x2 x3) 1 then bif Pure.laws_heldFloat32S_ok F (Pure.laws_markFloat32S_1 F (Pure.impl_SlopesAlong_1 F x0 x1 x2 x3) 1) 1 then bif Decidable.decide ((Pure.laws_heldFloat32S F (Pure.laws_markFloat32S_1 F (Pure.impl_SlopesAlong_1 F x0 x1 x2 x3) 1) 1) < 0) then some ⟨V.at (A.bool false), none, []⟩ else bif (Pure.laws_heldFloat32S F (Pure.laws_markFloat32S_1 F (Pure.impl_SlopesAlong_1 F x0 x1 x2 x3) 1) 1) != (Pure.laws_markFloat32S F (Pure.impl_SlopesAlong_1 F x0 x1 x2 x3) 1) then some ⟨V.at (A.bool false), none, []⟩ else bif Pure.impl_SlopesAlong_ok F x0 x1 x2 x3 then bif Pure.laws_eqFloat32S_ok F (Pure.impl_SlopesAlong_1 F x0 x1 x2 x3) (Pure.spec_SlopesAlong_1 F x0 x1 x2 x3) then bif Bool.not (Pure.laws_eqFloat32S F (Pure.impl_SlopesAlong_1 F x0 x1 x2 x3) (Pure.spec_SlopesAlong_1 F x0 x1 x2 x3)) then some ⟨V.at (A.bool false), none, []⟩ else bif Bool.not ((Pure.impl_SlopesAlong F x0 x1 x2 x3) == (Pure.spec_SlopesAlong F x0 x1 x2 x3)) then some ⟨V.at (A.bool false), none, []⟩ else bif Pure.laws_heldFloat32S_ok F (Pure.laws_markFloat32S_1 F (Pure.impl_SlopesAlong_1 F x0 x1 x2 x3) 1) 1 then bif Decidable.decide ((Pure.laws_heldFloat32S F (Pure.laws_markFloat32S_1 F (Pure.impl_SlopesAlong_1 F x0 x1 x2 x3) 1) 1) < 0) then some ⟨V.at (A.bool false), none, []⟩ else bif (Pure.laws_heldFloat32S F (Pure.laws_markFloat32S_1 F (Pure.impl_SlopesAlong_1 F x0 x1 x2 x3) 1) 1) != (Pure.laws_markFloat32S F (Pure.impl_SlopesAlong_1 F x0 x1 x2 x3) 1) then some ⟨V.at (A.bool false), none, []⟩ else some ⟨V.at (A.bool true), none, []⟩ else none else none else none else none else none else none else none else none := by kernel_rfl
  rw [h0]
  unfold Pure.laws_FnExactSlopesAlong Pure.laws_FnExactSlopesAlong_ok
  cases (Pure.spec_SlopesAlong_ok F x0 x1 x2 x3) with
  | true =>
    cases (Pure.impl_SlopesAlong_ok F x0 x1 x2 x3) with
    | true =>
      cases (Pure.laws_eqFloat32S_ok F (Pure.impl_SlopesAlong_1 F x0 x1 x2 x3) (Pure.spec_SlopesAlong_1 F x0 x1 x2 x3)) with
      | true =>
        cases (Pure.laws_eqFloat32S F (Pure.impl_SlopesAlong_1 F x0 x1 x2 x3) (Pure.spec_SlopesAlong_1 F x0 x1 x2 x3)) with
        | true =>
          cases ((Pure.impl_SlopesAlong F x0 x1 x2 x3) == (Pure.spec_SlopesAlong F x0 x1 x2 x3)) with
          | true =>
            cases (Pure.laws_markFloat32S_ok F (Pure.impl_SlopesAlong_1 F x0 x1 x2 x3) 1) with
            | true =>
              cases (Pure.laws_heldFloat32S_ok F (Pure.laws_markFloat32S_1 F (Pure.impl_SlopesAlong_1 F x0 x1 x2 x3) 1) 1) with
              | true =>
                cases (Decidable.decide ((Pure.laws_heldFloat32S F (Pure.laws_markFloat32S_1 F (Pure.impl_SlopesAlong_1 F x0 x1 x2 x3) 1) 1) < 0)) with
                | true =>
                  intro _; rfl
                | false =>
                  cases ((Pure.laws_heldFloat32S F (Pure.laws_markFloat32S_1 F (Pure.impl_SlopesAlong_1 F x0 x1 x2 x3) 1) 1) != (Pure.laws_markFloat32S F (Pure.impl_SlopesAlong_1 F x0 x1 x2 x3) 1)) with
                  | true =>
                    intro _; rfl
                  | false =>
                    intro _; rfl
              | false =>
                intro h; exact absurd h Bool.false_ne_true
            | false =>
              intro h; exact absurd h Bool.false_ne_true
          | false =>
            intro _; rfl
        | false =>
          intro _; rfl
      | false =>
        intro h; exact absurd h Bool.false_ne_true
    | false =>
      intro h; exact absurd h Bool.false_ne_true
  | false =>
    intro h; exact absurd h Bool.false_ne_true
theorem ok_laws_FnExactSlopesAlong : CallOK Try.prog 7 (c_laws_FnExactSlopesAlong real) := by
  refine callOK_of fun args h ret hc => ?_
  unfold c_laws_FnExactSlopesAlong at hc
  split at hc
  · rename_i x0 x1 x2 x3
    obtain ⟨hok, rfl⟩ := some_ret hc
    exact holds_ev prog_ok (allOK_cons ok_laws_toState (allOK_cons ok_spec_SlopesAlong (allOK_cons ok_impl_SlopesAlong (allOK_cons ok_laws_eqFloat32S (allOK_cons ok_laws_markFloat32S (allOK_cons ok_laws_heldFloat32S allOK_nil)))))) Try.func7 rfl rfl smL_nil rfl (e_laws_FnExactSlopesAlong real x0 x1 x2 x3 hok)
  · cases hc
end Go.Fx
