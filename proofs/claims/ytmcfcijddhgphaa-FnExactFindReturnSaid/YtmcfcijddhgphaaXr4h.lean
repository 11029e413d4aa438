import Derived.Test.YtmcfcijddhgphaaXr4c
import Derived.KernelRfl
namespace Go.Fx
open Go.Proofs
set_option maxRecDepth 100000
def Pure.impl_slopes_times_c1 (F : FOps) (x0 x1 x2 x3 x4 x5 x6 x7 x8 x9 : Int) : Int := F.bin .add .f32 (F.bin .mul .f32 (List.getD (List.getD [[x2], [x3], [x4], [x5]] (Int.toNat x0) []) 0 0) (List.getD (List.getD [[x6], [x7], [x8], [x9]] (Int.toNat x1) []) 0 0)) (F.bin .mul .f32 (List.getD (List.getD [[x2], [x3], [x4], [x5]] (Int.toNat (IntKind.wrap .i64 (x0 + 1))) []) 0 0) (List.getD (List.getD [[x6], [x7], [x8], [x9]] (Int.toNat (IntKind.wrap .i64 (x1 + 2))) []) 0 0))
def Pure.impl_slopes_times_c1_ok (F : FOps) (x0 x1 x2 x3 x4 x5 x6 x7 x8 x9 : Int) : Bool := bif decide (0 ≤ x0) then bif decide (x0 < 4) then bif decide (0 ≤ x1) then bif decide (x1 < 4) then bif decide (0 ≤ (IntKind.wrap .i64 (x0 + 1))) then bif decide ((IntKind.wrap .i64 (x0 + 1)) < 4) then bif decide (0 ≤ (IntKind.wrap .i64 (x1 + 2))) then decide ((IntKind.wrap .i64 (x1 + 2)) < 4) else false else false else false else false else false else false else false
def c_impl_slopes_times_c1 (F : FOps) : Con
  | [V.at (A.int .i64 x0), V.at (A.int .i64 x1), V.at (A.ptr 0 0 0), V.at (A.ptr 1 0 0)], [⟨false, .rows [K.f .f32] [[x2], [x3], [x4], [x5]]⟩, ⟨false, .rows [K.f .f32] [[x6], [x7], [x8], [x9]]⟩] => some (Pure.impl_slopes_times_c1_ok F x0 x1 x2 x3 x4 x5 x6 x7 x8 x9, ⟨V.at (A.fl .f32 (Pure.impl_slopes_times_c1 F x0 x1 x2 x3 x4 x5 x6 x7 x8 x9)), none, []⟩)
  | _, _ => none
theorem e_impl_slopes_times_c1 (F : FOps) (x0 x1 x2 x3 x4 x5 x6 x7 x8 x9 : Int) : Pure.impl_slopes_times_c1_ok F x0 x1 x2 x3 x4 x5 x6 x7 x8 x9 = true → evFn (cxS F tyl [] [] [] 0) Try.f122 false [V.at (A.int .i64 x0), V.at (A.int .i64 x1), V.at (A.ptr 0 0 0), V.at (A.ptr 1 0 0)] [⟨false, .rows [K.f .f32] [[x2], [x3], [x4], [x5]]⟩, ⟨false, .rows [K.f .f32] [[x6], [x7], [x8], [x9]]⟩] = some ⟨V.at (A.fl .f32 (Pure.impl_slopes_times_c1 F x0 x1 x2 x3 x4 x5 x6 x7 x8 x9)), none, []⟩ := by
  have h0 : evFn (cxS F tyl [] [] [] 0) Try.f122 false [V.at (A.int .i64 x0), V.at (A.int .i64 x1), V.at (A.ptr 0 0 0), V.at (A.ptr 1 0 0)] [⟨false, .rows [K.f .f32] [[x2], [x3], [x4], [x5]]⟩, ⟨false, .rows [K.f .f32] [[x6], [x7], [x8], [x9]]⟩] = bif decide (0 ≤ x0) then bif decide (x0 < 4) then bif decide (0 ≤ x1) then bif decide (x1 < 4) then bif decide (0 ≤ (IntKind.wrap .i64 (x0 + 1))) then bif decide ((IntKind.wrap .i64 (x0 + 1)) < 4) then bif decide (0 ≤ (IntKind.wrap .i64 (x1 + 2))) then bif decide ((IntKind.wrap .i64 (x1 + 2)) < 4) then some ⟨V.at (A.fl .f32 (F.bin .add .f32 (F.bin .mul .f32 (List.getD (List.getD [[x2], [x3], [x4], [x5]] (Int.toNat x0) []) 0 0) (List.getD (List.getD [[x6], [x7], [x8], [x9]] (Int.toNat x1) []) 0 0)) (F.bin .mul .f32 (List.getD (List.getD [[x2], [x3], [x4], [x5]] (Int.toNat (IntKind.wrap .i64 (x0 + 1))) []) 0 0) (List.getD (List.getD [[x6], [x7], [x8], [x9]] (Int.toNat (IntKind.wrap .i64 (x1 + 2))) []) 0 0)))), none, []⟩ else none else none else none else none else none else none else none else none := by kernel_rfl
  rw [h0]
  unfold Pure.impl_slopes_times_c1 Pure.impl_slopes_times_c1_ok
  cases (decide (0 ≤ x0)) with
  | true =>
    cases (decide (x0 < 4)) with
    | true =>
      cases (decide (0 ≤ x1)) with
      | true =>
        cases (decide (x1 < 4)) with
        | true =>
          cases (decide (0 ≤ (IntKind.wrap .i64 (x0 + 1)))) with
          | true =>
            cases (decide ((IntKind.wrap .i64 (x0 + 1)) < 4)) with
            | true =>
              cases (decide (0 ≤ (IntKind.wrap .i64 (x1 + 2)))) with
              | true =>
                cases (decide ((IntKind.wrap .i64 (x1 + 2)) < 4)) with
                | true =>
                  intro _; rfl
                | false =>
                  intro h; exact absurd h Bool.false_ne_true
              | false =>
                intro h; exact absurd h Bool.false_ne_true
            | false =>
              intro h; exact absurd h Bool.false_ne_true
          | false =>
            intro h; exact absurd h Bool.false_ne_true
        | false =>
          intro h; exact absurd h Bool.false_ne_true
      | false =>
        intro h; exact absurd h Bool.false_ne_true
    | false =>
      intro h; exact absurd h Bool.false_ne_true
  | false =>
    intro h; exact absurd h Bool.false_ne_true
theorem ok_impl_slopes_times_c1 : CallOK Try.prog 122 (c_impl_slopes_times_c1 real) := by
  refine callOK_of fun args h ret hc => ?_
  unfold c_impl_slopes_times_c1 at hc
  split at hc
  · rename_i x0 x1 x2 x3 x4 x5 x6 x7 x8 x9
    obtain ⟨hok, rfl⟩ := some_ret hc
    exact holds_ev prog_ok allOK_nil Try.func122 rfl rfl smL_nil rfl (e_impl_slopes_times_c1 real x0 x1 x2 x3 x4 x5 x6 x7 x8 x9 hok)
  · cases hc
def c_laws_toState (_ : FOps) : Con
  | [V.agg [A.fl .f32 x0, A.fl .f32 x1]], [] => some (true, ⟨V.agg [A.fl .f32 x0, A.fl .f32 x1], none, []⟩)
  | _, _ => none
theorem e_laws_toState (F : FOps) (x0 x1 : Int) : evFn (cxS F tyl [] [] [] 0) Try.f31 false [V.agg [A.fl .f32 x0, A.fl .f32 x1]] [] = some ⟨V.agg [A.fl .f32 x0, A.fl .f32 x1], none, []⟩ := by
  kernel_rfl
theorem ok_laws_toState : CallOK Try.prog 31 (c_laws_toState real) := by
  refine callOK_of fun args h ret hc => ?_
  unfold c_laws_toState at hc
  split at hc
  · rename_i x0 x1
    obtain ⟨_, rfl⟩ := some_ret hc
    exact holds_ev prog_ok allOK_nil Try.func31 rfl rfl smL_nil rfl (e_laws_toState real x0 x1)
  · cases hc
def Pure.spec_l07Is (F : FOps) (x0 x1 : Int) : Bool := bif F.cmp .geq .f32 x0 0 then bif F.cmp .lss .f32 x0 1065353216 then bif F.cmp .geq .f32 x1 3204448256 then F.cmp .lss .f32 x1 1056964608 else false else false else false
def c_spec_l07Is (F : FOps) : Con
  | [V.agg [A.fl .f32 x0, A.fl .f32 x1]], [] => some (true, ⟨V.at (A.bool (Pure.spec_l07Is F x0 x1)), none, []⟩)
  | _, _ => none
theorem e_spec_l07Is (F : FOps) (x0 x1 : Int) : evFn (cxS F tyl [] [] [] 0) Try.f66 false [V.agg [A.fl .f32 x0, A.fl .f32 x1]] [] = some ⟨V.at (A.bool (Pure.spec_l07Is F x0 x1)), none, []⟩ := by
  have h0 : evFn (cxS F tyl [] [] [] 0) Try.f66 false [V.agg [A.fl .f32 x0, A.fl .f32 x1]] [] = bif F.cmp .geq .f32 x0 0 then bif F.cmp .lss .f32 x0 1065353216 then bif F.cmp .geq .f32 x1 3204448256 then some ⟨V.at (A.bool (F.cmp .lss .f32 x1 1056964608)), none, []⟩ else some ⟨V.at (A.bool false), none, []⟩ else some ⟨V.at (A.bool false), none, []⟩ else some ⟨V.at (A.bool false), none, []⟩ := by kernel_rfl
  rw [h0]
  unfold Pure.spec_l07Is
  cases (F.cmp .geq .f32 x0 0) with
  | true =>
    cases (F.cmp .lss .f32 x0 1065353216) with
    | true =>
      cases (F.cmp .geq .f32 x1 3204448256) with
      | true =>
        rfl
      | false =>
        rfl
    | false =>
      rfl
  | false =>
    rfl
theorem ok_spec_l07Is : CallOK Try.prog 66 (c_spec_l07Is real) := by
  refine callOK_of fun args h ret hc => ?_
  unfold c_spec_l07Is at hc
  split at hc
  · rename_i x0 x1
    obtain ⟨_, rfl⟩ := some_ret hc
    exact holds_ev prog_ok allOK_nil Try.func66 rfl rfl smL_nil rfl (e_spec_l07Is real x0 x1)
  · cases hc
def Pure.spec_l07Size (F : FOps) (x0 : Int) : Bool := bif F.cmp .geq .f32 x0 3229614080 then F.cmp .leq .f32 x0 1082130432 else false
def c_spec_l07Size (F : FOps) : Con
  | [V.at (A.fl .f32 x0)], [] => some (true, ⟨V.at (A.bool (Pure.spec_l07Size F x0)), none, []⟩)
  | _, _ => none
theorem e_spec_l07Size (F : FOps) (x0 : Int) : evFn (cxS F tyl [] [] [] 0) Try.f67 false [V.at (A.fl .f32 x0)] [] = some ⟨V.at (A.bool (Pure.spec_l07Size F x0)), none, []⟩ := by
  have h0 : evFn (cxS F tyl [] [] [] 0) Try.f67 false [V.at (A.fl .f32 x0)] [] = bif F.cmp .geq .f32 x0 3229614080 then some ⟨V.at (A.bool (F.cmp .leq .f32 x0 1082130432)), none, []⟩ else some ⟨V.at (A.bool false), none, []⟩ := by kernel_rfl
  rw [h0]
  unfold Pure.spec_l07Size
  cases (F.cmp .geq .f32 x0 3229614080) with
  | true =>
    rfl
  | false =>
    rfl
theorem ok_spec_l07Size : CallOK Try.prog 67 (c_spec_l07Size real) := by
  refine callOK_of fun args h ret hc => ?_
  unfold c_spec_l07Size at hc
  split at hc
  · rename_i x0
    obtain ⟨_, rfl⟩ := some_ret hc
    exact holds_ev prog_ok allOK_nil Try.func67 rfl rfl smL_nil rfl (e_spec_l07Size real x0)
  · cases hc
def Pure.spec_l00In (F : FOps) (x0 x1 x2 : Int) : Bool := bif decide (x0 ≥ x1) then decide (x0 ≤ x2) else false
def c_spec_l00In (F : FOps) : Con
  | [V.at (A.int .i64 x0), V.at (A.int .i64 x1), V.at (A.int .i64 x2)], [] => some (true, ⟨V.at (A.bool (Pure.spec_l00In F x0 x1 x2)), none, []⟩)
  | _, _ => none
theorem e_spec_l00In (F : FOps) (x0 x1 x2 : Int) : evFn (cxS F tyl [] [] [] 0) Try.f74 false [V.at (A.int .i64 x0), V.at (A.int .i64 x1), V.at (A.int .i64 x2)] [] = some ⟨V.at (A.bool (Pure.spec_l00In F x0 x1 x2)), none, []⟩ := by
  have h0 : evFn (cxS F tyl [] [] [] 0) Try.f74 false [V.at (A.int .i64 x0), V.at (A.int .i64 x1), V.at (A.int .i64 x2)] [] = bif decide (x0 ≥ x1) then some ⟨V.at (A.bool (decide (x0 ≤ x2))), none, []⟩ else some ⟨V.at (A.bool false), none, []⟩ := by kernel_rfl
  rw [h0]
  unfold Pure.spec_l00In
  cases (decide (x0 ≥ x1)) with
  | true =>
    rfl
  | false =>
    rfl
theorem ok_spec_l00In : CallOK Try.prog 74 (c_spec_l00In real) := by
  refine callOK_of fun args h ret hc => ?_
  unfold c_spec_l00In at hc
  split at hc
  · rename_i x0 x1 x2
    obtain ⟨_, rfl⟩ := some_ret hc
    exact holds_ev prog_ok allOK_nil Try.func74 rfl rfl smL_nil rfl (e_spec_l00In real x0 x1 x2)
  · cases hc
def Pure.spec_l07Orbit_L0 (F : FOps) (y0 : Int) : Nat → Int → Int → Int → (List (List Int)) → (Bool × (List (List Int)))
  | 0, _, _, _, _ => (false, [])
  | n + 1, y1, y2, y3, y4 => bif (decide (y1 > 0)) then (bif (Pure.spec_l07Map_ok F y2 y3 y0) then (bif (decide ((Nat.succ y4.length) ≤ 1073741824)) then (Pure.spec_l07Orbit_L0 F y0 n (IntKind.wrap .i64 (y1 - 1)) (Pure.spec_l07Map F y2 y3 y0) (Pure.spec_l07Map_1 F y2 y3 y0) (y4 ++ [[Pure.spec_l07Map F y2 y3 y0, Pure.spec_l07Map_1 F y2 y3 y0]])) else ((false, []))) else ((false, []))) else ((true, y4))
def R_spec_l07Orbit_L0 (r : (Bool × (List (List Int)))) : Bool × Bool × (Ex × List V × List Ob) × (Ex × List V × List Ob) := ((r).1, false, (Ex.normal, [V.at (A.sl 0)], [⟨true, .rows [K.f .f32, K.f .f32] (r).2⟩]), (Ex.normal, [V.at (A.sl 0)], [⟨true, .rows [K.f .f32, K.f .f32] (r).2⟩]))
def S_spec_l07Orbit_L0 (F : FOps) : Sm := ⟨[1, 2, 3, 7], [24, 2, 0, 84], [7], fun vals hp => match vals, hp with
  | [V.at (A.fl .f32 y0), V.at (A.int .i64 y1), V.at (A.ptr 0 0 0), V.at (A.sl 1)], [⟨true, .box [A.fl .f32 y2, A.fl .f32 y3]⟩, ⟨true, .rows [K.f .f32, K.f .f32] y4⟩] => some (R_spec_l07Orbit_L0  (Pure.spec_l07Orbit_L0 F y0 (y1 - 0 + 1).toNat y1 y2 y3 y4))
  | _, _ => none⟩
theorem l_spec_l07Orbit_L0 (F : FOps) (y0 : Int) : ∀ (fuel : Nat) (y1 y2 y3 : Int) (y4 : List (List Int)), (Pure.spec_l07Orbit_L0 F y0 fuel y1 y2 y3 y4).1 = true → loopOf (cxS F tyl [(112, c_spec_l07Map F)] [] [] 0) 0 22 0 [1, 2, 3, 7] [24, 2, 0, 84] [7] (loopB 0 (codeOf Try.f76)) fuel [V.at (A.fl .f32 y0), V.at (A.int .i64 y1), V.at (A.ptr 0 0 0), V.at (A.sl 1)] [⟨true, .box [A.fl .f32 y2, A.fl .f32 y3]⟩, ⟨true, .rows [K.f .f32, K.f .f32] y4⟩] = resOf (R_spec_l07Orbit_L0  (Pure.spec_l07Orbit_L0 F y0 fuel y1 y2 y3 y4)) := by
  intro fuel
  induction fuel with
  | zero => intro y1 y2 y3 y4 h; exact absurd h Bool.false_ne_true
  | succ n ih =>
    intro y1 y2 y3 y4
    have h0 : roundOf (cxS F tyl [(112, c_spec_l07Map F)] [] [] 0) 0 22 0 [1, 2, 3, 7] [24, 2, 0, 84] [7] (loopB 0 (codeOf Try.f76)) [V.at (A.fl .f32 y0), V.at (A.int .i64 y1), V.at (A.ptr 0 0 0), V.at (A.sl 1)] [⟨true, .box [A.fl .f32 y2, A.fl .f32 y3]⟩, ⟨true, .rows [K.f .f32, K.f .f32] y4⟩] = (bif decide (y1 > 0) then bif Pure.spec_l07Map_ok F y2 y3 y0 then bif decide ((Nat.succ y4.length) ≤ 1073741824) then some (true, (Ex.normal, ([V.at (A.fl .f32 y0), V.at (A.int .i64 (IntKind.wrap .i64 (y1 - 1))), V.at (A.ptr 0 0 0), V.at (A.sl 1)], [⟨true, .box [A.fl .f32 (Pure.spec_l07Map F y2 y3 y0), A.fl .f32 (Pure.spec_l07Map_1 F y2 y3 y0)]⟩, ⟨true, .rows [K.f .f32, K.f .f32] (y4 ++ [[Pure.spec_l07Map F y2 y3 y0, Pure.spec_l07Map_1 F y2 y3 y0]])⟩]))) else none else none else some (false, (Ex.normal, ([V.at (A.sl 0)], [⟨true, .rows [K.f .f32, K.f .f32] y4⟩])))) := by kernel_rfl
    unfold loopOf
    rw [h0]
    unfold Pure.spec_l07Orbit_L0
    cases (decide (y1 > 0)) with
    | true =>
      cases (Pure.spec_l07Map_ok F y2 y3 y0) with
      | true =>
        cases (decide ((Nat.succ y4.length) ≤ 1073741824)) with
        | true =>
          exact ih _ _ _ _
        | false =>
          intro h; exact absurd h Bool.false_ne_true
      | false =>
        intro h; exact absurd h Bool.false_ne_true
    | false =>
      intro _; rfl
theorem t_spec_l07Orbit_L0 : SmTo Try.prog 0 22 (S_spec_l07Orbit_L0 real) 0 (.loop (loopB 0 (codeOf Try.f76))) := by
  refine smTo_ev (cl := [(112, c_spec_l07Map real)]) (ef := []) (sm := []) (un := 0) prog_ok (allOK_cons ok_spec_l07Map allOK_nil) smL_nil ?_
  intro vals hp q r h hq
  unfold S_spec_l07Orbit_L0 at h
  dsimp only at h
  split at h
  · rename_i y0 y1 y2 y3 y4
    obtain rfl := Option.some.inj h
    have h1 := hq
    unfold resOf at h1
    rw [chk_some] at h1
    exact ⟨_, (l_spec_l07Orbit_L0 real y0 _ y1 y2 y3 y4 h1.1).trans hq⟩
  · cases h
def Pure.spec_l07Orbit (F : FOps) (x0 x1 x2 x3 : Int) : List (List Int) := Prod.snd (Pure.spec_l07Orbit_L0 F x2 (Int.toNat ((x3 - 0) + 1)) x3 x0 x1 [[x0, x1]])
def Pure.spec_l07Orbit_ok (F : FOps) (x0 x1 x2 x3 : Int) : Bool := Prod.fst (Pure.spec_l07Orbit_L0 F x2 (Int.toNat ((x3 - 0) + 1)) x3 x0 x1 [[x0, x1]])
def c_spec_l07Orbit (F : FOps) : Con
  | [V.agg [A.fl .f32 x0, A.fl .f32 x1], V.at (A.fl .f32 x2), V.at (A.int .i64 x3)], [] => some (Pure.spec_l07Orbit_ok F x0 x1 x2 x3, ⟨V.at (A.sl 0), none, [⟨true, .rows [K.f .f32, K.f .f32] (Pure.spec_l07Orbit F x0 x1 x2 x3)⟩]⟩)
  | _, _ => none
theorem e_spec_l07Orbit (F : FOps) (x0 x1 x2 x3 : Int) : Pure.spec_l07Orbit_ok F x0 x1 x2 x3 = true → evFn (cxS F tyl [(112, c_spec_l07Map F)] [] [(0, S_spec_l07Orbit_L0 F)] 0) Try.f76 false [V.agg [A.fl .f32 x0, A.fl .f32 x1], V.at (A.fl .f32 x2), V.at (A.int .i64 x3)] [] = some ⟨V.at (A.sl 0), none, [⟨true, .rows [K.f .f32, K.f .f32] (Pure.spec_l07Orbit F x0 x1 x2 x3)⟩]⟩ := by
  have h0 : evFn (cxS F tyl [(112, c_spec_l07Map F)] [] [(0, S_spec_l07Orbit_L0 F)] 0) Try.f76 false [V.agg [A.fl .f32 x0, A.fl .f32 x1], V.at (A.fl .f32 x2), V.at (A.int .i64 x3)] [] = bif Prod.fst (Pure.spec_l07Orbit_L0 F x2 (Int.toNat ((x3 - 0) + 1)) x3 x0 x1 [[x0, x1]]) then some ⟨V.at (A.sl 0), none, [⟨true, .rows [K.f .f32, K.f .f32] (Prod.snd (Pure.spec_l07Orbit_L0 F x2 (Int.toNat ((x3 - 0) + 1)) x3 x0 x1 [[x0, x1]]))⟩]⟩ else none := by kernel_rfl
  rw [h0]
  unfold Pure.spec_l07Orbit Pure.spec_l07Orbit_ok
  cases (Prod.fst (Pure.spec_l07Orbit_L0 F x2 (Int.toNat ((x3 - 0) + 1)) x3 x0 x1 [[x0, x1]])) with
  | true =>
    intro _; rfl
  | false =>
    intro h; exact absurd h Bool.false_ne_true
theorem ok_spec_l07Orbit : CallOK Try.prog 76 (c_spec_l07Orbit real) := by
  refine callOK_of fun args h ret hc => ?_
  unfold c_spec_l07Orbit at hc
  split at hc
  · rename_i x0 x1 x2 x3
    obtain ⟨hok, rfl⟩ := some_ret hc
    exact holds_ev prog_ok (allOK_cons ok_spec_l07Map allOK_nil) Try.func76 rfl rfl (smL_cons (body := .loop (loopB 0 (codeOf Try.f76))) (by kernel_rfl) t_spec_l07Orbit_L0 smL_nil) rfl (e_spec_l07Orbit real x0 x1 x2 x3 hok)
  · cases hc
def Pure.spec_l07Slopes (F : FOps) (x0 x1 x2 : Int) : List (List Int) := [[F.bin .add .f32 1065353216 (F.bin .mul .f32 (F.bin .mul .f32 x2 1086918619) (Pure.spec_l01Sine F (F.bin .add .f32 x0 1048576000)))], [1065353216], [F.bin .mul .f32 (F.bin .mul .f32 x2 1086918619) (Pure.spec_l01Sine F (F.bin .add .f32 x0 1048576000))], [1065353216]]
def Pure.spec_l07Slopes_ok (F : FOps) (x0 x1 x2 : Int) : Bool := Pure.spec_l01Sine_ok F (F.bin .add .f32 x0 1048576000)
def c_spec_l07Slopes (F : FOps) : Con
  | [V.agg [A.fl .f32 x0, A.fl .f32 x1], V.at (A.fl .f32 x2)], [] => some (Pure.spec_l07Slopes_ok F x0 x1 x2, ⟨V.at (A.sl 0), none, [⟨true, .rows [K.f .f32] (Pure.spec_l07Slopes F x0 x1 x2)⟩]⟩)
  | _, _ => none
theorem e_spec_l07Slopes (F : FOps) (x0 x1 x2 : Int) : Pure.spec_l07Slopes_ok F x0 x1 x2 = true → evFn (cxS F tyl [(113, c_spec_l01Sine F)] [] [] 0) Try.f80 false [V.agg [A.fl .f32 x0, A.fl .f32 x1], V.at (A.fl .f32 x2)] [] = some ⟨V.at (A.sl 0), none, [⟨true, .rows [K.f .f32] (Pure.spec_l07Slopes F x0 x1 x2)⟩]⟩ := by
  have h0 : evFn (cxS F tyl [(113, c_spec_l01Sine F)] [] [] 0) Try.f80 false [V.agg [A.fl .f32 x0, A.fl .f32 x1], V.at (A.fl .f32 x2)] [] = bif Pure.spec_l01Sine_ok F (F.bin .add .f32 x0 1048576000) then some ⟨V.at (A.sl 0), none, [⟨true, .rows [K.f .f32] [[F.bin .add .f32 1065353216 (F.bin .mul .f32 (F.bin .mul .f32 x2 1086918619) (Pure.spec_l01Sine F (F.bin .add .f32 x0 1048576000)))], [1065353216], [F.bin .mul .f32 (F.bin .mul .f32 x2 1086918619) (Pure.spec_l01Sine F (F.bin .add .f32 x0 1048576000))], [1065353216]]⟩]⟩ else none := by kernel_rfl
  rw [h0]
  unfold Pure.spec_l07Slopes Pure.spec_l07Slopes_ok
  cases (Pure.spec_l01Sine_ok F (F.bin .add .f32 x0 1048576000)) with
  | true =>
    intro _; rfl
  | false =>
    intro h; exact absurd h Bool.false_ne_true
theorem ok_spec_l07Slopes : CallOK Try.prog 80 (c_spec_l07Slopes real) := by
  refine callOK_of fun args h ret hc => ?_
  unfold c_spec_l07Slopes at hc
  split at hc
  · rename_i x0 x1 x2
    obtain ⟨hok, rfl⟩ := some_ret hc
    exact holds_ev prog_ok (allOK_cons ok_spec_l01Sine allOK_nil) Try.func80 rfl rfl smL_nil rfl (e_spec_l07Slopes real x0 x1 x2 hok)
  · cases hc
def Pure.spec_l07Along_L0 (F : FOps) (y0 y1 : Int) (y4 : List (List Int)) : Nat → Int → (List (List Int)) → (Bool × (List (List Int)))
  | 0, _, _ => (false, [])
  | n + 1, y2, y3 => bif (decide (y2 < y1)) then (bif (decide (0 ≤ y2)) then (bif (decide (y2 < (Int.ofNat y4.length))) then (bif (Pure.spec_l07Slopes_ok F ((y4.getD y2.toNat []).getD 0 0) ((y4.getD y2.toNat []).getD 1 0) y0) then (bif (decide (0 < (Int.ofNat (List.length (Pure.spec_l07Slopes F ((y4.getD y2.toNat []).getD 0 0) ((y4.getD y2.toNat []).getD 1 0) y0))))) then (bif (decide (0 < (Int.ofNat y3.length))) then (bif (decide (1 < (Int.ofNat (List.length (Pure.spec_l07Slopes F ((y4.getD y2.toNat []).getD 0 0) ((y4.getD y2.toNat []).getD 1 0) y0))))) then (bif (decide (2 < (Int.ofNat y3.length))) then (bif (decide (0 < (Int.ofNat (List.length (Pure.spec_l07Slopes F ((y4.getD y2.toNat []).getD 0 0) ((y4.getD y2.toNat []).getD 1 0) y0))))) then (bif (decide (1 < (Int.ofNat y3.length))) then (bif (decide (1 < (Int.ofNat (List.length (Pure.spec_l07Slopes F ((y4.getD y2.toNat []).getD 0 0) ((y4.getD y2.toNat []).getD 1 0) y0))))) then (bif (decide (3 < (Int.ofNat y3.length))) then (bif (decide (2 < (Int.ofNat (List.length (Pure.spec_l07Slopes F ((y4.getD y2.toNat []).getD 0 0) ((y4.getD y2.toNat []).getD 1 0) y0))))) then (bif (decide (0 < (Int.ofNat y3.length))) then (bif (decide (3 < (Int.ofNat (List.length (Pure.spec_l07Slopes F ((y4.getD y2.toNat []).getD 0 0) ((y4.getD y2.toNat []).getD 1 0) y0))))) then (bif (decide (2 < (Int.ofNat y3.length))) then (bif (decide (2 < (Int.ofNat (List.length (Pure.spec_l07Slopes F ((y4.getD y2.toNat []).getD 0 0) ((y4.getD y2.toNat []).getD 1 0) y0))))) then (bif (decide (1 < (Int.ofNat y3.length))) then (bif (decide (3 < (Int.ofNat (List.length (Pure.spec_l07Slopes F ((y4.getD y2.toNat []).getD 0 0) ((y4.getD y2.toNat []).getD 1 0) y0))))) then (bif (decide (3 < (Int.ofNat y3.length))) then (Pure.spec_l07Along_L0 F y0 y1 y4 n (IntKind.wrap .i64 (y2 + 1)) [[F.bin .add .f32 (F.bin .mul .f32 (List.getD (List.getD (Pure.spec_l07Slopes F ((y4.getD y2.toNat []).getD 0 0) ((y4.getD y2.toNat []).getD 1 0) y0) 0 []) 0 0) (List.getD (List.getD y3 0 []) 0 0)) (F.bin .mul .f32 (List.getD (List.getD (Pure.spec_l07Slopes F ((y4.getD y2.toNat []).getD 0 0) ((y4.getD y2.toNat []).getD 1 0) y0) 1 []) 0 0) (List.getD (List.getD y3 2 []) 0 0))], [F.bin .add .f32 (F.bin .mul .f32 (List.getD (List.getD (Pure.spec_l07Slopes F ((y4.getD y2.toNat []).getD 0 0) ((y4.getD y2.toNat []).getD 1 0) y0) 0 []) 0 0) (List.getD (List.getD y3 1 []) 0 0)) (F.bin .mul .f32 (List.getD (List.getD (Pure.spec_l07Slopes F ((y4.getD y2.toNat []).getD 0 0) ((y4.getD y2.toNat []).getD 1 0) y0) 1 []) 0 0) (List.getD (List.getD y3 3 []) 0 0))], [F.bin .add .f32 (F.bin .mul .f32 (List.getD (List.getD (Pure.spec_l07Slopes F ((y4.getD y2.toNat []).getD 0 0) ((y4.getD y2.toNat []).getD 1 0) y0) 2 []) 0 0) (List.getD (List.getD y3 0 []) 0 0)) (F.bin .mul .f32 (List.getD (List.getD (Pure.spec_l07Slopes F ((y4.getD y2.toNat []).getD 0 0) ((y4.getD y2.toNat []).getD 1 0) y0) 3 []) 0 0) (List.getD (List.getD y3 2 []) 0 0))], [F.bin .add .f32 (F.bin .mul .f32 (List.getD (List.getD (Pure.spec_l07Slopes F ((y4.getD y2.toNat []).getD 0 0) ((y4.getD y2.toNat []).getD 1 0) y0) 2 []) 0 0) (List.getD (List.getD y3 1 []) 0 0)) (F.bin .mul .f32 (List.getD (List.getD (Pure.spec_l07Slopes F ((y4.getD y2.toNat []).getD 0 0) ((y4.getD y2.toNat []).getD 1 0) y0) 3 []) 0 0) (List.getD (List.getD y3 3 []) 0 0))]]) else ((false, []))) else ((false, []))) else ((false, []))) else ((false, []))) else ((false, []))) else ((false, []))) else ((false, []))) else ((false, []))) else ((false, []))) else ((false, []))) else ((false, []))) else ((false, []))) else ((false, []))) else ((false, []))) else ((false, []))) else ((false, []))) else ((false, []))) else ((false, []))) else ((false, []))) else ((true, y3))
def R_spec_l07Along_L0 (r : (Bool × (List (List Int)))) : Bool × Bool × (Ex × List V × List Ob) × (Ex × List V × List Ob) := ((r).1, false, (Ex.normal, [V.at (A.sl 0)], [⟨true, .rows [K.f .f32] (r).2⟩]), (Ex.normal, [V.at (A.sl 0)], [⟨true, .rows [K.f .f32] (r).2⟩]))
def S_spec_l07Along_L0 (F : FOps) : Sm := ⟨[1, 2, 7, 8, 9], [24, 2, 30, 84, 2], [7], fun vals hp => match vals, hp with
  | [V.at (A.fl .f32 y0), V.at (A.int .i64 y1), V.at (A.sl 0), V.at (A.sl 1), V.at (A.int .i64 y2)], [⟨true, .rows [K.f .f32] y3⟩, ⟨true, .rows [K.f .f32, K.f .f32] y4⟩] => some (R_spec_l07Along_L0  (Pure.spec_l07Along_L0 F y0 y1 y4 (y1 - y2 + 1).toNat y2 y3))
  | _, _ => none⟩
theorem l_spec_l07Along_L0 (F : FOps) (y0 y1 : Int) (y4 : List (List Int)) : ∀ (fuel : Nat) (y2 : Int) (y3 : List (List Int)), (Pure.spec_l07Along_L0 F y0 y1 y4 fuel y2 y3).1 = true → loopOf (cxS F tyl [(76, c_spec_l07Orbit F), (80, c_spec_l07Slopes F)] [] [] 0) 0 89 0 [1, 2, 7, 8, 9] [24, 2, 30, 84, 2] [7] (loopB 0 (codeOf Try.f69)) fuel [V.at (A.fl .f32 y0), V.at (A.int .i64 y1), V.at (A.sl 0), V.at (A.sl 1), V.at (A.int .i64 y2)] [⟨true, .rows [K.f .f32] y3⟩, ⟨true, .rows [K.f .f32, K.f .f32] y4⟩] = resOf (R_spec_l07Along_L0  (Pure.spec_l07Along_L0 F y0 y1 y4 fuel y2 y3)) := by
  intro fuel
  induction fuel with
  | zero => intro y2 y3 h; exact absurd h Bool.false_ne_true
  | succ n ih =>
    intro y2 y3
    have h0 : roundOf (cxS F tyl [(76, c_spec_l07Orbit F), (80, c_spec_l07Slopes F)] [] [] 0) 0 89 0 [1, 2, 7, 8, 9] [24, 2, 30, 84, 2] [7] (loopB 0 (codeOf Try.f69)) [V.at (A.fl .f32 y0), V.at (A.int .i64 y1), V.at (A.sl 0), V.at (A.sl 1), V.at (A.int .i64 y2)] [⟨true, .rows [K.f .f32] y3⟩, ⟨true, .rows [K.f .f32, K.f .f32] y4⟩] = (bif decide (y2 < y1) then bif decide (0 ≤ y2) then bif decide (y2 < (Int.ofNat y4.length)) then bif Pure.spec_l07Slopes_ok F ((y4.getD y2.toNat []).getD 0 0) ((y4.getD y2.toNat []).getD 1 0) y0 then bif decide (0 < (Int.ofNat (List.length (Pure.spec_l07Slopes F ((y4.getD y2.toNat []).getD 0 0) ((y4.getD y2.toNat []).getD 1 0) y0)))) then bif decide (0 < (Int.ofNat y3.length)) then bif decide (1 < (Int.ofNat (List.length (Pure.spec_l07Slopes F ((y4.getD y2.toNat []).getD 0 0) ((y4.getD y2.toNat []).getD 1 0) y0)))) then bif decide (2 < (Int.ofNat y3.length)) then bif decide (0 < (Int.ofNat (List.length (Pure.spec_l07Slopes F ((y4.getD y2.toNat []).getD 0 0) ((y4.getD y2.toNat []).getD 1 0) y0)))) then bif decide (1 < (Int.ofNat y3.length)) then bif decide (1 < (Int.ofNat (List.length (Pure.spec_l07Slopes F ((y4.getD y2.toNat []).getD 0 0) ((y4.getD y2.toNat []).getD 1 0) y0)))) then bif decide (3 < (Int.ofNat y3.length)) then bif decide (2 < (Int.ofNat (List.length (Pure.spec_l07Slopes F ((y4.getD y2.toNat []).getD 0 0) ((y4.getD y2.toNat []).getD 1 0) y0)))) then bif decide (0 < (Int.ofNat y3.length)) then bif decide (3 < (Int.ofNat (List.length (Pure.spec_l07Slopes F ((y4.getD y2.toNat []).getD 0 0) ((y4.getD y2.toNat []).getD 1 0) y0)))) then bif decide (2 < (Int.ofNat y3.length)) then bif decide (2 < (Int.ofNat (List.length (Pure.spec_l07Slopes F ((y4.getD y2.toNat []).getD 0 0) ((y4.getD y2.toNat []).getD 1 0) y0)))) then bif decide (1 < (Int.ofNat y3.length)) then bif decide (3 < (Int.ofNat (List.length (Pure.spec_l07Slopes F ((y4.getD y2.toNat []).getD 0 0) ((y4.getD y2.toNat []).getD 1 0) y0)))) then bif decide (3 < (Int.ofNat y3.length)) then some (true, (Ex.normal, ([V.at (A.fl .f32 y0), V.at (A.int .i64 y1), V.at (A.sl 0), V.at (A.sl 1), V.at (A.int .i64 (IntKind.wrap .i64 (y2 + 1)))], [⟨true, .rows [K.f .f32] [[F.bin .add .f32 (F.bin .mul .f32 (List.getD (List.getD (Pure.spec_l07Slopes F ((y4.getD y2.toNat []).getD 0 0) ((y4.getD y2.toNat []).getD 1 0) y0) 0 []) 0 0) (List.getD (List.getD y3 0 []) 0 0)) (F.bin .mul .f32 (List.getD (List.getD (Pure.spec_l07Slopes F ((y4.getD y2.toNat []).getD 0 0) ((y4.getD y2.toNat []).getD 1 0) y0) 1 []) 0 0) (List.getD (List.getD y3 2 []) 0 0))], [F.bin .add .f32 (F.bin .mul .f32 (List.getD (List.getD (Pure.spec_l07Slopes F ((y4.getD y2.toNat []).getD 0 0) ((y4.getD y2.toNat []).getD 1 0) y0) 0 []) 0 0) (List.getD (List.getD y3 1 []) 0 0)) (F.bin .mul .f32 (List.getD (List.getD (Pure.spec_l07Slopes F ((y4.getD y2.toNat []).getD 0 0) ((y4.getD y2.toNat []).getD 1 0) y0) 1 []) 0 0) (List.getD (List.getD y3 3 []) 0 0))], [F.bin .add .f32 (F.bin .mul .f32 (List.getD (List.getD (Pure.spec_l07Slopes F ((y4.getD y2.toNat []).getD 0 0) ((y4.getD y2.toNat []).getD 1 0) y0) 2 []) 0 0) (List.getD (List.getD y3 0 []) 0 0)) (F.bin .mul .f32 (List.getD (List.getD (Pure.spec_l07Slopes F ((y4.getD y2.toNat []).getD 0 0) ((y4.getD y2.toNat []).getD 1 0) y0) 3 []) 0 0) (List.getD (List.getD y3 2 []) 0 0))], [F.bin .add .f32 (F.bin .mul .f32 (List.getD (List.getD (Pure.spec_l07Slopes F ((y4.getD y2.toNat []).getD 0 0) ((y4.getD y2.toNat []).getD 1 0) y0) 2 []) 0 0) (List.getD (List.getD y3 1 []) 0 0)) (F.bin .mul .f32 (List.getD (List.getD (Pure.spec_l07Slopes F ((y4.getD y2.toNat []).getD 0 0) ((y4.getD y2.toNat []).getD 1 0) y0) 3 []) 0 0) (List.getD (List.getD y3 3 []) 0 0))]]⟩, ⟨true, .rows [K.f .f32, K.f .f32] y4⟩]))) else none else none else none else none else none else none else none else none else none else none else none else none else none else none else none else none else none else none else none else some (false, (Ex.normal, ([V.at (A.sl 0)], [⟨true, .rows [K.f .f32] y3⟩])))) := by kernel_rfl
    unfold loopOf
    rw [h0]
    unfold Pure.spec_l07Along_L0
    cases (decide (y2 < y1)) with
    | true =>
      cases (decide (0 ≤ y2)) with
      | true =>
        cases (decide (y2 < (Int.ofNat y4.length))) with
        | true =>
          cases (Pure.spec_l07Slopes_ok F ((y4.getD y2.toNat []).getD 0 0) ((y4.getD y2.toNat []).getD 1 0) y0) with
          | true =>
            cases (decide (0 < (Int.ofNat (List.length (Pure.spec_l07Slopes F ((y4.getD y2.toNat []).getD 0 0) ((y4.getD y2.toNat []).getD 1 0) y0))))) with
            | true =>
              cases (decide (0 < (Int.ofNat y3.length))) with
              | true =>
                cases (decide (1 < (Int.ofNat (List.length (Pure.spec_l07Slopes F ((y4.getD y2.toNat []).getD 0 0) ((y4.getD y2.toNat []).getD 1 0) y0))))) with
                | true =>
                  cases (decide (2 < (Int.ofNat y3.length))) with
                  | true =>
                    cases (decide (1 < (Int.ofNat y3.length))) with
                    | true =>
                      cases (decide (3 < (Int.ofNat y3.length))) with
                      | true =>
                        cases (decide (2 < (Int.ofNat (List.length (Pure.spec_l07Slopes F ((y4.getD y2.toNat []).getD 0 0) ((y4.getD y2.toNat []).getD 1 0) y0))))) with
                        | true =>
                          cases (decide (3 < (Int.ofNat (List.length (Pure.spec_l07Slopes F ((y4.getD y2.toNat []).getD 0 0) ((y4.getD y2.toNat []).getD 1 0) y0))))) with
                          | true =>
                            exact ih _ _
                          | false =>
                            intro h; exact absurd h Bool.false_ne_true
                        | false =>
                          intro h; exact absurd h Bool.false_ne_true
                      | false =>
                        intro h; exact absurd h Bool.false_ne_true
                    | false =>
                      intro h; exact absurd h Bool.false_ne_true
                  | false =>
                    intro h; exact absurd h Bool.false_ne_true
                | false =>
                  intro h; exact absurd h Bool.false_ne_true
              | false =>
                intro h; exact absurd h Bool.false_ne_true
            | false =>
              intro h; exact absurd h Bool.false_ne_true
          | false =>
            intro h; exact absurd h Bool.false_ne_true
        | false =>
          intro h; exact absurd h Bool.false_ne_true
      | false =>
        intro h; exact absurd h Bool.false_ne_true
    | false =>
      intro _; rfl
theorem t_spec_l07Along_L0 : SmTo Try.prog 0 89 (S_spec_l07Along_L0 real) 0 (.loop (loopB 0 (codeOf Try.f69))) := by
  refine smTo_ev (cl := [(76, c_spec_l07Orbit real), (80, c_spec_l07Slopes real)]) (ef := []) (sm := []) (un := 0) prog_ok (allOK_cons ok_spec_l07Orbit (allOK_cons ok_spec_l07Slopes allOK_nil)) smL_nil ?_
  intro vals hp q r h hq
  unfold S_spec_l07Along_L0 at h
  dsimp only at h
  split at h
  · rename_i y0 y1 y2 y3 y4
    obtain rfl := Option.some.inj h
    have h1 := hq
    unfold resOf at h1
    rw [chk_some] at h1
    exact ⟨_, (l_spec_l07Along_L0 real y0 y1 y4 _ y2 y3 h1.1).trans hq⟩
  · cases h
def Pure.spec_l07Along (F : FOps) (x0 x1 x2 x3 : Int) : List (List Int) := Prod.snd (Pure.spec_l07Along_L0 F x2 x3 (Pure.spec_l07Orbit F x0 x1 x2 x3) (Int.toNat ((x3 - 0) + 1)) 0 [[1065353216], [0], [0], [1065353216]])
def Pure.spec_l07Along_ok (F : FOps) (x0 x1 x2 x3 : Int) : Bool := bif Pure.spec_l07Orbit_ok F x0 x1 x2 x3 then Prod.fst (Pure.spec_l07Along_L0 F x2 x3 (Pure.spec_l07Orbit F x0 x1 x2 x3) (Int.toNat ((x3 - 0) + 1)) 0 [[1065353216], [0], [0], [1065353216]]) else false
def c_spec_l07Along (F : FOps) : Con
  | [V.agg [A.fl .f32 x0, A.fl .f32 x1], V.at (A.fl .f32 x2), V.at (A.int .i64 x3)], [] => some (Pure.spec_l07Along_ok F x0 x1 x2 x3, ⟨V.at (A.sl 0), none, [⟨true, .rows [K.f .f32] (Pure.spec_l07Along F x0 x1 x2 x3)⟩]⟩)
  | _, _ => none
theorem e_spec_l07Along (F : FOps) (x0 x1 x2 x3 : Int) : Pure.spec_l07Along_ok F x0 x1 x2 x3 = true → evFn (cxS F tyl [(76, c_spec_l07Orbit F), (80, c_spec_l07Slopes F)] [] [(0, S_spec_l07Along_L0 F)] 0) Try.f69 false [V.agg [A.fl .f32 x0, A.fl .f32 x1], V.at (A.fl .f32 x2), V.at (A.int .i64 x3)] [] = some ⟨V.at (A.sl 0), none, [⟨true, .rows [K.f .f32] (Pure.spec_l07Along F x0 x1 x2 x3)⟩]⟩ := by
  have h0 : evFn (cxS F tyl [(76, c_spec_l07Orbit F), (80, c_spec_l07Slopes F)] [] [(0, S_spec_l07Along_L0 F)] 0) Try.f69 false [V.agg [A.fl .f32 x0, A.fl .f32 x1], V.at (A.fl .f32 x2), V.at (A.int .i64 x3)] [] = bif Pure.spec_l07Orbit_ok F x0 x1 x2 x3 then bif Prod.fst (Pure.spec_l07Along_L0 F x2 x3 (Pure.spec_l07Orbit F x0 x1 x2 x3) (Int.toNat ((x3 - 0) + 1)) 0 [[1065353216], [0], [0], [1065353216]]) then some ⟨V.at (A.sl 0), none, [⟨true, .rows [K.f .f32] (Prod.snd (Pure.spec_l07Along_L0 F x2 x3 (Pure.spec_l07Orbit F x0 x1 x2 x3) (Int.toNat ((x3 - 0) + 1)) 0 [[1065353216], [0], [0], [1065353216]]))⟩]⟩ else none else none := by kernel_rfl
  rw [h0]
  unfold Pure.spec_l07Along Pure.spec_l07Along_ok
  cases (Pure.spec_l07Orbit_ok F x0 x1 x2 x3) with
  | true =>
    cases (Prod.fst (Pure.spec_l07Along_L0 F x2 x3 (Pure.spec_l07Orbit F x0 x1 x2 x3) (Int.toNat ((x3 - 0) + 1)) 0 [[1065353216], [0], [0], [1065353216]])) with
    | true =>
      intro _; rfl
    | false =>
      intro h; exact absurd h Bool.false_ne_true
  | false =>
    intro h; exact absurd h Bool.false_ne_true
theorem ok_spec_l07Along : CallOK Try.prog 69 (c_spec_l07Along real) := by
  refine callOK_of fun args h ret hc => ?_
  unfold c_spec_l07Along at hc
  split at hc
  · rename_i x0 x1 x2 x3
    obtain ⟨hok, rfl⟩ := some_ret hc
    exact holds_ev prog_ok (allOK_cons ok_spec_l07Orbit (allOK_cons ok_spec_l07Slopes allOK_nil)) Try.func69 rfl rfl (smL_cons (body := .loop (loopB 0 (codeOf Try.f69))) (by kernel_rfl) t_spec_l07Along_L0 smL_nil) rfl (e_spec_l07Along real x0 x1 x2 x3 hok)
  · cases hc
def Pure.spec_l01Finite (F : FOps) (x0 : Int) : Bool := F.cmp .eql .f32 (F.bin .sub .f32 x0 x0) 0
def c_spec_l01Finite (F : FOps) : Con
  | [V.at (A.fl .f32 x0)], [] => some (true, ⟨V.at (A.bool (Pure.spec_l01Finite F x0)), none, []⟩)
  | _, _ => none
theorem e_spec_l01Finite (F : FOps) (x0 : Int) : evFn (cxS F tyl [] [] [] 0) Try.f70 false [V.at (A.fl .f32 x0)] [] = some ⟨V.at (A.bool (Pure.spec_l01Finite F x0)), none, []⟩ := by
  kernel_rfl
theorem ok_spec_l01Finite : CallOK Try.prog 70 (c_spec_l01Finite real) := by
  refine callOK_of fun args h ret hc => ?_
  unfold c_spec_l01Finite at hc
  split at hc
  · rename_i x0
    obtain ⟨_, rfl⟩ := some_ret hc
    exact holds_ev prog_ok allOK_nil Try.func70 rfl rfl smL_nil rfl (e_spec_l01Finite real x0)
  · cases hc
def Pure.impl_in (F : FOps) (x0 x1 x2 : Int) : Bool := bif decide (x0 ≥ x1) then decide (x0 ≤ x2) else false
def c_impl_in (F : FOps) : Con
  | [V.at (A.int .i64 x0), V.at (A.int .i64 x1), V.at (A.int .i64 x2)], [] => some (true, ⟨V.at (A.bool (Pure.impl_in F x0 x1 x2)), none, []⟩)
  | _, _ => none
theorem e_impl_in (F : FOps) (x0 x1 x2 : Int) : evFn (cxS F tyl [] [] [] 0) Try.f51 false [V.at (A.int .i64 x0), V.at (A.int .i64 x1), V.at (A.int .i64 x2)] [] = some ⟨V.at (A.bool (Pure.impl_in F x0 x1 x2)), none, []⟩ := by
  have h0 : evFn (cxS F tyl [] [] [] 0) Try.f51 false [V.at (A.int .i64 x0), V.at (A.int .i64 x1), V.at (A.int .i64 x2)] [] = bif decide (x0 ≥ x1) then some ⟨V.at (A.bool (decide (x0 ≤ x2))), none, []⟩ else some ⟨V.at (A.bool false), none, []⟩ := by kernel_rfl
  rw [h0]
  unfold Pure.impl_in
  cases (decide (x0 ≥ x1)) with
  | true =>
    rfl
  | false =>
    rfl
theorem ok_impl_in : CallOK Try.prog 51 (c_impl_in real) := by
  refine callOK_of fun args h ret hc => ?_
  unfold c_impl_in at hc
  split at hc
  · rename_i x0 x1 x2
    obtain ⟨_, rfl⟩ := some_ret hc
    exact holds_ev prog_ok allOK_nil Try.func51 rfl rfl smL_nil rfl (e_impl_in real x0 x1 x2)
  · cases hc
def Pure.impl_State_slopes (F : FOps) (x0 x1 x2 : Int) : Int := List.getD [F.bin .add .f32 1065353216 (F.bin .mul .f32 (F.bin .mul .f32 x2 1086918619) (Pure.impl_SineTurns F (F.bin .add .f32 x0 1048576000)))] 0 0
def Pure.impl_State_slopes_1 (F : FOps) (x0 x1 x2 : Int) : Int := List.getD [F.bin .mul .f32 (F.bin .mul .f32 x2 1086918619) (Pure.impl_SineTurns F (F.bin .add .f32 x0 1048576000))] 0 0
def Pure.impl_State_slopes_ok (F : FOps) (x0 x1 x2 : Int) : Bool := Pure.impl_SineTurns_ok F (F.bin .add .f32 x0 1048576000)
def c_impl_State_slopes (F : FOps) : Con
  | [V.agg [A.fl .f32 x0, A.fl .f32 x1], V.at (A.fl .f32 x2)], [] => some (Pure.impl_State_slopes_ok F x0 x1 x2, ⟨V.agg [A.fl .f32 (Pure.impl_State_slopes F x0 x1 x2), A.fl .f32 1065353216, A.fl .f32 (Pure.impl_State_slopes_1 F x0 x1 x2), A.fl .f32 1065353216], none, []⟩)
  | _, _ => none
theorem e_impl_State_slopes (F : FOps) (x0 x1 x2 : Int) : Pure.impl_State_slopes_ok F x0 x1 x2 = true → evFn (cxS F tyl [(115, c_impl_SineTurns F)] [] [] 0) Try.f82 false [V.agg [A.fl .f32 x0, A.fl .f32 x1], V.at (A.fl .f32 x2)] [] = some ⟨V.agg [A.fl .f32 (Pure.impl_State_slopes F x0 x1 x2), A.fl .f32 1065353216, A.fl .f32 (Pure.impl_State_slopes_1 F x0 x1 x2), A.fl .f32 1065353216], none, []⟩ := by
  have h0 : evFn (cxS F tyl [(115, c_impl_SineTurns F)] [] [] 0) Try.f82 false [V.agg [A.fl .f32 x0, A.fl .f32 x1], V.at (A.fl .f32 x2)] [] = bif Pure.impl_SineTurns_ok F (F.bin .add .f32 x0 1048576000) then some ⟨V.agg [A.fl .f32 (List.getD [F.bin .add .f32 1065353216 (F.bin .mul .f32 (F.bin .mul .f32 x2 1086918619) (Pure.impl_SineTurns F (F.bin .add .f32 x0 1048576000)))] 0 0), A.fl .f32 1065353216, A.fl .f32 (List.getD [F.bin .mul .f32 (F.bin .mul .f32 x2 1086918619) (Pure.impl_SineTurns F (F.bin .add .f32 x0 1048576000))] 0 0), A.fl .f32 1065353216], none, []⟩ else none := by kernel_rfl
  rw [h0]
  unfold Pure.impl_State_slopes Pure.impl_State_slopes_1 Pure.impl_State_slopes_ok
  cases (Pure.impl_SineTurns_ok F (F.bin .add .f32 x0 1048576000)) with
  | true =>
    intro _; rfl
  | false =>
    intro h; exact absurd h Bool.false_ne_true
theorem ok_impl_State_slopes : CallOK Try.prog 82 (c_impl_State_slopes real) := by
  refine callOK_of fun args h ret hc => ?_
  unfold c_impl_State_slopes at hc
  split at hc
  · rename_i x0 x1 x2
    obtain ⟨hok, rfl⟩ := some_ret hc
    exact holds_ev prog_ok (allOK_cons ok_impl_SineTurns allOK_nil) Try.func82 rfl rfl smL_nil rfl (e_impl_State_slopes real x0 x1 x2 hok)
  · cases hc
def Pure.impl_slopes_times (F : FOps) (x0 x1 x2 x3 x4 x5 x6 x7 : Int) : Int := List.getD [Pure.impl_slopes_times_c1 F 0 0 x0 x1 x2 x3 x4 x5 x6 x7] 0 0
def Pure.impl_slopes_times_1 (F : FOps) (x0 x1 x2 x3 x4 x5 x6 x7 : Int) : Int := List.getD [Pure.impl_slopes_times_c1 F 0 1 x0 x1 x2 x3 x4 x5 x6 x7] 0 0
def Pure.impl_slopes_times_2 (F : FOps) (x0 x1 x2 x3 x4 x5 x6 x7 : Int) : Int := List.getD [Pure.impl_slopes_times_c1 F 2 0 x0 x1 x2 x3 x4 x5 x6 x7] 0 0
def Pure.impl_slopes_times_3 (F : FOps) (x0 x1 x2 x3 x4 x5 x6 x7 : Int) : Int := List.getD [Pure.impl_slopes_times_c1 F 2 1 x0 x1 x2 x3 x4 x5 x6 x7] 0 0
def Pure.impl_slopes_times_ok (F : FOps) (x0 x1 x2 x3 x4 x5 x6 x7 : Int) : Bool := bif Pure.impl_slopes_times_c1_ok F 0 0 x0 x1 x2 x3 x4 x5 x6 x7 then bif Pure.impl_slopes_times_c1_ok F 0 1 x0 x1 x2 x3 x4 x5 x6 x7 then bif Pure.impl_slopes_times_c1_ok F 2 0 x0 x1 x2 x3 x4 x5 x6 x7 then Pure.impl_slopes_times_c1_ok F 2 1 x0 x1 x2 x3 x4 x5 x6 x7 else false else false else false
def c_impl_slopes_times (F : FOps) : Con
  | [V.agg [A.fl .f32 x0, A.fl .f32 x1, A.fl .f32 x2, A.fl .f32 x3], V.agg [A.fl .f32 x4, A.fl .f32 x5, A.fl .f32 x6, A.fl .f32 x7]], [] => some (Pure.impl_slopes_times_ok F x0 x1 x2 x3 x4 x5 x6 x7, ⟨V.agg [A.fl .f32 (Pure.impl_slopes_times F x0 x1 x2 x3 x4 x5 x6 x7), A.fl .f32 (Pure.impl_slopes_times_1 F x0 x1 x2 x3 x4 x5 x6 x7), A.fl .f32 (Pure.impl_slopes_times_2 F x0 x1 x2 x3 x4 x5 x6 x7), A.fl .f32 (Pure.impl_slopes_times_3 F x0 x1 x2 x3 x4 x5 x6 x7)], none, []⟩)
  | _, _ => none
theorem e_impl_slopes_times (F : FOps) (x0 x1 x2 x3 x4 x5 x6 x7 : Int) : Pure.impl_slopes_times_ok F x0 x1 x2 x3 x4 x5 x6 x7 = true → evFn (cxS F tyl [(122, c_impl_slopes_times_c1 F)] [] [] 0) Try.f108 false [V.agg [A.fl .f32 x0, A.fl .f32 x1, A.fl .f32 x2, A.fl .f32 x3], V.agg [A.fl .f32 x4, A.fl .f32 x5, A.fl .f32 x6, A.fl .f32 x7]] [] = some ⟨V.agg [A.fl .f32 (Pure.impl_slopes_times F x0 x1 x2 x3 x4 x5 x6 x7), A.fl .f32 (Pure.impl_slopes_times_1 F x0 x1 x2 x3 x4 x5 x6 x7), A.fl .f32 (Pure.impl_slopes_times_2 F x0 x1 x2 x3 x4 x5 x6 x7), A.fl .f32 (Pure.impl_slopes_times_3 F x0 x1 x2 x3 x4 x5 x6 x7)], none, []⟩ := by
  have h0 : evFn (cxS F tyl [(122, c_impl_slopes_times_c1 F)] [] [] 0) Try.f108 false [V.agg [A.fl .f32 x0, A.fl .f32 x1, A.fl .f32 x2, A.fl .f32 x3], V.agg [A.fl .f32 x4, A.fl .f32 x5, A.fl .f32 x6, A.fl .f32 x7]] [] = bif Pure.impl_slopes_times_c1_ok F 0 0 x0 x1 x2 x3 x4 x5 x6 x7 then bif Pure.impl_slopes_times_c1_ok F 0 1 x0 x1 x2 x3 x4 x5 x6 x7 then bif Pure.impl_slopes_times_c1_ok F 2 0 x0 x1 x2 x3 x4 x5 x6 x7 then bif Pure.impl_slopes_times_c1_ok F 2 1 x0 x1 x2 x3 x4 x5 x6 x7 then some ⟨V.agg [A.fl .f32 (List.getD [Pure.impl_slopes_times_c1 F 0 0 x0 x1 x2 x3 x4 x5 x6 x7] 0 0), A.fl .f32 (List.getD [Pure.impl_slopes_times_c1 F 0 1 x0 x1 x2 x3 x4 x5 x6 x7] 0 0), A.fl .f32 (List.getD [Pure.impl_slopes_times_c1 F 2 0 x0 x1 x2 x3 x4 x5 x6 x7] 0 0), A.fl .f32 (List.getD [Pure.impl_slopes_times_c1 F 2 1 x0 x1 x2 x3 x4 x5 x6 x7] 0 0)], none, []⟩ else none else none else none else none := by kernel_rfl
  rw [h0]
  unfold Pure.impl_slopes_times Pure.impl_slopes_times_1 Pure.impl_slopes_times_2 Pure.impl_slopes_times_3 Pure.impl_slopes_times_ok
  cases (Pure.impl_slopes_times_c1_ok F 0 0 x0 x1 x2 x3 x4 x5 x6 x7) with
  | true =>
    cases (Pure.impl_slopes_times_c1_ok F 0 1 x0 x1 x2 x3 x4 x5 x6 x7) with
    | true =>
      cases (Pure.impl_slopes_times_c1_ok F 2 0 x0 x1 x2 x3 x4 x5 x6 x7) with
      | true =>
        cases (Pure.impl_slopes_times_c1_ok F 2 1 x0 x1 x2 x3 x4 x5 x6 x7) with
        | true =>
          intro _; rfl
        | false =>
          intro h; exact absurd h Bool.false_ne_true
      | false =>
        intro h; exact absurd h Bool.false_ne_true
    | false =>
      intro h; exact absurd h Bool.false_ne_true
  | false =>
    intro h; exact absurd h Bool.false_ne_true
theorem ok_impl_slopes_times : CallOK Try.prog 108 (c_impl_slopes_times real) := by
  refine callOK_of fun args h ret hc => ?_
  unfold c_impl_slopes_times at hc
  split at hc
  · rename_i x0 x1 x2 x3 x4 x5 x6 x7
    obtain ⟨hok, rfl⟩ := some_ret hc
    exact holds_ev prog_ok (allOK_cons ok_impl_slopes_times_c1 allOK_nil) Try.func108 rfl rfl smL_nil rfl (e_impl_slopes_times real x0 x1 x2 x3 x4 x5 x6 x7 hok)
  · cases hc
def Pure.impl_WrapKick (F : FOps) (x0 : Int) : Int := bif Pure.impl_IsFinite F x0 then bif F.cmp .geq .f32 (F.conv .f64 .f32 (F.bin .sub .f64 (F.conv .f32 .f64 x0) (F.integral Ieee.Toward.down (F.bin .add .f64 (F.conv .f32 .f64 x0) 4602678819172646912)))) 1056964608 then 3204448256 else bif F.cmp .eql .f32 (F.conv .f64 .f32 (F.bin .sub .f64 (F.conv .f32 .f64 x0) (F.integral Ieee.Toward.down (F.bin .add .f64 (F.conv .f32 .f64 x0) 4602678819172646912)))) 0 then 0 else F.conv .f64 .f32 (F.bin .sub .f64 (F.conv .f32 .f64 x0) (F.integral Ieee.Toward.down (F.bin .add .f64 (F.conv .f32 .f64 x0) 4602678819172646912))) else 0
def Pure.impl_WrapKick_ok (F : FOps) (x0 : Int) : Bool := bif Pure.impl_IsFinite F x0 then bif F.convOk .f32 .f64 x0 then F.convOk .f64 .f32 (F.bin .sub .f64 (F.conv .f32 .f64 x0) (F.integral Ieee.Toward.down (F.bin .add .f64 (F.conv .f32 .f64 x0) 4602678819172646912))) else false else true
def c_impl_WrapKick (F : FOps) : Con
  | [V.at (A.fl .f32 x0)], [] => some (Pure.impl_WrapKick_ok F x0, ⟨V.tup [(false, [A.fl .f32 (Pure.impl_WrapKick F x0)]), (false, [A.bool (Pure.impl_IsFinite F x0)])], none, []⟩)
  | _, _ => none
theorem e_impl_WrapKick (F : FOps) (x0 : Int) : Pure.impl_WrapKick_ok F x0 = true → evFn (cxS F tyl [(47, c_impl_IsFinite F), (48, c_math_Floor F)] [] [] 0) Try.f16 false [V.at (A.fl .f32 x0)] [] = some ⟨V.tup [(false, [A.fl .f32 (Pure.impl_WrapKick F x0)]), (false, [A.bool (Pure.impl_IsFinite F x0)])], none, []⟩ := by
  have h0 : evFn (cxS F tyl [(47, c_impl_IsFinite F), (48, c_math_Floor F)] [] [] 0) Try.f16 false [V.at (A.fl .f32 x0)] [] = bif Bool.not (Pure.impl_IsFinite F x0) then some ⟨V.tup [(false, [A.fl .f32 0]), (false, [A.bool false])], none, []⟩ else bif F.convOk .f32 .f64 x0 then bif F.convOk .f32 .f64 x0 then bif F.convOk .f64 .f32 (F.bin .sub .f64 (F.conv .f32 .f64 x0) (F.integral Ieee.Toward.down (F.bin .add .f64 (F.conv .f32 .f64 x0) 4602678819172646912))) then bif F.cmp .geq .f32 (F.conv .f64 .f32 (F.bin .sub .f64 (F.conv .f32 .f64 x0) (F.integral Ieee.Toward.down (F.bin .add .f64 (F.conv .f32 .f64 x0) 4602678819172646912)))) 1056964608 then some ⟨V.tup [(false, [A.fl .f32 3204448256]), (false, [A.bool true])], none, []⟩ else bif F.cmp .eql .f32 (F.conv .f64 .f32 (F.bin .sub .f64 (F.conv .f32 .f64 x0) (F.integral Ieee.Toward.down (F.bin .add .f64 (F.conv .f32 .f64 x0) 4602678819172646912)))) 0 then some ⟨V.tup [(false, [A.fl .f32 0]), (false, [A.bool true])], none, []⟩ else some ⟨V.tup [(false, [A.fl .f32 (F.conv .f64 .f32 (F.bin .sub .f64 (F.conv .f32 .f64 x0) (F.integral Ieee.Toward.down (F.bin .add .f64 (F.conv .f32 .f64 x0) 4602678819172646912))))]), (false, [A.bool true])], none, []⟩ else none else none else none := by kernel_rfl
  rw [h0]
  unfold Pure.impl_WrapKick Pure.impl_WrapKick_ok
  cases (Pure.impl_IsFinite F x0) with
  | true =>
    cases (F.convOk .f32 .f64 x0) with
    | true =>
      cases (F.convOk .f64 .f32 (F.bin .sub .f64 (F.conv .f32 .f64 x0) (F.integral Ieee.Toward.down (F.bin .add .f64 (F.conv .f32 .f64 x0) 4602678819172646912)))) with
      | true =>
        cases (F.cmp .geq .f32 (F.conv .f64 .f32 (F.bin .sub .f64 (F.conv .f32 .f64 x0) (F.integral Ieee.Toward.down (F.bin .add .f64 (F.conv .f32 .f64 x0) 4602678819172646912)))) 1056964608) with
        | true =>
          intro _; rfl
        | false =>
          cases (F.cmp .eql .f32 (F.conv .f64 .f32 (F.bin .sub .f64 (F.conv .f32 .f64 x0) (F.integral Ieee.Toward.down (F.bin .add .f64 (F.conv .f32 .f64 x0) 4602678819172646912)))) 0) with
          | true =>
            intro _; rfl
          | false =>
            intro _; rfl
      | false =>
        intro h; exact absurd h Bool.false_ne_true
    | false =>
      intro h; exact absurd h Bool.false_ne_true
  | false =>
    intro _; rfl
theorem ok_impl_WrapKick : CallOK Try.prog 16 (c_impl_WrapKick real) := by
  refine callOK_of fun args h ret hc => ?_
  unfold c_impl_WrapKick at hc
  split at hc
  · rename_i x0
    obtain ⟨hok, rfl⟩ := some_ret hc
    exact holds_ev prog_ok (allOK_cons ok_impl_IsFinite (allOK_cons ok_math_Floor allOK_nil)) Try.func16 rfl rfl smL_nil rfl (e_impl_WrapKick real x0 hok)
  · cases hc
def Pure.impl_kicked_ok (F : FOps) (x0 : Int) : Bool := Pure.impl_WrapKick_ok F x0
def c_impl_kicked (F : FOps) : Con
  | [V.at (A.fl .f32 x0)], [] => some (Pure.impl_kicked_ok F x0, ⟨V.at (A.fl .f32 (Pure.impl_WrapKick F x0)), none, []⟩)
  | _, _ => none
theorem e_impl_kicked (F : FOps) (x0 : Int) : Pure.impl_kicked_ok F x0 = true → evFn (cxS F tyl [(16, c_impl_WrapKick F)] [] [] 0) Try.f105 false [V.at (A.fl .f32 x0)] [] = some ⟨V.at (A.fl .f32 (Pure.impl_WrapKick F x0)), none, []⟩ := by
  have h0 : evFn (cxS F tyl [(16, c_impl_WrapKick F)] [] [] 0) Try.f105 false [V.at (A.fl .f32 x0)] [] = bif Pure.impl_WrapKick_ok F x0 then some ⟨V.at (A.fl .f32 (Pure.impl_WrapKick F x0)), none, []⟩ else none := by kernel_rfl
  rw [h0]
  unfold Pure.impl_kicked_ok
  cases (Pure.impl_WrapKick_ok F x0) with
  | true =>
    intro _; rfl
  | false =>
    intro h; exact absurd h Bool.false_ne_true
theorem ok_impl_kicked : CallOK Try.prog 105 (c_impl_kicked real) := by
  refine callOK_of fun args h ret hc => ?_
  unfold c_impl_kicked at hc
  split at hc
  · rename_i x0
    obtain ⟨hok, rfl⟩ := some_ret hc
    exact holds_ev prog_ok (allOK_cons ok_impl_WrapKick allOK_nil) Try.func105 rfl rfl smL_nil rfl (e_impl_kicked real x0 hok)
  · cases hc
def Pure.impl_WrapTurn (F : FOps) (x0 : Int) : Int := bif Pure.impl_IsFinite F x0 then bif F.cmp .eql .f32 (F.conv .f64 .f32 (F.bin .sub .f64 (F.conv .f32 .f64 x0) (F.integral Ieee.Toward.down (F.conv .f32 .f64 x0)))) 1065353216 then 0 else bif F.cmp .eql .f32 (F.conv .f64 .f32 (F.bin .sub .f64 (F.conv .f32 .f64 x0) (F.integral Ieee.Toward.down (F.conv .f32 .f64 x0)))) 0 then 0 else F.conv .f64 .f32 (F.bin .sub .f64 (F.conv .f32 .f64 x0) (F.integral Ieee.Toward.down (F.conv .f32 .f64 x0))) else 0
def Pure.impl_WrapTurn_ok (F : FOps) (x0 : Int) : Bool := bif Pure.impl_IsFinite F x0 then bif F.convOk .f32 .f64 x0 then F.convOk .f64 .f32 (F.bin .sub .f64 (F.conv .f32 .f64 x0) (F.integral Ieee.Toward.down (F.conv .f32 .f64 x0))) else false else true
def c_impl_WrapTurn (F : FOps) : Con
  | [V.at (A.fl .f32 x0)], [] => some (Pure.impl_WrapTurn_ok F x0, ⟨V.tup [(false, [A.fl .f32 (Pure.impl_WrapTurn F x0)]), (false, [A.bool (Pure.impl_IsFinite F x0)])], none, []⟩)
  | _, _ => none
theorem e_impl_WrapTurn (F : FOps) (x0 : Int) : Pure.impl_WrapTurn_ok F x0 = true → evFn (cxS F tyl [(47, c_impl_IsFinite F), (48, c_math_Floor F)] [] [] 0) Try.f14 false [V.at (A.fl .f32 x0)] [] = some ⟨V.tup [(false, [A.fl .f32 (Pure.impl_WrapTurn F x0)]), (false, [A.bool (Pure.impl_IsFinite F x0)])], none, []⟩ := by
  have h0 : evFn (cxS F tyl [(47, c_impl_IsFinite F), (48, c_math_Floor F)] [] [] 0) Try.f14 false [V.at (A.fl .f32 x0)] [] = bif Bool.not (Pure.impl_IsFinite F x0) then some ⟨V.tup [(false, [A.fl .f32 0]), (false, [A.bool false])], none, []⟩ else bif F.convOk .f32 .f64 x0 then bif F.convOk .f32 .f64 x0 then bif F.convOk .f64 .f32 (F.bin .sub .f64 (F.conv .f32 .f64 x0) (F.integral Ieee.Toward.down (F.conv .f32 .f64 x0))) then bif F.cmp .eql .f32 (F.conv .f64 .f32 (F.bin .sub .f64 (F.conv .f32 .f64 x0) (F.integral Ieee.Toward.down (F.conv .f32 .f64 x0)))) 1065353216 then some ⟨V.tup [(false, [A.fl .f32 0]), (false, [A.bool true])], none, []⟩ else bif F.cmp .eql .f32 (F.conv .f64 .f32 (F.bin .sub .f64 (F.conv .f32 .f64 x0) (F.integral Ieee.Toward.down (F.conv .f32 .f64 x0)))) 0 then some ⟨V.tup [(false, [A.fl .f32 0]), (false, [A.bool true])], none, []⟩ else some ⟨V.tup [(false, [A.fl .f32 (F.conv .f64 .f32 (F.bin .sub .f64 (F.conv .f32 .f64 x0) (F.integral Ieee.Toward.down (F.conv .f32 .f64 x0))))]), (false, [A.bool true])], none, []⟩ else none else none else none := by kernel_rfl
  rw [h0]
  unfold Pure.impl_WrapTurn Pure.impl_WrapTurn_ok
  cases (Pure.impl_IsFinite F x0) with
  | true =>
    cases (F.convOk .f32 .f64 x0) with
    | true =>
      cases (F.convOk .f64 .f32 (F.bin .sub .f64 (F.conv .f32 .f64 x0) (F.integral Ieee.Toward.down (F.conv .f32 .f64 x0)))) with
      | true =>
        cases (F.cmp .eql .f32 (F.conv .f64 .f32 (F.bin .sub .f64 (F.conv .f32 .f64 x0) (F.integral Ieee.Toward.down (F.conv .f32 .f64 x0)))) 1065353216) with
        | true =>
          intro _; rfl
        | false =>
          cases (F.cmp .eql .f32 (F.conv .f64 .f32 (F.bin .sub .f64 (F.conv .f32 .f64 x0) (F.integral Ieee.Toward.down (F.conv .f32 .f64 x0)))) 0) with
          | true =>
            intro _; rfl
          | false =>
            intro _; rfl
      | false =>
        intro h; exact absurd h Bool.false_ne_true
    | false =>
      intro h; exact absurd h Bool.false_ne_true
  | false =>
    intro _; rfl
theorem ok_impl_WrapTurn : CallOK Try.prog 14 (c_impl_WrapTurn real) := by
  refine callOK_of fun args h ret hc => ?_
  unfold c_impl_WrapTurn at hc
  split at hc
  · rename_i x0
    obtain ⟨hok, rfl⟩ := some_ret hc
    exact holds_ev prog_ok (allOK_cons ok_impl_IsFinite (allOK_cons ok_math_Floor allOK_nil)) Try.func14 rfl rfl smL_nil rfl (e_impl_WrapTurn real x0 hok)
  · cases hc
def Pure.impl_wrapped_ok (F : FOps) (x0 : Int) : Bool := Pure.impl_WrapTurn_ok F x0
def c_impl_wrapped (F : FOps) : Con
  | [V.at (A.fl .f32 x0)], [] => some (Pure.impl_wrapped_ok F x0, ⟨V.at (A.fl .f32 (Pure.impl_WrapTurn F x0)), none, []⟩)
  | _, _ => none
theorem e_impl_wrapped (F : FOps) (x0 : Int) : Pure.impl_wrapped_ok F x0 = true → evFn (cxS F tyl [(14, c_impl_WrapTurn F)] [] [] 0) Try.f94 false [V.at (A.fl .f32 x0)] [] = some ⟨V.at (A.fl .f32 (Pure.impl_WrapTurn F x0)), none, []⟩ := by
  have h0 : evFn (cxS F tyl [(14, c_impl_WrapTurn F)] [] [] 0) Try.f94 false [V.at (A.fl .f32 x0)] [] = bif Pure.impl_WrapTurn_ok F x0 then some ⟨V.at (A.fl .f32 (Pure.impl_WrapTurn F x0)), none, []⟩ else none := by kernel_rfl
  rw [h0]
  unfold Pure.impl_wrapped_ok
  cases (Pure.impl_WrapTurn_ok F x0) with
  | true =>
    intro _; rfl
  | false =>
    intro h; exact absurd h Bool.false_ne_true
theorem ok_impl_wrapped : CallOK Try.prog 94 (c_impl_wrapped real) := by
  refine callOK_of fun args h ret hc => ?_
  unfold c_impl_wrapped at hc
  split at hc
  · rename_i x0
    obtain ⟨hok, rfl⟩ := some_ret hc
    exact holds_ev prog_ok (allOK_cons ok_impl_WrapTurn allOK_nil) Try.func94 rfl rfl smL_nil rfl (e_impl_wrapped real x0 hok)
  · cases hc
def Pure.impl_State_damped (F : FOps) (x0 x1 x2 x3 : Int) : Int := Pure.impl_WrapTurn F (F.bin .add .f32 x0 (Pure.impl_WrapKick F (F.bin .add .f32 (F.bin .mul .f32 x3 x1) (F.bin .mul .f32 x2 (Pure.impl_SineTurns F x0)))))
def Pure.impl_State_damped_1 (F : FOps) (x0 x1 x2 x3 : Int) : Int := Pure.impl_WrapKick F (F.bin .add .f32 (F.bin .mul .f32 x3 x1) (F.bin .mul .f32 x2 (Pure.impl_SineTurns F x0)))
def Pure.impl_State_damped_ok (F : FOps) (x0 x1 x2 x3 : Int) : Bool := bif Pure.impl_SineTurns_ok F x0 then bif Pure.impl_kicked_ok F (F.bin .add .f32 (F.bin .mul .f32 x3 x1) (F.bin .mul .f32 x2 (Pure.impl_SineTurns F x0))) then Pure.impl_wrapped_ok F (F.bin .add .f32 x0 (Pure.impl_WrapKick F (F.bin .add .f32 (F.bin .mul .f32 x3 x1) (F.bin .mul .f32 x2 (Pure.impl_SineTurns F x0))))) else false else false
def c_impl_State_damped (F : FOps) : Con
  | [V.agg [A.fl .f32 x0, A.fl .f32 x1], V.at (A.fl .f32 x2), V.at (A.fl .f32 x3)], [] => some (Pure.impl_State_damped_ok F x0 x1 x2 x3, ⟨V.agg [A.fl .f32 (Pure.impl_State_damped F x0 x1 x2 x3), A.fl .f32 (Pure.impl_State_damped_1 F x0 x1 x2 x3)], none, []⟩)
  | _, _ => none
theorem e_impl_State_damped (F : FOps) (x0 x1 x2 x3 : Int) : Pure.impl_State_damped_ok F x0 x1 x2 x3 = true → evFn (cxS F tyl [(115, c_impl_SineTurns F), (105, c_impl_kicked F), (94, c_impl_wrapped F)] [] [] 0) Try.f106 false [V.agg [A.fl .f32 x0, A.fl .f32 x1], V.at (A.fl .f32 x2), V.at (A.fl .f32 x3)] [] = some ⟨V.agg [A.fl .f32 (Pure.impl_State_damped F x0 x1 x2 x3), A.fl .f32 (Pure.impl_State_damped_1 F x0 x1 x2 x3)], none, []⟩ := by
  have h0 : evFn (cxS F tyl [(115, c_impl_SineTurns F), (105, c_impl_kicked F), (94, c_impl_wrapped F)] [] [] 0) Try.f106 false [V.agg [A.fl .f32 x0, A.fl .f32 x1], V.at (A.fl .f32 x2), V.at (A.fl .f32 x3)] [] = bif Pure.impl_SineTurns_ok F x0 then bif Pure.impl_kicked_ok F (F.bin .add .f32 (F.bin .mul .f32 x3 x1) (F.bin .mul .f32 x2 (Pure.impl_SineTurns F x0))) then bif Pure.impl_wrapped_ok F (F.bin .add .f32 x0 (Pure.impl_WrapKick F (F.bin .add .f32 (F.bin .mul .f32 x3 x1) (F.bin .mul .f32 x2 (Pure.impl_SineTurns F x0))))) then some ⟨V.agg [A.fl .f32 (Pure.impl_WrapTurn F (F.bin .add .f32 x0 (Pure.impl_WrapKick F (F.bin .add .f32 (F.bin .mul .f32 x3 x1) (F.bin .mul .f32 x2 (Pure.impl_SineTurns F x0)))))), A.fl .f32 (Pure.impl_WrapKick F (F.bin .add .f32 (F.bin .mul .f32 x3 x1) (F.bin .mul .f32 x2 (Pure.impl_SineTurns F x0))))], none, []⟩ else none else none else none := by kernel_rfl
  rw [h0]
  unfold Pure.impl_State_damped Pure.impl_State_damped_1 Pure.impl_State_damped_ok
  cases (Pure.impl_SineTurns_ok F x0) with
  | true =>
    cases (Pure.impl_kicked_ok F (F.bin .add .f32 (F.bin .mul .f32 x3 x1) (F.bin .mul .f32 x2 (Pure.impl_SineTurns F x0)))) with
    | true =>
      cases (Pure.impl_wrapped_ok F (F.bin .add .f32 x0 (Pure.impl_WrapKick F (F.bin .add .f32 (F.bin .mul .f32 x3 x1) (F.bin .mul .f32 x2 (Pure.impl_SineTurns F x0)))))) with
      | true =>
        intro _; rfl
      | false =>
        intro h; exact absurd h Bool.false_ne_true
    | false =>
      intro h; exact absurd h Bool.false_ne_true
  | false =>
    intro h; exact absurd h Bool.false_ne_true
theorem ok_impl_State_damped : CallOK Try.prog 106 (c_impl_State_damped real) := by
  refine callOK_of fun args h ret hc => ?_
  unfold c_impl_State_damped at hc
  split at hc
  · rename_i x0 x1 x2 x3
    obtain ⟨hok, rfl⟩ := some_ret hc
    exact holds_ev prog_ok (allOK_cons ok_impl_SineTurns (allOK_cons ok_impl_kicked (allOK_cons ok_impl_wrapped allOK_nil))) Try.func106 rfl rfl smL_nil rfl (e_impl_State_damped real x0 x1 x2 x3 hok)
  · cases hc
def Pure.impl_State_mapped_ok (F : FOps) (x0 x1 x2 : Int) : Bool := Pure.impl_State_damped_ok F x0 x1 x2 1065353216
def c_impl_State_mapped (F : FOps) : Con
  | [V.agg [A.fl .f32 x0, A.fl .f32 x1], V.at (A.fl .f32 x2)], [] => some (Pure.impl_State_mapped_ok F x0 x1 x2, ⟨V.agg [A.fl .f32 (Pure.impl_State_damped F x0 x1 x2 1065353216), A.fl .f32 (Pure.impl_State_damped_1 F x0 x1 x2 1065353216)], none, []⟩)
  | _, _ => none
theorem e_impl_State_mapped (F : FOps) (x0 x1 x2 : Int) : Pure.impl_State_mapped_ok F x0 x1 x2 = true → evFn (cxS F tyl [(106, c_impl_State_damped F)] [] [] 0) Try.f85 false [V.agg [A.fl .f32 x0, A.fl .f32 x1], V.at (A.fl .f32 x2)] [] = some ⟨V.agg [A.fl .f32 (Pure.impl_State_damped F x0 x1 x2 1065353216), A.fl .f32 (Pure.impl_State_damped_1 F x0 x1 x2 1065353216)], none, []⟩ := by
  have h0 : evFn (cxS F tyl [(106, c_impl_State_damped F)] [] [] 0) Try.f85 false [V.agg [A.fl .f32 x0, A.fl .f32 x1], V.at (A.fl .f32 x2)] [] = bif Pure.impl_State_damped_ok F x0 x1 x2 1065353216 then some ⟨V.agg [A.fl .f32 (Pure.impl_State_damped F x0 x1 x2 1065353216), A.fl .f32 (Pure.impl_State_damped_1 F x0 x1 x2 1065353216)], none, []⟩ else none := by kernel_rfl
  rw [h0]
  unfold Pure.impl_State_mapped_ok
  cases (Pure.impl_State_damped_ok F x0 x1 x2 1065353216) with
  | true =>
    intro _; rfl
  | false =>
    intro h; exact absurd h Bool.false_ne_true
theorem ok_impl_State_mapped : CallOK Try.prog 85 (c_impl_State_mapped real) := by
  refine callOK_of fun args h ret hc => ?_
  unfold c_impl_State_mapped at hc
  split at hc
  · rename_i x0 x1 x2
    obtain ⟨hok, rfl⟩ := some_ret hc
    exact holds_ev prog_ok (allOK_cons ok_impl_State_damped allOK_nil) Try.func85 rfl rfl smL_nil rfl (e_impl_State_mapped real x0 x1 x2 hok)
  · cases hc
def Pure.impl_State_along_L0 (F : FOps) (y0 y1 y5 y6 y7 y8 : Int) : Nat → Int → Int → Int → Int → Int → Int → Int → (Bool × Int × Int × Int × Int)
  | 0, _, _, _, _, _, _, _ => (false, 0, 0, 0, 0)
  | n + 1, y2, y3, y4, y9, y10, y11, y12 => bif (decide (y2 < y1)) then (bif (Pure.impl_State_slopes_ok F y3 y4 y0) then (bif (Pure.impl_slopes_times_ok F (Pure.impl_State_slopes F y3 y4 y0) 1065353216 (Pure.impl_State_slopes_1 F y3 y4 y0) 1065353216 (List.getD [y9] 0 0) (List.getD [y10] 0 0) (List.getD [y11] 0 0) (List.getD [y12] 0 0)) then (bif (Pure.impl_State_mapped_ok F y3 y4 y0) then (Pure.impl_State_along_L0 F y0 y1 y5 y6 y7 y8 n (IntKind.wrap .i64 (y2 + 1)) (Pure.impl_State_damped F y3 y4 y0 1065353216) (Pure.impl_State_damped_1 F y3 y4 y0 1065353216) (Pure.impl_slopes_times F (Pure.impl_State_slopes F y3 y4 y0) 1065353216 (Pure.impl_State_slopes_1 F y3 y4 y0) 1065353216 (List.getD [y9] 0 0) (List.getD [y10] 0 0) (List.getD [y11] 0 0) (List.getD [y12] 0 0)) (Pure.impl_slopes_times_1 F (Pure.impl_State_slopes F y3 y4 y0) 1065353216 (Pure.impl_State_slopes_1 F y3 y4 y0) 1065353216 (List.getD [y9] 0 0) (List.getD [y10] 0 0) (List.getD [y11] 0 0) (List.getD [y12] 0 0)) (Pure.impl_slopes_times_2 F (Pure.impl_State_slopes F y3 y4 y0) 1065353216 (Pure.impl_State_slopes_1 F y3 y4 y0) 1065353216 (List.getD [y9] 0 0) (List.getD [y10] 0 0) (List.getD [y11] 0 0) (List.getD [y12] 0 0)) (Pure.impl_slopes_times_3 F (Pure.impl_State_slopes F y3 y4 y0) 1065353216 (Pure.impl_State_slopes_1 F y3 y4 y0) 1065353216 (List.getD [y9] 0 0) (List.getD [y10] 0 0) (List.getD [y11] 0 0) (List.getD [y12] 0 0))) else ((false, 0, 0, 0, 0))) else ((false, 0, 0, 0, 0))) else ((false, 0, 0, 0, 0))) else ((true, y9, y10, y11, y12))
def R_impl_State_along_L0 (y5 y6 y7 y8 : Int) (r : (Bool × Int × Int × Int × Int)) : Bool × Bool × (Ex × List V × List Ob) × (Ex × List V × List Ob) := ((r).1, false, (Ex.normal, [V.at (A.ptr 0 0 0), V.at (A.ptr 1 0 0)], [⟨true, .rows [K.f .f32] [[y5], [y6], [y7], [y8]]⟩, ⟨true, .rows [K.f .f32] [[(r).2.1], [(r).2.2.1], [(r).2.2.2.1], [(r).2.2.2.2]]⟩]), (Ex.normal, [V.at (A.ptr 0 0 0), V.at (A.ptr 1 0 0)], [⟨true, .rows [K.f .f32] [[y5], [y6], [y7], [y8]]⟩, ⟨true, .rows [K.f .f32] [[(r).2.1], [(r).2.2.1], [(r).2.2.2.1], [(r).2.2.2.2]]⟩]))
def S_impl_State_along_L0 (F : FOps) : Sm := ⟨[1, 3, 6, 7, 9, 10], [24, 0, 0, 0, 2, 2], [6, 7], fun vals hp => match vals, hp with
  | [V.at (A.fl .f32 y0), V.at (A.ptr 0 0 0), V.at (A.ptr 1 0 0), V.at (A.ptr 2 0 0), V.at (A.int .i64 y1), V.at (A.int .i64 y2)], [⟨true, .box [A.fl .f32 y3, A.fl .f32 y4]⟩, ⟨true, .rows [K.f .f32] [[y5], [y6], [y7], [y8]]⟩, ⟨true, .rows [K.f .f32] [[y9], [y10], [y11], [y12]]⟩] => some (R_impl_State_along_L0 y5 y6 y7 y8 (Pure.impl_State_along_L0 F y0 y1 y5 y6 y7 y8 (y1 - y2 + 1).toNat y2 y3 y4 y9 y10 y11 y12))
  | _, _ => none⟩
theorem l_impl_State_along_L0 (F : FOps) (y0 y1 y5 y6 y7 y8 : Int) : ∀ (fuel : Nat) (y2 y3 y4 y9 y10 y11 y12 : Int), (Pure.impl_State_along_L0 F y0 y1 y5 y6 y7 y8 fuel y2 y3 y4 y9 y10 y11 y12).1 = true → loopOf (cxS F tyl [(82, c_impl_State_slopes F), (108, c_impl_slopes_times F), (85, c_impl_State_mapped F)] [] [] 0) 0 22 0 [1, 3, 6, 7, 9, 10] [24, 0, 0, 0, 2, 2] [6, 7] (loopB 0 (codeOf Try.f72)) fuel [V.at (A.fl .f32 y0), V.at (A.ptr 0 0 0), V.at (A.ptr 1 0 0), V.at (A.ptr 2 0 0), V.at (A.int .i64 y1), V.at (A.int .i64 y2)] [⟨true, .box [A.fl .f32 y3, A.fl .f32 y4]⟩, ⟨true, .rows [K.f .f32] [[y5], [y6], [y7], [y8]]⟩, ⟨true, .rows [K.f .f32] [[y9], [y10], [y11], [y12]]⟩] = resOf (R_impl_State_along_L0 y5 y6 y7 y8 (Pure.impl_State_along_L0 F y0 y1 y5 y6 y7 y8 fuel y2 y3 y4 y9 y10 y11 y12)) := by
  intro fuel
  induction fuel with
  | zero => intro y2 y3 y4 y9 y10 y11 y12 h; exact absurd h Bool.false_ne_true
  | succ n ih =>
    intro y2 y3 y4 y9 y10 y11 y12
    have h0 : roundOf (cxS F tyl [(82, c_impl_State_slopes F), (108, c_impl_slopes_times F), (85, c_impl_State_mapped F)] [] [] 0) 0 22 0 [1, 3, 6, 7, 9, 10] [24, 0, 0, 0, 2, 2] [6, 7] (loopB 0 (codeOf Try.f72)) [V.at (A.fl .f32 y0), V.at (A.ptr 0 0 0), V.at (A.ptr 1 0 0), V.at (A.ptr 2 0 0), V.at (A.int .i64 y1), V.at (A.int .i64 y2)] [⟨true, .box [A.fl .f32 y3, A.fl .f32 y4]⟩, ⟨true, .rows [K.f .f32] [[y5], [y6], [y7], [y8]]⟩, ⟨true, .rows [K.f .f32] [[y9], [y10], [y11], [y12]]⟩] = (bif decide (y2 < y1) then bif Pure.impl_State_slopes_ok F y3 y4 y0 then bif Pure.impl_slopes_times_ok F (Pure.impl_State_slopes F y3 y4 y0) 1065353216 (Pure.impl_State_slopes_1 F y3 y4 y0) 1065353216 (List.getD [y9] 0 0) (List.getD [y10] 0 0) (List.getD [y11] 0 0) (List.getD [y12] 0 0) then bif Pure.impl_State_mapped_ok F y3 y4 y0 then some (true, (Ex.normal, ([V.at (A.fl .f32 y0), V.at (A.ptr 0 0 0), V.at (A.ptr 1 0 0), V.at (A.ptr 2 0 0), V.at (A.int .i64 y1), V.at (A.int .i64 (IntKind.wrap .i64 (y2 + 1)))], [⟨true, .box [A.fl .f32 (Pure.impl_State_damped F y3 y4 y0 1065353216), A.fl .f32 (Pure.impl_State_damped_1 F y3 y4 y0 1065353216)]⟩, ⟨true, .rows [K.f .f32] [[y5], [y6], [y7], [y8]]⟩, ⟨true, .rows [K.f .f32] [[Pure.impl_slopes_times F (Pure.impl_State_slopes F y3 y4 y0) 1065353216 (Pure.impl_State_slopes_1 F y3 y4 y0) 1065353216 (List.getD [y9] 0 0) (List.getD [y10] 0 0) (List.getD [y11] 0 0) (List.getD [y12] 0 0)], [Pure.impl_slopes_times_1 F (Pure.impl_State_slopes F y3 y4 y0) 1065353216 (Pure.impl_State_slopes_1 F y3 y4 y0) 1065353216 (List.getD [y9] 0 0) (List.getD [y10] 0 0) (List.getD [y11] 0 0) (List.getD [y12] 0 0)], [Pure.impl_slopes_times_2 F (Pure.impl_State_slopes F y3 y4 y0) 1065353216 (Pure.impl_State_slopes_1 F y3 y4 y0) 1065353216 (List.getD [y9] 0 0) (List.getD [y10] 0 0) (List.getD [y11] 0 0) (List.getD [y12] 0 0)], [Pure.impl_slopes_times_3 F (Pure.impl_State_slopes F y3 y4 y0) 1065353216 (Pure.impl_State_slopes_1 F y3 y4 y0) 1065353216 (List.getD [y9] 0 0) (List.getD [y10] 0 0) (List.getD [y11] 0 0) (List.getD [y12] 0 0)]]⟩]))) else none else none else none else some (false, (Ex.normal, ([V.at (A.ptr 0 0 0), V.at (A.ptr 1 0 0)], [⟨true, .rows [K.f .f32] [[y5], [y6], [y7], [y8]]⟩, ⟨true, .rows [K.f .f32] [[y9], [y10], [y11], [y12]]⟩])))) := by kernel_rfl
    unfold loopOf
    rw [h0]
    unfold Pure.impl_State_along_L0
    cases (decide (y2 < y1)) with
    | true =>
      cases (Pure.impl_State_slopes_ok F y3 y4 y0) with
      | true =>
        cases (Pure.impl_slopes_times_ok F (Pure.impl_State_slopes F y3 y4 y0) 1065353216 (Pure.impl_State_slopes_1 F y3 y4 y0) 1065353216 (List.getD [y9] 0 0) (List.getD [y10] 0 0) (List.getD [y11] 0 0) (List.getD [y12] 0 0)) with
        | true =>
          cases (Pure.impl_State_mapped_ok F y3 y4 y0) with
          | true =>
            exact ih _ _ _ _ _ _ _
          | false =>
            intro h; exact absurd h Bool.false_ne_true
        | false =>
          intro h; exact absurd h Bool.false_ne_true
      | false =>
        intro h; exact absurd h Bool.false_ne_true
    | false =>
      intro _; rfl
theorem t_impl_State_along_L0 : SmTo Try.prog 0 22 (S_impl_State_along_L0 real) 0 (.loop (loopB 0 (codeOf Try.f72))) := by
  refine smTo_ev (cl := [(82, c_impl_State_slopes real), (108, c_impl_slopes_times real), (85, c_impl_State_mapped real)]) (ef := []) (sm := []) (un := 0) prog_ok (allOK_cons ok_impl_State_slopes (allOK_cons ok_impl_slopes_times (allOK_cons ok_impl_State_mapped allOK_nil))) smL_nil ?_
  intro vals hp q r h hq
  unfold S_impl_State_along_L0 at h
  dsimp only at h
  split at h
  · rename_i y0 y1 y2 y3 y4 y5 y6 y7 y8 y9 y10 y11 y12
    obtain rfl := Option.some.inj h
    have h1 := hq
    unfold resOf at h1
    rw [chk_some] at h1
    exact ⟨_, (l_impl_State_along_L0 real y0 y1 y5 y6 y7 y8 _ y2 y3 y4 y9 y10 y11 y12 h1.1).trans hq⟩
  · cases h
def Pure.impl_State_along (F : FOps) (x0 x1 x2 x3 : Int) : Int := List.getD [List.getD [Prod.fst (Prod.snd (Pure.impl_State_along_L0 F x2 x3 0 0 0 0 (Int.toNat ((x3 - 0) + 1)) 0 x0 x1 1065353216 0 0 1065353216))] 0 0] 0 0
def Pure.impl_State_along_1 (F : FOps) (x0 x1 x2 x3 : Int) : Int := List.getD [List.getD [Prod.fst (Prod.snd (Prod.snd (Pure.impl_State_along_L0 F x2 x3 0 0 0 0 (Int.toNat ((x3 - 0) + 1)) 0 x0 x1 1065353216 0 0 1065353216)))] 0 0] 0 0
def Pure.impl_State_along_2 (F : FOps) (x0 x1 x2 x3 : Int) : Int := List.getD [List.getD [Prod.fst (Prod.snd (Prod.snd (Prod.snd (Pure.impl_State_along_L0 F x2 x3 0 0 0 0 (Int.toNat ((x3 - 0) + 1)) 0 x0 x1 1065353216 0 0 1065353216))))] 0 0] 0 0
def Pure.impl_State_along_3 (F : FOps) (x0 x1 x2 x3 : Int) : Int := List.getD [List.getD [Prod.snd (Prod.snd (Prod.snd (Prod.snd (Pure.impl_State_along_L0 F x2 x3 0 0 0 0 (Int.toNat ((x3 - 0) + 1)) 0 x0 x1 1065353216 0 0 1065353216))))] 0 0] 0 0
def Pure.impl_State_along_ok (F : FOps) (x0 x1 x2 x3 : Int) : Bool := Prod.fst (Pure.impl_State_along_L0 F x2 x3 0 0 0 0 (Int.toNat ((x3 - 0) + 1)) 0 x0 x1 1065353216 0 0 1065353216)
def c_impl_State_along (F : FOps) : Con
  | [V.agg [A.fl .f32 x0, A.fl .f32 x1], V.at (A.fl .f32 x2), V.at (A.int .i64 x3)], [] => some (Pure.impl_State_along_ok F x0 x1 x2 x3, ⟨V.agg [A.fl .f32 (Pure.impl_State_along F x0 x1 x2 x3), A.fl .f32 (Pure.impl_State_along_1 F x0 x1 x2 x3), A.fl .f32 (Pure.impl_State_along_2 F x0 x1 x2 x3), A.fl .f32 (Pure.impl_State_along_3 F x0 x1 x2 x3)], none, []⟩)
  | _, _ => none
theorem e_impl_State_along (F : FOps) (x0 x1 x2 x3 : Int) : Pure.impl_State_along_ok F x0 x1 x2 x3 = true → evFn (cxS F tyl [(82, c_impl_State_slopes F), (108, c_impl_slopes_times F), (85, c_impl_State_mapped F)] [] [(0, S_impl_State_along_L0 F)] 0) Try.f72 false [V.agg [A.fl .f32 x0, A.fl .f32 x1], V.at (A.fl .f32 x2), V.at (A.int .i64 x3)] [] = some ⟨V.agg [A.fl .f32 (Pure.impl_State_along F x0 x1 x2 x3), A.fl .f32 (Pure.impl_State_along_1 F x0 x1 x2 x3), A.fl .f32 (Pure.impl_State_along_2 F x0 x1 x2 x3), A.fl .f32 (Pure.impl_State_along_3 F x0 x1 x2 x3)], none, []⟩ := by
  have h0 : evFn (cxS F tyl [(82, c_impl_State_slopes F), (108, c_impl_slopes_times F), (85, c_impl_State_mapped F)] [] [(0, S_impl_State_along_L0 F)] 0) Try.f72 false [V.agg [A.fl .f32 x0, A.fl .f32 x1], V.at (A.fl .f32 x2), V.at (A.int .i64 x3)] [] = bif Prod.fst (Pure.impl_State_along_L0 F x2 x3 0 0 0 0 (Int.toNat ((x3 - 0) + 1)) 0 x0 x1 1065353216 0 0 1065353216) then some ⟨V.agg [A.fl .f32 (List.getD [List.getD [Prod.fst (Prod.snd (Pure.impl_State_along_L0 F x2 x3 0 0 0 0 (Int.toNat ((x3 - 0) + 1)) 0 x0 x1 1065353216 0 0 1065353216))] 0 0] 0 0), A.fl .f32 (List.getD [List.getD [Prod.fst (Prod.snd (Prod.snd (Pure.impl_State_along_L0 F x2 x3 0 0 0 0 (Int.toNat ((x3 - 0) + 1)) 0 x0 x1 1065353216 0 0 1065353216)))] 0 0] 0 0), A.fl .f32 (List.getD [List.getD [Prod.fst (Prod.snd (Prod.snd (Prod.snd (Pure.impl_State_along_L0 F x2 x3 0 0 0 0 (Int.toNat ((x3 - 0) + 1)) 0 x0 x1 1065353216 0 0 1065353216))))] 0 0] 0 0), A.fl .f32 (List.getD [List.getD [Prod.snd (Prod.snd (Prod.snd (Prod.snd (Pure.impl_State_along_L0 F x2 x3 0 0 0 0 (Int.toNat ((x3 - 0) + 1)) 0 x0 x1 1065353216 0 0 1065353216))))] 0 0] 0 0)], none, []⟩ else none := by kernel_rfl
  rw [h0]
  unfold Pure.impl_State_along Pure.impl_State_along_1 Pure.impl_State_along_2 Pure.impl_State_along_3 Pure.impl_State_along_ok
  cases (Prod.fst (Pure.impl_State_along_L0 F x2 x3 0 0 0 0 (Int.toNat ((x3 - 0) + 1)) 0 x0 x1 1065353216 0 0 1065353216)) with
  | true =>
    intro _; rfl
  | false =>
    intro h; exact absurd h Bool.false_ne_true
theorem ok_impl_State_along : CallOK Try.prog 72 (c_impl_State_along real) := by
  refine callOK_of fun args h ret hc => ?_
  unfold c_impl_State_along at hc
  split at hc
  · rename_i x0 x1 x2 x3
    obtain ⟨hok, rfl⟩ := some_ret hc
    exact holds_ev prog_ok (allOK_cons ok_impl_State_slopes (allOK_cons ok_impl_slopes_times (allOK_cons ok_impl_State_mapped allOK_nil))) Try.func72 rfl rfl (smL_cons (body := .loop (loopB 0 (codeOf Try.f72))) (by kernel_rfl) t_impl_State_along_L0 smL_nil) rfl (e_impl_State_along real x0 x1 x2 x3 hok)
  · cases hc
def Pure.impl_finite (F : FOps) (x0 : List (List Int)) : Bool := bif Pure.slices_ContainsFunc_float32_float32_finite F x0 then false else true
def Pure.impl_finite_ok (F : FOps) (x0 : List (List Int)) : Bool := Pure.slices_ContainsFunc_float32_float32_finite_ok F x0
def c_impl_finite (F : FOps) : Con
  | [V.at (A.sl 0)], [⟨false, .rows [K.f .f32] x0⟩] => some (Pure.impl_finite_ok F x0, ⟨V.at (A.bool (Pure.impl_finite F x0)), none, []⟩)
  | _, _ => none
theorem e_impl_finite (F : FOps) (x0 : List (List Int)) : Pure.impl_finite_ok F x0 = true → evFn (cxS F tyl [(92, c_slices_ContainsFunc_float32_float32_finite F), (93, c_impl_finite_c1 F)] [] [] 0) Try.f49 false [V.at (A.sl 0)] [⟨false, .rows [K.f .f32] x0⟩] = some ⟨V.at (A.bool (Pure.impl_finite F x0)), none, []⟩ := by
  have h0 : evFn (cxS F tyl [(92, c_slices_ContainsFunc_float32_float32_finite F), (93, c_impl_finite_c1 F)] [] [] 0) Try.f49 false [V.at (A.sl 0)] [⟨false, .rows [K.f .f32] x0⟩] = bif Pure.slices_ContainsFunc_float32_float32_finite_ok F x0 then some ⟨V.at (A.bool (bif Pure.slices_ContainsFunc_float32_float32_finite F x0 then false else true)), none, []⟩ else none := by kernel_rfl
  rw [h0]
  unfold Pure.impl_finite Pure.impl_finite_ok
  cases (Pure.slices_ContainsFunc_float32_float32_finite_ok F x0) with
  | true =>
    intro _; rfl
  | false =>
    intro h; exact absurd h Bool.false_ne_true
theorem ok_impl_finite : CallOK Try.prog 49 (c_impl_finite real) := by
  refine callOK_of fun args h ret hc => ?_
  unfold c_impl_finite at hc
  split at hc
  · rename_i x0
    obtain ⟨hok, rfl⟩ := some_ret hc
    exact holds_ev prog_ok (allOK_cons ok_slices_ContainsFunc_float32_float32_finite (allOK_cons ok_impl_finite_c1 allOK_nil)) Try.func49 rfl rfl smL_nil rfl (e_impl_finite real x0 hok)
  · cases hc
def Pure.laws_sameFloat (F : FOps) (x0 x1 : Int) : Bool := bif F.cmp .neq .f64 x0 x0 then F.cmp .neq .f64 x1 x1 else bif F.cmp .neq .f64 x1 x1 then false else bif F.cmp .eql .f64 x0 0 then bif F.cmp .eql .f64 x1 0 then (F.cmp .gtr .f64 (F.bin .quo .f64 4607182418800017408 x0) 0) == (F.cmp .gtr .f64 (F.bin .quo .f64 4607182418800017408 x1) 0) else F.cmp .eql .f64 x0 x1 else F.cmp .eql .f64 x0 x1
def c_laws_sameFloat (F : FOps) : Con
  | [V.at (A.fl .f64 x0), V.at (A.fl .f64 x1)], [] => some (true, ⟨V.at (A.bool (Pure.laws_sameFloat F x0 x1)), none, []⟩)
  | _, _ => none
theorem e_laws_sameFloat (F : FOps) (x0 x1 : Int) : evFn (cxS F tyl [] [] [] 0) Try.f24 false [V.at (A.fl .f64 x0), V.at (A.fl .f64 x1)] [] = some ⟨V.at (A.bool (Pure.laws_sameFloat F x0 x1)), none, []⟩ := by
  have h0 : evFn (cxS F tyl [] [] [] 0) Try.f24 false [V.at (A.fl .f64 x0), V.at (A.fl .f64 x1)] [] = bif F.cmp .neq .f64 x0 x0 then bif F.cmp .neq .f64 x0 x0 then some ⟨V.at (A.bool (F.cmp .neq .f64 x1 x1)), none, []⟩ else some ⟨V.at (A.bool false), none, []⟩ else bif F.cmp .neq .f64 x1 x1 then bif F.cmp .neq .f64 x0 x0 then some ⟨V.at (A.bool (F.cmp .neq .f64 x1 x1)), none, []⟩ else some ⟨V.at (A.bool false), none, []⟩ else bif F.cmp .eql .f64 x0 0 then bif F.cmp .eql .f64 x1 0 then some ⟨V.at (A.bool ((F.cmp .gtr .f64 (F.bin .quo .f64 4607182418800017408 x0) 0) == (F.cmp .gtr .f64 (F.bin .quo .f64 4607182418800017408 x1) 0))), none, []⟩ else some ⟨V.at (A.bool (F.cmp .eql .f64 x0 x1)), none, []⟩ else some ⟨V.at (A.bool (F.cmp .eql .f64 x0 x1)), none, []⟩ := by kernel_rfl
  rw [h0]
  unfold Pure.laws_sameFloat
  cases (F.cmp .neq .f64 x0 x0) with
  | true =>
    rfl
  | false =>
    cases (F.cmp .neq .f64 x1 x1) with
    | true =>
      rfl
    | false =>
      cases (F.cmp .eql .f64 x0 0) with
      | true =>
        cases (F.cmp .eql .f64 x1 0) with
        | true =>
          rfl
        | false =>
          rfl
      | false =>
        rfl
theorem ok_laws_sameFloat : CallOK Try.prog 24 (c_laws_sameFloat real) := by
  refine callOK_of fun args h ret hc => ?_
  unfold c_laws_sameFloat at hc
  split at hc
  · rename_i x0 x1
    obtain ⟨_, rfl⟩ := some_ret hc
    exact holds_ev prog_ok allOK_nil Try.func24 rfl rfl smL_nil rfl (e_laws_sameFloat real x0 x1)
  · cases hc
end Go.Fx
