import Derived.Test.YtmcfcijddhgphaaXr4c
import Derived.KernelRfl
namespace Go.Fx
open Go.Proofs
set_option maxRecDepth 100000
def c_laws_toState (_ : FOps) : Con
  | [V.agg [A.fl FloatKind.f32 x0, A.fl FloatKind.f32 x1]], [] => some (true, ⟨V.agg [A.fl FloatKind.f32 x0, A.fl FloatKind.f32 x1], none, []⟩)
  | _, _ => none
theorem e_laws_toState (F : FOps) (x0 : Int) (x1 : Int) : evFn (cxS F tyl [] [] [] 0) Try.f31 false [V.agg [A.fl FloatKind.f32 x0, A.fl FloatKind.f32 x1]] [] = some ⟨V.agg [A.fl FloatKind.f32 x0, A.fl FloatKind.f32 x1], none, []⟩ := by
  kernel_rfl
theorem ok_laws_toState : CallOK Try.prog 31 (c_laws_toState real) := by
  refine callOK_of fun args h ret hc => ?_
  unfold c_laws_toState at hc
  split at hc
  · rename_i x0 x1
    obtain ⟨_, rfl⟩ := some_ret hc
    exact holds_ev prog_ok allOK_nil Try.func31 rfl rfl smL_nil rfl (e_laws_toState real x0 x1)
  · cases hc
def Pure.spec_l07Is (F : FOps) (x0 : Int) (x1 : Int) : Bool := bif FOps.cmp F BinOp.geq FloatKind.f32 x0 0 then bif FOps.cmp F BinOp.lss FloatKind.f32 x0 1065353216 then bif FOps.cmp F BinOp.geq FloatKind.f32 x1 3204448256 then FOps.cmp F BinOp.lss FloatKind.f32 x1 1056964608 else false else false else false
def c_spec_l07Is (F : FOps) : Con
  | [V.agg [A.fl FloatKind.f32 x0, A.fl FloatKind.f32 x1]], [] => some (true, ⟨V.at (A.bool (Pure.spec_l07Is F x0 x1)), none, []⟩)
  | _, _ => none
theorem e_spec_l07Is (F : FOps) (x0 : Int) (x1 : Int) : evFn (cxS F tyl [] [] [] 0) Try.f66 false [V.agg [A.fl FloatKind.f32 x0, A.fl FloatKind.f32 x1]] [] = some ⟨V.at (A.bool (Pure.spec_l07Is F x0 x1)), none, []⟩ := by
  have h0 : evFn (cxS F tyl [] [] [] 0) Try.f66 false [V.agg [A.fl FloatKind.f32 x0, A.fl FloatKind.f32 x1]] [] = bif FOps.cmp F BinOp.geq FloatKind.f32 x0 0 then bif FOps.cmp F BinOp.lss FloatKind.f32 x0 1065353216 then bif FOps.cmp F BinOp.geq FloatKind.f32 x1 3204448256 then some ⟨V.at (A.bool (FOps.cmp F BinOp.lss FloatKind.f32 x1 1056964608)), none, []⟩ else some ⟨V.at (A.bool false), none, []⟩ else some ⟨V.at (A.bool false), none, []⟩ else some ⟨V.at (A.bool false), none, []⟩ := by kernel_rfl
  rw [h0]
  unfold Pure.spec_l07Is
  cases (FOps.cmp F BinOp.geq FloatKind.f32 x0 0) with
  | true =>
    cases (FOps.cmp F BinOp.lss FloatKind.f32 x0 1065353216) with
    | true =>
      cases (FOps.cmp F BinOp.geq FloatKind.f32 x1 3204448256) with
      | true =>
        rfl
      | false =>
        rfl
    | false =>
      rfl
  | false =>
    rfl
theorem ok_spec_l07Is : CallOK Try.prog 66 (c_spec_l07Is real) := by
  refine callOK_of fun args h ret hc => ?_
  unfold c_spec_l07Is at hc
  split at hc
  · rename_i x0 x1
    obtain ⟨_, rfl⟩ := some_ret hc
    exact holds_ev prog_ok allOK_nil Try.func66 rfl rfl smL_nil rfl (e_spec_l07Is real x0 x1)
  · cases hc
def Pure.spec_l07Size (F : FOps) (x0 : Int) : Bool := bif FOps.cmp F BinOp.geq FloatKind.f32 x0 3229614080 then FOps.cmp F BinOp.leq FloatKind.f32 x0 1082130432 else false
def c_spec_l07Size (F : FOps) : Con
  | [V.at (A.fl FloatKind.f32 x0)], [] => some (true, ⟨V.at (A.bool (Pure.spec_l07Size F x0)), none, []⟩)
  | _, _ => none
theorem e_spec_l07Size (F : FOps) (x0 : Int) : evFn (cxS F tyl [] [] [] 0) Try.f67 false [V.at (A.fl FloatKind.f32 x0)] [] = some ⟨V.at (A.bool (Pure.spec_l07Size F x0)), none, []⟩ := by
  have h0 : evFn (cxS F tyl [] [] [] 0) Try.f67 false [V.at (A.fl FloatKind.f32 x0)] [] = bif FOps.cmp F BinOp.geq FloatKind.f32 x0 3229614080 then some ⟨V.at (A.bool (FOps.cmp F BinOp.leq FloatKind.f32 x0 1082130432)), none, []⟩ else some ⟨V.at (A.bool false), none, []⟩ := by kernel_rfl
  rw [h0]
  unfold Pure.spec_l07Size
  cases (FOps.cmp F BinOp.geq FloatKind.f32 x0 3229614080) with
  | true =>
    rfl
  | false =>
    rfl
theorem ok_spec_l07Size : CallOK Try.prog 67 (c_spec_l07Size real) := by
  refine callOK_of fun args h ret hc => ?_
  unfold c_spec_l07Size at hc
  split at hc
  · rename_i x0
    obtain ⟨_, rfl⟩ := some_ret hc
    exact holds_ev prog_ok allOK_nil Try.func67 rfl rfl smL_nil rfl (e_spec_l07Size real x0)
  · cases hc
def Pure.spec_l00In (F : FOps) (x0 : Int) (x1 : Int) (x2 : Int) : Bool := bif Decidable.decide (x0 ≥ x1) then Decidable.decide (x0 ≤ x2) else false
def c_spec_l00In (F : FOps) : Con
  | [V.at (A.int IntKind.i64 x0), V.at (A.int IntKind.i64 x1), V.at (A.int IntKind.i64 x2)], [] => some (true, ⟨V.at (A.bool (Pure.spec_l00In F x0 x1 x2)), none, []⟩)
  | _, _ => none
theorem e_spec_l00In (F : FOps) (x0 : Int) (x1 : Int) (x2 : Int) : evFn (cxS F tyl [] [] [] 0) Try.f74 false [V.at (A.int IntKind.i64 x0), V.at (A.int IntKind.i64 x1), V.at (A.int IntKind.i64 x2)] [] = some ⟨V.at (A.bool (Pure.spec_l00In F x0 x1 x2)), none, []⟩ := by
  have h0 : evFn (cxS F tyl [] [] [] 0) Try.f74 false [V.at (A.int IntKind.i64 x0), V.at (A.int IntKind.i64 x1), V.at (A.int IntKind.i64 x2)] [] = bif Decidable.decide (x0 ≥ x1) then some ⟨V.at (A.bool (Decidable.decide (x0 ≤ x2))), none, []⟩ else some ⟨V.at (A.bool false), none, []⟩ := by kernel_rfl
  rw [h0]
  unfold Pure.spec_l00In
  cases (Decidable.decide (x0 ≥ x1)) with
  | true =>
    rfl
  | false =>
    rfl
theorem ok_spec_l00In : CallOK Try.prog 74 (c_spec_l00In real) := by
  refine callOK_of fun args h ret hc => ?_
  unfold c_spec_l00In at hc
  split at hc
  · rename_i x0 x1 x2
    obtain ⟨_, rfl⟩ := some_ret hc
    exact holds_ev prog_ok allOK_nil Try.func74 rfl rfl smL_nil rfl (e_spec_l00In real x0 x1 x2)
  · cases hc
def c_spec_l07Count (F : FOps) : Con
  | [V.at (A.int IntKind.i64 x0), V.at (A.int IntKind.i64 x1)], [] => some (true, ⟨V.at (A.bool (Pure.spec_l00In F x0 x1 128)), none, []⟩)
  | _, _ => none
theorem e_spec_l07Count (F : FOps) (x0 : Int) (x1 : Int) : evFn (cxS F tyl [(74, c_spec_l00In F)] [] [] 0) Try.f68 false [V.at (A.int IntKind.i64 x0), V.at (A.int IntKind.i64 x1)] [] = some ⟨V.at (A.bool (Pure.spec_l00In F x0 x1 128)), none, []⟩ := by
  kernel_rfl
theorem ok_spec_l07Count : CallOK Try.prog 68 (c_spec_l07Count real) := by
  refine callOK_of fun args h ret hc => ?_
  unfold c_spec_l07Count at hc
  split at hc
  · rename_i x0 x1
    obtain ⟨_, rfl⟩ := some_ret hc
    exact holds_ev prog_ok (allOK_cons ok_spec_l00In allOK_nil) Try.func68 rfl rfl smL_nil rfl (e_spec_l07Count real x0 x1)
  · cases hc
def Pure.spec_l07Orbit_L0 (F : FOps) (y0 : Int) : Nat → Int → Int → Int → (List (List Int)) → (Bool × (List (List Int)))
  | 0, _, _, _, _ => (false, [])
  | n + 1, y1, y2, y3, y4 => bif (Decidable.decide (y1 > 0)) then (bif (Pure.spec_l07Map_ok F y2 y3 y0) then (bif (Decidable.decide ((Nat.succ (List.length y4)) ≤ 1073741824)) then (Pure.spec_l07Orbit_L0 F y0 n (IntKind.wrap IntKind.i64 (y1 - 1)) (Pure.spec_l07Map F y2 y3 y0) (Pure.spec_l07Map_1 F y2 y3 y0) (y4 ++ [[Pure.spec_l07Map F y2 y3 y0, Pure.spec_l07Map_1 F y2 y3 y0]])) else ((false, []))) else ((false, []))) else ((true, y4))
def R_spec_l07Orbit_L0 (r : (Bool × (List (List Int)))) : Bool × Bool × (Ex × List V × List Ob) × (Ex × List V × List Ob) := ((r).1, false, (Ex.normal, [V.at (A.sl 0)], [⟨true, OC.rows [K.f FloatKind.f32, K.f FloatKind.f32] (r).2⟩]), (Ex.normal, [V.at (A.sl 0)], [⟨true, OC.rows [K.f FloatKind.f32, K.f FloatKind.f32] (r).2⟩]))
def S_spec_l07Orbit_L0 (F : FOps) : Sm := ⟨[1, 2, 3, 7], [24, 2, 0, 84], [7], fun vals hp => match vals, hp with
  | [V.at (A.fl FloatKind.f32 y0), V.at (A.int IntKind.i64 y1), V.at (A.ptr 0 0 0), V.at (A.sl 1)], [⟨true, OC.box [A.fl FloatKind.f32 y2, A.fl FloatKind.f32 y3]⟩, ⟨true, OC.rows [K.f FloatKind.f32, K.f FloatKind.f32] y4⟩] => some (R_spec_l07Orbit_L0  (Pure.spec_l07Orbit_L0 F y0 (y1 - 0 + 1).toNat y1 y2 y3 y4))
  | _, _ => none⟩
theorem l_spec_l07Orbit_L0 (F : FOps) (y0 : Int) : ∀ (fuel : Nat) (y1 : Int) (y2 : Int) (y3 : Int) (y4 : List (List Int)), (Pure.spec_l07Orbit_L0 F y0 fuel y1 y2 y3 y4).1 = true → loopOf (cxS F tyl [(112, c_spec_l07Map F)] [] [] 0) 0 22 0 [1, 2, 3, 7] [24, 2, 0, 84] [7] (loopB 0 (codeOf Try.f76)) fuel [V.at (A.fl FloatKind.f32 y0), V.at (A.int IntKind.i64 y1), V.at (A.ptr 0 0 0), V.at (A.sl 1)] [⟨true, OC.box [A.fl FloatKind.f32 y2, A.fl FloatKind.f32 y3]⟩, ⟨true, OC.rows [K.f FloatKind.f32, K.f FloatKind.f32] y4⟩] = resOf (R_spec_l07Orbit_L0  (Pure.spec_l07Orbit_L0 F y0 fuel y1 y2 y3 y4)) := by
  intro fuel
  induction fuel with
  | zero => intro y1 y2 y3 y4 h; exact absurd h Bool.false_ne_true
  | succ n ih =>
    intro y1 y2 y3 y4
    have h0 : roundOf (cxS F tyl [(112, c_spec_l07Map F)] [] [] 0) 0 22 0 [1, 2, 3, 7] [24, 2, 0, 84] [7] (loopB 0 (codeOf Try.f76)) [V.at (A.fl FloatKind.f32 y0), V.at (A.int IntKind.i64 y1), V.at (A.ptr 0 0 0), V.at (A.sl 1)] [⟨true, OC.box [A.fl FloatKind.f32 y2, A.fl FloatKind.f32 y3]⟩, ⟨true, OC.rows [K.f FloatKind.f32, K.f FloatKind.f32] y4⟩] = (bif Decidable.decide (y1 > 0) then bif Pure.spec_l07Map_ok F y2 y3 y0 then bif Decidable.decide ((Nat.succ (List.length y4)) ≤ 1073741824) then some (true, (Ex.normal, ([V.at (A.fl FloatKind.f32 y0), V.at (A.int IntKind.i64 (IntKind.wrap IntKind.i64 (y1 - 1))), V.at (A.ptr 0 0 0), V.at (A.sl 1)], [⟨true, OC.box [A.fl FloatKind.f32 (Pure.spec_l07Map F y2 y3 y0), A.fl FloatKind.f32 (Pure.spec_l07Map_1 F y2 y3 y0)]⟩, ⟨true, OC.rows [K.f FloatKind.f32, K.f FloatKind.f32] (y4 ++ [[Pure.spec_l07Map F y2 y3 y0, Pure.spec_l07Map_1 F y2 y3 y0]])⟩]))) else none else none else some (false, (Ex.normal, ([V.at (A.sl 0)], [⟨true, OC.rows [K.f FloatKind.f32, K.f FloatKind.f32] y4⟩])))) := by kernel_rfl
    unfold loopOf
    rw [h0]
    unfold Pure.spec_l07Orbit_L0
    cases (Decidable.decide (y1 > 0)) with
    | true =>
      cases (Pure.spec_l07Map_ok F y2 y3 y0) with
      | true =>
        cases (Decidable.decide ((Nat.succ (List.length y4)) ≤ 1073741824)) with
        | true =>
          exact ih _ _ _ _
        | false =>
          intro h; exact absurd h Bool.false_ne_true
      | false =>
        intro h; exact absurd h Bool.false_ne_true
    | false =>
      intro _; rfl
theorem t_spec_l07Orbit_L0 : SmTo Try.prog 0 22 (S_spec_l07Orbit_L0 real) 0 (.loop (loopB 0 (codeOf Try.f76))) := by
  refine smTo_ev (cl := [(112, c_spec_l07Map real)]) (ef := []) (sm := []) (un := 0) prog_ok (allOK_cons ok_spec_l07Map allOK_nil) smL_nil ?_
  intro vals hp q r h hq
  unfold S_spec_l07Orbit_L0 at h
  dsimp only at h
  split at h
  · rename_i y0 y1 y2 y3 y4
    obtain rfl := Option.some.inj h
    have h1 := hq
    unfold resOf at h1
    rw [chk_some] at h1
    exact ⟨_, (l_spec_l07Orbit_L0 real y0 _ y1 y2 y3 y4 h1.1).trans hq⟩
  · cases h
def Pure.spec_l07Orbit (F : FOps) (x0 : Int) (x1 : Int) (x2 : Int) (x3 : Int) : List (List Int) := Prod.snd (Pure.spec_l07Orbit_L0 F x2 (Int.toNat ((x3 - 0) + 1)) x3 x0 x1 [[x0, x1]])
def Pure.spec_l07Orbit_ok (F : FOps) (x0 : Int) (x1 : Int) (x2 : Int) (x3 : Int) : Bool := Prod.fst (Pure.spec_l07Orbit_L0 F x2 (Int.toNat ((x3 - 0) + 1)) x3 x0 x1 [[x0, x1]])
def c_spec_l07Orbit (F : FOps) : Con
  | [V.agg [A.fl FloatKind.f32 x0, A.fl FloatKind.f32 x1], V.at (A.fl FloatKind.f32 x2), V.at (A.int IntKind.i64 x3)], [] => some (Pure.spec_l07Orbit_ok F x0 x1 x2 x3, ⟨V.at (A.sl 0), none, [⟨true, OC.rows [K.f FloatKind.f32, K.f FloatKind.f32] (Pure.spec_l07Orbit F x0 x1 x2 x3)⟩]⟩)
  | _, _ => none
theorem e_spec_l07Orbit (F : FOps) (x0 : Int) (x1 : Int) (x2 : Int) (x3 : Int) : Pure.spec_l07Orbit_ok F x0 x1 x2 x3 = true → evFn (cxS F tyl [(112, c_spec_l07Map F)] [] [(0, S_spec_l07Orbit_L0 F)] 0) Try.f76 false [V.agg [A.fl FloatKind.f32 x0, A.fl FloatKind.f32 x1], V.at (A.fl FloatKind.f32 x2), V.at (A.int IntKind.i64 x3)] [] = some ⟨V.at (A.sl 0), none, [⟨true, OC.rows [K.f FloatKind.f32, K.f FloatKind.f32] (Pure.spec_l07Orbit F x0 x1 x2 x3)⟩]⟩ := by
  have h0 : evFn (cxS F tyl [(112, c_spec_l07Map F)] [] [(0, S_spec_l07Orbit_L0 F)] 0) Try.f76 false [V.agg [A.fl FloatKind.f32 x0, A.fl FloatKind.f32 x1], V.at (A.fl FloatKind.f32 x2), V.at (A.int IntKind.i64 x3)] [] = bif Prod.fst (Pure.spec_l07Orbit_L0 F x2 (Int.toNat ((x3 - 0) + 1)) x3 x0 x1 [[x0, x1]]) then some ⟨V.at (A.sl 0), none, [⟨true, OC.rows [K.f FloatKind.f32, K.f FloatKind.f32] (Prod.snd (Pure.spec_l07Orbit_L0 F x2 (Int.toNat ((x3 - 0) + 1)) x3 x0 x1 [[x0, x1]]))⟩]⟩ else none := by kernel_rfl
  rw [h0]
  unfold Pure.spec_l07Orbit Pure.spec_l07Orbit_ok
  cases (Prod.fst (Pure.spec_l07Orbit_L0 F x2 (Int.toNat ((x3 - 0) + 1)) x3 x0 x1 [[x0, x1]])) with
  | true =>
    intro _; rfl
  | false =>
    intro h; exact absurd h Bool.false_ne_true
theorem ok_spec_l07Orbit : CallOK Try.prog 76 (c_spec_l07Orbit real) := by
  refine callOK_of fun args h ret hc => ?_
  unfold c_spec_l07Orbit at hc
  split at hc
  · rename_i x0 x1 x2 x3
    obtain ⟨hok, rfl⟩ := some_ret hc
    exact holds_ev prog_ok (allOK_cons ok_spec_l07Map allOK_nil) Try.func76 rfl rfl (smL_cons (body := .loop (loopB 0 (codeOf Try.f76))) (by kernel_rfl) t_spec_l07Orbit_L0 smL_nil) rfl (e_spec_l07Orbit real x0 x1 x2 x3 hok)
  · cases hc
def Pure.spec_l07Slopes (F : FOps) (x0 : Int) (x1 : Int) (x2 : Int) : List (List Int) := [[FOps.bin F BinOp.add FloatKind.f32 1065353216 (FOps.bin F BinOp.mul FloatKind.f32 (FOps.bin F BinOp.mul FloatKind.f32 x2 1086918619) (Pure.spec_l01Sine F (FOps.bin F BinOp.add FloatKind.f32 x0 1048576000)))], [1065353216], [FOps.bin F BinOp.mul FloatKind.f32 (FOps.bin F BinOp.mul FloatKind.f32 x2 1086918619) (Pure.spec_l01Sine F (FOps.bin F BinOp.add FloatKind.f32 x0 1048576000))], [1065353216]]
def Pure.spec_l07Slopes_ok (F : FOps) (x0 : Int) (x1 : Int) (x2 : Int) : Bool := Pure.spec_l01Sine_ok F (FOps.bin F BinOp.add FloatKind.f32 x0 1048576000)
def c_spec_l07Slopes (F : FOps) : Con
  | [V.agg [A.fl FloatKind.f32 x0, A.fl FloatKind.f32 x1], V.at (A.fl FloatKind.f32 x2)], [] => some (Pure.spec_l07Slopes_ok F x0 x1 x2, ⟨V.at (A.sl 0), none, [⟨true, OC.rows [K.f FloatKind.f32] (Pure.spec_l07Slopes F x0 x1 x2)⟩]⟩)
  | _, _ => none
theorem e_spec_l07Slopes (F : FOps) (x0 : Int) (x1 : Int) (x2 : Int) : Pure.spec_l07Slopes_ok F x0 x1 x2 = true → evFn (cxS F tyl [(113, c_spec_l01Sine F)] [] [] 0) Try.f80 false [V.agg [A.fl FloatKind.f32 x0, A.fl FloatKind.f32 x1], V.at (A.fl FloatKind.f32 x2)] [] = some ⟨V.at (A.sl 0), none, [⟨true, OC.rows [K.f FloatKind.f32] (Pure.spec_l07Slopes F x0 x1 x2)⟩]⟩ := by
  have h0 : evFn (cxS F tyl [(113, c_spec_l01Sine F)] [] [] 0) Try.f80 false [V.agg [A.fl FloatKind.f32 x0, A.fl FloatKind.f32 x1], V.at (A.fl FloatKind.f32 x2)] [] = bif Pure.spec_l01Sine_ok F (FOps.bin F BinOp.add FloatKind.f32 x0 1048576000) then some ⟨V.at (A.sl 0), none, [⟨true, OC.rows [K.f FloatKind.f32] [[FOps.bin F BinOp.add FloatKind.f32 1065353216 (FOps.bin F BinOp.mul FloatKind.f32 (FOps.bin F BinOp.mul FloatKind.f32 x2 1086918619) (Pure.spec_l01Sine F (FOps.bin F BinOp.add FloatKind.f32 x0 1048576000)))], [1065353216], [FOps.bin F BinOp.mul FloatKind.f32 (FOps.bin F BinOp.mul FloatKind.f32 x2 1086918619) (Pure.spec_l01Sine F (FOps.bin F BinOp.add FloatKind.f32 x0 1048576000))], [1065353216]]⟩]⟩ else none := by kernel_rfl
  rw [h0]
  unfold Pure.spec_l07Slopes Pure.spec_l07Slopes_ok
  cases (Pure.spec_l01Sine_ok F (FOps.bin F BinOp.add FloatKind.f32 x0 1048576000)) with
  | true =>
    intro _; rfl
  | false =>
    intro h; exact absurd h Bool.false_ne_true
theorem ok_spec_l07Slopes : CallOK Try.prog 80 (c_spec_l07Slopes real) := by
  refine callOK_of fun args h ret hc => ?_
  unfold c_spec_l07Slopes at hc
  split at hc
  · rename_i x0 x1 x2
    obtain ⟨hok, rfl⟩ := some_ret hc
    exact holds_ev prog_ok (allOK_cons ok_spec_l01Sine allOK_nil) Try.func80 rfl rfl smL_nil rfl (e_spec_l07Slopes real x0 x1 x2 hok)
  · cases hc
def Pure.spec_l01Finite (F : FOps) (x0 : Int) : Bool := FOps.cmp F BinOp.eql FloatKind.f32 (FOps.bin F BinOp.sub FloatKind.f32 x0 x0) 0
def c_spec_l01Finite (F : FOps) : Con
  | [V.at (A.fl FloatKind.f32 x0)], [] => some (true, ⟨V.at (A.bool (Pure.spec_l01Finite F x0)), none, []⟩)
  | _, _ => none
theorem e_spec_l01Finite (F : FOps) (x0 : Int) : evFn (cxS F tyl [] [] [] 0) Try.f70 false [V.at (A.fl FloatKind.f32 x0)] [] = some ⟨V.at (A.bool (Pure.spec_l01Finite F x0)), none, []⟩ := by
  kernel_rfl
theorem ok_spec_l01Finite : CallOK Try.prog 70 (c_spec_l01Finite real) := by
  refine callOK_of fun args h ret hc => ?_
  unfold c_spec_l01Finite at hc
  split at hc
  · rename_i x0
    obtain ⟨_, rfl⟩ := some_ret hc
    exact holds_ev prog_ok allOK_nil Try.func70 rfl rfl smL_nil rfl (e_spec_l01Finite real x0)
  · cases hc
def Pure.impl_in (F : FOps) (x0 : Int) (x1 : Int) (x2 : Int) : Bool := bif Decidable.decide (x0 ≥ x1) then Decidable.decide (x0 ≤ x2) else false
def c_impl_in (F : FOps) : Con
  | [V.at (A.int IntKind.i64 x0), V.at (A.int IntKind.i64 x1), V.at (A.int IntKind.i64 x2)], [] => some (true, ⟨V.at (A.bool (Pure.impl_in F x0 x1 x2)), none, []⟩)
  | _, _ => none
theorem e_impl_in (F : FOps) (x0 : Int) (x1 : Int) (x2 : Int) : evFn (cxS F tyl [] [] [] 0) Try.f51 false [V.at (A.int IntKind.i64 x0), V.at (A.int IntKind.i64 x1), V.at (A.int IntKind.i64 x2)] [] = some ⟨V.at (A.bool (Pure.impl_in F x0 x1 x2)), none, []⟩ := by
  have h0 : evFn (cxS F tyl [] [] [] 0) Try.f51 false [V.at (A.int IntKind.i64 x0), V.at (A.int IntKind.i64 x1), V.at (A.int IntKind.i64 x2)] [] = bif Decidable.decide (x0 ≥ x1) then some ⟨V.at (A.bool (Decidable.decide (x0 ≤ x2))), none, []⟩ else some ⟨V.at (A.bool false), none, []⟩ := by kernel_rfl
  rw [h0]
  unfold Pure.impl_in
  cases (Decidable.decide (x0 ≥ x1)) with
  | true =>
    rfl
  | false =>
    rfl
theorem ok_impl_in : CallOK Try.prog 51 (c_impl_in real) := by
  refine callOK_of fun args h ret hc => ?_
  unfold c_impl_in at hc
  split at hc
  · rename_i x0 x1 x2
    obtain ⟨_, rfl⟩ := some_ret hc
    exact holds_ev prog_ok allOK_nil Try.func51 rfl rfl smL_nil rfl (e_impl_in real x0 x1 x2)
  · cases hc
def Pure.impl_State_slopes (F : FOps) (x0 : Int) (x1 : Int) (x2 : Int) : Int := List.getD [FOps.bin F BinOp.add FloatKind.f32 1065353216 (FOps.bin F BinOp.mul FloatKind.f32 (FOps.bin F BinOp.mul FloatKind.f32 x2 1086918619) (Pure.impl_SineTurns F (FOps.bin F BinOp.add FloatKind.f32 x0 1048576000)))] 0 0
def Pure.impl_State_slopes_1 (F : FOps) (x0 : Int) (x1 : Int) (x2 : Int) : Int := List.getD [FOps.bin F BinOp.mul FloatKind.f32 (FOps.bin F BinOp.mul FloatKind.f32 x2 1086918619) (Pure.impl_SineTurns F (FOps.bin F BinOp.add FloatKind.f32 x0 1048576000))] 0 0
def Pure.impl_State_slopes_ok (F : FOps) (x0 : Int) (x1 : Int) (x2 : Int) : Bool := Pure.impl_SineTurns_ok F (FOps.bin F BinOp.add FloatKind.f32 x0 1048576000)
def c_impl_State_slopes (F : FOps) : Con
  | [V.agg [A.fl FloatKind.f32 x0, A.fl FloatKind.f32 x1], V.at (A.fl FloatKind.f32 x2)], [] => some (Pure.impl_State_slopes_ok F x0 x1 x2, ⟨V.agg [A.fl FloatKind.f32 (Pure.impl_State_slopes F x0 x1 x2), A.fl FloatKind.f32 1065353216, A.fl FloatKind.f32 (Pure.impl_State_slopes_1 F x0 x1 x2), A.fl FloatKind.f32 1065353216], none, []⟩)
  | _, _ => none
theorem e_impl_State_slopes (F : FOps) (x0 : Int) (x1 : Int) (x2 : Int) : Pure.impl_State_slopes_ok F x0 x1 x2 = true → evFn (cxS F tyl [(115, c_impl_SineTurns F)] [] [] 0) Try.f82 false [V.agg [A.fl FloatKind.f32 x0, A.fl FloatKind.f32 x1], V.at (A.fl FloatKind.f32 x2)] [] = some ⟨V.agg [A.fl FloatKind.f32 (Pure.impl_State_slopes F x0 x1 x2), A.fl FloatKind.f32 1065353216, A.fl FloatKind.f32 (Pure.impl_State_slopes_1 F x0 x1 x2), A.fl FloatKind.f32 1065353216], none, []⟩ := by
  have h0 : evFn (cxS F tyl [(115, c_impl_SineTurns F)] [] [] 0) Try.f82 false [V.agg [A.fl FloatKind.f32 x0, A.fl FloatKind.f32 x1], V.at (A.fl FloatKind.f32 x2)] [] = bif Pure.impl_SineTurns_ok F (FOps.bin F BinOp.add FloatKind.f32 x0 1048576000) then some ⟨V.agg [A.fl FloatKind.f32 (List.getD [FOps.bin F BinOp.add FloatKind.f32 1065353216 (FOps.bin F BinOp.mul FloatKind.f32 (FOps.bin F BinOp.mul FloatKind.f32 x2 1086918619) (Pure.impl_SineTurns F (FOps.bin F BinOp.add FloatKind.f32 x0 1048576000)))] 0 0), A.fl FloatKind.f32 1065353216, A.fl FloatKind.f32 (List.getD [FOps.bin F BinOp.mul FloatKind.f32 (FOps.bin F BinOp.mul FloatKind.f32 x2 1086918619) (Pure.impl_SineTurns F (FOps.bin F BinOp.add FloatKind.f32 x0 1048576000))] 0 0), A.fl FloatKind.f32 1065353216], none, []⟩ else none := by kernel_rfl
  rw [h0]
  unfold Pure.impl_State_slopes Pure.impl_State_slopes_1 Pure.impl_State_slopes_ok
  cases (Pure.impl_SineTurns_ok F (FOps.bin F BinOp.add FloatKind.f32 x0 1048576000)) with
  | true =>
    intro _; rfl
  | false =>
    intro h; exact absurd h Bool.false_ne_true
theorem ok_impl_State_slopes : CallOK Try.prog 82 (c_impl_State_slopes real) := by
  refine callOK_of fun args h ret hc => ?_
  unfold c_impl_State_slopes at hc
  split at hc
  · rename_i x0 x1 x2
    obtain ⟨hok, rfl⟩ := some_ret hc
    exact holds_ev prog_ok (allOK_cons ok_impl_SineTurns allOK_nil) Try.func82 rfl rfl smL_nil rfl (e_impl_State_slopes real x0 x1 x2 hok)
  · cases hc
def Pure.impl_WrapKick (F : FOps) (x0 : Int) : Int := bif Pure.impl_IsFinite F x0 then bif FOps.cmp F BinOp.geq FloatKind.f32 (FOps.conv F FloatKind.f64 FloatKind.f32 (FOps.bin F BinOp.sub FloatKind.f64 (FOps.conv F FloatKind.f32 FloatKind.f64 x0) (FOps.integral F Ieee.Toward.down (FOps.bin F BinOp.add FloatKind.f64 (FOps.conv F FloatKind.f32 FloatKind.f64 x0) 4602678819172646912)))) 1056964608 then 3204448256 else bif FOps.cmp F BinOp.eql FloatKind.f32 (FOps.conv F FloatKind.f64 FloatKind.f32 (FOps.bin F BinOp.sub FloatKind.f64 (FOps.conv F FloatKind.f32 FloatKind.f64 x0) (FOps.integral F Ieee.Toward.down (FOps.bin F BinOp.add FloatKind.f64 (FOps.conv F FloatKind.f32 FloatKind.f64 x0) 4602678819172646912)))) 0 then 0 else FOps.conv F FloatKind.f64 FloatKind.f32 (FOps.bin F BinOp.sub FloatKind.f64 (FOps.conv F FloatKind.f32 FloatKind.f64 x0) (FOps.integral F Ieee.Toward.down (FOps.bin F BinOp.add FloatKind.f64 (FOps.conv F FloatKind.f32 FloatKind.f64 x0) 4602678819172646912))) else 0
def Pure.impl_WrapKick_ok (F : FOps) (x0 : Int) : Bool := bif Pure.impl_IsFinite F x0 then bif FOps.convOk F FloatKind.f32 FloatKind.f64 x0 then FOps.convOk F FloatKind.f64 FloatKind.f32 (FOps.bin F BinOp.sub FloatKind.f64 (FOps.conv F FloatKind.f32 FloatKind.f64 x0) (FOps.integral F Ieee.Toward.down (FOps.bin F BinOp.add FloatKind.f64 (FOps.conv F FloatKind.f32 FloatKind.f64 x0) 4602678819172646912))) else false else true
def c_impl_WrapKick (F : FOps) : Con
  | [V.at (A.fl FloatKind.f32 x0)], [] => some (Pure.impl_WrapKick_ok F x0, ⟨V.tup [(false, [A.fl FloatKind.f32 (Pure.impl_WrapKick F x0)]), (false, [A.bool (Pure.impl_IsFinite F x0)])], none, []⟩)
  | _, _ => none
theorem e_impl_WrapKick (F : FOps) (x0 : Int) : Pure.impl_WrapKick_ok F x0 = true → evFn (cxS F tyl [(47, c_impl_IsFinite F), (48, c_math_Floor F)] [] [] 0) Try.f16 false [V.at (A.fl FloatKind.f32 x0)] [] = some ⟨V.tup [(false, [A.fl FloatKind.f32 (Pure.impl_WrapKick F x0)]), (false, [A.bool (Pure.impl_IsFinite F x0)])], none, []⟩ := by
  have h0 : evFn (cxS F tyl [(47, c_impl_IsFinite F), (48, c_math_Floor F)] [] [] 0) Try.f16 false [V.at (A.fl FloatKind.f32 x0)] [] = bif Bool.not (Pure.impl_IsFinite F x0) then some ⟨V.tup [(false, [A.fl FloatKind.f32 0]), (false, [A.bool false])], none, []⟩ else bif FOps.convOk F FloatKind.f32 FloatKind.f64 x0 then bif FOps.convOk F FloatKind.f32 FloatKind.f64 x0 then bif FOps.convOk F FloatKind.f64 FloatKind.f32 (FOps.bin F BinOp.sub FloatKind.f64 (FOps.conv F FloatKind.f32 FloatKind.f64 x0) (FOps.integral F Ieee.Toward.down (FOps.bin F BinOp.add FloatKind.f64 (FOps.conv F FloatKind.f32 FloatKind.f64 x0) 4602678819172646912))) then bif FOps.cmp F BinOp.geq FloatKind.f32 (FOps.conv F FloatKind.f64 FloatKind.f32 (FOps.bin F BinOp.sub FloatKind.f64 (FOps.conv F FloatKind.f32 FloatKind.f64 x0) (FOps.integral F Ieee.Toward.down (FOps.bin F BinOp.add FloatKind.f64 (FOps.conv F FloatKind.f32 FloatKind.f64 x0) 4602678819172646912)))) 1056964608 then some ⟨V.tup [(false, [A.fl FloatKind.f32 3204448256]), (false, [A.bool true])], none, []⟩ else bif FOps.cmp F BinOp.eql FloatKind.f32 (FOps.conv F FloatKind.f64 FloatKind.f32 (FOps.bin F BinOp.sub FloatKind.f64 (FOps.conv F FloatKind.f32 FloatKind.f64 x0) (FOps.integral F Ieee.Toward.down (FOps.bin F BinOp.add FloatKind.f64 (FOps.conv F FloatKind.f32 FloatKind.f64 x0) 4602678819172646912)))) 0 then some ⟨V.tup [(false, [A.fl FloatKind.f32 0]), (false, [A.bool true])], none, []⟩ else some ⟨V.tup [(false, [A.fl FloatKind.f32 (FOps.conv F FloatKind.f64 FloatKind.f32 (FOps.bin F BinOp.sub FloatKind.f64 (FOps.conv F FloatKind.f32 FloatKind.f64 x0) (FOps.integral F Ieee.Toward.down (FOps.bin F BinOp.add FloatKind.f64 (FOps.conv F FloatKind.f32 FloatKind.f64 x0) 4602678819172646912))))]), (false, [A.bool true])], none, []⟩ else none else none else none := by kernel_rfl
  rw [h0]
  unfold Pure.impl_WrapKick Pure.impl_WrapKick_ok
  cases (Pure.impl_IsFinite F x0) with
  | true =>
    cases (FOps.convOk F FloatKind.f32 FloatKind.f64 x0) with
    | true =>
      cases (FOps.convOk F FloatKind.f64 FloatKind.f32 (FOps.bin F BinOp.sub FloatKind.f64 (FOps.conv F FloatKind.f32 FloatKind.f64 x0) (FOps.integral F Ieee.Toward.down (FOps.bin F BinOp.add FloatKind.f64 (FOps.conv F FloatKind.f32 FloatKind.f64 x0) 4602678819172646912)))) with
      | true =>
        cases (FOps.cmp F BinOp.geq FloatKind.f32 (FOps.conv F FloatKind.f64 FloatKind.f32 (FOps.bin F BinOp.sub FloatKind.f64 (FOps.conv F FloatKind.f32 FloatKind.f64 x0) (FOps.integral F Ieee.Toward.down (FOps.bin F BinOp.add FloatKind.f64 (FOps.conv F FloatKind.f32 FloatKind.f64 x0) 4602678819172646912)))) 1056964608) with
        | true =>
          intro _; rfl
        | false =>
          cases (FOps.cmp F BinOp.eql FloatKind.f32 (FOps.conv F FloatKind.f64 FloatKind.f32 (FOps.bin F BinOp.sub FloatKind.f64 (FOps.conv F FloatKind.f32 FloatKind.f64 x0) (FOps.integral F Ieee.Toward.down (FOps.bin F BinOp.add FloatKind.f64 (FOps.conv F FloatKind.f32 FloatKind.f64 x0) 4602678819172646912)))) 0) with
          | true =>
            intro _; rfl
          | false =>
            intro _; rfl
      | false =>
        intro h; exact absurd h Bool.false_ne_true
    | false =>
      intro h; exact absurd h Bool.false_ne_true
  | false =>
    intro _; rfl
theorem ok_impl_WrapKick : CallOK Try.prog 16 (c_impl_WrapKick real) := by
  refine callOK_of fun args h ret hc => ?_
  unfold c_impl_WrapKick at hc
  split at hc
  · rename_i x0
    obtain ⟨hok, rfl⟩ := some_ret hc
    exact holds_ev prog_ok (allOK_cons ok_impl_IsFinite (allOK_cons ok_math_Floor allOK_nil)) Try.func16 rfl rfl smL_nil rfl (e_impl_WrapKick real x0 hok)
  · cases hc
def Pure.impl_kicked_ok (F : FOps) (x0 : Int) : Bool := Pure.impl_WrapKick_ok F x0
def c_impl_kicked (F : FOps) : Con
  | [V.at (A.fl FloatKind.f32 x0)], [] => some (Pure.impl_kicked_ok F x0, ⟨V.at (A.fl FloatKind.f32 (Pure.impl_WrapKick F x0)), none, []⟩)
  | _, _ => none
theorem e_impl_kicked (F : FOps) (x0 : Int) : Pure.impl_kicked_ok F x0 = true → evFn (cxS F tyl [(16, c_impl_WrapKick F)] [] [] 0) Try.f105 false [V.at (A.fl FloatKind.f32 x0)] [] = some ⟨V.at (A.fl FloatKind.f32 (Pure.impl_WrapKick F x0)), none, []⟩ := by
  have h0 : evFn (cxS F tyl [(16, c_impl_WrapKick F)] [] [] 0) Try.f105 false [V.at (A.fl FloatKind.f32 x0)] [] = bif Pure.impl_WrapKick_ok F x0 then some ⟨V.at (A.fl FloatKind.f32 (Pure.impl_WrapKick F x0)), none, []⟩ else none := by kernel_rfl
  rw [h0]
  unfold Pure.impl_kicked_ok
  cases (Pure.impl_WrapKick_ok F x0) with
  | true =>
    intro _; rfl
  | false =>
    intro h; exact absurd h Bool.false_ne_true
theorem ok_impl_kicked : CallOK Try.prog 105 (c_impl_kicked real) := by
  refine callOK_of fun args h ret hc => ?_
  unfold c_impl_kicked at hc
  split at hc
  · rename_i x0
    obtain ⟨hok, rfl⟩ := some_ret hc
    exact holds_ev prog_ok (allOK_cons ok_impl_WrapKick allOK_nil) Try.func105 rfl rfl smL_nil rfl (e_impl_kicked real x0 hok)
  · cases hc
def Pure.impl_WrapTurn (F : FOps) (x0 : Int) : Int := bif Pure.impl_IsFinite F x0 then bif FOps.cmp F BinOp.eql FloatKind.f32 (FOps.conv F FloatKind.f64 FloatKind.f32 (FOps.bin F BinOp.sub FloatKind.f64 (FOps.conv F FloatKind.f32 FloatKind.f64 x0) (FOps.integral F Ieee.Toward.down (FOps.conv F FloatKind.f32 FloatKind.f64 x0)))) 1065353216 then 0 else bif FOps.cmp F BinOp.eql FloatKind.f32 (FOps.conv F FloatKind.f64 FloatKind.f32 (FOps.bin F BinOp.sub FloatKind.f64 (FOps.conv F FloatKind.f32 FloatKind.f64 x0) (FOps.integral F Ieee.Toward.down (FOps.conv F FloatKind.f32 FloatKind.f64 x0)))) 0 then 0 else FOps.conv F FloatKind.f64 FloatKind.f32 (FOps.bin F BinOp.sub FloatKind.f64 (FOps.conv F FloatKind.f32 FloatKind.f64 x0) (FOps.integral F Ieee.Toward.down (FOps.conv F FloatKind.f32 FloatKind.f64 x0))) else 0
def Pure.impl_WrapTurn_ok (F : FOps) (x0 : Int) : Bool := bif Pure.impl_IsFinite F x0 then bif FOps.convOk F FloatKind.f32 FloatKind.f64 x0 then FOps.convOk F FloatKind.f64 FloatKind.f32 (FOps.bin F BinOp.sub FloatKind.f64 (FOps.conv F FloatKind.f32 FloatKind.f64 x0) (FOps.integral F Ieee.Toward.down (FOps.conv F FloatKind.f32 FloatKind.f64 x0))) else false else true
def c_impl_WrapTurn (F : FOps) : Con
  | [V.at (A.fl FloatKind.f32 x0)], [] => some (Pure.impl_WrapTurn_ok F x0, ⟨V.tup [(false, [A.fl FloatKind.f32 (Pure.impl_WrapTurn F x0)]), (false, [A.bool (Pure.impl_IsFinite F x0)])], none, []⟩)
  | _, _ => none
theorem e_impl_WrapTurn (F : FOps) (x0 : Int) : Pure.impl_WrapTurn_ok F x0 = true → evFn (cxS F tyl [(47, c_impl_IsFinite F), (48, c_math_Floor F)] [] [] 0) Try.f14 false [V.at (A.fl FloatKind.f32 x0)] [] = some ⟨V.tup [(false, [A.fl FloatKind.f32 (Pure.impl_WrapTurn F x0)]), (false, [A.bool (Pure.impl_IsFinite F x0)])], none, []⟩ := by
  have h0 : evFn (cxS F tyl [(47, c_impl_IsFinite F), (48, c_math_Floor F)] [] [] 0) Try.f14 false [V.at (A.fl FloatKind.f32 x0)] [] = bif Bool.not (Pure.impl_IsFinite F x0) then some ⟨V.tup [(false, [A.fl FloatKind.f32 0]), (false, [A.bool false])], none, []⟩ else bif FOps.convOk F FloatKind.f32 FloatKind.f64 x0 then bif FOps.convOk F FloatKind.f32 FloatKind.f64 x0 then bif FOps.convOk F FloatKind.f64 FloatKind.f32 (FOps.bin F BinOp.sub FloatKind.f64 (FOps.conv F FloatKind.f32 FloatKind.f64 x0) (FOps.integral F Ieee.Toward.down (FOps.conv F FloatKind.f32 FloatKind.f64 x0))) then bif FOps.cmp F BinOp.eql FloatKind.f32 (FOps.conv F FloatKind.f64 FloatKind.f32 (FOps.bin F BinOp.sub FloatKind.f64 (FOps.conv F FloatKind.f32 FloatKind.f64 x0) (FOps.integral F Ieee.Toward.down (FOps.conv F FloatKind.f32 FloatKind.f64 x0)))) 1065353216 then some ⟨V.tup [(false, [A.fl FloatKind.f32 0]), (false, [A.bool true])], none, []⟩ else bif FOps.cmp F BinOp.eql FloatKind.f32 (FOps.conv F FloatKind.f64 FloatKind.f32 (FOps.bin F BinOp.sub FloatKind.f64 (FOps.conv F FloatKind.f32 FloatKind.f64 x0) (FOps.integral F Ieee.Toward.down (FOps.conv F FloatKind.f32 FloatKind.f64 x0)))) 0 then some ⟨V.tup [(false, [A.fl FloatKind.f32 0]), (false, [A.bool true])], none, []⟩ else some ⟨V.tup [(false, [A.fl FloatKind.f32 (FOps.conv F FloatKind.f64 FloatKind.f32 (FOps.bin F BinOp.sub FloatKind.f64 (FOps.conv F FloatKind.f32 FloatKind.f64 x0) (FOps.integral F Ieee.Toward.down (FOps.conv F FloatKind.f32 FloatKind.f64 x0))))]), (false, [A.bool true])], none, []⟩ else none else none else none := by kernel_rfl
  rw [h0]
  unfold Pure.impl_WrapTurn Pure.impl_WrapTurn_ok
  cases (Pure.impl_IsFinite F x0) with
  | true =>
    cases (FOps.convOk F FloatKind.f32 FloatKind.f64 x0) with
    | true =>
      cases (FOps.convOk F FloatKind.f64 FloatKind.f32 (FOps.bin F BinOp.sub FloatKind.f64 (FOps.conv F FloatKind.f32 FloatKind.f64 x0) (FOps.integral F Ieee.Toward.down (FOps.conv F FloatKind.f32 FloatKind.f64 x0)))) with
      | true =>
        cases (FOps.cmp F BinOp.eql FloatKind.f32 (FOps.conv F FloatKind.f64 FloatKind.f32 (FOps.bin F BinOp.sub FloatKind.f64 (FOps.conv F FloatKind.f32 FloatKind.f64 x0) (FOps.integral F Ieee.Toward.down (FOps.conv F FloatKind.f32 FloatKind.f64 x0)))) 1065353216) with
        | true =>
          intro _; rfl
        | false =>
          cases (FOps.cmp F BinOp.eql FloatKind.f32 (FOps.conv F FloatKind.f64 FloatKind.f32 (FOps.bin F BinOp.sub FloatKind.f64 (FOps.conv F FloatKind.f32 FloatKind.f64 x0) (FOps.integral F Ieee.Toward.down (FOps.conv F FloatKind.f32 FloatKind.f64 x0)))) 0) with
          | true =>
            intro _; rfl
          | false =>
            intro _; rfl
      | false =>
        intro h; exact absurd h Bool.false_ne_true
    | false =>
      intro h; exact absurd h Bool.false_ne_true
  | false =>
    intro _; rfl
theorem ok_impl_WrapTurn : CallOK Try.prog 14 (c_impl_WrapTurn real) := by
  refine callOK_of fun args h ret hc => ?_
  unfold c_impl_WrapTurn at hc
  split at hc
  · rename_i x0
    obtain ⟨hok, rfl⟩ := some_ret hc
    exact holds_ev prog_ok (allOK_cons ok_impl_IsFinite (allOK_cons ok_math_Floor allOK_nil)) Try.func14 rfl rfl smL_nil rfl (e_impl_WrapTurn real x0 hok)
  · cases hc
def Pure.impl_wrapped_ok (F : FOps) (x0 : Int) : Bool := Pure.impl_WrapTurn_ok F x0
def c_impl_wrapped (F : FOps) : Con
  | [V.at (A.fl FloatKind.f32 x0)], [] => some (Pure.impl_wrapped_ok F x0, ⟨V.at (A.fl FloatKind.f32 (Pure.impl_WrapTurn F x0)), none, []⟩)
  | _, _ => none
theorem e_impl_wrapped (F : FOps) (x0 : Int) : Pure.impl_wrapped_ok F x0 = true → evFn (cxS F tyl [(14, c_impl_WrapTurn F)] [] [] 0) Try.f94 false [V.at (A.fl FloatKind.f32 x0)] [] = some ⟨V.at (A.fl FloatKind.f32 (Pure.impl_WrapTurn F x0)), none, []⟩ := by
  have h0 : evFn (cxS F tyl [(14, c_impl_WrapTurn F)] [] [] 0) Try.f94 false [V.at (A.fl FloatKind.f32 x0)] [] = bif Pure.impl_WrapTurn_ok F x0 then some ⟨V.at (A.fl FloatKind.f32 (Pure.impl_WrapTurn F x0)), none, []⟩ else none := by kernel_rfl
  rw [h0]
  unfold Pure.impl_wrapped_ok
  cases (Pure.impl_WrapTurn_ok F x0) with
  | true =>
    intro _; rfl
  | false =>
    intro h; exact absurd h Bool.false_ne_true
theorem ok_impl_wrapped : CallOK Try.prog 94 (c_impl_wrapped real) := by
  refine callOK_of fun args h ret hc => ?_
  unfold c_impl_wrapped at hc
  split at hc
  · rename_i x0
    obtain ⟨hok, rfl⟩ := some_ret hc
    exact holds_ev prog_ok (allOK_cons ok_impl_WrapTurn allOK_nil) Try.func94 rfl rfl smL_nil rfl (e_impl_wrapped real x0 hok)
  · cases hc
def Pure.impl_State_damped (F : FOps) (x0 : Int) (x1 : Int) (x2 : Int) (x3 : Int) : Int := Pure.impl_WrapTurn F (FOps.bin F BinOp.add FloatKind.f32 x0 (Pure.impl_WrapKick F (FOps.bin F BinOp.add FloatKind.f32 (FOps.bin F BinOp.mul FloatKind.f32 x3 x1) (FOps.bin F BinOp.mul FloatKind.f32 x2 (Pure.impl_SineTurns F x0)))))
def Pure.impl_State_damped_1 (F : FOps) (x0 : Int) (x1 : Int) (x2 : Int) (x3 : Int) : Int := Pure.impl_WrapKick F (FOps.bin F BinOp.add FloatKind.f32 (FOps.bin F BinOp.mul FloatKind.f32 x3 x1) (FOps.bin F BinOp.mul FloatKind.f32 x2 (Pure.impl_SineTurns F x0)))
def Pure.impl_State_damped_ok (F : FOps) (x0 : Int) (x1 : Int) (x2 : Int) (x3 : Int) : Bool := bif Pure.impl_SineTurns_ok F x0 then bif Pure.impl_kicked_ok F (FOps.bin F BinOp.add FloatKind.f32 (FOps.bin F BinOp.mul FloatKind.f32 x3 x1) (FOps.bin F BinOp.mul FloatKind.f32 x2 (Pure.impl_SineTurns F x0))) then Pure.impl_wrapped_ok F (FOps.bin F BinOp.add FloatKind.f32 x0 (Pure.impl_WrapKick F (FOps.bin F BinOp.add FloatKind.f32 (FOps.bin F BinOp.mul FloatKind.f32 x3 x1) (FOps.bin F BinOp.mul FloatKind.f32 x2 (Pure.impl_SineTurns F x0))))) else false else false
def c_impl_State_damped (F : FOps) : Con
  | [V.agg [A.fl FloatKind.f32 x0, A.fl FloatKind.f32 x1], V.at (A.fl FloatKind.f32 x2), V.at (A.fl FloatKind.f32 x3)], [] => some (Pure.impl_State_damped_ok F x0 x1 x2 x3, ⟨V.agg [A.fl FloatKind.f32 (Pure.impl_State_damped F x0 x1 x2 x3), A.fl FloatKind.f32 (Pure.impl_State_damped_1 F x0 x1 x2 x3)], none, []⟩)
  | _, _ => none
theorem e_impl_State_damped (F : FOps) (x0 : Int) (x1 : Int) (x2 : Int) (x3 : Int) : Pure.impl_State_damped_ok F x0 x1 x2 x3 = true → evFn (cxS F tyl [(115, c_impl_SineTurns F), (105, c_impl_kicked F), (94, c_impl_wrapped F)] [] [] 0) Try.f106 false [V.agg [A.fl FloatKind.f32 x0, A.fl FloatKind.f32 x1], V.at (A.fl FloatKind.f32 x2), V.at (A.fl FloatKind.f32 x3)] [] = some ⟨V.agg [A.fl FloatKind.f32 (Pure.impl_State_damped F x0 x1 x2 x3), A.fl FloatKind.f32 (Pure.impl_State_damped_1 F x0 x1 x2 x3)], none, []⟩ := by
  have h0 : evFn (cxS F tyl [(115, c_impl_SineTurns F), (105, c_impl_kicked F), (94, c_impl_wrapped F)] [] [] 0) Try.f106 false [V.agg [A.fl FloatKind.f32 x0, A.fl FloatKind.f32 x1], V.at (A.fl FloatKind.f32 x2), V.at (A.fl FloatKind.f32 x3)] [] = bif Pure.impl_SineTurns_ok F x0 then bif Pure.impl_kicked_ok F (FOps.bin F BinOp.add FloatKind.f32 (FOps.bin F BinOp.mul FloatKind.f32 x3 x1) (FOps.bin F BinOp.mul FloatKind.f32 x2 (Pure.impl_SineTurns F x0))) then bif Pure.impl_wrapped_ok F (FOps.bin F BinOp.add FloatKind.f32 x0 (Pure.impl_WrapKick F (FOps.bin F BinOp.add FloatKind.f32 (FOps.bin F BinOp.mul FloatKind.f32 x3 x1) (FOps.bin F BinOp.mul FloatKind.f32 x2 (Pure.impl_SineTurns F x0))))) then some ⟨V.agg [A.fl FloatKind.f32 (Pure.impl_WrapTurn F (FOps.bin F BinOp.add FloatKind.f32 x0 (Pure.impl_WrapKick F (FOps.bin F BinOp.add FloatKind.f32 (FOps.bin F BinOp.mul FloatKind.f32 x3 x1) (FOps.bin F BinOp.mul FloatKind.f32 x2 (Pure.impl_SineTurns F x0)))))), A.fl FloatKind.f32 (Pure.impl_WrapKick F (FOps.bin F BinOp.add FloatKind.f32 (FOps.bin F BinOp.mul FloatKind.f32 x3 x1) (FOps.bin F BinOp.mul FloatKind.f32 x2 (Pure.impl_SineTurns F x0))))], none, []⟩ else none else none else none := by kernel_rfl
  rw [h0]
  unfold Pure.impl_State_damped Pure.impl_State_damped_1 Pure.impl_State_damped_ok
  cases (Pure.impl_SineTurns_ok F x0) with
  | true =>
    cases (Pure.impl_kicked_ok F (FOps.bin F BinOp.add FloatKind.f32 (FOps.bin F BinOp.mul FloatKind.f32 x3 x1) (FOps.bin F BinOp.mul FloatKind.f32 x2 (Pure.impl_SineTurns F x0)))) with
    | true =>
      cases (Pure.impl_wrapped_ok F (FOps.bin F BinOp.add FloatKind.f32 x0 (Pure.impl_WrapKick F (FOps.bin F BinOp.add FloatKind.f32 (FOps.bin F BinOp.mul FloatKind.f32 x3 x1) (FOps.bin F BinOp.mul FloatKind.f32 x2 (Pure.impl_SineTurns F x0)))))) with
      | true =>
        intro _; rfl
      | false =>
        intro h; exact absurd h Bool.false_ne_true
    | false =>
      intro h; exact absurd h Bool.false_ne_true
  | false =>
    intro h; exact absurd h Bool.false_ne_true
theorem ok_impl_State_damped : CallOK Try.prog 106 (c_impl_State_damped real) := by
  refine callOK_of fun args h ret hc => ?_
  unfold c_impl_State_damped at hc
  split at hc
  · rename_i x0 x1 x2 x3
    obtain ⟨hok, rfl⟩ := some_ret hc
    exact holds_ev prog_ok (allOK_cons ok_impl_SineTurns (allOK_cons ok_impl_kicked (allOK_cons ok_impl_wrapped allOK_nil))) Try.func106 rfl rfl smL_nil rfl (e_impl_State_damped real x0 x1 x2 x3 hok)
  · cases hc
def Pure.impl_State_mapped_ok (F : FOps) (x0 : Int) (x1 : Int) (x2 : Int) : Bool := Pure.impl_State_damped_ok F x0 x1 x2 1065353216
def c_impl_State_mapped (F : FOps) : Con
  | [V.agg [A.fl FloatKind.f32 x0, A.fl FloatKind.f32 x1], V.at (A.fl FloatKind.f32 x2)], [] => some (Pure.impl_State_mapped_ok F x0 x1 x2, ⟨V.agg [A.fl FloatKind.f32 (Pure.impl_State_damped F x0 x1 x2 1065353216), A.fl FloatKind.f32 (Pure.impl_State_damped_1 F x0 x1 x2 1065353216)], none, []⟩)
  | _, _ => none
theorem e_impl_State_mapped (F : FOps) (x0 : Int) (x1 : Int) (x2 : Int) : Pure.impl_State_mapped_ok F x0 x1 x2 = true → evFn (cxS F tyl [(106, c_impl_State_damped F)] [] [] 0) Try.f85 false [V.agg [A.fl FloatKind.f32 x0, A.fl FloatKind.f32 x1], V.at (A.fl FloatKind.f32 x2)] [] = some ⟨V.agg [A.fl FloatKind.f32 (Pure.impl_State_damped F x0 x1 x2 1065353216), A.fl FloatKind.f32 (Pure.impl_State_damped_1 F x0 x1 x2 1065353216)], none, []⟩ := by
  have h0 : evFn (cxS F tyl [(106, c_impl_State_damped F)] [] [] 0) Try.f85 false [V.agg [A.fl FloatKind.f32 x0, A.fl FloatKind.f32 x1], V.at (A.fl FloatKind.f32 x2)] [] = bif Pure.impl_State_damped_ok F x0 x1 x2 1065353216 then some ⟨V.agg [A.fl FloatKind.f32 (Pure.impl_State_damped F x0 x1 x2 1065353216), A.fl FloatKind.f32 (Pure.impl_State_damped_1 F x0 x1 x2 1065353216)], none, []⟩ else none := by kernel_rfl
  rw [h0]
  unfold Pure.impl_State_mapped_ok
  cases (Pure.impl_State_damped_ok F x0 x1 x2 1065353216) with
  | true =>
    intro _; rfl
  | false =>
    intro h; exact absurd h Bool.false_ne_true
theorem ok_impl_State_mapped : CallOK Try.prog 85 (c_impl_State_mapped real) := by
  refine callOK_of fun args h ret hc => ?_
  unfold c_impl_State_mapped at hc
  split at hc
  · rename_i x0 x1 x2
    obtain ⟨hok, rfl⟩ := some_ret hc
    exact holds_ev prog_ok (allOK_cons ok_impl_State_damped allOK_nil) Try.func85 rfl rfl smL_nil rfl (e_impl_State_mapped real x0 x1 x2 hok)
  · cases hc
def Pure.laws_sameFloat (F : FOps) (x0 : Int) (x1 : Int) : Bool := bif FOps.cmp F BinOp.neq FloatKind.f64 x0 x0 then FOps.cmp F BinOp.neq FloatKind.f64 x1 x1 else bif FOps.cmp F BinOp.neq FloatKind.f64 x1 x1 then false else bif FOps.cmp F BinOp.eql FloatKind.f64 x0 0 then bif FOps.cmp F BinOp.eql FloatKind.f64 x1 0 then (FOps.cmp F BinOp.gtr FloatKind.f64 (FOps.bin F BinOp.quo FloatKind.f64 4607182418800017408 x0) 0) == (FOps.cmp F BinOp.gtr FloatKind.f64 (FOps.bin F BinOp.quo FloatKind.f64 4607182418800017408 x1) 0) else FOps.cmp F BinOp.eql FloatKind.f64 x0 x1 else FOps.cmp F BinOp.eql FloatKind.f64 x0 x1
def c_laws_sameFloat (F : FOps) : Con
  | [V.at (A.fl FloatKind.f64 x0), V.at (A.fl FloatKind.f64 x1)], [] => some (true, ⟨V.at (A.bool (Pure.laws_sameFloat F x0 x1)), none, []⟩)
  | _, _ => none
theorem e_laws_sameFloat (F : FOps) (x0 : Int) (x1 : Int) : evFn (cxS F tyl [] [] [] 0) Try.f24 false [V.at (A.fl FloatKind.f64 x0), V.at (A.fl FloatKind.f64 x1)] [] = some ⟨V.at (A.bool (Pure.laws_sameFloat F x0 x1)), none, []⟩ := by
  have h0 : evFn (cxS F tyl [] [] [] 0) Try.f24 false [V.at (A.fl FloatKind.f64 x0), V.at (A.fl FloatKind.f64 x1)] [] = bif FOps.cmp F BinOp.neq FloatKind.f64 x0 x0 then bif FOps.cmp F BinOp.neq FloatKind.f64 x0 x0 then some ⟨V.at (A.bool (FOps.cmp F BinOp.neq FloatKind.f64 x1 x1)), none, []⟩ else some ⟨V.at (A.bool false), none, []⟩ else bif FOps.cmp F BinOp.neq FloatKind.f64 x1 x1 then bif FOps.cmp F BinOp.neq FloatKind.f64 x0 x0 then some ⟨V.at (A.bool (FOps.cmp F BinOp.neq FloatKind.f64 x1 x1)), none, []⟩ else some ⟨V.at (A.bool false), none, []⟩ else bif FOps.cmp F BinOp.eql FloatKind.f64 x0 0 then bif FOps.cmp F BinOp.eql FloatKind.f64 x1 0 then some ⟨V.at (A.bool ((FOps.cmp F BinOp.gtr FloatKind.f64 (FOps.bin F BinOp.quo FloatKind.f64 4607182418800017408 x0) 0) == (FOps.cmp F BinOp.gtr FloatKind.f64 (FOps.bin F BinOp.quo FloatKind.f64 4607182418800017408 x1) 0))), none, []⟩ else some ⟨V.at (A.bool (FOps.cmp F BinOp.eql FloatKind.f64 x0 x1)), none, []⟩ else some ⟨V.at (A.bool (FOps.cmp F BinOp.eql FloatKind.f64 x0 x1)), none, []⟩ := by kernel_rfl
  rw [h0]
  unfold Pure.laws_sameFloat
  cases (FOps.cmp F BinOp.neq FloatKind.f64 x0 x0) with
  | true =>
    rfl
  | false =>
    cases (FOps.cmp F BinOp.neq FloatKind.f64 x1 x1) with
    | true =>
      rfl
    | false =>
      cases (FOps.cmp F BinOp.eql FloatKind.f64 x0 0) with
      | true =>
        cases (FOps.cmp F BinOp.eql FloatKind.f64 x1 0) with
        | true =>
          rfl
        | false =>
          rfl
      | false =>
        rfl
theorem ok_laws_sameFloat : CallOK Try.prog 24 (c_laws_sameFloat real) := by
  refine callOK_of fun args h ret hc => ?_
  unfold c_laws_sameFloat at hc
  split at hc
  · rename_i x0 x1
    obtain ⟨_, rfl⟩ := some_ret hc
    exact holds_ev prog_ok allOK_nil Try.func24 rfl rfl smL_nil rfl (e_laws_sameFloat real x0 x1)
  · cases hc
end Go.Fx
