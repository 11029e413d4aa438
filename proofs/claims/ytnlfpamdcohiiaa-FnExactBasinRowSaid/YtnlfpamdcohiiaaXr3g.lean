import Derived.Test.YtnlfpamdcohiiaaXr3f
import Derived.KernelRfl
namespace Go.Fx
open Go.Proofs
set_option maxRecDepth 100000
def Pure.spec_OrbitOf (F : FOps) (x0 : Int) (x1 : Int) (x2 : Int) (x3 : Int) : Bool := bif Pure.spec_l07Is F x0 x1 then bif Pure.spec_l07Size F x2 then Pure.spec_l00In F x3 0 128 else false else false
def Pure.spec_OrbitOf_1 (F : FOps) (x0 : Int) (x1 : Int) (x2 : Int) (x3 : Int) : List (List Int) := bif Pure.spec_l07Is F x0 x1 then bif Pure.spec_l07Size F x2 then bif Pure.spec_l00In F x3 0 128 then Pure.spec_l07Orbit F x0 x1 x2 x3 else [] else [] else []
def Pure.spec_OrbitOf_ok (F : FOps) (x0 : Int) (x1 : Int) (x2 : Int) (x3 : Int) : Bool := bif Pure.spec_l07Is F x0 x1 then bif Pure.spec_l07Size F x2 then bif Pure.spec_l00In F x3 0 128 then Pure.spec_l07Orbit_ok F x0 x1 x2 x3 else true else true else true
def c_spec_OrbitOf (F : FOps) : Con
  | [V.agg [A.fl FloatKind.f32 x0, A.fl FloatKind.f32 x1], V.at (A.fl FloatKind.f32 x2), V.at (A.int IntKind.i64 x3)], [] => some (Pure.spec_OrbitOf_ok F x0 x1 x2 x3, ⟨V.tup [(false, [A.sl 0]), (false, [A.bool (Pure.spec_OrbitOf F x0 x1 x2 x3)])], none, [⟨true, OC.rows [K.f FloatKind.f32, K.f FloatKind.f32] (Pure.spec_OrbitOf_1 F x0 x1 x2 x3)⟩]⟩)
  | _, _ => none
theorem e_spec_OrbitOf (F : FOps) (x0 : Int) (x1 : Int) (x2 : Int) (x3 : Int) : Pure.spec_OrbitOf_ok F x0 x1 x2 x3 = true → evFn (cxS F tyl [(51, c_spec_l07Is F), (57, c_spec_l07Size F), (74, c_spec_l07Count F), (75, c_spec_l07Orbit F)] [] [] 0) Try.f42 false [V.agg [A.fl FloatKind.f32 x0, A.fl FloatKind.f32 x1], V.at (A.fl FloatKind.f32 x2), V.at (A.int IntKind.i64 x3)] [] = some ⟨V.tup [(false, [A.sl 0]), (false, [A.bool (Pure.spec_OrbitOf F x0 x1 x2 x3)])], none, [⟨true, OC.rows [K.f FloatKind.f32, K.f FloatKind.f32] (Pure.spec_OrbitOf_1 F x0 x1 x2 x3)⟩]⟩ := by
  have h0 : evFn (cxS F tyl [(51, c_spec_l07Is F), (57, c_spec_l07Size F), (74, c_spec_l07Count F), (75, c_spec_l07Orbit F)] [] [] 0) Try.f42 false [V.agg [A.fl FloatKind.f32 x0, A.fl FloatKind.f32 x1], V.at (A.fl FloatKind.f32 x2), V.at (A.int IntKind.i64 x3)] [] = bif Bool.not (Pure.spec_l07Is F x0 x1) then some ⟨V.tup [(false, [A.sl 0]), (false, [A.bool false])], none, [⟨true, OC.rows [K.f FloatKind.f32, K.f FloatKind.f32] []⟩]⟩ else bif Bool.not (Pure.spec_l07Size F x2) then some ⟨V.tup [(false, [A.sl 0]), (false, [A.bool false])], none, [⟨true, OC.rows [K.f FloatKind.f32, K.f FloatKind.f32] []⟩]⟩ else bif Bool.not (Pure.spec_l00In F x3 0 128) then some ⟨V.tup [(false, [A.sl 0]), (false, [A.bool false])], none, [⟨true, OC.rows [K.f FloatKind.f32, K.f FloatKind.f32] []⟩]⟩ else bif Pure.spec_l07Orbit_ok F x0 x1 x2 x3 then some ⟨V.tup [(false, [A.sl 0]), (false, [A.bool true])], none, [⟨true, OC.rows [K.f FloatKind.f32, K.f FloatKind.f32] (Pure.spec_l07Orbit F x0 x1 x2 x3)⟩]⟩ else none := by kernel_rfl
  rw [h0]
  unfold Pure.spec_OrbitOf Pure.spec_OrbitOf_1 Pure.spec_OrbitOf_ok
  cases (Pure.spec_l07Is F x0 x1) with
  | true =>
    cases (Pure.spec_l07Size F x2) with
    | true =>
      cases (Pure.spec_l00In F x3 0 128) with
      | true =>
        cases (Pure.spec_l07Orbit_ok F x0 x1 x2 x3) with
        | true =>
          intro _; rfl
        | false =>
          intro h; exact absurd h Bool.false_ne_true
      | false =>
        intro _; rfl
    | false =>
      intro _; rfl
  | false =>
    intro _; rfl
theorem ok_spec_OrbitOf : CallOK Try.prog 42 (c_spec_OrbitOf real) := by
  refine callOK_of fun args h ret hc => ?_
  unfold c_spec_OrbitOf at hc
  split at hc
  · rename_i x0 x1 x2 x3
    obtain ⟨hok, rfl⟩ := some_ret hc
    exact holds_ev prog_ok (allOK_cons ok_spec_l07Is (allOK_cons ok_spec_l07Size (allOK_cons ok_spec_l07Count (allOK_cons ok_spec_l07Orbit allOK_nil)))) Try.func42 rfl rfl smL_nil rfl (e_spec_OrbitOf real x0 x1 x2 x3 hok)
  · cases hc
def Pure.impl_OrbitOf (F : FOps) (x0 : Int) (x1 : Int) (x2 : Int) (x3 : Int) : Bool := bif Pure.impl_stateOk F x0 x1 x2 then Pure.impl_in F x3 0 128 else false
def Pure.impl_OrbitOf_1 (F : FOps) (x0 : Int) (x1 : Int) (x2 : Int) (x3 : Int) : List (List Int) := bif Pure.impl_stateOk F x0 x1 x2 then bif Pure.impl_in F x3 0 128 then Pure.impl_State_orbit F x0 x1 x2 x3 else [] else []
def Pure.impl_OrbitOf_ok (F : FOps) (x0 : Int) (x1 : Int) (x2 : Int) (x3 : Int) : Bool := bif Pure.impl_stateOk F x0 x1 x2 then bif Pure.impl_in F x3 0 128 then Pure.impl_State_orbit_ok F x0 x1 x2 x3 else true else true
def c_impl_OrbitOf (F : FOps) : Con
  | [V.agg [A.fl FloatKind.f32 x0, A.fl FloatKind.f32 x1], V.at (A.fl FloatKind.f32 x2), V.at (A.int IntKind.i64 x3)], [] => some (Pure.impl_OrbitOf_ok F x0 x1 x2 x3, ⟨V.tup [(false, [A.sl 0]), (false, [A.bool (Pure.impl_OrbitOf F x0 x1 x2 x3)])], none, [⟨true, OC.rows [K.f FloatKind.f32, K.f FloatKind.f32] (Pure.impl_OrbitOf_1 F x0 x1 x2 x3)⟩]⟩)
  | _, _ => none
theorem e_impl_OrbitOf (F : FOps) (x0 : Int) (x1 : Int) (x2 : Int) (x3 : Int) : Pure.impl_OrbitOf_ok F x0 x1 x2 x3 = true → evFn (cxS F tyl [(59, c_impl_stateOk F), (76, c_impl_in F), (77, c_impl_State_orbit F)] [] [] 0) Try.f43 false [V.agg [A.fl FloatKind.f32 x0, A.fl FloatKind.f32 x1], V.at (A.fl FloatKind.f32 x2), V.at (A.int IntKind.i64 x3)] [] = some ⟨V.tup [(false, [A.sl 0]), (false, [A.bool (Pure.impl_OrbitOf F x0 x1 x2 x3)])], none, [⟨true, OC.rows [K.f FloatKind.f32, K.f FloatKind.f32] (Pure.impl_OrbitOf_1 F x0 x1 x2 x3)⟩]⟩ := by
  have h0 : evFn (cxS F tyl [(59, c_impl_stateOk F), (76, c_impl_in F), (77, c_impl_State_orbit F)] [] [] 0) Try.f43 false [V.agg [A.fl FloatKind.f32 x0, A.fl FloatKind.f32 x1], V.at (A.fl FloatKind.f32 x2), V.at (A.int IntKind.i64 x3)] [] = bif Bool.not (Pure.impl_stateOk F x0 x1 x2) then some ⟨V.tup [(false, [A.sl 0]), (false, [A.bool false])], none, [⟨true, OC.rows [K.f FloatKind.f32, K.f FloatKind.f32] []⟩]⟩ else bif Bool.not (Pure.impl_in F x3 0 128) then some ⟨V.tup [(false, [A.sl 0]), (false, [A.bool false])], none, [⟨true, OC.rows [K.f FloatKind.f32, K.f FloatKind.f32] []⟩]⟩ else bif Pure.impl_State_orbit_ok F x0 x1 x2 x3 then some ⟨V.tup [(false, [A.sl 0]), (false, [A.bool true])], none, [⟨true, OC.rows [K.f FloatKind.f32, K.f FloatKind.f32] (Pure.impl_State_orbit F x0 x1 x2 x3)⟩]⟩ else none := by kernel_rfl
  rw [h0]
  unfold Pure.impl_OrbitOf Pure.impl_OrbitOf_1 Pure.impl_OrbitOf_ok
  cases (Pure.impl_stateOk F x0 x1 x2) with
  | true =>
    cases (Pure.impl_in F x3 0 128) with
    | true =>
      cases (Pure.impl_State_orbit_ok F x0 x1 x2 x3) with
      | true =>
        intro _; rfl
      | false =>
        intro h; exact absurd h Bool.false_ne_true
    | false =>
      intro _; rfl
  | false =>
    intro _; rfl
theorem ok_impl_OrbitOf : CallOK Try.prog 43 (c_impl_OrbitOf real) := by
  refine callOK_of fun args h ret hc => ?_
  unfold c_impl_OrbitOf at hc
  split at hc
  · rename_i x0 x1 x2 x3
    obtain ⟨hok, rfl⟩ := some_ret hc
    exact holds_ev prog_ok (allOK_cons ok_impl_stateOk (allOK_cons ok_impl_in (allOK_cons ok_impl_State_orbit allOK_nil))) Try.func43 rfl rfl smL_nil rfl (e_impl_OrbitOf real x0 x1 x2 x3 hok)
  · cases hc
def Pure.laws_eqStateS_L0 (F : FOps) (y1 : List (List Int)) (y2 : List (List Int)) : Nat → Int → (Bool × Bool)
  | 0, _ => (false, false)
  | n + 1, y0 => bif (Decidable.decide (y0 < (Int.ofNat (List.length y1)))) then (bif (Decidable.decide (0 ≤ y0)) then (bif (Decidable.decide (y0 < (Int.ofNat (List.length y1)))) then (bif (Decidable.decide (0 ≤ y0)) then (bif (Decidable.decide (y0 < (Int.ofNat (List.length y2)))) then (bif (Pure.laws_eqState_ok F (List.getD (List.getD y1 (Int.toNat y0) []) 0 0) (List.getD (List.getD y1 (Int.toNat y0) []) 1 0) (List.getD (List.getD y2 (Int.toNat y0) []) 0 0) (List.getD (List.getD y2 (Int.toNat y0) []) 1 0)) then (bif (Pure.laws_eqState F (List.getD (List.getD y1 (Int.toNat y0) []) 0 0) (List.getD (List.getD y1 (Int.toNat y0) []) 1 0) (List.getD (List.getD y2 (Int.toNat y0) []) 0 0) (List.getD (List.getD y2 (Int.toNat y0) []) 1 0)) then (Pure.laws_eqStateS_L0 F y1 y2 n (IntKind.wrap IntKind.i64 (y0 + 1))) else ((true, true))) else ((false, false))) else ((false, false))) else ((false, false))) else ((false, false))) else ((false, false))) else ((true, false))
def R_laws_eqStateS_L0 (y1 : List (List Int)) (y2 : List (List Int)) (r : (Bool × Bool)) : Bool × Bool × (Ex × List V × List Ob) × (Ex × List V × List Ob) := ((r).1, (r).2, (Ex.normal, [V.at A.undef], [⟨false, OC.rows [K.f FloatKind.f32, K.f FloatKind.f32] y1⟩, ⟨false, OC.rows [K.f FloatKind.f32, K.f FloatKind.f32] y2⟩]), (Ex.ret, [V.at (A.bool false)], [⟨false, OC.rows [K.f FloatKind.f32, K.f FloatKind.f32] y1⟩, ⟨false, OC.rows [K.f FloatKind.f32, K.f FloatKind.f32] y2⟩]))
def S_laws_eqStateS_L0 (F : FOps) : Sm := ⟨[0, 1, 5], [56, 56, 3], [4], fun vals hp => match vals, hp with
  | [V.at (A.sl 0), V.at (A.sl 1), V.at (A.int IntKind.i64 y0)], [⟨false, OC.rows [K.f FloatKind.f32, K.f FloatKind.f32] y1⟩, ⟨false, OC.rows [K.f FloatKind.f32, K.f FloatKind.f32] y2⟩] => some (R_laws_eqStateS_L0 y1 y2 (Pure.laws_eqStateS_L0 F y1 y2 ((Int.ofNat (List.length y1)) - y0 + 1).toNat y0))
  | _, _ => none⟩
theorem l_laws_eqStateS_L0 (F : FOps) (y1 : List (List Int)) (y2 : List (List Int)) : ∀ (fuel : Nat) (y0 : Int), (Pure.laws_eqStateS_L0 F y1 y2 fuel y0).1 = true → loopOf (cxS F tyl [(18, c_laws_eqState F)] [] [] 0) 2 27 0 [0, 1, 5] [56, 56, 3] [4] (loopB 0 (codeOf Try.f44)) fuel [V.at (A.sl 0), V.at (A.sl 1), V.at (A.int IntKind.i64 y0)] [⟨false, OC.rows [K.f FloatKind.f32, K.f FloatKind.f32] y1⟩, ⟨false, OC.rows [K.f FloatKind.f32, K.f FloatKind.f32] y2⟩] = resOf (R_laws_eqStateS_L0 y1 y2 (Pure.laws_eqStateS_L0 F y1 y2 fuel y0)) := by
  intro fuel
  induction fuel with
  | zero => intro y0 h; exact absurd h Bool.false_ne_true
  | succ n ih =>
    intro y0
    have h0 : roundOf (cxS F tyl [(18, c_laws_eqState F)] [] [] 0) 2 27 0 [0, 1, 5] [56, 56, 3] [4] (loopB 0 (codeOf Try.f44)) [V.at (A.sl 0), V.at (A.sl 1), V.at (A.int IntKind.i64 y0)] [⟨false, OC.rows [K.f FloatKind.f32, K.f FloatKind.f32] y1⟩, ⟨false, OC.rows [K.f FloatKind.f32, K.f FloatKind.f32] y2⟩] = (bif Decidable.decide (y0 < (Int.ofNat (List.length y1))) then bif Decidable.decide (0 ≤ y0) then bif Decidable.decide (y0 < (Int.ofNat (List.length y1))) then bif Decidable.decide (0 ≤ y0) then bif Decidable.decide (y0 < (Int.ofNat (List.length y2))) then bif Pure.laws_eqState_ok F (List.getD (List.getD y1 (Int.toNat y0) []) 0 0) (List.getD (List.getD y1 (Int.toNat y0) []) 1 0) (List.getD (List.getD y2 (Int.toNat y0) []) 0 0) (List.getD (List.getD y2 (Int.toNat y0) []) 1 0) then bif Bool.not (Pure.laws_eqState F (List.getD (List.getD y1 (Int.toNat y0) []) 0 0) (List.getD (List.getD y1 (Int.toNat y0) []) 1 0) (List.getD (List.getD y2 (Int.toNat y0) []) 0 0) (List.getD (List.getD y2 (Int.toNat y0) []) 1 0)) then some (false, (Ex.ret, ([V.at (A.bool false)], [⟨false, OC.rows [K.f FloatKind.f32, K.f FloatKind.f32] y1⟩, ⟨false, OC.rows [K.f FloatKind.f32, K.f FloatKind.f32] y2⟩]))) else some (true, (Ex.normal, ([V.at (A.sl 0), V.at (A.sl 1), V.at (A.int IntKind.i64 (IntKind.wrap IntKind.i64 (y0 + 1)))], [⟨false, OC.rows [K.f FloatKind.f32, K.f FloatKind.f32] y1⟩, ⟨false, OC.rows [K.f FloatKind.f32, K.f FloatKind.f32] y2⟩]))) else none else none else none else none else none else some (false, (Ex.normal, ([V.at A.undef], [⟨false, OC.rows [K.f FloatKind.f32, K.f FloatKind.f32] y1⟩, ⟨false, OC.rows [K.f FloatKind.f32, K.f FloatKind.f32] y2⟩])))) := by kernel_rfl
    unfold loopOf
    rw [h0]
    unfold Pure.laws_eqStateS_L0
    cases (Decidable.decide (y0 < (Int.ofNat (List.length y1)))) with
    | true =>
      cases (Decidable.decide (0 ≤ y0)) with
      | true =>
        cases (Decidable.decide (y0 < (Int.ofNat (List.length y2)))) with
        | true =>
          cases (Pure.laws_eqState_ok F (List.getD (List.getD y1 (Int.toNat y0) []) 0 0) (List.getD (List.getD y1 (Int.toNat y0) []) 1 0) (List.getD (List.getD y2 (Int.toNat y0) []) 0 0) (List.getD (List.getD y2 (Int.toNat y0) []) 1 0)) with
          | true =>
            cases (Pure.laws_eqState F (List.getD (List.getD y1 (Int.toNat y0) []) 0 0) (List.getD (List.getD y1 (Int.toNat y0) []) 1 0) (List.getD (List.getD y2 (Int.toNat y0) []) 0 0) (List.getD (List.getD y2 (Int.toNat y0) []) 1 0)) with
            | true =>
              exact ih _
            | false =>
              intro _; rfl
          | false =>
            intro h; exact absurd h Bool.false_ne_true
        | false =>
          intro h; exact absurd h Bool.false_ne_true
      | false =>
        intro h; exact absurd h Bool.false_ne_true
    | false =>
      intro _; rfl
theorem t_laws_eqStateS_L0 : SmTo Try.prog 2 27 (S_laws_eqStateS_L0 real) 0 (.loop (loopB 0 (codeOf Try.f44))) := by
  refine smTo_ev (cl := [(18, c_laws_eqState real)]) (ef := []) (sm := []) (un := 0) prog_ok (allOK_cons ok_laws_eqState allOK_nil) smL_nil ?_
  intro vals hp q r h hq
  unfold S_laws_eqStateS_L0 at h
  dsimp only at h
  split at h
  · rename_i y0 y1 y2
    obtain rfl := Option.some.inj h
    have h1 := hq
    unfold resOf at h1
    rw [chk_some] at h1
    exact ⟨_, (l_laws_eqStateS_L0 real y1 y2 _ y0 h1.1).trans hq⟩
  · cases h
def Pure.laws_eqStateS (F : FOps) (x0 : List (List Int)) (x1 : List (List Int)) : Bool := bif (Int.ofNat (List.length x0)) != (Int.ofNat (List.length x1)) then false else bif Prod.snd (Pure.laws_eqStateS_L0 F x0 x1 (Nat.succ ((List.length x0) + 0)) 0) then false else true
def Pure.laws_eqStateS_ok (F : FOps) (x0 : List (List Int)) (x1 : List (List Int)) : Bool := bif (Int.ofNat (List.length x0)) != (Int.ofNat (List.length x1)) then true else Prod.fst (Pure.laws_eqStateS_L0 F x0 x1 (Nat.succ ((List.length x0) + 0)) 0)
def c_laws_eqStateS (F : FOps) : Con
  | [V.at (A.sl 0), V.at (A.sl 1)], [⟨false, OC.rows [K.f FloatKind.f32, K.f FloatKind.f32] x0⟩, ⟨false, OC.rows [K.f FloatKind.f32, K.f FloatKind.f32] x1⟩] => some (Pure.laws_eqStateS_ok F x0 x1, ⟨V.at (A.bool (Pure.laws_eqStateS F x0 x1)), none, []⟩)
  | _, _ => none
theorem e_laws_eqStateS (F : FOps) (x0 : List (List Int)) (x1 : List (List Int)) : Pure.laws_eqStateS_ok F x0 x1 = true → evFn (cxS F tyl [(18, c_laws_eqState F)] [] [(0, S_laws_eqStateS_L0 F)] 0) Try.f44 false [V.at (A.sl 0), V.at (A.sl 1)] [⟨false, OC.rows [K.f FloatKind.f32, K.f FloatKind.f32] x0⟩, ⟨false, OC.rows [K.f FloatKind.f32, K.f FloatKind.f32] x1⟩] = some ⟨V.at (A.bool (Pure.laws_eqStateS F x0 x1)), none, []⟩ := by
  have h0 : evFn (cxS F tyl [(18, c_laws_eqState F)] [] [(0, S_laws_eqStateS_L0 F)] 0) Try.f44 false [V.at (A.sl 0), V.at (A.sl 1)] [⟨false, OC.rows [K.f FloatKind.f32, K.f FloatKind.f32] x0⟩, ⟨false, OC.rows [K.f FloatKind.f32, K.f FloatKind.f32] x1⟩] = bif (Int.ofNat (List.length x0)) != (Int.ofNat (List.length x1)) then some ⟨V.at (A.bool false), none, []⟩ else bif Prod.fst (Pure.laws_eqStateS_L0 F x0 x1 (Nat.succ ((List.length x0) + 0)) 0) then bif Prod.snd (Pure.laws_eqStateS_L0 F x0 x1 (Nat.succ ((List.length x0) + 0)) 0) then some ⟨V.at (A.bool false), none, []⟩ else some ⟨V.at (A.bool true), none, []⟩ else none := by kernel_rfl
  rw [h0]
  unfold Pure.laws_eqStateS Pure.laws_eqStateS_ok
  cases ((Int.ofNat (List.length x0)) != (Int.ofNat (List.length x1))) with
  | true =>
    intro _; rfl
  | false =>
    cases (Prod.fst (Pure.laws_eqStateS_L0 F x0 x1 (Nat.succ ((List.length x0) + 0)) 0)) with
    | true =>
      cases (Prod.snd (Pure.laws_eqStateS_L0 F x0 x1 (Nat.succ ((List.length x0) + 0)) 0)) with
      | true =>
        intro _; rfl
      | false =>
        intro _; rfl
    | false =>
      intro h; exact absurd h Bool.false_ne_true
theorem ok_laws_eqStateS : CallOK Try.prog 44 (c_laws_eqStateS real) := by
  refine callOK_of fun args h ret hc => ?_
  unfold c_laws_eqStateS at hc
  split at hc
  · rename_i x0 x1
    obtain ⟨hok, rfl⟩ := some_ret hc
    exact holds_ev prog_ok (allOK_cons ok_laws_eqState allOK_nil) Try.func44 rfl rfl (smL_cons (body := .loop (loopB 0 (codeOf Try.f44))) (by kernel_rfl) t_laws_eqStateS_L0 smL_nil) rfl (e_laws_eqStateS real x0 x1 hok)
  · cases hc
def Pure.laws_markStateS_L0 (F : FOps) : Nat → Int → Int → (List (List Int)) → (Bool × Int × (List (List Int)))
  | 0, _, _, _ => (false, 0, [])
  | n + 1, y0, y1, y2 => bif (Decidable.decide (y1 < (Int.ofNat (List.length y2)))) then (bif (Decidable.decide (0 ≤ y1)) then (bif (Decidable.decide (y1 < (Int.ofNat (List.length y2)))) then (bif (Decidable.decide (0 ≤ y1)) then (bif (Decidable.decide (y1 < (Int.ofNat (List.length (List.set y2 (Int.toNat y1) (setFrom (List.getD y2 (Int.toNat y1) []) 0 [FOps.ofInt F FloatKind.f32 y0])))))) then (Pure.laws_markStateS_L0 F  n (IntKind.wrap IntKind.i64 ((IntKind.wrap IntKind.i64 (y0 + 1)) + 1)) (IntKind.wrap IntKind.i64 (y1 + 1)) (List.set (List.set y2 (Int.toNat y1) (setFrom (List.getD y2 (Int.toNat y1) []) 0 [FOps.ofInt F FloatKind.f32 y0])) (Int.toNat y1) (setFrom (List.getD (List.set y2 (Int.toNat y1) (setFrom (List.getD y2 (Int.toNat y1) []) 0 [FOps.ofInt F FloatKind.f32 y0])) (Int.toNat y1) []) 1 [FOps.ofInt F FloatKind.f32 (IntKind.wrap IntKind.i64 (y0 + 1))]))) else ((false, 0, []))) else ((false, 0, []))) else ((false, 0, []))) else ((false, 0, []))) else ((true, y0, y2))
def R_laws_markStateS_L0 (r : (Bool × Int × (List (List Int)))) : Bool × Bool × (Ex × List V × List Ob) × (Ex × List V × List Ob) := ((r).1, false, (Ex.normal, [V.at (A.int IntKind.i64 (r).2.1)], [⟨true, OC.rows [K.f FloatKind.f32, K.f FloatKind.f32] (r).2.2⟩]), (Ex.normal, [V.at (A.int IntKind.i64 (r).2.1)], [⟨true, OC.rows [K.f FloatKind.f32, K.f FloatKind.f32] (r).2.2⟩]))
def S_laws_markStateS_L0 (F : FOps) : Sm := ⟨[0, 1, 5], [56, 3, 3], [1], fun vals hp => match vals, hp with
  | [V.at (A.sl 0), V.at (A.int IntKind.i64 y0), V.at (A.int IntKind.i64 y1)], [⟨true, OC.rows [K.f FloatKind.f32, K.f FloatKind.f32] y2⟩] => some (R_laws_markStateS_L0  (Pure.laws_markStateS_L0 F  ((Int.ofNat (List.length y2)) - y1 + 1).toNat y0 y1 y2))
  | _, _ => none⟩
theorem l_laws_markStateS_L0 (F : FOps) : ∀ (fuel : Nat) (y0 : Int) (y1 : Int) (y2 : List (List Int)), (Pure.laws_markStateS_L0 F  fuel y0 y1 y2).1 = true → loopOf (cxS F tyl [] [] [] 0) 1 29 0 [0, 1, 5] [56, 3, 3] [1] (loopB 0 (codeOf Try.f45)) fuel [V.at (A.sl 0), V.at (A.int IntKind.i64 y0), V.at (A.int IntKind.i64 y1)] [⟨true, OC.rows [K.f FloatKind.f32, K.f FloatKind.f32] y2⟩] = resOf (R_laws_markStateS_L0  (Pure.laws_markStateS_L0 F  fuel y0 y1 y2)) := by
  intro fuel
  induction fuel with
  | zero => intro y0 y1 y2 h; exact absurd h Bool.false_ne_true
  | succ n ih =>
    intro y0 y1 y2
    have h0 : roundOf (cxS F tyl [] [] [] 0) 1 29 0 [0, 1, 5] [56, 3, 3] [1] (loopB 0 (codeOf Try.f45)) [V.at (A.sl 0), V.at (A.int IntKind.i64 y0), V.at (A.int IntKind.i64 y1)] [⟨true, OC.rows [K.f FloatKind.f32, K.f FloatKind.f32] y2⟩] = (bif Decidable.decide (y1 < (Int.ofNat (List.length y2))) then bif Decidable.decide (0 ≤ y1) then bif Decidable.decide (y1 < (Int.ofNat (List.length y2))) then bif Decidable.decide (0 ≤ y1) then bif Decidable.decide (y1 < (Int.ofNat (List.length (List.set y2 (Int.toNat y1) (setFrom (List.getD y2 (Int.toNat y1) []) 0 [FOps.ofInt F FloatKind.f32 y0]))))) then some (true, (Ex.normal, ([V.at (A.sl 0), V.at (A.int IntKind.i64 (IntKind.wrap IntKind.i64 ((IntKind.wrap IntKind.i64 (y0 + 1)) + 1))), V.at (A.int IntKind.i64 (IntKind.wrap IntKind.i64 (y1 + 1)))], [⟨true, OC.rows [K.f FloatKind.f32, K.f FloatKind.f32] (List.set (List.set y2 (Int.toNat y1) (setFrom (List.getD y2 (Int.toNat y1) []) 0 [FOps.ofInt F FloatKind.f32 y0])) (Int.toNat y1) (setFrom (List.getD (List.set y2 (Int.toNat y1) (setFrom (List.getD y2 (Int.toNat y1) []) 0 [FOps.ofInt F FloatKind.f32 y0])) (Int.toNat y1) []) 1 [FOps.ofInt F FloatKind.f32 (IntKind.wrap IntKind.i64 (y0 + 1))]))⟩]))) else none else none else none else none else some (false, (Ex.normal, ([V.at (A.int IntKind.i64 y0)], [⟨true, OC.rows [K.f FloatKind.f32, K.f FloatKind.f32] y2⟩])))) := by kernel_rfl
    unfold loopOf
    rw [h0]
    unfold Pure.laws_markStateS_L0
    cases (Decidable.decide (y1 < (Int.ofNat (List.length y2)))) with
    | true =>
      cases (Decidable.decide (0 ≤ y1)) with
      | true =>
        cases (Decidable.decide (y1 < (Int.ofNat (List.length (List.set y2 (Int.toNat y1) (setFrom (List.getD y2 (Int.toNat y1) []) 0 [FOps.ofInt F FloatKind.f32 y0])))))) with
        | true =>
          exact ih _ _ _
        | false =>
          intro h; exact absurd h Bool.false_ne_true
      | false =>
        intro h; exact absurd h Bool.false_ne_true
    | false =>
      intro _; rfl
theorem t_laws_markStateS_L0 : SmTo Try.prog 1 29 (S_laws_markStateS_L0 real) 0 (.loop (loopB 0 (codeOf Try.f45))) := by
  refine smTo_ev (cl := []) (ef := []) (sm := []) (un := 0) prog_ok allOK_nil smL_nil ?_
  intro vals hp q r h hq
  unfold S_laws_markStateS_L0 at h
  dsimp only at h
  split at h
  · rename_i y0 y1 y2
    obtain rfl := Option.some.inj h
    have h1 := hq
    unfold resOf at h1
    rw [chk_some] at h1
    exact ⟨_, (l_laws_markStateS_L0 real _ y0 y1 y2 h1.1).trans hq⟩
  · cases h
def Pure.laws_markStateS (F : FOps) (x0 : List (List Int)) (x1 : Int) : Int := Prod.fst (Prod.snd (Pure.laws_markStateS_L0 F (Nat.succ ((List.length x0) + 0)) x1 0 x0))
def Pure.laws_markStateS_1 (F : FOps) (x0 : List (List Int)) (x1 : Int) : List (List Int) := Prod.snd (Prod.snd (Pure.laws_markStateS_L0 F (Nat.succ ((List.length x0) + 0)) x1 0 x0))
def Pure.laws_markStateS_ok (F : FOps) (x0 : List (List Int)) (x1 : Int) : Bool := Prod.fst (Pure.laws_markStateS_L0 F (Nat.succ ((List.length x0) + 0)) x1 0 x0)
def c_laws_markStateS (F : FOps) : Con
  | [V.at (A.sl 0), V.at (A.int IntKind.i64 x1)], [⟨true, OC.rows [K.f FloatKind.f32, K.f FloatKind.f32] x0⟩] => some (Pure.laws_markStateS_ok F x0 x1, ⟨V.at (A.int IntKind.i64 (Pure.laws_markStateS F x0 x1)), some [⟨true, OC.rows [K.f FloatKind.f32, K.f FloatKind.f32] (Pure.laws_markStateS_1 F x0 x1)⟩], []⟩)
  | _, _ => none
theorem e_laws_markStateS (F : FOps) (x0 : List (List Int)) (x1 : Int) : Pure.laws_markStateS_ok F x0 x1 = true → evFn (cxS F tyl [] [] [(0, S_laws_markStateS_L0 F)] 0) Try.f45 true [V.at (A.sl 0), V.at (A.int IntKind.i64 x1)] [⟨true, OC.rows [K.f FloatKind.f32, K.f FloatKind.f32] x0⟩] = some ⟨V.at (A.int IntKind.i64 (Pure.laws_markStateS F x0 x1)), some [⟨true, OC.rows [K.f FloatKind.f32, K.f FloatKind.f32] (Pure.laws_markStateS_1 F x0 x1)⟩], []⟩ := by
  have h0 : evFn (cxS F tyl [] [] [(0, S_laws_markStateS_L0 F)] 0) Try.f45 true [V.at (A.sl 0), V.at (A.int IntKind.i64 x1)] [⟨true, OC.rows [K.f FloatKind.f32, K.f FloatKind.f32] x0⟩] = bif Prod.fst (Pure.laws_markStateS_L0 F (Nat.succ ((List.length x0) + 0)) x1 0 x0) then some ⟨V.at (A.int IntKind.i64 (Prod.fst (Prod.snd (Pure.laws_markStateS_L0 F (Nat.succ ((List.length x0) + 0)) x1 0 x0)))), some [⟨true, OC.rows [K.f FloatKind.f32, K.f FloatKind.f32] (Prod.snd (Prod.snd (Pure.laws_markStateS_L0 F (Nat.succ ((List.length x0) + 0)) x1 0 x0)))⟩], []⟩ else none := by kernel_rfl
  rw [h0]
  unfold Pure.laws_markStateS Pure.laws_markStateS_1 Pure.laws_markStateS_ok
  cases (Prod.fst (Pure.laws_markStateS_L0 F (Nat.succ ((List.length x0) + 0)) x1 0 x0)) with
  | true =>
    intro _; rfl
  | false =>
    intro h; exact absurd h Bool.false_ne_true
theorem ok_laws_markStateS : CallOK Try.prog 45 (c_laws_markStateS real) := by
  refine callOK_of fun args h ret hc => ?_
  unfold c_laws_markStateS at hc
  split at hc
  · rename_i x1 x0
    obtain ⟨hok, rfl⟩ := some_ret hc
    exact holdsE_ev prog_ok allOK_nil Try.func45 rfl rfl (smL_cons (body := .loop (loopB 0 (codeOf Try.f45))) (by kernel_rfl) t_laws_markStateS_L0 smL_nil) (e_laws_markStateS real x0 x1 hok)
  · cases hc
def Pure.laws_heldStateS_L0 (F : FOps) (y2 : List (List Int)) : Nat → Int → Int → (Bool × Bool × Int × Int)
  | 0, _, _ => (false, false, 0, 0)
  | n + 1, y0, y1 => bif (Decidable.decide (y1 < (Int.ofNat (List.length y2)))) then (bif (Decidable.decide (0 ≤ y1)) then (bif (Decidable.decide (y1 < (Int.ofNat (List.length y2)))) then (bif (FOps.cmp F BinOp.neq FloatKind.f32 (List.getD (List.getD y2 (Int.toNat y1) []) 0 0) (FOps.ofInt F FloatKind.f32 y0)) then ((true, true, 0, y0)) else (bif (Decidable.decide (0 ≤ y1)) then (bif (Decidable.decide (y1 < (Int.ofNat (List.length y2)))) then (bif (FOps.cmp F BinOp.neq FloatKind.f32 (List.getD (List.getD y2 (Int.toNat y1) []) 1 0) (FOps.ofInt F FloatKind.f32 (IntKind.wrap IntKind.i64 (y0 + 1)))) then ((true, true, 0, IntKind.wrap IntKind.i64 (y0 + 1))) else (Pure.laws_heldStateS_L0 F y2 n (IntKind.wrap IntKind.i64 ((IntKind.wrap IntKind.i64 (y0 + 1)) + 1)) (IntKind.wrap IntKind.i64 (y1 + 1)))) else ((false, false, 0, 0))) else ((false, false, 0, 0)))) else ((false, false, 0, 0))) else ((false, false, 0, 0))) else ((true, false, y0, 0))
def R_laws_heldStateS_L0 (y2 : List (List Int)) (r : (Bool × Bool × Int × Int)) : Bool × Bool × (Ex × List V × List Ob) × (Ex × List V × List Ob) := ((r).1, (r).2.1, (Ex.normal, [V.at (A.int IntKind.i64 (r).2.2.1), V.at A.undef], [⟨false, OC.rows [K.f FloatKind.f32, K.f FloatKind.f32] y2⟩]), (Ex.ret, [V.at (A.int IntKind.i64 (r).2.2.2), V.at (A.int IntKind.i64 (-1))], [⟨false, OC.rows [K.f FloatKind.f32, K.f FloatKind.f32] y2⟩]))
def S_laws_heldStateS_L0 (F : FOps) : Sm := ⟨[0, 1, 5], [56, 3, 3], [1, 4], fun vals hp => match vals, hp with
  | [V.at (A.sl 0), V.at (A.int IntKind.i64 y0), V.at (A.int IntKind.i64 y1)], [⟨false, OC.rows [K.f FloatKind.f32, K.f FloatKind.f32] y2⟩] => some (R_laws_heldStateS_L0 y2 (Pure.laws_heldStateS_L0 F y2 ((Int.ofNat (List.length y2)) - y1 + 1).toNat y0 y1))
  | _, _ => none⟩
theorem l_laws_heldStateS_L0 (F : FOps) (y2 : List (List Int)) : ∀ (fuel : Nat) (y0 : Int) (y1 : Int), (Pure.laws_heldStateS_L0 F y2 fuel y0 y1).1 = true → loopOf (cxS F tyl [] [] [] 0) 1 33 0 [0, 1, 5] [56, 3, 3] [1, 4] (loopB 0 (codeOf Try.f46)) fuel [V.at (A.sl 0), V.at (A.int IntKind.i64 y0), V.at (A.int IntKind.i64 y1)] [⟨false, OC.rows [K.f FloatKind.f32, K.f FloatKind.f32] y2⟩] = resOf (R_laws_heldStateS_L0 y2 (Pure.laws_heldStateS_L0 F y2 fuel y0 y1)) := by
  intro fuel
  induction fuel with
  | zero => intro y0 y1 h; exact absurd h Bool.false_ne_true
  | succ n ih =>
    intro y0 y1
    have h0 : roundOf (cxS F tyl [] [] [] 0) 1 33 0 [0, 1, 5] [56, 3, 3] [1, 4] (loopB 0 (codeOf Try.f46)) [V.at (A.sl 0), V.at (A.int IntKind.i64 y0), V.at (A.int IntKind.i64 y1)] [⟨false, OC.rows [K.f FloatKind.f32, K.f FloatKind.f32] y2⟩] = (bif Decidable.decide (y1 < (Int.ofNat (List.length y2))) then bif Decidable.decide (0 ≤ y1) then bif Decidable.decide (y1 < (Int.ofNat (List.length y2))) then bif FOps.cmp F BinOp.neq FloatKind.f32 (List.getD (List.getD y2 (Int.toNat y1) []) 0 0) (FOps.ofInt F FloatKind.f32 y0) then some (false, (Ex.ret, ([V.at (A.int IntKind.i64 y0), V.at (A.int IntKind.i64 (-1))], [⟨false, OC.rows [K.f FloatKind.f32, K.f FloatKind.f32] y2⟩]))) else bif Decidable.decide (0 ≤ y1) then bif Decidable.decide (y1 < (Int.ofNat (List.length y2))) then bif FOps.cmp F BinOp.neq FloatKind.f32 (List.getD (List.getD y2 (Int.toNat y1) []) 1 0) (FOps.ofInt F FloatKind.f32 (IntKind.wrap IntKind.i64 (y0 + 1))) then some (false, (Ex.ret, ([V.at (A.int IntKind.i64 (IntKind.wrap IntKind.i64 (y0 + 1))), V.at (A.int IntKind.i64 (-1))], [⟨false, OC.rows [K.f FloatKind.f32, K.f FloatKind.f32] y2⟩]))) else some (true, (Ex.normal, ([V.at (A.sl 0), V.at (A.int IntKind.i64 (IntKind.wrap IntKind.i64 ((IntKind.wrap IntKind.i64 (y0 + 1)) + 1))), V.at (A.int IntKind.i64 (IntKind.wrap IntKind.i64 (y1 + 1)))], [⟨false, OC.rows [K.f FloatKind.f32, K.f FloatKind.f32] y2⟩]))) else none else none else none else none else some (false, (Ex.normal, ([V.at (A.int IntKind.i64 y0), V.at A.undef], [⟨false, OC.rows [K.f FloatKind.f32, K.f FloatKind.f32] y2⟩])))) := by kernel_rfl
    unfold loopOf
    rw [h0]
    unfold Pure.laws_heldStateS_L0
    cases (Decidable.decide (y1 < (Int.ofNat (List.length y2)))) with
    | true =>
      cases (Decidable.decide (0 ≤ y1)) with
      | true =>
        cases (FOps.cmp F BinOp.neq FloatKind.f32 (List.getD (List.getD y2 (Int.toNat y1) []) 0 0) (FOps.ofInt F FloatKind.f32 y0)) with
        | true =>
          intro _; rfl
        | false =>
          cases (FOps.cmp F BinOp.neq FloatKind.f32 (List.getD (List.getD y2 (Int.toNat y1) []) 1 0) (FOps.ofInt F FloatKind.f32 (IntKind.wrap IntKind.i64 (y0 + 1)))) with
          | true =>
            intro _; rfl
          | false =>
            exact ih _ _
      | false =>
        intro h; exact absurd h Bool.false_ne_true
    | false =>
      intro _; rfl
theorem t_laws_heldStateS_L0 : SmTo Try.prog 1 33 (S_laws_heldStateS_L0 real) 0 (.loop (loopB 0 (codeOf Try.f46))) := by
  refine smTo_ev (cl := []) (ef := []) (sm := []) (un := 0) prog_ok allOK_nil smL_nil ?_
  intro vals hp q r h hq
  unfold S_laws_heldStateS_L0 at h
  dsimp only at h
  split at h
  · rename_i y0 y1 y2
    obtain rfl := Option.some.inj h
    have h1 := hq
    unfold resOf at h1
    rw [chk_some] at h1
    exact ⟨_, (l_laws_heldStateS_L0 real y2 _ y0 y1 h1.1).trans hq⟩
  · cases h
def Pure.laws_heldStateS (F : FOps) (x0 : List (List Int)) (x1 : Int) : Int := bif Prod.fst (Prod.snd (Pure.laws_heldStateS_L0 F x0 (Nat.succ ((List.length x0) + 0)) x1 0)) then (-1) else Prod.fst (Prod.snd (Prod.snd (Pure.laws_heldStateS_L0 F x0 (Nat.succ ((List.length x0) + 0)) x1 0)))
def Pure.laws_heldStateS_ok (F : FOps) (x0 : List (List Int)) (x1 : Int) : Bool := Prod.fst (Pure.laws_heldStateS_L0 F x0 (Nat.succ ((List.length x0) + 0)) x1 0)
def c_laws_heldStateS (F : FOps) : Con
  | [V.at (A.sl 0), V.at (A.int IntKind.i64 x1)], [⟨false, OC.rows [K.f FloatKind.f32, K.f FloatKind.f32] x0⟩] => some (Pure.laws_heldStateS_ok F x0 x1, ⟨V.at (A.int IntKind.i64 (Pure.laws_heldStateS F x0 x1)), none, []⟩)
  | _, _ => none
theorem e_laws_heldStateS (F : FOps) (x0 : List (List Int)) (x1 : Int) : Pure.laws_heldStateS_ok F x0 x1 = true → evFn (cxS F tyl [] [] [(0, S_laws_heldStateS_L0 F)] 0) Try.f46 false [V.at (A.sl 0), V.at (A.int IntKind.i64 x1)] [⟨false, OC.rows [K.f FloatKind.f32, K.f FloatKind.f32] x0⟩] = some ⟨V.at (A.int IntKind.i64 (Pure.laws_heldStateS F x0 x1)), none, []⟩ := by
  have h0 : evFn (cxS F tyl [] [] [(0, S_laws_heldStateS_L0 F)] 0) Try.f46 false [V.at (A.sl 0), V.at (A.int IntKind.i64 x1)] [⟨false, OC.rows [K.f FloatKind.f32, K.f FloatKind.f32] x0⟩] = bif Prod.fst (Pure.laws_heldStateS_L0 F x0 (Nat.succ ((List.length x0) + 0)) x1 0) then bif Prod.fst (Prod.snd (Pure.laws_heldStateS_L0 F x0 (Nat.succ ((List.length x0) + 0)) x1 0)) then some ⟨V.at (A.int IntKind.i64 (-1)), none, []⟩ else some ⟨V.at (A.int IntKind.i64 (Prod.fst (Prod.snd (Prod.snd (Pure.laws_heldStateS_L0 F x0 (Nat.succ ((List.length x0) + 0)) x1 0))))), none, []⟩ else none := by kernel_rfl
  rw [h0]
  unfold Pure.laws_heldStateS Pure.laws_heldStateS_ok
  cases (Prod.fst (Pure.laws_heldStateS_L0 F x0 (Nat.succ ((List.length x0) + 0)) x1 0)) with
  | true =>
    cases (Prod.fst (Prod.snd (Pure.laws_heldStateS_L0 F x0 (Nat.succ ((List.length x0) + 0)) x1 0))) with
    | true =>
      intro _; rfl
    | false =>
      intro _; rfl
  | false =>
    intro h; exact absurd h Bool.false_ne_true
theorem ok_laws_heldStateS : CallOK Try.prog 46 (c_laws_heldStateS real) := by
  refine callOK_of fun args h ret hc => ?_
  unfold c_laws_heldStateS at hc
  split at hc
  · rename_i x1 x0
    obtain ⟨hok, rfl⟩ := some_ret hc
    exact holds_ev prog_ok allOK_nil Try.func46 rfl rfl (smL_cons (body := .loop (loopB 0 (codeOf Try.f46))) (by kernel_rfl) t_laws_heldStateS_L0 smL_nil) rfl (e_laws_heldStateS real x0 x1 hok)
  · cases hc
def Pure.laws_FnExactOrbitOf (F : FOps) (x0 : Int) (x1 : Int) (x2 : Int) (x3 : Int) : Bool := bif Pure.laws_eqStateS F (Pure.impl_OrbitOf_1 F x0 x1 x2 x3) (Pure.spec_OrbitOf_1 F x0 x1 x2 x3) then bif (Pure.impl_OrbitOf F x0 x1 x2 x3) == (Pure.spec_OrbitOf F x0 x1 x2 x3) then bif Decidable.decide ((Pure.laws_heldStateS F (Pure.laws_markStateS_1 F (Pure.impl_OrbitOf_1 F x0 x1 x2 x3) 1) 1) < 0) then false else bif (Pure.laws_heldStateS F (Pure.laws_markStateS_1 F (Pure.impl_OrbitOf_1 F x0 x1 x2 x3) 1) 1) != (Pure.laws_markStateS F (Pure.impl_OrbitOf_1 F x0 x1 x2 x3) 1) then false else true else false else false
def Pure.laws_FnExactOrbitOf_ok (F : FOps) (x0 : Int) (x1 : Int) (x2 : Int) (x3 : Int) : Bool := bif Pure.spec_OrbitOf_ok F x0 x1 x2 x3 then bif Pure.impl_OrbitOf_ok F x0 x1 x2 x3 then bif Pure.laws_eqStateS_ok F (Pure.impl_OrbitOf_1 F x0 x1 x2 x3) (Pure.spec_OrbitOf_1 F x0 x1 x2 x3) then bif Pure.laws_eqStateS F (Pure.impl_OrbitOf_1 F x0 x1 x2 x3) (Pure.spec_OrbitOf_1 F x0 x1 x2 x3) then bif (Pure.impl_OrbitOf F x0 x1 x2 x3) == (Pure.spec_OrbitOf F x0 x1 x2 x3) then bif Pure.laws_markStateS_ok F (Pure.impl_OrbitOf_1 F x0 x1 x2 x3) 1 then Pure.laws_heldStateS_ok F (Pure.laws_markStateS_1 F (Pure.impl_OrbitOf_1 F x0 x1 x2 x3) 1) 1 else false else true else true else false else false else false
def c_laws_FnExactOrbitOf (F : FOps) : Con
  | [V.agg [A.fl FloatKind.f32 x0, A.fl FloatKind.f32 x1], V.at (A.fl FloatKind.f32 x2), V.at (A.int IntKind.i64 x3)], [] => some (Pure.laws_FnExactOrbitOf_ok F x0 x1 x2 x3, ⟨V.at (A.bool (Pure.laws_FnExactOrbitOf F x0 x1 x2 x3)), none, []⟩)
  | _, _ => none
theorem e_laws_FnExactOrbitOf (F : FOps) (x0 : Int) (x1 : Int) (x2 : Int) (x3 : Int) : Pure.laws_FnExactOrbitOf_ok F x0 x1 x2 x3 = true → evFn (cxS F tyl [(16, c_laws_toState F), (42, c_spec_OrbitOf F), (43, c_impl_OrbitOf F), (44, c_laws_eqStateS F), (45, c_laws_markStateS F), (46, c_laws_heldStateS F)] [45] [] 0) Try.f12 false [V.agg [A.fl FloatKind.f32 x0, A.fl FloatKind.f32 x1], V.at (A.fl FloatKind.f32 x2), V.at (A.int IntKind.i64 x3)] [] = some ⟨V.at (A.bool (Pure.laws_FnExactOrbitOf F x0 x1 x2 x3)), none, []⟩ := by
  have h0 : evFn (cxS F tyl [(16, c_laws_toState F), (42, c_spec_OrbitOf F), (43, c_impl_OrbitOf F), (44, c_laws_eqStateS F), (45, c_laws_markStateS F), (46, c_laws_heldStateS F)] [45] [] 0) Try.f12 false [V.agg [A.fl FloatKind.f32 x0, A.fl FloatKind.f32 x1], V.at (A.fl FloatKind.f32 x2), V.at (A.int IntKind.i64 x3)] [] = bif Pure.spec_OrbitOf_ok F x0 x1 x2 x3 then bif Pure.impl_OrbitOf_ok F x0 x1 x2 x3 then bif Pure.laws_eqStateS_ok F (Pure.impl_OrbitOf_1 F x0 x1 x2 x3) (Pure.spec_OrbitOf_1 F x0 x1 x2 x3) then bif Bool.not (Pure.laws_eqStateS F (Pure.impl_OrbitOf_1 F x0 x1 x2 x3) (Pure.spec_OrbitOf_1 F x0 x1 x2 x3)) then some ⟨V.at (A.bool false), none, []⟩ else bif Bool.not ((Pure.impl_OrbitOf F x0 x1 x2 x3) == (Pure.spec_OrbitOf F x0 x1 x2 x3)) then some ⟨V.at (A.bool false), none, []⟩ else bif Pure.laws_markStateS_ok F (Pure.impl_OrbitOf_1 F x0 x1 x2 x3) 1 then bif Pure.laws_heldStateS_ok F (Pure.laws_markStateS_1 F (Pure.impl_OrbitOf_1 F x0 x1 x2 x3) 1) 1 then bif Decidable.decide ((Pure.laws_heldStateS F (Pure.laws_markStateS_1 F (Pure.impl_OrbitOf_1 F x0 x1 x2 x3) 1) 1) < 0) then some ⟨V.at (A.bool false), none, []⟩ else bif (Pure.laws_heldStateS F (Pure.laws_markStateS_1 F (Pure.impl_OrbitOf_1 F x0 x1 x2 x3) 1) 1) != (Pure.laws_markStateS F (Pure.impl_OrbitOf_1 F x0 x1 x2 x3) 1) then some ⟨V.at (A.bool false), none, []⟩ else bif Pure.impl_OrbitOf_ok F x0 x1 x2 x3 then bif Pure.laws_eqStateS_ok F (Pure.impl_OrbitOf_1 F x0 x1 x2 x3) (Pure.spec_OrbitOf_1 F x0 x1 x2 x3) then bif Bool.not (Pure.laws_eqStateS F (Pure.impl_OrbitOf_1 F x0 x1 x2 x3) (Pure.spec_OrbitOf_1 F x0 x1 x2 x3)) then some ⟨V.at (A.bool false), none, []⟩ else bif Bool.not ((Pure.impl_OrbitOf F x0 x1 x2 x3) == (Pure.spec_OrbitOf F x0 x1 x2 x3)) then some ⟨V.at (A.bool false), none, []⟩ else bif Pure.laws_heldStateS_ok F (Pure.laws_markStateS_1 F (Pure.impl_OrbitOf_1 F x0 x1 x2 x3) 1) 1 then bif Decidable.decide ((Pure.laws_heldStateS F (Pure.laws_markStateS_1 F (Pure.impl_OrbitOf_1 F x0 x1 x2 x3) 1) 1) < 0) then some ⟨V.at (A.bool false), none, []⟩ else bif (Pure.laws_heldStateS F (Pure.laws_markStateS_1 F (Pure.impl_OrbitOf_1 F x0 x1 x2 x3) 1) 1) != (Pure.laws_markStateS F (Pure.impl_OrbitOf_1 F x0 x1 x2 x3) 1) then some ⟨V.at (A.bool false), none, []⟩ else some ⟨V.at (A.bool true), none, []⟩ else none else none else none else none else none else none else none else none := by kernel_rfl
  rw [h0]
  unfold Pure.laws_FnExactOrbitOf Pure.laws_FnExactOrbitOf_ok
  cases (Pure.spec_OrbitOf_ok F x0 x1 x2 x3) with
  | true =>
    cases (Pure.impl_OrbitOf_ok F x0 x1 x2 x3) with
    | true =>
      cases (Pure.laws_eqStateS_ok F (Pure.impl_OrbitOf_1 F x0 x1 x2 x3) (Pure.spec_OrbitOf_1 F x0 x1 x2 x3)) with
      | true =>
        cases (Pure.laws_eqStateS F (Pure.impl_OrbitOf_1 F x0 x1 x2 x3) (Pure.spec_OrbitOf_1 F x0 x1 x2 x3)) with
        | true =>
          cases ((Pure.impl_OrbitOf F x0 x1 x2 x3) == (Pure.spec_OrbitOf F x0 x1 x2 x3)) with
          | true =>
            cases (Pure.laws_markStateS_ok F (Pure.impl_OrbitOf_1 F x0 x1 x2 x3) 1) with
            | true =>
              cases (Pure.laws_heldStateS_ok F (Pure.laws_markStateS_1 F (Pure.impl_OrbitOf_1 F x0 x1 x2 x3) 1) 1) with
              | true =>
                cases (Decidable.decide ((Pure.laws_heldStateS F (Pure.laws_markStateS_1 F (Pure.impl_OrbitOf_1 F x0 x1 x2 x3) 1) 1) < 0)) with
                | true =>
                  intro _; rfl
                | false =>
                  cases ((Pure.laws_heldStateS F (Pure.laws_markStateS_1 F (Pure.impl_OrbitOf_1 F x0 x1 x2 x3) 1) 1) != (Pure.laws_markStateS F (Pure.impl_OrbitOf_1 F x0 x1 x2 x3) 1)) with
                  | true =>
                    intro _; rfl
                  | false =>
                    intro _; rfl
              | false =>
                intro h; exact absurd h Bool.false_ne_true
            | false =>
              intro h; exact absurd h Bool.false_ne_true
          | false =>
            intro _; rfl
        | false =>
          intro _; rfl
      | false =>
        intro h; exact absurd h Bool.false_ne_true
    | false =>
      intro h; exact absurd h Bool.false_ne_true
  | false =>
    intro h; exact absurd h Bool.false_ne_true
theorem ok_laws_FnExactOrbitOf : CallOK Try.prog 12 (c_laws_FnExactOrbitOf real) := by
  refine callOK_of fun args h ret hc => ?_
  unfold c_laws_FnExactOrbitOf at hc
  split at hc
  · rename_i x0 x1 x2 x3
    obtain ⟨hok, rfl⟩ := some_ret hc
    exact holds_ev prog_ok (allOK_cons ok_laws_toState (allOK_cons ok_spec_OrbitOf (allOK_cons ok_impl_OrbitOf (allOK_cons ok_laws_eqStateS (allOK_cons ok_laws_markStateS (allOK_cons ok_laws_heldStateS allOK_nil)))))) Try.func12 rfl rfl smL_nil rfl (e_laws_FnExactOrbitOf real x0 x1 x2 x3 hok)
  · cases hc
end Go.Fx
