import Derived.Test.YtpgpjkkncghbhaaXr2c
import Derived.KernelRfl
namespace Go.Fx
open Go.Proofs
def Pure.impl_BackRow_c1 (F : FOps) (x0 : Nat) (x1 : List (List Int)) : List (List Int) := List.set x1 x0 (setFrom (List.getD x1 x0 []) 1 [FOps.neg F FloatKind.f32 (List.getD (List.getD x1 x0 []) 1 0)])
def c_impl_BackRow_c1 (F : FOps) : Con
  | [V.at (A.ptr 0 x0 0)], [⟨true, OC.rows [K.f FloatKind.f32, K.f FloatKind.f32, K.f FloatKind.f32] x1⟩] => some (true, ⟨V.tup [], some [⟨true, OC.rows [K.f FloatKind.f32, K.f FloatKind.f32, K.f FloatKind.f32] (Pure.impl_BackRow_c1 F x0 x1)⟩], []⟩)
  | _, _ => none
theorem e_impl_BackRow_c1 (F : FOps) (x0 : Nat) (x1 : List (List Int)) : evFn (cxS F tyl [] [] [] 0) Try.f65 true [V.at (A.ptr 0 x0 0)] [⟨true, OC.rows [K.f FloatKind.f32, K.f FloatKind.f32, K.f FloatKind.f32] x1⟩] = some ⟨V.tup [], some [⟨true, OC.rows [K.f FloatKind.f32, K.f FloatKind.f32, K.f FloatKind.f32] (Pure.impl_BackRow_c1 F x0 x1)⟩], []⟩ := by
  kernel_rfl
theorem ok_impl_BackRow_c1 : CallOK Try.prog 65 (c_impl_BackRow_c1 real) := by
  refine callOK_of fun args h ret hc => ?_
  unfold c_impl_BackRow_c1 at hc
  split at hc
  · rename_i x0 x1
    obtain ⟨_, rfl⟩ := some_ret hc
    exact holdsE_ev prog_ok allOK_nil Try.func65 rfl rfl smL_nil (e_impl_BackRow_c1 real x0 x1)
  · cases hc
def Pure.impl_each_c1_back_L0 (F : FOps) (y0 : Int) (y2 : Int) : Nat → Int → (List (List Int)) → (Bool × (List (List Int)))
  | 0, _, _ => (false, [])
  | n + 1, y1, y3 => bif (Decidable.decide (y1 < y0)) then (bif (Decidable.decide (0 ≤ y1)) then (bif (Decidable.decide (y1 < (Int.ofNat (List.length y3)))) then (Pure.impl_each_c1_back_L0 F y0 y2 n (IntKind.wrap IntKind.i64 (y1 + 1)) (Pure.impl_BackRow_c1 F (Int.toNat y1) y3)) else ((false, []))) else ((false, []))) else ((true, y3))
def R_impl_each_c1_back_L0 (y2 : Int) (r : (Bool × (List (List Int)))) : Bool × Bool × (Ex × List V × List Ob) × (Ex × List V × List Ob) := ((r).1, false, (Ex.normal, [], [⟨true, OC.box [A.sl 2, A.fl FloatKind.f32 y2]⟩, ⟨false, OC.box [A.fn 65 []]⟩, ⟨true, OC.rows [K.f FloatKind.f32, K.f FloatKind.f32, K.f FloatKind.f32] (r).2⟩]), (Ex.normal, [], [⟨true, OC.box [A.sl 2, A.fl FloatKind.f32 y2]⟩, ⟨false, OC.box [A.fn 65 []]⟩, ⟨true, OC.rows [K.f FloatKind.f32, K.f FloatKind.f32, K.f FloatKind.f32] (r).2⟩]))
def S_impl_each_c1_back_L0 (F : FOps) : Sm := ⟨[0, 1, 9, 10], [63, 0, 3, 3], [], fun vals hp => match vals, hp with
  | [V.at (A.ptr 0 0 0), V.at (A.ptr 1 0 0), V.at (A.int IntKind.i64 y0), V.at (A.int IntKind.i64 y1)], [⟨true, OC.box [A.sl 2, A.fl FloatKind.f32 y2]⟩, ⟨false, OC.box [A.fn 65 []]⟩, ⟨true, OC.rows [K.f FloatKind.f32, K.f FloatKind.f32, K.f FloatKind.f32] y3⟩] => some (R_impl_each_c1_back_L0 y2 (Pure.impl_each_c1_back_L0 F y0 y2 (y0 - y1 + 1).toNat y1 y3))
  | _, _ => none⟩
theorem l_impl_each_c1_back_L0 (F : FOps) (y0 : Int) (y2 : Int) : ∀ (fuel : Nat) (y1 : Int) (y3 : List (List Int)), (Pure.impl_each_c1_back_L0 F y0 y2 fuel y1 y3).1 = true → loopOf (cxS F tyl [(65, c_impl_BackRow_c1 F)] [65] [] 0) 3 22 0 [0, 1, 9, 10] [63, 0, 3, 3] [] (loopB 0 (codeOf Try.f84)) fuel [V.at (A.ptr 0 0 0), V.at (A.ptr 1 0 0), V.at (A.int IntKind.i64 y0), V.at (A.int IntKind.i64 y1)] [⟨true, OC.box [A.sl 2, A.fl FloatKind.f32 y2]⟩, ⟨false, OC.box [A.fn 65 []]⟩, ⟨true, OC.rows [K.f FloatKind.f32, K.f FloatKind.f32, K.f FloatKind.f32] y3⟩] = resOf (R_impl_each_c1_back_L0 y2 (Pure.impl_each_c1_back_L0 F y0 y2 fuel y1 y3)) := by
  intro fuel
  induction fuel with
  | zero => intro y1 y3 h; exact absurd h Bool.false_ne_true
  | succ n ih =>
    intro y1 y3
    have h0 : roundOf (cxS F tyl [(65, c_impl_BackRow_c1 F)] [65] [] 0) 3 22 0 [0, 1, 9, 10] [63, 0, 3, 3] [] (loopB 0 (codeOf Try.f84)) [V.at (A.ptr 0 0 0), V.at (A.ptr 1 0 0), V.at (A.int IntKind.i64 y0), V.at (A.int IntKind.i64 y1)] [⟨true, OC.box [A.sl 2, A.fl FloatKind.f32 y2]⟩, ⟨false, OC.box [A.fn 65 []]⟩, ⟨true, OC.rows [K.f FloatKind.f32, K.f FloatKind.f32, K.f FloatKind.f32] y3⟩] = (bif Decidable.decide (y1 < y0) then bif Decidable.decide (0 ≤ y1) then bif Decidable.decide (y1 < (Int.ofNat (List.length y3))) then some (true, (Ex.normal, ([V.at (A.ptr 0 0 0), V.at (A.ptr 1 0 0), V.at (A.int IntKind.i64 y0), V.at (A.int IntKind.i64 (IntKind.wrap IntKind.i64 (y1 + 1)))], [⟨true, OC.box [A.sl 2, A.fl FloatKind.f32 y2]⟩, ⟨false, OC.box [A.fn 65 []]⟩, ⟨true, OC.rows [K.f FloatKind.f32, K.f FloatKind.f32, K.f FloatKind.f32] (Pure.impl_BackRow_c1 F (Int.toNat y1) y3)⟩]))) else none else none else some (false, (Ex.normal, ([], [⟨true, OC.box [A.sl 2, A.fl FloatKind.f32 y2]⟩, ⟨false, OC.box [A.fn 65 []]⟩, ⟨true, OC.rows [K.f FloatKind.f32, K.f FloatKind.f32, K.f FloatKind.f32] y3⟩])))) := by kernel_rfl
    unfold loopOf
    rw [h0]
    unfold Pure.impl_each_c1_back_L0
    cases (Decidable.decide (y1 < y0)) with
    | true =>
      cases (Decidable.decide (0 ≤ y1)) with
      | true =>
        cases (Decidable.decide (y1 < (Int.ofNat (List.length y3)))) with
        | true =>
          exact ih _ _
        | false =>
          intro h; exact absurd h Bool.false_ne_true
      | false =>
        intro h; exact absurd h Bool.false_ne_true
    | false =>
      intro _; rfl
theorem t_impl_each_c1_back_L0 : SmTo Try.prog 3 22 (S_impl_each_c1_back_L0 real) 0 (.loop (loopB 0 (codeOf Try.f84))) := by
  refine smTo_ev (cl := [(65, c_impl_BackRow_c1 real)]) (ef := [65]) (sm := []) (un := 0) prog_ok (allOK_cons ok_impl_BackRow_c1 allOK_nil) smL_nil ?_
  intro vals hp q r h hq
  unfold S_impl_each_c1_back_L0 at h
  dsimp only at h
  split at h
  · rename_i y0 y1 y2 y3
    obtain rfl := Option.some.inj h
    have h1 := hq
    unfold resOf at h1
    rw [chk_some] at h1
    exact ⟨_, (l_impl_each_c1_back_L0 real y0 y2 _ y1 y3 h1.1).trans hq⟩
  · cases h
def Pure.impl_each_c1_back (F : FOps) (x0 : List (List Int)) (x1 : Int) : List (List Int) := Prod.snd (Pure.impl_each_c1_back_L0 F (Int.ofNat (List.length x0)) x1 (Nat.succ ((List.length x0) + 0)) 0 x0)
def Pure.impl_each_c1_back_ok (F : FOps) (x0 : List (List Int)) (x1 : Int) : Bool := Prod.fst (Pure.impl_each_c1_back_L0 F (Int.ofNat (List.length x0)) x1 (Nat.succ ((List.length x0) + 0)) 0 x0)
def c_impl_each_c1_back (F : FOps) : Con
  | [V.at (A.ptr 0 0 0), V.at (A.ptr 1 0 0)], [⟨true, OC.box [A.sl 2, A.fl FloatKind.f32 x1]⟩, ⟨false, OC.box [A.fn 65 []]⟩, ⟨true, OC.rows [K.f FloatKind.f32, K.f FloatKind.f32, K.f FloatKind.f32] x0⟩] => some (Pure.impl_each_c1_back_ok F x0 x1, ⟨V.at (A.bool true), some [⟨true, OC.box [A.sl 2, A.fl FloatKind.f32 x1]⟩, ⟨false, OC.box [A.fn 65 []]⟩, ⟨true, OC.rows [K.f FloatKind.f32, K.f FloatKind.f32, K.f FloatKind.f32] (Pure.impl_each_c1_back F x0 x1)⟩], []⟩)
  | _, _ => none
theorem e_impl_each_c1_back (F : FOps) (x0 : List (List Int)) (x1 : Int) : Pure.impl_each_c1_back_ok F x0 x1 = true → evFn (cxS F tyl [(65, c_impl_BackRow_c1 F)] [65] [(0, S_impl_each_c1_back_L0 F)] 0) Try.f84 true [V.at (A.ptr 0 0 0), V.at (A.ptr 1 0 0)] [⟨true, OC.box [A.sl 2, A.fl FloatKind.f32 x1]⟩, ⟨false, OC.box [A.fn 65 []]⟩, ⟨true, OC.rows [K.f FloatKind.f32, K.f FloatKind.f32, K.f FloatKind.f32] x0⟩] = some ⟨V.at (A.bool true), some [⟨true, OC.box [A.sl 2, A.fl FloatKind.f32 x1]⟩, ⟨false, OC.box [A.fn 65 []]⟩, ⟨true, OC.rows [K.f FloatKind.f32, K.f FloatKind.f32, K.f FloatKind.f32] (Pure.impl_each_c1_back F x0 x1)⟩], []⟩ := by
  have h0 : evFn (cxS F tyl [(65, c_impl_BackRow_c1 F)] [65] [(0, S_impl_each_c1_back_L0 F)] 0) Try.f84 true [V.at (A.ptr 0 0 0), V.at (A.ptr 1 0 0)] [⟨true, OC.box [A.sl 2, A.fl FloatKind.f32 x1]⟩, ⟨false, OC.box [A.fn 65 []]⟩, ⟨true, OC.rows [K.f FloatKind.f32, K.f FloatKind.f32, K.f FloatKind.f32] x0⟩] = bif Prod.fst (Pure.impl_each_c1_back_L0 F (Int.ofNat (List.length x0)) x1 (Nat.succ ((List.length x0) + 0)) 0 x0) then some ⟨V.at (A.bool true), some [⟨true, OC.box [A.sl 2, A.fl FloatKind.f32 x1]⟩, ⟨false, OC.box [A.fn 65 []]⟩, ⟨true, OC.rows [K.f FloatKind.f32, K.f FloatKind.f32, K.f FloatKind.f32] (Prod.snd (Pure.impl_each_c1_back_L0 F (Int.ofNat (List.length x0)) x1 (Nat.succ ((List.length x0) + 0)) 0 x0))⟩], []⟩ else none := by kernel_rfl
  rw [h0]
  unfold Pure.impl_each_c1_back Pure.impl_each_c1_back_ok
  cases (Prod.fst (Pure.impl_each_c1_back_L0 F (Int.ofNat (List.length x0)) x1 (Nat.succ ((List.length x0) + 0)) 0 x0)) with
  | true =>
    intro _; rfl
  | false =>
    intro h; exact absurd h Bool.false_ne_true
theorem ok_impl_each_c1_back : CallOK Try.prog 84 (c_impl_each_c1_back real) := by
  refine callOK_of fun args h ret hc => ?_
  unfold c_impl_each_c1_back at hc
  split at hc
  · rename_i x1 x0
    obtain ⟨hok, rfl⟩ := some_ret hc
    exact holdsE_ev prog_ok (allOK_cons ok_impl_BackRow_c1 allOK_nil) Try.func84 rfl rfl (smL_cons (body := .loop (loopB 0 (codeOf Try.f84))) (by kernel_rfl) t_impl_each_c1_back_L0 smL_nil) (e_impl_each_c1_back real x0 x1 hok)
  · cases hc
def c_slices_Clone_impl_Ball_impl_Ball (_ : FOps) : Con
  | [V.at (A.sl 0)], [⟨false, OC.rows [K.f FloatKind.f32, K.f FloatKind.f32, K.f FloatKind.f32] x0⟩] => some (decide (x0.length ≤ 1073741824), ⟨V.at (A.sl 1), none, [⟨true, OC.rows [K.f FloatKind.f32, K.f FloatKind.f32, K.f FloatKind.f32] x0⟩]⟩)
  | _, _ => none
theorem ok_slices_Clone_impl_Ball_impl_Ball : CallOK Try.prog 85 (c_slices_Clone_impl_Ball_impl_Ball real) := by
  refine callOK_of fun args h ret hc => ?_
  unfold c_slices_Clone_impl_Ball_impl_Ball at hc
  split at hc
  · rename_i x0
    obtain ⟨hok, rfl⟩ := some_ret hc
    refine holds_of_nilcmp (cx := cxS real tyl [] [] [] 0) (cxS_ok prog_ok.ty allOK_nil) prog_ok.mix Try.func85 (o0 := opC 0 (codeOf Try.f85)) (o1 := opC 1 (codeOf Try.f85)) (o2 := opC 2 (codeOf Try.f85)) (i0 := 0) (i1 := 1) (cnd := cndC (codeOf Try.f85)) (rest := endC (codeOf Try.f85)) (t := 23)
      (by kernel_rfl) (by decide) rfl ⟨by kernel_rfl, by kernel_rfl, by kernel_rfl⟩ ⟨by kernel_rfl, by kernel_rfl, by kernel_rfl⟩ ⟨by kernel_rfl, by kernel_rfl, by kernel_rfl⟩ ⟨50, by kernel_rfl⟩ (smL_sms smL_nil) ?_
    intro b hb
    cases b with
    | true => obtain rfl := hb rfl; kernel_rfl
    | false =>
      clear hb hc
      revert hok
      generalize hg : decide (x0.length ≤ 1073741824) = q
      intro hok
      subst hok
      have h0 : ∀ F : FOps, evC (cxS F tyl [] [] [] 0) 1 (restC (codeOf Try.f85)) ⟨[.at (.sl 0), .at .void, .at .nil, .at (.sl 0), .at (.bool false), .at .void, .at .void, .at .void], [⟨false, .rows [K.f FloatKind.f32, K.f FloatKind.f32, K.f FloatKind.f32] x0⟩]⟩ (fun e st => match e with | .normal => finish (cxS F tyl [] [] [] 0) Try.f85 false 1 st | .ret => finish (cxS F tyl [] [] [] 0) Try.f85 false 1 st | .exit _ => none) = bif decide (x0.length ≤ 1073741824) then some ⟨V.at (A.sl 1), none, [⟨true, OC.rows [K.f FloatKind.f32, K.f FloatKind.f32, K.f FloatKind.f32] x0⟩]⟩ else none := by
        intro F
        kernel_rfl
      rw [hg] at h0
      exact h0 real
  · cases hc
def Pure.impl_changedRow_back (F : FOps) (x0 : List (List Int)) (x1 : Int) : Int := bif Pure.impl_ValidRow F x0 x1 then bif Pure.impl_ValidRow F (Pure.impl_each_c1_back F x0 x1) x1 then x1 else 0 else 0
def Pure.impl_changedRow_back_1 (F : FOps) (x0 : List (List Int)) (x1 : Int) : Bool := bif Pure.impl_ValidRow F x0 x1 then Pure.impl_ValidRow F (Pure.impl_each_c1_back F x0 x1) x1 else false
def Pure.impl_changedRow_back_2 (F : FOps) (x0 : List (List Int)) (x1 : Int) : List (List Int) := bif Pure.impl_ValidRow F x0 x1 then bif Pure.impl_ValidRow F (Pure.impl_each_c1_back F x0 x1) x1 then Pure.impl_each_c1_back F x0 x1 else [] else []
def Pure.impl_changedRow_back_ok (F : FOps) (x0 : List (List Int)) (x1 : Int) : Bool := bif Pure.impl_ValidRow_ok F x0 x1 then bif Pure.impl_ValidRow F x0 x1 then bif Decidable.decide ((List.length x0) ≤ 1073741824) then bif Pure.impl_each_c1_back_ok F x0 x1 then Pure.impl_ValidRow_ok F (Pure.impl_each_c1_back F x0 x1) x1 else false else false else true else false
def c_impl_changedRow_back (F : FOps) : Con
  | [V.agg [A.sl 0, A.fl FloatKind.f32 x1], V.at (A.fn 84 [(1, (0, 0))])], [⟨false, OC.rows [K.f FloatKind.f32, K.f FloatKind.f32, K.f FloatKind.f32] x0⟩, ⟨false, OC.box [A.fn 65 []]⟩] => some (Pure.impl_changedRow_back_ok F x0 x1, ⟨V.tup [(true, [A.sl 2, A.fl FloatKind.f32 (Pure.impl_changedRow_back F x0 x1)]), (false, [A.bool (Pure.impl_changedRow_back_1 F x0 x1)])], none, [⟨true, OC.rows [K.f FloatKind.f32, K.f FloatKind.f32, K.f FloatKind.f32] (Pure.impl_changedRow_back_2 F x0 x1)⟩]⟩)
  | _, _ => none
theorem e_impl_changedRow_back (F : FOps) (x0 : List (List Int)) (x1 : Int) : Pure.impl_changedRow_back_ok F x0 x1 = true → evFn (cxS F tyl [(49, c_impl_ValidRow F), (85, c_slices_Clone_impl_Ball_impl_Ball F), (84, c_impl_each_c1_back F), (65, c_impl_BackRow_c1 F)] [84, 65] [] 0) Try.f66 false [V.agg [A.sl 0, A.fl FloatKind.f32 x1], V.at (A.fn 84 [(1, (0, 0))])] [⟨false, OC.rows [K.f FloatKind.f32, K.f FloatKind.f32, K.f FloatKind.f32] x0⟩, ⟨false, OC.box [A.fn 65 []]⟩] = some ⟨V.tup [(true, [A.sl 2, A.fl FloatKind.f32 (Pure.impl_changedRow_back F x0 x1)]), (false, [A.bool (Pure.impl_changedRow_back_1 F x0 x1)])], none, [⟨true, OC.rows [K.f FloatKind.f32, K.f FloatKind.f32, K.f FloatKind.f32] (Pure.impl_changedRow_back_2 F x0 x1)⟩]⟩ := by
  have h0 : evFn (cxS F tyl [(49, c_impl_ValidRow F), (85, c_slices_Clone_impl_Ball_impl_Ball F), (84, c_impl_each_c1_back F), (65, c_impl_BackRow_c1 F)] [84, 65] [] 0) Try.f66 false [V.agg [A.sl 0, A.fl FloatKind.f32 x1], V.at (A.fn 84 [(1, (0, 0))])] [⟨false, OC.rows [K.f FloatKind.f32, K.f FloatKind.f32, K.f FloatKind.f32] x0⟩, ⟨false, OC.box [A.fn 65 []]⟩] = bif Pure.impl_ValidRow_ok F x0 x1 then bif Bool.not (Pure.impl_ValidRow F x0 x1) then some ⟨V.tup [(true, [A.sl 2, A.fl FloatKind.f32 0]), (false, [A.bool false])], none, [⟨true, OC.rows [K.f FloatKind.f32, K.f FloatKind.f32, K.f FloatKind.f32] []⟩]⟩ else bif Decidable.decide ((List.length x0) ≤ 1073741824) then bif Pure.impl_each_c1_back_ok F x0 x1 then bif Pure.impl_ValidRow_ok F (Pure.impl_each_c1_back F x0 x1) x1 then bif Bool.not (Pure.impl_ValidRow F (Pure.impl_each_c1_back F x0 x1) x1) then some ⟨V.tup [(true, [A.sl 2, A.fl FloatKind.f32 0]), (false, [A.bool false])], none, [⟨true, OC.rows [K.f FloatKind.f32, K.f FloatKind.f32, K.f FloatKind.f32] []⟩]⟩ else some ⟨V.tup [(true, [A.sl 2, A.fl FloatKind.f32 x1]), (false, [A.bool true])], none, [⟨true, OC.rows [K.f FloatKind.f32, K.f FloatKind.f32, K.f FloatKind.f32] (Pure.impl_each_c1_back F x0 x1)⟩]⟩ else none else none else none else none := by kernel_rfl
  rw [h0]
  unfold Pure.impl_changedRow_back Pure.impl_changedRow_back_1 Pure.impl_changedRow_back_2 Pure.impl_changedRow_back_ok
  cases (Pure.impl_ValidRow_ok F x0 x1) with
  | true =>
    cases (Pure.impl_ValidRow F x0 x1) with
    | true =>
      cases (Decidable.decide ((List.length x0) ≤ 1073741824)) with
      | true =>
        cases (Pure.impl_each_c1_back_ok F x0 x1) with
        | true =>
          cases (Pure.impl_ValidRow_ok F (Pure.impl_each_c1_back F x0 x1) x1) with
          | true =>
            cases (Pure.impl_ValidRow F (Pure.impl_each_c1_back F x0 x1) x1) with
            | true =>
              intro _; rfl
            | false =>
              intro _; rfl
          | false =>
            intro h; exact absurd h Bool.false_ne_true
        | false =>
          intro h; exact absurd h Bool.false_ne_true
      | false =>
        intro h; exact absurd h Bool.false_ne_true
    | false =>
      intro _; rfl
  | false =>
    intro h; exact absurd h Bool.false_ne_true
theorem ok_impl_changedRow_back : CallOK Try.prog 66 (c_impl_changedRow_back real) := by
  refine callOK_of fun args h ret hc => ?_
  unfold c_impl_changedRow_back at hc
  split at hc
  · rename_i x1 x0
    obtain ⟨hok, rfl⟩ := some_ret hc
    exact holds_ev prog_ok (allOK_cons ok_impl_ValidRow (allOK_cons ok_slices_Clone_impl_Ball_impl_Ball (allOK_cons ok_impl_each_c1_back (allOK_cons ok_impl_BackRow_c1 allOK_nil)))) Try.func66 rfl rfl smL_nil rfl (e_impl_changedRow_back real x0 x1 hok)
  · cases hc
def Pure.impl_each_back_ok (F : FOps) (x0 : List (List Int)) (x1 : Int) : Bool := Pure.impl_changedRow_back_ok F x0 x1
def c_impl_each_back (F : FOps) : Con
  | [V.agg [A.sl 0, A.fl FloatKind.f32 x1], V.at (A.fn 65 [])], [⟨false, OC.rows [K.f FloatKind.f32, K.f FloatKind.f32, K.f FloatKind.f32] x0⟩] => some (Pure.impl_each_back_ok F x0 x1, ⟨V.tup [(true, [A.sl 1, A.fl FloatKind.f32 (Pure.impl_changedRow_back F x0 x1)]), (false, [A.bool (Pure.impl_changedRow_back_1 F x0 x1)])], none, [⟨true, OC.rows [K.f FloatKind.f32, K.f FloatKind.f32, K.f FloatKind.f32] (Pure.impl_changedRow_back_2 F x0 x1)⟩]⟩)
  | _, _ => none
theorem e_impl_each_back (F : FOps) (x0 : List (List Int)) (x1 : Int) : Pure.impl_each_back_ok F x0 x1 = true → evFn (cxS F tyl [(84, c_impl_each_c1_back F), (66, c_impl_changedRow_back F), (65, c_impl_BackRow_c1 F)] [84, 65] [] 0) Try.f64 false [V.agg [A.sl 0, A.fl FloatKind.f32 x1], V.at (A.fn 65 [])] [⟨false, OC.rows [K.f FloatKind.f32, K.f FloatKind.f32, K.f FloatKind.f32] x0⟩] = some ⟨V.tup [(true, [A.sl 1, A.fl FloatKind.f32 (Pure.impl_changedRow_back F x0 x1)]), (false, [A.bool (Pure.impl_changedRow_back_1 F x0 x1)])], none, [⟨true, OC.rows [K.f FloatKind.f32, K.f FloatKind.f32, K.f FloatKind.f32] (Pure.impl_changedRow_back_2 F x0 x1)⟩]⟩ := by
  have h0 : evFn (cxS F tyl [(84, c_impl_each_c1_back F), (66, c_impl_changedRow_back F), (65, c_impl_BackRow_c1 F)] [84, 65] [] 0) Try.f64 false [V.agg [A.sl 0, A.fl FloatKind.f32 x1], V.at (A.fn 65 [])] [⟨false, OC.rows [K.f FloatKind.f32, K.f FloatKind.f32, K.f FloatKind.f32] x0⟩] = bif Pure.impl_changedRow_back_ok F x0 x1 then some ⟨V.tup [(true, [A.sl 1, A.fl FloatKind.f32 (Pure.impl_changedRow_back F x0 x1)]), (false, [A.bool (Pure.impl_changedRow_back_1 F x0 x1)])], none, [⟨true, OC.rows [K.f FloatKind.f32, K.f FloatKind.f32, K.f FloatKind.f32] (Pure.impl_changedRow_back_2 F x0 x1)⟩]⟩ else none := by kernel_rfl
  rw [h0]
  unfold Pure.impl_each_back_ok
  cases (Pure.impl_changedRow_back_ok F x0 x1) with
  | true =>
    intro _; rfl
  | false =>
    intro h; exact absurd h Bool.false_ne_true
theorem ok_impl_each_back : CallOK Try.prog 64 (c_impl_each_back real) := by
  refine callOK_of fun args h ret hc => ?_
  unfold c_impl_each_back at hc
  split at hc
  · rename_i x1 x0
    obtain ⟨hok, rfl⟩ := some_ret hc
    exact holds_ev prog_ok (allOK_cons ok_impl_each_c1_back (allOK_cons ok_impl_changedRow_back (allOK_cons ok_impl_BackRow_c1 allOK_nil))) Try.func64 rfl rfl smL_nil rfl (e_impl_each_back real x0 x1 hok)
  · cases hc
def Pure.spec_l06Own_ok (F : FOps) (x0 : List (List Int)) (x1 : Int) : Bool := Decidable.decide ((List.length x0) ≤ 1073741824)
def c_spec_l06Own (F : FOps) : Con
  | [V.at (A.ptr 0 0 0)], [⟨false, OC.box [A.sl 1, A.fl FloatKind.f32 x1]⟩, ⟨false, OC.rows [K.f FloatKind.f32, K.f FloatKind.f32, K.f FloatKind.f32] x0⟩] => some (Pure.spec_l06Own_ok F x0 x1, ⟨V.agg [A.sl 2, A.fl FloatKind.f32 x1], none, [⟨true, OC.rows [K.f FloatKind.f32, K.f FloatKind.f32, K.f FloatKind.f32] x0⟩]⟩)
  | _, _ => none
theorem e_spec_l06Own (F : FOps) (x0 : List (List Int)) (x1 : Int) : Pure.spec_l06Own_ok F x0 x1 = true → evFn (cxS F tyl [] [] [] 0) Try.f63 false [V.at (A.ptr 0 0 0)] [⟨false, OC.box [A.sl 1, A.fl FloatKind.f32 x1]⟩, ⟨false, OC.rows [K.f FloatKind.f32, K.f FloatKind.f32, K.f FloatKind.f32] x0⟩] = some ⟨V.agg [A.sl 2, A.fl FloatKind.f32 x1], none, [⟨true, OC.rows [K.f FloatKind.f32, K.f FloatKind.f32, K.f FloatKind.f32] x0⟩]⟩ := by
  have h0 : evFn (cxS F tyl [] [] [] 0) Try.f63 false [V.at (A.ptr 0 0 0)] [⟨false, OC.box [A.sl 1, A.fl FloatKind.f32 x1]⟩, ⟨false, OC.rows [K.f FloatKind.f32, K.f FloatKind.f32, K.f FloatKind.f32] x0⟩] = bif Decidable.decide ((List.length x0) ≤ 1073741824) then some ⟨V.agg [A.sl 2, A.fl FloatKind.f32 x1], none, [⟨true, OC.rows [K.f FloatKind.f32, K.f FloatKind.f32, K.f FloatKind.f32] x0⟩]⟩ else none := by kernel_rfl
  rw [h0]
  unfold Pure.spec_l06Own_ok
  cases (Decidable.decide ((List.length x0) ≤ 1073741824)) with
  | true =>
    intro _; rfl
  | false =>
    intro h; exact absurd h Bool.false_ne_true
theorem ok_spec_l06Own : CallOK Try.prog 63 (c_spec_l06Own real) := by
  refine callOK_of fun args h ret hc => ?_
  unfold c_spec_l06Own at hc
  split at hc
  · rename_i x1 x0
    obtain ⟨hok, rfl⟩ := some_ret hc
    exact holds_ev prog_ok allOK_nil Try.func63 rfl rfl smL_nil rfl (e_spec_l06Own real x0 x1 hok)
  · cases hc
def Pure.spec_BackRow_L0 (F : FOps) (y1 : List (List Int)) (y2 : Int) (y3 : Int) : Nat → Int → (List (List Int)) → (Bool × (List (List Int)))
  | 0, _, _ => (false, [])
  | n + 1, y0, y4 => bif (Decidable.decide (y0 < (Int.ofNat (List.length y4)))) then (bif (Decidable.decide (0 ≤ y0)) then (bif (Decidable.decide (y0 < (Int.ofNat (List.length y4)))) then (bif (Decidable.decide (0 ≤ y0)) then (bif (Decidable.decide (y0 < (Int.ofNat (List.length y4)))) then (Pure.spec_BackRow_L0 F y1 y2 y3 n (IntKind.wrap IntKind.i64 (y0 + 1)) (List.set y4 (Int.toNat y0) (setFrom (List.getD y4 (Int.toNat y0) []) 1 [FOps.neg F FloatKind.f32 (List.getD (List.getD y4 (Int.toNat y0) []) 1 0)]))) else ((false, []))) else ((false, []))) else ((false, []))) else ((false, []))) else ((true, y4))
def R_spec_BackRow_L0 (y1 : List (List Int)) (y2 : Int) (y3 : Int) (r : (Bool × (List (List Int)))) : Bool × Bool × (Ex × List V × List Ob) × (Ex × List V × List Ob) := ((r).1, false, (Ex.normal, [V.at (A.ptr 1 0 0), V.at (A.ptr 2 0 0)], [⟨false, OC.rows [K.f FloatKind.f32, K.f FloatKind.f32, K.f FloatKind.f32] y1⟩, ⟨true, OC.box [A.nil, A.fl FloatKind.f32 y2]⟩, ⟨true, OC.box [A.sl 3, A.fl FloatKind.f32 y3]⟩, ⟨true, OC.rows [K.f FloatKind.f32, K.f FloatKind.f32, K.f FloatKind.f32] (r).2⟩]), (Ex.normal, [V.at (A.ptr 1 0 0), V.at (A.ptr 2 0 0)], [⟨false, OC.rows [K.f FloatKind.f32, K.f FloatKind.f32, K.f FloatKind.f32] y1⟩, ⟨true, OC.box [A.nil, A.fl FloatKind.f32 y2]⟩, ⟨true, OC.box [A.sl 3, A.fl FloatKind.f32 y3]⟩, ⟨true, OC.rows [K.f FloatKind.f32, K.f FloatKind.f32, K.f FloatKind.f32] (r).2⟩]))
def S_spec_BackRow_L0 (F : FOps) : Sm := ⟨[2, 4, 5], [0, 0, 3], [2, 4], fun vals hp => match vals, hp with
  | [V.at (A.ptr 1 0 0), V.at (A.ptr 2 0 0), V.at (A.int IntKind.i64 y0)], [⟨false, OC.rows [K.f FloatKind.f32, K.f FloatKind.f32, K.f FloatKind.f32] y1⟩, ⟨true, OC.box [A.nil, A.fl FloatKind.f32 y2]⟩, ⟨true, OC.box [A.sl 3, A.fl FloatKind.f32 y3]⟩, ⟨true, OC.rows [K.f FloatKind.f32, K.f FloatKind.f32, K.f FloatKind.f32] y4⟩] => some (R_spec_BackRow_L0 y1 y2 y3 (Pure.spec_BackRow_L0 F y1 y2 y3 ((Int.ofNat (List.length y4)) - y0 + 1).toNat y0 y4))
  | _, _ => none⟩
theorem l_spec_BackRow_L0 (F : FOps) (y1 : List (List Int)) (y2 : Int) (y3 : Int) : ∀ (fuel : Nat) (y0 : Int) (y4 : List (List Int)), (Pure.spec_BackRow_L0 F y1 y2 y3 fuel y0 y4).1 = true → loopOf (cxS F tyl [(54, c_spec_l06Is F), (63, c_spec_l06Own F)] [] [] 0) 1 30 0 [2, 4, 5] [0, 0, 3] [2, 4] (loopB 0 (codeOf Try.f33)) fuel [V.at (A.ptr 1 0 0), V.at (A.ptr 2 0 0), V.at (A.int IntKind.i64 y0)] [⟨false, OC.rows [K.f FloatKind.f32, K.f FloatKind.f32, K.f FloatKind.f32] y1⟩, ⟨true, OC.box [A.nil, A.fl FloatKind.f32 y2]⟩, ⟨true, OC.box [A.sl 3, A.fl FloatKind.f32 y3]⟩, ⟨true, OC.rows [K.f FloatKind.f32, K.f FloatKind.f32, K.f FloatKind.f32] y4⟩] = resOf (R_spec_BackRow_L0 y1 y2 y3 (Pure.spec_BackRow_L0 F y1 y2 y3 fuel y0 y4)) := by
  intro fuel
  induction fuel with
  | zero => intro y0 y4 h; exact absurd h Bool.false_ne_true
  | succ n ih =>
    intro y0 y4
    have h0 : roundOf (cxS F tyl [(54, c_spec_l06Is F), (63, c_spec_l06Own F)] [] [] 0) 1 30 0 [2, 4, 5] [0, 0, 3] [2, 4] (loopB 0 (codeOf Try.f33)) [V.at (A.ptr 1 0 0), V.at (A.ptr 2 0 0), V.at (A.int IntKind.i64 y0)] [⟨false, OC.rows [K.f FloatKind.f32, K.f FloatKind.f32, K.f FloatKind.f32] y1⟩, ⟨true, OC.box [A.nil, A.fl FloatKind.f32 y2]⟩, ⟨true, OC.box [A.sl 3, A.fl FloatKind.f32 y3]⟩, ⟨true, OC.rows [K.f FloatKind.f32, K.f FloatKind.f32, K.f FloatKind.f32] y4⟩] = (bif Decidable.decide (y0 < (Int.ofNat (List.length y4))) then bif Decidable.decide (0 ≤ y0) then bif Decidable.decide (y0 < (Int.ofNat (List.length y4))) then bif Decidable.decide (0 ≤ y0) then bif Decidable.decide (y0 < (Int.ofNat (List.length y4))) then some (true, (Ex.normal, ([V.at (A.ptr 1 0 0), V.at (A.ptr 2 0 0), V.at (A.int IntKind.i64 (IntKind.wrap IntKind.i64 (y0 + 1)))], [⟨false, OC.rows [K.f FloatKind.f32, K.f FloatKind.f32, K.f FloatKind.f32] y1⟩, ⟨true, OC.box [A.nil, A.fl FloatKind.f32 y2]⟩, ⟨true, OC.box [A.sl 3, A.fl FloatKind.f32 y3]⟩, ⟨true, OC.rows [K.f FloatKind.f32, K.f FloatKind.f32, K.f FloatKind.f32] (List.set y4 (Int.toNat y0) (setFrom (List.getD y4 (Int.toNat y0) []) 1 [FOps.neg F FloatKind.f32 (List.getD (List.getD y4 (Int.toNat y0) []) 1 0)]))⟩]))) else none else none else none else none else some (false, (Ex.normal, ([V.at (A.ptr 1 0 0), V.at (A.ptr 2 0 0)], [⟨false, OC.rows [K.f FloatKind.f32, K.f FloatKind.f32, K.f FloatKind.f32] y1⟩, ⟨true, OC.box [A.nil, A.fl FloatKind.f32 y2]⟩, ⟨true, OC.box [A.sl 3, A.fl FloatKind.f32 y3]⟩, ⟨true, OC.rows [K.f FloatKind.f32, K.f FloatKind.f32, K.f FloatKind.f32] y4⟩])))) := by kernel_rfl
    unfold loopOf
    rw [h0]
    unfold Pure.spec_BackRow_L0
    cases (Decidable.decide (y0 < (Int.ofNat (List.length y4)))) with
    | true =>
      cases (Decidable.decide (0 ≤ y0)) with
      | true =>
        exact ih _ _
      | false =>
        intro h; exact absurd h Bool.false_ne_true
    | false =>
      intro _; rfl
theorem t_spec_BackRow_L0 : SmTo Try.prog 1 30 (S_spec_BackRow_L0 real) 0 (.loop (loopB 0 (codeOf Try.f33))) := by
  refine smTo_ev (cl := [(54, c_spec_l06Is real), (63, c_spec_l06Own real)]) (ef := []) (sm := []) (un := 0) prog_ok (allOK_cons ok_spec_l06Is (allOK_cons ok_spec_l06Own allOK_nil)) smL_nil ?_
  intro vals hp q r h hq
  unfold S_spec_BackRow_L0 at h
  dsimp only at h
  split at h
  · rename_i y0 y1 y2 y3 y4
    obtain rfl := Option.some.inj h
    have h1 := hq
    unfold resOf at h1
    rw [chk_some] at h1
    exact ⟨_, (l_spec_BackRow_L0 real y1 y2 y3 _ y0 y4 h1.1).trans hq⟩
  · cases h
def Pure.spec_BackRow (F : FOps) (x0 : List (List Int)) (x1 : Int) : Int := bif Pure.spec_l06Is F x0 x1 then x1 else 0
def Pure.spec_BackRow_1 (F : FOps) (x0 : List (List Int)) (x1 : Int) : List (List Int) := bif Pure.spec_l06Is F x0 x1 then Prod.snd (Pure.spec_BackRow_L0 F x0 0 x1 (Nat.succ ((List.length x0) + 0)) 0 x0) else []
def Pure.spec_BackRow_ok (F : FOps) (x0 : List (List Int)) (x1 : Int) : Bool := bif Pure.spec_l06Is_ok F x0 x1 then bif Pure.spec_l06Is F x0 x1 then bif Pure.spec_l06Own_ok F x0 x1 then Prod.fst (Pure.spec_BackRow_L0 F x0 0 x1 (Nat.succ ((List.length x0) + 0)) 0 x0) else false else true else false
def c_spec_BackRow (F : FOps) : Con
  | [V.agg [A.sl 0, A.fl FloatKind.f32 x1]], [⟨false, OC.rows [K.f FloatKind.f32, K.f FloatKind.f32, K.f FloatKind.f32] x0⟩] => some (Pure.spec_BackRow_ok F x0 x1, ⟨V.tup [(true, [A.sl 1, A.fl FloatKind.f32 (Pure.spec_BackRow F x0 x1)]), (false, [A.bool (Pure.spec_l06Is F x0 x1)])], none, [⟨true, OC.rows [K.f FloatKind.f32, K.f FloatKind.f32, K.f FloatKind.f32] (Pure.spec_BackRow_1 F x0 x1)⟩]⟩)
  | _, _ => none
theorem e_spec_BackRow (F : FOps) (x0 : List (List Int)) (x1 : Int) : Pure.spec_BackRow_ok F x0 x1 = true → evFn (cxS F tyl [(54, c_spec_l06Is F), (63, c_spec_l06Own F)] [] [(0, S_spec_BackRow_L0 F)] 0) Try.f33 false [V.agg [A.sl 0, A.fl FloatKind.f32 x1]] [⟨false, OC.rows [K.f FloatKind.f32, K.f FloatKind.f32, K.f FloatKind.f32] x0⟩] = some ⟨V.tup [(true, [A.sl 1, A.fl FloatKind.f32 (Pure.spec_BackRow F x0 x1)]), (false, [A.bool (Pure.spec_l06Is F x0 x1)])], none, [⟨true, OC.rows [K.f FloatKind.f32, K.f FloatKind.f32, K.f FloatKind.f32] (Pure.spec_BackRow_1 F x0 x1)⟩]⟩ := by
  have h0 : evFn (cxS F tyl [(54, c_spec_l06Is F), (63, c_spec_l06Own F)] [] [(0, S_spec_BackRow_L0 F)] 0) Try.f33 false [V.agg [A.sl 0, A.fl FloatKind.f32 x1]] [⟨false, OC.rows [K.f FloatKind.f32, K.f FloatKind.f32, K.f FloatKind.f32] x0⟩] = bif Pure.spec_l06Is_ok F x0 x1 then bif Bool.not (Pure.spec_l06Is F x0 x1) then some ⟨V.tup [(true, [A.sl 1, A.fl FloatKind.f32 0]), (false, [A.bool false])], none, [⟨true, OC.rows [K.f FloatKind.f32, K.f FloatKind.f32, K.f FloatKind.f32] []⟩]⟩ else bif Pure.spec_l06Own_ok F x0 x1 then bif Prod.fst (Pure.spec_BackRow_L0 F x0 0 x1 (Nat.succ ((List.length x0) + 0)) 0 x0) then some ⟨V.tup [(true, [A.sl 1, A.fl FloatKind.f32 x1]), (false, [A.bool true])], none, [⟨true, OC.rows [K.f FloatKind.f32, K.f FloatKind.f32, K.f FloatKind.f32] (Prod.snd (Pure.spec_BackRow_L0 F x0 0 x1 (Nat.succ ((List.length x0) + 0)) 0 x0))⟩]⟩ else none else none else none := by kernel_rfl
  rw [h0]
  unfold Pure.spec_BackRow Pure.spec_BackRow_1 Pure.spec_BackRow_ok
  cases (Pure.spec_l06Is_ok F x0 x1) with
  | true =>
    cases (Pure.spec_l06Is F x0 x1) with
    | true =>
      cases (Pure.spec_l06Own_ok F x0 x1) with
      | true =>
        cases (Prod.fst (Pure.spec_BackRow_L0 F x0 0 x1 (Nat.succ ((List.length x0) + 0)) 0 x0)) with
        | true =>
          intro _; rfl
        | false =>
          intro h; exact absurd h Bool.false_ne_true
      | false =>
        intro h; exact absurd h Bool.false_ne_true
    | false =>
      intro _; rfl
  | false =>
    intro h; exact absurd h Bool.false_ne_true
theorem ok_spec_BackRow : CallOK Try.prog 33 (c_spec_BackRow real) := by
  refine callOK_of fun args h ret hc => ?_
  unfold c_spec_BackRow at hc
  split at hc
  · rename_i x1 x0
    obtain ⟨hok, rfl⟩ := some_ret hc
    exact holds_ev prog_ok (allOK_cons ok_spec_l06Is (allOK_cons ok_spec_l06Own allOK_nil)) Try.func33 rfl rfl (smL_cons (body := .loop (loopB 0 (codeOf Try.f33))) (by kernel_rfl) t_spec_BackRow_L0 smL_nil) rfl (e_spec_BackRow real x0 x1 hok)
  · cases hc
def Pure.impl_BackRow_ok (F : FOps) (x0 : List (List Int)) (x1 : Int) : Bool := Pure.impl_each_back_ok F x0 x1
def c_impl_BackRow (F : FOps) : Con
  | [V.agg [A.sl 0, A.fl FloatKind.f32 x1]], [⟨false, OC.rows [K.f FloatKind.f32, K.f FloatKind.f32, K.f FloatKind.f32] x0⟩] => some (Pure.impl_BackRow_ok F x0 x1, ⟨V.tup [(true, [A.sl 1, A.fl FloatKind.f32 (Pure.impl_changedRow_back F x0 x1)]), (false, [A.bool (Pure.impl_changedRow_back_1 F x0 x1)])], none, [⟨true, OC.rows [K.f FloatKind.f32, K.f FloatKind.f32, K.f FloatKind.f32] (Pure.impl_changedRow_back_2 F x0 x1)⟩]⟩)
  | _, _ => none
theorem e_impl_BackRow (F : FOps) (x0 : List (List Int)) (x1 : Int) : Pure.impl_BackRow_ok F x0 x1 = true → evFn (cxS F tyl [(64, c_impl_each_back F), (65, c_impl_BackRow_c1 F)] [65] [] 0) Try.f34 false [V.agg [A.sl 0, A.fl FloatKind.f32 x1]] [⟨false, OC.rows [K.f FloatKind.f32, K.f FloatKind.f32, K.f FloatKind.f32] x0⟩] = some ⟨V.tup [(true, [A.sl 1, A.fl FloatKind.f32 (Pure.impl_changedRow_back F x0 x1)]), (false, [A.bool (Pure.impl_changedRow_back_1 F x0 x1)])], none, [⟨true, OC.rows [K.f FloatKind.f32, K.f FloatKind.f32, K.f FloatKind.f32] (Pure.impl_changedRow_back_2 F x0 x1)⟩]⟩ := by
  have h0 : evFn (cxS F tyl [(64, c_impl_each_back F), (65, c_impl_BackRow_c1 F)] [65] [] 0) Try.f34 false [V.agg [A.sl 0, A.fl FloatKind.f32 x1]] [⟨false, OC.rows [K.f FloatKind.f32, K.f FloatKind.f32, K.f FloatKind.f32] x0⟩] = bif Pure.impl_each_back_ok F x0 x1 then some ⟨V.tup [(true, [A.sl 1, A.fl FloatKind.f32 (Pure.impl_changedRow_back F x0 x1)]), (false, [A.bool (Pure.impl_changedRow_back_1 F x0 x1)])], none, [⟨true, OC.rows [K.f FloatKind.f32, K.f FloatKind.f32, K.f FloatKind.f32] (Pure.impl_changedRow_back_2 F x0 x1)⟩]⟩ else none := by kernel_rfl
  rw [h0]
  unfold Pure.impl_BackRow_ok
  cases (Pure.impl_each_back_ok F x0 x1) with
  | true =>
    intro _; rfl
  | false =>
    intro h; exact absurd h Bool.false_ne_true
theorem ok_impl_BackRow : CallOK Try.prog 34 (c_impl_BackRow real) := by
  refine callOK_of fun args h ret hc => ?_
  unfold c_impl_BackRow at hc
  split at hc
  · rename_i x1 x0
    obtain ⟨hok, rfl⟩ := some_ret hc
    exact holds_ev prog_ok (allOK_cons ok_impl_each_back (allOK_cons ok_impl_BackRow_c1 allOK_nil)) Try.func34 rfl rfl smL_nil rfl (e_impl_BackRow real x0 x1 hok)
  · cases hc
def Pure.laws_heldBallS_L0 (F : FOps) (y2 : List (List Int)) : Nat → Int → Int → (Bool × Bool × Int × Int)
  | 0, _, _ => (false, false, 0, 0)
  | n + 1, y0, y1 => bif (Decidable.decide (y1 < (Int.ofNat (List.length y2)))) then (bif (Decidable.decide (0 ≤ y1)) then (bif (Decidable.decide (y1 < (Int.ofNat (List.length y2)))) then (bif (FOps.cmp F BinOp.neq FloatKind.f32 (List.getD (List.getD y2 (Int.toNat y1) []) 0 0) (FOps.ofInt F FloatKind.f32 y0)) then ((true, true, 0, y0)) else (bif (Decidable.decide (0 ≤ y1)) then (bif (Decidable.decide (y1 < (Int.ofNat (List.length y2)))) then (bif (FOps.cmp F BinOp.neq FloatKind.f32 (List.getD (List.getD y2 (Int.toNat y1) []) 1 0) (FOps.ofInt F FloatKind.f32 (IntKind.wrap IntKind.i64 (y0 + 1)))) then ((true, true, 0, IntKind.wrap IntKind.i64 (y0 + 1))) else (bif (Decidable.decide (0 ≤ y1)) then (bif (Decidable.decide (y1 < (Int.ofNat (List.length y2)))) then (bif (FOps.cmp F BinOp.neq FloatKind.f32 (List.getD (List.getD y2 (Int.toNat y1) []) 2 0) (FOps.ofInt F FloatKind.f32 (IntKind.wrap IntKind.i64 ((IntKind.wrap IntKind.i64 (y0 + 1)) + 1)))) then ((true, true, 0, IntKind.wrap IntKind.i64 ((IntKind.wrap IntKind.i64 (y0 + 1)) + 1))) else (Pure.laws_heldBallS_L0 F y2 n (IntKind.wrap IntKind.i64 ((IntKind.wrap IntKind.i64 ((IntKind.wrap IntKind.i64 (y0 + 1)) + 1)) + 1)) (IntKind.wrap IntKind.i64 (y1 + 1)))) else ((false, false, 0, 0))) else ((false, false, 0, 0)))) else ((false, false, 0, 0))) else ((false, false, 0, 0)))) else ((false, false, 0, 0))) else ((false, false, 0, 0))) else ((true, false, y0, 0))
def R_laws_heldBallS_L0 (y2 : List (List Int)) (r : (Bool × Bool × Int × Int)) : Bool × Bool × (Ex × List V × List Ob) × (Ex × List V × List Ob) := ((r).1, (r).2.1, (Ex.normal, [V.at (A.int IntKind.i64 (r).2.2.1), V.at A.undef], [⟨false, OC.rows [K.f FloatKind.f32, K.f FloatKind.f32, K.f FloatKind.f32] y2⟩]), (Ex.ret, [V.at (A.int IntKind.i64 (r).2.2.2), V.at (A.int IntKind.i64 (-1))], [⟨false, OC.rows [K.f FloatKind.f32, K.f FloatKind.f32, K.f FloatKind.f32] y2⟩]))
def S_laws_heldBallS_L0 (F : FOps) : Sm := ⟨[0, 1, 5], [23, 3, 3], [1, 4], fun vals hp => match vals, hp with
  | [V.at (A.sl 0), V.at (A.int IntKind.i64 y0), V.at (A.int IntKind.i64 y1)], [⟨false, OC.rows [K.f FloatKind.f32, K.f FloatKind.f32, K.f FloatKind.f32] y2⟩] => some (R_laws_heldBallS_L0 y2 (Pure.laws_heldBallS_L0 F y2 ((Int.ofNat (List.length y2)) - y1 + 1).toNat y0 y1))
  | _, _ => none⟩
theorem l_laws_heldBallS_L0 (F : FOps) (y2 : List (List Int)) : ∀ (fuel : Nat) (y0 : Int) (y1 : Int), (Pure.laws_heldBallS_L0 F y2 fuel y0 y1).1 = true → loopOf (cxS F tyl [] [] [] 0) 1 43 0 [0, 1, 5] [23, 3, 3] [1, 4] (loopB 0 (codeOf Try.f52)) fuel [V.at (A.sl 0), V.at (A.int IntKind.i64 y0), V.at (A.int IntKind.i64 y1)] [⟨false, OC.rows [K.f FloatKind.f32, K.f FloatKind.f32, K.f FloatKind.f32] y2⟩] = resOf (R_laws_heldBallS_L0 y2 (Pure.laws_heldBallS_L0 F y2 fuel y0 y1)) := by
  intro fuel
  induction fuel with
  | zero => intro y0 y1 h; exact absurd h Bool.false_ne_true
  | succ n ih =>
    intro y0 y1
    have h0 : roundOf (cxS F tyl [] [] [] 0) 1 43 0 [0, 1, 5] [23, 3, 3] [1, 4] (loopB 0 (codeOf Try.f52)) [V.at (A.sl 0), V.at (A.int IntKind.i64 y0), V.at (A.int IntKind.i64 y1)] [⟨false, OC.rows [K.f FloatKind.f32, K.f FloatKind.f32, K.f FloatKind.f32] y2⟩] = (bif Decidable.decide (y1 < (Int.ofNat (List.length y2))) then bif Decidable.decide (0 ≤ y1) then bif Decidable.decide (y1 < (Int.ofNat (List.length y2))) then bif FOps.cmp F BinOp.neq FloatKind.f32 (List.getD (List.getD y2 (Int.toNat y1) []) 0 0) (FOps.ofInt F FloatKind.f32 y0) then some (false, (Ex.ret, ([V.at (A.int IntKind.i64 y0), V.at (A.int IntKind.i64 (-1))], [⟨false, OC.rows [K.f FloatKind.f32, K.f FloatKind.f32, K.f FloatKind.f32] y2⟩]))) else bif Decidable.decide (0 ≤ y1) then bif Decidable.decide (y1 < (Int.ofNat (List.length y2))) then bif FOps.cmp F BinOp.neq FloatKind.f32 (List.getD (List.getD y2 (Int.toNat y1) []) 1 0) (FOps.ofInt F FloatKind.f32 (IntKind.wrap IntKind.i64 (y0 + 1))) then some (false, (Ex.ret, ([V.at (A.int IntKind.i64 (IntKind.wrap IntKind.i64 (y0 + 1))), V.at (A.int IntKind.i64 (-1))], [⟨false, OC.rows [K.f FloatKind.f32, K.f FloatKind.f32, K.f FloatKind.f32] y2⟩]))) else bif Decidable.decide (0 ≤ y1) then bif Decidable.decide (y1 < (Int.ofNat (List.length y2))) then bif FOps.cmp F BinOp.neq FloatKind.f32 (List.getD (List.getD y2 (Int.toNat y1) []) 2 0) (FOps.ofInt F FloatKind.f32 (IntKind.wrap IntKind.i64 ((IntKind.wrap IntKind.i64 (y0 + 1)) + 1))) then some (false, (Ex.ret, ([V.at (A.int IntKind.i64 (IntKind.wrap IntKind.i64 ((IntKind.wrap IntKind.i64 (y0 + 1)) + 1))), V.at (A.int IntKind.i64 (-1))], [⟨false, OC.rows [K.f FloatKind.f32, K.f FloatKind.f32, K.f FloatKind.f32] y2⟩]))) else some (true, (Ex.normal, ([V.at (A.sl 0), V.at (A.int IntKind.i64 (IntKind.wrap IntKind.i64 ((IntKind.wrap IntKind.i64 ((IntKind.wrap IntKind.i64 (y0 + 1)) + 1)) + 1))), V.at (A.int IntKind.i64 (IntKind.wrap IntKind.i64 (y1 + 1)))], [⟨false, OC.rows [K.f FloatKind.f32, K.f FloatKind.f32, K.f FloatKind.f32] y2⟩]))) else none else none else none else none else none else none else some (false, (Ex.normal, ([V.at (A.int IntKind.i64 y0), V.at A.undef], [⟨false, OC.rows [K.f FloatKind.f32, K.f FloatKind.f32, K.f FloatKind.f32] y2⟩])))) := by kernel_rfl
    unfold loopOf
    rw [h0]
    unfold Pure.laws_heldBallS_L0
    cases (Decidable.decide (y1 < (Int.ofNat (List.length y2)))) with
    | true =>
      cases (Decidable.decide (0 ≤ y1)) with
      | true =>
        cases (FOps.cmp F BinOp.neq FloatKind.f32 (List.getD (List.getD y2 (Int.toNat y1) []) 0 0) (FOps.ofInt F FloatKind.f32 y0)) with
        | true =>
          intro _; rfl
        | false =>
          cases (FOps.cmp F BinOp.neq FloatKind.f32 (List.getD (List.getD y2 (Int.toNat y1) []) 1 0) (FOps.ofInt F FloatKind.f32 (IntKind.wrap IntKind.i64 (y0 + 1)))) with
          | true =>
            intro _; rfl
          | false =>
            cases (FOps.cmp F BinOp.neq FloatKind.f32 (List.getD (List.getD y2 (Int.toNat y1) []) 2 0) (FOps.ofInt F FloatKind.f32 (IntKind.wrap IntKind.i64 ((IntKind.wrap IntKind.i64 (y0 + 1)) + 1)))) with
            | true =>
              intro _; rfl
            | false =>
              exact ih _ _
      | false =>
        intro h; exact absurd h Bool.false_ne_true
    | false =>
      intro _; rfl
theorem t_laws_heldBallS_L0 : SmTo Try.prog 1 43 (S_laws_heldBallS_L0 real) 0 (.loop (loopB 0 (codeOf Try.f52))) := by
  refine smTo_ev (cl := []) (ef := []) (sm := []) (un := 0) prog_ok allOK_nil smL_nil ?_
  intro vals hp q r h hq
  unfold S_laws_heldBallS_L0 at h
  dsimp only at h
  split at h
  · rename_i y0 y1 y2
    obtain rfl := Option.some.inj h
    have h1 := hq
    unfold resOf at h1
    rw [chk_some] at h1
    exact ⟨_, (l_laws_heldBallS_L0 real y2 _ y0 y1 h1.1).trans hq⟩
  · cases h
def Pure.laws_heldBallS (F : FOps) (x0 : List (List Int)) (x1 : Int) : Int := bif Prod.fst (Prod.snd (Pure.laws_heldBallS_L0 F x0 (Nat.succ ((List.length x0) + 0)) x1 0)) then (-1) else Prod.fst (Prod.snd (Prod.snd (Pure.laws_heldBallS_L0 F x0 (Nat.succ ((List.length x0) + 0)) x1 0)))
def Pure.laws_heldBallS_ok (F : FOps) (x0 : List (List Int)) (x1 : Int) : Bool := Prod.fst (Pure.laws_heldBallS_L0 F x0 (Nat.succ ((List.length x0) + 0)) x1 0)
def c_laws_heldBallS (F : FOps) : Con
  | [V.at (A.sl 0), V.at (A.int IntKind.i64 x1)], [⟨false, OC.rows [K.f FloatKind.f32, K.f FloatKind.f32, K.f FloatKind.f32] x0⟩] => some (Pure.laws_heldBallS_ok F x0 x1, ⟨V.at (A.int IntKind.i64 (Pure.laws_heldBallS F x0 x1)), none, []⟩)
  | _, _ => none
theorem e_laws_heldBallS (F : FOps) (x0 : List (List Int)) (x1 : Int) : Pure.laws_heldBallS_ok F x0 x1 = true → evFn (cxS F tyl [] [] [(0, S_laws_heldBallS_L0 F)] 0) Try.f52 false [V.at (A.sl 0), V.at (A.int IntKind.i64 x1)] [⟨false, OC.rows [K.f FloatKind.f32, K.f FloatKind.f32, K.f FloatKind.f32] x0⟩] = some ⟨V.at (A.int IntKind.i64 (Pure.laws_heldBallS F x0 x1)), none, []⟩ := by
  have h0 : evFn (cxS F tyl [] [] [(0, S_laws_heldBallS_L0 F)] 0) Try.f52 false [V.at (A.sl 0), V.at (A.int IntKind.i64 x1)] [⟨false, OC.rows [K.f FloatKind.f32, K.f FloatKind.f32, K.f FloatKind.f32] x0⟩] = bif Prod.fst (Pure.laws_heldBallS_L0 F x0 (Nat.succ ((List.length x0) + 0)) x1 0) then bif Prod.fst (Prod.snd (Pure.laws_heldBallS_L0 F x0 (Nat.succ ((List.length x0) + 0)) x1 0)) then some ⟨V.at (A.int IntKind.i64 (-1)), none, []⟩ else some ⟨V.at (A.int IntKind.i64 (Prod.fst (Prod.snd (Prod.snd (Pure.laws_heldBallS_L0 F x0 (Nat.succ ((List.length x0) + 0)) x1 0))))), none, []⟩ else none := by kernel_rfl
  rw [h0]
  unfold Pure.laws_heldBallS Pure.laws_heldBallS_ok
  cases (Prod.fst (Pure.laws_heldBallS_L0 F x0 (Nat.succ ((List.length x0) + 0)) x1 0)) with
  | true =>
    cases (Prod.fst (Prod.snd (Pure.laws_heldBallS_L0 F x0 (Nat.succ ((List.length x0) + 0)) x1 0))) with
    | true =>
      intro _; rfl
    | false =>
      intro _; rfl
  | false =>
    intro h; exact absurd h Bool.false_ne_true
theorem ok_laws_heldBallS : CallOK Try.prog 52 (c_laws_heldBallS real) := by
  refine callOK_of fun args h ret hc => ?_
  unfold c_laws_heldBallS at hc
  split at hc
  · rename_i x1 x0
    obtain ⟨hok, rfl⟩ := some_ret hc
    exact holds_ev prog_ok allOK_nil Try.func52 rfl rfl (smL_cons (body := .loop (loopB 0 (codeOf Try.f52))) (by kernel_rfl) t_laws_heldBallS_L0 smL_nil) rfl (e_laws_heldBallS real x0 x1 hok)
  · cases hc
def Pure.laws_heldRow (F : FOps) (x0 : List (List Int)) (x1 : Int) (x2 : Int) : Int := bif Decidable.decide ((Pure.laws_heldBallS F x0 x2) < 0) then (-1) else Pure.laws_heldBallS F x0 x2
def Pure.laws_heldRow_ok (F : FOps) (x0 : List (List Int)) (x1 : Int) (x2 : Int) : Bool := Pure.laws_heldBallS_ok F x0 x2
def c_laws_heldRow (F : FOps) : Con
  | [V.agg [A.sl 0, A.fl FloatKind.f32 x1], V.at (A.int IntKind.i64 x2)], [⟨false, OC.rows [K.f FloatKind.f32, K.f FloatKind.f32, K.f FloatKind.f32] x0⟩] => some (Pure.laws_heldRow_ok F x0 x1 x2, ⟨V.at (A.int IntKind.i64 (Pure.laws_heldRow F x0 x1 x2)), none, []⟩)
  | _, _ => none
theorem e_laws_heldRow (F : FOps) (x0 : List (List Int)) (x1 : Int) (x2 : Int) : Pure.laws_heldRow_ok F x0 x1 x2 = true → evFn (cxS F tyl [(52, c_laws_heldBallS F)] [] [] 0) Try.f18 false [V.agg [A.sl 0, A.fl FloatKind.f32 x1], V.at (A.int IntKind.i64 x2)] [⟨false, OC.rows [K.f FloatKind.f32, K.f FloatKind.f32, K.f FloatKind.f32] x0⟩] = some ⟨V.at (A.int IntKind.i64 (Pure.laws_heldRow F x0 x1 x2)), none, []⟩ := by
  have h0 : evFn (cxS F tyl [(52, c_laws_heldBallS F)] [] [] 0) Try.f18 false [V.agg [A.sl 0, A.fl FloatKind.f32 x1], V.at (A.int IntKind.i64 x2)] [⟨false, OC.rows [K.f FloatKind.f32, K.f FloatKind.f32, K.f FloatKind.f32] x0⟩] = bif Pure.laws_heldBallS_ok F x0 x2 then bif Decidable.decide ((Pure.laws_heldBallS F x0 x2) < 0) then some ⟨V.at (A.int IntKind.i64 (-1)), none, []⟩ else some ⟨V.at (A.int IntKind.i64 (Pure.laws_heldBallS F x0 x2)), none, []⟩ else none := by kernel_rfl
  rw [h0]
  unfold Pure.laws_heldRow Pure.laws_heldRow_ok
  cases (Pure.laws_heldBallS_ok F x0 x2) with
  | true =>
    cases (Decidable.decide ((Pure.laws_heldBallS F x0 x2) < 0)) with
    | true =>
      intro _; rfl
    | false =>
      intro _; rfl
  | false =>
    intro h; exact absurd h Bool.false_ne_true
theorem ok_laws_heldRow : CallOK Try.prog 18 (c_laws_heldRow real) := by
  refine callOK_of fun args h ret hc => ?_
  unfold c_laws_heldRow at hc
  split at hc
  · rename_i x1 x2 x0
    obtain ⟨hok, rfl⟩ := some_ret hc
    exact holds_ev prog_ok (allOK_cons ok_laws_heldBallS allOK_nil) Try.func18 rfl rfl smL_nil rfl (e_laws_heldRow real x0 x1 x2 hok)
  · cases hc
def Pure.laws_FnExactBackRow (F : FOps) (x0 : List (List Int)) (x1 : Int) : Bool := bif Decidable.decide ((Pure.laws_szRow F x0 x1 1048576) < 0) then true else bif Pure.laws_eqRow F (Pure.impl_changedRow_back_2 F (Pure.laws_toBallS F x0) x1) (Pure.impl_changedRow_back F (Pure.laws_toBallS F x0) x1) (Pure.spec_BackRow_1 F (Pure.laws_toBallS F x0) x1) (Pure.spec_BackRow F (Pure.laws_toBallS F x0) x1) then bif (Pure.impl_changedRow_back_1 F (Pure.laws_toBallS F x0) x1) == (Pure.spec_l06Is F (Pure.laws_toBallS F x0) x1) then bif Pure.laws_eqRow F (Pure.laws_toBallS F x0) x1 (Pure.laws_toBallS F x0) x1 then bif Decidable.decide ((Pure.laws_markBallS F (Pure.laws_toBallS F x0) 1) < 0) then false else bif Decidable.decide ((Pure.laws_heldRow F (Pure.laws_markBallS_1 F (Pure.impl_changedRow_back_2 F (Pure.laws_toBallS F x0) x1) 1) (Pure.impl_changedRow_back F (Pure.laws_toBallS F x0) x1) 1) < 0) then false else bif (Pure.laws_heldRow F (Pure.laws_markBallS_1 F (Pure.impl_changedRow_back_2 F (Pure.laws_toBallS F x0) x1) 1) (Pure.impl_changedRow_back F (Pure.laws_toBallS F x0) x1) 1) != (Pure.laws_markBallS F (Pure.impl_changedRow_back_2 F (Pure.laws_toBallS F x0) x1) 1) then false else true else false else false else false
def Pure.laws_FnExactBackRow_ok (F : FOps) (x0 : List (List Int)) (x1 : Int) : Bool := bif Decidable.decide ((Pure.laws_szRow F x0 x1 1048576) < 0) then true else bif Pure.laws_toRow_ok F x0 x1 then bif Pure.spec_BackRow_ok F (Pure.laws_toBallS F x0) x1 then bif Pure.impl_BackRow_ok F (Pure.laws_toBallS F x0) x1 then bif Pure.laws_eqRow_ok F (Pure.impl_changedRow_back_2 F (Pure.laws_toBallS F x0) x1) (Pure.impl_changedRow_back F (Pure.laws_toBallS F x0) x1) (Pure.spec_BackRow_1 F (Pure.laws_toBallS F x0) x1) (Pure.spec_BackRow F (Pure.laws_toBallS F x0) x1) then bif Pure.laws_eqRow F (Pure.impl_changedRow_back_2 F (Pure.laws_toBallS F x0) x1) (Pure.impl_changedRow_back F (Pure.laws_toBallS F x0) x1) (Pure.spec_BackRow_1 F (Pure.laws_toBallS F x0) x1) (Pure.spec_BackRow F (Pure.laws_toBallS F x0) x1) then bif (Pure.impl_changedRow_back_1 F (Pure.laws_toBallS F x0) x1) == (Pure.spec_l06Is F (Pure.laws_toBallS F x0) x1) then bif Pure.laws_eqRow_ok F (Pure.laws_toBallS F x0) x1 (Pure.laws_toBallS F x0) x1 then bif Pure.laws_eqRow F (Pure.laws_toBallS F x0) x1 (Pure.laws_toBallS F x0) x1 then bif Pure.laws_markRow_ok F (Pure.laws_toBallS F x0) x1 1 then bif Decidable.decide ((Pure.laws_markBallS F (Pure.laws_toBallS F x0) 1) < 0) then true else bif Pure.laws_markRow_ok F (Pure.impl_changedRow_back_2 F (Pure.laws_toBallS F x0) x1) (Pure.impl_changedRow_back F (Pure.laws_toBallS F x0) x1) 1 then Pure.laws_heldRow_ok F (Pure.laws_markBallS_1 F (Pure.impl_changedRow_back_2 F (Pure.laws_toBallS F x0) x1) 1) (Pure.impl_changedRow_back F (Pure.laws_toBallS F x0) x1) 1 else false else false else true else false else true else true else false else false else false else false
def c_laws_FnExactBackRow (F : FOps) : Con
  | [V.agg [A.sl 0, A.fl FloatKind.f32 x1]], [⟨false, OC.rows [K.f FloatKind.f32, K.f FloatKind.f32, K.f FloatKind.f32] x0⟩] => some (Pure.laws_FnExactBackRow_ok F x0 x1, ⟨V.at (A.bool (Pure.laws_FnExactBackRow F x0 x1)), none, []⟩)
  | _, _ => none
theorem e_laws_FnExactBackRow (F : FOps) (x0 : List (List Int)) (x1 : Int) : Pure.laws_FnExactBackRow_ok F x0 x1 = true → evFn (cxS F tyl [(19, c_laws_szRow F), (21, c_laws_toRow F), (33, c_spec_BackRow F), (34, c_impl_BackRow F), (16, c_laws_eqRow F), (17, c_laws_markRow F), (18, c_laws_heldRow F)] [17] [] 0) Try.f8 false [V.agg [A.sl 0, A.fl FloatKind.f32 x1]] [⟨false, OC.rows [K.f FloatKind.f32, K.f FloatKind.f32, K.f FloatKind.f32] x0⟩] = some ⟨V.at (A.bool (Pure.laws_FnExactBackRow F x0 x1)), none, []⟩ := by
  have h0 : evFn (cxS F tyl [(19, c_laws_szRow F), (21, c_laws_toRow F), (33, c_spec_BackRow F), (34, c_impl_BackRow F), (16, c_laws_eqRow F), (17, c_laws_markRow F), (18, c_laws_heldRow F)] [17] [] 0) Try.f8 false [V.agg [A.sl 0, A.fl FloatKind.f32 x1]] [⟨false, OC.rows [K.f FloatKind.f32, K.f FloatKind.f32, K.f FloatKind.f32] x0⟩] = bif Decidable.decide ((Pure.laws_szRow F x0 x1 1048576) < 0) then some ⟨V.at (A.bool true), none, []⟩ else bif Pure.laws_toRow_ok F x0 x1 then bif Pure.spec_BackRow_ok F (Pure.laws_toBallS F x0) x1 then bif Pure.laws_toRow_ok F x0 x1 then bif Pure.impl_BackRow_ok F (Pure.laws_toBallS F x0) x1 then bif Pure.laws_eqRow_ok F (Pure.impl_changedRow_back_2 F (Pure.laws_toBallS F x0) x1) (Pure.impl_changedRow_back F (Pure.laws_toBallS F x0) x1) (Pure.spec_BackRow_1 F (Pure.laws_toBallS F x0) x1) (Pure.spec_BackRow F (Pure.laws_toBallS F x0) x1) then bif Bool.not (Pure.laws_eqRow F (Pure.impl_changedRow_back_2 F (Pure.laws_toBallS F x0) x1) (Pure.impl_changedRow_back F (Pure.laws_toBallS F x0) x1) (Pure.spec_BackRow_1 F (Pure.laws_toBallS F x0) x1) (Pure.spec_BackRow F (Pure.laws_toBallS F x0) x1)) then some ⟨V.at (A.bool false), none, []⟩ else bif Bool.not ((Pure.impl_changedRow_back_1 F (Pure.laws_toBallS F x0) x1) == (Pure.spec_l06Is F (Pure.laws_toBallS F x0) x1)) then some ⟨V.at (A.bool false), none, []⟩ else bif Pure.laws_toRow_ok F x0 x1 then bif Pure.laws_eqRow_ok F (Pure.laws_toBallS F x0) x1 (Pure.laws_toBallS F x0) x1 then bif Bool.not (Pure.laws_eqRow F (Pure.laws_toBallS F x0) x1 (Pure.laws_toBallS F x0) x1) then some ⟨V.at (A.bool false), none, []⟩ else bif Pure.laws_markRow_ok F (Pure.laws_toBallS F x0) x1 1 then bif Decidable.decide ((Pure.laws_markBallS F (Pure.laws_toBallS F x0) 1) < 0) then some ⟨V.at (A.bool false), none, []⟩ else bif Pure.laws_eqRow_ok F (Pure.impl_changedRow_back_2 F (Pure.laws_toBallS F x0) x1) (Pure.impl_changedRow_back F (Pure.laws_toBallS F x0) x1) (Pure.spec_BackRow_1 F (Pure.laws_toBallS F x0) x1) (Pure.spec_BackRow F (Pure.laws_toBallS F x0) x1) then bif Bool.not (Pure.laws_eqRow F (Pure.impl_changedRow_back_2 F (Pure.laws_toBallS F x0) x1) (Pure.impl_changedRow_back F (Pure.laws_toBallS F x0) x1) (Pure.spec_BackRow_1 F (Pure.laws_toBallS F x0) x1) (Pure.spec_BackRow F (Pure.laws_toBallS F x0) x1)) then some ⟨V.at (A.bool false), none, []⟩ else bif Bool.not ((Pure.impl_changedRow_back_1 F (Pure.laws_toBallS F x0) x1) == (Pure.spec_l06Is F (Pure.laws_toBallS F x0) x1)) then some ⟨V.at (A.bool false), none, []⟩ else bif Pure.laws_markRow_ok F (Pure.impl_changedRow_back_2 F (Pure.laws_toBallS F x0) x1) (Pure.impl_changedRow_back F (Pure.laws_toBallS F x0) x1) 1 then bif Pure.laws_heldRow_ok F (Pure.laws_markBallS_1 F (Pure.impl_changedRow_back_2 F (Pure.laws_toBallS F x0) x1) 1) (Pure.impl_changedRow_back F (Pure.laws_toBallS F x0) x1) 1 then bif Decidable.decide ((Pure.laws_heldRow F (Pure.laws_markBallS_1 F (Pure.impl_changedRow_back_2 F (Pure.laws_toBallS F x0) x1) 1) (Pure.impl_changedRow_back F (Pure.laws_toBallS F x0) x1) 1) < 0) then some ⟨V.at (A.bool false), none, []⟩ else bif (Pure.laws_heldRow F (Pure.laws_markBallS_1 F (Pure.impl_changedRow_back_2 F (Pure.laws_toBallS F x0) x1) 1) (Pure.impl_changedRow_back F (Pure.laws_toBallS F x0) x1) 1) != (Pure.laws_markBallS F (Pure.impl_changedRow_back_2 F (Pure.laws_toBallS F x0) x1) 1) then some ⟨V.at (A.bool false), none, []⟩ else bif Pure.laws_toRow_ok F x0 x1 then bif Pure.impl_BackRow_ok F (Pure.laws_toBallS F x0) x1 then bif Pure.laws_eqRow_ok F (Pure.impl_changedRow_back_2 F (Pure.laws_toBallS F x0) x1) (Pure.impl_changedRow_back F (Pure.laws_toBallS F x0) x1) (Pure.spec_BackRow_1 F (Pure.laws_toBallS F x0) x1) (Pure.spec_BackRow F (Pure.laws_toBallS F x0) x1) then bif Bool.not (Pure.laws_eqRow F (Pure.impl_changedRow_back_2 F (Pure.laws_toBallS F x0) x1) (Pure.impl_changedRow_back F (Pure.laws_toBallS F x0) x1) (Pure.spec_BackRow_1 F (Pure.laws_toBallS F x0) x1) (Pure.spec_BackRow F (Pure.laws_toBallS F x0) x1)) then some ⟨V.at (A.bool false), none, []⟩ else bif Bool.not ((Pure.impl_changedRow_back_1 F (Pure.laws_toBallS F x0) x1) == (Pure.spec_l06Is F (Pure.laws_toBallS F x0) x1)) then some ⟨V.at (A.bool false), none, []⟩ else bif Pure.laws_heldRow_ok F (Pure.laws_markBallS_1 F (Pure.impl_changedRow_back_2 F (Pure.laws_toBallS F x0) x1) 1) (Pure.impl_changedRow_back F (Pure.laws_toBallS F x0) x1) 1 then bif Decidable.decide ((Pure.laws_heldRow F (Pure.laws_markBallS_1 F (Pure.impl_changedRow_back_2 F (Pure.laws_toBallS F x0) x1) 1) (Pure.impl_changedRow_back F (Pure.laws_toBallS F x0) x1) 1) < 0) then some ⟨V.at (A.bool false), none, []⟩ else bif (Pure.laws_heldRow F (Pure.laws_markBallS_1 F (Pure.impl_changedRow_back_2 F (Pure.laws_toBallS F x0) x1) 1) (Pure.impl_changedRow_back F (Pure.laws_toBallS F x0) x1) 1) != (Pure.laws_markBallS F (Pure.impl_changedRow_back_2 F (Pure.laws_toBallS F x0) x1) 1) then some ⟨V.at (A.bool false), none, []⟩ else some ⟨V.at (A.bool true), none, []⟩ else none else none else none else none else none else none else none else none else none else none else none else none else none else none else none := by kernel_rfl
  rw [h0]
  unfold Pure.laws_FnExactBackRow Pure.laws_FnExactBackRow_ok
  cases (Decidable.decide ((Pure.laws_szRow F x0 x1 1048576) < 0)) with
  | true =>
    intro _; rfl
  | false =>
    cases (Pure.laws_toRow_ok F x0 x1) with
    | true =>
      cases (Pure.spec_BackRow_ok F (Pure.laws_toBallS F x0) x1) with
      | true =>
        cases (Pure.impl_BackRow_ok F (Pure.laws_toBallS F x0) x1) with
        | true =>
          cases (Pure.laws_eqRow_ok F (Pure.impl_changedRow_back_2 F (Pure.laws_toBallS F x0) x1) (Pure.impl_changedRow_back F (Pure.laws_toBallS F x0) x1) (Pure.spec_BackRow_1 F (Pure.laws_toBallS F x0) x1) (Pure.spec_BackRow F (Pure.laws_toBallS F x0) x1)) with
          | true =>
            cases (Pure.laws_eqRow F (Pure.impl_changedRow_back_2 F (Pure.laws_toBallS F x0) x1) (Pure.impl_changedRow_back F (Pure.laws_toBallS F x0) x1) (Pure.spec_BackRow_1 F (Pure.laws_toBallS F x0) x1) (Pure.spec_BackRow F (Pure.laws_toBallS F x0) x1)) with
            | true =>
              cases ((Pure.impl_changedRow_back_1 F (Pure.laws_toBallS F x0) x1) == (Pure.spec_l06Is F (Pure.laws_toBallS F x0) x1)) with
              | true =>
                cases (Pure.laws_eqRow_ok F (Pure.laws_toBallS F x0) x1 (Pure.laws_toBallS F x0) x1) with
                | true =>
                  cases (Pure.laws_eqRow F (Pure.laws_toBallS F x0) x1 (Pure.laws_toBallS F x0) x1) with
                  | true =>
                    cases (Pure.laws_markRow_ok F (Pure.laws_toBallS F x0) x1 1) with
                    | true =>
                      cases (Decidable.decide ((Pure.laws_markBallS F (Pure.laws_toBallS F x0) 1) < 0)) with
                      | true =>
                        intro _; rfl
                      | false =>
                        cases (Pure.laws_markRow_ok F (Pure.impl_changedRow_back_2 F (Pure.laws_toBallS F x0) x1) (Pure.impl_changedRow_back F (Pure.laws_toBallS F x0) x1) 1) with
                        | true =>
                          cases (Pure.laws_heldRow_ok F (Pure.laws_markBallS_1 F (Pure.impl_changedRow_back_2 F (Pure.laws_toBallS F x0) x1) 1) (Pure.impl_changedRow_back F (Pure.laws_toBallS F x0) x1) 1) with
                          | true =>
                            cases (Decidable.decide ((Pure.laws_heldRow F (Pure.laws_markBallS_1 F (Pure.impl_changedRow_back_2 F (Pure.laws_toBallS F x0) x1) 1) (Pure.impl_changedRow_back F (Pure.laws_toBallS F x0) x1) 1) < 0)) with
                            | true =>
                              intro _; rfl
                            | false =>
                              cases ((Pure.laws_heldRow F (Pure.laws_markBallS_1 F (Pure.impl_changedRow_back_2 F (Pure.laws_toBallS F x0) x1) 1) (Pure.impl_changedRow_back F (Pure.laws_toBallS F x0) x1) 1) != (Pure.laws_markBallS F (Pure.impl_changedRow_back_2 F (Pure.laws_toBallS F x0) x1) 1)) with
                              | true =>
                                intro _; rfl
                              | false =>
                                intro _; rfl
                          | false =>
                            intro h; exact absurd h Bool.false_ne_true
                        | false =>
                          intro h; exact absurd h Bool.false_ne_true
                    | false =>
                      intro h; exact absurd h Bool.false_ne_true
                  | false =>
                    intro _; rfl
                | false =>
                  intro h; exact absurd h Bool.false_ne_true
              | false =>
                intro _; rfl
            | false =>
              intro _; rfl
          | false =>
            intro h; exact absurd h Bool.false_ne_true
        | false =>
          intro h; exact absurd h Bool.false_ne_true
      | false =>
        intro h; exact absurd h Bool.false_ne_true
    | false =>
      intro h; exact absurd h Bool.false_ne_true
theorem ok_laws_FnExactBackRow : CallOK Try.prog 8 (c_laws_FnExactBackRow real) := by
  refine callOK_of fun args h ret hc => ?_
  unfold c_laws_FnExactBackRow at hc
  split at hc
  · rename_i x1 x0
    obtain ⟨hok, rfl⟩ := some_ret hc
    exact holds_ev prog_ok (allOK_cons ok_laws_szRow (allOK_cons ok_laws_toRow (allOK_cons ok_spec_BackRow (allOK_cons ok_impl_BackRow (allOK_cons ok_laws_eqRow (allOK_cons ok_laws_markRow (allOK_cons ok_laws_heldRow allOK_nil))))))) Try.func8 rfl rfl smL_nil rfl (e_laws_FnExactBackRow real x0 x1 hok)
  · cases hc
def Pure.impl_PushRow_c1 (F : FOps) (x0 : Nat) (x1 : List (List Int)) (x2 : Int) : List (List Int) := List.set x1 x0 (setFrom (List.getD x1 x0 []) 1 [FOps.bin F BinOp.add FloatKind.f32 (List.getD (List.getD x1 x0 []) 1 0) x2])
def c_impl_PushRow_c1 (F : FOps) : Con
  | [V.at (A.ptr 0 x0 0), V.at (A.ptr 1 0 0)], [⟨true, OC.rows [K.f FloatKind.f32, K.f FloatKind.f32, K.f FloatKind.f32] x1⟩, ⟨false, OC.box [A.fl FloatKind.f32 x2]⟩] => some (true, ⟨V.tup [], some [⟨true, OC.rows [K.f FloatKind.f32, K.f FloatKind.f32, K.f FloatKind.f32] (Pure.impl_PushRow_c1 F x0 x1 x2)⟩, ⟨false, OC.box [A.fl FloatKind.f32 x2]⟩], []⟩)
  | _, _ => none
theorem e_impl_PushRow_c1 (F : FOps) (x0 : Nat) (x1 : List (List Int)) (x2 : Int) : evFn (cxS F tyl [] [] [] 0) Try.f70 true [V.at (A.ptr 0 x0 0), V.at (A.ptr 1 0 0)] [⟨true, OC.rows [K.f FloatKind.f32, K.f FloatKind.f32, K.f FloatKind.f32] x1⟩, ⟨false, OC.box [A.fl FloatKind.f32 x2]⟩] = some ⟨V.tup [], some [⟨true, OC.rows [K.f FloatKind.f32, K.f FloatKind.f32, K.f FloatKind.f32] (Pure.impl_PushRow_c1 F x0 x1 x2)⟩, ⟨false, OC.box [A.fl FloatKind.f32 x2]⟩], []⟩ := by
  kernel_rfl
theorem ok_impl_PushRow_c1 : CallOK Try.prog 70 (c_impl_PushRow_c1 real) := by
  refine callOK_of fun args h ret hc => ?_
  unfold c_impl_PushRow_c1 at hc
  split at hc
  · rename_i x0 x1 x2
    obtain ⟨_, rfl⟩ := some_ret hc
    exact holdsE_ev prog_ok allOK_nil Try.func70 rfl rfl smL_nil (e_impl_PushRow_c1 real x0 x1 x2)
  · cases hc
def Pure.impl_each_c1_push_L0 (F : FOps) (y0 : Int) (y2 : Int) (y4 : Int) : Nat → Int → (List (List Int)) → (Bool × (List (List Int)))
  | 0, _, _ => (false, [])
  | n + 1, y1, y3 => bif (Decidable.decide (y1 < y0)) then (bif (Decidable.decide (0 ≤ y1)) then (bif (Decidable.decide (y1 < (Int.ofNat (List.length y3)))) then (Pure.impl_each_c1_push_L0 F y0 y2 y4 n (IntKind.wrap IntKind.i64 (y1 + 1)) (Pure.impl_PushRow_c1 F (Int.toNat y1) y3 y4)) else ((false, []))) else ((false, []))) else ((true, y3))
def R_impl_each_c1_push_L0 (y2 : Int) (y4 : Int) (r : (Bool × (List (List Int)))) : Bool × Bool × (Ex × List V × List Ob) × (Ex × List V × List Ob) := ((r).1, false, (Ex.normal, [], [⟨true, OC.box [A.sl 2, A.fl FloatKind.f32 y2]⟩, ⟨false, OC.box [A.fn 70 [(3, (0, 0))]]⟩, ⟨true, OC.rows [K.f FloatKind.f32, K.f FloatKind.f32, K.f FloatKind.f32] (r).2⟩, ⟨false, OC.box [A.fl FloatKind.f32 y4]⟩]), (Ex.normal, [], [⟨true, OC.box [A.sl 2, A.fl FloatKind.f32 y2]⟩, ⟨false, OC.box [A.fn 70 [(3, (0, 0))]]⟩, ⟨true, OC.rows [K.f FloatKind.f32, K.f FloatKind.f32, K.f FloatKind.f32] (r).2⟩, ⟨false, OC.box [A.fl FloatKind.f32 y4]⟩]))
def S_impl_each_c1_push_L0 (F : FOps) : Sm := ⟨[0, 1, 9, 10], [63, 0, 3, 3], [], fun vals hp => match vals, hp with
  | [V.at (A.ptr 0 0 0), V.at (A.ptr 1 0 0), V.at (A.int IntKind.i64 y0), V.at (A.int IntKind.i64 y1)], [⟨true, OC.box [A.sl 2, A.fl FloatKind.f32 y2]⟩, ⟨false, OC.box [A.fn 70 [(3, (0, 0))]]⟩, ⟨true, OC.rows [K.f FloatKind.f32, K.f FloatKind.f32, K.f FloatKind.f32] y3⟩, ⟨false, OC.box [A.fl FloatKind.f32 y4]⟩] => some (R_impl_each_c1_push_L0 y2 y4 (Pure.impl_each_c1_push_L0 F y0 y2 y4 (y0 - y1 + 1).toNat y1 y3))
  | _, _ => none⟩
theorem l_impl_each_c1_push_L0 (F : FOps) (y0 : Int) (y2 : Int) (y4 : Int) : ∀ (fuel : Nat) (y1 : Int) (y3 : List (List Int)), (Pure.impl_each_c1_push_L0 F y0 y2 y4 fuel y1 y3).1 = true → loopOf (cxS F tyl [(70, c_impl_PushRow_c1 F)] [70] [] 0) 4 22 0 [0, 1, 9, 10] [63, 0, 3, 3] [] (loopB 0 (codeOf Try.f84)) fuel [V.at (A.ptr 0 0 0), V.at (A.ptr 1 0 0), V.at (A.int IntKind.i64 y0), V.at (A.int IntKind.i64 y1)] [⟨true, OC.box [A.sl 2, A.fl FloatKind.f32 y2]⟩, ⟨false, OC.box [A.fn 70 [(3, (0, 0))]]⟩, ⟨true, OC.rows [K.f FloatKind.f32, K.f FloatKind.f32, K.f FloatKind.f32] y3⟩, ⟨false, OC.box [A.fl FloatKind.f32 y4]⟩] = resOf (R_impl_each_c1_push_L0 y2 y4 (Pure.impl_each_c1_push_L0 F y0 y2 y4 fuel y1 y3)) := by
  intro fuel
  induction fuel with
  | zero => intro y1 y3 h; exact absurd h Bool.false_ne_true
  | succ n ih =>
    intro y1 y3
    have h0 : roundOf (cxS F tyl [(70, c_impl_PushRow_c1 F)] [70] [] 0) 4 22 0 [0, 1, 9, 10] [63, 0, 3, 3] [] (loopB 0 (codeOf Try.f84)) [V.at (A.ptr 0 0 0), V.at (A.ptr 1 0 0), V.at (A.int IntKind.i64 y0), V.at (A.int IntKind.i64 y1)] [⟨true, OC.box [A.sl 2, A.fl FloatKind.f32 y2]⟩, ⟨false, OC.box [A.fn 70 [(3, (0, 0))]]⟩, ⟨true, OC.rows [K.f FloatKind.f32, K.f FloatKind.f32, K.f FloatKind.f32] y3⟩, ⟨false, OC.box [A.fl FloatKind.f32 y4]⟩] = (bif Decidable.decide (y1 < y0) then bif Decidable.decide (0 ≤ y1) then bif Decidable.decide (y1 < (Int.ofNat (List.length y3))) then some (true, (Ex.normal, ([V.at (A.ptr 0 0 0), V.at (A.ptr 1 0 0), V.at (A.int IntKind.i64 y0), V.at (A.int IntKind.i64 (IntKind.wrap IntKind.i64 (y1 + 1)))], [⟨true, OC.box [A.sl 2, A.fl FloatKind.f32 y2]⟩, ⟨false, OC.box [A.fn 70 [(3, (0, 0))]]⟩, ⟨true, OC.rows [K.f FloatKind.f32, K.f FloatKind.f32, K.f FloatKind.f32] (Pure.impl_PushRow_c1 F (Int.toNat y1) y3 y4)⟩, ⟨false, OC.box [A.fl FloatKind.f32 y4]⟩]))) else none else none else some (false, (Ex.normal, ([], [⟨true, OC.box [A.sl 2, A.fl FloatKind.f32 y2]⟩, ⟨false, OC.box [A.fn 70 [(3, (0, 0))]]⟩, ⟨true, OC.rows [K.f FloatKind.f32, K.f FloatKind.f32, K.f FloatKind.f32] y3⟩, ⟨false, OC.box [A.fl FloatKind.f32 y4]⟩])))) := by kernel_rfl
    unfold loopOf
    rw [h0]
    unfold Pure.impl_each_c1_push_L0
    cases (Decidable.decide (y1 < y0)) with
    | true =>
      cases (Decidable.decide (0 ≤ y1)) with
      | true =>
        cases (Decidable.decide (y1 < (Int.ofNat (List.length y3)))) with
        | true =>
          exact ih _ _
        | false =>
          intro h; exact absurd h Bool.false_ne_true
      | false =>
        intro h; exact absurd h Bool.false_ne_true
    | false =>
      intro _; rfl
theorem t_impl_each_c1_push_L0 : SmTo Try.prog 4 22 (S_impl_each_c1_push_L0 real) 0 (.loop (loopB 0 (codeOf Try.f84))) := by
  refine smTo_ev (cl := [(70, c_impl_PushRow_c1 real)]) (ef := [70]) (sm := []) (un := 0) prog_ok (allOK_cons ok_impl_PushRow_c1 allOK_nil) smL_nil ?_
  intro vals hp q r h hq
  unfold S_impl_each_c1_push_L0 at h
  dsimp only at h
  split at h
  · rename_i y0 y1 y2 y3 y4
    obtain rfl := Option.some.inj h
    have h1 := hq
    unfold resOf at h1
    rw [chk_some] at h1
    exact ⟨_, (l_impl_each_c1_push_L0 real y0 y2 y4 _ y1 y3 h1.1).trans hq⟩
  · cases h
def Pure.impl_each_c1_push (F : FOps) (x0 : List (List Int)) (x1 : Int) (x2 : Int) : List (List Int) := Prod.snd (Pure.impl_each_c1_push_L0 F (Int.ofNat (List.length x0)) x1 x2 (Nat.succ ((List.length x0) + 0)) 0 x0)
def Pure.impl_each_c1_push_ok (F : FOps) (x0 : List (List Int)) (x1 : Int) (x2 : Int) : Bool := Prod.fst (Pure.impl_each_c1_push_L0 F (Int.ofNat (List.length x0)) x1 x2 (Nat.succ ((List.length x0) + 0)) 0 x0)
def c_impl_each_c1_push (F : FOps) : Con
  | [V.at (A.ptr 0 0 0), V.at (A.ptr 1 0 0)], [⟨true, OC.box [A.sl 2, A.fl FloatKind.f32 x1]⟩, ⟨false, OC.box [A.fn 70 [(3, (0, 0))]]⟩, ⟨true, OC.rows [K.f FloatKind.f32, K.f FloatKind.f32, K.f FloatKind.f32] x0⟩, ⟨false, OC.box [A.fl FloatKind.f32 x2]⟩] => some (Pure.impl_each_c1_push_ok F x0 x1 x2, ⟨V.at (A.bool true), some [⟨true, OC.box [A.sl 2, A.fl FloatKind.f32 x1]⟩, ⟨false, OC.box [A.fn 70 [(3, (0, 0))]]⟩, ⟨true, OC.rows [K.f FloatKind.f32, K.f FloatKind.f32, K.f FloatKind.f32] (Pure.impl_each_c1_push F x0 x1 x2)⟩, ⟨false, OC.box [A.fl FloatKind.f32 x2]⟩], []⟩)
  | _, _ => none
theorem e_impl_each_c1_push (F : FOps) (x0 : List (List Int)) (x1 : Int) (x2 : Int) : Pure.impl_each_c1_push_ok F x0 x1 x2 = true → evFn (cxS F tyl [(70, c_impl_PushRow_c1 F)] [70] [(0, S_impl_each_c1_push_L0 F)] 0) Try.f84 true [V.at (A.ptr 0 0 0), V.at (A.ptr 1 0 0)] [⟨true, OC.box [A.sl 2, A.fl FloatKind.f32 x1]⟩, ⟨false, OC.box [A.fn 70 [(3, (0, 0))]]⟩, ⟨true, OC.rows [K.f FloatKind.f32, K.f FloatKind.f32, K.f FloatKind.f32] x0⟩, ⟨false, OC.box [A.fl FloatKind.f32 x2]⟩] = some ⟨V.at (A.bool true), some [⟨true, OC.box [A.sl 2, A.fl FloatKind.f32 x1]⟩, ⟨false, OC.box [A.fn 70 [(3, (0, 0))]]⟩, ⟨true, OC.rows [K.f FloatKind.f32, K.f FloatKind.f32, K.f FloatKind.f32] (Pure.impl_each_c1_push F x0 x1 x2)⟩, ⟨false, OC.box [A.fl FloatKind.f32 x2]⟩], []⟩ := by
  have h0 : evFn (cxS F tyl [(70, c_impl_PushRow_c1 F)] [70] [(0, S_impl_each_c1_push_L0 F)] 0) Try.f84 true [V.at (A.ptr 0 0 0), V.at (A.ptr 1 0 0)] [⟨true, OC.box [A.sl 2, A.fl FloatKind.f32 x1]⟩, ⟨false, OC.box [A.fn 70 [(3, (0, 0))]]⟩, ⟨true, OC.rows [K.f FloatKind.f32, K.f FloatKind.f32, K.f FloatKind.f32] x0⟩, ⟨false, OC.box [A.fl FloatKind.f32 x2]⟩] = bif Prod.fst (Pure.impl_each_c1_push_L0 F (Int.ofNat (List.length x0)) x1 x2 (Nat.succ ((List.length x0) + 0)) 0 x0) then some ⟨V.at (A.bool true), some [⟨true, OC.box [A.sl 2, A.fl FloatKind.f32 x1]⟩, ⟨false, OC.box [A.fn 70 [(3, (0, 0))]]⟩, ⟨true, OC.rows [K.f FloatKind.f32, K.f FloatKind.f32, K.f FloatKind.f32] (Prod.snd (Pure.impl_each_c1_push_L0 F (Int.ofNat (List.length x0)) x1 x2 (Nat.succ ((List.length x0) + 0)) 0 x0))⟩, ⟨false, OC.box [A.fl FloatKind.f32 x2]⟩], []⟩ else none := by kernel_rfl
  rw [h0]
  unfold Pure.impl_each_c1_push Pure.impl_each_c1_push_ok
  cases (Prod.fst (Pure.impl_each_c1_push_L0 F (Int.ofNat (List.length x0)) x1 x2 (Nat.succ ((List.length x0) + 0)) 0 x0)) with
  | true =>
    intro _; rfl
  | false =>
    intro h; exact absurd h Bool.false_ne_true
theorem ok_impl_each_c1_push : CallOK Try.prog 84 (c_impl_each_c1_push real) := by
  refine callOK_of fun args h ret hc => ?_
  unfold c_impl_each_c1_push at hc
  split at hc
  · rename_i x1 x0 x2
    obtain ⟨hok, rfl⟩ := some_ret hc
    exact holdsE_ev prog_ok (allOK_cons ok_impl_PushRow_c1 allOK_nil) Try.func84 rfl rfl (smL_cons (body := .loop (loopB 0 (codeOf Try.f84))) (by kernel_rfl) t_impl_each_c1_push_L0 smL_nil) (e_impl_each_c1_push real x0 x1 x2 hok)
  · cases hc
def c_impl_each_c1_or1 (F : FOps) : Con := orC (c_impl_each_c1_back F) (c_impl_each_c1_push F)
theorem ok_impl_each_c1_or1 : CallOK Try.prog 84 (c_impl_each_c1_or1 real) := callOK_or ok_impl_each_c1_back ok_impl_each_c1_push
def Pure.impl_changedRow_push (F : FOps) (x0 : List (List Int)) (x1 : Int) (x2 : Int) : Int := bif Pure.impl_ValidRow F x0 x1 then bif Pure.impl_ValidRow F (Pure.impl_each_c1_push F x0 x1 x2) x1 then x1 else 0 else 0
def Pure.impl_changedRow_push_1 (F : FOps) (x0 : List (List Int)) (x1 : Int) (x2 : Int) : Bool := bif Pure.impl_ValidRow F x0 x1 then Pure.impl_ValidRow F (Pure.impl_each_c1_push F x0 x1 x2) x1 else false
def Pure.impl_changedRow_push_2 (F : FOps) (x0 : List (List Int)) (x1 : Int) (x2 : Int) : List (List Int) := bif Pure.impl_ValidRow F x0 x1 then bif Pure.impl_ValidRow F (Pure.impl_each_c1_push F x0 x1 x2) x1 then Pure.impl_each_c1_push F x0 x1 x2 else [] else []
def Pure.impl_changedRow_push_ok (F : FOps) (x0 : List (List Int)) (x1 : Int) (x2 : Int) : Bool := bif Pure.impl_ValidRow_ok F x0 x1 then bif Pure.impl_ValidRow F x0 x1 then bif Decidable.decide ((List.length x0) ≤ 1073741824) then bif Pure.impl_each_c1_push_ok F x0 x1 x2 then Pure.impl_ValidRow_ok F (Pure.impl_each_c1_push F x0 x1 x2) x1 else false else false else true else false
def c_impl_changedRow_push (F : FOps) : Con
  | [V.agg [A.sl 0, A.fl FloatKind.f32 x1], V.at (A.fn 84 [(1, (0, 0))])], [⟨false, OC.rows [K.f FloatKind.f32, K.f FloatKind.f32, K.f FloatKind.f32] x0⟩, ⟨false, OC.box [A.fn 70 [(2, (0, 0))]]⟩, ⟨false, OC.box [A.fl FloatKind.f32 x2]⟩] => some (Pure.impl_changedRow_push_ok F x0 x1 x2, ⟨V.tup [(true, [A.sl 3, A.fl FloatKind.f32 (Pure.impl_changedRow_push F x0 x1 x2)]), (false, [A.bool (Pure.impl_changedRow_push_1 F x0 x1 x2)])], none, [⟨true, OC.rows [K.f FloatKind.f32, K.f FloatKind.f32, K.f FloatKind.f32] (Pure.impl_changedRow_push_2 F x0 x1 x2)⟩]⟩)
  | _, _ => none
theorem e_impl_changedRow_push (F : FOps) (x0 : List (List Int)) (x1 : Int) (x2 : Int) : Pure.impl_changedRow_push_ok F x0 x1 x2 = true → evFn (cxS F tyl [(49, c_impl_ValidRow F), (85, c_slices_Clone_impl_Ball_impl_Ball F), (84, c_impl_each_c1_or1 F), (70, c_impl_PushRow_c1 F)] [84, 70] [] 0) Try.f66 false [V.agg [A.sl 0, A.fl FloatKind.f32 x1], V.at (A.fn 84 [(1, (0, 0))])] [⟨false, OC.rows [K.f FloatKind.f32, K.f FloatKind.f32, K.f FloatKind.f32] x0⟩, ⟨false, OC.box [A.fn 70 [(2, (0, 0))]]⟩, ⟨false, OC.box [A.fl FloatKind.f32 x2]⟩] = some ⟨V.tup [(true, [A.sl 3, A.fl FloatKind.f32 (Pure.impl_changedRow_push F x0 x1 x2)]), (false, [A.bool (Pure.impl_changedRow_push_1 F x0 x1 x2)])], none, [⟨true, OC.rows [K.f FloatKind.f32, K.f FloatKind.f32, K.f FloatKind.f32] (Pure.impl_changedRow_push_2 F x0 x1 x2)⟩]⟩ := by
  have h0 : evFn (cxS F tyl [(49, c_impl_ValidRow F), (85, c_slices_Clone_impl_Ball_impl_Ball F), (84, c_impl_each_c1_or1 F), (70, c_impl_PushRow_c1 F)] [84, 70] [] 0) Try.f66 false [V.agg [A.sl 0, A.fl FloatKind.f32 x1], V.at (A.fn 84 [(1, (0, 0))])] [⟨false, OC.rows [K.f FloatKind.f32, K.f FloatKind.f32, K.f FloatKind.f32] x0⟩, ⟨false, OC.box [A.fn 70 [(2, (0, 0))]]⟩, ⟨false, OC.box [A.fl FloatKind.f32 x2]⟩] = bif Pure.impl_ValidRow_ok F x0 x1 then bif Bool.not (Pure.impl_ValidRow F x0 x1) then some ⟨V.tup [(true, [A.sl 3, A.fl FloatKind.f32 0]), (false, [A.bool false])], none, [⟨true, OC.rows [K.f FloatKind.f32, K.f FloatKind.f32, K.f FloatKind.f32] []⟩]⟩ else bif Decidable.decide ((List.length x0) ≤ 1073741824) then bif Pure.impl_each_c1_push_ok F x0 x1 x2 then bif Pure.impl_ValidRow_ok F (Pure.impl_each_c1_push F x0 x1 x2) x1 then bif Bool.not (Pure.impl_ValidRow F (Pure.impl_each_c1_push F x0 x1 x2) x1) then some ⟨V.tup [(true, [A.sl 3, A.fl FloatKind.f32 0]), (false, [A.bool false])], none, [⟨true, OC.rows [K.f FloatKind.f32, K.f FloatKind.f32, K.f FloatKind.f32] []⟩]⟩ else some ⟨V.tup [(true, [A.sl 3, A.fl FloatKind.f32 x1]), (false, [A.bool true])], none, [⟨true, OC.rows [K.f FloatKind.f32, K.f FloatKind.f32, K.f FloatKind.f32] (Pure.impl_each_c1_push F x0 x1 x2)⟩]⟩ else none else none else none else none := by kernel_rfl
  rw [h0]
  unfold Pure.impl_changedRow_push Pure.impl_changedRow_push_1 Pure.impl_changedRow_push_2 Pure.impl_changedRow_push_ok
  cases (Pure.impl_ValidRow_ok F x0 x1) with
  | true =>
    cases (Pure.impl_ValidRow F x0 x1) with
    | true =>
      cases (Decidable.decide ((List.length x0) ≤ 1073741824)) with
      | true =>
        cases (Pure.impl_each_c1_push_ok F x0 x1 x2) with
        | true =>
          cases (Pure.impl_ValidRow_ok F (Pure.impl_each_c1_push F x0 x1 x2) x1) with
          | true =>
            cases (Pure.impl_ValidRow F (Pure.impl_each_c1_push F x0 x1 x2) x1) with
            | true =>
              intro _; rfl
            | false =>
              intro _; rfl
          | false =>
            intro h; exact absurd h Bool.false_ne_true
        | false =>
          intro h; exact absurd h Bool.false_ne_true
      | false =>
        intro h; exact absurd h Bool.false_ne_true
    | false =>
      intro _; rfl
  | false =>
    intro h; exact absurd h Bool.false_ne_true
theorem ok_impl_changedRow_push : CallOK Try.prog 66 (c_impl_changedRow_push real) := by
  refine callOK_of fun args h ret hc => ?_
  unfold c_impl_changedRow_push at hc
  split at hc
  · rename_i x1 x0 x2
    obtain ⟨hok, rfl⟩ := some_ret hc
    exact holds_ev prog_ok (allOK_cons ok_impl_ValidRow (allOK_cons ok_slices_Clone_impl_Ball_impl_Ball (allOK_cons ok_impl_each_c1_or1 (allOK_cons ok_impl_PushRow_c1 allOK_nil)))) Try.func66 rfl rfl smL_nil rfl (e_impl_changedRow_push real x0 x1 x2 hok)
  · cases hc
def c_impl_changedRow_or1 (F : FOps) : Con := orC (c_impl_changedRow_back F) (c_impl_changedRow_push F)
theorem ok_impl_changedRow_or1 : CallOK Try.prog 66 (c_impl_changedRow_or1 real) := callOK_or ok_impl_changedRow_back ok_impl_changedRow_push
def Pure.impl_each_push_ok (F : FOps) (x0 : List (List Int)) (x1 : Int) (x2 : Int) : Bool := Pure.impl_changedRow_push_ok F x0 x1 x2
def c_impl_each_push (F : FOps) : Con
  | [V.agg [A.sl 0, A.fl FloatKind.f32 x1], V.at (A.fn 70 [(1, (0, 0))])], [⟨false, OC.rows [K.f FloatKind.f32, K.f FloatKind.f32, K.f FloatKind.f32] x0⟩, ⟨false, OC.box [A.fl FloatKind.f32 x2]⟩] => some (Pure.impl_each_push_ok F x0 x1 x2, ⟨V.tup [(true, [A.sl 2, A.fl FloatKind.f32 (Pure.impl_changedRow_push F x0 x1 x2)]), (false, [A.bool (Pure.impl_changedRow_push_1 F x0 x1 x2)])], none, [⟨true, OC.rows [K.f FloatKind.f32, K.f FloatKind.f32, K.f FloatKind.f32] (Pure.impl_changedRow_push_2 F x0 x1 x2)⟩]⟩)
  | _, _ => none
theorem e_impl_each_push (F : FOps) (x0 : List (List Int)) (x1 : Int) (x2 : Int) : Pure.impl_each_push_ok F x0 x1 x2 = true → evFn (cxS F tyl [(84, c_impl_each_c1_or1 F), (66, c_impl_changedRow_or1 F), (70, c_impl_PushRow_c1 F)] [84, 70] [] 0) Try.f64 false [V.agg [A.sl 0, A.fl FloatKind.f32 x1], V.at (A.fn 70 [(1, (0, 0))])] [⟨false, OC.rows [K.f FloatKind.f32, K.f FloatKind.f32, K.f FloatKind.f32] x0⟩, ⟨false, OC.box [A.fl FloatKind.f32 x2]⟩] = some ⟨V.tup [(true, [A.sl 2, A.fl FloatKind.f32 (Pure.impl_changedRow_push F x0 x1 x2)]), (false, [A.bool (Pure.impl_changedRow_push_1 F x0 x1 x2)])], none, [⟨true, OC.rows [K.f FloatKind.f32, K.f FloatKind.f32, K.f FloatKind.f32] (Pure.impl_changedRow_push_2 F x0 x1 x2)⟩]⟩ := by
  have h0 : evFn (cxS F tyl [(84, c_impl_each_c1_or1 F), (66, c_impl_changedRow_or1 F), (70, c_impl_PushRow_c1 F)] [84, 70] [] 0) Try.f64 false [V.agg [A.sl 0, A.fl FloatKind.f32 x1], V.at (A.fn 70 [(1, (0, 0))])] [⟨false, OC.rows [K.f FloatKind.f32, K.f FloatKind.f32, K.f FloatKind.f32] x0⟩, ⟨false, OC.box [A.fl FloatKind.f32 x2]⟩] = bif Pure.impl_changedRow_push_ok F x0 x1 x2 then some ⟨V.tup [(true, [A.sl 2, A.fl FloatKind.f32 (Pure.impl_changedRow_push F x0 x1 x2)]), (false, [A.bool (Pure.impl_changedRow_push_1 F x0 x1 x2)])], none, [⟨true, OC.rows [K.f FloatKind.f32, K.f FloatKind.f32, K.f FloatKind.f32] (Pure.impl_changedRow_push_2 F x0 x1 x2)⟩]⟩ else none := by kernel_rfl
  rw [h0]
  unfold Pure.impl_each_push_ok
  cases (Pure.impl_changedRow_push_ok F x0 x1 x2) with
  | true =>
    intro _; rfl
  | false =>
    intro h; exact absurd h Bool.false_ne_true
theorem ok_impl_each_push : CallOK Try.prog 64 (c_impl_each_push real) := by
  refine callOK_of fun args h ret hc => ?_
  unfold c_impl_each_push at hc
  split at hc
  · rename_i x1 x0 x2
    obtain ⟨hok, rfl⟩ := some_ret hc
    exact holds_ev prog_ok (allOK_cons ok_impl_each_c1_or1 (allOK_cons ok_impl_changedRow_or1 (allOK_cons ok_impl_PushRow_c1 allOK_nil))) Try.func64 rfl rfl smL_nil rfl (e_impl_each_push real x0 x1 x2 hok)
  · cases hc
def c_impl_each_or1 (F : FOps) : Con := orC (c_impl_each_back F) (c_impl_each_push F)
theorem ok_impl_each_or1 : CallOK Try.prog 64 (c_impl_each_or1 real) := callOK_or ok_impl_each_back ok_impl_each_push
def Pure.spec_l06Give_way (F : FOps) (x0 : List (List Int)) (x1 : Int) : Bool := Pure.spec_l06Is F x0 x1
def Pure.spec_l06Give_okA (F : FOps) (x0 : List (List Int)) (x1 : Int) : Bool := Pure.spec_l06Is_ok F x0 x1
def Pure.spec_l06Give_okB (F : FOps) (x0 : List (List Int)) (x1 : Int) : Bool := Pure.spec_l06Is_ok F x0 x1
def c2_spec_l06Give (F : FOps) : Con2
  | [V.agg [A.sl 0, A.fl FloatKind.f32 x1]], [⟨false, OC.rows [K.f FloatKind.f32, K.f FloatKind.f32, K.f FloatKind.f32] x0⟩] => some (Pure.spec_l06Give_way F x0 x1, (Pure.spec_l06Give_okA F x0 x1, ⟨V.tup [(true, [A.sl 0, A.fl FloatKind.f32 x1]), (false, [A.bool true])], none, []⟩), (Pure.spec_l06Give_okB F x0 x1, ⟨V.tup [(true, [A.sl 1, A.fl FloatKind.f32 0]), (false, [A.bool false])], none, [⟨true, OC.rows [K.f FloatKind.f32, K.f FloatKind.f32, K.f FloatKind.f32] []⟩]⟩))
  | _, _ => none
theorem e2_spec_l06Give_true (F : FOps) (x0 : List (List Int)) (x1 : Int) : Pure.spec_l06Give_way F x0 x1 = true → Pure.spec_l06Give_okA F x0 x1 = true → evFn (cxS F tyl [(54, c_spec_l06Is F)] [] [] 0) Try.f47 false [V.agg [A.sl 0, A.fl FloatKind.f32 x1]] [⟨false, OC.rows [K.f FloatKind.f32, K.f FloatKind.f32, K.f FloatKind.f32] x0⟩] = some ⟨V.tup [(true, [A.sl 0, A.fl FloatKind.f32 x1]), (false, [A.bool true])], none, []⟩ := by
  have h0 : evFn (cxS F tyl [(54, c_spec_l06Is F)] [] [] 0) Try.f47 false [V.agg [A.sl 0, A.fl FloatKind.f32 x1]] [⟨false, OC.rows [K.f FloatKind.f32, K.f FloatKind.f32, K.f FloatKind.f32] x0⟩] = bif Pure.spec_l06Is_ok F x0 x1 then bif Bool.not (Pure.spec_l06Is F x0 x1) then some ⟨V.tup [(true, [A.sl 1, A.fl FloatKind.f32 0]), (false, [A.bool false])], none, [⟨true, OC.rows [K.f FloatKind.f32, K.f FloatKind.f32, K.f FloatKind.f32] []⟩]⟩ else some ⟨V.tup [(true, [A.sl 0, A.fl FloatKind.f32 x1]), (false, [A.bool true])], none, []⟩ else none := by kernel_rfl
  rw [h0]
  unfold Pure.spec_l06Give_way Pure.spec_l06Give_okA
  cases (Pure.spec_l06Is_ok F x0 x1) with
  | true =>
    cases (Pure.spec_l06Is F x0 x1) with
    | true =>
      intro h1 h2; first | rfl | cases h1 | cases h2
    | false =>
      intro h1 h2; first | rfl | cases h1 | cases h2
  | false =>
    intro h1 h2; first | rfl | cases h1 | cases h2
theorem e2_spec_l06Give_false (F : FOps) (x0 : List (List Int)) (x1 : Int) : Pure.spec_l06Give_way F x0 x1 = false → Pure.spec_l06Give_okB F x0 x1 = true → evFn (cxS F tyl [(54, c_spec_l06Is F)] [] [] 0) Try.f47 false [V.agg [A.sl 0, A.fl FloatKind.f32 x1]] [⟨false, OC.rows [K.f FloatKind.f32, K.f FloatKind.f32, K.f FloatKind.f32] x0⟩] = some ⟨V.tup [(true, [A.sl 1, A.fl FloatKind.f32 0]), (false, [A.bool false])], none, [⟨true, OC.rows [K.f FloatKind.f32, K.f FloatKind.f32, K.f FloatKind.f32] []⟩]⟩ := by
  have h0 : evFn (cxS F tyl [(54, c_spec_l06Is F)] [] [] 0) Try.f47 false [V.agg [A.sl 0, A.fl FloatKind.f32 x1]] [⟨false, OC.rows [K.f FloatKind.f32, K.f FloatKind.f32, K.f FloatKind.f32] x0⟩] = bif Pure.spec_l06Is_ok F x0 x1 then bif Bool.not (Pure.spec_l06Is F x0 x1) then some ⟨V.tup [(true, [A.sl 1, A.fl FloatKind.f32 0]), (false, [A.bool false])], none, [⟨true, OC.rows [K.f FloatKind.f32, K.f FloatKind.f32, K.f FloatKind.f32] []⟩]⟩ else some ⟨V.tup [(true, [A.sl 0, A.fl FloatKind.f32 x1]), (false, [A.bool true])], none, []⟩ else none := by kernel_rfl
  rw [h0]
  unfold Pure.spec_l06Give_way Pure.spec_l06Give_okB
  cases (Pure.spec_l06Is_ok F x0 x1) with
  | true =>
    cases (Pure.spec_l06Is F x0 x1) with
    | true =>
      intro h1 h2; first | rfl | cases h1 | cases h2
    | false =>
      intro h1 h2; first | rfl | cases h1 | cases h2
  | false =>
    intro h1 h2; first | rfl | cases h1 | cases h2
theorem ok2_spec_l06Give : TwoOK Try.prog 47 (c2_spec_l06Give real) := by
  intro args h b x y r news hc hb
  unfold c2_spec_l06Give at hc
  split at hc
  · rename_i x1 x0
    obtain ⟨rfl, rfl, rfl⟩ := two_ret hc
    cases hq : Pure.spec_l06Give_way real x0 x1 with
    | true =>
      rw [hq] at hb
      obtain ⟨hok, hr⟩ := ret_two hb
      have he := e2_spec_l06Give_true real x0 x1 hq hok
      rw [hr] at he
      exact holds_ev prog_ok (allOK_cons ok_spec_l06Is allOK_nil) Try.func47 rfl rfl smL_nil rfl he
    | false =>
      rw [hq] at hb
      obtain ⟨hok, hr⟩ := ret_two hb
      have he := e2_spec_l06Give_false real x0 x1 hq hok
      rw [hr] at he
      exact holds_ev prog_ok (allOK_cons ok_spec_l06Is allOK_nil) Try.func47 rfl rfl smL_nil rfl he
  · cases hc
def Pure.spec_PushRow_L0 (F : FOps) (y0 : Int) (y2 : List (List Int)) (y3 : Int) (y4 : Int) : Nat → Int → (List (List Int)) → (Bool × (List (List Int)))
  | 0, _, _ => (false, [])
  | n + 1, y1, y5 => bif (Decidable.decide (y1 < (Int.ofNat (List.length y5)))) then (bif (Decidable.decide (0 ≤ y1)) then (bif (Decidable.decide (y1 < (Int.ofNat (List.length y5)))) then (bif (Decidable.decide (0 ≤ y1)) then (bif (Decidable.decide (y1 < (Int.ofNat (List.length y5)))) then (Pure.spec_PushRow_L0 F y0 y2 y3 y4 n (IntKind.wrap IntKind.i64 (y1 + 1)) (List.set y5 (Int.toNat y1) (setFrom (List.getD y5 (Int.toNat y1) []) 1 [FOps.bin F BinOp.add FloatKind.f32 (List.getD (List.getD y5 (Int.toNat y1) []) 1 0) y0]))) else ((false, []))) else ((false, []))) else ((false, []))) else ((false, []))) else ((true, y5))
def R_spec_PushRow_L0 (y2 : List (List Int)) (y3 : Int) (y4 : Int) (r : (Bool × (List (List Int)))) : Bool × Bool × (Ex × List V × List Ob) × (Ex × List V × List Ob) := ((r).1, false, (Ex.normal, [V.at (A.ptr 1 0 0), V.at (A.ptr 2 0 0)], [⟨false, OC.rows [K.f FloatKind.f32, K.f FloatKind.f32, K.f FloatKind.f32] y2⟩, ⟨true, OC.box [A.nil, A.fl FloatKind.f32 y3]⟩, ⟨true, OC.box [A.sl 3, A.fl FloatKind.f32 y4]⟩, ⟨true, OC.rows [K.f FloatKind.f32, K.f FloatKind.f32, K.f FloatKind.f32] (r).2⟩]), (Ex.normal, [V.at (A.ptr 1 0 0), V.at (A.ptr 2 0 0)], [⟨false, OC.rows [K.f FloatKind.f32, K.f FloatKind.f32, K.f FloatKind.f32] y2⟩, ⟨true, OC.box [A.nil, A.fl FloatKind.f32 y3]⟩, ⟨true, OC.box [A.sl 3, A.fl FloatKind.f32 y4]⟩, ⟨true, OC.rows [K.f FloatKind.f32, K.f FloatKind.f32, K.f FloatKind.f32] (r).2⟩]))
def S_spec_PushRow_L0 (F : FOps) : Sm := ⟨[1, 4, 6, 7], [22, 0, 0, 3], [4, 6], fun vals hp => match vals, hp with
  | [V.at (A.fl FloatKind.f32 y0), V.at (A.ptr 1 0 0), V.at (A.ptr 2 0 0), V.at (A.int IntKind.i64 y1)], [⟨false, OC.rows [K.f FloatKind.f32, K.f FloatKind.f32, K.f FloatKind.f32] y2⟩, ⟨true, OC.box [A.nil, A.fl FloatKind.f32 y3]⟩, ⟨true, OC.box [A.sl 3, A.fl FloatKind.f32 y4]⟩, ⟨true, OC.rows [K.f FloatKind.f32, K.f FloatKind.f32, K.f FloatKind.f32] y5⟩] => some (R_spec_PushRow_L0 y2 y3 y4 (Pure.spec_PushRow_L0 F y0 y2 y3 y4 ((Int.ofNat (List.length y5)) - y1 + 1).toNat y1 y5))
  | _, _ => none⟩
theorem l_spec_PushRow_L0 (F : FOps) (y0 : Int) (y2 : List (List Int)) (y3 : Int) (y4 : Int) : ∀ (fuel : Nat) (y1 : Int) (y5 : List (List Int)), (Pure.spec_PushRow_L0 F y0 y2 y3 y4 fuel y1 y5).1 = true → loopOf (cxS F tyl [(54, c_spec_l06Is F), (63, c_spec_l06Own F)] [] [] 0 [(47, c2_spec_l06Give F)]) 1 36 0 [1, 4, 6, 7] [22, 0, 0, 3] [4, 6] (loopB 0 (codeOf Try.f40)) fuel [V.at (A.fl FloatKind.f32 y0), V.at (A.ptr 1 0 0), V.at (A.ptr 2 0 0), V.at (A.int IntKind.i64 y1)] [⟨false, OC.rows [K.f FloatKind.f32, K.f FloatKind.f32, K.f FloatKind.f32] y2⟩, ⟨true, OC.box [A.nil, A.fl FloatKind.f32 y3]⟩, ⟨true, OC.box [A.sl 3, A.fl FloatKind.f32 y4]⟩, ⟨true, OC.rows [K.f FloatKind.f32, K.f FloatKind.f32, K.f FloatKind.f32] y5⟩] = resOf (R_spec_PushRow_L0 y2 y3 y4 (Pure.spec_PushRow_L0 F y0 y2 y3 y4 fuel y1 y5)) := by
  intro fuel
  induction fuel with
  | zero => intro y1 y5 h; exact absurd h Bool.false_ne_true
  | succ n ih =>
    intro y1 y5
    have h0 : roundOf (cxS F tyl [(54, c_spec_l06Is F), (63, c_spec_l06Own F)] [] [] 0 [(47, c2_spec_l06Give F)]) 1 36 0 [1, 4, 6, 7] [22, 0, 0, 3] [4, 6] (loopB 0 (codeOf Try.f40)) [V.at (A.fl FloatKind.f32 y0), V.at (A.ptr 1 0 0), V.at (A.ptr 2 0 0), V.at (A.int IntKind.i64 y1)] [⟨false, OC.rows [K.f FloatKind.f32, K.f FloatKind.f32, K.f FloatKind.f32] y2⟩, ⟨true, OC.box [A.nil, A.fl FloatKind.f32 y3]⟩, ⟨true, OC.box [A.sl 3, A.fl FloatKind.f32 y4]⟩, ⟨true, OC.rows [K.f FloatKind.f32, K.f FloatKind.f32, K.f FloatKind.f32] y5⟩] = (bif Decidable.decide (y1 < (Int.ofNat (List.length y5))) then bif Decidable.decide (0 ≤ y1) then bif Decidable.decide (y1 < (Int.ofNat (List.length y5))) then bif Decidable.decide (0 ≤ y1) then bif Decidable.decide (y1 < (Int.ofNat (List.length y5))) then some (true, (Ex.normal, ([V.at (A.fl FloatKind.f32 y0), V.at (A.ptr 1 0 0), V.at (A.ptr 2 0 0), V.at (A.int IntKind.i64 (IntKind.wrap IntKind.i64 (y1 + 1)))], [⟨false, OC.rows [K.f FloatKind.f32, K.f FloatKind.f32, K.f FloatKind.f32] y2⟩, ⟨true, OC.box [A.nil, A.fl FloatKind.f32 y3]⟩, ⟨true, OC.box [A.sl 3, A.fl FloatKind.f32 y4]⟩, ⟨true, OC.rows [K.f FloatKind.f32, K.f FloatKind.f32, K.f FloatKind.f32] (List.set y5 (Int.toNat y1) (setFrom (List.getD y5 (Int.toNat y1) []) 1 [FOps.bin F BinOp.add FloatKind.f32 (List.getD (List.getD y5 (Int.toNat y1) []) 1 0) y0]))⟩]))) else none else none else none else none else some (false, (Ex.normal, ([V.at (A.ptr 1 0 0), V.at (A.ptr 2 0 0)], [⟨false, OC.rows [K.f FloatKind.f32, K.f FloatKind.f32, K.f FloatKind.f32] y2⟩, ⟨true, OC.box [A.nil, A.fl FloatKind.f32 y3]⟩, ⟨true, OC.box [A.sl 3, A.fl FloatKind.f32 y4]⟩, ⟨true, OC.rows [K.f FloatKind.f32, K.f FloatKind.f32, K.f FloatKind.f32] y5⟩])))) := by kernel_rfl
    unfold loopOf
    rw [h0]
    unfold Pure.spec_PushRow_L0
    cases (Decidable.decide (y1 < (Int.ofNat (List.length y5)))) with
    | true =>
      cases (Decidable.decide (0 ≤ y1)) with
      | true =>
        exact ih _ _
      | false =>
        intro h; exact absurd h Bool.false_ne_true
    | false =>
      intro _; rfl
theorem t_spec_PushRow_L0 : SmTo Try.prog 1 36 (S_spec_PushRow_L0 real) 0 (.loop (loopB 0 (codeOf Try.f40))) := by
  refine smTo_ev2 (cl := [(54, c_spec_l06Is real), (63, c_spec_l06Own real)]) (ef := []) (sm := []) (un := 0) (tw := [(47, c2_spec_l06Give real)]) prog_ok (allOK_cons ok_spec_l06Is (allOK_cons ok_spec_l06Own allOK_nil)) (allTwo_cons ok2_spec_l06Give allTwo_nil) smL_nil ?_
  intro vals hp q r h hq
  unfold S_spec_PushRow_L0 at h
  dsimp only at h
  split at h
  · rename_i y0 y1 y2 y3 y4 y5
    obtain rfl := Option.some.inj h
    have h1 := hq
    unfold resOf at h1
    rw [chk_some] at h1
    exact ⟨_, (l_spec_PushRow_L0 real y0 y2 y3 y4 _ y1 y5 h1.1).trans hq⟩
  · cases h
def Pure.spec_PushRow (F : FOps) (x0 : List (List Int)) (x1 : Int) (x2 : Int) : Int := bif Pure.spec_l06Is F x0 x1 then bif Pure.spec_l06Give_way F (Prod.snd (Pure.spec_PushRow_L0 F x2 x0 0 x1 (Nat.succ ((List.length x0) + 0)) 0 x0)) x1 then x1 else 0 else 0
def Pure.spec_PushRow_1 (F : FOps) (x0 : List (List Int)) (x1 : Int) (x2 : Int) : Bool := bif Pure.spec_l06Is F x0 x1 then Pure.spec_l06Give_way F (Prod.snd (Pure.spec_PushRow_L0 F x2 x0 0 x1 (Nat.succ ((List.length x0) + 0)) 0 x0)) x1 else false
def Pure.spec_PushRow_2 (F : FOps) (x0 : List (List Int)) (x1 : Int) (x2 : Int) : List (List Int) := bif Pure.spec_l06Is F x0 x1 then bif Pure.spec_l06Give_way F (Prod.snd (Pure.spec_PushRow_L0 F x2 x0 0 x1 (Nat.succ ((List.length x0) + 0)) 0 x0)) x1 then Prod.snd (Pure.spec_PushRow_L0 F x2 x0 0 x1 (Nat.succ ((List.length x0) + 0)) 0 x0) else [] else []
def Pure.spec_PushRow_ok (F : FOps) (x0 : List (List Int)) (x1 : Int) (x2 : Int) : Bool := bif Pure.spec_l06Is_ok F x0 x1 then bif Pure.spec_l06Is F x0 x1 then bif Pure.spec_l06Own_ok F x0 x1 then bif Prod.fst (Pure.spec_PushRow_L0 F x2 x0 0 x1 (Nat.succ ((List.length x0) + 0)) 0 x0) then bif Pure.spec_l06Give_way F (Prod.snd (Pure.spec_PushRow_L0 F x2 x0 0 x1 (Nat.succ ((List.length x0) + 0)) 0 x0)) x1 then Pure.spec_l06Give_okA F (Prod.snd (Pure.spec_PushRow_L0 F x2 x0 0 x1 (Nat.succ ((List.length x0) + 0)) 0 x0)) x1 else Pure.spec_l06Give_okB F (Prod.snd (Pure.spec_PushRow_L0 F x2 x0 0 x1 (Nat.succ ((List.length x0) + 0)) 0 x0)) x1 else false else false else true else false
def c_spec_PushRow (F : FOps) : Con
  | [V.agg [A.sl 0, A.fl FloatKind.f32 x1], V.at (A.fl FloatKind.f32 x2)], [⟨false, OC.rows [K.f FloatKind.f32, K.f FloatKind.f32, K.f FloatKind.f32] x0⟩] => some (Pure.spec_PushRow_ok F x0 x1 x2, ⟨V.tup [(true, [A.sl 1, A.fl FloatKind.f32 (Pure.spec_PushRow F x0 x1 x2)]), (false, [A.bool (Pure.spec_PushRow_1 F x0 x1 x2)])], none, [⟨true, OC.rows [K.f FloatKind.f32, K.f FloatKind.f32, K.f FloatKind.f32] (Pure.spec_PushRow_2 F x0 x1 x2)⟩]⟩)
  | _, _ => none
theorem e_spec_PushRow (F : FOps) (x0 : List (List Int)) (x1 : Int) (x2 : Int) : Pure.spec_PushRow_ok F x0 x1 x2 = true → evFn (cxS F tyl [(54, c_spec_l06Is F), (63, c_spec_l06Own F)] [] [(0, S_spec_PushRow_L0 F)] 0 [(47, c2_spec_l06Give F)]) Try.f40 false [V.agg [A.sl 0, A.fl FloatKind.f32 x1], V.at (A.fl FloatKind.f32 x2)] [⟨false, OC.rows [K.f FloatKind.f32, K.f FloatKind.f32, K.f FloatKind.f32] x0⟩] = some ⟨V.tup [(true, [A.sl 1, A.fl FloatKind.f32 (Pure.spec_PushRow F x0 x1 x2)]), (false, [A.bool (Pure.spec_PushRow_1 F x0 x1 x2)])], none, [⟨true, OC.rows [K.f FloatKind.f32, K.f FloatKind.f32, K.f FloatKind.f32] (Pure.spec_PushRow_2 F x0 x1 x2)⟩]⟩ := by
  have h0 : evFn (cxS F tyl [(54, c_spec_l06Is F), (63, c_spec_l06Own F)] [] [(0, S_spec_PushRow_L0 F)] 0 [(47, c2_spec_l06Give F)]) Try.f40 false [V.agg [A.sl 0, A.fl FloatKind.f32 x1], V.at (A.fl FloatKind.f32 x2)] [⟨false, OC.rows [K.f FloatKind.f32, K.f FloatKind.f32, K.f FloatKind.f32] x0⟩] = bif Pure.spec_l06Is_ok F x0 x1 then bif Bool.not (Pure.spec_l06Is F x0 x1) then some ⟨V.tup [(true, [A.sl 1, A.fl FloatKind.f32 0]), (false, [A.bool false])], none, [⟨true, OC.rows [K.f FloatKind.f32, K.f FloatKind.f32, K.f FloatKind.f32] []⟩]⟩ else bif Pure.spec_l06Own_ok F x0 x1 then bif Prod.fst (Pure.spec_PushRow_L0 F x2 x0 0 x1 (Nat.succ ((List.length x0) + 0)) 0 x0) then bif Pure.spec_l06Give_way F (Prod.snd (Pure.spec_PushRow_L0 F x2 x0 0 x1 (Nat.succ ((List.length x0) + 0)) 0 x0)) x1 then bif Pure.spec_l06Give_okA F (Prod.snd (Pure.spec_PushRow_L0 F x2 x0 0 x1 (Nat.succ ((List.length x0) + 0)) 0 x0)) x1 then some ⟨V.tup [(true, [A.sl 1, A.fl FloatKind.f32 x1]), (false, [A.bool true])], none, [⟨true, OC.rows [K.f FloatKind.f32, K.f FloatKind.f32, K.f FloatKind.f32] (Prod.snd (Pure.spec_PushRow_L0 F x2 x0 0 x1 (Nat.succ ((List.length x0) + 0)) 0 x0))⟩]⟩ else none else bif Pure.spec_l06Give_okB F (Prod.snd (Pure.spec_PushRow_L0 F x2 x0 0 x1 (Nat.succ ((List.length x0) + 0)) 0 x0)) x1 then some ⟨V.tup [(true, [A.sl 1, A.fl FloatKind.f32 0]), (false, [A.bool false])], none, [⟨true, OC.rows [K.f FloatKind.f32, K.f FloatKind.f32, K.f FloatKind.f32] []⟩]⟩ else none else none else none else none := by kernel_rfl
  rw [h0]
  unfold Pure.spec_PushRow Pure.spec_PushRow_1 Pure.spec_PushRow_2 Pure.spec_PushRow_ok
  cases (Pure.spec_l06Is_ok F x0 x1) with
  | true =>
    cases (Pure.spec_l06Is F x0 x1) with
    | true =>
      cases (Pure.spec_l06Own_ok F x0 x1) with
      | true =>
        cases (Prod.fst (Pure.spec_PushRow_L0 F x2 x0 0 x1 (Nat.succ ((List.length x0) + 0)) 0 x0)) with
        | true =>
          cases (Pure.spec_l06Give_way F (Prod.snd (Pure.spec_PushRow_L0 F x2 x0 0 x1 (Nat.succ ((List.length x0) + 0)) 0 x0)) x1) with
          | true =>
            cases (Pure.spec_l06Give_okA F (Prod.snd (Pure.spec_PushRow_L0 F x2 x0 0 x1 (Nat.succ ((List.length x0) + 0)) 0 x0)) x1) with
            | true =>
              intro _; rfl
            | false =>
              intro h; exact absurd h Bool.false_ne_true
          | false =>
            cases (Pure.spec_l06Give_okB F (Prod.snd (Pure.spec_PushRow_L0 F x2 x0 0 x1 (Nat.succ ((List.length x0) + 0)) 0 x0)) x1) with
            | true =>
              intro _; rfl
            | false =>
              intro h; exact absurd h Bool.false_ne_true
        | false =>
          intro h; exact absurd h Bool.false_ne_true
      | false =>
        intro h; exact absurd h Bool.false_ne_true
    | false =>
      intro _; rfl
  | false =>
    intro h; exact absurd h Bool.false_ne_true
theorem ok_spec_PushRow : CallOK Try.prog 40 (c_spec_PushRow real) := by
  refine callOK_of fun args h ret hc => ?_
  unfold c_spec_PushRow at hc
  split at hc
  · rename_i x1 x2 x0
    obtain ⟨hok, rfl⟩ := some_ret hc
    exact holds_ev2 prog_ok (allOK_cons ok_spec_l06Is (allOK_cons ok_spec_l06Own allOK_nil)) (allTwo_cons ok2_spec_l06Give allTwo_nil) Try.func40 rfl rfl (smL_cons (body := .loop (loopB 0 (codeOf Try.f40))) (by kernel_rfl) t_spec_PushRow_L0 smL_nil) rfl (e_spec_PushRow real x0 x1 x2 hok)
  · cases hc
def Pure.impl_PushRow_ok (F : FOps) (x0 : List (List Int)) (x1 : Int) (x2 : Int) : Bool := Pure.impl_each_push_ok F x0 x1 x2
def c_impl_PushRow (F : FOps) : Con
  | [V.agg [A.sl 0, A.fl FloatKind.f32 x1], V.at (A.fl FloatKind.f32 x2)], [⟨false, OC.rows [K.f FloatKind.f32, K.f FloatKind.f32, K.f FloatKind.f32] x0⟩] => some (Pure.impl_PushRow_ok F x0 x1 x2, ⟨V.tup [(true, [A.sl 1, A.fl FloatKind.f32 (Pure.impl_changedRow_push F x0 x1 x2)]), (false, [A.bool (Pure.impl_changedRow_push_1 F x0 x1 x2)])], none, [⟨true, OC.rows [K.f FloatKind.f32, K.f FloatKind.f32, K.f FloatKind.f32] (Pure.impl_changedRow_push_2 F x0 x1 x2)⟩]⟩)
  | _, _ => none
theorem e_impl_PushRow (F : FOps) (x0 : List (List Int)) (x1 : Int) (x2 : Int) : Pure.impl_PushRow_ok F x0 x1 x2 = true → evFn (cxS F tyl [(70, c_impl_PushRow_c1 F), (64, c_impl_each_or1 F)] [70] [] 0) Try.f41 false [V.agg [A.sl 0, A.fl FloatKind.f32 x1], V.at (A.fl FloatKind.f32 x2)] [⟨false, OC.rows [K.f FloatKind.f32, K.f FloatKind.f32, K.f FloatKind.f32] x0⟩] = some ⟨V.tup [(true, [A.sl 1, A.fl FloatKind.f32 (Pure.impl_changedRow_push F x0 x1 x2)]), (false, [A.bool (Pure.impl_changedRow_push_1 F x0 x1 x2)])], none, [⟨true, OC.rows [K.f FloatKind.f32, K.f FloatKind.f32, K.f FloatKind.f32] (Pure.impl_changedRow_push_2 F x0 x1 x2)⟩]⟩ := by
  have h0 : evFn (cxS F tyl [(70, c_impl_PushRow_c1 F), (64, c_impl_each_or1 F)] [70] [] 0) Try.f41 false [V.agg [A.sl 0, A.fl FloatKind.f32 x1], V.at (A.fl FloatKind.f32 x2)] [⟨false, OC.rows [K.f FloatKind.f32, K.f FloatKind.f32, K.f FloatKind.f32] x0⟩] = bif Pure.impl_each_push_ok F x0 x1 x2 then some ⟨V.tup [(true, [A.sl 1, A.fl FloatKind.f32 (Pure.impl_changedRow_push F x0 x1 x2)]), (false, [A.bool (Pure.impl_changedRow_push_1 F x0 x1 x2)])], none, [⟨true, OC.rows [K.f FloatKind.f32, K.f FloatKind.f32, K.f FloatKind.f32] (Pure.impl_changedRow_push_2 F x0 x1 x2)⟩]⟩ else none := by kernel_rfl
  rw [h0]
  unfold Pure.impl_PushRow_ok
  cases (Pure.impl_each_push_ok F x0 x1 x2) with
  | true =>
    intro _; rfl
  | false =>
    intro h; exact absurd h Bool.false_ne_true
theorem ok_impl_PushRow : CallOK Try.prog 41 (c_impl_PushRow real) := by
  refine callOK_of fun args h ret hc => ?_
  unfold c_impl_PushRow at hc
  split at hc
  · rename_i x1 x2 x0
    obtain ⟨hok, rfl⟩ := some_ret hc
    exact holds_ev prog_ok (allOK_cons ok_impl_PushRow_c1 (allOK_cons ok_impl_each_or1 allOK_nil)) Try.func41 rfl rfl smL_nil rfl (e_impl_PushRow real x0 x1 x2 hok)
  · cases hc
def Pure.laws_FnExactPushRow (F : FOps) (x0 : List (List Int)) (x1 : Int) (x2 : Int) : Bool := bif Decidable.decide ((Pure.laws_szRow F x0 x1 1048576) < 0) then true else bif Pure.laws_eqRow F (Pure.impl_changedRow_push_2 F (Pure.laws_toBallS F x0) x1 x2) (Pure.impl_changedRow_push F (Pure.laws_toBallS F x0) x1 x2) (Pure.spec_PushRow_2 F (Pure.laws_toBallS F x0) x1 x2) (Pure.spec_PushRow F (Pure.laws_toBallS F x0) x1 x2) then bif (Pure.impl_changedRow_push_1 F (Pure.laws_toBallS F x0) x1 x2) == (Pure.spec_PushRow_1 F (Pure.laws_toBallS F x0) x1 x2) then bif Pure.laws_eqRow F (Pure.laws_toBallS F x0) x1 (Pure.laws_toBallS F x0) x1 then bif Decidable.decide ((Pure.laws_markBallS F (Pure.laws_toBallS F x0) 1) < 0) then false else bif Decidable.decide ((Pure.laws_heldRow F (Pure.laws_markBallS_1 F (Pure.impl_changedRow_push_2 F (Pure.laws_toBallS F x0) x1 x2) 1) (Pure.impl_changedRow_push F (Pure.laws_toBallS F x0) x1 x2) 1) < 0) then false else bif (Pure.laws_heldRow F (Pure.laws_markBallS_1 F (Pure.impl_changedRow_push_2 F (Pure.laws_toBallS F x0) x1 x2) 1) (Pure.impl_changedRow_push F (Pure.laws_toBallS F x0) x1 x2) 1) != (Pure.laws_markBallS F (Pure.impl_changedRow_push_2 F (Pure.laws_toBallS F x0) x1 x2) 1) then false else true else false else false else false
def Pure.laws_FnExactPushRow_ok (F : FOps) (x0 : List (List Int)) (x1 : Int) (x2 : Int) : Bool := bif Decidable.decide ((Pure.laws_szRow F x0 x1 1048576) < 0) then true else bif Pure.laws_toRow_ok F x0 x1 then bif Pure.spec_PushRow_ok F (Pure.laws_toBallS F x0) x1 x2 then bif Pure.impl_PushRow_ok F (Pure.laws_toBallS F x0) x1 x2 then bif Pure.laws_eqRow_ok F (Pure.impl_changedRow_push_2 F (Pure.laws_toBallS F x0) x1 x2) (Pure.impl_changedRow_push F (Pure.laws_toBallS F x0) x1 x2) (Pure.spec_PushRow_2 F (Pure.laws_toBallS F x0) x1 x2) (Pure.spec_PushRow F (Pure.laws_toBallS F x0) x1 x2) then bif Pure.laws_eqRow F (Pure.impl_changedRow_push_2 F (Pure.laws_toBallS F x0) x1 x2) (Pure.impl_changedRow_push F (Pure.laws_toBallS F x0) x1 x2) (Pure.spec_PushRow_2 F (Pure.laws_toBallS F x0) x1 x2) (Pure.spec_PushRow F (Pure.laws_toBallS F x0) x1 x2) then bif (Pure.impl_changedRow_push_1 F (Pure.laws_toBallS F x0) x1 x2) == (Pure.spec_PushRow_1 F (Pure.laws_toBallS F x0) x1 x2) then bif Pure.laws_eqRow_ok F (Pure.laws_toBallS F x0) x1 (Pure.laws_toBallS F x0) x1 then bif Pure.laws_eqRow F (Pure.laws_toBallS F x0) x1 (Pure.laws_toBallS F x0) x1 then bif Pure.laws_markRow_ok F (Pure.laws_toBallS F x0) x1 1 then bif Decidable.decide ((Pure.laws_markBallS F (Pure.laws_toBallS F x0) 1) < 0) then true else bif Pure.laws_markRow_ok F (Pure.impl_changedRow_push_2 F (Pure.laws_toBallS F x0) x1 x2) (Pure.impl_changedRow_push F (Pure.laws_toBallS F x0) x1 x2) 1 then Pure.laws_heldRow_ok F (Pure.laws_markBallS_1 F (Pure.impl_changedRow_push_2 F (Pure.laws_toBallS F x0) x1 x2) 1) (Pure.impl_changedRow_push F (Pure.laws_toBallS F x0) x1 x2) 1 else false else false else true else false else true else true else false else false else false else false
def c_laws_FnExactPushRow (F : FOps) : Con
  | [V.agg [A.sl 0, A.fl FloatKind.f32 x1], V.at (A.fl FloatKind.f32 x2)], [⟨false, OC.rows [K.f FloatKind.f32, K.f FloatKind.f32, K.f FloatKind.f32] x0⟩] => some (Pure.laws_FnExactPushRow_ok F x0 x1 x2, ⟨V.at (A.bool (Pure.laws_FnExactPushRow F x0 x1 x2)), none, []⟩)
  | _, _ => none
theorem e_laws_FnExactPushRow (F : FOps) (x0 : List (List Int)) (x1 : Int) (x2 : Int) : Pure.laws_FnExactPushRow_ok F x0 x1 x2 = true → evFn (cxS F tyl [(19, c_laws_szRow F), (21, c_laws_toRow F), (40, c_spec_PushRow F), (41, c_impl_PushRow F), (16, c_laws_eqRow F), (17, c_laws_markRow F), (18, c_laws_heldRow F)] [17] [] 0) Try.f11 false [V.agg [A.sl 0, A.fl FloatKind.f32 x1], V.at (A.fl FloatKind.f32 x2)] [⟨false, OC.rows [K.f FloatKind.f32, K.f FloatKind.f32, K.f FloatKind.f32] x0⟩] = some ⟨V.at (A.bool (Pure.laws_FnExactPushRow F x0 x1 x2)), none, []⟩ := by
  have h0 : evFn (cxS F tyl [(19, c_laws_szRow F), (21, c_laws_toRow F), (40, c_spec_PushRow F), (41, c_impl_PushRow F), (16, c_laws_eqRow F), (17, c_laws_markRow F), (18, c_laws_heldRow F)] [17] [] 0) Try.f11 false [V.agg [A.sl 0, A.fl FloatKind.f32 x1], V.at (A.fl FloatKind.f32 x2)] [⟨false, OC.rows [K.f FloatKind.f32, K.f FloatKind.f32, K.f FloatKind.f32] x0⟩] = bif Decidable.decide ((Pure.laws_szRow F x0 x1 1048576) < 0) then some ⟨V.at (A.bool true), none, []⟩ else bif Pure.laws_toRow_ok F x0 x1 then bif Pure.spec_PushRow_ok F (Pure.laws_toBallS F x0) x1 x2 then bif Pure.laws_toRow_ok F x0 x1 then bif Pure.impl_PushRow_ok F (Pure.laws_toBallS F x0) x1 x2 then bif Pure.laws_eqRow_ok F (Pure.impl_changedRow_push_2 F (Pure.laws_toBallS F x0) x1 x2) (Pure.impl_changedRow_push F (Pure.laws_toBallS F x0) x1 x2) (Pure.spec_PushRow_2 F (Pure.laws_toBallS F x0) x1 x2) (Pure.spec_PushRow F (Pure.laws_toBallS F x0) x1 x2) then bif Bool.not (Pure.laws_eqRow F (Pure.impl_changedRow_push_2 F (Pure.laws_toBallS F x0) x1 x2) (Pure.impl_changedRow_push F (Pure.laws_toBallS F x0) x1 x2) (Pure.spec_PushRow_2 F (Pure.laws_toBallS F x0) x1 x2) (Pure.spec_PushRow F (Pure.laws_toBallS F x0) x1 x2)) then some ⟨V.at (A.bool false), none, []⟩ else bif Bool.not ((Pure.impl_changedRow_push_1 F (Pure.laws_toBallS F x0) x1 x2) == (Pure.spec_PushRow_1 F (Pure.laws_toBallS F x0) x1 x2)) then some ⟨V.at (A.bool false), none, []⟩ else bif Pure.laws_toRow_ok F x0 x1 then bif Pure.laws_eqRow_ok F (Pure.laws_toBallS F x0) x1 (Pure.laws_toBallS F x0) x1 then bif Bool.not (Pure.laws_eqRow F (Pure.laws_toBallS F x0) x1 (Pure.laws_toBallS F x0) x1) then some ⟨V.at (A.bool false), none, []⟩ else bif Pure.laws_markRow_ok F (Pure.laws_toBallS F x0) x1 1 then bif Decidable.decide ((Pure.laws_markBallS F (Pure.laws_toBallS F x0) 1) < 0) then some ⟨V.at (A.bool false), none, []⟩ else bif Pure.laws_eqRow_ok F (Pure.impl_changedRow_push_2 F (Pure.laws_toBallS F x0) x1 x2) (Pure.impl_changedRow_push F (Pure.laws_toBallS F x0) x1 x2) (Pure.spec_PushRow_2 F (Pure.laws_toBallS F x0) x1 x2) (Pure.spec_PushRow F (Pure.laws_toBallS F x0) x1 x2) then bif Bool.not (Pure.laws_eqRow F (Pure.impl_changedRow_push_2 F (Pure.laws_toBallS F x0) x1 x2) (Pure.impl_changedRow_push F (Pure.laws_toBallS F x0) x1 x2) (Pure.spec_PushRow_2 F (Pure.laws_toBallS F x0) x1 x2) (Pure.spec_PushRow F (Pure.laws_toBallS F x0) x1 x2)) then some ⟨V.at (A.bool false), none, []⟩ else bif Bool.not ((Pure.impl_changedRow_push_1 F (Pure.laws_toBallS F x0) x1 x2) == (Pure.spec_PushRow_1 F (Pure.laws_toBallS F x0) x1 x2)) then some ⟨V.at (A.bool false), none, []⟩ else bif Pure.laws_markRow_ok F (Pure.impl_changedRow_push_2 F (Pure.laws_toBallS F x0) x1 x2) (Pure.impl_changedRow_push F (Pure.laws_toBallS F x0) x1 x2) 1 then bif Pure.laws_heldRow_ok F (Pure.laws_markBallS_1 F (Pure.impl_changedRow_push_2 F (Pure.laws_toBallS F x0) x1 x2) 1) (Pure.impl_changedRow_push F (Pure.laws_toBallS F x0) x1 x2) 1 then bif Decidable.decide ((Pure.laws_heldRow F (Pure.laws_markBallS_1 F (Pure.impl_changedRow_push_2 F (Pure.laws_toBallS F x0) x1 x2) 1) (Pure.impl_changedRow_push F (Pure.laws_toBallS F x0) x1 x2) 1) < 0) then some ⟨V.at (A.bool false), none, []⟩ else bif (Pure.laws_heldRow F (Pure.laws_markBallS_1 F (Pure.impl_changedRow_push_2 F (Pure.laws_toBallS F x0) x1 x2) 1) (Pure.impl_changedRow_push F (Pure.laws_toBallS F x0) x1 x2) 1) != (Pure.laws_markBallS F (Pure.impl_changedRow_push_2 F (Pure.laws_toBallS F x0) x1 x2) 1) then some ⟨V.at (A.bool false), none, []⟩ else bif Pure.laws_toRow_ok F x0 x1 then bif Pure.impl_PushRow_ok F (Pure.laws_toBallS F x0) x1 x2 then bif Pure.laws_eqRow_ok F (Pure.impl_changedRow_push_2 F (Pure.laws_toBallS F x0) x1 x2) (Pure.impl_changedRow_push F (Pure.laws_toBallS F x0) x1 x2) (Pure.spec_PushRow_2 F (Pure.laws_toBallS F x0) x1 x2) (Pure.spec_PushRow F (Pure.laws_toBallS F x0) x1 x2) then bif Bool.not (Pure.laws_eqRow F (Pure.impl_changedRow_push_2 F (Pure.laws_toBallS F x0) x1 x2) (Pure.impl_changedRow_push F (Pure.laws_toBallS F x0) x1 x2) (Pure.spec_PushRow_2 F (Pure.laws_toBallS F x0) x1 x2) (Pure.spec_PushRow F (Pure.laws_toBallS F x0) x1 x2)) then some ⟨V.at (A.bool false), none, []⟩ else bif Bool.not ((Pure.impl_changedRow_push_1 F (Pure.laws_toBallS F x0) x1 x2) == (Pure.spec_PushRow_1 F (Pure.laws_toBallS F x0) x1 x2)) then some ⟨V.at (A.bool false), none, []⟩ else bif Pure.laws_heldRow_ok F (Pure.laws_markBallS_1 F (Pure.impl_changedRow_push_2 F (Pure.laws_toBallS F x0) x1 x2) 1) (Pure.impl_changedRow_push F (Pure.laws_toBallS F x0) x1 x2) 1 then bif Decidable.decide ((Pure.laws_heldRow F (Pure.laws_markBallS_1 F (Pure.impl_changedRow_push_2 F (Pure.laws_toBallS F x0) x1 x2) 1) (Pure.impl_changedRow_push F (Pure.laws_toBallS F x0) x1 x2) 1) < 0) then some ⟨V.at (A.bool false), none, []⟩ else bif (Pure.laws_heldRow F (Pure.laws_markBallS_1 F (Pure.impl_changedRow_push_2 F (Pure.laws_toBallS F x0) x1 x2) 1) (Pure.impl_changedRow_push F (Pure.laws_toBallS F x0) x1 x2) 1) != (Pure.laws_markBallS F (Pure.impl_changedRow_push_2 F (Pure.laws_toBallS F x0) x1 x2) 1) then some ⟨V.at (A.bool false), none, []⟩ else some ⟨V.at (A.bool true), none, []⟩ else none else none else none else none else none else none else none else none else none else none else none else none else none else none else none := by kernel_rfl
  rw [h0]
  unfold Pure.laws_FnExactPushRow Pure.laws_FnExactPushRow_ok
  cases (Decidable.decide ((Pure.laws_szRow F x0 x1 1048576) < 0)) with
  | true =>
    intro _; rfl
  | false =>
    cases (Pure.laws_toRow_ok F x0 x1) with
    | true =>
      cases (Pure.spec_PushRow_ok F (Pure.laws_toBallS F x0) x1 x2) with
      | true =>
        cases (Pure.impl_PushRow_ok F (Pure.laws_toBallS F x0) x1 x2) with
        | true =>
          cases (Pure.laws_eqRow_ok F (Pure.impl_changedRow_push_2 F (Pure.laws_toBallS F x0) x1 x2) (Pure.impl_changedRow_push F (Pure.laws_toBallS F x0) x1 x2) (Pure.spec_PushRow_2 F (Pure.laws_toBallS F x0) x1 x2) (Pure.spec_PushRow F (Pure.laws_toBallS F x0) x1 x2)) with
          | true =>
            cases (Pure.laws_eqRow F (Pure.impl_changedRow_push_2 F (Pure.laws_toBallS F x0) x1 x2) (Pure.impl_changedRow_push F (Pure.laws_toBallS F x0) x1 x2) (Pure.spec_PushRow_2 F (Pure.laws_toBallS F x0) x1 x2) (Pure.spec_PushRow F (Pure.laws_toBallS F x0) x1 x2)) with
            | true =>
              cases ((Pure.impl_changedRow_push_1 F (Pure.laws_toBallS F x0) x1 x2) == (Pure.spec_PushRow_1 F (Pure.laws_toBallS F x0) x1 x2)) with
              | true =>
                cases (Pure.laws_eqRow_ok F (Pure.laws_toBallS F x0) x1 (Pure.laws_toBallS F x0) x1) with
                | true =>
                  cases (Pure.laws_eqRow F (Pure.laws_toBallS F x0) x1 (Pure.laws_toBallS F x0) x1) with
                  | true =>
                    cases (Pure.laws_markRow_ok F (Pure.laws_toBallS F x0) x1 1) with
                    | true =>
                      cases (Decidable.decide ((Pure.laws_markBallS F (Pure.laws_toBallS F x0) 1) < 0)) with
                      | true =>
                        intro _; rfl
                      | false =>
                        cases (Pure.laws_markRow_ok F (Pure.impl_changedRow_push_2 F (Pure.laws_toBallS F x0) x1 x2) (Pure.impl_changedRow_push F (Pure.laws_toBallS F x0) x1 x2) 1) with
                        | true =>
                          cases (Pure.laws_heldRow_ok F (Pure.laws_markBallS_1 F (Pure.impl_changedRow_push_2 F (Pure.laws_toBallS F x0) x1 x2) 1) (Pure.impl_changedRow_push F (Pure.laws_toBallS F x0) x1 x2) 1) with
                          | true =>
                            cases (Decidable.decide ((Pure.laws_heldRow F (Pure.laws_markBallS_1 F (Pure.impl_changedRow_push_2 F (Pure.laws_toBallS F x0) x1 x2) 1) (Pure.impl_changedRow_push F (Pure.laws_toBallS F x0) x1 x2) 1) < 0)) with
                            | true =>
                              intro _; rfl
                            | false =>
                              cases ((Pure.laws_heldRow F (Pure.laws_markBallS_1 F (Pure.impl_changedRow_push_2 F (Pure.laws_toBallS F x0) x1 x2) 1) (Pure.impl_changedRow_push F (Pure.laws_toBallS F x0) x1 x2) 1) != (Pure.laws_markBallS F (Pure.impl_changedRow_push_2 F (Pure.laws_toBallS F x0) x1 x2) 1)) with
                              | true =>
                                intro _; rfl
                              | false =>
                                intro _; rfl
                          | false =>
                            intro h; exact absurd h Bool.false_ne_true
                        | false =>
                          intro h; exact absurd h Bool.false_ne_true
                    | false =>
                      intro h; exact absurd h Bool.false_ne_true
                  | false =>
                    intro _; rfl
                | false =>
                  intro h; exact absurd h Bool.false_ne_true
              | false =>
                intro _; rfl
            | false =>
              intro _; rfl
          | false =>
            intro h; exact absurd h Bool.false_ne_true
        | false =>
          intro h; exact absurd h Bool.false_ne_true
      | false =>
        intro h; exact absurd h Bool.false_ne_true
    | false =>
      intro h; exact absurd h Bool.false_ne_true
theorem ok_laws_FnExactPushRow : CallOK Try.prog 11 (c_laws_FnExactPushRow real) := by
  refine callOK_of fun args h ret hc => ?_
  unfold c_laws_FnExactPushRow at hc
  split at hc
  · rename_i x1 x2 x0
    obtain ⟨hok, rfl⟩ := some_ret hc
    exact holds_ev prog_ok (allOK_cons ok_laws_szRow (allOK_cons ok_laws_toRow (allOK_cons ok_spec_PushRow (allOK_cons ok_impl_PushRow (allOK_cons ok_laws_eqRow (allOK_cons ok_laws_markRow (allOK_cons ok_laws_heldRow allOK_nil))))))) Try.func11 rfl rfl smL_nil rfl (e_laws_FnExactPushRow real x0 x1 x2 hok)
  · cases hc
end Go.Fx
