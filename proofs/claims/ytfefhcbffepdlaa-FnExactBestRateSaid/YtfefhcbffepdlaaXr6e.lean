import Derived.Test.YtfefhcbffepdlaaXr6c
import Derived.KernelRfl
namespace Go.Fx
open Go.Proofs
set_option maxRecDepth 100000
def c_laws_toPendulum (_ : FOps) : Con
  | [V.agg [A.fl FloatKind.f32 x0, A.fl FloatKind.f32 x1, A.fl FloatKind.f32 x2, A.fl FloatKind.f32 x3, A.fl FloatKind.f32 x4]], [] => some (true, ⟨V.agg [A.fl FloatKind.f32 x0, A.fl FloatKind.f32 x1, A.fl FloatKind.f32 x2, A.fl FloatKind.f32 x3, A.fl FloatKind.f32 x4], none, []⟩)
  | _, _ => none
theorem e_laws_toPendulum (F : FOps) (x0 : Int) (x1 : Int) (x2 : Int) (x3 : Int) (x4 : Int) : evFn (cxS F tyl [] [] [] 0) Try.f27 false [V.agg [A.fl FloatKind.f32 x0, A.fl FloatKind.f32 x1, A.fl FloatKind.f32 x2, A.fl FloatKind.f32 x3, A.fl FloatKind.f32 x4]] [] = some ⟨V.agg [A.fl FloatKind.f32 x0, A.fl FloatKind.f32 x1, A.fl FloatKind.f32 x2, A.fl FloatKind.f32 x3, A.fl FloatKind.f32 x4], none, []⟩ := by
  kernel_rfl
theorem ok_laws_toPendulum : CallOK Try.prog 27 (c_laws_toPendulum real) := by
  refine callOK_of fun args h ret hc => ?_
  unfold c_laws_toPendulum at hc
  split at hc
  · rename_i x0 x1 x2 x3 x4
    obtain ⟨_, rfl⟩ := some_ret hc
    exact holds_ev prog_ok allOK_nil Try.func27 rfl rfl smL_nil rfl (e_laws_toPendulum real x0 x1 x2 x3 x4)
  · cases hc
def c_laws_toSwing (_ : FOps) : Con
  | [V.agg [A.fl FloatKind.f32 x0, A.fl FloatKind.f32 x1, A.fl FloatKind.f32 x2]], [] => some (true, ⟨V.agg [A.fl FloatKind.f32 x0, A.fl FloatKind.f32 x1, A.fl FloatKind.f32 x2], none, []⟩)
  | _, _ => none
theorem e_laws_toSwing (F : FOps) (x0 : Int) (x1 : Int) (x2 : Int) : evFn (cxS F tyl [] [] [] 0) Try.f28 false [V.agg [A.fl FloatKind.f32 x0, A.fl FloatKind.f32 x1, A.fl FloatKind.f32 x2]] [] = some ⟨V.agg [A.fl FloatKind.f32 x0, A.fl FloatKind.f32 x1, A.fl FloatKind.f32 x2], none, []⟩ := by
  kernel_rfl
theorem ok_laws_toSwing : CallOK Try.prog 28 (c_laws_toSwing real) := by
  refine callOK_of fun args h ret hc => ?_
  unfold c_laws_toSwing at hc
  split at hc
  · rename_i x0 x1 x2
    obtain ⟨_, rfl⟩ := some_ret hc
    exact holds_ev prog_ok allOK_nil Try.func28 rfl rfl smL_nil rfl (e_laws_toSwing real x0 x1 x2)
  · cases hc
def Pure.laws_toFloat32S_L0 (F : FOps) (y1 : List (List Int)) : Nat → Int → (List (List Int)) → (Bool × (List (List Int)))
  | 0, _, _ => (false, [])
  | n + 1, y0, y2 => bif (Decidable.decide (y0 < (Int.ofNat (List.length y1)))) then (bif (Decidable.decide (0 ≤ y0)) then (bif (Decidable.decide (y0 < (Int.ofNat (List.length y1)))) then (bif (Decidable.decide (0 ≤ y0)) then (bif (Decidable.decide (y0 < (Int.ofNat (List.length y2)))) then (Pure.laws_toFloat32S_L0 F y1 n (IntKind.wrap IntKind.i64 (y0 + 1)) (List.set y2 (Int.toNat y0) [List.getD (List.getD y1 (Int.toNat y0) []) 0 0])) else ((false, []))) else ((false, []))) else ((false, []))) else ((false, []))) else ((true, y2))
def R_laws_toFloat32S_L0 (y1 : List (List Int)) (r : (Bool × (List (List Int)))) : Bool × Bool × (Ex × List V × List Ob) × (Ex × List V × List Ob) := ((r).1, false, (Ex.normal, [V.at (A.sl 1)], [⟨false, OC.rows [K.f FloatKind.f32] y1⟩, ⟨true, OC.rows [K.f FloatKind.f32] (r).2⟩]), (Ex.normal, [V.at (A.sl 1)], [⟨false, OC.rows [K.f FloatKind.f32] y1⟩, ⟨true, OC.rows [K.f FloatKind.f32] (r).2⟩]))
def S_laws_toFloat32S_L0 (F : FOps) : Sm := ⟨[0, 3, 4], [58, 58, 3], [3], fun vals hp => match vals, hp with
  | [V.at (A.sl 0), V.at (A.sl 1), V.at (A.int IntKind.i64 y0)], [⟨false, OC.rows [K.f FloatKind.f32] y1⟩, ⟨true, OC.rows [K.f FloatKind.f32] y2⟩] => some (R_laws_toFloat32S_L0 y1 (Pure.laws_toFloat32S_L0 F y1 ((Int.ofNat (List.length y1)) - y0 + 1).toNat y0 y2))
  | _, _ => none⟩
theorem l_laws_toFloat32S_L0 (F : FOps) (y1 : List (List Int)) : ∀ (fuel : Nat) (y0 : Int) (y2 : List (List Int)), (Pure.laws_toFloat32S_L0 F y1 fuel y0 y2).1 = true → loopOf (cxS F tyl [] [] [] 0) 1 22 0 [0, 3, 4] [58, 58, 3] [3] (loopB 0 (codeOf Try.f29)) fuel [V.at (A.sl 0), V.at (A.sl 1), V.at (A.int IntKind.i64 y0)] [⟨false, OC.rows [K.f FloatKind.f32] y1⟩, ⟨true, OC.rows [K.f FloatKind.f32] y2⟩] = resOf (R_laws_toFloat32S_L0 y1 (Pure.laws_toFloat32S_L0 F y1 fuel y0 y2)) := by
  intro fuel
  induction fuel with
  | zero => intro y0 y2 h; exact absurd h Bool.false_ne_true
  | succ n ih =>
    intro y0 y2
    have h0 : roundOf (cxS F tyl [] [] [] 0) 1 22 0 [0, 3, 4] [58, 58, 3] [3] (loopB 0 (codeOf Try.f29)) [V.at (A.sl 0), V.at (A.sl 1), V.at (A.int IntKind.i64 y0)] [⟨false, OC.rows [K.f FloatKind.f32] y1⟩, ⟨true, OC.rows [K.f FloatKind.f32] y2⟩] = (bif Decidable.decide (y0 < (Int.ofNat (List.length y1))) then bif Decidable.decide (0 ≤ y0) then bif Decidable.decide (y0 < (Int.ofNat (List.length y1))) then bif Decidable.decide (0 ≤ y0) then bif Decidable.decide (y0 < (Int.ofNat (List.length y2))) then some (true, (Ex.normal, ([V.at (A.sl 0), V.at (A.sl 1), V.at (A.int IntKind.i64 (IntKind.wrap IntKind.i64 (y0 + 1)))], [⟨false, OC.rows [K.f FloatKind.f32] y1⟩, ⟨true, OC.rows [K.f FloatKind.f32] (List.set y2 (Int.toNat y0) [List.getD (List.getD y1 (Int.toNat y0) []) 0 0])⟩]))) else none else none else none else none else some (false, (Ex.normal, ([V.at (A.sl 1)], [⟨false, OC.rows [K.f FloatKind.f32] y1⟩, ⟨true, OC.rows [K.f FloatKind.f32] y2⟩])))) := by kernel_rfl
    unfold loopOf
    rw [h0]
    unfold Pure.laws_toFloat32S_L0
    cases (Decidable.decide (y0 < (Int.ofNat (List.length y1)))) with
    | true =>
      cases (Decidable.decide (0 ≤ y0)) with
      | true =>
        cases (Decidable.decide (y0 < (Int.ofNat (List.length y2)))) with
        | true =>
          exact ih _ _
        | false =>
          intro h; exact absurd h Bool.false_ne_true
      | false =>
        intro h; exact absurd h Bool.false_ne_true
    | false =>
      intro _; rfl
theorem t_laws_toFloat32S_L0 : SmTo Try.prog 1 22 (S_laws_toFloat32S_L0 real) 0 (.loop (loopB 0 (codeOf Try.f29))) := by
  refine smTo_ev (cl := []) (ef := []) (sm := []) (un := 0) prog_ok allOK_nil smL_nil ?_
  intro vals hp q r h hq
  unfold S_laws_toFloat32S_L0 at h
  dsimp only at h
  split at h
  · rename_i y0 y1 y2
    obtain rfl := Option.some.inj h
    have h1 := hq
    unfold resOf at h1
    rw [chk_some] at h1
    exact ⟨_, (l_laws_toFloat32S_L0 real y1 _ y0 y2 h1.1).trans hq⟩
  · cases h
def Pure.laws_toFloat32S (F : FOps) (x0 : List (List Int)) : List (List Int) := Prod.snd (Pure.laws_toFloat32S_L0 F x0 (Nat.succ ((List.length x0) + 0)) 0 (List.replicate (Int.toNat (Int.ofNat (List.length x0))) [0]))
def Pure.laws_toFloat32S_ok (F : FOps) (x0 : List (List Int)) : Bool := bif (Int.ofNat (List.length x0)) == (Int.ofNat (List.length x0)) then bif Decidable.decide ((Int.ofNat (List.length x0)) ≤ 1073741824) then Prod.fst (Pure.laws_toFloat32S_L0 F x0 (Nat.succ ((List.length x0) + 0)) 0 (List.replicate (Int.toNat (Int.ofNat (List.length x0))) [0])) else false else false
def c_laws_toFloat32S (F : FOps) : Con
  | [V.at (A.sl 0)], [⟨false, OC.rows [K.f FloatKind.f32] x0⟩] => some (Pure.laws_toFloat32S_ok F x0, ⟨V.at (A.sl 1), none, [⟨true, OC.rows [K.f FloatKind.f32] (Pure.laws_toFloat32S F x0)⟩]⟩)
  | _, _ => none
theorem e_laws_toFloat32S (F : FOps) (x0 : List (List Int)) : Pure.laws_toFloat32S_ok F x0 = true → evFn (cxS F tyl [] [] [(0, S_laws_toFloat32S_L0 F)] 0) Try.f29 false [V.at (A.sl 0)] [⟨false, OC.rows [K.f FloatKind.f32] x0⟩] = some ⟨V.at (A.sl 1), none, [⟨true, OC.rows [K.f FloatKind.f32] (Pure.laws_toFloat32S F x0)⟩]⟩ := by
  have h0 : evFn (cxS F tyl [] [] [(0, S_laws_toFloat32S_L0 F)] 0) Try.f29 false [V.at (A.sl 0)] [⟨false, OC.rows [K.f FloatKind.f32] x0⟩] = bif (Int.ofNat (List.length x0)) == (Int.ofNat (List.length x0)) then bif Decidable.decide ((Int.ofNat (List.length x0)) ≤ 1073741824) then bif Prod.fst (Pure.laws_toFloat32S_L0 F x0 (Nat.succ ((List.length x0) + 0)) 0 (List.replicate (Int.toNat (Int.ofNat (List.length x0))) [0])) then some ⟨V.at (A.sl 1), none, [⟨true, OC.rows [K.f FloatKind.f32] (Prod.snd (Pure.laws_toFloat32S_L0 F x0 (Nat.succ ((List.length x0) + 0)) 0 (List.replicate (Int.toNat (Int.ofNat (List.length x0))) [0])))⟩]⟩ else none else none else none := by kernel_rfl
  rw [h0]
  unfold Pure.laws_toFloat32S Pure.laws_toFloat32S_ok
  cases ((Int.ofNat (List.length x0)) == (Int.ofNat (List.length x0))) with
  | true =>
    cases (Decidable.decide ((Int.ofNat (List.length x0)) ≤ 1073741824)) with
    | true =>
      cases (Prod.fst (Pure.laws_toFloat32S_L0 F x0 (Nat.succ ((List.length x0) + 0)) 0 (List.replicate (Int.toNat (Int.ofNat (List.length x0))) [0]))) with
      | true =>
        intro _; rfl
      | false =>
        intro h; exact absurd h Bool.false_ne_true
    | false =>
      intro h; exact absurd h Bool.false_ne_true
  | false =>
    intro h; exact absurd h Bool.false_ne_true
theorem ok_laws_toFloat32S : CallOK Try.prog 29 (c_laws_toFloat32S real) := by
  refine callOK_of fun args h ret hc => ?_
  unfold c_laws_toFloat32S at hc
  split at hc
  · rename_i x0
    obtain ⟨hok, rfl⟩ := some_ret hc
    exact holds_ev prog_ok allOK_nil Try.func29 rfl rfl (smL_cons (body := .loop (loopB 0 (codeOf Try.f29))) (by kernel_rfl) t_laws_toFloat32S_L0 smL_nil) rfl (e_laws_toFloat32S real x0 hok)
  · cases hc
def Pure.spec_l02Least (F : FOps) (x0 : Int) : Bool := bif Pure.spec_l01Finite F x0 then FOps.cmp F BinOp.geq FloatKind.f32 x0 0 else false
def c_spec_l02Least (F : FOps) : Con
  | [V.at (A.fl FloatKind.f32 x0)], [] => some (true, ⟨V.at (A.bool (Pure.spec_l02Least F x0)), none, []⟩)
  | _, _ => none
theorem e_spec_l02Least (F : FOps) (x0 : Int) : evFn (cxS F tyl [(47, c_spec_l01Finite F)] [] [] 0) Try.f84 false [V.at (A.fl FloatKind.f32 x0)] [] = some ⟨V.at (A.bool (Pure.spec_l02Least F x0)), none, []⟩ := by
  have h0 : evFn (cxS F tyl [(47, c_spec_l01Finite F)] [] [] 0) Try.f84 false [V.at (A.fl FloatKind.f32 x0)] [] = bif Pure.spec_l01Finite F x0 then some ⟨V.at (A.bool (FOps.cmp F BinOp.geq FloatKind.f32 x0 0)), none, []⟩ else some ⟨V.at (A.bool false), none, []⟩ := by kernel_rfl
  rw [h0]
  unfold Pure.spec_l02Least
  cases (Pure.spec_l01Finite F x0) with
  | true =>
    rfl
  | false =>
    rfl
theorem ok_spec_l02Least : CallOK Try.prog 84 (c_spec_l02Least real) := by
  refine callOK_of fun args h ret hc => ?_
  unfold c_spec_l02Least at hc
  split at hc
  · rename_i x0
    obtain ⟨_, rfl⟩ := some_ret hc
    exact holds_ev prog_ok (allOK_cons ok_spec_l01Finite allOK_nil) Try.func84 rfl rfl smL_nil rfl (e_spec_l02Least real x0)
  · cases hc
def Pure.spec_l02Is (F : FOps) (x0 : Int) (x1 : Int) (x2 : Int) (x3 : Int) (x4 : Int) : Bool := bif Pure.spec_l02Above F x0 then bif Pure.spec_l02Least F x1 then bif Pure.spec_l02Least F x2 then bif Pure.spec_l01Finite F x3 then Pure.spec_l01Finite F x4 else false else false else false else false
def c_spec_l02Is (F : FOps) : Con
  | [V.at (A.ptr 0 0 0)], [⟨false, OC.box [A.fl FloatKind.f32 x0, A.fl FloatKind.f32 x1, A.fl FloatKind.f32 x2, A.fl FloatKind.f32 x3, A.fl FloatKind.f32 x4]⟩] => some (true, ⟨V.at (A.bool (Pure.spec_l02Is F x0 x1 x2 x3 x4)), none, []⟩)
  | _, _ => none
theorem e_spec_l02Is (F : FOps) (x0 : Int) (x1 : Int) (x2 : Int) (x3 : Int) (x4 : Int) : evFn (cxS F tyl [(83, c_spec_l02Above F), (84, c_spec_l02Least F), (47, c_spec_l01Finite F)] [] [] 0) Try.f59 false [V.at (A.ptr 0 0 0)] [⟨false, OC.box [A.fl FloatKind.f32 x0, A.fl FloatKind.f32 x1, A.fl FloatKind.f32 x2, A.fl FloatKind.f32 x3, A.fl FloatKind.f32 x4]⟩] = some ⟨V.at (A.bool (Pure.spec_l02Is F x0 x1 x2 x3 x4)), none, []⟩ := by
  have h0 : evFn (cxS F tyl [(83, c_spec_l02Above F), (84, c_spec_l02Least F), (47, c_spec_l01Finite F)] [] [] 0) Try.f59 false [V.at (A.ptr 0 0 0)] [⟨false, OC.box [A.fl FloatKind.f32 x0, A.fl FloatKind.f32 x1, A.fl FloatKind.f32 x2, A.fl FloatKind.f32 x3, A.fl FloatKind.f32 x4]⟩] = bif Pure.spec_l02Above F x0 then bif Pure.spec_l02Least F x1 then bif Pure.spec_l02Least F x2 then bif Pure.spec_l01Finite F x3 then some ⟨V.at (A.bool (Pure.spec_l01Finite F x4)), none, []⟩ else some ⟨V.at (A.bool false), none, []⟩ else some ⟨V.at (A.bool false), none, []⟩ else some ⟨V.at (A.bool false), none, []⟩ else some ⟨V.at (A.bool false), none, []⟩ := by kernel_rfl
  rw [h0]
  unfold Pure.spec_l02Is
  cases (Pure.spec_l02Above F x0) with
  | true =>
    cases (Pure.spec_l02Least F x1) with
    | true =>
      cases (Pure.spec_l02Least F x2) with
      | true =>
        cases (Pure.spec_l01Finite F x3) with
        | true =>
          rfl
        | false =>
          rfl
      | false =>
        rfl
    | false =>
      rfl
  | false =>
    rfl
theorem ok_spec_l02Is : CallOK Try.prog 59 (c_spec_l02Is real) := by
  refine callOK_of fun args h ret hc => ?_
  unfold c_spec_l02Is at hc
  split at hc
  · rename_i x0 x1 x2 x3 x4
    obtain ⟨_, rfl⟩ := some_ret hc
    exact holds_ev prog_ok (allOK_cons ok_spec_l02Above (allOK_cons ok_spec_l02Least (allOK_cons ok_spec_l01Finite allOK_nil))) Try.func59 rfl rfl smL_nil rfl (e_spec_l02Is real x0 x1 x2 x3 x4)
  · cases hc
def Pure.spec_l02Swing (F : FOps) (x0 : Int) (x1 : Int) (x2 : Int) : Bool := bif Pure.spec_l01Finite F x0 then bif Pure.spec_l01Finite F x1 then Pure.spec_l01Finite F x2 else false else false
def c_spec_l02Swing (F : FOps) : Con
  | [V.at (A.ptr 0 0 0)], [⟨false, OC.box [A.fl FloatKind.f32 x0, A.fl FloatKind.f32 x1, A.fl FloatKind.f32 x2]⟩] => some (true, ⟨V.at (A.bool (Pure.spec_l02Swing F x0 x1 x2)), none, []⟩)
  | _, _ => none
theorem e_spec_l02Swing (F : FOps) (x0 : Int) (x1 : Int) (x2 : Int) : evFn (cxS F tyl [(47, c_spec_l01Finite F)] [] [] 0) Try.f95 false [V.at (A.ptr 0 0 0)] [⟨false, OC.box [A.fl FloatKind.f32 x0, A.fl FloatKind.f32 x1, A.fl FloatKind.f32 x2]⟩] = some ⟨V.at (A.bool (Pure.spec_l02Swing F x0 x1 x2)), none, []⟩ := by
  have h0 : evFn (cxS F tyl [(47, c_spec_l01Finite F)] [] [] 0) Try.f95 false [V.at (A.ptr 0 0 0)] [⟨false, OC.box [A.fl FloatKind.f32 x0, A.fl FloatKind.f32 x1, A.fl FloatKind.f32 x2]⟩] = bif Pure.spec_l01Finite F x0 then bif Pure.spec_l01Finite F x1 then some ⟨V.at (A.bool (Pure.spec_l01Finite F x2)), none, []⟩ else some ⟨V.at (A.bool false), none, []⟩ else some ⟨V.at (A.bool false), none, []⟩ := by kernel_rfl
  rw [h0]
  unfold Pure.spec_l02Swing
  cases (Pure.spec_l01Finite F x0) with
  | true =>
    cases (Pure.spec_l01Finite F x1) with
    | true =>
      rfl
    | false =>
      rfl
  | false =>
    rfl
theorem ok_spec_l02Swing : CallOK Try.prog 95 (c_spec_l02Swing real) := by
  refine callOK_of fun args h ret hc => ?_
  unfold c_spec_l02Swing at hc
  split at hc
  · rename_i x0 x1 x2
    obtain ⟨_, rfl⟩ := some_ret hc
    exact holds_ev prog_ok (allOK_cons ok_spec_l01Finite allOK_nil) Try.func95 rfl rfl smL_nil rfl (e_spec_l02Swing real x0 x1 x2)
  · cases hc
def Pure.spec_l02Both (F : FOps) (x0 : Int) (x1 : Int) (x2 : Int) (x3 : Int) (x4 : Int) (x5 : Int) (x6 : Int) (x7 : Int) : Bool := bif Pure.spec_l02Is F x0 x1 x2 x3 x4 then Pure.spec_l02Swing F x5 x6 x7 else false
def c_spec_l02Both (F : FOps) : Con
  | [V.at (A.ptr 0 0 0), V.at (A.ptr 1 0 0)], [⟨false, OC.box [A.fl FloatKind.f32 x0, A.fl FloatKind.f32 x1, A.fl FloatKind.f32 x2, A.fl FloatKind.f32 x3, A.fl FloatKind.f32 x4]⟩, ⟨false, OC.box [A.fl FloatKind.f32 x5, A.fl FloatKind.f32 x6, A.fl FloatKind.f32 x7]⟩] => some (true, ⟨V.at (A.bool (Pure.spec_l02Both F x0 x1 x2 x3 x4 x5 x6 x7)), none, []⟩)
  | _, _ => none
theorem e_spec_l02Both (F : FOps) (x0 : Int) (x1 : Int) (x2 : Int) (x3 : Int) (x4 : Int) (x5 : Int) (x6 : Int) (x7 : Int) : evFn (cxS F tyl [(59, c_spec_l02Is F), (95, c_spec_l02Swing F)] [] [] 0) Try.f80 false [V.at (A.ptr 0 0 0), V.at (A.ptr 1 0 0)] [⟨false, OC.box [A.fl FloatKind.f32 x0, A.fl FloatKind.f32 x1, A.fl FloatKind.f32 x2, A.fl FloatKind.f32 x3, A.fl FloatKind.f32 x4]⟩, ⟨false, OC.box [A.fl FloatKind.f32 x5, A.fl FloatKind.f32 x6, A.fl FloatKind.f32 x7]⟩] = some ⟨V.at (A.bool (Pure.spec_l02Both F x0 x1 x2 x3 x4 x5 x6 x7)), none, []⟩ := by
  have h0 : evFn (cxS F tyl [(59, c_spec_l02Is F), (95, c_spec_l02Swing F)] [] [] 0) Try.f80 false [V.at (A.ptr 0 0 0), V.at (A.ptr 1 0 0)] [⟨false, OC.box [A.fl FloatKind.f32 x0, A.fl FloatKind.f32 x1, A.fl FloatKind.f32 x2, A.fl FloatKind.f32 x3, A.fl FloatKind.f32 x4]⟩, ⟨false, OC.box [A.fl FloatKind.f32 x5, A.fl FloatKind.f32 x6, A.fl FloatKind.f32 x7]⟩] = bif Pure.spec_l02Is F x0 x1 x2 x3 x4 then some ⟨V.at (A.bool (Pure.spec_l02Swing F x5 x6 x7)), none, []⟩ else some ⟨V.at (A.bool false), none, []⟩ := by kernel_rfl
  rw [h0]
  unfold Pure.spec_l02Both
  cases (Pure.spec_l02Is F x0 x1 x2 x3 x4) with
  | true =>
    rfl
  | false =>
    rfl
theorem ok_spec_l02Both : CallOK Try.prog 80 (c_spec_l02Both real) := by
  refine callOK_of fun args h ret hc => ?_
  unfold c_spec_l02Both at hc
  split at hc
  · rename_i x0 x1 x2 x3 x4 x5 x6 x7
    obtain ⟨_, rfl⟩ := some_ret hc
    exact holds_ev prog_ok (allOK_cons ok_spec_l02Is (allOK_cons ok_spec_l02Swing allOK_nil)) Try.func80 rfl rfl smL_nil rfl (e_spec_l02Both real x0 x1 x2 x3 x4 x5 x6 x7)
  · cases hc
def Pure.spec_l02Tick (F : FOps) (x0 : Int) : Bool := bif Pure.spec_l01Finite F x0 then FOps.cmp F BinOp.neq FloatKind.f32 x0 0 else false
def c_spec_l02Tick (F : FOps) : Con
  | [V.at (A.fl FloatKind.f32 x0)], [] => some (true, ⟨V.at (A.bool (Pure.spec_l02Tick F x0)), none, []⟩)
  | _, _ => none
theorem e_spec_l02Tick (F : FOps) (x0 : Int) : evFn (cxS F tyl [(47, c_spec_l01Finite F)] [] [] 0) Try.f81 false [V.at (A.fl FloatKind.f32 x0)] [] = some ⟨V.at (A.bool (Pure.spec_l02Tick F x0)), none, []⟩ := by
  have h0 : evFn (cxS F tyl [(47, c_spec_l01Finite F)] [] [] 0) Try.f81 false [V.at (A.fl FloatKind.f32 x0)] [] = bif Pure.spec_l01Finite F x0 then some ⟨V.at (A.bool (FOps.cmp F BinOp.neq FloatKind.f32 x0 0)), none, []⟩ else some ⟨V.at (A.bool false), none, []⟩ := by kernel_rfl
  rw [h0]
  unfold Pure.spec_l02Tick
  cases (Pure.spec_l01Finite F x0) with
  | true =>
    rfl
  | false =>
    rfl
theorem ok_spec_l02Tick : CallOK Try.prog 81 (c_spec_l02Tick real) := by
  refine callOK_of fun args h ret hc => ?_
  unfold c_spec_l02Tick at hc
  split at hc
  · rename_i x0
    obtain ⟨_, rfl⟩ := some_ret hc
    exact holds_ev prog_ok (allOK_cons ok_spec_l01Finite allOK_nil) Try.func81 rfl rfl smL_nil rfl (e_spec_l02Tick real x0)
  · cases hc
def Pure.spec_l00In (F : FOps) (x0 : Int) (x1 : Int) (x2 : Int) : Bool := bif Decidable.decide (x0 ≥ x1) then Decidable.decide (x0 ≤ x2) else false
def c_spec_l00In (F : FOps) : Con
  | [V.at (A.int IntKind.i64 x0), V.at (A.int IntKind.i64 x1), V.at (A.int IntKind.i64 x2)], [] => some (true, ⟨V.at (A.bool (Pure.spec_l00In F x0 x1 x2)), none, []⟩)
  | _, _ => none
theorem e_spec_l00In (F : FOps) (x0 : Int) (x1 : Int) (x2 : Int) : evFn (cxS F tyl [] [] [] 0) Try.f96 false [V.at (A.int IntKind.i64 x0), V.at (A.int IntKind.i64 x1), V.at (A.int IntKind.i64 x2)] [] = some ⟨V.at (A.bool (Pure.spec_l00In F x0 x1 x2)), none, []⟩ := by
  have h0 : evFn (cxS F tyl [] [] [] 0) Try.f96 false [V.at (A.int IntKind.i64 x0), V.at (A.int IntKind.i64 x1), V.at (A.int IntKind.i64 x2)] [] = bif Decidable.decide (x0 ≥ x1) then some ⟨V.at (A.bool (Decidable.decide (x0 ≤ x2))), none, []⟩ else some ⟨V.at (A.bool false), none, []⟩ := by kernel_rfl
  rw [h0]
  unfold Pure.spec_l00In
  cases (Decidable.decide (x0 ≥ x1)) with
  | true =>
    rfl
  | false =>
    rfl
theorem ok_spec_l00In : CallOK Try.prog 96 (c_spec_l00In real) := by
  refine callOK_of fun args h ret hc => ?_
  unfold c_spec_l00In at hc
  split at hc
  · rename_i x0 x1 x2
    obtain ⟨_, rfl⟩ := some_ret hc
    exact holds_ev prog_ok allOK_nil Try.func96 rfl rfl smL_nil rfl (e_spec_l00In real x0 x1 x2)
  · cases hc
def c_spec_l02Steps (F : FOps) : Con
  | [V.at (A.int IntKind.i64 x0)], [] => some (true, ⟨V.at (A.bool (Pure.spec_l00In F x0 0 256)), none, []⟩)
  | _, _ => none
theorem e_spec_l02Steps (F : FOps) (x0 : Int) : evFn (cxS F tyl [(96, c_spec_l00In F)] [] [] 0) Try.f82 false [V.at (A.int IntKind.i64 x0)] [] = some ⟨V.at (A.bool (Pure.spec_l00In F x0 0 256)), none, []⟩ := by
  kernel_rfl
theorem ok_spec_l02Steps : CallOK Try.prog 82 (c_spec_l02Steps real) := by
  refine callOK_of fun args h ret hc => ?_
  unfold c_spec_l02Steps at hc
  split at hc
  · rename_i x0
    obtain ⟨_, rfl⟩ := some_ret hc
    exact holds_ev prog_ok (allOK_cons ok_spec_l00In allOK_nil) Try.func82 rfl rfl smL_nil rfl (e_spec_l02Steps real x0)
  · cases hc
def Pure.spec_l02Can (F : FOps) (x0 : Int) (x1 : Int) (x2 : Int) (x3 : Int) (x4 : Int) (x5 : Int) (x6 : Int) (x7 : Int) (x8 : Int) (x9 : Int) (x10 : Int) : Bool := bif Pure.spec_l02Both F x0 x1 x2 x3 x4 x5 x6 x7 then bif Pure.spec_l02Tick F x8 then bif Pure.spec_l00In F x9 0 256 then bif Pure.spec_l00In F x10 0 256 then Decidable.decide ((IntKind.wrap IntKind.i64 (x9 + x10)) ≤ 256) else false else false else false else false
def c_spec_l02Can (F : FOps) : Con
  | [V.at (A.ptr 0 0 0), V.at (A.ptr 1 0 0), V.at (A.fl FloatKind.f32 x8), V.at (A.int IntKind.i64 x9), V.at (A.int IntKind.i64 x10)], [⟨false, OC.box [A.fl FloatKind.f32 x0, A.fl FloatKind.f32 x1, A.fl FloatKind.f32 x2, A.fl FloatKind.f32 x3, A.fl FloatKind.f32 x4]⟩, ⟨false, OC.box [A.fl FloatKind.f32 x5, A.fl FloatKind.f32 x6, A.fl FloatKind.f32 x7]⟩] => some (true, ⟨V.at (A.bool (Pure.spec_l02Can F x0 x1 x2 x3 x4 x5 x6 x7 x8 x9 x10)), none, []⟩)
  | _, _ => none
theorem e_spec_l02Can (F : FOps) (x0 : Int) (x1 : Int) (x2 : Int) (x3 : Int) (x4 : Int) (x5 : Int) (x6 : Int) (x7 : Int) (x8 : Int) (x9 : Int) (x10 : Int) : evFn (cxS F tyl [(80, c_spec_l02Both F), (81, c_spec_l02Tick F), (82, c_spec_l02Steps F)] [] [] 0) Try.f58 false [V.at (A.ptr 0 0 0), V.at (A.ptr 1 0 0), V.at (A.fl FloatKind.f32 x8), V.at (A.int IntKind.i64 x9), V.at (A.int IntKind.i64 x10)] [⟨false, OC.box [A.fl FloatKind.f32 x0, A.fl FloatKind.f32 x1, A.fl FloatKind.f32 x2, A.fl FloatKind.f32 x3, A.fl FloatKind.f32 x4]⟩, ⟨false, OC.box [A.fl FloatKind.f32 x5, A.fl FloatKind.f32 x6, A.fl FloatKind.f32 x7]⟩] = some ⟨V.at (A.bool (Pure.spec_l02Can F x0 x1 x2 x3 x4 x5 x6 x7 x8 x9 x10)), none, []⟩ := by
  have h0 : evFn (cxS F tyl [(80, c_spec_l02Both F), (81, c_spec_l02Tick F), (82, c_spec_l02Steps F)] [] [] 0) Try.f58 false [V.at (A.ptr 0 0 0), V.at (A.ptr 1 0 0), V.at (A.fl FloatKind.f32 x8), V.at (A.int IntKind.i64 x9), V.at (A.int IntKind.i64 x10)] [⟨false, OC.box [A.fl FloatKind.f32 x0, A.fl FloatKind.f32 x1, A.fl FloatKind.f32 x2, A.fl FloatKind.f32 x3, A.fl FloatKind.f32 x4]⟩, ⟨false, OC.box [A.fl FloatKind.f32 x5, A.fl FloatKind.f32 x6, A.fl FloatKind.f32 x7]⟩] = bif Pure.spec_l02Both F x0 x1 x2 x3 x4 x5 x6 x7 then bif Pure.spec_l02Tick F x8 then bif Pure.spec_l00In F x9 0 256 then bif Pure.spec_l00In F x10 0 256 then some ⟨V.at (A.bool (Decidable.decide ((IntKind.wrap IntKind.i64 (x9 + x10)) ≤ 256))), none, []⟩ else some ⟨V.at (A.bool false), none, []⟩ else some ⟨V.at (A.bool false), none, []⟩ else some ⟨V.at (A.bool false), none, []⟩ else some ⟨V.at (A.bool false), none, []⟩ := by kernel_rfl
  rw [h0]
  unfold Pure.spec_l02Can
  cases (Pure.spec_l02Both F x0 x1 x2 x3 x4 x5 x6 x7) with
  | true =>
    cases (Pure.spec_l02Tick F x8) with
    | true =>
      cases (Pure.spec_l00In F x9 0 256) with
      | true =>
        cases (Pure.spec_l00In F x10 0 256) with
        | true =>
          rfl
        | false =>
          rfl
      | false =>
        rfl
    | false =>
      rfl
  | false =>
    rfl
theorem ok_spec_l02Can : CallOK Try.prog 58 (c_spec_l02Can real) := by
  refine callOK_of fun args h ret hc => ?_
  unfold c_spec_l02Can at hc
  split at hc
  · rename_i x8 x9 x10 x0 x1 x2 x3 x4 x5 x6 x7
    obtain ⟨_, rfl⟩ := some_ret hc
    exact holds_ev prog_ok (allOK_cons ok_spec_l02Both (allOK_cons ok_spec_l02Tick (allOK_cons ok_spec_l02Steps allOK_nil))) Try.func58 rfl rfl smL_nil rfl (e_spec_l02Can real x0 x1 x2 x3 x4 x5 x6 x7 x8 x9 x10)
  · cases hc
def Pure.spec_l02Pull (F : FOps) (x0 : Int) (x1 : Int) (x2 : Int) (x3 : Int) (x4 : Int) (x5 : Int) : Int := FOps.neg F FloatKind.f32 (FOps.bin F BinOp.mul FloatKind.f32 (FOps.bin F BinOp.quo FloatKind.f32 x1 x0) (FOps.bin F BinOp.quo FloatKind.f32 (Pure.spec_l01Sine F x5) 1086918619))
def Pure.spec_l02Pull_ok (F : FOps) (x0 : Int) (x1 : Int) (x2 : Int) (x3 : Int) (x4 : Int) (x5 : Int) : Bool := Pure.spec_l01Sine_ok F x5
def c_spec_l02Pull (F : FOps) : Con
  | [V.at (A.ptr 0 0 0), V.at (A.fl FloatKind.f32 x5)], [⟨false, OC.box [A.fl FloatKind.f32 x0, A.fl FloatKind.f32 x1, A.fl FloatKind.f32 x2, A.fl FloatKind.f32 x3, A.fl FloatKind.f32 x4]⟩] => some (Pure.spec_l02Pull_ok F x0 x1 x2 x3 x4 x5, ⟨V.at (A.fl FloatKind.f32 (Pure.spec_l02Pull F x0 x1 x2 x3 x4 x5)), none, []⟩)
  | _, _ => none
theorem e_spec_l02Pull (F : FOps) (x0 : Int) (x1 : Int) (x2 : Int) (x3 : Int) (x4 : Int) (x5 : Int) : Pure.spec_l02Pull_ok F x0 x1 x2 x3 x4 x5 = true → evFn (cxS F tyl [(111, c_spec_l01Sine F)] [] [] 0) Try.f107 false [V.at (A.ptr 0 0 0), V.at (A.fl FloatKind.f32 x5)] [⟨false, OC.box [A.fl FloatKind.f32 x0, A.fl FloatKind.f32 x1, A.fl FloatKind.f32 x2, A.fl FloatKind.f32 x3, A.fl FloatKind.f32 x4]⟩] = some ⟨V.at (A.fl FloatKind.f32 (Pure.spec_l02Pull F x0 x1 x2 x3 x4 x5)), none, []⟩ := by
  have h0 : evFn (cxS F tyl [(111, c_spec_l01Sine F)] [] [] 0) Try.f107 false [V.at (A.ptr 0 0 0), V.at (A.fl FloatKind.f32 x5)] [⟨false, OC.box [A.fl FloatKind.f32 x0, A.fl FloatKind.f32 x1, A.fl FloatKind.f32 x2, A.fl FloatKind.f32 x3, A.fl FloatKind.f32 x4]⟩] = bif Pure.spec_l01Sine_ok F x5 then some ⟨V.at (A.fl FloatKind.f32 (FOps.neg F FloatKind.f32 (FOps.bin F BinOp.mul FloatKind.f32 (FOps.bin F BinOp.quo FloatKind.f32 x1 x0) (FOps.bin F BinOp.quo FloatKind.f32 (Pure.spec_l01Sine F x5) 1086918619)))), none, []⟩ else none := by kernel_rfl
  rw [h0]
  unfold Pure.spec_l02Pull Pure.spec_l02Pull_ok
  cases (Pure.spec_l01Sine_ok F x5) with
  | true =>
    intro _; rfl
  | false =>
    intro h; exact absurd h Bool.false_ne_true
theorem ok_spec_l02Pull : CallOK Try.prog 107 (c_spec_l02Pull real) := by
  refine callOK_of fun args h ret hc => ?_
  unfold c_spec_l02Pull at hc
  split at hc
  · rename_i x5 x0 x1 x2 x3 x4
    obtain ⟨hok, rfl⟩ := some_ret hc
    exact holds_ev prog_ok (allOK_cons ok_spec_l01Sine allOK_nil) Try.func107 rfl rfl smL_nil rfl (e_spec_l02Pull real x0 x1 x2 x3 x4 x5 hok)
  · cases hc
def Pure.spec_l02Drive (F : FOps) (x0 : Int) (x1 : Int) (x2 : Int) (x3 : Int) (x4 : Int) (x5 : Int) : Int := FOps.bin F BinOp.mul FloatKind.f32 x3 (Pure.spec_l01Sine F (FOps.bin F BinOp.mul FloatKind.f32 x4 x5))
def Pure.spec_l02Drive_ok (F : FOps) (x0 : Int) (x1 : Int) (x2 : Int) (x3 : Int) (x4 : Int) (x5 : Int) : Bool := Pure.spec_l01Sine_ok F (FOps.bin F BinOp.mul FloatKind.f32 x4 x5)
def c_spec_l02Drive (F : FOps) : Con
  | [V.at (A.ptr 0 0 0), V.at (A.fl FloatKind.f32 x5)], [⟨false, OC.box [A.fl FloatKind.f32 x0, A.fl FloatKind.f32 x1, A.fl FloatKind.f32 x2, A.fl FloatKind.f32 x3, A.fl FloatKind.f32 x4]⟩] => some (Pure.spec_l02Drive_ok F x0 x1 x2 x3 x4 x5, ⟨V.at (A.fl FloatKind.f32 (Pure.spec_l02Drive F x0 x1 x2 x3 x4 x5)), none, []⟩)
  | _, _ => none
theorem e_spec_l02Drive (F : FOps) (x0 : Int) (x1 : Int) (x2 : Int) (x3 : Int) (x4 : Int) (x5 : Int) : Pure.spec_l02Drive_ok F x0 x1 x2 x3 x4 x5 = true → evFn (cxS F tyl [(111, c_spec_l01Sine F)] [] [] 0) Try.f108 false [V.at (A.ptr 0 0 0), V.at (A.fl FloatKind.f32 x5)] [⟨false, OC.box [A.fl FloatKind.f32 x0, A.fl FloatKind.f32 x1, A.fl FloatKind.f32 x2, A.fl FloatKind.f32 x3, A.fl FloatKind.f32 x4]⟩] = some ⟨V.at (A.fl FloatKind.f32 (Pure.spec_l02Drive F x0 x1 x2 x3 x4 x5)), none, []⟩ := by
  have h0 : evFn (cxS F tyl [(111, c_spec_l01Sine F)] [] [] 0) Try.f108 false [V.at (A.ptr 0 0 0), V.at (A.fl FloatKind.f32 x5)] [⟨false, OC.box [A.fl FloatKind.f32 x0, A.fl FloatKind.f32 x1, A.fl FloatKind.f32 x2, A.fl FloatKind.f32 x3, A.fl FloatKind.f32 x4]⟩] = bif Pure.spec_l01Sine_ok F (FOps.bin F BinOp.mul FloatKind.f32 x4 x5) then some ⟨V.at (A.fl FloatKind.f32 (FOps.bin F BinOp.mul FloatKind.f32 x3 (Pure.spec_l01Sine F (FOps.bin F BinOp.mul FloatKind.f32 x4 x5)))), none, []⟩ else none := by kernel_rfl
  rw [h0]
  unfold Pure.spec_l02Drive Pure.spec_l02Drive_ok
  cases (Pure.spec_l01Sine_ok F (FOps.bin F BinOp.mul FloatKind.f32 x4 x5)) with
  | true =>
    intro _; rfl
  | false =>
    intro h; exact absurd h Bool.false_ne_true
theorem ok_spec_l02Drive : CallOK Try.prog 108 (c_spec_l02Drive real) := by
  refine callOK_of fun args h ret hc => ?_
  unfold c_spec_l02Drive at hc
  split at hc
  · rename_i x5 x0 x1 x2 x3 x4
    obtain ⟨hok, rfl⟩ := some_ret hc
    exact holds_ev prog_ok (allOK_cons ok_spec_l01Sine allOK_nil) Try.func108 rfl rfl smL_nil rfl (e_spec_l02Drive real x0 x1 x2 x3 x4 x5 hok)
  · cases hc
def Pure.spec_l02Force (F : FOps) (x0 : Int) (x1 : Int) (x2 : Int) (x3 : Int) (x4 : Int) (x5 : Int) (x6 : Int) (x7 : Int) : Int := FOps.bin F BinOp.add FloatKind.f32 (FOps.bin F BinOp.sub FloatKind.f32 (Pure.spec_l02Pull F x0 x1 x2 x3 x4 x5) (FOps.bin F BinOp.mul FloatKind.f32 x2 x6)) (Pure.spec_l02Drive F x0 x1 x2 x3 x4 x7)
def Pure.spec_l02Force_ok (F : FOps) (x0 : Int) (x1 : Int) (x2 : Int) (x3 : Int) (x4 : Int) (x5 : Int) (x6 : Int) (x7 : Int) : Bool := bif Pure.spec_l02Pull_ok F x0 x1 x2 x3 x4 x5 then Pure.spec_l02Drive_ok F x0 x1 x2 x3 x4 x7 else false
def c_spec_l02Force (F : FOps) : Con
  | [V.at (A.ptr 0 0 0), V.agg [A.fl FloatKind.f32 x5, A.fl FloatKind.f32 x6, A.fl FloatKind.f32 x7]], [⟨false, OC.box [A.fl FloatKind.f32 x0, A.fl FloatKind.f32 x1, A.fl FloatKind.f32 x2, A.fl FloatKind.f32 x3, A.fl FloatKind.f32 x4]⟩] => some (Pure.spec_l02Force_ok F x0 x1 x2 x3 x4 x5 x6 x7, ⟨V.at (A.fl FloatKind.f32 (Pure.spec_l02Force F x0 x1 x2 x3 x4 x5 x6 x7)), none, []⟩)
  | _, _ => none
theorem e_spec_l02Force (F : FOps) (x0 : Int) (x1 : Int) (x2 : Int) (x3 : Int) (x4 : Int) (x5 : Int) (x6 : Int) (x7 : Int) : Pure.spec_l02Force_ok F x0 x1 x2 x3 x4 x5 x6 x7 = true → evFn (cxS F tyl [(107, c_spec_l02Pull F), (108, c_spec_l02Drive F)] [] [] 0) Try.f102 false [V.at (A.ptr 0 0 0), V.agg [A.fl FloatKind.f32 x5, A.fl FloatKind.f32 x6, A.fl FloatKind.f32 x7]] [⟨false, OC.box [A.fl FloatKind.f32 x0, A.fl FloatKind.f32 x1, A.fl FloatKind.f32 x2, A.fl FloatKind.f32 x3, A.fl FloatKind.f32 x4]⟩] = some ⟨V.at (A.fl FloatKind.f32 (Pure.spec_l02Force F x0 x1 x2 x3 x4 x5 x6 x7)), none, []⟩ := by
  have h0 : evFn (cxS F tyl [(107, c_spec_l02Pull F), (108, c_spec_l02Drive F)] [] [] 0) Try.f102 false [V.at (A.ptr 0 0 0), V.agg [A.fl FloatKind.f32 x5, A.fl FloatKind.f32 x6, A.fl FloatKind.f32 x7]] [⟨false, OC.box [A.fl FloatKind.f32 x0, A.fl FloatKind.f32 x1, A.fl FloatKind.f32 x2, A.fl FloatKind.f32 x3, A.fl FloatKind.f32 x4]⟩] = bif Pure.spec_l02Pull_ok F x0 x1 x2 x3 x4 x5 then bif Pure.spec_l02Drive_ok F x0 x1 x2 x3 x4 x7 then some ⟨V.at (A.fl FloatKind.f32 (FOps.bin F BinOp.add FloatKind.f32 (FOps.bin F BinOp.sub FloatKind.f32 (Pure.spec_l02Pull F x0 x1 x2 x3 x4 x5) (FOps.bin F BinOp.mul FloatKind.f32 x2 x6)) (Pure.spec_l02Drive F x0 x1 x2 x3 x4 x7))), none, []⟩ else none else none := by kernel_rfl
  rw [h0]
  unfold Pure.spec_l02Force Pure.spec_l02Force_ok
  cases (Pure.spec_l02Pull_ok F x0 x1 x2 x3 x4 x5) with
  | true =>
    cases (Pure.spec_l02Drive_ok F x0 x1 x2 x3 x4 x7) with
    | true =>
      intro _; rfl
    | false =>
      intro h; exact absurd h Bool.false_ne_true
  | false =>
    intro h; exact absurd h Bool.false_ne_true
theorem ok_spec_l02Force : CallOK Try.prog 102 (c_spec_l02Force real) := by
  refine callOK_of fun args h ret hc => ?_
  unfold c_spec_l02Force at hc
  split at hc
  · rename_i x5 x6 x7 x0 x1 x2 x3 x4
    obtain ⟨hok, rfl⟩ := some_ret hc
    exact holds_ev prog_ok (allOK_cons ok_spec_l02Pull (allOK_cons ok_spec_l02Drive allOK_nil)) Try.func102 rfl rfl smL_nil rfl (e_spec_l02Force real x0 x1 x2 x3 x4 x5 x6 x7 hok)
  · cases hc
def Pure.spec_l02Step (F : FOps) (x0 : Int) (x1 : Int) (x2 : Int) (x3 : Int) (x4 : Int) (x5 : Int) (x6 : Int) (x7 : Int) (x8 : Int) : Int := FOps.bin F BinOp.add FloatKind.f32 x5 (FOps.bin F BinOp.mul FloatKind.f32 x8 (FOps.bin F BinOp.add FloatKind.f32 x6 (FOps.bin F BinOp.mul FloatKind.f32 (FOps.bin F BinOp.mul FloatKind.f32 1056964608 x8) (Pure.spec_l02Force F x0 x1 x2 x3 x4 x5 x6 x7))))
def Pure.spec_l02Step_1 (F : FOps) (x0 : Int) (x1 : Int) (x2 : Int) (x3 : Int) (x4 : Int) (x5 : Int) (x6 : Int) (x7 : Int) (x8 : Int) : Int := FOps.bin F BinOp.add FloatKind.f32 (FOps.bin F BinOp.add FloatKind.f32 x6 (FOps.bin F BinOp.mul FloatKind.f32 (FOps.bin F BinOp.mul FloatKind.f32 1056964608 x8) (Pure.spec_l02Force F x0 x1 x2 x3 x4 x5 x6 x7))) (FOps.bin F BinOp.mul FloatKind.f32 (FOps.bin F BinOp.mul FloatKind.f32 1056964608 x8) (Pure.spec_l02Force F x0 x1 x2 x3 x4 (FOps.bin F BinOp.add FloatKind.f32 x5 (FOps.bin F BinOp.mul FloatKind.f32 x8 (FOps.bin F BinOp.add FloatKind.f32 x6 (FOps.bin F BinOp.mul FloatKind.f32 (FOps.bin F BinOp.mul FloatKind.f32 1056964608 x8) (Pure.spec_l02Force F x0 x1 x2 x3 x4 x5 x6 x7))))) (FOps.bin F BinOp.add FloatKind.f32 x6 (FOps.bin F BinOp.mul FloatKind.f32 (FOps.bin F BinOp.mul FloatKind.f32 1056964608 x8) (Pure.spec_l02Force F x0 x1 x2 x3 x4 x5 x6 x7))) (FOps.bin F BinOp.add FloatKind.f32 x7 x8)))
def Pure.spec_l02Step_2 (F : FOps) (x0 : Int) (x1 : Int) (x2 : Int) (x3 : Int) (x4 : Int) (x5 : Int) (x6 : Int) (x7 : Int) (x8 : Int) : Int := FOps.bin F BinOp.add FloatKind.f32 x7 x8
def Pure.spec_l02Step_ok (F : FOps) (x0 : Int) (x1 : Int) (x2 : Int) (x3 : Int) (x4 : Int) (x5 : Int) (x6 : Int) (x7 : Int) (x8 : Int) : Bool := bif Pure.spec_l02Force_ok F x0 x1 x2 x3 x4 x5 x6 x7 then Pure.spec_l02Force_ok F x0 x1 x2 x3 x4 (FOps.bin F BinOp.add FloatKind.f32 x5 (FOps.bin F BinOp.mul FloatKind.f32 x8 (FOps.bin F BinOp.add FloatKind.f32 x6 (FOps.bin F BinOp.mul FloatKind.f32 (FOps.bin F BinOp.mul FloatKind.f32 1056964608 x8) (Pure.spec_l02Force F x0 x1 x2 x3 x4 x5 x6 x7))))) (FOps.bin F BinOp.add FloatKind.f32 x6 (FOps.bin F BinOp.mul FloatKind.f32 (FOps.bin F BinOp.mul FloatKind.f32 1056964608 x8) (Pure.spec_l02Force F x0 x1 x2 x3 x4 x5 x6 x7))) (FOps.bin F BinOp.add FloatKind.f32 x7 x8) else false
def c_spec_l02Step (F : FOps) : Con
  | [V.at (A.ptr 0 0 0), V.agg [A.fl FloatKind.f32 x5, A.fl FloatKind.f32 x6, A.fl FloatKind.f32 x7], V.at (A.fl FloatKind.f32 x8)], [⟨false, OC.box [A.fl FloatKind.f32 x0, A.fl FloatKind.f32 x1, A.fl FloatKind.f32 x2, A.fl FloatKind.f32 x3, A.fl FloatKind.f32 x4]⟩] => some (Pure.spec_l02Step_ok F x0 x1 x2 x3 x4 x5 x6 x7 x8, ⟨V.agg [A.fl FloatKind.f32 (Pure.spec_l02Step F x0 x1 x2 x3 x4 x5 x6 x7 x8), A.fl FloatKind.f32 (Pure.spec_l02Step_1 F x0 x1 x2 x3 x4 x5 x6 x7 x8), A.fl FloatKind.f32 (Pure.spec_l02Step_2 F x0 x1 x2 x3 x4 x5 x6 x7 x8)], none, []⟩)
  | _, _ => none
theorem e_spec_l02Step (F : FOps) (x0 : Int) (x1 : Int) (x2 : Int) (x3 : Int) (x4 : Int) (x5 : Int) (x6 : Int) (x7 : Int) (x8 : Int) : Pure.spec_l02Step_ok F x0 x1 x2 x3 x4 x5 x6 x7 x8 = true → evFn (cxS F tyl [(102, c_spec_l02Force F)] [] [] 0) Try.f97 false [V.at (A.ptr 0 0 0), V.agg [A.fl FloatKind.f32 x5, A.fl FloatKind.f32 x6, A.fl FloatKind.f32 x7], V.at (A.fl FloatKind.f32 x8)] [⟨false, OC.box [A.fl FloatKind.f32 x0, A.fl FloatKind.f32 x1, A.fl FloatKind.f32 x2, A.fl FloatKind.f32 x3, A.fl FloatKind.f32 x4]⟩] = some ⟨V.agg [A.fl FloatKind.f32 (Pure.spec_l02Step F x0 x1 x2 x3 x4 x5 x6 x7 x8), A.fl FloatKind.f32 (Pure.spec_l02Step_1 F x0 x1 x2 x3 x4 x5 x6 x7 x8), A.fl FloatKind.f32 (Pure.spec_l02Step_2 F x0 x1 x2 x3 x4 x5 x6 x7 x8)], none, []⟩ := by
  have h0 : evFn (cxS F tyl [(102, c_spec_l02Force F)] [] [] 0) Try.f97 false [V.at (A.ptr 0 0 0), V.agg [A.fl FloatKind.f32 x5, A.fl FloatKind.f32 x6, A.fl FloatKind.f32 x7], V.at (A.fl FloatKind.f32 x8)] [⟨false, OC.box [A.fl FloatKind.f32 x0, A.fl FloatKind.f32 x1, A.fl FloatKind.f32 x2, A.fl FloatKind.f32 x3, A.fl FloatKind.f32 x4]⟩] = bif Pure.spec_l02Force_ok F x0 x1 x2 x3 x4 x5 x6 x7 then bif Pure.spec_l02Force_ok F x0 x1 x2 x3 x4 (FOps.bin F BinOp.add FloatKind.f32 x5 (FOps.bin F BinOp.mul FloatKind.f32 x8 (FOps.bin F BinOp.add FloatKind.f32 x6 (FOps.bin F BinOp.mul FloatKind.f32 (FOps.bin F BinOp.mul FloatKind.f32 1056964608 x8) (Pure.spec_l02Force F x0 x1 x2 x3 x4 x5 x6 x7))))) (FOps.bin F BinOp.add FloatKind.f32 x6 (FOps.bin F BinOp.mul FloatKind.f32 (FOps.bin F BinOp.mul FloatKind.f32 1056964608 x8) (Pure.spec_l02Force F x0 x1 x2 x3 x4 x5 x6 x7))) (FOps.bin F BinOp.add FloatKind.f32 x7 x8) then some ⟨V.agg [A.fl FloatKind.f32 (FOps.bin F BinOp.add FloatKind.f32 x5 (FOps.bin F BinOp.mul FloatKind.f32 x8 (FOps.bin F BinOp.add FloatKind.f32 x6 (FOps.bin F BinOp.mul FloatKind.f32 (FOps.bin F BinOp.mul FloatKind.f32 1056964608 x8) (Pure.spec_l02Force F x0 x1 x2 x3 x4 x5 x6 x7))))), A.fl FloatKind.f32 (FOps.bin F BinOp.add FloatKind.f32 (FOps.bin F BinOp.add FloatKind.f32 x6 (FOps.bin F BinOp.mul FloatKind.f32 (FOps.bin F BinOp.mul FloatKind.f32 1056964608 x8) (Pure.spec_l02Force F x0 x1 x2 x3 x4 x5 x6 x7))) (FOps.bin F BinOp.mul FloatKind.f32 (FOps.bin F BinOp.mul FloatKind.f32 1056964608 x8) (Pure.spec_l02Force F x0 x1 x2 x3 x4 (FOps.bin F BinOp.add FloatKind.f32 x5 (FOps.bin F BinOp.mul FloatKind.f32 x8 (FOps.bin F BinOp.add FloatKind.f32 x6 (FOps.bin F BinOp.mul FloatKind.f32 (FOps.bin F BinOp.mul FloatKind.f32 1056964608 x8) (Pure.spec_l02Force F x0 x1 x2 x3 x4 x5 x6 x7))))) (FOps.bin F BinOp.add FloatKind.f32 x6 (FOps.bin F BinOp.mul FloatKind.f32 (FOps.bin F BinOp.mul FloatKind.f32 1056964608 x8) (Pure.spec_l02Force F x0 x1 x2 x3 x4 x5 x6 x7))) (FOps.bin F BinOp.add FloatKind.f32 x7 x8)))), A.fl FloatKind.f32 (FOps.bin F BinOp.add FloatKind.f32 x7 x8)], none, []⟩ else none else none := by kernel_rfl
  rw [h0]
  unfold Pure.spec_l02Step Pure.spec_l02Step_1 Pure.spec_l02Step_2 Pure.spec_l02Step_ok
  cases (Pure.spec_l02Force_ok F x0 x1 x2 x3 x4 x5 x6 x7) with
  | true =>
    cases (Pure.spec_l02Force_ok F x0 x1 x2 x3 x4 (FOps.bin F BinOp.add FloatKind.f32 x5 (FOps.bin F BinOp.mul FloatKind.f32 x8 (FOps.bin F BinOp.add FloatKind.f32 x6 (FOps.bin F BinOp.mul FloatKind.f32 (FOps.bin F BinOp.mul FloatKind.f32 1056964608 x8) (Pure.spec_l02Force F x0 x1 x2 x3 x4 x5 x6 x7))))) (FOps.bin F BinOp.add FloatKind.f32 x6 (FOps.bin F BinOp.mul FloatKind.f32 (FOps.bin F BinOp.mul FloatKind.f32 1056964608 x8) (Pure.spec_l02Force F x0 x1 x2 x3 x4 x5 x6 x7))) (FOps.bin F BinOp.add FloatKind.f32 x7 x8)) with
    | true =>
      intro _; rfl
    | false =>
      intro h; exact absurd h Bool.false_ne_true
  | false =>
    intro h; exact absurd h Bool.false_ne_true
theorem ok_spec_l02Step : CallOK Try.prog 97 (c_spec_l02Step real) := by
  refine callOK_of fun args h ret hc => ?_
  unfold c_spec_l02Step at hc
  split at hc
  · rename_i x5 x6 x7 x8 x0 x1 x2 x3 x4
    obtain ⟨hok, rfl⟩ := some_ret hc
    exact holds_ev prog_ok (allOK_cons ok_spec_l02Force allOK_nil) Try.func97 rfl rfl smL_nil rfl (e_spec_l02Step real x0 x1 x2 x3 x4 x5 x6 x7 x8 hok)
  · cases hc
def Pure.spec_l02Run_L0 (F : FOps) (y0 : Int) (y1 : Int) (y3 : Int) (y4 : Int) (y5 : Int) (y6 : Int) (y7 : Int) (y11 : Int) (y12 : Int) (y13 : Int) : Nat → Int → Int → Int → Int → (List (List Int)) → (Bool × Bool × Int × Int × Int × (List (List Int)) × Int × Int × Int × (List (List Int)))
  | 0, _, _, _, _, _ => (false, false, 0, 0, 0, [], 0, 0, 0, [])
  | n + 1, y2, y8, y9, y10, y14 => bif (Decidable.decide (y2 < y1)) then (bif (Pure.spec_l02Step_ok F y3 y4 y5 y6 y7 y8 y9 y10 y0) then (bif (Pure.spec_l02Swing F (Pure.spec_l02Step F y3 y4 y5 y6 y7 y8 y9 y10 y0) (Pure.spec_l02Step_1 F y3 y4 y5 y6 y7 y8 y9 y10 y0) (Pure.spec_l02Step_2 F y3 y4 y5 y6 y7 y8 y9 y10 y0)) then (bif (Decidable.decide ((Nat.succ (List.length y14)) ≤ 1073741824)) then (Pure.spec_l02Run_L0 F y0 y1 y3 y4 y5 y6 y7 y11 y12 y13 n (IntKind.wrap IntKind.i64 (y2 + 1)) (Pure.spec_l02Step F y3 y4 y5 y6 y7 y8 y9 y10 y0) (Pure.spec_l02Step_1 F y3 y4 y5 y6 y7 y8 y9 y10 y0) (Pure.spec_l02Step_2 F y3 y4 y5 y6 y7 y8 y9 y10 y0) (y14 ++ [[Pure.spec_l02Step F y3 y4 y5 y6 y7 y8 y9 y10 y0]])) else ((false, false, 0, 0, 0, [], 0, 0, 0, []))) else ((true, true, 0, 0, 0, [], Pure.spec_l02Step F y3 y4 y5 y6 y7 y8 y9 y10 y0, Pure.spec_l02Step_1 F y3 y4 y5 y6 y7 y8 y9 y10 y0, Pure.spec_l02Step_2 F y3 y4 y5 y6 y7 y8 y9 y10 y0, y14))) else ((false, false, 0, 0, 0, [], 0, 0, 0, []))) else ((true, false, y8, y9, y10, y14, 0, 0, 0, []))
def R_spec_l02Run_L0 (y3 : Int) (y4 : Int) (y5 : Int) (y6 : Int) (y7 : Int) (y11 : Int) (y12 : Int) (y13 : Int) (r : (Bool × Bool × Int × Int × Int × (List (List Int)) × Int × Int × Int × (List (List Int)))) : Bool × Bool × (Ex × List V × List Ob) × (Ex × List V × List Ob) := ((r).1, (r).2.1, (Ex.normal, [V.at (A.ptr 1 0 0), V.at (A.ptr 2 0 0), V.at A.undef, V.at A.undef, V.at (A.sl 3)], [⟨false, OC.box [A.fl FloatKind.f32 y3, A.fl FloatKind.f32 y4, A.fl FloatKind.f32 y5, A.fl FloatKind.f32 y6, A.fl FloatKind.f32 y7]⟩, ⟨true, OC.box [A.fl FloatKind.f32 (r).2.2.1, A.fl FloatKind.f32 (r).2.2.2.1, A.fl FloatKind.f32 (r).2.2.2.2.1]⟩, ⟨true, OC.box [A.fl FloatKind.f32 y11, A.fl FloatKind.f32 y12, A.fl FloatKind.f32 y13]⟩, ⟨true, OC.rows [K.f FloatKind.f32] (r).2.2.2.2.2.1⟩]), (Ex.ret, [V.at (A.ptr 1 0 0), V.at (A.ptr 2 0 0), V.at A.nil, V.at (A.bool false), V.at (A.sl 3)], [⟨false, OC.box [A.fl FloatKind.f32 y3, A.fl FloatKind.f32 y4, A.fl FloatKind.f32 y5, A.fl FloatKind.f32 y6, A.fl FloatKind.f32 y7]⟩, ⟨true, OC.box [A.fl FloatKind.f32 (r).2.2.2.2.2.2.1, A.fl FloatKind.f32 (r).2.2.2.2.2.2.2.1, A.fl FloatKind.f32 (r).2.2.2.2.2.2.2.2.1]⟩, ⟨true, OC.box [A.fl FloatKind.f32 0, A.fl FloatKind.f32 0, A.fl FloatKind.f32 0]⟩, ⟨true, OC.rows [K.f FloatKind.f32] (r).2.2.2.2.2.2.2.2.2⟩]))
def S_spec_l02Run_L0 (F : FOps) : Sm := ⟨[0, 2, 3, 5, 8, 11, 12], [92, 24, 2, 0, 0, 58, 2], [5, 8, 9, 10, 11], fun vals hp => match vals, hp with
  | [V.at (A.ptr 0 0 0), V.at (A.fl FloatKind.f32 y0), V.at (A.int IntKind.i64 y1), V.at (A.ptr 1 0 0), V.at (A.ptr 2 0 0), V.at (A.sl 3), V.at (A.int IntKind.i64 y2)], [⟨false, OC.box [A.fl FloatKind.f32 y3, A.fl FloatKind.f32 y4, A.fl FloatKind.f32 y5, A.fl FloatKind.f32 y6, A.fl FloatKind.f32 y7]⟩, ⟨true, OC.box [A.fl FloatKind.f32 y8, A.fl FloatKind.f32 y9, A.fl FloatKind.f32 y10]⟩, ⟨true, OC.box [A.fl FloatKind.f32 y11, A.fl FloatKind.f32 y12, A.fl FloatKind.f32 y13]⟩, ⟨true, OC.rows [K.f FloatKind.f32] y14⟩] => some (R_spec_l02Run_L0 y3 y4 y5 y6 y7 y11 y12 y13 (Pure.spec_l02Run_L0 F y0 y1 y3 y4 y5 y6 y7 y11 y12 y13 (y1 - y2 + 1).toNat y2 y8 y9 y10 y14))
  | _, _ => none⟩
theorem l_spec_l02Run_L0 (F : FOps) (y0 : Int) (y1 : Int) (y3 : Int) (y4 : Int) (y5 : Int) (y6 : Int) (y7 : Int) (y11 : Int) (y12 : Int) (y13 : Int) : ∀ (fuel : Nat) (y2 : Int) (y8 : Int) (y9 : Int) (y10 : Int) (y14 : List (List Int)), (Pure.spec_l02Run_L0 F y0 y1 y3 y4 y5 y6 y7 y11 y12 y13 fuel y2 y8 y9 y10 y14).1 = true → loopOf (cxS F tyl [(97, c_spec_l02Step F), (95, c_spec_l02Swing F)] [] [] 0) 1 33 0 [0, 2, 3, 5, 8, 11, 12] [92, 24, 2, 0, 0, 58, 2] [5, 8, 9, 10, 11] (loopB 0 (codeOf Try.f85)) fuel [V.at (A.ptr 0 0 0), V.at (A.fl FloatKind.f32 y0), V.at (A.int IntKind.i64 y1), V.at (A.ptr 1 0 0), V.at (A.ptr 2 0 0), V.at (A.sl 3), V.at (A.int IntKind.i64 y2)] [⟨false, OC.box [A.fl FloatKind.f32 y3, A.fl FloatKind.f32 y4, A.fl FloatKind.f32 y5, A.fl FloatKind.f32 y6, A.fl FloatKind.f32 y7]⟩, ⟨true, OC.box [A.fl FloatKind.f32 y8, A.fl FloatKind.f32 y9, A.fl FloatKind.f32 y10]⟩, ⟨true, OC.box [A.fl FloatKind.f32 y11, A.fl FloatKind.f32 y12, A.fl FloatKind.f32 y13]⟩, ⟨true, OC.rows [K.f FloatKind.f32] y14⟩] = resOf (R_spec_l02Run_L0 y3 y4 y5 y6 y7 y11 y12 y13 (Pure.spec_l02Run_L0 F y0 y1 y3 y4 y5 y6 y7 y11 y12 y13 fuel y2 y8 y9 y10 y14)) := by
  intro fuel
  induction fuel with
  | zero => intro y2 y8 y9 y10 y14 h; exact absurd h Bool.false_ne_true
  | succ n ih =>
    intro y2 y8 y9 y10 y14
    have h0 : roundOf (cxS F tyl [(97, c_spec_l02Step F), (95, c_spec_l02Swing F)] [] [] 0) 1 33 0 [0, 2, 3, 5, 8, 11, 12] [92, 24, 2, 0, 0, 58, 2] [5, 8, 9, 10, 11] (loopB 0 (codeOf Try.f85)) [V.at (A.ptr 0 0 0), V.at (A.fl FloatKind.f32 y0), V.at (A.int IntKind.i64 y1), V.at (A.ptr 1 0 0), V.at (A.ptr 2 0 0), V.at (A.sl 3), V.at (A.int IntKind.i64 y2)] [⟨false, OC.box [A.fl FloatKind.f32 y3, A.fl FloatKind.f32 y4, A.fl FloatKind.f32 y5, A.fl FloatKind.f32 y6, A.fl FloatKind.f32 y7]⟩, ⟨true, OC.box [A.fl FloatKind.f32 y8, A.fl FloatKind.f32 y9, A.fl FloatKind.f32 y10]⟩, ⟨true, OC.box [A.fl FloatKind.f32 y11, A.fl FloatKind.f32 y12, A.fl FloatKind.f32 y13]⟩, ⟨true, OC.rows [K.f FloatKind.f32] y14⟩] = (bif Decidable.decide (y2 < y1) then bif Pure.spec_l02Step_ok F y3 y4 y5 y6 y7 y8 y9 y10 y0 then bif Bool.not (Pure.spec_l02Swing F (Pure.spec_l02Step F y3 y4 y5 y6 y7 y8 y9 y10 y0) (Pure.spec_l02Step_1 F y3 y4 y5 y6 y7 y8 y9 y10 y0) (Pure.spec_l02Step_2 F y3 y4 y5 y6 y7 y8 y9 y10 y0)) then some (false, (Ex.ret, ([V.at (A.ptr 1 0 0), V.at (A.ptr 2 0 0), V.at A.nil, V.at (A.bool false), V.at (A.sl 3)], [⟨false, OC.box [A.fl FloatKind.f32 y3, A.fl FloatKind.f32 y4, A.fl FloatKind.f32 y5, A.fl FloatKind.f32 y6, A.fl FloatKind.f32 y7]⟩, ⟨true, OC.box [A.fl FloatKind.f32 (Pure.spec_l02Step F y3 y4 y5 y6 y7 y8 y9 y10 y0), A.fl FloatKind.f32 (Pure.spec_l02Step_1 F y3 y4 y5 y6 y7 y8 y9 y10 y0), A.fl FloatKind.f32 (Pure.spec_l02Step_2 F y3 y4 y5 y6 y7 y8 y9 y10 y0)]⟩, ⟨true, OC.box [A.fl FloatKind.f32 0, A.fl FloatKind.f32 0, A.fl FloatKind.f32 0]⟩, ⟨true, OC.rows [K.f FloatKind.f32] y14⟩]))) else bif Decidable.decide ((Nat.succ (List.length y14)) ≤ 1073741824) then some (true, (Ex.normal, ([V.at (A.ptr 0 0 0), V.at (A.fl FloatKind.f32 y0), V.at (A.int IntKind.i64 y1), V.at (A.ptr 1 0 0), V.at (A.ptr 2 0 0), V.at (A.sl 3), V.at (A.int IntKind.i64 (IntKind.wrap IntKind.i64 (y2 + 1)))], [⟨false, OC.box [A.fl FloatKind.f32 y3, A.fl FloatKind.f32 y4, A.fl FloatKind.f32 y5, A.fl FloatKind.f32 y6, A.fl FloatKind.f32 y7]⟩, ⟨true, OC.box [A.fl FloatKind.f32 (Pure.spec_l02Step F y3 y4 y5 y6 y7 y8 y9 y10 y0), A.fl FloatKind.f32 (Pure.spec_l02Step_1 F y3 y4 y5 y6 y7 y8 y9 y10 y0), A.fl FloatKind.f32 (Pure.spec_l02Step_2 F y3 y4 y5 y6 y7 y8 y9 y10 y0)]⟩, ⟨true, OC.box [A.fl FloatKind.f32 y11, A.fl FloatKind.f32 y12, A.fl FloatKind.f32 y13]⟩, ⟨true, OC.rows [K.f FloatKind.f32] (y14 ++ [[Pure.spec_l02Step F y3 y4 y5 y6 y7 y8 y9 y10 y0]])⟩]))) else none else none else some (false, (Ex.normal, ([V.at (A.ptr 1 0 0), V.at (A.ptr 2 0 0), V.at A.undef, V.at A.undef, V.at (A.sl 3)], [⟨false, OC.box [A.fl FloatKind.f32 y3, A.fl FloatKind.f32 y4, A.fl FloatKind.f32 y5, A.fl FloatKind.f32 y6, A.fl FloatKind.f32 y7]⟩, ⟨true, OC.box [A.fl FloatKind.f32 y8, A.fl FloatKind.f32 y9, A.fl FloatKind.f32 y10]⟩, ⟨true, OC.box [A.fl FloatKind.f32 y11, A.fl FloatKind.f32 y12, A.fl FloatKind.f32 y13]⟩, ⟨true, OC.rows [K.f FloatKind.f32] y14⟩])))) := by kernel_rfl
    unfold loopOf
    rw [h0]
    unfold Pure.spec_l02Run_L0
    cases (Decidable.decide (y2 < y1)) with
    | true =>
      cases (Pure.spec_l02Step_ok F y3 y4 y5 y6 y7 y8 y9 y10 y0) with
      | true =>
        cases (Pure.spec_l02Swing F (Pure.spec_l02Step F y3 y4 y5 y6 y7 y8 y9 y10 y0) (Pure.spec_l02Step_1 F y3 y4 y5 y6 y7 y8 y9 y10 y0) (Pure.spec_l02Step_2 F y3 y4 y5 y6 y7 y8 y9 y10 y0)) with
        | true =>
          cases (Decidable.decide ((Nat.succ (List.length y14)) ≤ 1073741824)) with
          | true =>
            exact ih _ _ _ _ _
          | false =>
            intro h; exact absurd h Bool.false_ne_true
        | false =>
          intro _; rfl
      | false =>
        intro h; exact absurd h Bool.false_ne_true
    | false =>
      intro _; rfl
theorem t_spec_l02Run_L0 : SmTo Try.prog 1 33 (S_spec_l02Run_L0 real) 0 (.loop (loopB 0 (codeOf Try.f85))) := by
  refine smTo_ev (cl := [(97, c_spec_l02Step real), (95, c_spec_l02Swing real)]) (ef := []) (sm := []) (un := 0) prog_ok (allOK_cons ok_spec_l02Step (allOK_cons ok_spec_l02Swing allOK_nil)) smL_nil ?_
  intro vals hp q r h hq
  unfold S_spec_l02Run_L0 at h
  dsimp only at h
  split at h
  · rename_i y0 y1 y2 y3 y4 y5 y6 y7 y8 y9 y10 y11 y12 y13 y14
    obtain rfl := Option.some.inj h
    have h1 := hq
    unfold resOf at h1
    rw [chk_some] at h1
    exact ⟨_, (l_spec_l02Run_L0 real y0 y1 y3 y4 y5 y6 y7 y11 y12 y13 _ y2 y8 y9 y10 y14 h1.1).trans hq⟩
  · cases h
def Pure.spec_l02Run (F : FOps) (x0 : Int) (x1 : Int) (x2 : Int) (x3 : Int) (x4 : Int) (x5 : Int) (x6 : Int) (x7 : Int) (x8 : Int) (x9 : Int) : Int := bif Prod.fst (Prod.snd (Pure.spec_l02Run_L0 F x8 x9 x0 x1 x2 x3 x4 0 0 0 (Int.toNat ((x9 - 0) + 1)) 0 x5 x6 x7 [])) then 0 else Prod.fst (Prod.snd (Prod.snd (Pure.spec_l02Run_L0 F x8 x9 x0 x1 x2 x3 x4 0 0 0 (Int.toNat ((x9 - 0) + 1)) 0 x5 x6 x7 [])))
def Pure.spec_l02Run_1 (F : FOps) (x0 : Int) (x1 : Int) (x2 : Int) (x3 : Int) (x4 : Int) (x5 : Int) (x6 : Int) (x7 : Int) (x8 : Int) (x9 : Int) : Int := bif Prod.fst (Prod.snd (Pure.spec_l02Run_L0 F x8 x9 x0 x1 x2 x3 x4 0 0 0 (Int.toNat ((x9 - 0) + 1)) 0 x5 x6 x7 [])) then 0 else Prod.fst (Prod.snd (Prod.snd (Prod.snd (Pure.spec_l02Run_L0 F x8 x9 x0 x1 x2 x3 x4 0 0 0 (Int.toNat ((x9 - 0) + 1)) 0 x5 x6 x7 []))))
def Pure.spec_l02Run_2 (F : FOps) (x0 : Int) (x1 : Int) (x2 : Int) (x3 : Int) (x4 : Int) (x5 : Int) (x6 : Int) (x7 : Int) (x8 : Int) (x9 : Int) : Int := bif Prod.fst (Prod.snd (Pure.spec_l02Run_L0 F x8 x9 x0 x1 x2 x3 x4 0 0 0 (Int.toNat ((x9 - 0) + 1)) 0 x5 x6 x7 [])) then 0 else Prod.fst (Prod.snd (Prod.snd (Prod.snd (Prod.snd (Pure.spec_l02Run_L0 F x8 x9 x0 x1 x2 x3 x4 0 0 0 (Int.toNat ((x9 - 0) + 1)) 0 x5 x6 x7 [])))))
def Pure.spec_l02Run_3 (F : FOps) (x0 : Int) (x1 : Int) (x2 : Int) (x3 : Int) (x4 : Int) (x5 : Int) (x6 : Int) (x7 : Int) (x8 : Int) (x9 : Int) : Bool := bif Prod.fst (Prod.snd (Pure.spec_l02Run_L0 F x8 x9 x0 x1 x2 x3 x4 0 0 0 (Int.toNat ((x9 - 0) + 1)) 0 x5 x6 x7 [])) then false else true
def Pure.spec_l02Run_4 (F : FOps) (x0 : Int) (x1 : Int) (x2 : Int) (x3 : Int) (x4 : Int) (x5 : Int) (x6 : Int) (x7 : Int) (x8 : Int) (x9 : Int) : List (List Int) := bif Prod.fst (Prod.snd (Pure.spec_l02Run_L0 F x8 x9 x0 x1 x2 x3 x4 0 0 0 (Int.toNat ((x9 - 0) + 1)) 0 x5 x6 x7 [])) then [] else Prod.fst (Prod.snd (Prod.snd (Prod.snd (Prod.snd (Prod.snd (Pure.spec_l02Run_L0 F x8 x9 x0 x1 x2 x3 x4 0 0 0 (Int.toNat ((x9 - 0) + 1)) 0 x5 x6 x7 []))))))
def Pure.spec_l02Run_ok (F : FOps) (x0 : Int) (x1 : Int) (x2 : Int) (x3 : Int) (x4 : Int) (x5 : Int) (x6 : Int) (x7 : Int) (x8 : Int) (x9 : Int) : Bool := Prod.fst (Pure.spec_l02Run_L0 F x8 x9 x0 x1 x2 x3 x4 0 0 0 (Int.toNat ((x9 - 0) + 1)) 0 x5 x6 x7 [])
def c_spec_l02Run (F : FOps) : Con
  | [V.at (A.ptr 0 0 0), V.agg [A.fl FloatKind.f32 x5, A.fl FloatKind.f32 x6, A.fl FloatKind.f32 x7], V.at (A.fl FloatKind.f32 x8), V.at (A.int IntKind.i64 x9)], [⟨false, OC.box [A.fl FloatKind.f32 x0, A.fl FloatKind.f32 x1, A.fl FloatKind.f32 x2, A.fl FloatKind.f32 x3, A.fl FloatKind.f32 x4]⟩] => some (Pure.spec_l02Run_ok F x0 x1 x2 x3 x4 x5 x6 x7 x8 x9, ⟨V.tup [(true, [A.fl FloatKind.f32 (Pure.spec_l02Run F x0 x1 x2 x3 x4 x5 x6 x7 x8 x9), A.fl FloatKind.f32 (Pure.spec_l02Run_1 F x0 x1 x2 x3 x4 x5 x6 x7 x8 x9), A.fl FloatKind.f32 (Pure.spec_l02Run_2 F x0 x1 x2 x3 x4 x5 x6 x7 x8 x9)]), (false, [A.sl 1]), (false, [A.bool (Pure.spec_l02Run_3 F x0 x1 x2 x3 x4 x5 x6 x7 x8 x9)])], none, [⟨true, OC.rows [K.f FloatKind.f32] (Pure.spec_l02Run_4 F x0 x1 x2 x3 x4 x5 x6 x7 x8 x9)⟩]⟩)
  | _, _ => none
theorem e_spec_l02Run (F : FOps) (x0 : Int) (x1 : Int) (x2 : Int) (x3 : Int) (x4 : Int) (x5 : Int) (x6 : Int) (x7 : Int) (x8 : Int) (x9 : Int) : Pure.spec_l02Run_ok F x0 x1 x2 x3 x4 x5 x6 x7 x8 x9 = true → evFn (cxS F tyl [(97, c_spec_l02Step F), (95, c_spec_l02Swing F)] [] [(0, S_spec_l02Run_L0 F)] 0) Try.f85 false [V.at (A.ptr 0 0 0), V.agg [A.fl FloatKind.f32 x5, A.fl FloatKind.f32 x6, A.fl FloatKind.f32 x7], V.at (A.fl FloatKind.f32 x8), V.at (A.int IntKind.i64 x9)] [⟨false, OC.box [A.fl FloatKind.f32 x0, A.fl FloatKind.f32 x1, A.fl FloatKind.f32 x2, A.fl FloatKind.f32 x3, A.fl FloatKind.f32 x4]⟩] = some ⟨V.tup [(true, [A.fl FloatKind.f32 (Pure.spec_l02Run F x0 x1 x2 x3 x4 x5 x6 x7 x8 x9), A.fl FloatKind.f32 (Pure.spec_l02Run_1 F x0 x1 x2 x3 x4 x5 x6 x7 x8 x9), A.fl FloatKind.f32 (Pure.spec_l02Run_2 F x0 x1 x2 x3 x4 x5 x6 x7 x8 x9)]), (false, [A.sl 1]), (false, [A.bool (Pure.spec_l02Run_3 F x0 x1 x2 x3 x4 x5 x6 x7 x8 x9)])], none, [⟨true, OC.rows [K.f FloatKind.f32] (Pure.spec_l02Run_4 F x0 x1 x2 x3 x4 x5 x6 x7 x8 x9)⟩]⟩ := by
  have h0 : evFn (cxS F tyl [(97, c_spec_l02Step F), (95, c_spec_l02Swing F)] [] [(0, S_spec_l02Run_L0 F)] 0) Try.f85 false [V.at (A.ptr 0 0 0), V.agg [A.fl FloatKind.f32 x5, A.fl FloatKind.f32 x6, A.fl FloatKind.f32 x7], V.at (A.fl FloatKind.f32 x8), V.at (A.int IntKind.i64 x9)] [⟨false, OC.box [A.fl FloatKind.f32 x0, A.fl FloatKind.f32 x1, A.fl FloatKind.f32 x2, A.fl FloatKind.f32 x3, A.fl FloatKind.f32 x4]⟩] = bif Prod.fst (Pure.spec_l02Run_L0 F x8 x9 x0 x1 x2 x3 x4 0 0 0 (Int.toNat ((x9 - 0) + 1)) 0 x5 x6 x7 []) then bif Prod.fst (Prod.snd (Pure.spec_l02Run_L0 F x8 x9 x0 x1 x2 x3 x4 0 0 0 (Int.toNat ((x9 - 0) + 1)) 0 x5 x6 x7 [])) then some ⟨V.tup [(true, [A.fl FloatKind.f32 0, A.fl FloatKind.f32 0, A.fl FloatKind.f32 0]), (false, [A.sl 1]), (false, [A.bool false])], none, [⟨true, OC.rows [K.f FloatKind.f32] []⟩]⟩ else some ⟨V.tup [(true, [A.fl FloatKind.f32 (Prod.fst (Prod.snd (Prod.snd (Pure.spec_l02Run_L0 F x8 x9 x0 x1 x2 x3 x4 0 0 0 (Int.toNat ((x9 - 0) + 1)) 0 x5 x6 x7 [])))), A.fl FloatKind.f32 (Prod.fst (Prod.snd (Prod.snd (Prod.snd (Pure.spec_l02Run_L0 F x8 x9 x0 x1 x2 x3 x4 0 0 0 (Int.toNat ((x9 - 0) + 1)) 0 x5 x6 x7 []))))), A.fl FloatKind.f32 (Prod.fst (Prod.snd (Prod.snd (Prod.snd (Prod.snd (Pure.spec_l02Run_L0 F x8 x9 x0 x1 x2 x3 x4 0 0 0 (Int.toNat ((x9 - 0) + 1)) 0 x5 x6 x7 []))))))]), (false, [A.sl 1]), (false, [A.bool true])], none, [⟨true, OC.rows [K.f FloatKind.f32] (Prod.fst (Prod.snd (Prod.snd (Prod.snd (Prod.snd (Prod.snd (Pure.spec_l02Run_L0 F x8 x9 x0 x1 x2 x3 x4 0 0 0 (Int.toNat ((x9 - 0) + 1)) 0 x5 x6 x7 [])))))))⟩]⟩ else none := by kernel_rfl
  rw [h0]
  unfold Pure.spec_l02Run Pure.spec_l02Run_1 Pure.spec_l02Run_2 Pure.spec_l02Run_3 Pure.spec_l02Run_4 Pure.spec_l02Run_ok
  cases (Prod.fst (Pure.spec_l02Run_L0 F x8 x9 x0 x1 x2 x3 x4 0 0 0 (Int.toNat ((x9 - 0) + 1)) 0 x5 x6 x7 [])) with
  | true =>
    cases (Prod.fst (Prod.snd (Pure.spec_l02Run_L0 F x8 x9 x0 x1 x2 x3 x4 0 0 0 (Int.toNat ((x9 - 0) + 1)) 0 x5 x6 x7 []))) with
    | true =>
      intro _; rfl
    | false =>
      intro _; rfl
  | false =>
    intro h; exact absurd h Bool.false_ne_true
theorem ok_spec_l02Run : CallOK Try.prog 85 (c_spec_l02Run real) := by
  refine callOK_of fun args h ret hc => ?_
  unfold c_spec_l02Run at hc
  split at hc
  · rename_i x5 x6 x7 x8 x9 x0 x1 x2 x3 x4
    obtain ⟨hok, rfl⟩ := some_ret hc
    exact holds_ev prog_ok (allOK_cons ok_spec_l02Step (allOK_cons ok_spec_l02Swing allOK_nil)) Try.func85 rfl rfl (smL_cons (body := .loop (loopB 0 (codeOf Try.f85))) (by kernel_rfl) t_spec_l02Run_L0 smL_nil) rfl (e_spec_l02Run real x0 x1 x2 x3 x4 x5 x6 x7 x8 x9 hok)
  · cases hc
def Pure.spec_l02Width_L0 (F : FOps) (y2 : List (List Int)) : Nat → Int → Int → (Bool × Int)
  | 0, _, _ => (false, 0)
  | n + 1, y0, y1 => bif (Decidable.decide (y1 < (Int.ofNat (List.length y2)))) then (bif (Decidable.decide (0 ≤ y1)) then (bif (Decidable.decide (y1 < (Int.ofNat (List.length y2)))) then (bif (FOps.cmp F BinOp.gtr FloatKind.f32 (List.getD (List.getD y2 (Int.toNat y1) []) 0 0) y0) then (bif (Decidable.decide (0 ≤ y1)) then (bif (Decidable.decide (y1 < (Int.ofNat (List.length y2)))) then (bif (Decidable.decide (0 ≤ y1)) then (bif (Decidable.decide (y1 < (Int.ofNat (List.length y2)))) then (bif (FOps.cmp F BinOp.gtr FloatKind.f32 (FOps.neg F FloatKind.f32 (List.getD (List.getD y2 (Int.toNat y1) []) 0 0)) (List.getD (List.getD y2 (Int.toNat y1) []) 0 0)) then (bif (Decidable.decide (0 ≤ y1)) then (bif (Decidable.decide (y1 < (Int.ofNat (List.length y2)))) then (Pure.spec_l02Width_L0 F y2 n (FOps.neg F FloatKind.f32 (List.getD (List.getD y2 (Int.toNat y1) []) 0 0)) (IntKind.wrap IntKind.i64 (y1 + 1))) else ((false, 0))) else ((false, 0))) else (Pure.spec_l02Width_L0 F y2 n (List.getD (List.getD y2 (Int.toNat y1) []) 0 0) (IntKind.wrap IntKind.i64 (y1 + 1)))) else ((false, 0))) else ((false, 0))) else ((false, 0))) else ((false, 0))) else (bif (Decidable.decide (0 ≤ y1)) then (bif (Decidable.decide (y1 < (Int.ofNat (List.length y2)))) then (bif (FOps.cmp F BinOp.gtr FloatKind.f32 (FOps.neg F FloatKind.f32 (List.getD (List.getD y2 (Int.toNat y1) []) 0 0)) y0) then (bif (Decidable.decide (0 ≤ y1)) then (bif (Decidable.decide (y1 < (Int.ofNat (List.length y2)))) then (Pure.spec_l02Width_L0 F y2 n (FOps.neg F FloatKind.f32 (List.getD (List.getD y2 (Int.toNat y1) []) 0 0)) (IntKind.wrap IntKind.i64 (y1 + 1))) else ((false, 0))) else ((false, 0))) else (Pure.spec_l02Width_L0 F y2 n y0 (IntKind.wrap IntKind.i64 (y1 + 1)))) else ((false, 0))) else ((false, 0)))) else ((false, 0))) else ((false, 0))) else ((true, y0))
def R_spec_l02Width_L0 (y2 : List (List Int)) (r : (Bool × Int)) : Bool × Bool × (Ex × List V × List Ob) × (Ex × List V × List Ob) := ((r).1, false, (Ex.normal, [V.at (A.fl FloatKind.f32 (r).2)], [⟨false, OC.rows [K.f FloatKind.f32] y2⟩]), (Ex.normal, [V.at (A.fl FloatKind.f32 (r).2)], [⟨false, OC.rows [K.f FloatKind.f32] y2⟩]))
def S_spec_l02Width_L0 (F : FOps) : Sm := ⟨[0, 3, 4], [58, 24, 3], [3], fun vals hp => match vals, hp with
  | [V.at (A.sl 0), V.at (A.fl FloatKind.f32 y0), V.at (A.int IntKind.i64 y1)], [⟨false, OC.rows [K.f FloatKind.f32] y2⟩] => some (R_spec_l02Width_L0 y2 (Pure.spec_l02Width_L0 F y2 ((Int.ofNat (List.length y2)) - y1 + 1).toNat y0 y1))
  | _, _ => none⟩
theorem l_spec_l02Width_L0 (F : FOps) (y2 : List (List Int)) : ∀ (fuel : Nat) (y0 : Int) (y1 : Int), (Pure.spec_l02Width_L0 F y2 fuel y0 y1).1 = true → loopOf (cxS F tyl [] [] [] 0) 1 34 0 [0, 3, 4] [58, 24, 3] [3] (loopB 0 (codeOf Try.f86)) fuel [V.at (A.sl 0), V.at (A.fl FloatKind.f32 y0), V.at (A.int IntKind.i64 y1)] [⟨false, OC.rows [K.f FloatKind.f32] y2⟩] = resOf (R_spec_l02Width_L0 y2 (Pure.spec_l02Width_L0 F y2 fuel y0 y1)) := by
  intro fuel
  induction fuel with
  | zero => intro y0 y1 h; exact absurd h Bool.false_ne_true
  | succ n ih =>
    intro y0 y1
    have h0 : roundOf (cxS F tyl [] [] [] 0) 1 34 0 [0, 3, 4] [58, 24, 3] [3] (loopB 0 (codeOf Try.f86)) [V.at (A.sl 0), V.at (A.fl FloatKind.f32 y0), V.at (A.int IntKind.i64 y1)] [⟨false, OC.rows [K.f FloatKind.f32] y2⟩] = (bif Decidable.decide (y1 < (Int.ofNat (List.length y2))) then bif Decidable.decide (0 ≤ y1) then bif Decidable.decide (y1 < (Int.ofNat (List.length y2))) then bif FOps.cmp F BinOp.gtr FloatKind.f32 (List.getD (List.getD y2 (Int.toNat y1) []) 0 0) y0 then bif Decidable.decide (0 ≤ y1) then bif Decidable.decide (y1 < (Int.ofNat (List.length y2))) then bif Decidable.decide (0 ≤ y1) then bif Decidable.decide (y1 < (Int.ofNat (List.length y2))) then bif FOps.cmp F BinOp.gtr FloatKind.f32 (FOps.neg F FloatKind.f32 (List.getD (List.getD y2 (Int.toNat y1) []) 0 0)) (List.getD (List.getD y2 (Int.toNat y1) []) 0 0) then bif Decidable.decide (0 ≤ y1) then bif Decidable.decide (y1 < (Int.ofNat (List.length y2))) then some (true, (Ex.normal, ([V.at (A.sl 0), V.at (A.fl FloatKind.f32 (FOps.neg F FloatKind.f32 (List.getD (List.getD y2 (Int.toNat y1) []) 0 0))), V.at (A.int IntKind.i64 (IntKind.wrap IntKind.i64 (y1 + 1)))], [⟨false, OC.rows [K.f FloatKind.f32] y2⟩]))) else none else none else some (true, (Ex.normal, ([V.at (A.sl 0), V.at (A.fl FloatKind.f32 (List.getD (List.getD y2 (Int.toNat y1) []) 0 0)), V.at (A.int IntKind.i64 (IntKind.wrap IntKind.i64 (y1 + 1)))], [⟨false, OC.rows [K.f FloatKind.f32] y2⟩]))) else none else none else none else none else bif Decidable.decide (0 ≤ y1) then bif Decidable.decide (y1 < (Int.ofNat (List.length y2))) then bif FOps.cmp F BinOp.gtr FloatKind.f32 (FOps.neg F FloatKind.f32 (List.getD (List.getD y2 (Int.toNat y1) []) 0 0)) y0 then bif Decidable.decide (0 ≤ y1) then bif Decidable.decide (y1 < (Int.ofNat (List.length y2))) then some (true, (Ex.normal, ([V.at (A.sl 0), V.at (A.fl FloatKind.f32 (FOps.neg F FloatKind.f32 (List.getD (List.getD y2 (Int.toNat y1) []) 0 0))), V.at (A.int IntKind.i64 (IntKind.wrap IntKind.i64 (y1 + 1)))], [⟨false, OC.rows [K.f FloatKind.f32] y2⟩]))) else none else none else some (true, (Ex.normal, ([V.at (A.sl 0), V.at (A.fl FloatKind.f32 y0), V.at (A.int IntKind.i64 (IntKind.wrap IntKind.i64 (y1 + 1)))], [⟨false, OC.rows [K.f FloatKind.f32] y2⟩]))) else none else none else none else none else some (false, (Ex.normal, ([V.at (A.fl FloatKind.f32 y0)], [⟨false, OC.rows [K.f FloatKind.f32] y2⟩])))) := by kernel_rfl
    unfold loopOf
    rw [h0]
    unfold Pure.spec_l02Width_L0
    cases (Decidable.decide (y1 < (Int.ofNat (List.length y2)))) with
    | true =>
      cases (Decidable.decide (0 ≤ y1)) with
      | true =>
        cases (FOps.cmp F BinOp.gtr FloatKind.f32 (List.getD (List.getD y2 (Int.toNat y1) []) 0 0) y0) with
        | true =>
          cases (FOps.cmp F BinOp.gtr FloatKind.f32 (FOps.neg F FloatKind.f32 (List.getD (List.getD y2 (Int.toNat y1) []) 0 0)) (List.getD (List.getD y2 (Int.toNat y1) []) 0 0)) with
          | true =>
            exact ih _ _
          | false =>
            exact ih _ _
        | false =>
          cases (FOps.cmp F BinOp.gtr FloatKind.f32 (FOps.neg F FloatKind.f32 (List.getD (List.getD y2 (Int.toNat y1) []) 0 0)) y0) with
          | true =>
            exact ih _ _
          | false =>
            exact ih _ _
      | false =>
        intro h; exact absurd h Bool.false_ne_true
    | false =>
      intro _; rfl
theorem t_spec_l02Width_L0 : SmTo Try.prog 1 34 (S_spec_l02Width_L0 real) 0 (.loop (loopB 0 (codeOf Try.f86))) := by
  refine smTo_ev (cl := []) (ef := []) (sm := []) (un := 0) prog_ok allOK_nil smL_nil ?_
  intro vals hp q r h hq
  unfold S_spec_l02Width_L0 at h
  dsimp only at h
  split at h
  · rename_i y0 y1 y2
    obtain rfl := Option.some.inj h
    have h1 := hq
    unfold resOf at h1
    rw [chk_some] at h1
    exact ⟨_, (l_spec_l02Width_L0 real y2 _ y0 y1 h1.1).trans hq⟩
  · cases h
def Pure.spec_l02Width (F : FOps) (x0 : List (List Int)) : Int := Prod.snd (Pure.spec_l02Width_L0 F x0 (Nat.succ ((List.length x0) + 0)) 0 0)
def Pure.spec_l02Width_ok (F : FOps) (x0 : List (List Int)) : Bool := Prod.fst (Pure.spec_l02Width_L0 F x0 (Nat.succ ((List.length x0) + 0)) 0 0)
def c_spec_l02Width (F : FOps) : Con
  | [V.at (A.sl 0)], [⟨false, OC.rows [K.f FloatKind.f32] x0⟩] => some (Pure.spec_l02Width_ok F x0, ⟨V.at (A.fl FloatKind.f32 (Pure.spec_l02Width F x0)), none, []⟩)
  | _, _ => none
theorem e_spec_l02Width (F : FOps) (x0 : List (List Int)) : Pure.spec_l02Width_ok F x0 = true → evFn (cxS F tyl [] [] [(0, S_spec_l02Width_L0 F)] 0) Try.f86 false [V.at (A.sl 0)] [⟨false, OC.rows [K.f FloatKind.f32] x0⟩] = some ⟨V.at (A.fl FloatKind.f32 (Pure.spec_l02Width F x0)), none, []⟩ := by
  have h0 : evFn (cxS F tyl [] [] [(0, S_spec_l02Width_L0 F)] 0) Try.f86 false [V.at (A.sl 0)] [⟨false, OC.rows [K.f FloatKind.f32] x0⟩] = bif Prod.fst (Pure.spec_l02Width_L0 F x0 (Nat.succ ((List.length x0) + 0)) 0 0) then some ⟨V.at (A.fl FloatKind.f32 (Prod.snd (Pure.spec_l02Width_L0 F x0 (Nat.succ ((List.length x0) + 0)) 0 0))), none, []⟩ else none := by kernel_rfl
  rw [h0]
  unfold Pure.spec_l02Width Pure.spec_l02Width_ok
  cases (Prod.fst (Pure.spec_l02Width_L0 F x0 (Nat.succ ((List.length x0) + 0)) 0 0)) with
  | true =>
    intro _; rfl
  | false =>
    intro h; exact absurd h Bool.false_ne_true
theorem ok_spec_l02Width : CallOK Try.prog 86 (c_spec_l02Width real) := by
  refine callOK_of fun args h ret hc => ?_
  unfold c_spec_l02Width at hc
  split at hc
  · rename_i x0
    obtain ⟨hok, rfl⟩ := some_ret hc
    exact holds_ev prog_ok allOK_nil Try.func86 rfl rfl (smL_cons (body := .loop (loopB 0 (codeOf Try.f86))) (by kernel_rfl) t_spec_l02Width_L0 smL_nil) rfl (e_spec_l02Width real x0 hok)
  · cases hc
def Pure.spec_l02Response (F : FOps) (x0 : Int) (x1 : Int) (x2 : Int) (x3 : Int) (x4 : Int) (x5 : Int) (x6 : Int) (x7 : Int) (x8 : Int) (x9 : Int) (x10 : Int) : Int := bif Pure.spec_l02Run_3 F x0 x1 x2 x3 x4 x5 x6 x7 x8 (IntKind.wrap IntKind.i64 (x9 + x10)) then Pure.spec_l02Width F (List.take ((List.length (Pure.spec_l02Run_4 F x0 x1 x2 x3 x4 x5 x6 x7 x8 (IntKind.wrap IntKind.i64 (x9 + x10)))) - (Int.toNat x9)) (List.drop (Int.toNat x9) (Pure.spec_l02Run_4 F x0 x1 x2 x3 x4 x5 x6 x7 x8 (IntKind.wrap IntKind.i64 (x9 + x10))))) else 0
def Pure.spec_l02Response_1 (F : FOps) (x0 : Int) (x1 : Int) (x2 : Int) (x3 : Int) (x4 : Int) (x5 : Int) (x6 : Int) (x7 : Int) (x8 : Int) (x9 : Int) (x10 : Int) : Bool := Pure.spec_l02Run_3 F x0 x1 x2 x3 x4 x5 x6 x7 x8 (IntKind.wrap IntKind.i64 (x9 + x10))
def Pure.spec_l02Response_ok (F : FOps) (x0 : Int) (x1 : Int) (x2 : Int) (x3 : Int) (x4 : Int) (x5 : Int) (x6 : Int) (x7 : Int) (x8 : Int) (x9 : Int) (x10 : Int) : Bool := bif Pure.spec_l02Run_ok F x0 x1 x2 x3 x4 x5 x6 x7 x8 (IntKind.wrap IntKind.i64 (x9 + x10)) then bif Pure.spec_l02Run_3 F x0 x1 x2 x3 x4 x5 x6 x7 x8 (IntKind.wrap IntKind.i64 (x9 + x10)) then bif Decidable.decide (0 ≤ x9) then bif Decidable.decide (x9 ≤ (Int.ofNat (List.length (Pure.spec_l02Run_4 F x0 x1 x2 x3 x4 x5 x6 x7 x8 (IntKind.wrap IntKind.i64 (x9 + x10)))))) then Pure.spec_l02Width_ok F (List.take ((List.length (Pure.spec_l02Run_4 F x0 x1 x2 x3 x4 x5 x6 x7 x8 (IntKind.wrap IntKind.i64 (x9 + x10)))) - (Int.toNat x9)) (List.drop (Int.toNat x9) (Pure.spec_l02Run_4 F x0 x1 x2 x3 x4 x5 x6 x7 x8 (IntKind.wrap IntKind.i64 (x9 + x10))))) else false else false else true else false
def c_spec_l02Response (F : FOps) : Con
  | [V.at (A.ptr 0 0 0), V.agg [A.fl FloatKind.f32 x5, A.fl FloatKind.f32 x6, A.fl FloatKind.f32 x7], V.at (A.fl FloatKind.f32 x8), V.at (A.int IntKind.i64 x9), V.at (A.int IntKind.i64 x10)], [⟨false, OC.box [A.fl FloatKind.f32 x0, A.fl FloatKind.f32 x1, A.fl FloatKind.f32 x2, A.fl FloatKind.f32 x3, A.fl FloatKind.f32 x4]⟩] => some (Pure.spec_l02Response_ok F x0 x1 x2 x3 x4 x5 x6 x7 x8 x9 x10, ⟨V.tup [(false, [A.fl FloatKind.f32 (Pure.spec_l02Response F x0 x1 x2 x3 x4 x5 x6 x7 x8 x9 x10)]), (false, [A.bool (Pure.spec_l02Response_1 F x0 x1 x2 x3 x4 x5 x6 x7 x8 x9 x10)])], none, []⟩)
  | _, _ => none
theorem e_spec_l02Response (F : FOps) (x0 : Int) (x1 : Int) (x2 : Int) (x3 : Int) (x4 : Int) (x5 : Int) (x6 : Int) (x7 : Int) (x8 : Int) (x9 : Int) (x10 : Int) : Pure.spec_l02Response_ok F x0 x1 x2 x3 x4 x5 x6 x7 x8 x9 x10 = true → evFn (cxS F tyl [(85, c_spec_l02Run F), (86, c_spec_l02Width F)] [] [] 0) Try.f60 false [V.at (A.ptr 0 0 0), V.agg [A.fl FloatKind.f32 x5, A.fl FloatKind.f32 x6, A.fl FloatKind.f32 x7], V.at (A.fl FloatKind.f32 x8), V.at (A.int IntKind.i64 x9), V.at (A.int IntKind.i64 x10)] [⟨false, OC.box [A.fl FloatKind.f32 x0, A.fl FloatKind.f32 x1, A.fl FloatKind.f32 x2, A.fl FloatKind.f32 x3, A.fl FloatKind.f32 x4]⟩] = some ⟨V.tup [(false, [A.fl FloatKind.f32 (Pure.spec_l02Response F x0 x1 x2 x3 x4 x5 x6 x7 x8 x9 x10)]), (false, [A.bool (Pure.spec_l02Response_1 F x0 x1 x2 x3 x4 x5 x6 x7 x8 x9 x10)])], none, []⟩ := by
  have h0 : evFn (cxS F tyl [(85, c_spec_l02Run F), (86, c_spec_l02Width F)] [] [] 0) Try.f60 false [V.at (A.ptr 0 0 0), V.agg [A.fl FloatKind.f32 x5, A.fl FloatKind.f32 x6, A.fl FloatKind.f32 x7], V.at (A.fl FloatKind.f32 x8), V.at (A.int IntKind.i64 x9), V.at (A.int IntKind.i64 x10)] [⟨false, OC.box [A.fl FloatKind.f32 x0, A.fl FloatKind.f32 x1, A.fl FloatKind.f32 x2, A.fl FloatKind.f32 x3, A.fl FloatKind.f32 x4]⟩] = bif Pure.spec_l02Run_ok F x0 x1 x2 x3 x4 x5 x6 x7 x8 (IntKind.wrap IntKind.i64 (x9 + x10)) then bif Bool.not (Pure.spec_l02Run_3 F x0 x1 x2 x3 x4 x5 x6 x7 x8 (IntKind.wrap IntKind.i64 (x9 + x10))) then some ⟨V.tup [(false, [A.fl FloatKind.f32 0]), (false, [A.bool false])], none, []⟩ else bif Decidable.decide (0 ≤ x9) then bif Decidable.decide (x9 ≤ (Int.ofNat (List.length (Pure.spec_l02Run_4 F x0 x1 x2 x3 x4 x5 x6 x7 x8 (IntKind.wrap IntKind.i64 (x9 + x10)))))) then bif Pure.spec_l02Width_ok F (List.take ((List.length (Pure.spec_l02Run_4 F x0 x1 x2 x3 x4 x5 x6 x7 x8 (IntKind.wrap IntKind.i64 (x9 + x10)))) - (Int.toNat x9)) (List.drop (Int.toNat x9) (Pure.spec_l02Run_4 F x0 x1 x2 x3 x4 x5 x6 x7 x8 (IntKind.wrap IntKind.i64 (x9 + x10))))) then some ⟨V.tup [(false, [A.fl FloatKind.f32 (Pure.spec_l02Width F (List.take ((List.length (Pure.spec_l02Run_4 F x0 x1 x2 x3 x4 x5 x6 x7 x8 (IntKind.wrap IntKind.i64 (x9 + x10)))) - (Int.toNat x9)) (List.drop (Int.toNat x9) (Pure.spec_l02Run_4 F x0 x1 x2 x3 x4 x5 x6 x7 x8 (IntKind.wrap IntKind.i64 (x9 + x10))))))]), (false, [A.bool true])], none, []⟩ else none else none else none else none := by kernel_rfl
  rw [h0]
  unfold Pure.spec_l02Response Pure.spec_l02Response_1 Pure.spec_l02Response_ok
  cases (Pure.spec_l02Run_ok F x0 x1 x2 x3 x4 x5 x6 x7 x8 (IntKind.wrap IntKind.i64 (x9 + x10))) with
  | true =>
    cases (Pure.spec_l02Run_3 F x0 x1 x2 x3 x4 x5 x6 x7 x8 (IntKind.wrap IntKind.i64 (x9 + x10))) with
    | true =>
      cases (Decidable.decide (0 ≤ x9)) with
      | true =>
        cases (Decidable.decide (x9 ≤ (Int.ofNat (List.length (Pure.spec_l02Run_4 F x0 x1 x2 x3 x4 x5 x6 x7 x8 (IntKind.wrap IntKind.i64 (x9 + x10))))))) with
        | true =>
          cases (Pure.spec_l02Width_ok F (List.take ((List.length (Pure.spec_l02Run_4 F x0 x1 x2 x3 x4 x5 x6 x7 x8 (IntKind.wrap IntKind.i64 (x9 + x10)))) - (Int.toNat x9)) (List.drop (Int.toNat x9) (Pure.spec_l02Run_4 F x0 x1 x2 x3 x4 x5 x6 x7 x8 (IntKind.wrap IntKind.i64 (x9 + x10)))))) with
          | true =>
            intro _; rfl
          | false =>
            intro h; exact absurd h Bool.false_ne_true
        | false =>
          intro h; exact absurd h Bool.false_ne_true
      | false =>
        intro h; exact absurd h Bool.false_ne_true
    | false =>
      intro _; rfl
  | false =>
    intro h; exact absurd h Bool.false_ne_true
theorem ok_spec_l02Response : CallOK Try.prog 60 (c_spec_l02Response real) := by
  refine callOK_of fun args h ret hc => ?_
  unfold c_spec_l02Response at hc
  split at hc
  · rename_i x5 x6 x7 x8 x9 x10 x0 x1 x2 x3 x4
    obtain ⟨hok, rfl⟩ := some_ret hc
    exact holds_ev prog_ok (allOK_cons ok_spec_l02Run (allOK_cons ok_spec_l02Width allOK_nil)) Try.func60 rfl rfl smL_nil rfl (e_spec_l02Response real x0 x1 x2 x3 x4 x5 x6 x7 x8 x9 x10 hok)
  · cases hc
def Pure.spec_ScanRates_L0 (F : FOps) (y0 : Int) (y1 : Int) (y2 : Int) (y4 : List (List Int)) (y5 : Int) (y6 : Int) (y7 : Int) (y8 : Int) (y10 : Int) (y11 : Int) (y12 : Int) : Nat → Int → Int → (List (List Int)) → (Bool × Bool × (List (List Int)) × (List (List Int)))
  | 0, _, _, _ => (false, false, [], [])
  | n + 1, y3, y9, y13 => bif (Decidable.decide (y3 < (Int.ofNat (List.length y4)))) then (bif (Decidable.decide (0 ≤ y3)) then (bif (Decidable.decide (y3 < (Int.ofNat (List.length y4)))) then (bif (Pure.spec_l02Is F y5 y6 y7 y8 (List.getD (List.getD y4 (Int.toNat y3) []) 0 0)) then (bif (Pure.spec_l02Response_ok F y5 y6 y7 y8 (List.getD (List.getD y4 (Int.toNat y3) []) 0 0) y10 y11 y12 y0 y1 y2) then (bif (Pure.spec_l02Response_1 F y5 y6 y7 y8 (List.getD (List.getD y4 (Int.toNat y3) []) 0 0) y10 y11 y12 y0 y1 y2) then (bif (Decidable.decide ((Nat.succ (List.length y13)) ≤ 1073741824)) then (Pure.spec_ScanRates_L0 F y0 y1 y2 y4 y5 y6 y7 y8 y10 y11 y12 n (IntKind.wrap IntKind.i64 (y3 + 1)) (List.getD (List.getD y4 (Int.toNat y3) []) 0 0) (y13 ++ [[Pure.spec_l02Response F y5 y6 y7 y8 (List.getD (List.getD y4 (Int.toNat y3) []) 0 0) y10 y11 y12 y0 y1 y2]])) else ((false, false, [], []))) else ((true, true, [], y13))) else ((false, false, [], []))) else ((true, true, [], y13))) else ((false, false, [], []))) else ((false, false, [], []))) else ((true, false, y13, []))
def R_spec_ScanRates_L0 (y4 : List (List Int)) (r : (Bool × Bool × (List (List Int)) × (List (List Int)))) : Bool × Bool × (Ex × List V × List Ob) × (Ex × List V × List Ob) := ((r).1, (r).2.1, (Ex.normal, [V.at A.undef, V.at A.undef, V.at (A.sl 1)], [⟨false, OC.rows [K.f FloatKind.f32] y4⟩, ⟨true, OC.rows [K.f FloatKind.f32] (r).2.2.1⟩]), (Ex.ret, [V.at A.nil, V.at (A.bool false), V.at (A.sl 1)], [⟨false, OC.rows [K.f FloatKind.f32] y4⟩, ⟨true, OC.rows [K.f FloatKind.f32] (r).2.2.2⟩]))
def S_spec_ScanRates_L0 (F : FOps) : Sm := ⟨[2, 3, 4, 5, 6, 7, 14, 15], [58, 24, 2, 2, 0, 0, 58, 3], [12, 13, 14], fun vals hp => match vals, hp with
  | [V.at (A.sl 0), V.at (A.fl FloatKind.f32 y0), V.at (A.int IntKind.i64 y1), V.at (A.int IntKind.i64 y2), V.at (A.ptr 1 0 0), V.at (A.ptr 2 0 0), V.at (A.sl 3), V.at (A.int IntKind.i64 y3)], [⟨false, OC.rows [K.f FloatKind.f32] y4⟩, ⟨true, OC.box [A.fl FloatKind.f32 y5, A.fl FloatKind.f32 y6, A.fl FloatKind.f32 y7, A.fl FloatKind.f32 y8, A.fl FloatKind.f32 y9]⟩, ⟨true, OC.box [A.fl FloatKind.f32 y10, A.fl FloatKind.f32 y11, A.fl FloatKind.f32 y12]⟩, ⟨true, OC.rows [K.f FloatKind.f32] y13⟩] => some (R_spec_ScanRates_L0 y4 (Pure.spec_ScanRates_L0 F y0 y1 y2 y4 y5 y6 y7 y8 y10 y11 y12 ((Int.ofNat (List.length y4)) - y3 + 1).toNat y3 y9 y13))
  | _, _ => none⟩
theorem l_spec_ScanRates_L0 (F : FOps) (y0 : Int) (y1 : Int) (y2 : Int) (y4 : List (List Int)) (y5 : Int) (y6 : Int) (y7 : Int) (y8 : Int) (y10 : Int) (y11 : Int) (y12 : Int) : ∀ (fuel : Nat) (y3 : Int) (y9 : Int) (y13 : List (List Int)), (Pure.spec_ScanRates_L0 F y0 y1 y2 y4 y5 y6 y7 y8 y10 y11 y12 fuel y3 y9 y13).1 = true → loopOf (cxS F tyl [(58, c_spec_l02Can F), (59, c_spec_l02Is F), (60, c_spec_l02Response F)] [] [] 0) 1 62 0 [2, 3, 4, 5, 6, 7, 14, 15] [58, 24, 2, 2, 0, 0, 58, 3] [12, 13, 14] (loopB 0 (codeOf Try.f26)) fuel [V.at (A.sl 0), V.at (A.fl FloatKind.f32 y0), V.at (A.int IntKind.i64 y1), V.at (A.int IntKind.i64 y2), V.at (A.ptr 1 0 0), V.at (A.ptr 2 0 0), V.at (A.sl 3), V.at (A.int IntKind.i64 y3)] [⟨false, OC.rows [K.f FloatKind.f32] y4⟩, ⟨true, OC.box [A.fl FloatKind.f32 y5, A.fl FloatKind.f32 y6, A.fl FloatKind.f32 y7, A.fl FloatKind.f32 y8, A.fl FloatKind.f32 y9]⟩, ⟨true, OC.box [A.fl FloatKind.f32 y10, A.fl FloatKind.f32 y11, A.fl FloatKind.f32 y12]⟩, ⟨true, OC.rows [K.f FloatKind.f32] y13⟩] = resOf (R_spec_ScanRates_L0 y4 (Pure.spec_ScanRates_L0 F y0 y1 y2 y4 y5 y6 y7 y8 y10 y11 y12 fuel y3 y9 y13)) := by
  intro fuel
  induction fuel with
  | zero => intro y3 y9 y13 h; exact absurd h Bool.false_ne_true
  | succ n ih =>
    intro y3 y9 y13
    have h0 : roundOf (cxS F tyl [(58, c_spec_l02Can F), (59, c_spec_l02Is F), (60, c_spec_l02Response F)] [] [] 0) 1 62 0 [2, 3, 4, 5, 6, 7, 14, 15] [58, 24, 2, 2, 0, 0, 58, 3] [12, 13, 14] (loopB 0 (codeOf Try.f26)) [V.at (A.sl 0), V.at (A.fl FloatKind.f32 y0), V.at (A.int IntKind.i64 y1), V.at (A.int IntKind.i64 y2), V.at (A.ptr 1 0 0), V.at (A.ptr 2 0 0), V.at (A.sl 3), V.at (A.int IntKind.i64 y3)] [⟨false, OC.rows [K.f FloatKind.f32] y4⟩, ⟨true, OC.box [A.fl FloatKind.f32 y5, A.fl FloatKind.f32 y6, A.fl FloatKind.f32 y7, A.fl FloatKind.f32 y8, A.fl FloatKind.f32 y9]⟩, ⟨true, OC.box [A.fl FloatKind.f32 y10, A.fl FloatKind.f32 y11, A.fl FloatKind.f32 y12]⟩, ⟨true, OC.rows [K.f FloatKind.f32] y13⟩] = (bif Decidable.decide (y3 < (Int.ofNat (List.length y4))) then bif Decidable.decide (0 ≤ y3) then bif Decidable.decide (y3 < (Int.ofNat (List.length y4))) then bif Bool.not (Pure.spec_l02Is F y5 y6 y7 y8 (List.getD (List.getD y4 (Int.toNat y3) []) 0 0)) then some (false, (Ex.ret, ([V.at A.nil, V.at (A.bool false), V.at (A.sl 1)], [⟨false, OC.rows [K.f FloatKind.f32] y4⟩, ⟨true, OC.rows [K.f FloatKind.f32] y13⟩]))) else bif Pure.spec_l02Response_ok F y5 y6 y7 y8 (List.getD (List.getD y4 (Int.toNat y3) []) 0 0) y10 y11 y12 y0 y1 y2 then bif Bool.not (Pure.spec_l02Response_1 F y5 y6 y7 y8 (List.getD (List.getD y4 (Int.toNat y3) []) 0 0) y10 y11 y12 y0 y1 y2) then some (false, (Ex.ret, ([V.at A.nil, V.at (A.bool false), V.at (A.sl 1)], [⟨false, OC.rows [K.f FloatKind.f32] y4⟩, ⟨true, OC.rows [K.f FloatKind.f32] y13⟩]))) else bif Decidable.decide ((Nat.succ (List.length y13)) ≤ 1073741824) then some (true, (Ex.normal, ([V.at (A.sl 0), V.at (A.fl FloatKind.f32 y0), V.at (A.int IntKind.i64 y1), V.at (A.int IntKind.i64 y2), V.at (A.ptr 1 0 0), V.at (A.ptr 2 0 0), V.at (A.sl 3), V.at (A.int IntKind.i64 (IntKind.wrap IntKind.i64 (y3 + 1)))], [⟨false, OC.rows [K.f FloatKind.f32] y4⟩, ⟨true, OC.box [A.fl FloatKind.f32 y5, A.fl FloatKind.f32 y6, A.fl FloatKind.f32 y7, A.fl FloatKind.f32 y8, A.fl FloatKind.f32 (List.getD (List.getD y4 (Int.toNat y3) []) 0 0)]⟩, ⟨true, OC.box [A.fl FloatKind.f32 y10, A.fl FloatKind.f32 y11, A.fl FloatKind.f32 y12]⟩, ⟨true, OC.rows [K.f FloatKind.f32] (y13 ++ [[Pure.spec_l02Response F y5 y6 y7 y8 (List.getD (List.getD y4 (Int.toNat y3) []) 0 0) y10 y11 y12 y0 y1 y2]])⟩]))) else none else none else none else none else some (false, (Ex.normal, ([V.at A.undef, V.at A.undef, V.at (A.sl 1)], [⟨false, OC.rows [K.f FloatKind.f32] y4⟩, ⟨true, OC.rows [K.f FloatKind.f32] y13⟩])))) := by kernel_rfl
    unfold loopOf
    rw [h0]
    unfold Pure.spec_ScanRates_L0
    cases (Decidable.decide (y3 < (Int.ofNat (List.length y4)))) with
    | true =>
      cases (Decidable.decide (0 ≤ y3)) with
      | true =>
        cases (Pure.spec_l02Is F y5 y6 y7 y8 (List.getD (List.getD y4 (Int.toNat y3) []) 0 0)) with
        | true =>
          cases (Pure.spec_l02Response_ok F y5 y6 y7 y8 (List.getD (List.getD y4 (Int.toNat y3) []) 0 0) y10 y11 y12 y0 y1 y2) with
          | true =>
            cases (Pure.spec_l02Response_1 F y5 y6 y7 y8 (List.getD (List.getD y4 (Int.toNat y3) []) 0 0) y10 y11 y12 y0 y1 y2) with
            | true =>
              cases (Decidable.decide ((Nat.succ (List.length y13)) ≤ 1073741824)) with
              | true =>
                exact ih _ _ _
              | false =>
                intro h; exact absurd h Bool.false_ne_true
            | false =>
              intro _; rfl
          | false =>
            intro h; exact absurd h Bool.false_ne_true
        | false =>
          intro _; rfl
      | false =>
        intro h; exact absurd h Bool.false_ne_true
    | false =>
      intro _; rfl
theorem t_spec_ScanRates_L0 : SmTo Try.prog 1 62 (S_spec_ScanRates_L0 real) 0 (.loop (loopB 0 (codeOf Try.f26))) := by
  refine smTo_ev (cl := [(58, c_spec_l02Can real), (59, c_spec_l02Is real), (60, c_spec_l02Response real)]) (ef := []) (sm := []) (un := 0) prog_ok (allOK_cons ok_spec_l02Can (allOK_cons ok_spec_l02Is (allOK_cons ok_spec_l02Response allOK_nil))) smL_nil ?_
  intro vals hp q r h hq
  unfold S_spec_ScanRates_L0 at h
  dsimp only at h
  split at h
  · rename_i y0 y1 y2 y3 y4 y5 y6 y7 y8 y9 y10 y11 y12 y13
    obtain rfl := Option.some.inj h
    have h1 := hq
    unfold resOf at h1
    rw [chk_some] at h1
    exact ⟨_, (l_spec_ScanRates_L0 real y0 y1 y2 y4 y5 y6 y7 y8 y10 y11 y12 _ y3 y9 y13 h1.1).trans hq⟩
  · cases h
def Pure.spec_ScanRates (F : FOps) (x0 : Int) (x1 : Int) (x2 : Int) (x3 : Int) (x4 : Int) (x5 : Int) (x6 : Int) (x7 : Int) (x8 : List (List Int)) (x9 : Int) (x10 : Int) (x11 : Int) : Bool := bif Pure.spec_l02Can F x0 x1 x2 x3 x4 x5 x6 x7 x9 x10 x11 then bif Decidable.decide ((Int.ofNat (List.length x8)) < 1) then false else bif Decidable.decide ((Int.ofNat (List.length x8)) > 32) then false else bif Prod.fst (Prod.snd (Pure.spec_ScanRates_L0 F x9 x10 x11 x8 x0 x1 x2 x3 x5 x6 x7 (Nat.succ ((List.length x8) + 0)) 0 x4 [])) then false else true else false
def Pure.spec_ScanRates_1 (F : FOps) (x0 : Int) (x1 : Int) (x2 : Int) (x3 : Int) (x4 : Int) (x5 : Int) (x6 : Int) (x7 : Int) (x8 : List (List Int)) (x9 : Int) (x10 : Int) (x11 : Int) : List (List Int) := bif Pure.spec_l02Can F x0 x1 x2 x3 x4 x5 x6 x7 x9 x10 x11 then bif Decidable.decide ((Int.ofNat (List.length x8)) < 1) then [] else bif Decidable.decide ((Int.ofNat (List.length x8)) > 32) then [] else bif Prod.fst (Prod.snd (Pure.spec_ScanRates_L0 F x9 x10 x11 x8 x0 x1 x2 x3 x5 x6 x7 (Nat.succ ((List.length x8) + 0)) 0 x4 [])) then [] else Prod.fst (Prod.snd (Prod.snd (Pure.spec_ScanRates_L0 F x9 x10 x11 x8 x0 x1 x2 x3 x5 x6 x7 (Nat.succ ((List.length x8) + 0)) 0 x4 []))) else []
def Pure.spec_ScanRates_ok (F : FOps) (x0 : Int) (x1 : Int) (x2 : Int) (x3 : Int) (x4 : Int) (x5 : Int) (x6 : Int) (x7 : Int) (x8 : List (List Int)) (x9 : Int) (x10 : Int) (x11 : Int) : Bool := bif Pure.spec_l02Can F x0 x1 x2 x3 x4 x5 x6 x7 x9 x10 x11 then bif Decidable.decide ((Int.ofNat (List.length x8)) < 1) then true else bif Decidable.decide ((Int.ofNat (List.length x8)) > 32) then true else Prod.fst (Pure.spec_ScanRates_L0 F x9 x10 x11 x8 x0 x1 x2 x3 x5 x6 x7 (Nat.succ ((List.length x8) + 0)) 0 x4 []) else true
def c_spec_ScanRates (F : FOps) : Con
  | [V.agg [A.fl FloatKind.f32 x0, A.fl FloatKind.f32 x1, A.fl FloatKind.f32 x2, A.fl FloatKind.f32 x3, A.fl FloatKind.f32 x4], V.agg [A.fl FloatKind.f32 x5, A.fl FloatKind.f32 x6, A.fl FloatKind.f32 x7], V.at (A.sl 0), V.at (A.fl FloatKind.f32 x9), V.at (A.int IntKind.i64 x10), V.at (A.int IntKind.i64 x11)], [⟨false, OC.rows [K.f FloatKind.f32] x8⟩] => some (Pure.spec_ScanRates_ok F x0 x1 x2 x3 x4 x5 x6 x7 x8 x9 x10 x11, ⟨V.tup [(false, [A.sl 1]), (false, [A.bool (Pure.spec_ScanRates F x0 x1 x2 x3 x4 x5 x6 x7 x8 x9 x10 x11)])], none, [⟨true, OC.rows [K.f FloatKind.f32] (Pure.spec_ScanRates_1 F x0 x1 x2 x3 x4 x5 x6 x7 x8 x9 x10 x11)⟩]⟩)
  | _, _ => none
theorem e_spec_ScanRates (F : FOps) (x0 : Int) (x1 : Int) (x2 : Int) (x3 : Int) (x4 : Int) (x5 : Int) (x6 : Int) (x7 : Int) (x8 : List (List Int)) (x9 : Int) (x10 : Int) (x11 : Int) : Pure.spec_ScanRates_ok F x0 x1 x2 x3 x4 x5 x6 x7 x8 x9 x10 x11 = true → evFn (cxS F tyl [(58, c_spec_l02Can F), (59, c_spec_l02Is F), (60, c_spec_l02Response F)] [] [(0, S_spec_ScanRates_L0 F)] 0) Try.f26 false [V.agg [A.fl FloatKind.f32 x0, A.fl FloatKind.f32 x1, A.fl FloatKind.f32 x2, A.fl FloatKind.f32 x3, A.fl FloatKind.f32 x4], V.agg [A.fl FloatKind.f32 x5, A.fl FloatKind.f32 x6, A.fl FloatKind.f32 x7], V.at (A.sl 0), V.at (A.fl FloatKind.f32 x9), V.at (A.int IntKind.i64 x10), V.at (A.int IntKind.i64 x11)] [⟨false, OC.rows [K.f FloatKind.f32] x8⟩] = some ⟨V.tup [(false, [A.sl 1]), (false, [A.bool (Pure.spec_ScanRates F x0 x1 x2 x3 x4 x5 x6 x7 x8 x9 x10 x11)])], none, [⟨true, OC.rows [K.f FloatKind.f32] (Pure.spec_ScanRates_1 F x0 x1 x2 x3 x4 x5 x6 x7 x8 x9 x10 x11)⟩]⟩ := by
  have h0 : evFn (cxS F tyl [(58, c_spec_l02Can F), (59, c_spec_l02Is F), (60, c_spec_l02Response F)] [] [(0, S_spec_ScanRates_L0 F)] 0) Try.f26 false [V.agg [A.fl FloatKind.f32 x0, A.fl FloatKind.f32 x1, A.fl FloatKind.f32 x2, A.fl FloatKind.f32 x3, A.fl FloatKind.f32 x4], V.agg [A.fl FloatKind.f32 x5, A.fl FloatKind.f32 x6, A.fl FloatKind.f32 x7], V.at (A.sl 0), V.at (A.fl FloatKind.f32 x9), V.at (A.int IntKind.i64 x10), V.at (A.int IntKind.i64 x11)] [⟨false, OC.rows [K.f FloatKind.f32] x8⟩] = bif Bool.not (Pure.spec_l02Can F x0 x1 x2 x3 x4 x5 x6 x7 x9 x10 x11) then some ⟨V.tup [(false, [A.sl 1]), (false, [A.bool false])], none, [⟨true, OC.rows [K.f FloatKind.f32] []⟩]⟩ else bif Decidable.decide ((Int.ofNat (List.length x8)) < 1) then some ⟨V.tup [(false, [A.sl 1]), (false, [A.bool false])], none, [⟨true, OC.rows [K.f FloatKind.f32] []⟩]⟩ else bif Decidable.decide ((Int.ofNat (List.length x8)) > 32) then some ⟨V.tup [(false, [A.sl 1]), (false, [A.bool false])], none, [⟨true, OC.rows [K.f FloatKind.f32] []⟩]⟩ else bif Prod.fst (Pure.spec_ScanRates_L0 F x9 x10 x11 x8 x0 x1 x2 x3 x5 x6 x7 (Nat.succ ((List.length x8) + 0)) 0 x4 []) then bif Prod.fst (Prod.snd (Pure.spec_ScanRates_L0 F x9 x10 x11 x8 x0 x1 x2 x3 x5 x6 x7 (Nat.succ ((List.length x8) + 0)) 0 x4 [])) then some ⟨V.tup [(false, [A.sl 1]), (false, [A.bool false])], none, [⟨true, OC.rows [K.f FloatKind.f32] []⟩]⟩ else some ⟨V.tup [(false, [A.sl 1]), (false, [A.bool true])], none, [⟨true, OC.rows [K.f FloatKind.f32] (Prod.fst (Prod.snd (Prod.snd (Pure.spec_ScanRates_L0 F x9 x10 x11 x8 x0 x1 x2 x3 x5 x6 x7 (Nat.succ ((List.length x8) + 0)) 0 x4 []))))⟩]⟩ else none := by kernel_rfl
  rw [h0]
  unfold Pure.spec_ScanRates Pure.spec_ScanRates_1 Pure.spec_ScanRates_ok
  cases (Pure.spec_l02Can F x0 x1 x2 x3 x4 x5 x6 x7 x9 x10 x11) with
  | true =>
    cases (Decidable.decide ((Int.ofNat (List.length x8)) < 1)) with
    | true =>
      intro _; rfl
    | false =>
      cases (Decidable.decide ((Int.ofNat (List.length x8)) > 32)) with
      | true =>
        intro _; rfl
      | false =>
        cases (Prod.fst (Pure.spec_ScanRates_L0 F x9 x10 x11 x8 x0 x1 x2 x3 x5 x6 x7 (Nat.succ ((List.length x8) + 0)) 0 x4 [])) with
        | true =>
          cases (Prod.fst (Prod.snd (Pure.spec_ScanRates_L0 F x9 x10 x11 x8 x0 x1 x2 x3 x5 x6 x7 (Nat.succ ((List.length x8) + 0)) 0 x4 []))) with
          | true =>
            intro _; rfl
          | false =>
            intro _; rfl
        | false =>
          intro h; exact absurd h Bool.false_ne_true
  | false =>
    intro _; rfl
theorem ok_spec_ScanRates : CallOK Try.prog 26 (c_spec_ScanRates real) := by
  refine callOK_of fun args h ret hc => ?_
  unfold c_spec_ScanRates at hc
  split at hc
  · rename_i x0 x1 x2 x3 x4 x5 x6 x7 x9 x10 x11 x8
    obtain ⟨hok, rfl⟩ := some_ret hc
    exact holds_ev prog_ok (allOK_cons ok_spec_l02Can (allOK_cons ok_spec_l02Is (allOK_cons ok_spec_l02Response allOK_nil))) Try.func26 rfl rfl (smL_cons (body := .loop (loopB 0 (codeOf Try.f26))) (by kernel_rfl) t_spec_ScanRates_L0 smL_nil) rfl (e_spec_ScanRates real x0 x1 x2 x3 x4 x5 x6 x7 x8 x9 x10 x11 hok)
  · cases hc
def Pure.impl_in (F : FOps) (x0 : Int) (x1 : Int) (x2 : Int) : Bool := bif Decidable.decide (x0 ≥ x1) then Decidable.decide (x0 ≤ x2) else false
def c_impl_in (F : FOps) : Con
  | [V.at (A.int IntKind.i64 x0), V.at (A.int IntKind.i64 x1), V.at (A.int IntKind.i64 x2)], [] => some (true, ⟨V.at (A.bool (Pure.impl_in F x0 x1 x2)), none, []⟩)
  | _, _ => none
theorem e_impl_in (F : FOps) (x0 : Int) (x1 : Int) (x2 : Int) : evFn (cxS F tyl [] [] [] 0) Try.f61 false [V.at (A.int IntKind.i64 x0), V.at (A.int IntKind.i64 x1), V.at (A.int IntKind.i64 x2)] [] = some ⟨V.at (A.bool (Pure.impl_in F x0 x1 x2)), none, []⟩ := by
  have h0 : evFn (cxS F tyl [] [] [] 0) Try.f61 false [V.at (A.int IntKind.i64 x0), V.at (A.int IntKind.i64 x1), V.at (A.int IntKind.i64 x2)] [] = bif Decidable.decide (x0 ≥ x1) then some ⟨V.at (A.bool (Decidable.decide (x0 ≤ x2))), none, []⟩ else some ⟨V.at (A.bool false), none, []⟩ := by kernel_rfl
  rw [h0]
  unfold Pure.impl_in
  cases (Decidable.decide (x0 ≥ x1)) with
  | true =>
    rfl
  | false =>
    rfl
theorem ok_impl_in : CallOK Try.prog 61 (c_impl_in real) := by
  refine callOK_of fun args h ret hc => ?_
  unfold c_impl_in at hc
  split at hc
  · rename_i x0 x1 x2
    obtain ⟨_, rfl⟩ := some_ret hc
    exact holds_ev prog_ok allOK_nil Try.func61 rfl rfl smL_nil rfl (e_impl_in real x0 x1 x2)
  · cases hc
def Pure.impl_Pendulum_numbers (F : FOps) (x0 : Int) (x1 : Int) (x2 : Int) (x3 : Int) (x4 : Int) : List (List Int) := [[x0], [x1], [x2], [x3], [x4]]
def c_impl_Pendulum_numbers (F : FOps) : Con
  | [V.at (A.ptr 0 0 0)], [⟨false, OC.box [A.fl FloatKind.f32 x0, A.fl FloatKind.f32 x1, A.fl FloatKind.f32 x2, A.fl FloatKind.f32 x3, A.fl FloatKind.f32 x4]⟩] => some (true, ⟨V.at (A.sl 1), none, [⟨true, OC.rows [K.f FloatKind.f32] (Pure.impl_Pendulum_numbers F x0 x1 x2 x3 x4)⟩]⟩)
  | _, _ => none
theorem e_impl_Pendulum_numbers (F : FOps) (x0 : Int) (x1 : Int) (x2 : Int) (x3 : Int) (x4 : Int) : evFn (cxS F tyl [] [] [] 0) Try.f87 false [V.at (A.ptr 0 0 0)] [⟨false, OC.box [A.fl FloatKind.f32 x0, A.fl FloatKind.f32 x1, A.fl FloatKind.f32 x2, A.fl FloatKind.f32 x3, A.fl FloatKind.f32 x4]⟩] = some ⟨V.at (A.sl 1), none, [⟨true, OC.rows [K.f FloatKind.f32] (Pure.impl_Pendulum_numbers F x0 x1 x2 x3 x4)⟩]⟩ := by
  kernel_rfl
theorem ok_impl_Pendulum_numbers : CallOK Try.prog 87 (c_impl_Pendulum_numbers real) := by
  refine callOK_of fun args h ret hc => ?_
  unfold c_impl_Pendulum_numbers at hc
  split at hc
  · rename_i x0 x1 x2 x3 x4
    obtain ⟨_, rfl⟩ := some_ret hc
    exact holds_ev prog_ok allOK_nil Try.func87 rfl rfl smL_nil rfl (e_impl_Pendulum_numbers real x0 x1 x2 x3 x4)
  · cases hc
def Pure.impl_ValidPendulum (F : FOps) (x0 : Int) (x1 : Int) (x2 : Int) (x3 : Int) (x4 : Int) : Bool := bif Pure.impl_finite F (Pure.impl_Pendulum_numbers F x0 x1 x2 x3 x4) then bif FOps.cmp F BinOp.gtr FloatKind.f32 x0 0 then bif FOps.cmp F BinOp.geq FloatKind.f32 x1 0 then FOps.cmp F BinOp.geq FloatKind.f32 x2 0 else false else false else false
def Pure.impl_ValidPendulum_ok (F : FOps) (x0 : Int) (x1 : Int) (x2 : Int) (x3 : Int) (x4 : Int) : Bool := Pure.impl_finite_ok F (Pure.impl_Pendulum_numbers F x0 x1 x2 x3 x4)
def c_impl_ValidPendulum (F : FOps) : Con
  | [V.agg [A.fl FloatKind.f32 x0, A.fl FloatKind.f32 x1, A.fl FloatKind.f32 x2, A.fl FloatKind.f32 x3, A.fl FloatKind.f32 x4]], [] => some (Pure.impl_ValidPendulum_ok F x0 x1 x2 x3 x4, ⟨V.at (A.bool (Pure.impl_ValidPendulum F x0 x1 x2 x3 x4)), none, []⟩)
  | _, _ => none
theorem e_impl_ValidPendulum (F : FOps) (x0 : Int) (x1 : Int) (x2 : Int) (x3 : Int) (x4 : Int) : Pure.impl_ValidPendulum_ok F x0 x1 x2 x3 x4 = true → evFn (cxS F tyl [(87, c_impl_Pendulum_numbers F), (44, c_impl_finite F)] [] [] 0) Try.f62 false [V.agg [A.fl FloatKind.f32 x0, A.fl FloatKind.f32 x1, A.fl FloatKind.f32 x2, A.fl FloatKind.f32 x3, A.fl FloatKind.f32 x4]] [] = some ⟨V.at (A.bool (Pure.impl_ValidPendulum F x0 x1 x2 x3 x4)), none, []⟩ := by
  have h0 : evFn (cxS F tyl [(87, c_impl_Pendulum_numbers F), (44, c_impl_finite F)] [] [] 0) Try.f62 false [V.agg [A.fl FloatKind.f32 x0, A.fl FloatKind.f32 x1, A.fl FloatKind.f32 x2, A.fl FloatKind.f32 x3, A.fl FloatKind.f32 x4]] [] = bif Pure.impl_finite_ok F (Pure.impl_Pendulum_numbers F x0 x1 x2 x3 x4) then bif Pure.impl_finite F (Pure.impl_Pendulum_numbers F x0 x1 x2 x3 x4) then bif FOps.cmp F BinOp.gtr FloatKind.f32 x0 0 then bif FOps.cmp F BinOp.geq FloatKind.f32 x1 0 then some ⟨V.at (A.bool (FOps.cmp F BinOp.geq FloatKind.f32 x2 0)), none, []⟩ else some ⟨V.at (A.bool false), none, []⟩ else some ⟨V.at (A.bool false), none, []⟩ else some ⟨V.at (A.bool false), none, []⟩ else none := by kernel_rfl
  rw [h0]
  unfold Pure.impl_ValidPendulum Pure.impl_ValidPendulum_ok
  cases (Pure.impl_finite_ok F (Pure.impl_Pendulum_numbers F x0 x1 x2 x3 x4)) with
  | true =>
    cases (Pure.impl_finite F (Pure.impl_Pendulum_numbers F x0 x1 x2 x3 x4)) with
    | true =>
      cases (FOps.cmp F BinOp.gtr FloatKind.f32 x0 0) with
      | true =>
        cases (FOps.cmp F BinOp.geq FloatKind.f32 x1 0) with
        | true =>
          intro _; rfl
        | false =>
          intro _; rfl
      | false =>
        intro _; rfl
    | false =>
      intro _; rfl
  | false =>
    intro h; exact absurd h Bool.false_ne_true
theorem ok_impl_ValidPendulum : CallOK Try.prog 62 (c_impl_ValidPendulum real) := by
  refine callOK_of fun args h ret hc => ?_
  unfold c_impl_ValidPendulum at hc
  split at hc
  · rename_i x0 x1 x2 x3 x4
    obtain ⟨hok, rfl⟩ := some_ret hc
    exact holds_ev prog_ok (allOK_cons ok_impl_Pendulum_numbers (allOK_cons ok_impl_finite allOK_nil)) Try.func62 rfl rfl smL_nil rfl (e_impl_ValidPendulum real x0 x1 x2 x3 x4 hok)
  · cases hc
def Pure.impl_Swing_numbers (F : FOps) (x0 : Int) (x1 : Int) (x2 : Int) : List (List Int) := [[x0], [x1], [x2]]
def c_impl_Swing_numbers (F : FOps) : Con
  | [V.at (A.ptr 0 0 0)], [⟨false, OC.box [A.fl FloatKind.f32 x0, A.fl FloatKind.f32 x1, A.fl FloatKind.f32 x2]⟩] => some (true, ⟨V.at (A.sl 1), none, [⟨true, OC.rows [K.f FloatKind.f32] (Pure.impl_Swing_numbers F x0 x1 x2)⟩]⟩)
  | _, _ => none
theorem e_impl_Swing_numbers (F : FOps) (x0 : Int) (x1 : Int) (x2 : Int) : evFn (cxS F tyl [] [] [] 0) Try.f109 false [V.at (A.ptr 0 0 0)] [⟨false, OC.box [A.fl FloatKind.f32 x0, A.fl FloatKind.f32 x1, A.fl FloatKind.f32 x2]⟩] = some ⟨V.at (A.sl 1), none, [⟨true, OC.rows [K.f FloatKind.f32] (Pure.impl_Swing_numbers F x0 x1 x2)⟩]⟩ := by
  kernel_rfl
theorem ok_impl_Swing_numbers : CallOK Try.prog 109 (c_impl_Swing_numbers real) := by
  refine callOK_of fun args h ret hc => ?_
  unfold c_impl_Swing_numbers at hc
  split at hc
  · rename_i x0 x1 x2
    obtain ⟨_, rfl⟩ := some_ret hc
    exact holds_ev prog_ok allOK_nil Try.func109 rfl rfl smL_nil rfl (e_impl_Swing_numbers real x0 x1 x2)
  · cases hc
def Pure.impl_ValidSwing (F : FOps) (x0 : Int) (x1 : Int) (x2 : Int) : Bool := Pure.impl_finite F (Pure.impl_Swing_numbers F x0 x1 x2)
def Pure.impl_ValidSwing_ok (F : FOps) (x0 : Int) (x1 : Int) (x2 : Int) : Bool := Pure.impl_finite_ok F (Pure.impl_Swing_numbers F x0 x1 x2)
def c_impl_ValidSwing (F : FOps) : Con
  | [V.agg [A.fl FloatKind.f32 x0, A.fl FloatKind.f32 x1, A.fl FloatKind.f32 x2]], [] => some (Pure.impl_ValidSwing_ok F x0 x1 x2, ⟨V.at (A.bool (Pure.impl_ValidSwing F x0 x1 x2)), none, []⟩)
  | _, _ => none
theorem e_impl_ValidSwing (F : FOps) (x0 : Int) (x1 : Int) (x2 : Int) : Pure.impl_ValidSwing_ok F x0 x1 x2 = true → evFn (cxS F tyl [(109, c_impl_Swing_numbers F), (44, c_impl_finite F)] [] [] 0) Try.f103 false [V.agg [A.fl FloatKind.f32 x0, A.fl FloatKind.f32 x1, A.fl FloatKind.f32 x2]] [] = some ⟨V.at (A.bool (Pure.impl_ValidSwing F x0 x1 x2)), none, []⟩ := by
  have h0 : evFn (cxS F tyl [(109, c_impl_Swing_numbers F), (44, c_impl_finite F)] [] [] 0) Try.f103 false [V.agg [A.fl FloatKind.f32 x0, A.fl FloatKind.f32 x1, A.fl FloatKind.f32 x2]] [] = bif Pure.impl_finite_ok F (Pure.impl_Swing_numbers F x0 x1 x2) then some ⟨V.at (A.bool (Pure.impl_finite F (Pure.impl_Swing_numbers F x0 x1 x2))), none, []⟩ else none := by kernel_rfl
  rw [h0]
  unfold Pure.impl_ValidSwing Pure.impl_ValidSwing_ok
  cases (Pure.impl_finite_ok F (Pure.impl_Swing_numbers F x0 x1 x2)) with
  | true =>
    intro _; rfl
  | false =>
    intro h; exact absurd h Bool.false_ne_true
theorem ok_impl_ValidSwing : CallOK Try.prog 103 (c_impl_ValidSwing real) := by
  refine callOK_of fun args h ret hc => ?_
  unfold c_impl_ValidSwing at hc
  split at hc
  · rename_i x0 x1 x2
    obtain ⟨hok, rfl⟩ := some_ret hc
    exact holds_ev prog_ok (allOK_cons ok_impl_Swing_numbers (allOK_cons ok_impl_finite allOK_nil)) Try.func103 rfl rfl smL_nil rfl (e_impl_ValidSwing real x0 x1 x2 hok)
  · cases hc
def Pure.impl_tickOk (F : FOps) (x0 : Int) : Bool := bif Pure.impl_IsFinite F x0 then FOps.cmp F BinOp.neq FloatKind.f32 x0 0 else false
def c_impl_tickOk (F : FOps) : Con
  | [V.at (A.fl FloatKind.f32 x0)], [] => some (true, ⟨V.at (A.bool (Pure.impl_tickOk F x0)), none, []⟩)
  | _, _ => none
theorem e_impl_tickOk (F : FOps) (x0 : Int) : evFn (cxS F tyl [(42, c_impl_IsFinite F)] [] [] 0) Try.f104 false [V.at (A.fl FloatKind.f32 x0)] [] = some ⟨V.at (A.bool (Pure.impl_tickOk F x0)), none, []⟩ := by
  have h0 : evFn (cxS F tyl [(42, c_impl_IsFinite F)] [] [] 0) Try.f104 false [V.at (A.fl FloatKind.f32 x0)] [] = bif Pure.impl_IsFinite F x0 then some ⟨V.at (A.bool (FOps.cmp F BinOp.neq FloatKind.f32 x0 0)), none, []⟩ else some ⟨V.at (A.bool false), none, []⟩ := by kernel_rfl
  rw [h0]
  unfold Pure.impl_tickOk
  cases (Pure.impl_IsFinite F x0) with
  | true =>
    rfl
  | false =>
    rfl
theorem ok_impl_tickOk : CallOK Try.prog 104 (c_impl_tickOk real) := by
  refine callOK_of fun args h ret hc => ?_
  unfold c_impl_tickOk at hc
  split at hc
  · rename_i x0
    obtain ⟨_, rfl⟩ := some_ret hc
    exact holds_ev prog_ok (allOK_cons ok_impl_IsFinite allOK_nil) Try.func104 rfl rfl smL_nil rfl (e_impl_tickOk real x0)
  · cases hc
def Pure.impl_swingOk (F : FOps) (x0 : Int) (x1 : Int) (x2 : Int) (x3 : Int) (x4 : Int) (x5 : Int) (x6 : Int) (x7 : Int) (x8 : Int) : Bool := bif Pure.impl_ValidPendulum F x0 x1 x2 x3 x4 then bif Pure.impl_ValidSwing F x5 x6 x7 then Pure.impl_tickOk F x8 else false else false
def Pure.impl_swingOk_ok (F : FOps) (x0 : Int) (x1 : Int) (x2 : Int) (x3 : Int) (x4 : Int) (x5 : Int) (x6 : Int) (x7 : Int) (x8 : Int) : Bool := bif Pure.impl_ValidPendulum_ok F x0 x1 x2 x3 x4 then bif Pure.impl_ValidPendulum F x0 x1 x2 x3 x4 then Pure.impl_ValidSwing_ok F x5 x6 x7 else true else false
def c_impl_swingOk (F : FOps) : Con
  | [V.agg [A.fl FloatKind.f32 x0, A.fl FloatKind.f32 x1, A.fl FloatKind.f32 x2, A.fl FloatKind.f32 x3, A.fl FloatKind.f32 x4], V.agg [A.fl FloatKind.f32 x5, A.fl FloatKind.f32 x6, A.fl FloatKind.f32 x7], V.at (A.fl FloatKind.f32 x8)], [] => some (Pure.impl_swingOk_ok F x0 x1 x2 x3 x4 x5 x6 x7 x8, ⟨V.at (A.bool (Pure.impl_swingOk F x0 x1 x2 x3 x4 x5 x6 x7 x8)), none, []⟩)
  | _, _ => none
theorem e_impl_swingOk (F : FOps) (x0 : Int) (x1 : Int) (x2 : Int) (x3 : Int) (x4 : Int) (x5 : Int) (x6 : Int) (x7 : Int) (x8 : Int) : Pure.impl_swingOk_ok F x0 x1 x2 x3 x4 x5 x6 x7 x8 = true → evFn (cxS F tyl [(62, c_impl_ValidPendulum F), (103, c_impl_ValidSwing F), (104, c_impl_tickOk F)] [] [] 0) Try.f98 false [V.agg [A.fl FloatKind.f32 x0, A.fl FloatKind.f32 x1, A.fl FloatKind.f32 x2, A.fl FloatKind.f32 x3, A.fl FloatKind.f32 x4], V.agg [A.fl FloatKind.f32 x5, A.fl FloatKind.f32 x6, A.fl FloatKind.f32 x7], V.at (A.fl FloatKind.f32 x8)] [] = some ⟨V.at (A.bool (Pure.impl_swingOk F x0 x1 x2 x3 x4 x5 x6 x7 x8)), none, []⟩ := by
  have h0 : evFn (cxS F tyl [(62, c_impl_ValidPendulum F), (103, c_impl_ValidSwing F), (104, c_impl_tickOk F)] [] [] 0) Try.f98 false [V.agg [A.fl FloatKind.f32 x0, A.fl FloatKind.f32 x1, A.fl FloatKind.f32 x2, A.fl FloatKind.f32 x3, A.fl FloatKind.f32 x4], V.agg [A.fl FloatKind.f32 x5, A.fl FloatKind.f32 x6, A.fl FloatKind.f32 x7], V.at (A.fl FloatKind.f32 x8)] [] = bif Pure.impl_ValidPendulum_ok F x0 x1 x2 x3 x4 then bif Pure.impl_ValidPendulum F x0 x1 x2 x3 x4 then bif Pure.impl_ValidSwing_ok F x5 x6 x7 then bif Pure.impl_ValidSwing F x5 x6 x7 then some ⟨V.at (A.bool (Pure.impl_tickOk F x8)), none, []⟩ else some ⟨V.at (A.bool false), none, []⟩ else none else some ⟨V.at (A.bool false), none, []⟩ else none := by kernel_rfl
  rw [h0]
  unfold Pure.impl_swingOk Pure.impl_swingOk_ok
  cases (Pure.impl_ValidPendulum_ok F x0 x1 x2 x3 x4) with
  | true =>
    cases (Pure.impl_ValidPendulum F x0 x1 x2 x3 x4) with
    | true =>
      cases (Pure.impl_ValidSwing_ok F x5 x6 x7) with
      | true =>
        cases (Pure.impl_ValidSwing F x5 x6 x7) with
        | true =>
          intro _; rfl
        | false =>
          intro _; rfl
      | false =>
        intro h; exact absurd h Bool.false_ne_true
    | false =>
      intro _; rfl
  | false =>
    intro h; exact absurd h Bool.false_ne_true
theorem ok_impl_swingOk : CallOK Try.prog 98 (c_impl_swingOk real) := by
  refine callOK_of fun args h ret hc => ?_
  unfold c_impl_swingOk at hc
  split at hc
  · rename_i x0 x1 x2 x3 x4 x5 x6 x7 x8
    obtain ⟨hok, rfl⟩ := some_ret hc
    exact holds_ev prog_ok (allOK_cons ok_impl_ValidPendulum (allOK_cons ok_impl_ValidSwing (allOK_cons ok_impl_tickOk allOK_nil))) Try.func98 rfl rfl smL_nil rfl (e_impl_swingOk real x0 x1 x2 x3 x4 x5 x6 x7 x8 hok)
  · cases hc
def Pure.impl_Pendulum_pull (F : FOps) (x0 : Int) (x1 : Int) (x2 : Int) (x3 : Int) (x4 : Int) (x5 : Int) : Int := FOps.neg F FloatKind.f32 (FOps.bin F BinOp.mul FloatKind.f32 (FOps.bin F BinOp.quo FloatKind.f32 x1 x0) (FOps.bin F BinOp.quo FloatKind.f32 (Pure.impl_SineTurns F x5) 1086918619))
def Pure.impl_Pendulum_pull_ok (F : FOps) (x0 : Int) (x1 : Int) (x2 : Int) (x3 : Int) (x4 : Int) (x5 : Int) : Bool := Pure.impl_SineTurns_ok F x5
def c_impl_Pendulum_pull (F : FOps) : Con
  | [V.at (A.ptr 0 0 0), V.at (A.fl FloatKind.f32 x5)], [⟨false, OC.box [A.fl FloatKind.f32 x0, A.fl FloatKind.f32 x1, A.fl FloatKind.f32 x2, A.fl FloatKind.f32 x3, A.fl FloatKind.f32 x4]⟩] => some (Pure.impl_Pendulum_pull_ok F x0 x1 x2 x3 x4 x5, ⟨V.at (A.fl FloatKind.f32 (Pure.impl_Pendulum_pull F x0 x1 x2 x3 x4 x5)), none, []⟩)
  | _, _ => none
theorem e_impl_Pendulum_pull (F : FOps) (x0 : Int) (x1 : Int) (x2 : Int) (x3 : Int) (x4 : Int) (x5 : Int) : Pure.impl_Pendulum_pull_ok F x0 x1 x2 x3 x4 x5 = true → evFn (cxS F tyl [(115, c_impl_SineTurns F)] [] [] 0) Try.f112 false [V.at (A.ptr 0 0 0), V.at (A.fl FloatKind.f32 x5)] [⟨false, OC.box [A.fl FloatKind.f32 x0, A.fl FloatKind.f32 x1, A.fl FloatKind.f32 x2, A.fl FloatKind.f32 x3, A.fl FloatKind.f32 x4]⟩] = some ⟨V.at (A.fl FloatKind.f32 (Pure.impl_Pendulum_pull F x0 x1 x2 x3 x4 x5)), none, []⟩ := by
  have h0 : evFn (cxS F tyl [(115, c_impl_SineTurns F)] [] [] 0) Try.f112 false [V.at (A.ptr 0 0 0), V.at (A.fl FloatKind.f32 x5)] [⟨false, OC.box [A.fl FloatKind.f32 x0, A.fl FloatKind.f32 x1, A.fl FloatKind.f32 x2, A.fl FloatKind.f32 x3, A.fl FloatKind.f32 x4]⟩] = bif Pure.impl_SineTurns_ok F x5 then some ⟨V.at (A.fl FloatKind.f32 (FOps.neg F FloatKind.f32 (FOps.bin F BinOp.mul FloatKind.f32 (FOps.bin F BinOp.quo FloatKind.f32 x1 x0) (FOps.bin F BinOp.quo FloatKind.f32 (Pure.impl_SineTurns F x5) 1086918619)))), none, []⟩ else none := by kernel_rfl
  rw [h0]
  unfold Pure.impl_Pendulum_pull Pure.impl_Pendulum_pull_ok
  cases (Pure.impl_SineTurns_ok F x5) with
  | true =>
    intro _; rfl
  | false =>
    intro h; exact absurd h Bool.false_ne_true
theorem ok_impl_Pendulum_pull : CallOK Try.prog 112 (c_impl_Pendulum_pull real) := by
  refine callOK_of fun args h ret hc => ?_
  unfold c_impl_Pendulum_pull at hc
  split at hc
  · rename_i x5 x0 x1 x2 x3 x4
    obtain ⟨hok, rfl⟩ := some_ret hc
    exact holds_ev prog_ok (allOK_cons ok_impl_SineTurns allOK_nil) Try.func112 rfl rfl smL_nil rfl (e_impl_Pendulum_pull real x0 x1 x2 x3 x4 x5 hok)
  · cases hc
def Pure.impl_Pendulum_drive (F : FOps) (x0 : Int) (x1 : Int) (x2 : Int) (x3 : Int) (x4 : Int) (x5 : Int) : Int := FOps.bin F BinOp.mul FloatKind.f32 x3 (Pure.impl_SineTurns F (FOps.bin F BinOp.mul FloatKind.f32 x4 x5))
def Pure.impl_Pendulum_drive_ok (F : FOps) (x0 : Int) (x1 : Int) (x2 : Int) (x3 : Int) (x4 : Int) (x5 : Int) : Bool := Pure.impl_SineTurns_ok F (FOps.bin F BinOp.mul FloatKind.f32 x4 x5)
def c_impl_Pendulum_drive (F : FOps) : Con
  | [V.at (A.ptr 0 0 0), V.at (A.fl FloatKind.f32 x5)], [⟨false, OC.box [A.fl FloatKind.f32 x0, A.fl FloatKind.f32 x1, A.fl FloatKind.f32 x2, A.fl FloatKind.f32 x3, A.fl FloatKind.f32 x4]⟩] => some (Pure.impl_Pendulum_drive_ok F x0 x1 x2 x3 x4 x5, ⟨V.at (A.fl FloatKind.f32 (Pure.impl_Pendulum_drive F x0 x1 x2 x3 x4 x5)), none, []⟩)
  | _, _ => none
theorem e_impl_Pendulum_drive (F : FOps) (x0 : Int) (x1 : Int) (x2 : Int) (x3 : Int) (x4 : Int) (x5 : Int) : Pure.impl_Pendulum_drive_ok F x0 x1 x2 x3 x4 x5 = true → evFn (cxS F tyl [(115, c_impl_SineTurns F)] [] [] 0) Try.f113 false [V.at (A.ptr 0 0 0), V.at (A.fl FloatKind.f32 x5)] [⟨false, OC.box [A.fl FloatKind.f32 x0, A.fl FloatKind.f32 x1, A.fl FloatKind.f32 x2, A.fl FloatKind.f32 x3, A.fl FloatKind.f32 x4]⟩] = some ⟨V.at (A.fl FloatKind.f32 (Pure.impl_Pendulum_drive F x0 x1 x2 x3 x4 x5)), none, []⟩ := by
  have h0 : evFn (cxS F tyl [(115, c_impl_SineTurns F)] [] [] 0) Try.f113 false [V.at (A.ptr 0 0 0), V.at (A.fl FloatKind.f32 x5)] [⟨false, OC.box [A.fl FloatKind.f32 x0, A.fl FloatKind.f32 x1, A.fl FloatKind.f32 x2, A.fl FloatKind.f32 x3, A.fl FloatKind.f32 x4]⟩] = bif Pure.impl_SineTurns_ok F (FOps.bin F BinOp.mul FloatKind.f32 x4 x5) then some ⟨V.at (A.fl FloatKind.f32 (FOps.bin F BinOp.mul FloatKind.f32 x3 (Pure.impl_SineTurns F (FOps.bin F BinOp.mul FloatKind.f32 x4 x5)))), none, []⟩ else none := by kernel_rfl
  rw [h0]
  unfold Pure.impl_Pendulum_drive Pure.impl_Pendulum_drive_ok
  cases (Pure.impl_SineTurns_ok F (FOps.bin F BinOp.mul FloatKind.f32 x4 x5)) with
  | true =>
    intro _; rfl
  | false =>
    intro h; exact absurd h Bool.false_ne_true
theorem ok_impl_Pendulum_drive : CallOK Try.prog 113 (c_impl_Pendulum_drive real) := by
  refine callOK_of fun args h ret hc => ?_
  unfold c_impl_Pendulum_drive at hc
  split at hc
  · rename_i x5 x0 x1 x2 x3 x4
    obtain ⟨hok, rfl⟩ := some_ret hc
    exact holds_ev prog_ok (allOK_cons ok_impl_SineTurns allOK_nil) Try.func113 rfl rfl smL_nil rfl (e_impl_Pendulum_drive real x0 x1 x2 x3 x4 x5 hok)
  · cases hc
def Pure.impl_Pendulum_force (F : FOps) (x0 : Int) (x1 : Int) (x2 : Int) (x3 : Int) (x4 : Int) (x5 : Int) (x6 : Int) (x7 : Int) : Int := FOps.bin F BinOp.add FloatKind.f32 (FOps.bin F BinOp.sub FloatKind.f32 (Pure.impl_Pendulum_pull F x0 x1 x2 x3 x4 x5) (FOps.bin F BinOp.mul FloatKind.f32 x2 x6)) (Pure.impl_Pendulum_drive F x0 x1 x2 x3 x4 x7)
def Pure.impl_Pendulum_force_ok (F : FOps) (x0 : Int) (x1 : Int) (x2 : Int) (x3 : Int) (x4 : Int) (x5 : Int) (x6 : Int) (x7 : Int) : Bool := bif Pure.impl_Pendulum_pull_ok F x0 x1 x2 x3 x4 x5 then Pure.impl_Pendulum_drive_ok F x0 x1 x2 x3 x4 x7 else false
def c_impl_Pendulum_force (F : FOps) : Con
  | [V.at (A.ptr 0 0 0), V.agg [A.fl FloatKind.f32 x5, A.fl FloatKind.f32 x6, A.fl FloatKind.f32 x7]], [⟨false, OC.box [A.fl FloatKind.f32 x0, A.fl FloatKind.f32 x1, A.fl FloatKind.f32 x2, A.fl FloatKind.f32 x3, A.fl FloatKind.f32 x4]⟩] => some (Pure.impl_Pendulum_force_ok F x0 x1 x2 x3 x4 x5 x6 x7, ⟨V.at (A.fl FloatKind.f32 (Pure.impl_Pendulum_force F x0 x1 x2 x3 x4 x5 x6 x7)), none, []⟩)
  | _, _ => none
theorem e_impl_Pendulum_force (F : FOps) (x0 : Int) (x1 : Int) (x2 : Int) (x3 : Int) (x4 : Int) (x5 : Int) (x6 : Int) (x7 : Int) : Pure.impl_Pendulum_force_ok F x0 x1 x2 x3 x4 x5 x6 x7 = true → evFn (cxS F tyl [(112, c_impl_Pendulum_pull F), (113, c_impl_Pendulum_drive F)] [] [] 0) Try.f110 false [V.at (A.ptr 0 0 0), V.agg [A.fl FloatKind.f32 x5, A.fl FloatKind.f32 x6, A.fl FloatKind.f32 x7]] [⟨false, OC.box [A.fl FloatKind.f32 x0, A.fl FloatKind.f32 x1, A.fl FloatKind.f32 x2, A.fl FloatKind.f32 x3, A.fl FloatKind.f32 x4]⟩] = some ⟨V.at (A.fl FloatKind.f32 (Pure.impl_Pendulum_force F x0 x1 x2 x3 x4 x5 x6 x7)), none, []⟩ := by
  have h0 : evFn (cxS F tyl [(112, c_impl_Pendulum_pull F), (113, c_impl_Pendulum_drive F)] [] [] 0) Try.f110 false [V.at (A.ptr 0 0 0), V.agg [A.fl FloatKind.f32 x5, A.fl FloatKind.f32 x6, A.fl FloatKind.f32 x7]] [⟨false, OC.box [A.fl FloatKind.f32 x0, A.fl FloatKind.f32 x1, A.fl FloatKind.f32 x2, A.fl FloatKind.f32 x3, A.fl FloatKind.f32 x4]⟩] = bif Pure.impl_Pendulum_pull_ok F x0 x1 x2 x3 x4 x5 then bif Pure.impl_Pendulum_drive_ok F x0 x1 x2 x3 x4 x7 then some ⟨V.at (A.fl FloatKind.f32 (FOps.bin F BinOp.add FloatKind.f32 (FOps.bin F BinOp.sub FloatKind.f32 (Pure.impl_Pendulum_pull F x0 x1 x2 x3 x4 x5) (FOps.bin F BinOp.mul FloatKind.f32 x2 x6)) (Pure.impl_Pendulum_drive F x0 x1 x2 x3 x4 x7))), none, []⟩ else none else none := by kernel_rfl
  rw [h0]
  unfold Pure.impl_Pendulum_force Pure.impl_Pendulum_force_ok
  cases (Pure.impl_Pendulum_pull_ok F x0 x1 x2 x3 x4 x5) with
  | true =>
    cases (Pure.impl_Pendulum_drive_ok F x0 x1 x2 x3 x4 x7) with
    | true =>
      intro _; rfl
    | false =>
      intro h; exact absurd h Bool.false_ne_true
  | false =>
    intro h; exact absurd h Bool.false_ne_true
theorem ok_impl_Pendulum_force : CallOK Try.prog 110 (c_impl_Pendulum_force real) := by
  refine callOK_of fun args h ret hc => ?_
  unfold c_impl_Pendulum_force at hc
  split at hc
  · rename_i x5 x6 x7 x0 x1 x2 x3 x4
    obtain ⟨hok, rfl⟩ := some_ret hc
    exact holds_ev prog_ok (allOK_cons ok_impl_Pendulum_pull (allOK_cons ok_impl_Pendulum_drive allOK_nil)) Try.func110 rfl rfl smL_nil rfl (e_impl_Pendulum_force real x0 x1 x2 x3 x4 x5 x6 x7 hok)
  · cases hc
def Pure.impl_Pendulum_step (F : FOps) (x0 : Int) (x1 : Int) (x2 : Int) (x3 : Int) (x4 : Int) (x5 : Int) (x6 : Int) (x7 : Int) (x8 : Int) : Int := bif Pure.impl_ValidSwing F (FOps.bin F BinOp.add FloatKind.f32 x5 (FOps.bin F BinOp.mul FloatKind.f32 x8 (FOps.bin F BinOp.add FloatKind.f32 x6 (FOps.bin F BinOp.mul FloatKind.f32 (FOps.bin F BinOp.quo FloatKind.f32 x8 1073741824) (Pure.impl_Pendulum_force F x0 x1 x2 x3 x4 x5 x6 x7))))) (FOps.bin F BinOp.add FloatKind.f32 x6 (FOps.bin F BinOp.mul FloatKind.f32 (FOps.bin F BinOp.quo FloatKind.f32 x8 1073741824) (Pure.impl_Pendulum_force F x0 x1 x2 x3 x4 x5 x6 x7))) (FOps.bin F BinOp.add FloatKind.f32 x7 x8) then FOps.bin F BinOp.add FloatKind.f32 x5 (FOps.bin F BinOp.mul FloatKind.f32 x8 (FOps.bin F BinOp.add FloatKind.f32 x6 (FOps.bin F BinOp.mul FloatKind.f32 (FOps.bin F BinOp.quo FloatKind.f32 x8 1073741824) (Pure.impl_Pendulum_force F x0 x1 x2 x3 x4 x5 x6 x7)))) else 0
def Pure.impl_Pendulum_step_1 (F : FOps) (x0 : Int) (x1 : Int) (x2 : Int) (x3 : Int) (x4 : Int) (x5 : Int) (x6 : Int) (x7 : Int) (x8 : Int) : Int := bif Pure.impl_ValidSwing F (FOps.bin F BinOp.add FloatKind.f32 x5 (FOps.bin F BinOp.mul FloatKind.f32 x8 (FOps.bin F BinOp.add FloatKind.f32 x6 (FOps.bin F BinOp.mul FloatKind.f32 (FOps.bin F BinOp.quo FloatKind.f32 x8 1073741824) (Pure.impl_Pendulum_force F x0 x1 x2 x3 x4 x5 x6 x7))))) (FOps.bin F BinOp.add FloatKind.f32 x6 (FOps.bin F BinOp.mul FloatKind.f32 (FOps.bin F BinOp.quo FloatKind.f32 x8 1073741824) (Pure.impl_Pendulum_force F x0 x1 x2 x3 x4 x5 x6 x7))) (FOps.bin F BinOp.add FloatKind.f32 x7 x8) then FOps.bin F BinOp.add FloatKind.f32 (FOps.bin F BinOp.add FloatKind.f32 x6 (FOps.bin F BinOp.mul FloatKind.f32 (FOps.bin F BinOp.quo FloatKind.f32 x8 1073741824) (Pure.impl_Pendulum_force F x0 x1 x2 x3 x4 x5 x6 x7))) (FOps.bin F BinOp.mul FloatKind.f32 (FOps.bin F BinOp.quo FloatKind.f32 x8 1073741824) (Pure.impl_Pendulum_force F x0 x1 x2 x3 x4 (FOps.bin F BinOp.add FloatKind.f32 x5 (FOps.bin F BinOp.mul FloatKind.f32 x8 (FOps.bin F BinOp.add FloatKind.f32 x6 (FOps.bin F BinOp.mul FloatKind.f32 (FOps.bin F BinOp.quo FloatKind.f32 x8 1073741824) (Pure.impl_Pendulum_force F x0 x1 x2 x3 x4 x5 x6 x7))))) (FOps.bin F BinOp.add FloatKind.f32 x6 (FOps.bin F BinOp.mul FloatKind.f32 (FOps.bin F BinOp.quo FloatKind.f32 x8 1073741824) (Pure.impl_Pendulum_force F x0 x1 x2 x3 x4 x5 x6 x7))) (FOps.bin F BinOp.add FloatKind.f32 x7 x8))) else 0
def Pure.impl_Pendulum_step_2 (F : FOps) (x0 : Int) (x1 : Int) (x2 : Int) (x3 : Int) (x4 : Int) (x5 : Int) (x6 : Int) (x7 : Int) (x8 : Int) : Int := bif Pure.impl_ValidSwing F (FOps.bin F BinOp.add FloatKind.f32 x5 (FOps.bin F BinOp.mul FloatKind.f32 x8 (FOps.bin F BinOp.add FloatKind.f32 x6 (FOps.bin F BinOp.mul FloatKind.f32 (FOps.bin F BinOp.quo FloatKind.f32 x8 1073741824) (Pure.impl_Pendulum_force F x0 x1 x2 x3 x4 x5 x6 x7))))) (FOps.bin F BinOp.add FloatKind.f32 x6 (FOps.bin F BinOp.mul FloatKind.f32 (FOps.bin F BinOp.quo FloatKind.f32 x8 1073741824) (Pure.impl_Pendulum_force F x0 x1 x2 x3 x4 x5 x6 x7))) (FOps.bin F BinOp.add FloatKind.f32 x7 x8) then FOps.bin F BinOp.add FloatKind.f32 x7 x8 else 0
def Pure.impl_Pendulum_step_3 (F : FOps) (x0 : Int) (x1 : Int) (x2 : Int) (x3 : Int) (x4 : Int) (x5 : Int) (x6 : Int) (x7 : Int) (x8 : Int) : Bool := bif Pure.impl_ValidSwing F (FOps.bin F BinOp.add FloatKind.f32 x5 (FOps.bin F BinOp.mul FloatKind.f32 x8 (FOps.bin F BinOp.add FloatKind.f32 x6 (FOps.bin F BinOp.mul FloatKind.f32 (FOps.bin F BinOp.quo FloatKind.f32 x8 1073741824) (Pure.impl_Pendulum_force F x0 x1 x2 x3 x4 x5 x6 x7))))) (FOps.bin F BinOp.add FloatKind.f32 x6 (FOps.bin F BinOp.mul FloatKind.f32 (FOps.bin F BinOp.quo FloatKind.f32 x8 1073741824) (Pure.impl_Pendulum_force F x0 x1 x2 x3 x4 x5 x6 x7))) (FOps.bin F BinOp.add FloatKind.f32 x7 x8) then Pure.impl_ValidSwing F (FOps.bin F BinOp.add FloatKind.f32 x5 (FOps.bin F BinOp.mul FloatKind.f32 x8 (FOps.bin F BinOp.add FloatKind.f32 x6 (FOps.bin F BinOp.mul FloatKind.f32 (FOps.bin F BinOp.quo FloatKind.f32 x8 1073741824) (Pure.impl_Pendulum_force F x0 x1 x2 x3 x4 x5 x6 x7))))) (FOps.bin F BinOp.add FloatKind.f32 (FOps.bin F BinOp.add FloatKind.f32 x6 (FOps.bin F BinOp.mul FloatKind.f32 (FOps.bin F BinOp.quo FloatKind.f32 x8 1073741824) (Pure.impl_Pendulum_force F x0 x1 x2 x3 x4 x5 x6 x7))) (FOps.bin F BinOp.mul FloatKind.f32 (FOps.bin F BinOp.quo FloatKind.f32 x8 1073741824) (Pure.impl_Pendulum_force F x0 x1 x2 x3 x4 (FOps.bin F BinOp.add FloatKind.f32 x5 (FOps.bin F BinOp.mul FloatKind.f32 x8 (FOps.bin F BinOp.add FloatKind.f32 x6 (FOps.bin F BinOp.mul FloatKind.f32 (FOps.bin F BinOp.quo FloatKind.f32 x8 1073741824) (Pure.impl_Pendulum_force F x0 x1 x2 x3 x4 x5 x6 x7))))) (FOps.bin F BinOp.add FloatKind.f32 x6 (FOps.bin F BinOp.mul FloatKind.f32 (FOps.bin F BinOp.quo FloatKind.f32 x8 1073741824) (Pure.impl_Pendulum_force F x0 x1 x2 x3 x4 x5 x6 x7))) (FOps.bin F BinOp.add FloatKind.f32 x7 x8)))) (FOps.bin F BinOp.add FloatKind.f32 x7 x8) else false
def Pure.impl_Pendulum_step_ok (F : FOps) (x0 : Int) (x1 : Int) (x2 : Int) (x3 : Int) (x4 : Int) (x5 : Int) (x6 : Int) (x7 : Int) (x8 : Int) : Bool := bif Pure.impl_Pendulum_force_ok F x0 x1 x2 x3 x4 x5 x6 x7 then bif Pure.impl_ValidSwing_ok F (FOps.bin F BinOp.add FloatKind.f32 x5 (FOps.bin F BinOp.mul FloatKind.f32 x8 (FOps.bin F BinOp.add FloatKind.f32 x6 (FOps.bin F BinOp.mul FloatKind.f32 (FOps.bin F BinOp.quo FloatKind.f32 x8 1073741824) (Pure.impl_Pendulum_force F x0 x1 x2 x3 x4 x5 x6 x7))))) (FOps.bin F BinOp.add FloatKind.f32 x6 (FOps.bin F BinOp.mul FloatKind.f32 (FOps.bin F BinOp.quo FloatKind.f32 x8 1073741824) (Pure.impl_Pendulum_force F x0 x1 x2 x3 x4 x5 x6 x7))) (FOps.bin F BinOp.add FloatKind.f32 x7 x8) then bif Pure.impl_ValidSwing F (FOps.bin F BinOp.add FloatKind.f32 x5 (FOps.bin F BinOp.mul FloatKind.f32 x8 (FOps.bin F BinOp.add FloatKind.f32 x6 (FOps.bin F BinOp.mul FloatKind.f32 (FOps.bin F BinOp.quo FloatKind.f32 x8 1073741824) (Pure.impl_Pendulum_force F x0 x1 x2 x3 x4 x5 x6 x7))))) (FOps.bin F BinOp.add FloatKind.f32 x6 (FOps.bin F BinOp.mul FloatKind.f32 (FOps.bin F BinOp.quo FloatKind.f32 x8 1073741824) (Pure.impl_Pendulum_force F x0 x1 x2 x3 x4 x5 x6 x7))) (FOps.bin F BinOp.add FloatKind.f32 x7 x8) then bif Pure.impl_Pendulum_force_ok F x0 x1 x2 x3 x4 (FOps.bin F BinOp.add FloatKind.f32 x5 (FOps.bin F BinOp.mul FloatKind.f32 x8 (FOps.bin F BinOp.add FloatKind.f32 x6 (FOps.bin F BinOp.mul FloatKind.f32 (FOps.bin F BinOp.quo FloatKind.f32 x8 1073741824) (Pure.impl_Pendulum_force F x0 x1 x2 x3 x4 x5 x6 x7))))) (FOps.bin F BinOp.add FloatKind.f32 x6 (FOps.bin F BinOp.mul FloatKind.f32 (FOps.bin F BinOp.quo FloatKind.f32 x8 1073741824) (Pure.impl_Pendulum_force F x0 x1 x2 x3 x4 x5 x6 x7))) (FOps.bin F BinOp.add FloatKind.f32 x7 x8) then Pure.impl_ValidSwing_ok F (FOps.bin F BinOp.add FloatKind.f32 x5 (FOps.bin F BinOp.mul FloatKind.f32 x8 (FOps.bin F BinOp.add FloatKind.f32 x6 (FOps.bin F BinOp.mul FloatKind.f32 (FOps.bin F BinOp.quo FloatKind.f32 x8 1073741824) (Pure.impl_Pendulum_force F x0 x1 x2 x3 x4 x5 x6 x7))))) (FOps.bin F BinOp.add FloatKind.f32 (FOps.bin F BinOp.add FloatKind.f32 x6 (FOps.bin F BinOp.mul FloatKind.f32 (FOps.bin F BinOp.quo FloatKind.f32 x8 1073741824) (Pure.impl_Pendulum_force F x0 x1 x2 x3 x4 x5 x6 x7))) (FOps.bin F BinOp.mul FloatKind.f32 (FOps.bin F BinOp.quo FloatKind.f32 x8 1073741824) (Pure.impl_Pendulum_force F x0 x1 x2 x3 x4 (FOps.bin F BinOp.add FloatKind.f32 x5 (FOps.bin F BinOp.mul FloatKind.f32 x8 (FOps.bin F BinOp.add FloatKind.f32 x6 (FOps.bin F BinOp.mul FloatKind.f32 (FOps.bin F BinOp.quo FloatKind.f32 x8 1073741824) (Pure.impl_Pendulum_force F x0 x1 x2 x3 x4 x5 x6 x7))))) (FOps.bin F BinOp.add FloatKind.f32 x6 (FOps.bin F BinOp.mul FloatKind.f32 (FOps.bin F BinOp.quo FloatKind.f32 x8 1073741824) (Pure.impl_Pendulum_force F x0 x1 x2 x3 x4 x5 x6 x7))) (FOps.bin F BinOp.add FloatKind.f32 x7 x8)))) (FOps.bin F BinOp.add FloatKind.f32 x7 x8) else false else true else false else false
def c_impl_Pendulum_step (F : FOps) : Con
  | [V.at (A.ptr 0 0 0), V.agg [A.fl FloatKind.f32 x5, A.fl FloatKind.f32 x6, A.fl FloatKind.f32 x7], V.at (A.fl FloatKind.f32 x8)], [⟨false, OC.box [A.fl FloatKind.f32 x0, A.fl FloatKind.f32 x1, A.fl FloatKind.f32 x2, A.fl FloatKind.f32 x3, A.fl FloatKind.f32 x4]⟩] => some (Pure.impl_Pendulum_step_ok F x0 x1 x2 x3 x4 x5 x6 x7 x8, ⟨V.tup [(true, [A.fl FloatKind.f32 (Pure.impl_Pendulum_step F x0 x1 x2 x3 x4 x5 x6 x7 x8), A.fl FloatKind.f32 (Pure.impl_Pendulum_step_1 F x0 x1 x2 x3 x4 x5 x6 x7 x8), A.fl FloatKind.f32 (Pure.impl_Pendulum_step_2 F x0 x1 x2 x3 x4 x5 x6 x7 x8)]), (false, [A.bool (Pure.impl_Pendulum_step_3 F x0 x1 x2 x3 x4 x5 x6 x7 x8)])], none, []⟩)
  | _, _ => none
theorem e_impl_Pendulum_step (F : FOps) (x0 : Int) (x1 : Int) (x2 : Int) (x3 : Int) (x4 : Int) (x5 : Int) (x6 : Int) (x7 : Int) (x8 : Int) : Pure.impl_Pendulum_step_ok F x0 x1 x2 x3 x4 x5 x6 x7 x8 = true → evFn (cxS F tyl [(110, c_impl_Pendulum_force F), (103, c_impl_ValidSwing F)] [] [] 0) Try.f105 false [V.at (A.ptr 0 0 0), V.agg [A.fl FloatKind.f32 x5, A.fl FloatKind.f32 x6, A.fl FloatKind.f32 x7], V.at (A.fl FloatKind.f32 x8)] [⟨false, OC.box [A.fl FloatKind.f32 x0, A.fl FloatKind.f32 x1, A.fl FloatKind.f32 x2, A.fl FloatKind.f32 x3, A.fl FloatKind.f32 x4]⟩] = some ⟨V.tup [(true, [A.fl FloatKind.f32 (Pure.impl_Pendulum_step F x0 x1 x2 x3 x4 x5 x6 x7 x8), A.fl FloatKind.f32 (Pure.impl_Pendulum_step_1 F x0 x1 x2 x3 x4 x5 x6 x7 x8), A.fl FloatKind.f32 (Pure.impl_Pendulum_step_2 F x0 x1 x2 x3 x4 x5 x6 x7 x8)]), (false, [A.bool (Pure.impl_Pendulum_step_3 F x0 x1 x2 x3 x4 x5 x6 x7 x8)])], none, []⟩ := by
  have h0 : evFn (cxS F tyl [(110, c_impl_Pendulum_force F), (103, c_impl_ValidSwing F)] [] [] 0) Try.f105 false [V.at (A.ptr 0 0 0), V.agg [A.fl FloatKind.f32 x5, A.fl FloatKind.f32 x6, A.fl FloatKind.f32 x7], V.at (A.fl FloatKind.f32 x8)] [⟨false, OC.box [A.fl FloatKind.f32 x0, A.fl FloatKind.f32 x1, A.fl FloatKind.f32 x2, A.fl FloatKind.f32 x3, A.fl FloatKind.f32 x4]⟩] = bif Pure.impl_Pendulum_force_ok F x0 x1 x2 x3 x4 x5 x6 x7 then bif Pure.impl_ValidSwing_ok F (FOps.bin F BinOp.add FloatKind.f32 x5 (FOps.bin F BinOp.mul FloatKind.f32 x8 (FOps.bin F BinOp.add FloatKind.f32 x6 (FOps.bin F BinOp.mul FloatKind.f32 (FOps.bin F BinOp.quo FloatKind.f32 x8 1073741824) (Pure.impl_Pendulum_force F x0 x1 x2 x3 x4 x5 x6 x7))))) (FOps.bin F BinOp.add FloatKind.f32 x6 (FOps.bin F BinOp.mul FloatKind.f32 (FOps.bin F BinOp.quo FloatKind.f32 x8 1073741824) (Pure.impl_Pendulum_force F x0 x1 x2 x3 x4 x5 x6 x7))) (FOps.bin F BinOp.add FloatKind.f32 x7 x8) then bif Bool.not (Pure.impl_ValidSwing F (FOps.bin F BinOp.add FloatKind.f32 x5 (FOps.bin F BinOp.mul FloatKind.f32 x8 (FOps.bin F BinOp.add FloatKind.f32 x6 (FOps.bin F BinOp.mul FloatKind.f32 (FOps.bin F BinOp.quo FloatKind.f32 x8 1073741824) (Pure.impl_Pendulum_force F x0 x1 x2 x3 x4 x5 x6 x7))))) (FOps.bin F BinOp.add FloatKind.f32 x6 (FOps.bin F BinOp.mul FloatKind.f32 (FOps.bin F BinOp.quo FloatKind.f32 x8 1073741824) (Pure.impl_Pendulum_force F x0 x1 x2 x3 x4 x5 x6 x7))) (FOps.bin F BinOp.add FloatKind.f32 x7 x8)) then some ⟨V.tup [(true, [A.fl FloatKind.f32 0, A.fl FloatKind.f32 0, A.fl FloatKind.f32 0]), (false, [A.bool false])], none, []⟩ else bif Pure.impl_Pendulum_force_ok F x0 x1 x2 x3 x4 (FOps.bin F BinOp.add FloatKind.f32 x5 (FOps.bin F BinOp.mul FloatKind.f32 x8 (FOps.bin F BinOp.add FloatKind.f32 x6 (FOps.bin F BinOp.mul FloatKind.f32 (FOps.bin F BinOp.quo FloatKind.f32 x8 1073741824) (Pure.impl_Pendulum_force F x0 x1 x2 x3 x4 x5 x6 x7))))) (FOps.bin F BinOp.add FloatKind.f32 x6 (FOps.bin F BinOp.mul FloatKind.f32 (FOps.bin F BinOp.quo FloatKind.f32 x8 1073741824) (Pure.impl_Pendulum_force F x0 x1 x2 x3 x4 x5 x6 x7))) (FOps.bin F BinOp.add FloatKind.f32 x7 x8) then bif Pure.impl_ValidSwing_ok F (FOps.bin F BinOp.add FloatKind.f32 x5 (FOps.bin F BinOp.mul FloatKind.f32 x8 (FOps.bin F BinOp.add FloatKind.f32 x6 (FOps.bin F BinOp.mul FloatKind.f32 (FOps.bin F BinOp.quo FloatKind.f32 x8 1073741824) (Pure.impl_Pendulum_force F x0 x1 x2 x3 x4 x5 x6 x7))))) (FOps.bin F BinOp.add FloatKind.f32 (FOps.bin F BinOp.add FloatKind.f32 x6 (FOps.bin F BinOp.mul FloatKind.f32 (FOps.bin F BinOp.quo FloatKind.f32 x8 1073741824) (Pure.impl_Pendulum_force F x0 x1 x2 x3 x4 x5 x6 x7))) (FOps.bin F BinOp.mul FloatKind.f32 (FOps.bin F BinOp.quo FloatKind.f32 x8 1073741824) (Pure.impl_Pendulum_force F x0 x1 x2 x3 x4 (FOps.bin F BinOp.add FloatKind.f32 x5 (FOps.bin F BinOp.mul FloatKind.f32 x8 (FOps.bin F BinOp.add FloatKind.f32 x6 (FOps.bin F BinOp.mul FloatKind.f32 (FOps.bin F BinOp.quo FloatKind.f32 x8 1073741824) (Pure.impl_Pendulum_force F x0 x1 x2 x3 x4 x5 x6 x7))))) (FOps.bin F BinOp.add FloatKind.f32 x6 (FOps.bin F BinOp.mul FloatKind.f32 (FOps.bin F BinOp.quo FloatKind.f32 x8 1073741824) (Pure.impl_Pendulum_force F x0 x1 x2 x3 x4 x5 x6 x7))) (FOps.bin F BinOp.add FloatKind.f32 x7 x8)))) (FOps.bin F BinOp.add FloatKind.f32 x7 x8) then some ⟨V.tup [(true, [A.fl FloatKind.f32 (FOps.bin F BinOp.add FloatKind.f32 x5 (FOps.bin F BinOp.mul FloatKind.f32 x8 (FOps.bin F BinOp.add FloatKind.f32 x6 (FOps.bin F BinOp.mul FloatKind.f32 (FOps.bin F BinOp.quo FloatKind.f32 x8 1073741824) (Pure.impl_Pendulum_force F x0 x1 x2 x3 x4 x5 x6 x7))))), A.fl FloatKind.f32 (FOps.bin F BinOp.add FloatKind.f32 (FOps.bin F BinOp.add FloatKind.f32 x6 (FOps.bin F BinOp.mul FloatKind.f32 (FOps.bin F BinOp.quo FloatKind.f32 x8 1073741824) (Pure.impl_Pendulum_force F x0 x1 x2 x3 x4 x5 x6 x7))) (FOps.bin F BinOp.mul FloatKind.f32 (FOps.bin F BinOp.quo FloatKind.f32 x8 1073741824) (Pure.impl_Pendulum_force F x0 x1 x2 x3 x4 (FOps.bin F BinOp.add FloatKind.f32 x5 (FOps.bin F BinOp.mul FloatKind.f32 x8 (FOps.bin F BinOp.add FloatKind.f32 x6 (FOps.bin F BinOp.mul FloatKind.f32 (FOps.bin F BinOp.quo FloatKind.f32 x8 1073741824) (Pure.impl_Pendulum_force F x0 x1 x2 x3 x4 x5 x6 x7))))) (FOps.bin F BinOp.add FloatKind.f32 x6 (FOps.bin F BinOp.mul FloatKind.f32 (FOps.bin F BinOp.quo FloatKind.f32 x8 1073741824) (Pure.impl_Pendulum_force F x0 x1 x2 x3 x4 x5 x6 x7))) (FOps.bin F BinOp.add FloatKind.f32 x7 x8)))), A.fl FloatKind.f32 (FOps.bin F BinOp.add FloatKind.f32 x7 x8)]), (false, [A.bool (Pure.impl_ValidSwing F (FOps.bin F BinOp.add FloatKind.f32 x5 (FOps.bin F BinOp.mul FloatKind.f32 x8 (FOps.bin F BinOp.add FloatKind.f32 x6 (FOps.bin F BinOp.mul FloatKind.f32 (FOps.bin F BinOp.quo FloatKind.f32 x8 1073741824) (Pure.impl_Pendulum_force F x0 x1 x2 x3 x4 x5 x6 x7))))) (FOps.bin F BinOp.add FloatKind.f32 (FOps.bin F BinOp.add FloatKind.f32 x6 (FOps.bin F BinOp.mul FloatKind.f32 (FOps.bin F BinOp.quo FloatKind.f32 x8 1073741824) (Pure.impl_Pendulum_force F x0 x1 x2 x3 x4 x5 x6 x7))) (FOps.bin F BinOp.mul FloatKind.f32 (FOps.bin F BinOp.quo FloatKind.f32 x8 1073741824) (Pure.impl_Pendulum_force F x0 x1 x2 x3 x4 (FOps.bin F BinOp.add FloatKind.f32 x5 (FOps.bin F BinOp.mul FloatKind.f32 x8 (FOps.bin F BinOp.add FloatKind.f32 x6 (FOps.bin F BinOp.mul FloatKind.f32 (FOps.bin F BinOp.quo FloatKind.f32 x8 1073741824) (Pure.impl_Pendulum_force F x0 x1 x2 x3 x4 x5 x6 x7))))) (FOps.bin F BinOp.add FloatKind.f32 x6 (FOps.bin F BinOp.mul FloatKind.f32 (FOps.bin F BinOp.quo FloatKind.f32 x8 1073741824) (Pure.impl_Pendulum_force F x0 x1 x2 x3 x4 x5 x6 x7))) (FOps.bin F BinOp.add FloatKind.f32 x7 x8)))) (FOps.bin F BinOp.add FloatKind.f32 x7 x8))])], none, []⟩ else none else none else none else none := by kernel_rfl
  rw [h0]
  unfold Pure.impl_Pendulum_step Pure.impl_Pendulum_step_1 Pure.impl_Pendulum_step_2 Pure.impl_Pendulum_step_3 Pure.impl_Pendulum_step_ok
  cases (Pure.impl_Pendulum_force_ok F x0 x1 x2 x3 x4 x5 x6 x7) with
  | true =>
    cases (Pure.impl_ValidSwing_ok F (FOps.bin F BinOp.add FloatKind.f32 x5 (FOps.bin F BinOp.mul FloatKind.f32 x8 (FOps.bin F BinOp.add FloatKind.f32 x6 (FOps.bin F BinOp.mul FloatKind.f32 (FOps.bin F BinOp.quo FloatKind.f32 x8 1073741824) (Pure.impl_Pendulum_force F x0 x1 x2 x3 x4 x5 x6 x7))))) (FOps.bin F BinOp.add FloatKind.f32 x6 (FOps.bin F BinOp.mul FloatKind.f32 (FOps.bin F BinOp.quo FloatKind.f32 x8 1073741824) (Pure.impl_Pendulum_force F x0 x1 x2 x3 x4 x5 x6 x7))) (FOps.bin F BinOp.add FloatKind.f32 x7 x8)) with
    | true =>
      cases (Pure.impl_ValidSwing F (FOps.bin F BinOp.add FloatKind.f32 x5 (FOps.bin F BinOp.mul FloatKind.f32 x8 (FOps.bin F BinOp.add FloatKind.f32 x6 (FOps.bin F BinOp.mul FloatKind.f32 (FOps.bin F BinOp.quo FloatKind.f32 x8 1073741824) (Pure.impl_Pendulum_force F x0 x1 x2 x3 x4 x5 x6 x7))))) (FOps.bin F BinOp.add FloatKind.f32 x6 (FOps.bin F BinOp.mul FloatKind.f32 (FOps.bin F BinOp.quo FloatKind.f32 x8 1073741824) (Pure.impl_Pendulum_force F x0 x1 x2 x3 x4 x5 x6 x7))) (FOps.bin F BinOp.add FloatKind.f32 x7 x8)) with
      | true =>
        cases (Pure.impl_Pendulum_force_ok F x0 x1 x2 x3 x4 (FOps.bin F BinOp.add FloatKind.f32 x5 (FOps.bin F BinOp.mul FloatKind.f32 x8 (FOps.bin F BinOp.add FloatKind.f32 x6 (FOps.bin F BinOp.mul FloatKind.f32 (FOps.bin F BinOp.quo FloatKind.f32 x8 1073741824) (Pure.impl_Pendulum_force F x0 x1 x2 x3 x4 x5 x6 x7))))) (FOps.bin F BinOp.add FloatKind.f32 x6 (FOps.bin F BinOp.mul FloatKind.f32 (FOps.bin F BinOp.quo FloatKind.f32 x8 1073741824) (Pure.impl_Pendulum_force F x0 x1 x2 x3 x4 x5 x6 x7))) (FOps.bin F BinOp.add FloatKind.f32 x7 x8)) with
        | true =>
          cases (Pure.impl_ValidSwing_ok F (FOps.bin F BinOp.add FloatKind.f32 x5 (FOps.bin F BinOp.mul FloatKind.f32 x8 (FOps.bin F BinOp.add FloatKind.f32 x6 (FOps.bin F BinOp.mul FloatKind.f32 (FOps.bin F BinOp.quo FloatKind.f32 x8 1073741824) (Pure.impl_Pendulum_force F x0 x1 x2 x3 x4 x5 x6 x7))))) (FOps.bin F BinOp.add FloatKind.f32 (FOps.bin F BinOp.add FloatKind.f32 x6 (FOps.bin F BinOp.mul FloatKind.f32 (FOps.bin F BinOp.quo FloatKind.f32 x8 1073741824) (Pure.impl_Pendulum_force F x0 x1 x2 x3 x4 x5 x6 x7))) (FOps.bin F BinOp.mul FloatKind.f32 (FOps.bin F BinOp.quo FloatKind.f32 x8 1073741824) (Pure.impl_Pendulum_force F x0 x1 x2 x3 x4 (FOps.bin F BinOp.add FloatKind.f32 x5 (FOps.bin F BinOp.mul FloatKind.f32 x8 (FOps.bin F BinOp.add FloatKind.f32 x6 (FOps.bin F BinOp.mul FloatKind.f32 (FOps.bin F BinOp.quo FloatKind.f32 x8 1073741824) (Pure.impl_Pendulum_force F x0 x1 x2 x3 x4 x5 x6 x7))))) (FOps.bin F BinOp.add FloatKind.f32 x6 (FOps.bin F BinOp.mul FloatKind.f32 (FOps.bin F BinOp.quo FloatKind.f32 x8 1073741824) (Pure.impl_Pendulum_force F x0 x1 x2 x3 x4 x5 x6 x7))) (FOps.bin F BinOp.add FloatKind.f32 x7 x8)))) (FOps.bin F BinOp.add FloatKind.f32 x7 x8)) with
          | true =>
            intro _; rfl
          | false =>
            intro h; exact absurd h Bool.false_ne_true
        | false =>
          intro h; exact absurd h Bool.false_ne_true
      | false =>
        intro _; rfl
    | false =>
      intro h; exact absurd h Bool.false_ne_true
  | false =>
    intro h; exact absurd h Bool.false_ne_true
theorem ok_impl_Pendulum_step : CallOK Try.prog 105 (c_impl_Pendulum_step real) := by
  refine callOK_of fun args h ret hc => ?_
  unfold c_impl_Pendulum_step at hc
  split at hc
  · rename_i x5 x6 x7 x8 x0 x1 x2 x3 x4
    obtain ⟨hok, rfl⟩ := some_ret hc
    exact holds_ev prog_ok (allOK_cons ok_impl_Pendulum_force (allOK_cons ok_impl_ValidSwing allOK_nil)) Try.func105 rfl rfl smL_nil rfl (e_impl_Pendulum_step real x0 x1 x2 x3 x4 x5 x6 x7 x8 hok)
  · cases hc
def Pure.impl_Pendulum_run_L0 (F : FOps) (y0 : Int) (y1 : Int) (y3 : Int) (y4 : Int) (y5 : Int) (y6 : Int) (y7 : Int) : Nat → Int → Int → Int → Int → (List (List Int)) → (Bool × Bool × (List (List Int)) × (List (List Int)))
  | 0, _, _, _, _, _ => (false, false, [], [])
  | n + 1, y2, y8, y9, y10, y11 => bif (Decidable.decide (y2 < y1)) then (bif (Pure.impl_Pendulum_step_ok F y3 y4 y5 y6 y7 y8 y9 y10 y0) then (bif (Pure.impl_Pendulum_step_3 F y3 y4 y5 y6 y7 y8 y9 y10 y0) then (bif (Decidable.decide ((Nat.succ (List.length y11)) ≤ 1073741824)) then (Pure.impl_Pendulum_run_L0 F y0 y1 y3 y4 y5 y6 y7 n (IntKind.wrap IntKind.i64 (y2 + 1)) (Pure.impl_Pendulum_step F y3 y4 y5 y6 y7 y8 y9 y10 y0) (Pure.impl_Pendulum_step_1 F y3 y4 y5 y6 y7 y8 y9 y10 y0) (Pure.impl_Pendulum_step_2 F y3 y4 y5 y6 y7 y8 y9 y10 y0) (y11 ++ [[Pure.impl_Pendulum_step F y3 y4 y5 y6 y7 y8 y9 y10 y0, Pure.impl_Pendulum_step_1 F y3 y4 y5 y6 y7 y8 y9 y10 y0, Pure.impl_Pendulum_step_2 F y3 y4 y5 y6 y7 y8 y9 y10 y0]])) else ((false, false, [], []))) else ((true, true, [], y11))) else ((false, false, [], []))) else ((true, false, y11, []))
def R_impl_Pendulum_run_L0 (y3 : Int) (y4 : Int) (y5 : Int) (y6 : Int) (y7 : Int) (r : (Bool × Bool × (List (List Int)) × (List (List Int)))) : Bool × Bool × (Ex × List V × List Ob) × (Ex × List V × List Ob) := ((r).1, (r).2.1, (Ex.normal, [V.at A.undef, V.at A.undef, V.at (A.sl 1)], [⟨false, OC.box [A.fl FloatKind.f32 y3, A.fl FloatKind.f32 y4, A.fl FloatKind.f32 y5, A.fl FloatKind.f32 y6, A.fl FloatKind.f32 y7]⟩, ⟨true, OC.rows [K.f FloatKind.f32, K.f FloatKind.f32, K.f FloatKind.f32] (r).2.2.1⟩]), (Ex.ret, [V.at A.nil, V.at (A.bool false), V.at (A.sl 1)], [⟨false, OC.box [A.fl FloatKind.f32 y3, A.fl FloatKind.f32 y4, A.fl FloatKind.f32 y5, A.fl FloatKind.f32 y6, A.fl FloatKind.f32 y7]⟩, ⟨true, OC.rows [K.f FloatKind.f32, K.f FloatKind.f32, K.f FloatKind.f32] (r).2.2.2⟩]))
def S_impl_Pendulum_run_L0 (F : FOps) : Sm := ⟨[0, 2, 5, 10, 14, 15], [92, 24, 0, 120, 2, 2], [8, 9, 10], fun vals hp => match vals, hp with
  | [V.at (A.ptr 0 0 0), V.at (A.fl FloatKind.f32 y0), V.at (A.ptr 1 0 0), V.at (A.sl 2), V.at (A.int IntKind.i64 y1), V.at (A.int IntKind.i64 y2)], [⟨false, OC.box [A.fl FloatKind.f32 y3, A.fl FloatKind.f32 y4, A.fl FloatKind.f32 y5, A.fl FloatKind.f32 y6, A.fl FloatKind.f32 y7]⟩, ⟨true, OC.box [A.fl FloatKind.f32 y8, A.fl FloatKind.f32 y9, A.fl FloatKind.f32 y10]⟩, ⟨true, OC.rows [K.f FloatKind.f32, K.f FloatKind.f32, K.f FloatKind.f32] y11⟩] => some (R_impl_Pendulum_run_L0 y3 y4 y5 y6 y7 (Pure.impl_Pendulum_run_L0 F y0 y1 y3 y4 y5 y6 y7 (y1 - y2 + 1).toNat y2 y8 y9 y10 y11))
  | _, _ => none⟩
theorem l_impl_Pendulum_run_L0 (F : FOps) (y0 : Int) (y1 : Int) (y3 : Int) (y4 : Int) (y5 : Int) (y6 : Int) (y7 : Int) : ∀ (fuel : Nat) (y2 : Int) (y8 : Int) (y9 : Int) (y10 : Int) (y11 : List (List Int)), (Pure.impl_Pendulum_run_L0 F y0 y1 y3 y4 y5 y6 y7 fuel y2 y8 y9 y10 y11).1 = true → loopOf (cxS F tyl [(105, c_impl_Pendulum_step F)] [] [] 0) 1 33 0 [0, 2, 5, 10, 14, 15] [92, 24, 0, 120, 2, 2] [8, 9, 10] (loopB 0 (codeOf Try.f99)) fuel [V.at (A.ptr 0 0 0), V.at (A.fl FloatKind.f32 y0), V.at (A.ptr 1 0 0), V.at (A.sl 2), V.at (A.int IntKind.i64 y1), V.at (A.int IntKind.i64 y2)] [⟨false, OC.box [A.fl FloatKind.f32 y3, A.fl FloatKind.f32 y4, A.fl FloatKind.f32 y5, A.fl FloatKind.f32 y6, A.fl FloatKind.f32 y7]⟩, ⟨true, OC.box [A.fl FloatKind.f32 y8, A.fl FloatKind.f32 y9, A.fl FloatKind.f32 y10]⟩, ⟨true, OC.rows [K.f FloatKind.f32, K.f FloatKind.f32, K.f FloatKind.f32] y11⟩] = resOf (R_impl_Pendulum_run_L0 y3 y4 y5 y6 y7 (Pure.impl_Pendulum_run_L0 F y0 y1 y3 y4 y5 y6 y7 fuel y2 y8 y9 y10 y11)) := by
  intro fuel
  induction fuel with
  | zero => intro y2 y8 y9 y10 y11 h; exact absurd h Bool.false_ne_true
  | succ n ih =>
    intro y2 y8 y9 y10 y11
    have h0 : roundOf (cxS F tyl [(105, c_impl_Pendulum_step F)] [] [] 0) 1 33 0 [0, 2, 5, 10, 14, 15] [92, 24, 0, 120, 2, 2] [8, 9, 10] (loopB 0 (codeOf Try.f99)) [V.at (A.ptr 0 0 0), V.at (A.fl FloatKind.f32 y0), V.at (A.ptr 1 0 0), V.at (A.sl 2), V.at (A.int IntKind.i64 y1), V.at (A.int IntKind.i64 y2)] [⟨false, OC.box [A.fl FloatKind.f32 y3, A.fl FloatKind.f32 y4, A.fl FloatKind.f32 y5, A.fl FloatKind.f32 y6, A.fl FloatKind.f32 y7]⟩, ⟨true, OC.box [A.fl FloatKind.f32 y8, A.fl FloatKind.f32 y9, A.fl FloatKind.f32 y10]⟩, ⟨true, OC.rows [K.f FloatKind.f32, K.f FloatKind.f32, K.f FloatKind.f32] y11⟩] = (bif Decidable.decide (y2 < y1) then bif Pure.impl_Pendulum_step_ok F y3 y4 y5 y6 y7 y8 y9 y10 y0 then bif Bool.not (Pure.impl_Pendulum_step_3 F y3 y4 y5 y6 y7 y8 y9 y10 y0) then some (false, (Ex.ret, ([V.at A.nil, V.at (A.bool false), V.at (A.sl 1)], [⟨false, OC.box [A.fl FloatKind.f32 y3, A.fl FloatKind.f32 y4, A.fl FloatKind.f32 y5, A.fl FloatKind.f32 y6, A.fl FloatKind.f32 y7]⟩, ⟨true, OC.rows [K.f FloatKind.f32, K.f FloatKind.f32, K.f FloatKind.f32] y11⟩]))) else bif Decidable.decide ((Nat.succ (List.length y11)) ≤ 1073741824) then some (true, (Ex.normal, ([V.at (A.ptr 0 0 0), V.at (A.fl FloatKind.f32 y0), V.at (A.ptr 1 0 0), V.at (A.sl 2), V.at (A.int IntKind.i64 y1), V.at (A.int IntKind.i64 (IntKind.wrap IntKind.i64 (y2 + 1)))], [⟨false, OC.box [A.fl FloatKind.f32 y3, A.fl FloatKind.f32 y4, A.fl FloatKind.f32 y5, A.fl FloatKind.f32 y6, A.fl FloatKind.f32 y7]⟩, ⟨true, OC.box [A.fl FloatKind.f32 (Pure.impl_Pendulum_step F y3 y4 y5 y6 y7 y8 y9 y10 y0), A.fl FloatKind.f32 (Pure.impl_Pendulum_step_1 F y3 y4 y5 y6 y7 y8 y9 y10 y0), A.fl FloatKind.f32 (Pure.impl_Pendulum_step_2 F y3 y4 y5 y6 y7 y8 y9 y10 y0)]⟩, ⟨true, OC.rows [K.f FloatKind.f32, K.f FloatKind.f32, K.f FloatKind.f32] (y11 ++ [[Pure.impl_Pendulum_step F y3 y4 y5 y6 y7 y8 y9 y10 y0, Pure.impl_Pendulum_step_1 F y3 y4 y5 y6 y7 y8 y9 y10 y0, Pure.impl_Pendulum_step_2 F y3 y4 y5 y6 y7 y8 y9 y10 y0]])⟩]))) else none else none else some (false, (Ex.normal, ([V.at A.undef, V.at A.undef, V.at (A.sl 1)], [⟨false, OC.box [A.fl FloatKind.f32 y3, A.fl FloatKind.f32 y4, A.fl FloatKind.f32 y5, A.fl FloatKind.f32 y6, A.fl FloatKind.f32 y7]⟩, ⟨true, OC.rows [K.f FloatKind.f32, K.f FloatKind.f32, K.f FloatKind.f32] y11⟩])))) := by kernel_rfl
    unfold loopOf
    rw [h0]
    unfold Pure.impl_Pendulum_run_L0
    cases (Decidable.decide (y2 < y1)) with
    | true =>
      cases (Pure.impl_Pendulum_step_ok F y3 y4 y5 y6 y7 y8 y9 y10 y0) with
      | true =>
        cases (Pure.impl_Pendulum_step_3 F y3 y4 y5 y6 y7 y8 y9 y10 y0) with
        | true =>
          cases (Decidable.decide ((Nat.succ (List.length y11)) ≤ 1073741824)) with
          | true =>
            exact ih _ _ _ _ _
          | false =>
            intro h; exact absurd h Bool.false_ne_true
        | false =>
          intro _; rfl
      | false =>
        intro h; exact absurd h Bool.false_ne_true
    | false =>
      intro _; rfl
theorem t_impl_Pendulum_run_L0 : SmTo Try.prog 1 33 (S_impl_Pendulum_run_L0 real) 0 (.loop (loopB 0 (codeOf Try.f99))) := by
  refine smTo_ev (cl := [(105, c_impl_Pendulum_step real)]) (ef := []) (sm := []) (un := 0) prog_ok (allOK_cons ok_impl_Pendulum_step allOK_nil) smL_nil ?_
  intro vals hp q r h hq
  unfold S_impl_Pendulum_run_L0 at h
  dsimp only at h
  split at h
  · rename_i y0 y1 y2 y3 y4 y5 y6 y7 y8 y9 y10 y11
    obtain rfl := Option.some.inj h
    have h1 := hq
    unfold resOf at h1
    rw [chk_some] at h1
    exact ⟨_, (l_impl_Pendulum_run_L0 real y0 y1 y3 y4 y5 y6 y7 _ y2 y8 y9 y10 y11 h1.1).trans hq⟩
  · cases h
def Pure.impl_Pendulum_run (F : FOps) (x0 : Int) (x1 : Int) (x2 : Int) (x3 : Int) (x4 : Int) (x5 : Int) (x6 : Int) (x7 : Int) (x8 : Int) (x9 : Int) : Bool := bif Prod.fst (Prod.snd (Pure.impl_Pendulum_run_L0 F x8 x9 x0 x1 x2 x3 x4 (Int.toNat ((x9 - 0) + 1)) 0 x5 x6 x7 [])) then false else true
def Pure.impl_Pendulum_run_1 (F : FOps) (x0 : Int) (x1 : Int) (x2 : Int) (x3 : Int) (x4 : Int) (x5 : Int) (x6 : Int) (x7 : Int) (x8 : Int) (x9 : Int) : List (List Int) := bif Prod.fst (Prod.snd (Pure.impl_Pendulum_run_L0 F x8 x9 x0 x1 x2 x3 x4 (Int.toNat ((x9 - 0) + 1)) 0 x5 x6 x7 [])) then [] else Prod.fst (Prod.snd (Prod.snd (Pure.impl_Pendulum_run_L0 F x8 x9 x0 x1 x2 x3 x4 (Int.toNat ((x9 - 0) + 1)) 0 x5 x6 x7 [])))
def Pure.impl_Pendulum_run_ok (F : FOps) (x0 : Int) (x1 : Int) (x2 : Int) (x3 : Int) (x4 : Int) (x5 : Int) (x6 : Int) (x7 : Int) (x8 : Int) (x9 : Int) : Bool := Prod.fst (Pure.impl_Pendulum_run_L0 F x8 x9 x0 x1 x2 x3 x4 (Int.toNat ((x9 - 0) + 1)) 0 x5 x6 x7 [])
def c_impl_Pendulum_run (F : FOps) : Con
  | [V.at (A.ptr 0 0 0), V.agg [A.fl FloatKind.f32 x5, A.fl FloatKind.f32 x6, A.fl FloatKind.f32 x7], V.at (A.fl FloatKind.f32 x8), V.at (A.int IntKind.i64 x9)], [⟨false, OC.box [A.fl FloatKind.f32 x0, A.fl FloatKind.f32 x1, A.fl FloatKind.f32 x2, A.fl FloatKind.f32 x3, A.fl FloatKind.f32 x4]⟩] => some (Pure.impl_Pendulum_run_ok F x0 x1 x2 x3 x4 x5 x6 x7 x8 x9, ⟨V.tup [(false, [A.sl 1]), (false, [A.bool (Pure.impl_Pendulum_run F x0 x1 x2 x3 x4 x5 x6 x7 x8 x9)])], none, [⟨true, OC.rows [K.f FloatKind.f32, K.f FloatKind.f32, K.f FloatKind.f32] (Pure.impl_Pendulum_run_1 F x0 x1 x2 x3 x4 x5 x6 x7 x8 x9)⟩]⟩)
  | _, _ => none
theorem e_impl_Pendulum_run (F : FOps) (x0 : Int) (x1 : Int) (x2 : Int) (x3 : Int) (x4 : Int) (x5 : Int) (x6 : Int) (x7 : Int) (x8 : Int) (x9 : Int) : Pure.impl_Pendulum_run_ok F x0 x1 x2 x3 x4 x5 x6 x7 x8 x9 = true → evFn (cxS F tyl [(105, c_impl_Pendulum_step F)] [] [(0, S_impl_Pendulum_run_L0 F)] 0) Try.f99 false [V.at (A.ptr 0 0 0), V.agg [A.fl FloatKind.f32 x5, A.fl FloatKind.f32 x6, A.fl FloatKind.f32 x7], V.at (A.fl FloatKind.f32 x8), V.at (A.int IntKind.i64 x9)] [⟨false, OC.box [A.fl FloatKind.f32 x0, A.fl FloatKind.f32 x1, A.fl FloatKind.f32 x2, A.fl FloatKind.f32 x3, A.fl FloatKind.f32 x4]⟩] = some ⟨V.tup [(false, [A.sl 1]), (false, [A.bool (Pure.impl_Pendulum_run F x0 x1 x2 x3 x4 x5 x6 x7 x8 x9)])], none, [⟨true, OC.rows [K.f FloatKind.f32, K.f FloatKind.f32, K.f FloatKind.f32] (Pure.impl_Pendulum_run_1 F x0 x1 x2 x3 x4 x5 x6 x7 x8 x9)⟩]⟩ := by
  have h0 : evFn (cxS F tyl [(105, c_impl_Pendulum_step F)] [] [(0, S_impl_Pendulum_run_L0 F)] 0) Try.f99 false [V.at (A.ptr 0 0 0), V.agg [A.fl FloatKind.f32 x5, A.fl FloatKind.f32 x6, A.fl FloatKind.f32 x7], V.at (A.fl FloatKind.f32 x8), V.at (A.int IntKind.i64 x9)] [⟨false, OC.box [A.fl FloatKind.f32 x0, A.fl FloatKind.f32 x1, A.fl FloatKind.f32 x2, A.fl FloatKind.f32 x3, A.fl FloatKind.f32 x4]⟩] = bif Prod.fst (Pure.impl_Pendulum_run_L0 F x8 x9 x0 x1 x2 x3 x4 (Int.toNat ((x9 - 0) + 1)) 0 x5 x6 x7 []) then bif Prod.fst (Prod.snd (Pure.impl_Pendulum_run_L0 F x8 x9 x0 x1 x2 x3 x4 (Int.toNat ((x9 - 0) + 1)) 0 x5 x6 x7 [])) then some ⟨V.tup [(false, [A.sl 1]), (false, [A.bool false])], none, [⟨true, OC.rows [K.f FloatKind.f32, K.f FloatKind.f32, K.f FloatKind.f32] []⟩]⟩ else some ⟨V.tup [(false, [A.sl 1]), (false, [A.bool true])], none, [⟨true, OC.rows [K.f FloatKind.f32, K.f FloatKind.f32, K.f FloatKind.f32] (Prod.fst (Prod.snd (Prod.snd (Pure.impl_Pendulum_run_L0 F x8 x9 x0 x1 x2 x3 x4 (Int.toNat ((x9 - 0) + 1)) 0 x5 x6 x7 []))))⟩]⟩ else none := by kernel_rfl
  rw [h0]
  unfold Pure.impl_Pendulum_run Pure.impl_Pendulum_run_1 Pure.impl_Pendulum_run_ok
  cases (Prod.fst (Pure.impl_Pendulum_run_L0 F x8 x9 x0 x1 x2 x3 x4 (Int.toNat ((x9 - 0) + 1)) 0 x5 x6 x7 [])) with
  | true =>
    cases (Prod.fst (Prod.snd (Pure.impl_Pendulum_run_L0 F x8 x9 x0 x1 x2 x3 x4 (Int.toNat ((x9 - 0) + 1)) 0 x5 x6 x7 []))) with
    | true =>
      intro _; rfl
    | false =>
      intro _; rfl
  | false =>
    intro h; exact absurd h Bool.false_ne_true
theorem ok_impl_Pendulum_run : CallOK Try.prog 99 (c_impl_Pendulum_run real) := by
  refine callOK_of fun args h ret hc => ?_
  unfold c_impl_Pendulum_run at hc
  split at hc
  · rename_i x5 x6 x7 x8 x9 x0 x1 x2 x3 x4
    obtain ⟨hok, rfl⟩ := some_ret hc
    exact holds_ev prog_ok (allOK_cons ok_impl_Pendulum_step allOK_nil) Try.func99 rfl rfl (smL_cons (body := .loop (loopB 0 (codeOf Try.f99))) (by kernel_rfl) t_impl_Pendulum_run_L0 smL_nil) rfl (e_impl_Pendulum_run real x0 x1 x2 x3 x4 x5 x6 x7 x8 x9 hok)
  · cases hc
def Pure.impl_RunSwing_L0 (F : FOps) (y0 : Int) (y5 : Int) (y6 : Int) (y7 : Int) (y9 : List (List Int)) : Nat → Int → Int → Int → Int → (List (List Int)) → (Bool × Int × Int × Int × (List (List Int)))
  | 0, _, _, _, _, _ => (false, 0, 0, 0, [])
  | n + 1, y1, y2, y3, y4, y8 => bif (Decidable.decide (y1 < y0)) then (bif (Decidable.decide (0 ≤ y1)) then (bif (Decidable.decide (y1 < (Int.ofNat (List.length y9)))) then (bif (Decidable.decide ((Nat.succ (List.length y8)) ≤ 1073741824)) then (Pure.impl_RunSwing_L0 F y0 y5 y6 y7 y9 n (IntKind.wrap IntKind.i64 (y1 + 1)) (List.getD (List.getD y9 (Int.toNat y1) []) 0 0) (List.getD (List.getD y9 (Int.toNat y1) []) 1 0) (List.getD (List.getD y9 (Int.toNat y1) []) 2 0) (y8 ++ [[List.getD (List.getD y9 (Int.toNat y1) []) 0 0]])) else ((false, 0, 0, 0, []))) else ((false, 0, 0, 0, []))) else ((false, 0, 0, 0, []))) else ((true, y2, y3, y4, y8))
def R_impl_RunSwing_L0 (y5 : Int) (y6 : Int) (y7 : Int) (r : (Bool × Int × Int × Int × (List (List Int)))) : Bool × Bool × (Ex × List V × List Ob) × (Ex × List V × List Ob) := ((r).1, false, (Ex.normal, [V.at (A.ptr 0 0 0), V.at (A.ptr 1 0 0), V.at (A.sl 2)], [⟨true, OC.box [A.fl FloatKind.f32 (r).2.1, A.fl FloatKind.f32 (r).2.2.1, A.fl FloatKind.f32 (r).2.2.2.1]⟩, ⟨true, OC.box [A.fl FloatKind.f32 y5, A.fl FloatKind.f32 y6, A.fl FloatKind.f32 y7]⟩, ⟨true, OC.rows [K.f FloatKind.f32] (r).2.2.2.2⟩]), (Ex.normal, [V.at (A.ptr 0 0 0), V.at (A.ptr 1 0 0), V.at (A.sl 2)], [⟨true, OC.box [A.fl FloatKind.f32 (r).2.1, A.fl FloatKind.f32 (r).2.2.1, A.fl FloatKind.f32 (r).2.2.2.1]⟩, ⟨true, OC.box [A.fl FloatKind.f32 y5, A.fl FloatKind.f32 y6, A.fl FloatKind.f32 y7]⟩, ⟨true, OC.rows [K.f FloatKind.f32] (r).2.2.2.2⟩]))
def S_impl_RunSwing_L0 (F : FOps) : Sm := ⟨[5, 8, 13, 38, 39, 40], [0, 0, 58, 120, 3, 3], [5, 8, 13], fun vals hp => match vals, hp with
  | [V.at (A.ptr 0 0 0), V.at (A.ptr 1 0 0), V.at (A.sl 2), V.at (A.sl 3), V.at (A.int IntKind.i64 y0), V.at (A.int IntKind.i64 y1)], [⟨true, OC.box [A.fl FloatKind.f32 y2, A.fl FloatKind.f32 y3, A.fl FloatKind.f32 y4]⟩, ⟨true, OC.box [A.fl FloatKind.f32 y5, A.fl FloatKind.f32 y6, A.fl FloatKind.f32 y7]⟩, ⟨true, OC.rows [K.f FloatKind.f32] y8⟩, ⟨true, OC.rows [K.f FloatKind.f32, K.f FloatKind.f32, K.f FloatKind.f32] y9⟩] => some (R_impl_RunSwing_L0 y5 y6 y7 (Pure.impl_RunSwing_L0 F y0 y5 y6 y7 y9 (y0 - y1 + 1).toNat y1 y2 y3 y4 y8))
  | _, _ => none⟩
theorem l_impl_RunSwing_L0 (F : FOps) (y0 : Int) (y5 : Int) (y6 : Int) (y7 : Int) (y9 : List (List Int)) : ∀ (fuel : Nat) (y1 : Int) (y2 : Int) (y3 : Int) (y4 : Int) (y8 : List (List Int)), (Pure.impl_RunSwing_L0 F y0 y5 y6 y7 y9 fuel y1 y2 y3 y4 y8).1 = true → loopOf (cxS F tyl [(98, c_impl_swingOk F), (61, c_impl_in F), (99, c_impl_Pendulum_run F)] [] [] 0) 0 53 0 [5, 8, 13, 38, 39, 40] [0, 0, 58, 120, 3, 3] [5, 8, 13] (loopB 0 (codeOf Try.f88)) fuel [V.at (A.ptr 0 0 0), V.at (A.ptr 1 0 0), V.at (A.sl 2), V.at (A.sl 3), V.at (A.int IntKind.i64 y0), V.at (A.int IntKind.i64 y1)] [⟨true, OC.box [A.fl FloatKind.f32 y2, A.fl FloatKind.f32 y3, A.fl FloatKind.f32 y4]⟩, ⟨true, OC.box [A.fl FloatKind.f32 y5, A.fl FloatKind.f32 y6, A.fl FloatKind.f32 y7]⟩, ⟨true, OC.rows [K.f FloatKind.f32] y8⟩, ⟨true, OC.rows [K.f FloatKind.f32, K.f FloatKind.f32, K.f FloatKind.f32] y9⟩] = resOf (R_impl_RunSwing_L0 y5 y6 y7 (Pure.impl_RunSwing_L0 F y0 y5 y6 y7 y9 fuel y1 y2 y3 y4 y8)) := by
  intro fuel
  induction fuel with
  | zero => intro y1 y2 y3 y4 y8 h; exact absurd h Bool.false_ne_true
  | succ n ih =>
    intro y1 y2 y3 y4 y8
    have h0 : roundOf (cxS F tyl [(98, c_impl_swingOk F), (61, c_impl_in F), (99, c_impl_Pendulum_run F)] [] [] 0) 0 53 0 [5, 8, 13, 38, 39, 40] [0, 0, 58, 120, 3, 3] [5, 8, 13] (loopB 0 (codeOf Try.f88)) [V.at (A.ptr 0 0 0), V.at (A.ptr 1 0 0), V.at (A.sl 2), V.at (A.sl 3), V.at (A.int IntKind.i64 y0), V.at (A.int IntKind.i64 y1)] [⟨true, OC.box [A.fl FloatKind.f32 y2, A.fl FloatKind.f32 y3, A.fl FloatKind.f32 y4]⟩, ⟨true, OC.box [A.fl FloatKind.f32 y5, A.fl FloatKind.f32 y6, A.fl FloatKind.f32 y7]⟩, ⟨true, OC.rows [K.f FloatKind.f32] y8⟩, ⟨true, OC.rows [K.f FloatKind.f32, K.f FloatKind.f32, K.f FloatKind.f32] y9⟩] = (bif Decidable.decide (y1 < y0) then bif Decidable.decide (0 ≤ y1) then bif Decidable.decide (y1 < (Int.ofNat (List.length y9))) then bif Decidable.decide ((Nat.succ (List.length y8)) ≤ 1073741824) then some (true, (Ex.normal, ([V.at (A.ptr 0 0 0), V.at (A.ptr 1 0 0), V.at (A.sl 2), V.at (A.sl 3), V.at (A.int IntKind.i64 y0), V.at (A.int IntKind.i64 (IntKind.wrap IntKind.i64 (y1 + 1)))], [⟨true, OC.box [A.fl FloatKind.f32 (List.getD (List.getD y9 (Int.toNat y1) []) 0 0), A.fl FloatKind.f32 (List.getD (List.getD y9 (Int.toNat y1) []) 1 0), A.fl FloatKind.f32 (List.getD (List.getD y9 (Int.toNat y1) []) 2 0)]⟩, ⟨true, OC.box [A.fl FloatKind.f32 y5, A.fl FloatKind.f32 y6, A.fl FloatKind.f32 y7]⟩, ⟨true, OC.rows [K.f FloatKind.f32] (y8 ++ [[List.getD (List.getD y9 (Int.toNat y1) []) 0 0]])⟩, ⟨true, OC.rows [K.f FloatKind.f32, K.f FloatKind.f32, K.f FloatKind.f32] y9⟩]))) else none else none else none else some (false, (Ex.normal, ([V.at (A.ptr 0 0 0), V.at (A.ptr 1 0 0), V.at (A.sl 2)], [⟨true, OC.box [A.fl FloatKind.f32 y2, A.fl FloatKind.f32 y3, A.fl FloatKind.f32 y4]⟩, ⟨true, OC.box [A.fl FloatKind.f32 y5, A.fl FloatKind.f32 y6, A.fl FloatKind.f32 y7]⟩, ⟨true, OC.rows [K.f FloatKind.f32] y8⟩])))) := by kernel_rfl
    unfold loopOf
    rw [h0]
    unfold Pure.impl_RunSwing_L0
    cases (Decidable.decide (y1 < y0)) with
    | true =>
      cases (Decidable.decide (0 ≤ y1)) with
      | true =>
        cases (Decidable.decide (y1 < (Int.ofNat (List.length y9)))) with
        | true =>
          cases (Decidable.decide ((Nat.succ (List.length y8)) ≤ 1073741824)) with
          | true =>
            exact ih _ _ _ _ _
          | false =>
            intro h; exact absurd h Bool.false_ne_true
        | false =>
          intro h; exact absurd h Bool.false_ne_true
      | false =>
        intro h; exact absurd h Bool.false_ne_true
    | false =>
      intro _; rfl
theorem t_impl_RunSwing_L0 : SmTo Try.prog 0 53 (S_impl_RunSwing_L0 real) 0 (.loop (loopB 0 (codeOf Try.f88))) := by
  refine smTo_ev (cl := [(98, c_impl_swingOk real), (61, c_impl_in real), (99, c_impl_Pendulum_run real)]) (ef := []) (sm := []) (un := 0) prog_ok (allOK_cons ok_impl_swingOk (allOK_cons ok_impl_in (allOK_cons ok_impl_Pendulum_run allOK_nil))) smL_nil ?_
  intro vals hp q r h hq
  unfold S_impl_RunSwing_L0 at h
  dsimp only at h
  split at h
  · rename_i y0 y1 y2 y3 y4 y5 y6 y7 y8 y9
    obtain rfl := Option.some.inj h
    have h1 := hq
    unfold resOf at h1
    rw [chk_some] at h1
    exact ⟨_, (l_impl_RunSwing_L0 real y0 y5 y6 y7 y9 _ y1 y2 y3 y4 y8 h1.1).trans hq⟩
  · cases h
def Pure.impl_RunSwing (F : FOps) (x0 : Int) (x1 : Int) (x2 : Int) (x3 : Int) (x4 : Int) (x5 : Int) (x6 : Int) (x7 : Int) (x8 : Int) (x9 : Int) : Int := bif Pure.impl_swingOk F x0 x1 x2 x3 x4 x5 x6 x7 x8 then bif Pure.impl_in F x9 0 256 then bif Pure.impl_Pendulum_run F x0 x1 x2 x3 x4 x5 x6 x7 x8 x9 then Prod.fst (Prod.snd (Pure.impl_RunSwing_L0 F (Int.ofNat (List.length (Pure.impl_Pendulum_run_1 F x0 x1 x2 x3 x4 x5 x6 x7 x8 x9))) 0 0 0 (Pure.impl_Pendulum_run_1 F x0 x1 x2 x3 x4 x5 x6 x7 x8 x9) (Nat.succ ((List.length (Pure.impl_Pendulum_run_1 F x0 x1 x2 x3 x4 x5 x6 x7 x8 x9)) + 0)) 0 x5 x6 x7 [])) else 0 else 0 else 0
def Pure.impl_RunSwing_1 (F : FOps) (x0 : Int) (x1 : Int) (x2 : Int) (x3 : Int) (x4 : Int) (x5 : Int) (x6 : Int) (x7 : Int) (x8 : Int) (x9 : Int) : Int := bif Pure.impl_swingOk F x0 x1 x2 x3 x4 x5 x6 x7 x8 then bif Pure.impl_in F x9 0 256 then bif Pure.impl_Pendulum_run F x0 x1 x2 x3 x4 x5 x6 x7 x8 x9 then Prod.fst (Prod.snd (Prod.snd (Pure.impl_RunSwing_L0 F (Int.ofNat (List.length (Pure.impl_Pendulum_run_1 F x0 x1 x2 x3 x4 x5 x6 x7 x8 x9))) 0 0 0 (Pure.impl_Pendulum_run_1 F x0 x1 x2 x3 x4 x5 x6 x7 x8 x9) (Nat.succ ((List.length (Pure.impl_Pendulum_run_1 F x0 x1 x2 x3 x4 x5 x6 x7 x8 x9)) + 0)) 0 x5 x6 x7 []))) else 0 else 0 else 0
def Pure.impl_RunSwing_2 (F : FOps) (x0 : Int) (x1 : Int) (x2 : Int) (x3 : Int) (x4 : Int) (x5 : Int) (x6 : Int) (x7 : Int) (x8 : Int) (x9 : Int) : Int := bif Pure.impl_swingOk F x0 x1 x2 x3 x4 x5 x6 x7 x8 then bif Pure.impl_in F x9 0 256 then bif Pure.impl_Pendulum_run F x0 x1 x2 x3 x4 x5 x6 x7 x8 x9 then Prod.fst (Prod.snd (Prod.snd (Prod.snd (Pure.impl_RunSwing_L0 F (Int.ofNat (List.length (Pure.impl_Pendulum_run_1 F x0 x1 x2 x3 x4 x5 x6 x7 x8 x9))) 0 0 0 (Pure.impl_Pendulum_run_1 F x0 x1 x2 x3 x4 x5 x6 x7 x8 x9) (Nat.succ ((List.length (Pure.impl_Pendulum_run_1 F x0 x1 x2 x3 x4 x5 x6 x7 x8 x9)) + 0)) 0 x5 x6 x7 [])))) else 0 else 0 else 0
def Pure.impl_RunSwing_3 (F : FOps) (x0 : Int) (x1 : Int) (x2 : Int) (x3 : Int) (x4 : Int) (x5 : Int) (x6 : Int) (x7 : Int) (x8 : Int) (x9 : Int) : Bool := bif Pure.impl_swingOk F x0 x1 x2 x3 x4 x5 x6 x7 x8 then bif Pure.impl_in F x9 0 256 then Pure.impl_Pendulum_run F x0 x1 x2 x3 x4 x5 x6 x7 x8 x9 else false else false
def Pure.impl_RunSwing_4 (F : FOps) (x0 : Int) (x1 : Int) (x2 : Int) (x3 : Int) (x4 : Int) (x5 : Int) (x6 : Int) (x7 : Int) (x8 : Int) (x9 : Int) : List (List Int) := bif Pure.impl_swingOk F x0 x1 x2 x3 x4 x5 x6 x7 x8 then bif Pure.impl_in F x9 0 256 then bif Pure.impl_Pendulum_run F x0 x1 x2 x3 x4 x5 x6 x7 x8 x9 then Prod.snd (Prod.snd (Prod.snd (Prod.snd (Pure.impl_RunSwing_L0 F (Int.ofNat (List.length (Pure.impl_Pendulum_run_1 F x0 x1 x2 x3 x4 x5 x6 x7 x8 x9))) 0 0 0 (Pure.impl_Pendulum_run_1 F x0 x1 x2 x3 x4 x5 x6 x7 x8 x9) (Nat.succ ((List.length (Pure.impl_Pendulum_run_1 F x0 x1 x2 x3 x4 x5 x6 x7 x8 x9)) + 0)) 0 x5 x6 x7 [])))) else [] else [] else []
def Pure.impl_RunSwing_ok (F : FOps) (x0 : Int) (x1 : Int) (x2 : Int) (x3 : Int) (x4 : Int) (x5 : Int) (x6 : Int) (x7 : Int) (x8 : Int) (x9 : Int) : Bool := bif Pure.impl_swingOk_ok F x0 x1 x2 x3 x4 x5 x6 x7 x8 then bif Pure.impl_swingOk F x0 x1 x2 x3 x4 x5 x6 x7 x8 then bif Pure.impl_in F x9 0 256 then bif Pure.impl_Pendulum_run_ok F x0 x1 x2 x3 x4 x5 x6 x7 x8 x9 then bif Pure.impl_Pendulum_run F x0 x1 x2 x3 x4 x5 x6 x7 x8 x9 then Prod.fst (Pure.impl_RunSwing_L0 F (Int.ofNat (List.length (Pure.impl_Pendulum_run_1 F x0 x1 x2 x3 x4 x5 x6 x7 x8 x9))) 0 0 0 (Pure.impl_Pendulum_run_1 F x0 x1 x2 x3 x4 x5 x6 x7 x8 x9) (Nat.succ ((List.length (Pure.impl_Pendulum_run_1 F x0 x1 x2 x3 x4 x5 x6 x7 x8 x9)) + 0)) 0 x5 x6 x7 []) else true else false else true else true else false
def c_impl_RunSwing (F : FOps) : Con
  | [V.agg [A.fl FloatKind.f32 x0, A.fl FloatKind.f32 x1, A.fl FloatKind.f32 x2, A.fl FloatKind.f32 x3, A.fl FloatKind.f32 x4], V.agg [A.fl FloatKind.f32 x5, A.fl FloatKind.f32 x6, A.fl FloatKind.f32 x7], V.at (A.fl FloatKind.f32 x8), V.at (A.int IntKind.i64 x9)], [] => some (Pure.impl_RunSwing_ok F x0 x1 x2 x3 x4 x5 x6 x7 x8 x9, ⟨V.tup [(true, [A.fl FloatKind.f32 (Pure.impl_RunSwing F x0 x1 x2 x3 x4 x5 x6 x7 x8 x9), A.fl FloatKind.f32 (Pure.impl_RunSwing_1 F x0 x1 x2 x3 x4 x5 x6 x7 x8 x9), A.fl FloatKind.f32 (Pure.impl_RunSwing_2 F x0 x1 x2 x3 x4 x5 x6 x7 x8 x9)]), (false, [A.sl 0]), (false, [A.bool (Pure.impl_RunSwing_3 F x0 x1 x2 x3 x4 x5 x6 x7 x8 x9)])], none, [⟨true, OC.rows [K.f FloatKind.f32] (Pure.impl_RunSwing_4 F x0 x1 x2 x3 x4 x5 x6 x7 x8 x9)⟩]⟩)
  | _, _ => none
theorem e_impl_RunSwing (F : FOps) (x0 : Int) (x1 : Int) (x2 : Int) (x3 : Int) (x4 : Int) (x5 : Int) (x6 : Int) (x7 : Int) (x8 : Int) (x9 : Int) : Pure.impl_RunSwing_ok F x0 x1 x2 x3 x4 x5 x6 x7 x8 x9 = true → evFn (cxS F tyl [(98, c_impl_swingOk F), (61, c_impl_in F), (99, c_impl_Pendulum_run F)] [] [(0, S_impl_RunSwing_L0 F)] 0) Try.f88 false [V.agg [A.fl FloatKind.f32 x0, A.fl FloatKind.f32 x1, A.fl FloatKind.f32 x2, A.fl FloatKind.f32 x3, A.fl FloatKind.f32 x4], V.agg [A.fl FloatKind.f32 x5, A.fl FloatKind.f32 x6, A.fl FloatKind.f32 x7], V.at (A.fl FloatKind.f32 x8), V.at (A.int IntKind.i64 x9)] [] = some ⟨V.tup [(true, [A.fl FloatKind.f32 (Pure.impl_RunSwing F x0 x1 x2 x3 x4 x5 x6 x7 x8 x9), A.fl FloatKind.f32 (Pure.impl_RunSwing_1 F x0 x1 x2 x3 x4 x5 x6 x7 x8 x9), A.fl FloatKind.f32 (Pure.impl_RunSwing_2 F x0 x1 x2 x3 x4 x5 x6 x7 x8 x9)]), (false, [A.sl 0]), (false, [A.bool (Pure.impl_RunSwing_3 F x0 x1 x2 x3 x4 x5 x6 x7 x8 x9)])], none, [⟨true, OC.rows [K.f FloatKind.f32] (Pure.impl_RunSwing_4 F x0 x1 x2 x3 x4 x5 x6 x7 x8 x9)⟩]⟩ := by
  have h0 : evFn (cxS F tyl [(98, c_impl_swingOk F), (61, c_impl_in F), (99, c_impl_Pendulum_run F)] [] [(0, S_impl_RunSwing_L0 F)] 0) Try.f88 false [V.agg [A.fl FloatKind.f32 x0, A.fl FloatKind.f32 x1, A.fl FloatKind.f32 x2, A.fl FloatKind.f32 x3, A.fl FloatKind.f32 x4], V.agg [A.fl FloatKind.f32 x5, A.fl FloatKind.f32 x6, A.fl FloatKind.f32 x7], V.at (A.fl FloatKind.f32 x8), V.at (A.int IntKind.i64 x9)] [] = bif Pure.impl_swingOk_ok F x0 x1 x2 x3 x4 x5 x6 x7 x8 then bif Bool.not (Pure.impl_swingOk F x0 x1 x2 x3 x4 x5 x6 x7 x8) then some ⟨V.tup [(true, [A.fl FloatKind.f32 0, A.fl FloatKind.f32 0, A.fl FloatKind.f32 0]), (false, [A.sl 0]), (false, [A.bool false])], none, [⟨true, OC.rows [K.f FloatKind.f32] []⟩]⟩ else bif Bool.not (Pure.impl_in F x9 0 256) then some ⟨V.tup [(true, [A.fl FloatKind.f32 0, A.fl FloatKind.f32 0, A.fl FloatKind.f32 0]), (false, [A.sl 0]), (false, [A.bool false])], none, [⟨true, OC.rows [K.f FloatKind.f32] []⟩]⟩ else bif Pure.impl_Pendulum_run_ok F x0 x1 x2 x3 x4 x5 x6 x7 x8 x9 then bif Bool.not (Pure.impl_Pendulum_run F x0 x1 x2 x3 x4 x5 x6 x7 x8 x9) then some ⟨V.tup [(true, [A.fl FloatKind.f32 0, A.fl FloatKind.f32 0, A.fl FloatKind.f32 0]), (false, [A.sl 0]), (false, [A.bool false])], none, [⟨true, OC.rows [K.f FloatKind.f32] []⟩]⟩ else bif Prod.fst (Pure.impl_RunSwing_L0 F (Int.ofNat (List.length (Pure.impl_Pendulum_run_1 F x0 x1 x2 x3 x4 x5 x6 x7 x8 x9))) 0 0 0 (Pure.impl_Pendulum_run_1 F x0 x1 x2 x3 x4 x5 x6 x7 x8 x9) (Nat.succ ((List.length (Pure.impl_Pendulum_run_1 F x0 x1 x2 x3 x4 x5 x6 x7 x8 x9)) + 0)) 0 x5 x6 x7 []) then some ⟨V.tup [(true, [A.fl FloatKind.f32 (Prod.fst (Prod.snd (Pure.impl_RunSwing_L0 F (Int.ofNat (List.length (Pure.impl_Pendulum_run_1 F x0 x1 x2 x3 x4 x5 x6 x7 x8 x9))) 0 0 0 (Pure.impl_Pendulum_run_1 F x0 x1 x2 x3 x4 x5 x6 x7 x8 x9) (Nat.succ ((List.length (Pure.impl_Pendulum_run_1 F x0 x1 x2 x3 x4 x5 x6 x7 x8 x9)) + 0)) 0 x5 x6 x7 []))), A.fl FloatKind.f32 (Prod.fst (Prod.snd (Prod.snd (Pure.impl_RunSwing_L0 F (Int.ofNat (List.length (Pure.impl_Pendulum_run_1 F x0 x1 x2 x3 x4 x5 x6 x7 x8 x9))) 0 0 0 (Pure.impl_Pendulum_run_1 F x0 x1 x2 x3 x4 x5 x6 x7 x8 x9) (Nat.succ ((List.length (Pure.impl_Pendulum_run_1 F x0 x1 x2 x3 x4 x5 x6 x7 x8 x9)) + 0)) 0 x5 x6 x7 [])))), A.fl FloatKind.f32 (Prod.fst (Prod.snd (Prod.snd (Prod.snd (Pure.impl_RunSwing_L0 F (Int.ofNat (List.length (Pure.impl_Pendulum_run_1 F x0 x1 x2 x3 x4 x5 x6 x7 x8 x9))) 0 0 0 (Pure.impl_Pendulum_run_1 F x0 x1 x2 x3 x4 x5 x6 x7 x8 x9) (Nat.succ ((List.length (Pure.impl_Pendulum_run_1 F x0 x1 x2 x3 x4 x5 x6 x7 x8 x9)) + 0)) 0 x5 x6 x7 [])))))]), (false, [A.sl 0]), (false, [A.bool true])], none, [⟨true, OC.rows [K.f FloatKind.f32] (Prod.snd (Prod.snd (Prod.snd (Prod.snd (Pure.impl_RunSwing_L0 F (Int.ofNat (List.length (Pure.impl_Pendulum_run_1 F x0 x1 x2 x3 x4 x5 x6 x7 x8 x9))) 0 0 0 (Pure.impl_Pendulum_run_1 F x0 x1 x2 x3 x4 x5 x6 x7 x8 x9) (Nat.succ ((List.length (Pure.impl_Pendulum_run_1 F x0 x1 x2 x3 x4 x5 x6 x7 x8 x9)) + 0)) 0 x5 x6 x7 [])))))⟩]⟩ else none else none else none := by kernel_rfl
  rw [h0]
  unfold Pure.impl_RunSwing Pure.impl_RunSwing_1 Pure.impl_RunSwing_2 Pure.impl_RunSwing_3 Pure.impl_RunSwing_4 Pure.impl_RunSwing_ok
  cases (Pure.impl_swingOk_ok F x0 x1 x2 x3 x4 x5 x6 x7 x8) with
  | true =>
    cases (Pure.impl_swingOk F x0 x1 x2 x3 x4 x5 x6 x7 x8) with
    | true =>
      cases (Pure.impl_in F x9 0 256) with
      | true =>
        cases (Pure.impl_Pendulum_run_ok F x0 x1 x2 x3 x4 x5 x6 x7 x8 x9) with
        | true =>
          cases (Pure.impl_Pendulum_run F x0 x1 x2 x3 x4 x5 x6 x7 x8 x9) with
          | true =>
            cases (Prod.fst (Pure.impl_RunSwing_L0 F (Int.ofNat (List.length (Pure.impl_Pendulum_run_1 F x0 x1 x2 x3 x4 x5 x6 x7 x8 x9))) 0 0 0 (Pure.impl_Pendulum_run_1 F x0 x1 x2 x3 x4 x5 x6 x7 x8 x9) (Nat.succ ((List.length (Pure.impl_Pendulum_run_1 F x0 x1 x2 x3 x4 x5 x6 x7 x8 x9)) + 0)) 0 x5 x6 x7 [])) with
            | true =>
              intro _; rfl
            | false =>
              intro h; exact absurd h Bool.false_ne_true
          | false =>
            intro _; rfl
        | false =>
          intro h; exact absurd h Bool.false_ne_true
      | false =>
        intro _; rfl
    | false =>
      intro _; rfl
  | false =>
    intro h; exact absurd h Bool.false_ne_true
theorem ok_impl_RunSwing : CallOK Try.prog 88 (c_impl_RunSwing real) := by
  refine callOK_of fun args h ret hc => ?_
  unfold c_impl_RunSwing at hc
  split at hc
  · rename_i x0 x1 x2 x3 x4 x5 x6 x7 x8 x9
    obtain ⟨hok, rfl⟩ := some_ret hc
    exact holds_ev prog_ok (allOK_cons ok_impl_swingOk (allOK_cons ok_impl_in (allOK_cons ok_impl_Pendulum_run allOK_nil))) Try.func88 rfl rfl (smL_cons (body := .loop (loopB 0 (codeOf Try.f88))) (by kernel_rfl) t_impl_RunSwing_L0 smL_nil) rfl (e_impl_RunSwing real x0 x1 x2 x3 x4 x5 x6 x7 x8 x9 hok)
  · cases hc
def c_math_Float32bits (_ : FOps) : Con
  | [V.at (A.fl FloatKind.f32 x)], [] => some (true, ⟨V.at (A.raw FloatKind.f32 x), none, []⟩)
  | _, _ => none
theorem ok_math_Float32bits : CallOK Try.prog 93 (c_math_Float32bits real) := by
  refine callOK_of fun args h ret hc => ?_
  unfold c_math_Float32bits at hc
  split at hc
  · rename_i x
    obtain ⟨_, rfl⟩ := some_ret hc
    exact ext_bits32 Try.func93 rfl rfl (by kernel_rfl) (by kernel_rfl) x
  · cases hc
def c_math_Float32frombits (_ : FOps) : Con
  | [V.at (A.raw FloatKind.f32 x)], [] => some (true, ⟨V.at (A.fl FloatKind.f32 x), none, []⟩)
  | _, _ => none
theorem ok_math_Float32frombits : CallOK Try.prog 106 (c_math_Float32frombits real) := by
  refine callOK_of fun args h ret hc => ?_
  unfold c_math_Float32frombits at hc
  split at hc
  · rename_i x
    obtain ⟨_, rfl⟩ := some_ret hc
    exact ext_from32 Try.func106 rfl rfl (by kernel_rfl) (by kernel_rfl) x
  · cases hc
def c_impl_abs (F : FOps) : Con
  | [V.at (A.fl FloatKind.f32 x0)], [] => some (true, ⟨V.at (A.fl FloatKind.f32 (FOps.abs F FloatKind.f32 x0)), none, []⟩)
  | _, _ => none
theorem e_impl_abs (F : FOps) (x0 : Int) : evFn (cxS F tyl [(93, c_math_Float32bits F), (106, c_math_Float32frombits F)] [] [] 0) Try.f100 false [V.at (A.fl FloatKind.f32 x0)] [] = some ⟨V.at (A.fl FloatKind.f32 (FOps.abs F FloatKind.f32 x0)), none, []⟩ := by
  kernel_rfl
theorem ok_impl_abs : CallOK Try.prog 100 (c_impl_abs real) := by
  refine callOK_of fun args h ret hc => ?_
  unfold c_impl_abs at hc
  split at hc
  · rename_i x0
    obtain ⟨_, rfl⟩ := some_ret hc
    exact holds_ev prog_ok (allOK_cons ok_math_Float32bits (allOK_cons ok_math_Float32frombits allOK_nil)) Try.func100 rfl rfl smL_nil rfl (e_impl_abs real x0)
  · cases hc
def Pure.impl_width_L0 (F : FOps) (y1 : Int) (y3 : List (List Int)) : Nat → Int → Int → (Bool × Int)
  | 0, _, _ => (false, 0)
  | n + 1, y0, y2 => bif (Decidable.decide (y2 < y1)) then (bif (Decidable.decide (0 ≤ y2)) then (bif (Decidable.decide (y2 < (Int.ofNat (List.length y3)))) then (bif (FOps.cmp F BinOp.gtr FloatKind.f32 (FOps.abs F FloatKind.f32 (List.getD (List.getD y3 (Int.toNat y2) []) 0 0)) y0) then (Pure.impl_width_L0 F y1 y3 n (FOps.abs F FloatKind.f32 (List.getD (List.getD y3 (Int.toNat y2) []) 0 0)) (IntKind.wrap IntKind.i64 (y2 + 1))) else (Pure.impl_width_L0 F y1 y3 n y0 (IntKind.wrap IntKind.i64 (y2 + 1)))) else ((false, 0))) else ((false, 0))) else ((true, y0))
def R_impl_width_L0 (y3 : List (List Int)) (r : (Bool × Int)) : Bool × Bool × (Ex × List V × List Ob) × (Ex × List V × List Ob) := ((r).1, false, (Ex.normal, [V.at (A.fl FloatKind.f32 (r).2)], [⟨false, OC.rows [K.f FloatKind.f32] y3⟩]), (Ex.normal, [V.at (A.fl FloatKind.f32 (r).2)], [⟨false, OC.rows [K.f FloatKind.f32] y3⟩]))
def S_impl_width_L0 (F : FOps) : Sm := ⟨[3, 6, 7, 8], [24, 58, 3, 3], [3], fun vals hp => match vals, hp with
  | [V.at (A.fl FloatKind.f32 y0), V.at (A.sl 0), V.at (A.int IntKind.i64 y1), V.at (A.int IntKind.i64 y2)], [⟨false, OC.rows [K.f FloatKind.f32] y3⟩] => some (R_impl_width_L0 y3 (Pure.impl_width_L0 F y1 y3 (y1 - y2 + 1).toNat y0 y2))
  | _, _ => none⟩
theorem l_impl_width_L0 (F : FOps) (y1 : Int) (y3 : List (List Int)) : ∀ (fuel : Nat) (y0 : Int) (y2 : Int), (Pure.impl_width_L0 F y1 y3 fuel y0 y2).1 = true → loopOf (cxS F tyl [(100, c_impl_abs F)] [] [] 0) 1 20 0 [3, 6, 7, 8] [24, 58, 3, 3] [3] (loopB 0 (codeOf Try.f89)) fuel [V.at (A.fl FloatKind.f32 y0), V.at (A.sl 0), V.at (A.int IntKind.i64 y1), V.at (A.int IntKind.i64 y2)] [⟨false, OC.rows [K.f FloatKind.f32] y3⟩] = resOf (R_impl_width_L0 y3 (Pure.impl_width_L0 F y1 y3 fuel y0 y2)) := by
  intro fuel
  induction fuel with
  | zero => intro y0 y2 h; exact absurd h Bool.false_ne_true
  | succ n ih =>
    intro y0 y2
    have h0 : roundOf (cxS F tyl [(100, c_impl_abs F)] [] [] 0) 1 20 0 [3, 6, 7, 8] [24, 58, 3, 3] [3] (loopB 0 (codeOf Try.f89)) [V.at (A.fl FloatKind.f32 y0), V.at (A.sl 0), V.at (A.int IntKind.i64 y1), V.at (A.int IntKind.i64 y2)] [⟨false, OC.rows [K.f FloatKind.f32] y3⟩] = (bif Decidable.decide (y2 < y1) then bif Decidable.decide (0 ≤ y2) then bif Decidable.decide (y2 < (Int.ofNat (List.length y3))) then bif FOps.cmp F BinOp.gtr FloatKind.f32 (FOps.abs F FloatKind.f32 (List.getD (List.getD y3 (Int.toNat y2) []) 0 0)) y0 then some (true, (Ex.normal, ([V.at (A.fl FloatKind.f32 (FOps.abs F FloatKind.f32 (List.getD (List.getD y3 (Int.toNat y2) []) 0 0))), V.at (A.sl 0), V.at (A.int IntKind.i64 y1), V.at (A.int IntKind.i64 (IntKind.wrap IntKind.i64 (y2 + 1)))], [⟨false, OC.rows [K.f FloatKind.f32] y3⟩]))) else some (true, (Ex.normal, ([V.at (A.fl FloatKind.f32 y0), V.at (A.sl 0), V.at (A.int IntKind.i64 y1), V.at (A.int IntKind.i64 (IntKind.wrap IntKind.i64 (y2 + 1)))], [⟨false, OC.rows [K.f FloatKind.f32] y3⟩]))) else none else none else some (false, (Ex.normal, ([V.at (A.fl FloatKind.f32 y0)], [⟨false, OC.rows [K.f FloatKind.f32] y3⟩])))) := by kernel_rfl
    unfold loopOf
    rw [h0]
    unfold Pure.impl_width_L0
    cases (Decidable.decide (y2 < y1)) with
    | true =>
      cases (Decidable.decide (0 ≤ y2)) with
      | true =>
        cases (Decidable.decide (y2 < (Int.ofNat (List.length y3)))) with
        | true =>
          cases (FOps.cmp F BinOp.gtr FloatKind.f32 (FOps.abs F FloatKind.f32 (List.getD (List.getD y3 (Int.toNat y2) []) 0 0)) y0) with
          | true =>
            exact ih _ _
          | false =>
            exact ih _ _
        | false =>
          intro h; exact absurd h Bool.false_ne_true
      | false =>
        intro h; exact absurd h Bool.false_ne_true
    | false =>
      intro _; rfl
theorem t_impl_width_L0 : SmTo Try.prog 1 20 (S_impl_width_L0 real) 0 (.loop (loopB 0 (codeOf Try.f89))) := by
  refine smTo_ev (cl := [(100, c_impl_abs real)]) (ef := []) (sm := []) (un := 0) prog_ok (allOK_cons ok_impl_abs allOK_nil) smL_nil ?_
  intro vals hp q r h hq
  unfold S_impl_width_L0 at h
  dsimp only at h
  split at h
  · rename_i y0 y1 y2 y3
    obtain rfl := Option.some.inj h
    have h1 := hq
    unfold resOf at h1
    rw [chk_some] at h1
    exact ⟨_, (l_impl_width_L0 real y1 y3 _ y0 y2 h1.1).trans hq⟩
  · cases h
def Pure.impl_width (F : FOps) (x0 : List (List Int)) : Int := Prod.snd (Pure.impl_width_L0 F (Int.ofNat (List.length x0)) x0 (Nat.succ ((List.length x0) + 0)) 0 0)
def Pure.impl_width_ok (F : FOps) (x0 : List (List Int)) : Bool := Prod.fst (Pure.impl_width_L0 F (Int.ofNat (List.length x0)) x0 (Nat.succ ((List.length x0) + 0)) 0 0)
def c_impl_width (F : FOps) : Con
  | [V.at (A.sl 0)], [⟨false, OC.rows [K.f FloatKind.f32] x0⟩] => some (Pure.impl_width_ok F x0, ⟨V.at (A.fl FloatKind.f32 (Pure.impl_width F x0)), none, []⟩)
  | _, _ => none
theorem e_impl_width (F : FOps) (x0 : List (List Int)) : Pure.impl_width_ok F x0 = true → evFn (cxS F tyl [(100, c_impl_abs F)] [] [(0, S_impl_width_L0 F)] 0) Try.f89 false [V.at (A.sl 0)] [⟨false, OC.rows [K.f FloatKind.f32] x0⟩] = some ⟨V.at (A.fl FloatKind.f32 (Pure.impl_width F x0)), none, []⟩ := by
  have h0 : evFn (cxS F tyl [(100, c_impl_abs F)] [] [(0, S_impl_width_L0 F)] 0) Try.f89 false [V.at (A.sl 0)] [⟨false, OC.rows [K.f FloatKind.f32] x0⟩] = bif Prod.fst (Pure.impl_width_L0 F (Int.ofNat (List.length x0)) x0 (Nat.succ ((List.length x0) + 0)) 0 0) then some ⟨V.at (A.fl FloatKind.f32 (Prod.snd (Pure.impl_width_L0 F (Int.ofNat (List.length x0)) x0 (Nat.succ ((List.length x0) + 0)) 0 0))), none, []⟩ else none := by kernel_rfl
  rw [h0]
  unfold Pure.impl_width Pure.impl_width_ok
  cases (Prod.fst (Pure.impl_width_L0 F (Int.ofNat (List.length x0)) x0 (Nat.succ ((List.length x0) + 0)) 0 0)) with
  | true =>
    intro _; rfl
  | false =>
    intro h; exact absurd h Bool.false_ne_true
theorem ok_impl_width : CallOK Try.prog 89 (c_impl_width real) := by
  refine callOK_of fun args h ret hc => ?_
  unfold c_impl_width at hc
  split at hc
  · rename_i x0
    obtain ⟨hok, rfl⟩ := some_ret hc
    exact holds_ev prog_ok (allOK_cons ok_impl_abs allOK_nil) Try.func89 rfl rfl (smL_cons (body := .loop (loopB 0 (codeOf Try.f89))) (by kernel_rfl) t_impl_width_L0 smL_nil) rfl (e_impl_width real x0 hok)
  · cases hc
def Pure.impl_ResponseOf (F : FOps) (x0 : Int) (x1 : Int) (x2 : Int) (x3 : Int) (x4 : Int) (x5 : Int) (x6 : Int) (x7 : Int) (x8 : Int) (x9 : Int) (x10 : Int) : Int := bif Pure.impl_in F x9 0 256 then bif Pure.impl_in F x10 0 (IntKind.wrap IntKind.i64 (256 - x9)) then bif Pure.impl_RunSwing_3 F x0 x1 x2 x3 x4 x5 x6 x7 x8 (IntKind.wrap IntKind.i64 (x9 + x10)) then Pure.impl_width F (List.take ((List.length (Pure.impl_RunSwing_4 F x0 x1 x2 x3 x4 x5 x6 x7 x8 (IntKind.wrap IntKind.i64 (x9 + x10)))) - (Int.toNat x9)) (List.drop (Int.toNat x9) (Pure.impl_RunSwing_4 F x0 x1 x2 x3 x4 x5 x6 x7 x8 (IntKind.wrap IntKind.i64 (x9 + x10))))) else 0 else 0 else 0
def Pure.impl_ResponseOf_1 (F : FOps) (x0 : Int) (x1 : Int) (x2 : Int) (x3 : Int) (x4 : Int) (x5 : Int) (x6 : Int) (x7 : Int) (x8 : Int) (x9 : Int) (x10 : Int) : Bool := bif Pure.impl_in F x9 0 256 then bif Pure.impl_in F x10 0 (IntKind.wrap IntKind.i64 (256 - x9)) then Pure.impl_RunSwing_3 F x0 x1 x2 x3 x4 x5 x6 x7 x8 (IntKind.wrap IntKind.i64 (x9 + x10)) else false else false
def Pure.impl_ResponseOf_ok (F : FOps) (x0 : Int) (x1 : Int) (x2 : Int) (x3 : Int) (x4 : Int) (x5 : Int) (x6 : Int) (x7 : Int) (x8 : Int) (x9 : Int) (x10 : Int) : Bool := bif Pure.impl_in F x9 0 256 then bif Pure.impl_in F x10 0 (IntKind.wrap IntKind.i64 (256 - x9)) then bif Pure.impl_RunSwing_ok F x0 x1 x2 x3 x4 x5 x6 x7 x8 (IntKind.wrap IntKind.i64 (x9 + x10)) then bif Pure.impl_RunSwing_3 F x0 x1 x2 x3 x4 x5 x6 x7 x8 (IntKind.wrap IntKind.i64 (x9 + x10)) then bif Decidable.decide (0 ≤ x9) then bif Decidable.decide (x9 ≤ (Int.ofNat (List.length (Pure.impl_RunSwing_4 F x0 x1 x2 x3 x4 x5 x6 x7 x8 (IntKind.wrap IntKind.i64 (x9 + x10)))))) then Pure.impl_width_ok F (List.take ((List.length (Pure.impl_RunSwing_4 F x0 x1 x2 x3 x4 x5 x6 x7 x8 (IntKind.wrap IntKind.i64 (x9 + x10)))) - (Int.toNat x9)) (List.drop (Int.toNat x9) (Pure.impl_RunSwing_4 F x0 x1 x2 x3 x4 x5 x6 x7 x8 (IntKind.wrap IntKind.i64 (x9 + x10))))) else false else false else true else false else true else true
def c_impl_ResponseOf (F : FOps) : Con
  | [V.agg [A.fl FloatKind.f32 x0, A.fl FloatKind.f32 x1, A.fl FloatKind.f32 x2, A.fl FloatKind.f32 x3, A.fl FloatKind.f32 x4], V.agg [A.fl FloatKind.f32 x5, A.fl FloatKind.f32 x6, A.fl FloatKind.f32 x7], V.at (A.fl FloatKind.f32 x8), V.at (A.int IntKind.i64 x9), V.at (A.int IntKind.i64 x10)], [] => some (Pure.impl_ResponseOf_ok F x0 x1 x2 x3 x4 x5 x6 x7 x8 x9 x10, ⟨V.tup [(false, [A.fl FloatKind.f32 (Pure.impl_ResponseOf F x0 x1 x2 x3 x4 x5 x6 x7 x8 x9 x10)]), (false, [A.bool (Pure.impl_ResponseOf_1 F x0 x1 x2 x3 x4 x5 x6 x7 x8 x9 x10)])], none, []⟩)
  | _, _ => none
theorem e_impl_ResponseOf (F : FOps) (x0 : Int) (x1 : Int) (x2 : Int) (x3 : Int) (x4 : Int) (x5 : Int) (x6 : Int) (x7 : Int) (x8 : Int) (x9 : Int) (x10 : Int) : Pure.impl_ResponseOf_ok F x0 x1 x2 x3 x4 x5 x6 x7 x8 x9 x10 = true → evFn (cxS F tyl [(61, c_impl_in F), (88, c_impl_RunSwing F), (89, c_impl_width F)] [] [] 0) Try.f63 false [V.agg [A.fl FloatKind.f32 x0, A.fl FloatKind.f32 x1, A.fl FloatKind.f32 x2, A.fl FloatKind.f32 x3, A.fl FloatKind.f32 x4], V.agg [A.fl FloatKind.f32 x5, A.fl FloatKind.f32 x6, A.fl FloatKind.f32 x7], V.at (A.fl FloatKind.f32 x8), V.at (A.int IntKind.i64 x9), V.at (A.int IntKind.i64 x10)] [] = some ⟨V.tup [(false, [A.fl FloatKind.f32 (Pure.impl_ResponseOf F x0 x1 x2 x3 x4 x5 x6 x7 x8 x9 x10)]), (false, [A.bool (Pure.impl_ResponseOf_1 F x0 x1 x2 x3 x4 x5 x6 x7 x8 x9 x10)])], none, []⟩ := by
  have h0 : evFn (cxS F tyl [(61, c_impl_in F), (88, c_impl_RunSwing F), (89, c_impl_width F)] [] [] 0) Try.f63 false [V.agg [A.fl FloatKind.f32 x0, A.fl FloatKind.f32 x1, A.fl FloatKind.f32 x2, A.fl FloatKind.f32 x3, A.fl FloatKind.f32 x4], V.agg [A.fl FloatKind.f32 x5, A.fl FloatKind.f32 x6, A.fl FloatKind.f32 x7], V.at (A.fl FloatKind.f32 x8), V.at (A.int IntKind.i64 x9), V.at (A.int IntKind.i64 x10)] [] = bif Bool.not (Pure.impl_in F x9 0 256) then some ⟨V.tup [(false, [A.fl FloatKind.f32 0]), (false, [A.bool false])], none, []⟩ else bif Bool.not (Pure.impl_in F x10 0 (IntKind.wrap IntKind.i64 (256 - x9))) then some ⟨V.tup [(false, [A.fl FloatKind.f32 0]), (false, [A.bool false])], none, []⟩ else bif Pure.impl_RunSwing_ok F x0 x1 x2 x3 x4 x5 x6 x7 x8 (IntKind.wrap IntKind.i64 (x9 + x10)) then bif Bool.not (Pure.impl_RunSwing_3 F x0 x1 x2 x3 x4 x5 x6 x7 x8 (IntKind.wrap IntKind.i64 (x9 + x10))) then some ⟨V.tup [(false, [A.fl FloatKind.f32 0]), (false, [A.bool false])], none, []⟩ else bif Decidable.decide (0 ≤ x9) then bif Decidable.decide (x9 ≤ (Int.ofNat (List.length (Pure.impl_RunSwing_4 F x0 x1 x2 x3 x4 x5 x6 x7 x8 (IntKind.wrap IntKind.i64 (x9 + x10)))))) then bif Pure.impl_width_ok F (List.take ((List.length (Pure.impl_RunSwing_4 F x0 x1 x2 x3 x4 x5 x6 x7 x8 (IntKind.wrap IntKind.i64 (x9 + x10)))) - (Int.toNat x9)) (List.drop (Int.toNat x9) (Pure.impl_RunSwing_4 F x0 x1 x2 x3 x4 x5 x6 x7 x8 (IntKind.wrap IntKind.i64 (x9 + x10))))) then some ⟨V.tup [(false, [A.fl FloatKind.f32 (Pure.impl_width F (List.take ((List.length (Pure.impl_RunSwing_4 F x0 x1 x2 x3 x4 x5 x6 x7 x8 (IntKind.wrap IntKind.i64 (x9 + x10)))) - (Int.toNat x9)) (List.drop (Int.toNat x9) (Pure.impl_RunSwing_4 F x0 x1 x2 x3 x4 x5 x6 x7 x8 (IntKind.wrap IntKind.i64 (x9 + x10))))))]), (false, [A.bool true])], none, []⟩ else none else none else none else none := by kernel_rfl
  rw [h0]
  unfold Pure.impl_ResponseOf Pure.impl_ResponseOf_1 Pure.impl_ResponseOf_ok
  cases (Pure.impl_in F x9 0 256) with
  | true =>
    cases (Pure.impl_in F x10 0 (IntKind.wrap IntKind.i64 (256 - x9))) with
    | true =>
      cases (Pure.impl_RunSwing_ok F x0 x1 x2 x3 x4 x5 x6 x7 x8 (IntKind.wrap IntKind.i64 (x9 + x10))) with
      | true =>
        cases (Pure.impl_RunSwing_3 F x0 x1 x2 x3 x4 x5 x6 x7 x8 (IntKind.wrap IntKind.i64 (x9 + x10))) with
        | true =>
          cases (Decidable.decide (0 ≤ x9)) with
          | true =>
            cases (Decidable.decide (x9 ≤ (Int.ofNat (List.length (Pure.impl_RunSwing_4 F x0 x1 x2 x3 x4 x5 x6 x7 x8 (IntKind.wrap IntKind.i64 (x9 + x10))))))) with
            | true =>
              cases (Pure.impl_width_ok F (List.take ((List.length (Pure.impl_RunSwing_4 F x0 x1 x2 x3 x4 x5 x6 x7 x8 (IntKind.wrap IntKind.i64 (x9 + x10)))) - (Int.toNat x9)) (List.drop (Int.toNat x9) (Pure.impl_RunSwing_4 F x0 x1 x2 x3 x4 x5 x6 x7 x8 (IntKind.wrap IntKind.i64 (x9 + x10)))))) with
              | true =>
                intro _; rfl
              | false =>
                intro h; exact absurd h Bool.false_ne_true
            | false =>
              intro h; exact absurd h Bool.false_ne_true
          | false =>
            intro h; exact absurd h Bool.false_ne_true
        | false =>
          intro _; rfl
      | false =>
        intro h; exact absurd h Bool.false_ne_true
    | false =>
      intro _; rfl
  | false =>
    intro _; rfl
theorem ok_impl_ResponseOf : CallOK Try.prog 63 (c_impl_ResponseOf real) := by
  refine callOK_of fun args h ret hc => ?_
  unfold c_impl_ResponseOf at hc
  split at hc
  · rename_i x0 x1 x2 x3 x4 x5 x6 x7 x8 x9 x10
    obtain ⟨hok, rfl⟩ := some_ret hc
    exact holds_ev prog_ok (allOK_cons ok_impl_in (allOK_cons ok_impl_RunSwing (allOK_cons ok_impl_width allOK_nil))) Try.func63 rfl rfl smL_nil rfl (e_impl_ResponseOf real x0 x1 x2 x3 x4 x5 x6 x7 x8 x9 x10 hok)
  · cases hc
def Pure.impl_ScanRates_L0 (F : FOps) (y0 : Int) (y1 : Int) (y2 : Int) (y3 : Int) (y5 : List (List Int)) (y6 : Int) (y7 : Int) (y8 : Int) (y9 : Int) (y11 : Int) (y12 : Int) (y13 : Int) : Nat → Int → Int → (List (List Int)) → (Bool × Bool × (List (List Int)) × (List (List Int)))
  | 0, _, _, _ => (false, false, [], [])
  | n + 1, y4, y10, y14 => bif (Decidable.decide (y4 < y3)) then (bif (Decidable.decide (0 ≤ y4)) then (bif (Decidable.decide (y4 < (Int.ofNat (List.length y5)))) then (bif (Pure.impl_ResponseOf_ok F y6 y7 y8 y9 (List.getD (List.getD y5 (Int.toNat y4) []) 0 0) y11 y12 y13 y0 y1 y2) then (bif (Pure.impl_ResponseOf_1 F y6 y7 y8 y9 (List.getD (List.getD y5 (Int.toNat y4) []) 0 0) y11 y12 y13 y0 y1 y2) then (bif (Decidable.decide ((Nat.succ (List.length y14)) ≤ 1073741824)) then (Pure.impl_ScanRates_L0 F y0 y1 y2 y3 y5 y6 y7 y8 y9 y11 y12 y13 n (IntKind.wrap IntKind.i64 (y4 + 1)) (List.getD (List.getD y5 (Int.toNat y4) []) 0 0) (y14 ++ [[Pure.impl_ResponseOf F y6 y7 y8 y9 (List.getD (List.getD y5 (Int.toNat y4) []) 0 0) y11 y12 y13 y0 y1 y2]])) else ((false, false, [], []))) else ((true, true, [], y14))) else ((false, false, [], []))) else ((false, false, [], []))) else ((false, false, [], []))) else ((true, false, y14, []))
def R_impl_ScanRates_L0 (y5 : List (List Int)) (r : (Bool × Bool × (List (List Int)) × (List (List Int)))) : Bool × Bool × (Ex × List V × List Ob) × (Ex × List V × List Ob) := ((r).1, (r).2.1, (Ex.normal, [V.at A.undef, V.at A.undef, V.at (A.sl 1)], [⟨false, OC.rows [K.f FloatKind.f32] y5⟩, ⟨true, OC.rows [K.f FloatKind.f32] (r).2.2.1⟩]), (Ex.ret, [V.at A.nil, V.at (A.bool false), V.at (A.sl 1)], [⟨false, OC.rows [K.f FloatKind.f32] y5⟩, ⟨true, OC.rows [K.f FloatKind.f32] (r).2.2.2⟩]))
def S_impl_ScanRates_L0 (F : FOps) : Sm := ⟨[3, 4, 5, 6, 7, 14, 29, 30, 31], [24, 2, 2, 0, 0, 58, 58, 3, 3], [12, 13, 14], fun vals hp => match vals, hp with
  | [V.at (A.fl FloatKind.f32 y0), V.at (A.int IntKind.i64 y1), V.at (A.int IntKind.i64 y2), V.at (A.ptr 1 0 0), V.at (A.ptr 2 0 0), V.at (A.sl 3), V.at (A.sl 0), V.at (A.int IntKind.i64 y3), V.at (A.int IntKind.i64 y4)], [⟨false, OC.rows [K.f FloatKind.f32] y5⟩, ⟨true, OC.box [A.fl FloatKind.f32 y6, A.fl FloatKind.f32 y7, A.fl FloatKind.f32 y8, A.fl FloatKind.f32 y9, A.fl FloatKind.f32 y10]⟩, ⟨true, OC.box [A.fl FloatKind.f32 y11, A.fl FloatKind.f32 y12, A.fl FloatKind.f32 y13]⟩, ⟨true, OC.rows [K.f FloatKind.f32] y14⟩] => some (R_impl_ScanRates_L0 y5 (Pure.impl_ScanRates_L0 F y0 y1 y2 y3 y5 y6 y7 y8 y9 y11 y12 y13 (y3 - y4 + 1).toNat y4 y10 y14))
  | _, _ => none⟩
theorem l_impl_ScanRates_L0 (F : FOps) (y0 : Int) (y1 : Int) (y2 : Int) (y3 : Int) (y5 : List (List Int)) (y6 : Int) (y7 : Int) (y8 : Int) (y9 : Int) (y11 : Int) (y12 : Int) (y13 : Int) : ∀ (fuel : Nat) (y4 : Int) (y10 : Int) (y14 : List (List Int)), (Pure.impl_ScanRates_L0 F y0 y1 y2 y3 y5 y6 y7 y8 y9 y11 y12 y13 fuel y4 y10 y14).1 = true → loopOf (cxS F tyl [(61, c_impl_in F), (62, c_impl_ValidPendulum F), (63, c_impl_ResponseOf F)] [] [] 0) 1 54 0 [3, 4, 5, 6, 7, 14, 29, 30, 31] [24, 2, 2, 0, 0, 58, 58, 3, 3] [12, 13, 14] (loopB 0 (codeOf Try.f30)) fuel [V.at (A.fl FloatKind.f32 y0), V.at (A.int IntKind.i64 y1), V.at (A.int IntKind.i64 y2), V.at (A.ptr 1 0 0), V.at (A.ptr 2 0 0), V.at (A.sl 3), V.at (A.sl 0), V.at (A.int IntKind.i64 y3), V.at (A.int IntKind.i64 y4)] [⟨false, OC.rows [K.f FloatKind.f32] y5⟩, ⟨true, OC.box [A.fl FloatKind.f32 y6, A.fl FloatKind.f32 y7, A.fl FloatKind.f32 y8, A.fl FloatKind.f32 y9, A.fl FloatKind.f32 y10]⟩, ⟨true, OC.box [A.fl FloatKind.f32 y11, A.fl FloatKind.f32 y12, A.fl FloatKind.f32 y13]⟩, ⟨true, OC.rows [K.f FloatKind.f32] y14⟩] = resOf (R_impl_ScanRates_L0 y5 (Pure.impl_ScanRates_L0 F y0 y1 y2 y3 y5 y6 y7 y8 y9 y11 y12 y13 fuel y4 y10 y14)) := by
  intro fuel
  induction fuel with
  | zero => intro y4 y10 y14 h; exact absurd h Bool.false_ne_true
  | succ n ih =>
    intro y4 y10 y14
    have h0 : roundOf (cxS F tyl [(61, c_impl_in F), (62, c_impl_ValidPendulum F), (63, c_impl_ResponseOf F)] [] [] 0) 1 54 0 [3, 4, 5, 6, 7, 14, 29, 30, 31] [24, 2, 2, 0, 0, 58, 58, 3, 3] [12, 13, 14] (loopB 0 (codeOf Try.f30)) [V.at (A.fl FloatKind.f32 y0), V.at (A.int IntKind.i64 y1), V.at (A.int IntKind.i64 y2), V.at (A.ptr 1 0 0), V.at (A.ptr 2 0 0), V.at (A.sl 3), V.at (A.sl 0), V.at (A.int IntKind.i64 y3), V.at (A.int IntKind.i64 y4)] [⟨false, OC.rows [K.f FloatKind.f32] y5⟩, ⟨true, OC.box [A.fl FloatKind.f32 y6, A.fl FloatKind.f32 y7, A.fl FloatKind.f32 y8, A.fl FloatKind.f32 y9, A.fl FloatKind.f32 y10]⟩, ⟨true, OC.box [A.fl FloatKind.f32 y11, A.fl FloatKind.f32 y12, A.fl FloatKind.f32 y13]⟩, ⟨true, OC.rows [K.f FloatKind.f32] y14⟩] = (bif Decidable.decide (y4 < y3) then bif Decidable.decide (0 ≤ y4) then bif Decidable.decide (y4 < (Int.ofNat (List.length y5))) then bif Pure.impl_ResponseOf_ok F y6 y7 y8 y9 (List.getD (List.getD y5 (Int.toNat y4) []) 0 0) y11 y12 y13 y0 y1 y2 then bif Bool.not (Pure.impl_ResponseOf_1 F y6 y7 y8 y9 (List.getD (List.getD y5 (Int.toNat y4) []) 0 0) y11 y12 y13 y0 y1 y2) then some (false, (Ex.ret, ([V.at A.nil, V.at (A.bool false), V.at (A.sl 1)], [⟨false, OC.rows [K.f FloatKind.f32] y5⟩, ⟨true, OC.rows [K.f FloatKind.f32] y14⟩]))) else bif Decidable.decide ((Nat.succ (List.length y14)) ≤ 1073741824) then some (true, (Ex.normal, ([V.at (A.fl FloatKind.f32 y0), V.at (A.int IntKind.i64 y1), V.at (A.int IntKind.i64 y2), V.at (A.ptr 1 0 0), V.at (A.ptr 2 0 0), V.at (A.sl 3), V.at (A.sl 0), V.at (A.int IntKind.i64 y3), V.at (A.int IntKind.i64 (IntKind.wrap IntKind.i64 (y4 + 1)))], [⟨false, OC.rows [K.f FloatKind.f32] y5⟩, ⟨true, OC.box [A.fl FloatKind.f32 y6, A.fl FloatKind.f32 y7, A.fl FloatKind.f32 y8, A.fl FloatKind.f32 y9, A.fl FloatKind.f32 (List.getD (List.getD y5 (Int.toNat y4) []) 0 0)]⟩, ⟨true, OC.box [A.fl FloatKind.f32 y11, A.fl FloatKind.f32 y12, A.fl FloatKind.f32 y13]⟩, ⟨true, OC.rows [K.f FloatKind.f32] (y14 ++ [[Pure.impl_ResponseOf F y6 y7 y8 y9 (List.getD (List.getD y5 (Int.toNat y4) []) 0 0) y11 y12 y13 y0 y1 y2]])⟩]))) else none else none else none else none else some (false, (Ex.normal, ([V.at A.undef, V.at A.undef, V.at (A.sl 1)], [⟨false, OC.rows [K.f FloatKind.f32] y5⟩, ⟨true, OC.rows [K.f FloatKind.f32] y14⟩])))) := by kernel_rfl
    unfold loopOf
    rw [h0]
    unfold Pure.impl_ScanRates_L0
    cases (Decidable.decide (y4 < y3)) with
    | true =>
      cases (Decidable.decide (0 ≤ y4)) with
      | true =>
        cases (Decidable.decide (y4 < (Int.ofNat (List.length y5)))) with
        | true =>
          cases (Pure.impl_ResponseOf_ok F y6 y7 y8 y9 (List.getD (List.getD y5 (Int.toNat y4) []) 0 0) y11 y12 y13 y0 y1 y2) with
          | true =>
            cases (Pure.impl_ResponseOf_1 F y6 y7 y8 y9 (List.getD (List.getD y5 (Int.toNat y4) []) 0 0) y11 y12 y13 y0 y1 y2) with
            | true =>
              cases (Decidable.decide ((Nat.succ (List.length y14)) ≤ 1073741824)) with
              | true =>
                exact ih _ _ _
              | false =>
                intro h; exact absurd h Bool.false_ne_true
            | false =>
              intro _; rfl
          | false =>
            intro h; exact absurd h Bool.false_ne_true
        | false =>
          intro h; exact absurd h Bool.false_ne_true
      | false =>
        intro h; exact absurd h Bool.false_ne_true
    | false =>
      intro _; rfl
theorem t_impl_ScanRates_L0 : SmTo Try.prog 1 54 (S_impl_ScanRates_L0 real) 0 (.loop (loopB 0 (codeOf Try.f30))) := by
  refine smTo_ev (cl := [(61, c_impl_in real), (62, c_impl_ValidPendulum real), (63, c_impl_ResponseOf real)]) (ef := []) (sm := []) (un := 0) prog_ok (allOK_cons ok_impl_in (allOK_cons ok_impl_ValidPendulum (allOK_cons ok_impl_ResponseOf allOK_nil))) smL_nil ?_
  intro vals hp q r h hq
  unfold S_impl_ScanRates_L0 at h
  dsimp only at h
  split at h
  · rename_i y0 y1 y2 y3 y4 y5 y6 y7 y8 y9 y10 y11 y12 y13 y14
    obtain rfl := Option.some.inj h
    have h1 := hq
    unfold resOf at h1
    rw [chk_some] at h1
    exact ⟨_, (l_impl_ScanRates_L0 real y0 y1 y2 y3 y5 y6 y7 y8 y9 y11 y12 y13 _ y4 y10 y14 h1.1).trans hq⟩
  · cases h
def Pure.impl_ScanRates (F : FOps) (x0 : Int) (x1 : Int) (x2 : Int) (x3 : Int) (x4 : Int) (x5 : Int) (x6 : Int) (x7 : Int) (x8 : List (List Int)) (x9 : Int) (x10 : Int) (x11 : Int) : Bool := bif Pure.impl_in F (Int.ofNat (List.length x8)) 1 32 then bif Pure.impl_ValidPendulum F x0 x1 x2 x3 x4 then bif Prod.fst (Prod.snd (Pure.impl_ScanRates_L0 F x9 x10 x11 (Int.ofNat (List.length x8)) x8 x0 x1 x2 x3 x5 x6 x7 (Nat.succ ((List.length x8) + 0)) 0 x4 [])) then false else true else false else false
def Pure.impl_ScanRates_1 (F : FOps) (x0 : Int) (x1 : Int) (x2 : Int) (x3 : Int) (x4 : Int) (x5 : Int) (x6 : Int) (x7 : Int) (x8 : List (List Int)) (x9 : Int) (x10 : Int) (x11 : Int) : List (List Int) := bif Pure.impl_in F (Int.ofNat (List.length x8)) 1 32 then bif Pure.impl_ValidPendulum F x0 x1 x2 x3 x4 then bif Prod.fst (Prod.snd (Pure.impl_ScanRates_L0 F x9 x10 x11 (Int.ofNat (List.length x8)) x8 x0 x1 x2 x3 x5 x6 x7 (Nat.succ ((List.length x8) + 0)) 0 x4 [])) then [] else Prod.fst (Prod.snd (Prod.snd (Pure.impl_ScanRates_L0 F x9 x10 x11 (Int.ofNat (List.length x8)) x8 x0 x1 x2 x3 x5 x6 x7 (Nat.succ ((List.length x8) + 0)) 0 x4 []))) else [] else []
def Pure.impl_ScanRates_ok (F : FOps) (x0 : Int) (x1 : Int) (x2 : Int) (x3 : Int) (x4 : Int) (x5 : Int) (x6 : Int) (x7 : Int) (x8 : List (List Int)) (x9 : Int) (x10 : Int) (x11 : Int) : Bool := bif Pure.impl_in F (Int.ofNat (List.length x8)) 1 32 then bif Pure.impl_ValidPendulum_ok F x0 x1 x2 x3 x4 then bif Pure.impl_ValidPendulum F x0 x1 x2 x3 x4 then Prod.fst (Pure.impl_ScanRates_L0 F x9 x10 x11 (Int.ofNat (List.length x8)) x8 x0 x1 x2 x3 x5 x6 x7 (Nat.succ ((List.length x8) + 0)) 0 x4 []) else true else false else true
def c_impl_ScanRates (F : FOps) : Con
  | [V.agg [A.fl FloatKind.f32 x0, A.fl FloatKind.f32 x1, A.fl FloatKind.f32 x2, A.fl FloatKind.f32 x3, A.fl FloatKind.f32 x4], V.agg [A.fl FloatKind.f32 x5, A.fl FloatKind.f32 x6, A.fl FloatKind.f32 x7], V.at (A.sl 0), V.at (A.fl FloatKind.f32 x9), V.at (A.int IntKind.i64 x10), V.at (A.int IntKind.i64 x11)], [⟨false, OC.rows [K.f FloatKind.f32] x8⟩] => some (Pure.impl_ScanRates_ok F x0 x1 x2 x3 x4 x5 x6 x7 x8 x9 x10 x11, ⟨V.tup [(false, [A.sl 1]), (false, [A.bool (Pure.impl_ScanRates F x0 x1 x2 x3 x4 x5 x6 x7 x8 x9 x10 x11)])], none, [⟨true, OC.rows [K.f FloatKind.f32] (Pure.impl_ScanRates_1 F x0 x1 x2 x3 x4 x5 x6 x7 x8 x9 x10 x11)⟩]⟩)
  | _, _ => none
theorem e_impl_ScanRates (F : FOps) (x0 : Int) (x1 : Int) (x2 : Int) (x3 : Int) (x4 : Int) (x5 : Int) (x6 : Int) (x7 : Int) (x8 : List (List Int)) (x9 : Int) (x10 : Int) (x11 : Int) : Pure.impl_ScanRates_ok F x0 x1 x2 x3 x4 x5 x6 x7 x8 x9 x10 x11 = true → evFn (cxS F tyl [(61, c_impl_in F), (62, c_impl_ValidPendulum F), (63, c_impl_ResponseOf F)] [] [(0, S_impl_ScanRates_L0 F)] 0) Try.f30 false [V.agg [A.fl FloatKind.f32 x0, A.fl FloatKind.f32 x1, A.fl FloatKind.f32 x2, A.fl FloatKind.f32 x3, A.fl FloatKind.f32 x4], V.agg [A.fl FloatKind.f32 x5, A.fl FloatKind.f32 x6, A.fl FloatKind.f32 x7], V.at (A.sl 0), V.at (A.fl FloatKind.f32 x9), V.at (A.int IntKind.i64 x10), V.at (A.int IntKind.i64 x11)] [⟨false, OC.rows [K.f FloatKind.f32] x8⟩] = some ⟨V.tup [(false, [A.sl 1]), (false, [A.bool (Pure.impl_ScanRates F x0 x1 x2 x3 x4 x5 x6 x7 x8 x9 x10 x11)])], none, [⟨true, OC.rows [K.f FloatKind.f32] (Pure.impl_ScanRates_1 F x0 x1 x2 x3 x4 x5 x6 x7 x8 x9 x10 x11)⟩]⟩ := by
  have h0 : evFn (cxS F tyl [(61, c_impl_in F), (62, c_impl_ValidPendulum F), (63, c_impl_ResponseOf F)] [] [(0, S_impl_ScanRates_L0 F)] 0) Try.f30 false [V.agg [A.fl FloatKind.f32 x0, A.fl FloatKind.f32 x1, A.fl FloatKind.f32 x2, A.fl FloatKind.f32 x3, A.fl FloatKind.f32 x4], V.agg [A.fl FloatKind.f32 x5, A.fl FloatKind.f32 x6, A.fl FloatKind.f32 x7], V.at (A.sl 0), V.at (A.fl FloatKind.f32 x9), V.at (A.int IntKind.i64 x10), V.at (A.int IntKind.i64 x11)] [⟨false, OC.rows [K.f FloatKind.f32] x8⟩] = bif Bool.not (Pure.impl_in F (Int.ofNat (List.length x8)) 1 32) then some ⟨V.tup [(false, [A.sl 1]), (false, [A.bool false])], none, [⟨true, OC.rows [K.f FloatKind.f32] []⟩]⟩ else bif Pure.impl_ValidPendulum_ok F x0 x1 x2 x3 x4 then bif Bool.not (Pure.impl_ValidPendulum F x0 x1 x2 x3 x4) then some ⟨V.tup [(false, [A.sl 1]), (false, [A.bool false])], none, [⟨true, OC.rows [K.f FloatKind.f32] []⟩]⟩ else bif Prod.fst (Pure.impl_ScanRates_L0 F x9 x10 x11 (Int.ofNat (List.length x8)) x8 x0 x1 x2 x3 x5 x6 x7 (Nat.succ ((List.length x8) + 0)) 0 x4 []) then bif Prod.fst (Prod.snd (Pure.impl_ScanRates_L0 F x9 x10 x11 (Int.ofNat (List.length x8)) x8 x0 x1 x2 x3 x5 x6 x7 (Nat.succ ((List.length x8) + 0)) 0 x4 [])) then some ⟨V.tup [(false, [A.sl 1]), (false, [A.bool false])], none, [⟨true, OC.rows [K.f FloatKind.f32] []⟩]⟩ else some ⟨V.tup [(false, [A.sl 1]), (false, [A.bool true])], none, [⟨true, OC.rows [K.f FloatKind.f32] (Prod.fst (Prod.snd (Prod.snd (Pure.impl_ScanRates_L0 F x9 x10 x11 (Int.ofNat (List.length x8)) x8 x0 x1 x2 x3 x5 x6 x7 (Nat.succ ((List.length x8) + 0)) 0 x4 []))))⟩]⟩ else none else none := by kernel_rfl
  rw [h0]
  unfold Pure.impl_ScanRates Pure.impl_ScanRates_1 Pure.impl_ScanRates_ok
  cases (Pure.impl_in F (Int.ofNat (List.length x8)) 1 32) with
  | true =>
    cases (Pure.impl_ValidPendulum_ok F x0 x1 x2 x3 x4) with
    | true =>
      cases (Pure.impl_ValidPendulum F x0 x1 x2 x3 x4) with
      | true =>
        cases (Prod.fst (Pure.impl_ScanRates_L0 F x9 x10 x11 (Int.ofNat (List.length x8)) x8 x0 x1 x2 x3 x5 x6 x7 (Nat.succ ((List.length x8) + 0)) 0 x4 [])) with
        | true =>
          cases (Prod.fst (Prod.snd (Pure.impl_ScanRates_L0 F x9 x10 x11 (Int.ofNat (List.length x8)) x8 x0 x1 x2 x3 x5 x6 x7 (Nat.succ ((List.length x8) + 0)) 0 x4 []))) with
          | true =>
            intro _; rfl
          | false =>
            intro _; rfl
        | false =>
          intro h; exact absurd h Bool.false_ne_true
      | false =>
        intro _; rfl
    | false =>
      intro h; exact absurd h Bool.false_ne_true
  | false =>
    intro _; rfl
theorem ok_impl_ScanRates : CallOK Try.prog 30 (c_impl_ScanRates real) := by
  refine callOK_of fun args h ret hc => ?_
  unfold c_impl_ScanRates at hc
  split at hc
  · rename_i x0 x1 x2 x3 x4 x5 x6 x7 x9 x10 x11 x8
    obtain ⟨hok, rfl⟩ := some_ret hc
    exact holds_ev prog_ok (allOK_cons ok_impl_in (allOK_cons ok_impl_ValidPendulum (allOK_cons ok_impl_ResponseOf allOK_nil))) Try.func30 rfl rfl (smL_cons (body := .loop (loopB 0 (codeOf Try.f30))) (by kernel_rfl) t_impl_ScanRates_L0 smL_nil) rfl (e_impl_ScanRates real x0 x1 x2 x3 x4 x5 x6 x7 x8 x9 x10 x11 hok)
  · cases hc
def Pure.laws_eqFloat32S_L0 (F : FOps) (y1 : List (List Int)) (y2 : List (List Int)) : Nat → Int → (Bool × Bool)
  | 0, _ => (false, false)
  | n + 1, y0 => bif (Decidable.decide (y0 < (Int.ofNat (List.length y1)))) then (bif (Decidable.decide (0 ≤ y0)) then (bif (Decidable.decide (y0 < (Int.ofNat (List.length y1)))) then (bif (FOps.convOk F FloatKind.f32 FloatKind.f64 (List.getD (List.getD y1 (Int.toNat y0) []) 0 0)) then (bif (Decidable.decide (0 ≤ y0)) then (bif (Decidable.decide (y0 < (Int.ofNat (List.length y2)))) then (bif (FOps.convOk F FloatKind.f32 FloatKind.f64 (List.getD (List.getD y2 (Int.toNat y0) []) 0 0)) then (bif (Pure.laws_sameFloat F (FOps.conv F FloatKind.f32 FloatKind.f64 (List.getD (List.getD y1 (Int.toNat y0) []) 0 0)) (FOps.conv F FloatKind.f32 FloatKind.f64 (List.getD (List.getD y2 (Int.toNat y0) []) 0 0))) then (Pure.laws_eqFloat32S_L0 F y1 y2 n (IntKind.wrap IntKind.i64 (y0 + 1))) else ((true, true))) else ((false, false))) else ((false, false))) else ((false, false))) else ((false, false))) else ((false, false))) else ((false, false))) else ((true, false))
def R_laws_eqFloat32S_L0 (y1 : List (List Int)) (y2 : List (List Int)) (r : (Bool × Bool)) : Bool × Bool × (Ex × List V × List Ob) × (Ex × List V × List Ob) := ((r).1, (r).2, (Ex.normal, [V.at A.undef], [⟨false, OC.rows [K.f FloatKind.f32] y1⟩, ⟨false, OC.rows [K.f FloatKind.f32] y2⟩]), (Ex.ret, [V.at (A.bool false)], [⟨false, OC.rows [K.f FloatKind.f32] y1⟩, ⟨false, OC.rows [K.f FloatKind.f32] y2⟩]))
def S_laws_eqFloat32S_L0 (F : FOps) : Sm := ⟨[0, 1, 5], [58, 58, 3], [4], fun vals hp => match vals, hp with
  | [V.at (A.sl 0), V.at (A.sl 1), V.at (A.int IntKind.i64 y0)], [⟨false, OC.rows [K.f FloatKind.f32] y1⟩, ⟨false, OC.rows [K.f FloatKind.f32] y2⟩] => some (R_laws_eqFloat32S_L0 y1 y2 (Pure.laws_eqFloat32S_L0 F y1 y2 ((Int.ofNat (List.length y1)) - y0 + 1).toNat y0))
  | _, _ => none⟩
theorem l_laws_eqFloat32S_L0 (F : FOps) (y1 : List (List Int)) (y2 : List (List Int)) : ∀ (fuel : Nat) (y0 : Int), (Pure.laws_eqFloat32S_L0 F y1 y2 fuel y0).1 = true → loopOf (cxS F tyl [(36, c_laws_sameFloat F)] [] [] 0) 2 29 0 [0, 1, 5] [58, 58, 3] [4] (loopB 0 (codeOf Try.f31)) fuel [V.at (A.sl 0), V.at (A.sl 1), V.at (A.int IntKind.i64 y0)] [⟨false, OC.rows [K.f FloatKind.f32] y1⟩, ⟨false, OC.rows [K.f FloatKind.f32] y2⟩] = resOf (R_laws_eqFloat32S_L0 y1 y2 (Pure.laws_eqFloat32S_L0 F y1 y2 fuel y0)) := by
  intro fuel
  induction fuel with
  | zero => intro y0 h; exact absurd h Bool.false_ne_true
  | succ n ih =>
    intro y0
    have h0 : roundOf (cxS F tyl [(36, c_laws_sameFloat F)] [] [] 0) 2 29 0 [0, 1, 5] [58, 58, 3] [4] (loopB 0 (codeOf Try.f31)) [V.at (A.sl 0), V.at (A.sl 1), V.at (A.int IntKind.i64 y0)] [⟨false, OC.rows [K.f FloatKind.f32] y1⟩, ⟨false, OC.rows [K.f FloatKind.f32] y2⟩] = (bif Decidable.decide (y0 < (Int.ofNat (List.length y1))) then bif Decidable.decide (0 ≤ y0) then bif Decidable.decide (y0 < (Int.ofNat (List.length y1))) then bif FOps.convOk F FloatKind.f32 FloatKind.f64 (List.getD (List.getD y1 (Int.toNat y0) []) 0 0) then bif Decidable.decide (0 ≤ y0) then bif Decidable.decide (y0 < (Int.ofNat (List.length y2))) then bif FOps.convOk F FloatKind.f32 FloatKind.f64 (List.getD (List.getD y2 (Int.toNat y0) []) 0 0) then bif Bool.not (Pure.laws_sameFloat F (FOps.conv F FloatKind.f32 FloatKind.f64 (List.getD (List.getD y1 (Int.toNat y0) []) 0 0)) (FOps.conv F FloatKind.f32 FloatKind.f64 (List.getD (List.getD y2 (Int.toNat y0) []) 0 0))) then some (false, (Ex.ret, ([V.at (A.bool false)], [⟨false, OC.rows [K.f FloatKind.f32] y1⟩, ⟨false, OC.rows [K.f FloatKind.f32] y2⟩]))) else some (true, (Ex.normal, ([V.at (A.sl 0), V.at (A.sl 1), V.at (A.int IntKind.i64 (IntKind.wrap IntKind.i64 (y0 + 1)))], [⟨false, OC.rows [K.f FloatKind.f32] y1⟩, ⟨false, OC.rows [K.f FloatKind.f32] y2⟩]))) else none else none else none else none else none else none else some (false, (Ex.normal, ([V.at A.undef], [⟨false, OC.rows [K.f FloatKind.f32] y1⟩, ⟨false, OC.rows [K.f FloatKind.f32] y2⟩])))) := by kernel_rfl
    unfold loopOf
    rw [h0]
    unfold Pure.laws_eqFloat32S_L0
    cases (Decidable.decide (y0 < (Int.ofNat (List.length y1)))) with
    | true =>
      cases (Decidable.decide (0 ≤ y0)) with
      | true =>
        cases (FOps.convOk F FloatKind.f32 FloatKind.f64 (List.getD (List.getD y1 (Int.toNat y0) []) 0 0)) with
        | true =>
          cases (Decidable.decide (y0 < (Int.ofNat (List.length y2)))) with
          | true =>
            cases (FOps.convOk F FloatKind.f32 FloatKind.f64 (List.getD (List.getD y2 (Int.toNat y0) []) 0 0)) with
            | true =>
              cases (Pure.laws_sameFloat F (FOps.conv F FloatKind.f32 FloatKind.f64 (List.getD (List.getD y1 (Int.toNat y0) []) 0 0)) (FOps.conv F FloatKind.f32 FloatKind.f64 (List.getD (List.getD y2 (Int.toNat y0) []) 0 0))) with
              | true =>
                exact ih _
              | false =>
                intro _; rfl
            | false =>
              intro h; exact absurd h Bool.false_ne_true
          | false =>
            intro h; exact absurd h Bool.false_ne_true
        | false =>
          intro h; exact absurd h Bool.false_ne_true
      | false =>
        intro h; exact absurd h Bool.false_ne_true
    | false =>
      intro _; rfl
theorem t_laws_eqFloat32S_L0 : SmTo Try.prog 2 29 (S_laws_eqFloat32S_L0 real) 0 (.loop (loopB 0 (codeOf Try.f31))) := by
  refine smTo_ev (cl := [(36, c_laws_sameFloat real)]) (ef := []) (sm := []) (un := 0) prog_ok (allOK_cons ok_laws_sameFloat allOK_nil) smL_nil ?_
  intro vals hp q r h hq
  unfold S_laws_eqFloat32S_L0 at h
  dsimp only at h
  split at h
  · rename_i y0 y1 y2
    obtain rfl := Option.some.inj h
    have h1 := hq
    unfold resOf at h1
    rw [chk_some] at h1
    exact ⟨_, (l_laws_eqFloat32S_L0 real y1 y2 _ y0 h1.1).trans hq⟩
  · cases h
def Pure.laws_eqFloat32S (F : FOps) (x0 : List (List Int)) (x1 : List (List Int)) : Bool := bif (Int.ofNat (List.length x0)) != (Int.ofNat (List.length x1)) then false else bif Prod.snd (Pure.laws_eqFloat32S_L0 F x0 x1 (Nat.succ ((List.length x0) + 0)) 0) then false else true
def Pure.laws_eqFloat32S_ok (F : FOps) (x0 : List (List Int)) (x1 : List (List Int)) : Bool := bif (Int.ofNat (List.length x0)) != (Int.ofNat (List.length x1)) then true else Prod.fst (Pure.laws_eqFloat32S_L0 F x0 x1 (Nat.succ ((List.length x0) + 0)) 0)
def c_laws_eqFloat32S (F : FOps) : Con
  | [V.at (A.sl 0), V.at (A.sl 1)], [⟨false, OC.rows [K.f FloatKind.f32] x0⟩, ⟨false, OC.rows [K.f FloatKind.f32] x1⟩] => some (Pure.laws_eqFloat32S_ok F x0 x1, ⟨V.at (A.bool (Pure.laws_eqFloat32S F x0 x1)), none, []⟩)
  | _, _ => none
theorem e_laws_eqFloat32S (F : FOps) (x0 : List (List Int)) (x1 : List (List Int)) : Pure.laws_eqFloat32S_ok F x0 x1 = true → evFn (cxS F tyl [(36, c_laws_sameFloat F)] [] [(0, S_laws_eqFloat32S_L0 F)] 0) Try.f31 false [V.at (A.sl 0), V.at (A.sl 1)] [⟨false, OC.rows [K.f FloatKind.f32] x0⟩, ⟨false, OC.rows [K.f FloatKind.f32] x1⟩] = some ⟨V.at (A.bool (Pure.laws_eqFloat32S F x0 x1)), none, []⟩ := by
  have h0 : evFn (cxS F tyl [(36, c_laws_sameFloat F)] [] [(0, S_laws_eqFloat32S_L0 F)] 0) Try.f31 false [V.at (A.sl 0), V.at (A.sl 1)] [⟨false, OC.rows [K.f FloatKind.f32] x0⟩, ⟨false, OC.rows [K.f FloatKind.f32] x1⟩] = bif (Int.ofNat (List.length x0)) != (Int.ofNat (List.length x1)) then some ⟨V.at (A.bool false), none, []⟩ else bif Prod.fst (Pure.laws_eqFloat32S_L0 F x0 x1 (Nat.succ ((List.length x0) + 0)) 0) then bif Prod.snd (Pure.laws_eqFloat32S_L0 F x0 x1 (Nat.succ ((List.length x0) + 0)) 0) then some ⟨V.at (A.bool false), none, []⟩ else some ⟨V.at (A.bool true), none, []⟩ else none := by kernel_rfl
  rw [h0]
  unfold Pure.laws_eqFloat32S Pure.laws_eqFloat32S_ok
  cases ((Int.ofNat (List.length x0)) != (Int.ofNat (List.length x1))) with
  | true =>
    intro _; rfl
  | false =>
    cases (Prod.fst (Pure.laws_eqFloat32S_L0 F x0 x1 (Nat.succ ((List.length x0) + 0)) 0)) with
    | true =>
      cases (Prod.snd (Pure.laws_eqFloat32S_L0 F x0 x1 (Nat.succ ((List.length x0) + 0)) 0)) with
      | true =>
        intro _; rfl
      | false =>
        intro _; rfl
    | false =>
      intro h; exact absurd h Bool.false_ne_true
theorem ok_laws_eqFloat32S : CallOK Try.prog 31 (c_laws_eqFloat32S real) := by
  refine callOK_of fun args h ret hc => ?_
  unfold c_laws_eqFloat32S at hc
  split at hc
  · rename_i x0 x1
    obtain ⟨hok, rfl⟩ := some_ret hc
    exact holds_ev prog_ok (allOK_cons ok_laws_sameFloat allOK_nil) Try.func31 rfl rfl (smL_cons (body := .loop (loopB 0 (codeOf Try.f31))) (by kernel_rfl) t_laws_eqFloat32S_L0 smL_nil) rfl (e_laws_eqFloat32S real x0 x1 hok)
  · cases hc
end Go.Fx
