import Derived.Test.YtpncophaaedjpaaXr1a
import Derived.KernelRfl
namespace Go.Fx
open Go.Proofs
def Pure.impl_IsFinite (F : FOps) (x0 : Int) : Bool := FOps.cmp F BinOp.eql FloatKind.f32 (FOps.bin F BinOp.sub FloatKind.f32 x0 x0) 0
def c_impl_IsFinite (F : FOps) : Con
  | [V.at (A.fl FloatKind.f32 x0)], [] => some (true, ⟨V.at (A.bool (Pure.impl_IsFinite F x0)), none, []⟩)
  | _, _ => none
theorem e_impl_IsFinite (F : FOps) (x0 : Int) : evFn (cxS F tyl [] [] [] 0) Try.f40 false [V.at (A.fl FloatKind.f32 x0)] [] = some ⟨V.at (A.bool (Pure.impl_IsFinite F x0)), none, []⟩ := by
  kernel_rfl
theorem ok_impl_IsFinite : CallOK Try.prog 40 (c_impl_IsFinite real) := by
  refine callOK_of fun args h ret hc => ?_
  unfold c_impl_IsFinite at hc
  split at hc
  · rename_i x0
    obtain ⟨_, rfl⟩ := some_ret hc
    exact holds_ev prog_ok allOK_nil Try.func40 rfl rfl smL_nil rfl (e_impl_IsFinite real x0)
  · cases hc
def Pure.impl_finite_1 (F : FOps) (x0 : Int) : Bool := bif Pure.impl_IsFinite F x0 then false else true
def c_impl_finite_1 (F : FOps) : Con
  | [V.at (A.fl FloatKind.f32 x0)], [] => some (true, ⟨V.at (A.bool (Pure.impl_finite_1 F x0)), none, []⟩)
  | _, _ => none
theorem e_impl_finite_1 (F : FOps) (x0 : Int) : evFn (cxS F tyl [(40, c_impl_IsFinite F)] [] [] 0) Try.f46 false [V.at (A.fl FloatKind.f32 x0)] [] = some ⟨V.at (A.bool (Pure.impl_finite_1 F x0)), none, []⟩ := by
  kernel_rfl
theorem ok_impl_finite_1 : CallOK Try.prog 46 (c_impl_finite_1 real) := by
  refine callOK_of fun args h ret hc => ?_
  unfold c_impl_finite_1 at hc
  split at hc
  · rename_i x0
    obtain ⟨_, rfl⟩ := some_ret hc
    exact holds_ev prog_ok (allOK_cons ok_impl_IsFinite allOK_nil) Try.func46 rfl rfl smL_nil rfl (e_impl_finite_1 real x0)
  · cases hc
def Pure.slices_IndexFunc_float32_float32_finite_L0 (F : FOps) (y0 : Int) (y2 : List (List Int)) : Nat → Int → (Bool × Bool × Int)
  | 0, _ => (false, false, 0)
  | n + 1, y1 => bif (Decidable.decide (y1 < y0)) then (bif (Decidable.decide (0 ≤ y1)) then (bif (Decidable.decide (y1 < (Int.ofNat (List.length y2)))) then (bif (Pure.impl_finite_1 F (List.getD (List.getD y2 (Int.toNat y1) []) 0 0)) then ((true, true, y1)) else (Pure.slices_IndexFunc_float32_float32_finite_L0 F y0 y2 n (IntKind.wrap IntKind.i64 (y1 + 1)))) else ((false, false, 0))) else ((false, false, 0))) else ((true, false, 0))
def R_slices_IndexFunc_float32_float32_finite_L0 (y2 : List (List Int)) (r : (Bool × Bool × Int)) : Bool × Bool × (Ex × List V × List Ob) × (Ex × List V × List Ob) := ((r).1, (r).2.1, (Ex.normal, [V.at A.undef], [⟨false, OC.rows [K.f FloatKind.f32] y2⟩]), (Ex.ret, [V.at (A.int IntKind.i64 (r).2.2)], [⟨false, OC.rows [K.f FloatKind.f32] y2⟩]))
def S_slices_IndexFunc_float32_float32_finite_L0 (F : FOps) : Sm := ⟨[0, 1, 7, 8], [39, 46, 3, 3], [4], fun vals hp => match vals, hp with
  | [V.at (A.sl 0), V.at (A.fn 46 []), V.at (A.int IntKind.i64 y0), V.at (A.int IntKind.i64 y1)], [⟨false, OC.rows [K.f FloatKind.f32] y2⟩] => some (R_slices_IndexFunc_float32_float32_finite_L0 y2 (Pure.slices_IndexFunc_float32_float32_finite_L0 F y0 y2 (y0 - y1 + 1).toNat y1))
  | _, _ => none⟩
theorem l_slices_IndexFunc_float32_float32_finite_L0 (F : FOps) (y0 : Int) (y2 : List (List Int)) : ∀ (fuel : Nat) (y1 : Int), (Pure.slices_IndexFunc_float32_float32_finite_L0 F y0 y2 fuel y1).1 = true → loopOf (cxS F tyl [(46, c_impl_finite_1 F)] [] [] 0) 1 19 0 [0, 1, 7, 8] [39, 46, 3, 3] [4] (loopB 0 (codeOf Try.f52)) fuel [V.at (A.sl 0), V.at (A.fn 46 []), V.at (A.int IntKind.i64 y0), V.at (A.int IntKind.i64 y1)] [⟨false, OC.rows [K.f FloatKind.f32] y2⟩] = resOf (R_slices_IndexFunc_float32_float32_finite_L0 y2 (Pure.slices_IndexFunc_float32_float32_finite_L0 F y0 y2 fuel y1)) := by
  intro fuel
  induction fuel with
  | zero => intro y1 h; exact absurd h Bool.false_ne_true
  | succ n ih =>
    intro y1
    have h0 : roundOf (cxS F tyl [(46, c_impl_finite_1 F)] [] [] 0) 1 19 0 [0, 1, 7, 8] [39, 46, 3, 3] [4] (loopB 0 (codeOf Try.f52)) [V.at (A.sl 0), V.at (A.fn 46 []), V.at (A.int IntKind.i64 y0), V.at (A.int IntKind.i64 y1)] [⟨false, OC.rows [K.f FloatKind.f32] y2⟩] = (bif Decidable.decide (y1 < y0) then bif Decidable.decide (0 ≤ y1) then bif Decidable.decide (y1 < (Int.ofNat (List.length y2))) then bif Pure.impl_finite_1 F (List.getD (List.getD y2 (Int.toNat y1) []) 0 0) then some (false, (Ex.ret, ([V.at (A.int IntKind.i64 y1)], [⟨false, OC.rows [K.f FloatKind.f32] y2⟩]))) else some (true, (Ex.normal, ([V.at (A.sl 0), V.at (A.fn 46 []), V.at (A.int IntKind.i64 y0), V.at (A.int IntKind.i64 (IntKind.wrap IntKind.i64 (y1 + 1)))], [⟨false, OC.rows [K.f FloatKind.f32] y2⟩]))) else none else none else some (false, (Ex.normal, ([V.at A.undef], [⟨false, OC.rows [K.f FloatKind.f32] y2⟩])))) := by kernel_rfl
    unfold loopOf
    rw [h0]
    unfold Pure.slices_IndexFunc_float32_float32_finite_L0
    cases (Decidable.decide (y1 < y0)) with
    | true =>
      cases (Decidable.decide (0 ≤ y1)) with
      | true =>
        cases (Decidable.decide (y1 < (Int.ofNat (List.length y2)))) with
        | true =>
          cases (Pure.impl_finite_1 F (List.getD (List.getD y2 (Int.toNat y1) []) 0 0)) with
          | true =>
            intro _; rfl
          | false =>
            exact ih _
        | false =>
          intro h; exact absurd h Bool.false_ne_true
      | false =>
        intro h; exact absurd h Bool.false_ne_true
    | false =>
      intro _; rfl
theorem t_slices_IndexFunc_float32_float32_finite_L0 : SmTo Try.prog 1 19 (S_slices_IndexFunc_float32_float32_finite_L0 real) 0 (.loop (loopB 0 (codeOf Try.f52))) := by
  refine smTo_ev (cl := [(46, c_impl_finite_1 real)]) (ef := []) (sm := []) (un := 0) prog_ok (allOK_cons ok_impl_finite_1 allOK_nil) smL_nil ?_
  intro vals hp q r h hq
  unfold S_slices_IndexFunc_float32_float32_finite_L0 at h
  dsimp only at h
  split at h
  · rename_i y0 y1 y2
    obtain rfl := Option.some.inj h
    have h1 := hq
    unfold resOf at h1
    rw [chk_some] at h1
    exact ⟨_, (l_slices_IndexFunc_float32_float32_finite_L0 real y0 y2 _ y1 h1.1).trans hq⟩
  · cases h
def Pure.slices_IndexFunc_float32_float32_finite (F : FOps) (x0 : List (List Int)) : Int := bif Prod.fst (Prod.snd (Pure.slices_IndexFunc_float32_float32_finite_L0 F (Int.ofNat (List.length x0)) x0 (Nat.succ ((List.length x0) + 0)) 0)) then Prod.snd (Prod.snd (Pure.slices_IndexFunc_float32_float32_finite_L0 F (Int.ofNat (List.length x0)) x0 (Nat.succ ((List.length x0) + 0)) 0)) else (-1)
def Pure.slices_IndexFunc_float32_float32_finite_ok (F : FOps) (x0 : List (List Int)) : Bool := Prod.fst (Pure.slices_IndexFunc_float32_float32_finite_L0 F (Int.ofNat (List.length x0)) x0 (Nat.succ ((List.length x0) + 0)) 0)
def c_slices_IndexFunc_float32_float32_finite (F : FOps) : Con
  | [V.at (A.sl 0), V.at (A.fn 46 [])], [⟨false, OC.rows [K.f FloatKind.f32] x0⟩] => some (Pure.slices_IndexFunc_float32_float32_finite_ok F x0, ⟨V.at (A.int IntKind.i64 (Pure.slices_IndexFunc_float32_float32_finite F x0)), none, []⟩)
  | _, _ => none
theorem e_slices_IndexFunc_float32_float32_finite (F : FOps) (x0 : List (List Int)) : Pure.slices_IndexFunc_float32_float32_finite_ok F x0 = true → evFn (cxS F tyl [(46, c_impl_finite_1 F)] [] [(0, S_slices_IndexFunc_float32_float32_finite_L0 F)] 0) Try.f52 false [V.at (A.sl 0), V.at (A.fn 46 [])] [⟨false, OC.rows [K.f FloatKind.f32] x0⟩] = some ⟨V.at (A.int IntKind.i64 (Pure.slices_IndexFunc_float32_float32_finite F x0)), none, []⟩ := by
  have h0 : evFn (cxS F tyl [(46, c_impl_finite_1 F)] [] [(0, S_slices_IndexFunc_float32_float32_finite_L0 F)] 0) Try.f52 false [V.at (A.sl 0), V.at (A.fn 46 [])] [⟨false, OC.rows [K.f FloatKind.f32] x0⟩] = bif Prod.fst (Pure.slices_IndexFunc_float32_float32_finite_L0 F (Int.ofNat (List.length x0)) x0 (Nat.succ ((List.length x0) + 0)) 0) then bif Prod.fst (Prod.snd (Pure.slices_IndexFunc_float32_float32_finite_L0 F (Int.ofNat (List.length x0)) x0 (Nat.succ ((List.length x0) + 0)) 0)) then some ⟨V.at (A.int IntKind.i64 (Prod.snd (Prod.snd (Pure.slices_IndexFunc_float32_float32_finite_L0 F (Int.ofNat (List.length x0)) x0 (Nat.succ ((List.length x0) + 0)) 0)))), none, []⟩ else some ⟨V.at (A.int IntKind.i64 (-1)), none, []⟩ else none := by kernel_rfl
  rw [h0]
  unfold Pure.slices_IndexFunc_float32_float32_finite Pure.slices_IndexFunc_float32_float32_finite_ok
  cases (Prod.fst (Pure.slices_IndexFunc_float32_float32_finite_L0 F (Int.ofNat (List.length x0)) x0 (Nat.succ ((List.length x0) + 0)) 0)) with
  | true =>
    cases (Prod.fst (Prod.snd (Pure.slices_IndexFunc_float32_float32_finite_L0 F (Int.ofNat (List.length x0)) x0 (Nat.succ ((List.length x0) + 0)) 0))) with
    | true =>
      intro _; rfl
    | false =>
      intro _; rfl
  | false =>
    intro h; exact absurd h Bool.false_ne_true
theorem ok_slices_IndexFunc_float32_float32_finite : CallOK Try.prog 52 (c_slices_IndexFunc_float32_float32_finite real) := by
  refine callOK_of fun args h ret hc => ?_
  unfold c_slices_IndexFunc_float32_float32_finite at hc
  split at hc
  · rename_i x0
    obtain ⟨hok, rfl⟩ := some_ret hc
    exact holds_ev prog_ok (allOK_cons ok_impl_finite_1 allOK_nil) Try.func52 rfl rfl (smL_cons (body := .loop (loopB 0 (codeOf Try.f52))) (by kernel_rfl) t_slices_IndexFunc_float32_float32_finite_L0 smL_nil) rfl (e_slices_IndexFunc_float32_float32_finite real x0 hok)
  · cases hc
def Pure.slices_ContainsFunc_float32_float32_finite (F : FOps) (x0 : List (List Int)) : Bool := Decidable.decide ((Pure.slices_IndexFunc_float32_float32_finite F x0) ≥ 0)
def Pure.slices_ContainsFunc_float32_float32_finite_ok (F : FOps) (x0 : List (List Int)) : Bool := Pure.slices_IndexFunc_float32_float32_finite_ok F x0
def c_slices_ContainsFunc_float32_float32_finite (F : FOps) : Con
  | [V.at (A.sl 0), V.at (A.fn 46 [])], [⟨false, OC.rows [K.f FloatKind.f32] x0⟩] => some (Pure.slices_ContainsFunc_float32_float32_finite_ok F x0, ⟨V.at (A.bool (Pure.slices_ContainsFunc_float32_float32_finite F x0)), none, []⟩)
  | _, _ => none
theorem e_slices_ContainsFunc_float32_float32_finite (F : FOps) (x0 : List (List Int)) : Pure.slices_ContainsFunc_float32_float32_finite_ok F x0 = true → evFn (cxS F tyl [(52, c_slices_IndexFunc_float32_float32_finite F), (46, c_impl_finite_1 F)] [] [] 0) Try.f45 false [V.at (A.sl 0), V.at (A.fn 46 [])] [⟨false, OC.rows [K.f FloatKind.f32] x0⟩] = some ⟨V.at (A.bool (Pure.slices_ContainsFunc_float32_float32_finite F x0)), none, []⟩ := by
  have h0 : evFn (cxS F tyl [(52, c_slices_IndexFunc_float32_float32_finite F), (46, c_impl_finite_1 F)] [] [] 0) Try.f45 false [V.at (A.sl 0), V.at (A.fn 46 [])] [⟨false, OC.rows [K.f FloatKind.f32] x0⟩] = bif Pure.slices_IndexFunc_float32_float32_finite_ok F x0 then some ⟨V.at (A.bool (Decidable.decide ((Pure.slices_IndexFunc_float32_float32_finite F x0) ≥ 0))), none, []⟩ else none := by kernel_rfl
  rw [h0]
  unfold Pure.slices_ContainsFunc_float32_float32_finite Pure.slices_ContainsFunc_float32_float32_finite_ok
  cases (Pure.slices_IndexFunc_float32_float32_finite_ok F x0) with
  | true =>
    intro _; rfl
  | false =>
    intro h; exact absurd h Bool.false_ne_true
theorem ok_slices_ContainsFunc_float32_float32_finite : CallOK Try.prog 45 (c_slices_ContainsFunc_float32_float32_finite real) := by
  refine callOK_of fun args h ret hc => ?_
  unfold c_slices_ContainsFunc_float32_float32_finite at hc
  split at hc
  · rename_i x0
    obtain ⟨hok, rfl⟩ := some_ret hc
    exact holds_ev prog_ok (allOK_cons ok_slices_IndexFunc_float32_float32_finite (allOK_cons ok_impl_finite_1 allOK_nil)) Try.func45 rfl rfl smL_nil rfl (e_slices_ContainsFunc_float32_float32_finite real x0 hok)
  · cases hc
def Pure.spec_l01Finite (F : FOps) (x0 : Int) : Bool := FOps.cmp F BinOp.eql FloatKind.f32 (FOps.bin F BinOp.sub FloatKind.f32 x0 x0) 0
def c_spec_l01Finite (F : FOps) : Con
  | [V.at (A.fl FloatKind.f32 x0)], [] => some (true, ⟨V.at (A.bool (Pure.spec_l01Finite F x0)), none, []⟩)
  | _, _ => none
theorem e_spec_l01Finite (F : FOps) (x0 : Int) : evFn (cxS F tyl [] [] [] 0) Try.f29 false [V.at (A.fl FloatKind.f32 x0)] [] = some ⟨V.at (A.bool (Pure.spec_l01Finite F x0)), none, []⟩ := by
  kernel_rfl
theorem ok_spec_l01Finite : CallOK Try.prog 29 (c_spec_l01Finite real) := by
  refine callOK_of fun args h ret hc => ?_
  unfold c_spec_l01Finite at hc
  split at hc
  · rename_i x0
    obtain ⟨_, rfl⟩ := some_ret hc
    exact holds_ev prog_ok allOK_nil Try.func29 rfl rfl smL_nil rfl (e_spec_l01Finite real x0)
  · cases hc
def Pure.spec_l07Grow (F : FOps) (x0 : Int) (x1 : Int) : Int := FOps.bin F BinOp.mul FloatKind.f32 (FOps.bin F BinOp.mul FloatKind.f32 x1 x0) (FOps.bin F BinOp.sub FloatKind.f32 1065353216 x0)
def c_spec_l07Grow (F : FOps) : Con
  | [V.at (A.fl FloatKind.f32 x0), V.at (A.fl FloatKind.f32 x1)], [] => some (true, ⟨V.at (A.fl FloatKind.f32 (Pure.spec_l07Grow F x0 x1)), none, []⟩)
  | _, _ => none
theorem e_spec_l07Grow (F : FOps) (x0 : Int) (x1 : Int) : evFn (cxS F tyl [] [] [] 0) Try.f31 false [V.at (A.fl FloatKind.f32 x0), V.at (A.fl FloatKind.f32 x1)] [] = some ⟨V.at (A.fl FloatKind.f32 (Pure.spec_l07Grow F x0 x1)), none, []⟩ := by
  kernel_rfl
theorem ok_spec_l07Grow : CallOK Try.prog 31 (c_spec_l07Grow real) := by
  refine callOK_of fun args h ret hc => ?_
  unfold c_spec_l07Grow at hc
  split at hc
  · rename_i x0 x1
    obtain ⟨_, rfl⟩ := some_ret hc
    exact holds_ev prog_ok allOK_nil Try.func31 rfl rfl smL_nil rfl (e_spec_l07Grow real x0 x1)
  · cases hc
def Pure.spec_l05Number (F : FOps) (x0 : Int) : Int := bif Pure.spec_l01Finite F x0 then x0 else 0
def c_spec_l05Number (F : FOps) : Con
  | [V.at (A.fl FloatKind.f32 x0)], [] => some (true, ⟨V.tup [(false, [A.fl FloatKind.f32 (Pure.spec_l05Number F x0)]), (false, [A.bool (Pure.spec_l01Finite F x0)])], none, []⟩)
  | _, _ => none
theorem e_spec_l05Number (F : FOps) (x0 : Int) : evFn (cxS F tyl [(29, c_spec_l01Finite F)] [] [] 0) Try.f30 false [V.at (A.fl FloatKind.f32 x0)] [] = some ⟨V.tup [(false, [A.fl FloatKind.f32 (Pure.spec_l05Number F x0)]), (false, [A.bool (Pure.spec_l01Finite F x0)])], none, []⟩ := by
  have h0 : evFn (cxS F tyl [(29, c_spec_l01Finite F)] [] [] 0) Try.f30 false [V.at (A.fl FloatKind.f32 x0)] [] = bif Bool.not (Pure.spec_l01Finite F x0) then some ⟨V.tup [(false, [A.fl FloatKind.f32 0]), (false, [A.bool false])], none, []⟩ else some ⟨V.tup [(false, [A.fl FloatKind.f32 x0]), (false, [A.bool true])], none, []⟩ := by kernel_rfl
  rw [h0]
  unfold Pure.spec_l05Number
  cases (Pure.spec_l01Finite F x0) with
  | true =>
    rfl
  | false =>
    rfl
theorem ok_spec_l05Number : CallOK Try.prog 30 (c_spec_l05Number real) := by
  refine callOK_of fun args h ret hc => ?_
  unfold c_spec_l05Number at hc
  split at hc
  · rename_i x0
    obtain ⟨_, rfl⟩ := some_ret hc
    exact holds_ev prog_ok (allOK_cons ok_spec_l01Finite allOK_nil) Try.func30 rfl rfl smL_nil rfl (e_spec_l05Number real x0)
  · cases hc
def Pure.spec_GrowNext (F : FOps) (x0 : Int) (x1 : Int) : Int := bif Pure.spec_l01Finite F x0 then bif Pure.spec_l01Finite F x1 then Pure.spec_l05Number F (Pure.spec_l07Grow F x0 x1) else 0 else 0
def Pure.spec_GrowNext_1 (F : FOps) (x0 : Int) (x1 : Int) : Bool := bif Pure.spec_l01Finite F x0 then bif Pure.spec_l01Finite F x1 then Pure.spec_l01Finite F (Pure.spec_l07Grow F x0 x1) else false else false
def c_spec_GrowNext (F : FOps) : Con
  | [V.at (A.fl FloatKind.f32 x0), V.at (A.fl FloatKind.f32 x1)], [] => some (true, ⟨V.tup [(false, [A.fl FloatKind.f32 (Pure.spec_GrowNext F x0 x1)]), (false, [A.bool (Pure.spec_GrowNext_1 F x0 x1)])], none, []⟩)
  | _, _ => none
theorem e_spec_GrowNext (F : FOps) (x0 : Int) (x1 : Int) : evFn (cxS F tyl [(29, c_spec_l01Finite F), (31, c_spec_l07Grow F), (30, c_spec_l05Number F)] [] [] 0) Try.f14 false [V.at (A.fl FloatKind.f32 x0), V.at (A.fl FloatKind.f32 x1)] [] = some ⟨V.tup [(false, [A.fl FloatKind.f32 (Pure.spec_GrowNext F x0 x1)]), (false, [A.bool (Pure.spec_GrowNext_1 F x0 x1)])], none, []⟩ := by
  have h0 : evFn (cxS F tyl [(29, c_spec_l01Finite F), (31, c_spec_l07Grow F), (30, c_spec_l05Number F)] [] [] 0) Try.f14 false [V.at (A.fl FloatKind.f32 x0), V.at (A.fl FloatKind.f32 x1)] [] = bif Bool.not (Pure.spec_l01Finite F x0) then some ⟨V.tup [(false, [A.fl FloatKind.f32 0]), (false, [A.bool false])], none, []⟩ else bif Bool.not (Pure.spec_l01Finite F x1) then some ⟨V.tup [(false, [A.fl FloatKind.f32 0]), (false, [A.bool false])], none, []⟩ else some ⟨V.tup [(false, [A.fl FloatKind.f32 (Pure.spec_l05Number F (Pure.spec_l07Grow F x0 x1))]), (false, [A.bool (Pure.spec_l01Finite F (Pure.spec_l07Grow F x0 x1))])], none, []⟩ := by kernel_rfl
  rw [h0]
  unfold Pure.spec_GrowNext Pure.spec_GrowNext_1
  cases (Pure.spec_l01Finite F x0) with
  | true =>
    cases (Pure.spec_l01Finite F x1) with
    | true =>
      rfl
    | false =>
      rfl
  | false =>
    rfl
theorem ok_spec_GrowNext : CallOK Try.prog 14 (c_spec_GrowNext real) := by
  refine callOK_of fun args h ret hc => ?_
  unfold c_spec_GrowNext at hc
  split at hc
  · rename_i x0 x1
    obtain ⟨_, rfl⟩ := some_ret hc
    exact holds_ev prog_ok (allOK_cons ok_spec_l01Finite (allOK_cons ok_spec_l07Grow (allOK_cons ok_spec_l05Number allOK_nil))) Try.func14 rfl rfl smL_nil rfl (e_spec_GrowNext real x0 x1)
  · cases hc
def Pure.impl_finite (F : FOps) (x0 : List (List Int)) : Bool := bif Pure.slices_ContainsFunc_float32_float32_finite F x0 then false else true
def Pure.impl_finite_ok (F : FOps) (x0 : List (List Int)) : Bool := Pure.slices_ContainsFunc_float32_float32_finite_ok F x0
def c_impl_finite (F : FOps) : Con
  | [V.at (A.sl 0)], [⟨false, OC.rows [K.f FloatKind.f32] x0⟩] => some (Pure.impl_finite_ok F x0, ⟨V.at (A.bool (Pure.impl_finite F x0)), none, []⟩)
  | _, _ => none
theorem e_impl_finite (F : FOps) (x0 : List (List Int)) : Pure.impl_finite_ok F x0 = true → evFn (cxS F tyl [(45, c_slices_ContainsFunc_float32_float32_finite F), (46, c_impl_finite_1 F)] [] [] 0) Try.f32 false [V.at (A.sl 0)] [⟨false, OC.rows [K.f FloatKind.f32] x0⟩] = some ⟨V.at (A.bool (Pure.impl_finite F x0)), none, []⟩ := by
  have h0 : evFn (cxS F tyl [(45, c_slices_ContainsFunc_float32_float32_finite F), (46, c_impl_finite_1 F)] [] [] 0) Try.f32 false [V.at (A.sl 0)] [⟨false, OC.rows [K.f FloatKind.f32] x0⟩] = bif Pure.slices_ContainsFunc_float32_float32_finite_ok F x0 then some ⟨V.at (A.bool (bif Pure.slices_ContainsFunc_float32_float32_finite F x0 then false else true)), none, []⟩ else none := by kernel_rfl
  rw [h0]
  unfold Pure.impl_finite Pure.impl_finite_ok
  cases (Pure.slices_ContainsFunc_float32_float32_finite_ok F x0) with
  | true =>
    intro _; rfl
  | false =>
    intro h; exact absurd h Bool.false_ne_true
theorem ok_impl_finite : CallOK Try.prog 32 (c_impl_finite real) := by
  refine callOK_of fun args h ret hc => ?_
  unfold c_impl_finite at hc
  split at hc
  · rename_i x0
    obtain ⟨hok, rfl⟩ := some_ret hc
    exact holds_ev prog_ok (allOK_cons ok_slices_ContainsFunc_float32_float32_finite (allOK_cons ok_impl_finite_1 allOK_nil)) Try.func32 rfl rfl smL_nil rfl (e_impl_finite real x0 hok)
  · cases hc
def Pure.impl_toldNumber (F : FOps) (x0 : Int) : Int := bif Pure.impl_IsFinite F x0 then x0 else 0
def c_impl_toldNumber (F : FOps) : Con
  | [V.at (A.fl FloatKind.f32 x0)], [] => some (true, ⟨V.tup [(false, [A.fl FloatKind.f32 (Pure.impl_toldNumber F x0)]), (false, [A.bool (Pure.impl_IsFinite F x0)])], none, []⟩)
  | _, _ => none
theorem e_impl_toldNumber (F : FOps) (x0 : Int) : evFn (cxS F tyl [(40, c_impl_IsFinite F)] [] [] 0) Try.f33 false [V.at (A.fl FloatKind.f32 x0)] [] = some ⟨V.tup [(false, [A.fl FloatKind.f32 (Pure.impl_toldNumber F x0)]), (false, [A.bool (Pure.impl_IsFinite F x0)])], none, []⟩ := by
  have h0 : evFn (cxS F tyl [(40, c_impl_IsFinite F)] [] [] 0) Try.f33 false [V.at (A.fl FloatKind.f32 x0)] [] = bif Bool.not (Pure.impl_IsFinite F x0) then some ⟨V.tup [(false, [A.fl FloatKind.f32 0]), (false, [A.bool false])], none, []⟩ else some ⟨V.tup [(false, [A.fl FloatKind.f32 x0]), (false, [A.bool true])], none, []⟩ := by kernel_rfl
  rw [h0]
  unfold Pure.impl_toldNumber
  cases (Pure.impl_IsFinite F x0) with
  | true =>
    rfl
  | false =>
    rfl
theorem ok_impl_toldNumber : CallOK Try.prog 33 (c_impl_toldNumber real) := by
  refine callOK_of fun args h ret hc => ?_
  unfold c_impl_toldNumber at hc
  split at hc
  · rename_i x0
    obtain ⟨_, rfl⟩ := some_ret hc
    exact holds_ev prog_ok (allOK_cons ok_impl_IsFinite allOK_nil) Try.func33 rfl rfl smL_nil rfl (e_impl_toldNumber real x0)
  · cases hc
def Pure.impl_GrowNext (F : FOps) (x0 : Int) (x1 : Int) : Int := bif Pure.impl_finite F [[x0], [x1]] then Pure.impl_toldNumber F (FOps.bin F BinOp.mul FloatKind.f32 (FOps.bin F BinOp.mul FloatKind.f32 x1 x0) (FOps.bin F BinOp.sub FloatKind.f32 1065353216 x0)) else 0
def Pure.impl_GrowNext_1 (F : FOps) (x0 : Int) (x1 : Int) : Bool := bif Pure.impl_finite F [[x0], [x1]] then Pure.impl_IsFinite F (FOps.bin F BinOp.mul FloatKind.f32 (FOps.bin F BinOp.mul FloatKind.f32 x1 x0) (FOps.bin F BinOp.sub FloatKind.f32 1065353216 x0)) else false
def Pure.impl_GrowNext_ok (F : FOps) (x0 : Int) (x1 : Int) : Bool := Pure.impl_finite_ok F [[x0], [x1]]
def c_impl_GrowNext (F : FOps) : Con
  | [V.at (A.fl FloatKind.f32 x0), V.at (A.fl FloatKind.f32 x1)], [] => some (Pure.impl_GrowNext_ok F x0 x1, ⟨V.tup [(false, [A.fl FloatKind.f32 (Pure.impl_GrowNext F x0 x1)]), (false, [A.bool (Pure.impl_GrowNext_1 F x0 x1)])], none, []⟩)
  | _, _ => none
theorem e_impl_GrowNext (F : FOps) (x0 : Int) (x1 : Int) : Pure.impl_GrowNext_ok F x0 x1 = true → evFn (cxS F tyl [(32, c_impl_finite F), (33, c_impl_toldNumber F)] [] [] 0) Try.f15 false [V.at (A.fl FloatKind.f32 x0), V.at (A.fl FloatKind.f32 x1)] [] = some ⟨V.tup [(false, [A.fl FloatKind.f32 (Pure.impl_GrowNext F x0 x1)]), (false, [A.bool (Pure.impl_GrowNext_1 F x0 x1)])], none, []⟩ := by
  have h0 : evFn (cxS F tyl [(32, c_impl_finite F), (33, c_impl_toldNumber F)] [] [] 0) Try.f15 false [V.at (A.fl FloatKind.f32 x0), V.at (A.fl FloatKind.f32 x1)] [] = bif Pure.impl_finite_ok F [[x0], [x1]] then bif Bool.not (Pure.impl_finite F [[x0], [x1]]) then some ⟨V.tup [(false, [A.fl FloatKind.f32 0]), (false, [A.bool false])], none, []⟩ else some ⟨V.tup [(false, [A.fl FloatKind.f32 (Pure.impl_toldNumber F (FOps.bin F BinOp.mul FloatKind.f32 (FOps.bin F BinOp.mul FloatKind.f32 x1 x0) (FOps.bin F BinOp.sub FloatKind.f32 1065353216 x0)))]), (false, [A.bool (Pure.impl_IsFinite F (FOps.bin F BinOp.mul FloatKind.f32 (FOps.bin F BinOp.mul FloatKind.f32 x1 x0) (FOps.bin F BinOp.sub FloatKind.f32 1065353216 x0)))])], none, []⟩ else none := by kernel_rfl
  rw [h0]
  unfold Pure.impl_GrowNext Pure.impl_GrowNext_1 Pure.impl_GrowNext_ok
  cases (Pure.impl_finite_ok F [[x0], [x1]]) with
  | true =>
    cases (Pure.impl_finite F [[x0], [x1]]) with
    | true =>
      intro _; rfl
    | false =>
      intro _; rfl
  | false =>
    intro h; exact absurd h Bool.false_ne_true
theorem ok_impl_GrowNext : CallOK Try.prog 15 (c_impl_GrowNext real) := by
  refine callOK_of fun args h ret hc => ?_
  unfold c_impl_GrowNext at hc
  split at hc
  · rename_i x0 x1
    obtain ⟨hok, rfl⟩ := some_ret hc
    exact holds_ev prog_ok (allOK_cons ok_impl_finite (allOK_cons ok_impl_toldNumber allOK_nil)) Try.func15 rfl rfl smL_nil rfl (e_impl_GrowNext real x0 x1 hok)
  · cases hc
def Pure.laws_sameFloat (F : FOps) (x0 : Int) (x1 : Int) : Bool := bif FOps.cmp F BinOp.neq FloatKind.f64 x0 x0 then FOps.cmp F BinOp.neq FloatKind.f64 x1 x1 else bif FOps.cmp F BinOp.neq FloatKind.f64 x1 x1 then false else bif FOps.cmp F BinOp.eql FloatKind.f64 x0 0 then bif FOps.cmp F BinOp.eql FloatKind.f64 x1 0 then (FOps.cmp F BinOp.gtr FloatKind.f64 (FOps.bin F BinOp.quo FloatKind.f64 4607182418800017408 x0) 0) == (FOps.cmp F BinOp.gtr FloatKind.f64 (FOps.bin F BinOp.quo FloatKind.f64 4607182418800017408 x1) 0) else FOps.cmp F BinOp.eql FloatKind.f64 x0 x1 else FOps.cmp F BinOp.eql FloatKind.f64 x0 x1
def c_laws_sameFloat (F : FOps) : Con
  | [V.at (A.fl FloatKind.f64 x0), V.at (A.fl FloatKind.f64 x1)], [] => some (true, ⟨V.at (A.bool (Pure.laws_sameFloat F x0 x1)), none, []⟩)
  | _, _ => none
theorem e_laws_sameFloat (F : FOps) (x0 : Int) (x1 : Int) : evFn (cxS F tyl [] [] [] 0) Try.f16 false [V.at (A.fl FloatKind.f64 x0), V.at (A.fl FloatKind.f64 x1)] [] = some ⟨V.at (A.bool (Pure.laws_sameFloat F x0 x1)), none, []⟩ := by
  have h0 : evFn (cxS F tyl [] [] [] 0) Try.f16 false [V.at (A.fl FloatKind.f64 x0), V.at (A.fl FloatKind.f64 x1)] [] = bif FOps.cmp F BinOp.neq FloatKind.f64 x0 x0 then bif FOps.cmp F BinOp.neq FloatKind.f64 x0 x0 then some ⟨V.at (A.bool (FOps.cmp F BinOp.neq FloatKind.f64 x1 x1)), none, []⟩ else some ⟨V.at (A.bool false), none, []⟩ else bif FOps.cmp F BinOp.neq FloatKind.f64 x1 x1 then bif FOps.cmp F BinOp.neq FloatKind.f64 x0 x0 then some ⟨V.at (A.bool (FOps.cmp F BinOp.neq FloatKind.f64 x1 x1)), none, []⟩ else some ⟨V.at (A.bool false), none, []⟩ else bif FOps.cmp F BinOp.eql FloatKind.f64 x0 0 then bif FOps.cmp F BinOp.eql FloatKind.f64 x1 0 then some ⟨V.at (A.bool ((FOps.cmp F BinOp.gtr FloatKind.f64 (FOps.bin F BinOp.quo FloatKind.f64 4607182418800017408 x0) 0) == (FOps.cmp F BinOp.gtr FloatKind.f64 (FOps.bin F BinOp.quo FloatKind.f64 4607182418800017408 x1) 0))), none, []⟩ else some ⟨V.at (A.bool (FOps.cmp F BinOp.eql FloatKind.f64 x0 x1)), none, []⟩ else some ⟨V.at (A.bool (FOps.cmp F BinOp.eql FloatKind.f64 x0 x1)), none, []⟩ := by kernel_rfl
  rw [h0]
  unfold Pure.laws_sameFloat
  cases (FOps.cmp F BinOp.neq FloatKind.f64 x0 x0) with
  | true =>
    rfl
  | false =>
    cases (FOps.cmp F BinOp.neq FloatKind.f64 x1 x1) with
    | true =>
      rfl
    | false =>
      cases (FOps.cmp F BinOp.eql FloatKind.f64 x0 0) with
      | true =>
        cases (FOps.cmp F BinOp.eql FloatKind.f64 x1 0) with
        | true =>
          rfl
        | false =>
          rfl
      | false =>
        rfl
theorem ok_laws_sameFloat : CallOK Try.prog 16 (c_laws_sameFloat real) := by
  refine callOK_of fun args h ret hc => ?_
  unfold c_laws_sameFloat at hc
  split at hc
  · rename_i x0 x1
    obtain ⟨_, rfl⟩ := some_ret hc
    exact holds_ev prog_ok allOK_nil Try.func16 rfl rfl smL_nil rfl (e_laws_sameFloat real x0 x1)
  · cases hc
def Pure.laws_FnExactGrowNext (F : FOps) (x0 : Int) (x1 : Int) : Bool := bif Pure.laws_sameFloat F (FOps.conv F FloatKind.f32 FloatKind.f64 (Pure.impl_GrowNext F x0 x1)) (FOps.conv F FloatKind.f32 FloatKind.f64 (Pure.spec_GrowNext F x0 x1)) then (Pure.impl_GrowNext_1 F x0 x1) == (Pure.spec_GrowNext_1 F x0 x1) else false
def Pure.laws_FnExactGrowNext_ok (F : FOps) (x0 : Int) (x1 : Int) : Bool := bif Pure.impl_GrowNext_ok F x0 x1 then bif FOps.convOk F FloatKind.f32 FloatKind.f64 (Pure.impl_GrowNext F x0 x1) then FOps.convOk F FloatKind.f32 FloatKind.f64 (Pure.spec_GrowNext F x0 x1) else false else false
def c_laws_FnExactGrowNext (F : FOps) : Con
  | [V.at (A.fl FloatKind.f32 x0), V.at (A.fl FloatKind.f32 x1)], [] => some (Pure.laws_FnExactGrowNext_ok F x0 x1, ⟨V.at (A.bool (Pure.laws_FnExactGrowNext F x0 x1)), none, []⟩)
  | _, _ => none
theorem e_laws_FnExactGrowNext (F : FOps) (x0 : Int) (x1 : Int) : Pure.laws_FnExactGrowNext_ok F x0 x1 = true → evFn (cxS F tyl [(14, c_spec_GrowNext F), (15, c_impl_GrowNext F), (16, c_laws_sameFloat F)] [] [] 0) Try.f5 false [V.at (A.fl FloatKind.f32 x0), V.at (A.fl FloatKind.f32 x1)] [] = some ⟨V.at (A.bool (Pure.laws_FnExactGrowNext F x0 x1)), none, []⟩ := by
  have h0 : evFn (cxS F tyl [(14, c_spec_GrowNext F), (15, c_impl_GrowNext F), (16, c_laws_sameFloat F)] [] [] 0) Try.f5 false [V.at (A.fl FloatKind.f32 x0), V.at (A.fl FloatKind.f32 x1)] [] = bif Pure.impl_GrowNext_ok F x0 x1 then bif FOps.convOk F FloatKind.f32 FloatKind.f64 (Pure.impl_GrowNext F x0 x1) then bif FOps.convOk F FloatKind.f32 FloatKind.f64 (Pure.spec_GrowNext F x0 x1) then bif Bool.not (Pure.laws_sameFloat F (FOps.conv F FloatKind.f32 FloatKind.f64 (Pure.impl_GrowNext F x0 x1)) (FOps.conv F FloatKind.f32 FloatKind.f64 (Pure.spec_GrowNext F x0 x1))) then some ⟨V.at (A.bool false), none, []⟩ else bif Bool.not ((Pure.impl_GrowNext_1 F x0 x1) == (Pure.spec_GrowNext_1 F x0 x1)) then some ⟨V.at (A.bool false), none, []⟩ else some ⟨V.at (A.bool true), none, []⟩ else none else none else none := by kernel_rfl
  rw [h0]
  unfold Pure.laws_FnExactGrowNext Pure.laws_FnExactGrowNext_ok
  cases (Pure.impl_GrowNext_ok F x0 x1) with
  | true =>
    cases (FOps.convOk F FloatKind.f32 FloatKind.f64 (Pure.impl_GrowNext F x0 x1)) with
    | true =>
      cases (FOps.convOk F FloatKind.f32 FloatKind.f64 (Pure.spec_GrowNext F x0 x1)) with
      | true =>
        cases (Pure.laws_sameFloat F (FOps.conv F FloatKind.f32 FloatKind.f64 (Pure.impl_GrowNext F x0 x1)) (FOps.conv F FloatKind.f32 FloatKind.f64 (Pure.spec_GrowNext F x0 x1))) with
        | true =>
          cases ((Pure.impl_GrowNext_1 F x0 x1) == (Pure.spec_GrowNext_1 F x0 x1)) with
          | true =>
            intro _; rfl
          | false =>
            intro _; rfl
        | false =>
          intro _; rfl
      | false =>
        intro h; exact absurd h Bool.false_ne_true
    | false =>
      intro h; exact absurd h Bool.false_ne_true
  | false =>
    intro h; exact absurd h Bool.false_ne_true
theorem ok_laws_FnExactGrowNext : CallOK Try.prog 5 (c_laws_FnExactGrowNext real) := by
  refine callOK_of fun args h ret hc => ?_
  unfold c_laws_FnExactGrowNext at hc
  split at hc
  · rename_i x0 x1
    obtain ⟨hok, rfl⟩ := some_ret hc
    exact holds_ev prog_ok (allOK_cons ok_spec_GrowNext (allOK_cons ok_impl_GrowNext (allOK_cons ok_laws_sameFloat allOK_nil))) Try.func5 rfl rfl smL_nil rfl (e_laws_FnExactGrowNext real x0 x1 hok)
  · cases hc
def Pure.spec_l00In (F : FOps) (x0 : Int) (x1 : Int) (x2 : Int) : Bool := bif Decidable.decide (x0 ≥ x1) then Decidable.decide (x0 ≤ x2) else false
def c_spec_l00In (F : FOps) : Con
  | [V.at (A.int IntKind.i64 x0), V.at (A.int IntKind.i64 x1), V.at (A.int IntKind.i64 x2)], [] => some (true, ⟨V.at (A.bool (Pure.spec_l00In F x0 x1 x2)), none, []⟩)
  | _, _ => none
theorem e_spec_l00In (F : FOps) (x0 : Int) (x1 : Int) (x2 : Int) : evFn (cxS F tyl [] [] [] 0) Try.f34 false [V.at (A.int IntKind.i64 x0), V.at (A.int IntKind.i64 x1), V.at (A.int IntKind.i64 x2)] [] = some ⟨V.at (A.bool (Pure.spec_l00In F x0 x1 x2)), none, []⟩ := by
  have h0 : evFn (cxS F tyl [] [] [] 0) Try.f34 false [V.at (A.int IntKind.i64 x0), V.at (A.int IntKind.i64 x1), V.at (A.int IntKind.i64 x2)] [] = bif Decidable.decide (x0 ≥ x1) then some ⟨V.at (A.bool (Decidable.decide (x0 ≤ x2))), none, []⟩ else some ⟨V.at (A.bool false), none, []⟩ := by kernel_rfl
  rw [h0]
  unfold Pure.spec_l00In
  cases (Decidable.decide (x0 ≥ x1)) with
  | true =>
    rfl
  | false =>
    rfl
theorem ok_spec_l00In : CallOK Try.prog 34 (c_spec_l00In real) := by
  refine callOK_of fun args h ret hc => ?_
  unfold c_spec_l00In at hc
  split at hc
  · rename_i x0 x1 x2
    obtain ⟨_, rfl⟩ := some_ret hc
    exact holds_ev prog_ok allOK_nil Try.func34 rfl rfl smL_nil rfl (e_spec_l00In real x0 x1 x2)
  · cases hc
def c_spec_l07Count (F : FOps) : Con
  | [V.at (A.int IntKind.i64 x0), V.at (A.int IntKind.i64 x1)], [] => some (true, ⟨V.at (A.bool (Pure.spec_l00In F x0 x1 128)), none, []⟩)
  | _, _ => none
theorem e_spec_l07Count (F : FOps) (x0 : Int) (x1 : Int) : evFn (cxS F tyl [(34, c_spec_l00In F)] [] [] 0) Try.f47 false [V.at (A.int IntKind.i64 x0), V.at (A.int IntKind.i64 x1)] [] = some ⟨V.at (A.bool (Pure.spec_l00In F x0 x1 128)), none, []⟩ := by
  kernel_rfl
theorem ok_spec_l07Count : CallOK Try.prog 47 (c_spec_l07Count real) := by
  refine callOK_of fun args h ret hc => ?_
  unfold c_spec_l07Count at hc
  split at hc
  · rename_i x0 x1
    obtain ⟨_, rfl⟩ := some_ret hc
    exact holds_ev prog_ok (allOK_cons ok_spec_l00In allOK_nil) Try.func47 rfl rfl smL_nil rfl (e_spec_l07Count real x0 x1)
  · cases hc
def Pure.spec_l07Growth_L0 (F : FOps) (y1 : Int) (y2 : Int) (y3 : Int) : Nat → Int → Int → (List (List Int)) → (Bool × Bool × (List (List Int)) × (List (List Int)))
  | 0, _, _, _ => (false, false, [], [])
  | n + 1, y0, y4, y5 => bif (Decidable.decide (y4 < (IntKind.wrap IntKind.i64 (y2 + y3)))) then (bif (Decidable.decide (y4 > 0)) then (bif (Pure.spec_l01Finite F (Pure.spec_l07Grow F y0 y1)) then (bif (Decidable.decide (y4 ≥ y2)) then (bif (Decidable.decide ((Nat.succ (List.length y5)) ≤ 1073741824)) then (Pure.spec_l07Growth_L0 F y1 y2 y3 n (Pure.spec_l07Grow F y0 y1) (IntKind.wrap IntKind.i64 (y4 + 1)) (y5 ++ [[Pure.spec_l07Grow F y0 y1]])) else ((false, false, [], []))) else (Pure.spec_l07Growth_L0 F y1 y2 y3 n (Pure.spec_l07Grow F y0 y1) (IntKind.wrap IntKind.i64 (y4 + 1)) y5)) else ((true, true, [], y5))) else (bif (Pure.spec_l01Finite F y0) then (bif (Decidable.decide (y4 ≥ y2)) then (bif (Decidable.decide ((Nat.succ (List.length y5)) ≤ 1073741824)) then (Pure.spec_l07Growth_L0 F y1 y2 y3 n y0 (IntKind.wrap IntKind.i64 (y4 + 1)) (y5 ++ [[y0]])) else ((false, false, [], []))) else (Pure.spec_l07Growth_L0 F y1 y2 y3 n y0 (IntKind.wrap IntKind.i64 (y4 + 1)) y5)) else ((true, true, [], y5)))) else ((true, false, y5, []))
def R_spec_l07Growth_L0 (r : (Bool × Bool × (List (List Int)) × (List (List Int)))) : Bool × Bool × (Ex × List V × List Ob) × (Ex × List V × List Ob) := ((r).1, (r).2.1, (Ex.normal, [V.at A.undef, V.at A.undef, V.at (A.sl 0)], [⟨true, OC.rows [K.f FloatKind.f32] (r).2.2.1⟩]), (Ex.ret, [V.at A.nil, V.at (A.bool false), V.at (A.sl 0)], [⟨true, OC.rows [K.f FloatKind.f32] (r).2.2.2⟩]))
def S_spec_l07Growth_L0 (F : FOps) : Sm := ⟨[0, 1, 2, 3, 10, 11], [22, 22, 2, 2, 39, 2], [8, 9, 10], fun vals hp => match vals, hp with
  | [V.at (A.fl FloatKind.f32 y0), V.at (A.fl FloatKind.f32 y1), V.at (A.int IntKind.i64 y2), V.at (A.int IntKind.i64 y3), V.at (A.sl 0), V.at (A.int IntKind.i64 y4)], [⟨true, OC.rows [K.f FloatKind.f32] y5⟩] => some (R_spec_l07Growth_L0  (Pure.spec_l07Growth_L0 F y1 y2 y3 ((IntKind.wrap IntKind.i64 (y2 + y3)) - y4 + 1).toNat y0 y4 y5))
  | _, _ => none⟩
theorem l_spec_l07Growth_L0 (F : FOps) (y1 : Int) (y2 : Int) (y3 : Int) : ∀ (fuel : Nat) (y0 : Int) (y4 : Int) (y5 : List (List Int)), (Pure.spec_l07Growth_L0 F y1 y2 y3 fuel y0 y4 y5).1 = true → loopOf (cxS F tyl [(29, c_spec_l01Finite F), (47, c_spec_l07Count F), (31, c_spec_l07Grow F)] [] [] 0) 0 54 0 [0, 1, 2, 3, 10, 11] [22, 22, 2, 2, 39, 2] [8, 9, 10] (loopB 0 (codeOf Try.f35)) fuel [V.at (A.fl FloatKind.f32 y0), V.at (A.fl FloatKind.f32 y1), V.at (A.int IntKind.i64 y2), V.at (A.int IntKind.i64 y3), V.at (A.sl 0), V.at (A.int IntKind.i64 y4)] [⟨true, OC.rows [K.f FloatKind.f32] y5⟩] = resOf (R_spec_l07Growth_L0  (Pure.spec_l07Growth_L0 F y1 y2 y3 fuel y0 y4 y5)) := by
  intro fuel
  induction fuel with
  | zero => intro y0 y4 y5 h; exact absurd h Bool.false_ne_true
  | succ n ih =>
    intro y0 y4 y5
    have h0 : roundOf (cxS F tyl [(29, c_spec_l01Finite F), (47, c_spec_l07Count F), (31, c_spec_l07Grow F)] [] [] 0) 0 54 0 [0, 1, 2, 3, 10, 11] [22, 22, 2, 2, 39, 2] [8, 9, 10] (loopB 0 (codeOf Try.f35)) [V.at (A.fl FloatKind.f32 y0), V.at (A.fl FloatKind.f32 y1), V.at (A.int IntKind.i64 y2), V.at (A.int IntKind.i64 y3), V.at (A.sl 0), V.at (A.int IntKind.i64 y4)] [⟨true, OC.rows [K.f FloatKind.f32] y5⟩] = (bif Decidable.decide (y4 < (IntKind.wrap IntKind.i64 (y2 + y3))) then bif Decidable.decide (y4 > 0) then bif Bool.not (Pure.spec_l01Finite F (Pure.spec_l07Grow F y0 y1)) then some (false, (Ex.ret, ([V.at A.nil, V.at (A.bool false), V.at (A.sl 0)], [⟨true, OC.rows [K.f FloatKind.f32] y5⟩]))) else bif Decidable.decide (y4 ≥ y2) then bif Decidable.decide ((Nat.succ (List.length y5)) ≤ 1073741824) then some (true, (Ex.normal, ([V.at (A.fl FloatKind.f32 (Pure.spec_l07Grow F y0 y1)), V.at (A.fl FloatKind.f32 y1), V.at (A.int IntKind.i64 y2), V.at (A.int IntKind.i64 y3), V.at (A.sl 0), V.at (A.int IntKind.i64 (IntKind.wrap IntKind.i64 (y4 + 1)))], [⟨true, OC.rows [K.f FloatKind.f32] (y5 ++ [[Pure.spec_l07Grow F y0 y1]])⟩]))) else none else some (true, (Ex.normal, ([V.at (A.fl FloatKind.f32 (Pure.spec_l07Grow F y0 y1)), V.at (A.fl FloatKind.f32 y1), V.at (A.int IntKind.i64 y2), V.at (A.int IntKind.i64 y3), V.at (A.sl 0), V.at (A.int IntKind.i64 (IntKind.wrap IntKind.i64 (y4 + 1)))], [⟨true, OC.rows [K.f FloatKind.f32] y5⟩]))) else bif Bool.not (Pure.spec_l01Finite F y0) then some (false, (Ex.ret, ([V.at A.nil, V.at (A.bool false), V.at (A.sl 0)], [⟨true, OC.rows [K.f FloatKind.f32] y5⟩]))) else bif Decidable.decide (y4 ≥ y2) then bif Decidable.decide ((Nat.succ (List.length y5)) ≤ 1073741824) then some (true, (Ex.normal, ([V.at (A.fl FloatKind.f32 y0), V.at (A.fl FloatKind.f32 y1), V.at (A.int IntKind.i64 y2), V.at (A.int IntKind.i64 y3), V.at (A.sl 0), V.at (A.int IntKind.i64 (IntKind.wrap IntKind.i64 (y4 + 1)))], [⟨true, OC.rows [K.f FloatKind.f32] (y5 ++ [[y0]])⟩]))) else none else some (true, (Ex.normal, ([V.at (A.fl FloatKind.f32 y0), V.at (A.fl FloatKind.f32 y1), V.at (A.int IntKind.i64 y2), V.at (A.int IntKind.i64 y3), V.at (A.sl 0), V.at (A.int IntKind.i64 (IntKind.wrap IntKind.i64 (y4 + 1)))], [⟨true, OC.rows [K.f FloatKind.f32] y5⟩]))) else some (false, (Ex.normal, ([V.at A.undef, V.at A.undef, V.at (A.sl 0)], [⟨true, OC.rows [K.f FloatKind.f32] y5⟩])))) := by kernel_rfl
    unfold loopOf
    rw [h0]
    unfold Pure.spec_l07Growth_L0
    cases (Decidable.decide (y4 < (IntKind.wrap IntKind.i64 (y2 + y3)))) with
    | true =>
      cases (Decidable.decide (y4 > 0)) with
      | true =>
        cases (Pure.spec_l01Finite F (Pure.spec_l07Grow F y0 y1)) with
        | true =>
          cases (Decidable.decide (y4 ≥ y2)) with
          | true =>
            cases (Decidable.decide ((Nat.succ (List.length y5)) ≤ 1073741824)) with
            | true =>
              exact ih _ _ _
            | false =>
              intro h; exact absurd h Bool.false_ne_true
          | false =>
            exact ih _ _ _
        | false =>
          intro _; rfl
      | false =>
        cases (Pure.spec_l01Finite F y0) with
        | true =>
          cases (Decidable.decide (y4 ≥ y2)) with
          | true =>
            cases (Decidable.decide ((Nat.succ (List.length y5)) ≤ 1073741824)) with
            | true =>
              exact ih _ _ _
            | false =>
              intro h; exact absurd h Bool.false_ne_true
          | false =>
            exact ih _ _ _
        | false =>
          intro _; rfl
    | false =>
      intro _; rfl
theorem t_spec_l07Growth_L0 : SmTo Try.prog 0 54 (S_spec_l07Growth_L0 real) 0 (.loop (loopB 0 (codeOf Try.f35))) := by
  refine smTo_ev (cl := [(29, c_spec_l01Finite real), (47, c_spec_l07Count real), (31, c_spec_l07Grow real)]) (ef := []) (sm := []) (un := 0) prog_ok (allOK_cons ok_spec_l01Finite (allOK_cons ok_spec_l07Count (allOK_cons ok_spec_l07Grow allOK_nil))) smL_nil ?_
  intro vals hp q r h hq
  unfold S_spec_l07Growth_L0 at h
  dsimp only at h
  split at h
  · rename_i y0 y1 y2 y3 y4 y5
    obtain rfl := Option.some.inj h
    have h1 := hq
    unfold resOf at h1
    rw [chk_some] at h1
    exact ⟨_, (l_spec_l07Growth_L0 real y1 y2 y3 _ y0 y4 y5 h1.1).trans hq⟩
  · cases h
def Pure.spec_l07Growth (F : FOps) (x0 : Int) (x1 : Int) (x2 : Int) (x3 : Int) : Bool := bif Pure.spec_l01Finite F x0 then bif Pure.spec_l01Finite F x1 then bif Pure.spec_l00In F x2 0 128 then bif Pure.spec_l00In F x3 1 128 then bif Prod.fst (Prod.snd (Pure.spec_l07Growth_L0 F x1 x2 x3 (Int.toNat (((IntKind.wrap IntKind.i64 (x2 + x3)) - 0) + 1)) x0 0 [])) then false else true else false else false else false else false
def Pure.spec_l07Growth_1 (F : FOps) (x0 : Int) (x1 : Int) (x2 : Int) (x3 : Int) : List (List Int) := bif Pure.spec_l01Finite F x0 then bif Pure.spec_l01Finite F x1 then bif Pure.spec_l00In F x2 0 128 then bif Pure.spec_l00In F x3 1 128 then bif Prod.fst (Prod.snd (Pure.spec_l07Growth_L0 F x1 x2 x3 (Int.toNat (((IntKind.wrap IntKind.i64 (x2 + x3)) - 0) + 1)) x0 0 [])) then [] else Prod.fst (Prod.snd (Prod.snd (Pure.spec_l07Growth_L0 F x1 x2 x3 (Int.toNat (((IntKind.wrap IntKind.i64 (x2 + x3)) - 0) + 1)) x0 0 []))) else [] else [] else [] else []
def Pure.spec_l07Growth_ok (F : FOps) (x0 : Int) (x1 : Int) (x2 : Int) (x3 : Int) : Bool := bif Pure.spec_l01Finite F x0 then bif Pure.spec_l01Finite F x1 then bif Pure.spec_l00In F x2 0 128 then bif Pure.spec_l00In F x3 1 128 then Prod.fst (Pure.spec_l07Growth_L0 F x1 x2 x3 (Int.toNat (((IntKind.wrap IntKind.i64 (x2 + x3)) - 0) + 1)) x0 0 []) else true else true else true else true
def c_spec_l07Growth (F : FOps) : Con
  | [V.at (A.fl FloatKind.f32 x0), V.at (A.fl FloatKind.f32 x1), V.at (A.int IntKind.i64 x2), V.at (A.int IntKind.i64 x3)], [] => some (Pure.spec_l07Growth_ok F x0 x1 x2 x3, ⟨V.tup [(false, [A.sl 0]), (false, [A.bool (Pure.spec_l07Growth F x0 x1 x2 x3)])], none, [⟨true, OC.rows [K.f FloatKind.f32] (Pure.spec_l07Growth_1 F x0 x1 x2 x3)⟩]⟩)
  | _, _ => none
theorem e_spec_l07Growth (F : FOps) (x0 : Int) (x1 : Int) (x2 : Int) (x3 : Int) : Pure.spec_l07Growth_ok F x0 x1 x2 x3 = true → evFn (cxS F tyl [(29, c_spec_l01Finite F), (47, c_spec_l07Count F), (31, c_spec_l07Grow F)] [] [(0, S_spec_l07Growth_L0 F)] 0) Try.f35 false [V.at (A.fl FloatKind.f32 x0), V.at (A.fl FloatKind.f32 x1), V.at (A.int IntKind.i64 x2), V.at (A.int IntKind.i64 x3)] [] = some ⟨V.tup [(false, [A.sl 0]), (false, [A.bool (Pure.spec_l07Growth F x0 x1 x2 x3)])], none, [⟨true, OC.rows [K.f FloatKind.f32] (Pure.spec_l07Growth_1 F x0 x1 x2 x3)⟩]⟩ := by
  have h0 : evFn (cxS F tyl [(29, c_spec_l01Finite F), (47, c_spec_l07Count F), (31, c_spec_l07Grow F)] [] [(0, S_spec_l07Growth_L0 F)] 0) Try.f35 false [V.at (A.fl FloatKind.f32 x0), V.at (A.fl FloatKind.f32 x1), V.at (A.int IntKind.i64 x2), V.at (A.int IntKind.i64 x3)] [] = bif Bool.not (Pure.spec_l01Finite F x0) then some ⟨V.tup [(false, [A.sl 0]), (false, [A.bool false])], none, [⟨true, OC.rows [K.f FloatKind.f32] []⟩]⟩ else bif Bool.not (Pure.spec_l01Finite F x1) then some ⟨V.tup [(false, [A.sl 0]), (false, [A.bool false])], none, [⟨true, OC.rows [K.f FloatKind.f32] []⟩]⟩ else bif Bool.not (Pure.spec_l00In F x2 0 128) then some ⟨V.tup [(false, [A.sl 0]), (false, [A.bool false])], none, [⟨true, OC.rows [K.f FloatKind.f32] []⟩]⟩ else bif Bool.not (Pure.spec_l00In F x3 1 128) then some ⟨V.tup [(false, [A.sl 0]), (false, [A.bool false])], none, [⟨true, OC.rows [K.f FloatKind.f32] []⟩]⟩ else bif Prod.fst (Pure.spec_l07Growth_L0 F x1 x2 x3 (Int.toNat (((IntKind.wrap IntKind.i64 (x2 + x3)) - 0) + 1)) x0 0 []) then bif Prod.fst (Prod.snd (Pure.spec_l07Growth_L0 F x1 x2 x3 (Int.toNat (((IntKind.wrap IntKind.i64 (x2 + x3)) - 0) + 1)) x0 0 [])) then some ⟨V.tup [(false, [A.sl 0]), (false, [A.bool false])], none, [⟨true, OC.rows [K.f FloatKind.f32] []⟩]⟩ else some ⟨V.tup [(false, [A.sl 0]), (false, [A.bool true])], none, [⟨true, OC.rows [K.f FloatKind.f32] (Prod.fst (Prod.snd (Prod.snd (Pure.spec_l07Growth_L0 F x1 x2 x3 (Int.toNat (((IntKind.wrap IntKind.i64 (x2 + x3)) - 0) + 1)) x0 0 []))))⟩]⟩ else none := by kernel_rfl
  rw [h0]
  unfold Pure.spec_l07Growth Pure.spec_l07Growth_1 Pure.spec_l07Growth_ok
  cases (Pure.spec_l01Finite F x0) with
  | true =>
    cases (Pure.spec_l01Finite F x1) with
    | true =>
      cases (Pure.spec_l00In F x2 0 128) with
      | true =>
        cases (Pure.spec_l00In F x3 1 128) with
        | true =>
          cases (Prod.fst (Pure.spec_l07Growth_L0 F x1 x2 x3 (Int.toNat (((IntKind.wrap IntKind.i64 (x2 + x3)) - 0) + 1)) x0 0 [])) with
          | true =>
            cases (Prod.fst (Prod.snd (Pure.spec_l07Growth_L0 F x1 x2 x3 (Int.toNat (((IntKind.wrap IntKind.i64 (x2 + x3)) - 0) + 1)) x0 0 []))) with
            | true =>
              intro _; rfl
            | false =>
              intro _; rfl
          | false =>
            intro h; exact absurd h Bool.false_ne_true
        | false =>
          intro _; rfl
      | false =>
        intro _; rfl
    | false =>
      intro _; rfl
  | false =>
    intro _; rfl
theorem ok_spec_l07Growth : CallOK Try.prog 35 (c_spec_l07Growth real) := by
  refine callOK_of fun args h ret hc => ?_
  unfold c_spec_l07Growth at hc
  split at hc
  · rename_i x0 x1 x2 x3
    obtain ⟨hok, rfl⟩ := some_ret hc
    exact holds_ev prog_ok (allOK_cons ok_spec_l01Finite (allOK_cons ok_spec_l07Count (allOK_cons ok_spec_l07Grow allOK_nil))) Try.func35 rfl rfl (smL_cons (body := .loop (loopB 0 (codeOf Try.f35))) (by kernel_rfl) t_spec_l07Growth_L0 smL_nil) rfl (e_spec_l07Growth real x0 x1 x2 x3 hok)
  · cases hc
def Pure.spec_PeriodOf_L0 (F : FOps) (y0 : Int) (y2 : List (List Int)) : Nat → Int → (Bool × Bool × Int)
  | 0, _ => (false, false, 0)
  | n + 1, y1 => bif (Decidable.decide (y1 < (Int.ofNat (List.length y2)))) then (bif (Decidable.decide (0 ≤ y1)) then (bif (Decidable.decide (y1 < (Int.ofNat (List.length y2)))) then (bif (Decidable.decide (0 < (Int.ofNat (List.length y2)))) then (bif (FOps.cmp F BinOp.leq FloatKind.f32 (FOps.bin F BinOp.sub FloatKind.f32 (List.getD (List.getD y2 (Int.toNat y1) []) 0 0) (List.getD (List.getD y2 0 []) 0 0)) y0) then (bif (FOps.cmp F BinOp.leq FloatKind.f32 (FOps.neg F FloatKind.f32 (FOps.bin F BinOp.sub FloatKind.f32 (List.getD (List.getD y2 (Int.toNat y1) []) 0 0) (List.getD (List.getD y2 0 []) 0 0))) y0) then ((true, true, y1)) else (Pure.spec_PeriodOf_L0 F y0 y2 n (IntKind.wrap IntKind.i64 (y1 + 1)))) else (Pure.spec_PeriodOf_L0 F y0 y2 n (IntKind.wrap IntKind.i64 (y1 + 1)))) else ((false, false, 0))) else ((false, false, 0))) else ((false, false, 0))) else ((true, false, 0))
def R_spec_PeriodOf_L0 (r : (Bool × Bool × Int)) : Bool × Bool × (Ex × List V × List Ob) × (Ex × List V × List Ob) := ((r).1, (r).2.1, (Ex.normal, [V.at A.undef, V.at A.undef], []), (Ex.ret, [V.at (A.int IntKind.i64 (r).2.2), V.at (A.bool true)], []))
def S_spec_PeriodOf_L0 (F : FOps) : Sm := ⟨[2, 12, 14], [22, 39, 3], [10, 11], fun vals hp => match vals, hp with
  | [V.at (A.fl FloatKind.f32 y0), V.at (A.sl 0), V.at (A.int IntKind.i64 y1)], [⟨true, OC.rows [K.f FloatKind.f32] y2⟩] => some (R_spec_PeriodOf_L0  (Pure.spec_PeriodOf_L0 F y0 y2 ((Int.ofNat (List.length y2)) - y1 + 1).toNat y1))
  | _, _ => none⟩
theorem l_spec_PeriodOf_L0 (F : FOps) (y0 : Int) (y2 : List (List Int)) : ∀ (fuel : Nat) (y1 : Int), (Pure.spec_PeriodOf_L0 F y0 y2 fuel y1).1 = true → loopOf (cxS F tyl [(34, c_spec_l00In F), (35, c_spec_l07Growth F)] [] [] 0) 0 54 0 [2, 12, 14] [22, 39, 3] [10, 11] (loopB 0 (codeOf Try.f17)) fuel [V.at (A.fl FloatKind.f32 y0), V.at (A.sl 0), V.at (A.int IntKind.i64 y1)] [⟨true, OC.rows [K.f FloatKind.f32] y2⟩] = resOf (R_spec_PeriodOf_L0  (Pure.spec_PeriodOf_L0 F y0 y2 fuel y1)) := by
  intro fuel
  induction fuel with
  | zero => intro y1 h; exact absurd h Bool.false_ne_true
  | succ n ih =>
    intro y1
    have h0 : roundOf (cxS F tyl [(34, c_spec_l00In F), (35, c_spec_l07Growth F)] [] [] 0) 0 54 0 [2, 12, 14] [22, 39, 3] [10, 11] (loopB 0 (codeOf Try.f17)) [V.at (A.fl FloatKind.f32 y0), V.at (A.sl 0), V.at (A.int IntKind.i64 y1)] [⟨true, OC.rows [K.f FloatKind.f32] y2⟩] = (bif Decidable.decide (y1 < (Int.ofNat (List.length y2))) then bif Decidable.decide (0 ≤ y1) then bif Decidable.decide (y1 < (Int.ofNat (List.length y2))) then bif Decidable.decide (0 < (Int.ofNat (List.length y2))) then bif FOps.cmp F BinOp.leq FloatKind.f32 (FOps.bin F BinOp.sub FloatKind.f32 (List.getD (List.getD y2 (Int.toNat y1) []) 0 0) (List.getD (List.getD y2 0 []) 0 0)) y0 then bif FOps.cmp F BinOp.leq FloatKind.f32 (FOps.neg F FloatKind.f32 (FOps.bin F BinOp.sub FloatKind.f32 (List.getD (List.getD y2 (Int.toNat y1) []) 0 0) (List.getD (List.getD y2 0 []) 0 0))) y0 then some (false, (Ex.ret, ([V.at (A.int IntKind.i64 y1), V.at (A.bool true)], []))) else some (true, (Ex.normal, ([V.at (A.fl FloatKind.f32 y0), V.at (A.sl 0), V.at (A.int IntKind.i64 (IntKind.wrap IntKind.i64 (y1 + 1)))], [⟨true, OC.rows [K.f FloatKind.f32] y2⟩]))) else some (true, (Ex.normal, ([V.at (A.fl FloatKind.f32 y0), V.at (A.sl 0), V.at (A.int IntKind.i64 (IntKind.wrap IntKind.i64 (y1 + 1)))], [⟨true, OC.rows [K.f FloatKind.f32] y2⟩]))) else none else none else none else some (false, (Ex.normal, ([V.at A.undef, V.at A.undef], [])))) := by kernel_rfl
    unfold loopOf
    rw [h0]
    unfold Pure.spec_PeriodOf_L0
    cases (Decidable.decide (y1 < (Int.ofNat (List.length y2)))) with
    | true =>
      cases (Decidable.decide (0 ≤ y1)) with
      | true =>
        cases (Decidable.decide (0 < (Int.ofNat (List.length y2)))) with
        | true =>
          cases (FOps.cmp F BinOp.leq FloatKind.f32 (FOps.bin F BinOp.sub FloatKind.f32 (List.getD (List.getD y2 (Int.toNat y1) []) 0 0) (List.getD (List.getD y2 0 []) 0 0)) y0) with
          | true =>
            cases (FOps.cmp F BinOp.leq FloatKind.f32 (FOps.neg F FloatKind.f32 (FOps.bin F BinOp.sub FloatKind.f32 (List.getD (List.getD y2 (Int.toNat y1) []) 0 0) (List.getD (List.getD y2 0 []) 0 0))) y0) with
            | true =>
              intro _; rfl
            | false =>
              exact ih _
          | false =>
            exact ih _
        | false =>
          intro h; exact absurd h Bool.false_ne_true
      | false =>
        intro h; exact absurd h Bool.false_ne_true
    | false =>
      intro _; rfl
theorem t_spec_PeriodOf_L0 : SmTo Try.prog 0 54 (S_spec_PeriodOf_L0 real) 0 (.loop (loopB 0 (codeOf Try.f17))) := by
  refine smTo_ev (cl := [(34, c_spec_l00In real), (35, c_spec_l07Growth real)]) (ef := []) (sm := []) (un := 0) prog_ok (allOK_cons ok_spec_l00In (allOK_cons ok_spec_l07Growth allOK_nil)) smL_nil ?_
  intro vals hp q r h hq
  unfold S_spec_PeriodOf_L0 at h
  dsimp only at h
  split at h
  · rename_i y0 y1 y2
    obtain rfl := Option.some.inj h
    have h1 := hq
    unfold resOf at h1
    rw [chk_some] at h1
    exact ⟨_, (l_spec_PeriodOf_L0 real y0 y2 _ y1 h1.1).trans hq⟩
  · cases h
def Pure.spec_PeriodOf (F : FOps) (x0 : Int) (x1 : Int) (x2 : Int) (x3 : Int) (x4 : Int) : Int := bif Pure.spec_l00In F x4 1 64 then bif Pure.spec_l07Growth F x0 x1 x3 (IntKind.wrap IntKind.i64 (x4 + 1)) then bif Prod.fst (Prod.snd (Pure.spec_PeriodOf_L0 F x2 (Pure.spec_l07Growth_1 F x0 x1 x3 (IntKind.wrap IntKind.i64 (x4 + 1))) (Int.toNat (((Int.ofNat (List.length (Pure.spec_l07Growth_1 F x0 x1 x3 (IntKind.wrap IntKind.i64 (x4 + 1))))) - 1) + 1)) 1)) then Prod.snd (Prod.snd (Pure.spec_PeriodOf_L0 F x2 (Pure.spec_l07Growth_1 F x0 x1 x3 (IntKind.wrap IntKind.i64 (x4 + 1))) (Int.toNat (((Int.ofNat (List.length (Pure.spec_l07Growth_1 F x0 x1 x3 (IntKind.wrap IntKind.i64 (x4 + 1))))) - 1) + 1)) 1)) else 0 else 0 else 0
def Pure.spec_PeriodOf_1 (F : FOps) (x0 : Int) (x1 : Int) (x2 : Int) (x3 : Int) (x4 : Int) : Bool := bif Pure.spec_l00In F x4 1 64 then bif Pure.spec_l07Growth F x0 x1 x3 (IntKind.wrap IntKind.i64 (x4 + 1)) then Prod.fst (Prod.snd (Pure.spec_PeriodOf_L0 F x2 (Pure.spec_l07Growth_1 F x0 x1 x3 (IntKind.wrap IntKind.i64 (x4 + 1))) (Int.toNat (((Int.ofNat (List.length (Pure.spec_l07Growth_1 F x0 x1 x3 (IntKind.wrap IntKind.i64 (x4 + 1))))) - 1) + 1)) 1)) else false else false
def Pure.spec_PeriodOf_ok (F : FOps) (x0 : Int) (x1 : Int) (x2 : Int) (x3 : Int) (x4 : Int) : Bool := bif Pure.spec_l00In F x4 1 64 then bif Pure.spec_l07Growth_ok F x0 x1 x3 (IntKind.wrap IntKind.i64 (x4 + 1)) then bif Pure.spec_l07Growth F x0 x1 x3 (IntKind.wrap IntKind.i64 (x4 + 1)) then Prod.fst (Pure.spec_PeriodOf_L0 F x2 (Pure.spec_l07Growth_1 F x0 x1 x3 (IntKind.wrap IntKind.i64 (x4 + 1))) (Int.toNat (((Int.ofNat (List.length (Pure.spec_l07Growth_1 F x0 x1 x3 (IntKind.wrap IntKind.i64 (x4 + 1))))) - 1) + 1)) 1) else true else false else true
def c_spec_PeriodOf (F : FOps) : Con
  | [V.at (A.fl FloatKind.f32 x0), V.at (A.fl FloatKind.f32 x1), V.at (A.fl FloatKind.f32 x2), V.at (A.int IntKind.i64 x3), V.at (A.int IntKind.i64 x4)], [] => some (Pure.spec_PeriodOf_ok F x0 x1 x2 x3 x4, ⟨V.tup [(false, [A.int IntKind.i64 (Pure.spec_PeriodOf F x0 x1 x2 x3 x4)]), (false, [A.bool (Pure.spec_PeriodOf_1 F x0 x1 x2 x3 x4)])], none, []⟩)
  | _, _ => none
theorem e_spec_PeriodOf (F : FOps) (x0 : Int) (x1 : Int) (x2 : Int) (x3 : Int) (x4 : Int) : Pure.spec_PeriodOf_ok F x0 x1 x2 x3 x4 = true → evFn (cxS F tyl [(34, c_spec_l00In F), (35, c_spec_l07Growth F)] [] [(0, S_spec_PeriodOf_L0 F)] 0) Try.f17 false [V.at (A.fl FloatKind.f32 x0), V.at (A.fl FloatKind.f32 x1), V.at (A.fl FloatKind.f32 x2), V.at (A.int IntKind.i64 x3), V.at (A.int IntKind.i64 x4)] [] = some ⟨V.tup [(false, [A.int IntKind.i64 (Pure.spec_PeriodOf F x0 x1 x2 x3 x4)]), (false, [A.bool (Pure.spec_PeriodOf_1 F x0 x1 x2 x3 x4)])], none, []⟩ := by
  have h0 : evFn (cxS F tyl [(34, c_spec_l00In F), (35, c_spec_l07Growth F)] [] [(0, S_spec_PeriodOf_L0 F)] 0) Try.f17 false [V.at (A.fl FloatKind.f32 x0), V.at (A.fl FloatKind.f32 x1), V.at (A.fl FloatKind.f32 x2), V.at (A.int IntKind.i64 x3), V.at (A.int IntKind.i64 x4)] [] = bif Bool.not (Pure.spec_l00In F x4 1 64) then some ⟨V.tup [(false, [A.int IntKind.i64 0]), (false, [A.bool false])], none, []⟩ else bif Pure.spec_l07Growth_ok F x0 x1 x3 (IntKind.wrap IntKind.i64 (x4 + 1)) then bif Bool.not (Pure.spec_l07Growth F x0 x1 x3 (IntKind.wrap IntKind.i64 (x4 + 1))) then some ⟨V.tup [(false, [A.int IntKind.i64 0]), (false, [A.bool false])], none, []⟩ else bif Prod.fst (Pure.spec_PeriodOf_L0 F x2 (Pure.spec_l07Growth_1 F x0 x1 x3 (IntKind.wrap IntKind.i64 (x4 + 1))) (Int.toNat (((Int.ofNat (List.length (Pure.spec_l07Growth_1 F x0 x1 x3 (IntKind.wrap IntKind.i64 (x4 + 1))))) - 1) + 1)) 1) then bif Prod.fst (Prod.snd (Pure.spec_PeriodOf_L0 F x2 (Pure.spec_l07Growth_1 F x0 x1 x3 (IntKind.wrap IntKind.i64 (x4 + 1))) (Int.toNat (((Int.ofNat (List.length (Pure.spec_l07Growth_1 F x0 x1 x3 (IntKind.wrap IntKind.i64 (x4 + 1))))) - 1) + 1)) 1)) then some ⟨V.tup [(false, [A.int IntKind.i64 (Prod.snd (Prod.snd (Pure.spec_PeriodOf_L0 F x2 (Pure.spec_l07Growth_1 F x0 x1 x3 (IntKind.wrap IntKind.i64 (x4 + 1))) (Int.toNat (((Int.ofNat (List.length (Pure.spec_l07Growth_1 F x0 x1 x3 (IntKind.wrap IntKind.i64 (x4 + 1))))) - 1) + 1)) 1)))]), (false, [A.bool true])], none, []⟩ else some ⟨V.tup [(false, [A.int IntKind.i64 0]), (false, [A.bool false])], none, []⟩ else none else none := by kernel_rfl
  rw [h0]
  unfold Pure.spec_PeriodOf Pure.spec_PeriodOf_1 Pure.spec_PeriodOf_ok
  cases (Pure.spec_l00In F x4 1 64) with
  | true =>
    cases (Pure.spec_l07Growth_ok F x0 x1 x3 (IntKind.wrap IntKind.i64 (x4 + 1))) with
    | true =>
      cases (Pure.spec_l07Growth F x0 x1 x3 (IntKind.wrap IntKind.i64 (x4 + 1))) with
      | true =>
        cases (Prod.fst (Pure.spec_PeriodOf_L0 F x2 (Pure.spec_l07Growth_1 F x0 x1 x3 (IntKind.wrap IntKind.i64 (x4 + 1))) (Int.toNat (((Int.ofNat (List.length (Pure.spec_l07Growth_1 F x0 x1 x3 (IntKind.wrap IntKind.i64 (x4 + 1))))) - 1) + 1)) 1)) with
        | true =>
          cases (Prod.fst (Prod.snd (Pure.spec_PeriodOf_L0 F x2 (Pure.spec_l07Growth_1 F x0 x1 x3 (IntKind.wrap IntKind.i64 (x4 + 1))) (Int.toNat (((Int.ofNat (List.length (Pure.spec_l07Growth_1 F x0 x1 x3 (IntKind.wrap IntKind.i64 (x4 + 1))))) - 1) + 1)) 1))) with
          | true =>
            intro _; rfl
          | false =>
            intro _; rfl
        | false =>
          intro h; exact absurd h Bool.false_ne_true
      | false =>
        intro _; rfl
    | false =>
      intro h; exact absurd h Bool.false_ne_true
  | false =>
    intro _; rfl
theorem ok_spec_PeriodOf : CallOK Try.prog 17 (c_spec_PeriodOf real) := by
  refine callOK_of fun args h ret hc => ?_
  unfold c_spec_PeriodOf at hc
  split at hc
  · rename_i x0 x1 x2 x3 x4
    obtain ⟨hok, rfl⟩ := some_ret hc
    exact holds_ev prog_ok (allOK_cons ok_spec_l00In (allOK_cons ok_spec_l07Growth allOK_nil)) Try.func17 rfl rfl (smL_cons (body := .loop (loopB 0 (codeOf Try.f17))) (by kernel_rfl) t_spec_PeriodOf_L0 smL_nil) rfl (e_spec_PeriodOf real x0 x1 x2 x3 x4 hok)
  · cases hc
def Pure.impl_in (F : FOps) (x0 : Int) (x1 : Int) (x2 : Int) : Bool := bif Decidable.decide (x0 ≥ x1) then Decidable.decide (x0 ≤ x2) else false
def c_impl_in (F : FOps) : Con
  | [V.at (A.int IntKind.i64 x0), V.at (A.int IntKind.i64 x1), V.at (A.int IntKind.i64 x2)], [] => some (true, ⟨V.at (A.bool (Pure.impl_in F x0 x1 x2)), none, []⟩)
  | _, _ => none
theorem e_impl_in (F : FOps) (x0 : Int) (x1 : Int) (x2 : Int) : evFn (cxS F tyl [] [] [] 0) Try.f36 false [V.at (A.int IntKind.i64 x0), V.at (A.int IntKind.i64 x1), V.at (A.int IntKind.i64 x2)] [] = some ⟨V.at (A.bool (Pure.impl_in F x0 x1 x2)), none, []⟩ := by
  have h0 : evFn (cxS F tyl [] [] [] 0) Try.f36 false [V.at (A.int IntKind.i64 x0), V.at (A.int IntKind.i64 x1), V.at (A.int IntKind.i64 x2)] [] = bif Decidable.decide (x0 ≥ x1) then some ⟨V.at (A.bool (Decidable.decide (x0 ≤ x2))), none, []⟩ else some ⟨V.at (A.bool false), none, []⟩ := by kernel_rfl
  rw [h0]
  unfold Pure.impl_in
  cases (Decidable.decide (x0 ≥ x1)) with
  | true =>
    rfl
  | false =>
    rfl
theorem ok_impl_in : CallOK Try.prog 36 (c_impl_in real) := by
  refine callOK_of fun args h ret hc => ?_
  unfold c_impl_in at hc
  split at hc
  · rename_i x0 x1 x2
    obtain ⟨_, rfl⟩ := some_ret hc
    exact holds_ev prog_ok allOK_nil Try.func36 rfl rfl smL_nil rfl (e_impl_in real x0 x1 x2)
  · cases hc
def c_slices_Clone_float32_float32 (_ : FOps) : Con
  | [V.at (A.sl 0)], [⟨false, OC.rows [K.f FloatKind.f32] x0⟩] => some (decide (x0.length ≤ 1073741824), ⟨V.at (A.sl 1), none, [⟨true, OC.rows [K.f FloatKind.f32] x0⟩]⟩)
  | _, _ => none
theorem ok_slices_Clone_float32_float32 : CallOK Try.prog 38 (c_slices_Clone_float32_float32 real) := by
  refine callOK_of fun args h ret hc => ?_
  unfold c_slices_Clone_float32_float32 at hc
  split at hc
  · rename_i x0
    obtain ⟨hok, rfl⟩ := some_ret hc
    refine holds_of_nilcmp (cx := cxS real tyl [] [] [] 0) (cxS_ok prog_ok.ty allOK_nil) prog_ok.mix Try.func38 (o0 := opC 0 (codeOf Try.f38)) (o1 := opC 1 (codeOf Try.f38)) (o2 := opC 2 (codeOf Try.f38)) (i0 := 0) (i1 := 1) (cnd := cndC (codeOf Try.f38)) (rest := endC (codeOf Try.f38)) (t := 39)
      (by kernel_rfl) (by decide) rfl ⟨by kernel_rfl, by kernel_rfl, by kernel_rfl⟩ ⟨by kernel_rfl, by kernel_rfl, by kernel_rfl⟩ ⟨by kernel_rfl, by kernel_rfl, by kernel_rfl⟩ ⟨22, by kernel_rfl⟩ (smL_sms smL_nil) ?_
    intro b hb
    cases b with
    | true => obtain rfl := hb rfl; kernel_rfl
    | false =>
      clear hb hc
      revert hok
      generalize hg : decide (x0.length ≤ 1073741824) = q
      intro hok
      subst hok
      have h0 : ∀ F : FOps, evC (cxS F tyl [] [] [] 0) 1 (restC (codeOf Try.f38)) ⟨[.at (.sl 0), .at .void, .at .nil, .at (.sl 0), .at (.bool false), .at .void, .at .void, .at .void], [⟨false, .rows [K.f FloatKind.f32] x0⟩]⟩ (fun e st => match e with | .normal => finish (cxS F tyl [] [] [] 0) Try.f38 false 1 st | .ret => finish (cxS F tyl [] [] [] 0) Try.f38 false 1 st | .exit _ => none) = bif decide (x0.length ≤ 1073741824) then some ⟨V.at (A.sl 1), none, [⟨true, OC.rows [K.f FloatKind.f32] x0⟩]⟩ else none := by
        intro F
        kernel_rfl
      rw [hg] at h0
      exact h0 real
  · cases hc
def Pure.impl_GrowOrbit_L0 (F : FOps) (y0 : Int) (y1 : Int) (y2 : Int) : Nat → Int → (List (List Int)) → (Bool × Bool × (List (List Int)) × (List (List Int)))
  | 0, _, _ => (false, false, [], [])
  | n + 1, y3, y4 => bif (Decidable.decide (y3 < y2)) then (bif (Decidable.decide (0 ≤ (IntKind.wrap IntKind.i64 ((Int.ofNat (List.length y4)) - 1)))) then (bif (Decidable.decide ((IntKind.wrap IntKind.i64 ((Int.ofNat (List.length y4)) - 1)) < (Int.ofNat (List.length y4)))) then (bif (Pure.impl_GrowNext_ok F (List.getD (List.getD y4 (Int.toNat (IntKind.wrap IntKind.i64 ((Int.ofNat (List.length y4)) - 1))) []) 0 0) y0) then (bif (Pure.impl_GrowNext_1 F (List.getD (List.getD y4 (Int.toNat (IntKind.wrap IntKind.i64 ((Int.ofNat (List.length y4)) - 1))) []) 0 0) y0) then (bif (Decidable.decide ((Nat.succ (List.length y4)) ≤ 1073741824)) then (Pure.impl_GrowOrbit_L0 F y0 y1 y2 n (IntKind.wrap IntKind.i64 (y3 + 1)) (y4 ++ [[Pure.impl_GrowNext F (List.getD (List.getD y4 (Int.toNat (IntKind.wrap IntKind.i64 ((Int.ofNat (List.length y4)) - 1))) []) 0 0) y0]])) else ((false, false, [], []))) else ((true, true, [], y4))) else ((false, false, [], []))) else ((false, false, [], []))) else ((false, false, [], []))) else ((true, false, y4, []))
def R_impl_GrowOrbit_L0 (y1 : Int) (r : (Bool × Bool × (List (List Int)) × (List (List Int)))) : Bool × Bool × (Ex × List V × List Ob) × (Ex × List V × List Ob) := ((r).1, (r).2.1, (Ex.normal, [V.at (A.int IntKind.i64 y1), V.at A.undef, V.at A.undef, V.at (A.sl 0)], [⟨true, OC.rows [K.f FloatKind.f32] (r).2.2.1⟩]), (Ex.ret, [V.at (A.int IntKind.i64 y1), V.at A.nil, V.at (A.bool false), V.at (A.sl 0)], [⟨true, OC.rows [K.f FloatKind.f32] (r).2.2.2⟩]))
def S_impl_GrowOrbit_L0 (F : FOps) : Sm := ⟨[1, 2, 10, 33, 34], [22, 2, 39, 2, 2], [2, 8, 9, 10], fun vals hp => match vals, hp with
  | [V.at (A.fl FloatKind.f32 y0), V.at (A.int IntKind.i64 y1), V.at (A.sl 0), V.at (A.int IntKind.i64 y2), V.at (A.int IntKind.i64 y3)], [⟨true, OC.rows [K.f FloatKind.f32] y4⟩] => some (R_impl_GrowOrbit_L0 y1 (Pure.impl_GrowOrbit_L0 F y0 y1 y2 (y2 - y3 + 1).toNat y3 y4))
  | _, _ => none⟩
theorem l_impl_GrowOrbit_L0 (F : FOps) (y0 : Int) (y1 : Int) (y2 : Int) : ∀ (fuel : Nat) (y3 : Int) (y4 : List (List Int)), (Pure.impl_GrowOrbit_L0 F y0 y1 y2 fuel y3 y4).1 = true → loopOf (cxS F tyl [(32, c_impl_finite F), (36, c_impl_in F), (15, c_impl_GrowNext F), (38, c_slices_Clone_float32_float32 F)] [] [] 0) 0 58 0 [1, 2, 10, 33, 34] [22, 2, 39, 2, 2] [2, 8, 9, 10] (loopB 0 (codeOf Try.f20)) fuel [V.at (A.fl FloatKind.f32 y0), V.at (A.int IntKind.i64 y1), V.at (A.sl 0), V.at (A.int IntKind.i64 y2), V.at (A.int IntKind.i64 y3)] [⟨true, OC.rows [K.f FloatKind.f32] y4⟩] = resOf (R_impl_GrowOrbit_L0 y1 (Pure.impl_GrowOrbit_L0 F y0 y1 y2 fuel y3 y4)) := by
  intro fuel
  induction fuel with
  | zero => intro y3 y4 h; exact absurd h Bool.false_ne_true
  | succ n ih =>
    intro y3 y4
    have h0 : roundOf (cxS F tyl [(32, c_impl_finite F), (36, c_impl_in F), (15, c_impl_GrowNext F), (38, c_slices_Clone_float32_float32 F)] [] [] 0) 0 58 0 [1, 2, 10, 33, 34] [22, 2, 39, 2, 2] [2, 8, 9, 10] (loopB 0 (codeOf Try.f20)) [V.at (A.fl FloatKind.f32 y0), V.at (A.int IntKind.i64 y1), V.at (A.sl 0), V.at (A.int IntKind.i64 y2), V.at (A.int IntKind.i64 y3)] [⟨true, OC.rows [K.f FloatKind.f32] y4⟩] = (bif Decidable.decide (y3 < y2) then bif Decidable.decide (0 ≤ (IntKind.wrap IntKind.i64 ((Int.ofNat (List.length y4)) - 1))) then bif Decidable.decide ((IntKind.wrap IntKind.i64 ((Int.ofNat (List.length y4)) - 1)) < (Int.ofNat (List.length y4))) then bif Pure.impl_GrowNext_ok F (List.getD (List.getD y4 (Int.toNat (IntKind.wrap IntKind.i64 ((Int.ofNat (List.length y4)) - 1))) []) 0 0) y0 then bif Bool.not (Pure.impl_GrowNext_1 F (List.getD (List.getD y4 (Int.toNat (IntKind.wrap IntKind.i64 ((Int.ofNat (List.length y4)) - 1))) []) 0 0) y0) then some (false, (Ex.ret, ([V.at (A.int IntKind.i64 y1), V.at A.nil, V.at (A.bool false), V.at (A.sl 0)], [⟨true, OC.rows [K.f FloatKind.f32] y4⟩]))) else bif Decidable.decide ((Nat.succ (List.length y4)) ≤ 1073741824) then some (true, (Ex.normal, ([V.at (A.fl FloatKind.f32 y0), V.at (A.int IntKind.i64 y1), V.at (A.sl 0), V.at (A.int IntKind.i64 y2), V.at (A.int IntKind.i64 (IntKind.wrap IntKind.i64 (y3 + 1)))], [⟨true, OC.rows [K.f FloatKind.f32] (y4 ++ [[Pure.impl_GrowNext F (List.getD (List.getD y4 (Int.toNat (IntKind.wrap IntKind.i64 ((Int.ofNat (List.length y4)) - 1))) []) 0 0) y0]])⟩]))) else none else none else none else none else some (false, (Ex.normal, ([V.at (A.int IntKind.i64 y1), V.at A.undef, V.at A.undef, V.at (A.sl 0)], [⟨true, OC.rows [K.f FloatKind.f32] y4⟩])))) := by kernel_rfl
    unfold loopOf
    rw [h0]
    unfold Pure.impl_GrowOrbit_L0
    cases (Decidable.decide (y3 < y2)) with
    | true =>
      cases (Decidable.decide (0 ≤ (IntKind.wrap IntKind.i64 ((Int.ofNat (List.length y4)) - 1)))) with
      | true =>
        cases (Decidable.decide ((IntKind.wrap IntKind.i64 ((Int.ofNat (List.length y4)) - 1)) < (Int.ofNat (List.length y4)))) with
        | true =>
          cases (Pure.impl_GrowNext_ok F (List.getD (List.getD y4 (Int.toNat (IntKind.wrap IntKind.i64 ((Int.ofNat (List.length y4)) - 1))) []) 0 0) y0) with
          | true =>
            cases (Pure.impl_GrowNext_1 F (List.getD (List.getD y4 (Int.toNat (IntKind.wrap IntKind.i64 ((Int.ofNat (List.length y4)) - 1))) []) 0 0) y0) with
            | true =>
              cases (Decidable.decide ((Nat.succ (List.length y4)) ≤ 1073741824)) with
              | true =>
                exact ih _ _
              | false =>
                intro h; exact absurd h Bool.false_ne_true
            | false =>
              intro _; rfl
          | false =>
            intro h; exact absurd h Bool.false_ne_true
        | false =>
          intro h; exact absurd h Bool.false_ne_true
      | false =>
        intro h; exact absurd h Bool.false_ne_true
    | false =>
      intro _; rfl
theorem t_impl_GrowOrbit_L0 : SmTo Try.prog 0 58 (S_impl_GrowOrbit_L0 real) 0 (.loop (loopB 0 (codeOf Try.f20))) := by
  refine smTo_ev (cl := [(32, c_impl_finite real), (36, c_impl_in real), (15, c_impl_GrowNext real), (38, c_slices_Clone_float32_float32 real)]) (ef := []) (sm := []) (un := 0) prog_ok (allOK_cons ok_impl_finite (allOK_cons ok_impl_in (allOK_cons ok_impl_GrowNext (allOK_cons ok_slices_Clone_float32_float32 allOK_nil)))) smL_nil ?_
  intro vals hp q r h hq
  unfold S_impl_GrowOrbit_L0 at h
  dsimp only at h
  split at h
  · rename_i y0 y1 y2 y3 y4
    obtain rfl := Option.some.inj h
    have h1 := hq
    unfold resOf at h1
    rw [chk_some] at h1
    exact ⟨_, (l_impl_GrowOrbit_L0 real y0 y1 y2 _ y3 y4 h1.1).trans hq⟩
  · cases h
def Pure.impl_GrowOrbit (F : FOps) (x0 : Int) (x1 : Int) (x2 : Int) (x3 : Int) : Bool := bif Pure.impl_finite F [[x0], [x1]] then bif Pure.impl_in F x2 0 128 then bif Pure.impl_in F x3 1 128 then bif Prod.fst (Prod.snd (Pure.impl_GrowOrbit_L0 F x1 x2 (IntKind.wrap IntKind.i64 ((IntKind.wrap IntKind.i64 (x2 + x3)) - 1)) (Int.toNat (((IntKind.wrap IntKind.i64 ((IntKind.wrap IntKind.i64 (x2 + x3)) - 1)) - 0) + 1)) 0 [[x0]])) then false else true else false else false else false
def Pure.impl_GrowOrbit_1 (F : FOps) (x0 : Int) (x1 : Int) (x2 : Int) (x3 : Int) : List (List Int) := bif Pure.impl_finite F [[x0], [x1]] then bif Pure.impl_in F x2 0 128 then bif Pure.impl_in F x3 1 128 then bif Prod.fst (Prod.snd (Pure.impl_GrowOrbit_L0 F x1 x2 (IntKind.wrap IntKind.i64 ((IntKind.wrap IntKind.i64 (x2 + x3)) - 1)) (Int.toNat (((IntKind.wrap IntKind.i64 ((IntKind.wrap IntKind.i64 (x2 + x3)) - 1)) - 0) + 1)) 0 [[x0]])) then [] else List.take ((List.length (Prod.fst (Prod.snd (Prod.snd (Pure.impl_GrowOrbit_L0 F x1 x2 (IntKind.wrap IntKind.i64 ((IntKind.wrap IntKind.i64 (x2 + x3)) - 1)) (Int.toNat (((IntKind.wrap IntKind.i64 ((IntKind.wrap IntKind.i64 (x2 + x3)) - 1)) - 0) + 1)) 0 [[x0]]))))) - (Int.toNat x2)) (List.drop (Int.toNat x2) (Prod.fst (Prod.snd (Prod.snd (Pure.impl_GrowOrbit_L0 F x1 x2 (IntKind.wrap IntKind.i64 ((IntKind.wrap IntKind.i64 (x2 + x3)) - 1)) (Int.toNat (((IntKind.wrap IntKind.i64 ((IntKind.wrap IntKind.i64 (x2 + x3)) - 1)) - 0) + 1)) 0 [[x0]]))))) else [] else [] else []
def Pure.impl_GrowOrbit_ok (F : FOps) (x0 : Int) (x1 : Int) (x2 : Int) (x3 : Int) : Bool := bif Pure.impl_finite_ok F [[x0], [x1]] then bif Pure.impl_finite F [[x0], [x1]] then bif Pure.impl_in F x2 0 128 then bif Pure.impl_in F x3 1 128 then bif Prod.fst (Pure.impl_GrowOrbit_L0 F x1 x2 (IntKind.wrap IntKind.i64 ((IntKind.wrap IntKind.i64 (x2 + x3)) - 1)) (Int.toNat (((IntKind.wrap IntKind.i64 ((IntKind.wrap IntKind.i64 (x2 + x3)) - 1)) - 0) + 1)) 0 [[x0]]) then bif Prod.fst (Prod.snd (Pure.impl_GrowOrbit_L0 F x1 x2 (IntKind.wrap IntKind.i64 ((IntKind.wrap IntKind.i64 (x2 + x3)) - 1)) (Int.toNat (((IntKind.wrap IntKind.i64 ((IntKind.wrap IntKind.i64 (x2 + x3)) - 1)) - 0) + 1)) 0 [[x0]])) then true else bif Decidable.decide (0 ≤ x2) then bif Decidable.decide (x2 ≤ (Int.ofNat (List.length (Prod.fst (Prod.snd (Prod.snd (Pure.impl_GrowOrbit_L0 F x1 x2 (IntKind.wrap IntKind.i64 ((IntKind.wrap IntKind.i64 (x2 + x3)) - 1)) (Int.toNat (((IntKind.wrap IntKind.i64 ((IntKind.wrap IntKind.i64 (x2 + x3)) - 1)) - 0) + 1)) 0 [[x0]]))))))) then Decidable.decide ((List.length (List.take ((List.length (Prod.fst (Prod.snd (Prod.snd (Pure.impl_GrowOrbit_L0 F x1 x2 (IntKind.wrap IntKind.i64 ((IntKind.wrap IntKind.i64 (x2 + x3)) - 1)) (Int.toNat (((IntKind.wrap IntKind.i64 ((IntKind.wrap IntKind.i64 (x2 + x3)) - 1)) - 0) + 1)) 0 [[x0]]))))) - (Int.toNat x2)) (List.drop (Int.toNat x2) (Prod.fst (Prod.snd (Prod.snd (Pure.impl_GrowOrbit_L0 F x1 x2 (IntKind.wrap IntKind.i64 ((IntKind.wrap IntKind.i64 (x2 + x3)) - 1)) (Int.toNat (((IntKind.wrap IntKind.i64 ((IntKind.wrap IntKind.i64 (x2 + x3)) - 1)) - 0) + 1)) 0 [[x0]]))))))) ≤ 1073741824) else false else false else false else true else true else true else false
def c_impl_GrowOrbit (F : FOps) : Con
  | [V.at (A.fl FloatKind.f32 x0), V.at (A.fl FloatKind.f32 x1), V.at (A.int IntKind.i64 x2), V.at (A.int IntKind.i64 x3)], [] => some (Pure.impl_GrowOrbit_ok F x0 x1 x2 x3, ⟨V.tup [(false, [A.sl 0]), (false, [A.bool (Pure.impl_GrowOrbit F x0 x1 x2 x3)])], none, [⟨true, OC.rows [K.f FloatKind.f32] (Pure.impl_GrowOrbit_1 F x0 x1 x2 x3)⟩]⟩)
  | _, _ => none
theorem e_impl_GrowOrbit (F : FOps) (x0 : Int) (x1 : Int) (x2 : Int) (x3 : Int) : Pure.impl_GrowOrbit_ok F x0 x1 x2 x3 = true → evFn (cxS F tyl [(32, c_impl_finite F), (36, c_impl_in F), (15, c_impl_GrowNext F), (38, c_slices_Clone_float32_float32 F)] [] [(0, S_impl_GrowOrbit_L0 F)] 0) Try.f20 false [V.at (A.fl FloatKind.f32 x0), V.at (A.fl FloatKind.f32 x1), V.at (A.int IntKind.i64 x2), V.at (A.int IntKind.i64 x3)] [] = some ⟨V.tup [(false, [A.sl 0]), (false, [A.bool (Pure.impl_GrowOrbit F x0 x1 x2 x3)])], none, [⟨true, OC.rows [K.f FloatKind.f32] (Pure.impl_GrowOrbit_1 F x0 x1 x2 x3)⟩]⟩ := by
  have h0 : evFn (cxS F tyl [(32, c_impl_finite F), (36, c_impl_in F), (15, c_impl_GrowNext F), (38, c_slices_Clone_float32_float32 F)] [] [(0, S_impl_GrowOrbit_L0 F)] 0) Try.f20 false [V.at (A.fl FloatKind.f32 x0), V.at (A.fl FloatKind.f32 x1), V.at (A.int IntKind.i64 x2), V.at (A.int IntKind.i64 x3)] [] = bif Pure.impl_finite_ok F [[x0], [x1]] then bif Bool.not (Pure.impl_finite F [[x0], [x1]]) then some ⟨V.tup [(false, [A.sl 0]), (false, [A.bool false])], none, [⟨true, OC.rows [K.f FloatKind.f32] []⟩]⟩ else bif Bool.not (Pure.impl_in F x2 0 128) then some ⟨V.tup [(false, [A.sl 0]), (false, [A.bool false])], none, [⟨true, OC.rows [K.f FloatKind.f32] []⟩]⟩ else bif Bool.not (Pure.impl_in F x3 1 128) then some ⟨V.tup [(false, [A.sl 0]), (false, [A.bool false])], none, [⟨true, OC.rows [K.f FloatKind.f32] []⟩]⟩ else bif Prod.fst (Pure.impl_GrowOrbit_L0 F x1 x2 (IntKind.wrap IntKind.i64 ((IntKind.wrap IntKind.i64 (x2 + x3)) - 1)) (Int.toNat (((IntKind.wrap IntKind.i64 ((IntKind.wrap IntKind.i64 (x2 + x3)) - 1)) - 0) + 1)) 0 [[x0]]) then bif Prod.fst (Prod.snd (Pure.impl_GrowOrbit_L0 F x1 x2 (IntKind.wrap IntKind.i64 ((IntKind.wrap IntKind.i64 (x2 + x3)) - 1)) (Int.toNat (((IntKind.wrap IntKind.i64 ((IntKind.wrap IntKind.i64 (x2 + x3)) - 1)) - 0) + 1)) 0 [[x0]])) then some ⟨V.tup [(false, [A.sl 0]), (false, [A.bool false])], none, [⟨true, OC.rows [K.f FloatKind.f32] []⟩]⟩ else bif Decidable.decide (0 ≤ x2) then bif Decidable.decide (x2 ≤ (Int.ofNat (List.length (Prod.fst (Prod.snd (Prod.snd (Pure.impl_GrowOrbit_L0 F x1 x2 (IntKind.wrap IntKind.i64 ((IntKind.wrap IntKind.i64 (x2 + x3)) - 1)) (Int.toNat (((IntKind.wrap IntKind.i64 ((IntKind.wrap IntKind.i64 (x2 + x3)) - 1)) - 0) + 1)) 0 [[x0]]))))))) then bif Decidable.decide ((List.length (List.take ((List.length (Prod.fst (Prod.snd (Prod.snd (Pure.impl_GrowOrbit_L0 F x1 x2 (IntKind.wrap IntKind.i64 ((IntKind.wrap IntKind.i64 (x2 + x3)) - 1)) (Int.toNat (((IntKind.wrap IntKind.i64 ((IntKind.wrap IntKind.i64 (x2 + x3)) - 1)) - 0) + 1)) 0 [[x0]]))))) - (Int.toNat x2)) (List.drop (Int.toNat x2) (Prod.fst (Prod.snd (Prod.snd (Pure.impl_GrowOrbit_L0 F x1 x2 (IntKind.wrap IntKind.i64 ((IntKind.wrap IntKind.i64 (x2 + x3)) - 1)) (Int.toNat (((IntKind.wrap IntKind.i64 ((IntKind.wrap IntKind.i64 (x2 + x3)) - 1)) - 0) + 1)) 0 [[x0]]))))))) ≤ 1073741824) then some ⟨V.tup [(false, [A.sl 0]), (false, [A.bool true])], none, [⟨true, OC.rows [K.f FloatKind.f32] (List.take ((List.length (Prod.fst (Prod.snd (Prod.snd (Pure.impl_GrowOrbit_L0 F x1 x2 (IntKind.wrap IntKind.i64 ((IntKind.wrap IntKind.i64 (x2 + x3)) - 1)) (Int.toNat (((IntKind.wrap IntKind.i64 ((IntKind.wrap IntKind.i64 (x2 + x3)) - 1)) - 0) + 1)) 0 [[x0]]))))) - (Int.toNat x2)) (List.drop (Int.toNat x2) (Prod.fst (Prod.snd (Prod.snd (Pure.impl_GrowOrbit_L0 F x1 x2 (IntKind.wrap IntKind.i64 ((IntKind.wrap IntKind.i64 (x2 + x3)) - 1)) (Int.toNat (((IntKind.wrap IntKind.i64 ((IntKind.wrap IntKind.i64 (x2 + x3)) - 1)) - 0) + 1)) 0 [[x0]]))))))⟩]⟩ else none else none else none else none else none := by kernel_rfl
  rw [h0]
  unfold Pure.impl_GrowOrbit Pure.impl_GrowOrbit_1 Pure.impl_GrowOrbit_ok
  cases (Pure.impl_finite_ok F [[x0], [x1]]) with
  | true =>
    cases (Pure.impl_finite F [[x0], [x1]]) with
    | true =>
      cases (Pure.impl_in F x2 0 128) with
      | true =>
        cases (Pure.impl_in F x3 1 128) with
        | true =>
          cases (Prod.fst (Pure.impl_GrowOrbit_L0 F x1 x2 (IntKind.wrap IntKind.i64 ((IntKind.wrap IntKind.i64 (x2 + x3)) - 1)) (Int.toNat (((IntKind.wrap IntKind.i64 ((IntKind.wrap IntKind.i64 (x2 + x3)) - 1)) - 0) + 1)) 0 [[x0]])) with
          | true =>
            cases (Prod.fst (Prod.snd (Pure.impl_GrowOrbit_L0 F x1 x2 (IntKind.wrap IntKind.i64 ((IntKind.wrap IntKind.i64 (x2 + x3)) - 1)) (Int.toNat (((IntKind.wrap IntKind.i64 ((IntKind.wrap IntKind.i64 (x2 + x3)) - 1)) - 0) + 1)) 0 [[x0]]))) with
            | true =>
              intro _; rfl
            | false =>
              cases (Decidable.decide (0 ≤ x2)) with
              | true =>
                cases (Decidable.decide (x2 ≤ (Int.ofNat (List.length (Prod.fst (Prod.snd (Prod.snd (Pure.impl_GrowOrbit_L0 F x1 x2 (IntKind.wrap IntKind.i64 ((IntKind.wrap IntKind.i64 (x2 + x3)) - 1)) (Int.toNat (((IntKind.wrap IntKind.i64 ((IntKind.wrap IntKind.i64 (x2 + x3)) - 1)) - 0) + 1)) 0 [[x0]])))))))) with
                | true =>
                  cases (Decidable.decide ((List.length (List.take ((List.length (Prod.fst (Prod.snd (Prod.snd (Pure.impl_GrowOrbit_L0 F x1 x2 (IntKind.wrap IntKind.i64 ((IntKind.wrap IntKind.i64 (x2 + x3)) - 1)) (Int.toNat (((IntKind.wrap IntKind.i64 ((IntKind.wrap IntKind.i64 (x2 + x3)) - 1)) - 0) + 1)) 0 [[x0]]))))) - (Int.toNat x2)) (List.drop (Int.toNat x2) (Prod.fst (Prod.snd (Prod.snd (Pure.impl_GrowOrbit_L0 F x1 x2 (IntKind.wrap IntKind.i64 ((IntKind.wrap IntKind.i64 (x2 + x3)) - 1)) (Int.toNat (((IntKind.wrap IntKind.i64 ((IntKind.wrap IntKind.i64 (x2 + x3)) - 1)) - 0) + 1)) 0 [[x0]]))))))) ≤ 1073741824)) with
                  | true =>
                    intro _; rfl
                  | false =>
                    intro h; exact absurd h Bool.false_ne_true
                | false =>
                  intro h; exact absurd h Bool.false_ne_true
              | false =>
                intro h; exact absurd h Bool.false_ne_true
          | false =>
            intro h; exact absurd h Bool.false_ne_true
        | false =>
          intro _; rfl
      | false =>
        intro _; rfl
    | false =>
      intro _; rfl
  | false =>
    intro h; exact absurd h Bool.false_ne_true
theorem ok_impl_GrowOrbit : CallOK Try.prog 20 (c_impl_GrowOrbit real) := by
  refine callOK_of fun args h ret hc => ?_
  unfold c_impl_GrowOrbit at hc
  split at hc
  · rename_i x0 x1 x2 x3
    obtain ⟨hok, rfl⟩ := some_ret hc
    exact holds_ev prog_ok (allOK_cons ok_impl_finite (allOK_cons ok_impl_in (allOK_cons ok_impl_GrowNext (allOK_cons ok_slices_Clone_float32_float32 allOK_nil)))) Try.func20 rfl rfl (smL_cons (body := .loop (loopB 0 (codeOf Try.f20))) (by kernel_rfl) t_impl_GrowOrbit_L0 smL_nil) rfl (e_impl_GrowOrbit real x0 x1 x2 x3 hok)
  · cases hc
def c_math_Float32bits (_ : FOps) : Con
  | [V.at (A.fl FloatKind.f32 x)], [] => some (true, ⟨V.at (A.raw FloatKind.f32 x), none, []⟩)
  | _, _ => none
theorem ok_math_Float32bits : CallOK Try.prog 44 (c_math_Float32bits real) := by
  refine callOK_of fun args h ret hc => ?_
  unfold c_math_Float32bits at hc
  split at hc
  · rename_i x
    obtain ⟨_, rfl⟩ := some_ret hc
    exact ext_bits32 Try.func44 rfl rfl (by kernel_rfl) (by kernel_rfl) x
  · cases hc
def c_math_Float32frombits (_ : FOps) : Con
  | [V.at (A.raw FloatKind.f32 x)], [] => some (true, ⟨V.at (A.fl FloatKind.f32 x), none, []⟩)
  | _, _ => none
theorem ok_math_Float32frombits : CallOK Try.prog 48 (c_math_Float32frombits real) := by
  refine callOK_of fun args h ret hc => ?_
  unfold c_math_Float32frombits at hc
  split at hc
  · rename_i x
    obtain ⟨_, rfl⟩ := some_ret hc
    exact ext_from32 Try.func48 rfl rfl (by kernel_rfl) (by kernel_rfl) x
  · cases hc
def c_impl_abs (F : FOps) : Con
  | [V.at (A.fl FloatKind.f32 x0)], [] => some (true, ⟨V.at (A.fl FloatKind.f32 (FOps.abs F FloatKind.f32 x0)), none, []⟩)
  | _, _ => none
theorem e_impl_abs (F : FOps) (x0 : Int) : evFn (cxS F tyl [(44, c_math_Float32bits F), (48, c_math_Float32frombits F)] [] [] 0) Try.f37 false [V.at (A.fl FloatKind.f32 x0)] [] = some ⟨V.at (A.fl FloatKind.f32 (FOps.abs F FloatKind.f32 x0)), none, []⟩ := by
  kernel_rfl
theorem ok_impl_abs : CallOK Try.prog 37 (c_impl_abs real) := by
  refine callOK_of fun args h ret hc => ?_
  unfold c_impl_abs at hc
  split at hc
  · rename_i x0
    obtain ⟨_, rfl⟩ := some_ret hc
    exact holds_ev prog_ok (allOK_cons ok_math_Float32bits (allOK_cons ok_math_Float32frombits allOK_nil)) Try.func37 rfl rfl smL_nil rfl (e_impl_abs real x0)
  · cases hc
def Pure.impl_PeriodOf_L0 (F : FOps) (y0 : Int) (y1 : Int) (y3 : List (List Int)) : Nat → Int → (Bool × Bool × Int)
  | 0, _ => (false, false, 0)
  | n + 1, y2 => bif (Decidable.decide (y2 ≤ y1)) then (bif (Decidable.decide (0 ≤ y2)) then (bif (Decidable.decide (y2 < (Int.ofNat (List.length y3)))) then (bif (Decidable.decide (0 < (Int.ofNat (List.length y3)))) then (bif (FOps.cmp F BinOp.leq FloatKind.f32 (FOps.abs F FloatKind.f32 (FOps.bin F BinOp.sub FloatKind.f32 (List.getD (List.getD y3 (Int.toNat y2) []) 0 0) (List.getD (List.getD y3 0 []) 0 0))) y0) then ((true, true, y2)) else (Pure.impl_PeriodOf_L0 F y0 y1 y3 n (IntKind.wrap IntKind.i64 (y2 + 1)))) else ((false, false, 0))) else ((false, false, 0))) else ((false, false, 0))) else ((true, false, 0))
def R_impl_PeriodOf_L0 (r : (Bool × Bool × Int)) : Bool × Bool × (Ex × List V × List Ob) × (Ex × List V × List Ob) := ((r).1, (r).2.1, (Ex.normal, [V.at A.undef, V.at A.undef], []), (Ex.ret, [V.at (A.int IntKind.i64 (r).2.2), V.at (A.bool true)], []))
def S_impl_PeriodOf_L0 (F : FOps) : Sm := ⟨[2, 4, 12, 14], [22, 2, 39, 2], [10, 11], fun vals hp => match vals, hp with
  | [V.at (A.fl FloatKind.f32 y0), V.at (A.int IntKind.i64 y1), V.at (A.sl 0), V.at (A.int IntKind.i64 y2)], [⟨true, OC.rows [K.f FloatKind.f32] y3⟩] => some (R_impl_PeriodOf_L0  (Pure.impl_PeriodOf_L0 F y0 y1 y3 (y1 - y2 + 2).toNat y2))
  | _, _ => none⟩
theorem l_impl_PeriodOf_L0 (F : FOps) (y0 : Int) (y1 : Int) (y3 : List (List Int)) : ∀ (fuel : Nat) (y2 : Int), (Pure.impl_PeriodOf_L0 F y0 y1 y3 fuel y2).1 = true → loopOf (cxS F tyl [(36, c_impl_in F), (20, c_impl_GrowOrbit F), (37, c_impl_abs F)] [] [] 0) 0 46 0 [2, 4, 12, 14] [22, 2, 39, 2] [10, 11] (loopB 0 (codeOf Try.f18)) fuel [V.at (A.fl FloatKind.f32 y0), V.at (A.int IntKind.i64 y1), V.at (A.sl 0), V.at (A.int IntKind.i64 y2)] [⟨true, OC.rows [K.f FloatKind.f32] y3⟩] = resOf (R_impl_PeriodOf_L0  (Pure.impl_PeriodOf_L0 F y0 y1 y3 fuel y2)) := by
  intro fuel
  induction fuel with
  | zero => intro y2 h; exact absurd h Bool.false_ne_true
  | succ n ih =>
    intro y2
    have h0 : roundOf (cxS F tyl [(36, c_impl_in F), (20, c_impl_GrowOrbit F), (37, c_impl_abs F)] [] [] 0) 0 46 0 [2, 4, 12, 14] [22, 2, 39, 2] [10, 11] (loopB 0 (codeOf Try.f18)) [V.at (A.fl FloatKind.f32 y0), V.at (A.int IntKind.i64 y1), V.at (A.sl 0), V.at (A.int IntKind.i64 y2)] [⟨true, OC.rows [K.f FloatKind.f32] y3⟩] = (bif Decidable.decide (y2 ≤ y1) then bif Decidable.decide (0 ≤ y2) then bif Decidable.decide (y2 < (Int.ofNat (List.length y3))) then bif Decidable.decide (0 < (Int.ofNat (List.length y3))) then bif FOps.cmp F BinOp.leq FloatKind.f32 (FOps.abs F FloatKind.f32 (FOps.bin F BinOp.sub FloatKind.f32 (List.getD (List.getD y3 (Int.toNat y2) []) 0 0) (List.getD (List.getD y3 0 []) 0 0))) y0 then some (false, (Ex.ret, ([V.at (A.int IntKind.i64 y2), V.at (A.bool true)], []))) else some (true, (Ex.normal, ([V.at (A.fl FloatKind.f32 y0), V.at (A.int IntKind.i64 y1), V.at (A.sl 0), V.at (A.int IntKind.i64 (IntKind.wrap IntKind.i64 (y2 + 1)))], [⟨true, OC.rows [K.f FloatKind.f32] y3⟩]))) else none else none else none else some (false, (Ex.normal, ([V.at A.undef, V.at A.undef], [])))) := by kernel_rfl
    unfold loopOf
    rw [h0]
    unfold Pure.impl_PeriodOf_L0
    cases (Decidable.decide (y2 ≤ y1)) with
    | true =>
      cases (Decidable.decide (0 ≤ y2)) with
      | true =>
        cases (Decidable.decide (y2 < (Int.ofNat (List.length y3)))) with
        | true =>
          cases (Decidable.decide (0 < (Int.ofNat (List.length y3)))) with
          | true =>
            cases (FOps.cmp F BinOp.leq FloatKind.f32 (FOps.abs F FloatKind.f32 (FOps.bin F BinOp.sub FloatKind.f32 (List.getD (List.getD y3 (Int.toNat y2) []) 0 0) (List.getD (List.getD y3 0 []) 0 0))) y0) with
            | true =>
              intro _; rfl
            | false =>
              exact ih _
          | false =>
            intro h; exact absurd h Bool.false_ne_true
        | false =>
          intro h; exact absurd h Bool.false_ne_true
      | false =>
        intro h; exact absurd h Bool.false_ne_true
    | false =>
      intro _; rfl
theorem t_impl_PeriodOf_L0 : SmTo Try.prog 0 46 (S_impl_PeriodOf_L0 real) 0 (.loop (loopB 0 (codeOf Try.f18))) := by
  refine smTo_ev (cl := [(36, c_impl_in real), (20, c_impl_GrowOrbit real), (37, c_impl_abs real)]) (ef := []) (sm := []) (un := 0) prog_ok (allOK_cons ok_impl_in (allOK_cons ok_impl_GrowOrbit (allOK_cons ok_impl_abs allOK_nil))) smL_nil ?_
  intro vals hp q r h hq
  unfold S_impl_PeriodOf_L0 at h
  dsimp only at h
  split at h
  · rename_i y0 y1 y2 y3
    obtain rfl := Option.some.inj h
    have h1 := hq
    unfold resOf at h1
    rw [chk_some] at h1
    exact ⟨_, (l_impl_PeriodOf_L0 real y0 y1 y3 _ y2 h1.1).trans hq⟩
  · cases h
def Pure.impl_PeriodOf (F : FOps) (x0 : Int) (x1 : Int) (x2 : Int) (x3 : Int) (x4 : Int) : Int := bif Pure.impl_in F x4 1 64 then bif Pure.impl_GrowOrbit F x0 x1 x3 (IntKind.wrap IntKind.i64 (x4 + 1)) then bif Prod.fst (Prod.snd (Pure.impl_PeriodOf_L0 F x2 x4 (Pure.impl_GrowOrbit_1 F x0 x1 x3 (IntKind.wrap IntKind.i64 (x4 + 1))) (Int.toNat ((x4 - 1) + 2)) 1)) then Prod.snd (Prod.snd (Pure.impl_PeriodOf_L0 F x2 x4 (Pure.impl_GrowOrbit_1 F x0 x1 x3 (IntKind.wrap IntKind.i64 (x4 + 1))) (Int.toNat ((x4 - 1) + 2)) 1)) else 0 else 0 else 0
def Pure.impl_PeriodOf_1 (F : FOps) (x0 : Int) (x1 : Int) (x2 : Int) (x3 : Int) (x4 : Int) : Bool := bif Pure.impl_in F x4 1 64 then bif Pure.impl_GrowOrbit F x0 x1 x3 (IntKind.wrap IntKind.i64 (x4 + 1)) then Prod.fst (Prod.snd (Pure.impl_PeriodOf_L0 F x2 x4 (Pure.impl_GrowOrbit_1 F x0 x1 x3 (IntKind.wrap IntKind.i64 (x4 + 1))) (Int.toNat ((x4 - 1) + 2)) 1)) else false else false
def Pure.impl_PeriodOf_ok (F : FOps) (x0 : Int) (x1 : Int) (x2 : Int) (x3 : Int) (x4 : Int) : Bool := bif Pure.impl_in F x4 1 64 then bif Pure.impl_GrowOrbit_ok F x0 x1 x3 (IntKind.wrap IntKind.i64 (x4 + 1)) then bif Pure.impl_GrowOrbit F x0 x1 x3 (IntKind.wrap IntKind.i64 (x4 + 1)) then Prod.fst (Pure.impl_PeriodOf_L0 F x2 x4 (Pure.impl_GrowOrbit_1 F x0 x1 x3 (IntKind.wrap IntKind.i64 (x4 + 1))) (Int.toNat ((x4 - 1) + 2)) 1) else true else false else true
def c_impl_PeriodOf (F : FOps) : Con
  | [V.at (A.fl FloatKind.f32 x0), V.at (A.fl FloatKind.f32 x1), V.at (A.fl FloatKind.f32 x2), V.at (A.int IntKind.i64 x3), V.at (A.int IntKind.i64 x4)], [] => some (Pure.impl_PeriodOf_ok F x0 x1 x2 x3 x4, ⟨V.tup [(false, [A.int IntKind.i64 (Pure.impl_PeriodOf F x0 x1 x2 x3 x4)]), (false, [A.bool (Pure.impl_PeriodOf_1 F x0 x1 x2 x3 x4)])], none, []⟩)
  | _, _ => none
theorem e_impl_PeriodOf (F : FOps) (x0 : Int) (x1 : Int) (x2 : Int) (x3 : Int) (x4 : Int) : Pure.impl_PeriodOf_ok F x0 x1 x2 x3 x4 = true → evFn (cxS F tyl [(36, c_impl_in F), (20, c_impl_GrowOrbit F), (37, c_impl_abs F)] [] [(0, S_impl_PeriodOf_L0 F)] 0) Try.f18 false [V.at (A.fl FloatKind.f32 x0), V.at (A.fl FloatKind.f32 x1), V.at (A.fl FloatKind.f32 x2), V.at (A.int IntKind.i64 x3), V.at (A.int IntKind.i64 x4)] [] = some ⟨V.tup [(false, [A.int IntKind.i64 (Pure.impl_PeriodOf F x0 x1 x2 x3 x4)]), (false, [A.bool (Pure.impl_PeriodOf_1 F x0 x1 x2 x3 x4)])], none, []⟩ := by
  have h0 : evFn (cxS F tyl [(36, c_impl_in F), (20, c_impl_GrowOrbit F), (37, c_impl_abs F)] [] [(0, S_impl_PeriodOf_L0 F)] 0) Try.f18 false [V.at (A.fl FloatKind.f32 x0), V.at (A.fl FloatKind.f32 x1), V.at (A.fl FloatKind.f32 x2), V.at (A.int IntKind.i64 x3), V.at (A.int IntKind.i64 x4)] [] = bif Bool.not (Pure.impl_in F x4 1 64) then some ⟨V.tup [(false, [A.int IntKind.i64 0]), (false, [A.bool false])], none, []⟩ else bif Pure.impl_GrowOrbit_ok F x0 x1 x3 (IntKind.wrap IntKind.i64 (x4 + 1)) then bif Bool.not (Pure.impl_GrowOrbit F x0 x1 x3 (IntKind.wrap IntKind.i64 (x4 + 1))) then some ⟨V.tup [(false, [A.int IntKind.i64 0]), (false, [A.bool false])], none, []⟩ else bif Prod.fst (Pure.impl_PeriodOf_L0 F x2 x4 (Pure.impl_GrowOrbit_1 F x0 x1 x3 (IntKind.wrap IntKind.i64 (x4 + 1))) (Int.toNat ((x4 - 1) + 2)) 1) then bif Prod.fst (Prod.snd (Pure.impl_PeriodOf_L0 F x2 x4 (Pure.impl_GrowOrbit_1 F x0 x1 x3 (IntKind.wrap IntKind.i64 (x4 + 1))) (Int.toNat ((x4 - 1) + 2)) 1)) then some ⟨V.tup [(false, [A.int IntKind.i64 (Prod.snd (Prod.snd (Pure.impl_PeriodOf_L0 F x2 x4 (Pure.impl_GrowOrbit_1 F x0 x1 x3 (IntKind.wrap IntKind.i64 (x4 + 1))) (Int.toNat ((x4 - 1) + 2)) 1)))]), (false, [A.bool true])], none, []⟩ else some ⟨V.tup [(false, [A.int IntKind.i64 0]), (false, [A.bool false])], none, []⟩ else none else none := by kernel_rfl
  rw [h0]
  unfold Pure.impl_PeriodOf Pure.impl_PeriodOf_1 Pure.impl_PeriodOf_ok
  cases (Pure.impl_in F x4 1 64) with
  | true =>
    cases (Pure.impl_GrowOrbit_ok F x0 x1 x3 (IntKind.wrap IntKind.i64 (x4 + 1))) with
    | true =>
      cases (Pure.impl_GrowOrbit F x0 x1 x3 (IntKind.wrap IntKind.i64 (x4 + 1))) with
      | true =>
        cases (Prod.fst (Pure.impl_PeriodOf_L0 F x2 x4 (Pure.impl_GrowOrbit_1 F x0 x1 x3 (IntKind.wrap IntKind.i64 (x4 + 1))) (Int.toNat ((x4 - 1) + 2)) 1)) with
        | true =>
          cases (Prod.fst (Prod.snd (Pure.impl_PeriodOf_L0 F x2 x4 (Pure.impl_GrowOrbit_1 F x0 x1 x3 (IntKind.wrap IntKind.i64 (x4 + 1))) (Int.toNat ((x4 - 1) + 2)) 1))) with
          | true =>
            intro _; rfl
          | false =>
            intro _; rfl
        | false =>
          intro h; exact absurd h Bool.false_ne_true
      | false =>
        intro _; rfl
    | false =>
      intro h; exact absurd h Bool.false_ne_true
  | false =>
    intro _; rfl
theorem ok_impl_PeriodOf : CallOK Try.prog 18 (c_impl_PeriodOf real) := by
  refine callOK_of fun args h ret hc => ?_
  unfold c_impl_PeriodOf at hc
  split at hc
  · rename_i x0 x1 x2 x3 x4
    obtain ⟨hok, rfl⟩ := some_ret hc
    exact holds_ev prog_ok (allOK_cons ok_impl_in (allOK_cons ok_impl_GrowOrbit (allOK_cons ok_impl_abs allOK_nil))) Try.func18 rfl rfl (smL_cons (body := .loop (loopB 0 (codeOf Try.f18))) (by kernel_rfl) t_impl_PeriodOf_L0 smL_nil) rfl (e_impl_PeriodOf real x0 x1 x2 x3 x4 hok)
  · cases hc
def Pure.laws_FnExactPeriodOf (F : FOps) (x0 : Int) (x1 : Int) (x2 : Int) (x3 : Int) (x4 : Int) : Bool := bif (Pure.impl_PeriodOf F x0 x1 x2 x3 x4) != (Pure.spec_PeriodOf F x0 x1 x2 x3 x4) then false else (Pure.impl_PeriodOf_1 F x0 x1 x2 x3 x4) == (Pure.spec_PeriodOf_1 F x0 x1 x2 x3 x4)
def Pure.laws_FnExactPeriodOf_ok (F : FOps) (x0 : Int) (x1 : Int) (x2 : Int) (x3 : Int) (x4 : Int) : Bool := bif Pure.spec_PeriodOf_ok F x0 x1 x2 x3 x4 then Pure.impl_PeriodOf_ok F x0 x1 x2 x3 x4 else false
def c_laws_FnExactPeriodOf (F : FOps) : Con
  | [V.at (A.fl FloatKind.f32 x0), V.at (A.fl FloatKind.f32 x1), V.at (A.fl FloatKind.f32 x2), V.at (A.int IntKind.i64 x3), V.at (A.int IntKind.i64 x4)], [] => some (Pure.laws_FnExactPeriodOf_ok F x0 x1 x2 x3 x4, ⟨V.at (A.bool (Pure.laws_FnExactPeriodOf F x0 x1 x2 x3 x4)), none, []⟩)
  | _, _ => none
theorem e_laws_FnExactPeriodOf (F : FOps) (x0 : Int) (x1 : Int) (x2 : Int) (x3 : Int) (x4 : Int) : Pure.laws_FnExactPeriodOf_ok F x0 x1 x2 x3 x4 = true → evFn (cxS F tyl [(17, c_spec_PeriodOf F), (18, c_impl_PeriodOf F)] [] [] 0) Try.f6 false [V.at (A.fl FloatKind.f32 x0), V.at (A.fl FloatKind.f32 x1), V.at (A.fl FloatKind.f32 x2), V.at (A.int IntKind.i64 x3), V.at (A.int IntKind.i64 x4)] [] = some ⟨V.at (A.bool (Pure.laws_FnExactPeriodOf F x0 x1 x2 x3 x4)), none, []⟩ := by
  have h0 : evFn (cxS F tyl [(17, c_spec_PeriodOf F), (18, c_impl_PeriodOf F)] [] [] 0) Try.f6 false [V.at (A.fl FloatKind.f32 x0), V.at (A.fl FloatKind.f32 x1), V.at (A.fl FloatKind.f32 x2), V.at (A.int IntKind.i64 x3), V.at (A.int IntKind.i64 x4)] [] = bif Pure.spec_PeriodOf_ok F x0 x1 x2 x3 x4 then bif Pure.impl_PeriodOf_ok F x0 x1 x2 x3 x4 then bif (Pure.impl_PeriodOf F x0 x1 x2 x3 x4) != (Pure.spec_PeriodOf F x0 x1 x2 x3 x4) then some ⟨V.at (A.bool false), none, []⟩ else bif Bool.not ((Pure.impl_PeriodOf_1 F x0 x1 x2 x3 x4) == (Pure.spec_PeriodOf_1 F x0 x1 x2 x3 x4)) then some ⟨V.at (A.bool false), none, []⟩ else some ⟨V.at (A.bool true), none, []⟩ else none else none := by kernel_rfl
  rw [h0]
  unfold Pure.laws_FnExactPeriodOf Pure.laws_FnExactPeriodOf_ok
  cases (Pure.spec_PeriodOf_ok F x0 x1 x2 x3 x4) with
  | true =>
    cases (Pure.impl_PeriodOf_ok F x0 x1 x2 x3 x4) with
    | true =>
      cases ((Pure.impl_PeriodOf F x0 x1 x2 x3 x4) != (Pure.spec_PeriodOf F x0 x1 x2 x3 x4)) with
      | true =>
        intro _; rfl
      | false =>
        cases ((Pure.impl_PeriodOf_1 F x0 x1 x2 x3 x4) == (Pure.spec_PeriodOf_1 F x0 x1 x2 x3 x4)) with
        | true =>
          intro _; rfl
        | false =>
          intro _; rfl
    | false =>
      intro h; exact absurd h Bool.false_ne_true
  | false =>
    intro h; exact absurd h Bool.false_ne_true
theorem ok_laws_FnExactPeriodOf : CallOK Try.prog 6 (c_laws_FnExactPeriodOf real) := by
  refine callOK_of fun args h ret hc => ?_
  unfold c_laws_FnExactPeriodOf at hc
  split at hc
  · rename_i x0 x1 x2 x3 x4
    obtain ⟨hok, rfl⟩ := some_ret hc
    exact holds_ev prog_ok (allOK_cons ok_spec_PeriodOf (allOK_cons ok_impl_PeriodOf allOK_nil)) Try.func6 rfl rfl smL_nil rfl (e_laws_FnExactPeriodOf real x0 x1 x2 x3 x4 hok)
  · cases hc
def c_math_archFloor (F : FOps) : Con
  | [V.at (A.fl FloatKind.f64 x)], [] => some (true, ⟨V.at (A.fl FloatKind.f64 (F.integral .down x)), none, []⟩)
  | _, _ => none
theorem ok_math_archFloor : CallOK Try.prog 50 (c_math_archFloor real) := by
  refine callOK_of fun args h ret hc => ?_
  unfold c_math_archFloor at hc
  split at hc
  · rename_i x
    obtain ⟨_, rfl⟩ := some_ret hc
    exact ext_integral (nm := "math.archFloor") Try.func50 rfl rfl (by kernel_rfl) (by kernel_rfl) x
  · cases hc
def Pure.math_IsNaN (F : FOps) (x0 : Int) : Bool := FOps.cmp F BinOp.neq FloatKind.f64 x0 x0
def c_math_IsNaN (F : FOps) : Con
  | [V.at (A.fl FloatKind.f64 x0)], [] => some (true, ⟨V.at (A.bool (Pure.math_IsNaN F x0)), none, []⟩)
  | _, _ => none
theorem e_math_IsNaN (F : FOps) (x0 : Int) : evFn (cxS F tyl [] [] [] 0) Try.f53 false [V.at (A.fl FloatKind.f64 x0)] [] = some ⟨V.at (A.bool (Pure.math_IsNaN F x0)), none, []⟩ := by
  kernel_rfl
theorem ok_math_IsNaN : CallOK Try.prog 53 (c_math_IsNaN real) := by
  refine callOK_of fun args h ret hc => ?_
  unfold c_math_IsNaN at hc
  split at hc
  · rename_i x0
    obtain ⟨_, rfl⟩ := some_ret hc
    exact holds_ev prog_ok allOK_nil Try.func53 rfl rfl smL_nil rfl (e_math_IsNaN real x0)
  · cases hc
def c_math_Float64bits (_ : FOps) : Con
  | [V.at (A.fl FloatKind.f64 x)], [] => some (true, ⟨V.at (A.raw FloatKind.f64 x), none, []⟩)
  | _, _ => none
theorem ok_math_Float64bits : CallOK Try.prog 60 (c_math_Float64bits real) := by
  refine callOK_of fun args h ret hc => ?_
  unfold c_math_Float64bits at hc
  split at hc
  · rename_i x
    obtain ⟨_, rfl⟩ := some_ret hc
    exact ext_bits64 Try.func60 rfl rfl (by kernel_rfl) (by kernel_rfl) x
  · cases hc
def c_math_Float64frombits (F : FOps) : Con
  | [V.at (A.raw FloatKind.f64 x)], [] => some (true, ⟨V.at (A.fl FloatKind.f64 x), none, []⟩)
  | [V.at (A.int IntKind.u64 x)], [] => some (true, ⟨V.at (A.fl FloatKind.f64 (F.ofBits FloatKind.f64 x)), none, []⟩)
  | _, _ => none
theorem ok_math_Float64frombits : CallOK Try.prog 59 (c_math_Float64frombits real) := by
  refine callOK_of fun args h ret hc => ?_
  unfold c_math_Float64frombits at hc
  split at hc
  · rename_i x
    obtain ⟨_, rfl⟩ := some_ret hc
    exact ext_from64 Try.func59 rfl rfl (by kernel_rfl) (by kernel_rfl) x
  · rename_i x
    obtain ⟨_, rfl⟩ := some_ret hc
    exact ext_from64i Try.func59 rfl rfl (by kernel_rfl) (by kernel_rfl) x
  · cases hc
def c_math_Abs (F : FOps) : Con
  | [V.at (A.fl FloatKind.f64 x0)], [] => some (true, ⟨V.at (A.fl FloatKind.f64 (FOps.abs F FloatKind.f64 x0)), none, []⟩)
  | _, _ => none
theorem e_math_Abs (F : FOps) (x0 : Int) : evFn (cxS F tyl [(60, c_math_Float64bits F), (59, c_math_Float64frombits F)] [] [] 0) Try.f56 false [V.at (A.fl FloatKind.f64 x0)] [] = some ⟨V.at (A.fl FloatKind.f64 (FOps.abs F FloatKind.f64 x0)), none, []⟩ := by
  kernel_rfl
theorem ok_math_Abs : CallOK Try.prog 56 (c_math_Abs real) := by
  refine callOK_of fun args h ret hc => ?_
  unfold c_math_Abs at hc
  split at hc
  · rename_i x0
    obtain ⟨_, rfl⟩ := some_ret hc
    exact holds_ev prog_ok (allOK_cons ok_math_Float64bits (allOK_cons ok_math_Float64frombits allOK_nil)) Try.func56 rfl rfl smL_nil rfl (e_math_Abs real x0)
  · cases hc
def Pure.math_IsInf (F : FOps) (x0 : Int) (x1 : Int) : Bool := bif x1 == 0 then FOps.cmp F BinOp.gtr FloatKind.f64 (FOps.abs F FloatKind.f64 x0) 9218868437227405311 else bif Decidable.decide (x1 < 0) then FOps.cmp F BinOp.gtr FloatKind.f64 (FOps.neg F FloatKind.f64 x0) 9218868437227405311 else FOps.cmp F BinOp.gtr FloatKind.f64 x0 9218868437227405311
def c_math_IsInf (F : FOps) : Con
  | [V.at (A.fl FloatKind.f64 x0), V.at (A.int IntKind.i64 x1)], [] => some (true, ⟨V.at (A.bool (Pure.math_IsInf F x0 x1)), none, []⟩)
  | _, _ => none
theorem e_math_IsInf (F : FOps) (x0 : Int) (x1 : Int) : evFn (cxS F tyl [(56, c_math_Abs F)] [] [] 0) Try.f54 false [V.at (A.fl FloatKind.f64 x0), V.at (A.int IntKind.i64 x1)] [] = some ⟨V.at (A.bool (Pure.math_IsInf F x0 x1)), none, []⟩ := by
  have h0 : evFn (cxS F tyl [(56, c_math_Abs F)] [] [] 0) Try.f54 false [V.at (A.fl FloatKind.f64 x0), V.at (A.int IntKind.i64 x1)] [] = bif x1 == 0 then some ⟨V.at (A.bool (FOps.cmp F BinOp.gtr FloatKind.f64 (FOps.abs F FloatKind.f64 x0) 9218868437227405311)), none, []⟩ else bif Decidable.decide (x1 < 0) then some ⟨V.at (A.bool (FOps.cmp F BinOp.gtr FloatKind.f64 (FOps.neg F FloatKind.f64 x0) 9218868437227405311)), none, []⟩ else some ⟨V.at (A.bool (FOps.cmp F BinOp.gtr FloatKind.f64 x0 9218868437227405311)), none, []⟩ := by kernel_rfl
  rw [h0]
  unfold Pure.math_IsInf
  cases (x1 == 0) with
  | true =>
    rfl
  | false =>
    cases (Decidable.decide (x1 < 0)) with
    | true =>
      rfl
    | false =>
      rfl
theorem ok_math_IsInf : CallOK Try.prog 54 (c_math_IsInf real) := by
  refine callOK_of fun args h ret hc => ?_
  unfold c_math_IsInf at hc
  split at hc
  · rename_i x0 x1
    obtain ⟨_, rfl⟩ := some_ret hc
    exact holds_ev prog_ok (allOK_cons ok_math_Abs allOK_nil) Try.func54 rfl rfl smL_nil rfl (e_math_IsInf real x0 x1)
  · cases hc
def c_math_archTrunc (F : FOps) : Con
  | [V.at (A.fl FloatKind.f64 x)], [] => some (true, ⟨V.at (A.fl FloatKind.f64 (F.integral .zero x)), none, []⟩)
  | _, _ => none
theorem ok_math_archTrunc : CallOK Try.prog 61 (c_math_archTrunc real) := by
  refine callOK_of fun args h ret hc => ?_
  unfold c_math_archTrunc at hc
  split at hc
  · rename_i x
    obtain ⟨_, rfl⟩ := some_ret hc
    exact ext_integral (nm := "math.archTrunc") Try.func61 rfl rfl (by kernel_rfl) (by kernel_rfl) x
  · cases hc
def c_math_Trunc (F : FOps) : Con
  | [V.at (A.fl FloatKind.f64 x0)], [] => some (true, ⟨V.at (A.fl FloatKind.f64 (FOps.integral F Ieee.Toward.zero x0)), none, []⟩)
  | _, _ => none
theorem e_math_Trunc (F : FOps) (x0 : Int) : evFn (cxS F tyl [(61, c_math_archTrunc F)] [] [] 0) Try.f57 false [V.at (A.fl FloatKind.f64 x0)] [] = some ⟨V.at (A.fl FloatKind.f64 (FOps.integral F Ieee.Toward.zero x0)), none, []⟩ := by
  kernel_rfl
theorem ok_math_Trunc : CallOK Try.prog 57 (c_math_Trunc real) := by
  refine callOK_of fun args h ret hc => ?_
  unfold c_math_Trunc at hc
  split at hc
  · rename_i x0
    obtain ⟨_, rfl⟩ := some_ret hc
    exact holds_ev prog_ok (allOK_cons ok_math_archTrunc allOK_nil) Try.func57 rfl rfl smL_nil rfl (e_math_Trunc real x0)
  · cases hc
def Pure.math_floor_ok (F : FOps) (x0 : Int) : Bool := bif FOps.cmp F BinOp.eql FloatKind.f64 x0 0 then true else bif Pure.math_IsNaN F x0 then true else Pure.math_IsInf F x0 0
def c_math_floor (F : FOps) : Con
  | [V.at (A.fl FloatKind.f64 x0)], [] => some (Pure.math_floor_ok F x0, ⟨V.at (A.fl FloatKind.f64 x0), none, []⟩)
  | _, _ => none
theorem e_math_floor (F : FOps) (x0 : Int) : Pure.math_floor_ok F x0 = true → evFn (cxS F tyl [(53, c_math_IsNaN F), (54, c_math_IsInf F)] [] [] 0) Try.f51 false [V.at (A.fl FloatKind.f64 x0)] [] = some ⟨V.at (A.fl FloatKind.f64 x0), none, []⟩ := by
  have h0 : evFn (cxS F tyl [(53, c_math_IsNaN F), (54, c_math_IsInf F)] [] [] 0) Try.f51 false [V.at (A.fl FloatKind.f64 x0)] [] = bif FOps.cmp F BinOp.eql FloatKind.f64 x0 0 then some ⟨V.at (A.fl FloatKind.f64 x0), none, []⟩ else bif Pure.math_IsNaN F x0 then some ⟨V.at (A.fl FloatKind.f64 x0), none, []⟩ else bif Pure.math_IsInf F x0 0 then some ⟨V.at (A.fl FloatKind.f64 x0), none, []⟩ else bif FOps.cmp F BinOp.lss FloatKind.f64 x0 0 then none else none := by kernel_rfl
  rw [h0]
  unfold Pure.math_floor_ok
  cases (FOps.cmp F BinOp.eql FloatKind.f64 x0 0) with
  | true =>
    intro _; rfl
  | false =>
    cases (Pure.math_IsNaN F x0) with
    | true =>
      intro _; rfl
    | false =>
      cases (Pure.math_IsInf F x0 0) with
      | true =>
        intro _; rfl
      | false =>
        cases (FOps.cmp F BinOp.lss FloatKind.f64 x0 0) with
        | true =>
          intro h; exact absurd h Bool.false_ne_true
        | false =>
          intro h; exact absurd h Bool.false_ne_true
theorem ok_math_floor : CallOK Try.prog 51 (c_math_floor real) := by
  refine callOK_of fun args h ret hc => ?_
  unfold c_math_floor at hc
  split at hc
  · rename_i x0
    obtain ⟨hok, rfl⟩ := some_ret hc
    exact holds_ev prog_ok (allOK_cons ok_math_IsNaN (allOK_cons ok_math_IsInf allOK_nil)) Try.func51 rfl rfl smL_nil rfl (e_math_floor real x0 hok)
  · cases hc
def c_math_Floor (F : FOps) : Con
  | [V.at (A.fl FloatKind.f64 x0)], [] => some (true, ⟨V.at (A.fl FloatKind.f64 (FOps.integral F Ieee.Toward.down x0)), none, []⟩)
  | _, _ => none
theorem e_math_Floor (F : FOps) (x0 : Int) : evFn (cxS F tyl [(50, c_math_archFloor F), (51, c_math_floor F)] [] [] 0) Try.f41 false [V.at (A.fl FloatKind.f64 x0)] [] = some ⟨V.at (A.fl FloatKind.f64 (FOps.integral F Ieee.Toward.down x0)), none, []⟩ := by
  kernel_rfl
theorem ok_math_Floor : CallOK Try.prog 41 (c_math_Floor real) := by
  refine callOK_of fun args h ret hc => ?_
  unfold c_math_Floor at hc
  split at hc
  · rename_i x0
    obtain ⟨_, rfl⟩ := some_ret hc
    exact holds_ev prog_ok (allOK_cons ok_math_archFloor (allOK_cons ok_math_floor allOK_nil)) Try.func41 rfl rfl smL_nil rfl (e_math_Floor real x0)
  · cases hc
def Pure.spec_l01Narrow (F : FOps) (x0 : Int) : Int := FOps.conv F FloatKind.f64 FloatKind.f32 x0
def Pure.spec_l01Narrow_ok (F : FOps) (x0 : Int) : Bool := FOps.convOk F FloatKind.f64 FloatKind.f32 x0
def c_spec_l01Narrow (F : FOps) : Con
  | [V.at (A.fl FloatKind.f64 x0)], [] => some (Pure.spec_l01Narrow_ok F x0, ⟨V.at (A.fl FloatKind.f32 (Pure.spec_l01Narrow F x0)), none, []⟩)
  | _, _ => none
theorem e_spec_l01Narrow (F : FOps) (x0 : Int) : Pure.spec_l01Narrow_ok F x0 = true → evFn (cxS F tyl [] [] [] 0) Try.f49 false [V.at (A.fl FloatKind.f64 x0)] [] = some ⟨V.at (A.fl FloatKind.f32 (Pure.spec_l01Narrow F x0)), none, []⟩ := by
  have h0 : evFn (cxS F tyl [] [] [] 0) Try.f49 false [V.at (A.fl FloatKind.f64 x0)] [] = bif FOps.convOk F FloatKind.f64 FloatKind.f32 x0 then some ⟨V.at (A.fl FloatKind.f32 (FOps.conv F FloatKind.f64 FloatKind.f32 x0)), none, []⟩ else none := by kernel_rfl
  rw [h0]
  unfold Pure.spec_l01Narrow Pure.spec_l01Narrow_ok
  cases (FOps.convOk F FloatKind.f64 FloatKind.f32 x0) with
  | true =>
    intro _; rfl
  | false =>
    intro h; exact absurd h Bool.false_ne_true
theorem ok_spec_l01Narrow : CallOK Try.prog 49 (c_spec_l01Narrow real) := by
  refine callOK_of fun args h ret hc => ?_
  unfold c_spec_l01Narrow at hc
  split at hc
  · rename_i x0
    obtain ⟨hok, rfl⟩ := some_ret hc
    exact holds_ev prog_ok allOK_nil Try.func49 rfl rfl smL_nil rfl (e_spec_l01Narrow real x0 hok)
  · cases hc
def Pure.spec_l07Kick (F : FOps) (x0 : Int) : Int := bif FOps.cmp F BinOp.geq FloatKind.f32 (Pure.spec_l01Narrow F (FOps.bin F BinOp.sub FloatKind.f64 (FOps.conv F FloatKind.f32 FloatKind.f64 x0) (FOps.integral F Ieee.Toward.down (FOps.bin F BinOp.add FloatKind.f64 (FOps.conv F FloatKind.f32 FloatKind.f64 x0) 4602678819172646912)))) 1056964608 then 3204448256 else bif FOps.cmp F BinOp.eql FloatKind.f32 (Pure.spec_l01Narrow F (FOps.bin F BinOp.sub FloatKind.f64 (FOps.conv F FloatKind.f32 FloatKind.f64 x0) (FOps.integral F Ieee.Toward.down (FOps.bin F BinOp.add FloatKind.f64 (FOps.conv F FloatKind.f32 FloatKind.f64 x0) 4602678819172646912)))) 0 then 0 else Pure.spec_l01Narrow F (FOps.bin F BinOp.sub FloatKind.f64 (FOps.conv F FloatKind.f32 FloatKind.f64 x0) (FOps.integral F Ieee.Toward.down (FOps.bin F BinOp.add FloatKind.f64 (FOps.conv F FloatKind.f32 FloatKind.f64 x0) 4602678819172646912)))
def Pure.spec_l07Kick_ok (F : FOps) (x0 : Int) : Bool := bif FOps.convOk F FloatKind.f32 FloatKind.f64 x0 then Pure.spec_l01Narrow_ok F (FOps.bin F BinOp.sub FloatKind.f64 (FOps.conv F FloatKind.f32 FloatKind.f64 x0) (FOps.integral F Ieee.Toward.down (FOps.bin F BinOp.add FloatKind.f64 (FOps.conv F FloatKind.f32 FloatKind.f64 x0) 4602678819172646912))) else false
def c_spec_l07Kick (F : FOps) : Con
  | [V.at (A.fl FloatKind.f32 x0)], [] => some (Pure.spec_l07Kick_ok F x0, ⟨V.at (A.fl FloatKind.f32 (Pure.spec_l07Kick F x0)), none, []⟩)
  | _, _ => none
theorem e_spec_l07Kick (F : FOps) (x0 : Int) : Pure.spec_l07Kick_ok F x0 = true → evFn (cxS F tyl [(41, c_math_Floor F), (49, c_spec_l01Narrow F)] [] [] 0) Try.f39 false [V.at (A.fl FloatKind.f32 x0)] [] = some ⟨V.at (A.fl FloatKind.f32 (Pure.spec_l07Kick F x0)), none, []⟩ := by
  have h0 : evFn (cxS F tyl [(41, c_math_Floor F), (49, c_spec_l01Narrow F)] [] [] 0) Try.f39 false [V.at (A.fl FloatKind.f32 x0)] [] = bif FOps.convOk F FloatKind.f32 FloatKind.f64 x0 then bif Pure.spec_l01Narrow_ok F (FOps.bin F BinOp.sub FloatKind.f64 (FOps.conv F FloatKind.f32 FloatKind.f64 x0) (FOps.integral F Ieee.Toward.down (FOps.bin F BinOp.add FloatKind.f64 (FOps.conv F FloatKind.f32 FloatKind.f64 x0) 4602678819172646912))) then bif FOps.cmp F BinOp.geq FloatKind.f32 (Pure.spec_l01Narrow F (FOps.bin F BinOp.sub FloatKind.f64 (FOps.conv F FloatKind.f32 FloatKind.f64 x0) (FOps.integral F Ieee.Toward.down (FOps.bin F BinOp.add FloatKind.f64 (FOps.conv F FloatKind.f32 FloatKind.f64 x0) 4602678819172646912)))) 1056964608 then some ⟨V.at (A.fl FloatKind.f32 3204448256), none, []⟩ else bif FOps.cmp F BinOp.eql FloatKind.f32 (Pure.spec_l01Narrow F (FOps.bin F BinOp.sub FloatKind.f64 (FOps.conv F FloatKind.f32 FloatKind.f64 x0) (FOps.integral F Ieee.Toward.down (FOps.bin F BinOp.add FloatKind.f64 (FOps.conv F FloatKind.f32 FloatKind.f64 x0) 4602678819172646912)))) 0 then some ⟨V.at (A.fl FloatKind.f32 0), none, []⟩ else some ⟨V.at (A.fl FloatKind.f32 (Pure.spec_l01Narrow F (FOps.bin F BinOp.sub FloatKind.f64 (FOps.conv F FloatKind.f32 FloatKind.f64 x0) (FOps.integral F Ieee.Toward.down (FOps.bin F BinOp.add FloatKind.f64 (FOps.conv F FloatKind.f32 FloatKind.f64 x0) 4602678819172646912))))), none, []⟩ else none else none := by kernel_rfl
  rw [h0]
  unfold Pure.spec_l07Kick Pure.spec_l07Kick_ok
  cases (FOps.convOk F FloatKind.f32 FloatKind.f64 x0) with
  | true =>
    cases (Pure.spec_l01Narrow_ok F (FOps.bin F BinOp.sub FloatKind.f64 (FOps.conv F FloatKind.f32 FloatKind.f64 x0) (FOps.integral F Ieee.Toward.down (FOps.bin F BinOp.add FloatKind.f64 (FOps.conv F FloatKind.f32 FloatKind.f64 x0) 4602678819172646912)))) with
    | true =>
      cases (FOps.cmp F BinOp.geq FloatKind.f32 (Pure.spec_l01Narrow F (FOps.bin F BinOp.sub FloatKind.f64 (FOps.conv F FloatKind.f32 FloatKind.f64 x0) (FOps.integral F Ieee.Toward.down (FOps.bin F BinOp.add FloatKind.f64 (FOps.conv F FloatKind.f32 FloatKind.f64 x0) 4602678819172646912)))) 1056964608) with
      | true =>
        intro _; rfl
      | false =>
        cases (FOps.cmp F BinOp.eql FloatKind.f32 (Pure.spec_l01Narrow F (FOps.bin F BinOp.sub FloatKind.f64 (FOps.conv F FloatKind.f32 FloatKind.f64 x0) (FOps.integral F Ieee.Toward.down (FOps.bin F BinOp.add FloatKind.f64 (FOps.conv F FloatKind.f32 FloatKind.f64 x0) 4602678819172646912)))) 0) with
        | true =>
          intro _; rfl
        | false =>
          intro _; rfl
    | false =>
      intro h; exact absurd h Bool.false_ne_true
  | false =>
    intro h; exact absurd h Bool.false_ne_true
theorem ok_spec_l07Kick : CallOK Try.prog 39 (c_spec_l07Kick real) := by
  refine callOK_of fun args h ret hc => ?_
  unfold c_spec_l07Kick at hc
  split at hc
  · rename_i x0
    obtain ⟨hok, rfl⟩ := some_ret hc
    exact holds_ev prog_ok (allOK_cons ok_math_Floor (allOK_cons ok_spec_l01Narrow allOK_nil)) Try.func39 rfl rfl smL_nil rfl (e_spec_l07Kick real x0 hok)
  · cases hc
def Pure.spec_WrapKick (F : FOps) (x0 : Int) : Int := bif Pure.spec_l01Finite F x0 then Pure.spec_l07Kick F x0 else 0
def Pure.spec_WrapKick_ok (F : FOps) (x0 : Int) : Bool := bif Pure.spec_l01Finite F x0 then Pure.spec_l07Kick_ok F x0 else true
def c_spec_WrapKick (F : FOps) : Con
  | [V.at (A.fl FloatKind.f32 x0)], [] => some (Pure.spec_WrapKick_ok F x0, ⟨V.tup [(false, [A.fl FloatKind.f32 (Pure.spec_WrapKick F x0)]), (false, [A.bool (Pure.spec_l01Finite F x0)])], none, []⟩)
  | _, _ => none
theorem e_spec_WrapKick (F : FOps) (x0 : Int) : Pure.spec_WrapKick_ok F x0 = true → evFn (cxS F tyl [(29, c_spec_l01Finite F), (39, c_spec_l07Kick F)] [] [] 0) Try.f24 false [V.at (A.fl FloatKind.f32 x0)] [] = some ⟨V.tup [(false, [A.fl FloatKind.f32 (Pure.spec_WrapKick F x0)]), (false, [A.bool (Pure.spec_l01Finite F x0)])], none, []⟩ := by
  have h0 : evFn (cxS F tyl [(29, c_spec_l01Finite F), (39, c_spec_l07Kick F)] [] [] 0) Try.f24 false [V.at (A.fl FloatKind.f32 x0)] [] = bif Bool.not (Pure.spec_l01Finite F x0) then some ⟨V.tup [(false, [A.fl FloatKind.f32 0]), (false, [A.bool false])], none, []⟩ else bif Pure.spec_l07Kick_ok F x0 then some ⟨V.tup [(false, [A.fl FloatKind.f32 (Pure.spec_l07Kick F x0)]), (false, [A.bool true])], none, []⟩ else none := by kernel_rfl
  rw [h0]
  unfold Pure.spec_WrapKick Pure.spec_WrapKick_ok
  cases (Pure.spec_l01Finite F x0) with
  | true =>
    cases (Pure.spec_l07Kick_ok F x0) with
    | true =>
      intro _; rfl
    | false =>
      intro h; exact absurd h Bool.false_ne_true
  | false =>
    intro _; rfl
theorem ok_spec_WrapKick : CallOK Try.prog 24 (c_spec_WrapKick real) := by
  refine callOK_of fun args h ret hc => ?_
  unfold c_spec_WrapKick at hc
  split at hc
  · rename_i x0
    obtain ⟨hok, rfl⟩ := some_ret hc
    exact holds_ev prog_ok (allOK_cons ok_spec_l01Finite (allOK_cons ok_spec_l07Kick allOK_nil)) Try.func24 rfl rfl smL_nil rfl (e_spec_WrapKick real x0 hok)
  · cases hc
def Pure.impl_WrapKick (F : FOps) (x0 : Int) : Int := bif Pure.impl_IsFinite F x0 then bif FOps.cmp F BinOp.geq FloatKind.f32 (FOps.conv F FloatKind.f64 FloatKind.f32 (FOps.bin F BinOp.sub FloatKind.f64 (FOps.conv F FloatKind.f32 FloatKind.f64 x0) (FOps.integral F Ieee.Toward.down (FOps.bin F BinOp.add FloatKind.f64 (FOps.conv F FloatKind.f32 FloatKind.f64 x0) 4602678819172646912)))) 1056964608 then 3204448256 else bif FOps.cmp F BinOp.eql FloatKind.f32 (FOps.conv F FloatKind.f64 FloatKind.f32 (FOps.bin F BinOp.sub FloatKind.f64 (FOps.conv F FloatKind.f32 FloatKind.f64 x0) (FOps.integral F Ieee.Toward.down (FOps.bin F BinOp.add FloatKind.f64 (FOps.conv F FloatKind.f32 FloatKind.f64 x0) 4602678819172646912)))) 0 then 0 else FOps.conv F FloatKind.f64 FloatKind.f32 (FOps.bin F BinOp.sub FloatKind.f64 (FOps.conv F FloatKind.f32 FloatKind.f64 x0) (FOps.integral F Ieee.Toward.down (FOps.bin F BinOp.add FloatKind.f64 (FOps.conv F FloatKind.f32 FloatKind.f64 x0) 4602678819172646912))) else 0
def Pure.impl_WrapKick_ok (F : FOps) (x0 : Int) : Bool := bif Pure.impl_IsFinite F x0 then bif FOps.convOk F FloatKind.f32 FloatKind.f64 x0 then FOps.convOk F FloatKind.f64 FloatKind.f32 (FOps.bin F BinOp.sub FloatKind.f64 (FOps.conv F FloatKind.f32 FloatKind.f64 x0) (FOps.integral F Ieee.Toward.down (FOps.bin F BinOp.add FloatKind.f64 (FOps.conv F FloatKind.f32 FloatKind.f64 x0) 4602678819172646912))) else false else true
def c_impl_WrapKick (F : FOps) : Con
  | [V.at (A.fl FloatKind.f32 x0)], [] => some (Pure.impl_WrapKick_ok F x0, ⟨V.tup [(false, [A.fl FloatKind.f32 (Pure.impl_WrapKick F x0)]), (false, [A.bool (Pure.impl_IsFinite F x0)])], none, []⟩)
  | _, _ => none
theorem e_impl_WrapKick (F : FOps) (x0 : Int) : Pure.impl_WrapKick_ok F x0 = true → evFn (cxS F tyl [(40, c_impl_IsFinite F), (41, c_math_Floor F)] [] [] 0) Try.f25 false [V.at (A.fl FloatKind.f32 x0)] [] = some ⟨V.tup [(false, [A.fl FloatKind.f32 (Pure.impl_WrapKick F x0)]), (false, [A.bool (Pure.impl_IsFinite F x0)])], none, []⟩ := by
  have h0 : evFn (cxS F tyl [(40, c_impl_IsFinite F), (41, c_math_Floor F)] [] [] 0) Try.f25 false [V.at (A.fl FloatKind.f32 x0)] [] = bif Bool.not (Pure.impl_IsFinite F x0) then some ⟨V.tup [(false, [A.fl FloatKind.f32 0]), (false, [A.bool false])], none, []⟩ else bif FOps.convOk F FloatKind.f32 FloatKind.f64 x0 then bif FOps.convOk F FloatKind.f32 FloatKind.f64 x0 then bif FOps.convOk F FloatKind.f64 FloatKind.f32 (FOps.bin F BinOp.sub FloatKind.f64 (FOps.conv F FloatKind.f32 FloatKind.f64 x0) (FOps.integral F Ieee.Toward.down (FOps.bin F BinOp.add FloatKind.f64 (FOps.conv F FloatKind.f32 FloatKind.f64 x0) 4602678819172646912))) then bif FOps.cmp F BinOp.geq FloatKind.f32 (FOps.conv F FloatKind.f64 FloatKind.f32 (FOps.bin F BinOp.sub FloatKind.f64 (FOps.conv F FloatKind.f32 FloatKind.f64 x0) (FOps.integral F Ieee.Toward.down (FOps.bin F BinOp.add FloatKind.f64 (FOps.conv F FloatKind.f32 FloatKind.f64 x0) 4602678819172646912)))) 1056964608 then some ⟨V.tup [(false, [A.fl FloatKind.f32 3204448256]), (false, [A.bool true])], none, []⟩ else bif FOps.cmp F BinOp.eql FloatKind.f32 (FOps.conv F FloatKind.f64 FloatKind.f32 (FOps.bin F BinOp.sub FloatKind.f64 (FOps.conv F FloatKind.f32 FloatKind.f64 x0) (FOps.integral F Ieee.Toward.down (FOps.bin F BinOp.add FloatKind.f64 (FOps.conv F FloatKind.f32 FloatKind.f64 x0) 4602678819172646912)))) 0 then some ⟨V.tup [(false, [A.fl FloatKind.f32 0]), (false, [A.bool true])], none, []⟩ else some ⟨V.tup [(false, [A.fl FloatKind.f32 (FOps.conv F FloatKind.f64 FloatKind.f32 (FOps.bin F BinOp.sub FloatKind.f64 (FOps.conv F FloatKind.f32 FloatKind.f64 x0) (FOps.integral F Ieee.Toward.down (FOps.bin F BinOp.add FloatKind.f64 (FOps.conv F FloatKind.f32 FloatKind.f64 x0) 4602678819172646912))))]), (false, [A.bool true])], none, []⟩ else none else none else none := by kernel_rfl
  rw [h0]
  unfold Pure.impl_WrapKick Pure.impl_WrapKick_ok
  cases (Pure.impl_IsFinite F x0) with
  | true =>
    cases (FOps.convOk F FloatKind.f32 FloatKind.f64 x0) with
    | true =>
      cases (FOps.convOk F FloatKind.f64 FloatKind.f32 (FOps.bin F BinOp.sub FloatKind.f64 (FOps.conv F FloatKind.f32 FloatKind.f64 x0) (FOps.integral F Ieee.Toward.down (FOps.bin F BinOp.add FloatKind.f64 (FOps.conv F FloatKind.f32 FloatKind.f64 x0) 4602678819172646912)))) with
      | true =>
        cases (FOps.cmp F BinOp.geq FloatKind.f32 (FOps.conv F FloatKind.f64 FloatKind.f32 (FOps.bin F BinOp.sub FloatKind.f64 (FOps.conv F FloatKind.f32 FloatKind.f64 x0) (FOps.integral F Ieee.Toward.down (FOps.bin F BinOp.add FloatKind.f64 (FOps.conv F FloatKind.f32 FloatKind.f64 x0) 4602678819172646912)))) 1056964608) with
        | true =>
          intro _; rfl
        | false =>
          cases (FOps.cmp F BinOp.eql FloatKind.f32 (FOps.conv F FloatKind.f64 FloatKind.f32 (FOps.bin F BinOp.sub FloatKind.f64 (FOps.conv F FloatKind.f32 FloatKind.f64 x0) (FOps.integral F Ieee.Toward.down (FOps.bin F BinOp.add FloatKind.f64 (FOps.conv F FloatKind.f32 FloatKind.f64 x0) 4602678819172646912)))) 0) with
          | true =>
            intro _; rfl
          | false =>
            intro _; rfl
      | false =>
        intro h; exact absurd h Bool.false_ne_true
    | false =>
      intro h; exact absurd h Bool.false_ne_true
  | false =>
    intro _; rfl
theorem ok_impl_WrapKick : CallOK Try.prog 25 (c_impl_WrapKick real) := by
  refine callOK_of fun args h ret hc => ?_
  unfold c_impl_WrapKick at hc
  split at hc
  · rename_i x0
    obtain ⟨hok, rfl⟩ := some_ret hc
    exact holds_ev prog_ok (allOK_cons ok_impl_IsFinite (allOK_cons ok_math_Floor allOK_nil)) Try.func25 rfl rfl smL_nil rfl (e_impl_WrapKick real x0 hok)
  · cases hc
def Pure.laws_FnExactWrapKick (F : FOps) (x0 : Int) : Bool := bif Pure.laws_sameFloat F (FOps.conv F FloatKind.f32 FloatKind.f64 (Pure.impl_WrapKick F x0)) (FOps.conv F FloatKind.f32 FloatKind.f64 (Pure.spec_WrapKick F x0)) then (Pure.impl_IsFinite F x0) == (Pure.spec_l01Finite F x0) else false
def Pure.laws_FnExactWrapKick_ok (F : FOps) (x0 : Int) : Bool := bif Pure.spec_WrapKick_ok F x0 then bif Pure.impl_WrapKick_ok F x0 then bif FOps.convOk F FloatKind.f32 FloatKind.f64 (Pure.impl_WrapKick F x0) then FOps.convOk F FloatKind.f32 FloatKind.f64 (Pure.spec_WrapKick F x0) else false else false else false
def c_laws_FnExactWrapKick (F : FOps) : Con
  | [V.at (A.fl FloatKind.f32 x0)], [] => some (Pure.laws_FnExactWrapKick_ok F x0, ⟨V.at (A.bool (Pure.laws_FnExactWrapKick F x0)), none, []⟩)
  | _, _ => none
theorem e_laws_FnExactWrapKick (F : FOps) (x0 : Int) : Pure.laws_FnExactWrapKick_ok F x0 = true → evFn (cxS F tyl [(24, c_spec_WrapKick F), (25, c_impl_WrapKick F), (16, c_laws_sameFloat F)] [] [] 0) Try.f8 false [V.at (A.fl FloatKind.f32 x0)] [] = some ⟨V.at (A.bool (Pure.laws_FnExactWrapKick F x0)), none, []⟩ := by
  have h0 : evFn (cxS F tyl [(24, c_spec_WrapKick F), (25, c_impl_WrapKick F), (16, c_laws_sameFloat F)] [] [] 0) Try.f8 false [V.at (A.fl FloatKind.f32 x0)] [] = bif Pure.spec_WrapKick_ok F x0 then bif Pure.impl_WrapKick_ok F x0 then bif FOps.convOk F FloatKind.f32 FloatKind.f64 (Pure.impl_WrapKick F x0) then bif FOps.convOk F FloatKind.f32 FloatKind.f64 (Pure.spec_WrapKick F x0) then bif Bool.not (Pure.laws_sameFloat F (FOps.conv F FloatKind.f32 FloatKind.f64 (Pure.impl_WrapKick F x0)) (FOps.conv F FloatKind.f32 FloatKind.f64 (Pure.spec_WrapKick F x0))) then some ⟨V.at (A.bool false), none, []⟩ else bif Bool.not ((Pure.impl_IsFinite F x0) == (Pure.spec_l01Finite F x0)) then some ⟨V.at (A.bool false), none, []⟩ else some ⟨V.at (A.bool true), none, []⟩ else none else none else none else none := by kernel_rfl
  rw [h0]
  unfold Pure.laws_FnExactWrapKick Pure.laws_FnExactWrapKick_ok
  cases (Pure.spec_WrapKick_ok F x0) with
  | true =>
    cases (Pure.impl_WrapKick_ok F x0) with
    | true =>
      cases (FOps.convOk F FloatKind.f32 FloatKind.f64 (Pure.impl_WrapKick F x0)) with
      | true =>
        cases (FOps.convOk F FloatKind.f32 FloatKind.f64 (Pure.spec_WrapKick F x0)) with
        | true =>
          cases (Pure.laws_sameFloat F (FOps.conv F FloatKind.f32 FloatKind.f64 (Pure.impl_WrapKick F x0)) (FOps.conv F FloatKind.f32 FloatKind.f64 (Pure.spec_WrapKick F x0))) with
          | true =>
            cases ((Pure.impl_IsFinite F x0) == (Pure.spec_l01Finite F x0)) with
            | true =>
              intro _; rfl
            | false =>
              intro _; rfl
          | false =>
            intro _; rfl
        | false =>
          intro h; exact absurd h Bool.false_ne_true
      | false =>
        intro h; exact absurd h Bool.false_ne_true
    | false =>
      intro h; exact absurd h Bool.false_ne_true
  | false =>
    intro h; exact absurd h Bool.false_ne_true
theorem ok_laws_FnExactWrapKick : CallOK Try.prog 8 (c_laws_FnExactWrapKick real) := by
  refine callOK_of fun args h ret hc => ?_
  unfold c_laws_FnExactWrapKick at hc
  split at hc
  · rename_i x0
    obtain ⟨hok, rfl⟩ := some_ret hc
    exact holds_ev prog_ok (allOK_cons ok_spec_WrapKick (allOK_cons ok_impl_WrapKick (allOK_cons ok_laws_sameFloat allOK_nil))) Try.func8 rfl rfl smL_nil rfl (e_laws_FnExactWrapKick real x0 hok)
  · cases hc
def Pure.spec_GrowOrbit_ok (F : FOps) (x0 : Int) (x1 : Int) (x2 : Int) (x3 : Int) : Bool := Pure.spec_l07Growth_ok F x0 x1 x2 x3
def c_spec_GrowOrbit (F : FOps) : Con
  | [V.at (A.fl FloatKind.f32 x0), V.at (A.fl FloatKind.f32 x1), V.at (A.int IntKind.i64 x2), V.at (A.int IntKind.i64 x3)], [] => some (Pure.spec_GrowOrbit_ok F x0 x1 x2 x3, ⟨V.tup [(false, [A.sl 0]), (false, [A.bool (Pure.spec_l07Growth F x0 x1 x2 x3)])], none, [⟨true, OC.rows [K.f FloatKind.f32] (Pure.spec_l07Growth_1 F x0 x1 x2 x3)⟩]⟩)
  | _, _ => none
theorem e_spec_GrowOrbit (F : FOps) (x0 : Int) (x1 : Int) (x2 : Int) (x3 : Int) : Pure.spec_GrowOrbit_ok F x0 x1 x2 x3 = true → evFn (cxS F tyl [(35, c_spec_l07Growth F)] [] [] 0) Try.f19 false [V.at (A.fl FloatKind.f32 x0), V.at (A.fl FloatKind.f32 x1), V.at (A.int IntKind.i64 x2), V.at (A.int IntKind.i64 x3)] [] = some ⟨V.tup [(false, [A.sl 0]), (false, [A.bool (Pure.spec_l07Growth F x0 x1 x2 x3)])], none, [⟨true, OC.rows [K.f FloatKind.f32] (Pure.spec_l07Growth_1 F x0 x1 x2 x3)⟩]⟩ := by
  have h0 : evFn (cxS F tyl [(35, c_spec_l07Growth F)] [] [] 0) Try.f19 false [V.at (A.fl FloatKind.f32 x0), V.at (A.fl FloatKind.f32 x1), V.at (A.int IntKind.i64 x2), V.at (A.int IntKind.i64 x3)] [] = bif Pure.spec_l07Growth_ok F x0 x1 x2 x3 then some ⟨V.tup [(false, [A.sl 0]), (false, [A.bool (Pure.spec_l07Growth F x0 x1 x2 x3)])], none, [⟨true, OC.rows [K.f FloatKind.f32] (Pure.spec_l07Growth_1 F x0 x1 x2 x3)⟩]⟩ else none := by kernel_rfl
  rw [h0]
  unfold Pure.spec_GrowOrbit_ok
  cases (Pure.spec_l07Growth_ok F x0 x1 x2 x3) with
  | true =>
    intro _; rfl
  | false =>
    intro h; exact absurd h Bool.false_ne_true
theorem ok_spec_GrowOrbit : CallOK Try.prog 19 (c_spec_GrowOrbit real) := by
  refine callOK_of fun args h ret hc => ?_
  unfold c_spec_GrowOrbit at hc
  split at hc
  · rename_i x0 x1 x2 x3
    obtain ⟨hok, rfl⟩ := some_ret hc
    exact holds_ev prog_ok (allOK_cons ok_spec_l07Growth allOK_nil) Try.func19 rfl rfl smL_nil rfl (e_spec_GrowOrbit real x0 x1 x2 x3 hok)
  · cases hc
def Pure.laws_eqFloat32S_L0 (F : FOps) (y1 : List (List Int)) (y2 : List (List Int)) : Nat → Int → (Bool × Bool)
  | 0, _ => (false, false)
  | n + 1, y0 => bif (Decidable.decide (y0 < (Int.ofNat (List.length y1)))) then (bif (Decidable.decide (0 ≤ y0)) then (bif (Decidable.decide (y0 < (Int.ofNat (List.length y1)))) then (bif (FOps.convOk F FloatKind.f32 FloatKind.f64 (List.getD (List.getD y1 (Int.toNat y0) []) 0 0)) then (bif (Decidable.decide (0 ≤ y0)) then (bif (Decidable.decide (y0 < (Int.ofNat (List.length y2)))) then (bif (FOps.convOk F FloatKind.f32 FloatKind.f64 (List.getD (List.getD y2 (Int.toNat y0) []) 0 0)) then (bif (Pure.laws_sameFloat F (FOps.conv F FloatKind.f32 FloatKind.f64 (List.getD (List.getD y1 (Int.toNat y0) []) 0 0)) (FOps.conv F FloatKind.f32 FloatKind.f64 (List.getD (List.getD y2 (Int.toNat y0) []) 0 0))) then (Pure.laws_eqFloat32S_L0 F y1 y2 n (IntKind.wrap IntKind.i64 (y0 + 1))) else ((true, true))) else ((false, false))) else ((false, false))) else ((false, false))) else ((false, false))) else ((false, false))) else ((false, false))) else ((true, false))
def R_laws_eqFloat32S_L0 (y1 : List (List Int)) (y2 : List (List Int)) (r : (Bool × Bool)) : Bool × Bool × (Ex × List V × List Ob) × (Ex × List V × List Ob) := ((r).1, (r).2, (Ex.normal, [V.at A.undef], [⟨false, OC.rows [K.f FloatKind.f32] y1⟩, ⟨false, OC.rows [K.f FloatKind.f32] y2⟩]), (Ex.ret, [V.at (A.bool false)], [⟨false, OC.rows [K.f FloatKind.f32] y1⟩, ⟨false, OC.rows [K.f FloatKind.f32] y2⟩]))
def S_laws_eqFloat32S_L0 (F : FOps) : Sm := ⟨[0, 1, 5], [39, 39, 3], [4], fun vals hp => match vals, hp with
  | [V.at (A.sl 0), V.at (A.sl 1), V.at (A.int IntKind.i64 y0)], [⟨false, OC.rows [K.f FloatKind.f32] y1⟩, ⟨false, OC.rows [K.f FloatKind.f32] y2⟩] => some (R_laws_eqFloat32S_L0 y1 y2 (Pure.laws_eqFloat32S_L0 F y1 y2 ((Int.ofNat (List.length y1)) - y0 + 1).toNat y0))
  | _, _ => none⟩
theorem l_laws_eqFloat32S_L0 (F : FOps) (y1 : List (List Int)) (y2 : List (List Int)) : ∀ (fuel : Nat) (y0 : Int), (Pure.laws_eqFloat32S_L0 F y1 y2 fuel y0).1 = true → loopOf (cxS F tyl [(16, c_laws_sameFloat F)] [] [] 0) 2 29 0 [0, 1, 5] [39, 39, 3] [4] (loopB 0 (codeOf Try.f21)) fuel [V.at (A.sl 0), V.at (A.sl 1), V.at (A.int IntKind.i64 y0)] [⟨false, OC.rows [K.f FloatKind.f32] y1⟩, ⟨false, OC.rows [K.f FloatKind.f32] y2⟩] = resOf (R_laws_eqFloat32S_L0 y1 y2 (Pure.laws_eqFloat32S_L0 F y1 y2 fuel y0)) := by
  intro fuel
  induction fuel with
  | zero => intro y0 h; exact absurd h Bool.false_ne_true
  | succ n ih =>
    intro y0
    have h0 : roundOf (cxS F tyl [(16, c_laws_sameFloat F)] [] [] 0) 2 29 0 [0, 1, 5] [39, 39, 3] [4] (loopB 0 (codeOf Try.f21)) [V.at (A.sl 0), V.at (A.sl 1), V.at (A.int IntKind.i64 y0)] [⟨false, OC.rows [K.f FloatKind.f32] y1⟩, ⟨false, OC.rows [K.f FloatKind.f32] y2⟩] = (bif Decidable.decide (y0 < (Int.ofNat (List.length y1))) then bif Decidable.decide (0 ≤ y0) then bif Decidable.decide (y0 < (Int.ofNat (List.length y1))) then bif FOps.convOk F FloatKind.f32 FloatKind.f64 (List.getD (List.getD y1 (Int.toNat y0) []) 0 0) then bif Decidable.decide (0 ≤ y0) then bif Decidable.decide (y0 < (Int.ofNat (List.length y2))) then bif FOps.convOk F FloatKind.f32 FloatKind.f64 (List.getD (List.getD y2 (Int.toNat y0) []) 0 0) then bif Bool.not (Pure.laws_sameFloat F (FOps.conv F FloatKind.f32 FloatKind.f64 (List.getD (List.getD y1 (Int.toNat y0) []) 0 0)) (FOps.conv F FloatKind.f32 FloatKind.f64 (List.getD (List.getD y2 (Int.toNat y0) []) 0 0))) then some (false, (Ex.ret, ([V.at (A.bool false)], [⟨false, OC.rows [K.f FloatKind.f32] y1⟩, ⟨false, OC.rows [K.f FloatKind.f32] y2⟩]))) else some (true, (Ex.normal, ([V.at (A.sl 0), V.at (A.sl 1), V.at (A.int IntKind.i64 (IntKind.wrap IntKind.i64 (y0 + 1)))], [⟨false, OC.rows [K.f FloatKind.f32] y1⟩, ⟨false, OC.rows [K.f FloatKind.f32] y2⟩]))) else none else none else none else none else none else none else some (false, (Ex.normal, ([V.at A.undef], [⟨false, OC.rows [K.f FloatKind.f32] y1⟩, ⟨false, OC.rows [K.f FloatKind.f32] y2⟩])))) := by kernel_rfl
    unfold loopOf
    rw [h0]
    unfold Pure.laws_eqFloat32S_L0
    cases (Decidable.decide (y0 < (Int.ofNat (List.length y1)))) with
    | true =>
      cases (Decidable.decide (0 ≤ y0)) with
      | true =>
        cases (FOps.convOk F FloatKind.f32 FloatKind.f64 (List.getD (List.getD y1 (Int.toNat y0) []) 0 0)) with
        | true =>
          cases (Decidable.decide (y0 < (Int.ofNat (List.length y2)))) with
          | true =>
            cases (FOps.convOk F FloatKind.f32 FloatKind.f64 (List.getD (List.getD y2 (Int.toNat y0) []) 0 0)) with
            | true =>
              cases (Pure.laws_sameFloat F (FOps.conv F FloatKind.f32 FloatKind.f64 (List.getD (List.getD y1 (Int.toNat y0) []) 0 0)) (FOps.conv F FloatKind.f32 FloatKind.f64 (List.getD (List.getD y2 (Int.toNat y0) []) 0 0))) with
              | true =>
                exact ih _
              | false =>
                intro _; rfl
            | false =>
              intro h; exact absurd h Bool.false_ne_true
          | false =>
            intro h; exact absurd h Bool.false_ne_true
        | false =>
          intro h; exact absurd h Bool.false_ne_true
      | false =>
        intro h; exact absurd h Bool.false_ne_true
    | false =>
      intro _; rfl
theorem t_laws_eqFloat32S_L0 : SmTo Try.prog 2 29 (S_laws_eqFloat32S_L0 real) 0 (.loop (loopB 0 (codeOf Try.f21))) := by
  refine smTo_ev (cl := [(16, c_laws_sameFloat real)]) (ef := []) (sm := []) (un := 0) prog_ok (allOK_cons ok_laws_sameFloat allOK_nil) smL_nil ?_
  intro vals hp q r h hq
  unfold S_laws_eqFloat32S_L0 at h
  dsimp only at h
  split at h
  · rename_i y0 y1 y2
    obtain rfl := Option.some.inj h
    have h1 := hq
    unfold resOf at h1
    rw [chk_some] at h1
    exact ⟨_, (l_laws_eqFloat32S_L0 real y1 y2 _ y0 h1.1).trans hq⟩
  · cases h
def Pure.laws_eqFloat32S (F : FOps) (x0 : List (List Int)) (x1 : List (List Int)) : Bool := bif (Int.ofNat (List.length x0)) != (Int.ofNat (List.length x1)) then false else bif Prod.snd (Pure.laws_eqFloat32S_L0 F x0 x1 (Nat.succ ((List.length x0) + 0)) 0) then false else true
def Pure.laws_eqFloat32S_ok (F : FOps) (x0 : List (List Int)) (x1 : List (List Int)) : Bool := bif (Int.ofNat (List.length x0)) != (Int.ofNat (List.length x1)) then true else Prod.fst (Pure.laws_eqFloat32S_L0 F x0 x1 (Nat.succ ((List.length x0) + 0)) 0)
def c_laws_eqFloat32S (F : FOps) : Con
  | [V.at (A.sl 0), V.at (A.sl 1)], [⟨false, OC.rows [K.f FloatKind.f32] x0⟩, ⟨false, OC.rows [K.f FloatKind.f32] x1⟩] => some (Pure.laws_eqFloat32S_ok F x0 x1, ⟨V.at (A.bool (Pure.laws_eqFloat32S F x0 x1)), none, []⟩)
  | _, _ => none
theorem e_laws_eqFloat32S (F : FOps) (x0 : List (List Int)) (x1 : List (List Int)) : Pure.laws_eqFloat32S_ok F x0 x1 = true → evFn (cxS F tyl [(16, c_laws_sameFloat F)] [] [(0, S_laws_eqFloat32S_L0 F)] 0) Try.f21 false [V.at (A.sl 0), V.at (A.sl 1)] [⟨false, OC.rows [K.f FloatKind.f32] x0⟩, ⟨false, OC.rows [K.f FloatKind.f32] x1⟩] = some ⟨V.at (A.bool (Pure.laws_eqFloat32S F x0 x1)), none, []⟩ := by
  have h0 : evFn (cxS F tyl [(16, c_laws_sameFloat F)] [] [(0, S_laws_eqFloat32S_L0 F)] 0) Try.f21 false [V.at (A.sl 0), V.at (A.sl 1)] [⟨false, OC.rows [K.f FloatKind.f32] x0⟩, ⟨false, OC.rows [K.f FloatKind.f32] x1⟩] = bif (Int.ofNat (List.length x0)) != (Int.ofNat (List.length x1)) then some ⟨V.at (A.bool false), none, []⟩ else bif Prod.fst (Pure.laws_eqFloat32S_L0 F x0 x1 (Nat.succ ((List.length x0) + 0)) 0) then bif Prod.snd (Pure.laws_eqFloat32S_L0 F x0 x1 (Nat.succ ((List.length x0) + 0)) 0) then some ⟨V.at (A.bool false), none, []⟩ else some ⟨V.at (A.bool true), none, []⟩ else none := by kernel_rfl
  rw [h0]
  unfold Pure.laws_eqFloat32S Pure.laws_eqFloat32S_ok
  cases ((Int.ofNat (List.length x0)) != (Int.ofNat (List.length x1))) with
  | true =>
    intro _; rfl
  | false =>
    cases (Prod.fst (Pure.laws_eqFloat32S_L0 F x0 x1 (Nat.succ ((List.length x0) + 0)) 0)) with
    | true =>
      cases (Prod.snd (Pure.laws_eqFloat32S_L0 F x0 x1 (Nat.succ ((List.length x0) + 0)) 0)) with
      | true =>
        intro _; rfl
      | false =>
        intro _; rfl
    | false =>
      intro h; exact absurd h Bool.false_ne_true
theorem ok_laws_eqFloat32S : CallOK Try.prog 21 (c_laws_eqFloat32S real) := by
  refine callOK_of fun args h ret hc => ?_
  unfold c_laws_eqFloat32S at hc
  split at hc
  · rename_i x0 x1
    obtain ⟨hok, rfl⟩ := some_ret hc
    exact holds_ev prog_ok (allOK_cons ok_laws_sameFloat allOK_nil) Try.func21 rfl rfl (smL_cons (body := .loop (loopB 0 (codeOf Try.f21))) (by kernel_rfl) t_laws_eqFloat32S_L0 smL_nil) rfl (e_laws_eqFloat32S real x0 x1 hok)
  · cases hc
def Pure.laws_markFloat32S_L0 (F : FOps) : Nat → Int → Int → (List (List Int)) → (Bool × Int × (List (List Int)))
  | 0, _, _, _ => (false, 0, [])
  | n + 1, y0, y1, y2 => bif (Decidable.decide (y1 < (Int.ofNat (List.length y2)))) then (bif (Decidable.decide (0 ≤ y1)) then (bif (Decidable.decide (y1 < (Int.ofNat (List.length y2)))) then (Pure.laws_markFloat32S_L0 F  n (IntKind.wrap IntKind.i64 (y0 + 1)) (IntKind.wrap IntKind.i64 (y1 + 1)) (List.set y2 (Int.toNat y1) [FOps.ofInt F FloatKind.f32 y0])) else ((false, 0, []))) else ((false, 0, []))) else ((true, y0, y2))
def R_laws_markFloat32S_L0 (r : (Bool × Int × (List (List Int)))) : Bool × Bool × (Ex × List V × List Ob) × (Ex × List V × List Ob) := ((r).1, false, (Ex.normal, [V.at (A.int IntKind.i64 (r).2.1)], [⟨true, OC.rows [K.f FloatKind.f32] (r).2.2⟩]), (Ex.normal, [V.at (A.int IntKind.i64 (r).2.1)], [⟨true, OC.rows [K.f FloatKind.f32] (r).2.2⟩]))
def S_laws_markFloat32S_L0 (F : FOps) : Sm := ⟨[0, 1, 5], [39, 3, 3], [1], fun vals hp => match vals, hp with
  | [V.at (A.sl 0), V.at (A.int IntKind.i64 y0), V.at (A.int IntKind.i64 y1)], [⟨true, OC.rows [K.f FloatKind.f32] y2⟩] => some (R_laws_markFloat32S_L0  (Pure.laws_markFloat32S_L0 F  ((Int.ofNat (List.length y2)) - y1 + 1).toNat y0 y1 y2))
  | _, _ => none⟩
theorem l_laws_markFloat32S_L0 (F : FOps) : ∀ (fuel : Nat) (y0 : Int) (y1 : Int) (y2 : List (List Int)), (Pure.laws_markFloat32S_L0 F  fuel y0 y1 y2).1 = true → loopOf (cxS F tyl [] [] [] 0) 1 20 0 [0, 1, 5] [39, 3, 3] [1] (loopB 0 (codeOf Try.f22)) fuel [V.at (A.sl 0), V.at (A.int IntKind.i64 y0), V.at (A.int IntKind.i64 y1)] [⟨true, OC.rows [K.f FloatKind.f32] y2⟩] = resOf (R_laws_markFloat32S_L0  (Pure.laws_markFloat32S_L0 F  fuel y0 y1 y2)) := by
  intro fuel
  induction fuel with
  | zero => intro y0 y1 y2 h; exact absurd h Bool.false_ne_true
  | succ n ih =>
    intro y0 y1 y2
    have h0 : roundOf (cxS F tyl [] [] [] 0) 1 20 0 [0, 1, 5] [39, 3, 3] [1] (loopB 0 (codeOf Try.f22)) [V.at (A.sl 0), V.at (A.int IntKind.i64 y0), V.at (A.int IntKind.i64 y1)] [⟨true, OC.rows [K.f FloatKind.f32] y2⟩] = (bif Decidable.decide (y1 < (Int.ofNat (List.length y2))) then bif Decidable.decide (0 ≤ y1) then bif Decidable.decide (y1 < (Int.ofNat (List.length y2))) then some (true, (Ex.normal, ([V.at (A.sl 0), V.at (A.int IntKind.i64 (IntKind.wrap IntKind.i64 (y0 + 1))), V.at (A.int IntKind.i64 (IntKind.wrap IntKind.i64 (y1 + 1)))], [⟨true, OC.rows [K.f FloatKind.f32] (List.set y2 (Int.toNat y1) [FOps.ofInt F FloatKind.f32 y0])⟩]))) else none else none else some (false, (Ex.normal, ([V.at (A.int IntKind.i64 y0)], [⟨true, OC.rows [K.f FloatKind.f32] y2⟩])))) := by kernel_rfl
    unfold loopOf
    rw [h0]
    unfold Pure.laws_markFloat32S_L0
    cases (Decidable.decide (y1 < (Int.ofNat (List.length y2)))) with
    | true =>
      cases (Decidable.decide (0 ≤ y1)) with
      | true =>
        exact ih _ _ _
      | false =>
        intro h; exact absurd h Bool.false_ne_true
    | false =>
      intro _; rfl
theorem t_laws_markFloat32S_L0 : SmTo Try.prog 1 20 (S_laws_markFloat32S_L0 real) 0 (.loop (loopB 0 (codeOf Try.f22))) := by
  refine smTo_ev (cl := []) (ef := []) (sm := []) (un := 0) prog_ok allOK_nil smL_nil ?_
  intro vals hp q r h hq
  unfold S_laws_markFloat32S_L0 at h
  dsimp only at h
  split at h
  · rename_i y0 y1 y2
    obtain rfl := Option.some.inj h
    have h1 := hq
    unfold resOf at h1
    rw [chk_some] at h1
    exact ⟨_, (l_laws_markFloat32S_L0 real _ y0 y1 y2 h1.1).trans hq⟩
  · cases h
def Pure.laws_markFloat32S (F : FOps) (x0 : List (List Int)) (x1 : Int) : Int := Prod.fst (Prod.snd (Pure.laws_markFloat32S_L0 F (Nat.succ ((List.length x0) + 0)) x1 0 x0))
def Pure.laws_markFloat32S_1 (F : FOps) (x0 : List (List Int)) (x1 : Int) : List (List Int) := Prod.snd (Prod.snd (Pure.laws_markFloat32S_L0 F (Nat.succ ((List.length x0) + 0)) x1 0 x0))
def Pure.laws_markFloat32S_ok (F : FOps) (x0 : List (List Int)) (x1 : Int) : Bool := Prod.fst (Pure.laws_markFloat32S_L0 F (Nat.succ ((List.length x0) + 0)) x1 0 x0)
def c_laws_markFloat32S (F : FOps) : Con
  | [V.at (A.sl 0), V.at (A.int IntKind.i64 x1)], [⟨true, OC.rows [K.f FloatKind.f32] x0⟩] => some (Pure.laws_markFloat32S_ok F x0 x1, ⟨V.at (A.int IntKind.i64 (Pure.laws_markFloat32S F x0 x1)), some [⟨true, OC.rows [K.f FloatKind.f32] (Pure.laws_markFloat32S_1 F x0 x1)⟩], []⟩)
  | _, _ => none
theorem e_laws_markFloat32S (F : FOps) (x0 : List (List Int)) (x1 : Int) : Pure.laws_markFloat32S_ok F x0 x1 = true → evFn (cxS F tyl [] [] [(0, S_laws_markFloat32S_L0 F)] 0) Try.f22 true [V.at (A.sl 0), V.at (A.int IntKind.i64 x1)] [⟨true, OC.rows [K.f FloatKind.f32] x0⟩] = some ⟨V.at (A.int IntKind.i64 (Pure.laws_markFloat32S F x0 x1)), some [⟨true, OC.rows [K.f FloatKind.f32] (Pure.laws_markFloat32S_1 F x0 x1)⟩], []⟩ := by
  have h0 : evFn (cxS F tyl [] [] [(0, S_laws_markFloat32S_L0 F)] 0) Try.f22 true [V.at (A.sl 0), V.at (A.int IntKind.i64 x1)] [⟨true, OC.rows [K.f FloatKind.f32] x0⟩] = bif Prod.fst (Pure.laws_markFloat32S_L0 F (Nat.succ ((List.length x0) + 0)) x1 0 x0) then some ⟨V.at (A.int IntKind.i64 (Prod.fst (Prod.snd (Pure.laws_markFloat32S_L0 F (Nat.succ ((List.length x0) + 0)) x1 0 x0)))), some [⟨true, OC.rows [K.f FloatKind.f32] (Prod.snd (Prod.snd (Pure.laws_markFloat32S_L0 F (Nat.succ ((List.length x0) + 0)) x1 0 x0)))⟩], []⟩ else none := by kernel_rfl
  rw [h0]
  unfold Pure.laws_markFloat32S Pure.laws_markFloat32S_1 Pure.laws_markFloat32S_ok
  cases (Prod.fst (Pure.laws_markFloat32S_L0 F (Nat.succ ((List.length x0) + 0)) x1 0 x0)) with
  | true =>
    intro _; rfl
  | false =>
    intro h; exact absurd h Bool.false_ne_true
theorem ok_laws_markFloat32S : CallOK Try.prog 22 (c_laws_markFloat32S real) := by
  refine callOK_of fun args h ret hc => ?_
  unfold c_laws_markFloat32S at hc
  split at hc
  · rename_i x1 x0
    obtain ⟨hok, rfl⟩ := some_ret hc
    exact holdsE_ev prog_ok allOK_nil Try.func22 rfl rfl (smL_cons (body := .loop (loopB 0 (codeOf Try.f22))) (by kernel_rfl) t_laws_markFloat32S_L0 smL_nil) (e_laws_markFloat32S real x0 x1 hok)
  · cases hc
def Pure.laws_heldFloat32S_L0 (F : FOps) (y2 : List (List Int)) : Nat → Int → Int → (Bool × Bool × Int × Int)
  | 0, _, _ => (false, false, 0, 0)
  | n + 1, y0, y1 => bif (Decidable.decide (y1 < (Int.ofNat (List.length y2)))) then (bif (Decidable.decide (0 ≤ y1)) then (bif (Decidable.decide (y1 < (Int.ofNat (List.length y2)))) then (bif (FOps.cmp F BinOp.neq FloatKind.f32 (List.getD (List.getD y2 (Int.toNat y1) []) 0 0) (FOps.ofInt F FloatKind.f32 y0)) then ((true, true, 0, y0)) else (Pure.laws_heldFloat32S_L0 F y2 n (IntKind.wrap IntKind.i64 (y0 + 1)) (IntKind.wrap IntKind.i64 (y1 + 1)))) else ((false, false, 0, 0))) else ((false, false, 0, 0))) else ((true, false, y0, 0))
def R_laws_heldFloat32S_L0 (y2 : List (List Int)) (r : (Bool × Bool × Int × Int)) : Bool × Bool × (Ex × List V × List Ob) × (Ex × List V × List Ob) := ((r).1, (r).2.1, (Ex.normal, [V.at (A.int IntKind.i64 (r).2.2.1), V.at A.undef], [⟨false, OC.rows [K.f FloatKind.f32] y2⟩]), (Ex.ret, [V.at (A.int IntKind.i64 (r).2.2.2), V.at (A.int IntKind.i64 (-1))], [⟨false, OC.rows [K.f FloatKind.f32] y2⟩]))
def S_laws_heldFloat32S_L0 (F : FOps) : Sm := ⟨[0, 1, 5], [39, 3, 3], [1, 4], fun vals hp => match vals, hp with
  | [V.at (A.sl 0), V.at (A.int IntKind.i64 y0), V.at (A.int IntKind.i64 y1)], [⟨false, OC.rows [K.f FloatKind.f32] y2⟩] => some (R_laws_heldFloat32S_L0 y2 (Pure.laws_heldFloat32S_L0 F y2 ((Int.ofNat (List.length y2)) - y1 + 1).toNat y0 y1))
  | _, _ => none⟩
theorem l_laws_heldFloat32S_L0 (F : FOps) (y2 : List (List Int)) : ∀ (fuel : Nat) (y0 : Int) (y1 : Int), (Pure.laws_heldFloat32S_L0 F y2 fuel y0 y1).1 = true → loopOf (cxS F tyl [] [] [] 0) 1 22 0 [0, 1, 5] [39, 3, 3] [1, 4] (loopB 0 (codeOf Try.f23)) fuel [V.at (A.sl 0), V.at (A.int IntKind.i64 y0), V.at (A.int IntKind.i64 y1)] [⟨false, OC.rows [K.f FloatKind.f32] y2⟩] = resOf (R_laws_heldFloat32S_L0 y2 (Pure.laws_heldFloat32S_L0 F y2 fuel y0 y1)) := by
  intro fuel
  induction fuel with
  | zero => intro y0 y1 h; exact absurd h Bool.false_ne_true
  | succ n ih =>
    intro y0 y1
    have h0 : roundOf (cxS F tyl [] [] [] 0) 1 22 0 [0, 1, 5] [39, 3, 3] [1, 4] (loopB 0 (codeOf Try.f23)) [V.at (A.sl 0), V.at (A.int IntKind.i64 y0), V.at (A.int IntKind.i64 y1)] [⟨false, OC.rows [K.f FloatKind.f32] y2⟩] = (bif Decidable.decide (y1 < (Int.ofNat (List.length y2))) then bif Decidable.decide (0 ≤ y1) then bif Decidable.decide (y1 < (Int.ofNat (List.length y2))) then bif FOps.cmp F BinOp.neq FloatKind.f32 (List.getD (List.getD y2 (Int.toNat y1) []) 0 0) (FOps.ofInt F FloatKind.f32 y0) then some (false, (Ex.ret, ([V.at (A.int IntKind.i64 y0), V.at (A.int IntKind.i64 (-1))], [⟨false, OC.rows [K.f FloatKind.f32] y2⟩]))) else some (true, (Ex.normal, ([V.at (A.sl 0), V.at (A.int IntKind.i64 (IntKind.wrap IntKind.i64 (y0 + 1))), V.at (A.int IntKind.i64 (IntKind.wrap IntKind.i64 (y1 + 1)))], [⟨false, OC.rows [K.f FloatKind.f32] y2⟩]))) else none else none else some (false, (Ex.normal, ([V.at (A.int IntKind.i64 y0), V.at A.undef], [⟨false, OC.rows [K.f FloatKind.f32] y2⟩])))) := by kernel_rfl
    unfold loopOf
    rw [h0]
    unfold Pure.laws_heldFloat32S_L0
    cases (Decidable.decide (y1 < (Int.ofNat (List.length y2)))) with
    | true =>
      cases (Decidable.decide (0 ≤ y1)) with
      | true =>
        cases (FOps.cmp F BinOp.neq FloatKind.f32 (List.getD (List.getD y2 (Int.toNat y1) []) 0 0) (FOps.ofInt F FloatKind.f32 y0)) with
        | true =>
          intro _; rfl
        | false =>
          exact ih _ _
      | false =>
        intro h; exact absurd h Bool.false_ne_true
    | false =>
      intro _; rfl
theorem t_laws_heldFloat32S_L0 : SmTo Try.prog 1 22 (S_laws_heldFloat32S_L0 real) 0 (.loop (loopB 0 (codeOf Try.f23))) := by
  refine smTo_ev (cl := []) (ef := []) (sm := []) (un := 0) prog_ok allOK_nil smL_nil ?_
  intro vals hp q r h hq
  unfold S_laws_heldFloat32S_L0 at h
  dsimp only at h
  split at h
  · rename_i y0 y1 y2
    obtain rfl := Option.some.inj h
    have h1 := hq
    unfold resOf at h1
    rw [chk_some] at h1
    exact ⟨_, (l_laws_heldFloat32S_L0 real y2 _ y0 y1 h1.1).trans hq⟩
  · cases h
def Pure.laws_heldFloat32S (F : FOps) (x0 : List (List Int)) (x1 : Int) : Int := bif Prod.fst (Prod.snd (Pure.laws_heldFloat32S_L0 F x0 (Nat.succ ((List.length x0) + 0)) x1 0)) then (-1) else Prod.fst (Prod.snd (Prod.snd (Pure.laws_heldFloat32S_L0 F x0 (Nat.succ ((List.length x0) + 0)) x1 0)))
def Pure.laws_heldFloat32S_ok (F : FOps) (x0 : List (List Int)) (x1 : Int) : Bool := Prod.fst (Pure.laws_heldFloat32S_L0 F x0 (Nat.succ ((List.length x0) + 0)) x1 0)
def c_laws_heldFloat32S (F : FOps) : Con
  | [V.at (A.sl 0), V.at (A.int IntKind.i64 x1)], [⟨false, OC.rows [K.f FloatKind.f32] x0⟩] => some (Pure.laws_heldFloat32S_ok F x0 x1, ⟨V.at (A.int IntKind.i64 (Pure.laws_heldFloat32S F x0 x1)), none, []⟩)
  | _, _ => none
theorem e_laws_heldFloat32S (F : FOps) (x0 : List (List Int)) (x1 : Int) : Pure.laws_heldFloat32S_ok F x0 x1 = true → evFn (cxS F tyl [] [] [(0, S_laws_heldFloat32S_L0 F)] 0) Try.f23 false [V.at (A.sl 0), V.at (A.int IntKind.i64 x1)] [⟨false, OC.rows [K.f FloatKind.f32] x0⟩] = some ⟨V.at (A.int IntKind.i64 (Pure.laws_heldFloat32S F x0 x1)), none, []⟩ := by
  have h0 : evFn (cxS F tyl [] [] [(0, S_laws_heldFloat32S_L0 F)] 0) Try.f23 false [V.at (A.sl 0), V.at (A.int IntKind.i64 x1)] [⟨false, OC.rows [K.f FloatKind.f32] x0⟩] = bif Prod.fst (Pure.laws_heldFloat32S_L0 F x0 (Nat.succ ((List.length x0) + 0)) x1 0) then bif Prod.fst (Prod.snd (Pure.laws_heldFloat32S_L0 F x0 (Nat.succ ((List.length x0) + 0)) x1 0)) then some ⟨V.at (A.int IntKind.i64 (-1)), none, []⟩ else some ⟨V.at (A.int IntKind.i64 (Prod.fst (Prod.snd (Prod.snd (Pure.laws_heldFloat32S_L0 F x0 (Nat.succ ((List.length x0) + 0)) x1 0))))), none, []⟩ else none := by kernel_rfl
  rw [h0]
  unfold Pure.laws_heldFloat32S Pure.laws_heldFloat32S_ok
  cases (Prod.fst (Pure.laws_heldFloat32S_L0 F x0 (Nat.succ ((List.length x0) + 0)) x1 0)) with
  | true =>
    cases (Prod.fst (Prod.snd (Pure.laws_heldFloat32S_L0 F x0 (Nat.succ ((List.length x0) + 0)) x1 0))) with
    | true =>
      intro _; rfl
    | false =>
      intro _; rfl
  | false =>
    intro h; exact absurd h Bool.false_ne_true
theorem ok_laws_heldFloat32S : CallOK Try.prog 23 (c_laws_heldFloat32S real) := by
  refine callOK_of fun args h ret hc => ?_
  unfold c_laws_heldFloat32S at hc
  split at hc
  · rename_i x1 x0
    obtain ⟨hok, rfl⟩ := some_ret hc
    exact holds_ev prog_ok allOK_nil Try.func23 rfl rfl (smL_cons (body := .loop (loopB 0 (codeOf Try.f23))) (by kernel_rfl) t_laws_heldFloat32S_L0 smL_nil) rfl (e_laws_heldFloat32S real x0 x1 hok)
  · cases hc
def Pure.laws_FnExactGrowOrbit (F : FOps) (x0 : Int) (x1 : Int) (x2 : Int) (x3 : Int) : Bool := bif Pure.laws_eqFloat32S F (Pure.impl_GrowOrbit_1 F x0 x1 x2 x3) (Pure.spec_l07Growth_1 F x0 x1 x2 x3) then bif (Pure.impl_GrowOrbit F x0 x1 x2 x3) == (Pure.spec_l07Growth F x0 x1 x2 x3) then bif Decidable.decide ((Pure.laws_heldFloat32S F (Pure.laws_markFloat32S_1 F (Pure.impl_GrowOrbit_1 F x0 x1 x2 x3) 1) 1) < 0) then false else bif (Pure.laws_heldFloat32S F (Pure.laws_markFloat32S_1 F (Pure.impl_GrowOrbit_1 F x0 x1 x2 x3) 1) 1) != (Pure.laws_markFloat32S F (Pure.impl_GrowOrbit_1 F x0 x1 x2 x3) 1) then false else true else false else false
def Pure.laws_FnExactGrowOrbit_ok (F : FOps) (x0 : Int) (x1 : Int) (x2 : Int) (x3 : Int) : Bool := bif Pure.spec_GrowOrbit_ok F x0 x1 x2 x3 then bif Pure.impl_GrowOrbit_ok F x0 x1 x2 x3 then bif Pure.laws_eqFloat32S_ok F (Pure.impl_GrowOrbit_1 F x0 x1 x2 x3) (Pure.spec_l07Growth_1 F x0 x1 x2 x3) then bif Pure.laws_eqFloat32S F (Pure.impl_GrowOrbit_1 F x0 x1 x2 x3) (Pure.spec_l07Growth_1 F x0 x1 x2 x3) then bif (Pure.impl_GrowOrbit F x0 x1 x2 x3) == (Pure.spec_l07Growth F x0 x1 x2 x3) then bif Pure.laws_markFloat32S_ok F (Pure.impl_GrowOrbit_1 F x0 x1 x2 x3) 1 then Pure.laws_heldFloat32S_ok F (Pure.laws_markFloat32S_1 F (Pure.impl_GrowOrbit_1 F x0 x1 x2 x3) 1) 1 else false else true else true else false else false else false
def c_laws_FnExactGrowOrbit (F : FOps) : Con
  | [V.at (A.fl FloatKind.f32 x0), V.at (A.fl FloatKind.f32 x1), V.at (A.int IntKind.i64 x2), V.at (A.int IntKind.i64 x3)], [] => some (Pure.laws_FnExactGrowOrbit_ok F x0 x1 x2 x3, ⟨V.at (A.bool (Pure.laws_FnExactGrowOrbit F x0 x1 x2 x3)), none, []⟩)
  | _, _ => none
theorem e_laws_FnExactGrowOrbit (F : FOps) (x0 : Int) (x1 : Int) (x2 : Int) (x3 : Int) : Pure.laws_FnExactGrowOrbit_ok F x0 x1 x2 x3 = true → evFn (cxS F tyl [(19, c_spec_GrowOrbit F), (20, c_impl_GrowOrbit F), (21, c_laws_eqFloat32S F), (22, c_laws_markFloat32S F), (23, c_laws_heldFloat32S F)] [22] [] 0) Try.f7 false [V.at (A.fl FloatKind.f32 x0), V.at (A.fl FloatKind.f32 x1), V.at (A.int IntKind.i64 x2), V.at (A.int IntKind.i64 x3)] [] = some ⟨V.at (A.bool (Pure.laws_FnExactGrowOrbit F x0 x1 x2 x3)), none, []⟩ := by
  have h0 : evFn (cxS F tyl [(19, c_spec_GrowOrbit F), (20, c_impl_GrowOrbit F), (21, c_laws_eqFloat32S F), (22, c_laws_markFloat32S F), (23, c_laws_heldFloat32S F)] [22] [] 0) Try.f7 false [V.at (A.fl FloatKind.f32 x0), V.at (A.fl FloatKind.f32 x1), V.at (A.int IntKind.i64 x2), V.at (A.int IntKind.i64 x3)] [] = bif Pure.spec_GrowOrbit_ok F x0 x1 x2 x3 then bif Pure.impl_GrowOrbit_ok F x0 x1 x2 x3 then bif Pure.laws_eqFloat32S_ok F (Pure.impl_GrowOrbit_1 F x0 x1 x2 x3) (Pure.spec_l07Growth_1 F x0 x1 x2 x3) then bif Bool.not (Pure.laws_eqFloat32S F (Pure.impl_GrowOrbit_1 F x0 x1 x2 x3) (Pure.spec_l07Growth_1 F x0 x1 x2 x3)) then some ⟨V.at (A.bool false), none, []⟩ else bif Bool.not ((Pure.impl_GrowOrbit F x0 x1 x2 x3) == (Pure.spec_l07Growth F x0 x1 x2 x3)) then some ⟨V.at (A.bool false), none, []⟩ else bif Pure.laws_markFloat32S_ok F (Pure.impl_GrowOrbit_1 F x0 x1 x2 x3) 1 then bif Pure.laws_heldFloat32S_ok F (Pure.laws_markFloat32S_1 F (Pure.impl_GrowOrbit_1 F x0 x1 x2 x3) 1) 1 then bif Decidable.decide ((Pure.laws_heldFloat32S F (Pure.laws_markFloat32S_1 F (Pure.impl_GrowOrbit_1 F x0 x1 x2 x3) 1) 1) < 0) then some ⟨V.at (A.bool false), none, []⟩ else bif (Pure.laws_heldFloat32S F (Pure.laws_markFloat32S_1 F (Pure.impl_GrowOrbit_1 F x0 x1 x2 x3) 1) 1) != (Pure.laws_markFloat32S F (Pure.impl_GrowOrbit_1 F x0 x1 x2 x3) 1) then some ⟨V.at (A.bool false), none, []⟩ else bif Pure.impl_GrowOrbit_ok F x0 x1 x2 x3 then bif Pure.laws_eqFloat32S_ok F (Pure.impl_GrowOrbit_1 F x0 x1 x2 x3) (Pure.spec_l07Growth_1 F x0 x1 x2 x3) then bif Bool.not (Pure.laws_eqFloat32S F (Pure.impl_GrowOrbit_1 F x0 x1 x2 x3) (Pure.spec_l07Growth_1 F x0 x1 x2 x3)) then some ⟨V.at (A.bool false), none, []⟩ else bif Bool.not ((Pure.impl_GrowOrbit F x0 x1 x2 x3) == (Pure.spec_l07Growth F x0 x1 x2 x3)) then some ⟨V.at (A.bool false), none, []⟩ else bif Pure.laws_heldFloat32S_ok F (Pure.laws_markFloat32S_1 F (Pure.impl_GrowOrbit_1 F x0 x1 x2 x3) 1) 1 then bif Decidable.decide ((Pure.laws_heldFloat32S F (Pure.laws_markFloat32S_1 F (Pure.impl_GrowOrbit_1 F x0 x1 x2 x3) 1) 1) < 0) then some ⟨V.at (A.bool false), none, []⟩ else bif (Pure.laws_heldFloat32S F (Pure.laws_markFloat32S_1 F (Pure.impl_GrowOrbit_1 F x0 x1 x2 x3) 1) 1) != (Pure.laws_markFloat32S F (Pure.impl_GrowOrbit_1 F x0 x1 x2 x3) 1) then some ⟨V.at (A.bool false), none, []⟩ else some ⟨V.at (A.bool true), none, []⟩ else none else none else none else none else none else none else none else none := by kernel_rfl
  rw [h0]
  unfold Pure.laws_FnExactGrowOrbit Pure.laws_FnExactGrowOrbit_ok
  cases (Pure.spec_GrowOrbit_ok F x0 x1 x2 x3) with
  | true =>
    cases (Pure.impl_GrowOrbit_ok F x0 x1 x2 x3) with
    | true =>
      cases (Pure.laws_eqFloat32S_ok F (Pure.impl_GrowOrbit_1 F x0 x1 x2 x3) (Pure.spec_l07Growth_1 F x0 x1 x2 x3)) with
      | true =>
        cases (Pure.laws_eqFloat32S F (Pure.impl_GrowOrbit_1 F x0 x1 x2 x3) (Pure.spec_l07Growth_1 F x0 x1 x2 x3)) with
        | true =>
          cases ((Pure.impl_GrowOrbit F x0 x1 x2 x3) == (Pure.spec_l07Growth F x0 x1 x2 x3)) with
          | true =>
            cases (Pure.laws_markFloat32S_ok F (Pure.impl_GrowOrbit_1 F x0 x1 x2 x3) 1) with
            | true =>
              cases (Pure.laws_heldFloat32S_ok F (Pure.laws_markFloat32S_1 F (Pure.impl_GrowOrbit_1 F x0 x1 x2 x3) 1) 1) with
              | true =>
                cases (Decidable.decide ((Pure.laws_heldFloat32S F (Pure.laws_markFloat32S_1 F (Pure.impl_GrowOrbit_1 F x0 x1 x2 x3) 1) 1) < 0)) with
                | true =>
                  intro _; rfl
                | false =>
                  cases ((Pure.laws_heldFloat32S F (Pure.laws_markFloat32S_1 F (Pure.impl_GrowOrbit_1 F x0 x1 x2 x3) 1) 1) != (Pure.laws_markFloat32S F (Pure.impl_GrowOrbit_1 F x0 x1 x2 x3) 1)) with
                  | true =>
                    intro _; rfl
                  | false =>
                    intro _; rfl
              | false =>
                intro h; exact absurd h Bool.false_ne_true
            | false =>
              intro h; exact absurd h Bool.false_ne_true
          | false =>
            intro _; rfl
        | false =>
          intro _; rfl
      | false =>
        intro h; exact absurd h Bool.false_ne_true
    | false =>
      intro h; exact absurd h Bool.false_ne_true
  | false =>
    intro h; exact absurd h Bool.false_ne_true
theorem ok_laws_FnExactGrowOrbit : CallOK Try.prog 7 (c_laws_FnExactGrowOrbit real) := by
  refine callOK_of fun args h ret hc => ?_
  unfold c_laws_FnExactGrowOrbit at hc
  split at hc
  · rename_i x0 x1 x2 x3
    obtain ⟨hok, rfl⟩ := some_ret hc
    exact holds_ev prog_ok (allOK_cons ok_spec_GrowOrbit (allOK_cons ok_impl_GrowOrbit (allOK_cons ok_laws_eqFloat32S (allOK_cons ok_laws_markFloat32S (allOK_cons ok_laws_heldFloat32S allOK_nil))))) Try.func7 rfl rfl smL_nil rfl (e_laws_FnExactGrowOrbit real x0 x1 x2 x3 hok)
  · cases hc
def c_laws_toState (_ : FOps) : Con
  | [V.agg [A.fl FloatKind.f32 x0, A.fl FloatKind.f32 x1]], [] => some (true, ⟨V.agg [A.fl FloatKind.f32 x0, A.fl FloatKind.f32 x1], none, []⟩)
  | _, _ => none
theorem e_laws_toState (F : FOps) (x0 : Int) (x1 : Int) : evFn (cxS F tyl [] [] [] 0) Try.f10 false [V.agg [A.fl FloatKind.f32 x0, A.fl FloatKind.f32 x1]] [] = some ⟨V.agg [A.fl FloatKind.f32 x0, A.fl FloatKind.f32 x1], none, []⟩ := by
  kernel_rfl
theorem ok_laws_toState : CallOK Try.prog 10 (c_laws_toState real) := by
  refine callOK_of fun args h ret hc => ?_
  unfold c_laws_toState at hc
  split at hc
  · rename_i x0 x1
    obtain ⟨_, rfl⟩ := some_ret hc
    exact holds_ev prog_ok allOK_nil Try.func10 rfl rfl smL_nil rfl (e_laws_toState real x0 x1)
  · cases hc
def Pure.spec_l07Is (F : FOps) (x0 : Int) (x1 : Int) : Bool := bif FOps.cmp F BinOp.geq FloatKind.f32 x0 0 then bif FOps.cmp F BinOp.lss FloatKind.f32 x0 1065353216 then bif FOps.cmp F BinOp.geq FloatKind.f32 x1 3204448256 then FOps.cmp F BinOp.lss FloatKind.f32 x1 1056964608 else false else false else false
def c_spec_l07Is (F : FOps) : Con
  | [V.agg [A.fl FloatKind.f32 x0, A.fl FloatKind.f32 x1]], [] => some (true, ⟨V.at (A.bool (Pure.spec_l07Is F x0 x1)), none, []⟩)
  | _, _ => none
theorem e_spec_l07Is (F : FOps) (x0 : Int) (x1 : Int) : evFn (cxS F tyl [] [] [] 0) Try.f26 false [V.agg [A.fl FloatKind.f32 x0, A.fl FloatKind.f32 x1]] [] = some ⟨V.at (A.bool (Pure.spec_l07Is F x0 x1)), none, []⟩ := by
  have h0 : evFn (cxS F tyl [] [] [] 0) Try.f26 false [V.agg [A.fl FloatKind.f32 x0, A.fl FloatKind.f32 x1]] [] = bif FOps.cmp F BinOp.geq FloatKind.f32 x0 0 then bif FOps.cmp F BinOp.lss FloatKind.f32 x0 1065353216 then bif FOps.cmp F BinOp.geq FloatKind.f32 x1 3204448256 then some ⟨V.at (A.bool (FOps.cmp F BinOp.lss FloatKind.f32 x1 1056964608)), none, []⟩ else some ⟨V.at (A.bool false), none, []⟩ else some ⟨V.at (A.bool false), none, []⟩ else some ⟨V.at (A.bool false), none, []⟩ := by kernel_rfl
  rw [h0]
  unfold Pure.spec_l07Is
  cases (FOps.cmp F BinOp.geq FloatKind.f32 x0 0) with
  | true =>
    cases (FOps.cmp F BinOp.lss FloatKind.f32 x0 1065353216) with
    | true =>
      cases (FOps.cmp F BinOp.geq FloatKind.f32 x1 3204448256) with
      | true =>
        rfl
      | false =>
        rfl
    | false =>
      rfl
  | false =>
    rfl
theorem ok_spec_l07Is : CallOK Try.prog 26 (c_spec_l07Is real) := by
  refine callOK_of fun args h ret hc => ?_
  unfold c_spec_l07Is at hc
  split at hc
  · rename_i x0 x1
    obtain ⟨_, rfl⟩ := some_ret hc
    exact holds_ev prog_ok allOK_nil Try.func26 rfl rfl smL_nil rfl (e_spec_l07Is real x0 x1)
  · cases hc
def c_spec_ValidState (F : FOps) : Con
  | [V.agg [A.fl FloatKind.f32 x0, A.fl FloatKind.f32 x1]], [] => some (true, ⟨V.at (A.bool (Pure.spec_l07Is F x0 x1)), none, []⟩)
  | _, _ => none
theorem e_spec_ValidState (F : FOps) (x0 : Int) (x1 : Int) : evFn (cxS F tyl [(26, c_spec_l07Is F)] [] [] 0) Try.f9 false [V.agg [A.fl FloatKind.f32 x0, A.fl FloatKind.f32 x1]] [] = some ⟨V.at (A.bool (Pure.spec_l07Is F x0 x1)), none, []⟩ := by
  kernel_rfl
theorem ok_spec_ValidState : CallOK Try.prog 9 (c_spec_ValidState real) := by
  refine callOK_of fun args h ret hc => ?_
  unfold c_spec_ValidState at hc
  split at hc
  · rename_i x0 x1
    obtain ⟨_, rfl⟩ := some_ret hc
    exact holds_ev prog_ok (allOK_cons ok_spec_l07Is allOK_nil) Try.func9 rfl rfl smL_nil rfl (e_spec_ValidState real x0 x1)
  · cases hc
def Pure.impl_ValidState (F : FOps) (x0 : Int) (x1 : Int) : Bool := bif FOps.cmp F BinOp.geq FloatKind.f32 x0 0 then bif FOps.cmp F BinOp.lss FloatKind.f32 x0 1065353216 then bif FOps.cmp F BinOp.geq FloatKind.f32 x1 3204448256 then FOps.cmp F BinOp.lss FloatKind.f32 x1 1056964608 else false else false else false
def c_impl_ValidState (F : FOps) : Con
  | [V.agg [A.fl FloatKind.f32 x0, A.fl FloatKind.f32 x1]], [] => some (true, ⟨V.at (A.bool (Pure.impl_ValidState F x0 x1)), none, []⟩)
  | _, _ => none
theorem e_impl_ValidState (F : FOps) (x0 : Int) (x1 : Int) : evFn (cxS F tyl [] [] [] 0) Try.f11 false [V.agg [A.fl FloatKind.f32 x0, A.fl FloatKind.f32 x1]] [] = some ⟨V.at (A.bool (Pure.impl_ValidState F x0 x1)), none, []⟩ := by
  have h0 : evFn (cxS F tyl [] [] [] 0) Try.f11 false [V.agg [A.fl FloatKind.f32 x0, A.fl FloatKind.f32 x1]] [] = bif FOps.cmp F BinOp.geq FloatKind.f32 x0 0 then bif FOps.cmp F BinOp.lss FloatKind.f32 x0 1065353216 then bif FOps.cmp F BinOp.geq FloatKind.f32 x1 3204448256 then some ⟨V.at (A.bool (FOps.cmp F BinOp.lss FloatKind.f32 x1 1056964608)), none, []⟩ else some ⟨V.at (A.bool false), none, []⟩ else some ⟨V.at (A.bool false), none, []⟩ else some ⟨V.at (A.bool false), none, []⟩ := by kernel_rfl
  rw [h0]
  unfold Pure.impl_ValidState
  cases (FOps.cmp F BinOp.geq FloatKind.f32 x0 0) with
  | true =>
    cases (FOps.cmp F BinOp.lss FloatKind.f32 x0 1065353216) with
    | true =>
      cases (FOps.cmp F BinOp.geq FloatKind.f32 x1 3204448256) with
      | true =>
        rfl
      | false =>
        rfl
    | false =>
      rfl
  | false =>
    rfl
theorem ok_impl_ValidState : CallOK Try.prog 11 (c_impl_ValidState real) := by
  refine callOK_of fun args h ret hc => ?_
  unfold c_impl_ValidState at hc
  split at hc
  · rename_i x0 x1
    obtain ⟨_, rfl⟩ := some_ret hc
    exact holds_ev prog_ok allOK_nil Try.func11 rfl rfl smL_nil rfl (e_impl_ValidState real x0 x1)
  · cases hc
def Pure.laws_FnExactValidState (F : FOps) (x0 : Int) (x1 : Int) : Bool := (Pure.impl_ValidState F x0 x1) == (Pure.spec_l07Is F x0 x1)
def c_laws_FnExactValidState (F : FOps) : Con
  | [V.agg [A.fl FloatKind.f32 x0, A.fl FloatKind.f32 x1]], [] => some (true, ⟨V.at (A.bool (Pure.laws_FnExactValidState F x0 x1)), none, []⟩)
  | _, _ => none
theorem e_laws_FnExactValidState (F : FOps) (x0 : Int) (x1 : Int) : evFn (cxS F tyl [(10, c_laws_toState F), (9, c_spec_ValidState F), (11, c_impl_ValidState F)] [] [] 0) Try.f3 false [V.agg [A.fl FloatKind.f32 x0, A.fl FloatKind.f32 x1]] [] = some ⟨V.at (A.bool (Pure.laws_FnExactValidState F x0 x1)), none, []⟩ := by
  have h0 : evFn (cxS F tyl [(10, c_laws_toState F), (9, c_spec_ValidState F), (11, c_impl_ValidState F)] [] [] 0) Try.f3 false [V.agg [A.fl FloatKind.f32 x0, A.fl FloatKind.f32 x1]] [] = bif Bool.not ((Pure.impl_ValidState F x0 x1) == (Pure.spec_l07Is F x0 x1)) then some ⟨V.at (A.bool false), none, []⟩ else some ⟨V.at (A.bool true), none, []⟩ := by kernel_rfl
  rw [h0]
  unfold Pure.laws_FnExactValidState
  cases ((Pure.impl_ValidState F x0 x1) == (Pure.spec_l07Is F x0 x1)) with
  | true =>
    rfl
  | false =>
    rfl
theorem ok_laws_FnExactValidState : CallOK Try.prog 3 (c_laws_FnExactValidState real) := by
  refine callOK_of fun args h ret hc => ?_
  unfold c_laws_FnExactValidState at hc
  split at hc
  · rename_i x0 x1
    obtain ⟨_, rfl⟩ := some_ret hc
    exact holds_ev prog_ok (allOK_cons ok_laws_toState (allOK_cons ok_spec_ValidState (allOK_cons ok_impl_ValidState allOK_nil))) Try.func3 rfl rfl smL_nil rfl (e_laws_FnExactValidState real x0 x1)
  · cases hc
def Pure.spec_l01Bits (F : FOps) (x0 : Int) : Int := bif FOps.cmp F BinOp.neq FloatKind.f32 x0 x0 then 2143289344 else IntKind.wrap IntKind.i64 x0
def c_spec_l01Bits (F : FOps) : Con
  | [V.at (A.fl FloatKind.f32 x0)], [] => some (true, ⟨V.at (A.int IntKind.i64 (Pure.spec_l01Bits F x0)), none, []⟩)
  | _, _ => none
theorem e_spec_l01Bits (F : FOps) (x0 : Int) : evFn (cxS F tyl [(44, c_math_Float32bits F)] [] [] 0) Try.f42 false [V.at (A.fl FloatKind.f32 x0)] [] = some ⟨V.at (A.int IntKind.i64 (Pure.spec_l01Bits F x0)), none, []⟩ := by
  have h0 : evFn (cxS F tyl [(44, c_math_Float32bits F)] [] [] 0) Try.f42 false [V.at (A.fl FloatKind.f32 x0)] [] = bif FOps.cmp F BinOp.neq FloatKind.f32 x0 x0 then some ⟨V.at (A.int IntKind.i64 2143289344), none, []⟩ else bif bif FOps.cmp F BinOp.neq FloatKind.f32 x0 x0 then false else true then some ⟨V.at (A.int IntKind.i64 (IntKind.wrap IntKind.i64 x0)), none, []⟩ else none := by kernel_rfl
  rw [h0]
  unfold Pure.spec_l01Bits
  cases (FOps.cmp F BinOp.neq FloatKind.f32 x0 x0) with
  | true =>
    rfl
  | false =>
    rfl
theorem ok_spec_l01Bits : CallOK Try.prog 42 (c_spec_l01Bits real) := by
  refine callOK_of fun args h ret hc => ?_
  unfold c_spec_l01Bits at hc
  split at hc
  · rename_i x0
    obtain ⟨_, rfl⟩ := some_ret hc
    exact holds_ev prog_ok (allOK_cons ok_math_Float32bits allOK_nil) Try.func42 rfl rfl smL_nil rfl (e_spec_l01Bits real x0)
  · cases hc
def Pure.spec_l01Same (F : FOps) (x0 : Int) (x1 : Int) : Bool := (Pure.spec_l01Bits F x0) == (Pure.spec_l01Bits F x1)
def c_spec_l01Same (F : FOps) : Con
  | [V.at (A.fl FloatKind.f32 x0), V.at (A.fl FloatKind.f32 x1)], [] => some (true, ⟨V.at (A.bool (Pure.spec_l01Same F x0 x1)), none, []⟩)
  | _, _ => none
theorem e_spec_l01Same (F : FOps) (x0 : Int) (x1 : Int) : evFn (cxS F tyl [(42, c_spec_l01Bits F)] [] [] 0) Try.f27 false [V.at (A.fl FloatKind.f32 x0), V.at (A.fl FloatKind.f32 x1)] [] = some ⟨V.at (A.bool (Pure.spec_l01Same F x0 x1)), none, []⟩ := by
  kernel_rfl
theorem ok_spec_l01Same : CallOK Try.prog 27 (c_spec_l01Same real) := by
  refine callOK_of fun args h ret hc => ?_
  unfold c_spec_l01Same at hc
  split at hc
  · rename_i x0 x1
    obtain ⟨_, rfl⟩ := some_ret hc
    exact holds_ev prog_ok (allOK_cons ok_spec_l01Bits allOK_nil) Try.func27 rfl rfl smL_nil rfl (e_spec_l01Same real x0 x1)
  · cases hc
def Pure.spec_SameState (F : FOps) (x0 : Int) (x1 : Int) (x2 : Int) (x3 : Int) : Bool := bif Pure.spec_l01Same F x0 x2 then Pure.spec_l01Same F x1 x3 else false
def c_spec_SameState (F : FOps) : Con
  | [V.agg [A.fl FloatKind.f32 x0, A.fl FloatKind.f32 x1], V.agg [A.fl FloatKind.f32 x2, A.fl FloatKind.f32 x3]], [] => some (true, ⟨V.at (A.bool (Pure.spec_SameState F x0 x1 x2 x3)), none, []⟩)
  | _, _ => none
theorem e_spec_SameState (F : FOps) (x0 : Int) (x1 : Int) (x2 : Int) (x3 : Int) : evFn (cxS F tyl [(27, c_spec_l01Same F)] [] [] 0) Try.f12 false [V.agg [A.fl FloatKind.f32 x0, A.fl FloatKind.f32 x1], V.agg [A.fl FloatKind.f32 x2, A.fl FloatKind.f32 x3]] [] = some ⟨V.at (A.bool (Pure.spec_SameState F x0 x1 x2 x3)), none, []⟩ := by
  have h0 : evFn (cxS F tyl [(27, c_spec_l01Same F)] [] [] 0) Try.f12 false [V.agg [A.fl FloatKind.f32 x0, A.fl FloatKind.f32 x1], V.agg [A.fl FloatKind.f32 x2, A.fl FloatKind.f32 x3]] [] = bif Pure.spec_l01Same F x0 x2 then some ⟨V.at (A.bool (Pure.spec_l01Same F x1 x3)), none, []⟩ else some ⟨V.at (A.bool false), none, []⟩ := by kernel_rfl
  rw [h0]
  unfold Pure.spec_SameState
  cases (Pure.spec_l01Same F x0 x2) with
  | true =>
    rfl
  | false =>
    rfl
theorem ok_spec_SameState : CallOK Try.prog 12 (c_spec_SameState real) := by
  refine callOK_of fun args h ret hc => ?_
  unfold c_spec_SameState at hc
  split at hc
  · rename_i x0 x1 x2 x3
    obtain ⟨_, rfl⟩ := some_ret hc
    exact holds_ev prog_ok (allOK_cons ok_spec_l01Same allOK_nil) Try.func12 rfl rfl smL_nil rfl (e_spec_SameState real x0 x1 x2 x3)
  · cases hc
def Pure.impl_isNaN (F : FOps) (x0 : Int) : Bool := FOps.cmp F BinOp.neq FloatKind.f32 x0 x0
def c_impl_isNaN (F : FOps) : Con
  | [V.at (A.fl FloatKind.f32 x0)], [] => some (true, ⟨V.at (A.bool (Pure.impl_isNaN F x0)), none, []⟩)
  | _, _ => none
theorem e_impl_isNaN (F : FOps) (x0 : Int) : evFn (cxS F tyl [] [] [] 0) Try.f43 false [V.at (A.fl FloatKind.f32 x0)] [] = some ⟨V.at (A.bool (Pure.impl_isNaN F x0)), none, []⟩ := by
  kernel_rfl
theorem ok_impl_isNaN : CallOK Try.prog 43 (c_impl_isNaN real) := by
  refine callOK_of fun args h ret hc => ?_
  unfold c_impl_isNaN at hc
  split at hc
  · rename_i x0
    obtain ⟨_, rfl⟩ := some_ret hc
    exact holds_ev prog_ok allOK_nil Try.func43 rfl rfl smL_nil rfl (e_impl_isNaN real x0)
  · cases hc
def Pure.impl_SameNumber (F : FOps) (x0 : Int) (x1 : Int) : Bool := bif Pure.impl_isNaN F x0 then Pure.impl_isNaN F x1 else bif Pure.impl_isNaN F x1 then false else x0 == x1
def Pure.impl_SameNumber_ok (F : FOps) (x0 : Int) (x1 : Int) : Bool := bif Pure.impl_isNaN F x0 then true else bif Pure.impl_isNaN F x1 then true else bif FOps.cmp F BinOp.neq FloatKind.f32 x0 x0 then false else bif FOps.cmp F BinOp.neq FloatKind.f32 x1 x1 then false else true
def c_impl_SameNumber (F : FOps) : Con
  | [V.at (A.fl FloatKind.f32 x0), V.at (A.fl FloatKind.f32 x1)], [] => some (Pure.impl_SameNumber_ok F x0 x1, ⟨V.at (A.bool (Pure.impl_SameNumber F x0 x1)), none, []⟩)
  | _, _ => none
theorem e_impl_SameNumber (F : FOps) (x0 : Int) (x1 : Int) : Pure.impl_SameNumber_ok F x0 x1 = true → evFn (cxS F tyl [(43, c_impl_isNaN F), (44, c_math_Float32bits F)] [] [] 0) Try.f28 false [V.at (A.fl FloatKind.f32 x0), V.at (A.fl FloatKind.f32 x1)] [] = some ⟨V.at (A.bool (Pure.impl_SameNumber F x0 x1)), none, []⟩ := by
  have h0 : evFn (cxS F tyl [(43, c_impl_isNaN F), (44, c_math_Float32bits F)] [] [] 0) Try.f28 false [V.at (A.fl FloatKind.f32 x0), V.at (A.fl FloatKind.f32 x1)] [] = bif Pure.impl_isNaN F x0 then bif Pure.impl_isNaN F x0 then some ⟨V.at (A.bool (Pure.impl_isNaN F x1)), none, []⟩ else some ⟨V.at (A.bool false), none, []⟩ else bif Pure.impl_isNaN F x1 then bif Pure.impl_isNaN F x0 then some ⟨V.at (A.bool (Pure.impl_isNaN F x1)), none, []⟩ else some ⟨V.at (A.bool false), none, []⟩ else bif bif FOps.cmp F BinOp.neq FloatKind.f32 x0 x0 then false else true then bif bif FOps.cmp F BinOp.neq FloatKind.f32 x1 x1 then false else true then some ⟨V.at (A.bool (x0 == x1)), none, []⟩ else none else none := by kernel_rfl
  rw [h0]
  unfold Pure.impl_SameNumber Pure.impl_SameNumber_ok
  cases (Pure.impl_isNaN F x0) with
  | true =>
    intro _; rfl
  | false =>
    cases (Pure.impl_isNaN F x1) with
    | true =>
      intro _; rfl
    | false =>
      cases (FOps.cmp F BinOp.neq FloatKind.f32 x0 x0) with
      | true =>
        intro h; exact absurd h Bool.false_ne_true
      | false =>
        cases (FOps.cmp F BinOp.neq FloatKind.f32 x1 x1) with
        | true =>
          intro h; exact absurd h Bool.false_ne_true
        | false =>
          intro _; rfl
theorem ok_impl_SameNumber : CallOK Try.prog 28 (c_impl_SameNumber real) := by
  refine callOK_of fun args h ret hc => ?_
  unfold c_impl_SameNumber at hc
  split at hc
  · rename_i x0 x1
    obtain ⟨hok, rfl⟩ := some_ret hc
    exact holds_ev prog_ok (allOK_cons ok_impl_isNaN (allOK_cons ok_math_Float32bits allOK_nil)) Try.func28 rfl rfl smL_nil rfl (e_impl_SameNumber real x0 x1 hok)
  · cases hc
def Pure.impl_SameState (F : FOps) (x0 : Int) (x1 : Int) (x2 : Int) (x3 : Int) : Bool := bif Pure.impl_SameNumber F x0 x2 then Pure.impl_SameNumber F x1 x3 else false
def Pure.impl_SameState_ok (F : FOps) (x0 : Int) (x1 : Int) (x2 : Int) (x3 : Int) : Bool := bif Pure.impl_SameNumber_ok F x0 x2 then bif Pure.impl_SameNumber F x0 x2 then Pure.impl_SameNumber_ok F x1 x3 else true else false
def c_impl_SameState (F : FOps) : Con
  | [V.agg [A.fl FloatKind.f32 x0, A.fl FloatKind.f32 x1], V.agg [A.fl FloatKind.f32 x2, A.fl FloatKind.f32 x3]], [] => some (Pure.impl_SameState_ok F x0 x1 x2 x3, ⟨V.at (A.bool (Pure.impl_SameState F x0 x1 x2 x3)), none, []⟩)
  | _, _ => none
theorem e_impl_SameState (F : FOps) (x0 : Int) (x1 : Int) (x2 : Int) (x3 : Int) : Pure.impl_SameState_ok F x0 x1 x2 x3 = true → evFn (cxS F tyl [(28, c_impl_SameNumber F)] [] [] 0) Try.f13 false [V.agg [A.fl FloatKind.f32 x0, A.fl FloatKind.f32 x1], V.agg [A.fl FloatKind.f32 x2, A.fl FloatKind.f32 x3]] [] = some ⟨V.at (A.bool (Pure.impl_SameState F x0 x1 x2 x3)), none, []⟩ := by
  have h0 : evFn (cxS F tyl [(28, c_impl_SameNumber F)] [] [] 0) Try.f13 false [V.agg [A.fl FloatKind.f32 x0, A.fl FloatKind.f32 x1], V.agg [A.fl FloatKind.f32 x2, A.fl FloatKind.f32 x3]] [] = bif Pure.impl_SameNumber_ok F x0 x2 then bif Pure.impl_SameNumber F x0 x2 then bif Pure.impl_SameNumber_ok F x1 x3 then some ⟨V.at (A.bool (Pure.impl_SameNumber F x1 x3)), none, []⟩ else none else some ⟨V.at (A.bool false), none, []⟩ else none := by kernel_rfl
  rw [h0]
  unfold Pure.impl_SameState Pure.impl_SameState_ok
  cases (Pure.impl_SameNumber_ok F x0 x2) with
  | true =>
    cases (Pure.impl_SameNumber F x0 x2) with
    | true =>
      cases (Pure.impl_SameNumber_ok F x1 x3) with
      | true =>
        intro _; rfl
      | false =>
        intro h; exact absurd h Bool.false_ne_true
    | false =>
      intro _; rfl
  | false =>
    intro h; exact absurd h Bool.false_ne_true
theorem ok_impl_SameState : CallOK Try.prog 13 (c_impl_SameState real) := by
  refine callOK_of fun args h ret hc => ?_
  unfold c_impl_SameState at hc
  split at hc
  · rename_i x0 x1 x2 x3
    obtain ⟨hok, rfl⟩ := some_ret hc
    exact holds_ev prog_ok (allOK_cons ok_impl_SameNumber allOK_nil) Try.func13 rfl rfl smL_nil rfl (e_impl_SameState real x0 x1 x2 x3 hok)
  · cases hc
def Pure.laws_FnExactSameState (F : FOps) (x0 : Int) (x1 : Int) (x2 : Int) (x3 : Int) : Bool := (Pure.impl_SameState F x0 x1 x2 x3) == (Pure.spec_SameState F x0 x1 x2 x3)
def Pure.laws_FnExactSameState_ok (F : FOps) (x0 : Int) (x1 : Int) (x2 : Int) (x3 : Int) : Bool := Pure.impl_SameState_ok F x0 x1 x2 x3
def c_laws_FnExactSameState (F : FOps) : Con
  | [V.agg [A.fl FloatKind.f32 x0, A.fl FloatKind.f32 x1], V.agg [A.fl FloatKind.f32 x2, A.fl FloatKind.f32 x3]], [] => some (Pure.laws_FnExactSameState_ok F x0 x1 x2 x3, ⟨V.at (A.bool (Pure.laws_FnExactSameState F x0 x1 x2 x3)), none, []⟩)
  | _, _ => none
theorem e_laws_FnExactSameState (F : FOps) (x0 : Int) (x1 : Int) (x2 : Int) (x3 : Int) : Pure.laws_FnExactSameState_ok F x0 x1 x2 x3 = true → evFn (cxS F tyl [(10, c_laws_toState F), (12, c_spec_SameState F), (13, c_impl_SameState F)] [] [] 0) Try.f4 false [V.agg [A.fl FloatKind.f32 x0, A.fl FloatKind.f32 x1], V.agg [A.fl FloatKind.f32 x2, A.fl FloatKind.f32 x3]] [] = some ⟨V.at (A.bool (Pure.laws_FnExactSameState F x0 x1 x2 x3)), none, []⟩ := by
  have h0 : evFn (cxS F tyl [(10, c_laws_toState F), (12, c_spec_SameState F), (13, c_impl_SameState F)] [] [] 0) Try.f4 false [V.agg [A.fl FloatKind.f32 x0, A.fl FloatKind.f32 x1], V.agg [A.fl FloatKind.f32 x2, A.fl FloatKind.f32 x3]] [] = bif Pure.impl_SameState_ok F x0 x1 x2 x3 then bif Bool.not ((Pure.impl_SameState F x0 x1 x2 x3) == (Pure.spec_SameState F x0 x1 x2 x3)) then some ⟨V.at (A.bool false), none, []⟩ else some ⟨V.at (A.bool true), none, []⟩ else none := by kernel_rfl
  rw [h0]
  unfold Pure.laws_FnExactSameState Pure.laws_FnExactSameState_ok
  cases (Pure.impl_SameState_ok F x0 x1 x2 x3) with
  | true =>
    cases ((Pure.impl_SameState F x0 x1 x2 x3) == (Pure.spec_SameState F x0 x1 x2 x3)) with
    | true =>
      intro _; rfl
    | false =>
      intro _; rfl
  | false =>
    intro h; exact absurd h Bool.false_ne_true
theorem ok_laws_FnExactSameState : CallOK Try.prog 4 (c_laws_FnExactSameState real) := by
  refine callOK_of fun args h ret hc => ?_
  unfold c_laws_FnExactSameState at hc
  split at hc
  · rename_i x0 x1 x2 x3
    obtain ⟨hok, rfl⟩ := some_ret hc
    exact holds_ev prog_ok (allOK_cons ok_laws_toState (allOK_cons ok_spec_SameState (allOK_cons ok_impl_SameState allOK_nil))) Try.func4 rfl rfl smL_nil rfl (e_laws_FnExactSameState real x0 x1 x2 x3 hok)
  · cases hc
end Go.Fx
