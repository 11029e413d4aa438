import Derived.Test.YtpgpjkkncghbhaaXr2a
import Derived.KernelRfl
namespace Go.Fx
open Go.Proofs
def Pure.impl_IsFinite (F : FOps) (x0 : Int) : Bool := FOps.cmp F BinOp.eql FloatKind.f32 (FOps.bin F BinOp.sub FloatKind.f32 x0 x0) 0
def c_impl_IsFinite (F : FOps) : Con
  | [V.at (A.fl FloatKind.f32 x0)], [] => some (true, ⟨V.at (A.bool (Pure.impl_IsFinite F x0)), none, []⟩)
  | _, _ => none
theorem e_impl_IsFinite (F : FOps) (x0 : Int) : evFn (cxS F tyl [] [] [] 0) Try.f73 false [V.at (A.fl FloatKind.f32 x0)] [] = some ⟨V.at (A.bool (Pure.impl_IsFinite F x0)), none, []⟩ := by
  kernel_rfl
theorem ok_impl_IsFinite : CallOK Try.prog 73 (c_impl_IsFinite real) := by
  refine callOK_of fun args h ret hc => ?_
  unfold c_impl_IsFinite at hc
  split at hc
  · rename_i x0
    obtain ⟨_, rfl⟩ := some_ret hc
    exact holds_ev prog_ok allOK_nil Try.func73 rfl rfl smL_nil rfl (e_impl_IsFinite real x0)
  · cases hc
def Pure.impl_finite_c1 (F : FOps) (x0 : Int) : Bool := bif Pure.impl_IsFinite F x0 then false else true
def c_impl_finite_c1 (F : FOps) : Con
  | [V.at (A.fl FloatKind.f32 x0)], [] => some (true, ⟨V.at (A.bool (Pure.impl_finite_c1 F x0)), none, []⟩)
  | _, _ => none
theorem e_impl_finite_c1 (F : FOps) (x0 : Int) : evFn (cxS F tyl [(73, c_impl_IsFinite F)] [] [] 0) Try.f87 false [V.at (A.fl FloatKind.f32 x0)] [] = some ⟨V.at (A.bool (Pure.impl_finite_c1 F x0)), none, []⟩ := by
  kernel_rfl
theorem ok_impl_finite_c1 : CallOK Try.prog 87 (c_impl_finite_c1 real) := by
  refine callOK_of fun args h ret hc => ?_
  unfold c_impl_finite_c1 at hc
  split at hc
  · rename_i x0
    obtain ⟨_, rfl⟩ := some_ret hc
    exact holds_ev prog_ok (allOK_cons ok_impl_IsFinite allOK_nil) Try.func87 rfl rfl smL_nil rfl (e_impl_finite_c1 real x0)
  · cases hc
def Pure.slices_IndexFunc_float32_float32_finite_L0 (F : FOps) (y0 : Int) (y2 : List (List Int)) : Nat → Int → (Bool × Bool × Int)
  | 0, _ => (false, false, 0)
  | n + 1, y1 => bif (Decidable.decide (y1 < y0)) then (bif (Decidable.decide (0 ≤ y1)) then (bif (Decidable.decide (y1 < (Int.ofNat (List.length y2)))) then (bif (Pure.impl_finite_c1 F (List.getD (List.getD y2 (Int.toNat y1) []) 0 0)) then ((true, true, y1)) else (Pure.slices_IndexFunc_float32_float32_finite_L0 F y0 y2 n (IntKind.wrap IntKind.i64 (y1 + 1)))) else ((false, false, 0))) else ((false, false, 0))) else ((true, false, 0))
def R_slices_IndexFunc_float32_float32_finite_L0 (y2 : List (List Int)) (r : (Bool × Bool × Int)) : Bool × Bool × (Ex × List V × List Ob) × (Ex × List V × List Ob) := ((r).1, (r).2.1, (Ex.normal, [V.at A.undef], [⟨false, OC.rows [K.f FloatKind.f32] y2⟩]), (Ex.ret, [V.at (A.int IntKind.i64 (r).2.2)], [⟨false, OC.rows [K.f FloatKind.f32] y2⟩]))
def S_slices_IndexFunc_float32_float32_finite_L0 (F : FOps) : Sm := ⟨[0, 1, 7, 8], [41, 74, 3, 3], [4], fun vals hp => match vals, hp with
  | [V.at (A.sl 0), V.at (A.fn 87 []), V.at (A.int IntKind.i64 y0), V.at (A.int IntKind.i64 y1)], [⟨false, OC.rows [K.f FloatKind.f32] y2⟩] => some (R_slices_IndexFunc_float32_float32_finite_L0 y2 (Pure.slices_IndexFunc_float32_float32_finite_L0 F y0 y2 (y0 - y1 + 1).toNat y1))
  | _, _ => none⟩
theorem l_slices_IndexFunc_float32_float32_finite_L0 (F : FOps) (y0 : Int) (y2 : List (List Int)) : ∀ (fuel : Nat) (y1 : Int), (Pure.slices_IndexFunc_float32_float32_finite_L0 F y0 y2 fuel y1).1 = true → loopOf (cxS F tyl [(87, c_impl_finite_c1 F)] [] [] 0) 1 19 0 [0, 1, 7, 8] [41, 74, 3, 3] [4] (loopB 0 (codeOf Try.f89)) fuel [V.at (A.sl 0), V.at (A.fn 87 []), V.at (A.int IntKind.i64 y0), V.at (A.int IntKind.i64 y1)] [⟨false, OC.rows [K.f FloatKind.f32] y2⟩] = resOf (R_slices_IndexFunc_float32_float32_finite_L0 y2 (Pure.slices_IndexFunc_float32_float32_finite_L0 F y0 y2 fuel y1)) := by
  intro fuel
  induction fuel with
  | zero => intro y1 h; exact absurd h Bool.false_ne_true
  | succ n ih =>
    intro y1
    have h0 : roundOf (cxS F tyl [(87, c_impl_finite_c1 F)] [] [] 0) 1 19 0 [0, 1, 7, 8] [41, 74, 3, 3] [4] (loopB 0 (codeOf Try.f89)) [V.at (A.sl 0), V.at (A.fn 87 []), V.at (A.int IntKind.i64 y0), V.at (A.int IntKind.i64 y1)] [⟨false, OC.rows [K.f FloatKind.f32] y2⟩] = (bif Decidable.decide (y1 < y0) then bif Decidable.decide (0 ≤ y1) then bif Decidable.decide (y1 < (Int.ofNat (List.length y2))) then bif Pure.impl_finite_c1 F (List.getD (List.getD y2 (Int.toNat y1) []) 0 0) then some (false, (Ex.ret, ([V.at (A.int IntKind.i64 y1)], [⟨false, OC.rows [K.f FloatKind.f32] y2⟩]))) else some (true, (Ex.normal, ([V.at (A.sl 0), V.at (A.fn 87 []), V.at (A.int IntKind.i64 y0), V.at (A.int IntKind.i64 (IntKind.wrap IntKind.i64 (y1 + 1)))], [⟨false, OC.rows [K.f FloatKind.f32] y2⟩]))) else none else none else some (false, (Ex.normal, ([V.at A.undef], [⟨false, OC.rows [K.f FloatKind.f32] y2⟩])))) := by kernel_rfl
    unfold loopOf
    rw [h0]
    unfold Pure.slices_IndexFunc_float32_float32_finite_L0
    cases (Decidable.decide (y1 < y0)) with
    | true =>
      cases (Decidable.decide (0 ≤ y1)) with
      | true =>
        cases (Decidable.decide (y1 < (Int.ofNat (List.length y2)))) with
        | true =>
          cases (Pure.impl_finite_c1 F (List.getD (List.getD y2 (Int.toNat y1) []) 0 0)) with
          | true =>
            intro _; rfl
          | false =>
            exact ih _
        | false =>
          intro h; exact absurd h Bool.false_ne_true
      | false =>
        intro h; exact absurd h Bool.false_ne_true
    | false =>
      intro _; rfl
theorem t_slices_IndexFunc_float32_float32_finite_L0 : SmTo Try.prog 1 19 (S_slices_IndexFunc_float32_float32_finite_L0 real) 0 (.loop (loopB 0 (codeOf Try.f89))) := by
  refine smTo_ev (cl := [(87, c_impl_finite_c1 real)]) (ef := []) (sm := []) (un := 0) prog_ok (allOK_cons ok_impl_finite_c1 allOK_nil) smL_nil ?_
  intro vals hp q r h hq
  unfold S_slices_IndexFunc_float32_float32_finite_L0 at h
  dsimp only at h
  split at h
  · rename_i y0 y1 y2
    obtain rfl := Option.some.inj h
    have h1 := hq
    unfold resOf at h1
    rw [chk_some] at h1
    exact ⟨_, (l_slices_IndexFunc_float32_float32_finite_L0 real y0 y2 _ y1 h1.1).trans hq⟩
  · cases h
def Pure.slices_IndexFunc_float32_float32_finite (F : FOps) (x0 : List (List Int)) : Int := bif Prod.fst (Prod.snd (Pure.slices_IndexFunc_float32_float32_finite_L0 F (Int.ofNat (List.length x0)) x0 (Nat.succ ((List.length x0) + 0)) 0)) then Prod.snd (Prod.snd (Pure.slices_IndexFunc_float32_float32_finite_L0 F (Int.ofNat (List.length x0)) x0 (Nat.succ ((List.length x0) + 0)) 0)) else (-1)
def Pure.slices_IndexFunc_float32_float32_finite_ok (F : FOps) (x0 : List (List Int)) : Bool := Prod.fst (Pure.slices_IndexFunc_float32_float32_finite_L0 F (Int.ofNat (List.length x0)) x0 (Nat.succ ((List.length x0) + 0)) 0)
def c_slices_IndexFunc_float32_float32_finite (F : FOps) : Con
  | [V.at (A.sl 0), V.at (A.fn 87 [])], [⟨false, OC.rows [K.f FloatKind.f32] x0⟩] => some (Pure.slices_IndexFunc_float32_float32_finite_ok F x0, ⟨V.at (A.int IntKind.i64 (Pure.slices_IndexFunc_float32_float32_finite F x0)), none, []⟩)
  | _, _ => none
theorem e_slices_IndexFunc_float32_float32_finite (F : FOps) (x0 : List (List Int)) : Pure.slices_IndexFunc_float32_float32_finite_ok F x0 = true → evFn (cxS F tyl [(87, c_impl_finite_c1 F)] [] [(0, S_slices_IndexFunc_float32_float32_finite_L0 F)] 0) Try.f89 false [V.at (A.sl 0), V.at (A.fn 87 [])] [⟨false, OC.rows [K.f FloatKind.f32] x0⟩] = some ⟨V.at (A.int IntKind.i64 (Pure.slices_IndexFunc_float32_float32_finite F x0)), none, []⟩ := by
  have h0 : evFn (cxS F tyl [(87, c_impl_finite_c1 F)] [] [(0, S_slices_IndexFunc_float32_float32_finite_L0 F)] 0) Try.f89 false [V.at (A.sl 0), V.at (A.fn 87 [])] [⟨false, OC.rows [K.f FloatKind.f32] x0⟩] = bif Prod.fst (Pure.slices_IndexFunc_float32_float32_finite_L0 F (Int.ofNat (List.length x0)) x0 (Nat.succ ((List.length x0) + 0)) 0) then bif Prod.fst (Prod.snd (Pure.slices_IndexFunc_float32_float32_finite_L0 F (Int.ofNat (List.length x0)) x0 (Nat.succ ((List.length x0) + 0)) 0)) then some ⟨V.at (A.int IntKind.i64 (Prod.snd (Prod.snd (Pure.slices_IndexFunc_float32_float32_finite_L0 F (Int.ofNat (List.length x0)) x0 (Nat.succ ((List.length x0) + 0)) 0)))), none, []⟩ else some ⟨V.at (A.int IntKind.i64 (-1)), none, []⟩ else none := by kernel_rfl
  rw [h0]
  unfold Pure.slices_IndexFunc_float32_float32_finite Pure.slices_IndexFunc_float32_float32_finite_ok
  cases (Prod.fst (Pure.slices_IndexFunc_float32_float32_finite_L0 F (Int.ofNat (List.length x0)) x0 (Nat.succ ((List.length x0) + 0)) 0)) with
  | true =>
    cases (Prod.fst (Prod.snd (Pure.slices_IndexFunc_float32_float32_finite_L0 F (Int.ofNat (List.length x0)) x0 (Nat.succ ((List.length x0) + 0)) 0))) with
    | true =>
      intro _; rfl
    | false =>
      intro _; rfl
  | false =>
    intro h; exact absurd h Bool.false_ne_true
theorem ok_slices_IndexFunc_float32_float32_finite : CallOK Try.prog 89 (c_slices_IndexFunc_float32_float32_finite real) := by
  refine callOK_of fun args h ret hc => ?_
  unfold c_slices_IndexFunc_float32_float32_finite at hc
  split at hc
  · rename_i x0
    obtain ⟨hok, rfl⟩ := some_ret hc
    exact holds_ev prog_ok (allOK_cons ok_impl_finite_c1 allOK_nil) Try.func89 rfl rfl (smL_cons (body := .loop (loopB 0 (codeOf Try.f89))) (by kernel_rfl) t_slices_IndexFunc_float32_float32_finite_L0 smL_nil) rfl (e_slices_IndexFunc_float32_float32_finite real x0 hok)
  · cases hc
def Pure.slices_ContainsFunc_float32_float32_finite (F : FOps) (x0 : List (List Int)) : Bool := Decidable.decide ((Pure.slices_IndexFunc_float32_float32_finite F x0) ≥ 0)
def Pure.slices_ContainsFunc_float32_float32_finite_ok (F : FOps) (x0 : List (List Int)) : Bool := Pure.slices_IndexFunc_float32_float32_finite_ok F x0
def c_slices_ContainsFunc_float32_float32_finite (F : FOps) : Con
  | [V.at (A.sl 0), V.at (A.fn 87 [])], [⟨false, OC.rows [K.f FloatKind.f32] x0⟩] => some (Pure.slices_ContainsFunc_float32_float32_finite_ok F x0, ⟨V.at (A.bool (Pure.slices_ContainsFunc_float32_float32_finite F x0)), none, []⟩)
  | _, _ => none
theorem e_slices_ContainsFunc_float32_float32_finite (F : FOps) (x0 : List (List Int)) : Pure.slices_ContainsFunc_float32_float32_finite_ok F x0 = true → evFn (cxS F tyl [(89, c_slices_IndexFunc_float32_float32_finite F), (87, c_impl_finite_c1 F)] [] [] 0) Try.f86 false [V.at (A.sl 0), V.at (A.fn 87 [])] [⟨false, OC.rows [K.f FloatKind.f32] x0⟩] = some ⟨V.at (A.bool (Pure.slices_ContainsFunc_float32_float32_finite F x0)), none, []⟩ := by
  have h0 : evFn (cxS F tyl [(89, c_slices_IndexFunc_float32_float32_finite F), (87, c_impl_finite_c1 F)] [] [] 0) Try.f86 false [V.at (A.sl 0), V.at (A.fn 87 [])] [⟨false, OC.rows [K.f FloatKind.f32] x0⟩] = bif Pure.slices_IndexFunc_float32_float32_finite_ok F x0 then some ⟨V.at (A.bool (Decidable.decide ((Pure.slices_IndexFunc_float32_float32_finite F x0) ≥ 0))), none, []⟩ else none := by kernel_rfl
  rw [h0]
  unfold Pure.slices_ContainsFunc_float32_float32_finite Pure.slices_ContainsFunc_float32_float32_finite_ok
  cases (Pure.slices_IndexFunc_float32_float32_finite_ok F x0) with
  | true =>
    intro _; rfl
  | false =>
    intro h; exact absurd h Bool.false_ne_true
theorem ok_slices_ContainsFunc_float32_float32_finite : CallOK Try.prog 86 (c_slices_ContainsFunc_float32_float32_finite real) := by
  refine callOK_of fun args h ret hc => ?_
  unfold c_slices_ContainsFunc_float32_float32_finite at hc
  split at hc
  · rename_i x0
    obtain ⟨hok, rfl⟩ := some_ret hc
    exact holds_ev prog_ok (allOK_cons ok_slices_IndexFunc_float32_float32_finite (allOK_cons ok_impl_finite_c1 allOK_nil)) Try.func86 rfl rfl smL_nil rfl (e_slices_ContainsFunc_float32_float32_finite real x0 hok)
  · cases hc
def Pure.spec_l01Finite (F : FOps) (x0 : Int) : Bool := FOps.cmp F BinOp.eql FloatKind.f32 (FOps.bin F BinOp.sub FloatKind.f32 x0 x0) 0
def c_spec_l01Finite (F : FOps) : Con
  | [V.at (A.fl FloatKind.f32 x0)], [] => some (true, ⟨V.at (A.bool (Pure.spec_l01Finite F x0)), none, []⟩)
  | _, _ => none
theorem e_spec_l01Finite (F : FOps) (x0 : Int) : evFn (cxS F tyl [] [] [] 0) Try.f71 false [V.at (A.fl FloatKind.f32 x0)] [] = some ⟨V.at (A.bool (Pure.spec_l01Finite F x0)), none, []⟩ := by
  kernel_rfl
theorem ok_spec_l01Finite : CallOK Try.prog 71 (c_spec_l01Finite real) := by
  refine callOK_of fun args h ret hc => ?_
  unfold c_spec_l01Finite at hc
  split at hc
  · rename_i x0
    obtain ⟨_, rfl⟩ := some_ret hc
    exact holds_ev prog_ok allOK_nil Try.func71 rfl rfl smL_nil rfl (e_spec_l01Finite real x0)
  · cases hc
def Pure.spec_l02Above (F : FOps) (x0 : Int) : Bool := bif Pure.spec_l01Finite F x0 then FOps.cmp F BinOp.gtr FloatKind.f32 x0 0 else false
def c_spec_l02Above (F : FOps) : Con
  | [V.at (A.fl FloatKind.f32 x0)], [] => some (true, ⟨V.at (A.bool (Pure.spec_l02Above F x0)), none, []⟩)
  | _, _ => none
theorem e_spec_l02Above (F : FOps) (x0 : Int) : evFn (cxS F tyl [(71, c_spec_l01Finite F)] [] [] 0) Try.f88 false [V.at (A.fl FloatKind.f32 x0)] [] = some ⟨V.at (A.bool (Pure.spec_l02Above F x0)), none, []⟩ := by
  have h0 : evFn (cxS F tyl [(71, c_spec_l01Finite F)] [] [] 0) Try.f88 false [V.at (A.fl FloatKind.f32 x0)] [] = bif Pure.spec_l01Finite F x0 then some ⟨V.at (A.bool (FOps.cmp F BinOp.gtr FloatKind.f32 x0 0)), none, []⟩ else some ⟨V.at (A.bool false), none, []⟩ := by kernel_rfl
  rw [h0]
  unfold Pure.spec_l02Above
  cases (Pure.spec_l01Finite F x0) with
  | true =>
    rfl
  | false =>
    rfl
theorem ok_spec_l02Above : CallOK Try.prog 88 (c_spec_l02Above real) := by
  refine callOK_of fun args h ret hc => ?_
  unfold c_spec_l02Above at hc
  split at hc
  · rename_i x0
    obtain ⟨_, rfl⟩ := some_ret hc
    exact holds_ev prog_ok (allOK_cons ok_spec_l01Finite allOK_nil) Try.func88 rfl rfl smL_nil rfl (e_spec_l02Above real x0)
  · cases hc
def Pure.spec_l06Ball_e (F : FOps) (x0 : Nat) (x1 : List (List Int)) : Bool := bif Pure.spec_l01Finite F (List.getD (List.getD x1 x0 []) 0 0) then bif Pure.spec_l01Finite F (List.getD (List.getD x1 x0 []) 1 0) then Pure.spec_l02Above F (List.getD (List.getD x1 x0 []) 2 0) else false else false
def c_spec_l06Ball_e (F : FOps) : Con
  | [V.at (A.ptr 0 x0 0)], [⟨false, OC.rows [K.f FloatKind.f32, K.f FloatKind.f32, K.f FloatKind.f32] x1⟩] => some (true, ⟨V.at (A.bool (Pure.spec_l06Ball_e F x0 x1)), none, []⟩)
  | _, _ => none
theorem e_spec_l06Ball_e (F : FOps) (x0 : Nat) (x1 : List (List Int)) : evFn (cxS F tyl [(71, c_spec_l01Finite F), (88, c_spec_l02Above F)] [] [] 0) Try.f83 false [V.at (A.ptr 0 x0 0)] [⟨false, OC.rows [K.f FloatKind.f32, K.f FloatKind.f32, K.f FloatKind.f32] x1⟩] = some ⟨V.at (A.bool (Pure.spec_l06Ball_e F x0 x1)), none, []⟩ := by
  have h0 : evFn (cxS F tyl [(71, c_spec_l01Finite F), (88, c_spec_l02Above F)] [] [] 0) Try.f83 false [V.at (A.ptr 0 x0 0)] [⟨false, OC.rows [K.f FloatKind.f32, K.f FloatKind.f32, K.f FloatKind.f32] x1⟩] = bif Pure.spec_l01Finite F (List.getD (List.getD x1 x0 []) 0 0) then bif Pure.spec_l01Finite F (List.getD (List.getD x1 x0 []) 1 0) then some ⟨V.at (A.bool (Pure.spec_l02Above F (List.getD (List.getD x1 x0 []) 2 0))), none, []⟩ else some ⟨V.at (A.bool false), none, []⟩ else some ⟨V.at (A.bool false), none, []⟩ := by kernel_rfl
  rw [h0]
  unfold Pure.spec_l06Ball_e
  cases (Pure.spec_l01Finite F (List.getD (List.getD x1 x0 []) 0 0)) with
  | true =>
    cases (Pure.spec_l01Finite F (List.getD (List.getD x1 x0 []) 1 0)) with
    | true =>
      rfl
    | false =>
      rfl
  | false =>
    rfl
theorem ok_spec_l06Ball_e : CallOK Try.prog 83 (c_spec_l06Ball_e real) := by
  refine callOK_of fun args h ret hc => ?_
  unfold c_spec_l06Ball_e at hc
  split at hc
  · rename_i x0 x1
    obtain ⟨_, rfl⟩ := some_ret hc
    exact holds_ev prog_ok (allOK_cons ok_spec_l01Finite (allOK_cons ok_spec_l02Above allOK_nil)) Try.func83 rfl rfl smL_nil rfl (e_spec_l06Ball_e real x0 x1)
  · cases hc
def Pure.impl_MomentumOfRow_c1 (F : FOps) (x0 : Int) (x1 : Int) (x2 : Int) : Int := FOps.bin F BinOp.mul FloatKind.f32 x2 x1
def c_impl_MomentumOfRow_c1 (F : FOps) : Con
  | [V.agg [A.fl FloatKind.f32 x0, A.fl FloatKind.f32 x1, A.fl FloatKind.f32 x2]], [] => some (true, ⟨V.at (A.fl FloatKind.f32 (Pure.impl_MomentumOfRow_c1 F x0 x1 x2)), none, []⟩)
  | _, _ => none
theorem e_impl_MomentumOfRow_c1 (F : FOps) (x0 : Int) (x1 : Int) (x2 : Int) : evFn (cxS F tyl [] [] [] 0) Try.f59 false [V.agg [A.fl FloatKind.f32 x0, A.fl FloatKind.f32 x1, A.fl FloatKind.f32 x2]] [] = some ⟨V.at (A.fl FloatKind.f32 (Pure.impl_MomentumOfRow_c1 F x0 x1 x2)), none, []⟩ := by
  kernel_rfl
theorem ok_impl_MomentumOfRow_c1 : CallOK Try.prog 59 (c_impl_MomentumOfRow_c1 real) := by
  refine callOK_of fun args h ret hc => ?_
  unfold c_impl_MomentumOfRow_c1 at hc
  split at hc
  · rename_i x0 x1 x2
    obtain ⟨_, rfl⟩ := some_ret hc
    exact holds_ev prog_ok allOK_nil Try.func59 rfl rfl smL_nil rfl (e_impl_MomentumOfRow_c1 real x0 x1 x2)
  · cases hc
def Pure.impl_Row_summed_mom_L0 (F : FOps) (y1 : Int) (y3 : Int) (y4 : List (List Int)) : Nat → Int → Int → (Bool × Int)
  | 0, _, _ => (false, 0)
  | n + 1, y0, y2 => bif (Decidable.decide (y2 < y1)) then (bif (Decidable.decide (0 ≤ y2)) then (bif (Decidable.decide (y2 < (Int.ofNat (List.length y4)))) then (Pure.impl_Row_summed_mom_L0 F y1 y3 y4 n (FOps.bin F BinOp.add FloatKind.f32 y0 (Pure.impl_MomentumOfRow_c1 F (List.getD (List.getD y4 (Int.toNat y2) []) 0 0) (List.getD (List.getD y4 (Int.toNat y2) []) 1 0) (List.getD (List.getD y4 (Int.toNat y2) []) 2 0))) (IntKind.wrap IntKind.i64 (y2 + 1))) else ((false, 0))) else ((false, 0))) else ((true, y0))
def R_impl_Row_summed_mom_L0 (y3 : Int) (y4 : List (List Int)) (r : (Bool × Int)) : Bool × Bool × (Ex × List V × List Ob) × (Ex × List V × List Ob) := ((r).1, false, (Ex.normal, [V.at (A.fl FloatKind.f32 (r).2)], [⟨false, OC.box [A.sl 1, A.fl FloatKind.f32 y3]⟩, ⟨false, OC.rows [K.f FloatKind.f32, K.f FloatKind.f32, K.f FloatKind.f32] y4⟩]), (Ex.normal, [V.at (A.fl FloatKind.f32 (r).2)], [⟨false, OC.box [A.sl 1, A.fl FloatKind.f32 y3]⟩, ⟨false, OC.rows [K.f FloatKind.f32, K.f FloatKind.f32, K.f FloatKind.f32] y4⟩]))
def S_impl_Row_summed_mom_L0 (F : FOps) : Sm := ⟨[1, 5, 11, 12, 13], [67, 22, 23, 3, 3], [5], fun vals hp => match vals, hp with
  | [V.at (A.fn 59 []), V.at (A.fl FloatKind.f32 y0), V.at (A.sl 1), V.at (A.int IntKind.i64 y1), V.at (A.int IntKind.i64 y2)], [⟨false, OC.box [A.sl 1, A.fl FloatKind.f32 y3]⟩, ⟨false, OC.rows [K.f FloatKind.f32, K.f FloatKind.f32, K.f FloatKind.f32] y4⟩] => some (R_impl_Row_summed_mom_L0 y3 y4 (Pure.impl_Row_summed_mom_L0 F y1 y3 y4 (y1 - y2 + 1).toNat y0 y2))
  | _, _ => none⟩
theorem l_impl_Row_summed_mom_L0 (F : FOps) (y1 : Int) (y3 : Int) (y4 : List (List Int)) : ∀ (fuel : Nat) (y0 : Int) (y2 : Int), (Pure.impl_Row_summed_mom_L0 F y1 y3 y4 fuel y0 y2).1 = true → loopOf (cxS F tyl [(59, c_impl_MomentumOfRow_c1 F)] [] [] 0) 2 24 0 [1, 5, 11, 12, 13] [67, 22, 23, 3, 3] [5] (loopB 0 (codeOf Try.f58)) fuel [V.at (A.fn 59 []), V.at (A.fl FloatKind.f32 y0), V.at (A.sl 1), V.at (A.int IntKind.i64 y1), V.at (A.int IntKind.i64 y2)] [⟨false, OC.box [A.sl 1, A.fl FloatKind.f32 y3]⟩, ⟨false, OC.rows [K.f FloatKind.f32, K.f FloatKind.f32, K.f FloatKind.f32] y4⟩] = resOf (R_impl_Row_summed_mom_L0 y3 y4 (Pure.impl_Row_summed_mom_L0 F y1 y3 y4 fuel y0 y2)) := by
  intro fuel
  induction fuel with
  | zero => intro y0 y2 h; exact absurd h Bool.false_ne_true
  | succ n ih =>
    intro y0 y2
    have h0 : roundOf (cxS F tyl [(59, c_impl_MomentumOfRow_c1 F)] [] [] 0) 2 24 0 [1, 5, 11, 12, 13] [67, 22, 23, 3, 3] [5] (loopB 0 (codeOf Try.f58)) [V.at (A.fn 59 []), V.at (A.fl FloatKind.f32 y0), V.at (A.sl 1), V.at (A.int IntKind.i64 y1), V.at (A.int IntKind.i64 y2)] [⟨false, OC.box [A.sl 1, A.fl FloatKind.f32 y3]⟩, ⟨false, OC.rows [K.f FloatKind.f32, K.f FloatKind.f32, K.f FloatKind.f32] y4⟩] = (bif Decidable.decide (y2 < y1) then bif Decidable.decide (0 ≤ y2) then bif Decidable.decide (y2 < (Int.ofNat (List.length y4))) then some (true, (Ex.normal, ([V.at (A.fn 59 []), V.at (A.fl FloatKind.f32 (FOps.bin F BinOp.add FloatKind.f32 y0 (Pure.impl_MomentumOfRow_c1 F (List.getD (List.getD y4 (Int.toNat y2) []) 0 0) (List.getD (List.getD y4 (Int.toNat y2) []) 1 0) (List.getD (List.getD y4 (Int.toNat y2) []) 2 0)))), V.at (A.sl 1), V.at (A.int IntKind.i64 y1), V.at (A.int IntKind.i64 (IntKind.wrap IntKind.i64 (y2 + 1)))], [⟨false, OC.box [A.sl 1, A.fl FloatKind.f32 y3]⟩, ⟨false, OC.rows [K.f FloatKind.f32, K.f FloatKind.f32, K.f FloatKind.f32] y4⟩]))) else none else none else some (false, (Ex.normal, ([V.at (A.fl FloatKind.f32 y0)], [⟨false, OC.box [A.sl 1, A.fl FloatKind.f32 y3]⟩, ⟨false, OC.rows [K.f FloatKind.f32, K.f FloatKind.f32, K.f FloatKind.f32] y4⟩])))) := by kernel_rfl
    unfold loopOf
    rw [h0]
    unfold Pure.impl_Row_summed_mom_L0
    cases (Decidable.decide (y2 < y1)) with
    | true =>
      cases (Decidable.decide (0 ≤ y2)) with
      | true =>
        cases (Decidable.decide (y2 < (Int.ofNat (List.length y4)))) with
        | true =>
          exact ih _ _
        | false =>
          intro h; exact absurd h Bool.false_ne_true
      | false =>
        intro h; exact absurd h Bool.false_ne_true
    | false =>
      intro _; rfl
theorem t_impl_Row_summed_mom_L0 : SmTo Try.prog 2 24 (S_impl_Row_summed_mom_L0 real) 0 (.loop (loopB 0 (codeOf Try.f58))) := by
  refine smTo_ev (cl := [(59, c_impl_MomentumOfRow_c1 real)]) (ef := []) (sm := []) (un := 0) prog_ok (allOK_cons ok_impl_MomentumOfRow_c1 allOK_nil) smL_nil ?_
  intro vals hp q r h hq
  unfold S_impl_Row_summed_mom_L0 at h
  dsimp only at h
  split at h
  · rename_i y0 y1 y2 y3 y4
    obtain rfl := Option.some.inj h
    have h1 := hq
    unfold resOf at h1
    rw [chk_some] at h1
    exact ⟨_, (l_impl_Row_summed_mom_L0 real y1 y3 y4 _ y0 y2 h1.1).trans hq⟩
  · cases h
def Pure.impl_Row_summed_mom (F : FOps) (x0 : List (List Int)) (x1 : Int) : Int := Prod.snd (Pure.impl_Row_summed_mom_L0 F (Int.ofNat (List.length x0)) x1 x0 (Nat.succ ((List.length x0) + 0)) 0 0)
def Pure.impl_Row_summed_mom_ok (F : FOps) (x0 : List (List Int)) (x1 : Int) : Bool := Prod.fst (Pure.impl_Row_summed_mom_L0 F (Int.ofNat (List.length x0)) x1 x0 (Nat.succ ((List.length x0) + 0)) 0 0)
def c_impl_Row_summed_mom (F : FOps) : Con
  | [V.at (A.ptr 0 0 0), V.at (A.fn 59 [])], [⟨false, OC.box [A.sl 1, A.fl FloatKind.f32 x1]⟩, ⟨false, OC.rows [K.f FloatKind.f32, K.f FloatKind.f32, K.f FloatKind.f32] x0⟩] => some (Pure.impl_Row_summed_mom_ok F x0 x1, ⟨V.at (A.fl FloatKind.f32 (Pure.impl_Row_summed_mom F x0 x1)), none, []⟩)
  | _, _ => none
theorem e_impl_Row_summed_mom (F : FOps) (x0 : List (List Int)) (x1 : Int) : Pure.impl_Row_summed_mom_ok F x0 x1 = true → evFn (cxS F tyl [(59, c_impl_MomentumOfRow_c1 F)] [] [(0, S_impl_Row_summed_mom_L0 F)] 0) Try.f58 false [V.at (A.ptr 0 0 0), V.at (A.fn 59 [])] [⟨false, OC.box [A.sl 1, A.fl FloatKind.f32 x1]⟩, ⟨false, OC.rows [K.f FloatKind.f32, K.f FloatKind.f32, K.f FloatKind.f32] x0⟩] = some ⟨V.at (A.fl FloatKind.f32 (Pure.impl_Row_summed_mom F x0 x1)), none, []⟩ := by
  have h0 : evFn (cxS F tyl [(59, c_impl_MomentumOfRow_c1 F)] [] [(0, S_impl_Row_summed_mom_L0 F)] 0) Try.f58 false [V.at (A.ptr 0 0 0), V.at (A.fn 59 [])] [⟨false, OC.box [A.sl 1, A.fl FloatKind.f32 x1]⟩, ⟨false, OC.rows [K.f FloatKind.f32, K.f FloatKind.f32, K.f FloatKind.f32] x0⟩] = bif Prod.fst (Pure.impl_Row_summed_mom_L0 F (Int.ofNat (List.length x0)) x1 x0 (Nat.succ ((List.length x0) + 0)) 0 0) then some ⟨V.at (A.fl FloatKind.f32 (Prod.snd (Pure.impl_Row_summed_mom_L0 F (Int.ofNat (List.length x0)) x1 x0 (Nat.succ ((List.length x0) + 0)) 0 0))), none, []⟩ else none := by kernel_rfl
  rw [h0]
  unfold Pure.impl_Row_summed_mom Pure.impl_Row_summed_mom_ok
  cases (Prod.fst (Pure.impl_Row_summed_mom_L0 F (Int.ofNat (List.length x0)) x1 x0 (Nat.succ ((List.length x0) + 0)) 0 0)) with
  | true =>
    intro _; rfl
  | false =>
    intro h; exact absurd h Bool.false_ne_true
theorem ok_impl_Row_summed_mom : CallOK Try.prog 58 (c_impl_Row_summed_mom real) := by
  refine callOK_of fun args h ret hc => ?_
  unfold c_impl_Row_summed_mom at hc
  split at hc
  · rename_i x1 x0
    obtain ⟨hok, rfl⟩ := some_ret hc
    exact holds_ev prog_ok (allOK_cons ok_impl_MomentumOfRow_c1 allOK_nil) Try.func58 rfl rfl (smL_cons (body := .loop (loopB 0 (codeOf Try.f58))) (by kernel_rfl) t_impl_Row_summed_mom_L0 smL_nil) rfl (e_impl_Row_summed_mom real x0 x1 hok)
  · cases hc
def Pure.impl_EnergyOfRow_c1 (F : FOps) (x0 : Int) (x1 : Int) (x2 : Int) : Int := FOps.bin F BinOp.mul FloatKind.f32 (FOps.bin F BinOp.mul FloatKind.f32 x2 x1) x1
def c_impl_EnergyOfRow_c1 (F : FOps) : Con
  | [V.agg [A.fl FloatKind.f32 x0, A.fl FloatKind.f32 x1, A.fl FloatKind.f32 x2]], [] => some (true, ⟨V.at (A.fl FloatKind.f32 (Pure.impl_EnergyOfRow_c1 F x0 x1 x2)), none, []⟩)
  | _, _ => none
theorem e_impl_EnergyOfRow_c1 (F : FOps) (x0 : Int) (x1 : Int) (x2 : Int) : evFn (cxS F tyl [] [] [] 0) Try.f60 false [V.agg [A.fl FloatKind.f32 x0, A.fl FloatKind.f32 x1, A.fl FloatKind.f32 x2]] [] = some ⟨V.at (A.fl FloatKind.f32 (Pure.impl_EnergyOfRow_c1 F x0 x1 x2)), none, []⟩ := by
  kernel_rfl
theorem ok_impl_EnergyOfRow_c1 : CallOK Try.prog 60 (c_impl_EnergyOfRow_c1 real) := by
  refine callOK_of fun args h ret hc => ?_
  unfold c_impl_EnergyOfRow_c1 at hc
  split at hc
  · rename_i x0 x1 x2
    obtain ⟨_, rfl⟩ := some_ret hc
    exact holds_ev prog_ok allOK_nil Try.func60 rfl rfl smL_nil rfl (e_impl_EnergyOfRow_c1 real x0 x1 x2)
  · cases hc
def Pure.impl_Row_summed_ene_L0 (F : FOps) (y1 : Int) (y3 : Int) (y4 : List (List Int)) : Nat → Int → Int → (Bool × Int)
  | 0, _, _ => (false, 0)
  | n + 1, y0, y2 => bif (Decidable.decide (y2 < y1)) then (bif (Decidable.decide (0 ≤ y2)) then (bif (Decidable.decide (y2 < (Int.ofNat (List.length y4)))) then (Pure.impl_Row_summed_ene_L0 F y1 y3 y4 n (FOps.bin F BinOp.add FloatKind.f32 y0 (Pure.impl_EnergyOfRow_c1 F (List.getD (List.getD y4 (Int.toNat y2) []) 0 0) (List.getD (List.getD y4 (Int.toNat y2) []) 1 0) (List.getD (List.getD y4 (Int.toNat y2) []) 2 0))) (IntKind.wrap IntKind.i64 (y2 + 1))) else ((false, 0))) else ((false, 0))) else ((true, y0))
def R_impl_Row_summed_ene_L0 (y3 : Int) (y4 : List (List Int)) (r : (Bool × Int)) : Bool × Bool × (Ex × List V × List Ob) × (Ex × List V × List Ob) := ((r).1, false, (Ex.normal, [V.at (A.fl FloatKind.f32 (r).2)], [⟨false, OC.box [A.sl 1, A.fl FloatKind.f32 y3]⟩, ⟨false, OC.rows [K.f FloatKind.f32, K.f FloatKind.f32, K.f FloatKind.f32] y4⟩]), (Ex.normal, [V.at (A.fl FloatKind.f32 (r).2)], [⟨false, OC.box [A.sl 1, A.fl FloatKind.f32 y3]⟩, ⟨false, OC.rows [K.f FloatKind.f32, K.f FloatKind.f32, K.f FloatKind.f32] y4⟩]))
def S_impl_Row_summed_ene_L0 (F : FOps) : Sm := ⟨[1, 5, 11, 12, 13], [67, 22, 23, 3, 3], [5], fun vals hp => match vals, hp with
  | [V.at (A.fn 60 []), V.at (A.fl FloatKind.f32 y0), V.at (A.sl 1), V.at (A.int IntKind.i64 y1), V.at (A.int IntKind.i64 y2)], [⟨false, OC.box [A.sl 1, A.fl FloatKind.f32 y3]⟩, ⟨false, OC.rows [K.f FloatKind.f32, K.f FloatKind.f32, K.f FloatKind.f32] y4⟩] => some (R_impl_Row_summed_ene_L0 y3 y4 (Pure.impl_Row_summed_ene_L0 F y1 y3 y4 (y1 - y2 + 1).toNat y0 y2))
  | _, _ => none⟩
theorem l_impl_Row_summed_ene_L0 (F : FOps) (y1 : Int) (y3 : Int) (y4 : List (List Int)) : ∀ (fuel : Nat) (y0 : Int) (y2 : Int), (Pure.impl_Row_summed_ene_L0 F y1 y3 y4 fuel y0 y2).1 = true → loopOf (cxS F tyl [(60, c_impl_EnergyOfRow_c1 F)] [] [] 0) 2 24 0 [1, 5, 11, 12, 13] [67, 22, 23, 3, 3] [5] (loopB 0 (codeOf Try.f58)) fuel [V.at (A.fn 60 []), V.at (A.fl FloatKind.f32 y0), V.at (A.sl 1), V.at (A.int IntKind.i64 y1), V.at (A.int IntKind.i64 y2)] [⟨false, OC.box [A.sl 1, A.fl FloatKind.f32 y3]⟩, ⟨false, OC.rows [K.f FloatKind.f32, K.f FloatKind.f32, K.f FloatKind.f32] y4⟩] = resOf (R_impl_Row_summed_ene_L0 y3 y4 (Pure.impl_Row_summed_ene_L0 F y1 y3 y4 fuel y0 y2)) := by
  intro fuel
  induction fuel with
  | zero => intro y0 y2 h; exact absurd h Bool.false_ne_true
  | succ n ih =>
    intro y0 y2
    have h0 : roundOf (cxS F tyl [(60, c_impl_EnergyOfRow_c1 F)] [] [] 0) 2 24 0 [1, 5, 11, 12, 13] [67, 22, 23, 3, 3] [5] (loopB 0 (codeOf Try.f58)) [V.at (A.fn 60 []), V.at (A.fl FloatKind.f32 y0), V.at (A.sl 1), V.at (A.int IntKind.i64 y1), V.at (A.int IntKind.i64 y2)] [⟨false, OC.box [A.sl 1, A.fl FloatKind.f32 y3]⟩, ⟨false, OC.rows [K.f FloatKind.f32, K.f FloatKind.f32, K.f FloatKind.f32] y4⟩] = (bif Decidable.decide (y2 < y1) then bif Decidable.decide (0 ≤ y2) then bif Decidable.decide (y2 < (Int.ofNat (List.length y4))) then some (true, (Ex.normal, ([V.at (A.fn 60 []), V.at (A.fl FloatKind.f32 (FOps.bin F BinOp.add FloatKind.f32 y0 (Pure.impl_EnergyOfRow_c1 F (List.getD (List.getD y4 (Int.toNat y2) []) 0 0) (List.getD (List.getD y4 (Int.toNat y2) []) 1 0) (List.getD (List.getD y4 (Int.toNat y2) []) 2 0)))), V.at (A.sl 1), V.at (A.int IntKind.i64 y1), V.at (A.int IntKind.i64 (IntKind.wrap IntKind.i64 (y2 + 1)))], [⟨false, OC.box [A.sl 1, A.fl FloatKind.f32 y3]⟩, ⟨false, OC.rows [K.f FloatKind.f32, K.f FloatKind.f32, K.f FloatKind.f32] y4⟩]))) else none else none else some (false, (Ex.normal, ([V.at (A.fl FloatKind.f32 y0)], [⟨false, OC.box [A.sl 1, A.fl FloatKind.f32 y3]⟩, ⟨false, OC.rows [K.f FloatKind.f32, K.f FloatKind.f32, K.f FloatKind.f32] y4⟩])))) := by kernel_rfl
    unfold loopOf
    rw [h0]
    unfold Pure.impl_Row_summed_ene_L0
    cases (Decidable.decide (y2 < y1)) with
    | true =>
      cases (Decidable.decide (0 ≤ y2)) with
      | true =>
        cases (Decidable.decide (y2 < (Int.ofNat (List.length y4)))) with
        | true =>
          exact ih _ _
        | false =>
          intro h; exact absurd h Bool.false_ne_true
      | false =>
        intro h; exact absurd h Bool.false_ne_true
    | false =>
      intro _; rfl
theorem t_impl_Row_summed_ene_L0 : SmTo Try.prog 2 24 (S_impl_Row_summed_ene_L0 real) 0 (.loop (loopB 0 (codeOf Try.f58))) := by
  refine smTo_ev (cl := [(60, c_impl_EnergyOfRow_c1 real)]) (ef := []) (sm := []) (un := 0) prog_ok (allOK_cons ok_impl_EnergyOfRow_c1 allOK_nil) smL_nil ?_
  intro vals hp q r h hq
  unfold S_impl_Row_summed_ene_L0 at h
  dsimp only at h
  split at h
  · rename_i y0 y1 y2 y3 y4
    obtain rfl := Option.some.inj h
    have h1 := hq
    unfold resOf at h1
    rw [chk_some] at h1
    exact ⟨_, (l_impl_Row_summed_ene_L0 real y1 y3 y4 _ y0 y2 h1.1).trans hq⟩
  · cases h
def Pure.impl_Row_summed_ene (F : FOps) (x0 : List (List Int)) (x1 : Int) : Int := Prod.snd (Pure.impl_Row_summed_ene_L0 F (Int.ofNat (List.length x0)) x1 x0 (Nat.succ ((List.length x0) + 0)) 0 0)
def Pure.impl_Row_summed_ene_ok (F : FOps) (x0 : List (List Int)) (x1 : Int) : Bool := Prod.fst (Pure.impl_Row_summed_ene_L0 F (Int.ofNat (List.length x0)) x1 x0 (Nat.succ ((List.length x0) + 0)) 0 0)
def c_impl_Row_summed_ene (F : FOps) : Con
  | [V.at (A.ptr 0 0 0), V.at (A.fn 60 [])], [⟨false, OC.box [A.sl 1, A.fl FloatKind.f32 x1]⟩, ⟨false, OC.rows [K.f FloatKind.f32, K.f FloatKind.f32, K.f FloatKind.f32] x0⟩] => some (Pure.impl_Row_summed_ene_ok F x0 x1, ⟨V.at (A.fl FloatKind.f32 (Pure.impl_Row_summed_ene F x0 x1)), none, []⟩)
  | _, _ => none
theorem e_impl_Row_summed_ene (F : FOps) (x0 : List (List Int)) (x1 : Int) : Pure.impl_Row_summed_ene_ok F x0 x1 = true → evFn (cxS F tyl [(60, c_impl_EnergyOfRow_c1 F)] [] [(0, S_impl_Row_summed_ene_L0 F)] 0) Try.f58 false [V.at (A.ptr 0 0 0), V.at (A.fn 60 [])] [⟨false, OC.box [A.sl 1, A.fl FloatKind.f32 x1]⟩, ⟨false, OC.rows [K.f FloatKind.f32, K.f FloatKind.f32, K.f FloatKind.f32] x0⟩] = some ⟨V.at (A.fl FloatKind.f32 (Pure.impl_Row_summed_ene F x0 x1)), none, []⟩ := by
  have h0 : evFn (cxS F tyl [(60, c_impl_EnergyOfRow_c1 F)] [] [(0, S_impl_Row_summed_ene_L0 F)] 0) Try.f58 false [V.at (A.ptr 0 0 0), V.at (A.fn 60 [])] [⟨false, OC.box [A.sl 1, A.fl FloatKind.f32 x1]⟩, ⟨false, OC.rows [K.f FloatKind.f32, K.f FloatKind.f32, K.f FloatKind.f32] x0⟩] = bif Prod.fst (Pure.impl_Row_summed_ene_L0 F (Int.ofNat (List.length x0)) x1 x0 (Nat.succ ((List.length x0) + 0)) 0 0) then some ⟨V.at (A.fl FloatKind.f32 (Prod.snd (Pure.impl_Row_summed_ene_L0 F (Int.ofNat (List.length x0)) x1 x0 (Nat.succ ((List.length x0) + 0)) 0 0))), none, []⟩ else none := by kernel_rfl
  rw [h0]
  unfold Pure.impl_Row_summed_ene Pure.impl_Row_summed_ene_ok
  cases (Prod.fst (Pure.impl_Row_summed_ene_L0 F (Int.ofNat (List.length x0)) x1 x0 (Nat.succ ((List.length x0) + 0)) 0 0)) with
  | true =>
    intro _; rfl
  | false =>
    intro h; exact absurd h Bool.false_ne_true
theorem ok_impl_Row_summed_ene : CallOK Try.prog 58 (c_impl_Row_summed_ene real) := by
  refine callOK_of fun args h ret hc => ?_
  unfold c_impl_Row_summed_ene at hc
  split at hc
  · rename_i x1 x0
    obtain ⟨hok, rfl⟩ := some_ret hc
    exact holds_ev prog_ok (allOK_cons ok_impl_EnergyOfRow_c1 allOK_nil) Try.func58 rfl rfl (smL_cons (body := .loop (loopB 0 (codeOf Try.f58))) (by kernel_rfl) t_impl_Row_summed_ene_L0 smL_nil) rfl (e_impl_Row_summed_ene real x0 x1 hok)
  · cases hc
def c_impl_Row_summed_or1 (F : FOps) : Con := orC (c_impl_Row_summed_mom F) (c_impl_Row_summed_ene F)
theorem ok_impl_Row_summed_or1 : CallOK Try.prog 58 (c_impl_Row_summed_or1 real) := callOK_or ok_impl_Row_summed_mom ok_impl_Row_summed_ene
def Pure.laws_szBallS (F : FOps) (x0 : List (List Int)) (x1 : Int) : Int := bif Decidable.decide ((IntKind.wrap IntKind.i64 (x1 - (Int.ofNat (List.length x0)))) < 0) then (-1) else IntKind.wrap IntKind.i64 (x1 - (Int.ofNat (List.length x0)))
def c_laws_szBallS (F : FOps) : Con
  | [V.at (A.sl 0), V.at (A.int IntKind.i64 x1)], [⟨false, OC.rows [K.f FloatKind.f32, K.f FloatKind.f32, K.f FloatKind.f32] x0⟩] => some (true, ⟨V.at (A.int IntKind.i64 (Pure.laws_szBallS F x0 x1)), none, []⟩)
  | _, _ => none
theorem e_laws_szBallS (F : FOps) (x0 : List (List Int)) (x1 : Int) : evFn (cxS F tyl [] [] [] 0) Try.f53 false [V.at (A.sl 0), V.at (A.int IntKind.i64 x1)] [⟨false, OC.rows [K.f FloatKind.f32, K.f FloatKind.f32, K.f FloatKind.f32] x0⟩] = some ⟨V.at (A.int IntKind.i64 (Pure.laws_szBallS F x0 x1)), none, []⟩ := by
  have h0 : evFn (cxS F tyl [] [] [] 0) Try.f53 false [V.at (A.sl 0), V.at (A.int IntKind.i64 x1)] [⟨false, OC.rows [K.f FloatKind.f32, K.f FloatKind.f32, K.f FloatKind.f32] x0⟩] = bif Decidable.decide ((IntKind.wrap IntKind.i64 (x1 - (Int.ofNat (List.length x0)))) < 0) then some ⟨V.at (A.int IntKind.i64 (-1)), none, []⟩ else some ⟨V.at (A.int IntKind.i64 (IntKind.wrap IntKind.i64 (x1 - (Int.ofNat (List.length x0))))), none, []⟩ := by kernel_rfl
  rw [h0]
  unfold Pure.laws_szBallS
  cases (Decidable.decide ((IntKind.wrap IntKind.i64 (x1 - (Int.ofNat (List.length x0)))) < 0)) with
  | true =>
    rfl
  | false =>
    rfl
theorem ok_laws_szBallS : CallOK Try.prog 53 (c_laws_szBallS real) := by
  refine callOK_of fun args h ret hc => ?_
  unfold c_laws_szBallS at hc
  split at hc
  · rename_i x1 x0
    obtain ⟨_, rfl⟩ := some_ret hc
    exact holds_ev prog_ok allOK_nil Try.func53 rfl rfl smL_nil rfl (e_laws_szBallS real x0 x1)
  · cases hc
def Pure.laws_szRow (F : FOps) (x0 : List (List Int)) (x1 : Int) (x2 : Int) : Int := bif Decidable.decide ((Pure.laws_szBallS F x0 x2) < 0) then (-1) else Pure.laws_szBallS F x0 x2
def c_laws_szRow (F : FOps) : Con
  | [V.agg [A.sl 0, A.fl FloatKind.f32 x1], V.at (A.int IntKind.i64 x2)], [⟨false, OC.rows [K.f FloatKind.f32, K.f FloatKind.f32, K.f FloatKind.f32] x0⟩] => some (true, ⟨V.at (A.int IntKind.i64 (Pure.laws_szRow F x0 x1 x2)), none, []⟩)
  | _, _ => none
theorem e_laws_szRow (F : FOps) (x0 : List (List Int)) (x1 : Int) (x2 : Int) : evFn (cxS F tyl [(53, c_laws_szBallS F)] [] [] 0) Try.f19 false [V.agg [A.sl 0, A.fl FloatKind.f32 x1], V.at (A.int IntKind.i64 x2)] [⟨false, OC.rows [K.f FloatKind.f32, K.f FloatKind.f32, K.f FloatKind.f32] x0⟩] = some ⟨V.at (A.int IntKind.i64 (Pure.laws_szRow F x0 x1 x2)), none, []⟩ := by
  have h0 : evFn (cxS F tyl [(53, c_laws_szBallS F)] [] [] 0) Try.f19 false [V.agg [A.sl 0, A.fl FloatKind.f32 x1], V.at (A.int IntKind.i64 x2)] [⟨false, OC.rows [K.f FloatKind.f32, K.f FloatKind.f32, K.f FloatKind.f32] x0⟩] = bif Decidable.decide ((Pure.laws_szBallS F x0 x2) < 0) then some ⟨V.at (A.int IntKind.i64 (-1)), none, []⟩ else some ⟨V.at (A.int IntKind.i64 (Pure.laws_szBallS F x0 x2)), none, []⟩ := by kernel_rfl
  rw [h0]
  unfold Pure.laws_szRow
  cases (Decidable.decide ((Pure.laws_szBallS F x0 x2) < 0)) with
  | true =>
    rfl
  | false =>
    rfl
theorem ok_laws_szRow : CallOK Try.prog 19 (c_laws_szRow real) := by
  refine callOK_of fun args h ret hc => ?_
  unfold c_laws_szRow at hc
  split at hc
  · rename_i x1 x2 x0
    obtain ⟨_, rfl⟩ := some_ret hc
    exact holds_ev prog_ok (allOK_cons ok_laws_szBallS allOK_nil) Try.func19 rfl rfl smL_nil rfl (e_laws_szRow real x0 x1 x2)
  · cases hc
def c_laws_toBall (_ : FOps) : Con
  | [V.agg [A.fl FloatKind.f32 x0, A.fl FloatKind.f32 x1, A.fl FloatKind.f32 x2]], [] => some (true, ⟨V.agg [A.fl FloatKind.f32 x0, A.fl FloatKind.f32 x1, A.fl FloatKind.f32 x2], none, []⟩)
  | _, _ => none
theorem e_laws_toBall (F : FOps) (x0 : Int) (x1 : Int) (x2 : Int) : evFn (cxS F tyl [] [] [] 0) Try.f38 false [V.agg [A.fl FloatKind.f32 x0, A.fl FloatKind.f32 x1, A.fl FloatKind.f32 x2]] [] = some ⟨V.agg [A.fl FloatKind.f32 x0, A.fl FloatKind.f32 x1, A.fl FloatKind.f32 x2], none, []⟩ := by
  kernel_rfl
theorem ok_laws_toBall : CallOK Try.prog 38 (c_laws_toBall real) := by
  refine callOK_of fun args h ret hc => ?_
  unfold c_laws_toBall at hc
  split at hc
  · rename_i x0 x1 x2
    obtain ⟨_, rfl⟩ := some_ret hc
    exact holds_ev prog_ok allOK_nil Try.func38 rfl rfl smL_nil rfl (e_laws_toBall real x0 x1 x2)
  · cases hc
def Pure.laws_toBallS_L0 (F : FOps) (y1 : List (List Int)) : Nat → Int → (List (List Int)) → (Bool × (List (List Int)))
  | 0, _, _ => (false, [])
  | n + 1, y0, y2 => bif (Decidable.decide (y0 < (Int.ofNat (List.length y1)))) then (bif (Decidable.decide (0 ≤ y0)) then (bif (Decidable.decide (y0 < (Int.ofNat (List.length y1)))) then (bif (Decidable.decide (0 ≤ y0)) then (bif (Decidable.decide (y0 < (Int.ofNat (List.length y2)))) then (Pure.laws_toBallS_L0 F y1 n (IntKind.wrap IntKind.i64 (y0 + 1)) (List.set y2 (Int.toNat y0) [List.getD (List.getD y1 (Int.toNat y0) []) 0 0, List.getD (List.getD y1 (Int.toNat y0) []) 1 0, List.getD (List.getD y1 (Int.toNat y0) []) 2 0])) else ((false, []))) else ((false, []))) else ((false, []))) else ((false, []))) else ((true, y2))
def R_laws_toBallS_L0 (y1 : List (List Int)) (r : (Bool × (List (List Int)))) : Bool × Bool × (Ex × List V × List Ob) × (Ex × List V × List Ob) := ((r).1, false, (Ex.normal, [V.at (A.sl 1)], [⟨false, OC.rows [K.f FloatKind.f32, K.f FloatKind.f32, K.f FloatKind.f32] y1⟩, ⟨true, OC.rows [K.f FloatKind.f32, K.f FloatKind.f32, K.f FloatKind.f32] (r).2⟩]), (Ex.normal, [V.at (A.sl 1)], [⟨false, OC.rows [K.f FloatKind.f32, K.f FloatKind.f32, K.f FloatKind.f32] y1⟩, ⟨true, OC.rows [K.f FloatKind.f32, K.f FloatKind.f32, K.f FloatKind.f32] (r).2⟩]))
def S_laws_toBallS_L0 (F : FOps) : Sm := ⟨[0, 3, 4], [31, 23, 3], [3], fun vals hp => match vals, hp with
  | [V.at (A.sl 0), V.at (A.sl 1), V.at (A.int IntKind.i64 y0)], [⟨false, OC.rows [K.f FloatKind.f32, K.f FloatKind.f32, K.f FloatKind.f32] y1⟩, ⟨true, OC.rows [K.f FloatKind.f32, K.f FloatKind.f32, K.f FloatKind.f32] y2⟩] => some (R_laws_toBallS_L0 y1 (Pure.laws_toBallS_L0 F y1 ((Int.ofNat (List.length y1)) - y0 + 1).toNat y0 y2))
  | _, _ => none⟩
theorem l_laws_toBallS_L0 (F : FOps) (y1 : List (List Int)) : ∀ (fuel : Nat) (y0 : Int) (y2 : List (List Int)), (Pure.laws_toBallS_L0 F y1 fuel y0 y2).1 = true → loopOf (cxS F tyl [(38, c_laws_toBall F)] [] [] 0) 1 23 0 [0, 3, 4] [31, 23, 3] [3] (loopB 0 (codeOf Try.f56)) fuel [V.at (A.sl 0), V.at (A.sl 1), V.at (A.int IntKind.i64 y0)] [⟨false, OC.rows [K.f FloatKind.f32, K.f FloatKind.f32, K.f FloatKind.f32] y1⟩, ⟨true, OC.rows [K.f FloatKind.f32, K.f FloatKind.f32, K.f FloatKind.f32] y2⟩] = resOf (R_laws_toBallS_L0 y1 (Pure.laws_toBallS_L0 F y1 fuel y0 y2)) := by
  intro fuel
  induction fuel with
  | zero => intro y0 y2 h; exact absurd h Bool.false_ne_true
  | succ n ih =>
    intro y0 y2
    have h0 : roundOf (cxS F tyl [(38, c_laws_toBall F)] [] [] 0) 1 23 0 [0, 3, 4] [31, 23, 3] [3] (loopB 0 (codeOf Try.f56)) [V.at (A.sl 0), V.at (A.sl 1), V.at (A.int IntKind.i64 y0)] [⟨false, OC.rows [K.f FloatKind.f32, K.f FloatKind.f32, K.f FloatKind.f32] y1⟩, ⟨true, OC.rows [K.f FloatKind.f32, K.f FloatKind.f32, K.f FloatKind.f32] y2⟩] = (bif Decidable.decide (y0 < (Int.ofNat (List.length y1))) then bif Decidable.decide (0 ≤ y0) then bif Decidable.decide (y0 < (Int.ofNat (List.length y1))) then bif Decidable.decide (0 ≤ y0) then bif Decidable.decide (y0 < (Int.ofNat (List.length y2))) then some (true, (Ex.normal, ([V.at (A.sl 0), V.at (A.sl 1), V.at (A.int IntKind.i64 (IntKind.wrap IntKind.i64 (y0 + 1)))], [⟨false, OC.rows [K.f FloatKind.f32, K.f FloatKind.f32, K.f FloatKind.f32] y1⟩, ⟨true, OC.rows [K.f FloatKind.f32, K.f FloatKind.f32, K.f FloatKind.f32] (List.set y2 (Int.toNat y0) [List.getD (List.getD y1 (Int.toNat y0) []) 0 0, List.getD (List.getD y1 (Int.toNat y0) []) 1 0, List.getD (List.getD y1 (Int.toNat y0) []) 2 0])⟩]))) else none else none else none else none else some (false, (Ex.normal, ([V.at (A.sl 1)], [⟨false, OC.rows [K.f FloatKind.f32, K.f FloatKind.f32, K.f FloatKind.f32] y1⟩, ⟨true, OC.rows [K.f FloatKind.f32, K.f FloatKind.f32, K.f FloatKind.f32] y2⟩])))) := by kernel_rfl
    unfold loopOf
    rw [h0]
    unfold Pure.laws_toBallS_L0
    cases (Decidable.decide (y0 < (Int.ofNat (List.length y1)))) with
    | true =>
      cases (Decidable.decide (0 ≤ y0)) with
      | true =>
        cases (Decidable.decide (y0 < (Int.ofNat (List.length y2)))) with
        | true =>
          exact ih _ _
        | false =>
          intro h; exact absurd h Bool.false_ne_true
      | false =>
        intro h; exact absurd h Bool.false_ne_true
    | false =>
      intro _; rfl
theorem t_laws_toBallS_L0 : SmTo Try.prog 1 23 (S_laws_toBallS_L0 real) 0 (.loop (loopB 0 (codeOf Try.f56))) := by
  refine smTo_ev (cl := [(38, c_laws_toBall real)]) (ef := []) (sm := []) (un := 0) prog_ok (allOK_cons ok_laws_toBall allOK_nil) smL_nil ?_
  intro vals hp q r h hq
  unfold S_laws_toBallS_L0 at h
  dsimp only at h
  split at h
  · rename_i y0 y1 y2
    obtain rfl := Option.some.inj h
    have h1 := hq
    unfold resOf at h1
    rw [chk_some] at h1
    exact ⟨_, (l_laws_toBallS_L0 real y1 _ y0 y2 h1.1).trans hq⟩
  · cases h
def Pure.laws_toBallS (F : FOps) (x0 : List (List Int)) : List (List Int) := Prod.snd (Pure.laws_toBallS_L0 F x0 (Nat.succ ((List.length x0) + 0)) 0 (List.replicate (Int.toNat (Int.ofNat (List.length x0))) [0, 0, 0]))
def Pure.laws_toBallS_ok (F : FOps) (x0 : List (List Int)) : Bool := bif (Int.ofNat (List.length x0)) == (Int.ofNat (List.length x0)) then bif Decidable.decide ((Int.ofNat (List.length x0)) ≤ 1073741824) then Prod.fst (Pure.laws_toBallS_L0 F x0 (Nat.succ ((List.length x0) + 0)) 0 (List.replicate (Int.toNat (Int.ofNat (List.length x0))) [0, 0, 0])) else false else false
def c_laws_toBallS (F : FOps) : Con
  | [V.at (A.sl 0)], [⟨false, OC.rows [K.f FloatKind.f32, K.f FloatKind.f32, K.f FloatKind.f32] x0⟩] => some (Pure.laws_toBallS_ok F x0, ⟨V.at (A.sl 1), none, [⟨true, OC.rows [K.f FloatKind.f32, K.f FloatKind.f32, K.f FloatKind.f32] (Pure.laws_toBallS F x0)⟩]⟩)
  | _, _ => none
theorem e_laws_toBallS (F : FOps) (x0 : List (List Int)) : Pure.laws_toBallS_ok F x0 = true → evFn (cxS F tyl [(38, c_laws_toBall F)] [] [(0, S_laws_toBallS_L0 F)] 0) Try.f56 false [V.at (A.sl 0)] [⟨false, OC.rows [K.f FloatKind.f32, K.f FloatKind.f32, K.f FloatKind.f32] x0⟩] = some ⟨V.at (A.sl 1), none, [⟨true, OC.rows [K.f FloatKind.f32, K.f FloatKind.f32, K.f FloatKind.f32] (Pure.laws_toBallS F x0)⟩]⟩ := by
  have h0 : evFn (cxS F tyl [(38, c_laws_toBall F)] [] [(0, S_laws_toBallS_L0 F)] 0) Try.f56 false [V.at (A.sl 0)] [⟨false, OC.rows [K.f FloatKind.f32, K.f FloatKind.f32, K.f FloatKind.f32] x0⟩] = bif (Int.ofNat (List.length x0)) == (Int.ofNat (List.length x0)) then bif Decidable.decide ((Int.ofNat (List.length x0)) ≤ 1073741824) then bif Prod.fst (Pure.laws_toBallS_L0 F x0 (Nat.succ ((List.length x0) + 0)) 0 (List.replicate (Int.toNat (Int.ofNat (List.length x0))) [0, 0, 0])) then some ⟨V.at (A.sl 1), none, [⟨true, OC.rows [K.f FloatKind.f32, K.f FloatKind.f32, K.f FloatKind.f32] (Prod.snd (Pure.laws_toBallS_L0 F x0 (Nat.succ ((List.length x0) + 0)) 0 (List.replicate (Int.toNat (Int.ofNat (List.length x0))) [0, 0, 0])))⟩]⟩ else none else none else none := by kernel_rfl
  rw [h0]
  unfold Pure.laws_toBallS Pure.laws_toBallS_ok
  cases ((Int.ofNat (List.length x0)) == (Int.ofNat (List.length x0))) with
  | true =>
    cases (Decidable.decide ((Int.ofNat (List.length x0)) ≤ 1073741824)) with
    | true =>
      cases (Prod.fst (Pure.laws_toBallS_L0 F x0 (Nat.succ ((List.length x0) + 0)) 0 (List.replicate (Int.toNat (Int.ofNat (List.length x0))) [0, 0, 0]))) with
      | true =>
        intro _; rfl
      | false =>
        intro h; exact absurd h Bool.false_ne_true
    | false =>
      intro h; exact absurd h Bool.false_ne_true
  | false =>
    intro h; exact absurd h Bool.false_ne_true
theorem ok_laws_toBallS : CallOK Try.prog 56 (c_laws_toBallS real) := by
  refine callOK_of fun args h ret hc => ?_
  unfold c_laws_toBallS at hc
  split at hc
  · rename_i x0
    obtain ⟨hok, rfl⟩ := some_ret hc
    exact holds_ev prog_ok (allOK_cons ok_laws_toBall allOK_nil) Try.func56 rfl rfl (smL_cons (body := .loop (loopB 0 (codeOf Try.f56))) (by kernel_rfl) t_laws_toBallS_L0 smL_nil) rfl (e_laws_toBallS real x0 hok)
  · cases hc
def Pure.laws_toRow_ok (F : FOps) (x0 : List (List Int)) (x1 : Int) : Bool := Pure.laws_toBallS_ok F x0
def c_laws_toRow (F : FOps) : Con
  | [V.agg [A.sl 0, A.fl FloatKind.f32 x1]], [⟨false, OC.rows [K.f FloatKind.f32, K.f FloatKind.f32, K.f FloatKind.f32] x0⟩] => some (Pure.laws_toRow_ok F x0 x1, ⟨V.agg [A.sl 1, A.fl FloatKind.f32 x1], none, [⟨true, OC.rows [K.f FloatKind.f32, K.f FloatKind.f32, K.f FloatKind.f32] (Pure.laws_toBallS F x0)⟩]⟩)
  | _, _ => none
theorem e_laws_toRow (F : FOps) (x0 : List (List Int)) (x1 : Int) : Pure.laws_toRow_ok F x0 x1 = true → evFn (cxS F tyl [(56, c_laws_toBallS F)] [] [] 0) Try.f21 false [V.agg [A.sl 0, A.fl FloatKind.f32 x1]] [⟨false, OC.rows [K.f FloatKind.f32, K.f FloatKind.f32, K.f FloatKind.f32] x0⟩] = some ⟨V.agg [A.sl 1, A.fl FloatKind.f32 x1], none, [⟨true, OC.rows [K.f FloatKind.f32, K.f FloatKind.f32, K.f FloatKind.f32] (Pure.laws_toBallS F x0)⟩]⟩ := by
  have h0 : evFn (cxS F tyl [(56, c_laws_toBallS F)] [] [] 0) Try.f21 false [V.agg [A.sl 0, A.fl FloatKind.f32 x1]] [⟨false, OC.rows [K.f FloatKind.f32, K.f FloatKind.f32, K.f FloatKind.f32] x0⟩] = bif Pure.laws_toBallS_ok F x0 then some ⟨V.agg [A.sl 1, A.fl FloatKind.f32 x1], none, [⟨true, OC.rows [K.f FloatKind.f32, K.f FloatKind.f32, K.f FloatKind.f32] (Pure.laws_toBallS F x0)⟩]⟩ else none := by kernel_rfl
  rw [h0]
  unfold Pure.laws_toRow_ok
  cases (Pure.laws_toBallS_ok F x0) with
  | true =>
    intro _; rfl
  | false =>
    intro h; exact absurd h Bool.false_ne_true
theorem ok_laws_toRow : CallOK Try.prog 21 (c_laws_toRow real) := by
  refine callOK_of fun args h ret hc => ?_
  unfold c_laws_toRow at hc
  split at hc
  · rename_i x1 x0
    obtain ⟨hok, rfl⟩ := some_ret hc
    exact holds_ev prog_ok (allOK_cons ok_laws_toBallS allOK_nil) Try.func21 rfl rfl smL_nil rfl (e_laws_toRow real x0 x1 hok)
  · cases hc
def Pure.spec_l06Share (F : FOps) (x0 : Int) : Bool := bif FOps.cmp F BinOp.geq FloatKind.f32 x0 0 then FOps.cmp F BinOp.leq FloatKind.f32 x0 1065353216 else false
def c_spec_l06Share (F : FOps) : Con
  | [V.at (A.fl FloatKind.f32 x0)], [] => some (true, ⟨V.at (A.bool (Pure.spec_l06Share F x0)), none, []⟩)
  | _, _ => none
theorem e_spec_l06Share (F : FOps) (x0 : Int) : evFn (cxS F tyl [] [] [] 0) Try.f82 false [V.at (A.fl FloatKind.f32 x0)] [] = some ⟨V.at (A.bool (Pure.spec_l06Share F x0)), none, []⟩ := by
  have h0 : evFn (cxS F tyl [] [] [] 0) Try.f82 false [V.at (A.fl FloatKind.f32 x0)] [] = bif FOps.cmp F BinOp.geq FloatKind.f32 x0 0 then some ⟨V.at (A.bool (FOps.cmp F BinOp.leq FloatKind.f32 x0 1065353216)), none, []⟩ else some ⟨V.at (A.bool false), none, []⟩ := by kernel_rfl
  rw [h0]
  unfold Pure.spec_l06Share
  cases (FOps.cmp F BinOp.geq FloatKind.f32 x0 0) with
  | true =>
    rfl
  | false =>
    rfl
theorem ok_spec_l06Share : CallOK Try.prog 82 (c_spec_l06Share real) := by
  refine callOK_of fun args h ret hc => ?_
  unfold c_spec_l06Share at hc
  split at hc
  · rename_i x0
    obtain ⟨_, rfl⟩ := some_ret hc
    exact holds_ev prog_ok allOK_nil Try.func82 rfl rfl smL_nil rfl (e_spec_l06Share real x0)
  · cases hc
def Pure.spec_l06Is_L0 (F : FOps) (y1 : Int) (y2 : List (List Int)) : Nat → Int → (Bool × Bool)
  | 0, _ => (false, false)
  | n + 1, y0 => bif (Decidable.decide (y0 < (Int.ofNat (List.length y2)))) then (bif (Decidable.decide (0 ≤ y0)) then (bif (Decidable.decide (y0 < (Int.ofNat (List.length y2)))) then (bif (Pure.spec_l06Ball_e F (Int.toNat y0) y2) then (bif (Decidable.decide (y0 > 0)) then (bif (Decidable.decide (0 ≤ y0)) then (bif (Decidable.decide (y0 < (Int.ofNat (List.length y2)))) then (bif (Decidable.decide (0 ≤ (IntKind.wrap IntKind.i64 (y0 - 1)))) then (bif (Decidable.decide ((IntKind.wrap IntKind.i64 (y0 - 1)) < (Int.ofNat (List.length y2)))) then (bif (FOps.cmp F BinOp.lss FloatKind.f32 (List.getD (List.getD y2 (Int.toNat y0) []) 0 0) (List.getD (List.getD y2 (Int.toNat (IntKind.wrap IntKind.i64 (y0 - 1))) []) 0 0)) then ((true, true)) else (Pure.spec_l06Is_L0 F y1 y2 n (IntKind.wrap IntKind.i64 (y0 + 1)))) else ((false, false))) else ((false, false))) else ((false, false))) else ((false, false))) else (Pure.spec_l06Is_L0 F y1 y2 n (IntKind.wrap IntKind.i64 (y0 + 1)))) else ((true, true))) else ((false, false))) else ((false, false))) else ((true, false))
def R_spec_l06Is_L0 (y1 : Int) (y2 : List (List Int)) (r : (Bool × Bool)) : Bool × Bool × (Ex × List V × List Ob) × (Ex × List V × List Ob) := ((r).1, (r).2, (Ex.normal, [V.at A.undef], [⟨false, OC.box [A.sl 1, A.fl FloatKind.f32 y1]⟩, ⟨false, OC.rows [K.f FloatKind.f32, K.f FloatKind.f32, K.f FloatKind.f32] y2⟩]), (Ex.ret, [V.at (A.bool false)], [⟨false, OC.box [A.sl 1, A.fl FloatKind.f32 y1]⟩, ⟨false, OC.rows [K.f FloatKind.f32, K.f FloatKind.f32, K.f FloatKind.f32] y2⟩]))
def S_spec_l06Is_L0 (F : FOps) : Sm := ⟨[0, 3], [63, 3], [2], fun vals hp => match vals, hp with
  | [V.at (A.ptr 0 0 0), V.at (A.int IntKind.i64 y0)], [⟨false, OC.box [A.sl 1, A.fl FloatKind.f32 y1]⟩, ⟨false, OC.rows [K.f FloatKind.f32, K.f FloatKind.f32, K.f FloatKind.f32] y2⟩] => some (R_spec_l06Is_L0 y1 y2 (Pure.spec_l06Is_L0 F y1 y2 ((Int.ofNat (List.length y2)) - y0 + 1).toNat y0))
  | _, _ => none⟩
theorem l_spec_l06Is_L0 (F : FOps) (y1 : Int) (y2 : List (List Int)) : ∀ (fuel : Nat) (y0 : Int), (Pure.spec_l06Is_L0 F y1 y2 fuel y0).1 = true → loopOf (cxS F tyl [(82, c_spec_l06Share F), (83, c_spec_l06Ball_e F)] [] [] 0) 2 67 0 [0, 3] [63, 3] [2] (loopB 0 (codeOf Try.f54)) fuel [V.at (A.ptr 0 0 0), V.at (A.int IntKind.i64 y0)] [⟨false, OC.box [A.sl 1, A.fl FloatKind.f32 y1]⟩, ⟨false, OC.rows [K.f FloatKind.f32, K.f FloatKind.f32, K.f FloatKind.f32] y2⟩] = resOf (R_spec_l06Is_L0 y1 y2 (Pure.spec_l06Is_L0 F y1 y2 fuel y0)) := by
  intro fuel
  induction fuel with
  | zero => intro y0 h; exact absurd h Bool.false_ne_true
  | succ n ih =>
    intro y0
    have h0 : roundOf (cxS F tyl [(82, c_spec_l06Share F), (83, c_spec_l06Ball_e F)] [] [] 0) 2 67 0 [0, 3] [63, 3] [2] (loopB 0 (codeOf Try.f54)) [V.at (A.ptr 0 0 0), V.at (A.int IntKind.i64 y0)] [⟨false, OC.box [A.sl 1, A.fl FloatKind.f32 y1]⟩, ⟨false, OC.rows [K.f FloatKind.f32, K.f FloatKind.f32, K.f FloatKind.f32] y2⟩] = (bif Decidable.decide (y0 < (Int.ofNat (List.length y2))) then bif Decidable.decide (0 ≤ y0) then bif Decidable.decide (y0 < (Int.ofNat (List.length y2))) then bif Bool.not (Pure.spec_l06Ball_e F (Int.toNat y0) y2) then some (false, (Ex.ret, ([V.at (A.bool false)], [⟨false, OC.box [A.sl 1, A.fl FloatKind.f32 y1]⟩, ⟨false, OC.rows [K.f FloatKind.f32, K.f FloatKind.f32, K.f FloatKind.f32] y2⟩]))) else bif Decidable.decide (y0 > 0) then bif Decidable.decide (0 ≤ y0) then bif Decidable.decide (y0 < (Int.ofNat (List.length y2))) then bif Decidable.decide (0 ≤ (IntKind.wrap IntKind.i64 (y0 - 1))) then bif Decidable.decide ((IntKind.wrap IntKind.i64 (y0 - 1)) < (Int.ofNat (List.length y2))) then bif FOps.cmp F BinOp.lss FloatKind.f32 (List.getD (List.getD y2 (Int.toNat y0) []) 0 0) (List.getD (List.getD y2 (Int.toNat (IntKind.wrap IntKind.i64 (y0 - 1))) []) 0 0) then some (false, (Ex.ret, ([V.at (A.bool false)], [⟨false, OC.box [A.sl 1, A.fl FloatKind.f32 y1]⟩, ⟨false, OC.rows [K.f FloatKind.f32, K.f FloatKind.f32, K.f FloatKind.f32] y2⟩]))) else some (true, (Ex.normal, ([V.at (A.ptr 0 0 0), V.at (A.int IntKind.i64 (IntKind.wrap IntKind.i64 (y0 + 1)))], [⟨false, OC.box [A.sl 1, A.fl FloatKind.f32 y1]⟩, ⟨false, OC.rows [K.f FloatKind.f32, K.f FloatKind.f32, K.f FloatKind.f32] y2⟩]))) else none else none else none else none else some (true, (Ex.normal, ([V.at (A.ptr 0 0 0), V.at (A.int IntKind.i64 (IntKind.wrap IntKind.i64 (y0 + 1)))], [⟨false, OC.box [A.sl 1, A.fl FloatKind.f32 y1]⟩, ⟨false, OC.rows [K.f FloatKind.f32, K.f FloatKind.f32, K.f FloatKind.f32] y2⟩]))) else none else none else some (false, (Ex.normal, ([V.at A.undef], [⟨false, OC.box [A.sl 1, A.fl FloatKind.f32 y1]⟩, ⟨false, OC.rows [K.f FloatKind.f32, K.f FloatKind.f32, K.f FloatKind.f32] y2⟩])))) := by kernel_rfl
    unfold loopOf
    rw [h0]
    unfold Pure.spec_l06Is_L0
    cases (Decidable.decide (y0 < (Int.ofNat (List.length y2)))) with
    | true =>
      cases (Decidable.decide (0 ≤ y0)) with
      | true =>
        cases (Pure.spec_l06Ball_e F (Int.toNat y0) y2) with
        | true =>
          cases (Decidable.decide (y0 > 0)) with
          | true =>
            cases (Decidable.decide (0 ≤ (IntKind.wrap IntKind.i64 (y0 - 1)))) with
            | true =>
              cases (Decidable.decide ((IntKind.wrap IntKind.i64 (y0 - 1)) < (Int.ofNat (List.length y2)))) with
              | true =>
                cases (FOps.cmp F BinOp.lss FloatKind.f32 (List.getD (List.getD y2 (Int.toNat y0) []) 0 0) (List.getD (List.getD y2 (Int.toNat (IntKind.wrap IntKind.i64 (y0 - 1))) []) 0 0)) with
                | true =>
                  intro _; rfl
                | false =>
                  exact ih _
              | false =>
                intro h; exact absurd h Bool.false_ne_true
            | false =>
              intro h; exact absurd h Bool.false_ne_true
          | false =>
            exact ih _
        | false =>
          intro _; rfl
      | false =>
        intro h; exact absurd h Bool.false_ne_true
    | false =>
      intro _; rfl
theorem t_spec_l06Is_L0 : SmTo Try.prog 2 67 (S_spec_l06Is_L0 real) 0 (.loop (loopB 0 (codeOf Try.f54))) := by
  refine smTo_ev (cl := [(82, c_spec_l06Share real), (83, c_spec_l06Ball_e real)]) (ef := []) (sm := []) (un := 0) prog_ok (allOK_cons ok_spec_l06Share (allOK_cons ok_spec_l06Ball_e allOK_nil)) smL_nil ?_
  intro vals hp q r h hq
  unfold S_spec_l06Is_L0 at h
  dsimp only at h
  split at h
  · rename_i y0 y1 y2
    obtain rfl := Option.some.inj h
    have h1 := hq
    unfold resOf at h1
    rw [chk_some] at h1
    exact ⟨_, (l_spec_l06Is_L0 real y1 y2 _ y0 h1.1).trans hq⟩
  · cases h
def Pure.spec_l06Is (F : FOps) (x0 : List (List Int)) (x1 : Int) : Bool := bif Decidable.decide ((Int.ofNat (List.length x0)) < 2) then false else bif Decidable.decide ((Int.ofNat (List.length x0)) > 16) then false else bif Pure.spec_l06Share F x1 then bif Prod.snd (Pure.spec_l06Is_L0 F x1 x0 (Nat.succ ((List.length x0) + 0)) 0) then false else true else false
def Pure.spec_l06Is_ok (F : FOps) (x0 : List (List Int)) (x1 : Int) : Bool := bif Decidable.decide ((Int.ofNat (List.length x0)) < 2) then true else bif Decidable.decide ((Int.ofNat (List.length x0)) > 16) then true else bif Pure.spec_l06Share F x1 then Prod.fst (Pure.spec_l06Is_L0 F x1 x0 (Nat.succ ((List.length x0) + 0)) 0) else true
def c_spec_l06Is (F : FOps) : Con
  | [V.at (A.ptr 0 0 0)], [⟨false, OC.box [A.sl 1, A.fl FloatKind.f32 x1]⟩, ⟨false, OC.rows [K.f FloatKind.f32, K.f FloatKind.f32, K.f FloatKind.f32] x0⟩] => some (Pure.spec_l06Is_ok F x0 x1, ⟨V.at (A.bool (Pure.spec_l06Is F x0 x1)), none, []⟩)
  | _, _ => none
theorem e_spec_l06Is (F : FOps) (x0 : List (List Int)) (x1 : Int) : Pure.spec_l06Is_ok F x0 x1 = true → evFn (cxS F tyl [(82, c_spec_l06Share F), (83, c_spec_l06Ball_e F)] [] [(0, S_spec_l06Is_L0 F)] 0) Try.f54 false [V.at (A.ptr 0 0 0)] [⟨false, OC.box [A.sl 1, A.fl FloatKind.f32 x1]⟩, ⟨false, OC.rows [K.f FloatKind.f32, K.f FloatKind.f32, K.f FloatKind.f32] x0⟩] = some ⟨V.at (A.bool (Pure.spec_l06Is F x0 x1)), none, []⟩ := by
  have h0 : evFn (cxS F tyl [(82, c_spec_l06Share F), (83, c_spec_l06Ball_e F)] [] [(0, S_spec_l06Is_L0 F)] 0) Try.f54 false [V.at (A.ptr 0 0 0)] [⟨false, OC.box [A.sl 1, A.fl FloatKind.f32 x1]⟩, ⟨false, OC.rows [K.f FloatKind.f32, K.f FloatKind.f32, K.f FloatKind.f32] x0⟩] = bif Decidable.decide ((Int.ofNat (List.length x0)) < 2) then some ⟨V.at (A.bool false), none, []⟩ else bif Decidable.decide ((Int.ofNat (List.length x0)) > 16) then some ⟨V.at (A.bool false), none, []⟩ else bif Bool.not (Pure.spec_l06Share F x1) then some ⟨V.at (A.bool false), none, []⟩ else bif Prod.fst (Pure.spec_l06Is_L0 F x1 x0 (Nat.succ ((List.length x0) + 0)) 0) then bif Prod.snd (Pure.spec_l06Is_L0 F x1 x0 (Nat.succ ((List.length x0) + 0)) 0) then some ⟨V.at (A.bool false), none, []⟩ else some ⟨V.at (A.bool true), none, []⟩ else none := by kernel_rfl
  rw [h0]
  unfold Pure.spec_l06Is Pure.spec_l06Is_ok
  cases (Decidable.decide ((Int.ofNat (List.length x0)) < 2)) with
  | true =>
    intro _; rfl
  | false =>
    cases (Decidable.decide ((Int.ofNat (List.length x0)) > 16)) with
    | true =>
      intro _; rfl
    | false =>
      cases (Pure.spec_l06Share F x1) with
      | true =>
        cases (Prod.fst (Pure.spec_l06Is_L0 F x1 x0 (Nat.succ ((List.length x0) + 0)) 0)) with
        | true =>
          cases (Prod.snd (Pure.spec_l06Is_L0 F x1 x0 (Nat.succ ((List.length x0) + 0)) 0)) with
          | true =>
            intro _; rfl
          | false =>
            intro _; rfl
        | false =>
          intro h; exact absurd h Bool.false_ne_true
      | false =>
        intro _; rfl
theorem ok_spec_l06Is : CallOK Try.prog 54 (c_spec_l06Is real) := by
  refine callOK_of fun args h ret hc => ?_
  unfold c_spec_l06Is at hc
  split at hc
  · rename_i x1 x0
    obtain ⟨hok, rfl⟩ := some_ret hc
    exact holds_ev prog_ok (allOK_cons ok_spec_l06Share (allOK_cons ok_spec_l06Ball_e allOK_nil)) Try.func54 rfl rfl (smL_cons (body := .loop (loopB 0 (codeOf Try.f54))) (by kernel_rfl) t_spec_l06Is_L0 smL_nil) rfl (e_spec_l06Is real x0 x1 hok)
  · cases hc
def Pure.spec_l02Number (F : FOps) (x0 : Int) : Int := bif Pure.spec_l01Finite F x0 then x0 else 0
def c_spec_l02Number (F : FOps) : Con
  | [V.at (A.fl FloatKind.f32 x0)], [] => some (true, ⟨V.tup [(false, [A.fl FloatKind.f32 (Pure.spec_l02Number F x0)]), (false, [A.bool (Pure.spec_l01Finite F x0)])], none, []⟩)
  | _, _ => none
theorem e_spec_l02Number (F : FOps) (x0 : Int) : evFn (cxS F tyl [(71, c_spec_l01Finite F)] [] [] 0) Try.f55 false [V.at (A.fl FloatKind.f32 x0)] [] = some ⟨V.tup [(false, [A.fl FloatKind.f32 (Pure.spec_l02Number F x0)]), (false, [A.bool (Pure.spec_l01Finite F x0)])], none, []⟩ := by
  have h0 : evFn (cxS F tyl [(71, c_spec_l01Finite F)] [] [] 0) Try.f55 false [V.at (A.fl FloatKind.f32 x0)] [] = bif Bool.not (Pure.spec_l01Finite F x0) then some ⟨V.tup [(false, [A.fl FloatKind.f32 0]), (false, [A.bool false])], none, []⟩ else some ⟨V.tup [(false, [A.fl FloatKind.f32 x0]), (false, [A.bool true])], none, []⟩ := by kernel_rfl
  rw [h0]
  unfold Pure.spec_l02Number
  cases (Pure.spec_l01Finite F x0) with
  | true =>
    rfl
  | false =>
    rfl
theorem ok_spec_l02Number : CallOK Try.prog 55 (c_spec_l02Number real) := by
  refine callOK_of fun args h ret hc => ?_
  unfold c_spec_l02Number at hc
  split at hc
  · rename_i x0
    obtain ⟨_, rfl⟩ := some_ret hc
    exact holds_ev prog_ok (allOK_cons ok_spec_l01Finite allOK_nil) Try.func55 rfl rfl smL_nil rfl (e_spec_l02Number real x0)
  · cases hc
def Pure.spec_MomentumOfRow_L0 (F : FOps) (y2 : List (List Int)) (y3 : Int) : Nat → Int → Int → (Bool × Int)
  | 0, _, _ => (false, 0)
  | n + 1, y0, y1 => bif (Decidable.decide (y1 < (Int.ofNat (List.length y2)))) then (bif (Decidable.decide (0 ≤ y1)) then (bif (Decidable.decide (y1 < (Int.ofNat (List.length y2)))) then (bif (Decidable.decide (0 ≤ y1)) then (bif (Decidable.decide (y1 < (Int.ofNat (List.length y2)))) then (Pure.spec_MomentumOfRow_L0 F y2 y3 n (FOps.bin F BinOp.add FloatKind.f32 y0 (FOps.bin F BinOp.mul FloatKind.f32 (List.getD (List.getD y2 (Int.toNat y1) []) 2 0) (List.getD (List.getD y2 (Int.toNat y1) []) 1 0))) (IntKind.wrap IntKind.i64 (y1 + 1))) else ((false, 0))) else ((false, 0))) else ((false, 0))) else ((false, 0))) else ((true, y0))
def R_spec_MomentumOfRow_L0 (y2 : List (List Int)) (r : (Bool × Int)) : Bool × Bool × (Ex × List V × List Ob) × (Ex × List V × List Ob) := ((r).1, false, (Ex.normal, [V.at (A.fl FloatKind.f32 (r).2)], [⟨false, OC.rows [K.f FloatKind.f32, K.f FloatKind.f32, K.f FloatKind.f32] y2⟩]), (Ex.normal, [V.at (A.fl FloatKind.f32 (r).2)], [⟨false, OC.rows [K.f FloatKind.f32, K.f FloatKind.f32, K.f FloatKind.f32] y2⟩]))
def S_spec_MomentumOfRow_L0 (F : FOps) : Sm := ⟨[1, 4, 5], [0, 22, 3], [4], fun vals hp => match vals, hp with
  | [V.at (A.ptr 1 0 0), V.at (A.fl FloatKind.f32 y0), V.at (A.int IntKind.i64 y1)], [⟨false, OC.rows [K.f FloatKind.f32, K.f FloatKind.f32, K.f FloatKind.f32] y2⟩, ⟨true, OC.box [A.sl 0, A.fl FloatKind.f32 y3]⟩] => some (R_spec_MomentumOfRow_L0 y2 (Pure.spec_MomentumOfRow_L0 F y2 y3 ((Int.ofNat (List.length y2)) - y1 + 1).toNat y0 y1))
  | _, _ => none⟩
theorem l_spec_MomentumOfRow_L0 (F : FOps) (y2 : List (List Int)) (y3 : Int) : ∀ (fuel : Nat) (y0 : Int) (y1 : Int), (Pure.spec_MomentumOfRow_L0 F y2 y3 fuel y0 y1).1 = true → loopOf (cxS F tyl [(54, c_spec_l06Is F), (55, c_spec_l02Number F)] [] [] 0) 1 34 0 [1, 4, 5] [0, 22, 3] [4] (loopB 0 (codeOf Try.f20)) fuel [V.at (A.ptr 1 0 0), V.at (A.fl FloatKind.f32 y0), V.at (A.int IntKind.i64 y1)] [⟨false, OC.rows [K.f FloatKind.f32, K.f FloatKind.f32, K.f FloatKind.f32] y2⟩, ⟨true, OC.box [A.sl 0, A.fl FloatKind.f32 y3]⟩] = resOf (R_spec_MomentumOfRow_L0 y2 (Pure.spec_MomentumOfRow_L0 F y2 y3 fuel y0 y1)) := by
  intro fuel
  induction fuel with
  | zero => intro y0 y1 h; exact absurd h Bool.false_ne_true
  | succ n ih =>
    intro y0 y1
    have h0 : roundOf (cxS F tyl [(54, c_spec_l06Is F), (55, c_spec_l02Number F)] [] [] 0) 1 34 0 [1, 4, 5] [0, 22, 3] [4] (loopB 0 (codeOf Try.f20)) [V.at (A.ptr 1 0 0), V.at (A.fl FloatKind.f32 y0), V.at (A.int IntKind.i64 y1)] [⟨false, OC.rows [K.f FloatKind.f32, K.f FloatKind.f32, K.f FloatKind.f32] y2⟩, ⟨true, OC.box [A.sl 0, A.fl FloatKind.f32 y3]⟩] = (bif Decidable.decide (y1 < (Int.ofNat (List.length y2))) then bif Decidable.decide (0 ≤ y1) then bif Decidable.decide (y1 < (Int.ofNat (List.length y2))) then bif Decidable.decide (0 ≤ y1) then bif Decidable.decide (y1 < (Int.ofNat (List.length y2))) then some (true, (Ex.normal, ([V.at (A.ptr 1 0 0), V.at (A.fl FloatKind.f32 (FOps.bin F BinOp.add FloatKind.f32 y0 (FOps.bin F BinOp.mul FloatKind.f32 (List.getD (List.getD y2 (Int.toNat y1) []) 2 0) (List.getD (List.getD y2 (Int.toNat y1) []) 1 0)))), V.at (A.int IntKind.i64 (IntKind.wrap IntKind.i64 (y1 + 1)))], [⟨false, OC.rows [K.f FloatKind.f32, K.f FloatKind.f32, K.f FloatKind.f32] y2⟩, ⟨true, OC.box [A.sl 0, A.fl FloatKind.f32 y3]⟩]))) else none else none else none else none else some (false, (Ex.normal, ([V.at (A.fl FloatKind.f32 y0)], [⟨false, OC.rows [K.f FloatKind.f32, K.f FloatKind.f32, K.f FloatKind.f32] y2⟩])))) := by kernel_rfl
    unfold loopOf
    rw [h0]
    unfold Pure.spec_MomentumOfRow_L0
    cases (Decidable.decide (y1 < (Int.ofNat (List.length y2)))) with
    | true =>
      cases (Decidable.decide (0 ≤ y1)) with
      | true =>
        exact ih _ _
      | false =>
        intro h; exact absurd h Bool.false_ne_true
    | false =>
      intro _; rfl
theorem t_spec_MomentumOfRow_L0 : SmTo Try.prog 1 34 (S_spec_MomentumOfRow_L0 real) 0 (.loop (loopB 0 (codeOf Try.f20))) := by
  refine smTo_ev (cl := [(54, c_spec_l06Is real), (55, c_spec_l02Number real)]) (ef := []) (sm := []) (un := 0) prog_ok (allOK_cons ok_spec_l06Is (allOK_cons ok_spec_l02Number allOK_nil)) smL_nil ?_
  intro vals hp q r h hq
  unfold S_spec_MomentumOfRow_L0 at h
  dsimp only at h
  split at h
  · rename_i y0 y1 y2 y3
    obtain rfl := Option.some.inj h
    have h1 := hq
    unfold resOf at h1
    rw [chk_some] at h1
    exact ⟨_, (l_spec_MomentumOfRow_L0 real y2 y3 _ y0 y1 h1.1).trans hq⟩
  · cases h
def Pure.spec_MomentumOfRow (F : FOps) (x0 : List (List Int)) (x1 : Int) : Int := bif Pure.spec_l06Is F x0 x1 then Pure.spec_l02Number F (Prod.snd (Pure.spec_MomentumOfRow_L0 F x0 x1 (Nat.succ ((List.length x0) + 0)) 0 0)) else 0
def Pure.spec_MomentumOfRow_1 (F : FOps) (x0 : List (List Int)) (x1 : Int) : Bool := bif Pure.spec_l06Is F x0 x1 then Pure.spec_l01Finite F (Prod.snd (Pure.spec_MomentumOfRow_L0 F x0 x1 (Nat.succ ((List.length x0) + 0)) 0 0)) else false
def Pure.spec_MomentumOfRow_ok (F : FOps) (x0 : List (List Int)) (x1 : Int) : Bool := bif Pure.spec_l06Is_ok F x0 x1 then bif Pure.spec_l06Is F x0 x1 then Prod.fst (Pure.spec_MomentumOfRow_L0 F x0 x1 (Nat.succ ((List.length x0) + 0)) 0 0) else true else false
def c_spec_MomentumOfRow (F : FOps) : Con
  | [V.agg [A.sl 0, A.fl FloatKind.f32 x1]], [⟨false, OC.rows [K.f FloatKind.f32, K.f FloatKind.f32, K.f FloatKind.f32] x0⟩] => some (Pure.spec_MomentumOfRow_ok F x0 x1, ⟨V.tup [(false, [A.fl FloatKind.f32 (Pure.spec_MomentumOfRow F x0 x1)]), (false, [A.bool (Pure.spec_MomentumOfRow_1 F x0 x1)])], none, []⟩)
  | _, _ => none
theorem e_spec_MomentumOfRow (F : FOps) (x0 : List (List Int)) (x1 : Int) : Pure.spec_MomentumOfRow_ok F x0 x1 = true → evFn (cxS F tyl [(54, c_spec_l06Is F), (55, c_spec_l02Number F)] [] [(0, S_spec_MomentumOfRow_L0 F)] 0) Try.f20 false [V.agg [A.sl 0, A.fl FloatKind.f32 x1]] [⟨false, OC.rows [K.f FloatKind.f32, K.f FloatKind.f32, K.f FloatKind.f32] x0⟩] = some ⟨V.tup [(false, [A.fl FloatKind.f32 (Pure.spec_MomentumOfRow F x0 x1)]), (false, [A.bool (Pure.spec_MomentumOfRow_1 F x0 x1)])], none, []⟩ := by
  have h0 : evFn (cxS F tyl [(54, c_spec_l06Is F), (55, c_spec_l02Number F)] [] [(0, S_spec_MomentumOfRow_L0 F)] 0) Try.f20 false [V.agg [A.sl 0, A.fl FloatKind.f32 x1]] [⟨false, OC.rows [K.f FloatKind.f32, K.f FloatKind.f32, K.f FloatKind.f32] x0⟩] = bif Pure.spec_l06Is_ok F x0 x1 then bif Bool.not (Pure.spec_l06Is F x0 x1) then some ⟨V.tup [(false, [A.fl FloatKind.f32 0]), (false, [A.bool false])], none, []⟩ else bif Prod.fst (Pure.spec_MomentumOfRow_L0 F x0 x1 (Nat.succ ((List.length x0) + 0)) 0 0) then some ⟨V.tup [(false, [A.fl FloatKind.f32 (Pure.spec_l02Number F (Prod.snd (Pure.spec_MomentumOfRow_L0 F x0 x1 (Nat.succ ((List.length x0) + 0)) 0 0)))]), (false, [A.bool (Pure.spec_l01Finite F (Prod.snd (Pure.spec_MomentumOfRow_L0 F x0 x1 (Nat.succ ((List.length x0) + 0)) 0 0)))])], none, []⟩ else none else none := by kernel_rfl
  rw [h0]
  unfold Pure.spec_MomentumOfRow Pure.spec_MomentumOfRow_1 Pure.spec_MomentumOfRow_ok
  cases (Pure.spec_l06Is_ok F x0 x1) with
  | true =>
    cases (Pure.spec_l06Is F x0 x1) with
    | true =>
      cases (Prod.fst (Pure.spec_MomentumOfRow_L0 F x0 x1 (Nat.succ ((List.length x0) + 0)) 0 0)) with
      | true =>
        intro _; rfl
      | false =>
        intro h; exact absurd h Bool.false_ne_true
    | false =>
      intro _; rfl
  | false =>
    intro h; exact absurd h Bool.false_ne_true
theorem ok_spec_MomentumOfRow : CallOK Try.prog 20 (c_spec_MomentumOfRow real) := by
  refine callOK_of fun args h ret hc => ?_
  unfold c_spec_MomentumOfRow at hc
  split at hc
  · rename_i x1 x0
    obtain ⟨hok, rfl⟩ := some_ret hc
    exact holds_ev prog_ok (allOK_cons ok_spec_l06Is (allOK_cons ok_spec_l02Number allOK_nil)) Try.func20 rfl rfl (smL_cons (body := .loop (loopB 0 (codeOf Try.f20))) (by kernel_rfl) t_spec_MomentumOfRow_L0 smL_nil) rfl (e_spec_MomentumOfRow real x0 x1 hok)
  · cases hc
def Pure.impl_finite (F : FOps) (x0 : List (List Int)) : Bool := bif Pure.slices_ContainsFunc_float32_float32_finite F x0 then false else true
def Pure.impl_finite_ok (F : FOps) (x0 : List (List Int)) : Bool := Pure.slices_ContainsFunc_float32_float32_finite_ok F x0
def c_impl_finite (F : FOps) : Con
  | [V.at (A.sl 0)], [⟨false, OC.rows [K.f FloatKind.f32] x0⟩] => some (Pure.impl_finite_ok F x0, ⟨V.at (A.bool (Pure.impl_finite F x0)), none, []⟩)
  | _, _ => none
theorem e_impl_finite (F : FOps) (x0 : List (List Int)) : Pure.impl_finite_ok F x0 = true → evFn (cxS F tyl [(86, c_slices_ContainsFunc_float32_float32_finite F), (87, c_impl_finite_c1 F)] [] [] 0) Try.f78 false [V.at (A.sl 0)] [⟨false, OC.rows [K.f FloatKind.f32] x0⟩] = some ⟨V.at (A.bool (Pure.impl_finite F x0)), none, []⟩ := by
  have h0 : evFn (cxS F tyl [(86, c_slices_ContainsFunc_float32_float32_finite F), (87, c_impl_finite_c1 F)] [] [] 0) Try.f78 false [V.at (A.sl 0)] [⟨false, OC.rows [K.f FloatKind.f32] x0⟩] = bif Pure.slices_ContainsFunc_float32_float32_finite_ok F x0 then some ⟨V.at (A.bool (bif Pure.slices_ContainsFunc_float32_float32_finite F x0 then false else true)), none, []⟩ else none := by kernel_rfl
  rw [h0]
  unfold Pure.impl_finite Pure.impl_finite_ok
  cases (Pure.slices_ContainsFunc_float32_float32_finite_ok F x0) with
  | true =>
    intro _; rfl
  | false =>
    intro h; exact absurd h Bool.false_ne_true
theorem ok_impl_finite : CallOK Try.prog 78 (c_impl_finite real) := by
  refine callOK_of fun args h ret hc => ?_
  unfold c_impl_finite at hc
  split at hc
  · rename_i x0
    obtain ⟨hok, rfl⟩ := some_ret hc
    exact holds_ev prog_ok (allOK_cons ok_slices_ContainsFunc_float32_float32_finite (allOK_cons ok_impl_finite_c1 allOK_nil)) Try.func78 rfl rfl smL_nil rfl (e_impl_finite real x0 hok)
  · cases hc
def Pure.impl_lengthOk (F : FOps) (x0 : Int) : Bool := bif Pure.impl_IsFinite F x0 then FOps.cmp F BinOp.gtr FloatKind.f32 x0 0 else false
def c_impl_lengthOk (F : FOps) : Con
  | [V.at (A.fl FloatKind.f32 x0)], [] => some (true, ⟨V.at (A.bool (Pure.impl_lengthOk F x0)), none, []⟩)
  | _, _ => none
theorem e_impl_lengthOk (F : FOps) (x0 : Int) : evFn (cxS F tyl [(73, c_impl_IsFinite F)] [] [] 0) Try.f79 false [V.at (A.fl FloatKind.f32 x0)] [] = some ⟨V.at (A.bool (Pure.impl_lengthOk F x0)), none, []⟩ := by
  have h0 : evFn (cxS F tyl [(73, c_impl_IsFinite F)] [] [] 0) Try.f79 false [V.at (A.fl FloatKind.f32 x0)] [] = bif Pure.impl_IsFinite F x0 then some ⟨V.at (A.bool (FOps.cmp F BinOp.gtr FloatKind.f32 x0 0)), none, []⟩ else some ⟨V.at (A.bool false), none, []⟩ := by kernel_rfl
  rw [h0]
  unfold Pure.impl_lengthOk
  cases (Pure.impl_IsFinite F x0) with
  | true =>
    rfl
  | false =>
    rfl
theorem ok_impl_lengthOk : CallOK Try.prog 79 (c_impl_lengthOk real) := by
  refine callOK_of fun args h ret hc => ?_
  unfold c_impl_lengthOk at hc
  split at hc
  · rename_i x0
    obtain ⟨_, rfl⟩ := some_ret hc
    exact holds_ev prog_ok (allOK_cons ok_impl_IsFinite allOK_nil) Try.func79 rfl rfl smL_nil rfl (e_impl_lengthOk real x0)
  · cases hc
def Pure.impl_in (F : FOps) (x0 : Int) (x1 : Int) (x2 : Int) : Bool := bif Decidable.decide (x0 ≥ x1) then Decidable.decide (x0 ≤ x2) else false
def c_impl_in (F : FOps) : Con
  | [V.at (A.int IntKind.i64 x0), V.at (A.int IntKind.i64 x1), V.at (A.int IntKind.i64 x2)], [] => some (true, ⟨V.at (A.bool (Pure.impl_in F x0 x1 x2)), none, []⟩)
  | _, _ => none
theorem e_impl_in (F : FOps) (x0 : Int) (x1 : Int) (x2 : Int) : evFn (cxS F tyl [] [] [] 0) Try.f48 false [V.at (A.int IntKind.i64 x0), V.at (A.int IntKind.i64 x1), V.at (A.int IntKind.i64 x2)] [] = some ⟨V.at (A.bool (Pure.impl_in F x0 x1 x2)), none, []⟩ := by
  have h0 : evFn (cxS F tyl [] [] [] 0) Try.f48 false [V.at (A.int IntKind.i64 x0), V.at (A.int IntKind.i64 x1), V.at (A.int IntKind.i64 x2)] [] = bif Decidable.decide (x0 ≥ x1) then some ⟨V.at (A.bool (Decidable.decide (x0 ≤ x2))), none, []⟩ else some ⟨V.at (A.bool false), none, []⟩ := by kernel_rfl
  rw [h0]
  unfold Pure.impl_in
  cases (Decidable.decide (x0 ≥ x1)) with
  | true =>
    rfl
  | false =>
    rfl
theorem ok_impl_in : CallOK Try.prog 48 (c_impl_in real) := by
  refine callOK_of fun args h ret hc => ?_
  unfold c_impl_in at hc
  split at hc
  · rename_i x0 x1 x2
    obtain ⟨_, rfl⟩ := some_ret hc
    exact holds_ev prog_ok allOK_nil Try.func48 rfl rfl smL_nil rfl (e_impl_in real x0 x1 x2)
  · cases hc
def Pure.impl_shareOk (F : FOps) (x0 : Int) : Bool := bif FOps.cmp F BinOp.geq FloatKind.f32 x0 0 then FOps.cmp F BinOp.leq FloatKind.f32 x0 1065353216 else false
def c_impl_shareOk (F : FOps) : Con
  | [V.at (A.fl FloatKind.f32 x0)], [] => some (true, ⟨V.at (A.bool (Pure.impl_shareOk F x0)), none, []⟩)
  | _, _ => none
theorem e_impl_shareOk (F : FOps) (x0 : Int) : evFn (cxS F tyl [] [] [] 0) Try.f80 false [V.at (A.fl FloatKind.f32 x0)] [] = some ⟨V.at (A.bool (Pure.impl_shareOk F x0)), none, []⟩ := by
  have h0 : evFn (cxS F tyl [] [] [] 0) Try.f80 false [V.at (A.fl FloatKind.f32 x0)] [] = bif FOps.cmp F BinOp.geq FloatKind.f32 x0 0 then some ⟨V.at (A.bool (FOps.cmp F BinOp.leq FloatKind.f32 x0 1065353216)), none, []⟩ else some ⟨V.at (A.bool false), none, []⟩ := by kernel_rfl
  rw [h0]
  unfold Pure.impl_shareOk
  cases (FOps.cmp F BinOp.geq FloatKind.f32 x0 0) with
  | true =>
    rfl
  | false =>
    rfl
theorem ok_impl_shareOk : CallOK Try.prog 80 (c_impl_shareOk real) := by
  refine callOK_of fun args h ret hc => ?_
  unfold c_impl_shareOk at hc
  split at hc
  · rename_i x0
    obtain ⟨_, rfl⟩ := some_ret hc
    exact holds_ev prog_ok allOK_nil Try.func80 rfl rfl smL_nil rfl (e_impl_shareOk real x0)
  · cases hc
def Pure.impl_ValidRow_L0 (F : FOps) (y0 : Int) (y2 : List (List Int)) (y3 : Int) : Nat → Int → (Bool × Bool)
  | 0, _ => (false, false)
  | n + 1, y1 => bif (Decidable.decide (y1 < y0)) then (bif (Decidable.decide (0 ≤ y1)) then (bif (Decidable.decide (y1 < (Int.ofNat (List.length y2)))) then (bif (Pure.impl_finite_ok F [[List.getD (List.getD y2 (Int.toNat y1) []) 0 0], [List.getD (List.getD y2 (Int.toNat y1) []) 1 0]]) then (bif (Pure.impl_finite F [[List.getD (List.getD y2 (Int.toNat y1) []) 0 0], [List.getD (List.getD y2 (Int.toNat y1) []) 1 0]]) then (bif (Pure.impl_lengthOk F (List.getD (List.getD y2 (Int.toNat y1) []) 2 0)) then (bif (Decidable.decide (y1 > 0)) then (bif (Decidable.decide (0 ≤ (IntKind.wrap IntKind.i64 (y1 - 1)))) then (bif (Decidable.decide ((IntKind.wrap IntKind.i64 (y1 - 1)) < (Int.ofNat (List.length y2)))) then (bif (FOps.cmp F BinOp.lss FloatKind.f32 (List.getD (List.getD y2 (Int.toNat y1) []) 0 0) (List.getD (List.getD y2 (Int.toNat (IntKind.wrap IntKind.i64 (y1 - 1))) []) 0 0)) then ((true, true)) else (Pure.impl_ValidRow_L0 F y0 y2 y3 n (IntKind.wrap IntKind.i64 (y1 + 1)))) else ((false, false))) else ((false, false))) else (Pure.impl_ValidRow_L0 F y0 y2 y3 n (IntKind.wrap IntKind.i64 (y1 + 1)))) else ((true, true))) else ((true, true))) else ((false, false))) else ((false, false))) else ((false, false))) else ((true, false))
def R_impl_ValidRow_L0 (y2 : List (List Int)) (y3 : Int) (r : (Bool × Bool)) : Bool × Bool × (Ex × List V × List Ob) × (Ex × List V × List Ob) := ((r).1, (r).2, (Ex.normal, [V.at (A.ptr 1 0 0), V.at A.undef], [⟨false, OC.rows [K.f FloatKind.f32, K.f FloatKind.f32, K.f FloatKind.f32] y2⟩, ⟨true, OC.box [A.sl 0, A.fl FloatKind.f32 y3]⟩]), (Ex.ret, [V.at (A.ptr 1 0 0), V.at (A.bool false)], [⟨false, OC.rows [K.f FloatKind.f32, K.f FloatKind.f32, K.f FloatKind.f32] y2⟩, ⟨true, OC.box [A.sl 0, A.fl FloatKind.f32 y3]⟩]))
def S_impl_ValidRow_L0 (F : FOps) : Sm := ⟨[1, 6, 7, 8], [0, 23, 3, 3], [1, 2], fun vals hp => match vals, hp with
  | [V.at (A.ptr 1 0 0), V.at (A.sl 0), V.at (A.int IntKind.i64 y0), V.at (A.int IntKind.i64 y1)], [⟨false, OC.rows [K.f FloatKind.f32, K.f FloatKind.f32, K.f FloatKind.f32] y2⟩, ⟨true, OC.box [A.sl 0, A.fl FloatKind.f32 y3]⟩] => some (R_impl_ValidRow_L0 y2 y3 (Pure.impl_ValidRow_L0 F y0 y2 y3 (y0 - y1 + 1).toNat y1))
  | _, _ => none⟩
theorem l_impl_ValidRow_L0 (F : FOps) (y0 : Int) (y2 : List (List Int)) (y3 : Int) : ∀ (fuel : Nat) (y1 : Int), (Pure.impl_ValidRow_L0 F y0 y2 y3 fuel y1).1 = true → loopOf (cxS F tyl [(78, c_impl_finite F), (79, c_impl_lengthOk F), (48, c_impl_in F), (80, c_impl_shareOk F)] [] [] 0) 1 52 0 [1, 6, 7, 8] [0, 23, 3, 3] [1, 2] (loopB 0 (codeOf Try.f49)) fuel [V.at (A.ptr 1 0 0), V.at (A.sl 0), V.at (A.int IntKind.i64 y0), V.at (A.int IntKind.i64 y1)] [⟨false, OC.rows [K.f FloatKind.f32, K.f FloatKind.f32, K.f FloatKind.f32] y2⟩, ⟨true, OC.box [A.sl 0, A.fl FloatKind.f32 y3]⟩] = resOf (R_impl_ValidRow_L0 y2 y3 (Pure.impl_ValidRow_L0 F y0 y2 y3 fuel y1)) := by
  intro fuel
  induction fuel with
  | zero => intro y1 h; exact absurd h Bool.false_ne_true
  | succ n ih =>
    intro y1
    have h0 : roundOf (cxS F tyl [(78, c_impl_finite F), (79, c_impl_lengthOk F), (48, c_impl_in F), (80, c_impl_shareOk F)] [] [] 0) 1 52 0 [1, 6, 7, 8] [0, 23, 3, 3] [1, 2] (loopB 0 (codeOf Try.f49)) [V.at (A.ptr 1 0 0), V.at (A.sl 0), V.at (A.int IntKind.i64 y0), V.at (A.int IntKind.i64 y1)] [⟨false, OC.rows [K.f FloatKind.f32, K.f FloatKind.f32, K.f FloatKind.f32] y2⟩, ⟨true, OC.box [A.sl 0, A.fl FloatKind.f32 y3]⟩] = (bif Decidable.decide (y1 < y0) then bif Decidable.decide (0 ≤ y1) then bif Decidable.decide (y1 < (Int.ofNat (List.length y2))) then bif Pure.impl_finite_ok F [[List.getD (List.getD y2 (Int.toNat y1) []) 0 0], [List.getD (List.getD y2 (Int.toNat y1) []) 1 0]] then bif Bool.not (Pure.impl_finite F [[List.getD (List.getD y2 (Int.toNat y1) []) 0 0], [List.getD (List.getD y2 (Int.toNat y1) []) 1 0]]) then some (false, (Ex.ret, ([V.at (A.ptr 1 0 0), V.at (A.bool false)], [⟨false, OC.rows [K.f FloatKind.f32, K.f FloatKind.f32, K.f FloatKind.f32] y2⟩, ⟨true, OC.box [A.sl 0, A.fl FloatKind.f32 y3]⟩]))) else bif Bool.not (Pure.impl_lengthOk F (List.getD (List.getD y2 (Int.toNat y1) []) 2 0)) then some (false, (Ex.ret, ([V.at (A.ptr 1 0 0), V.at (A.bool false)], [⟨false, OC.rows [K.f FloatKind.f32, K.f FloatKind.f32, K.f FloatKind.f32] y2⟩, ⟨true, OC.box [A.sl 0, A.fl FloatKind.f32 y3]⟩]))) else bif Decidable.decide (y1 > 0) then bif Decidable.decide (0 ≤ (IntKind.wrap IntKind.i64 (y1 - 1))) then bif Decidable.decide ((IntKind.wrap IntKind.i64 (y1 - 1)) < (Int.ofNat (List.length y2))) then bif FOps.cmp F BinOp.lss FloatKind.f32 (List.getD (List.getD y2 (Int.toNat y1) []) 0 0) (List.getD (List.getD y2 (Int.toNat (IntKind.wrap IntKind.i64 (y1 - 1))) []) 0 0) then some (false, (Ex.ret, ([V.at (A.ptr 1 0 0), V.at (A.bool false)], [⟨false, OC.rows [K.f FloatKind.f32, K.f FloatKind.f32, K.f FloatKind.f32] y2⟩, ⟨true, OC.box [A.sl 0, A.fl FloatKind.f32 y3]⟩]))) else some (true, (Ex.normal, ([V.at (A.ptr 1 0 0), V.at (A.sl 0), V.at (A.int IntKind.i64 y0), V.at (A.int IntKind.i64 (IntKind.wrap IntKind.i64 (y1 + 1)))], [⟨false, OC.rows [K.f FloatKind.f32, K.f FloatKind.f32, K.f FloatKind.f32] y2⟩, ⟨true, OC.box [A.sl 0, A.fl FloatKind.f32 y3]⟩]))) else none else none else some (true, (Ex.normal, ([V.at (A.ptr 1 0 0), V.at (A.sl 0), V.at (A.int IntKind.i64 y0), V.at (A.int IntKind.i64 (IntKind.wrap IntKind.i64 (y1 + 1)))], [⟨false, OC.rows [K.f FloatKind.f32, K.f FloatKind.f32, K.f FloatKind.f32] y2⟩, ⟨true, OC.box [A.sl 0, A.fl FloatKind.f32 y3]⟩]))) else none else none else none else some (false, (Ex.normal, ([V.at (A.ptr 1 0 0), V.at A.undef], [⟨false, OC.rows [K.f FloatKind.f32, K.f FloatKind.f32, K.f FloatKind.f32] y2⟩, ⟨true, OC.box [A.sl 0, A.fl FloatKind.f32 y3]⟩])))) := by kernel_rfl
    unfold loopOf
    rw [h0]
    unfold Pure.impl_ValidRow_L0
    cases (Decidable.decide (y1 < y0)) with
    | true =>
      cases (Decidable.decide (0 ≤ y1)) with
      | true =>
        cases (Decidable.decide (y1 < (Int.ofNat (List.length y2)))) with
        | true =>
          cases (Pure.impl_finite_ok F [[List.getD (List.getD y2 (Int.toNat y1) []) 0 0], [List.getD (List.getD y2 (Int.toNat y1) []) 1 0]]) with
          | true =>
            cases (Pure.impl_finite F [[List.getD (List.getD y2 (Int.toNat y1) []) 0 0], [List.getD (List.getD y2 (Int.toNat y1) []) 1 0]]) with
            | true =>
              cases (Pure.impl_lengthOk F (List.getD (List.getD y2 (Int.toNat y1) []) 2 0)) with
              | true =>
                cases (Decidable.decide (y1 > 0)) with
                | true =>
                  cases (Decidable.decide (0 ≤ (IntKind.wrap IntKind.i64 (y1 - 1)))) with
                  | true =>
                    cases (Decidable.decide ((IntKind.wrap IntKind.i64 (y1 - 1)) < (Int.ofNat (List.length y2)))) with
                    | true =>
                      cases (FOps.cmp F BinOp.lss FloatKind.f32 (List.getD (List.getD y2 (Int.toNat y1) []) 0 0) (List.getD (List.getD y2 (Int.toNat (IntKind.wrap IntKind.i64 (y1 - 1))) []) 0 0)) with
                      | true =>
                        intro _; rfl
                      | false =>
                        exact ih _
                    | false =>
                      intro h; exact absurd h Bool.false_ne_true
                  | false =>
                    intro h; exact absurd h Bool.false_ne_true
                | false =>
                  exact ih _
              | false =>
                intro _; rfl
            | false =>
              intro _; rfl
          | false =>
            intro h; exact absurd h Bool.false_ne_true
        | false =>
          intro h; exact absurd h Bool.false_ne_true
      | false =>
        intro h; exact absurd h Bool.false_ne_true
    | false =>
      intro _; rfl
theorem t_impl_ValidRow_L0 : SmTo Try.prog 1 52 (S_impl_ValidRow_L0 real) 0 (.loop (loopB 0 (codeOf Try.f49))) := by
  refine smTo_ev (cl := [(78, c_impl_finite real), (79, c_impl_lengthOk real), (48, c_impl_in real), (80, c_impl_shareOk real)]) (ef := []) (sm := []) (un := 0) prog_ok (allOK_cons ok_impl_finite (allOK_cons ok_impl_lengthOk (allOK_cons ok_impl_in (allOK_cons ok_impl_shareOk allOK_nil)))) smL_nil ?_
  intro vals hp q r h hq
  unfold S_impl_ValidRow_L0 at h
  dsimp only at h
  split at h
  · rename_i y0 y1 y2 y3
    obtain rfl := Option.some.inj h
    have h1 := hq
    unfold resOf at h1
    rw [chk_some] at h1
    exact ⟨_, (l_impl_ValidRow_L0 real y0 y2 y3 _ y1 h1.1).trans hq⟩
  · cases h
def Pure.impl_ValidRow (F : FOps) (x0 : List (List Int)) (x1 : Int) : Bool := bif Prod.snd (Pure.impl_ValidRow_L0 F (Int.ofNat (List.length x0)) x0 x1 (Nat.succ ((List.length x0) + 0)) 0) then false else bif Pure.impl_in F (Int.ofNat (List.length x0)) 2 16 then Pure.impl_shareOk F x1 else false
def Pure.impl_ValidRow_ok (F : FOps) (x0 : List (List Int)) (x1 : Int) : Bool := Prod.fst (Pure.impl_ValidRow_L0 F (Int.ofNat (List.length x0)) x0 x1 (Nat.succ ((List.length x0) + 0)) 0)
def c_impl_ValidRow (F : FOps) : Con
  | [V.agg [A.sl 0, A.fl FloatKind.f32 x1]], [⟨false, OC.rows [K.f FloatKind.f32, K.f FloatKind.f32, K.f FloatKind.f32] x0⟩] => some (Pure.impl_ValidRow_ok F x0 x1, ⟨V.at (A.bool (Pure.impl_ValidRow F x0 x1)), none, []⟩)
  | _, _ => none
theorem e_impl_ValidRow (F : FOps) (x0 : List (List Int)) (x1 : Int) : Pure.impl_ValidRow_ok F x0 x1 = true → evFn (cxS F tyl [(78, c_impl_finite F), (79, c_impl_lengthOk F), (48, c_impl_in F), (80, c_impl_shareOk F)] [] [(0, S_impl_ValidRow_L0 F)] 0) Try.f49 false [V.agg [A.sl 0, A.fl FloatKind.f32 x1]] [⟨false, OC.rows [K.f FloatKind.f32, K.f FloatKind.f32, K.f FloatKind.f32] x0⟩] = some ⟨V.at (A.bool (Pure.impl_ValidRow F x0 x1)), none, []⟩ := by
  have h0 : evFn (cxS F tyl [(78, c_impl_finite F), (79, c_impl_lengthOk F), (48, c_impl_in F), (80, c_impl_shareOk F)] [] [(0, S_impl_ValidRow_L0 F)] 0) Try.f49 false [V.agg [A.sl 0, A.fl FloatKind.f32 x1]] [⟨false, OC.rows [K.f FloatKind.f32, K.f FloatKind.f32, K.f FloatKind.f32] x0⟩] = bif Prod.fst (Pure.impl_ValidRow_L0 F (Int.ofNat (List.length x0)) x0 x1 (Nat.succ ((List.length x0) + 0)) 0) then bif Prod.snd (Pure.impl_ValidRow_L0 F (Int.ofNat (List.length x0)) x0 x1 (Nat.succ ((List.length x0) + 0)) 0) then some ⟨V.at (A.bool false), none, []⟩ else bif Pure.impl_in F (Int.ofNat (List.length x0)) 2 16 then some ⟨V.at (A.bool (Pure.impl_shareOk F x1)), none, []⟩ else some ⟨V.at (A.bool false), none, []⟩ else none := by kernel_rfl
  rw [h0]
  unfold Pure.impl_ValidRow Pure.impl_ValidRow_ok
  cases (Prod.fst (Pure.impl_ValidRow_L0 F (Int.ofNat (List.length x0)) x0 x1 (Nat.succ ((List.length x0) + 0)) 0)) with
  | true =>
    cases (Prod.snd (Pure.impl_ValidRow_L0 F (Int.ofNat (List.length x0)) x0 x1 (Nat.succ ((List.length x0) + 0)) 0)) with
    | true =>
      intro _; rfl
    | false =>
      cases (Pure.impl_in F (Int.ofNat (List.length x0)) 2 16) with
      | true =>
        intro _; rfl
      | false =>
        intro _; rfl
  | false =>
    intro h; exact absurd h Bool.false_ne_true
theorem ok_impl_ValidRow : CallOK Try.prog 49 (c_impl_ValidRow real) := by
  refine callOK_of fun args h ret hc => ?_
  unfold c_impl_ValidRow at hc
  split at hc
  · rename_i x1 x0
    obtain ⟨hok, rfl⟩ := some_ret hc
    exact holds_ev prog_ok (allOK_cons ok_impl_finite (allOK_cons ok_impl_lengthOk (allOK_cons ok_impl_in (allOK_cons ok_impl_shareOk allOK_nil)))) Try.func49 rfl rfl (smL_cons (body := .loop (loopB 0 (codeOf Try.f49))) (by kernel_rfl) t_impl_ValidRow_L0 smL_nil) rfl (e_impl_ValidRow real x0 x1 hok)
  · cases hc
def Pure.impl_toldNumber (F : FOps) (x0 : Int) : Int := bif Pure.impl_IsFinite F x0 then x0 else 0
def c_impl_toldNumber (F : FOps) : Con
  | [V.at (A.fl FloatKind.f32 x0)], [] => some (true, ⟨V.tup [(false, [A.fl FloatKind.f32 (Pure.impl_toldNumber F x0)]), (false, [A.bool (Pure.impl_IsFinite F x0)])], none, []⟩)
  | _, _ => none
theorem e_impl_toldNumber (F : FOps) (x0 : Int) : evFn (cxS F tyl [(73, c_impl_IsFinite F)] [] [] 0) Try.f57 false [V.at (A.fl FloatKind.f32 x0)] [] = some ⟨V.tup [(false, [A.fl FloatKind.f32 (Pure.impl_toldNumber F x0)]), (false, [A.bool (Pure.impl_IsFinite F x0)])], none, []⟩ := by
  have h0 : evFn (cxS F tyl [(73, c_impl_IsFinite F)] [] [] 0) Try.f57 false [V.at (A.fl FloatKind.f32 x0)] [] = bif Bool.not (Pure.impl_IsFinite F x0) then some ⟨V.tup [(false, [A.fl FloatKind.f32 0]), (false, [A.bool false])], none, []⟩ else some ⟨V.tup [(false, [A.fl FloatKind.f32 x0]), (false, [A.bool true])], none, []⟩ := by kernel_rfl
  rw [h0]
  unfold Pure.impl_toldNumber
  cases (Pure.impl_IsFinite F x0) with
  | true =>
    rfl
  | false =>
    rfl
theorem ok_impl_toldNumber : CallOK Try.prog 57 (c_impl_toldNumber real) := by
  refine callOK_of fun args h ret hc => ?_
  unfold c_impl_toldNumber at hc
  split at hc
  · rename_i x0
    obtain ⟨_, rfl⟩ := some_ret hc
    exact holds_ev prog_ok (allOK_cons ok_impl_IsFinite allOK_nil) Try.func57 rfl rfl smL_nil rfl (e_impl_toldNumber real x0)
  · cases hc
def Pure.impl_MomentumOfRow (F : FOps) (x0 : List (List Int)) (x1 : Int) : Int := bif Pure.impl_ValidRow F x0 x1 then Pure.impl_toldNumber F (Pure.impl_Row_summed_mom F x0 x1) else 0
def Pure.impl_MomentumOfRow_1 (F : FOps) (x0 : List (List Int)) (x1 : Int) : Bool := bif Pure.impl_ValidRow F x0 x1 then Pure.impl_IsFinite F (Pure.impl_Row_summed_mom F x0 x1) else false
def Pure.impl_MomentumOfRow_ok (F : FOps) (x0 : List (List Int)) (x1 : Int) : Bool := bif Pure.impl_ValidRow_ok F x0 x1 then bif Pure.impl_ValidRow F x0 x1 then Pure.impl_Row_summed_mom_ok F x0 x1 else true else false
def c_impl_MomentumOfRow (F : FOps) : Con
  | [V.agg [A.sl 0, A.fl FloatKind.f32 x1]], [⟨false, OC.rows [K.f FloatKind.f32, K.f FloatKind.f32, K.f FloatKind.f32] x0⟩] => some (Pure.impl_MomentumOfRow_ok F x0 x1, ⟨V.tup [(false, [A.fl FloatKind.f32 (Pure.impl_MomentumOfRow F x0 x1)]), (false, [A.bool (Pure.impl_MomentumOfRow_1 F x0 x1)])], none, []⟩)
  | _, _ => none
theorem e_impl_MomentumOfRow (F : FOps) (x0 : List (List Int)) (x1 : Int) : Pure.impl_MomentumOfRow_ok F x0 x1 = true → evFn (cxS F tyl [(49, c_impl_ValidRow F), (58, c_impl_Row_summed_or1 F), (59, c_impl_MomentumOfRow_c1 F), (57, c_impl_toldNumber F)] [] [] 0) Try.f22 false [V.agg [A.sl 0, A.fl FloatKind.f32 x1]] [⟨false, OC.rows [K.f FloatKind.f32, K.f FloatKind.f32, K.f FloatKind.f32] x0⟩] = some ⟨V.tup [(false, [A.fl FloatKind.f32 (Pure.impl_MomentumOfRow F x0 x1)]), (false, [A.bool (Pure.impl_MomentumOfRow_1 F x0 x1)])], none, []⟩ := by
  have h0 : evFn (cxS F tyl [(49, c_impl_ValidRow F), (58, c_impl_Row_summed_or1 F), (59, c_impl_MomentumOfRow_c1 F), (57, c_impl_toldNumber F)] [] [] 0) Try.f22 false [V.agg [A.sl 0, A.fl FloatKind.f32 x1]] [⟨false, OC.rows [K.f FloatKind.f32, K.f FloatKind.f32, K.f FloatKind.f32] x0⟩] = bif Pure.impl_ValidRow_ok F x0 x1 then bif Bool.not (Pure.impl_ValidRow F x0 x1) then some ⟨V.tup [(false, [A.fl FloatKind.f32 0]), (false, [A.bool false])], none, []⟩ else bif Pure.impl_Row_summed_mom_ok F x0 x1 then some ⟨V.tup [(false, [A.fl FloatKind.f32 (Pure.impl_toldNumber F (Pure.impl_Row_summed_mom F x0 x1))]), (false, [A.bool (Pure.impl_IsFinite F (Pure.impl_Row_summed_mom F x0 x1))])], none, []⟩ else none else none := by kernel_rfl
  rw [h0]
  unfold Pure.impl_MomentumOfRow Pure.impl_MomentumOfRow_1 Pure.impl_MomentumOfRow_ok
  cases (Pure.impl_ValidRow_ok F x0 x1) with
  | true =>
    cases (Pure.impl_ValidRow F x0 x1) with
    | true =>
      cases (Pure.impl_Row_summed_mom_ok F x0 x1) with
      | true =>
        intro _; rfl
      | false =>
        intro h; exact absurd h Bool.false_ne_true
    | false =>
      intro _; rfl
  | false =>
    intro h; exact absurd h Bool.false_ne_true
theorem ok_impl_MomentumOfRow : CallOK Try.prog 22 (c_impl_MomentumOfRow real) := by
  refine callOK_of fun args h ret hc => ?_
  unfold c_impl_MomentumOfRow at hc
  split at hc
  · rename_i x1 x0
    obtain ⟨hok, rfl⟩ := some_ret hc
    exact holds_ev prog_ok (allOK_cons ok_impl_ValidRow (allOK_cons ok_impl_Row_summed_or1 (allOK_cons ok_impl_MomentumOfRow_c1 (allOK_cons ok_impl_toldNumber allOK_nil)))) Try.func22 rfl rfl smL_nil rfl (e_impl_MomentumOfRow real x0 x1 hok)
  · cases hc
def Pure.laws_sameFloat (F : FOps) (x0 : Int) (x1 : Int) : Bool := bif FOps.cmp F BinOp.neq FloatKind.f64 x0 x0 then FOps.cmp F BinOp.neq FloatKind.f64 x1 x1 else bif FOps.cmp F BinOp.neq FloatKind.f64 x1 x1 then false else bif FOps.cmp F BinOp.eql FloatKind.f64 x0 0 then bif FOps.cmp F BinOp.eql FloatKind.f64 x1 0 then (FOps.cmp F BinOp.gtr FloatKind.f64 (FOps.bin F BinOp.quo FloatKind.f64 4607182418800017408 x0) 0) == (FOps.cmp F BinOp.gtr FloatKind.f64 (FOps.bin F BinOp.quo FloatKind.f64 4607182418800017408 x1) 0) else FOps.cmp F BinOp.eql FloatKind.f64 x0 x1 else FOps.cmp F BinOp.eql FloatKind.f64 x0 x1
def c_laws_sameFloat (F : FOps) : Con
  | [V.at (A.fl FloatKind.f64 x0), V.at (A.fl FloatKind.f64 x1)], [] => some (true, ⟨V.at (A.bool (Pure.laws_sameFloat F x0 x1)), none, []⟩)
  | _, _ => none
theorem e_laws_sameFloat (F : FOps) (x0 : Int) (x1 : Int) : evFn (cxS F tyl [] [] [] 0) Try.f23 false [V.at (A.fl FloatKind.f64 x0), V.at (A.fl FloatKind.f64 x1)] [] = some ⟨V.at (A.bool (Pure.laws_sameFloat F x0 x1)), none, []⟩ := by
  have h0 : evFn (cxS F tyl [] [] [] 0) Try.f23 false [V.at (A.fl FloatKind.f64 x0), V.at (A.fl FloatKind.f64 x1)] [] = bif FOps.cmp F BinOp.neq FloatKind.f64 x0 x0 then bif FOps.cmp F BinOp.neq FloatKind.f64 x0 x0 then some ⟨V.at (A.bool (FOps.cmp F BinOp.neq FloatKind.f64 x1 x1)), none, []⟩ else some ⟨V.at (A.bool false), none, []⟩ else bif FOps.cmp F BinOp.neq FloatKind.f64 x1 x1 then bif FOps.cmp F BinOp.neq FloatKind.f64 x0 x0 then some ⟨V.at (A.bool (FOps.cmp F BinOp.neq FloatKind.f64 x1 x1)), none, []⟩ else some ⟨V.at (A.bool false), none, []⟩ else bif FOps.cmp F BinOp.eql FloatKind.f64 x0 0 then bif FOps.cmp F BinOp.eql FloatKind.f64 x1 0 then some ⟨V.at (A.bool ((FOps.cmp F BinOp.gtr FloatKind.f64 (FOps.bin F BinOp.quo FloatKind.f64 4607182418800017408 x0) 0) == (FOps.cmp F BinOp.gtr FloatKind.f64 (FOps.bin F BinOp.quo FloatKind.f64 4607182418800017408 x1) 0))), none, []⟩ else some ⟨V.at (A.bool (FOps.cmp F BinOp.eql FloatKind.f64 x0 x1)), none, []⟩ else some ⟨V.at (A.bool (FOps.cmp F BinOp.eql FloatKind.f64 x0 x1)), none, []⟩ := by kernel_rfl
  rw [h0]
  unfold Pure.laws_sameFloat
  cases (FOps.cmp F BinOp.neq FloatKind.f64 x0 x0) with
  | true =>
    rfl
  | false =>
    cases (FOps.cmp F BinOp.neq FloatKind.f64 x1 x1) with
    | true =>
      rfl
    | false =>
      cases (FOps.cmp F BinOp.eql FloatKind.f64 x0 0) with
      | true =>
        cases (FOps.cmp F BinOp.eql FloatKind.f64 x1 0) with
        | true =>
          rfl
        | false =>
          rfl
      | false =>
        rfl
theorem ok_laws_sameFloat : CallOK Try.prog 23 (c_laws_sameFloat real) := by
  refine callOK_of fun args h ret hc => ?_
  unfold c_laws_sameFloat at hc
  split at hc
  · rename_i x0 x1
    obtain ⟨_, rfl⟩ := some_ret hc
    exact holds_ev prog_ok allOK_nil Try.func23 rfl rfl smL_nil rfl (e_laws_sameFloat real x0 x1)
  · cases hc
def Pure.laws_eqBall (F : FOps) (x0 : Int) (x1 : Int) (x2 : Int) (x3 : Int) (x4 : Int) (x5 : Int) : Bool := bif Pure.laws_sameFloat F (FOps.conv F FloatKind.f32 FloatKind.f64 x0) (FOps.conv F FloatKind.f32 FloatKind.f64 x3) then bif Pure.laws_sameFloat F (FOps.conv F FloatKind.f32 FloatKind.f64 x1) (FOps.conv F FloatKind.f32 FloatKind.f64 x4) then Pure.laws_sameFloat F (FOps.conv F FloatKind.f32 FloatKind.f64 x2) (FOps.conv F FloatKind.f32 FloatKind.f64 x5) else false else false
def Pure.laws_eqBall_ok (F : FOps) (x0 : Int) (x1 : Int) (x2 : Int) (x3 : Int) (x4 : Int) (x5 : Int) : Bool := bif FOps.convOk F FloatKind.f32 FloatKind.f64 x0 then bif FOps.convOk F FloatKind.f32 FloatKind.f64 x3 then bif Pure.laws_sameFloat F (FOps.conv F FloatKind.f32 FloatKind.f64 x0) (FOps.conv F FloatKind.f32 FloatKind.f64 x3) then bif FOps.convOk F FloatKind.f32 FloatKind.f64 x1 then bif FOps.convOk F FloatKind.f32 FloatKind.f64 x4 then bif Pure.laws_sameFloat F (FOps.conv F FloatKind.f32 FloatKind.f64 x1) (FOps.conv F FloatKind.f32 FloatKind.f64 x4) then bif FOps.convOk F FloatKind.f32 FloatKind.f64 x2 then FOps.convOk F FloatKind.f32 FloatKind.f64 x5 else false else true else false else false else true else false else false
def c_laws_eqBall (F : FOps) : Con
  | [V.agg [A.fl FloatKind.f32 x0, A.fl FloatKind.f32 x1, A.fl FloatKind.f32 x2], V.agg [A.fl FloatKind.f32 x3, A.fl FloatKind.f32 x4, A.fl FloatKind.f32 x5]], [] => some (Pure.laws_eqBall_ok F x0 x1 x2 x3 x4 x5, ⟨V.at (A.bool (Pure.laws_eqBall F x0 x1 x2 x3 x4 x5)), none, []⟩)
  | _, _ => none
theorem e_laws_eqBall (F : FOps) (x0 : Int) (x1 : Int) (x2 : Int) (x3 : Int) (x4 : Int) (x5 : Int) : Pure.laws_eqBall_ok F x0 x1 x2 x3 x4 x5 = true → evFn (cxS F tyl [(23, c_laws_sameFloat F)] [] [] 0) Try.f81 false [V.agg [A.fl FloatKind.f32 x0, A.fl FloatKind.f32 x1, A.fl FloatKind.f32 x2], V.agg [A.fl FloatKind.f32 x3, A.fl FloatKind.f32 x4, A.fl FloatKind.f32 x5]] [] = some ⟨V.at (A.bool (Pure.laws_eqBall F x0 x1 x2 x3 x4 x5)), none, []⟩ := by
  have h0 : evFn (cxS F tyl [(23, c_laws_sameFloat F)] [] [] 0) Try.f81 false [V.agg [A.fl FloatKind.f32 x0, A.fl FloatKind.f32 x1, A.fl FloatKind.f32 x2], V.agg [A.fl FloatKind.f32 x3, A.fl FloatKind.f32 x4, A.fl FloatKind.f32 x5]] [] = bif FOps.convOk F FloatKind.f32 FloatKind.f64 x0 then bif FOps.convOk F FloatKind.f32 FloatKind.f64 x3 then bif Bool.not (Pure.laws_sameFloat F (FOps.conv F FloatKind.f32 FloatKind.f64 x0) (FOps.conv F FloatKind.f32 FloatKind.f64 x3)) then some ⟨V.at (A.bool false), none, []⟩ else bif FOps.convOk F FloatKind.f32 FloatKind.f64 x1 then bif FOps.convOk F FloatKind.f32 FloatKind.f64 x4 then bif Bool.not (Pure.laws_sameFloat F (FOps.conv F FloatKind.f32 FloatKind.f64 x1) (FOps.conv F FloatKind.f32 FloatKind.f64 x4)) then some ⟨V.at (A.bool false), none, []⟩ else bif FOps.convOk F FloatKind.f32 FloatKind.f64 x2 then bif FOps.convOk F FloatKind.f32 FloatKind.f64 x5 then bif Bool.not (Pure.laws_sameFloat F (FOps.conv F FloatKind.f32 FloatKind.f64 x2) (FOps.conv F FloatKind.f32 FloatKind.f64 x5)) then some ⟨V.at (A.bool false), none, []⟩ else some ⟨V.at (A.bool true), none, []⟩ else none else none else none else none else none else none := by kernel_rfl
  rw [h0]
  unfold Pure.laws_eqBall Pure.laws_eqBall_ok
  cases (FOps.convOk F FloatKind.f32 FloatKind.f64 x0) with
  | true =>
    cases (FOps.convOk F FloatKind.f32 FloatKind.f64 x3) with
    | true =>
      cases (Pure.laws_sameFloat F (FOps.conv F FloatKind.f32 FloatKind.f64 x0) (FOps.conv F FloatKind.f32 FloatKind.f64 x3)) with
      | true =>
        cases (FOps.convOk F FloatKind.f32 FloatKind.f64 x1) with
        | true =>
          cases (FOps.convOk F FloatKind.f32 FloatKind.f64 x4) with
          | true =>
            cases (Pure.laws_sameFloat F (FOps.conv F FloatKind.f32 FloatKind.f64 x1) (FOps.conv F FloatKind.f32 FloatKind.f64 x4)) with
            | true =>
              cases (FOps.convOk F FloatKind.f32 FloatKind.f64 x2) with
              | true =>
                cases (FOps.convOk F FloatKind.f32 FloatKind.f64 x5) with
                | true =>
                  cases (Pure.laws_sameFloat F (FOps.conv F FloatKind.f32 FloatKind.f64 x2) (FOps.conv F FloatKind.f32 FloatKind.f64 x5)) with
                  | true =>
                    intro _; rfl
                  | false =>
                    intro _; rfl
                | false =>
                  intro h; exact absurd h Bool.false_ne_true
              | false =>
                intro h; exact absurd h Bool.false_ne_true
            | false =>
              intro _; rfl
          | false =>
            intro h; exact absurd h Bool.false_ne_true
        | false =>
          intro h; exact absurd h Bool.false_ne_true
      | false =>
        intro _; rfl
    | false =>
      intro h; exact absurd h Bool.false_ne_true
  | false =>
    intro h; exact absurd h Bool.false_ne_true
theorem ok_laws_eqBall : CallOK Try.prog 81 (c_laws_eqBall real) := by
  refine callOK_of fun args h ret hc => ?_
  unfold c_laws_eqBall at hc
  split at hc
  · rename_i x0 x1 x2 x3 x4 x5
    obtain ⟨hok, rfl⟩ := some_ret hc
    exact holds_ev prog_ok (allOK_cons ok_laws_sameFloat allOK_nil) Try.func81 rfl rfl smL_nil rfl (e_laws_eqBall real x0 x1 x2 x3 x4 x5 hok)
  · cases hc
def Pure.laws_eqBallS_L0 (F : FOps) (y1 : List (List Int)) (y2 : List (List Int)) : Nat → Int → (Bool × Bool)
  | 0, _ => (false, false)
  | n + 1, y0 => bif (Decidable.decide (y0 < (Int.ofNat (List.length y1)))) then (bif (Decidable.decide (0 ≤ y0)) then (bif (Decidable.decide (y0 < (Int.ofNat (List.length y1)))) then (bif (Decidable.decide (0 ≤ y0)) then (bif (Decidable.decide (y0 < (Int.ofNat (List.length y2)))) then (bif (Pure.laws_eqBall_ok F (List.getD (List.getD y1 (Int.toNat y0) []) 0 0) (List.getD (List.getD y1 (Int.toNat y0) []) 1 0) (List.getD (List.getD y1 (Int.toNat y0) []) 2 0) (List.getD (List.getD y2 (Int.toNat y0) []) 0 0) (List.getD (List.getD y2 (Int.toNat y0) []) 1 0) (List.getD (List.getD y2 (Int.toNat y0) []) 2 0)) then (bif (Pure.laws_eqBall F (List.getD (List.getD y1 (Int.toNat y0) []) 0 0) (List.getD (List.getD y1 (Int.toNat y0) []) 1 0) (List.getD (List.getD y1 (Int.toNat y0) []) 2 0) (List.getD (List.getD y2 (Int.toNat y0) []) 0 0) (List.getD (List.getD y2 (Int.toNat y0) []) 1 0) (List.getD (List.getD y2 (Int.toNat y0) []) 2 0)) then (Pure.laws_eqBallS_L0 F y1 y2 n (IntKind.wrap IntKind.i64 (y0 + 1))) else ((true, true))) else ((false, false))) else ((false, false))) else ((false, false))) else ((false, false))) else ((false, false))) else ((true, false))
def R_laws_eqBallS_L0 (y1 : List (List Int)) (y2 : List (List Int)) (r : (Bool × Bool)) : Bool × Bool × (Ex × List V × List Ob) × (Ex × List V × List Ob) := ((r).1, (r).2, (Ex.normal, [V.at A.undef], [⟨false, OC.rows [K.f FloatKind.f32, K.f FloatKind.f32, K.f FloatKind.f32] y1⟩, ⟨false, OC.rows [K.f FloatKind.f32, K.f FloatKind.f32, K.f FloatKind.f32] y2⟩]), (Ex.ret, [V.at (A.bool false)], [⟨false, OC.rows [K.f FloatKind.f32, K.f FloatKind.f32, K.f FloatKind.f32] y1⟩, ⟨false, OC.rows [K.f FloatKind.f32, K.f FloatKind.f32, K.f FloatKind.f32] y2⟩]))
def S_laws_eqBallS_L0 (F : FOps) : Sm := ⟨[0, 1, 5], [23, 23, 3], [4], fun vals hp => match vals, hp with
  | [V.at (A.sl 0), V.at (A.sl 1), V.at (A.int IntKind.i64 y0)], [⟨false, OC.rows [K.f FloatKind.f32, K.f FloatKind.f32, K.f FloatKind.f32] y1⟩, ⟨false, OC.rows [K.f FloatKind.f32, K.f FloatKind.f32, K.f FloatKind.f32] y2⟩] => some (R_laws_eqBallS_L0 y1 y2 (Pure.laws_eqBallS_L0 F y1 y2 ((Int.ofNat (List.length y1)) - y0 + 1).toNat y0))
  | _, _ => none⟩
theorem l_laws_eqBallS_L0 (F : FOps) (y1 : List (List Int)) (y2 : List (List Int)) : ∀ (fuel : Nat) (y0 : Int), (Pure.laws_eqBallS_L0 F y1 y2 fuel y0).1 = true → loopOf (cxS F tyl [(81, c_laws_eqBall F)] [] [] 0) 2 27 0 [0, 1, 5] [23, 23, 3] [4] (loopB 0 (codeOf Try.f50)) fuel [V.at (A.sl 0), V.at (A.sl 1), V.at (A.int IntKind.i64 y0)] [⟨false, OC.rows [K.f FloatKind.f32, K.f FloatKind.f32, K.f FloatKind.f32] y1⟩, ⟨false, OC.rows [K.f FloatKind.f32, K.f FloatKind.f32, K.f FloatKind.f32] y2⟩] = resOf (R_laws_eqBallS_L0 y1 y2 (Pure.laws_eqBallS_L0 F y1 y2 fuel y0)) := by
  intro fuel
  induction fuel with
  | zero => intro y0 h; exact absurd h Bool.false_ne_true
  | succ n ih =>
    intro y0
    have h0 : roundOf (cxS F tyl [(81, c_laws_eqBall F)] [] [] 0) 2 27 0 [0, 1, 5] [23, 23, 3] [4] (loopB 0 (codeOf Try.f50)) [V.at (A.sl 0), V.at (A.sl 1), V.at (A.int IntKind.i64 y0)] [⟨false, OC.rows [K.f FloatKind.f32, K.f FloatKind.f32, K.f FloatKind.f32] y1⟩, ⟨false, OC.rows [K.f FloatKind.f32, K.f FloatKind.f32, K.f FloatKind.f32] y2⟩] = (bif Decidable.decide (y0 < (Int.ofNat (List.length y1))) then bif Decidable.decide (0 ≤ y0) then bif Decidable.decide (y0 < (Int.ofNat (List.length y1))) then bif Decidable.decide (0 ≤ y0) then bif Decidable.decide (y0 < (Int.ofNat (List.length y2))) then bif Pure.laws_eqBall_ok F (List.getD (List.getD y1 (Int.toNat y0) []) 0 0) (List.getD (List.getD y1 (Int.toNat y0) []) 1 0) (List.getD (List.getD y1 (Int.toNat y0) []) 2 0) (List.getD (List.getD y2 (Int.toNat y0) []) 0 0) (List.getD (List.getD y2 (Int.toNat y0) []) 1 0) (List.getD (List.getD y2 (Int.toNat y0) []) 2 0) then bif Bool.not (Pure.laws_eqBall F (List.getD (List.getD y1 (Int.toNat y0) []) 0 0) (List.getD (List.getD y1 (Int.toNat y0) []) 1 0) (List.getD (List.getD y1 (Int.toNat y0) []) 2 0) (List.getD (List.getD y2 (Int.toNat y0) []) 0 0) (List.getD (List.getD y2 (Int.toNat y0) []) 1 0) (List.getD (List.getD y2 (Int.toNat y0) []) 2 0)) then some (false, (Ex.ret, ([V.at (A.bool false)], [⟨false, OC.rows [K.f FloatKind.f32, K.f FloatKind.f32, K.f FloatKind.f32] y1⟩, ⟨false, OC.rows [K.f FloatKind.f32, K.f FloatKind.f32, K.f FloatKind.f32] y2⟩]))) else some (true, (Ex.normal, ([V.at (A.sl 0), V.at (A.sl 1), V.at (A.int IntKind.i64 (IntKind.wrap IntKind.i64 (y0 + 1)))], [⟨false, OC.rows [K.f FloatKind.f32, K.f FloatKind.f32, K.f FloatKind.f32] y1⟩, ⟨false, OC.rows [K.f FloatKind.f32, K.f FloatKind.f32, K.f FloatKind.f32] y2⟩]))) else none else none else none else none else none else some (false, (Ex.normal, ([V.at A.undef], [⟨false, OC.rows [K.f FloatKind.f32, K.f FloatKind.f32, K.f FloatKind.f32] y1⟩, ⟨false, OC.rows [K.f FloatKind.f32, K.f FloatKind.f32, K.f FloatKind.f32] y2⟩])))) := by kernel_rfl
    unfold loopOf
    rw [h0]
    unfold Pure.laws_eqBallS_L0
    cases (Decidable.decide (y0 < (Int.ofNat (List.length y1)))) with
    | true =>
      cases (Decidable.decide (0 ≤ y0)) with
      | true =>
        cases (Decidable.decide (y0 < (Int.ofNat (List.length y2)))) with
        | true =>
          cases (Pure.laws_eqBall_ok F (List.getD (List.getD y1 (Int.toNat y0) []) 0 0) (List.getD (List.getD y1 (Int.toNat y0) []) 1 0) (List.getD (List.getD y1 (Int.toNat y0) []) 2 0) (List.getD (List.getD y2 (Int.toNat y0) []) 0 0) (List.getD (List.getD y2 (Int.toNat y0) []) 1 0) (List.getD (List.getD y2 (Int.toNat y0) []) 2 0)) with
          | true =>
            cases (Pure.laws_eqBall F (List.getD (List.getD y1 (Int.toNat y0) []) 0 0) (List.getD (List.getD y1 (Int.toNat y0) []) 1 0) (List.getD (List.getD y1 (Int.toNat y0) []) 2 0) (List.getD (List.getD y2 (Int.toNat y0) []) 0 0) (List.getD (List.getD y2 (Int.toNat y0) []) 1 0) (List.getD (List.getD y2 (Int.toNat y0) []) 2 0)) with
            | true =>
              exact ih _
            | false =>
              intro _; rfl
          | false =>
            intro h; exact absurd h Bool.false_ne_true
        | false =>
          intro h; exact absurd h Bool.false_ne_true
      | false =>
        intro h; exact absurd h Bool.false_ne_true
    | false =>
      intro _; rfl
theorem t_laws_eqBallS_L0 : SmTo Try.prog 2 27 (S_laws_eqBallS_L0 real) 0 (.loop (loopB 0 (codeOf Try.f50))) := by
  refine smTo_ev (cl := [(81, c_laws_eqBall real)]) (ef := []) (sm := []) (un := 0) prog_ok (allOK_cons ok_laws_eqBall allOK_nil) smL_nil ?_
  intro vals hp q r h hq
  unfold S_laws_eqBallS_L0 at h
  dsimp only at h
  split at h
  · rename_i y0 y1 y2
    obtain rfl := Option.some.inj h
    have h1 := hq
    unfold resOf at h1
    rw [chk_some] at h1
    exact ⟨_, (l_laws_eqBallS_L0 real y1 y2 _ y0 h1.1).trans hq⟩
  · cases h
def Pure.laws_eqBallS (F : FOps) (x0 : List (List Int)) (x1 : List (List Int)) : Bool := bif (Int.ofNat (List.length x0)) != (Int.ofNat (List.length x1)) then false else bif Prod.snd (Pure.laws_eqBallS_L0 F x0 x1 (Nat.succ ((List.length x0) + 0)) 0) then false else true
def Pure.laws_eqBallS_ok (F : FOps) (x0 : List (List Int)) (x1 : List (List Int)) : Bool := bif (Int.ofNat (List.length x0)) != (Int.ofNat (List.length x1)) then true else Prod.fst (Pure.laws_eqBallS_L0 F x0 x1 (Nat.succ ((List.length x0) + 0)) 0)
def c_laws_eqBallS (F : FOps) : Con
  | [V.at (A.sl 0), V.at (A.sl 1)], [⟨false, OC.rows [K.f FloatKind.f32, K.f FloatKind.f32, K.f FloatKind.f32] x0⟩, ⟨false, OC.rows [K.f FloatKind.f32, K.f FloatKind.f32, K.f FloatKind.f32] x1⟩] => some (Pure.laws_eqBallS_ok F x0 x1, ⟨V.at (A.bool (Pure.laws_eqBallS F x0 x1)), none, []⟩)
  | _, _ => none
theorem e_laws_eqBallS (F : FOps) (x0 : List (List Int)) (x1 : List (List Int)) : Pure.laws_eqBallS_ok F x0 x1 = true → evFn (cxS F tyl [(81, c_laws_eqBall F)] [] [(0, S_laws_eqBallS_L0 F)] 0) Try.f50 false [V.at (A.sl 0), V.at (A.sl 1)] [⟨false, OC.rows [K.f FloatKind.f32, K.f FloatKind.f32, K.f FloatKind.f32] x0⟩, ⟨false, OC.rows [K.f FloatKind.f32, K.f FloatKind.f32, K.f FloatKind.f32] x1⟩] = some ⟨V.at (A.bool (Pure.laws_eqBallS F x0 x1)), none, []⟩ := by
  have h0 : evFn (cxS F tyl [(81, c_laws_eqBall F)] [] [(0, S_laws_eqBallS_L0 F)] 0) Try.f50 false [V.at (A.sl 0), V.at (A.sl 1)] [⟨false, OC.rows [K.f FloatKind.f32, K.f FloatKind.f32, K.f FloatKind.f32] x0⟩, ⟨false, OC.rows [K.f FloatKind.f32, K.f FloatKind.f32, K.f FloatKind.f32] x1⟩] = bif (Int.ofNat (List.length x0)) != (Int.ofNat (List.length x1)) then some ⟨V.at (A.bool false), none, []⟩ else bif Prod.fst (Pure.laws_eqBallS_L0 F x0 x1 (Nat.succ ((List.length x0) + 0)) 0) then bif Prod.snd (Pure.laws_eqBallS_L0 F x0 x1 (Nat.succ ((List.length x0) + 0)) 0) then some ⟨V.at (A.bool false), none, []⟩ else some ⟨V.at (A.bool true), none, []⟩ else none := by kernel_rfl
  rw [h0]
  unfold Pure.laws_eqBallS Pure.laws_eqBallS_ok
  cases ((Int.ofNat (List.length x0)) != (Int.ofNat (List.length x1))) with
  | true =>
    intro _; rfl
  | false =>
    cases (Prod.fst (Pure.laws_eqBallS_L0 F x0 x1 (Nat.succ ((List.length x0) + 0)) 0)) with
    | true =>
      cases (Prod.snd (Pure.laws_eqBallS_L0 F x0 x1 (Nat.succ ((List.length x0) + 0)) 0)) with
      | true =>
        intro _; rfl
      | false =>
        intro _; rfl
    | false =>
      intro h; exact absurd h Bool.false_ne_true
theorem ok_laws_eqBallS : CallOK Try.prog 50 (c_laws_eqBallS real) := by
  refine callOK_of fun args h ret hc => ?_
  unfold c_laws_eqBallS at hc
  split at hc
  · rename_i x0 x1
    obtain ⟨hok, rfl⟩ := some_ret hc
    exact holds_ev prog_ok (allOK_cons ok_laws_eqBall allOK_nil) Try.func50 rfl rfl (smL_cons (body := .loop (loopB 0 (codeOf Try.f50))) (by kernel_rfl) t_laws_eqBallS_L0 smL_nil) rfl (e_laws_eqBallS real x0 x1 hok)
  · cases hc
def Pure.laws_eqRow (F : FOps) (x0 : List (List Int)) (x1 : Int) (x2 : List (List Int)) (x3 : Int) : Bool := bif Pure.laws_eqBallS F x0 x2 then Pure.laws_sameFloat F (FOps.conv F FloatKind.f32 FloatKind.f64 x1) (FOps.conv F FloatKind.f32 FloatKind.f64 x3) else false
def Pure.laws_eqRow_ok (F : FOps) (x0 : List (List Int)) (x1 : Int) (x2 : List (List Int)) (x3 : Int) : Bool := bif Pure.laws_eqBallS_ok F x0 x2 then bif Pure.laws_eqBallS F x0 x2 then bif FOps.convOk F FloatKind.f32 FloatKind.f64 x1 then FOps.convOk F FloatKind.f32 FloatKind.f64 x3 else false else true else false
def c_laws_eqRow (F : FOps) : Con
  | [V.agg [A.sl 0, A.fl FloatKind.f32 x1], V.agg [A.sl 1, A.fl FloatKind.f32 x3]], [⟨false, OC.rows [K.f FloatKind.f32, K.f FloatKind.f32, K.f FloatKind.f32] x0⟩, ⟨false, OC.rows [K.f FloatKind.f32, K.f FloatKind.f32, K.f FloatKind.f32] x2⟩] => some (Pure.laws_eqRow_ok F x0 x1 x2 x3, ⟨V.at (A.bool (Pure.laws_eqRow F x0 x1 x2 x3)), none, []⟩)
  | _, _ => none
theorem e_laws_eqRow (F : FOps) (x0 : List (List Int)) (x1 : Int) (x2 : List (List Int)) (x3 : Int) : Pure.laws_eqRow_ok F x0 x1 x2 x3 = true → evFn (cxS F tyl [(50, c_laws_eqBallS F), (23, c_laws_sameFloat F)] [] [] 0) Try.f16 false [V.agg [A.sl 0, A.fl FloatKind.f32 x1], V.agg [A.sl 1, A.fl FloatKind.f32 x3]] [⟨false, OC.rows [K.f FloatKind.f32, K.f FloatKind.f32, K.f FloatKind.f32] x0⟩, ⟨false, OC.rows [K.f FloatKind.f32, K.f FloatKind.f32, K.f FloatKind.f32] x2⟩] = some ⟨V.at (A.bool (Pure.laws_eqRow F x0 x1 x2 x3)), none, []⟩ := by
  have h0 : evFn (cxS F tyl [(50, c_laws_eqBallS F), (23, c_laws_sameFloat F)] [] [] 0) Try.f16 false [V.agg [A.sl 0, A.fl FloatKind.f32 x1], V.agg [A.sl 1, A.fl FloatKind.f32 x3]] [⟨false, OC.rows [K.f FloatKind.f32, K.f FloatKind.f32, K.f FloatKind.f32] x0⟩, ⟨false, OC.rows [K.f FloatKind.f32, K.f FloatKind.f32, K.f FloatKind.f32] x2⟩] = bif Pure.laws_eqBallS_ok F x0 x2 then bif Bool.not (Pure.laws_eqBallS F x0 x2) then some ⟨V.at (A.bool false), none, []⟩ else bif FOps.convOk F FloatKind.f32 FloatKind.f64 x1 then bif FOps.convOk F FloatKind.f32 FloatKind.f64 x3 then bif Bool.not (Pure.laws_sameFloat F (FOps.conv F FloatKind.f32 FloatKind.f64 x1) (FOps.conv F FloatKind.f32 FloatKind.f64 x3)) then some ⟨V.at (A.bool false), none, []⟩ else some ⟨V.at (A.bool true), none, []⟩ else none else none else none := by kernel_rfl
  rw [h0]
  unfold Pure.laws_eqRow Pure.laws_eqRow_ok
  cases (Pure.laws_eqBallS_ok F x0 x2) with
  | true =>
    cases (Pure.laws_eqBallS F x0 x2) with
    | true =>
      cases (FOps.convOk F FloatKind.f32 FloatKind.f64 x1) with
      | true =>
        cases (FOps.convOk F FloatKind.f32 FloatKind.f64 x3) with
        | true =>
          cases (Pure.laws_sameFloat F (FOps.conv F FloatKind.f32 FloatKind.f64 x1) (FOps.conv F FloatKind.f32 FloatKind.f64 x3)) with
          | true =>
            intro _; rfl
          | false =>
            intro _; rfl
        | false =>
          intro h; exact absurd h Bool.false_ne_true
      | false =>
        intro h; exact absurd h Bool.false_ne_true
    | false =>
      intro _; rfl
  | false =>
    intro h; exact absurd h Bool.false_ne_true
theorem ok_laws_eqRow : CallOK Try.prog 16 (c_laws_eqRow real) := by
  refine callOK_of fun args h ret hc => ?_
  unfold c_laws_eqRow at hc
  split at hc
  · rename_i x1 x3 x0 x2
    obtain ⟨hok, rfl⟩ := some_ret hc
    exact holds_ev prog_ok (allOK_cons ok_laws_eqBallS (allOK_cons ok_laws_sameFloat allOK_nil)) Try.func16 rfl rfl smL_nil rfl (e_laws_eqRow real x0 x1 x2 x3 hok)
  · cases hc
def Pure.laws_FnExactMomentumOfRow (F : FOps) (x0 : List (List Int)) (x1 : Int) : Bool := bif Decidable.decide ((Pure.laws_szRow F x0 x1 1048576) < 0) then true else bif Pure.laws_sameFloat F (FOps.conv F FloatKind.f32 FloatKind.f64 (Pure.impl_MomentumOfRow F (Pure.laws_toBallS F x0) x1)) (FOps.conv F FloatKind.f32 FloatKind.f64 (Pure.spec_MomentumOfRow F (Pure.laws_toBallS F x0) x1)) then bif (Pure.impl_MomentumOfRow_1 F (Pure.laws_toBallS F x0) x1) == (Pure.spec_MomentumOfRow_1 F (Pure.laws_toBallS F x0) x1) then Pure.laws_eqRow F (Pure.laws_toBallS F x0) x1 (Pure.laws_toBallS F x0) x1 else false else false
def Pure.laws_FnExactMomentumOfRow_ok (F : FOps) (x0 : List (List Int)) (x1 : Int) : Bool := bif Decidable.decide ((Pure.laws_szRow F x0 x1 1048576) < 0) then true else bif Pure.laws_toRow_ok F x0 x1 then bif Pure.spec_MomentumOfRow_ok F (Pure.laws_toBallS F x0) x1 then bif Pure.impl_MomentumOfRow_ok F (Pure.laws_toBallS F x0) x1 then bif FOps.convOk F FloatKind.f32 FloatKind.f64 (Pure.impl_MomentumOfRow F (Pure.laws_toBallS F x0) x1) then bif FOps.convOk F FloatKind.f32 FloatKind.f64 (Pure.spec_MomentumOfRow F (Pure.laws_toBallS F x0) x1) then bif Pure.laws_sameFloat F (FOps.conv F FloatKind.f32 FloatKind.f64 (Pure.impl_MomentumOfRow F (Pure.laws_toBallS F x0) x1)) (FOps.conv F FloatKind.f32 FloatKind.f64 (Pure.spec_MomentumOfRow F (Pure.laws_toBallS F x0) x1)) then bif (Pure.impl_MomentumOfRow_1 F (Pure.laws_toBallS F x0) x1) == (Pure.spec_MomentumOfRow_1 F (Pure.laws_toBallS F x0) x1) then Pure.laws_eqRow_ok F (Pure.laws_toBallS F x0) x1 (Pure.laws_toBallS F x0) x1 else true else true else false else false else false else false else false
def c_laws_FnExactMomentumOfRow (F : FOps) : Con
  | [V.agg [A.sl 0, A.fl FloatKind.f32 x1]], [⟨false, OC.rows [K.f FloatKind.f32, K.f FloatKind.f32, K.f FloatKind.f32] x0⟩] => some (Pure.laws_FnExactMomentumOfRow_ok F x0 x1, ⟨V.at (A.bool (Pure.laws_FnExactMomentumOfRow F x0 x1)), none, []⟩)
  | _, _ => none
theorem e_laws_FnExactMomentumOfRow (F : FOps) (x0 : List (List Int)) (x1 : Int) : Pure.laws_FnExactMomentumOfRow_ok F x0 x1 = true → evFn (cxS F tyl [(19, c_laws_szRow F), (21, c_laws_toRow F), (20, c_spec_MomentumOfRow F), (22, c_impl_MomentumOfRow F), (23, c_laws_sameFloat F), (16, c_laws_eqRow F)] [] [] 0) Try.f4 false [V.agg [A.sl 0, A.fl FloatKind.f32 x1]] [⟨false, OC.rows [K.f FloatKind.f32, K.f FloatKind.f32, K.f FloatKind.f32] x0⟩] = some ⟨V.at (A.bool (Pure.laws_FnExactMomentumOfRow F x0 x1)), none, []⟩ := by
  have h0 : evFn (cxS F tyl [(19, c_laws_szRow F), (21, c_laws_toRow F), (20, c_spec_MomentumOfRow F), (22, c_impl_MomentumOfRow F), (23, c_laws_sameFloat F), (16, c_laws_eqRow F)] [] [] 0) Try.f4 false [V.agg [A.sl 0, A.fl FloatKind.f32 x1]] [⟨false, OC.rows [K.f FloatKind.f32, K.f FloatKind.f32, K.f FloatKind.f32] x0⟩] = bif Decidable.decide ((Pure.laws_szRow F x0 x1 1048576) < 0) then some ⟨V.at (A.bool true), none, []⟩ else bif Pure.laws_toRow_ok F x0 x1 then bif Pure.spec_MomentumOfRow_ok F (Pure.laws_toBallS F x0) x1 then bif Pure.laws_toRow_ok F x0 x1 then bif Pure.impl_MomentumOfRow_ok F (Pure.laws_toBallS F x0) x1 then bif FOps.convOk F FloatKind.f32 FloatKind.f64 (Pure.impl_MomentumOfRow F (Pure.laws_toBallS F x0) x1) then bif FOps.convOk F FloatKind.f32 FloatKind.f64 (Pure.spec_MomentumOfRow F (Pure.laws_toBallS F x0) x1) then bif Bool.not (Pure.laws_sameFloat F (FOps.conv F FloatKind.f32 FloatKind.f64 (Pure.impl_MomentumOfRow F (Pure.laws_toBallS F x0) x1)) (FOps.conv F FloatKind.f32 FloatKind.f64 (Pure.spec_MomentumOfRow F (Pure.laws_toBallS F x0) x1))) then some ⟨V.at (A.bool false), none, []⟩ else bif Bool.not ((Pure.impl_MomentumOfRow_1 F (Pure.laws_toBallS F x0) x1) == (Pure.spec_MomentumOfRow_1 F (Pure.laws_toBallS F x0) x1)) then some ⟨V.at (A.bool false), none, []⟩ else bif Pure.laws_toRow_ok F x0 x1 then bif Pure.laws_eqRow_ok F (Pure.laws_toBallS F x0) x1 (Pure.laws_toBallS F x0) x1 then bif Bool.not (Pure.laws_eqRow F (Pure.laws_toBallS F x0) x1 (Pure.laws_toBallS F x0) x1) then some ⟨V.at (A.bool false), none, []⟩ else some ⟨V.at (A.bool true), none, []⟩ else none else none else none else none else none else none else none else none := by kernel_rfl
  rw [h0]
  unfold Pure.laws_FnExactMomentumOfRow Pure.laws_FnExactMomentumOfRow_ok
  cases (Decidable.decide ((Pure.laws_szRow F x0 x1 1048576) < 0)) with
  | true =>
    intro _; rfl
  | false =>
    cases (Pure.laws_toRow_ok F x0 x1) with
    | true =>
      cases (Pure.spec_MomentumOfRow_ok F (Pure.laws_toBallS F x0) x1) with
      | true =>
        cases (Pure.impl_MomentumOfRow_ok F (Pure.laws_toBallS F x0) x1) with
        | true =>
          cases (FOps.convOk F FloatKind.f32 FloatKind.f64 (Pure.impl_MomentumOfRow F (Pure.laws_toBallS F x0) x1)) with
          | true =>
            cases (FOps.convOk F FloatKind.f32 FloatKind.f64 (Pure.spec_MomentumOfRow F (Pure.laws_toBallS F x0) x1)) with
            | true =>
              cases (Pure.laws_sameFloat F (FOps.conv F FloatKind.f32 FloatKind.f64 (Pure.impl_MomentumOfRow F (Pure.laws_toBallS F x0) x1)) (FOps.conv F FloatKind.f32 FloatKind.f64 (Pure.spec_MomentumOfRow F (Pure.laws_toBallS F x0) x1))) with
              | true =>
                cases ((Pure.impl_MomentumOfRow_1 F (Pure.laws_toBallS F x0) x1) == (Pure.spec_MomentumOfRow_1 F (Pure.laws_toBallS F x0) x1)) with
                | true =>
                  cases (Pure.laws_eqRow_ok F (Pure.laws_toBallS F x0) x1 (Pure.laws_toBallS F x0) x1) with
                  | true =>
                    cases (Pure.laws_eqRow F (Pure.laws_toBallS F x0) x1 (Pure.laws_toBallS F x0) x1) with
                    | true =>
                      intro _; rfl
                    | false =>
                      intro _; rfl
                  | false =>
                    intro h; exact absurd h Bool.false_ne_true
                | false =>
                  intro _; rfl
              | false =>
                intro _; rfl
            | false =>
              intro h; exact absurd h Bool.false_ne_true
          | false =>
            intro h; exact absurd h Bool.false_ne_true
        | false =>
          intro h; exact absurd h Bool.false_ne_true
      | false =>
        intro h; exact absurd h Bool.false_ne_true
    | false =>
      intro h; exact absurd h Bool.false_ne_true
theorem ok_laws_FnExactMomentumOfRow : CallOK Try.prog 4 (c_laws_FnExactMomentumOfRow real) := by
  refine callOK_of fun args h ret hc => ?_
  unfold c_laws_FnExactMomentumOfRow at hc
  split at hc
  · rename_i x1 x0
    obtain ⟨hok, rfl⟩ := some_ret hc
    exact holds_ev prog_ok (allOK_cons ok_laws_szRow (allOK_cons ok_laws_toRow (allOK_cons ok_spec_MomentumOfRow (allOK_cons ok_impl_MomentumOfRow (allOK_cons ok_laws_sameFloat (allOK_cons ok_laws_eqRow allOK_nil)))))) Try.func4 rfl rfl smL_nil rfl (e_laws_FnExactMomentumOfRow real x0 x1 hok)
  · cases hc
def Pure.spec_EnergyOfRow_L0 (F : FOps) (y2 : List (List Int)) (y3 : Int) : Nat → Int → Int → (Bool × Int)
  | 0, _, _ => (false, 0)
  | n + 1, y0, y1 => bif (Decidable.decide (y1 < (Int.ofNat (List.length y2)))) then (bif (Decidable.decide (0 ≤ y1)) then (bif (Decidable.decide (y1 < (Int.ofNat (List.length y2)))) then (Pure.spec_EnergyOfRow_L0 F y2 y3 n (FOps.bin F BinOp.add FloatKind.f32 y0 (FOps.bin F BinOp.mul FloatKind.f32 (FOps.bin F BinOp.mul FloatKind.f32 (List.getD (List.getD y2 (Int.toNat y1) []) 2 0) (List.getD (List.getD y2 (Int.toNat y1) []) 1 0)) (List.getD (List.getD y2 (Int.toNat y1) []) 1 0))) (IntKind.wrap IntKind.i64 (y1 + 1))) else ((false, 0))) else ((false, 0))) else ((true, y0))
def R_spec_EnergyOfRow_L0 (y2 : List (List Int)) (r : (Bool × Int)) : Bool × Bool × (Ex × List V × List Ob) × (Ex × List V × List Ob) := ((r).1, false, (Ex.normal, [V.at (A.fl FloatKind.f32 (r).2)], [⟨false, OC.rows [K.f FloatKind.f32, K.f FloatKind.f32, K.f FloatKind.f32] y2⟩]), (Ex.normal, [V.at (A.fl FloatKind.f32 (r).2)], [⟨false, OC.rows [K.f FloatKind.f32, K.f FloatKind.f32, K.f FloatKind.f32] y2⟩]))
def S_spec_EnergyOfRow_L0 (F : FOps) : Sm := ⟨[1, 4, 5], [0, 22, 3], [4], fun vals hp => match vals, hp with
  | [V.at (A.ptr 1 0 0), V.at (A.fl FloatKind.f32 y0), V.at (A.int IntKind.i64 y1)], [⟨false, OC.rows [K.f FloatKind.f32, K.f FloatKind.f32, K.f FloatKind.f32] y2⟩, ⟨true, OC.box [A.sl 0, A.fl FloatKind.f32 y3]⟩] => some (R_spec_EnergyOfRow_L0 y2 (Pure.spec_EnergyOfRow_L0 F y2 y3 ((Int.ofNat (List.length y2)) - y1 + 1).toNat y0 y1))
  | _, _ => none⟩
theorem l_spec_EnergyOfRow_L0 (F : FOps) (y2 : List (List Int)) (y3 : Int) : ∀ (fuel : Nat) (y0 : Int) (y1 : Int), (Pure.spec_EnergyOfRow_L0 F y2 y3 fuel y0 y1).1 = true → loopOf (cxS F tyl [(54, c_spec_l06Is F), (55, c_spec_l02Number F)] [] [] 0) 1 41 0 [1, 4, 5] [0, 22, 3] [4] (loopB 0 (codeOf Try.f24)) fuel [V.at (A.ptr 1 0 0), V.at (A.fl FloatKind.f32 y0), V.at (A.int IntKind.i64 y1)] [⟨false, OC.rows [K.f FloatKind.f32, K.f FloatKind.f32, K.f FloatKind.f32] y2⟩, ⟨true, OC.box [A.sl 0, A.fl FloatKind.f32 y3]⟩] = resOf (R_spec_EnergyOfRow_L0 y2 (Pure.spec_EnergyOfRow_L0 F y2 y3 fuel y0 y1)) := by
  intro fuel
  induction fuel with
  | zero => intro y0 y1 h; exact absurd h Bool.false_ne_true
  | succ n ih =>
    intro y0 y1
    have h0 : roundOf (cxS F tyl [(54, c_spec_l06Is F), (55, c_spec_l02Number F)] [] [] 0) 1 41 0 [1, 4, 5] [0, 22, 3] [4] (loopB 0 (codeOf Try.f24)) [V.at (A.ptr 1 0 0), V.at (A.fl FloatKind.f32 y0), V.at (A.int IntKind.i64 y1)] [⟨false, OC.rows [K.f FloatKind.f32, K.f FloatKind.f32, K.f FloatKind.f32] y2⟩, ⟨true, OC.box [A.sl 0, A.fl FloatKind.f32 y3]⟩] = (bif Decidable.decide (y1 < (Int.ofNat (List.length y2))) then bif Decidable.decide (0 ≤ y1) then bif Decidable.decide (y1 < (Int.ofNat (List.length y2))) then some (true, (Ex.normal, ([V.at (A.ptr 1 0 0), V.at (A.fl FloatKind.f32 (FOps.bin F BinOp.add FloatKind.f32 y0 (FOps.bin F BinOp.mul FloatKind.f32 (FOps.bin F BinOp.mul FloatKind.f32 (List.getD (List.getD y2 (Int.toNat y1) []) 2 0) (List.getD (List.getD y2 (Int.toNat y1) []) 1 0)) (List.getD (List.getD y2 (Int.toNat y1) []) 1 0)))), V.at (A.int IntKind.i64 (IntKind.wrap IntKind.i64 (y1 + 1)))], [⟨false, OC.rows [K.f FloatKind.f32, K.f FloatKind.f32, K.f FloatKind.f32] y2⟩, ⟨true, OC.box [A.sl 0, A.fl FloatKind.f32 y3]⟩]))) else none else none else some (false, (Ex.normal, ([V.at (A.fl FloatKind.f32 y0)], [⟨false, OC.rows [K.f FloatKind.f32, K.f FloatKind.f32, K.f FloatKind.f32] y2⟩])))) := by kernel_rfl
    unfold loopOf
    rw [h0]
    unfold Pure.spec_EnergyOfRow_L0
    cases (Decidable.decide (y1 < (Int.ofNat (List.length y2)))) with
    | true =>
      cases (Decidable.decide (0 ≤ y1)) with
      | true =>
        exact ih _ _
      | false =>
        intro h; exact absurd h Bool.false_ne_true
    | false =>
      intro _; rfl
theorem t_spec_EnergyOfRow_L0 : SmTo Try.prog 1 41 (S_spec_EnergyOfRow_L0 real) 0 (.loop (loopB 0 (codeOf Try.f24))) := by
  refine smTo_ev (cl := [(54, c_spec_l06Is real), (55, c_spec_l02Number real)]) (ef := []) (sm := []) (un := 0) prog_ok (allOK_cons ok_spec_l06Is (allOK_cons ok_spec_l02Number allOK_nil)) smL_nil ?_
  intro vals hp q r h hq
  unfold S_spec_EnergyOfRow_L0 at h
  dsimp only at h
  split at h
  · rename_i y0 y1 y2 y3
    obtain rfl := Option.some.inj h
    have h1 := hq
    unfold resOf at h1
    rw [chk_some] at h1
    exact ⟨_, (l_spec_EnergyOfRow_L0 real y2 y3 _ y0 y1 h1.1).trans hq⟩
  · cases h
def Pure.spec_EnergyOfRow (F : FOps) (x0 : List (List Int)) (x1 : Int) : Int := bif Pure.spec_l06Is F x0 x1 then Pure.spec_l02Number F (FOps.bin F BinOp.mul FloatKind.f32 1056964608 (Prod.snd (Pure.spec_EnergyOfRow_L0 F x0 x1 (Nat.succ ((List.length x0) + 0)) 0 0))) else 0
def Pure.spec_EnergyOfRow_1 (F : FOps) (x0 : List (List Int)) (x1 : Int) : Bool := bif Pure.spec_l06Is F x0 x1 then Pure.spec_l01Finite F (FOps.bin F BinOp.mul FloatKind.f32 1056964608 (Prod.snd (Pure.spec_EnergyOfRow_L0 F x0 x1 (Nat.succ ((List.length x0) + 0)) 0 0))) else false
def Pure.spec_EnergyOfRow_ok (F : FOps) (x0 : List (List Int)) (x1 : Int) : Bool := bif Pure.spec_l06Is_ok F x0 x1 then bif Pure.spec_l06Is F x0 x1 then Prod.fst (Pure.spec_EnergyOfRow_L0 F x0 x1 (Nat.succ ((List.length x0) + 0)) 0 0) else true else false
def c_spec_EnergyOfRow (F : FOps) : Con
  | [V.agg [A.sl 0, A.fl FloatKind.f32 x1]], [⟨false, OC.rows [K.f FloatKind.f32, K.f FloatKind.f32, K.f FloatKind.f32] x0⟩] => some (Pure.spec_EnergyOfRow_ok F x0 x1, ⟨V.tup [(false, [A.fl FloatKind.f32 (Pure.spec_EnergyOfRow F x0 x1)]), (false, [A.bool (Pure.spec_EnergyOfRow_1 F x0 x1)])], none, []⟩)
  | _, _ => none
theorem e_spec_EnergyOfRow (F : FOps) (x0 : List (List Int)) (x1 : Int) : Pure.spec_EnergyOfRow_ok F x0 x1 = true → evFn (cxS F tyl [(54, c_spec_l06Is F), (55, c_spec_l02Number F)] [] [(0, S_spec_EnergyOfRow_L0 F)] 0) Try.f24 false [V.agg [A.sl 0, A.fl FloatKind.f32 x1]] [⟨false, OC.rows [K.f FloatKind.f32, K.f FloatKind.f32, K.f FloatKind.f32] x0⟩] = some ⟨V.tup [(false, [A.fl FloatKind.f32 (Pure.spec_EnergyOfRow F x0 x1)]), (false, [A.bool (Pure.spec_EnergyOfRow_1 F x0 x1)])], none, []⟩ := by
  have h0 : evFn (cxS F tyl [(54, c_spec_l06Is F), (55, c_spec_l02Number F)] [] [(0, S_spec_EnergyOfRow_L0 F)] 0) Try.f24 false [V.agg [A.sl 0, A.fl FloatKind.f32 x1]] [⟨false, OC.rows [K.f FloatKind.f32, K.f FloatKind.f32, K.f FloatKind.f32] x0⟩] = bif Pure.spec_l06Is_ok F x0 x1 then bif Bool.not (Pure.spec_l06Is F x0 x1) then some ⟨V.tup [(false, [A.fl FloatKind.f32 0]), (false, [A.bool false])], none, []⟩ else bif Prod.fst (Pure.spec_EnergyOfRow_L0 F x0 x1 (Nat.succ ((List.length x0) + 0)) 0 0) then some ⟨V.tup [(false, [A.fl FloatKind.f32 (Pure.spec_l02Number F (FOps.bin F BinOp.mul FloatKind.f32 1056964608 (Prod.snd (Pure.spec_EnergyOfRow_L0 F x0 x1 (Nat.succ ((List.length x0) + 0)) 0 0))))]), (false, [A.bool (Pure.spec_l01Finite F (FOps.bin F BinOp.mul FloatKind.f32 1056964608 (Prod.snd (Pure.spec_EnergyOfRow_L0 F x0 x1 (Nat.succ ((List.length x0) + 0)) 0 0))))])], none, []⟩ else none else none := by kernel_rfl
  rw [h0]
  unfold Pure.spec_EnergyOfRow Pure.spec_EnergyOfRow_1 Pure.spec_EnergyOfRow_ok
  cases (Pure.spec_l06Is_ok F x0 x1) with
  | true =>
    cases (Pure.spec_l06Is F x0 x1) with
    | true =>
      cases (Prod.fst (Pure.spec_EnergyOfRow_L0 F x0 x1 (Nat.succ ((List.length x0) + 0)) 0 0)) with
      | true =>
        intro _; rfl
      | false =>
        intro h; exact absurd h Bool.false_ne_true
    | false =>
      intro _; rfl
  | false =>
    intro h; exact absurd h Bool.false_ne_true
theorem ok_spec_EnergyOfRow : CallOK Try.prog 24 (c_spec_EnergyOfRow real) := by
  refine callOK_of fun args h ret hc => ?_
  unfold c_spec_EnergyOfRow at hc
  split at hc
  · rename_i x1 x0
    obtain ⟨hok, rfl⟩ := some_ret hc
    exact holds_ev prog_ok (allOK_cons ok_spec_l06Is (allOK_cons ok_spec_l02Number allOK_nil)) Try.func24 rfl rfl (smL_cons (body := .loop (loopB 0 (codeOf Try.f24))) (by kernel_rfl) t_spec_EnergyOfRow_L0 smL_nil) rfl (e_spec_EnergyOfRow real x0 x1 hok)
  · cases hc
def Pure.impl_EnergyOfRow (F : FOps) (x0 : List (List Int)) (x1 : Int) : Int := bif Pure.impl_ValidRow F x0 x1 then Pure.impl_toldNumber F (FOps.bin F BinOp.quo FloatKind.f32 (Pure.impl_Row_summed_ene F x0 x1) 1073741824) else 0
def Pure.impl_EnergyOfRow_1 (F : FOps) (x0 : List (List Int)) (x1 : Int) : Bool := bif Pure.impl_ValidRow F x0 x1 then Pure.impl_IsFinite F (FOps.bin F BinOp.quo FloatKind.f32 (Pure.impl_Row_summed_ene F x0 x1) 1073741824) else false
def Pure.impl_EnergyOfRow_ok (F : FOps) (x0 : List (List Int)) (x1 : Int) : Bool := bif Pure.impl_ValidRow_ok F x0 x1 then bif Pure.impl_ValidRow F x0 x1 then Pure.impl_Row_summed_ene_ok F x0 x1 else true else false
def c_impl_EnergyOfRow (F : FOps) : Con
  | [V.agg [A.sl 0, A.fl FloatKind.f32 x1]], [⟨false, OC.rows [K.f FloatKind.f32, K.f FloatKind.f32, K.f FloatKind.f32] x0⟩] => some (Pure.impl_EnergyOfRow_ok F x0 x1, ⟨V.tup [(false, [A.fl FloatKind.f32 (Pure.impl_EnergyOfRow F x0 x1)]), (false, [A.bool (Pure.impl_EnergyOfRow_1 F x0 x1)])], none, []⟩)
  | _, _ => none
theorem e_impl_EnergyOfRow (F : FOps) (x0 : List (List Int)) (x1 : Int) : Pure.impl_EnergyOfRow_ok F x0 x1 = true → evFn (cxS F tyl [(49, c_impl_ValidRow F), (58, c_impl_Row_summed_or1 F), (60, c_impl_EnergyOfRow_c1 F), (57, c_impl_toldNumber F)] [] [] 0) Try.f25 false [V.agg [A.sl 0, A.fl FloatKind.f32 x1]] [⟨false, OC.rows [K.f FloatKind.f32, K.f FloatKind.f32, K.f FloatKind.f32] x0⟩] = some ⟨V.tup [(false, [A.fl FloatKind.f32 (Pure.impl_EnergyOfRow F x0 x1)]), (false, [A.bool (Pure.impl_EnergyOfRow_1 F x0 x1)])], none, []⟩ := by
  have h0 : evFn (cxS F tyl [(49, c_impl_ValidRow F), (58, c_impl_Row_summed_or1 F), (60, c_impl_EnergyOfRow_c1 F), (57, c_impl_toldNumber F)] [] [] 0) Try.f25 false [V.agg [A.sl 0, A.fl FloatKind.f32 x1]] [⟨false, OC.rows [K.f FloatKind.f32, K.f FloatKind.f32, K.f FloatKind.f32] x0⟩] = bif Pure.impl_ValidRow_ok F x0 x1 then bif Bool.not (Pure.impl_ValidRow F x0 x1) then some ⟨V.tup [(false, [A.fl FloatKind.f32 0]), (false, [A.bool false])], none, []⟩ else bif Pure.impl_Row_summed_ene_ok F x0 x1 then some ⟨V.tup [(false, [A.fl FloatKind.f32 (Pure.impl_toldNumber F (FOps.bin F BinOp.quo FloatKind.f32 (Pure.impl_Row_summed_ene F x0 x1) 1073741824))]), (false, [A.bool (Pure.impl_IsFinite F (FOps.bin F BinOp.quo FloatKind.f32 (Pure.impl_Row_summed_ene F x0 x1) 1073741824))])], none, []⟩ else none else none := by kernel_rfl
  rw [h0]
  unfold Pure.impl_EnergyOfRow Pure.impl_EnergyOfRow_1 Pure.impl_EnergyOfRow_ok
  cases (Pure.impl_ValidRow_ok F x0 x1) with
  | true =>
    cases (Pure.impl_ValidRow F x0 x1) with
    | true =>
      cases (Pure.impl_Row_summed_ene_ok F x0 x1) with
      | true =>
        intro _; rfl
      | false =>
        intro h; exact absurd h Bool.false_ne_true
    | false =>
      intro _; rfl
  | false =>
    intro h; exact absurd h Bool.false_ne_true
theorem ok_impl_EnergyOfRow : CallOK Try.prog 25 (c_impl_EnergyOfRow real) := by
  refine callOK_of fun args h ret hc => ?_
  unfold c_impl_EnergyOfRow at hc
  split at hc
  · rename_i x1 x0
    obtain ⟨hok, rfl⟩ := some_ret hc
    exact holds_ev prog_ok (allOK_cons ok_impl_ValidRow (allOK_cons ok_impl_Row_summed_or1 (allOK_cons ok_impl_EnergyOfRow_c1 (allOK_cons ok_impl_toldNumber allOK_nil)))) Try.func25 rfl rfl smL_nil rfl (e_impl_EnergyOfRow real x0 x1 hok)
  · cases hc
def Pure.laws_FnExactEnergyOfRow (F : FOps) (x0 : List (List Int)) (x1 : Int) : Bool := bif Decidable.decide ((Pure.laws_szRow F x0 x1 1048576) < 0) then true else bif Pure.laws_sameFloat F (FOps.conv F FloatKind.f32 FloatKind.f64 (Pure.impl_EnergyOfRow F (Pure.laws_toBallS F x0) x1)) (FOps.conv F FloatKind.f32 FloatKind.f64 (Pure.spec_EnergyOfRow F (Pure.laws_toBallS F x0) x1)) then bif (Pure.impl_EnergyOfRow_1 F (Pure.laws_toBallS F x0) x1) == (Pure.spec_EnergyOfRow_1 F (Pure.laws_toBallS F x0) x1) then Pure.laws_eqRow F (Pure.laws_toBallS F x0) x1 (Pure.laws_toBallS F x0) x1 else false else false
def Pure.laws_FnExactEnergyOfRow_ok (F : FOps) (x0 : List (List Int)) (x1 : Int) : Bool := bif Decidable.decide ((Pure.laws_szRow F x0 x1 1048576) < 0) then true else bif Pure.laws_toRow_ok F x0 x1 then bif Pure.spec_EnergyOfRow_ok F (Pure.laws_toBallS F x0) x1 then bif Pure.impl_EnergyOfRow_ok F (Pure.laws_toBallS F x0) x1 then bif FOps.convOk F FloatKind.f32 FloatKind.f64 (Pure.impl_EnergyOfRow F (Pure.laws_toBallS F x0) x1) then bif FOps.convOk F FloatKind.f32 FloatKind.f64 (Pure.spec_EnergyOfRow F (Pure.laws_toBallS F x0) x1) then bif Pure.laws_sameFloat F (FOps.conv F FloatKind.f32 FloatKind.f64 (Pure.impl_EnergyOfRow F (Pure.laws_toBallS F x0) x1)) (FOps.conv F FloatKind.f32 FloatKind.f64 (Pure.spec_EnergyOfRow F (Pure.laws_toBallS F x0) x1)) then bif (Pure.impl_EnergyOfRow_1 F (Pure.laws_toBallS F x0) x1) == (Pure.spec_EnergyOfRow_1 F (Pure.laws_toBallS F x0) x1) then Pure.laws_eqRow_ok F (Pure.laws_toBallS F x0) x1 (Pure.laws_toBallS F x0) x1 else true else true else false else false else false else false else false
def c_laws_FnExactEnergyOfRow (F : FOps) : Con
  | [V.agg [A.sl 0, A.fl FloatKind.f32 x1]], [⟨false, OC.rows [K.f FloatKind.f32, K.f FloatKind.f32, K.f FloatKind.f32] x0⟩] => some (Pure.laws_FnExactEnergyOfRow_ok F x0 x1, ⟨V.at (A.bool (Pure.laws_FnExactEnergyOfRow F x0 x1)), none, []⟩)
  | _, _ => none
theorem e_laws_FnExactEnergyOfRow (F : FOps) (x0 : List (List Int)) (x1 : Int) : Pure.laws_FnExactEnergyOfRow_ok F x0 x1 = true → evFn (cxS F tyl [(19, c_laws_szRow F), (21, c_laws_toRow F), (24, c_spec_EnergyOfRow F), (25, c_impl_EnergyOfRow F), (23, c_laws_sameFloat F), (16, c_laws_eqRow F)] [] [] 0) Try.f5 false [V.agg [A.sl 0, A.fl FloatKind.f32 x1]] [⟨false, OC.rows [K.f FloatKind.f32, K.f FloatKind.f32, K.f FloatKind.f32] x0⟩] = some ⟨V.at (A.bool (Pure.laws_FnExactEnergyOfRow F x0 x1)), none, []⟩ := by
  have h0 : evFn (cxS F tyl [(19, c_laws_szRow F), (21, c_laws_toRow F), (24, c_spec_EnergyOfRow F), (25, c_impl_EnergyOfRow F), (23, c_laws_sameFloat F), (16, c_laws_eqRow F)] [] [] 0) Try.f5 false [V.agg [A.sl 0, A.fl FloatKind.f32 x1]] [⟨false, OC.rows [K.f FloatKind.f32, K.f FloatKind.f32, K.f FloatKind.f32] x0⟩] = bif Decidable.decide ((Pure.laws_szRow F x0 x1 1048576) < 0) then some ⟨V.at (A.bool true), none, []⟩ else bif Pure.laws_toRow_ok F x0 x1 then bif Pure.spec_EnergyOfRow_ok F (Pure.laws_toBallS F x0) x1 then bif Pure.laws_toRow_ok F x0 x1 then bif Pure.impl_EnergyOfRow_ok F (Pure.laws_toBallS F x0) x1 then bif FOps.convOk F FloatKind.f32 FloatKind.f64 (Pure.impl_EnergyOfRow F (Pure.laws_toBallS F x0) x1) then bif FOps.convOk F FloatKind.f32 FloatKind.f64 (Pure.spec_EnergyOfRow F (Pure.laws_toBallS F x0) x1) then bif Bool.not (Pure.laws_sameFloat F (FOps.conv F FloatKind.f32 FloatKind.f64 (Pure.impl_EnergyOfRow F (Pure.laws_toBallS F x0) x1)) (FOps.conv F FloatKind.f32 FloatKind.f64 (Pure.spec_EnergyOfRow F (Pure.laws_toBallS F x0) x1))) then some ⟨V.at (A.bool false), none, []⟩ else bif Bool.not ((Pure.impl_EnergyOfRow_1 F (Pure.laws_toBallS F x0) x1) == (Pure.spec_EnergyOfRow_1 F (Pure.laws_toBallS F x0) x1)) then some ⟨V.at (A.bool false), none, []⟩ else bif Pure.laws_toRow_ok F x0 x1 then bif Pure.laws_eqRow_ok F (Pure.laws_toBallS F x0) x1 (Pure.laws_toBallS F x0) x1 then bif Bool.not (Pure.laws_eqRow F (Pure.laws_toBallS F x0) x1 (Pure.laws_toBallS F x0) x1) then some ⟨V.at (A.bool false), none, []⟩ else some ⟨V.at (A.bool true), none, []⟩ else none else none else none else none else none else none else none else none := by kernel_rfl
  rw [h0]
  unfold Pure.laws_FnExactEnergyOfRow Pure.laws_FnExactEnergyOfRow_ok
  cases (Decidable.decide ((Pure.laws_szRow F x0 x1 1048576) < 0)) with
  | true =>
    intro _; rfl
  | false =>
    cases (Pure.laws_toRow_ok F x0 x1) with
    | true =>
      cases (Pure.spec_EnergyOfRow_ok F (Pure.laws_toBallS F x0) x1) with
      | true =>
        cases (Pure.impl_EnergyOfRow_ok F (Pure.laws_toBallS F x0) x1) with
        | true =>
          cases (FOps.convOk F FloatKind.f32 FloatKind.f64 (Pure.impl_EnergyOfRow F (Pure.laws_toBallS F x0) x1)) with
          | true =>
            cases (FOps.convOk F FloatKind.f32 FloatKind.f64 (Pure.spec_EnergyOfRow F (Pure.laws_toBallS F x0) x1)) with
            | true =>
              cases (Pure.laws_sameFloat F (FOps.conv F FloatKind.f32 FloatKind.f64 (Pure.impl_EnergyOfRow F (Pure.laws_toBallS F x0) x1)) (FOps.conv F FloatKind.f32 FloatKind.f64 (Pure.spec_EnergyOfRow F (Pure.laws_toBallS F x0) x1))) with
              | true =>
                cases ((Pure.impl_EnergyOfRow_1 F (Pure.laws_toBallS F x0) x1) == (Pure.spec_EnergyOfRow_1 F (Pure.laws_toBallS F x0) x1)) with
                | true =>
                  cases (Pure.laws_eqRow_ok F (Pure.laws_toBallS F x0) x1 (Pure.laws_toBallS F x0) x1) with
                  | true =>
                    cases (Pure.laws_eqRow F (Pure.laws_toBallS F x0) x1 (Pure.laws_toBallS F x0) x1) with
                    | true =>
                      intro _; rfl
                    | false =>
                      intro _; rfl
                  | false =>
                    intro h; exact absurd h Bool.false_ne_true
                | false =>
                  intro _; rfl
              | false =>
                intro _; rfl
            | false =>
              intro h; exact absurd h Bool.false_ne_true
          | false =>
            intro h; exact absurd h Bool.false_ne_true
        | false =>
          intro h; exact absurd h Bool.false_ne_true
      | false =>
        intro h; exact absurd h Bool.false_ne_true
    | false =>
      intro h; exact absurd h Bool.false_ne_true
theorem ok_laws_FnExactEnergyOfRow : CallOK Try.prog 5 (c_laws_FnExactEnergyOfRow real) := by
  refine callOK_of fun args h ret hc => ?_
  unfold c_laws_FnExactEnergyOfRow at hc
  split at hc
  · rename_i x1 x0
    obtain ⟨hok, rfl⟩ := some_ret hc
    exact holds_ev prog_ok (allOK_cons ok_laws_szRow (allOK_cons ok_laws_toRow (allOK_cons ok_spec_EnergyOfRow (allOK_cons ok_impl_EnergyOfRow (allOK_cons ok_laws_sameFloat (allOK_cons ok_laws_eqRow allOK_nil)))))) Try.func5 rfl rfl smL_nil rfl (e_laws_FnExactEnergyOfRow real x0 x1 hok)
  · cases hc
end Go.Fx
