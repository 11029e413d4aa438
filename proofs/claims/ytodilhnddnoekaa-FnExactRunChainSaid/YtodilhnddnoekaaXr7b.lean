import Derived.Test.YtodilhnddnoekaaXr7a
import Derived.KernelRfl
namespace Go.Fx
open Go.Proofs
set_option maxRecDepth 100000
def Pure.impl_IsFinite (F : FOps) (x0 : Int) : Bool := F.cmp .eql .f32 (F.bin .sub .f32 x0 x0) 0
def c_impl_IsFinite (F : FOps) : Con
  | [V.at (A.fl .f32 x0)], [] => some (true, ⟨V.at (A.bool (Pure.impl_IsFinite F x0)), none, []⟩)
  | _, _ => none
theorem e_impl_IsFinite (F : FOps) (x0 : Int) : evFn (cxS F tyl [] [] [] 0) Try.f90 false [V.at (A.fl .f32 x0)] [] = some ⟨V.at (A.bool (Pure.impl_IsFinite F x0)), none, []⟩ := by
  kernel_rfl
theorem ok_impl_IsFinite : CallOK Try.prog 90 (c_impl_IsFinite real) := by
  refine callOK_of fun args h ret hc => ?_
  unfold c_impl_IsFinite at hc
  split at hc
  · rename_i x0
    obtain ⟨_, rfl⟩ := some_ret hc
    exact holds_ev prog_ok allOK_nil Try.func90 rfl rfl smL_nil rfl (e_impl_IsFinite real x0)
  · cases hc
def Pure.impl_levelOk (F : FOps) (x0 : Int) : Bool := bif Pure.impl_IsFinite F x0 then F.cmp .geq .f32 x0 0 else false
def c_impl_levelOk (F : FOps) : Con
  | [V.at (A.fl .f32 x0)], [] => some (true, ⟨V.at (A.bool (Pure.impl_levelOk F x0)), none, []⟩)
  | _, _ => none
theorem e_impl_levelOk (F : FOps) (x0 : Int) : evFn (cxS F tyl [(90, c_impl_IsFinite F)] [] [] 0) Try.f99 false [V.at (A.fl .f32 x0)] [] = some ⟨V.at (A.bool (Pure.impl_levelOk F x0)), none, []⟩ := by
  have h0 : evFn (cxS F tyl [(90, c_impl_IsFinite F)] [] [] 0) Try.f99 false [V.at (A.fl .f32 x0)] [] = bif Pure.impl_IsFinite F x0 then some ⟨V.at (A.bool (F.cmp .geq .f32 x0 0)), none, []⟩ else some ⟨V.at (A.bool false), none, []⟩ := by kernel_rfl
  rw [h0]
  unfold Pure.impl_levelOk
  cases (Pure.impl_IsFinite F x0) with
  | true =>
    rfl
  | false =>
    rfl
theorem ok_impl_levelOk : CallOK Try.prog 99 (c_impl_levelOk real) := by
  refine callOK_of fun args h ret hc => ?_
  unfold c_impl_levelOk at hc
  split at hc
  · rename_i x0
    obtain ⟨_, rfl⟩ := some_ret hc
    exact holds_ev prog_ok (allOK_cons ok_impl_IsFinite allOK_nil) Try.func99 rfl rfl smL_nil rfl (e_impl_levelOk real x0)
  · cases hc
def Pure.impl_badLevel (F : FOps) (x0 : Int) : Bool := bif Pure.impl_levelOk F x0 then false else true
def c_impl_badLevel (F : FOps) : Con
  | [V.at (A.fl .f32 x0)], [] => some (true, ⟨V.at (A.bool (Pure.impl_badLevel F x0)), none, []⟩)
  | _, _ => none
theorem e_impl_badLevel (F : FOps) (x0 : Int) : evFn (cxS F tyl [(99, c_impl_levelOk F)] [] [] 0) Try.f83 false [V.at (A.fl .f32 x0)] [] = some ⟨V.at (A.bool (Pure.impl_badLevel F x0)), none, []⟩ := by
  kernel_rfl
theorem ok_impl_badLevel : CallOK Try.prog 83 (c_impl_badLevel real) := by
  refine callOK_of fun args h ret hc => ?_
  unfold c_impl_badLevel at hc
  split at hc
  · rename_i x0
    obtain ⟨_, rfl⟩ := some_ret hc
    exact holds_ev prog_ok (allOK_cons ok_impl_levelOk allOK_nil) Try.func83 rfl rfl smL_nil rfl (e_impl_badLevel real x0)
  · cases hc
def Pure.impl_finite_c1 (F : FOps) (x0 : Int) : Bool := bif Pure.impl_IsFinite F x0 then false else true
def c_impl_finite_c1 (F : FOps) : Con
  | [V.at (A.fl .f32 x0)], [] => some (true, ⟨V.at (A.bool (Pure.impl_finite_c1 F x0)), none, []⟩)
  | _, _ => none
theorem e_impl_finite_c1 (F : FOps) (x0 : Int) : evFn (cxS F tyl [(90, c_impl_IsFinite F)] [] [] 0) Try.f94 false [V.at (A.fl .f32 x0)] [] = some ⟨V.at (A.bool (Pure.impl_finite_c1 F x0)), none, []⟩ := by
  kernel_rfl
theorem ok_impl_finite_c1 : CallOK Try.prog 94 (c_impl_finite_c1 real) := by
  refine callOK_of fun args h ret hc => ?_
  unfold c_impl_finite_c1 at hc
  split at hc
  · rename_i x0
    obtain ⟨_, rfl⟩ := some_ret hc
    exact holds_ev prog_ok (allOK_cons ok_impl_IsFinite allOK_nil) Try.func94 rfl rfl smL_nil rfl (e_impl_finite_c1 real x0)
  · cases hc
def Pure.slices_IndexFunc_float32_float32_finite_L0 (F : FOps) (y0 : Int) (y2 : List (List Int)) : Nat → Int → (Bool × Bool × Int)
  | 0, _ => (false, false, 0)
  | n + 1, y1 => bif (decide (y1 < y0)) then (bif (decide (0 ≤ y1)) then (bif (decide (y1 < (Int.ofNat y2.length))) then (bif (Pure.impl_finite_c1 F ((y2.getD y1.toNat []).getD 0 0)) then ((true, true, y1)) else (Pure.slices_IndexFunc_float32_float32_finite_L0 F y0 y2 n (IntKind.wrap .i64 (y1 + 1)))) else ((false, false, 0))) else ((false, false, 0))) else ((true, false, 0))
def R_slices_IndexFunc_float32_float32_finite_L0 (y2 : List (List Int)) (r : (Bool × Bool × Int)) : Bool × Ends := ((r).1, .two (r).2.1 (.one Ex.normal [V.at A.undef] [⟨false, .rows [K.f .f32] y2⟩]) (.one Ex.ret [V.at (A.int .i64 (r).2.2)] [⟨false, .rows [K.f .f32] y2⟩]))
def S_slices_IndexFunc_float32_float32_finite_L0 (F : FOps) : Sm := ⟨[0, 1, 7, 8], [23, 77, 3, 3], [4], fun vals hp => match vals, hp with
  | [V.at (A.sl 0), V.at (A.fn 94 []), V.at (A.int .i64 y0), V.at (A.int .i64 y1)], [⟨false, .rows [K.f .f32] y2⟩] => some (R_slices_IndexFunc_float32_float32_finite_L0 y2 (Pure.slices_IndexFunc_float32_float32_finite_L0 F y0 y2 (y0 - y1 + 1).toNat y1))
  | _, _ => none⟩
theorem l_slices_IndexFunc_float32_float32_finite_L0 (F : FOps) (y0 : Int) (y2 : List (List Int)) : ∀ (fuel : Nat) (y1 : Int), (Pure.slices_IndexFunc_float32_float32_finite_L0 F y0 y2 fuel y1).1 = true → loopOf (cxS F tyl [(94, c_impl_finite_c1 F)] [] [] 0) 1 19 0 [0, 1, 7, 8] [23, 77, 3, 3] [4] (loopB 0 (codeOf Try.f98)) fuel [V.at (A.sl 0), V.at (A.fn 94 []), V.at (A.int .i64 y0), V.at (A.int .i64 y1)] [⟨false, .rows [K.f .f32] y2⟩] = resOf (R_slices_IndexFunc_float32_float32_finite_L0 y2 (Pure.slices_IndexFunc_float32_float32_finite_L0 F y0 y2 fuel y1)) := by
  intro fuel
  induction fuel with
  | zero => intro y1 h; exact absurd h Bool.false_ne_true
  | succ n ih =>
    intro y1
    have h0 : roundOf (cxS F tyl [(94, c_impl_finite_c1 F)] [] [] 0) 1 19 0 [0, 1, 7, 8] [23, 77, 3, 3] [4] (loopB 0 (codeOf Try.f98)) [V.at (A.sl 0), V.at (A.fn 94 []), V.at (A.int .i64 y0), V.at (A.int .i64 y1)] [⟨false, .rows [K.f .f32] y2⟩] = (bif decide (y1 < y0) then bif decide (0 ≤ y1) then bif decide (y1 < (Int.ofNat y2.length)) then bif Pure.impl_finite_c1 F ((y2.getD y1.toNat []).getD 0 0) then some (false, (Ex.ret, ([V.at (A.int .i64 y1)], [⟨false, .rows [K.f .f32] y2⟩]))) else some (true, (Ex.normal, ([V.at (A.sl 0), V.at (A.fn 94 []), V.at (A.int .i64 y0), V.at (A.int .i64 (IntKind.wrap .i64 (y1 + 1)))], [⟨false, .rows [K.f .f32] y2⟩]))) else none else none else some (false, (Ex.normal, ([V.at A.undef], [⟨false, .rows [K.f .f32] y2⟩])))) := by kernel_rfl
    unfold loopOf
    rw [h0]
    unfold Pure.slices_IndexFunc_float32_float32_finite_L0
    cases (decide (y1 < y0)) with
    | true =>
      cases (decide (0 ≤ y1)) with
      | true =>
        cases (decide (y1 < (Int.ofNat y2.length))) with
        | true =>
          cases (Pure.impl_finite_c1 F ((y2.getD y1.toNat []).getD 0 0)) with
          | true =>
            intro _; rfl
          | false =>
            exact ih _
        | false =>
          intro h; exact absurd h Bool.false_ne_true
      | false =>
        intro h; exact absurd h Bool.false_ne_true
    | false =>
      intro _; rfl
theorem t_slices_IndexFunc_float32_float32_finite_L0 : SmTo Try.prog 1 19 (S_slices_IndexFunc_float32_float32_finite_L0 real) 0 (.loop (loopB 0 (codeOf Try.f98))) := by
  refine smTo_ev (cl := [(94, c_impl_finite_c1 real)]) (ef := []) (sm := []) (un := 0) prog_ok (allOK_cons ok_impl_finite_c1 allOK_nil) smL_nil ?_
  intro vals hp q r h hq
  unfold S_slices_IndexFunc_float32_float32_finite_L0 at h
  dsimp only at h
  split at h
  · rename_i y0 y1 y2
    obtain rfl := Option.some.inj h
    have h1 := hq
    unfold resOf at h1
    rw [chk_some] at h1
    exact ⟨_, (l_slices_IndexFunc_float32_float32_finite_L0 real y0 y2 _ y1 h1.1).trans hq⟩
  · cases h
def Pure.slices_IndexFunc_float32_float32_finite (F : FOps) (x0 : List (List Int)) : Int := bif Prod.fst (Prod.snd (Pure.slices_IndexFunc_float32_float32_finite_L0 F (Int.ofNat x0.length) x0 (Nat.succ (x0.length + 0)) 0)) then Prod.snd (Prod.snd (Pure.slices_IndexFunc_float32_float32_finite_L0 F (Int.ofNat x0.length) x0 (Nat.succ (x0.length + 0)) 0)) else (-1)
def Pure.slices_IndexFunc_float32_float32_finite_ok (F : FOps) (x0 : List (List Int)) : Bool := Prod.fst (Pure.slices_IndexFunc_float32_float32_finite_L0 F (Int.ofNat x0.length) x0 (Nat.succ (x0.length + 0)) 0)
def c_slices_IndexFunc_float32_float32_finite (F : FOps) : Con
  | [V.at (A.sl 0), V.at (A.fn 94 [])], [⟨false, .rows [K.f .f32] x0⟩] => some (Pure.slices_IndexFunc_float32_float32_finite_ok F x0, ⟨V.at (A.int .i64 (Pure.slices_IndexFunc_float32_float32_finite F x0)), none, []⟩)
  | _, _ => none
theorem e_slices_IndexFunc_float32_float32_finite (F : FOps) (x0 : List (List Int)) : Pure.slices_IndexFunc_float32_float32_finite_ok F x0 = true → evFn (cxS F tyl [(94, c_impl_finite_c1 F)] [] [(0, S_slices_IndexFunc_float32_float32_finite_L0 F)] 0) Try.f98 false [V.at (A.sl 0), V.at (A.fn 94 [])] [⟨false, .rows [K.f .f32] x0⟩] = some ⟨V.at (A.int .i64 (Pure.slices_IndexFunc_float32_float32_finite F x0)), none, []⟩ := by
  have h0 : evFn (cxS F tyl [(94, c_impl_finite_c1 F)] [] [(0, S_slices_IndexFunc_float32_float32_finite_L0 F)] 0) Try.f98 false [V.at (A.sl 0), V.at (A.fn 94 [])] [⟨false, .rows [K.f .f32] x0⟩] = bif Prod.fst (Pure.slices_IndexFunc_float32_float32_finite_L0 F (Int.ofNat x0.length) x0 (Nat.succ (x0.length + 0)) 0) then bif Prod.fst (Prod.snd (Pure.slices_IndexFunc_float32_float32_finite_L0 F (Int.ofNat x0.length) x0 (Nat.succ (x0.length + 0)) 0)) then some ⟨V.at (A.int .i64 (Prod.snd (Prod.snd (Pure.slices_IndexFunc_float32_float32_finite_L0 F (Int.ofNat x0.length) x0 (Nat.succ (x0.length + 0)) 0)))), none, []⟩ else some ⟨V.at (A.int .i64 (-1)), none, []⟩ else none := by kernel_rfl
  rw [h0]
  unfold Pure.slices_IndexFunc_float32_float32_finite Pure.slices_IndexFunc_float32_float32_finite_ok
  cases (Prod.fst (Pure.slices_IndexFunc_float32_float32_finite_L0 F (Int.ofNat x0.length) x0 (Nat.succ (x0.length + 0)) 0)) with
  | true =>
    cases (Prod.fst (Prod.snd (Pure.slices_IndexFunc_float32_float32_finite_L0 F (Int.ofNat x0.length) x0 (Nat.succ (x0.length + 0)) 0))) with
    | true =>
      intro _; rfl
    | false =>
      intro _; rfl
  | false =>
    intro h; exact absurd h Bool.false_ne_true
theorem ok_slices_IndexFunc_float32_float32_finite : CallOK Try.prog 98 (c_slices_IndexFunc_float32_float32_finite real) := by
  refine callOK_of fun args h ret hc => ?_
  unfold c_slices_IndexFunc_float32_float32_finite at hc
  split at hc
  · rename_i x0
    obtain ⟨hok, rfl⟩ := some_ret hc
    exact holds_ev prog_ok (allOK_cons ok_impl_finite_c1 allOK_nil) Try.func98 rfl rfl (smL_cons (body := .loop (loopB 0 (codeOf Try.f98))) (by kernel_rfl) t_slices_IndexFunc_float32_float32_finite_L0 smL_nil) rfl (e_slices_IndexFunc_float32_float32_finite real x0 hok)
  · cases hc
def Pure.slices_IndexFunc_float32_float32_level_L0 (F : FOps) (y0 : Int) (y2 : List (List Int)) : Nat → Int → (Bool × Bool × Int)
  | 0, _ => (false, false, 0)
  | n + 1, y1 => bif (decide (y1 < y0)) then (bif (decide (0 ≤ y1)) then (bif (decide (y1 < (Int.ofNat y2.length))) then (bif (Pure.impl_badLevel F ((y2.getD y1.toNat []).getD 0 0)) then ((true, true, y1)) else (Pure.slices_IndexFunc_float32_float32_level_L0 F y0 y2 n (IntKind.wrap .i64 (y1 + 1)))) else ((false, false, 0))) else ((false, false, 0))) else ((true, false, 0))
def R_slices_IndexFunc_float32_float32_level_L0 (y2 : List (List Int)) (r : (Bool × Bool × Int)) : Bool × Ends := ((r).1, .two (r).2.1 (.one Ex.normal [V.at A.undef] [⟨false, .rows [K.f .f32] y2⟩]) (.one Ex.ret [V.at (A.int .i64 (r).2.2)] [⟨false, .rows [K.f .f32] y2⟩]))
def S_slices_IndexFunc_float32_float32_level_L0 (F : FOps) : Sm := ⟨[0, 1, 7, 8], [23, 77, 3, 3], [4], fun vals hp => match vals, hp with
  | [V.at (A.sl 0), V.at (A.fn 83 []), V.at (A.int .i64 y0), V.at (A.int .i64 y1)], [⟨false, .rows [K.f .f32] y2⟩] => some (R_slices_IndexFunc_float32_float32_level_L0 y2 (Pure.slices_IndexFunc_float32_float32_level_L0 F y0 y2 (y0 - y1 + 1).toNat y1))
  | _, _ => none⟩
theorem l_slices_IndexFunc_float32_float32_level_L0 (F : FOps) (y0 : Int) (y2 : List (List Int)) : ∀ (fuel : Nat) (y1 : Int), (Pure.slices_IndexFunc_float32_float32_level_L0 F y0 y2 fuel y1).1 = true → loopOf (cxS F tyl [(83, c_impl_badLevel F)] [] [] 0) 1 19 0 [0, 1, 7, 8] [23, 77, 3, 3] [4] (loopB 0 (codeOf Try.f98)) fuel [V.at (A.sl 0), V.at (A.fn 83 []), V.at (A.int .i64 y0), V.at (A.int .i64 y1)] [⟨false, .rows [K.f .f32] y2⟩] = resOf (R_slices_IndexFunc_float32_float32_level_L0 y2 (Pure.slices_IndexFunc_float32_float32_level_L0 F y0 y2 fuel y1)) := by
  intro fuel
  induction fuel with
  | zero => intro y1 h; exact absurd h Bool.false_ne_true
  | succ n ih =>
    intro y1
    have h0 : roundOf (cxS F tyl [(83, c_impl_badLevel F)] [] [] 0) 1 19 0 [0, 1, 7, 8] [23, 77, 3, 3] [4] (loopB 0 (codeOf Try.f98)) [V.at (A.sl 0), V.at (A.fn 83 []), V.at (A.int .i64 y0), V.at (A.int .i64 y1)] [⟨false, .rows [K.f .f32] y2⟩] = (bif decide (y1 < y0) then bif decide (0 ≤ y1) then bif decide (y1 < (Int.ofNat y2.length)) then bif Pure.impl_badLevel F ((y2.getD y1.toNat []).getD 0 0) then some (false, (Ex.ret, ([V.at (A.int .i64 y1)], [⟨false, .rows [K.f .f32] y2⟩]))) else some (true, (Ex.normal, ([V.at (A.sl 0), V.at (A.fn 83 []), V.at (A.int .i64 y0), V.at (A.int .i64 (IntKind.wrap .i64 (y1 + 1)))], [⟨false, .rows [K.f .f32] y2⟩]))) else none else none else some (false, (Ex.normal, ([V.at A.undef], [⟨false, .rows [K.f .f32] y2⟩])))) := by kernel_rfl
    unfold loopOf
    rw [h0]
    unfold Pure.slices_IndexFunc_float32_float32_level_L0
    cases (decide (y1 < y0)) with
    | true =>
      cases (decide (0 ≤ y1)) with
      | true =>
        cases (decide (y1 < (Int.ofNat y2.length))) with
        | true =>
          cases (Pure.impl_badLevel F ((y2.getD y1.toNat []).getD 0 0)) with
          | true =>
            intro _; rfl
          | false =>
            exact ih _
        | false =>
          intro h; exact absurd h Bool.false_ne_true
      | false =>
        intro h; exact absurd h Bool.false_ne_true
    | false =>
      intro _; rfl
theorem t_slices_IndexFunc_float32_float32_level_L0 : SmTo Try.prog 1 19 (S_slices_IndexFunc_float32_float32_level_L0 real) 0 (.loop (loopB 0 (codeOf Try.f98))) := by
  refine smTo_ev (cl := [(83, c_impl_badLevel real)]) (ef := []) (sm := []) (un := 0) prog_ok (allOK_cons ok_impl_badLevel allOK_nil) smL_nil ?_
  intro vals hp q r h hq
  unfold S_slices_IndexFunc_float32_float32_level_L0 at h
  dsimp only at h
  split at h
  · rename_i y0 y1 y2
    obtain rfl := Option.some.inj h
    have h1 := hq
    unfold resOf at h1
    rw [chk_some] at h1
    exact ⟨_, (l_slices_IndexFunc_float32_float32_level_L0 real y0 y2 _ y1 h1.1).trans hq⟩
  · cases h
def Pure.slices_IndexFunc_float32_float32_level (F : FOps) (x0 : List (List Int)) : Int := bif Prod.fst (Prod.snd (Pure.slices_IndexFunc_float32_float32_level_L0 F (Int.ofNat x0.length) x0 (Nat.succ (x0.length + 0)) 0)) then Prod.snd (Prod.snd (Pure.slices_IndexFunc_float32_float32_level_L0 F (Int.ofNat x0.length) x0 (Nat.succ (x0.length + 0)) 0)) else (-1)
def Pure.slices_IndexFunc_float32_float32_level_ok (F : FOps) (x0 : List (List Int)) : Bool := Prod.fst (Pure.slices_IndexFunc_float32_float32_level_L0 F (Int.ofNat x0.length) x0 (Nat.succ (x0.length + 0)) 0)
def c_slices_IndexFunc_float32_float32_level (F : FOps) : Con
  | [V.at (A.sl 0), V.at (A.fn 83 [])], [⟨false, .rows [K.f .f32] x0⟩] => some (Pure.slices_IndexFunc_float32_float32_level_ok F x0, ⟨V.at (A.int .i64 (Pure.slices_IndexFunc_float32_float32_level F x0)), none, []⟩)
  | _, _ => none
theorem e_slices_IndexFunc_float32_float32_level (F : FOps) (x0 : List (List Int)) : Pure.slices_IndexFunc_float32_float32_level_ok F x0 = true → evFn (cxS F tyl [(83, c_impl_badLevel F)] [] [(0, S_slices_IndexFunc_float32_float32_level_L0 F)] 0) Try.f98 false [V.at (A.sl 0), V.at (A.fn 83 [])] [⟨false, .rows [K.f .f32] x0⟩] = some ⟨V.at (A.int .i64 (Pure.slices_IndexFunc_float32_float32_level F x0)), none, []⟩ := by
  have h0 : evFn (cxS F tyl [(83, c_impl_badLevel F)] [] [(0, S_slices_IndexFunc_float32_float32_level_L0 F)] 0) Try.f98 false [V.at (A.sl 0), V.at (A.fn 83 [])] [⟨false, .rows [K.f .f32] x0⟩] = bif Prod.fst (Pure.slices_IndexFunc_float32_float32_level_L0 F (Int.ofNat x0.length) x0 (Nat.succ (x0.length + 0)) 0) then bif Prod.fst (Prod.snd (Pure.slices_IndexFunc_float32_float32_level_L0 F (Int.ofNat x0.length) x0 (Nat.succ (x0.length + 0)) 0)) then some ⟨V.at (A.int .i64 (Prod.snd (Prod.snd (Pure.slices_IndexFunc_float32_float32_level_L0 F (Int.ofNat x0.length) x0 (Nat.succ (x0.length + 0)) 0)))), none, []⟩ else some ⟨V.at (A.int .i64 (-1)), none, []⟩ else none := by kernel_rfl
  rw [h0]
  unfold Pure.slices_IndexFunc_float32_float32_level Pure.slices_IndexFunc_float32_float32_level_ok
  cases (Prod.fst (Pure.slices_IndexFunc_float32_float32_level_L0 F (Int.ofNat x0.length) x0 (Nat.succ (x0.length + 0)) 0)) with
  | true =>
    cases (Prod.fst (Prod.snd (Pure.slices_IndexFunc_float32_float32_level_L0 F (Int.ofNat x0.length) x0 (Nat.succ (x0.length + 0)) 0))) with
    | true =>
      intro _; rfl
    | false =>
      intro _; rfl
  | false =>
    intro h; exact absurd h Bool.false_ne_true
theorem ok_slices_IndexFunc_float32_float32_level : CallOK Try.prog 98 (c_slices_IndexFunc_float32_float32_level real) := by
  refine callOK_of fun args h ret hc => ?_
  unfold c_slices_IndexFunc_float32_float32_level at hc
  split at hc
  · rename_i x0
    obtain ⟨hok, rfl⟩ := some_ret hc
    exact holds_ev prog_ok (allOK_cons ok_impl_badLevel allOK_nil) Try.func98 rfl rfl (smL_cons (body := .loop (loopB 0 (codeOf Try.f98))) (by kernel_rfl) t_slices_IndexFunc_float32_float32_level_L0 smL_nil) rfl (e_slices_IndexFunc_float32_float32_level real x0 hok)
  · cases hc
def c_slices_IndexFunc_float32_float32_or1 (F : FOps) : Con := orC (c_slices_IndexFunc_float32_float32_finite F) (c_slices_IndexFunc_float32_float32_level F)
theorem ok_slices_IndexFunc_float32_float32_or1 : CallOK Try.prog 98 (c_slices_IndexFunc_float32_float32_or1 real) := callOK_or ok_slices_IndexFunc_float32_float32_finite ok_slices_IndexFunc_float32_float32_level
def Pure.slices_ContainsFunc_float32_float32_finite (F : FOps) (x0 : List (List Int)) : Bool := decide ((Pure.slices_IndexFunc_float32_float32_finite F x0) ≥ 0)
def Pure.slices_ContainsFunc_float32_float32_finite_ok (F : FOps) (x0 : List (List Int)) : Bool := Pure.slices_IndexFunc_float32_float32_finite_ok F x0
def c_slices_ContainsFunc_float32_float32_finite (F : FOps) : Con
  | [V.at (A.sl 0), V.at (A.fn 94 [])], [⟨false, .rows [K.f .f32] x0⟩] => some (Pure.slices_ContainsFunc_float32_float32_finite_ok F x0, ⟨V.at (A.bool (Pure.slices_ContainsFunc_float32_float32_finite F x0)), none, []⟩)
  | _, _ => none
theorem e_slices_ContainsFunc_float32_float32_finite (F : FOps) (x0 : List (List Int)) : Pure.slices_ContainsFunc_float32_float32_finite_ok F x0 = true → evFn (cxS F tyl [(98, c_slices_IndexFunc_float32_float32_or1 F), (94, c_impl_finite_c1 F)] [] [] 0) Try.f82 false [V.at (A.sl 0), V.at (A.fn 94 [])] [⟨false, .rows [K.f .f32] x0⟩] = some ⟨V.at (A.bool (Pure.slices_ContainsFunc_float32_float32_finite F x0)), none, []⟩ := by
  have h0 : evFn (cxS F tyl [(98, c_slices_IndexFunc_float32_float32_or1 F), (94, c_impl_finite_c1 F)] [] [] 0) Try.f82 false [V.at (A.sl 0), V.at (A.fn 94 [])] [⟨false, .rows [K.f .f32] x0⟩] = bif Pure.slices_IndexFunc_float32_float32_finite_ok F x0 then some ⟨V.at (A.bool (decide ((Pure.slices_IndexFunc_float32_float32_finite F x0) ≥ 0))), none, []⟩ else none := by kernel_rfl
  rw [h0]
  unfold Pure.slices_ContainsFunc_float32_float32_finite Pure.slices_ContainsFunc_float32_float32_finite_ok
  cases (Pure.slices_IndexFunc_float32_float32_finite_ok F x0) with
  | true =>
    intro _; rfl
  | false =>
    intro h; exact absurd h Bool.false_ne_true
theorem ok_slices_ContainsFunc_float32_float32_finite : CallOK Try.prog 82 (c_slices_ContainsFunc_float32_float32_finite real) := by
  refine callOK_of fun args h ret hc => ?_
  unfold c_slices_ContainsFunc_float32_float32_finite at hc
  split at hc
  · rename_i x0
    obtain ⟨hok, rfl⟩ := some_ret hc
    exact holds_ev prog_ok (allOK_cons ok_slices_IndexFunc_float32_float32_or1 (allOK_cons ok_impl_finite_c1 allOK_nil)) Try.func82 rfl rfl smL_nil rfl (e_slices_ContainsFunc_float32_float32_finite real x0 hok)
  · cases hc
def Pure.slices_ContainsFunc_float32_float32_level (F : FOps) (x0 : List (List Int)) : Bool := decide ((Pure.slices_IndexFunc_float32_float32_level F x0) ≥ 0)
def Pure.slices_ContainsFunc_float32_float32_level_ok (F : FOps) (x0 : List (List Int)) : Bool := Pure.slices_IndexFunc_float32_float32_level_ok F x0
def c_slices_ContainsFunc_float32_float32_level (F : FOps) : Con
  | [V.at (A.sl 0), V.at (A.fn 83 [])], [⟨false, .rows [K.f .f32] x0⟩] => some (Pure.slices_ContainsFunc_float32_float32_level_ok F x0, ⟨V.at (A.bool (Pure.slices_ContainsFunc_float32_float32_level F x0)), none, []⟩)
  | _, _ => none
theorem e_slices_ContainsFunc_float32_float32_level (F : FOps) (x0 : List (List Int)) : Pure.slices_ContainsFunc_float32_float32_level_ok F x0 = true → evFn (cxS F tyl [(98, c_slices_IndexFunc_float32_float32_or1 F), (83, c_impl_badLevel F)] [] [] 0) Try.f82 false [V.at (A.sl 0), V.at (A.fn 83 [])] [⟨false, .rows [K.f .f32] x0⟩] = some ⟨V.at (A.bool (Pure.slices_ContainsFunc_float32_float32_level F x0)), none, []⟩ := by
  have h0 : evFn (cxS F tyl [(98, c_slices_IndexFunc_float32_float32_or1 F), (83, c_impl_badLevel F)] [] [] 0) Try.f82 false [V.at (A.sl 0), V.at (A.fn 83 [])] [⟨false, .rows [K.f .f32] x0⟩] = bif Pure.slices_IndexFunc_float32_float32_level_ok F x0 then some ⟨V.at (A.bool (decide ((Pure.slices_IndexFunc_float32_float32_level F x0) ≥ 0))), none, []⟩ else none := by kernel_rfl
  rw [h0]
  unfold Pure.slices_ContainsFunc_float32_float32_level Pure.slices_ContainsFunc_float32_float32_level_ok
  cases (Pure.slices_IndexFunc_float32_float32_level_ok F x0) with
  | true =>
    intro _; rfl
  | false =>
    intro h; exact absurd h Bool.false_ne_true
theorem ok_slices_ContainsFunc_float32_float32_level : CallOK Try.prog 82 (c_slices_ContainsFunc_float32_float32_level real) := by
  refine callOK_of fun args h ret hc => ?_
  unfold c_slices_ContainsFunc_float32_float32_level at hc
  split at hc
  · rename_i x0
    obtain ⟨hok, rfl⟩ := some_ret hc
    exact holds_ev prog_ok (allOK_cons ok_slices_IndexFunc_float32_float32_or1 (allOK_cons ok_impl_badLevel allOK_nil)) Try.func82 rfl rfl smL_nil rfl (e_slices_ContainsFunc_float32_float32_level real x0 hok)
  · cases hc
def c_slices_ContainsFunc_float32_float32_or1 (F : FOps) : Con := orC (c_slices_ContainsFunc_float32_float32_finite F) (c_slices_ContainsFunc_float32_float32_level F)
theorem ok_slices_ContainsFunc_float32_float32_or1 : CallOK Try.prog 82 (c_slices_ContainsFunc_float32_float32_or1 real) := callOK_or ok_slices_ContainsFunc_float32_float32_finite ok_slices_ContainsFunc_float32_float32_level
def Pure.impl_finite (F : FOps) (x0 : List (List Int)) : Bool := bif Pure.slices_ContainsFunc_float32_float32_finite F x0 then false else true
def Pure.impl_finite_ok (F : FOps) (x0 : List (List Int)) : Bool := Pure.slices_ContainsFunc_float32_float32_finite_ok F x0
def c_impl_finite (F : FOps) : Con
  | [V.at (A.sl 0)], [⟨false, .rows [K.f .f32] x0⟩] => some (Pure.impl_finite_ok F x0, ⟨V.at (A.bool (Pure.impl_finite F x0)), none, []⟩)
  | _, _ => none
theorem e_impl_finite (F : FOps) (x0 : List (List Int)) : Pure.impl_finite_ok F x0 = true → evFn (cxS F tyl [(82, c_slices_ContainsFunc_float32_float32_or1 F), (94, c_impl_finite_c1 F)] [] [] 0) Try.f72 false [V.at (A.sl 0)] [⟨false, .rows [K.f .f32] x0⟩] = some ⟨V.at (A.bool (Pure.impl_finite F x0)), none, []⟩ := by
  have h0 : evFn (cxS F tyl [(82, c_slices_ContainsFunc_float32_float32_or1 F), (94, c_impl_finite_c1 F)] [] [] 0) Try.f72 false [V.at (A.sl 0)] [⟨false, .rows [K.f .f32] x0⟩] = bif Pure.slices_ContainsFunc_float32_float32_finite_ok F x0 then some ⟨V.at (A.bool (bif Pure.slices_ContainsFunc_float32_float32_finite F x0 then false else true)), none, []⟩ else none := by kernel_rfl
  rw [h0]
  unfold Pure.impl_finite Pure.impl_finite_ok
  cases (Pure.slices_ContainsFunc_float32_float32_finite_ok F x0) with
  | true =>
    intro _; rfl
  | false =>
    intro h; exact absurd h Bool.false_ne_true
theorem ok_impl_finite : CallOK Try.prog 72 (c_impl_finite real) := by
  refine callOK_of fun args h ret hc => ?_
  unfold c_impl_finite at hc
  split at hc
  · rename_i x0
    obtain ⟨hok, rfl⟩ := some_ret hc
    exact holds_ev prog_ok (allOK_cons ok_slices_ContainsFunc_float32_float32_or1 (allOK_cons ok_impl_finite_c1 allOK_nil)) Try.func72 rfl rfl smL_nil rfl (e_impl_finite real x0 hok)
  · cases hc
def Pure.impl_finiteVector (F : FOps) (x0 x1 x2 : Int) : Bool := Pure.impl_finite F [[x0], [x1], [x2]]
def Pure.impl_finiteVector_ok (F : FOps) (x0 x1 x2 : Int) : Bool := Pure.impl_finite_ok F [[x0], [x1], [x2]]
def c_impl_finiteVector (F : FOps) : Con
  | [V.agg [A.fl .f32 x0, A.fl .f32 x1, A.fl .f32 x2]], [] => some (Pure.impl_finiteVector_ok F x0 x1 x2, ⟨V.at (A.bool (Pure.impl_finiteVector F x0 x1 x2)), none, []⟩)
  | _, _ => none
theorem e_impl_finiteVector (F : FOps) (x0 x1 x2 : Int) : Pure.impl_finiteVector_ok F x0 x1 x2 = true → evFn (cxS F tyl [(72, c_impl_finite F)] [] [] 0) Try.f47 false [V.agg [A.fl .f32 x0, A.fl .f32 x1, A.fl .f32 x2]] [] = some ⟨V.at (A.bool (Pure.impl_finiteVector F x0 x1 x2)), none, []⟩ := by
  have h0 : evFn (cxS F tyl [(72, c_impl_finite F)] [] [] 0) Try.f47 false [V.agg [A.fl .f32 x0, A.fl .f32 x1, A.fl .f32 x2]] [] = bif Pure.impl_finite_ok F [[x0], [x1], [x2]] then some ⟨V.at (A.bool (Pure.impl_finite F [[x0], [x1], [x2]])), none, []⟩ else none := by kernel_rfl
  rw [h0]
  unfold Pure.impl_finiteVector Pure.impl_finiteVector_ok
  cases (Pure.impl_finite_ok F [[x0], [x1], [x2]]) with
  | true =>
    intro _; rfl
  | false =>
    intro h; exact absurd h Bool.false_ne_true
theorem ok_impl_finiteVector : CallOK Try.prog 47 (c_impl_finiteVector real) := by
  refine callOK_of fun args h ret hc => ?_
  unfold c_impl_finiteVector at hc
  split at hc
  · rename_i x0 x1 x2
    obtain ⟨hok, rfl⟩ := some_ret hc
    exact holds_ev prog_ok (allOK_cons ok_impl_finite allOK_nil) Try.func47 rfl rfl smL_nil rfl (e_impl_finiteVector real x0 x1 x2 hok)
  · cases hc
def Pure.impl_badVector (F : FOps) (x0 x1 x2 : Int) : Bool := bif Pure.impl_finiteVector F x0 x1 x2 then false else true
def Pure.impl_badVector_ok (F : FOps) (x0 x1 x2 : Int) : Bool := Pure.impl_finiteVector_ok F x0 x1 x2
def c_impl_badVector (F : FOps) : Con
  | [V.agg [A.fl .f32 x0, A.fl .f32 x1, A.fl .f32 x2]], [] => some (Pure.impl_badVector_ok F x0 x1 x2, ⟨V.at (A.bool (Pure.impl_badVector F x0 x1 x2)), none, []⟩)
  | _, _ => none
theorem e_impl_badVector (F : FOps) (x0 x1 x2 : Int) : Pure.impl_badVector_ok F x0 x1 x2 = true → evFn (cxS F tyl [(47, c_impl_finiteVector F)] [] [] 0) Try.f81 false [V.agg [A.fl .f32 x0, A.fl .f32 x1, A.fl .f32 x2]] [] = some ⟨V.at (A.bool (Pure.impl_badVector F x0 x1 x2)), none, []⟩ := by
  have h0 : evFn (cxS F tyl [(47, c_impl_finiteVector F)] [] [] 0) Try.f81 false [V.agg [A.fl .f32 x0, A.fl .f32 x1, A.fl .f32 x2]] [] = bif Pure.impl_finiteVector_ok F x0 x1 x2 then some ⟨V.at (A.bool (bif Pure.impl_finiteVector F x0 x1 x2 then false else true)), none, []⟩ else none := by kernel_rfl
  rw [h0]
  unfold Pure.impl_badVector Pure.impl_badVector_ok
  cases (Pure.impl_finiteVector_ok F x0 x1 x2) with
  | true =>
    intro _; rfl
  | false =>
    intro h; exact absurd h Bool.false_ne_true
theorem ok_impl_badVector : CallOK Try.prog 81 (c_impl_badVector real) := by
  refine callOK_of fun args h ret hc => ?_
  unfold c_impl_badVector at hc
  split at hc
  · rename_i x0 x1 x2
    obtain ⟨hok, rfl⟩ := some_ret hc
    exact holds_ev prog_ok (allOK_cons ok_impl_finiteVector allOK_nil) Try.func81 rfl rfl smL_nil rfl (e_impl_badVector real x0 x1 x2 hok)
  · cases hc
def Pure.slices_IndexFunc_impl_Vector_impl_Vector_bad_L0 (F : FOps) (y0 : Int) (y2 : List (List Int)) : Nat → Int → (Bool × Bool × Int)
  | 0, _ => (false, false, 0)
  | n + 1, y1 => bif (decide (y1 < y0)) then (bif (decide (0 ≤ y1)) then (bif (decide (y1 < (Int.ofNat y2.length))) then (bif (Pure.impl_badVector_ok F ((y2.getD y1.toNat []).getD 0 0) ((y2.getD y1.toNat []).getD 1 0) ((y2.getD y1.toNat []).getD 2 0)) then (bif (Pure.impl_badVector F ((y2.getD y1.toNat []).getD 0 0) ((y2.getD y1.toNat []).getD 1 0) ((y2.getD y1.toNat []).getD 2 0)) then ((true, true, y1)) else (Pure.slices_IndexFunc_impl_Vector_impl_Vector_bad_L0 F y0 y2 n (IntKind.wrap .i64 (y1 + 1)))) else ((false, false, 0))) else ((false, false, 0))) else ((false, false, 0))) else ((true, false, 0))
def R_slices_IndexFunc_impl_Vector_impl_Vector_bad_L0 (y2 : List (List Int)) (r : (Bool × Bool × Int)) : Bool × Ends := ((r).1, .two (r).2.1 (.one Ex.normal [V.at A.undef] [⟨false, .rows [K.f .f32, K.f .f32, K.f .f32] y2⟩]) (.one Ex.ret [V.at (A.int .i64 (r).2.2)] [⟨false, .rows [K.f .f32, K.f .f32, K.f .f32] y2⟩]))
def S_slices_IndexFunc_impl_Vector_impl_Vector_bad_L0 (F : FOps) : Sm := ⟨[0, 1, 7, 8], [31, 67, 3, 3], [4], fun vals hp => match vals, hp with
  | [V.at (A.sl 0), V.at (A.fn 81 []), V.at (A.int .i64 y0), V.at (A.int .i64 y1)], [⟨false, .rows [K.f .f32, K.f .f32, K.f .f32] y2⟩] => some (R_slices_IndexFunc_impl_Vector_impl_Vector_bad_L0 y2 (Pure.slices_IndexFunc_impl_Vector_impl_Vector_bad_L0 F y0 y2 (y0 - y1 + 1).toNat y1))
  | _, _ => none⟩
theorem l_slices_IndexFunc_impl_Vector_impl_Vector_bad_L0 (F : FOps) (y0 : Int) (y2 : List (List Int)) : ∀ (fuel : Nat) (y1 : Int), (Pure.slices_IndexFunc_impl_Vector_impl_Vector_bad_L0 F y0 y2 fuel y1).1 = true → loopOf (cxS F tyl [(81, c_impl_badVector F)] [] [] 0) 1 19 0 [0, 1, 7, 8] [31, 67, 3, 3] [4] (loopB 0 (codeOf Try.f97)) fuel [V.at (A.sl 0), V.at (A.fn 81 []), V.at (A.int .i64 y0), V.at (A.int .i64 y1)] [⟨false, .rows [K.f .f32, K.f .f32, K.f .f32] y2⟩] = resOf (R_slices_IndexFunc_impl_Vector_impl_Vector_bad_L0 y2 (Pure.slices_IndexFunc_impl_Vector_impl_Vector_bad_L0 F y0 y2 fuel y1)) := by
  intro fuel
  induction fuel with
  | zero => intro y1 h; exact absurd h Bool.false_ne_true
  | succ n ih =>
    intro y1
    have h0 : roundOf (cxS F tyl [(81, c_impl_badVector F)] [] [] 0) 1 19 0 [0, 1, 7, 8] [31, 67, 3, 3] [4] (loopB 0 (codeOf Try.f97)) [V.at (A.sl 0), V.at (A.fn 81 []), V.at (A.int .i64 y0), V.at (A.int .i64 y1)] [⟨false, .rows [K.f .f32, K.f .f32, K.f .f32] y2⟩] = (bif decide (y1 < y0) then bif decide (0 ≤ y1) then bif decide (y1 < (Int.ofNat y2.length)) then bif Pure.impl_badVector_ok F ((y2.getD y1.toNat []).getD 0 0) ((y2.getD y1.toNat []).getD 1 0) ((y2.getD y1.toNat []).getD 2 0) then bif Pure.impl_badVector F ((y2.getD y1.toNat []).getD 0 0) ((y2.getD y1.toNat []).getD 1 0) ((y2.getD y1.toNat []).getD 2 0) then some (false, (Ex.ret, ([V.at (A.int .i64 y1)], [⟨false, .rows [K.f .f32, K.f .f32, K.f .f32] y2⟩]))) else some (true, (Ex.normal, ([V.at (A.sl 0), V.at (A.fn 81 []), V.at (A.int .i64 y0), V.at (A.int .i64 (IntKind.wrap .i64 (y1 + 1)))], [⟨false, .rows [K.f .f32, K.f .f32, K.f .f32] y2⟩]))) else none else none else none else some (false, (Ex.normal, ([V.at A.undef], [⟨false, .rows [K.f .f32, K.f .f32, K.f .f32] y2⟩])))) := by kernel_rfl
    unfold loopOf
    rw [h0]
    unfold Pure.slices_IndexFunc_impl_Vector_impl_Vector_bad_L0
    cases (decide (y1 < y0)) with
    | true =>
      cases (decide (0 ≤ y1)) with
      | true =>
        cases (decide (y1 < (Int.ofNat y2.length))) with
        | true =>
          cases (Pure.impl_badVector_ok F ((y2.getD y1.toNat []).getD 0 0) ((y2.getD y1.toNat []).getD 1 0) ((y2.getD y1.toNat []).getD 2 0)) with
          | true =>
            cases (Pure.impl_badVector F ((y2.getD y1.toNat []).getD 0 0) ((y2.getD y1.toNat []).getD 1 0) ((y2.getD y1.toNat []).getD 2 0)) with
            | true =>
              intro _; rfl
            | false =>
              exact ih _
          | false =>
            intro h; exact absurd h Bool.false_ne_true
        | false =>
          intro h; exact absurd h Bool.false_ne_true
      | false =>
        intro h; exact absurd h Bool.false_ne_true
    | false =>
      intro _; rfl
theorem t_slices_IndexFunc_impl_Vector_impl_Vector_bad_L0 : SmTo Try.prog 1 19 (S_slices_IndexFunc_impl_Vector_impl_Vector_bad_L0 real) 0 (.loop (loopB 0 (codeOf Try.f97))) := by
  refine smTo_ev (cl := [(81, c_impl_badVector real)]) (ef := []) (sm := []) (un := 0) prog_ok (allOK_cons ok_impl_badVector allOK_nil) smL_nil ?_
  intro vals hp q r h hq
  unfold S_slices_IndexFunc_impl_Vector_impl_Vector_bad_L0 at h
  dsimp only at h
  split at h
  · rename_i y0 y1 y2
    obtain rfl := Option.some.inj h
    have h1 := hq
    unfold resOf at h1
    rw [chk_some] at h1
    exact ⟨_, (l_slices_IndexFunc_impl_Vector_impl_Vector_bad_L0 real y0 y2 _ y1 h1.1).trans hq⟩
  · cases h
def Pure.slices_IndexFunc_impl_Vector_impl_Vector_bad (F : FOps) (x0 : List (List Int)) : Int := bif Prod.fst (Prod.snd (Pure.slices_IndexFunc_impl_Vector_impl_Vector_bad_L0 F (Int.ofNat x0.length) x0 (Nat.succ (x0.length + 0)) 0)) then Prod.snd (Prod.snd (Pure.slices_IndexFunc_impl_Vector_impl_Vector_bad_L0 F (Int.ofNat x0.length) x0 (Nat.succ (x0.length + 0)) 0)) else (-1)
def Pure.slices_IndexFunc_impl_Vector_impl_Vector_bad_ok (F : FOps) (x0 : List (List Int)) : Bool := Prod.fst (Pure.slices_IndexFunc_impl_Vector_impl_Vector_bad_L0 F (Int.ofNat x0.length) x0 (Nat.succ (x0.length + 0)) 0)
def c_slices_IndexFunc_impl_Vector_impl_Vector_bad (F : FOps) : Con
  | [V.at (A.sl 0), V.at (A.fn 81 [])], [⟨false, .rows [K.f .f32, K.f .f32, K.f .f32] x0⟩] => some (Pure.slices_IndexFunc_impl_Vector_impl_Vector_bad_ok F x0, ⟨V.at (A.int .i64 (Pure.slices_IndexFunc_impl_Vector_impl_Vector_bad F x0)), none, []⟩)
  | _, _ => none
theorem e_slices_IndexFunc_impl_Vector_impl_Vector_bad (F : FOps) (x0 : List (List Int)) : Pure.slices_IndexFunc_impl_Vector_impl_Vector_bad_ok F x0 = true → evFn (cxS F tyl [(81, c_impl_badVector F)] [] [(0, S_slices_IndexFunc_impl_Vector_impl_Vector_bad_L0 F)] 0) Try.f97 false [V.at (A.sl 0), V.at (A.fn 81 [])] [⟨false, .rows [K.f .f32, K.f .f32, K.f .f32] x0⟩] = some ⟨V.at (A.int .i64 (Pure.slices_IndexFunc_impl_Vector_impl_Vector_bad F x0)), none, []⟩ := by
  have h0 : evFn (cxS F tyl [(81, c_impl_badVector F)] [] [(0, S_slices_IndexFunc_impl_Vector_impl_Vector_bad_L0 F)] 0) Try.f97 false [V.at (A.sl 0), V.at (A.fn 81 [])] [⟨false, .rows [K.f .f32, K.f .f32, K.f .f32] x0⟩] = bif Prod.fst (Pure.slices_IndexFunc_impl_Vector_impl_Vector_bad_L0 F (Int.ofNat x0.length) x0 (Nat.succ (x0.length + 0)) 0) then bif Prod.fst (Prod.snd (Pure.slices_IndexFunc_impl_Vector_impl_Vector_bad_L0 F (Int.ofNat x0.length) x0 (Nat.succ (x0.length + 0)) 0)) then some ⟨V.at (A.int .i64 (Prod.snd (Prod.snd (Pure.slices_IndexFunc_impl_Vector_impl_Vector_bad_L0 F (Int.ofNat x0.length) x0 (Nat.succ (x0.length + 0)) 0)))), none, []⟩ else some ⟨V.at (A.int .i64 (-1)), none, []⟩ else none := by kernel_rfl
  rw [h0]
  unfold Pure.slices_IndexFunc_impl_Vector_impl_Vector_bad Pure.slices_IndexFunc_impl_Vector_impl_Vector_bad_ok
  cases (Prod.fst (Pure.slices_IndexFunc_impl_Vector_impl_Vector_bad_L0 F (Int.ofNat x0.length) x0 (Nat.succ (x0.length + 0)) 0)) with
  | true =>
    cases (Prod.fst (Prod.snd (Pure.slices_IndexFunc_impl_Vector_impl_Vector_bad_L0 F (Int.ofNat x0.length) x0 (Nat.succ (x0.length + 0)) 0))) with
    | true =>
      intro _; rfl
    | false =>
      intro _; rfl
  | false =>
    intro h; exact absurd h Bool.false_ne_true
theorem ok_slices_IndexFunc_impl_Vector_impl_Vector_bad : CallOK Try.prog 97 (c_slices_IndexFunc_impl_Vector_impl_Vector_bad real) := by
  refine callOK_of fun args h ret hc => ?_
  unfold c_slices_IndexFunc_impl_Vector_impl_Vector_bad at hc
  split at hc
  · rename_i x0
    obtain ⟨hok, rfl⟩ := some_ret hc
    exact holds_ev prog_ok (allOK_cons ok_impl_badVector allOK_nil) Try.func97 rfl rfl (smL_cons (body := .loop (loopB 0 (codeOf Try.f97))) (by kernel_rfl) t_slices_IndexFunc_impl_Vector_impl_Vector_bad_L0 smL_nil) rfl (e_slices_IndexFunc_impl_Vector_impl_Vector_bad real x0 hok)
  · cases hc
def Pure.slices_ContainsFunc_impl_Vector_impl_Vector_bad (F : FOps) (x0 : List (List Int)) : Bool := decide ((Pure.slices_IndexFunc_impl_Vector_impl_Vector_bad F x0) ≥ 0)
def Pure.slices_ContainsFunc_impl_Vector_impl_Vector_bad_ok (F : FOps) (x0 : List (List Int)) : Bool := Pure.slices_IndexFunc_impl_Vector_impl_Vector_bad_ok F x0
def c_slices_ContainsFunc_impl_Vector_impl_Vector_bad (F : FOps) : Con
  | [V.at (A.sl 0), V.at (A.fn 81 [])], [⟨false, .rows [K.f .f32, K.f .f32, K.f .f32] x0⟩] => some (Pure.slices_ContainsFunc_impl_Vector_impl_Vector_bad_ok F x0, ⟨V.at (A.bool (Pure.slices_ContainsFunc_impl_Vector_impl_Vector_bad F x0)), none, []⟩)
  | _, _ => none
theorem e_slices_ContainsFunc_impl_Vector_impl_Vector_bad (F : FOps) (x0 : List (List Int)) : Pure.slices_ContainsFunc_impl_Vector_impl_Vector_bad_ok F x0 = true → evFn (cxS F tyl [(97, c_slices_IndexFunc_impl_Vector_impl_Vector_bad F), (81, c_impl_badVector F)] [] [] 0) Try.f80 false [V.at (A.sl 0), V.at (A.fn 81 [])] [⟨false, .rows [K.f .f32, K.f .f32, K.f .f32] x0⟩] = some ⟨V.at (A.bool (Pure.slices_ContainsFunc_impl_Vector_impl_Vector_bad F x0)), none, []⟩ := by
  have h0 : evFn (cxS F tyl [(97, c_slices_IndexFunc_impl_Vector_impl_Vector_bad F), (81, c_impl_badVector F)] [] [] 0) Try.f80 false [V.at (A.sl 0), V.at (A.fn 81 [])] [⟨false, .rows [K.f .f32, K.f .f32, K.f .f32] x0⟩] = bif Pure.slices_IndexFunc_impl_Vector_impl_Vector_bad_ok F x0 then some ⟨V.at (A.bool (decide ((Pure.slices_IndexFunc_impl_Vector_impl_Vector_bad F x0) ≥ 0))), none, []⟩ else none := by kernel_rfl
  rw [h0]
  unfold Pure.slices_ContainsFunc_impl_Vector_impl_Vector_bad Pure.slices_ContainsFunc_impl_Vector_impl_Vector_bad_ok
  cases (Pure.slices_IndexFunc_impl_Vector_impl_Vector_bad_ok F x0) with
  | true =>
    intro _; rfl
  | false =>
    intro h; exact absurd h Bool.false_ne_true
theorem ok_slices_ContainsFunc_impl_Vector_impl_Vector_bad : CallOK Try.prog 80 (c_slices_ContainsFunc_impl_Vector_impl_Vector_bad real) := by
  refine callOK_of fun args h ret hc => ?_
  unfold c_slices_ContainsFunc_impl_Vector_impl_Vector_bad at hc
  split at hc
  · rename_i x0
    obtain ⟨hok, rfl⟩ := some_ret hc
    exact holds_ev prog_ok (allOK_cons ok_slices_IndexFunc_impl_Vector_impl_Vector_bad (allOK_cons ok_impl_badVector allOK_nil)) Try.func80 rfl rfl smL_nil rfl (e_slices_ContainsFunc_impl_Vector_impl_Vector_bad real x0 hok)
  · cases hc
def Pure.spec_l01Finite (F : FOps) (x0 : Int) : Bool := F.cmp .eql .f32 (F.bin .sub .f32 x0 x0) 0
def c_spec_l01Finite (F : FOps) : Con
  | [V.at (A.fl .f32 x0)], [] => some (true, ⟨V.at (A.bool (Pure.spec_l01Finite F x0)), none, []⟩)
  | _, _ => none
theorem e_spec_l01Finite (F : FOps) (x0 : Int) : evFn (cxS F tyl [] [] [] 0) Try.f69 false [V.at (A.fl .f32 x0)] [] = some ⟨V.at (A.bool (Pure.spec_l01Finite F x0)), none, []⟩ := by
  kernel_rfl
theorem ok_spec_l01Finite : CallOK Try.prog 69 (c_spec_l01Finite real) := by
  refine callOK_of fun args h ret hc => ?_
  unfold c_spec_l01Finite at hc
  split at hc
  · rename_i x0
    obtain ⟨_, rfl⟩ := some_ret hc
    exact holds_ev prog_ok allOK_nil Try.func69 rfl rfl smL_nil rfl (e_spec_l01Finite real x0)
  · cases hc
def Pure.spec_l01VFinite (F : FOps) (x0 x1 x2 : Int) : Bool := bif Pure.spec_l01Finite F x0 then bif Pure.spec_l01Finite F x1 then Pure.spec_l01Finite F x2 else false else false
def c_spec_l01VFinite (F : FOps) : Con
  | [V.agg [A.fl .f32 x0, A.fl .f32 x1, A.fl .f32 x2]], [] => some (true, ⟨V.at (A.bool (Pure.spec_l01VFinite F x0 x1 x2)), none, []⟩)
  | _, _ => none
theorem e_spec_l01VFinite (F : FOps) (x0 x1 x2 : Int) : evFn (cxS F tyl [(69, c_spec_l01Finite F)] [] [] 0) Try.f42 false [V.agg [A.fl .f32 x0, A.fl .f32 x1, A.fl .f32 x2]] [] = some ⟨V.at (A.bool (Pure.spec_l01VFinite F x0 x1 x2)), none, []⟩ := by
  have h0 : evFn (cxS F tyl [(69, c_spec_l01Finite F)] [] [] 0) Try.f42 false [V.agg [A.fl .f32 x0, A.fl .f32 x1, A.fl .f32 x2]] [] = bif Pure.spec_l01Finite F x0 then bif Pure.spec_l01Finite F x1 then some ⟨V.at (A.bool (Pure.spec_l01Finite F x2)), none, []⟩ else some ⟨V.at (A.bool false), none, []⟩ else some ⟨V.at (A.bool false), none, []⟩ := by kernel_rfl
  rw [h0]
  unfold Pure.spec_l01VFinite
  cases (Pure.spec_l01Finite F x0) with
  | true =>
    cases (Pure.spec_l01Finite F x1) with
    | true =>
      rfl
    | false =>
      rfl
  | false =>
    rfl
theorem ok_spec_l01VFinite : CallOK Try.prog 42 (c_spec_l01VFinite real) := by
  refine callOK_of fun args h ret hc => ?_
  unfold c_spec_l01VFinite at hc
  split at hc
  · rename_i x0 x1 x2
    obtain ⟨_, rfl⟩ := some_ret hc
    exact holds_ev prog_ok (allOK_cons ok_spec_l01Finite allOK_nil) Try.func42 rfl rfl smL_nil rfl (e_spec_l01VFinite real x0 x1 x2)
  · cases hc
def Pure.spec_l03Least (F : FOps) (x0 : Int) : Bool := bif Pure.spec_l01Finite F x0 then F.cmp .geq .f32 x0 0 else false
def c_spec_l03Least (F : FOps) : Con
  | [V.at (A.fl .f32 x0)], [] => some (true, ⟨V.at (A.bool (Pure.spec_l03Least F x0)), none, []⟩)
  | _, _ => none
theorem e_spec_l03Least (F : FOps) (x0 : Int) : evFn (cxS F tyl [(69, c_spec_l01Finite F)] [] [] 0) Try.f55 false [V.at (A.fl .f32 x0)] [] = some ⟨V.at (A.bool (Pure.spec_l03Least F x0)), none, []⟩ := by
  have h0 : evFn (cxS F tyl [(69, c_spec_l01Finite F)] [] [] 0) Try.f55 false [V.at (A.fl .f32 x0)] [] = bif Pure.spec_l01Finite F x0 then some ⟨V.at (A.bool (F.cmp .geq .f32 x0 0)), none, []⟩ else some ⟨V.at (A.bool false), none, []⟩ := by kernel_rfl
  rw [h0]
  unfold Pure.spec_l03Least
  cases (Pure.spec_l01Finite F x0) with
  | true =>
    rfl
  | false =>
    rfl
theorem ok_spec_l03Least : CallOK Try.prog 55 (c_spec_l03Least real) := by
  refine callOK_of fun args h ret hc => ?_
  unfold c_spec_l03Least at hc
  split at hc
  · rename_i x0
    obtain ⟨_, rfl⟩ := some_ret hc
    exact holds_ev prog_ok (allOK_cons ok_spec_l01Finite allOK_nil) Try.func55 rfl rfl smL_nil rfl (e_spec_l03Least real x0)
  · cases hc
def Pure.spec_l00In (F : FOps) (x0 x1 x2 : Int) : Bool := bif decide (x0 ≥ x1) then decide (x0 ≤ x2) else false
def c_spec_l00In (F : FOps) : Con
  | [V.at (A.int .i64 x0), V.at (A.int .i64 x1), V.at (A.int .i64 x2)], [] => some (true, ⟨V.at (A.bool (Pure.spec_l00In F x0 x1 x2)), none, []⟩)
  | _, _ => none
theorem e_spec_l00In (F : FOps) (x0 x1 x2 : Int) : evFn (cxS F tyl [] [] [] 0) Try.f43 false [V.at (A.int .i64 x0), V.at (A.int .i64 x1), V.at (A.int .i64 x2)] [] = some ⟨V.at (A.bool (Pure.spec_l00In F x0 x1 x2)), none, []⟩ := by
  have h0 : evFn (cxS F tyl [] [] [] 0) Try.f43 false [V.at (A.int .i64 x0), V.at (A.int .i64 x1), V.at (A.int .i64 x2)] [] = bif decide (x0 ≥ x1) then some ⟨V.at (A.bool (decide (x0 ≤ x2))), none, []⟩ else some ⟨V.at (A.bool false), none, []⟩ := by kernel_rfl
  rw [h0]
  unfold Pure.spec_l00In
  cases (decide (x0 ≥ x1)) with
  | true =>
    rfl
  | false =>
    rfl
theorem ok_spec_l00In : CallOK Try.prog 43 (c_spec_l00In real) := by
  refine callOK_of fun args h ret hc => ?_
  unfold c_spec_l00In at hc
  split at hc
  · rename_i x0 x1 x2
    obtain ⟨_, rfl⟩ := some_ret hc
    exact holds_ev prog_ok allOK_nil Try.func43 rfl rfl smL_nil rfl (e_spec_l00In real x0 x1 x2)
  · cases hc
def Pure.spec_l03Is_L0 (F : FOps) (y0 y1 : Int) (y3 y4 y5 y6 : List (List Int)) : Nat → Int → (Bool × Bool)
  | 0, _ => (false, false)
  | n + 1, y2 => bif (decide (y2 < y1)) then (bif (decide (0 ≤ y2)) then (bif (decide (y2 < (Int.ofNat y3.length))) then (bif (Pure.spec_l01VFinite F ((y3.getD y2.toNat []).getD 0 0) ((y3.getD y2.toNat []).getD 1 0) ((y3.getD y2.toNat []).getD 2 0)) then (bif (decide (0 ≤ y2)) then (bif (decide (y2 < (Int.ofNat y4.length))) then (bif (Pure.spec_l01VFinite F ((y4.getD y2.toNat []).getD 0 0) ((y4.getD y2.toNat []).getD 1 0) ((y4.getD y2.toNat []).getD 2 0)) then (bif (decide (0 ≤ y2)) then (bif (decide (y2 < (Int.ofNat y5.length))) then (bif (Pure.spec_l03Least F ((y5.getD y2.toNat []).getD 0 0)) then (Pure.spec_l03Is_L0 F y0 y1 y3 y4 y5 y6 n (IntKind.wrap .i64 (y2 + 1))) else ((true, true))) else ((false, false))) else ((false, false))) else ((true, true))) else ((false, false))) else ((false, false))) else ((true, true))) else ((false, false))) else ((false, false))) else ((true, false))
def R_spec_l03Is_L0 (y0 : Int) (y3 y4 y5 y6 : List (List Int)) (r : (Bool × Bool)) : Bool × Ends := ((r).1, .two (r).2 (.one Ex.normal [V.at (A.ptr 0 0 0), V.at A.undef, V.at (A.int .i64 y0)] [⟨false, .box [A.sl 1, A.sl 2, A.sl 3, A.sl 4]⟩, ⟨false, .rows [K.f .f32, K.f .f32, K.f .f32] y3⟩, ⟨false, .rows [K.f .f32, K.f .f32, K.f .f32] y4⟩, ⟨false, .rows [K.f .f32] y5⟩, ⟨false, .rows [K.i .i64, K.i .i64, K.f .f32] y6⟩]) (.one Ex.ret [V.at (A.ptr 0 0 0), V.at (A.bool false), V.at (A.int .i64 y0)] [⟨false, .box [A.sl 1, A.sl 2, A.sl 3, A.sl 4]⟩, ⟨false, .rows [K.f .f32, K.f .f32, K.f .f32] y3⟩, ⟨false, .rows [K.f .f32, K.f .f32, K.f .f32] y4⟩, ⟨false, .rows [K.f .f32] y5⟩, ⟨false, .rows [K.i .i64, K.i .i64, K.f .f32] y6⟩]))
def S_spec_l03Is_L0 (F : FOps) : Sm := ⟨[0, 3, 44, 45], [54, 3, 3, 3], [0, 2, 3], fun vals hp => match vals, hp with
  | [V.at (A.ptr 0 0 0), V.at (A.int .i64 y0), V.at (A.int .i64 y1), V.at (A.int .i64 y2)], [⟨false, .box [A.sl 1, A.sl 2, A.sl 3, A.sl 4]⟩, ⟨false, .rows [K.f .f32, K.f .f32, K.f .f32] y3⟩, ⟨false, .rows [K.f .f32, K.f .f32, K.f .f32] y4⟩, ⟨false, .rows [K.f .f32] y5⟩, ⟨false, .rows [K.i .i64, K.i .i64, K.f .f32] y6⟩] => some (R_spec_l03Is_L0 y0 y3 y4 y5 y6 (Pure.spec_l03Is_L0 F y0 y1 y3 y4 y5 y6 (y1 - y2 + 1).toNat y2))
  | _, _ => none⟩
theorem l_spec_l03Is_L0 (F : FOps) (y0 y1 : Int) (y3 y4 y5 y6 : List (List Int)) : ∀ (fuel : Nat) (y2 : Int), (Pure.spec_l03Is_L0 F y0 y1 y3 y4 y5 y6 fuel y2).1 = true → loopOf (cxS F tyl [(42, c_spec_l01VFinite F), (55, c_spec_l03Least F), (43, c_spec_l00In F)] [] [] 0) 5 123 0 [0, 3, 44, 45] [54, 3, 3, 3] [0, 2, 3] (loopB 0 (codeOf Try.f24)) fuel [V.at (A.ptr 0 0 0), V.at (A.int .i64 y0), V.at (A.int .i64 y1), V.at (A.int .i64 y2)] [⟨false, .box [A.sl 1, A.sl 2, A.sl 3, A.sl 4]⟩, ⟨false, .rows [K.f .f32, K.f .f32, K.f .f32] y3⟩, ⟨false, .rows [K.f .f32, K.f .f32, K.f .f32] y4⟩, ⟨false, .rows [K.f .f32] y5⟩, ⟨false, .rows [K.i .i64, K.i .i64, K.f .f32] y6⟩] = resOf (R_spec_l03Is_L0 y0 y3 y4 y5 y6 (Pure.spec_l03Is_L0 F y0 y1 y3 y4 y5 y6 fuel y2)) := by
  intro fuel
  induction fuel with
  | zero => intro y2 h; exact absurd h Bool.false_ne_true
  | succ n ih =>
    intro y2
    have h0 : roundOf (cxS F tyl [(42, c_spec_l01VFinite F), (55, c_spec_l03Least F), (43, c_spec_l00In F)] [] [] 0) 5 123 0 [0, 3, 44, 45] [54, 3, 3, 3] [0, 2, 3] (loopB 0 (codeOf Try.f24)) [V.at (A.ptr 0 0 0), V.at (A.int .i64 y0), V.at (A.int .i64 y1), V.at (A.int .i64 y2)] [⟨false, .box [A.sl 1, A.sl 2, A.sl 3, A.sl 4]⟩, ⟨false, .rows [K.f .f32, K.f .f32, K.f .f32] y3⟩, ⟨false, .rows [K.f .f32, K.f .f32, K.f .f32] y4⟩, ⟨false, .rows [K.f .f32] y5⟩, ⟨false, .rows [K.i .i64, K.i .i64, K.f .f32] y6⟩] = (bif decide (y2 < y1) then bif decide (0 ≤ y2) then bif decide (y2 < (Int.ofNat y3.length)) then bif Bool.not (Pure.spec_l01VFinite F ((y3.getD y2.toNat []).getD 0 0) ((y3.getD y2.toNat []).getD 1 0) ((y3.getD y2.toNat []).getD 2 0)) then some (false, (Ex.ret, ([V.at (A.ptr 0 0 0), V.at (A.bool false), V.at (A.int .i64 y0)], [⟨false, .box [A.sl 1, A.sl 2, A.sl 3, A.sl 4]⟩, ⟨false, .rows [K.f .f32, K.f .f32, K.f .f32] y3⟩, ⟨false, .rows [K.f .f32, K.f .f32, K.f .f32] y4⟩, ⟨false, .rows [K.f .f32] y5⟩, ⟨false, .rows [K.i .i64, K.i .i64, K.f .f32] y6⟩]))) else bif decide (0 ≤ y2) then bif decide (y2 < (Int.ofNat y4.length)) then bif Bool.not (Pure.spec_l01VFinite F ((y4.getD y2.toNat []).getD 0 0) ((y4.getD y2.toNat []).getD 1 0) ((y4.getD y2.toNat []).getD 2 0)) then some (false, (Ex.ret, ([V.at (A.ptr 0 0 0), V.at (A.bool false), V.at (A.int .i64 y0)], [⟨false, .box [A.sl 1, A.sl 2, A.sl 3, A.sl 4]⟩, ⟨false, .rows [K.f .f32, K.f .f32, K.f .f32] y3⟩, ⟨false, .rows [K.f .f32, K.f .f32, K.f .f32] y4⟩, ⟨false, .rows [K.f .f32] y5⟩, ⟨false, .rows [K.i .i64, K.i .i64, K.f .f32] y6⟩]))) else bif decide (0 ≤ y2) then bif decide (y2 < (Int.ofNat y5.length)) then bif Bool.not (Pure.spec_l03Least F ((y5.getD y2.toNat []).getD 0 0)) then some (false, (Ex.ret, ([V.at (A.ptr 0 0 0), V.at (A.bool false), V.at (A.int .i64 y0)], [⟨false, .box [A.sl 1, A.sl 2, A.sl 3, A.sl 4]⟩, ⟨false, .rows [K.f .f32, K.f .f32, K.f .f32] y3⟩, ⟨false, .rows [K.f .f32, K.f .f32, K.f .f32] y4⟩, ⟨false, .rows [K.f .f32] y5⟩, ⟨false, .rows [K.i .i64, K.i .i64, K.f .f32] y6⟩]))) else some (true, (Ex.normal, ([V.at (A.ptr 0 0 0), V.at (A.int .i64 y0), V.at (A.int .i64 y1), V.at (A.int .i64 (IntKind.wrap .i64 (y2 + 1)))], [⟨false, .box [A.sl 1, A.sl 2, A.sl 3, A.sl 4]⟩, ⟨false, .rows [K.f .f32, K.f .f32, K.f .f32] y3⟩, ⟨false, .rows [K.f .f32, K.f .f32, K.f .f32] y4⟩, ⟨false, .rows [K.f .f32] y5⟩, ⟨false, .rows [K.i .i64, K.i .i64, K.f .f32] y6⟩]))) else none else none else none else none else none else none else some (false, (Ex.normal, ([V.at (A.ptr 0 0 0), V.at A.undef, V.at (A.int .i64 y0)], [⟨false, .box [A.sl 1, A.sl 2, A.sl 3, A.sl 4]⟩, ⟨false, .rows [K.f .f32, K.f .f32, K.f .f32] y3⟩, ⟨false, .rows [K.f .f32, K.f .f32, K.f .f32] y4⟩, ⟨false, .rows [K.f .f32] y5⟩, ⟨false, .rows [K.i .i64, K.i .i64, K.f .f32] y6⟩])))) := by kernel_rfl
    unfold loopOf
    rw [h0]
    unfold Pure.spec_l03Is_L0
    cases (decide (y2 < y1)) with
    | true =>
      cases (decide (0 ≤ y2)) with
      | true =>
        cases (decide (y2 < (Int.ofNat y3.length))) with
        | true =>
          cases (Pure.spec_l01VFinite F ((y3.getD y2.toNat []).getD 0 0) ((y3.getD y2.toNat []).getD 1 0) ((y3.getD y2.toNat []).getD 2 0)) with
          | true =>
            cases (decide (y2 < (Int.ofNat y4.length))) with
            | true =>
              cases (Pure.spec_l01VFinite F ((y4.getD y2.toNat []).getD 0 0) ((y4.getD y2.toNat []).getD 1 0) ((y4.getD y2.toNat []).getD 2 0)) with
              | true =>
                cases (decide (y2 < (Int.ofNat y5.length))) with
                | true =>
                  cases (Pure.spec_l03Least F ((y5.getD y2.toNat []).getD 0 0)) with
                  | true =>
                    exact ih _
                  | false =>
                    intro _; rfl
                | false =>
                  intro h; exact absurd h Bool.false_ne_true
              | false =>
                intro _; rfl
            | false =>
              intro h; exact absurd h Bool.false_ne_true
          | false =>
            intro _; rfl
        | false =>
          intro h; exact absurd h Bool.false_ne_true
      | false =>
        intro h; exact absurd h Bool.false_ne_true
    | false =>
      intro _; rfl
theorem t_spec_l03Is_L0 : SmTo Try.prog 5 123 (S_spec_l03Is_L0 real) 0 (.loop (loopB 0 (codeOf Try.f24))) := by
  refine smTo_ev (cl := [(42, c_spec_l01VFinite real), (55, c_spec_l03Least real), (43, c_spec_l00In real)]) (ef := []) (sm := []) (un := 0) prog_ok (allOK_cons ok_spec_l01VFinite (allOK_cons ok_spec_l03Least (allOK_cons ok_spec_l00In allOK_nil))) smL_nil ?_
  intro vals hp q r h hq
  unfold S_spec_l03Is_L0 at h
  dsimp only at h
  split at h
  · rename_i y0 y1 y2 y3 y4 y5 y6
    obtain rfl := Option.some.inj h
    have h1 := hq
    unfold resOf at h1
    rw [chk_some] at h1
    exact ⟨_, (l_spec_l03Is_L0 real y0 y1 y3 y4 y5 y6 _ y2 h1.1).trans hq⟩
  · cases h
def Pure.spec_l03Is_L2 (F : FOps) (y0 y1 : Int) (y3 y4 y5 y6 : List (List Int)) : Nat → Int → (Bool × Bool)
  | 0, _ => (false, false)
  | n + 1, y2 => bif (decide (y2 < y1)) then (bif (decide (0 ≤ y2)) then (bif (decide (y2 < (Int.ofNat y6.length))) then (bif (Pure.spec_l00In F ((y6.getD y2.toNat []).getD 0 0) 0 (IntKind.wrap .i64 (y0 - 1))) then (bif (Pure.spec_l00In F ((y6.getD y2.toNat []).getD 1 0) 0 (IntKind.wrap .i64 (y0 - 1))) then (bif (((y6.getD y2.toNat []).getD 0 0) == ((y6.getD y2.toNat []).getD 1 0)) then ((true, true)) else (bif (Pure.spec_l03Least F ((y6.getD y2.toNat []).getD 2 0)) then (Pure.spec_l03Is_L2 F y0 y1 y3 y4 y5 y6 n (IntKind.wrap .i64 (y2 + 1))) else ((true, true)))) else ((true, true))) else ((true, true))) else ((false, false))) else ((false, false))) else ((true, false))
def R_spec_l03Is_L2 (y3 y4 y5 y6 : List (List Int)) (r : (Bool × Bool)) : Bool × Ends := ((r).1, .two (r).2 (.one Ex.normal [V.at A.undef] [⟨false, .box [A.sl 1, A.sl 2, A.sl 3, A.sl 4]⟩, ⟨false, .rows [K.f .f32, K.f .f32, K.f .f32] y3⟩, ⟨false, .rows [K.f .f32, K.f .f32, K.f .f32] y4⟩, ⟨false, .rows [K.f .f32] y5⟩, ⟨false, .rows [K.i .i64, K.i .i64, K.f .f32] y6⟩]) (.one Ex.ret [V.at (A.bool false)] [⟨false, .box [A.sl 1, A.sl 2, A.sl 3, A.sl 4]⟩, ⟨false, .rows [K.f .f32, K.f .f32, K.f .f32] y3⟩, ⟨false, .rows [K.f .f32, K.f .f32, K.f .f32] y4⟩, ⟨false, .rows [K.f .f32] y5⟩, ⟨false, .rows [K.i .i64, K.i .i64, K.f .f32] y6⟩]))
def S_spec_l03Is_L2 (F : FOps) : Sm := ⟨[0, 3, 84, 85], [54, 3, 3, 3], [2], fun vals hp => match vals, hp with
  | [V.at (A.ptr 0 0 0), V.at (A.int .i64 y0), V.at (A.int .i64 y1), V.at (A.int .i64 y2)], [⟨false, .box [A.sl 1, A.sl 2, A.sl 3, A.sl 4]⟩, ⟨false, .rows [K.f .f32, K.f .f32, K.f .f32] y3⟩, ⟨false, .rows [K.f .f32, K.f .f32, K.f .f32] y4⟩, ⟨false, .rows [K.f .f32] y5⟩, ⟨false, .rows [K.i .i64, K.i .i64, K.f .f32] y6⟩] => some (R_spec_l03Is_L2 y3 y4 y5 y6 (Pure.spec_l03Is_L2 F y0 y1 y3 y4 y5 y6 (y1 - y2 + 1).toNat y2))
  | _, _ => none⟩
theorem l_spec_l03Is_L2 (F : FOps) (y0 y1 : Int) (y3 y4 y5 y6 : List (List Int)) : ∀ (fuel : Nat) (y2 : Int), (Pure.spec_l03Is_L2 F y0 y1 y3 y4 y5 y6 fuel y2).1 = true → loopOf (cxS F tyl [(42, c_spec_l01VFinite F), (55, c_spec_l03Least F), (43, c_spec_l00In F)] [] [] 0) 5 123 2 [0, 3, 84, 85] [54, 3, 3, 3] [2] (loopB 2 (codeOf Try.f24)) fuel [V.at (A.ptr 0 0 0), V.at (A.int .i64 y0), V.at (A.int .i64 y1), V.at (A.int .i64 y2)] [⟨false, .box [A.sl 1, A.sl 2, A.sl 3, A.sl 4]⟩, ⟨false, .rows [K.f .f32, K.f .f32, K.f .f32] y3⟩, ⟨false, .rows [K.f .f32, K.f .f32, K.f .f32] y4⟩, ⟨false, .rows [K.f .f32] y5⟩, ⟨false, .rows [K.i .i64, K.i .i64, K.f .f32] y6⟩] = resOf (R_spec_l03Is_L2 y3 y4 y5 y6 (Pure.spec_l03Is_L2 F y0 y1 y3 y4 y5 y6 fuel y2)) := by
  intro fuel
  induction fuel with
  | zero => intro y2 h; exact absurd h Bool.false_ne_true
  | succ n ih =>
    intro y2
    have h0 : roundOf (cxS F tyl [(42, c_spec_l01VFinite F), (55, c_spec_l03Least F), (43, c_spec_l00In F)] [] [] 0) 5 123 2 [0, 3, 84, 85] [54, 3, 3, 3] [2] (loopB 2 (codeOf Try.f24)) [V.at (A.ptr 0 0 0), V.at (A.int .i64 y0), V.at (A.int .i64 y1), V.at (A.int .i64 y2)] [⟨false, .box [A.sl 1, A.sl 2, A.sl 3, A.sl 4]⟩, ⟨false, .rows [K.f .f32, K.f .f32, K.f .f32] y3⟩, ⟨false, .rows [K.f .f32, K.f .f32, K.f .f32] y4⟩, ⟨false, .rows [K.f .f32] y5⟩, ⟨false, .rows [K.i .i64, K.i .i64, K.f .f32] y6⟩] = (bif decide (y2 < y1) then bif decide (0 ≤ y2) then bif decide (y2 < (Int.ofNat y6.length)) then bif Bool.not (Pure.spec_l00In F ((y6.getD y2.toNat []).getD 0 0) 0 (IntKind.wrap .i64 (y0 - 1))) then some (false, (Ex.ret, ([V.at (A.bool false)], [⟨false, .box [A.sl 1, A.sl 2, A.sl 3, A.sl 4]⟩, ⟨false, .rows [K.f .f32, K.f .f32, K.f .f32] y3⟩, ⟨false, .rows [K.f .f32, K.f .f32, K.f .f32] y4⟩, ⟨false, .rows [K.f .f32] y5⟩, ⟨false, .rows [K.i .i64, K.i .i64, K.f .f32] y6⟩]))) else bif Bool.not (Pure.spec_l00In F ((y6.getD y2.toNat []).getD 1 0) 0 (IntKind.wrap .i64 (y0 - 1))) then some (false, (Ex.ret, ([V.at (A.bool false)], [⟨false, .box [A.sl 1, A.sl 2, A.sl 3, A.sl 4]⟩, ⟨false, .rows [K.f .f32, K.f .f32, K.f .f32] y3⟩, ⟨false, .rows [K.f .f32, K.f .f32, K.f .f32] y4⟩, ⟨false, .rows [K.f .f32] y5⟩, ⟨false, .rows [K.i .i64, K.i .i64, K.f .f32] y6⟩]))) else bif ((y6.getD y2.toNat []).getD 0 0) == ((y6.getD y2.toNat []).getD 1 0) then some (false, (Ex.ret, ([V.at (A.bool false)], [⟨false, .box [A.sl 1, A.sl 2, A.sl 3, A.sl 4]⟩, ⟨false, .rows [K.f .f32, K.f .f32, K.f .f32] y3⟩, ⟨false, .rows [K.f .f32, K.f .f32, K.f .f32] y4⟩, ⟨false, .rows [K.f .f32] y5⟩, ⟨false, .rows [K.i .i64, K.i .i64, K.f .f32] y6⟩]))) else bif Bool.not (Pure.spec_l03Least F ((y6.getD y2.toNat []).getD 2 0)) then some (false, (Ex.ret, ([V.at (A.bool false)], [⟨false, .box [A.sl 1, A.sl 2, A.sl 3, A.sl 4]⟩, ⟨false, .rows [K.f .f32, K.f .f32, K.f .f32] y3⟩, ⟨false, .rows [K.f .f32, K.f .f32, K.f .f32] y4⟩, ⟨false, .rows [K.f .f32] y5⟩, ⟨false, .rows [K.i .i64, K.i .i64, K.f .f32] y6⟩]))) else some (true, (Ex.normal, ([V.at (A.ptr 0 0 0), V.at (A.int .i64 y0), V.at (A.int .i64 y1), V.at (A.int .i64 (IntKind.wrap .i64 (y2 + 1)))], [⟨false, .box [A.sl 1, A.sl 2, A.sl 3, A.sl 4]⟩, ⟨false, .rows [K.f .f32, K.f .f32, K.f .f32] y3⟩, ⟨false, .rows [K.f .f32, K.f .f32, K.f .f32] y4⟩, ⟨false, .rows [K.f .f32] y5⟩, ⟨false, .rows [K.i .i64, K.i .i64, K.f .f32] y6⟩]))) else none else none else some (false, (Ex.normal, ([V.at A.undef], [⟨false, .box [A.sl 1, A.sl 2, A.sl 3, A.sl 4]⟩, ⟨false, .rows [K.f .f32, K.f .f32, K.f .f32] y3⟩, ⟨false, .rows [K.f .f32, K.f .f32, K.f .f32] y4⟩, ⟨false, .rows [K.f .f32] y5⟩, ⟨false, .rows [K.i .i64, K.i .i64, K.f .f32] y6⟩])))) := by kernel_rfl
    unfold loopOf
    rw [h0]
    unfold Pure.spec_l03Is_L2
    cases (decide (y2 < y1)) with
    | true =>
      cases (decide (0 ≤ y2)) with
      | true =>
        cases (decide (y2 < (Int.ofNat y6.length))) with
        | true =>
          cases (Pure.spec_l00In F ((y6.getD y2.toNat []).getD 0 0) 0 (IntKind.wrap .i64 (y0 - 1))) with
          | true =>
            cases (Pure.spec_l00In F ((y6.getD y2.toNat []).getD 1 0) 0 (IntKind.wrap .i64 (y0 - 1))) with
            | true =>
              cases (((y6.getD y2.toNat []).getD 0 0) == ((y6.getD y2.toNat []).getD 1 0)) with
              | true =>
                intro _; rfl
              | false =>
                cases (Pure.spec_l03Least F ((y6.getD y2.toNat []).getD 2 0)) with
                | true =>
                  exact ih _
                | false =>
                  intro _; rfl
            | false =>
              intro _; rfl
          | false =>
            intro _; rfl
        | false =>
          intro h; exact absurd h Bool.false_ne_true
      | false =>
        intro h; exact absurd h Bool.false_ne_true
    | false =>
      intro _; rfl
theorem t_spec_l03Is_L2 : SmTo Try.prog 5 123 (S_spec_l03Is_L2 real) 2 (.loop (loopB 2 (codeOf Try.f24))) := by
  refine smTo_ev (cl := [(42, c_spec_l01VFinite real), (55, c_spec_l03Least real), (43, c_spec_l00In real)]) (ef := []) (sm := []) (un := 0) prog_ok (allOK_cons ok_spec_l01VFinite (allOK_cons ok_spec_l03Least (allOK_cons ok_spec_l00In allOK_nil))) smL_nil ?_
  intro vals hp q r h hq
  unfold S_spec_l03Is_L2 at h
  dsimp only at h
  split at h
  · rename_i y0 y1 y2 y3 y4 y5 y6
    obtain rfl := Option.some.inj h
    have h1 := hq
    unfold resOf at h1
    rw [chk_some] at h1
    exact ⟨_, (l_spec_l03Is_L2 real y0 y1 y3 y4 y5 y6 _ y2 h1.1).trans hq⟩
  · cases h
def Pure.spec_l03Is (F : FOps) (x0 x1 x2 x3 : List (List Int)) : Bool := bif decide ((Int.ofNat x0.length) > 24) then false else bif (Int.ofNat x1.length) != (Int.ofNat x0.length) then false else bif (Int.ofNat x2.length) != (Int.ofNat x0.length) then false else bif decide ((Int.ofNat x3.length) > 40) then false else bif Prod.snd (Pure.spec_l03Is_L0 F (Int.ofNat x0.length) (Int.ofNat x0.length) x0 x1 x2 x3 (Nat.succ (x0.length + 0)) 0) then false else bif Prod.snd (Pure.spec_l03Is_L2 F (Int.ofNat x0.length) (Int.ofNat x3.length) x0 x1 x2 x3 (Nat.succ (x3.length + 0)) 0) then false else true
def Pure.spec_l03Is_ok (F : FOps) (x0 x1 x2 x3 : List (List Int)) : Bool := bif decide ((Int.ofNat x0.length) > 24) then true else bif (Int.ofNat x1.length) != (Int.ofNat x0.length) then true else bif (Int.ofNat x2.length) != (Int.ofNat x0.length) then true else bif decide ((Int.ofNat x3.length) > 40) then true else bif Prod.fst (Pure.spec_l03Is_L0 F (Int.ofNat x0.length) (Int.ofNat x0.length) x0 x1 x2 x3 (Nat.succ (x0.length + 0)) 0) then bif Prod.snd (Pure.spec_l03Is_L0 F (Int.ofNat x0.length) (Int.ofNat x0.length) x0 x1 x2 x3 (Nat.succ (x0.length + 0)) 0) then true else Prod.fst (Pure.spec_l03Is_L2 F (Int.ofNat x0.length) (Int.ofNat x3.length) x0 x1 x2 x3 (Nat.succ (x3.length + 0)) 0) else false
def c_spec_l03Is (F : FOps) : Con
  | [V.at (A.ptr 0 0 0)], [⟨false, .box [A.sl 1, A.sl 2, A.sl 3, A.sl 4]⟩, ⟨false, .rows [K.f .f32, K.f .f32, K.f .f32] x0⟩, ⟨false, .rows [K.f .f32, K.f .f32, K.f .f32] x1⟩, ⟨false, .rows [K.f .f32] x2⟩, ⟨false, .rows [K.i .i64, K.i .i64, K.f .f32] x3⟩] => some (Pure.spec_l03Is_ok F x0 x1 x2 x3, ⟨V.at (A.bool (Pure.spec_l03Is F x0 x1 x2 x3)), none, []⟩)
  | _, _ => none
theorem e_spec_l03Is (F : FOps) (x0 x1 x2 x3 : List (List Int)) : Pure.spec_l03Is_ok F x0 x1 x2 x3 = true → evFn (cxS F tyl [(42, c_spec_l01VFinite F), (55, c_spec_l03Least F), (43, c_spec_l00In F)] [] [(0, S_spec_l03Is_L0 F), (2, S_spec_l03Is_L2 F)] 0) Try.f24 false [V.at (A.ptr 0 0 0)] [⟨false, .box [A.sl 1, A.sl 2, A.sl 3, A.sl 4]⟩, ⟨false, .rows [K.f .f32, K.f .f32, K.f .f32] x0⟩, ⟨false, .rows [K.f .f32, K.f .f32, K.f .f32] x1⟩, ⟨false, .rows [K.f .f32] x2⟩, ⟨false, .rows [K.i .i64, K.i .i64, K.f .f32] x3⟩] = some ⟨V.at (A.bool (Pure.spec_l03Is F x0 x1 x2 x3)), none, []⟩ := by
  have h0 : evFn (cxS F tyl [(42, c_spec_l01VFinite F), (55, c_spec_l03Least F), (43, c_spec_l00In F)] [] [(0, S_spec_l03Is_L0 F), (2, S_spec_l03Is_L2 F)] 0) Try.f24 false [V.at (A.ptr 0 0 0)] [⟨false, .box [A.sl 1, A.sl 2, A.sl 3, A.sl 4]⟩, ⟨false, .rows [K.f .f32, K.f .f32, K.f .f32] x0⟩, ⟨false, .rows [K.f .f32, K.f .f32, K.f .f32] x1⟩, ⟨false, .rows [K.f .f32] x2⟩, ⟨false, .rows [K.i .i64, K.i .i64, K.f .f32] x3⟩] = bif decide ((Int.ofNat x0.length) > 24) then some ⟨V.at (A.bool false), none, []⟩ else bif (Int.ofNat x1.length) != (Int.ofNat x0.length) then some ⟨V.at (A.bool false), none, []⟩ else bif (Int.ofNat x2.length) != (Int.ofNat x0.length) then some ⟨V.at (A.bool false), none, []⟩ else bif decide ((Int.ofNat x3.length) > 40) then some ⟨V.at (A.bool false), none, []⟩ else bif Prod.fst (Pure.spec_l03Is_L0 F (Int.ofNat x0.length) (Int.ofNat x0.length) x0 x1 x2 x3 (Nat.succ (x0.length + 0)) 0) then bif Prod.snd (Pure.spec_l03Is_L0 F (Int.ofNat x0.length) (Int.ofNat x0.length) x0 x1 x2 x3 (Nat.succ (x0.length + 0)) 0) then some ⟨V.at (A.bool false), none, []⟩ else bif Prod.fst (Pure.spec_l03Is_L2 F (Int.ofNat x0.length) (Int.ofNat x3.length) x0 x1 x2 x3 (Nat.succ (x3.length + 0)) 0) then bif Prod.snd (Pure.spec_l03Is_L2 F (Int.ofNat x0.length) (Int.ofNat x3.length) x0 x1 x2 x3 (Nat.succ (x3.length + 0)) 0) then some ⟨V.at (A.bool false), none, []⟩ else some ⟨V.at (A.bool true), none, []⟩ else none else none := by kernel_rfl
  rw [h0]
  unfold Pure.spec_l03Is Pure.spec_l03Is_ok
  cases (decide ((Int.ofNat x0.length) > 24)) with
  | true =>
    intro _; rfl
  | false =>
    cases ((Int.ofNat x1.length) != (Int.ofNat x0.length)) with
    | true =>
      intro _; rfl
    | false =>
      cases ((Int.ofNat x2.length) != (Int.ofNat x0.length)) with
      | true =>
        intro _; rfl
      | false =>
        cases (decide ((Int.ofNat x3.length) > 40)) with
        | true =>
          intro _; rfl
        | false =>
          cases (Prod.fst (Pure.spec_l03Is_L0 F (Int.ofNat x0.length) (Int.ofNat x0.length) x0 x1 x2 x3 (Nat.succ (x0.length + 0)) 0)) with
          | true =>
            cases (Prod.snd (Pure.spec_l03Is_L0 F (Int.ofNat x0.length) (Int.ofNat x0.length) x0 x1 x2 x3 (Nat.succ (x0.length + 0)) 0)) with
            | true =>
              intro _; rfl
            | false =>
              cases (Prod.fst (Pure.spec_l03Is_L2 F (Int.ofNat x0.length) (Int.ofNat x3.length) x0 x1 x2 x3 (Nat.succ (x3.length + 0)) 0)) with
              | true =>
                cases (Prod.snd (Pure.spec_l03Is_L2 F (Int.ofNat x0.length) (Int.ofNat x3.length) x0 x1 x2 x3 (Nat.succ (x3.length + 0)) 0)) with
                | true =>
                  intro _; rfl
                | false =>
                  intro _; rfl
              | false =>
                intro h; exact absurd h Bool.false_ne_true
          | false =>
            intro h; exact absurd h Bool.false_ne_true
theorem ok_spec_l03Is : CallOK Try.prog 24 (c_spec_l03Is real) := by
  refine callOK_of fun args h ret hc => ?_
  unfold c_spec_l03Is at hc
  split at hc
  · rename_i x0 x1 x2 x3
    obtain ⟨hok, rfl⟩ := some_ret hc
    exact holds_ev prog_ok (allOK_cons ok_spec_l01VFinite (allOK_cons ok_spec_l03Least (allOK_cons ok_spec_l00In allOK_nil))) Try.func24 rfl rfl (smL_cons (body := .loop (loopB 0 (codeOf Try.f24))) (by kernel_rfl) t_spec_l03Is_L0 (smL_cons (body := .loop (loopB 2 (codeOf Try.f24))) (by kernel_rfl) t_spec_l03Is_L2 smL_nil)) rfl (e_spec_l03Is real x0 x1 x2 x3 hok)
  · cases hc
def Pure.impl_in (F : FOps) (x0 x1 x2 : Int) : Bool := bif decide (x0 ≥ x1) then decide (x0 ≤ x2) else false
def c_impl_in (F : FOps) : Con
  | [V.at (A.int .i64 x0), V.at (A.int .i64 x1), V.at (A.int .i64 x2)], [] => some (true, ⟨V.at (A.bool (Pure.impl_in F x0 x1 x2)), none, []⟩)
  | _, _ => none
theorem e_impl_in (F : FOps) (x0 x1 x2 : Int) : evFn (cxS F tyl [] [] [] 0) Try.f48 false [V.at (A.int .i64 x0), V.at (A.int .i64 x1), V.at (A.int .i64 x2)] [] = some ⟨V.at (A.bool (Pure.impl_in F x0 x1 x2)), none, []⟩ := by
  have h0 : evFn (cxS F tyl [] [] [] 0) Try.f48 false [V.at (A.int .i64 x0), V.at (A.int .i64 x1), V.at (A.int .i64 x2)] [] = bif decide (x0 ≥ x1) then some ⟨V.at (A.bool (decide (x0 ≤ x2))), none, []⟩ else some ⟨V.at (A.bool false), none, []⟩ := by kernel_rfl
  rw [h0]
  unfold Pure.impl_in
  cases (decide (x0 ≥ x1)) with
  | true =>
    rfl
  | false =>
    rfl
theorem ok_impl_in : CallOK Try.prog 48 (c_impl_in real) := by
  refine callOK_of fun args h ret hc => ?_
  unfold c_impl_in at hc
  split at hc
  · rename_i x0 x1 x2
    obtain ⟨_, rfl⟩ := some_ret hc
    exact holds_ev prog_ok allOK_nil Try.func48 rfl rfl smL_nil rfl (e_impl_in real x0 x1 x2)
  · cases hc
def Pure.impl_Chain_rodOk (F : FOps) (x0 x1 x2 x3 : List (List Int)) (x4 x5 x6 : Int) : Bool := bif Pure.impl_in F x4 0 (IntKind.wrap .i64 ((Int.ofNat x0.length) - 1)) then bif Pure.impl_in F x5 0 (IntKind.wrap .i64 ((Int.ofNat x0.length) - 1)) then bif x4 != x5 then Pure.impl_levelOk F x6 else false else false else false
def c_impl_Chain_rodOk (F : FOps) : Con
  | [V.at (A.ptr 0 0 0), V.agg [A.int .i64 x4, A.int .i64 x5, A.fl .f32 x6]], [⟨false, .box [A.sl 1, A.sl 2, A.sl 3, A.sl 4]⟩, ⟨false, .rows [K.f .f32, K.f .f32, K.f .f32] x0⟩, ⟨false, .rows [K.f .f32, K.f .f32, K.f .f32] x1⟩, ⟨false, .rows [K.f .f32] x2⟩, ⟨false, .rows [K.i .i64, K.i .i64, K.f .f32] x3⟩] => some (true, ⟨V.at (A.bool (Pure.impl_Chain_rodOk F x0 x1 x2 x3 x4 x5 x6)), none, []⟩)
  | _, _ => none
theorem e_impl_Chain_rodOk (F : FOps) (x0 x1 x2 x3 : List (List Int)) (x4 x5 x6 : Int) : evFn (cxS F tyl [(48, c_impl_in F), (99, c_impl_levelOk F)] [] [] 0) Try.f86 false [V.at (A.ptr 0 0 0), V.agg [A.int .i64 x4, A.int .i64 x5, A.fl .f32 x6]] [⟨false, .box [A.sl 1, A.sl 2, A.sl 3, A.sl 4]⟩, ⟨false, .rows [K.f .f32, K.f .f32, K.f .f32] x0⟩, ⟨false, .rows [K.f .f32, K.f .f32, K.f .f32] x1⟩, ⟨false, .rows [K.f .f32] x2⟩, ⟨false, .rows [K.i .i64, K.i .i64, K.f .f32] x3⟩] = some ⟨V.at (A.bool (Pure.impl_Chain_rodOk F x0 x1 x2 x3 x4 x5 x6)), none, []⟩ := by
  have h0 : evFn (cxS F tyl [(48, c_impl_in F), (99, c_impl_levelOk F)] [] [] 0) Try.f86 false [V.at (A.ptr 0 0 0), V.agg [A.int .i64 x4, A.int .i64 x5, A.fl .f32 x6]] [⟨false, .box [A.sl 1, A.sl 2, A.sl 3, A.sl 4]⟩, ⟨false, .rows [K.f .f32, K.f .f32, K.f .f32] x0⟩, ⟨false, .rows [K.f .f32, K.f .f32, K.f .f32] x1⟩, ⟨false, .rows [K.f .f32] x2⟩, ⟨false, .rows [K.i .i64, K.i .i64, K.f .f32] x3⟩] = bif Pure.impl_in F x4 0 (IntKind.wrap .i64 ((Int.ofNat x0.length) - 1)) then bif Pure.impl_in F x5 0 (IntKind.wrap .i64 ((Int.ofNat x0.length) - 1)) then bif x4 != x5 then some ⟨V.at (A.bool (Pure.impl_levelOk F x6)), none, []⟩ else some ⟨V.at (A.bool false), none, []⟩ else some ⟨V.at (A.bool false), none, []⟩ else some ⟨V.at (A.bool false), none, []⟩ := by kernel_rfl
  rw [h0]
  unfold Pure.impl_Chain_rodOk
  cases (Pure.impl_in F x4 0 (IntKind.wrap .i64 ((Int.ofNat x0.length) - 1))) with
  | true =>
    cases (Pure.impl_in F x5 0 (IntKind.wrap .i64 ((Int.ofNat x0.length) - 1))) with
    | true =>
      cases (x4 != x5) with
      | true =>
        rfl
      | false =>
        rfl
    | false =>
      rfl
  | false =>
    rfl
theorem ok_impl_Chain_rodOk : CallOK Try.prog 86 (c_impl_Chain_rodOk real) := by
  refine callOK_of fun args h ret hc => ?_
  unfold c_impl_Chain_rodOk at hc
  split at hc
  · rename_i x4 x5 x6 x0 x1 x2 x3
    obtain ⟨_, rfl⟩ := some_ret hc
    exact holds_ev prog_ok (allOK_cons ok_impl_in (allOK_cons ok_impl_levelOk allOK_nil)) Try.func86 rfl rfl smL_nil rfl (e_impl_Chain_rodOk real x0 x1 x2 x3 x4 x5 x6)
  · cases hc
def Pure.impl_ValidChain_c1 (F : FOps) (x0 x1 x2 : Int) (x3 x4 x5 x6 : List (List Int)) : Bool := bif Pure.impl_Chain_rodOk F x3 x4 x5 x6 x0 x1 x2 then false else true
def c_impl_ValidChain_c1 (F : FOps) : Con
  | [V.agg [A.int .i64 x0, A.int .i64 x1, A.fl .f32 x2], V.at (A.ptr 0 0 0)], [⟨false, .box [A.sl 1, A.sl 2, A.sl 3, A.sl 4]⟩, ⟨false, .rows [K.f .f32, K.f .f32, K.f .f32] x3⟩, ⟨false, .rows [K.f .f32, K.f .f32, K.f .f32] x4⟩, ⟨false, .rows [K.f .f32] x5⟩, ⟨false, .rows [K.i .i64, K.i .i64, K.f .f32] x6⟩] => some (true, ⟨V.at (A.bool (Pure.impl_ValidChain_c1 F x0 x1 x2 x3 x4 x5 x6)), none, []⟩)
  | _, _ => none
theorem e_impl_ValidChain_c1 (F : FOps) (x0 x1 x2 : Int) (x3 x4 x5 x6 : List (List Int)) : evFn (cxS F tyl [(86, c_impl_Chain_rodOk F)] [] [] 0) Try.f85 false [V.agg [A.int .i64 x0, A.int .i64 x1, A.fl .f32 x2], V.at (A.ptr 0 0 0)] [⟨false, .box [A.sl 1, A.sl 2, A.sl 3, A.sl 4]⟩, ⟨false, .rows [K.f .f32, K.f .f32, K.f .f32] x3⟩, ⟨false, .rows [K.f .f32, K.f .f32, K.f .f32] x4⟩, ⟨false, .rows [K.f .f32] x5⟩, ⟨false, .rows [K.i .i64, K.i .i64, K.f .f32] x6⟩] = some ⟨V.at (A.bool (Pure.impl_ValidChain_c1 F x0 x1 x2 x3 x4 x5 x6)), none, []⟩ := by
  kernel_rfl
theorem ok_impl_ValidChain_c1 : CallOK Try.prog 85 (c_impl_ValidChain_c1 real) := by
  refine callOK_of fun args h ret hc => ?_
  unfold c_impl_ValidChain_c1 at hc
  split at hc
  · rename_i x0 x1 x2 x3 x4 x5 x6
    obtain ⟨_, rfl⟩ := some_ret hc
    exact holds_ev prog_ok (allOK_cons ok_impl_Chain_rodOk allOK_nil) Try.func85 rfl rfl smL_nil rfl (e_impl_ValidChain_c1 real x0 x1 x2 x3 x4 x5 x6)
  · cases hc
def Pure.slices_IndexFunc_impl_Rod_impl_Rod_rod_L0 (F : FOps) (y0 : Int) (y2 y3 y4 y5 : List (List Int)) : Nat → Int → (Bool × Bool × Int)
  | 0, _ => (false, false, 0)
  | n + 1, y1 => bif (decide (y1 < y0)) then (bif (decide (0 ≤ y1)) then (bif (decide (y1 < (Int.ofNat y2.length))) then (bif (Pure.impl_ValidChain_c1 F ((y2.getD y1.toNat []).getD 0 0) ((y2.getD y1.toNat []).getD 1 0) ((y2.getD y1.toNat []).getD 2 0) y3 y4 y5 y2) then ((true, true, y1)) else (Pure.slices_IndexFunc_impl_Rod_impl_Rod_rod_L0 F y0 y2 y3 y4 y5 n (IntKind.wrap .i64 (y1 + 1)))) else ((false, false, 0))) else ((false, false, 0))) else ((true, false, 0))
def R_slices_IndexFunc_impl_Rod_impl_Rod_rod_L0 (y2 y3 y4 y5 : List (List Int)) (r : (Bool × Bool × Int)) : Bool × Ends := ((r).1, .two (r).2.1 (.one Ex.normal [V.at A.undef] [⟨false, .rows [K.i .i64, K.i .i64, K.f .f32] y2⟩, ⟨false, .box [A.sl 2, A.sl 3, A.sl 4, A.sl 0]⟩, ⟨false, .rows [K.f .f32, K.f .f32, K.f .f32] y3⟩, ⟨false, .rows [K.f .f32, K.f .f32, K.f .f32] y4⟩, ⟨false, .rows [K.f .f32] y5⟩]) (.one Ex.ret [V.at (A.int .i64 (r).2.2)] [⟨false, .rows [K.i .i64, K.i .i64, K.f .f32] y2⟩, ⟨false, .box [A.sl 2, A.sl 3, A.sl 4, A.sl 0]⟩, ⟨false, .rows [K.f .f32, K.f .f32, K.f .f32] y3⟩, ⟨false, .rows [K.f .f32, K.f .f32, K.f .f32] y4⟩, ⟨false, .rows [K.f .f32] y5⟩]))
def S_slices_IndexFunc_impl_Rod_impl_Rod_rod_L0 (F : FOps) : Sm := ⟨[0, 1, 7, 8], [32, 99, 3, 3], [4], fun vals hp => match vals, hp with
  | [V.at (A.sl 0), V.at (A.fn 85 [(1, (0, 0))]), V.at (A.int .i64 y0), V.at (A.int .i64 y1)], [⟨false, .rows [K.i .i64, K.i .i64, K.f .f32] y2⟩, ⟨false, .box [A.sl 2, A.sl 3, A.sl 4, A.sl 0]⟩, ⟨false, .rows [K.f .f32, K.f .f32, K.f .f32] y3⟩, ⟨false, .rows [K.f .f32, K.f .f32, K.f .f32] y4⟩, ⟨false, .rows [K.f .f32] y5⟩] => some (R_slices_IndexFunc_impl_Rod_impl_Rod_rod_L0 y2 y3 y4 y5 (Pure.slices_IndexFunc_impl_Rod_impl_Rod_rod_L0 F y0 y2 y3 y4 y5 (y0 - y1 + 1).toNat y1))
  | _, _ => none⟩
theorem l_slices_IndexFunc_impl_Rod_impl_Rod_rod_L0 (F : FOps) (y0 : Int) (y2 y3 y4 y5 : List (List Int)) : ∀ (fuel : Nat) (y1 : Int), (Pure.slices_IndexFunc_impl_Rod_impl_Rod_rod_L0 F y0 y2 y3 y4 y5 fuel y1).1 = true → loopOf (cxS F tyl [(85, c_impl_ValidChain_c1 F)] [] [] 0) 5 19 0 [0, 1, 7, 8] [32, 99, 3, 3] [4] (loopB 0 (codeOf Try.f100)) fuel [V.at (A.sl 0), V.at (A.fn 85 [(1, (0, 0))]), V.at (A.int .i64 y0), V.at (A.int .i64 y1)] [⟨false, .rows [K.i .i64, K.i .i64, K.f .f32] y2⟩, ⟨false, .box [A.sl 2, A.sl 3, A.sl 4, A.sl 0]⟩, ⟨false, .rows [K.f .f32, K.f .f32, K.f .f32] y3⟩, ⟨false, .rows [K.f .f32, K.f .f32, K.f .f32] y4⟩, ⟨false, .rows [K.f .f32] y5⟩] = resOf (R_slices_IndexFunc_impl_Rod_impl_Rod_rod_L0 y2 y3 y4 y5 (Pure.slices_IndexFunc_impl_Rod_impl_Rod_rod_L0 F y0 y2 y3 y4 y5 fuel y1)) := by
  intro fuel
  induction fuel with
  | zero => intro y1 h; exact absurd h Bool.false_ne_true
  | succ n ih =>
    intro y1
    have h0 : roundOf (cxS F tyl [(85, c_impl_ValidChain_c1 F)] [] [] 0) 5 19 0 [0, 1, 7, 8] [32, 99, 3, 3] [4] (loopB 0 (codeOf Try.f100)) [V.at (A.sl 0), V.at (A.fn 85 [(1, (0, 0))]), V.at (A.int .i64 y0), V.at (A.int .i64 y1)] [⟨false, .rows [K.i .i64, K.i .i64, K.f .f32] y2⟩, ⟨false, .box [A.sl 2, A.sl 3, A.sl 4, A.sl 0]⟩, ⟨false, .rows [K.f .f32, K.f .f32, K.f .f32] y3⟩, ⟨false, .rows [K.f .f32, K.f .f32, K.f .f32] y4⟩, ⟨false, .rows [K.f .f32] y5⟩] = (bif decide (y1 < y0) then bif decide (0 ≤ y1) then bif decide (y1 < (Int.ofNat y2.length)) then bif Pure.impl_ValidChain_c1 F ((y2.getD y1.toNat []).getD 0 0) ((y2.getD y1.toNat []).getD 1 0) ((y2.getD y1.toNat []).getD 2 0) y3 y4 y5 y2 then some (false, (Ex.ret, ([V.at (A.int .i64 y1)], [⟨false, .rows [K.i .i64, K.i .i64, K.f .f32] y2⟩, ⟨false, .box [A.sl 2, A.sl 3, A.sl 4, A.sl 0]⟩, ⟨false, .rows [K.f .f32, K.f .f32, K.f .f32] y3⟩, ⟨false, .rows [K.f .f32, K.f .f32, K.f .f32] y4⟩, ⟨false, .rows [K.f .f32] y5⟩]))) else some (true, (Ex.normal, ([V.at (A.sl 0), V.at (A.fn 85 [(1, (0, 0))]), V.at (A.int .i64 y0), V.at (A.int .i64 (IntKind.wrap .i64 (y1 + 1)))], [⟨false, .rows [K.i .i64, K.i .i64, K.f .f32] y2⟩, ⟨false, .box [A.sl 2, A.sl 3, A.sl 4, A.sl 0]⟩, ⟨false, .rows [K.f .f32, K.f .f32, K.f .f32] y3⟩, ⟨false, .rows [K.f .f32, K.f .f32, K.f .f32] y4⟩, ⟨false, .rows [K.f .f32] y5⟩]))) else none else none else some (false, (Ex.normal, ([V.at A.undef], [⟨false, .rows [K.i .i64, K.i .i64, K.f .f32] y2⟩, ⟨false, .box [A.sl 2, A.sl 3, A.sl 4, A.sl 0]⟩, ⟨false, .rows [K.f .f32, K.f .f32, K.f .f32] y3⟩, ⟨false, .rows [K.f .f32, K.f .f32, K.f .f32] y4⟩, ⟨false, .rows [K.f .f32] y5⟩])))) := by kernel_rfl
    unfold loopOf
    rw [h0]
    unfold Pure.slices_IndexFunc_impl_Rod_impl_Rod_rod_L0
    cases (decide (y1 < y0)) with
    | true =>
      cases (decide (0 ≤ y1)) with
      | true =>
        cases (decide (y1 < (Int.ofNat y2.length))) with
        | true =>
          cases (Pure.impl_ValidChain_c1 F ((y2.getD y1.toNat []).getD 0 0) ((y2.getD y1.toNat []).getD 1 0) ((y2.getD y1.toNat []).getD 2 0) y3 y4 y5 y2) with
          | true =>
            intro _; rfl
          | false =>
            exact ih _
        | false =>
          intro h; exact absurd h Bool.false_ne_true
      | false =>
        intro h; exact absurd h Bool.false_ne_true
    | false =>
      intro _; rfl
theorem t_slices_IndexFunc_impl_Rod_impl_Rod_rod_L0 : SmTo Try.prog 5 19 (S_slices_IndexFunc_impl_Rod_impl_Rod_rod_L0 real) 0 (.loop (loopB 0 (codeOf Try.f100))) := by
  refine smTo_ev (cl := [(85, c_impl_ValidChain_c1 real)]) (ef := []) (sm := []) (un := 0) prog_ok (allOK_cons ok_impl_ValidChain_c1 allOK_nil) smL_nil ?_
  intro vals hp q r h hq
  unfold S_slices_IndexFunc_impl_Rod_impl_Rod_rod_L0 at h
  dsimp only at h
  split at h
  · rename_i y0 y1 y2 y3 y4 y5
    obtain rfl := Option.some.inj h
    have h1 := hq
    unfold resOf at h1
    rw [chk_some] at h1
    exact ⟨_, (l_slices_IndexFunc_impl_Rod_impl_Rod_rod_L0 real y0 y2 y3 y4 y5 _ y1 h1.1).trans hq⟩
  · cases h
def Pure.slices_IndexFunc_impl_Rod_impl_Rod_rod (F : FOps) (x0 x1 x2 x3 : List (List Int)) : Int := bif Prod.fst (Prod.snd (Pure.slices_IndexFunc_impl_Rod_impl_Rod_rod_L0 F (Int.ofNat x0.length) x0 x1 x2 x3 (Nat.succ (x0.length + 0)) 0)) then Prod.snd (Prod.snd (Pure.slices_IndexFunc_impl_Rod_impl_Rod_rod_L0 F (Int.ofNat x0.length) x0 x1 x2 x3 (Nat.succ (x0.length + 0)) 0)) else (-1)
def Pure.slices_IndexFunc_impl_Rod_impl_Rod_rod_ok (F : FOps) (x0 x1 x2 x3 : List (List Int)) : Bool := Prod.fst (Pure.slices_IndexFunc_impl_Rod_impl_Rod_rod_L0 F (Int.ofNat x0.length) x0 x1 x2 x3 (Nat.succ (x0.length + 0)) 0)
def c_slices_IndexFunc_impl_Rod_impl_Rod_rod (F : FOps) : Con
  | [V.at (A.sl 0), V.at (A.fn 85 [(1, (0, 0))])], [⟨false, .rows [K.i .i64, K.i .i64, K.f .f32] x0⟩, ⟨false, .box [A.sl 2, A.sl 3, A.sl 4, A.sl 0]⟩, ⟨false, .rows [K.f .f32, K.f .f32, K.f .f32] x1⟩, ⟨false, .rows [K.f .f32, K.f .f32, K.f .f32] x2⟩, ⟨false, .rows [K.f .f32] x3⟩] => some (Pure.slices_IndexFunc_impl_Rod_impl_Rod_rod_ok F x0 x1 x2 x3, ⟨V.at (A.int .i64 (Pure.slices_IndexFunc_impl_Rod_impl_Rod_rod F x0 x1 x2 x3)), none, []⟩)
  | _, _ => none
theorem e_slices_IndexFunc_impl_Rod_impl_Rod_rod (F : FOps) (x0 x1 x2 x3 : List (List Int)) : Pure.slices_IndexFunc_impl_Rod_impl_Rod_rod_ok F x0 x1 x2 x3 = true → evFn (cxS F tyl [(85, c_impl_ValidChain_c1 F)] [] [(0, S_slices_IndexFunc_impl_Rod_impl_Rod_rod_L0 F)] 0) Try.f100 false [V.at (A.sl 0), V.at (A.fn 85 [(1, (0, 0))])] [⟨false, .rows [K.i .i64, K.i .i64, K.f .f32] x0⟩, ⟨false, .box [A.sl 2, A.sl 3, A.sl 4, A.sl 0]⟩, ⟨false, .rows [K.f .f32, K.f .f32, K.f .f32] x1⟩, ⟨false, .rows [K.f .f32, K.f .f32, K.f .f32] x2⟩, ⟨false, .rows [K.f .f32] x3⟩] = some ⟨V.at (A.int .i64 (Pure.slices_IndexFunc_impl_Rod_impl_Rod_rod F x0 x1 x2 x3)), none, []⟩ := by
  have h0 : evFn (cxS F tyl [(85, c_impl_ValidChain_c1 F)] [] [(0, S_slices_IndexFunc_impl_Rod_impl_Rod_rod_L0 F)] 0) Try.f100 false [V.at (A.sl 0), V.at (A.fn 85 [(1, (0, 0))])] [⟨false, .rows [K.i .i64, K.i .i64, K.f .f32] x0⟩, ⟨false, .box [A.sl 2, A.sl 3, A.sl 4, A.sl 0]⟩, ⟨false, .rows [K.f .f32, K.f .f32, K.f .f32] x1⟩, ⟨false, .rows [K.f .f32, K.f .f32, K.f .f32] x2⟩, ⟨false, .rows [K.f .f32] x3⟩] = bif Prod.fst (Pure.slices_IndexFunc_impl_Rod_impl_Rod_rod_L0 F (Int.ofNat x0.length) x0 x1 x2 x3 (Nat.succ (x0.length + 0)) 0) then bif Prod.fst (Prod.snd (Pure.slices_IndexFunc_impl_Rod_impl_Rod_rod_L0 F (Int.ofNat x0.length) x0 x1 x2 x3 (Nat.succ (x0.length + 0)) 0)) then some ⟨V.at (A.int .i64 (Prod.snd (Prod.snd (Pure.slices_IndexFunc_impl_Rod_impl_Rod_rod_L0 F (Int.ofNat x0.length) x0 x1 x2 x3 (Nat.succ (x0.length + 0)) 0)))), none, []⟩ else some ⟨V.at (A.int .i64 (-1)), none, []⟩ else none := by kernel_rfl
  rw [h0]
  unfold Pure.slices_IndexFunc_impl_Rod_impl_Rod_rod Pure.slices_IndexFunc_impl_Rod_impl_Rod_rod_ok
  cases (Prod.fst (Pure.slices_IndexFunc_impl_Rod_impl_Rod_rod_L0 F (Int.ofNat x0.length) x0 x1 x2 x3 (Nat.succ (x0.length + 0)) 0)) with
  | true =>
    cases (Prod.fst (Prod.snd (Pure.slices_IndexFunc_impl_Rod_impl_Rod_rod_L0 F (Int.ofNat x0.length) x0 x1 x2 x3 (Nat.succ (x0.length + 0)) 0))) with
    | true =>
      intro _; rfl
    | false =>
      intro _; rfl
  | false =>
    intro h; exact absurd h Bool.false_ne_true
theorem ok_slices_IndexFunc_impl_Rod_impl_Rod_rod : CallOK Try.prog 100 (c_slices_IndexFunc_impl_Rod_impl_Rod_rod real) := by
  refine callOK_of fun args h ret hc => ?_
  unfold c_slices_IndexFunc_impl_Rod_impl_Rod_rod at hc
  split at hc
  · rename_i x0 x1 x2 x3
    obtain ⟨hok, rfl⟩ := some_ret hc
    exact holds_ev prog_ok (allOK_cons ok_impl_ValidChain_c1 allOK_nil) Try.func100 rfl rfl (smL_cons (body := .loop (loopB 0 (codeOf Try.f100))) (by kernel_rfl) t_slices_IndexFunc_impl_Rod_impl_Rod_rod_L0 smL_nil) rfl (e_slices_IndexFunc_impl_Rod_impl_Rod_rod real x0 x1 x2 x3 hok)
  · cases hc
def Pure.slices_ContainsFunc_impl_Rod_impl_Rod_rod (F : FOps) (x0 x1 x2 x3 : List (List Int)) : Bool := decide ((Pure.slices_IndexFunc_impl_Rod_impl_Rod_rod F x0 x1 x2 x3) ≥ 0)
def Pure.slices_ContainsFunc_impl_Rod_impl_Rod_rod_ok (F : FOps) (x0 x1 x2 x3 : List (List Int)) : Bool := Pure.slices_IndexFunc_impl_Rod_impl_Rod_rod_ok F x0 x1 x2 x3
def c_slices_ContainsFunc_impl_Rod_impl_Rod_rod (F : FOps) : Con
  | [V.at (A.sl 0), V.at (A.fn 85 [(1, (0, 0))])], [⟨false, .rows [K.i .i64, K.i .i64, K.f .f32] x0⟩, ⟨false, .box [A.sl 2, A.sl 3, A.sl 4, A.sl 0]⟩, ⟨false, .rows [K.f .f32, K.f .f32, K.f .f32] x1⟩, ⟨false, .rows [K.f .f32, K.f .f32, K.f .f32] x2⟩, ⟨false, .rows [K.f .f32] x3⟩] => some (Pure.slices_ContainsFunc_impl_Rod_impl_Rod_rod_ok F x0 x1 x2 x3, ⟨V.at (A.bool (Pure.slices_ContainsFunc_impl_Rod_impl_Rod_rod F x0 x1 x2 x3)), none, []⟩)
  | _, _ => none
theorem e_slices_ContainsFunc_impl_Rod_impl_Rod_rod (F : FOps) (x0 x1 x2 x3 : List (List Int)) : Pure.slices_ContainsFunc_impl_Rod_impl_Rod_rod_ok F x0 x1 x2 x3 = true → evFn (cxS F tyl [(100, c_slices_IndexFunc_impl_Rod_impl_Rod_rod F), (85, c_impl_ValidChain_c1 F)] [] [] 0) Try.f84 false [V.at (A.sl 0), V.at (A.fn 85 [(1, (0, 0))])] [⟨false, .rows [K.i .i64, K.i .i64, K.f .f32] x0⟩, ⟨false, .box [A.sl 2, A.sl 3, A.sl 4, A.sl 0]⟩, ⟨false, .rows [K.f .f32, K.f .f32, K.f .f32] x1⟩, ⟨false, .rows [K.f .f32, K.f .f32, K.f .f32] x2⟩, ⟨false, .rows [K.f .f32] x3⟩] = some ⟨V.at (A.bool (Pure.slices_ContainsFunc_impl_Rod_impl_Rod_rod F x0 x1 x2 x3)), none, []⟩ := by
  have h0 : evFn (cxS F tyl [(100, c_slices_IndexFunc_impl_Rod_impl_Rod_rod F), (85, c_impl_ValidChain_c1 F)] [] [] 0) Try.f84 false [V.at (A.sl 0), V.at (A.fn 85 [(1, (0, 0))])] [⟨false, .rows [K.i .i64, K.i .i64, K.f .f32] x0⟩, ⟨false, .box [A.sl 2, A.sl 3, A.sl 4, A.sl 0]⟩, ⟨false, .rows [K.f .f32, K.f .f32, K.f .f32] x1⟩, ⟨false, .rows [K.f .f32, K.f .f32, K.f .f32] x2⟩, ⟨false, .rows [K.f .f32] x3⟩] = bif Pure.slices_IndexFunc_impl_Rod_impl_Rod_rod_ok F x0 x1 x2 x3 then some ⟨V.at (A.bool (decide ((Pure.slices_IndexFunc_impl_Rod_impl_Rod_rod F x0 x1 x2 x3) ≥ 0))), none, []⟩ else none := by kernel_rfl
  rw [h0]
  unfold Pure.slices_ContainsFunc_impl_Rod_impl_Rod_rod Pure.slices_ContainsFunc_impl_Rod_impl_Rod_rod_ok
  cases (Pure.slices_IndexFunc_impl_Rod_impl_Rod_rod_ok F x0 x1 x2 x3) with
  | true =>
    intro _; rfl
  | false =>
    intro h; exact absurd h Bool.false_ne_true
theorem ok_slices_ContainsFunc_impl_Rod_impl_Rod_rod : CallOK Try.prog 84 (c_slices_ContainsFunc_impl_Rod_impl_Rod_rod real) := by
  refine callOK_of fun args h ret hc => ?_
  unfold c_slices_ContainsFunc_impl_Rod_impl_Rod_rod at hc
  split at hc
  · rename_i x0 x1 x2 x3
    obtain ⟨hok, rfl⟩ := some_ret hc
    exact holds_ev prog_ok (allOK_cons ok_slices_IndexFunc_impl_Rod_impl_Rod_rod (allOK_cons ok_impl_ValidChain_c1 allOK_nil)) Try.func84 rfl rfl smL_nil rfl (e_slices_ContainsFunc_impl_Rod_impl_Rod_rod real x0 x1 x2 x3 hok)
  · cases hc
def Pure.impl_ValidChain (F : FOps) (x0 x1 x2 x3 : List (List Int)) : Bool := bif decide ((Int.ofNat x0.length) > 24) then false else bif (Int.ofNat x1.length) != (Int.ofNat x0.length) then false else bif (Int.ofNat x2.length) != (Int.ofNat x0.length) then false else bif decide ((Int.ofNat x3.length) > 40) then false else bif Pure.slices_ContainsFunc_impl_Vector_impl_Vector_bad F x0 then false else bif Pure.slices_ContainsFunc_impl_Vector_impl_Vector_bad F x1 then false else bif Pure.slices_ContainsFunc_float32_float32_level F x2 then false else bif Pure.slices_ContainsFunc_impl_Rod_impl_Rod_rod F x3 x0 x1 x2 then false else true
def Pure.impl_ValidChain_ok (F : FOps) (x0 x1 x2 x3 : List (List Int)) : Bool := bif decide ((Int.ofNat x0.length) > 24) then true else bif (Int.ofNat x1.length) != (Int.ofNat x0.length) then true else bif (Int.ofNat x2.length) != (Int.ofNat x0.length) then true else bif decide ((Int.ofNat x3.length) > 40) then true else bif Pure.slices_ContainsFunc_impl_Vector_impl_Vector_bad_ok F x0 then bif Pure.slices_ContainsFunc_impl_Vector_impl_Vector_bad F x0 then true else bif Pure.slices_ContainsFunc_impl_Vector_impl_Vector_bad_ok F x1 then bif Pure.slices_ContainsFunc_impl_Vector_impl_Vector_bad F x1 then true else bif Pure.slices_ContainsFunc_float32_float32_level_ok F x2 then bif Pure.slices_ContainsFunc_float32_float32_level F x2 then true else Pure.slices_ContainsFunc_impl_Rod_impl_Rod_rod_ok F x3 x0 x1 x2 else false else false else false
def c_impl_ValidChain (F : FOps) : Con
  | [V.agg [A.sl 0, A.sl 1, A.sl 2, A.sl 3]], [⟨false, .rows [K.f .f32, K.f .f32, K.f .f32] x0⟩, ⟨false, .rows [K.f .f32, K.f .f32, K.f .f32] x1⟩, ⟨false, .rows [K.f .f32] x2⟩, ⟨false, .rows [K.i .i64, K.i .i64, K.f .f32] x3⟩] => some (Pure.impl_ValidChain_ok F x0 x1 x2 x3, ⟨V.at (A.bool (Pure.impl_ValidChain F x0 x1 x2 x3)), none, []⟩)
  | _, _ => none
theorem e_impl_ValidChain (F : FOps) (x0 x1 x2 x3 : List (List Int)) : Pure.impl_ValidChain_ok F x0 x1 x2 x3 = true → evFn (cxS F tyl [(80, c_slices_ContainsFunc_impl_Vector_impl_Vector_bad F), (81, c_impl_badVector F), (82, c_slices_ContainsFunc_float32_float32_or1 F), (83, c_impl_badLevel F), (85, c_impl_ValidChain_c1 F), (84, c_slices_ContainsFunc_impl_Rod_impl_Rod_rod F)] [] [] 0) Try.f61 false [V.agg [A.sl 0, A.sl 1, A.sl 2, A.sl 3]] [⟨false, .rows [K.f .f32, K.f .f32, K.f .f32] x0⟩, ⟨false, .rows [K.f .f32, K.f .f32, K.f .f32] x1⟩, ⟨false, .rows [K.f .f32] x2⟩, ⟨false, .rows [K.i .i64, K.i .i64, K.f .f32] x3⟩] = some ⟨V.at (A.bool (Pure.impl_ValidChain F x0 x1 x2 x3)), none, []⟩ := by
  have h0 : evFn (cxS F tyl [(80, c_slices_ContainsFunc_impl_Vector_impl_Vector_bad F), (81, c_impl_badVector F), (82, c_slices_ContainsFunc_float32_float32_or1 F), (83, c_impl_badLevel F), (85, c_impl_ValidChain_c1 F), (84, c_slices_ContainsFunc_impl_Rod_impl_Rod_rod F)] [] [] 0) Try.f61 false [V.agg [A.sl 0, A.sl 1, A.sl 2, A.sl 3]] [⟨false, .rows [K.f .f32, K.f .f32, K.f .f32] x0⟩, ⟨false, .rows [K.f .f32, K.f .f32, K.f .f32] x1⟩, ⟨false, .rows [K.f .f32] x2⟩, ⟨false, .rows [K.i .i64, K.i .i64, K.f .f32] x3⟩] = bif decide ((Int.ofNat x0.length) > 24) then some ⟨V.at (A.bool false), none, []⟩ else bif (Int.ofNat x1.length) != (Int.ofNat x0.length) then some ⟨V.at (A.bool false), none, []⟩ else bif (Int.ofNat x2.length) != (Int.ofNat x0.length) then some ⟨V.at (A.bool false), none, []⟩ else bif decide ((Int.ofNat x3.length) > 40) then some ⟨V.at (A.bool false), none, []⟩ else bif Pure.slices_ContainsFunc_impl_Vector_impl_Vector_bad_ok F x0 then bif Pure.slices_ContainsFunc_impl_Vector_impl_Vector_bad F x0 then some ⟨V.at (A.bool false), none, []⟩ else bif Pure.slices_ContainsFunc_impl_Vector_impl_Vector_bad_ok F x1 then bif Pure.slices_ContainsFunc_impl_Vector_impl_Vector_bad F x1 then some ⟨V.at (A.bool false), none, []⟩ else bif Pure.slices_ContainsFunc_float32_float32_level_ok F x2 then bif Pure.slices_ContainsFunc_float32_float32_level F x2 then some ⟨V.at (A.bool false), none, []⟩ else bif Pure.slices_ContainsFunc_impl_Rod_impl_Rod_rod_ok F x3 x0 x1 x2 then some ⟨V.at (A.bool (bif Pure.slices_ContainsFunc_impl_Rod_impl_Rod_rod F x3 x0 x1 x2 then false else true)), none, []⟩ else none else none else none else none := by kernel_rfl
  rw [h0]
  unfold Pure.impl_ValidChain Pure.impl_ValidChain_ok
  cases (decide ((Int.ofNat x0.length) > 24)) with
  | true =>
    intro _; rfl
  | false =>
    cases ((Int.ofNat x1.length) != (Int.ofNat x0.length)) with
    | true =>
      intro _; rfl
    | false =>
      cases ((Int.ofNat x2.length) != (Int.ofNat x0.length)) with
      | true =>
        intro _; rfl
      | false =>
        cases (decide ((Int.ofNat x3.length) > 40)) with
        | true =>
          intro _; rfl
        | false =>
          cases (Pure.slices_ContainsFunc_impl_Vector_impl_Vector_bad_ok F x0) with
          | true =>
            cases (Pure.slices_ContainsFunc_impl_Vector_impl_Vector_bad F x0) with
            | true =>
              intro _; rfl
            | false =>
              cases (Pure.slices_ContainsFunc_impl_Vector_impl_Vector_bad_ok F x1) with
              | true =>
                cases (Pure.slices_ContainsFunc_impl_Vector_impl_Vector_bad F x1) with
                | true =>
                  intro _; rfl
                | false =>
                  cases (Pure.slices_ContainsFunc_float32_float32_level_ok F x2) with
                  | true =>
                    cases (Pure.slices_ContainsFunc_float32_float32_level F x2) with
                    | true =>
                      intro _; rfl
                    | false =>
                      cases (Pure.slices_ContainsFunc_impl_Rod_impl_Rod_rod_ok F x3 x0 x1 x2) with
                      | true =>
                        intro _; rfl
                      | false =>
                        intro h; exact absurd h Bool.false_ne_true
                  | false =>
                    intro h; exact absurd h Bool.false_ne_true
              | false =>
                intro h; exact absurd h Bool.false_ne_true
          | false =>
            intro h; exact absurd h Bool.false_ne_true
theorem ok_impl_ValidChain : CallOK Try.prog 61 (c_impl_ValidChain real) := by
  refine callOK_of fun args h ret hc => ?_
  unfold c_impl_ValidChain at hc
  split at hc
  · rename_i x0 x1 x2 x3
    obtain ⟨hok, rfl⟩ := some_ret hc
    exact holds_ev prog_ok (allOK_cons ok_slices_ContainsFunc_impl_Vector_impl_Vector_bad (allOK_cons ok_impl_badVector (allOK_cons ok_slices_ContainsFunc_float32_float32_or1 (allOK_cons ok_impl_badLevel (allOK_cons ok_impl_ValidChain_c1 (allOK_cons ok_slices_ContainsFunc_impl_Rod_impl_Rod_rod allOK_nil)))))) Try.func61 rfl rfl smL_nil rfl (e_impl_ValidChain real x0 x1 x2 x3 hok)
  · cases hc
end Go.Fx
