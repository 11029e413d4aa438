import Derived.Test.YtpgpjkkncghbhaaXr2a
import Derived.KernelRfl
namespace Go.Fx
open Go.Proofs
set_option maxRecDepth 100000
def Pure.impl_IsFinite (F : FOps) (x0 : Int) : Bool := F.cmp .eql .f32 (F.bin .sub .f32 x0 x0) 0
def c_impl_IsFinite (F : FOps) : Con
  | [V.at (A.fl .f32 x0)], [] => some (true, ⟨V.at (A.bool (Pure.impl_IsFinite F x0)), none, []⟩)
  | _, _ => none
theorem e_impl_IsFinite (F : FOps) (x0 : Int) : evFn (cxS F tyl [] [] [] 0) Try.f73 false [V.at (A.fl .f32 x0)] [] = some ⟨V.at (A.bool (Pure.impl_IsFinite F x0)), none, []⟩ := by
  kernel_rfl
theorem ok_impl_IsFinite : CallOK Try.prog 73 (c_impl_IsFinite real) := by
  refine callOK_of fun args h ret hc => ?_
  unfold c_impl_IsFinite at hc
  split at hc
  · rename_i x0
    obtain ⟨_, rfl⟩ := some_ret hc
    exact holds_ev prog_ok allOK_nil Try.func73 rfl rfl smL_nil rfl (e_impl_IsFinite real x0)
  · cases hc
def Pure.impl_finite_c1 (F : FOps) (x0 : Int) : Bool := bif Pure.impl_IsFinite F x0 then false else true
def c_impl_finite_c1 (F : FOps) : Con
  | [V.at (A.fl .f32 x0)], [] => some (true, ⟨V.at (A.bool (Pure.impl_finite_c1 F x0)), none, []⟩)
  | _, _ => none
theorem e_impl_finite_c1 (F : FOps) (x0 : Int) : evFn (cxS F tyl [(73, c_impl_IsFinite F)] [] [] 0) Try.f87 false [V.at (A.fl .f32 x0)] [] = some ⟨V.at (A.bool (Pure.impl_finite_c1 F x0)), none, []⟩ := by
  kernel_rfl
theorem ok_impl_finite_c1 : CallOK Try.prog 87 (c_impl_finite_c1 real) := by
  refine callOK_of fun args h ret hc => ?_
  unfold c_impl_finite_c1 at hc
  split at hc
  · rename_i x0
    obtain ⟨_, rfl⟩ := some_ret hc
    exact holds_ev prog_ok (allOK_cons ok_impl_IsFinite allOK_nil) Try.func87 rfl rfl smL_nil rfl (e_impl_finite_c1 real x0)
  · cases hc
def Pure.slices_IndexFunc_float32_float32_finite_L0 (F : FOps) (y0 : Int) (y2 : List (List Int)) : Nat → Int → (Bool × Bool × Int)
  | 0, _ => (false, false, 0)
  | n + 1, y1 => bif (decide (y1 < y0)) then (bif (decide (0 ≤ y1)) then (bif (decide (y1 < (Int.ofNat y2.length))) then (bif (Pure.impl_finite_c1 F ((y2.getD y1.toNat []).getD 0 0)) then ((true, true, y1)) else (Pure.slices_IndexFunc_float32_float32_finite_L0 F y0 y2 n (IntKind.wrap .i64 (y1 + 1)))) else ((false, false, 0))) else ((false, false, 0))) else ((true, false, 0))
def R_slices_IndexFunc_float32_float32_finite_L0 (y2 : List (List Int)) (r : (Bool × Bool × Int)) : Bool × Ends := ((r).1, .two (r).2.1 (.one Ex.normal [V.at A.undef] [⟨false, .rows [K.f .f32] y2⟩]) (.one Ex.ret [V.at (A.int .i64 (r).2.2)] [⟨false, .rows [K.f .f32] y2⟩]))
def S_slices_IndexFunc_float32_float32_finite_L0 (F : FOps) : Sm := ⟨[0, 1, 7, 8], [41, 74, 3, 3], [4], fun vals hp => match vals, hp with
  | [V.at (A.sl 0), V.at (A.fn 87 []), V.at (A.int .i64 y0), V.at (A.int .i64 y1)], [⟨false, .rows [K.f .f32] y2⟩] => some (R_slices_IndexFunc_float32_float32_finite_L0 y2 (Pure.slices_IndexFunc_float32_float32_finite_L0 F y0 y2 (y0 - y1 + 1).toNat y1))
  | _, _ => none⟩
theorem l_slices_IndexFunc_float32_float32_finite_L0 (F : FOps) (y0 : Int) (y2 : List (List Int)) : ∀ (fuel : Nat) (y1 : Int), (Pure.slices_IndexFunc_float32_float32_finite_L0 F y0 y2 fuel y1).1 = true → loopOf (cxS F tyl [(87, c_impl_finite_c1 F)] [] [] 0) 1 19 0 [0, 1, 7, 8] [41, 74, 3, 3] [4] (loopB 0 (codeOf Try.f89)) fuel [V.at (A.sl 0), V.at (A.fn 87 []), V.at (A.int .i64 y0), V.at (A.int .i64 y1)] [⟨false, .rows [K.f .f32] y2⟩] = resOf (R_slices_IndexFunc_float32_float32_finite_L0 y2 (Pure.slices_IndexFunc_float32_float32_finite_L0 F y0 y2 fuel y1)) := by
  intro fuel
  induction fuel with
  | zero => intro y1 h; exact absurd h Bool.false_ne_true
  | succ n ih =>
    intro y1
    have h0 : roundOf (cxS F tyl [(87, c_impl_finite_c1 F)] [] [] 0) 1 19 0 [0, 1, 7, 8] [41, 74, 3, 3] [4] (loopB 0 (codeOf Try.f89)) [V.at (A.sl 0), V.at (A.fn 87 []), V.at (A.int .i64 y0), V.at (A.int .i64 y1)] [⟨false, .rows [K.f .f32] y2⟩] = (bif decide (y1 < y0) then bif decide (0 ≤ y1) then bif decide (y1 < (Int.ofNat y2.length)) then bif Pure.impl_finite_c1 F ((y2.getD y1.toNat []).getD 0 0) then some (false, (Ex.ret, ([V.at (A.int .i64 y1)], [⟨false, .rows [K.f .f32] y2⟩]))) else some (true, (Ex.normal, ([V.at (A.sl 0), V.at (A.fn 87 []), V.at (A.int .i64 y0), V.at (A.int .i64 (IntKind.wrap .i64 (y1 + 1)))], [⟨false, .rows [K.f .f32] y2⟩]))) else none else none else some (false, (Ex.normal, ([V.at A.undef], [⟨false, .rows [K.f .f32] y2⟩])))) := by kernel_rfl
    unfold loopOf
    rw [h0]
    unfold Pure.slices_IndexFunc_float32_float32_finite_L0
    cases (decide (y1 < y0)) with
    | true =>
      cases (decide (0 ≤ y1)) with
      | true =>
        cases (decide (y1 < (Int.ofNat y2.length))) with
        | true =>
          cases (Pure.impl_finite_c1 F ((y2.getD y1.toNat []).getD 0 0)) with
          | true =>
            intro _; rfl
          | false =>
            exact ih _
        | false =>
          intro h; exact absurd h Bool.false_ne_true
      | false =>
        intro h; exact absurd h Bool.false_ne_true
    | false =>
      intro _; rfl
theorem t_slices_IndexFunc_float32_float32_finite_L0 : SmTo Try.prog 1 19 (S_slices_IndexFunc_float32_float32_finite_L0 real) 0 (.loop (loopB 0 (codeOf Try.f89))) := by
  refine smTo_ev (cl := [(87, c_impl_finite_c1 real)]) (ef := []) (sm := []) (un := 0) prog_ok (allOK_cons ok_impl_finite_c1 allOK_nil) smL_nil ?_
  intro vals hp q r h hq
  unfold S_slices_IndexFunc_float32_float32_finite_L0 at h
  dsimp only at h
  split at h
  · rename_i y0 y1 y2
    obtain rfl := Option.some.inj h
    have h1 := hq
    unfold resOf at h1
    rw [chk_some] at h1
    exact ⟨_, (l_slices_IndexFunc_float32_float32_finite_L0 real y0 y2 _ y1 h1.1).trans hq⟩
  · cases h
def Pure.slices_IndexFunc_float32_float32_finite (F : FOps) (x0 : List (List Int)) : Int := bif Prod.fst (Prod.snd (Pure.slices_IndexFunc_float32_float32_finite_L0 F (Int.ofNat x0.length) x0 (Nat.succ (x0.length + 0)) 0)) then Prod.snd (Prod.snd (Pure.slices_IndexFunc_float32_float32_finite_L0 F (Int.ofNat x0.length) x0 (Nat.succ (x0.length + 0)) 0)) else (-1)
def Pure.slices_IndexFunc_float32_float32_finite_ok (F : FOps) (x0 : List (List Int)) : Bool := Prod.fst (Pure.slices_IndexFunc_float32_float32_finite_L0 F (Int.ofNat x0.length) x0 (Nat.succ (x0.length + 0)) 0)
def c_slices_IndexFunc_float32_float32_finite (F : FOps) : Con
  | [V.at (A.sl 0), V.at (A.fn 87 [])], [⟨false, .rows [K.f .f32] x0⟩] => some (Pure.slices_IndexFunc_float32_float32_finite_ok F x0, ⟨V.at (A.int .i64 (Pure.slices_IndexFunc_float32_float32_finite F x0)), none, []⟩)
  | _, _ => none
theorem e_slices_IndexFunc_float32_float32_finite (F : FOps) (x0 : List (List Int)) : Pure.slices_IndexFunc_float32_float32_finite_ok F x0 = true → evFn (cxS F tyl [(87, c_impl_finite_c1 F)] [] [(0, S_slices_IndexFunc_float32_float32_finite_L0 F)] 0) Try.f89 false [V.at (A.sl 0), V.at (A.fn 87 [])] [⟨false, .rows [K.f .f32] x0⟩] = some ⟨V.at (A.int .i64 (Pure.slices_IndexFunc_float32_float32_finite F x0)), none, []⟩ := by
  have h0 : evFn (cxS F tyl [(87, c_impl_finite_c1 F)] [] [(0, S_slices_IndexFunc_float32_float32_finite_L0 F)] 0) Try.f89 false [V.at (A.sl 0), V.at (A.fn 87 [])] [⟨false, .rows [K.f .f32] x0⟩] = bif Prod.fst (Pure.slices_IndexFunc_float32_float32_finite_L0 F (Int.ofNat x0.length) x0 (Nat.succ (x0.length + 0)) 0) then bif Prod.fst (Prod.snd (Pure.slices_IndexFunc_float32_float32_finite_L0 F (Int.ofNat x0.length) x0 (Nat.succ (x0.length + 0)) 0)) then some ⟨V.at (A.int .i64 (Prod.snd (Prod.snd (Pure.slices_IndexFunc_float32_float32_finite_L0 F (Int.ofNat x0.length) x0 (Nat.succ (x0.length + 0)) 0)))), none, []⟩ else some ⟨V.at (A.int .i64 (-1)), none, []⟩ else none := by kernel_rfl
  rw [h0]
  unfold Pure.slices_IndexFunc_float32_float32_finite Pure.slices_IndexFunc_float32_float32_finite_ok
  cases (Prod.fst (Pure.slices_IndexFunc_float32_float32_finite_L0 F (Int.ofNat x0.length) x0 (Nat.succ (x0.length + 0)) 0)) with
  | true =>
    cases (Prod.fst (Prod.snd (Pure.slices_IndexFunc_float32_float32_finite_L0 F (Int.ofNat x0.length) x0 (Nat.succ (x0.length + 0)) 0))) with
    | true =>
      intro _; rfl
    | false =>
      intro _; rfl
  | false =>
    intro h; exact absurd h Bool.false_ne_true
theorem ok_slices_IndexFunc_float32_float32_finite : CallOK Try.prog 89 (c_slices_IndexFunc_float32_float32_finite real) := by
  refine callOK_of fun args h ret hc => ?_
  unfold c_slices_IndexFunc_float32_float32_finite at hc
  split at hc
  · rename_i x0
    obtain ⟨hok, rfl⟩ := some_ret hc
    exact holds_ev prog_ok (allOK_cons ok_impl_finite_c1 allOK_nil) Try.func89 rfl rfl (smL_cons (body := .loop (loopB 0 (codeOf Try.f89))) (by kernel_rfl) t_slices_IndexFunc_float32_float32_finite_L0 smL_nil) rfl (e_slices_IndexFunc_float32_float32_finite real x0 hok)
  · cases hc
def Pure.slices_ContainsFunc_float32_float32_finite (F : FOps) (x0 : List (List Int)) : Bool := decide ((Pure.slices_IndexFunc_float32_float32_finite F x0) ≥ 0)
def Pure.slices_ContainsFunc_float32_float32_finite_ok (F : FOps) (x0 : List (List Int)) : Bool := Pure.slices_IndexFunc_float32_float32_finite_ok F x0
def c_slices_ContainsFunc_float32_float32_finite (F : FOps) : Con
  | [V.at (A.sl 0), V.at (A.fn 87 [])], [⟨false, .rows [K.f .f32] x0⟩] => some (Pure.slices_ContainsFunc_float32_float32_finite_ok F x0, ⟨V.at (A.bool (Pure.slices_ContainsFunc_float32_float32_finite F x0)), none, []⟩)
  | _, _ => none
theorem e_slices_ContainsFunc_float32_float32_finite (F : FOps) (x0 : List (List Int)) : Pure.slices_ContainsFunc_float32_float32_finite_ok F x0 = true → evFn (cxS F tyl [(89, c_slices_IndexFunc_float32_float32_finite F), (87, c_impl_finite_c1 F)] [] [] 0) Try.f86 false [V.at (A.sl 0), V.at (A.fn 87 [])] [⟨false, .rows [K.f .f32] x0⟩] = some ⟨V.at (A.bool (Pure.slices_ContainsFunc_float32_float32_finite F x0)), none, []⟩ := by
  have h0 : evFn (cxS F tyl [(89, c_slices_IndexFunc_float32_float32_finite F), (87, c_impl_finite_c1 F)] [] [] 0) Try.f86 false [V.at (A.sl 0), V.at (A.fn 87 [])] [⟨false, .rows [K.f .f32] x0⟩] = bif Pure.slices_IndexFunc_float32_float32_finite_ok F x0 then some ⟨V.at (A.bool (decide ((Pure.slices_IndexFunc_float32_float32_finite F x0) ≥ 0))), none, []⟩ else none := by kernel_rfl
  rw [h0]
  unfold Pure.slices_ContainsFunc_float32_float32_finite Pure.slices_ContainsFunc_float32_float32_finite_ok
  cases (Pure.slices_IndexFunc_float32_float32_finite_ok F x0) with
  | true =>
    intro _; rfl
  | false =>
    intro h; exact absurd h Bool.false_ne_true
theorem ok_slices_ContainsFunc_float32_float32_finite : CallOK Try.prog 86 (c_slices_ContainsFunc_float32_float32_finite real) := by
  refine callOK_of fun args h ret hc => ?_
  unfold c_slices_ContainsFunc_float32_float32_finite at hc
  split at hc
  · rename_i x0
    obtain ⟨hok, rfl⟩ := some_ret hc
    exact holds_ev prog_ok (allOK_cons ok_slices_IndexFunc_float32_float32_finite (allOK_cons ok_impl_finite_c1 allOK_nil)) Try.func86 rfl rfl smL_nil rfl (e_slices_ContainsFunc_float32_float32_finite real x0 hok)
  · cases hc
def Pure.spec_l01Finite (F : FOps) (x0 : Int) : Bool := F.cmp .eql .f32 (F.bin .sub .f32 x0 x0) 0
def c_spec_l01Finite (F : FOps) : Con
  | [V.at (A.fl .f32 x0)], [] => some (true, ⟨V.at (A.bool (Pure.spec_l01Finite F x0)), none, []⟩)
  | _, _ => none
theorem e_spec_l01Finite (F : FOps) (x0 : Int) : evFn (cxS F tyl [] [] [] 0) Try.f71 false [V.at (A.fl .f32 x0)] [] = some ⟨V.at (A.bool (Pure.spec_l01Finite F x0)), none, []⟩ := by
  kernel_rfl
theorem ok_spec_l01Finite : CallOK Try.prog 71 (c_spec_l01Finite real) := by
  refine callOK_of fun args h ret hc => ?_
  unfold c_spec_l01Finite at hc
  split at hc
  · rename_i x0
    obtain ⟨_, rfl⟩ := some_ret hc
    exact holds_ev prog_ok allOK_nil Try.func71 rfl rfl smL_nil rfl (e_spec_l01Finite real x0)
  · cases hc
def Pure.spec_l02Above (F : FOps) (x0 : Int) : Bool := bif Pure.spec_l01Finite F x0 then F.cmp .gtr .f32 x0 0 else false
def c_spec_l02Above (F : FOps) : Con
  | [V.at (A.fl .f32 x0)], [] => some (true, ⟨V.at (A.bool (Pure.spec_l02Above F x0)), none, []⟩)
  | _, _ => none
theorem e_spec_l02Above (F : FOps) (x0 : Int) : evFn (cxS F tyl [(71, c_spec_l01Finite F)] [] [] 0) Try.f88 false [V.at (A.fl .f32 x0)] [] = some ⟨V.at (A.bool (Pure.spec_l02Above F x0)), none, []⟩ := by
  have h0 : evFn (cxS F tyl [(71, c_spec_l01Finite F)] [] [] 0) Try.f88 false [V.at (A.fl .f32 x0)] [] = bif Pure.spec_l01Finite F x0 then some ⟨V.at (A.bool (F.cmp .gtr .f32 x0 0)), none, []⟩ else some ⟨V.at (A.bool false), none, []⟩ := by kernel_rfl
  rw [h0]
  unfold Pure.spec_l02Above
  cases (Pure.spec_l01Finite F x0) with
  | true =>
    rfl
  | false =>
    rfl
theorem ok_spec_l02Above : CallOK Try.prog 88 (c_spec_l02Above real) := by
  refine callOK_of fun args h ret hc => ?_
  unfold c_spec_l02Above at hc
  split at hc
  · rename_i x0
    obtain ⟨_, rfl⟩ := some_ret hc
    exact holds_ev prog_ok (allOK_cons ok_spec_l01Finite allOK_nil) Try.func88 rfl rfl smL_nil rfl (e_spec_l02Above real x0)
  · cases hc
def Pure.spec_l06Ball_e (F : FOps) (x0 : Nat) (x1 : List (List Int)) : Bool := bif Pure.spec_l01Finite F (List.getD (List.getD x1 x0 []) 0 0) then bif Pure.spec_l01Finite F (List.getD (List.getD x1 x0 []) 1 0) then Pure.spec_l02Above F (List.getD (List.getD x1 x0 []) 2 0) else false else false
def c_spec_l06Ball_e (F : FOps) : Con
  | [V.at (A.ptr 0 x0 0)], [⟨false, .rows [K.f .f32, K.f .f32, K.f .f32] x1⟩] => some (true, ⟨V.at (A.bool (Pure.spec_l06Ball_e F x0 x1)), none, []⟩)
  | _, _ => none
theorem e_spec_l06Ball_e (F : FOps) (x0 : Nat) (x1 : List (List Int)) : evFn (cxS F tyl [(71, c_spec_l01Finite F), (88, c_spec_l02Above F)] [] [] 0) Try.f83 false [V.at (A.ptr 0 x0 0)] [⟨false, .rows [K.f .f32, K.f .f32, K.f .f32] x1⟩] = some ⟨V.at (A.bool (Pure.spec_l06Ball_e F x0 x1)), none, []⟩ := by
  have h0 : evFn (cxS F tyl [(71, c_spec_l01Finite F), (88, c_spec_l02Above F)] [] [] 0) Try.f83 false [V.at (A.ptr 0 x0 0)] [⟨false, .rows [K.f .f32, K.f .f32, K.f .f32] x1⟩] = bif Pure.spec_l01Finite F (List.getD (List.getD x1 x0 []) 0 0) then bif Pure.spec_l01Finite F (List.getD (List.getD x1 x0 []) 1 0) then some ⟨V.at (A.bool (Pure.spec_l02Above F (List.getD (List.getD x1 x0 []) 2 0))), none, []⟩ else some ⟨V.at (A.bool false), none, []⟩ else some ⟨V.at (A.bool false), none, []⟩ := by kernel_rfl
  rw [h0]
  unfold Pure.spec_l06Ball_e
  cases (Pure.spec_l01Finite F (List.getD (List.getD x1 x0 []) 0 0)) with
  | true =>
    cases (Pure.spec_l01Finite F (List.getD (List.getD x1 x0 []) 1 0)) with
    | true =>
      rfl
    | false =>
      rfl
  | false =>
    rfl
theorem ok_spec_l06Ball_e : CallOK Try.prog 83 (c_spec_l06Ball_e real) := by
  refine callOK_of fun args h ret hc => ?_
  unfold c_spec_l06Ball_e at hc
  split at hc
  · rename_i x0 x1
    obtain ⟨_, rfl⟩ := some_ret hc
    exact holds_ev prog_ok (allOK_cons ok_spec_l01Finite (allOK_cons ok_spec_l02Above allOK_nil)) Try.func83 rfl rfl smL_nil rfl (e_spec_l06Ball_e real x0 x1)
  · cases hc
def Pure.impl_in (F : FOps) (x0 x1 x2 : Int) : Bool := bif decide (x0 ≥ x1) then decide (x0 ≤ x2) else false
def c_impl_in (F : FOps) : Con
  | [V.at (A.int .i64 x0), V.at (A.int .i64 x1), V.at (A.int .i64 x2)], [] => some (true, ⟨V.at (A.bool (Pure.impl_in F x0 x1 x2)), none, []⟩)
  | _, _ => none
theorem e_impl_in (F : FOps) (x0 x1 x2 : Int) : evFn (cxS F tyl [] [] [] 0) Try.f48 false [V.at (A.int .i64 x0), V.at (A.int .i64 x1), V.at (A.int .i64 x2)] [] = some ⟨V.at (A.bool (Pure.impl_in F x0 x1 x2)), none, []⟩ := by
  have h0 : evFn (cxS F tyl [] [] [] 0) Try.f48 false [V.at (A.int .i64 x0), V.at (A.int .i64 x1), V.at (A.int .i64 x2)] [] = bif decide (x0 ≥ x1) then some ⟨V.at (A.bool (decide (x0 ≤ x2))), none, []⟩ else some ⟨V.at (A.bool false), none, []⟩ := by kernel_rfl
  rw [h0]
  unfold Pure.impl_in
  cases (decide (x0 ≥ x1)) with
  | true =>
    rfl
  | false =>
    rfl
theorem ok_impl_in : CallOK Try.prog 48 (c_impl_in real) := by
  refine callOK_of fun args h ret hc => ?_
  unfold c_impl_in at hc
  split at hc
  · rename_i x0 x1 x2
    obtain ⟨_, rfl⟩ := some_ret hc
    exact holds_ev prog_ok allOK_nil Try.func48 rfl rfl smL_nil rfl (e_impl_in real x0 x1 x2)
  · cases hc
def Pure.impl_Row_meet (F : FOps) (x0 : List (List Int)) (x1 x2 : Int) : List (List Int) := List.set (List.set x0 (Int.toNat x2) (setFrom (List.getD x0 (Int.toNat x2) []) 1 [F.bin .quo .f32 (F.bin .add .f32 (F.bin .add .f32 (F.bin .mul .f32 ((x0.getD x2.toNat []).getD 2 0) ((x0.getD x2.toNat []).getD 1 0)) (F.bin .mul .f32 (List.getD (List.getD x0 (Int.toNat (IntKind.wrap .i64 (x2 + 1))) []) 2 0) (List.getD (List.getD x0 (Int.toNat (IntKind.wrap .i64 (x2 + 1))) []) 1 0))) (F.bin .mul .f32 (List.getD (List.getD x0 (Int.toNat (IntKind.wrap .i64 (x2 + 1))) []) 2 0) (F.bin .mul .f32 x1 (F.bin .sub .f32 (List.getD (List.getD x0 (Int.toNat (IntKind.wrap .i64 (x2 + 1))) []) 1 0) ((x0.getD x2.toNat []).getD 1 0))))) (F.bin .add .f32 ((x0.getD x2.toNat []).getD 2 0) (List.getD (List.getD x0 (Int.toNat (IntKind.wrap .i64 (x2 + 1))) []) 2 0))])) (Int.toNat (IntKind.wrap .i64 (x2 + 1))) (setFrom (List.getD (List.set x0 (Int.toNat x2) (setFrom (List.getD x0 (Int.toNat x2) []) 1 [F.bin .quo .f32 (F.bin .add .f32 (F.bin .add .f32 (F.bin .mul .f32 ((x0.getD x2.toNat []).getD 2 0) ((x0.getD x2.toNat []).getD 1 0)) (F.bin .mul .f32 (List.getD (List.getD x0 (Int.toNat (IntKind.wrap .i64 (x2 + 1))) []) 2 0) (List.getD (List.getD x0 (Int.toNat (IntKind.wrap .i64 (x2 + 1))) []) 1 0))) (F.bin .mul .f32 (List.getD (List.getD x0 (Int.toNat (IntKind.wrap .i64 (x2 + 1))) []) 2 0) (F.bin .mul .f32 x1 (F.bin .sub .f32 (List.getD (List.getD x0 (Int.toNat (IntKind.wrap .i64 (x2 + 1))) []) 1 0) ((x0.getD x2.toNat []).getD 1 0))))) (F.bin .add .f32 ((x0.getD x2.toNat []).getD 2 0) (List.getD (List.getD x0 (Int.toNat (IntKind.wrap .i64 (x2 + 1))) []) 2 0))])) (Int.toNat (IntKind.wrap .i64 (x2 + 1))) []) 1 [F.bin .quo .f32 (F.bin .sub .f32 (F.bin .add .f32 (F.bin .mul .f32 ((x0.getD x2.toNat []).getD 2 0) ((x0.getD x2.toNat []).getD 1 0)) (F.bin .mul .f32 (List.getD (List.getD x0 (Int.toNat (IntKind.wrap .i64 (x2 + 1))) []) 2 0) (List.getD (List.getD x0 (Int.toNat (IntKind.wrap .i64 (x2 + 1))) []) 1 0))) (F.bin .mul .f32 ((x0.getD x2.toNat []).getD 2 0) (F.bin .mul .f32 x1 (F.bin .sub .f32 (List.getD (List.getD x0 (Int.toNat (IntKind.wrap .i64 (x2 + 1))) []) 1 0) ((x0.getD x2.toNat []).getD 1 0))))) (F.bin .add .f32 ((x0.getD x2.toNat []).getD 2 0) (List.getD (List.getD x0 (Int.toNat (IntKind.wrap .i64 (x2 + 1))) []) 2 0))])
def Pure.impl_Row_meet_ok (F : FOps) (x0 : List (List Int)) (x1 x2 : Int) : Bool := bif decide (0 ≤ x2) then bif decide (x2 < (Int.ofNat x0.length)) then bif decide (0 ≤ (IntKind.wrap .i64 (x2 + 1))) then decide ((IntKind.wrap .i64 (x2 + 1)) < (Int.ofNat x0.length)) else false else false else false
def c_impl_Row_meet (F : FOps) : Con
  | [V.at (A.ptr 0 0 0), V.at (A.int .i64 x2)], [⟨true, .box [A.sl 1, A.fl .f32 x1]⟩, ⟨true, .rows [K.f .f32, K.f .f32, K.f .f32] x0⟩] => some (Pure.impl_Row_meet_ok F x0 x1 x2, ⟨V.tup [], some [⟨true, .box [A.sl 1, A.fl .f32 x1]⟩, ⟨true, .rows [K.f .f32, K.f .f32, K.f .f32] (Pure.impl_Row_meet F x0 x1 x2)⟩], []⟩)
  | _, _ => none
theorem e_impl_Row_meet (F : FOps) (x0 : List (List Int)) (x1 x2 : Int) : Pure.impl_Row_meet_ok F x0 x1 x2 = true → evFn (cxS F tyl [] [] [] 0) Try.f77 true [V.at (A.ptr 0 0 0), V.at (A.int .i64 x2)] [⟨true, .box [A.sl 1, A.fl .f32 x1]⟩, ⟨true, .rows [K.f .f32, K.f .f32, K.f .f32] x0⟩] = some ⟨V.tup [], some [⟨true, .box [A.sl 1, A.fl .f32 x1]⟩, ⟨true, .rows [K.f .f32, K.f .f32, K.f .f32] (Pure.impl_Row_meet F x0 x1 x2)⟩], []⟩ := by
  have h0 : evFn (cxS F tyl [] [] [] 0) Try.f77 true [V.at (A.ptr 0 0 0), V.at (A.int .i64 x2)] [⟨true, .box [A.sl 1, A.fl .f32 x1]⟩, ⟨true, .rows [K.f .f32, K.f .f32, K.f .f32] x0⟩] = bif decide (0 ≤ x2) then bif decide (x2 < (Int.ofNat x0.length)) then bif decide (0 ≤ (IntKind.wrap .i64 (x2 + 1))) then bif decide ((IntKind.wrap .i64 (x2 + 1)) < (Int.ofNat x0.length)) then some ⟨V.tup [], some [⟨true, .box [A.sl 1, A.fl .f32 x1]⟩, ⟨true, .rows [K.f .f32, K.f .f32, K.f .f32] (List.set (List.set x0 (Int.toNat x2) (setFrom (List.getD x0 (Int.toNat x2) []) 1 [F.bin .quo .f32 (F.bin .add .f32 (F.bin .add .f32 (F.bin .mul .f32 ((x0.getD x2.toNat []).getD 2 0) ((x0.getD x2.toNat []).getD 1 0)) (F.bin .mul .f32 (List.getD (List.getD x0 (Int.toNat (IntKind.wrap .i64 (x2 + 1))) []) 2 0) (List.getD (List.getD x0 (Int.toNat (IntKind.wrap .i64 (x2 + 1))) []) 1 0))) (F.bin .mul .f32 (List.getD (List.getD x0 (Int.toNat (IntKind.wrap .i64 (x2 + 1))) []) 2 0) (F.bin .mul .f32 x1 (F.bin .sub .f32 (List.getD (List.getD x0 (Int.toNat (IntKind.wrap .i64 (x2 + 1))) []) 1 0) ((x0.getD x2.toNat []).getD 1 0))))) (F.bin .add .f32 ((x0.getD x2.toNat []).getD 2 0) (List.getD (List.getD x0 (Int.toNat (IntKind.wrap .i64 (x2 + 1))) []) 2 0))])) (Int.toNat (IntKind.wrap .i64 (x2 + 1))) (setFrom (List.getD (List.set x0 (Int.toNat x2) (setFrom (List.getD x0 (Int.toNat x2) []) 1 [F.bin .quo .f32 (F.bin .add .f32 (F.bin .add .f32 (F.bin .mul .f32 ((x0.getD x2.toNat []).getD 2 0) ((x0.getD x2.toNat []).getD 1 0)) (F.bin .mul .f32 (List.getD (List.getD x0 (Int.toNat (IntKind.wrap .i64 (x2 + 1))) []) 2 0) (List.getD (List.getD x0 (Int.toNat (IntKind.wrap .i64 (x2 + 1))) []) 1 0))) (F.bin .mul .f32 (List.getD (List.getD x0 (Int.toNat (IntKind.wrap .i64 (x2 + 1))) []) 2 0) (F.bin .mul .f32 x1 (F.bin .sub .f32 (List.getD (List.getD x0 (Int.toNat (IntKind.wrap .i64 (x2 + 1))) []) 1 0) ((x0.getD x2.toNat []).getD 1 0))))) (F.bin .add .f32 ((x0.getD x2.toNat []).getD 2 0) (List.getD (List.getD x0 (Int.toNat (IntKind.wrap .i64 (x2 + 1))) []) 2 0))])) (Int.toNat (IntKind.wrap .i64 (x2 + 1))) []) 1 [F.bin .quo .f32 (F.bin .sub .f32 (F.bin .add .f32 (F.bin .mul .f32 ((x0.getD x2.toNat []).getD 2 0) ((x0.getD x2.toNat []).getD 1 0)) (F.bin .mul .f32 (List.getD (List.getD x0 (Int.toNat (IntKind.wrap .i64 (x2 + 1))) []) 2 0) (List.getD (List.getD x0 (Int.toNat (IntKind.wrap .i64 (x2 + 1))) []) 1 0))) (F.bin .mul .f32 ((x0.getD x2.toNat []).getD 2 0) (F.bin .mul .f32 x1 (F.bin .sub .f32 (List.getD (List.getD x0 (Int.toNat (IntKind.wrap .i64 (x2 + 1))) []) 1 0) ((x0.getD x2.toNat []).getD 1 0))))) (F.bin .add .f32 ((x0.getD x2.toNat []).getD 2 0) (List.getD (List.getD x0 (Int.toNat (IntKind.wrap .i64 (x2 + 1))) []) 2 0))]))⟩], []⟩ else none else none else none else none := by kernel_rfl
  rw [h0]
  unfold Pure.impl_Row_meet Pure.impl_Row_meet_ok
  cases (decide (0 ≤ x2)) with
  | true =>
    cases (decide (x2 < (Int.ofNat x0.length))) with
    | true =>
      cases (decide (0 ≤ (IntKind.wrap .i64 (x2 + 1)))) with
      | true =>
        cases (decide ((IntKind.wrap .i64 (x2 + 1)) < (Int.ofNat x0.length))) with
        | true =>
          intro _; rfl
        | false =>
          intro h; exact absurd h Bool.false_ne_true
      | false =>
        intro h; exact absurd h Bool.false_ne_true
    | false =>
      intro h; exact absurd h Bool.false_ne_true
  | false =>
    intro h; exact absurd h Bool.false_ne_true
theorem ok_impl_Row_meet : CallOK Try.prog 77 (c_impl_Row_meet real) := by
  refine callOK_of fun args h ret hc => ?_
  unfold c_impl_Row_meet at hc
  split at hc
  · rename_i x2 x1 x0
    obtain ⟨hok, rfl⟩ := some_ret hc
    exact holdsE_ev prog_ok allOK_nil Try.func77 rfl rfl smL_nil (e_impl_Row_meet real x0 x1 x2 hok)
  · cases hc
def Pure.impl_MeetBalls_c1 (F : FOps) (x0 : List (List Int)) (x1 x2 : Int) : Bool := Pure.impl_in F x2 0 (IntKind.wrap .i64 ((Int.ofNat x0.length) - 2))
def Pure.impl_MeetBalls_c1_1 (F : FOps) (x0 : List (List Int)) (x1 x2 : Int) : List (List Int) := bif Pure.impl_in F x2 0 (IntKind.wrap .i64 ((Int.ofNat x0.length) - 2)) then Pure.impl_Row_meet F x0 x1 x2 else x0
def Pure.impl_MeetBalls_c1_ok (F : FOps) (x0 : List (List Int)) (x1 x2 : Int) : Bool := bif Pure.impl_in F x2 0 (IntKind.wrap .i64 ((Int.ofNat x0.length) - 2)) then Pure.impl_Row_meet_ok F x0 x1 x2 else true
def c_impl_MeetBalls_c1 (F : FOps) : Con
  | [V.at (A.ptr 0 0 0), V.at (A.ptr 1 0 0)], [⟨true, .box [A.sl 2, A.fl .f32 x1]⟩, ⟨false, .box [A.int .i64 x2]⟩, ⟨true, .rows [K.f .f32, K.f .f32, K.f .f32] x0⟩] => some (Pure.impl_MeetBalls_c1_ok F x0 x1 x2, ⟨V.at (A.bool (Pure.impl_MeetBalls_c1 F x0 x1 x2)), some [⟨true, .box [A.sl 2, A.fl .f32 x1]⟩, ⟨false, .box [A.int .i64 x2]⟩, ⟨true, .rows [K.f .f32, K.f .f32, K.f .f32] (Pure.impl_MeetBalls_c1_1 F x0 x1 x2)⟩], []⟩)
  | _, _ => none
theorem e_impl_MeetBalls_c1 (F : FOps) (x0 : List (List Int)) (x1 x2 : Int) : Pure.impl_MeetBalls_c1_ok F x0 x1 x2 = true → evFn (cxS F tyl [(48, c_impl_in F), (77, c_impl_Row_meet F)] [77] [] 0) Try.f76 true [V.at (A.ptr 0 0 0), V.at (A.ptr 1 0 0)] [⟨true, .box [A.sl 2, A.fl .f32 x1]⟩, ⟨false, .box [A.int .i64 x2]⟩, ⟨true, .rows [K.f .f32, K.f .f32, K.f .f32] x0⟩] = some ⟨V.at (A.bool (Pure.impl_MeetBalls_c1 F x0 x1 x2)), some [⟨true, .box [A.sl 2, A.fl .f32 x1]⟩, ⟨false, .box [A.int .i64 x2]⟩, ⟨true, .rows [K.f .f32, K.f .f32, K.f .f32] (Pure.impl_MeetBalls_c1_1 F x0 x1 x2)⟩], []⟩ := by
  have h0 : evFn (cxS F tyl [(48, c_impl_in F), (77, c_impl_Row_meet F)] [77] [] 0) Try.f76 true [V.at (A.ptr 0 0 0), V.at (A.ptr 1 0 0)] [⟨true, .box [A.sl 2, A.fl .f32 x1]⟩, ⟨false, .box [A.int .i64 x2]⟩, ⟨true, .rows [K.f .f32, K.f .f32, K.f .f32] x0⟩] = bif Bool.not (Pure.impl_in F x2 0 (IntKind.wrap .i64 ((Int.ofNat x0.length) - 2))) then some ⟨V.at (A.bool false), some [⟨true, .box [A.sl 2, A.fl .f32 x1]⟩, ⟨false, .box [A.int .i64 x2]⟩, ⟨true, .rows [K.f .f32, K.f .f32, K.f .f32] x0⟩], []⟩ else bif Pure.impl_Row_meet_ok F x0 x1 x2 then some ⟨V.at (A.bool true), some [⟨true, .box [A.sl 2, A.fl .f32 x1]⟩, ⟨false, .box [A.int .i64 x2]⟩, ⟨true, .rows [K.f .f32, K.f .f32, K.f .f32] (Pure.impl_Row_meet F x0 x1 x2)⟩], []⟩ else none := by kernel_rfl
  rw [h0]
  unfold Pure.impl_MeetBalls_c1 Pure.impl_MeetBalls_c1_1 Pure.impl_MeetBalls_c1_ok
  cases (Pure.impl_in F x2 0 (IntKind.wrap .i64 ((Int.ofNat x0.length) - 2))) with
  | true =>
    cases (Pure.impl_Row_meet_ok F x0 x1 x2) with
    | true =>
      intro _; rfl
    | false =>
      intro h; exact absurd h Bool.false_ne_true
  | false =>
    intro _; rfl
theorem ok_impl_MeetBalls_c1 : CallOK Try.prog 76 (c_impl_MeetBalls_c1 real) := by
  refine callOK_of fun args h ret hc => ?_
  unfold c_impl_MeetBalls_c1 at hc
  split at hc
  · rename_i x1 x2 x0
    obtain ⟨hok, rfl⟩ := some_ret hc
    exact holdsE_ev prog_ok (allOK_cons ok_impl_in (allOK_cons ok_impl_Row_meet allOK_nil)) Try.func76 rfl rfl smL_nil (e_impl_MeetBalls_c1 real x0 x1 x2 hok)
  · cases hc
def Pure.impl_finite (F : FOps) (x0 : List (List Int)) : Bool := bif Pure.slices_ContainsFunc_float32_float32_finite F x0 then false else true
def Pure.impl_finite_ok (F : FOps) (x0 : List (List Int)) : Bool := Pure.slices_ContainsFunc_float32_float32_finite_ok F x0
def c_impl_finite (F : FOps) : Con
  | [V.at (A.sl 0)], [⟨false, .rows [K.f .f32] x0⟩] => some (Pure.impl_finite_ok F x0, ⟨V.at (A.bool (Pure.impl_finite F x0)), none, []⟩)
  | _, _ => none
theorem e_impl_finite (F : FOps) (x0 : List (List Int)) : Pure.impl_finite_ok F x0 = true → evFn (cxS F tyl [(86, c_slices_ContainsFunc_float32_float32_finite F), (87, c_impl_finite_c1 F)] [] [] 0) Try.f78 false [V.at (A.sl 0)] [⟨false, .rows [K.f .f32] x0⟩] = some ⟨V.at (A.bool (Pure.impl_finite F x0)), none, []⟩ := by
  have h0 : evFn (cxS F tyl [(86, c_slices_ContainsFunc_float32_float32_finite F), (87, c_impl_finite_c1 F)] [] [] 0) Try.f78 false [V.at (A.sl 0)] [⟨false, .rows [K.f .f32] x0⟩] = bif Pure.slices_ContainsFunc_float32_float32_finite_ok F x0 then some ⟨V.at (A.bool (bif Pure.slices_ContainsFunc_float32_float32_finite F x0 then false else true)), none, []⟩ else none := by kernel_rfl
  rw [h0]
  unfold Pure.impl_finite Pure.impl_finite_ok
  cases (Pure.slices_ContainsFunc_float32_float32_finite_ok F x0) with
  | true =>
    intro _; rfl
  | false =>
    intro h; exact absurd h Bool.false_ne_true
theorem ok_impl_finite : CallOK Try.prog 78 (c_impl_finite real) := by
  refine callOK_of fun args h ret hc => ?_
  unfold c_impl_finite at hc
  split at hc
  · rename_i x0
    obtain ⟨hok, rfl⟩ := some_ret hc
    exact holds_ev prog_ok (allOK_cons ok_slices_ContainsFunc_float32_float32_finite (allOK_cons ok_impl_finite_c1 allOK_nil)) Try.func78 rfl rfl smL_nil rfl (e_impl_finite real x0 hok)
  · cases hc
def Pure.impl_lengthOk (F : FOps) (x0 : Int) : Bool := bif Pure.impl_IsFinite F x0 then F.cmp .gtr .f32 x0 0 else false
def c_impl_lengthOk (F : FOps) : Con
  | [V.at (A.fl .f32 x0)], [] => some (true, ⟨V.at (A.bool (Pure.impl_lengthOk F x0)), none, []⟩)
  | _, _ => none
theorem e_impl_lengthOk (F : FOps) (x0 : Int) : evFn (cxS F tyl [(73, c_impl_IsFinite F)] [] [] 0) Try.f79 false [V.at (A.fl .f32 x0)] [] = some ⟨V.at (A.bool (Pure.impl_lengthOk F x0)), none, []⟩ := by
  have h0 : evFn (cxS F tyl [(73, c_impl_IsFinite F)] [] [] 0) Try.f79 false [V.at (A.fl .f32 x0)] [] = bif Pure.impl_IsFinite F x0 then some ⟨V.at (A.bool (F.cmp .gtr .f32 x0 0)), none, []⟩ else some ⟨V.at (A.bool false), none, []⟩ := by kernel_rfl
  rw [h0]
  unfold Pure.impl_lengthOk
  cases (Pure.impl_IsFinite F x0) with
  | true =>
    rfl
  | false =>
    rfl
theorem ok_impl_lengthOk : CallOK Try.prog 79 (c_impl_lengthOk real) := by
  refine callOK_of fun args h ret hc => ?_
  unfold c_impl_lengthOk at hc
  split at hc
  · rename_i x0
    obtain ⟨_, rfl⟩ := some_ret hc
    exact holds_ev prog_ok (allOK_cons ok_impl_IsFinite allOK_nil) Try.func79 rfl rfl smL_nil rfl (e_impl_lengthOk real x0)
  · cases hc
def Pure.impl_shareOk (F : FOps) (x0 : Int) : Bool := bif F.cmp .geq .f32 x0 0 then F.cmp .leq .f32 x0 1065353216 else false
def c_impl_shareOk (F : FOps) : Con
  | [V.at (A.fl .f32 x0)], [] => some (true, ⟨V.at (A.bool (Pure.impl_shareOk F x0)), none, []⟩)
  | _, _ => none
theorem e_impl_shareOk (F : FOps) (x0 : Int) : evFn (cxS F tyl [] [] [] 0) Try.f80 false [V.at (A.fl .f32 x0)] [] = some ⟨V.at (A.bool (Pure.impl_shareOk F x0)), none, []⟩ := by
  have h0 : evFn (cxS F tyl [] [] [] 0) Try.f80 false [V.at (A.fl .f32 x0)] [] = bif F.cmp .geq .f32 x0 0 then some ⟨V.at (A.bool (F.cmp .leq .f32 x0 1065353216)), none, []⟩ else some ⟨V.at (A.bool false), none, []⟩ := by kernel_rfl
  rw [h0]
  unfold Pure.impl_shareOk
  cases (F.cmp .geq .f32 x0 0) with
  | true =>
    rfl
  | false =>
    rfl
theorem ok_impl_shareOk : CallOK Try.prog 80 (c_impl_shareOk real) := by
  refine callOK_of fun args h ret hc => ?_
  unfold c_impl_shareOk at hc
  split at hc
  · rename_i x0
    obtain ⟨_, rfl⟩ := some_ret hc
    exact holds_ev prog_ok allOK_nil Try.func80 rfl rfl smL_nil rfl (e_impl_shareOk real x0)
  · cases hc
def Pure.impl_ValidRow_L0 (F : FOps) (y0 : Int) (y2 : List (List Int)) (y3 : Int) : Nat → Int → (Bool × Bool)
  | 0, _ => (false, false)
  | n + 1, y1 => bif (decide (y1 < y0)) then (bif (decide (0 ≤ y1)) then (bif (decide (y1 < (Int.ofNat y2.length))) then (bif (Pure.impl_finite_ok F [[List.getD (List.getD y2 (Int.toNat y1) []) 0 0], [List.getD (List.getD y2 (Int.toNat y1) []) 1 0]]) then (bif (Pure.impl_finite F [[List.getD (List.getD y2 (Int.toNat y1) []) 0 0], [List.getD (List.getD y2 (Int.toNat y1) []) 1 0]]) then (bif (Pure.impl_lengthOk F ((y2.getD y1.toNat []).getD 2 0)) then (bif (decide (y1 > 0)) then (bif (decide (0 ≤ (IntKind.wrap .i64 (y1 - 1)))) then (bif (decide ((IntKind.wrap .i64 (y1 - 1)) < (Int.ofNat y2.length))) then (bif (F.cmp .lss .f32 ((y2.getD y1.toNat []).getD 0 0) (List.getD (List.getD y2 (Int.toNat (IntKind.wrap .i64 (y1 - 1))) []) 0 0)) then ((true, true)) else (Pure.impl_ValidRow_L0 F y0 y2 y3 n (IntKind.wrap .i64 (y1 + 1)))) else ((false, false))) else ((false, false))) else (Pure.impl_ValidRow_L0 F y0 y2 y3 n (IntKind.wrap .i64 (y1 + 1)))) else ((true, true))) else ((true, true))) else ((false, false))) else ((false, false))) else ((false, false))) else ((true, false))
def R_impl_ValidRow_L0 (y2 : List (List Int)) (y3 : Int) (r : (Bool × Bool)) : Bool × Ends := ((r).1, .two (r).2 (.one Ex.normal [V.at (A.ptr 1 0 0), V.at A.undef] [⟨false, .rows [K.f .f32, K.f .f32, K.f .f32] y2⟩, ⟨true, .box [A.sl 0, A.fl .f32 y3]⟩]) (.one Ex.ret [V.at (A.ptr 1 0 0), V.at (A.bool false)] [⟨false, .rows [K.f .f32, K.f .f32, K.f .f32] y2⟩, ⟨true, .box [A.sl 0, A.fl .f32 y3]⟩]))
def S_impl_ValidRow_L0 (F : FOps) : Sm := ⟨[1, 6, 7, 8], [0, 23, 3, 3], [1, 2], fun vals hp => match vals, hp with
  | [V.at (A.ptr 1 0 0), V.at (A.sl 0), V.at (A.int .i64 y0), V.at (A.int .i64 y1)], [⟨false, .rows [K.f .f32, K.f .f32, K.f .f32] y2⟩, ⟨true, .box [A.sl 0, A.fl .f32 y3]⟩] => some (R_impl_ValidRow_L0 y2 y3 (Pure.impl_ValidRow_L0 F y0 y2 y3 (y0 - y1 + 1).toNat y1))
  | _, _ => none⟩
theorem l_impl_ValidRow_L0 (F : FOps) (y0 : Int) (y2 : List (List Int)) (y3 : Int) : ∀ (fuel : Nat) (y1 : Int), (Pure.impl_ValidRow_L0 F y0 y2 y3 fuel y1).1 = true → loopOf (cxS F tyl [(78, c_impl_finite F), (79, c_impl_lengthOk F), (48, c_impl_in F), (80, c_impl_shareOk F)] [] [] 0) 1 52 0 [1, 6, 7, 8] [0, 23, 3, 3] [1, 2] (loopB 0 (codeOf Try.f49)) fuel [V.at (A.ptr 1 0 0), V.at (A.sl 0), V.at (A.int .i64 y0), V.at (A.int .i64 y1)] [⟨false, .rows [K.f .f32, K.f .f32, K.f .f32] y2⟩, ⟨true, .box [A.sl 0, A.fl .f32 y3]⟩] = resOf (R_impl_ValidRow_L0 y2 y3 (Pure.impl_ValidRow_L0 F y0 y2 y3 fuel y1)) := by
  intro fuel
  induction fuel with
  | zero => intro y1 h; exact absurd h Bool.false_ne_true
  | succ n ih =>
    intro y1
    have h0 : roundOf (cxS F tyl [(78, c_impl_finite F), (79, c_impl_lengthOk F), (48, c_impl_in F), (80, c_impl_shareOk F)] [] [] 0) 1 52 0 [1, 6, 7, 8] [0, 23, 3, 3] [1, 2] (loopB 0 (codeOf Try.f49)) [V.at (A.ptr 1 0 0), V.at (A.sl 0), V.at (A.int .i64 y0), V.at (A.int .i64 y1)] [⟨false, .rows [K.f .f32, K.f .f32, K.f .f32] y2⟩, ⟨true, .box [A.sl 0, A.fl .f32 y3]⟩] = (bif decide (y1 < y0) then bif decide (0 ≤ y1) then bif decide (y1 < (Int.ofNat y2.length)) then bif Pure.impl_finite_ok F [[List.getD (List.getD y2 (Int.toNat y1) []) 0 0], [List.getD (List.getD y2 (Int.toNat y1) []) 1 0]] then bif Bool.not (Pure.impl_finite F [[List.getD (List.getD y2 (Int.toNat y1) []) 0 0], [List.getD (List.getD y2 (Int.toNat y1) []) 1 0]]) then some (false, (Ex.ret, ([V.at (A.ptr 1 0 0), V.at (A.bool false)], [⟨false, .rows [K.f .f32, K.f .f32, K.f .f32] y2⟩, ⟨true, .box [A.sl 0, A.fl .f32 y3]⟩]))) else bif Bool.not (Pure.impl_lengthOk F ((y2.getD y1.toNat []).getD 2 0)) then some (false, (Ex.ret, ([V.at (A.ptr 1 0 0), V.at (A.bool false)], [⟨false, .rows [K.f .f32, K.f .f32, K.f .f32] y2⟩, ⟨true, .box [A.sl 0, A.fl .f32 y3]⟩]))) else bif decide (y1 > 0) then bif decide (0 ≤ (IntKind.wrap .i64 (y1 - 1))) then bif decide ((IntKind.wrap .i64 (y1 - 1)) < (Int.ofNat y2.length)) then bif F.cmp .lss .f32 ((y2.getD y1.toNat []).getD 0 0) (List.getD (List.getD y2 (Int.toNat (IntKind.wrap .i64 (y1 - 1))) []) 0 0) then some (false, (Ex.ret, ([V.at (A.ptr 1 0 0), V.at (A.bool false)], [⟨false, .rows [K.f .f32, K.f .f32, K.f .f32] y2⟩, ⟨true, .box [A.sl 0, A.fl .f32 y3]⟩]))) else some (true, (Ex.normal, ([V.at (A.ptr 1 0 0), V.at (A.sl 0), V.at (A.int .i64 y0), V.at (A.int .i64 (IntKind.wrap .i64 (y1 + 1)))], [⟨false, .rows [K.f .f32, K.f .f32, K.f .f32] y2⟩, ⟨true, .box [A.sl 0, A.fl .f32 y3]⟩]))) else none else none else some (true, (Ex.normal, ([V.at (A.ptr 1 0 0), V.at (A.sl 0), V.at (A.int .i64 y0), V.at (A.int .i64 (IntKind.wrap .i64 (y1 + 1)))], [⟨false, .rows [K.f .f32, K.f .f32, K.f .f32] y2⟩, ⟨true, .box [A.sl 0, A.fl .f32 y3]⟩]))) else none else none else none else some (false, (Ex.normal, ([V.at (A.ptr 1 0 0), V.at A.undef], [⟨false, .rows [K.f .f32, K.f .f32, K.f .f32] y2⟩, ⟨true, .box [A.sl 0, A.fl .f32 y3]⟩])))) := by kernel_rfl
    unfold loopOf
    rw [h0]
    unfold Pure.impl_ValidRow_L0
    cases (decide (y1 < y0)) with
    | true =>
      cases (decide (0 ≤ y1)) with
      | true =>
        cases (decide (y1 < (Int.ofNat y2.length))) with
        | true =>
          cases (Pure.impl_finite_ok F [[List.getD (List.getD y2 (Int.toNat y1) []) 0 0], [List.getD (List.getD y2 (Int.toNat y1) []) 1 0]]) with
          | true =>
            cases (Pure.impl_finite F [[List.getD (List.getD y2 (Int.toNat y1) []) 0 0], [List.getD (List.getD y2 (Int.toNat y1) []) 1 0]]) with
            | true =>
              cases (Pure.impl_lengthOk F ((y2.getD y1.toNat []).getD 2 0)) with
              | true =>
                cases (decide (y1 > 0)) with
                | true =>
                  cases (decide (0 ≤ (IntKind.wrap .i64 (y1 - 1)))) with
                  | true =>
                    cases (decide ((IntKind.wrap .i64 (y1 - 1)) < (Int.ofNat y2.length))) with
                    | true =>
                      cases (F.cmp .lss .f32 ((y2.getD y1.toNat []).getD 0 0) (List.getD (List.getD y2 (Int.toNat (IntKind.wrap .i64 (y1 - 1))) []) 0 0)) with
                      | true =>
                        intro _; rfl
                      | false =>
                        exact ih _
                    | false =>
                      intro h; exact absurd h Bool.false_ne_true
                  | false =>
                    intro h; exact absurd h Bool.false_ne_true
                | false =>
                  exact ih _
              | false =>
                intro _; rfl
            | false =>
              intro _; rfl
          | false =>
            intro h; exact absurd h Bool.false_ne_true
        | false =>
          intro h; exact absurd h Bool.false_ne_true
      | false =>
        intro h; exact absurd h Bool.false_ne_true
    | false =>
      intro _; rfl
theorem t_impl_ValidRow_L0 : SmTo Try.prog 1 52 (S_impl_ValidRow_L0 real) 0 (.loop (loopB 0 (codeOf Try.f49))) := by
  refine smTo_ev (cl := [(78, c_impl_finite real), (79, c_impl_lengthOk real), (48, c_impl_in real), (80, c_impl_shareOk real)]) (ef := []) (sm := []) (un := 0) prog_ok (allOK_cons ok_impl_finite (allOK_cons ok_impl_lengthOk (allOK_cons ok_impl_in (allOK_cons ok_impl_shareOk allOK_nil)))) smL_nil ?_
  intro vals hp q r h hq
  unfold S_impl_ValidRow_L0 at h
  dsimp only at h
  split at h
  · rename_i y0 y1 y2 y3
    obtain rfl := Option.some.inj h
    have h1 := hq
    unfold resOf at h1
    rw [chk_some] at h1
    exact ⟨_, (l_impl_ValidRow_L0 real y0 y2 y3 _ y1 h1.1).trans hq⟩
  · cases h
def Pure.impl_ValidRow (F : FOps) (x0 : List (List Int)) (x1 : Int) : Bool := bif Prod.snd (Pure.impl_ValidRow_L0 F (Int.ofNat x0.length) x0 x1 (Nat.succ (x0.length + 0)) 0) then false else bif Pure.impl_in F (Int.ofNat x0.length) 2 16 then Pure.impl_shareOk F x1 else false
def Pure.impl_ValidRow_ok (F : FOps) (x0 : List (List Int)) (x1 : Int) : Bool := Prod.fst (Pure.impl_ValidRow_L0 F (Int.ofNat x0.length) x0 x1 (Nat.succ (x0.length + 0)) 0)
def c_impl_ValidRow (F : FOps) : Con
  | [V.agg [A.sl 0, A.fl .f32 x1]], [⟨false, .rows [K.f .f32, K.f .f32, K.f .f32] x0⟩] => some (Pure.impl_ValidRow_ok F x0 x1, ⟨V.at (A.bool (Pure.impl_ValidRow F x0 x1)), none, []⟩)
  | _, _ => none
theorem e_impl_ValidRow (F : FOps) (x0 : List (List Int)) (x1 : Int) : Pure.impl_ValidRow_ok F x0 x1 = true → evFn (cxS F tyl [(78, c_impl_finite F), (79, c_impl_lengthOk F), (48, c_impl_in F), (80, c_impl_shareOk F)] [] [(0, S_impl_ValidRow_L0 F)] 0) Try.f49 false [V.agg [A.sl 0, A.fl .f32 x1]] [⟨false, .rows [K.f .f32, K.f .f32, K.f .f32] x0⟩] = some ⟨V.at (A.bool (Pure.impl_ValidRow F x0 x1)), none, []⟩ := by
  have h0 : evFn (cxS F tyl [(78, c_impl_finite F), (79, c_impl_lengthOk F), (48, c_impl_in F), (80, c_impl_shareOk F)] [] [(0, S_impl_ValidRow_L0 F)] 0) Try.f49 false [V.agg [A.sl 0, A.fl .f32 x1]] [⟨false, .rows [K.f .f32, K.f .f32, K.f .f32] x0⟩] = bif Prod.fst (Pure.impl_ValidRow_L0 F (Int.ofNat x0.length) x0 x1 (Nat.succ (x0.length + 0)) 0) then bif Prod.snd (Pure.impl_ValidRow_L0 F (Int.ofNat x0.length) x0 x1 (Nat.succ (x0.length + 0)) 0) then some ⟨V.at (A.bool false), none, []⟩ else bif Pure.impl_in F (Int.ofNat x0.length) 2 16 then some ⟨V.at (A.bool (Pure.impl_shareOk F x1)), none, []⟩ else some ⟨V.at (A.bool false), none, []⟩ else none := by kernel_rfl
  rw [h0]
  unfold Pure.impl_ValidRow Pure.impl_ValidRow_ok
  cases (Prod.fst (Pure.impl_ValidRow_L0 F (Int.ofNat x0.length) x0 x1 (Nat.succ (x0.length + 0)) 0)) with
  | true =>
    cases (Prod.snd (Pure.impl_ValidRow_L0 F (Int.ofNat x0.length) x0 x1 (Nat.succ (x0.length + 0)) 0)) with
    | true =>
      intro _; rfl
    | false =>
      cases (Pure.impl_in F (Int.ofNat x0.length) 2 16) with
      | true =>
        intro _; rfl
      | false =>
        intro _; rfl
  | false =>
    intro h; exact absurd h Bool.false_ne_true
theorem ok_impl_ValidRow : CallOK Try.prog 49 (c_impl_ValidRow real) := by
  refine callOK_of fun args h ret hc => ?_
  unfold c_impl_ValidRow at hc
  split at hc
  · rename_i x1 x0
    obtain ⟨hok, rfl⟩ := some_ret hc
    exact holds_ev prog_ok (allOK_cons ok_impl_finite (allOK_cons ok_impl_lengthOk (allOK_cons ok_impl_in (allOK_cons ok_impl_shareOk allOK_nil)))) Try.func49 rfl rfl (smL_cons (body := .loop (loopB 0 (codeOf Try.f49))) (by kernel_rfl) t_impl_ValidRow_L0 smL_nil) rfl (e_impl_ValidRow real x0 x1 hok)
  · cases hc
def c_slices_Clone_impl_Ball_impl_Ball (_ : FOps) : Con
  | [V.at (A.sl 0)], [⟨false, .rows [K.f .f32, K.f .f32, K.f .f32] x0⟩] => some (decide (x0.length ≤ 1073741824), ⟨V.at (A.sl 1), none, [⟨true, .rows [K.f .f32, K.f .f32, K.f .f32] x0⟩]⟩)
  | _, _ => none
theorem ok_slices_Clone_impl_Ball_impl_Ball : CallOK Try.prog 85 (c_slices_Clone_impl_Ball_impl_Ball real) := by
  refine callOK_of fun args h ret hc => ?_
  unfold c_slices_Clone_impl_Ball_impl_Ball at hc
  split at hc
  · rename_i x0
    obtain ⟨hok, rfl⟩ := some_ret hc
    refine holds_of_nilcmp (cx := cxS real tyl [] [] [] 0) (cxS_ok prog_ok.ty allOK_nil) prog_ok.mix Try.func85 (o0 := opC 0 (codeOf Try.f85)) (o1 := opC 1 (codeOf Try.f85)) (o2 := opC 2 (codeOf Try.f85)) (i0 := 0) (i1 := 1) (cnd := cndC (codeOf Try.f85)) (rest := endC (codeOf Try.f85)) (t := 23)
      (by kernel_rfl) (by decide) rfl ⟨by kernel_rfl, by kernel_rfl, by kernel_rfl⟩ ⟨by kernel_rfl, by kernel_rfl, by kernel_rfl⟩ ⟨by kernel_rfl, by kernel_rfl, by kernel_rfl⟩ ⟨50, by kernel_rfl⟩ (smL_sms smL_nil) ?_
    intro b hb
    cases b with
    | true => obtain rfl := hb rfl; kernel_rfl
    | false =>
      clear hb hc
      revert hok
      generalize hg : decide (x0.length ≤ 1073741824) = q
      intro hok
      subst hok
      have h0 : ∀ F : FOps, evC (cxS F tyl [] [] [] 0) 1 (restC (codeOf Try.f85)) ⟨[.at (.sl 0), .at .void, .at .nil, .at (.sl 0), .at (.bool false), .at .void, .at .void, .at .void], [⟨false, .rows [K.f .f32, K.f .f32, K.f .f32] x0⟩]⟩ (fun e st => match e with | .normal => finish (cxS F tyl [] [] [] 0) Try.f85 false 1 st | .ret => finish (cxS F tyl [] [] [] 0) Try.f85 false 1 st | .exit _ => none) = bif decide (x0.length ≤ 1073741824) then some ⟨V.at (A.sl 1), none, [⟨true, .rows [K.f .f32, K.f .f32, K.f .f32] x0⟩]⟩ else none := by
        intro F
        kernel_rfl
      rw [hg] at h0
      exact h0 real
  · cases hc
def Pure.impl_changedRow_meet (F : FOps) (x0 : List (List Int)) (x1 x2 : Int) : Int := bif Pure.impl_ValidRow F x0 x1 then bif Pure.impl_MeetBalls_c1 F x0 x1 x2 then bif Pure.impl_ValidRow F (Pure.impl_MeetBalls_c1_1 F x0 x1 x2) x1 then x1 else 0 else 0 else 0
def Pure.impl_changedRow_meet_1 (F : FOps) (x0 : List (List Int)) (x1 x2 : Int) : Bool := bif Pure.impl_ValidRow F x0 x1 then bif Pure.impl_MeetBalls_c1 F x0 x1 x2 then Pure.impl_ValidRow F (Pure.impl_MeetBalls_c1_1 F x0 x1 x2) x1 else false else false
def Pure.impl_changedRow_meet_2 (F : FOps) (x0 : List (List Int)) (x1 x2 : Int) : List (List Int) := bif Pure.impl_ValidRow F x0 x1 then bif Pure.impl_MeetBalls_c1 F x0 x1 x2 then bif Pure.impl_ValidRow F (Pure.impl_MeetBalls_c1_1 F x0 x1 x2) x1 then Pure.impl_MeetBalls_c1_1 F x0 x1 x2 else [] else [] else []
def Pure.impl_changedRow_meet_ok (F : FOps) (x0 : List (List Int)) (x1 x2 : Int) : Bool := bif Pure.impl_ValidRow_ok F x0 x1 then bif Pure.impl_ValidRow F x0 x1 then bif decide (x0.length ≤ 1073741824) then bif Pure.impl_MeetBalls_c1_ok F x0 x1 x2 then bif Pure.impl_MeetBalls_c1 F x0 x1 x2 then Pure.impl_ValidRow_ok F (Pure.impl_MeetBalls_c1_1 F x0 x1 x2) x1 else true else false else false else true else false
def c_impl_changedRow_meet (F : FOps) : Con
  | [V.agg [A.sl 0, A.fl .f32 x1], V.at (A.fn 76 [(1, (0, 0))])], [⟨false, .rows [K.f .f32, K.f .f32, K.f .f32] x0⟩, ⟨false, .box [A.int .i64 x2]⟩] => some (Pure.impl_changedRow_meet_ok F x0 x1 x2, ⟨V.tup [(true, [A.sl 2, A.fl .f32 (Pure.impl_changedRow_meet F x0 x1 x2)]), (false, [A.bool (Pure.impl_changedRow_meet_1 F x0 x1 x2)])], none, [⟨true, .rows [K.f .f32, K.f .f32, K.f .f32] (Pure.impl_changedRow_meet_2 F x0 x1 x2)⟩]⟩)
  | _, _ => none
theorem e_impl_changedRow_meet (F : FOps) (x0 : List (List Int)) (x1 x2 : Int) : Pure.impl_changedRow_meet_ok F x0 x1 x2 = true → evFn (cxS F tyl [(49, c_impl_ValidRow F), (85, c_slices_Clone_impl_Ball_impl_Ball F), (76, c_impl_MeetBalls_c1 F)] [76] [] 0) Try.f66 false [V.agg [A.sl 0, A.fl .f32 x1], V.at (A.fn 76 [(1, (0, 0))])] [⟨false, .rows [K.f .f32, K.f .f32, K.f .f32] x0⟩, ⟨false, .box [A.int .i64 x2]⟩] = some ⟨V.tup [(true, [A.sl 2, A.fl .f32 (Pure.impl_changedRow_meet F x0 x1 x2)]), (false, [A.bool (Pure.impl_changedRow_meet_1 F x0 x1 x2)])], none, [⟨true, .rows [K.f .f32, K.f .f32, K.f .f32] (Pure.impl_changedRow_meet_2 F x0 x1 x2)⟩]⟩ := by
  have h0 : evFn (cxS F tyl [(49, c_impl_ValidRow F), (85, c_slices_Clone_impl_Ball_impl_Ball F), (76, c_impl_MeetBalls_c1 F)] [76] [] 0) Try.f66 false [V.agg [A.sl 0, A.fl .f32 x1], V.at (A.fn 76 [(1, (0, 0))])] [⟨false, .rows [K.f .f32, K.f .f32, K.f .f32] x0⟩, ⟨false, .box [A.int .i64 x2]⟩] = bif Pure.impl_ValidRow_ok F x0 x1 then bif Bool.not (Pure.impl_ValidRow F x0 x1) then some ⟨V.tup [(true, [A.sl 2, A.fl .f32 0]), (false, [A.bool false])], none, [⟨true, .rows [K.f .f32, K.f .f32, K.f .f32] []⟩]⟩ else bif decide (x0.length ≤ 1073741824) then bif Pure.impl_MeetBalls_c1_ok F x0 x1 x2 then bif Bool.not (Pure.impl_MeetBalls_c1 F x0 x1 x2) then some ⟨V.tup [(true, [A.sl 2, A.fl .f32 0]), (false, [A.bool false])], none, [⟨true, .rows [K.f .f32, K.f .f32, K.f .f32] []⟩]⟩ else bif Pure.impl_ValidRow_ok F (Pure.impl_MeetBalls_c1_1 F x0 x1 x2) x1 then bif Bool.not (Pure.impl_ValidRow F (Pure.impl_MeetBalls_c1_1 F x0 x1 x2) x1) then some ⟨V.tup [(true, [A.sl 2, A.fl .f32 0]), (false, [A.bool false])], none, [⟨true, .rows [K.f .f32, K.f .f32, K.f .f32] []⟩]⟩ else some ⟨V.tup [(true, [A.sl 2, A.fl .f32 x1]), (false, [A.bool true])], none, [⟨true, .rows [K.f .f32, K.f .f32, K.f .f32] (Pure.impl_MeetBalls_c1_1 F x0 x1 x2)⟩]⟩ else none else none else none else none := by kernel_rfl
  rw [h0]
  unfold Pure.impl_changedRow_meet Pure.impl_changedRow_meet_1 Pure.impl_changedRow_meet_2 Pure.impl_changedRow_meet_ok
  cases (Pure.impl_ValidRow_ok F x0 x1) with
  | true =>
    cases (Pure.impl_ValidRow F x0 x1) with
    | true =>
      cases (decide (x0.length ≤ 1073741824)) with
      | true =>
        cases (Pure.impl_MeetBalls_c1_ok F x0 x1 x2) with
        | true =>
          cases (Pure.impl_MeetBalls_c1 F x0 x1 x2) with
          | true =>
            cases (Pure.impl_ValidRow_ok F (Pure.impl_MeetBalls_c1_1 F x0 x1 x2) x1) with
            | true =>
              cases (Pure.impl_ValidRow F (Pure.impl_MeetBalls_c1_1 F x0 x1 x2) x1) with
              | true =>
                intro _; rfl
              | false =>
                intro _; rfl
            | false =>
              intro h; exact absurd h Bool.false_ne_true
          | false =>
            intro _; rfl
        | false =>
          intro h; exact absurd h Bool.false_ne_true
      | false =>
        intro h; exact absurd h Bool.false_ne_true
    | false =>
      intro _; rfl
  | false =>
    intro h; exact absurd h Bool.false_ne_true
theorem ok_impl_changedRow_meet : CallOK Try.prog 66 (c_impl_changedRow_meet real) := by
  refine callOK_of fun args h ret hc => ?_
  unfold c_impl_changedRow_meet at hc
  split at hc
  · rename_i x1 x0 x2
    obtain ⟨hok, rfl⟩ := some_ret hc
    exact holds_ev prog_ok (allOK_cons ok_impl_ValidRow (allOK_cons ok_slices_Clone_impl_Ball_impl_Ball (allOK_cons ok_impl_MeetBalls_c1 allOK_nil))) Try.func66 rfl rfl smL_nil rfl (e_impl_changedRow_meet real x0 x1 x2 hok)
  · cases hc
def Pure.laws_szBallS (F : FOps) (x0 : List (List Int)) (x1 : Int) : Int := bif decide ((IntKind.wrap .i64 (x1 - (Int.ofNat x0.length))) < 0) then (-1) else IntKind.wrap .i64 (x1 - (Int.ofNat x0.length))
def c_laws_szBallS (F : FOps) : Con
  | [V.at (A.sl 0), V.at (A.int .i64 x1)], [⟨false, .rows [K.f .f32, K.f .f32, K.f .f32] x0⟩] => some (true, ⟨V.at (A.int .i64 (Pure.laws_szBallS F x0 x1)), none, []⟩)
  | _, _ => none
theorem e_laws_szBallS (F : FOps) (x0 : List (List Int)) (x1 : Int) : evFn (cxS F tyl [] [] [] 0) Try.f53 false [V.at (A.sl 0), V.at (A.int .i64 x1)] [⟨false, .rows [K.f .f32, K.f .f32, K.f .f32] x0⟩] = some ⟨V.at (A.int .i64 (Pure.laws_szBallS F x0 x1)), none, []⟩ := by
  have h0 : evFn (cxS F tyl [] [] [] 0) Try.f53 false [V.at (A.sl 0), V.at (A.int .i64 x1)] [⟨false, .rows [K.f .f32, K.f .f32, K.f .f32] x0⟩] = bif decide ((IntKind.wrap .i64 (x1 - (Int.ofNat x0.length))) < 0) then some ⟨V.at (A.int .i64 (-1)), none, []⟩ else some ⟨V.at (A.int .i64 (IntKind.wrap .i64 (x1 - (Int.ofNat x0.length)))), none, []⟩ := by kernel_rfl
  rw [h0]
  unfold Pure.laws_szBallS
  cases (decide ((IntKind.wrap .i64 (x1 - (Int.ofNat x0.length))) < 0)) with
  | true =>
    rfl
  | false =>
    rfl
theorem ok_laws_szBallS : CallOK Try.prog 53 (c_laws_szBallS real) := by
  refine callOK_of fun args h ret hc => ?_
  unfold c_laws_szBallS at hc
  split at hc
  · rename_i x1 x0
    obtain ⟨_, rfl⟩ := some_ret hc
    exact holds_ev prog_ok allOK_nil Try.func53 rfl rfl smL_nil rfl (e_laws_szBallS real x0 x1)
  · cases hc
def Pure.laws_szRow (F : FOps) (x0 : List (List Int)) (x1 x2 : Int) : Int := bif decide ((Pure.laws_szBallS F x0 x2) < 0) then (-1) else Pure.laws_szBallS F x0 x2
def c_laws_szRow (F : FOps) : Con
  | [V.agg [A.sl 0, A.fl .f32 x1], V.at (A.int .i64 x2)], [⟨false, .rows [K.f .f32, K.f .f32, K.f .f32] x0⟩] => some (true, ⟨V.at (A.int .i64 (Pure.laws_szRow F x0 x1 x2)), none, []⟩)
  | _, _ => none
theorem e_laws_szRow (F : FOps) (x0 : List (List Int)) (x1 x2 : Int) : evFn (cxS F tyl [(53, c_laws_szBallS F)] [] [] 0) Try.f19 false [V.agg [A.sl 0, A.fl .f32 x1], V.at (A.int .i64 x2)] [⟨false, .rows [K.f .f32, K.f .f32, K.f .f32] x0⟩] = some ⟨V.at (A.int .i64 (Pure.laws_szRow F x0 x1 x2)), none, []⟩ := by
  have h0 : evFn (cxS F tyl [(53, c_laws_szBallS F)] [] [] 0) Try.f19 false [V.agg [A.sl 0, A.fl .f32 x1], V.at (A.int .i64 x2)] [⟨false, .rows [K.f .f32, K.f .f32, K.f .f32] x0⟩] = bif decide ((Pure.laws_szBallS F x0 x2) < 0) then some ⟨V.at (A.int .i64 (-1)), none, []⟩ else some ⟨V.at (A.int .i64 (Pure.laws_szBallS F x0 x2)), none, []⟩ := by kernel_rfl
  rw [h0]
  unfold Pure.laws_szRow
  cases (decide ((Pure.laws_szBallS F x0 x2) < 0)) with
  | true =>
    rfl
  | false =>
    rfl
theorem ok_laws_szRow : CallOK Try.prog 19 (c_laws_szRow real) := by
  refine callOK_of fun args h ret hc => ?_
  unfold c_laws_szRow at hc
  split at hc
  · rename_i x1 x2 x0
    obtain ⟨_, rfl⟩ := some_ret hc
    exact holds_ev prog_ok (allOK_cons ok_laws_szBallS allOK_nil) Try.func19 rfl rfl smL_nil rfl (e_laws_szRow real x0 x1 x2)
  · cases hc
def c_laws_toBall (_ : FOps) : Con
  | [V.agg [A.fl .f32 x0, A.fl .f32 x1, A.fl .f32 x2]], [] => some (true, ⟨V.agg [A.fl .f32 x0, A.fl .f32 x1, A.fl .f32 x2], none, []⟩)
  | _, _ => none
theorem e_laws_toBall (F : FOps) (x0 x1 x2 : Int) : evFn (cxS F tyl [] [] [] 0) Try.f38 false [V.agg [A.fl .f32 x0, A.fl .f32 x1, A.fl .f32 x2]] [] = some ⟨V.agg [A.fl .f32 x0, A.fl .f32 x1, A.fl .f32 x2], none, []⟩ := by
  kernel_rfl
theorem ok_laws_toBall : CallOK Try.prog 38 (c_laws_toBall real) := by
  refine callOK_of fun args h ret hc => ?_
  unfold c_laws_toBall at hc
  split at hc
  · rename_i x0 x1 x2
    obtain ⟨_, rfl⟩ := some_ret hc
    exact holds_ev prog_ok allOK_nil Try.func38 rfl rfl smL_nil rfl (e_laws_toBall real x0 x1 x2)
  · cases hc
def Pure.laws_toBallS_L0 (F : FOps) (y1 : List (List Int)) : Nat → Int → (List (List Int)) → (Bool × (List (List Int)))
  | 0, _, _ => (false, [])
  | n + 1, y0, y2 => bif (decide (y0 < (Int.ofNat y1.length))) then (bif (decide (0 ≤ y0)) then (bif (decide (y0 < (Int.ofNat y1.length))) then (bif (decide (0 ≤ y0)) then (bif (decide (y0 < (Int.ofNat y2.length))) then (Pure.laws_toBallS_L0 F y1 n (IntKind.wrap .i64 (y0 + 1)) (List.set y2 (Int.toNat y0) [List.getD (List.getD y1 (Int.toNat y0) []) 0 0, List.getD (List.getD y1 (Int.toNat y0) []) 1 0, List.getD (List.getD y1 (Int.toNat y0) []) 2 0])) else ((false, []))) else ((false, []))) else ((false, []))) else ((false, []))) else ((true, y2))
def R_laws_toBallS_L0 (y1 : List (List Int)) (r : (Bool × (List (List Int)))) : Bool × Ends := ((r).1, (.one Ex.normal [V.at (A.sl 1)] [⟨false, .rows [K.f .f32, K.f .f32, K.f .f32] y1⟩, ⟨true, .rows [K.f .f32, K.f .f32, K.f .f32] (r).2⟩]))
def S_laws_toBallS_L0 (F : FOps) : Sm := ⟨[0, 3, 4], [31, 23, 3], [3], fun vals hp => match vals, hp with
  | [V.at (A.sl 0), V.at (A.sl 1), V.at (A.int .i64 y0)], [⟨false, .rows [K.f .f32, K.f .f32, K.f .f32] y1⟩, ⟨true, .rows [K.f .f32, K.f .f32, K.f .f32] y2⟩] => some (R_laws_toBallS_L0 y1 (Pure.laws_toBallS_L0 F y1 ((Int.ofNat y1.length) - y0 + 1).toNat y0 y2))
  | _, _ => none⟩
theorem l_laws_toBallS_L0 (F : FOps) (y1 : List (List Int)) : ∀ (fuel : Nat) (y0 : Int) (y2 : List (List Int)), (Pure.laws_toBallS_L0 F y1 fuel y0 y2).1 = true → loopOf (cxS F tyl [(38, c_laws_toBall F)] [] [] 0) 1 23 0 [0, 3, 4] [31, 23, 3] [3] (loopB 0 (codeOf Try.f56)) fuel [V.at (A.sl 0), V.at (A.sl 1), V.at (A.int .i64 y0)] [⟨false, .rows [K.f .f32, K.f .f32, K.f .f32] y1⟩, ⟨true, .rows [K.f .f32, K.f .f32, K.f .f32] y2⟩] = resOf (R_laws_toBallS_L0 y1 (Pure.laws_toBallS_L0 F y1 fuel y0 y2)) := by
  intro fuel
  induction fuel with
  | zero => intro y0 y2 h; exact absurd h Bool.false_ne_true
  | succ n ih =>
    intro y0 y2
    have h0 : roundOf (cxS F tyl [(38, c_laws_toBall F)] [] [] 0) 1 23 0 [0, 3, 4] [31, 23, 3] [3] (loopB 0 (codeOf Try.f56)) [V.at (A.sl 0), V.at (A.sl 1), V.at (A.int .i64 y0)] [⟨false, .rows [K.f .f32, K.f .f32, K.f .f32] y1⟩, ⟨true, .rows [K.f .f32, K.f .f32, K.f .f32] y2⟩] = (bif decide (y0 < (Int.ofNat y1.length)) then bif decide (0 ≤ y0) then bif decide (y0 < (Int.ofNat y1.length)) then bif decide (0 ≤ y0) then bif decide (y0 < (Int.ofNat y2.length)) then some (true, (Ex.normal, ([V.at (A.sl 0), V.at (A.sl 1), V.at (A.int .i64 (IntKind.wrap .i64 (y0 + 1)))], [⟨false, .rows [K.f .f32, K.f .f32, K.f .f32] y1⟩, ⟨true, .rows [K.f .f32, K.f .f32, K.f .f32] (List.set y2 (Int.toNat y0) [List.getD (List.getD y1 (Int.toNat y0) []) 0 0, List.getD (List.getD y1 (Int.toNat y0) []) 1 0, List.getD (List.getD y1 (Int.toNat y0) []) 2 0])⟩]))) else none else none else none else none else some (false, (Ex.normal, ([V.at (A.sl 1)], [⟨false, .rows [K.f .f32, K.f .f32, K.f .f32] y1⟩, ⟨true, .rows [K.f .f32, K.f .f32, K.f .f32] y2⟩])))) := by kernel_rfl
    unfold loopOf
    rw [h0]
    unfold Pure.laws_toBallS_L0
    cases (decide (y0 < (Int.ofNat y1.length))) with
    | true =>
      cases (decide (0 ≤ y0)) with
      | true =>
        cases (decide (y0 < (Int.ofNat y2.length))) with
        | true =>
          exact ih _ _
        | false =>
          intro h; exact absurd h Bool.false_ne_true
      | false =>
        intro h; exact absurd h Bool.false_ne_true
    | false =>
      intro _; rfl
theorem t_laws_toBallS_L0 : SmTo Try.prog 1 23 (S_laws_toBallS_L0 real) 0 (.loop (loopB 0 (codeOf Try.f56))) := by
  refine smTo_ev (cl := [(38, c_laws_toBall real)]) (ef := []) (sm := []) (un := 0) prog_ok (allOK_cons ok_laws_toBall allOK_nil) smL_nil ?_
  intro vals hp q r h hq
  unfold S_laws_toBallS_L0 at h
  dsimp only at h
  split at h
  · rename_i y0 y1 y2
    obtain rfl := Option.some.inj h
    have h1 := hq
    unfold resOf at h1
    rw [chk_some] at h1
    exact ⟨_, (l_laws_toBallS_L0 real y1 _ y0 y2 h1.1).trans hq⟩
  · cases h
def Pure.laws_toBallS (F : FOps) (x0 : List (List Int)) : List (List Int) := Prod.snd (Pure.laws_toBallS_L0 F x0 (Nat.succ (x0.length + 0)) 0 (List.replicate (Int.toNat (Int.ofNat x0.length)) [0, 0, 0]))
def Pure.laws_toBallS_ok (F : FOps) (x0 : List (List Int)) : Bool := bif (Int.ofNat x0.length) == (Int.ofNat x0.length) then bif decide ((Int.ofNat x0.length) ≤ 1073741824) then Prod.fst (Pure.laws_toBallS_L0 F x0 (Nat.succ (x0.length + 0)) 0 (List.replicate (Int.toNat (Int.ofNat x0.length)) [0, 0, 0])) else false else false
def c_laws_toBallS (F : FOps) : Con
  | [V.at (A.sl 0)], [⟨false, .rows [K.f .f32, K.f .f32, K.f .f32] x0⟩] => some (Pure.laws_toBallS_ok F x0, ⟨V.at (A.sl 1), none, [⟨true, .rows [K.f .f32, K.f .f32, K.f .f32] (Pure.laws_toBallS F x0)⟩]⟩)
  | _, _ => none
theorem e_laws_toBallS (F : FOps) (x0 : List (List Int)) : Pure.laws_toBallS_ok F x0 = true → evFn (cxS F tyl [(38, c_laws_toBall F)] [] [(0, S_laws_toBallS_L0 F)] 0) Try.f56 false [V.at (A.sl 0)] [⟨false, .rows [K.f .f32, K.f .f32, K.f .f32] x0⟩] = some ⟨V.at (A.sl 1), none, [⟨true, .rows [K.f .f32, K.f .f32, K.f .f32] (Pure.laws_toBallS F x0)⟩]⟩ := by
  have h0 : evFn (cxS F tyl [(38, c_laws_toBall F)] [] [(0, S_laws_toBallS_L0 F)] 0) Try.f56 false [V.at (A.sl 0)] [⟨false, .rows [K.f .f32, K.f .f32, K.f .f32] x0⟩] = bif (Int.ofNat x0.length) == (Int.ofNat x0.length) then bif decide ((Int.ofNat x0.length) ≤ 1073741824) then bif Prod.fst (Pure.laws_toBallS_L0 F x0 (Nat.succ (x0.length + 0)) 0 (List.replicate (Int.toNat (Int.ofNat x0.length)) [0, 0, 0])) then some ⟨V.at (A.sl 1), none, [⟨true, .rows [K.f .f32, K.f .f32, K.f .f32] (Prod.snd (Pure.laws_toBallS_L0 F x0 (Nat.succ (x0.length + 0)) 0 (List.replicate (Int.toNat (Int.ofNat x0.length)) [0, 0, 0])))⟩]⟩ else none else none else none := by kernel_rfl
  rw [h0]
  unfold Pure.laws_toBallS Pure.laws_toBallS_ok
  cases ((Int.ofNat x0.length) == (Int.ofNat x0.length)) with
  | true =>
    cases (decide ((Int.ofNat x0.length) ≤ 1073741824)) with
    | true =>
      cases (Prod.fst (Pure.laws_toBallS_L0 F x0 (Nat.succ (x0.length + 0)) 0 (List.replicate (Int.toNat (Int.ofNat x0.length)) [0, 0, 0]))) with
      | true =>
        intro _; rfl
      | false =>
        intro h; exact absurd h Bool.false_ne_true
    | false =>
      intro h; exact absurd h Bool.false_ne_true
  | false =>
    intro h; exact absurd h Bool.false_ne_true
theorem ok_laws_toBallS : CallOK Try.prog 56 (c_laws_toBallS real) := by
  refine callOK_of fun args h ret hc => ?_
  unfold c_laws_toBallS at hc
  split at hc
  · rename_i x0
    obtain ⟨hok, rfl⟩ := some_ret hc
    exact holds_ev prog_ok (allOK_cons ok_laws_toBall allOK_nil) Try.func56 rfl rfl (smL_cons (body := .loop (loopB 0 (codeOf Try.f56))) (by kernel_rfl) t_laws_toBallS_L0 smL_nil) rfl (e_laws_toBallS real x0 hok)
  · cases hc
def Pure.laws_toRow_ok (F : FOps) (x0 : List (List Int)) (x1 : Int) : Bool := Pure.laws_toBallS_ok F x0
def c_laws_toRow (F : FOps) : Con
  | [V.agg [A.sl 0, A.fl .f32 x1]], [⟨false, .rows [K.f .f32, K.f .f32, K.f .f32] x0⟩] => some (Pure.laws_toRow_ok F x0 x1, ⟨V.agg [A.sl 1, A.fl .f32 x1], none, [⟨true, .rows [K.f .f32, K.f .f32, K.f .f32] (Pure.laws_toBallS F x0)⟩]⟩)
  | _, _ => none
theorem e_laws_toRow (F : FOps) (x0 : List (List Int)) (x1 : Int) : Pure.laws_toRow_ok F x0 x1 = true → evFn (cxS F tyl [(56, c_laws_toBallS F)] [] [] 0) Try.f21 false [V.agg [A.sl 0, A.fl .f32 x1]] [⟨false, .rows [K.f .f32, K.f .f32, K.f .f32] x0⟩] = some ⟨V.agg [A.sl 1, A.fl .f32 x1], none, [⟨true, .rows [K.f .f32, K.f .f32, K.f .f32] (Pure.laws_toBallS F x0)⟩]⟩ := by
  have h0 : evFn (cxS F tyl [(56, c_laws_toBallS F)] [] [] 0) Try.f21 false [V.agg [A.sl 0, A.fl .f32 x1]] [⟨false, .rows [K.f .f32, K.f .f32, K.f .f32] x0⟩] = bif Pure.laws_toBallS_ok F x0 then some ⟨V.agg [A.sl 1, A.fl .f32 x1], none, [⟨true, .rows [K.f .f32, K.f .f32, K.f .f32] (Pure.laws_toBallS F x0)⟩]⟩ else none := by kernel_rfl
  rw [h0]
  unfold Pure.laws_toRow_ok
  cases (Pure.laws_toBallS_ok F x0) with
  | true =>
    intro _; rfl
  | false =>
    intro h; exact absurd h Bool.false_ne_true
theorem ok_laws_toRow : CallOK Try.prog 21 (c_laws_toRow real) := by
  refine callOK_of fun args h ret hc => ?_
  unfold c_laws_toRow at hc
  split at hc
  · rename_i x1 x0
    obtain ⟨hok, rfl⟩ := some_ret hc
    exact holds_ev prog_ok (allOK_cons ok_laws_toBallS allOK_nil) Try.func21 rfl rfl smL_nil rfl (e_laws_toRow real x0 x1 hok)
  · cases hc
def Pure.spec_l06Share (F : FOps) (x0 : Int) : Bool := bif F.cmp .geq .f32 x0 0 then F.cmp .leq .f32 x0 1065353216 else false
def c_spec_l06Share (F : FOps) : Con
  | [V.at (A.fl .f32 x0)], [] => some (true, ⟨V.at (A.bool (Pure.spec_l06Share F x0)), none, []⟩)
  | _, _ => none
theorem e_spec_l06Share (F : FOps) (x0 : Int) : evFn (cxS F tyl [] [] [] 0) Try.f82 false [V.at (A.fl .f32 x0)] [] = some ⟨V.at (A.bool (Pure.spec_l06Share F x0)), none, []⟩ := by
  have h0 : evFn (cxS F tyl [] [] [] 0) Try.f82 false [V.at (A.fl .f32 x0)] [] = bif F.cmp .geq .f32 x0 0 then some ⟨V.at (A.bool (F.cmp .leq .f32 x0 1065353216)), none, []⟩ else some ⟨V.at (A.bool false), none, []⟩ := by kernel_rfl
  rw [h0]
  unfold Pure.spec_l06Share
  cases (F.cmp .geq .f32 x0 0) with
  | true =>
    rfl
  | false =>
    rfl
theorem ok_spec_l06Share : CallOK Try.prog 82 (c_spec_l06Share real) := by
  refine callOK_of fun args h ret hc => ?_
  unfold c_spec_l06Share at hc
  split at hc
  · rename_i x0
    obtain ⟨_, rfl⟩ := some_ret hc
    exact holds_ev prog_ok allOK_nil Try.func82 rfl rfl smL_nil rfl (e_spec_l06Share real x0)
  · cases hc
def Pure.spec_l06Is_L0 (F : FOps) (y1 : Int) (y2 : List (List Int)) : Nat → Int → (Bool × Bool)
  | 0, _ => (false, false)
  | n + 1, y0 => bif (decide (y0 < (Int.ofNat y2.length))) then (bif (decide (0 ≤ y0)) then (bif (decide (y0 < (Int.ofNat y2.length))) then (bif (Pure.spec_l06Ball_e F (Int.toNat y0) y2) then (bif (decide (y0 > 0)) then (bif (decide (0 ≤ y0)) then (bif (decide (y0 < (Int.ofNat y2.length))) then (bif (decide (0 ≤ (IntKind.wrap .i64 (y0 - 1)))) then (bif (decide ((IntKind.wrap .i64 (y0 - 1)) < (Int.ofNat y2.length))) then (bif (F.cmp .lss .f32 ((y2.getD y0.toNat []).getD 0 0) (List.getD (List.getD y2 (Int.toNat (IntKind.wrap .i64 (y0 - 1))) []) 0 0)) then ((true, true)) else (Pure.spec_l06Is_L0 F y1 y2 n (IntKind.wrap .i64 (y0 + 1)))) else ((false, false))) else ((false, false))) else ((false, false))) else ((false, false))) else (Pure.spec_l06Is_L0 F y1 y2 n (IntKind.wrap .i64 (y0 + 1)))) else ((true, true))) else ((false, false))) else ((false, false))) else ((true, false))
def R_spec_l06Is_L0 (y1 : Int) (y2 : List (List Int)) (r : (Bool × Bool)) : Bool × Ends := ((r).1, .two (r).2 (.one Ex.normal [V.at A.undef] [⟨false, .box [A.sl 1, A.fl .f32 y1]⟩, ⟨false, .rows [K.f .f32, K.f .f32, K.f .f32] y2⟩]) (.one Ex.ret [V.at (A.bool false)] [⟨false, .box [A.sl 1, A.fl .f32 y1]⟩, ⟨false, .rows [K.f .f32, K.f .f32, K.f .f32] y2⟩]))
def S_spec_l06Is_L0 (F : FOps) : Sm := ⟨[0, 3], [63, 3], [2], fun vals hp => match vals, hp with
  | [V.at (A.ptr 0 0 0), V.at (A.int .i64 y0)], [⟨false, .box [A.sl 1, A.fl .f32 y1]⟩, ⟨false, .rows [K.f .f32, K.f .f32, K.f .f32] y2⟩] => some (R_spec_l06Is_L0 y1 y2 (Pure.spec_l06Is_L0 F y1 y2 ((Int.ofNat y2.length) - y0 + 1).toNat y0))
  | _, _ => none⟩
theorem l_spec_l06Is_L0 (F : FOps) (y1 : Int) (y2 : List (List Int)) : ∀ (fuel : Nat) (y0 : Int), (Pure.spec_l06Is_L0 F y1 y2 fuel y0).1 = true → loopOf (cxS F tyl [(82, c_spec_l06Share F), (83, c_spec_l06Ball_e F)] [] [] 0) 2 67 0 [0, 3] [63, 3] [2] (loopB 0 (codeOf Try.f54)) fuel [V.at (A.ptr 0 0 0), V.at (A.int .i64 y0)] [⟨false, .box [A.sl 1, A.fl .f32 y1]⟩, ⟨false, .rows [K.f .f32, K.f .f32, K.f .f32] y2⟩] = resOf (R_spec_l06Is_L0 y1 y2 (Pure.spec_l06Is_L0 F y1 y2 fuel y0)) := by
  intro fuel
  induction fuel with
  | zero => intro y0 h; exact absurd h Bool.false_ne_true
  | succ n ih =>
    intro y0
    have h0 : roundOf (cxS F tyl [(82, c_spec_l06Share F), (83, c_spec_l06Ball_e F)] [] [] 0) 2 67 0 [0, 3] [63, 3] [2] (loopB 0 (codeOf Try.f54)) [V.at (A.ptr 0 0 0), V.at (A.int .i64 y0)] [⟨false, .box [A.sl 1, A.fl .f32 y1]⟩, ⟨false, .rows [K.f .f32, K.f .f32, K.f .f32] y2⟩] = (bif decide (y0 < (Int.ofNat y2.length)) then bif decide (0 ≤ y0) then bif decide (y0 < (Int.ofNat y2.length)) then bif Bool.not (Pure.spec_l06Ball_e F (Int.toNat y0) y2) then some (false, (Ex.ret, ([V.at (A.bool false)], [⟨false, .box [A.sl 1, A.fl .f32 y1]⟩, ⟨false, .rows [K.f .f32, K.f .f32, K.f .f32] y2⟩]))) else bif decide (y0 > 0) then bif decide (0 ≤ y0) then bif decide (y0 < (Int.ofNat y2.length)) then bif decide (0 ≤ (IntKind.wrap .i64 (y0 - 1))) then bif decide ((IntKind.wrap .i64 (y0 - 1)) < (Int.ofNat y2.length)) then bif F.cmp .lss .f32 ((y2.getD y0.toNat []).getD 0 0) (List.getD (List.getD y2 (Int.toNat (IntKind.wrap .i64 (y0 - 1))) []) 0 0) then some (false, (Ex.ret, ([V.at (A.bool false)], [⟨false, .box [A.sl 1, A.fl .f32 y1]⟩, ⟨false, .rows [K.f .f32, K.f .f32, K.f .f32] y2⟩]))) else some (true, (Ex.normal, ([V.at (A.ptr 0 0 0), V.at (A.int .i64 (IntKind.wrap .i64 (y0 + 1)))], [⟨false, .box [A.sl 1, A.fl .f32 y1]⟩, ⟨false, .rows [K.f .f32, K.f .f32, K.f .f32] y2⟩]))) else none else none else none else none else some (true, (Ex.normal, ([V.at (A.ptr 0 0 0), V.at (A.int .i64 (IntKind.wrap .i64 (y0 + 1)))], [⟨false, .box [A.sl 1, A.fl .f32 y1]⟩, ⟨false, .rows [K.f .f32, K.f .f32, K.f .f32] y2⟩]))) else none else none else some (false, (Ex.normal, ([V.at A.undef], [⟨false, .box [A.sl 1, A.fl .f32 y1]⟩, ⟨false, .rows [K.f .f32, K.f .f32, K.f .f32] y2⟩])))) := by kernel_rfl
    unfold loopOf
    rw [h0]
    unfold Pure.spec_l06Is_L0
    cases (decide (y0 < (Int.ofNat y2.length))) with
    | true =>
      cases (decide (0 ≤ y0)) with
      | true =>
        cases (Pure.spec_l06Ball_e F (Int.toNat y0) y2) with
        | true =>
          cases (decide (y0 > 0)) with
          | true =>
            cases (decide (0 ≤ (IntKind.wrap .i64 (y0 - 1)))) with
            | true =>
              cases (decide ((IntKind.wrap .i64 (y0 - 1)) < (Int.ofNat y2.length))) with
              | true =>
                cases (F.cmp .lss .f32 ((y2.getD y0.toNat []).getD 0 0) (List.getD (List.getD y2 (Int.toNat (IntKind.wrap .i64 (y0 - 1))) []) 0 0)) with
                | true =>
                  intro _; rfl
                | false =>
                  exact ih _
              | false =>
                intro h; exact absurd h Bool.false_ne_true
            | false =>
              intro h; exact absurd h Bool.false_ne_true
          | false =>
            exact ih _
        | false =>
          intro _; rfl
      | false =>
        intro h; exact absurd h Bool.false_ne_true
    | false =>
      intro _; rfl
theorem t_spec_l06Is_L0 : SmTo Try.prog 2 67 (S_spec_l06Is_L0 real) 0 (.loop (loopB 0 (codeOf Try.f54))) := by
  refine smTo_ev (cl := [(82, c_spec_l06Share real), (83, c_spec_l06Ball_e real)]) (ef := []) (sm := []) (un := 0) prog_ok (allOK_cons ok_spec_l06Share (allOK_cons ok_spec_l06Ball_e allOK_nil)) smL_nil ?_
  intro vals hp q r h hq
  unfold S_spec_l06Is_L0 at h
  dsimp only at h
  split at h
  · rename_i y0 y1 y2
    obtain rfl := Option.some.inj h
    have h1 := hq
    unfold resOf at h1
    rw [chk_some] at h1
    exact ⟨_, (l_spec_l06Is_L0 real y1 y2 _ y0 h1.1).trans hq⟩
  · cases h
def Pure.spec_l06Is (F : FOps) (x0 : List (List Int)) (x1 : Int) : Bool := bif decide ((Int.ofNat x0.length) < 2) then false else bif decide ((Int.ofNat x0.length) > 16) then false else bif Pure.spec_l06Share F x1 then bif Prod.snd (Pure.spec_l06Is_L0 F x1 x0 (Nat.succ (x0.length + 0)) 0) then false else true else false
def Pure.spec_l06Is_ok (F : FOps) (x0 : List (List Int)) (x1 : Int) : Bool := bif decide ((Int.ofNat x0.length) < 2) then true else bif decide ((Int.ofNat x0.length) > 16) then true else bif Pure.spec_l06Share F x1 then Prod.fst (Pure.spec_l06Is_L0 F x1 x0 (Nat.succ (x0.length + 0)) 0) else true
def c_spec_l06Is (F : FOps) : Con
  | [V.at (A.ptr 0 0 0)], [⟨false, .box [A.sl 1, A.fl .f32 x1]⟩, ⟨false, .rows [K.f .f32, K.f .f32, K.f .f32] x0⟩] => some (Pure.spec_l06Is_ok F x0 x1, ⟨V.at (A.bool (Pure.spec_l06Is F x0 x1)), none, []⟩)
  | _, _ => none
theorem e_spec_l06Is (F : FOps) (x0 : List (List Int)) (x1 : Int) : Pure.spec_l06Is_ok F x0 x1 = true → evFn (cxS F tyl [(82, c_spec_l06Share F), (83, c_spec_l06Ball_e F)] [] [(0, S_spec_l06Is_L0 F)] 0) Try.f54 false [V.at (A.ptr 0 0 0)] [⟨false, .box [A.sl 1, A.fl .f32 x1]⟩, ⟨false, .rows [K.f .f32, K.f .f32, K.f .f32] x0⟩] = some ⟨V.at (A.bool (Pure.spec_l06Is F x0 x1)), none, []⟩ := by
  have h0 : evFn (cxS F tyl [(82, c_spec_l06Share F), (83, c_spec_l06Ball_e F)] [] [(0, S_spec_l06Is_L0 F)] 0) Try.f54 false [V.at (A.ptr 0 0 0)] [⟨false, .box [A.sl 1, A.fl .f32 x1]⟩, ⟨false, .rows [K.f .f32, K.f .f32, K.f .f32] x0⟩] = bif decide ((Int.ofNat x0.length) < 2) then some ⟨V.at (A.bool false), none, []⟩ else bif decide ((Int.ofNat x0.length) > 16) then some ⟨V.at (A.bool false), none, []⟩ else bif Bool.not (Pure.spec_l06Share F x1) then some ⟨V.at (A.bool false), none, []⟩ else bif Prod.fst (Pure.spec_l06Is_L0 F x1 x0 (Nat.succ (x0.length + 0)) 0) then bif Prod.snd (Pure.spec_l06Is_L0 F x1 x0 (Nat.succ (x0.length + 0)) 0) then some ⟨V.at (A.bool false), none, []⟩ else some ⟨V.at (A.bool true), none, []⟩ else none := by kernel_rfl
  rw [h0]
  unfold Pure.spec_l06Is Pure.spec_l06Is_ok
  cases (decide ((Int.ofNat x0.length) < 2)) with
  | true =>
    intro _; rfl
  | false =>
    cases (decide ((Int.ofNat x0.length) > 16)) with
    | true =>
      intro _; rfl
    | false =>
      cases (Pure.spec_l06Share F x1) with
      | true =>
        cases (Prod.fst (Pure.spec_l06Is_L0 F x1 x0 (Nat.succ (x0.length + 0)) 0)) with
        | true =>
          cases (Prod.snd (Pure.spec_l06Is_L0 F x1 x0 (Nat.succ (x0.length + 0)) 0)) with
          | true =>
            intro _; rfl
          | false =>
            intro _; rfl
        | false =>
          intro h; exact absurd h Bool.false_ne_true
      | false =>
        intro _; rfl
theorem ok_spec_l06Is : CallOK Try.prog 54 (c_spec_l06Is real) := by
  refine callOK_of fun args h ret hc => ?_
  unfold c_spec_l06Is at hc
  split at hc
  · rename_i x1 x0
    obtain ⟨hok, rfl⟩ := some_ret hc
    exact holds_ev prog_ok (allOK_cons ok_spec_l06Share (allOK_cons ok_spec_l06Ball_e allOK_nil)) Try.func54 rfl rfl (smL_cons (body := .loop (loopB 0 (codeOf Try.f54))) (by kernel_rfl) t_spec_l06Is_L0 smL_nil) rfl (e_spec_l06Is real x0 x1 hok)
  · cases hc
def Pure.spec_l00In (F : FOps) (x0 x1 x2 : Int) : Bool := bif decide (x0 ≥ x1) then decide (x0 ≤ x2) else false
def c_spec_l00In (F : FOps) : Con
  | [V.at (A.int .i64 x0), V.at (A.int .i64 x1), V.at (A.int .i64 x2)], [] => some (true, ⟨V.at (A.bool (Pure.spec_l00In F x0 x1 x2)), none, []⟩)
  | _, _ => none
theorem e_spec_l00In (F : FOps) (x0 x1 x2 : Int) : evFn (cxS F tyl [] [] [] 0) Try.f46 false [V.at (A.int .i64 x0), V.at (A.int .i64 x1), V.at (A.int .i64 x2)] [] = some ⟨V.at (A.bool (Pure.spec_l00In F x0 x1 x2)), none, []⟩ := by
  have h0 : evFn (cxS F tyl [] [] [] 0) Try.f46 false [V.at (A.int .i64 x0), V.at (A.int .i64 x1), V.at (A.int .i64 x2)] [] = bif decide (x0 ≥ x1) then some ⟨V.at (A.bool (decide (x0 ≤ x2))), none, []⟩ else some ⟨V.at (A.bool false), none, []⟩ := by kernel_rfl
  rw [h0]
  unfold Pure.spec_l00In
  cases (decide (x0 ≥ x1)) with
  | true =>
    rfl
  | false =>
    rfl
theorem ok_spec_l00In : CallOK Try.prog 46 (c_spec_l00In real) := by
  refine callOK_of fun args h ret hc => ?_
  unfold c_spec_l00In at hc
  split at hc
  · rename_i x0 x1 x2
    obtain ⟨_, rfl⟩ := some_ret hc
    exact holds_ev prog_ok allOK_nil Try.func46 rfl rfl smL_nil rfl (e_spec_l00In real x0 x1 x2)
  · cases hc
def Pure.spec_l06Own_ok (F : FOps) (x0 : List (List Int)) (x1 : Int) : Bool := decide (x0.length ≤ 1073741824)
def c_spec_l06Own (F : FOps) : Con
  | [V.at (A.ptr 0 0 0)], [⟨false, .box [A.sl 1, A.fl .f32 x1]⟩, ⟨false, .rows [K.f .f32, K.f .f32, K.f .f32] x0⟩] => some (Pure.spec_l06Own_ok F x0 x1, ⟨V.agg [A.sl 2, A.fl .f32 x1], none, [⟨true, .rows [K.f .f32, K.f .f32, K.f .f32] x0⟩]⟩)
  | _, _ => none
theorem e_spec_l06Own (F : FOps) (x0 : List (List Int)) (x1 : Int) : Pure.spec_l06Own_ok F x0 x1 = true → evFn (cxS F tyl [] [] [] 0) Try.f63 false [V.at (A.ptr 0 0 0)] [⟨false, .box [A.sl 1, A.fl .f32 x1]⟩, ⟨false, .rows [K.f .f32, K.f .f32, K.f .f32] x0⟩] = some ⟨V.agg [A.sl 2, A.fl .f32 x1], none, [⟨true, .rows [K.f .f32, K.f .f32, K.f .f32] x0⟩]⟩ := by
  have h0 : evFn (cxS F tyl [] [] [] 0) Try.f63 false [V.at (A.ptr 0 0 0)] [⟨false, .box [A.sl 1, A.fl .f32 x1]⟩, ⟨false, .rows [K.f .f32, K.f .f32, K.f .f32] x0⟩] = bif decide (x0.length ≤ 1073741824) then some ⟨V.agg [A.sl 2, A.fl .f32 x1], none, [⟨true, .rows [K.f .f32, K.f .f32, K.f .f32] x0⟩]⟩ else none := by kernel_rfl
  rw [h0]
  unfold Pure.spec_l06Own_ok
  cases (decide (x0.length ≤ 1073741824)) with
  | true =>
    intro _; rfl
  | false =>
    intro h; exact absurd h Bool.false_ne_true
theorem ok_spec_l06Own : CallOK Try.prog 63 (c_spec_l06Own real) := by
  refine callOK_of fun args h ret hc => ?_
  unfold c_spec_l06Own at hc
  split at hc
  · rename_i x1 x0
    obtain ⟨hok, rfl⟩ := some_ret hc
    exact holds_ev prog_ok allOK_nil Try.func63 rfl rfl smL_nil rfl (e_spec_l06Own real x0 x1 hok)
  · cases hc
def Pure.spec_l06Meet (F : FOps) (x0 : List (List Int)) (x1 x2 : Int) : List (List Int) := List.set (List.set x0 (Int.toNat x2) (setFrom (List.getD x0 (Int.toNat x2) []) 1 [F.bin .quo .f32 (F.bin .add .f32 (F.bin .add .f32 (F.bin .mul .f32 ((x0.getD x2.toNat []).getD 2 0) ((x0.getD x2.toNat []).getD 1 0)) (F.bin .mul .f32 (List.getD (List.getD x0 (Int.toNat (IntKind.wrap .i64 (x2 + 1))) []) 2 0) (List.getD (List.getD x0 (Int.toNat (IntKind.wrap .i64 (x2 + 1))) []) 1 0))) (F.bin .mul .f32 (List.getD (List.getD x0 (Int.toNat (IntKind.wrap .i64 (x2 + 1))) []) 2 0) (F.bin .mul .f32 x1 (F.bin .sub .f32 (List.getD (List.getD x0 (Int.toNat (IntKind.wrap .i64 (x2 + 1))) []) 1 0) ((x0.getD x2.toNat []).getD 1 0))))) (F.bin .add .f32 ((x0.getD x2.toNat []).getD 2 0) (List.getD (List.getD x0 (Int.toNat (IntKind.wrap .i64 (x2 + 1))) []) 2 0))])) (Int.toNat (IntKind.wrap .i64 (x2 + 1))) (setFrom (List.getD (List.set x0 (Int.toNat x2) (setFrom (List.getD x0 (Int.toNat x2) []) 1 [F.bin .quo .f32 (F.bin .add .f32 (F.bin .add .f32 (F.bin .mul .f32 ((x0.getD x2.toNat []).getD 2 0) ((x0.getD x2.toNat []).getD 1 0)) (F.bin .mul .f32 (List.getD (List.getD x0 (Int.toNat (IntKind.wrap .i64 (x2 + 1))) []) 2 0) (List.getD (List.getD x0 (Int.toNat (IntKind.wrap .i64 (x2 + 1))) []) 1 0))) (F.bin .mul .f32 (List.getD (List.getD x0 (Int.toNat (IntKind.wrap .i64 (x2 + 1))) []) 2 0) (F.bin .mul .f32 x1 (F.bin .sub .f32 (List.getD (List.getD x0 (Int.toNat (IntKind.wrap .i64 (x2 + 1))) []) 1 0) ((x0.getD x2.toNat []).getD 1 0))))) (F.bin .add .f32 ((x0.getD x2.toNat []).getD 2 0) (List.getD (List.getD x0 (Int.toNat (IntKind.wrap .i64 (x2 + 1))) []) 2 0))])) (Int.toNat (IntKind.wrap .i64 (x2 + 1))) []) 1 [F.bin .quo .f32 (F.bin .sub .f32 (F.bin .add .f32 (F.bin .mul .f32 ((x0.getD x2.toNat []).getD 2 0) ((x0.getD x2.toNat []).getD 1 0)) (F.bin .mul .f32 (List.getD (List.getD x0 (Int.toNat (IntKind.wrap .i64 (x2 + 1))) []) 2 0) (List.getD (List.getD x0 (Int.toNat (IntKind.wrap .i64 (x2 + 1))) []) 1 0))) (F.bin .mul .f32 ((x0.getD x2.toNat []).getD 2 0) (F.bin .mul .f32 x1 (F.bin .sub .f32 (List.getD (List.getD x0 (Int.toNat (IntKind.wrap .i64 (x2 + 1))) []) 1 0) ((x0.getD x2.toNat []).getD 1 0))))) (F.bin .add .f32 ((x0.getD x2.toNat []).getD 2 0) (List.getD (List.getD x0 (Int.toNat (IntKind.wrap .i64 (x2 + 1))) []) 2 0))])
def Pure.spec_l06Meet_ok (F : FOps) (x0 : List (List Int)) (x1 x2 : Int) : Bool := bif Pure.spec_l06Own_ok F x0 x1 then bif decide (0 ≤ x2) then bif decide (x2 < (Int.ofNat x0.length)) then bif decide (0 ≤ (IntKind.wrap .i64 (x2 + 1))) then bif decide ((IntKind.wrap .i64 (x2 + 1)) < (Int.ofNat x0.length)) then decide ((IntKind.wrap .i64 (x2 + 1)) < (Int.ofNat (List.length (List.set x0 (Int.toNat x2) (setFrom (List.getD x0 (Int.toNat x2) []) 1 [F.bin .quo .f32 (F.bin .add .f32 (F.bin .add .f32 (F.bin .mul .f32 ((x0.getD x2.toNat []).getD 2 0) ((x0.getD x2.toNat []).getD 1 0)) (F.bin .mul .f32 (List.getD (List.getD x0 (Int.toNat (IntKind.wrap .i64 (x2 + 1))) []) 2 0) (List.getD (List.getD x0 (Int.toNat (IntKind.wrap .i64 (x2 + 1))) []) 1 0))) (F.bin .mul .f32 (List.getD (List.getD x0 (Int.toNat (IntKind.wrap .i64 (x2 + 1))) []) 2 0) (F.bin .mul .f32 x1 (F.bin .sub .f32 (List.getD (List.getD x0 (Int.toNat (IntKind.wrap .i64 (x2 + 1))) []) 1 0) ((x0.getD x2.toNat []).getD 1 0))))) (F.bin .add .f32 ((x0.getD x2.toNat []).getD 2 0) (List.getD (List.getD x0 (Int.toNat (IntKind.wrap .i64 (x2 + 1))) []) 2 0))]))))) else false else false else false else false else false
def c_spec_l06Meet (F : FOps) : Con
  | [V.at (A.ptr 0 0 0), V.at (A.int .i64 x2)], [⟨false, .box [A.sl 1, A.fl .f32 x1]⟩, ⟨false, .rows [K.f .f32, K.f .f32, K.f .f32] x0⟩] => some (Pure.spec_l06Meet_ok F x0 x1 x2, ⟨V.agg [A.sl 2, A.fl .f32 x1], none, [⟨true, .rows [K.f .f32, K.f .f32, K.f .f32] (Pure.spec_l06Meet F x0 x1 x2)⟩]⟩)
  | _, _ => none
theorem e_spec_l06Meet (F : FOps) (x0 : List (List Int)) (x1 x2 : Int) : Pure.spec_l06Meet_ok F x0 x1 x2 = true → evFn (cxS F tyl [(63, c_spec_l06Own F)] [] [] 0) Try.f75 false [V.at (A.ptr 0 0 0), V.at (A.int .i64 x2)] [⟨false, .box [A.sl 1, A.fl .f32 x1]⟩, ⟨false, .rows [K.f .f32, K.f .f32, K.f .f32] x0⟩] = some ⟨V.agg [A.sl 2, A.fl .f32 x1], none, [⟨true, .rows [K.f .f32, K.f .f32, K.f .f32] (Pure.spec_l06Meet F x0 x1 x2)⟩]⟩ := by
  have h0 : evFn (cxS F tyl [(63, c_spec_l06Own F)] [] [] 0) Try.f75 false [V.at (A.ptr 0 0 0), V.at (A.int .i64 x2)] [⟨false, .box [A.sl 1, A.fl .f32 x1]⟩, ⟨false, .rows [K.f .f32, K.f .f32, K.f .f32] x0⟩] = bif Pure.spec_l06Own_ok F x0 x1 then bif decide (0 ≤ x2) then bif decide (x2 < (Int.ofNat x0.length)) then bif decide (0 ≤ (IntKind.wrap .i64 (x2 + 1))) then bif decide ((IntKind.wrap .i64 (x2 + 1)) < (Int.ofNat x0.length)) then bif decide (0 ≤ x2) then bif decide (x2 < (Int.ofNat x0.length)) then bif decide (0 ≤ (IntKind.wrap .i64 (x2 + 1))) then bif decide ((IntKind.wrap .i64 (x2 + 1)) < (Int.ofNat (List.length (List.set x0 (Int.toNat x2) (setFrom (List.getD x0 (Int.toNat x2) []) 1 [F.bin .quo .f32 (F.bin .add .f32 (F.bin .add .f32 (F.bin .mul .f32 ((x0.getD x2.toNat []).getD 2 0) ((x0.getD x2.toNat []).getD 1 0)) (F.bin .mul .f32 (List.getD (List.getD x0 (Int.toNat (IntKind.wrap .i64 (x2 + 1))) []) 2 0) (List.getD (List.getD x0 (Int.toNat (IntKind.wrap .i64 (x2 + 1))) []) 1 0))) (F.bin .mul .f32 (List.getD (List.getD x0 (Int.toNat (IntKind.wrap .i64 (x2 + 1))) []) 2 0) (F.bin .mul .f32 x1 (F.bin .sub .f32 (List.getD (List.getD x0 (Int.toNat (IntKind.wrap .i64 (x2 + 1))) []) 1 0) ((x0.getD x2.toNat []).getD 1 0))))) (F.bin .add .f32 ((x0.getD x2.toNat []).getD 2 0) (List.getD (List.getD x0 (Int.toNat (IntKind.wrap .i64 (x2 + 1))) []) 2 0))]))))) then some ⟨V.agg [A.sl 2, A.fl .f32 x1], none, [⟨true, .rows [K.f .f32, K.f .f32, K.f .f32] (List.set (List.set x0 (Int.toNat x2) (setFrom (List.getD x0 (Int.toNat x2) []) 1 [F.bin .quo .f32 (F.bin .add .f32 (F.bin .add .f32 (F.bin .mul .f32 ((x0.getD x2.toNat []).getD 2 0) ((x0.getD x2.toNat []).getD 1 0)) (F.bin .mul .f32 (List.getD (List.getD x0 (Int.toNat (IntKind.wrap .i64 (x2 + 1))) []) 2 0) (List.getD (List.getD x0 (Int.toNat (IntKind.wrap .i64 (x2 + 1))) []) 1 0))) (F.bin .mul .f32 (List.getD (List.getD x0 (Int.toNat (IntKind.wrap .i64 (x2 + 1))) []) 2 0) (F.bin .mul .f32 x1 (F.bin .sub .f32 (List.getD (List.getD x0 (Int.toNat (IntKind.wrap .i64 (x2 + 1))) []) 1 0) ((x0.getD x2.toNat []).getD 1 0))))) (F.bin .add .f32 ((x0.getD x2.toNat []).getD 2 0) (List.getD (List.getD x0 (Int.toNat (IntKind.wrap .i64 (x2 + 1))) []) 2 0))])) (Int.toNat (IntKind.wrap .i64 (x2 + 1))) (setFrom (List.getD (List.set x0 (Int.toNat x2) (setFrom (List.getD x0 (Int.toNat x2) []) 1 [F.bin .quo .f32 (F.bin .add .f32 (F.bin .add .f32 (F.bin .mul .f32 ((x0.getD x2.toNat []).getD 2 0) ((x0.getD x2.toNat []).getD 1 0)) (F.bin .mul .f32 (List.getD (List.getD x0 (Int.toNat (IntKind.wrap .i64 (x2 + 1))) []) 2 0) (List.getD (List.getD x0 (Int.toNat (IntKind.wrap .i64 (x2 + 1))) []) 1 0))) (F.bin .mul .f32 (List.getD (List.getD x0 (Int.toNat (IntKind.wrap .i64 (x2 + 1))) []) 2 0) (F.bin .mul .f32 x1 (F.bin .sub .f32 (List.getD (List.getD x0 (Int.toNat (IntKind.wrap .i64 (x2 + 1))) []) 1 0) ((x0.getD x2.toNat []).getD 1 0))))) (F.bin .add .f32 ((x0.getD x2.toNat []).getD 2 0) (List.getD (List.getD x0 (Int.toNat (IntKind.wrap .i64 (x2 + 1))) []) 2 0))])) (Int.toNat (IntKind.wrap .i64 (x2 + 1))) []) 1 [F.bin .quo .f32 (F.bin .sub .f32 (F.bin .add .f32 (F.bin .mul .f32 ((x0.getD x2.toNat []).getD 2 0) ((x0.getD x2.toNat []).getD 1 0)) (F.bin .mul .f32 (List.getD (List.getD x0 (Int.toNat (IntKind.wrap .i64 (x2 + 1))) []) 2 0) (List.getD (List.getD x0 (Int.toNat (IntKind.wrap .i64 (x2 + 1))) []) 1 0))) (F.bin .mul .f32 ((x0.getD x2.toNat []).getD 2 0) (F.bin .mul .f32 x1 (F.bin .sub .f32 (List.getD (List.getD x0 (Int.toNat (IntKind.wrap .i64 (x2 + 1))) []) 1 0) ((x0.getD x2.toNat []).getD 1 0))))) (F.bin .add .f32 ((x0.getD x2.toNat []).getD 2 0) (List.getD (List.getD x0 (Int.toNat (IntKind.wrap .i64 (x2 + 1))) []) 2 0))]))⟩]⟩ else none else none else none else none else none else none else none else none else none := by kernel_rfl
  rw [h0]
  unfold Pure.spec_l06Meet Pure.spec_l06Meet_ok
  cases (Pure.spec_l06Own_ok F x0 x1) with
  | true =>
    cases (decide (0 ≤ x2)) with
    | true =>
      cases (decide (x2 < (Int.ofNat x0.length))) with
      | true =>
        cases (decide (0 ≤ (IntKind.wrap .i64 (x2 + 1)))) with
        | true =>
          cases (decide ((IntKind.wrap .i64 (x2 + 1)) < (Int.ofNat x0.length))) with
          | true =>
            cases (decide ((IntKind.wrap .i64 (x2 + 1)) < (Int.ofNat (List.length (List.set x0 (Int.toNat x2) (setFrom (List.getD x0 (Int.toNat x2) []) 1 [F.bin .quo .f32 (F.bin .add .f32 (F.bin .add .f32 (F.bin .mul .f32 ((x0.getD x2.toNat []).getD 2 0) ((x0.getD x2.toNat []).getD 1 0)) (F.bin .mul .f32 (List.getD (List.getD x0 (Int.toNat (IntKind.wrap .i64 (x2 + 1))) []) 2 0) (List.getD (List.getD x0 (Int.toNat (IntKind.wrap .i64 (x2 + 1))) []) 1 0))) (F.bin .mul .f32 (List.getD (List.getD x0 (Int.toNat (IntKind.wrap .i64 (x2 + 1))) []) 2 0) (F.bin .mul .f32 x1 (F.bin .sub .f32 (List.getD (List.getD x0 (Int.toNat (IntKind.wrap .i64 (x2 + 1))) []) 1 0) ((x0.getD x2.toNat []).getD 1 0))))) (F.bin .add .f32 ((x0.getD x2.toNat []).getD 2 0) (List.getD (List.getD x0 (Int.toNat (IntKind.wrap .i64 (x2 + 1))) []) 2 0))])))))) with
            | true =>
              intro _; rfl
            | false =>
              intro h; exact absurd h Bool.false_ne_true
          | false =>
            intro h; exact absurd h Bool.false_ne_true
        | false =>
          intro h; exact absurd h Bool.false_ne_true
      | false =>
        intro h; exact absurd h Bool.false_ne_true
    | false =>
      intro h; exact absurd h Bool.false_ne_true
  | false =>
    intro h; exact absurd h Bool.false_ne_true
theorem ok_spec_l06Meet : CallOK Try.prog 75 (c_spec_l06Meet real) := by
  refine callOK_of fun args h ret hc => ?_
  unfold c_spec_l06Meet at hc
  split at hc
  · rename_i x2 x1 x0
    obtain ⟨hok, rfl⟩ := some_ret hc
    exact holds_ev prog_ok (allOK_cons ok_spec_l06Own allOK_nil) Try.func75 rfl rfl smL_nil rfl (e_spec_l06Meet real x0 x1 x2 hok)
  · cases hc
def Pure.spec_l06Give_way (F : FOps) (x0 : List (List Int)) (x1 : Int) : Bool := Pure.spec_l06Is F x0 x1
def Pure.spec_l06Give_okA (F : FOps) (x0 : List (List Int)) (x1 : Int) : Bool := Pure.spec_l06Is_ok F x0 x1
def Pure.spec_l06Give_okB (F : FOps) (x0 : List (List Int)) (x1 : Int) : Bool := Pure.spec_l06Is_ok F x0 x1
def c2_spec_l06Give (F : FOps) : Con2
  | [V.agg [A.sl 0, A.fl .f32 x1]], [⟨false, .rows [K.f .f32, K.f .f32, K.f .f32] x0⟩] => some (Pure.spec_l06Give_way F x0 x1, (Pure.spec_l06Give_okA F x0 x1, ⟨V.tup [(true, [A.sl 0, A.fl .f32 x1]), (false, [A.bool true])], none, []⟩), (Pure.spec_l06Give_okB F x0 x1, ⟨V.tup [(true, [A.sl 1, A.fl .f32 0]), (false, [A.bool false])], none, [⟨true, .rows [K.f .f32, K.f .f32, K.f .f32] []⟩]⟩))
  | _, _ => none
theorem e2_spec_l06Give_true (F : FOps) (x0 : List (List Int)) (x1 : Int) : Pure.spec_l06Give_way F x0 x1 = true → Pure.spec_l06Give_okA F x0 x1 = true → evFn (cxS F tyl [(54, c_spec_l06Is F)] [] [] 0) Try.f47 false [V.agg [A.sl 0, A.fl .f32 x1]] [⟨false, .rows [K.f .f32, K.f .f32, K.f .f32] x0⟩] = some ⟨V.tup [(true, [A.sl 0, A.fl .f32 x1]), (false, [A.bool true])], none, []⟩ := by
  have h0 : evFn (cxS F tyl [(54, c_spec_l06Is F)] [] [] 0) Try.f47 false [V.agg [A.sl 0, A.fl .f32 x1]] [⟨false, .rows [K.f .f32, K.f .f32, K.f .f32] x0⟩] = bif Pure.spec_l06Is_ok F x0 x1 then bif Bool.not (Pure.spec_l06Is F x0 x1) then some ⟨V.tup [(true, [A.sl 1, A.fl .f32 0]), (false, [A.bool false])], none, [⟨true, .rows [K.f .f32, K.f .f32, K.f .f32] []⟩]⟩ else some ⟨V.tup [(true, [A.sl 0, A.fl .f32 x1]), (false, [A.bool true])], none, []⟩ else none := by kernel_rfl
  rw [h0]
  unfold Pure.spec_l06Give_way Pure.spec_l06Give_okA
  cases (Pure.spec_l06Is_ok F x0 x1) with
  | true =>
    cases (Pure.spec_l06Is F x0 x1) with
    | true =>
      intro h1 h2; first | rfl | cases h1 | cases h2
    | false =>
      intro h1 h2; first | rfl | cases h1 | cases h2
  | false =>
    intro h1 h2; first | rfl | cases h1 | cases h2
theorem e2_spec_l06Give_false (F : FOps) (x0 : List (List Int)) (x1 : Int) : Pure.spec_l06Give_way F x0 x1 = false → Pure.spec_l06Give_okB F x0 x1 = true → evFn (cxS F tyl [(54, c_spec_l06Is F)] [] [] 0) Try.f47 false [V.agg [A.sl 0, A.fl .f32 x1]] [⟨false, .rows [K.f .f32, K.f .f32, K.f .f32] x0⟩] = some ⟨V.tup [(true, [A.sl 1, A.fl .f32 0]), (false, [A.bool false])], none, [⟨true, .rows [K.f .f32, K.f .f32, K.f .f32] []⟩]⟩ := by
  have h0 : evFn (cxS F tyl [(54, c_spec_l06Is F)] [] [] 0) Try.f47 false [V.agg [A.sl 0, A.fl .f32 x1]] [⟨false, .rows [K.f .f32, K.f .f32, K.f .f32] x0⟩] = bif Pure.spec_l06Is_ok F x0 x1 then bif Bool.not (Pure.spec_l06Is F x0 x1) then some ⟨V.tup [(true, [A.sl 1, A.fl .f32 0]), (false, [A.bool false])], none, [⟨true, .rows [K.f .f32, K.f .f32, K.f .f32] []⟩]⟩ else some ⟨V.tup [(true, [A.sl 0, A.fl .f32 x1]), (false, [A.bool true])], none, []⟩ else none := by kernel_rfl
  rw [h0]
  unfold Pure.spec_l06Give_way Pure.spec_l06Give_okB
  cases (Pure.spec_l06Is_ok F x0 x1) with
  | true =>
    cases (Pure.spec_l06Is F x0 x1) with
    | true =>
      intro h1 h2; first | rfl | cases h1 | cases h2
    | false =>
      intro h1 h2; first | rfl | cases h1 | cases h2
  | false =>
    intro h1 h2; first | rfl | cases h1 | cases h2
theorem ok2_spec_l06Give : TwoOK Try.prog 47 (c2_spec_l06Give real) := by
  intro args h b x y r news hc hb
  unfold c2_spec_l06Give at hc
  split at hc
  · rename_i x1 x0
    obtain ⟨rfl, rfl, rfl⟩ := two_ret hc
    cases hq : Pure.spec_l06Give_way real x0 x1 with
    | true =>
      rw [hq] at hb
      obtain ⟨hok, hr⟩ := ret_two hb
      have he := e2_spec_l06Give_true real x0 x1 hq hok
      rw [hr] at he
      exact holds_ev prog_ok (allOK_cons ok_spec_l06Is allOK_nil) Try.func47 rfl rfl smL_nil rfl he
    | false =>
      rw [hq] at hb
      obtain ⟨hok, hr⟩ := ret_two hb
      have he := e2_spec_l06Give_false real x0 x1 hq hok
      rw [hr] at he
      exact holds_ev prog_ok (allOK_cons ok_spec_l06Is allOK_nil) Try.func47 rfl rfl smL_nil rfl he
  · cases hc
def Pure.spec_MeetBalls (F : FOps) (x0 : List (List Int)) (x1 x2 : Int) : Int := bif Pure.spec_l06Is F x0 x1 then bif Pure.spec_l00In F x2 0 (IntKind.wrap .i64 ((Int.ofNat x0.length) - 2)) then bif Pure.spec_l06Give_way F (Pure.spec_l06Meet F x0 x1 x2) x1 then x1 else 0 else 0 else 0
def Pure.spec_MeetBalls_1 (F : FOps) (x0 : List (List Int)) (x1 x2 : Int) : Bool := bif Pure.spec_l06Is F x0 x1 then bif Pure.spec_l00In F x2 0 (IntKind.wrap .i64 ((Int.ofNat x0.length) - 2)) then Pure.spec_l06Give_way F (Pure.spec_l06Meet F x0 x1 x2) x1 else false else false
def Pure.spec_MeetBalls_2 (F : FOps) (x0 : List (List Int)) (x1 x2 : Int) : List (List Int) := bif Pure.spec_l06Is F x0 x1 then bif Pure.spec_l00In F x2 0 (IntKind.wrap .i64 ((Int.ofNat x0.length) - 2)) then bif Pure.spec_l06Give_way F (Pure.spec_l06Meet F x0 x1 x2) x1 then Pure.spec_l06Meet F x0 x1 x2 else [] else [] else []
def Pure.spec_MeetBalls_ok (F : FOps) (x0 : List (List Int)) (x1 x2 : Int) : Bool := bif Pure.spec_l06Is_ok F x0 x1 then bif Pure.spec_l06Is F x0 x1 then bif Pure.spec_l00In F x2 0 (IntKind.wrap .i64 ((Int.ofNat x0.length) - 2)) then bif Pure.spec_l06Meet_ok F x0 x1 x2 then bif Pure.spec_l06Give_way F (Pure.spec_l06Meet F x0 x1 x2) x1 then Pure.spec_l06Give_okA F (Pure.spec_l06Meet F x0 x1 x2) x1 else Pure.spec_l06Give_okB F (Pure.spec_l06Meet F x0 x1 x2) x1 else false else true else true else false
def c_spec_MeetBalls (F : FOps) : Con
  | [V.agg [A.sl 0, A.fl .f32 x1], V.at (A.int .i64 x2)], [⟨false, .rows [K.f .f32, K.f .f32, K.f .f32] x0⟩] => some (Pure.spec_MeetBalls_ok F x0 x1 x2, ⟨V.tup [(true, [A.sl 1, A.fl .f32 (Pure.spec_MeetBalls F x0 x1 x2)]), (false, [A.bool (Pure.spec_MeetBalls_1 F x0 x1 x2)])], none, [⟨true, .rows [K.f .f32, K.f .f32, K.f .f32] (Pure.spec_MeetBalls_2 F x0 x1 x2)⟩]⟩)
  | _, _ => none
theorem e_spec_MeetBalls (F : FOps) (x0 : List (List Int)) (x1 x2 : Int) : Pure.spec_MeetBalls_ok F x0 x1 x2 = true → evFn (cxS F tyl [(54, c_spec_l06Is F), (46, c_spec_l00In F), (75, c_spec_l06Meet F)] [] [] 0 [(47, c2_spec_l06Give F)]) Try.f44 false [V.agg [A.sl 0, A.fl .f32 x1], V.at (A.int .i64 x2)] [⟨false, .rows [K.f .f32, K.f .f32, K.f .f32] x0⟩] = some ⟨V.tup [(true, [A.sl 1, A.fl .f32 (Pure.spec_MeetBalls F x0 x1 x2)]), (false, [A.bool (Pure.spec_MeetBalls_1 F x0 x1 x2)])], none, [⟨true, .rows [K.f .f32, K.f .f32, K.f .f32] (Pure.spec_MeetBalls_2 F x0 x1 x2)⟩]⟩ := by
  have h0 : evFn (cxS F tyl [(54, c_spec_l06Is F), (46, c_spec_l00In F), (75, c_spec_l06Meet F)] [] [] 0 [(47, c2_spec_l06Give F)]) Try.f44 false [V.agg [A.sl 0, A.fl .f32 x1], V.at (A.int .i64 x2)] [⟨false, .rows [K.f .f32, K.f .f32, K.f .f32] x0⟩] = bif Pure.spec_l06Is_ok F x0 x1 then bif Bool.not (Pure.spec_l06Is F x0 x1) then some ⟨V.tup [(true, [A.sl 1, A.fl .f32 0]), (false, [A.bool false])], none, [⟨true, .rows [K.f .f32, K.f .f32, K.f .f32] []⟩]⟩ else bif Bool.not (Pure.spec_l00In F x2 0 (IntKind.wrap .i64 ((Int.ofNat x0.length) - 2))) then some ⟨V.tup [(true, [A.sl 1, A.fl .f32 0]), (false, [A.bool false])], none, [⟨true, .rows [K.f .f32, K.f .f32, K.f .f32] []⟩]⟩ else bif Pure.spec_l06Meet_ok F x0 x1 x2 then bif Pure.spec_l06Give_way F (Pure.spec_l06Meet F x0 x1 x2) x1 then bif Pure.spec_l06Give_okA F (Pure.spec_l06Meet F x0 x1 x2) x1 then some ⟨V.tup [(true, [A.sl 1, A.fl .f32 x1]), (false, [A.bool true])], none, [⟨true, .rows [K.f .f32, K.f .f32, K.f .f32] (Pure.spec_l06Meet F x0 x1 x2)⟩]⟩ else none else bif Pure.spec_l06Give_okB F (Pure.spec_l06Meet F x0 x1 x2) x1 then some ⟨V.tup [(true, [A.sl 1, A.fl .f32 0]), (false, [A.bool false])], none, [⟨true, .rows [K.f .f32, K.f .f32, K.f .f32] []⟩]⟩ else none else none else none := by kernel_rfl
  rw [h0]
  unfold Pure.spec_MeetBalls Pure.spec_MeetBalls_1 Pure.spec_MeetBalls_2 Pure.spec_MeetBalls_ok
  cases (Pure.spec_l06Is_ok F x0 x1) with
  | true =>
    cases (Pure.spec_l06Is F x0 x1) with
    | true =>
      cases (Pure.spec_l00In F x2 0 (IntKind.wrap .i64 ((Int.ofNat x0.length) - 2))) with
      | true =>
        cases (Pure.spec_l06Meet_ok F x0 x1 x2) with
        | true =>
          cases (Pure.spec_l06Give_way F (Pure.spec_l06Meet F x0 x1 x2) x1) with
          | true =>
            cases (Pure.spec_l06Give_okA F (Pure.spec_l06Meet F x0 x1 x2) x1) with
            | true =>
              intro _; rfl
            | false =>
              intro h; exact absurd h Bool.false_ne_true
          | false =>
            cases (Pure.spec_l06Give_okB F (Pure.spec_l06Meet F x0 x1 x2) x1) with
            | true =>
              intro _; rfl
            | false =>
              intro h; exact absurd h Bool.false_ne_true
        | false =>
          intro h; exact absurd h Bool.false_ne_true
      | false =>
        intro _; rfl
    | false =>
      intro _; rfl
  | false =>
    intro h; exact absurd h Bool.false_ne_true
theorem ok_spec_MeetBalls : CallOK Try.prog 44 (c_spec_MeetBalls real) := by
  refine callOK_of fun args h ret hc => ?_
  unfold c_spec_MeetBalls at hc
  split at hc
  · rename_i x1 x2 x0
    obtain ⟨hok, rfl⟩ := some_ret hc
    exact holds_ev2 prog_ok (allOK_cons ok_spec_l06Is (allOK_cons ok_spec_l00In (allOK_cons ok_spec_l06Meet allOK_nil))) (allTwo_cons ok2_spec_l06Give allTwo_nil) Try.func44 rfl rfl smL_nil rfl (e_spec_MeetBalls real x0 x1 x2 hok)
  · cases hc
def Pure.impl_MeetBalls_ok (F : FOps) (x0 : List (List Int)) (x1 x2 : Int) : Bool := Pure.impl_changedRow_meet_ok F x0 x1 x2
def c_impl_MeetBalls (F : FOps) : Con
  | [V.agg [A.sl 0, A.fl .f32 x1], V.at (A.int .i64 x2)], [⟨false, .rows [K.f .f32, K.f .f32, K.f .f32] x0⟩] => some (Pure.impl_MeetBalls_ok F x0 x1 x2, ⟨V.tup [(true, [A.sl 1, A.fl .f32 (Pure.impl_changedRow_meet F x0 x1 x2)]), (false, [A.bool (Pure.impl_changedRow_meet_1 F x0 x1 x2)])], none, [⟨true, .rows [K.f .f32, K.f .f32, K.f .f32] (Pure.impl_changedRow_meet_2 F x0 x1 x2)⟩]⟩)
  | _, _ => none
theorem e_impl_MeetBalls (F : FOps) (x0 : List (List Int)) (x1 x2 : Int) : Pure.impl_MeetBalls_ok F x0 x1 x2 = true → evFn (cxS F tyl [(76, c_impl_MeetBalls_c1 F), (66, c_impl_changedRow_meet F)] [76] [] 0) Try.f45 false [V.agg [A.sl 0, A.fl .f32 x1], V.at (A.int .i64 x2)] [⟨false, .rows [K.f .f32, K.f .f32, K.f .f32] x0⟩] = some ⟨V.tup [(true, [A.sl 1, A.fl .f32 (Pure.impl_changedRow_meet F x0 x1 x2)]), (false, [A.bool (Pure.impl_changedRow_meet_1 F x0 x1 x2)])], none, [⟨true, .rows [K.f .f32, K.f .f32, K.f .f32] (Pure.impl_changedRow_meet_2 F x0 x1 x2)⟩]⟩ := by
  have h0 : evFn (cxS F tyl [(76, c_impl_MeetBalls_c1 F), (66, c_impl_changedRow_meet F)] [76] [] 0) Try.f45 false [V.agg [A.sl 0, A.fl .f32 x1], V.at (A.int .i64 x2)] [⟨false, .rows [K.f .f32, K.f .f32, K.f .f32] x0⟩] = bif Pure.impl_changedRow_meet_ok F x0 x1 x2 then some ⟨V.tup [(true, [A.sl 1, A.fl .f32 (Pure.impl_changedRow_meet F x0 x1 x2)]), (false, [A.bool (Pure.impl_changedRow_meet_1 F x0 x1 x2)])], none, [⟨true, .rows [K.f .f32, K.f .f32, K.f .f32] (Pure.impl_changedRow_meet_2 F x0 x1 x2)⟩]⟩ else none := by kernel_rfl
  rw [h0]
  unfold Pure.impl_MeetBalls_ok
  cases (Pure.impl_changedRow_meet_ok F x0 x1 x2) with
  | true =>
    intro _; rfl
  | false =>
    intro h; exact absurd h Bool.false_ne_true
theorem ok_impl_MeetBalls : CallOK Try.prog 45 (c_impl_MeetBalls real) := by
  refine callOK_of fun args h ret hc => ?_
  unfold c_impl_MeetBalls at hc
  split at hc
  · rename_i x1 x2 x0
    obtain ⟨hok, rfl⟩ := some_ret hc
    exact holds_ev prog_ok (allOK_cons ok_impl_MeetBalls_c1 (allOK_cons ok_impl_changedRow_meet allOK_nil)) Try.func45 rfl rfl smL_nil rfl (e_impl_MeetBalls real x0 x1 x2 hok)
  · cases hc
def Pure.laws_sameFloat (F : FOps) (x0 x1 : Int) : Bool := bif F.cmp .neq .f64 x0 x0 then F.cmp .neq .f64 x1 x1 else bif F.cmp .neq .f64 x1 x1 then false else bif F.cmp .eql .f64 x0 0 then bif F.cmp .eql .f64 x1 0 then (F.cmp .gtr .f64 (F.bin .quo .f64 4607182418800017408 x0) 0) == (F.cmp .gtr .f64 (F.bin .quo .f64 4607182418800017408 x1) 0) else F.cmp .eql .f64 x0 x1 else F.cmp .eql .f64 x0 x1
def c_laws_sameFloat (F : FOps) : Con
  | [V.at (A.fl .f64 x0), V.at (A.fl .f64 x1)], [] => some (true, ⟨V.at (A.bool (Pure.laws_sameFloat F x0 x1)), none, []⟩)
  | _, _ => none
theorem e_laws_sameFloat (F : FOps) (x0 x1 : Int) : evFn (cxS F tyl [] [] [] 0) Try.f23 false [V.at (A.fl .f64 x0), V.at (A.fl .f64 x1)] [] = some ⟨V.at (A.bool (Pure.laws_sameFloat F x0 x1)), none, []⟩ := by
  have h0 : evFn (cxS F tyl [] [] [] 0) Try.f23 false [V.at (A.fl .f64 x0), V.at (A.fl .f64 x1)] [] = bif F.cmp .neq .f64 x0 x0 then bif F.cmp .neq .f64 x0 x0 then some ⟨V.at (A.bool (F.cmp .neq .f64 x1 x1)), none, []⟩ else some ⟨V.at (A.bool false), none, []⟩ else bif F.cmp .neq .f64 x1 x1 then bif F.cmp .neq .f64 x0 x0 then some ⟨V.at (A.bool (F.cmp .neq .f64 x1 x1)), none, []⟩ else some ⟨V.at (A.bool false), none, []⟩ else bif F.cmp .eql .f64 x0 0 then bif F.cmp .eql .f64 x1 0 then some ⟨V.at (A.bool ((F.cmp .gtr .f64 (F.bin .quo .f64 4607182418800017408 x0) 0) == (F.cmp .gtr .f64 (F.bin .quo .f64 4607182418800017408 x1) 0))), none, []⟩ else some ⟨V.at (A.bool (F.cmp .eql .f64 x0 x1)), none, []⟩ else some ⟨V.at (A.bool (F.cmp .eql .f64 x0 x1)), none, []⟩ := by kernel_rfl
  rw [h0]
  unfold Pure.laws_sameFloat
  cases (F.cmp .neq .f64 x0 x0) with
  | true =>
    rfl
  | false =>
    cases (F.cmp .neq .f64 x1 x1) with
    | true =>
      rfl
    | false =>
      cases (F.cmp .eql .f64 x0 0) with
      | true =>
        cases (F.cmp .eql .f64 x1 0) with
        | true =>
          rfl
        | false =>
          rfl
      | false =>
        rfl
theorem ok_laws_sameFloat : CallOK Try.prog 23 (c_laws_sameFloat real) := by
  refine callOK_of fun args h ret hc => ?_
  unfold c_laws_sameFloat at hc
  split at hc
  · rename_i x0 x1
    obtain ⟨_, rfl⟩ := some_ret hc
    exact holds_ev prog_ok allOK_nil Try.func23 rfl rfl smL_nil rfl (e_laws_sameFloat real x0 x1)
  · cases hc
def Pure.laws_eqBall (F : FOps) (x0 x1 x2 x3 x4 x5 : Int) : Bool := bif Pure.laws_sameFloat F (F.conv .f32 .f64 x0) (F.conv .f32 .f64 x3) then bif Pure.laws_sameFloat F (F.conv .f32 .f64 x1) (F.conv .f32 .f64 x4) then Pure.laws_sameFloat F (F.conv .f32 .f64 x2) (F.conv .f32 .f64 x5) else false else false
def Pure.laws_eqBall_ok (F : FOps) (x0 x1 x2 x3 x4 x5 : Int) : Bool := bif F.convOk .f32 .f64 x0 then bif F.convOk .f32 .f64 x3 then bif Pure.laws_sameFloat F (F.conv .f32 .f64 x0) (F.conv .f32 .f64 x3) then bif F.convOk .f32 .f64 x1 then bif F.convOk .f32 .f64 x4 then bif Pure.laws_sameFloat F (F.conv .f32 .f64 x1) (F.conv .f32 .f64 x4) then bif F.convOk .f32 .f64 x2 then F.convOk .f32 .f64 x5 else false else true else false else false else true else false else false
def c_laws_eqBall (F : FOps) : Con
  | [V.agg [A.fl .f32 x0, A.fl .f32 x1, A.fl .f32 x2], V.agg [A.fl .f32 x3, A.fl .f32 x4, A.fl .f32 x5]], [] => some (Pure.laws_eqBall_ok F x0 x1 x2 x3 x4 x5, ⟨V.at (A.bool (Pure.laws_eqBall F x0 x1 x2 x3 x4 x5)), none, []⟩)
  | _, _ => none
theorem e_laws_eqBall (F : FOps) (x0 x1 x2 x3 x4 x5 : Int) : Pure.laws_eqBall_ok F x0 x1 x2 x3 x4 x5 = true → evFn (cxS F tyl [(23, c_laws_sameFloat F)] [] [] 0) Try.f81 false [V.agg [A.fl .f32 x0, A.fl .f32 x1, A.fl .f32 x2], V.agg [A.fl .f32 x3, A.fl .f32 x4, A.fl .f32 x5]] [] = some ⟨V.at (A.bool (Pure.laws_eqBall F x0 x1 x2 x3 x4 x5)), none, []⟩ := by
  have h0 : evFn (cxS F tyl [(23, c_laws_sameFloat F)] [] [] 0) Try.f81 false [V.agg [A.fl .f32 x0, A.fl .f32 x1, A.fl .f32 x2], V.agg [A.fl .f32 x3, A.fl .f32 x4, A.fl .f32 x5]] [] = bif F.convOk .f32 .f64 x0 then bif F.convOk .f32 .f64 x3 then bif Bool.not (Pure.laws_sameFloat F (F.conv .f32 .f64 x0) (F.conv .f32 .f64 x3)) then some ⟨V.at (A.bool false), none, []⟩ else bif F.convOk .f32 .f64 x1 then bif F.convOk .f32 .f64 x4 then bif Bool.not (Pure.laws_sameFloat F (F.conv .f32 .f64 x1) (F.conv .f32 .f64 x4)) then some ⟨V.at (A.bool false), none, []⟩ else bif F.convOk .f32 .f64 x2 then bif F.convOk .f32 .f64 x5 then bif Bool.not (Pure.laws_sameFloat F (F.conv .f32 .f64 x2) (F.conv .f32 .f64 x5)) then some ⟨V.at (A.bool false), none, []⟩ else some ⟨V.at (A.bool true), none, []⟩ else none else none else none else none else none else none := by kernel_rfl
  rw [h0]
  unfold Pure.laws_eqBall Pure.laws_eqBall_ok
  cases (F.convOk .f32 .f64 x0) with
  | true =>
    cases (F.convOk .f32 .f64 x3) with
    | true =>
      cases (Pure.laws_sameFloat F (F.conv .f32 .f64 x0) (F.conv .f32 .f64 x3)) with
      | true =>
        cases (F.convOk .f32 .f64 x1) with
        | true =>
          cases (F.convOk .f32 .f64 x4) with
          | true =>
            cases (Pure.laws_sameFloat F (F.conv .f32 .f64 x1) (F.conv .f32 .f64 x4)) with
            | true =>
              cases (F.convOk .f32 .f64 x2) with
              | true =>
                cases (F.convOk .f32 .f64 x5) with
                | true =>
                  cases (Pure.laws_sameFloat F (F.conv .f32 .f64 x2) (F.conv .f32 .f64 x5)) with
                  | true =>
                    intro _; rfl
                  | false =>
                    intro _; rfl
                | false =>
                  intro h; exact absurd h Bool.false_ne_true
              | false =>
                intro h; exact absurd h Bool.false_ne_true
            | false =>
              intro _; rfl
          | false =>
            intro h; exact absurd h Bool.false_ne_true
        | false =>
          intro h; exact absurd h Bool.false_ne_true
      | false =>
        intro _; rfl
    | false =>
      intro h; exact absurd h Bool.false_ne_true
  | false =>
    intro h; exact absurd h Bool.false_ne_true
theorem ok_laws_eqBall : CallOK Try.prog 81 (c_laws_eqBall real) := by
  refine callOK_of fun args h ret hc => ?_
  unfold c_laws_eqBall at hc
  split at hc
  · rename_i x0 x1 x2 x3 x4 x5
    obtain ⟨hok, rfl⟩ := some_ret hc
    exact holds_ev prog_ok (allOK_cons ok_laws_sameFloat allOK_nil) Try.func81 rfl rfl smL_nil rfl (e_laws_eqBall real x0 x1 x2 x3 x4 x5 hok)
  · cases hc
def Pure.laws_eqBallS_L0 (F : FOps) (y1 y2 : List (List Int)) : Nat → Int → (Bool × Bool)
  | 0, _ => (false, false)
  | n + 1, y0 => bif (decide (y0 < (Int.ofNat y1.length))) then (bif (decide (0 ≤ y0)) then (bif (decide (y0 < (Int.ofNat y1.length))) then (bif (decide (0 ≤ y0)) then (bif (decide (y0 < (Int.ofNat y2.length))) then (bif (Pure.laws_eqBall_ok F ((y1.getD y0.toNat []).getD 0 0) ((y1.getD y0.toNat []).getD 1 0) ((y1.getD y0.toNat []).getD 2 0) ((y2.getD y0.toNat []).getD 0 0) ((y2.getD y0.toNat []).getD 1 0) ((y2.getD y0.toNat []).getD 2 0)) then (bif (Pure.laws_eqBall F ((y1.getD y0.toNat []).getD 0 0) ((y1.getD y0.toNat []).getD 1 0) ((y1.getD y0.toNat []).getD 2 0) ((y2.getD y0.toNat []).getD 0 0) ((y2.getD y0.toNat []).getD 1 0) ((y2.getD y0.toNat []).getD 2 0)) then (Pure.laws_eqBallS_L0 F y1 y2 n (IntKind.wrap .i64 (y0 + 1))) else ((true, true))) else ((false, false))) else ((false, false))) else ((false, false))) else ((false, false))) else ((false, false))) else ((true, false))
def R_laws_eqBallS_L0 (y1 y2 : List (List Int)) (r : (Bool × Bool)) : Bool × Ends := ((r).1, .two (r).2 (.one Ex.normal [V.at A.undef] [⟨false, .rows [K.f .f32, K.f .f32, K.f .f32] y1⟩, ⟨false, .rows [K.f .f32, K.f .f32, K.f .f32] y2⟩]) (.one Ex.ret [V.at (A.bool false)] [⟨false, .rows [K.f .f32, K.f .f32, K.f .f32] y1⟩, ⟨false, .rows [K.f .f32, K.f .f32, K.f .f32] y2⟩]))
def S_laws_eqBallS_L0 (F : FOps) : Sm := ⟨[0, 1, 5], [23, 23, 3], [4], fun vals hp => match vals, hp with
  | [V.at (A.sl 0), V.at (A.sl 1), V.at (A.int .i64 y0)], [⟨false, .rows [K.f .f32, K.f .f32, K.f .f32] y1⟩, ⟨false, .rows [K.f .f32, K.f .f32, K.f .f32] y2⟩] => some (R_laws_eqBallS_L0 y1 y2 (Pure.laws_eqBallS_L0 F y1 y2 ((Int.ofNat y1.length) - y0 + 1).toNat y0))
  | _, _ => none⟩
theorem l_laws_eqBallS_L0 (F : FOps) (y1 y2 : List (List Int)) : ∀ (fuel : Nat) (y0 : Int), (Pure.laws_eqBallS_L0 F y1 y2 fuel y0).1 = true → loopOf (cxS F tyl [(81, c_laws_eqBall F)] [] [] 0) 2 27 0 [0, 1, 5] [23, 23, 3] [4] (loopB 0 (codeOf Try.f50)) fuel [V.at (A.sl 0), V.at (A.sl 1), V.at (A.int .i64 y0)] [⟨false, .rows [K.f .f32, K.f .f32, K.f .f32] y1⟩, ⟨false, .rows [K.f .f32, K.f .f32, K.f .f32] y2⟩] = resOf (R_laws_eqBallS_L0 y1 y2 (Pure.laws_eqBallS_L0 F y1 y2 fuel y0)) := by
  intro fuel
  induction fuel with
  | zero => intro y0 h; exact absurd h Bool.false_ne_true
  | succ n ih =>
    intro y0
    have h0 : roundOf (cxS F tyl [(81, c_laws_eqBall F)] [] [] 0) 2 27 0 [0, 1, 5] [23, 23, 3] [4] (loopB 0 (codeOf Try.f50)) [V.at (A.sl 0), V.at (A.sl 1), V.at (A.int .i64 y0)] [⟨false, .rows [K.f .f32, K.f .f32, K.f .f32] y1⟩, ⟨false, .rows [K.f .f32, K.f .f32, K.f .f32] y2⟩] = (bif decide (y0 < (Int.ofNat y1.length)) then bif decide (0 ≤ y0) then bif decide (y0 < (Int.ofNat y1.length)) then bif decide (0 ≤ y0) then bif decide (y0 < (Int.ofNat y2.length)) then bif Pure.laws_eqBall_ok F ((y1.getD y0.toNat []).getD 0 0) ((y1.getD y0.toNat []).getD 1 0) ((y1.getD y0.toNat []).getD 2 0) ((y2.getD y0.toNat []).getD 0 0) ((y2.getD y0.toNat []).getD 1 0) ((y2.getD y0.toNat []).getD 2 0) then bif Bool.not (Pure.laws_eqBall F ((y1.getD y0.toNat []).getD 0 0) ((y1.getD y0.toNat []).getD 1 0) ((y1.getD y0.toNat []).getD 2 0) ((y2.getD y0.toNat []).getD 0 0) ((y2.getD y0.toNat []).getD 1 0) ((y2.getD y0.toNat []).getD 2 0)) then some (false, (Ex.ret, ([V.at (A.bool false)], [⟨false, .rows [K.f .f32, K.f .f32, K.f .f32] y1⟩, ⟨false, .rows [K.f .f32, K.f .f32, K.f .f32] y2⟩]))) else some (true, (Ex.normal, ([V.at (A.sl 0), V.at (A.sl 1), V.at (A.int .i64 (IntKind.wrap .i64 (y0 + 1)))], [⟨false, .rows [K.f .f32, K.f .f32, K.f .f32] y1⟩, ⟨false, .rows [K.f .f32, K.f .f32, K.f .f32] y2⟩]))) else none else none else none else none else none else some (false, (Ex.normal, ([V.at A.undef], [⟨false, .rows [K.f .f32, K.f .f32, K.f .f32] y1⟩, ⟨false, .rows [K.f .f32, K.f .f32, K.f .f32] y2⟩])))) := by kernel_rfl
    unfold loopOf
    rw [h0]
    unfold Pure.laws_eqBallS_L0
    cases (decide (y0 < (Int.ofNat y1.length))) with
    | true =>
      cases (decide (0 ≤ y0)) with
      | true =>
        cases (decide (y0 < (Int.ofNat y2.length))) with
        | true =>
          cases (Pure.laws_eqBall_ok F ((y1.getD y0.toNat []).getD 0 0) ((y1.getD y0.toNat []).getD 1 0) ((y1.getD y0.toNat []).getD 2 0) ((y2.getD y0.toNat []).getD 0 0) ((y2.getD y0.toNat []).getD 1 0) ((y2.getD y0.toNat []).getD 2 0)) with
          | true =>
            cases (Pure.laws_eqBall F ((y1.getD y0.toNat []).getD 0 0) ((y1.getD y0.toNat []).getD 1 0) ((y1.getD y0.toNat []).getD 2 0) ((y2.getD y0.toNat []).getD 0 0) ((y2.getD y0.toNat []).getD 1 0) ((y2.getD y0.toNat []).getD 2 0)) with
            | true =>
              exact ih _
            | false =>
              intro _; rfl
          | false =>
            intro h; exact absurd h Bool.false_ne_true
        | false =>
          intro h; exact absurd h Bool.false_ne_true
      | false =>
        intro h; exact absurd h Bool.false_ne_true
    | false =>
      intro _; rfl
theorem t_laws_eqBallS_L0 : SmTo Try.prog 2 27 (S_laws_eqBallS_L0 real) 0 (.loop (loopB 0 (codeOf Try.f50))) := by
  refine smTo_ev (cl := [(81, c_laws_eqBall real)]) (ef := []) (sm := []) (un := 0) prog_ok (allOK_cons ok_laws_eqBall allOK_nil) smL_nil ?_
  intro vals hp q r h hq
  unfold S_laws_eqBallS_L0 at h
  dsimp only at h
  split at h
  · rename_i y0 y1 y2
    obtain rfl := Option.some.inj h
    have h1 := hq
    unfold resOf at h1
    rw [chk_some] at h1
    exact ⟨_, (l_laws_eqBallS_L0 real y1 y2 _ y0 h1.1).trans hq⟩
  · cases h
def Pure.laws_eqBallS (F : FOps) (x0 x1 : List (List Int)) : Bool := bif (Int.ofNat x0.length) != (Int.ofNat x1.length) then false else bif Prod.snd (Pure.laws_eqBallS_L0 F x0 x1 (Nat.succ (x0.length + 0)) 0) then false else true
def Pure.laws_eqBallS_ok (F : FOps) (x0 x1 : List (List Int)) : Bool := bif (Int.ofNat x0.length) != (Int.ofNat x1.length) then true else Prod.fst (Pure.laws_eqBallS_L0 F x0 x1 (Nat.succ (x0.length + 0)) 0)
def c_laws_eqBallS (F : FOps) : Con
  | [V.at (A.sl 0), V.at (A.sl 1)], [⟨false, .rows [K.f .f32, K.f .f32, K.f .f32] x0⟩, ⟨false, .rows [K.f .f32, K.f .f32, K.f .f32] x1⟩] => some (Pure.laws_eqBallS_ok F x0 x1, ⟨V.at (A.bool (Pure.laws_eqBallS F x0 x1)), none, []⟩)
  | _, _ => none
theorem e_laws_eqBallS (F : FOps) (x0 x1 : List (List Int)) : Pure.laws_eqBallS_ok F x0 x1 = true → evFn (cxS F tyl [(81, c_laws_eqBall F)] [] [(0, S_laws_eqBallS_L0 F)] 0) Try.f50 false [V.at (A.sl 0), V.at (A.sl 1)] [⟨false, .rows [K.f .f32, K.f .f32, K.f .f32] x0⟩, ⟨false, .rows [K.f .f32, K.f .f32, K.f .f32] x1⟩] = some ⟨V.at (A.bool (Pure.laws_eqBallS F x0 x1)), none, []⟩ := by
  have h0 : evFn (cxS F tyl [(81, c_laws_eqBall F)] [] [(0, S_laws_eqBallS_L0 F)] 0) Try.f50 false [V.at (A.sl 0), V.at (A.sl 1)] [⟨false, .rows [K.f .f32, K.f .f32, K.f .f32] x0⟩, ⟨false, .rows [K.f .f32, K.f .f32, K.f .f32] x1⟩] = bif (Int.ofNat x0.length) != (Int.ofNat x1.length) then some ⟨V.at (A.bool false), none, []⟩ else bif Prod.fst (Pure.laws_eqBallS_L0 F x0 x1 (Nat.succ (x0.length + 0)) 0) then bif Prod.snd (Pure.laws_eqBallS_L0 F x0 x1 (Nat.succ (x0.length + 0)) 0) then some ⟨V.at (A.bool false), none, []⟩ else some ⟨V.at (A.bool true), none, []⟩ else none := by kernel_rfl
  rw [h0]
  unfold Pure.laws_eqBallS Pure.laws_eqBallS_ok
  cases ((Int.ofNat x0.length) != (Int.ofNat x1.length)) with
  | true =>
    intro _; rfl
  | false =>
    cases (Prod.fst (Pure.laws_eqBallS_L0 F x0 x1 (Nat.succ (x0.length + 0)) 0)) with
    | true =>
      cases (Prod.snd (Pure.laws_eqBallS_L0 F x0 x1 (Nat.succ (x0.length + 0)) 0)) with
      | true =>
        intro _; rfl
      | false =>
        intro _; rfl
    | false =>
      intro h; exact absurd h Bool.false_ne_true
theorem ok_laws_eqBallS : CallOK Try.prog 50 (c_laws_eqBallS real) := by
  refine callOK_of fun args h ret hc => ?_
  unfold c_laws_eqBallS at hc
  split at hc
  · rename_i x0 x1
    obtain ⟨hok, rfl⟩ := some_ret hc
    exact holds_ev prog_ok (allOK_cons ok_laws_eqBall allOK_nil) Try.func50 rfl rfl (smL_cons (body := .loop (loopB 0 (codeOf Try.f50))) (by kernel_rfl) t_laws_eqBallS_L0 smL_nil) rfl (e_laws_eqBallS real x0 x1 hok)
  · cases hc
def Pure.laws_eqRow (F : FOps) (x0 : List (List Int)) (x1 : Int) (x2 : List (List Int)) (x3 : Int) : Bool := bif Pure.laws_eqBallS F x0 x2 then Pure.laws_sameFloat F (F.conv .f32 .f64 x1) (F.conv .f32 .f64 x3) else false
def Pure.laws_eqRow_ok (F : FOps) (x0 : List (List Int)) (x1 : Int) (x2 : List (List Int)) (x3 : Int) : Bool := bif Pure.laws_eqBallS_ok F x0 x2 then bif Pure.laws_eqBallS F x0 x2 then bif F.convOk .f32 .f64 x1 then F.convOk .f32 .f64 x3 else false else true else false
def c_laws_eqRow (F : FOps) : Con
  | [V.agg [A.sl 0, A.fl .f32 x1], V.agg [A.sl 1, A.fl .f32 x3]], [⟨false, .rows [K.f .f32, K.f .f32, K.f .f32] x0⟩, ⟨false, .rows [K.f .f32, K.f .f32, K.f .f32] x2⟩] => some (Pure.laws_eqRow_ok F x0 x1 x2 x3, ⟨V.at (A.bool (Pure.laws_eqRow F x0 x1 x2 x3)), none, []⟩)
  | _, _ => none
theorem e_laws_eqRow (F : FOps) (x0 : List (List Int)) (x1 : Int) (x2 : List (List Int)) (x3 : Int) : Pure.laws_eqRow_ok F x0 x1 x2 x3 = true → evFn (cxS F tyl [(50, c_laws_eqBallS F), (23, c_laws_sameFloat F)] [] [] 0) Try.f16 false [V.agg [A.sl 0, A.fl .f32 x1], V.agg [A.sl 1, A.fl .f32 x3]] [⟨false, .rows [K.f .f32, K.f .f32, K.f .f32] x0⟩, ⟨false, .rows [K.f .f32, K.f .f32, K.f .f32] x2⟩] = some ⟨V.at (A.bool (Pure.laws_eqRow F x0 x1 x2 x3)), none, []⟩ := by
  have h0 : evFn (cxS F tyl [(50, c_laws_eqBallS F), (23, c_laws_sameFloat F)] [] [] 0) Try.f16 false [V.agg [A.sl 0, A.fl .f32 x1], V.agg [A.sl 1, A.fl .f32 x3]] [⟨false, .rows [K.f .f32, K.f .f32, K.f .f32] x0⟩, ⟨false, .rows [K.f .f32, K.f .f32, K.f .f32] x2⟩] = bif Pure.laws_eqBallS_ok F x0 x2 then bif Bool.not (Pure.laws_eqBallS F x0 x2) then some ⟨V.at (A.bool false), none, []⟩ else bif F.convOk .f32 .f64 x1 then bif F.convOk .f32 .f64 x3 then bif Bool.not (Pure.laws_sameFloat F (F.conv .f32 .f64 x1) (F.conv .f32 .f64 x3)) then some ⟨V.at (A.bool false), none, []⟩ else some ⟨V.at (A.bool true), none, []⟩ else none else none else none := by kernel_rfl
  rw [h0]
  unfold Pure.laws_eqRow Pure.laws_eqRow_ok
  cases (Pure.laws_eqBallS_ok F x0 x2) with
  | true =>
    cases (Pure.laws_eqBallS F x0 x2) with
    | true =>
      cases (F.convOk .f32 .f64 x1) with
      | true =>
        cases (F.convOk .f32 .f64 x3) with
        | true =>
          cases (Pure.laws_sameFloat F (F.conv .f32 .f64 x1) (F.conv .f32 .f64 x3)) with
          | true =>
            intro _; rfl
          | false =>
            intro _; rfl
        | false =>
          intro h; exact absurd h Bool.false_ne_true
      | false =>
        intro h; exact absurd h Bool.false_ne_true
    | false =>
      intro _; rfl
  | false =>
    intro h; exact absurd h Bool.false_ne_true
theorem ok_laws_eqRow : CallOK Try.prog 16 (c_laws_eqRow real) := by
  refine callOK_of fun args h ret hc => ?_
  unfold c_laws_eqRow at hc
  split at hc
  · rename_i x1 x3 x0 x2
    obtain ⟨hok, rfl⟩ := some_ret hc
    exact holds_ev prog_ok (allOK_cons ok_laws_eqBallS (allOK_cons ok_laws_sameFloat allOK_nil)) Try.func16 rfl rfl smL_nil rfl (e_laws_eqRow real x0 x1 x2 x3 hok)
  · cases hc
def Pure.laws_markBallS_L0 (F : FOps) : Nat → Int → Int → (List (List Int)) → (Bool × Int × (List (List Int)))
  | 0, _, _, _ => (false, 0, [])
  | n + 1, y0, y1, y2 => bif (decide (y1 < (Int.ofNat y2.length))) then (bif (decide (0 ≤ y1)) then (bif (decide (y1 < (Int.ofNat y2.length))) then (bif (decide (0 ≤ y1)) then (bif (decide (y1 < (Int.ofNat (List.length (List.set y2 (Int.toNat y1) (setFrom (List.getD y2 (Int.toNat y1) []) 0 [F.ofInt .f32 y0])))))) then (bif (decide (0 ≤ y1)) then (bif (decide (y1 < (Int.ofNat (List.length (List.set (List.set y2 (Int.toNat y1) (setFrom (List.getD y2 (Int.toNat y1) []) 0 [F.ofInt .f32 y0])) (Int.toNat y1) (setFrom (List.getD (List.set y2 (Int.toNat y1) (setFrom (List.getD y2 (Int.toNat y1) []) 0 [F.ofInt .f32 y0])) (Int.toNat y1) []) 1 [F.ofInt .f32 (IntKind.wrap .i64 (y0 + 1))])))))) then (Pure.laws_markBallS_L0 F  n (IntKind.wrap .i64 ((IntKind.wrap .i64 ((IntKind.wrap .i64 (y0 + 1)) + 1)) + 1)) (IntKind.wrap .i64 (y1 + 1)) (List.set (List.set (List.set y2 (Int.toNat y1) (setFrom (List.getD y2 (Int.toNat y1) []) 0 [F.ofInt .f32 y0])) (Int.toNat y1) (setFrom (List.getD (List.set y2 (Int.toNat y1) (setFrom (List.getD y2 (Int.toNat y1) []) 0 [F.ofInt .f32 y0])) (Int.toNat y1) []) 1 [F.ofInt .f32 (IntKind.wrap .i64 (y0 + 1))])) (Int.toNat y1) (setFrom (List.getD (List.set (List.set y2 (Int.toNat y1) (setFrom (List.getD y2 (Int.toNat y1) []) 0 [F.ofInt .f32 y0])) (Int.toNat y1) (setFrom (List.getD (List.set y2 (Int.toNat y1) (setFrom (List.getD y2 (Int.toNat y1) []) 0 [F.ofInt .f32 y0])) (Int.toNat y1) []) 1 [F.ofInt .f32 (IntKind.wrap .i64 (y0 + 1))])) (Int.toNat y1) []) 2 [F.ofInt .f32 (IntKind.wrap .i64 ((IntKind.wrap .i64 (y0 + 1)) + 1))]))) else ((false, 0, []))) else ((false, 0, []))) else ((false, 0, []))) else ((false, 0, []))) else ((false, 0, []))) else ((false, 0, []))) else ((true, y0, y2))
def R_laws_markBallS_L0 (r : (Bool × Int × (List (List Int)))) : Bool × Ends := ((r).1, (.one Ex.normal [V.at (A.int .i64 (r).2.1)] [⟨true, .rows [K.f .f32, K.f .f32, K.f .f32] (r).2.2⟩]))
def S_laws_markBallS_L0 (F : FOps) : Sm := ⟨[0, 1, 5], [23, 3, 3], [1], fun vals hp => match vals, hp with
  | [V.at (A.sl 0), V.at (A.int .i64 y0), V.at (A.int .i64 y1)], [⟨true, .rows [K.f .f32, K.f .f32, K.f .f32] y2⟩] => some (R_laws_markBallS_L0  (Pure.laws_markBallS_L0 F  ((Int.ofNat y2.length) - y1 + 1).toNat y0 y1 y2))
  | _, _ => none⟩
theorem l_laws_markBallS_L0 (F : FOps) : ∀ (fuel : Nat) (y0 y1 : Int) (y2 : List (List Int)), (Pure.laws_markBallS_L0 F  fuel y0 y1 y2).1 = true → loopOf (cxS F tyl [] [] [] 0) 1 37 0 [0, 1, 5] [23, 3, 3] [1] (loopB 0 (codeOf Try.f51)) fuel [V.at (A.sl 0), V.at (A.int .i64 y0), V.at (A.int .i64 y1)] [⟨true, .rows [K.f .f32, K.f .f32, K.f .f32] y2⟩] = resOf (R_laws_markBallS_L0  (Pure.laws_markBallS_L0 F  fuel y0 y1 y2)) := by
  intro fuel
  induction fuel with
  | zero => intro y0 y1 y2 h; exact absurd h Bool.false_ne_true
  | succ n ih =>
    intro y0 y1 y2
    have h0 : roundOf (cxS F tyl [] [] [] 0) 1 37 0 [0, 1, 5] [23, 3, 3] [1] (loopB 0 (codeOf Try.f51)) [V.at (A.sl 0), V.at (A.int .i64 y0), V.at (A.int .i64 y1)] [⟨true, .rows [K.f .f32, K.f .f32, K.f .f32] y2⟩] = (bif decide (y1 < (Int.ofNat y2.length)) then bif decide (0 ≤ y1) then bif decide (y1 < (Int.ofNat y2.length)) then bif decide (0 ≤ y1) then bif decide (y1 < (Int.ofNat (List.length (List.set y2 (Int.toNat y1) (setFrom (List.getD y2 (Int.toNat y1) []) 0 [F.ofInt .f32 y0]))))) then bif decide (0 ≤ y1) then bif decide (y1 < (Int.ofNat (List.length (List.set (List.set y2 (Int.toNat y1) (setFrom (List.getD y2 (Int.toNat y1) []) 0 [F.ofInt .f32 y0])) (Int.toNat y1) (setFrom (List.getD (List.set y2 (Int.toNat y1) (setFrom (List.getD y2 (Int.toNat y1) []) 0 [F.ofInt .f32 y0])) (Int.toNat y1) []) 1 [F.ofInt .f32 (IntKind.wrap .i64 (y0 + 1))]))))) then some (true, (Ex.normal, ([V.at (A.sl 0), V.at (A.int .i64 (IntKind.wrap .i64 ((IntKind.wrap .i64 ((IntKind.wrap .i64 (y0 + 1)) + 1)) + 1))), V.at (A.int .i64 (IntKind.wrap .i64 (y1 + 1)))], [⟨true, .rows [K.f .f32, K.f .f32, K.f .f32] (List.set (List.set (List.set y2 (Int.toNat y1) (setFrom (List.getD y2 (Int.toNat y1) []) 0 [F.ofInt .f32 y0])) (Int.toNat y1) (setFrom (List.getD (List.set y2 (Int.toNat y1) (setFrom (List.getD y2 (Int.toNat y1) []) 0 [F.ofInt .f32 y0])) (Int.toNat y1) []) 1 [F.ofInt .f32 (IntKind.wrap .i64 (y0 + 1))])) (Int.toNat y1) (setFrom (List.getD (List.set (List.set y2 (Int.toNat y1) (setFrom (List.getD y2 (Int.toNat y1) []) 0 [F.ofInt .f32 y0])) (Int.toNat y1) (setFrom (List.getD (List.set y2 (Int.toNat y1) (setFrom (List.getD y2 (Int.toNat y1) []) 0 [F.ofInt .f32 y0])) (Int.toNat y1) []) 1 [F.ofInt .f32 (IntKind.wrap .i64 (y0 + 1))])) (Int.toNat y1) []) 2 [F.ofInt .f32 (IntKind.wrap .i64 ((IntKind.wrap .i64 (y0 + 1)) + 1))]))⟩]))) else none else none else none else none else none else none else some (false, (Ex.normal, ([V.at (A.int .i64 y0)], [⟨true, .rows [K.f .f32, K.f .f32, K.f .f32] y2⟩])))) := by kernel_rfl
    unfold loopOf
    rw [h0]
    unfold Pure.laws_markBallS_L0
    cases (decide (y1 < (Int.ofNat y2.length))) with
    | true =>
      cases (decide (0 ≤ y1)) with
      | true =>
        cases (decide (y1 < (Int.ofNat (List.length (List.set y2 (Int.toNat y1) (setFrom (List.getD y2 (Int.toNat y1) []) 0 [F.ofInt .f32 y0])))))) with
        | true =>
          cases (decide (y1 < (Int.ofNat (List.length (List.set (List.set y2 (Int.toNat y1) (setFrom (List.getD y2 (Int.toNat y1) []) 0 [F.ofInt .f32 y0])) (Int.toNat y1) (setFrom (List.getD (List.set y2 (Int.toNat y1) (setFrom (List.getD y2 (Int.toNat y1) []) 0 [F.ofInt .f32 y0])) (Int.toNat y1) []) 1 [F.ofInt .f32 (IntKind.wrap .i64 (y0 + 1))])))))) with
          | true =>
            exact ih _ _ _
          | false =>
            intro h; exact absurd h Bool.false_ne_true
        | false =>
          intro h; exact absurd h Bool.false_ne_true
      | false =>
        intro h; exact absurd h Bool.false_ne_true
    | false =>
      intro _; rfl
theorem t_laws_markBallS_L0 : SmTo Try.prog 1 37 (S_laws_markBallS_L0 real) 0 (.loop (loopB 0 (codeOf Try.f51))) := by
  refine smTo_ev (cl := []) (ef := []) (sm := []) (un := 0) prog_ok allOK_nil smL_nil ?_
  intro vals hp q r h hq
  unfold S_laws_markBallS_L0 at h
  dsimp only at h
  split at h
  · rename_i y0 y1 y2
    obtain rfl := Option.some.inj h
    have h1 := hq
    unfold resOf at h1
    rw [chk_some] at h1
    exact ⟨_, (l_laws_markBallS_L0 real _ y0 y1 y2 h1.1).trans hq⟩
  · cases h
def Pure.laws_markBallS (F : FOps) (x0 : List (List Int)) (x1 : Int) : Int := Prod.fst (Prod.snd (Pure.laws_markBallS_L0 F (Nat.succ (x0.length + 0)) x1 0 x0))
def Pure.laws_markBallS_1 (F : FOps) (x0 : List (List Int)) (x1 : Int) : List (List Int) := Prod.snd (Prod.snd (Pure.laws_markBallS_L0 F (Nat.succ (x0.length + 0)) x1 0 x0))
def Pure.laws_markBallS_ok (F : FOps) (x0 : List (List Int)) (x1 : Int) : Bool := Prod.fst (Pure.laws_markBallS_L0 F (Nat.succ (x0.length + 0)) x1 0 x0)
def c_laws_markBallS (F : FOps) : Con
  | [V.at (A.sl 0), V.at (A.int .i64 x1)], [⟨true, .rows [K.f .f32, K.f .f32, K.f .f32] x0⟩] => some (Pure.laws_markBallS_ok F x0 x1, ⟨V.at (A.int .i64 (Pure.laws_markBallS F x0 x1)), some [⟨true, .rows [K.f .f32, K.f .f32, K.f .f32] (Pure.laws_markBallS_1 F x0 x1)⟩], []⟩)
  | _, _ => none
theorem e_laws_markBallS (F : FOps) (x0 : List (List Int)) (x1 : Int) : Pure.laws_markBallS_ok F x0 x1 = true → evFn (cxS F tyl [] [] [(0, S_laws_markBallS_L0 F)] 0) Try.f51 true [V.at (A.sl 0), V.at (A.int .i64 x1)] [⟨true, .rows [K.f .f32, K.f .f32, K.f .f32] x0⟩] = some ⟨V.at (A.int .i64 (Pure.laws_markBallS F x0 x1)), some [⟨true, .rows [K.f .f32, K.f .f32, K.f .f32] (Pure.laws_markBallS_1 F x0 x1)⟩], []⟩ := by
  have h0 : evFn (cxS F tyl [] [] [(0, S_laws_markBallS_L0 F)] 0) Try.f51 true [V.at (A.sl 0), V.at (A.int .i64 x1)] [⟨true, .rows [K.f .f32, K.f .f32, K.f .f32] x0⟩] = bif Prod.fst (Pure.laws_markBallS_L0 F (Nat.succ (x0.length + 0)) x1 0 x0) then some ⟨V.at (A.int .i64 (Prod.fst (Prod.snd (Pure.laws_markBallS_L0 F (Nat.succ (x0.length + 0)) x1 0 x0)))), some [⟨true, .rows [K.f .f32, K.f .f32, K.f .f32] (Prod.snd (Prod.snd (Pure.laws_markBallS_L0 F (Nat.succ (x0.length + 0)) x1 0 x0)))⟩], []⟩ else none := by kernel_rfl
  rw [h0]
  unfold Pure.laws_markBallS Pure.laws_markBallS_1 Pure.laws_markBallS_ok
  cases (Prod.fst (Pure.laws_markBallS_L0 F (Nat.succ (x0.length + 0)) x1 0 x0)) with
  | true =>
    intro _; rfl
  | false =>
    intro h; exact absurd h Bool.false_ne_true
theorem ok_laws_markBallS : CallOK Try.prog 51 (c_laws_markBallS real) := by
  refine callOK_of fun args h ret hc => ?_
  unfold c_laws_markBallS at hc
  split at hc
  · rename_i x1 x0
    obtain ⟨hok, rfl⟩ := some_ret hc
    exact holdsE_ev prog_ok allOK_nil Try.func51 rfl rfl (smL_cons (body := .loop (loopB 0 (codeOf Try.f51))) (by kernel_rfl) t_laws_markBallS_L0 smL_nil) (e_laws_markBallS real x0 x1 hok)
  · cases hc
def Pure.laws_markRow_ok (F : FOps) (x0 : List (List Int)) (x1 x2 : Int) : Bool := Pure.laws_markBallS_ok F x0 x2
def c_laws_markRow (F : FOps) : Con
  | [V.agg [A.sl 0, A.fl .f32 x1], V.at (A.int .i64 x2)], [⟨true, .rows [K.f .f32, K.f .f32, K.f .f32] x0⟩] => some (Pure.laws_markRow_ok F x0 x1 x2, ⟨V.at (A.int .i64 (Pure.laws_markBallS F x0 x2)), some [⟨true, .rows [K.f .f32, K.f .f32, K.f .f32] (Pure.laws_markBallS_1 F x0 x2)⟩], []⟩)
  | _, _ => none
theorem e_laws_markRow (F : FOps) (x0 : List (List Int)) (x1 x2 : Int) : Pure.laws_markRow_ok F x0 x1 x2 = true → evFn (cxS F tyl [(51, c_laws_markBallS F)] [51] [] 0) Try.f17 true [V.agg [A.sl 0, A.fl .f32 x1], V.at (A.int .i64 x2)] [⟨true, .rows [K.f .f32, K.f .f32, K.f .f32] x0⟩] = some ⟨V.at (A.int .i64 (Pure.laws_markBallS F x0 x2)), some [⟨true, .rows [K.f .f32, K.f .f32, K.f .f32] (Pure.laws_markBallS_1 F x0 x2)⟩], []⟩ := by
  have h0 : evFn (cxS F tyl [(51, c_laws_markBallS F)] [51] [] 0) Try.f17 true [V.agg [A.sl 0, A.fl .f32 x1], V.at (A.int .i64 x2)] [⟨true, .rows [K.f .f32, K.f .f32, K.f .f32] x0⟩] = bif Pure.laws_markBallS_ok F x0 x2 then some ⟨V.at (A.int .i64 (Pure.laws_markBallS F x0 x2)), some [⟨true, .rows [K.f .f32, K.f .f32, K.f .f32] (Pure.laws_markBallS_1 F x0 x2)⟩], []⟩ else none := by kernel_rfl
  rw [h0]
  unfold Pure.laws_markRow_ok
  cases (Pure.laws_markBallS_ok F x0 x2) with
  | true =>
    intro _; rfl
  | false =>
    intro h; exact absurd h Bool.false_ne_true
theorem ok_laws_markRow : CallOK Try.prog 17 (c_laws_markRow real) := by
  refine callOK_of fun args h ret hc => ?_
  unfold c_laws_markRow at hc
  split at hc
  · rename_i x1 x2 x0
    obtain ⟨hok, rfl⟩ := some_ret hc
    exact holdsE_ev prog_ok (allOK_cons ok_laws_markBallS allOK_nil) Try.func17 rfl rfl smL_nil (e_laws_markRow real x0 x1 x2 hok)
  · cases hc
def Pure.laws_heldBallS_L0 (F : FOps) (y2 : List (List Int)) : Nat → Int → Int → (Bool × Bool × Int × Int)
  | 0, _, _ => (false, false, 0, 0)
  | n + 1, y0, y1 => bif (decide (y1 < (Int.ofNat y2.length))) then (bif (decide (0 ≤ y1)) then (bif (decide (y1 < (Int.ofNat y2.length))) then (bif (F.cmp .neq .f32 ((y2.getD y1.toNat []).getD 0 0) (F.ofInt .f32 y0)) then ((true, true, 0, y0)) else (bif (decide (0 ≤ y1)) then (bif (decide (y1 < (Int.ofNat y2.length))) then (bif (F.cmp .neq .f32 ((y2.getD y1.toNat []).getD 1 0) (F.ofInt .f32 (IntKind.wrap .i64 (y0 + 1)))) then ((true, true, 0, IntKind.wrap .i64 (y0 + 1))) else (bif (decide (0 ≤ y1)) then (bif (decide (y1 < (Int.ofNat y2.length))) then (bif (F.cmp .neq .f32 ((y2.getD y1.toNat []).getD 2 0) (F.ofInt .f32 (IntKind.wrap .i64 ((IntKind.wrap .i64 (y0 + 1)) + 1)))) then ((true, true, 0, IntKind.wrap .i64 ((IntKind.wrap .i64 (y0 + 1)) + 1))) else (Pure.laws_heldBallS_L0 F y2 n (IntKind.wrap .i64 ((IntKind.wrap .i64 ((IntKind.wrap .i64 (y0 + 1)) + 1)) + 1)) (IntKind.wrap .i64 (y1 + 1)))) else ((false, false, 0, 0))) else ((false, false, 0, 0)))) else ((false, false, 0, 0))) else ((false, false, 0, 0)))) else ((false, false, 0, 0))) else ((false, false, 0, 0))) else ((true, false, y0, 0))
def R_laws_heldBallS_L0 (y2 : List (List Int)) (r : (Bool × Bool × Int × Int)) : Bool × Ends := ((r).1, .two (r).2.1 (.one Ex.normal [V.at (A.int .i64 (r).2.2.1), V.at A.undef] [⟨false, .rows [K.f .f32, K.f .f32, K.f .f32] y2⟩]) (.one Ex.ret [V.at (A.int .i64 (r).2.2.2), V.at (A.int .i64 (-1))] [⟨false, .rows [K.f .f32, K.f .f32, K.f .f32] y2⟩]))
def S_laws_heldBallS_L0 (F : FOps) : Sm := ⟨[0, 1, 5], [23, 3, 3], [1, 4], fun vals hp => match vals, hp with
  | [V.at (A.sl 0), V.at (A.int .i64 y0), V.at (A.int .i64 y1)], [⟨false, .rows [K.f .f32, K.f .f32, K.f .f32] y2⟩] => some (R_laws_heldBallS_L0 y2 (Pure.laws_heldBallS_L0 F y2 ((Int.ofNat y2.length) - y1 + 1).toNat y0 y1))
  | _, _ => none⟩
theorem l_laws_heldBallS_L0 (F : FOps) (y2 : List (List Int)) : ∀ (fuel : Nat) (y0 y1 : Int), (Pure.laws_heldBallS_L0 F y2 fuel y0 y1).1 = true → loopOf (cxS F tyl [] [] [] 0) 1 43 0 [0, 1, 5] [23, 3, 3] [1, 4] (loopB 0 (codeOf Try.f52)) fuel [V.at (A.sl 0), V.at (A.int .i64 y0), V.at (A.int .i64 y1)] [⟨false, .rows [K.f .f32, K.f .f32, K.f .f32] y2⟩] = resOf (R_laws_heldBallS_L0 y2 (Pure.laws_heldBallS_L0 F y2 fuel y0 y1)) := by
  intro fuel
  induction fuel with
  | zero => intro y0 y1 h; exact absurd h Bool.false_ne_true
  | succ n ih =>
    intro y0 y1
    have h0 : roundOf (cxS F tyl [] [] [] 0) 1 43 0 [0, 1, 5] [23, 3, 3] [1, 4] (loopB 0 (codeOf Try.f52)) [V.at (A.sl 0), V.at (A.int .i64 y0), V.at (A.int .i64 y1)] [⟨false, .rows [K.f .f32, K.f .f32, K.f .f32] y2⟩] = (bif decide (y1 < (Int.ofNat y2.length)) then bif decide (0 ≤ y1) then bif decide (y1 < (Int.ofNat y2.length)) then bif F.cmp .neq .f32 ((y2.getD y1.toNat []).getD 0 0) (F.ofInt .f32 y0) then some (false, (Ex.ret, ([V.at (A.int .i64 y0), V.at (A.int .i64 (-1))], [⟨false, .rows [K.f .f32, K.f .f32, K.f .f32] y2⟩]))) else bif decide (0 ≤ y1) then bif decide (y1 < (Int.ofNat y2.length)) then bif F.cmp .neq .f32 ((y2.getD y1.toNat []).getD 1 0) (F.ofInt .f32 (IntKind.wrap .i64 (y0 + 1))) then some (false, (Ex.ret, ([V.at (A.int .i64 (IntKind.wrap .i64 (y0 + 1))), V.at (A.int .i64 (-1))], [⟨false, .rows [K.f .f32, K.f .f32, K.f .f32] y2⟩]))) else bif decide (0 ≤ y1) then bif decide (y1 < (Int.ofNat y2.length)) then bif F.cmp .neq .f32 ((y2.getD y1.toNat []).getD 2 0) (F.ofInt .f32 (IntKind.wrap .i64 ((IntKind.wrap .i64 (y0 + 1)) + 1))) then some (false, (Ex.ret, ([V.at (A.int .i64 (IntKind.wrap .i64 ((IntKind.wrap .i64 (y0 + 1)) + 1))), V.at (A.int .i64 (-1))], [⟨false, .rows [K.f .f32, K.f .f32, K.f .f32] y2⟩]))) else some (true, (Ex.normal, ([V.at (A.sl 0), V.at (A.int .i64 (IntKind.wrap .i64 ((IntKind.wrap .i64 ((IntKind.wrap .i64 (y0 + 1)) + 1)) + 1))), V.at (A.int .i64 (IntKind.wrap .i64 (y1 + 1)))], [⟨false, .rows [K.f .f32, K.f .f32, K.f .f32] y2⟩]))) else none else none else none else none else none else none else some (false, (Ex.normal, ([V.at (A.int .i64 y0), V.at A.undef], [⟨false, .rows [K.f .f32, K.f .f32, K.f .f32] y2⟩])))) := by kernel_rfl
    unfold loopOf
    rw [h0]
    unfold Pure.laws_heldBallS_L0
    cases (decide (y1 < (Int.ofNat y2.length))) with
    | true =>
      cases (decide (0 ≤ y1)) with
      | true =>
        cases (F.cmp .neq .f32 ((y2.getD y1.toNat []).getD 0 0) (F.ofInt .f32 y0)) with
        | true =>
          intro _; rfl
        | false =>
          cases (F.cmp .neq .f32 ((y2.getD y1.toNat []).getD 1 0) (F.ofInt .f32 (IntKind.wrap .i64 (y0 + 1)))) with
          | true =>
            intro _; rfl
          | false =>
            cases (F.cmp .neq .f32 ((y2.getD y1.toNat []).getD 2 0) (F.ofInt .f32 (IntKind.wrap .i64 ((IntKind.wrap .i64 (y0 + 1)) + 1)))) with
            | true =>
              intro _; rfl
            | false =>
              exact ih _ _
      | false =>
        intro h; exact absurd h Bool.false_ne_true
    | false =>
      intro _; rfl
theorem t_laws_heldBallS_L0 : SmTo Try.prog 1 43 (S_laws_heldBallS_L0 real) 0 (.loop (loopB 0 (codeOf Try.f52))) := by
  refine smTo_ev (cl := []) (ef := []) (sm := []) (un := 0) prog_ok allOK_nil smL_nil ?_
  intro vals hp q r h hq
  unfold S_laws_heldBallS_L0 at h
  dsimp only at h
  split at h
  · rename_i y0 y1 y2
    obtain rfl := Option.some.inj h
    have h1 := hq
    unfold resOf at h1
    rw [chk_some] at h1
    exact ⟨_, (l_laws_heldBallS_L0 real y2 _ y0 y1 h1.1).trans hq⟩
  · cases h
def Pure.laws_heldBallS (F : FOps) (x0 : List (List Int)) (x1 : Int) : Int := bif Prod.fst (Prod.snd (Pure.laws_heldBallS_L0 F x0 (Nat.succ (x0.length + 0)) x1 0)) then (-1) else Prod.fst (Prod.snd (Prod.snd (Pure.laws_heldBallS_L0 F x0 (Nat.succ (x0.length + 0)) x1 0)))
def Pure.laws_heldBallS_ok (F : FOps) (x0 : List (List Int)) (x1 : Int) : Bool := Prod.fst (Pure.laws_heldBallS_L0 F x0 (Nat.succ (x0.length + 0)) x1 0)
def c_laws_heldBallS (F : FOps) : Con
  | [V.at (A.sl 0), V.at (A.int .i64 x1)], [⟨false, .rows [K.f .f32, K.f .f32, K.f .f32] x0⟩] => some (Pure.laws_heldBallS_ok F x0 x1, ⟨V.at (A.int .i64 (Pure.laws_heldBallS F x0 x1)), none, []⟩)
  | _, _ => none
theorem e_laws_heldBallS (F : FOps) (x0 : List (List Int)) (x1 : Int) : Pure.laws_heldBallS_ok F x0 x1 = true → evFn (cxS F tyl [] [] [(0, S_laws_heldBallS_L0 F)] 0) Try.f52 false [V.at (A.sl 0), V.at (A.int .i64 x1)] [⟨false, .rows [K.f .f32, K.f .f32, K.f .f32] x0⟩] = some ⟨V.at (A.int .i64 (Pure.laws_heldBallS F x0 x1)), none, []⟩ := by
  have h0 : evFn (cxS F tyl [] [] [(0, S_laws_heldBallS_L0 F)] 0) Try.f52 false [V.at (A.sl 0), V.at (A.int .i64 x1)] [⟨false, .rows [K.f .f32, K.f .f32, K.f .f32] x0⟩] = bif Prod.fst (Pure.laws_heldBallS_L0 F x0 (Nat.succ (x0.length + 0)) x1 0) then bif Prod.fst (Prod.snd (Pure.laws_heldBallS_L0 F x0 (Nat.succ (x0.length + 0)) x1 0)) then some ⟨V.at (A.int .i64 (-1)), none, []⟩ else some ⟨V.at (A.int .i64 (Prod.fst (Prod.snd (Prod.snd (Pure.laws_heldBallS_L0 F x0 (Nat.succ (x0.length + 0)) x1 0))))), none, []⟩ else none := by kernel_rfl
  rw [h0]
  unfold Pure.laws_heldBallS Pure.laws_heldBallS_ok
  cases (Prod.fst (Pure.laws_heldBallS_L0 F x0 (Nat.succ (x0.length + 0)) x1 0)) with
  | true =>
    cases (Prod.fst (Prod.snd (Pure.laws_heldBallS_L0 F x0 (Nat.succ (x0.length + 0)) x1 0))) with
    | true =>
      intro _; rfl
    | false =>
      intro _; rfl
  | false =>
    intro h; exact absurd h Bool.false_ne_true
theorem ok_laws_heldBallS : CallOK Try.prog 52 (c_laws_heldBallS real) := by
  refine callOK_of fun args h ret hc => ?_
  unfold c_laws_heldBallS at hc
  split at hc
  · rename_i x1 x0
    obtain ⟨hok, rfl⟩ := some_ret hc
    exact holds_ev prog_ok allOK_nil Try.func52 rfl rfl (smL_cons (body := .loop (loopB 0 (codeOf Try.f52))) (by kernel_rfl) t_laws_heldBallS_L0 smL_nil) rfl (e_laws_heldBallS real x0 x1 hok)
  · cases hc
def Pure.laws_heldRow (F : FOps) (x0 : List (List Int)) (x1 x2 : Int) : Int := bif decide ((Pure.laws_heldBallS F x0 x2) < 0) then (-1) else Pure.laws_heldBallS F x0 x2
def Pure.laws_heldRow_ok (F : FOps) (x0 : List (List Int)) (x1 x2 : Int) : Bool := Pure.laws_heldBallS_ok F x0 x2
def c_laws_heldRow (F : FOps) : Con
  | [V.agg [A.sl 0, A.fl .f32 x1], V.at (A.int .i64 x2)], [⟨false, .rows [K.f .f32, K.f .f32, K.f .f32] x0⟩] => some (Pure.laws_heldRow_ok F x0 x1 x2, ⟨V.at (A.int .i64 (Pure.laws_heldRow F x0 x1 x2)), none, []⟩)
  | _, _ => none
theorem e_laws_heldRow (F : FOps) (x0 : List (List Int)) (x1 x2 : Int) : Pure.laws_heldRow_ok F x0 x1 x2 = true → evFn (cxS F tyl [(52, c_laws_heldBallS F)] [] [] 0) Try.f18 false [V.agg [A.sl 0, A.fl .f32 x1], V.at (A.int .i64 x2)] [⟨false, .rows [K.f .f32, K.f .f32, K.f .f32] x0⟩] = some ⟨V.at (A.int .i64 (Pure.laws_heldRow F x0 x1 x2)), none, []⟩ := by
  have h0 : evFn (cxS F tyl [(52, c_laws_heldBallS F)] [] [] 0) Try.f18 false [V.agg [A.sl 0, A.fl .f32 x1], V.at (A.int .i64 x2)] [⟨false, .rows [K.f .f32, K.f .f32, K.f .f32] x0⟩] = bif Pure.laws_heldBallS_ok F x0 x2 then bif decide ((Pure.laws_heldBallS F x0 x2) < 0) then some ⟨V.at (A.int .i64 (-1)), none, []⟩ else some ⟨V.at (A.int .i64 (Pure.laws_heldBallS F x0 x2)), none, []⟩ else none := by kernel_rfl
  rw [h0]
  unfold Pure.laws_heldRow Pure.laws_heldRow_ok
  cases (Pure.laws_heldBallS_ok F x0 x2) with
  | true =>
    cases (decide ((Pure.laws_heldBallS F x0 x2) < 0)) with
    | true =>
      intro _; rfl
    | false =>
      intro _; rfl
  | false =>
    intro h; exact absurd h Bool.false_ne_true
theorem ok_laws_heldRow : CallOK Try.prog 18 (c_laws_heldRow real) := by
  refine callOK_of fun args h ret hc => ?_
  unfold c_laws_heldRow at hc
  split at hc
  · rename_i x1 x2 x0
    obtain ⟨hok, rfl⟩ := some_ret hc
    exact holds_ev prog_ok (allOK_cons ok_laws_heldBallS allOK_nil) Try.func18 rfl rfl smL_nil rfl (e_laws_heldRow real x0 x1 x2 hok)
  · cases hc
def Pure.laws_FnExactMeetBalls (F : FOps) (x0 : List (List Int)) (x1 x2 : Int) : Bool := bif decide ((Pure.laws_szRow F x0 x1 1048576) < 0) then true else bif Pure.laws_eqRow F (Pure.impl_changedRow_meet_2 F (Pure.laws_toBallS F x0) x1 x2) (Pure.impl_changedRow_meet F (Pure.laws_toBallS F x0) x1 x2) (Pure.spec_MeetBalls_2 F (Pure.laws_toBallS F x0) x1 x2) (Pure.spec_MeetBalls F (Pure.laws_toBallS F x0) x1 x2) then bif (Pure.impl_changedRow_meet_1 F (Pure.laws_toBallS F x0) x1 x2) == (Pure.spec_MeetBalls_1 F (Pure.laws_toBallS F x0) x1 x2) then bif Pure.laws_eqRow F (Pure.laws_toBallS F x0) x1 (Pure.laws_toBallS F x0) x1 then bif decide ((Pure.laws_markBallS F (Pure.laws_toBallS F x0) 1) < 0) then false else bif decide ((Pure.laws_heldRow F (Pure.laws_markBallS_1 F (Pure.impl_changedRow_meet_2 F (Pure.laws_toBallS F x0) x1 x2) 1) (Pure.impl_changedRow_meet F (Pure.laws_toBallS F x0) x1 x2) 1) < 0) then false else bif (Pure.laws_heldRow F (Pure.laws_markBallS_1 F (Pure.impl_changedRow_meet_2 F (Pure.laws_toBallS F x0) x1 x2) 1) (Pure.impl_changedRow_meet F (Pure.laws_toBallS F x0) x1 x2) 1) != (Pure.laws_markBallS F (Pure.impl_changedRow_meet_2 F (Pure.laws_toBallS F x0) x1 x2) 1) then false else true else false else false else false
def Pure.laws_FnExactMeetBalls_ok (F : FOps) (x0 : List (List Int)) (x1 x2 : Int) : Bool := bif decide ((Pure.laws_szRow F x0 x1 1048576) < 0) then true else bif Pure.laws_toRow_ok F x0 x1 then bif Pure.spec_MeetBalls_ok F (Pure.laws_toBallS F x0) x1 x2 then bif Pure.impl_MeetBalls_ok F (Pure.laws_toBallS F x0) x1 x2 then bif Pure.laws_eqRow_ok F (Pure.impl_changedRow_meet_2 F (Pure.laws_toBallS F x0) x1 x2) (Pure.impl_changedRow_meet F (Pure.laws_toBallS F x0) x1 x2) (Pure.spec_MeetBalls_2 F (Pure.laws_toBallS F x0) x1 x2) (Pure.spec_MeetBalls F (Pure.laws_toBallS F x0) x1 x2) then bif Pure.laws_eqRow F (Pure.impl_changedRow_meet_2 F (Pure.laws_toBallS F x0) x1 x2) (Pure.impl_changedRow_meet F (Pure.laws_toBallS F x0) x1 x2) (Pure.spec_MeetBalls_2 F (Pure.laws_toBallS F x0) x1 x2) (Pure.spec_MeetBalls F (Pure.laws_toBallS F x0) x1 x2) then bif (Pure.impl_changedRow_meet_1 F (Pure.laws_toBallS F x0) x1 x2) == (Pure.spec_MeetBalls_1 F (Pure.laws_toBallS F x0) x1 x2) then bif Pure.laws_eqRow_ok F (Pure.laws_toBallS F x0) x1 (Pure.laws_toBallS F x0) x1 then bif Pure.laws_eqRow F (Pure.laws_toBallS F x0) x1 (Pure.laws_toBallS F x0) x1 then bif Pure.laws_markRow_ok F (Pure.laws_toBallS F x0) x1 1 then bif decide ((Pure.laws_markBallS F (Pure.laws_toBallS F x0) 1) < 0) then true else bif Pure.laws_markRow_ok F (Pure.impl_changedRow_meet_2 F (Pure.laws_toBallS F x0) x1 x2) (Pure.impl_changedRow_meet F (Pure.laws_toBallS F x0) x1 x2) 1 then Pure.laws_heldRow_ok F (Pure.laws_markBallS_1 F (Pure.impl_changedRow_meet_2 F (Pure.laws_toBallS F x0) x1 x2) 1) (Pure.impl_changedRow_meet F (Pure.laws_toBallS F x0) x1 x2) 1 else false else false else true else false else true else true else false else false else false else false
def c_laws_FnExactMeetBalls (F : FOps) : Con
  | [V.agg [A.sl 0, A.fl .f32 x1], V.at (A.int .i64 x2)], [⟨false, .rows [K.f .f32, K.f .f32, K.f .f32] x0⟩] => some (Pure.laws_FnExactMeetBalls_ok F x0 x1 x2, ⟨V.at (A.bool (Pure.laws_FnExactMeetBalls F x0 x1 x2)), none, []⟩)
  | _, _ => none
theorem e_laws_FnExactMeetBalls (F : FOps) (x0 : List (List Int)) (x1 x2 : Int) : Pure.laws_FnExactMeetBalls_ok F x0 x1 x2 = true → evFn (cxS F tyl [(19, c_laws_szRow F), (21, c_laws_toRow F), (44, c_spec_MeetBalls F), (45, c_impl_MeetBalls F), (16, c_laws_eqRow F), (17, c_laws_markRow F), (18, c_laws_heldRow F)] [17] [] 0) Try.f13 false [V.agg [A.sl 0, A.fl .f32 x1], V.at (A.int .i64 x2)] [⟨false, .rows [K.f .f32, K.f .f32, K.f .f32] x0⟩] = some ⟨V.at (A.bool (Pure.laws_FnExactMeetBalls F x0 x1 x2)), none, []⟩ := by
  have h0 : evFn (cxS F tyl [(19, c_laws_szRow F), (21, c_laws_toRow F), (44, c_spec_MeetBalls F), (45, c_impl_MeetBalls F), (16, c_laws_eqRow F), (17, c_laws_markRow F), (18, c_laws_heldRow F)] [17] [] 0) Try.f13 false [V.agg [A.sl 0, A.fl .f32 x1], V.at (A.int .i64 x2)] [⟨false, .rows [K.f .f32, K.f .f32, K.f .f32] x0⟩] = bif decide ((Pure.laws_szRow F x0 x1 1048576) < 0) then some ⟨V.at (A.bool true), none, []⟩ else bif Pure.laws_toRow_ok F x0 x1 then bif Pure.spec_MeetBalls_ok F (Pure.laws_toBallS F x0) x1 x2 then bif Pure.laws_toRow_ok F x0 x1 then bif Pure.impl_MeetBalls_ok F (Pure.laws_toBallS F x0) x1 x2 then bif Pure.laws_eqRow_ok F (Pure.impl_changedRow_meet_2 F (Pure.laws_toBallS F x0) x1 x2) (Pure.impl_changedRow_meet F (Pure.laws_toBallS F x0) x1 x2) (Pure.spec_MeetBalls_2 F (Pure.laws_toBallS F x0) x1 x2) (Pure.spec_MeetBalls F (Pure.laws_toBallS F x0) x1 x2) then bif Bool.not (Pure.laws_eqRow F (Pure.impl_changedRow_meet_2 F (Pure.laws_toBallS F x0) x1 x2) (Pure.impl_changedRow_meet F (Pure.laws_toBallS F x0) x1 x2) (Pure.spec_MeetBalls_2 F (Pure.laws_toBallS F x0) x1 x2) (Pure.spec_MeetBalls F (Pure.laws_toBallS F x0) x1 x2)) then some ⟨V.at (A.bool false), none, []⟩ else bif Bool.not ((Pure.impl_changedRow_meet_1 F (Pure.laws_toBallS F x0) x1 x2) == (Pure.spec_MeetBalls_1 F (Pure.laws_toBallS F x0) x1 x2)) then some ⟨V.at (A.bool false), none, []⟩ else bif Pure.laws_toRow_ok F x0 x1 then bif Pure.laws_eqRow_ok F (Pure.laws_toBallS F x0) x1 (Pure.laws_toBallS F x0) x1 then bif Bool.not (Pure.laws_eqRow F (Pure.laws_toBallS F x0) x1 (Pure.laws_toBallS F x0) x1) then some ⟨V.at (A.bool false), none, []⟩ else bif Pure.laws_markRow_ok F (Pure.laws_toBallS F x0) x1 1 then bif decide ((Pure.laws_markBallS F (Pure.laws_toBallS F x0) 1) < 0) then some ⟨V.at (A.bool false), none, []⟩ else bif Pure.laws_eqRow_ok F (Pure.impl_changedRow_meet_2 F (Pure.laws_toBallS F x0) x1 x2) (Pure.impl_changedRow_meet F (Pure.laws_toBallS F x0) x1 x2) (Pure.spec_MeetBalls_2 F (Pure.laws_toBallS F x0) x1 x2) (Pure.spec_MeetBalls F (Pure.laws_toBallS F x0) x1 x2) then bif Bool.not (Pure.laws_eqRow F (Pure.impl_changedRow_meet_2 F (Pure.laws_toBallS F x0) x1 x2) (Pure.impl_changedRow_meet F (Pure.laws_toBallS F x0) x1 x2) (Pure.spec_MeetBalls_2 F (Pure.laws_toBallS F x0) x1 x2) (Pure.spec_MeetBalls F (Pure.laws_toBallS F x0) x1 x2)) then some ⟨V.at (A.bool false), none, []⟩ else bif Bool.not ((Pure.impl_changedRow_meet_1 F (Pure.laws_toBallS F x0) x1 x2) == (Pure.spec_MeetBalls_1 F (Pure.laws_toBallS F x0) x1 x2)) then some ⟨V.at (A.bool false), none, []⟩ else bif Pure.laws_markRow_ok F (Pure.impl_changedRow_meet_2 F (Pure.laws_toBallS F x0) x1 x2) (Pure.impl_changedRow_meet F (Pure.laws_toBallS F x0) x1 x2) 1 then bif Pure.laws_heldRow_ok F (Pure.laws_markBallS_1 F (Pure.impl_changedRow_meet_2 F (Pure.laws_toBallS F x0) x1 x2) 1) (Pure.impl_changedRow_meet F (Pure.laws_toBallS F x0) x1 x2) 1 then bif decide ((Pure.laws_heldRow F (Pure.laws_markBallS_1 F (Pure.impl_changedRow_meet_2 F (Pure.laws_toBallS F x0) x1 x2) 1) (Pure.impl_changedRow_meet F (Pure.laws_toBallS F x0) x1 x2) 1) < 0) then some ⟨V.at (A.bool false), none, []⟩ else bif (Pure.laws_heldRow F (Pure.laws_markBallS_1 F (Pure.impl_changedRow_meet_2 F (Pure.laws_toBallS F x0) x1 x2) 1) (Pure.impl_changedRow_meet F (Pure.laws_toBallS F x0) x1 x2) 1) != (Pure.laws_markBallS F (Pure.impl_changedRow_meet_2 F (Pure.laws_toBallS F x0) x1 x2) 1) then some ⟨V.at (A.bool false), none, []⟩ else bif Pure.laws_toRow_ok F x0 x1 then bif Pure.impl_MeetBalls_ok F (Pure.laws_toBallS F x0) x1 x2 then bif Pure.laws_eqRow_ok F (Pure.impl_changedRow_meet_2 F (Pure.laws_toBallS F x0) x1 x2) (Pure.impl_changedRow_meet F (Pure.laws_toBallS F x0) x1 x2) (Pure.spec_MeetBalls_2 F (Pure.laws_toBallS F x0) x1 x2) (Pure.spec_MeetBalls F (Pure.laws_toBallS F x0) x1 x2) then bif Bool.not (Pure.laws_eqRow F (Pure.impl_changedRow_meet_2 F (Pure.laws_toBallS F x0) x1 x2) (Pure.impl_changedRow_meet F (Pure.laws_toBallS F x0) x1 x2) (Pure.spec_MeetBalls_2 F (Pure.laws_toBallS F x0) x1 x2) (Pure.spec_MeetBalls F (Pure.laws_toBallS F x0) x1 x2)) then some ⟨V.at (A.bool false), none, []⟩ else bif Bool.not ((Pure.impl_changedRow_meet_1 F (Pure.laws_toBallS F x0) x1 x2) == (Pure.spec_MeetBalls_1 F (Pure.laws_toBallS F x0) x1 x2)) then some ⟨V.at (A.bool false), none, []⟩ else bif Pure.laws_heldRow_ok F (Pure.laws_markBallS_1 F (Pure.impl_changedRow_meet_2 F (Pure.laws_toBallS F x0) x1 x2) 1) (Pure.impl_changedRow_meet F (Pure.laws_toBallS F x0) x1 x2) 1 then bif decide ((Pure.laws_heldRow F (Pure.laws_markBallS_1 F (Pure.impl_changedRow_meet_2 F (Pure.laws_toBallS F x0) x1 x2) 1) (Pure.impl_changedRow_meet F (Pure.laws_toBallS F x0) x1 x2) 1) < 0) then some ⟨V.at (A.bool false), none, []⟩ else bif (Pure.laws_heldRow F (Pure.laws_markBallS_1 F (Pure.impl_changedRow_meet_2 F (Pure.laws_toBallS F x0) x1 x2) 1) (Pure.impl_changedRow_meet F (Pure.laws_toBallS F x0) x1 x2) 1) != (Pure.laws_markBallS F (Pure.impl_changedRow_meet_2 F (Pure.laws_toBallS F x0) x1 x2) 1) then some ⟨V.at (A.bool false), none, []⟩ else some ⟨V.at (A.bool true), none, []⟩ else none else none else none else none else none else none else none else none else none else none else none else none else none else none else none := by kernel_rfl
  rw [h0]
  unfold Pure.laws_FnExactMeetBalls Pure.laws_FnExactMeetBalls_ok
  cases (decide ((Pure.laws_szRow F x0 x1 1048576) < 0)) with
  | true =>
    intro _; rfl
  | false =>
    cases (Pure.laws_toRow_ok F x0 x1) with
    | true =>
      cases (Pure.spec_MeetBalls_ok F (Pure.laws_toBallS F x0) x1 x2) with
      | true =>
        cases (Pure.impl_MeetBalls_ok F (Pure.laws_toBallS F x0) x1 x2) with
        | true =>
          cases (Pure.laws_eqRow_ok F (Pure.impl_changedRow_meet_2 F (Pure.laws_toBallS F x0) x1 x2) (Pure.impl_changedRow_meet F (Pure.laws_toBallS F x0) x1 x2) (Pure.spec_MeetBalls_2 F (Pure.laws_toBallS F x0) x1 x2) (Pure.spec_MeetBalls F (Pure.laws_toBallS F x0) x1 x2)) with
          | true =>
            cases (Pure.laws_eqRow F (Pure.impl_changedRow_meet_2 F (Pure.laws_toBallS F x0) x1 x2) (Pure.impl_changedRow_meet F (Pure.laws_toBallS F x0) x1 x2) (Pure.spec_MeetBalls_2 F (Pure.laws_toBallS F x0) x1 x2) (Pure.spec_MeetBalls F (Pure.laws_toBallS F x0) x1 x2)) with
            | true =>
              cases ((Pure.impl_changedRow_meet_1 F (Pure.laws_toBallS F x0) x1 x2) == (Pure.spec_MeetBalls_1 F (Pure.laws_toBallS F x0) x1 x2)) with
              | true =>
                cases (Pure.laws_eqRow_ok F (Pure.laws_toBallS F x0) x1 (Pure.laws_toBallS F x0) x1) with
                | true =>
                  cases (Pure.laws_eqRow F (Pure.laws_toBallS F x0) x1 (Pure.laws_toBallS F x0) x1) with
                  | true =>
                    cases (Pure.laws_markRow_ok F (Pure.laws_toBallS F x0) x1 1) with
                    | true =>
                      cases (decide ((Pure.laws_markBallS F (Pure.laws_toBallS F x0) 1) < 0)) with
                      | true =>
                        intro _; rfl
                      | false =>
                        cases (Pure.laws_markRow_ok F (Pure.impl_changedRow_meet_2 F (Pure.laws_toBallS F x0) x1 x2) (Pure.impl_changedRow_meet F (Pure.laws_toBallS F x0) x1 x2) 1) with
                        | true =>
                          cases (Pure.laws_heldRow_ok F (Pure.laws_markBallS_1 F (Pure.impl_changedRow_meet_2 F (Pure.laws_toBallS F x0) x1 x2) 1) (Pure.impl_changedRow_meet F (Pure.laws_toBallS F x0) x1 x2) 1) with
                          | true =>
                            cases (decide ((Pure.laws_heldRow F (Pure.laws_markBallS_1 F (Pure.impl_changedRow_meet_2 F (Pure.laws_toBallS F x0) x1 x2) 1) (Pure.impl_changedRow_meet F (Pure.laws_toBallS F x0) x1 x2) 1) < 0)) with
                            | true =>
                              intro _; rfl
                            | false =>
                              cases ((Pure.laws_heldRow F (Pure.laws_markBallS_1 F (Pure.impl_changedRow_meet_2 F (Pure.laws_toBallS F x0) x1 x2) 1) (Pure.impl_changedRow_meet F (Pure.laws_toBallS F x0) x1 x2) 1) != (Pure.laws_markBallS F (Pure.impl_changedRow_meet_2 F (Pure.laws_toBallS F x0) x1 x2) 1)) with
                              | true =>
                                intro _; rfl
                              | false =>
                                intro _; rfl
                          | false =>
                            intro h; exact absurd h Bool.false_ne_true
                        | false =>
                          intro h; exact absurd h Bool.false_ne_true
                    | false =>
                      intro h; exact absurd h Bool.false_ne_true
                  | false =>
                    intro _; rfl
                | false =>
                  intro h; exact absurd h Bool.false_ne_true
              | false =>
                intro _; rfl
            | false =>
              intro _; rfl
          | false =>
            intro h; exact absurd h Bool.false_ne_true
        | false =>
          intro h; exact absurd h Bool.false_ne_true
      | false =>
        intro h; exact absurd h Bool.false_ne_true
    | false =>
      intro h; exact absurd h Bool.false_ne_true
theorem ok_laws_FnExactMeetBalls : CallOK Try.prog 13 (c_laws_FnExactMeetBalls real) := by
  refine callOK_of fun args h ret hc => ?_
  unfold c_laws_FnExactMeetBalls at hc
  split at hc
  · rename_i x1 x2 x0
    obtain ⟨hok, rfl⟩ := some_ret hc
    exact holds_ev prog_ok (allOK_cons ok_laws_szRow (allOK_cons ok_laws_toRow (allOK_cons ok_spec_MeetBalls (allOK_cons ok_impl_MeetBalls (allOK_cons ok_laws_eqRow (allOK_cons ok_laws_markRow (allOK_cons ok_laws_heldRow allOK_nil))))))) Try.func13 rfl rfl smL_nil rfl (e_laws_FnExactMeetBalls real x0 x1 x2 hok)
  · cases hc
end Go.Fx
