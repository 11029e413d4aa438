import Derived.Test.YtpdeekgbdalnaaaXr5a
import Derived.KernelRfl
namespace Go.Fx
open Go.Proofs
set_option maxRecDepth 100000
def Pure.impl_IsFinite (F : FOps) (x0 : Int) : Bool := F.cmp .eql .f32 (F.bin .sub .f32 x0 x0) 0
def c_impl_IsFinite (F : FOps) : Con
  | [V.at (A.fl .f32 x0)], [] => some (true, ⟨V.at (A.bool (Pure.impl_IsFinite F x0)), none, []⟩)
  | _, _ => none
theorem e_impl_IsFinite (F : FOps) (x0 : Int) : evFn (cxS F tyl [] [] [] 0) Try.f62 false [V.at (A.fl .f32 x0)] [] = some ⟨V.at (A.bool (Pure.impl_IsFinite F x0)), none, []⟩ := by
  kernel_rfl
theorem ok_impl_IsFinite : CallOK Try.prog 62 (c_impl_IsFinite real) := by
  refine callOK_of fun args h ret hc => ?_
  unfold c_impl_IsFinite at hc
  split at hc
  · rename_i x0
    obtain ⟨_, rfl⟩ := some_ret hc
    exact holds_ev prog_ok allOK_nil Try.func62 rfl rfl smL_nil rfl (e_impl_IsFinite real x0)
  · cases hc
def Pure.impl_finite_c1 (F : FOps) (x0 : Int) : Bool := bif Pure.impl_IsFinite F x0 then false else true
def c_impl_finite_c1 (F : FOps) : Con
  | [V.at (A.fl .f32 x0)], [] => some (true, ⟨V.at (A.bool (Pure.impl_finite_c1 F x0)), none, []⟩)
  | _, _ => none
theorem e_impl_finite_c1 (F : FOps) (x0 : Int) : evFn (cxS F tyl [(62, c_impl_IsFinite F)] [] [] 0) Try.f104 false [V.at (A.fl .f32 x0)] [] = some ⟨V.at (A.bool (Pure.impl_finite_c1 F x0)), none, []⟩ := by
  kernel_rfl
theorem ok_impl_finite_c1 : CallOK Try.prog 104 (c_impl_finite_c1 real) := by
  refine callOK_of fun args h ret hc => ?_
  unfold c_impl_finite_c1 at hc
  split at hc
  · rename_i x0
    obtain ⟨_, rfl⟩ := some_ret hc
    exact holds_ev prog_ok (allOK_cons ok_impl_IsFinite allOK_nil) Try.func104 rfl rfl smL_nil rfl (e_impl_finite_c1 real x0)
  · cases hc
def Pure.slices_IndexFunc_float32_float32_finite_L0 (F : FOps) (y0 : Int) (y2 : List (List Int)) : Nat → Int → (Bool × Bool × Int)
  | 0, _ => (false, false, 0)
  | n + 1, y1 => bif (decide (y1 < y0)) then (bif (decide (0 ≤ y1)) then (bif (decide (y1 < (Int.ofNat y2.length))) then (bif (Pure.impl_finite_c1 F ((y2.getD y1.toNat []).getD 0 0)) then ((true, true, y1)) else (Pure.slices_IndexFunc_float32_float32_finite_L0 F y0 y2 n (IntKind.wrap .i64 (y1 + 1)))) else ((false, false, 0))) else ((false, false, 0))) else ((true, false, 0))
def R_slices_IndexFunc_float32_float32_finite_L0 (y2 : List (List Int)) (r : (Bool × Bool × Int)) : Bool × Ends := ((r).1, .two (r).2.1 (.one Ex.normal [V.at A.undef] [⟨false, .rows [K.f .f32] y2⟩]) (.one Ex.ret [V.at (A.int .i64 (r).2.2)] [⟨false, .rows [K.f .f32] y2⟩]))
def S_slices_IndexFunc_float32_float32_finite_L0 (F : FOps) : Sm := ⟨[0, 1, 7, 8], [63, 85, 3, 3], [4], fun vals hp => match vals, hp with
  | [V.at (A.sl 0), V.at (A.fn 104 []), V.at (A.int .i64 y0), V.at (A.int .i64 y1)], [⟨false, .rows [K.f .f32] y2⟩] => some (R_slices_IndexFunc_float32_float32_finite_L0 y2 (Pure.slices_IndexFunc_float32_float32_finite_L0 F y0 y2 (y0 - y1 + 1).toNat y1))
  | _, _ => none⟩
theorem l_slices_IndexFunc_float32_float32_finite_L0 (F : FOps) (y0 : Int) (y2 : List (List Int)) : ∀ (fuel : Nat) (y1 : Int), (Pure.slices_IndexFunc_float32_float32_finite_L0 F y0 y2 fuel y1).1 = true → loopOf (cxS F tyl [(104, c_impl_finite_c1 F)] [] [] 0) 1 19 0 [0, 1, 7, 8] [63, 85, 3, 3] [4] (loopB 0 (codeOf Try.f122)) fuel [V.at (A.sl 0), V.at (A.fn 104 []), V.at (A.int .i64 y0), V.at (A.int .i64 y1)] [⟨false, .rows [K.f .f32] y2⟩] = resOf (R_slices_IndexFunc_float32_float32_finite_L0 y2 (Pure.slices_IndexFunc_float32_float32_finite_L0 F y0 y2 fuel y1)) := by
  intro fuel
  induction fuel with
  | zero => intro y1 h; exact absurd h Bool.false_ne_true
  | succ n ih =>
    intro y1
    have h0 : roundOf (cxS F tyl [(104, c_impl_finite_c1 F)] [] [] 0) 1 19 0 [0, 1, 7, 8] [63, 85, 3, 3] [4] (loopB 0 (codeOf Try.f122)) [V.at (A.sl 0), V.at (A.fn 104 []), V.at (A.int .i64 y0), V.at (A.int .i64 y1)] [⟨false, .rows [K.f .f32] y2⟩] = (bif decide (y1 < y0) then bif decide (0 ≤ y1) then bif decide (y1 < (Int.ofNat y2.length)) then bif Pure.impl_finite_c1 F ((y2.getD y1.toNat []).getD 0 0) then some (false, (Ex.ret, ([V.at (A.int .i64 y1)], [⟨false, .rows [K.f .f32] y2⟩]))) else some (true, (Ex.normal, ([V.at (A.sl 0), V.at (A.fn 104 []), V.at (A.int .i64 y0), V.at (A.int .i64 (IntKind.wrap .i64 (y1 + 1)))], [⟨false, .rows [K.f .f32] y2⟩]))) else none else none else some (false, (Ex.normal, ([V.at A.undef], [⟨false, .rows [K.f .f32] y2⟩])))) := by kernel_rfl
    unfold loopOf
    rw [h0]
    unfold Pure.slices_IndexFunc_float32_float32_finite_L0
    cases (decide (y1 < y0)) with
    | true =>
      cases (decide (0 ≤ y1)) with
      | true =>
        cases (decide (y1 < (Int.ofNat y2.length))) with
        | true =>
          cases (Pure.impl_finite_c1 F ((y2.getD y1.toNat []).getD 0 0)) with
          | true =>
            intro _; rfl
          | false =>
            exact ih _
        | false =>
          intro h; exact absurd h Bool.false_ne_true
      | false =>
        intro h; exact absurd h Bool.false_ne_true
    | false =>
      intro _; rfl
theorem t_slices_IndexFunc_float32_float32_finite_L0 : SmTo Try.prog 1 19 (S_slices_IndexFunc_float32_float32_finite_L0 real) 0 (.loop (loopB 0 (codeOf Try.f122))) := by
  refine smTo_ev (cl := [(104, c_impl_finite_c1 real)]) (ef := []) (sm := []) (un := 0) prog_ok (allOK_cons ok_impl_finite_c1 allOK_nil) smL_nil ?_
  intro vals hp q r h hq
  unfold S_slices_IndexFunc_float32_float32_finite_L0 at h
  dsimp only at h
  split at h
  · rename_i y0 y1 y2
    obtain rfl := Option.some.inj h
    have h1 := hq
    unfold resOf at h1
    rw [chk_some] at h1
    exact ⟨_, (l_slices_IndexFunc_float32_float32_finite_L0 real y0 y2 _ y1 h1.1).trans hq⟩
  · cases h
def Pure.slices_IndexFunc_float32_float32_finite (F : FOps) (x0 : List (List Int)) : Int := bif Prod.fst (Prod.snd (Pure.slices_IndexFunc_float32_float32_finite_L0 F (Int.ofNat x0.length) x0 (Nat.succ (x0.length + 0)) 0)) then Prod.snd (Prod.snd (Pure.slices_IndexFunc_float32_float32_finite_L0 F (Int.ofNat x0.length) x0 (Nat.succ (x0.length + 0)) 0)) else (-1)
def Pure.slices_IndexFunc_float32_float32_finite_ok (F : FOps) (x0 : List (List Int)) : Bool := Prod.fst (Pure.slices_IndexFunc_float32_float32_finite_L0 F (Int.ofNat x0.length) x0 (Nat.succ (x0.length + 0)) 0)
def c_slices_IndexFunc_float32_float32_finite (F : FOps) : Con
  | [V.at (A.sl 0), V.at (A.fn 104 [])], [⟨false, .rows [K.f .f32] x0⟩] => some (Pure.slices_IndexFunc_float32_float32_finite_ok F x0, ⟨V.at (A.int .i64 (Pure.slices_IndexFunc_float32_float32_finite F x0)), none, []⟩)
  | _, _ => none
theorem e_slices_IndexFunc_float32_float32_finite (F : FOps) (x0 : List (List Int)) : Pure.slices_IndexFunc_float32_float32_finite_ok F x0 = true → evFn (cxS F tyl [(104, c_impl_finite_c1 F)] [] [(0, S_slices_IndexFunc_float32_float32_finite_L0 F)] 0) Try.f122 false [V.at (A.sl 0), V.at (A.fn 104 [])] [⟨false, .rows [K.f .f32] x0⟩] = some ⟨V.at (A.int .i64 (Pure.slices_IndexFunc_float32_float32_finite F x0)), none, []⟩ := by
  have h0 : evFn (cxS F tyl [(104, c_impl_finite_c1 F)] [] [(0, S_slices_IndexFunc_float32_float32_finite_L0 F)] 0) Try.f122 false [V.at (A.sl 0), V.at (A.fn 104 [])] [⟨false, .rows [K.f .f32] x0⟩] = bif Prod.fst (Pure.slices_IndexFunc_float32_float32_finite_L0 F (Int.ofNat x0.length) x0 (Nat.succ (x0.length + 0)) 0) then bif Prod.fst (Prod.snd (Pure.slices_IndexFunc_float32_float32_finite_L0 F (Int.ofNat x0.length) x0 (Nat.succ (x0.length + 0)) 0)) then some ⟨V.at (A.int .i64 (Prod.snd (Prod.snd (Pure.slices_IndexFunc_float32_float32_finite_L0 F (Int.ofNat x0.length) x0 (Nat.succ (x0.length + 0)) 0)))), none, []⟩ else some ⟨V.at (A.int .i64 (-1)), none, []⟩ else none := by kernel_rfl
  rw [h0]
  unfold Pure.slices_IndexFunc_float32_float32_finite Pure.slices_IndexFunc_float32_float32_finite_ok
  cases (Prod.fst (Pure.slices_IndexFunc_float32_float32_finite_L0 F (Int.ofNat x0.length) x0 (Nat.succ (x0.length + 0)) 0)) with
  | true =>
    cases (Prod.fst (Prod.snd (Pure.slices_IndexFunc_float32_float32_finite_L0 F (Int.ofNat x0.length) x0 (Nat.succ (x0.length + 0)) 0))) with
    | true =>
      intro _; rfl
    | false =>
      intro _; rfl
  | false =>
    intro h; exact absurd h Bool.false_ne_true
theorem ok_slices_IndexFunc_float32_float32_finite : CallOK Try.prog 122 (c_slices_IndexFunc_float32_float32_finite real) := by
  refine callOK_of fun args h ret hc => ?_
  unfold c_slices_IndexFunc_float32_float32_finite at hc
  split at hc
  · rename_i x0
    obtain ⟨hok, rfl⟩ := some_ret hc
    exact holds_ev prog_ok (allOK_cons ok_impl_finite_c1 allOK_nil) Try.func122 rfl rfl (smL_cons (body := .loop (loopB 0 (codeOf Try.f122))) (by kernel_rfl) t_slices_IndexFunc_float32_float32_finite_L0 smL_nil) rfl (e_slices_IndexFunc_float32_float32_finite real x0 hok)
  · cases hc
def Pure.slices_ContainsFunc_float32_float32_finite (F : FOps) (x0 : List (List Int)) : Bool := decide ((Pure.slices_IndexFunc_float32_float32_finite F x0) ≥ 0)
def Pure.slices_ContainsFunc_float32_float32_finite_ok (F : FOps) (x0 : List (List Int)) : Bool := Pure.slices_IndexFunc_float32_float32_finite_ok F x0
def c_slices_ContainsFunc_float32_float32_finite (F : FOps) : Con
  | [V.at (A.sl 0), V.at (A.fn 104 [])], [⟨false, .rows [K.f .f32] x0⟩] => some (Pure.slices_ContainsFunc_float32_float32_finite_ok F x0, ⟨V.at (A.bool (Pure.slices_ContainsFunc_float32_float32_finite F x0)), none, []⟩)
  | _, _ => none
theorem e_slices_ContainsFunc_float32_float32_finite (F : FOps) (x0 : List (List Int)) : Pure.slices_ContainsFunc_float32_float32_finite_ok F x0 = true → evFn (cxS F tyl [(122, c_slices_IndexFunc_float32_float32_finite F), (104, c_impl_finite_c1 F)] [] [] 0) Try.f103 false [V.at (A.sl 0), V.at (A.fn 104 [])] [⟨false, .rows [K.f .f32] x0⟩] = some ⟨V.at (A.bool (Pure.slices_ContainsFunc_float32_float32_finite F x0)), none, []⟩ := by
  have h0 : evFn (cxS F tyl [(122, c_slices_IndexFunc_float32_float32_finite F), (104, c_impl_finite_c1 F)] [] [] 0) Try.f103 false [V.at (A.sl 0), V.at (A.fn 104 [])] [⟨false, .rows [K.f .f32] x0⟩] = bif Pure.slices_IndexFunc_float32_float32_finite_ok F x0 then some ⟨V.at (A.bool (decide ((Pure.slices_IndexFunc_float32_float32_finite F x0) ≥ 0))), none, []⟩ else none := by kernel_rfl
  rw [h0]
  unfold Pure.slices_ContainsFunc_float32_float32_finite Pure.slices_ContainsFunc_float32_float32_finite_ok
  cases (Pure.slices_IndexFunc_float32_float32_finite_ok F x0) with
  | true =>
    intro _; rfl
  | false =>
    intro h; exact absurd h Bool.false_ne_true
theorem ok_slices_ContainsFunc_float32_float32_finite : CallOK Try.prog 103 (c_slices_ContainsFunc_float32_float32_finite real) := by
  refine callOK_of fun args h ret hc => ?_
  unfold c_slices_ContainsFunc_float32_float32_finite at hc
  split at hc
  · rename_i x0
    obtain ⟨hok, rfl⟩ := some_ret hc
    exact holds_ev prog_ok (allOK_cons ok_slices_IndexFunc_float32_float32_finite (allOK_cons ok_impl_finite_c1 allOK_nil)) Try.func103 rfl rfl smL_nil rfl (e_slices_ContainsFunc_float32_float32_finite real x0 hok)
  · cases hc
def Pure.laws_r8Long (F : FOps) (x0 x1 : List (List Int)) : Bool := bif decide ((Int.ofNat x0.length) > 48) then true else decide ((Int.ofNat x1.length) > 48)
def c_laws_r8Long (F : FOps) : Con
  | [V.at (A.sl 0), V.at (A.sl 1)], [⟨false, .rows [K.i .u8] x0⟩, ⟨false, .rows [K.i .u8] x1⟩] => some (true, ⟨V.at (A.bool (Pure.laws_r8Long F x0 x1)), none, []⟩)
  | _, _ => none
theorem e_laws_r8Long (F : FOps) (x0 x1 : List (List Int)) : evFn (cxS F tyl [] [] [] 0) Try.f21 false [V.at (A.sl 0), V.at (A.sl 1)] [⟨false, .rows [K.i .u8] x0⟩, ⟨false, .rows [K.i .u8] x1⟩] = some ⟨V.at (A.bool (Pure.laws_r8Long F x0 x1)), none, []⟩ := by
  have h0 : evFn (cxS F tyl [] [] [] 0) Try.f21 false [V.at (A.sl 0), V.at (A.sl 1)] [⟨false, .rows [K.i .u8] x0⟩, ⟨false, .rows [K.i .u8] x1⟩] = bif decide ((Int.ofNat x0.length) > 48) then some ⟨V.at (A.bool true), none, []⟩ else some ⟨V.at (A.bool (decide ((Int.ofNat x1.length) > 48))), none, []⟩ := by kernel_rfl
  rw [h0]
  unfold Pure.laws_r8Long
  cases (decide ((Int.ofNat x0.length) > 48)) with
  | true =>
    rfl
  | false =>
    rfl
theorem ok_laws_r8Long : CallOK Try.prog 21 (c_laws_r8Long real) := by
  refine callOK_of fun args h ret hc => ?_
  unfold c_laws_r8Long at hc
  split at hc
  · rename_i x0 x1
    obtain ⟨_, rfl⟩ := some_ret hc
    exact holds_ev prog_ok allOK_nil Try.func21 rfl rfl smL_nil rfl (e_laws_r8Long real x0 x1)
  · cases hc
def Pure.laws_r8At (F : FOps) (x0 : List (List Int)) (x1 x2 : Int) : Int := bif decide (x2 ≤ 1) then 0 else bif decide (x1 ≥ (Int.ofNat x0.length)) then 0 else Int.tmod (IntKind.wrap .i64 ((x0.getD x1.toNat []).getD 0 0)) x2
def Pure.laws_r8At_ok (F : FOps) (x0 : List (List Int)) (x1 x2 : Int) : Bool := bif decide (x2 ≤ 1) then true else bif decide (x1 ≥ (Int.ofNat x0.length)) then true else bif decide (0 ≤ x1) then bif decide (x1 < (Int.ofNat x0.length)) then bif x2 == 0 then false else true else false else false
def c_laws_r8At (F : FOps) : Con
  | [V.at (A.sl 0), V.at (A.int .i64 x1), V.at (A.int .i64 x2)], [⟨false, .rows [K.i .u8] x0⟩] => some (Pure.laws_r8At_ok F x0 x1 x2, ⟨V.at (A.int .i64 (Pure.laws_r8At F x0 x1 x2)), none, []⟩)
  | _, _ => none
theorem e_laws_r8At (F : FOps) (x0 : List (List Int)) (x1 x2 : Int) : Pure.laws_r8At_ok F x0 x1 x2 = true → evFn (cxS F tyl [] [] [] 0) Try.f22 false [V.at (A.sl 0), V.at (A.int .i64 x1), V.at (A.int .i64 x2)] [⟨false, .rows [K.i .u8] x0⟩] = some ⟨V.at (A.int .i64 (Pure.laws_r8At F x0 x1 x2)), none, []⟩ := by
  have h0 : evFn (cxS F tyl [] [] [] 0) Try.f22 false [V.at (A.sl 0), V.at (A.int .i64 x1), V.at (A.int .i64 x2)] [⟨false, .rows [K.i .u8] x0⟩] = bif decide (x2 ≤ 1) then some ⟨V.at (A.int .i64 0), none, []⟩ else bif decide (x1 ≥ (Int.ofNat x0.length)) then some ⟨V.at (A.int .i64 0), none, []⟩ else bif decide (0 ≤ x1) then bif decide (x1 < (Int.ofNat x0.length)) then bif Bool.not (x2 == 0) then some ⟨V.at (A.int .i64 (Int.tmod (IntKind.wrap .i64 ((x0.getD x1.toNat []).getD 0 0)) x2)), none, []⟩ else none else none else none := by kernel_rfl
  rw [h0]
  unfold Pure.laws_r8At Pure.laws_r8At_ok
  cases (decide (x2 ≤ 1)) with
  | true =>
    intro _; rfl
  | false =>
    cases (decide (x1 ≥ (Int.ofNat x0.length))) with
    | true =>
      intro _; rfl
    | false =>
      cases (decide (0 ≤ x1)) with
      | true =>
        cases (decide (x1 < (Int.ofNat x0.length))) with
        | true =>
          cases (x2 == 0) with
          | true =>
            intro h; exact absurd h Bool.false_ne_true
          | false =>
            intro _; rfl
        | false =>
          intro h; exact absurd h Bool.false_ne_true
      | false =>
        intro h; exact absurd h Bool.false_ne_true
theorem ok_laws_r8At : CallOK Try.prog 22 (c_laws_r8At real) := by
  refine callOK_of fun args h ret hc => ?_
  unfold c_laws_r8At at hc
  split at hc
  · rename_i x1 x2 x0
    obtain ⟨hok, rfl⟩ := some_ret hc
    exact holds_ev prog_ok allOK_nil Try.func22 rfl rfl smL_nil rfl (e_laws_r8At real x0 x1 x2 hok)
  · cases hc
def Pure.impl_finite (F : FOps) (x0 : List (List Int)) : Bool := bif Pure.slices_ContainsFunc_float32_float32_finite F x0 then false else true
def Pure.impl_finite_ok (F : FOps) (x0 : List (List Int)) : Bool := Pure.slices_ContainsFunc_float32_float32_finite_ok F x0
def c_impl_finite (F : FOps) : Con
  | [V.at (A.sl 0)], [⟨false, .rows [K.f .f32] x0⟩] => some (Pure.impl_finite_ok F x0, ⟨V.at (A.bool (Pure.impl_finite F x0)), none, []⟩)
  | _, _ => none
theorem e_impl_finite (F : FOps) (x0 : List (List Int)) : Pure.impl_finite_ok F x0 = true → evFn (cxS F tyl [(103, c_slices_ContainsFunc_float32_float32_finite F), (104, c_impl_finite_c1 F)] [] [] 0) Try.f70 false [V.at (A.sl 0)] [⟨false, .rows [K.f .f32] x0⟩] = some ⟨V.at (A.bool (Pure.impl_finite F x0)), none, []⟩ := by
  have h0 : evFn (cxS F tyl [(103, c_slices_ContainsFunc_float32_float32_finite F), (104, c_impl_finite_c1 F)] [] [] 0) Try.f70 false [V.at (A.sl 0)] [⟨false, .rows [K.f .f32] x0⟩] = bif Pure.slices_ContainsFunc_float32_float32_finite_ok F x0 then some ⟨V.at (A.bool (bif Pure.slices_ContainsFunc_float32_float32_finite F x0 then false else true)), none, []⟩ else none := by kernel_rfl
  rw [h0]
  unfold Pure.impl_finite Pure.impl_finite_ok
  cases (Pure.slices_ContainsFunc_float32_float32_finite_ok F x0) with
  | true =>
    intro _; rfl
  | false =>
    intro h; exact absurd h Bool.false_ne_true
theorem ok_impl_finite : CallOK Try.prog 70 (c_impl_finite real) := by
  refine callOK_of fun args h ret hc => ?_
  unfold c_impl_finite at hc
  split at hc
  · rename_i x0
    obtain ⟨hok, rfl⟩ := some_ret hc
    exact holds_ev prog_ok (allOK_cons ok_slices_ContainsFunc_float32_float32_finite (allOK_cons ok_impl_finite_c1 allOK_nil)) Try.func70 rfl rfl smL_nil rfl (e_impl_finite real x0 hok)
  · cases hc
def Pure.impl_shareOk (F : FOps) (x0 : Int) : Bool := bif F.cmp .geq .f32 x0 0 then F.cmp .leq .f32 x0 1065353216 else false
def c_impl_shareOk (F : FOps) : Con
  | [V.at (A.fl .f32 x0)], [] => some (true, ⟨V.at (A.bool (Pure.impl_shareOk F x0)), none, []⟩)
  | _, _ => none
theorem e_impl_shareOk (F : FOps) (x0 : Int) : evFn (cxS F tyl [] [] [] 0) Try.f71 false [V.at (A.fl .f32 x0)] [] = some ⟨V.at (A.bool (Pure.impl_shareOk F x0)), none, []⟩ := by
  have h0 : evFn (cxS F tyl [] [] [] 0) Try.f71 false [V.at (A.fl .f32 x0)] [] = bif F.cmp .geq .f32 x0 0 then some ⟨V.at (A.bool (F.cmp .leq .f32 x0 1065353216)), none, []⟩ else some ⟨V.at (A.bool false), none, []⟩ := by kernel_rfl
  rw [h0]
  unfold Pure.impl_shareOk
  cases (F.cmp .geq .f32 x0 0) with
  | true =>
    rfl
  | false =>
    rfl
theorem ok_impl_shareOk : CallOK Try.prog 71 (c_impl_shareOk real) := by
  refine callOK_of fun args h ret hc => ?_
  unfold c_impl_shareOk at hc
  split at hc
  · rename_i x0
    obtain ⟨_, rfl⟩ := some_ret hc
    exact holds_ev prog_ok allOK_nil Try.func71 rfl rfl smL_nil rfl (e_impl_shareOk real x0)
  · cases hc
def Pure.impl_lengthOk (F : FOps) (x0 : Int) : Bool := bif Pure.impl_IsFinite F x0 then F.cmp .gtr .f32 x0 0 else false
def c_impl_lengthOk (F : FOps) : Con
  | [V.at (A.fl .f32 x0)], [] => some (true, ⟨V.at (A.bool (Pure.impl_lengthOk F x0)), none, []⟩)
  | _, _ => none
theorem e_impl_lengthOk (F : FOps) (x0 : Int) : evFn (cxS F tyl [(62, c_impl_IsFinite F)] [] [] 0) Try.f67 false [V.at (A.fl .f32 x0)] [] = some ⟨V.at (A.bool (Pure.impl_lengthOk F x0)), none, []⟩ := by
  have h0 : evFn (cxS F tyl [(62, c_impl_IsFinite F)] [] [] 0) Try.f67 false [V.at (A.fl .f32 x0)] [] = bif Pure.impl_IsFinite F x0 then some ⟨V.at (A.bool (F.cmp .gtr .f32 x0 0)), none, []⟩ else some ⟨V.at (A.bool false), none, []⟩ := by kernel_rfl
  rw [h0]
  unfold Pure.impl_lengthOk
  cases (Pure.impl_IsFinite F x0) with
  | true =>
    rfl
  | false =>
    rfl
theorem ok_impl_lengthOk : CallOK Try.prog 67 (c_impl_lengthOk real) := by
  refine callOK_of fun args h ret hc => ?_
  unfold c_impl_lengthOk at hc
  split at hc
  · rename_i x0
    obtain ⟨_, rfl⟩ := some_ret hc
    exact holds_ev prog_ok (allOK_cons ok_impl_IsFinite allOK_nil) Try.func67 rfl rfl smL_nil rfl (e_impl_lengthOk real x0)
  · cases hc
def Pure.impl_ValidTable (F : FOps) (x0 x1 x2 x3 : Int) : Bool := bif Pure.impl_finite F [[x0], [x1]] then bif Pure.impl_shareOk F x2 then Pure.impl_lengthOk F x3 else false else false
def Pure.impl_ValidTable_ok (F : FOps) (x0 x1 x2 x3 : Int) : Bool := Pure.impl_finite_ok F [[x0], [x1]]
def c_impl_ValidTable (F : FOps) : Con
  | [V.agg [A.fl .f32 x0, A.fl .f32 x1, A.fl .f32 x2, A.fl .f32 x3]], [] => some (Pure.impl_ValidTable_ok F x0 x1 x2 x3, ⟨V.at (A.bool (Pure.impl_ValidTable F x0 x1 x2 x3)), none, []⟩)
  | _, _ => none
theorem e_impl_ValidTable (F : FOps) (x0 x1 x2 x3 : Int) : Pure.impl_ValidTable_ok F x0 x1 x2 x3 = true → evFn (cxS F tyl [(70, c_impl_finite F), (71, c_impl_shareOk F), (67, c_impl_lengthOk F)] [] [] 0) Try.f24 false [V.agg [A.fl .f32 x0, A.fl .f32 x1, A.fl .f32 x2, A.fl .f32 x3]] [] = some ⟨V.at (A.bool (Pure.impl_ValidTable F x0 x1 x2 x3)), none, []⟩ := by
  have h0 : evFn (cxS F tyl [(70, c_impl_finite F), (71, c_impl_shareOk F), (67, c_impl_lengthOk F)] [] [] 0) Try.f24 false [V.agg [A.fl .f32 x0, A.fl .f32 x1, A.fl .f32 x2, A.fl .f32 x3]] [] = bif Pure.impl_finite_ok F [[x0], [x1]] then bif Pure.impl_finite F [[x0], [x1]] then bif Pure.impl_shareOk F x2 then some ⟨V.at (A.bool (Pure.impl_lengthOk F x3)), none, []⟩ else some ⟨V.at (A.bool false), none, []⟩ else some ⟨V.at (A.bool false), none, []⟩ else none := by kernel_rfl
  rw [h0]
  unfold Pure.impl_ValidTable Pure.impl_ValidTable_ok
  cases (Pure.impl_finite_ok F [[x0], [x1]]) with
  | true =>
    cases (Pure.impl_finite F [[x0], [x1]]) with
    | true =>
      cases (Pure.impl_shareOk F x2) with
      | true =>
        intro _; rfl
      | false =>
        intro _; rfl
    | false =>
      intro _; rfl
  | false =>
    intro h; exact absurd h Bool.false_ne_true
theorem ok_impl_ValidTable : CallOK Try.prog 24 (c_impl_ValidTable real) := by
  refine callOK_of fun args h ret hc => ?_
  unfold c_impl_ValidTable at hc
  split at hc
  · rename_i x0 x1 x2 x3
    obtain ⟨hok, rfl⟩ := some_ret hc
    exact holds_ev prog_ok (allOK_cons ok_impl_finite (allOK_cons ok_impl_shareOk (allOK_cons ok_impl_lengthOk allOK_nil))) Try.func24 rfl rfl smL_nil rfl (e_impl_ValidTable real x0 x1 x2 x3 hok)
  · cases hc
def Pure.impl_fallOk (F : FOps) (x0 x1 x2 x3 x4 x5 x6 : Int) : Bool := bif Pure.impl_ValidTable F x0 x1 x2 x3 then Pure.impl_finite F [[x4], [x5], [x6]] else false
def Pure.impl_fallOk_ok (F : FOps) (x0 x1 x2 x3 x4 x5 x6 : Int) : Bool := bif Pure.impl_ValidTable_ok F x0 x1 x2 x3 then bif Pure.impl_ValidTable F x0 x1 x2 x3 then Pure.impl_finite_ok F [[x4], [x5], [x6]] else true else false
def c_impl_fallOk (F : FOps) : Con
  | [V.agg [A.fl .f32 x0, A.fl .f32 x1, A.fl .f32 x2, A.fl .f32 x3], V.agg [A.fl .f32 x4, A.fl .f32 x5, A.fl .f32 x6]], [] => some (Pure.impl_fallOk_ok F x0 x1 x2 x3 x4 x5 x6, ⟨V.at (A.bool (Pure.impl_fallOk F x0 x1 x2 x3 x4 x5 x6)), none, []⟩)
  | _, _ => none
theorem e_impl_fallOk (F : FOps) (x0 x1 x2 x3 x4 x5 x6 : Int) : Pure.impl_fallOk_ok F x0 x1 x2 x3 x4 x5 x6 = true → evFn (cxS F tyl [(24, c_impl_ValidTable F), (70, c_impl_finite F)] [] [] 0) Try.f66 false [V.agg [A.fl .f32 x0, A.fl .f32 x1, A.fl .f32 x2, A.fl .f32 x3], V.agg [A.fl .f32 x4, A.fl .f32 x5, A.fl .f32 x6]] [] = some ⟨V.at (A.bool (Pure.impl_fallOk F x0 x1 x2 x3 x4 x5 x6)), none, []⟩ := by
  have h0 : evFn (cxS F tyl [(24, c_impl_ValidTable F), (70, c_impl_finite F)] [] [] 0) Try.f66 false [V.agg [A.fl .f32 x0, A.fl .f32 x1, A.fl .f32 x2, A.fl .f32 x3], V.agg [A.fl .f32 x4, A.fl .f32 x5, A.fl .f32 x6]] [] = bif Pure.impl_ValidTable_ok F x0 x1 x2 x3 then bif Pure.impl_ValidTable F x0 x1 x2 x3 then bif Pure.impl_finite_ok F [[x4], [x5], [x6]] then some ⟨V.at (A.bool (Pure.impl_finite F [[x4], [x5], [x6]])), none, []⟩ else none else some ⟨V.at (A.bool false), none, []⟩ else none := by kernel_rfl
  rw [h0]
  unfold Pure.impl_fallOk Pure.impl_fallOk_ok
  cases (Pure.impl_ValidTable_ok F x0 x1 x2 x3) with
  | true =>
    cases (Pure.impl_ValidTable F x0 x1 x2 x3) with
    | true =>
      cases (Pure.impl_finite_ok F [[x4], [x5], [x6]]) with
      | true =>
        intro _; rfl
      | false =>
        intro h; exact absurd h Bool.false_ne_true
    | false =>
      intro _; rfl
  | false =>
    intro h; exact absurd h Bool.false_ne_true
theorem ok_impl_fallOk : CallOK Try.prog 66 (c_impl_fallOk real) := by
  refine callOK_of fun args h ret hc => ?_
  unfold c_impl_fallOk at hc
  split at hc
  · rename_i x0 x1 x2 x3 x4 x5 x6
    obtain ⟨hok, rfl⟩ := some_ret hc
    exact holds_ev prog_ok (allOK_cons ok_impl_ValidTable (allOK_cons ok_impl_finite allOK_nil)) Try.func66 rfl rfl smL_nil rfl (e_impl_fallOk real x0 x1 x2 x3 x4 x5 x6 hok)
  · cases hc
def Pure.impl_in (F : FOps) (x0 x1 x2 : Int) : Bool := bif decide (x0 ≥ x1) then decide (x0 ≤ x2) else false
def c_impl_in (F : FOps) : Con
  | [V.at (A.int .i64 x0), V.at (A.int .i64 x1), V.at (A.int .i64 x2)], [] => some (true, ⟨V.at (A.bool (Pure.impl_in F x0 x1 x2)), none, []⟩)
  | _, _ => none
theorem e_impl_in (F : FOps) (x0 x1 x2 : Int) : evFn (cxS F tyl [] [] [] 0) Try.f68 false [V.at (A.int .i64 x0), V.at (A.int .i64 x1), V.at (A.int .i64 x2)] [] = some ⟨V.at (A.bool (Pure.impl_in F x0 x1 x2)), none, []⟩ := by
  have h0 : evFn (cxS F tyl [] [] [] 0) Try.f68 false [V.at (A.int .i64 x0), V.at (A.int .i64 x1), V.at (A.int .i64 x2)] [] = bif decide (x0 ≥ x1) then some ⟨V.at (A.bool (decide (x0 ≤ x2))), none, []⟩ else some ⟨V.at (A.bool false), none, []⟩ := by kernel_rfl
  rw [h0]
  unfold Pure.impl_in
  cases (decide (x0 ≥ x1)) with
  | true =>
    rfl
  | false =>
    rfl
theorem ok_impl_in : CallOK Try.prog 68 (c_impl_in real) := by
  refine callOK_of fun args h ret hc => ?_
  unfold c_impl_in at hc
  split at hc
  · rename_i x0 x1 x2
    obtain ⟨_, rfl⟩ := some_ret hc
    exact holds_ev prog_ok allOK_nil Try.func68 rfl rfl smL_nil rfl (e_impl_in real x0 x1 x2)
  · cases hc
def Pure.impl_FlyFall (F : FOps) (x0 x1 x2 x3 x4 x5 x6 x7 : Int) : Int := bif Pure.impl_fallOk F x0 x1 x2 x3 x4 x5 x6 then bif Pure.impl_IsFinite F x7 then bif Pure.impl_finite F [[F.bin .sub .f32 (F.bin .add .f32 x4 (F.bin .mul .f32 x7 x5)) (F.bin .mul .f32 (F.bin .mul .f32 (F.bin .quo .f32 x3 1073741824) x7) x7)], [F.bin .sub .f32 x5 (F.bin .mul .f32 x3 x7)], [F.bin .add .f32 x6 x7]] then F.bin .sub .f32 (F.bin .add .f32 x4 (F.bin .mul .f32 x7 x5)) (F.bin .mul .f32 (F.bin .mul .f32 (F.bin .quo .f32 x3 1073741824) x7) x7) else 0 else 0 else 0
def Pure.impl_FlyFall_1 (F : FOps) (x0 x1 x2 x3 x4 x5 x6 x7 : Int) : Int := bif Pure.impl_fallOk F x0 x1 x2 x3 x4 x5 x6 then bif Pure.impl_IsFinite F x7 then bif Pure.impl_finite F [[F.bin .sub .f32 (F.bin .add .f32 x4 (F.bin .mul .f32 x7 x5)) (F.bin .mul .f32 (F.bin .mul .f32 (F.bin .quo .f32 x3 1073741824) x7) x7)], [F.bin .sub .f32 x5 (F.bin .mul .f32 x3 x7)], [F.bin .add .f32 x6 x7]] then F.bin .sub .f32 x5 (F.bin .mul .f32 x3 x7) else 0 else 0 else 0
def Pure.impl_FlyFall_2 (F : FOps) (x0 x1 x2 x3 x4 x5 x6 x7 : Int) : Int := bif Pure.impl_fallOk F x0 x1 x2 x3 x4 x5 x6 then bif Pure.impl_IsFinite F x7 then bif Pure.impl_finite F [[F.bin .sub .f32 (F.bin .add .f32 x4 (F.bin .mul .f32 x7 x5)) (F.bin .mul .f32 (F.bin .mul .f32 (F.bin .quo .f32 x3 1073741824) x7) x7)], [F.bin .sub .f32 x5 (F.bin .mul .f32 x3 x7)], [F.bin .add .f32 x6 x7]] then F.bin .add .f32 x6 x7 else 0 else 0 else 0
def Pure.impl_FlyFall_3 (F : FOps) (x0 x1 x2 x3 x4 x5 x6 x7 : Int) : Bool := bif Pure.impl_fallOk F x0 x1 x2 x3 x4 x5 x6 then bif Pure.impl_IsFinite F x7 then Pure.impl_finite F [[F.bin .sub .f32 (F.bin .add .f32 x4 (F.bin .mul .f32 x7 x5)) (F.bin .mul .f32 (F.bin .mul .f32 (F.bin .quo .f32 x3 1073741824) x7) x7)], [F.bin .sub .f32 x5 (F.bin .mul .f32 x3 x7)], [F.bin .add .f32 x6 x7]] else false else false
def Pure.impl_FlyFall_ok (F : FOps) (x0 x1 x2 x3 x4 x5 x6 x7 : Int) : Bool := bif Pure.impl_fallOk_ok F x0 x1 x2 x3 x4 x5 x6 then bif Pure.impl_fallOk F x0 x1 x2 x3 x4 x5 x6 then bif Pure.impl_IsFinite F x7 then Pure.impl_finite_ok F [[F.bin .sub .f32 (F.bin .add .f32 x4 (F.bin .mul .f32 x7 x5)) (F.bin .mul .f32 (F.bin .mul .f32 (F.bin .quo .f32 x3 1073741824) x7) x7)], [F.bin .sub .f32 x5 (F.bin .mul .f32 x3 x7)], [F.bin .add .f32 x6 x7]] else true else true else false
def c_impl_FlyFall (F : FOps) : Con
  | [V.agg [A.fl .f32 x0, A.fl .f32 x1, A.fl .f32 x2, A.fl .f32 x3], V.agg [A.fl .f32 x4, A.fl .f32 x5, A.fl .f32 x6], V.at (A.fl .f32 x7)], [] => some (Pure.impl_FlyFall_ok F x0 x1 x2 x3 x4 x5 x6 x7, ⟨V.tup [(true, [A.fl .f32 (Pure.impl_FlyFall F x0 x1 x2 x3 x4 x5 x6 x7), A.fl .f32 (Pure.impl_FlyFall_1 F x0 x1 x2 x3 x4 x5 x6 x7), A.fl .f32 (Pure.impl_FlyFall_2 F x0 x1 x2 x3 x4 x5 x6 x7)]), (false, [A.bool (Pure.impl_FlyFall_3 F x0 x1 x2 x3 x4 x5 x6 x7)])], none, []⟩)
  | _, _ => none
theorem e_impl_FlyFall (F : FOps) (x0 x1 x2 x3 x4 x5 x6 x7 : Int) : Pure.impl_FlyFall_ok F x0 x1 x2 x3 x4 x5 x6 x7 = true → evFn (cxS F tyl [(66, c_impl_fallOk F), (62, c_impl_IsFinite F), (70, c_impl_finite F)] [] [] 0) Try.f25 false [V.agg [A.fl .f32 x0, A.fl .f32 x1, A.fl .f32 x2, A.fl .f32 x3], V.agg [A.fl .f32 x4, A.fl .f32 x5, A.fl .f32 x6], V.at (A.fl .f32 x7)] [] = some ⟨V.tup [(true, [A.fl .f32 (Pure.impl_FlyFall F x0 x1 x2 x3 x4 x5 x6 x7), A.fl .f32 (Pure.impl_FlyFall_1 F x0 x1 x2 x3 x4 x5 x6 x7), A.fl .f32 (Pure.impl_FlyFall_2 F x0 x1 x2 x3 x4 x5 x6 x7)]), (false, [A.bool (Pure.impl_FlyFall_3 F x0 x1 x2 x3 x4 x5 x6 x7)])], none, []⟩ := by
  have h0 : evFn (cxS F tyl [(66, c_impl_fallOk F), (62, c_impl_IsFinite F), (70, c_impl_finite F)] [] [] 0) Try.f25 false [V.agg [A.fl .f32 x0, A.fl .f32 x1, A.fl .f32 x2, A.fl .f32 x3], V.agg [A.fl .f32 x4, A.fl .f32 x5, A.fl .f32 x6], V.at (A.fl .f32 x7)] [] = bif Pure.impl_fallOk_ok F x0 x1 x2 x3 x4 x5 x6 then bif Bool.not (Pure.impl_fallOk F x0 x1 x2 x3 x4 x5 x6) then some ⟨V.tup [(true, [A.fl .f32 0, A.fl .f32 0, A.fl .f32 0]), (false, [A.bool false])], none, []⟩ else bif Bool.not (Pure.impl_IsFinite F x7) then some ⟨V.tup [(true, [A.fl .f32 0, A.fl .f32 0, A.fl .f32 0]), (false, [A.bool false])], none, []⟩ else bif Pure.impl_finite_ok F [[F.bin .sub .f32 (F.bin .add .f32 x4 (F.bin .mul .f32 x7 x5)) (F.bin .mul .f32 (F.bin .mul .f32 (F.bin .quo .f32 x3 1073741824) x7) x7)], [F.bin .sub .f32 x5 (F.bin .mul .f32 x3 x7)], [F.bin .add .f32 x6 x7]] then bif Bool.not (Pure.impl_finite F [[F.bin .sub .f32 (F.bin .add .f32 x4 (F.bin .mul .f32 x7 x5)) (F.bin .mul .f32 (F.bin .mul .f32 (F.bin .quo .f32 x3 1073741824) x7) x7)], [F.bin .sub .f32 x5 (F.bin .mul .f32 x3 x7)], [F.bin .add .f32 x6 x7]]) then some ⟨V.tup [(true, [A.fl .f32 0, A.fl .f32 0, A.fl .f32 0]), (false, [A.bool false])], none, []⟩ else some ⟨V.tup [(true, [A.fl .f32 (F.bin .sub .f32 (F.bin .add .f32 x4 (F.bin .mul .f32 x7 x5)) (F.bin .mul .f32 (F.bin .mul .f32 (F.bin .quo .f32 x3 1073741824) x7) x7)), A.fl .f32 (F.bin .sub .f32 x5 (F.bin .mul .f32 x3 x7)), A.fl .f32 (F.bin .add .f32 x6 x7)]), (false, [A.bool true])], none, []⟩ else none else none := by kernel_rfl
  rw [h0]
  unfold Pure.impl_FlyFall Pure.impl_FlyFall_1 Pure.impl_FlyFall_2 Pure.impl_FlyFall_3 Pure.impl_FlyFall_ok
  cases (Pure.impl_fallOk_ok F x0 x1 x2 x3 x4 x5 x6) with
  | true =>
    cases (Pure.impl_fallOk F x0 x1 x2 x3 x4 x5 x6) with
    | true =>
      cases (Pure.impl_IsFinite F x7) with
      | true =>
        cases (Pure.impl_finite_ok F [[F.bin .sub .f32 (F.bin .add .f32 x4 (F.bin .mul .f32 x7 x5)) (F.bin .mul .f32 (F.bin .mul .f32 (F.bin .quo .f32 x3 1073741824) x7) x7)], [F.bin .sub .f32 x5 (F.bin .mul .f32 x3 x7)], [F.bin .add .f32 x6 x7]]) with
        | true =>
          cases (Pure.impl_finite F [[F.bin .sub .f32 (F.bin .add .f32 x4 (F.bin .mul .f32 x7 x5)) (F.bin .mul .f32 (F.bin .mul .f32 (F.bin .quo .f32 x3 1073741824) x7) x7)], [F.bin .sub .f32 x5 (F.bin .mul .f32 x3 x7)], [F.bin .add .f32 x6 x7]]) with
          | true =>
            intro _; rfl
          | false =>
            intro _; rfl
        | false =>
          intro h; exact absurd h Bool.false_ne_true
      | false =>
        intro _; rfl
    | false =>
      intro _; rfl
  | false =>
    intro h; exact absurd h Bool.false_ne_true
theorem ok_impl_FlyFall : CallOK Try.prog 25 (c_impl_FlyFall real) := by
  refine callOK_of fun args h ret hc => ?_
  unfold c_impl_FlyFall at hc
  split at hc
  · rename_i x0 x1 x2 x3 x4 x5 x6 x7
    obtain ⟨hok, rfl⟩ := some_ret hc
    exact holds_ev prog_ok (allOK_cons ok_impl_fallOk (allOK_cons ok_impl_IsFinite (allOK_cons ok_impl_finite allOK_nil))) Try.func25 rfl rfl smL_nil rfl (e_impl_FlyFall real x0 x1 x2 x3 x4 x5 x6 x7 hok)
  · cases hc
def c_math_Float64frombits (F : FOps) : Con
  | [V.at (A.raw .f64 x)], [] => some (true, ⟨V.at (A.fl .f64 x), none, []⟩)
  | [V.at (A.int .u64 x)], [] => some (true, ⟨V.at (A.fl .f64 (F.ofBits .f64 x)), none, []⟩)
  | _, _ => none
theorem ok_math_Float64frombits : CallOK Try.prog 118 (c_math_Float64frombits real) := by
  refine callOK_of fun args h ret hc => ?_
  unfold c_math_Float64frombits at hc
  split at hc
  · rename_i x
    obtain ⟨_, rfl⟩ := some_ret hc
    exact ext_from64 Try.func118 rfl rfl (by kernel_rfl) (by kernel_rfl) x
  · rename_i x
    obtain ⟨_, rfl⟩ := some_ret hc
    exact ext_from64i Try.func118 rfl rfl (by kernel_rfl) (by kernel_rfl) x
  · cases hc
def c_math_NaN (F : FOps) : Con
  | [], [] => some (true, ⟨V.at (A.fl .f64 (F.ofBits .f64 9221120237041090561)), none, []⟩)
  | _, _ => none
theorem e_math_NaN (F : FOps) : evFn (cxS F tyl [(118, c_math_Float64frombits F)] [] [] 0) Try.f100 false [] [] = some ⟨V.at (A.fl .f64 (F.ofBits .f64 9221120237041090561)), none, []⟩ := by
  kernel_rfl
theorem ok_math_NaN : CallOK Try.prog 100 (c_math_NaN real) := by
  refine callOK_of fun args h ret hc => ?_
  unfold c_math_NaN at hc
  split at hc
  · obtain ⟨_, rfl⟩ := some_ret hc
    exact holds_ev prog_ok (allOK_cons ok_math_Float64frombits allOK_nil) Try.func100 rfl rfl smL_nil rfl (e_math_NaN real)
  · cases hc
def c_math_Float64bits (_ : FOps) : Con
  | [V.at (A.fl .f64 x)], [] => some (true, ⟨V.at (A.raw .f64 x), none, []⟩)
  | _, _ => none
theorem ok_math_Float64bits : CallOK Try.prog 119 (c_math_Float64bits real) := by
  refine callOK_of fun args h ret hc => ?_
  unfold c_math_Float64bits at hc
  split at hc
  · rename_i x
    obtain ⟨_, rfl⟩ := some_ret hc
    exact ext_bits64 Try.func119 rfl rfl (by kernel_rfl) (by kernel_rfl) x
  · cases hc
def c_math_Abs (F : FOps) : Con
  | [V.at (A.fl .f64 x0)], [] => some (true, ⟨V.at (A.fl .f64 (F.abs .f64 x0)), none, []⟩)
  | _, _ => none
theorem e_math_Abs (F : FOps) (x0 : Int) : evFn (cxS F tyl [(119, c_math_Float64bits F), (118, c_math_Float64frombits F)] [] [] 0) Try.f101 false [V.at (A.fl .f64 x0)] [] = some ⟨V.at (A.fl .f64 (F.abs .f64 x0)), none, []⟩ := by
  kernel_rfl
theorem ok_math_Abs : CallOK Try.prog 101 (c_math_Abs real) := by
  refine callOK_of fun args h ret hc => ?_
  unfold c_math_Abs at hc
  split at hc
  · rename_i x0
    obtain ⟨_, rfl⟩ := some_ret hc
    exact holds_ev prog_ok (allOK_cons ok_math_Float64bits (allOK_cons ok_math_Float64frombits allOK_nil)) Try.func101 rfl rfl smL_nil rfl (e_math_Abs real x0)
  · cases hc
def c_math_archTrunc (F : FOps) : Con
  | [V.at (A.fl .f64 x)], [] => some (true, ⟨V.at (A.fl .f64 (F.integral .zero x)), none, []⟩)
  | _, _ => none
theorem ok_math_archTrunc : CallOK Try.prog 120 (c_math_archTrunc real) := by
  refine callOK_of fun args h ret hc => ?_
  unfold c_math_archTrunc at hc
  split at hc
  · rename_i x
    obtain ⟨_, rfl⟩ := some_ret hc
    exact ext_integral (nm := "math.archTrunc") Try.func120 rfl rfl (by kernel_rfl) (by kernel_rfl) x
  · cases hc
def c_math_Trunc (F : FOps) : Con
  | [V.at (A.fl .f64 x0)], [] => some (true, ⟨V.at (A.fl .f64 (F.integral Ieee.Toward.zero x0)), none, []⟩)
  | _, _ => none
theorem e_math_Trunc (F : FOps) (x0 : Int) : evFn (cxS F tyl [(120, c_math_archTrunc F)] [] [] 0) Try.f102 false [V.at (A.fl .f64 x0)] [] = some ⟨V.at (A.fl .f64 (F.integral Ieee.Toward.zero x0)), none, []⟩ := by
  kernel_rfl
theorem ok_math_Trunc : CallOK Try.prog 102 (c_math_Trunc real) := by
  refine callOK_of fun args h ret hc => ?_
  unfold c_math_Trunc at hc
  split at hc
  · rename_i x0
    obtain ⟨_, rfl⟩ := some_ret hc
    exact holds_ev prog_ok (allOK_cons ok_math_archTrunc allOK_nil) Try.func102 rfl rfl smL_nil rfl (e_math_Trunc real x0)
  · cases hc
def Pure.impl_SineTurns_L1 (F : FOps) (y0 : Bool) (y1 y2 : Int) : Nat → Int → Int → (Bool × Int)
  | 0, _, _ => (false, 0)
  | n + 1, y3, y4 => bif (decide (y4 ≥ 1)) then (Pure.impl_SineTurns_L1 F y0 y1 y2 n (F.bin .sub .f64 4607182418800017408 (F.bin .quo .f64 (F.bin .mul .f64 y2 y3) (F.ofInt .f64 (IntKind.wrap .i64 ((IntKind.wrap .i64 (2 * y4)) * (IntKind.wrap .i64 ((IntKind.wrap .i64 (2 * y4)) + 1))))))) (IntKind.wrap .i64 (y4 - 1))) else ((true, y3))
def R_impl_SineTurns_L1 (y0 : Bool) (y1 : Int) (r : (Bool × Int)) : Bool × Ends := ((r).1, (.one Ex.normal [V.at (A.bool y0), V.at (A.fl .f64 y1), V.at (A.fl .f64 (r).2)] []))
def S_impl_SineTurns_L1 (F : FOps) : Sm := ⟨[5, 6, 7, 8, 9], [4, 30, 30, 30, 3], [5, 6, 8], fun vals hp => match vals, hp with
  | [V.at (A.bool y0), V.at (A.fl .f64 y1), V.at (A.fl .f64 y2), V.at (A.fl .f64 y3), V.at (A.int .i64 y4)], [] => some (R_impl_SineTurns_L1 y0 y1 (Pure.impl_SineTurns_L1 F y0 y1 y2 (y4 - 1 + 2).toNat y3 y4))
  | _, _ => none⟩
theorem l_impl_SineTurns_L1 (F : FOps) (y0 : Bool) (y1 y2 : Int) : ∀ (fuel : Nat) (y3 y4 : Int), (Pure.impl_SineTurns_L1 F y0 y1 y2 fuel y3 y4).1 = true → loopOf (cxS F tyl [(62, c_impl_IsFinite F), (100, c_math_NaN F), (101, c_math_Abs F), (102, c_math_Trunc F)] [] [] 0) 0 72 1 [5, 6, 7, 8, 9] [4, 30, 30, 30, 3] [5, 6, 8] (loopB 1 (codeOf Try.f64)) fuel [V.at (A.bool y0), V.at (A.fl .f64 y1), V.at (A.fl .f64 y2), V.at (A.fl .f64 y3), V.at (A.int .i64 y4)] [] = resOf (R_impl_SineTurns_L1 y0 y1 (Pure.impl_SineTurns_L1 F y0 y1 y2 fuel y3 y4)) := by
  intro fuel
  induction fuel with
  | zero => intro y3 y4 h; exact absurd h Bool.false_ne_true
  | succ n ih =>
    intro y3 y4
    have h0 : roundOf (cxS F tyl [(62, c_impl_IsFinite F), (100, c_math_NaN F), (101, c_math_Abs F), (102, c_math_Trunc F)] [] [] 0) 0 72 1 [5, 6, 7, 8, 9] [4, 30, 30, 30, 3] [5, 6, 8] (loopB 1 (codeOf Try.f64)) [V.at (A.bool y0), V.at (A.fl .f64 y1), V.at (A.fl .f64 y2), V.at (A.fl .f64 y3), V.at (A.int .i64 y4)] [] = (bif decide (y4 ≥ 1) then some (true, (Ex.normal, ([V.at (A.bool y0), V.at (A.fl .f64 y1), V.at (A.fl .f64 y2), V.at (A.fl .f64 (F.bin .sub .f64 4607182418800017408 (F.bin .quo .f64 (F.bin .mul .f64 y2 y3) (F.ofInt .f64 (IntKind.wrap .i64 ((IntKind.wrap .i64 (2 * y4)) * (IntKind.wrap .i64 ((IntKind.wrap .i64 (2 * y4)) + 1)))))))), V.at (A.int .i64 (IntKind.wrap .i64 (y4 - 1)))], []))) else some (false, (Ex.normal, ([V.at (A.bool y0), V.at (A.fl .f64 y1), V.at (A.fl .f64 y3)], [])))) := by kernel_rfl
    unfold loopOf
    rw [h0]
    unfold Pure.impl_SineTurns_L1
    cases (decide (y4 ≥ 1)) with
    | true =>
      exact ih _ _
    | false =>
      intro _; rfl
theorem t_impl_SineTurns_L1 : SmTo Try.prog 0 72 (S_impl_SineTurns_L1 real) 1 (.loop (loopB 1 (codeOf Try.f64))) := by
  refine smTo_ev (cl := [(62, c_impl_IsFinite real), (100, c_math_NaN real), (101, c_math_Abs real), (102, c_math_Trunc real)]) (ef := []) (sm := []) (un := 0) prog_ok (allOK_cons ok_impl_IsFinite (allOK_cons ok_math_NaN (allOK_cons ok_math_Abs (allOK_cons ok_math_Trunc allOK_nil)))) smL_nil ?_
  intro vals hp q r h hq
  unfold S_impl_SineTurns_L1 at h
  dsimp only at h
  split at h
  · rename_i y0 y1 y2 y3 y4
    obtain rfl := Option.some.inj h
    have h1 := hq
    unfold resOf at h1
    rw [chk_some] at h1
    exact ⟨_, (l_impl_SineTurns_L1 real y0 y1 y2 _ y3 y4 h1.1).trans hq⟩
  · cases h
def Pure.s1_f64 (F : FOps) (x0 : Int) : Int := F.bin .add .f64 (F.bin .sub .f64 (F.conv .f32 .f64 x0) (F.integral Ieee.Toward.zero (F.conv .f32 .f64 x0))) 4607182418800017408
def Pure.s2_f64 (F : FOps) (x0 : Int) : Int := F.bin .sub .f64 (Pure.s1_f64 F x0) 4602678819172646912
def Pure.s3_f64 (F : FOps) (x0 : Int) : Int := F.bin .mul .f64 (F.bin .sub .f64 4602678819172646912 (Pure.s2_f64 F x0)) 4618760256179416344
def Pure.s4_f64 (F : FOps) (x0 : Int) : Int := F.bin .mul .f64 (Pure.s3_f64 F x0) (Prod.snd (Pure.impl_SineTurns_L1 F (F.cmp .geq .f64 (Pure.s1_f64 F x0) 4602678819172646912) (Pure.s3_f64 F x0) (F.bin .mul .f64 (Pure.s3_f64 F x0) (Pure.s3_f64 F x0)) 9 4607182418800017408 8))
def Pure.s5_f64 (F : FOps) (x0 : Int) : Int := F.neg .f64 (Pure.s4_f64 F x0)
def Pure.s6_f64 (F : FOps) (x0 : Int) : Int := F.bin .mul .f64 (Pure.s2_f64 F x0) 4618760256179416344
def Pure.s7_f64 (F : FOps) (x0 : Int) : Int := F.bin .mul .f64 (Pure.s6_f64 F x0) (Prod.snd (Pure.impl_SineTurns_L1 F (F.cmp .geq .f64 (Pure.s1_f64 F x0) 4602678819172646912) (Pure.s6_f64 F x0) (F.bin .mul .f64 (Pure.s6_f64 F x0) (Pure.s6_f64 F x0)) 9 4607182418800017408 8))
def Pure.s8_f64 (F : FOps) (x0 : Int) : Int := F.neg .f64 (Pure.s7_f64 F x0)
def Pure.s9_f64 (F : FOps) (x0 : Int) : Int := F.bin .mul .f64 (F.bin .sub .f64 4602678819172646912 (Pure.s1_f64 F x0)) 4618760256179416344
def Pure.s10_f64 (F : FOps) (x0 : Int) : Int := F.bin .mul .f64 (Pure.s9_f64 F x0) (Prod.snd (Pure.impl_SineTurns_L1 F (F.cmp .geq .f64 (Pure.s1_f64 F x0) 4602678819172646912) (Pure.s9_f64 F x0) (F.bin .mul .f64 (Pure.s9_f64 F x0) (Pure.s9_f64 F x0)) 9 4607182418800017408 8))
def Pure.s11_f64 (F : FOps) (x0 : Int) : Int := F.neg .f64 (Pure.s10_f64 F x0)
def Pure.s12_f64 (F : FOps) (x0 : Int) : Int := F.bin .mul .f64 (Pure.s1_f64 F x0) 4618760256179416344
def Pure.s13_f64 (F : FOps) (x0 : Int) : Int := F.bin .mul .f64 (Pure.s12_f64 F x0) (Prod.snd (Pure.impl_SineTurns_L1 F (F.cmp .geq .f64 (Pure.s1_f64 F x0) 4602678819172646912) (Pure.s12_f64 F x0) (F.bin .mul .f64 (Pure.s12_f64 F x0) (Pure.s12_f64 F x0)) 9 4607182418800017408 8))
def Pure.s14_f64 (F : FOps) (x0 : Int) : Int := F.neg .f64 (Pure.s13_f64 F x0)
def Pure.s15_f64 (F : FOps) (x0 : Int) : Int := F.bin .sub .f64 (F.bin .sub .f64 (F.conv .f32 .f64 x0) (F.integral Ieee.Toward.zero (F.conv .f32 .f64 x0))) 4602678819172646912
def Pure.s16_f64 (F : FOps) (x0 : Int) : Int := F.bin .mul .f64 (F.bin .sub .f64 4602678819172646912 (Pure.s15_f64 F x0)) 4618760256179416344
def Pure.s17_f64 (F : FOps) (x0 : Int) : Int := F.bin .mul .f64 (Pure.s16_f64 F x0) (Prod.snd (Pure.impl_SineTurns_L1 F (F.cmp .geq .f64 (F.bin .sub .f64 (F.conv .f32 .f64 x0) (F.integral Ieee.Toward.zero (F.conv .f32 .f64 x0))) 4602678819172646912) (Pure.s16_f64 F x0) (F.bin .mul .f64 (Pure.s16_f64 F x0) (Pure.s16_f64 F x0)) 9 4607182418800017408 8))
def Pure.s18_f64 (F : FOps) (x0 : Int) : Int := F.neg .f64 (Pure.s17_f64 F x0)
def Pure.s19_f64 (F : FOps) (x0 : Int) : Int := F.bin .mul .f64 (Pure.s15_f64 F x0) 4618760256179416344
def Pure.s20_f64 (F : FOps) (x0 : Int) : Int := F.bin .mul .f64 (Pure.s19_f64 F x0) (Prod.snd (Pure.impl_SineTurns_L1 F (F.cmp .geq .f64 (F.bin .sub .f64 (F.conv .f32 .f64 x0) (F.integral Ieee.Toward.zero (F.conv .f32 .f64 x0))) 4602678819172646912) (Pure.s19_f64 F x0) (F.bin .mul .f64 (Pure.s19_f64 F x0) (Pure.s19_f64 F x0)) 9 4607182418800017408 8))
def Pure.s21_f64 (F : FOps) (x0 : Int) : Int := F.neg .f64 (Pure.s20_f64 F x0)
def Pure.s22_f64 (F : FOps) (x0 : Int) : Int := F.bin .mul .f64 (F.bin .sub .f64 4602678819172646912 (F.bin .sub .f64 (F.conv .f32 .f64 x0) (F.integral Ieee.Toward.zero (F.conv .f32 .f64 x0)))) 4618760256179416344
def Pure.s23_f64 (F : FOps) (x0 : Int) : Int := F.bin .mul .f64 (Pure.s22_f64 F x0) (Prod.snd (Pure.impl_SineTurns_L1 F (F.cmp .geq .f64 (F.bin .sub .f64 (F.conv .f32 .f64 x0) (F.integral Ieee.Toward.zero (F.conv .f32 .f64 x0))) 4602678819172646912) (Pure.s22_f64 F x0) (F.bin .mul .f64 (Pure.s22_f64 F x0) (Pure.s22_f64 F x0)) 9 4607182418800017408 8))
def Pure.s24_f64 (F : FOps) (x0 : Int) : Int := F.neg .f64 (Pure.s23_f64 F x0)
def Pure.s25_f64 (F : FOps) (x0 : Int) : Int := F.bin .mul .f64 (F.bin .sub .f64 (F.conv .f32 .f64 x0) (F.integral Ieee.Toward.zero (F.conv .f32 .f64 x0))) 4618760256179416344
def Pure.s26_f64 (F : FOps) (x0 : Int) : Int := F.bin .mul .f64 (Pure.s25_f64 F x0) (Prod.snd (Pure.impl_SineTurns_L1 F (F.cmp .geq .f64 (F.bin .sub .f64 (F.conv .f32 .f64 x0) (F.integral Ieee.Toward.zero (F.conv .f32 .f64 x0))) 4602678819172646912) (Pure.s25_f64 F x0) (F.bin .mul .f64 (Pure.s25_f64 F x0) (Pure.s25_f64 F x0)) 9 4607182418800017408 8))
def Pure.s27_f64 (F : FOps) (x0 : Int) : Int := F.neg .f64 (Pure.s26_f64 F x0)
def Pure.s28_f64 (F : FOps) (x0 : Int) : Int := F.bin .mul .f64 (F.bin .sub .f64 4602678819172646912 (F.bin .sub .f64 (F.bin .add .f64 (F.conv .f32 .f64 x0) 4607182418800017408) 4602678819172646912)) 4618760256179416344
def Pure.s29_f64 (F : FOps) (x0 : Int) : Int := F.bin .mul .f64 (Pure.s28_f64 F x0) (Prod.snd (Pure.impl_SineTurns_L1 F (F.cmp .geq .f64 (F.bin .add .f64 (F.conv .f32 .f64 x0) 4607182418800017408) 4602678819172646912) (Pure.s28_f64 F x0) (F.bin .mul .f64 (Pure.s28_f64 F x0) (Pure.s28_f64 F x0)) 9 4607182418800017408 8))
def Pure.s30_f64 (F : FOps) (x0 : Int) : Int := F.neg .f64 (Pure.s29_f64 F x0)
def Pure.s31_f64 (F : FOps) (x0 : Int) : Int := F.bin .mul .f64 (F.bin .mul .f64 (F.bin .sub .f64 (F.bin .add .f64 (F.conv .f32 .f64 x0) 4607182418800017408) 4602678819172646912) 4618760256179416344) (Prod.snd (Pure.impl_SineTurns_L1 F (F.cmp .geq .f64 (F.bin .add .f64 (F.conv .f32 .f64 x0) 4607182418800017408) 4602678819172646912) (F.bin .mul .f64 (F.bin .sub .f64 (F.bin .add .f64 (F.conv .f32 .f64 x0) 4607182418800017408) 4602678819172646912) 4618760256179416344) (F.bin .mul .f64 (F.bin .mul .f64 (F.bin .sub .f64 (F.bin .add .f64 (F.conv .f32 .f64 x0) 4607182418800017408) 4602678819172646912) 4618760256179416344) (F.bin .mul .f64 (F.bin .sub .f64 (F.bin .add .f64 (F.conv .f32 .f64 x0) 4607182418800017408) 4602678819172646912) 4618760256179416344)) 9 4607182418800017408 8))
def Pure.s32_f64 (F : FOps) (x0 : Int) : Int := F.neg .f64 (Pure.s31_f64 F x0)
def Pure.s33_f64 (F : FOps) (x0 : Int) : Int := F.bin .mul .f64 (F.bin .mul .f64 (F.bin .sub .f64 4602678819172646912 (F.bin .add .f64 (F.conv .f32 .f64 x0) 4607182418800017408)) 4618760256179416344) (Prod.snd (Pure.impl_SineTurns_L1 F (F.cmp .geq .f64 (F.bin .add .f64 (F.conv .f32 .f64 x0) 4607182418800017408) 4602678819172646912) (F.bin .mul .f64 (F.bin .sub .f64 4602678819172646912 (F.bin .add .f64 (F.conv .f32 .f64 x0) 4607182418800017408)) 4618760256179416344) (F.bin .mul .f64 (F.bin .mul .f64 (F.bin .sub .f64 4602678819172646912 (F.bin .add .f64 (F.conv .f32 .f64 x0) 4607182418800017408)) 4618760256179416344) (F.bin .mul .f64 (F.bin .sub .f64 4602678819172646912 (F.bin .add .f64 (F.conv .f32 .f64 x0) 4607182418800017408)) 4618760256179416344)) 9 4607182418800017408 8))
def Pure.s34_f64 (F : FOps) (x0 : Int) : Int := F.neg .f64 (Pure.s33_f64 F x0)
def Pure.s35_f64 (F : FOps) (x0 : Int) : Int := F.bin .mul .f64 (F.bin .mul .f64 (F.bin .add .f64 (F.conv .f32 .f64 x0) 4607182418800017408) 4618760256179416344) (Prod.snd (Pure.impl_SineTurns_L1 F (F.cmp .geq .f64 (F.bin .add .f64 (F.conv .f32 .f64 x0) 4607182418800017408) 4602678819172646912) (F.bin .mul .f64 (F.bin .add .f64 (F.conv .f32 .f64 x0) 4607182418800017408) 4618760256179416344) (F.bin .mul .f64 (F.bin .mul .f64 (F.bin .add .f64 (F.conv .f32 .f64 x0) 4607182418800017408) 4618760256179416344) (F.bin .mul .f64 (F.bin .add .f64 (F.conv .f32 .f64 x0) 4607182418800017408) 4618760256179416344)) 9 4607182418800017408 8))
def Pure.s36_f64 (F : FOps) (x0 : Int) : Int := F.neg .f64 (Pure.s35_f64 F x0)
def Pure.s37_f64 (F : FOps) (x0 : Int) : Int := F.bin .mul .f64 (F.bin .mul .f64 (F.bin .sub .f64 4602678819172646912 (F.bin .sub .f64 (F.conv .f32 .f64 x0) 4602678819172646912)) 4618760256179416344) (Prod.snd (Pure.impl_SineTurns_L1 F (F.cmp .geq .f64 (F.conv .f32 .f64 x0) 4602678819172646912) (F.bin .mul .f64 (F.bin .sub .f64 4602678819172646912 (F.bin .sub .f64 (F.conv .f32 .f64 x0) 4602678819172646912)) 4618760256179416344) (F.bin .mul .f64 (F.bin .mul .f64 (F.bin .sub .f64 4602678819172646912 (F.bin .sub .f64 (F.conv .f32 .f64 x0) 4602678819172646912)) 4618760256179416344) (F.bin .mul .f64 (F.bin .sub .f64 4602678819172646912 (F.bin .sub .f64 (F.conv .f32 .f64 x0) 4602678819172646912)) 4618760256179416344)) 9 4607182418800017408 8))
def Pure.s38_f64 (F : FOps) (x0 : Int) : Int := F.neg .f64 (Pure.s37_f64 F x0)
def Pure.s39_f64 (F : FOps) (x0 : Int) : Int := F.bin .mul .f64 (F.bin .mul .f64 (F.bin .sub .f64 (F.conv .f32 .f64 x0) 4602678819172646912) 4618760256179416344) (Prod.snd (Pure.impl_SineTurns_L1 F (F.cmp .geq .f64 (F.conv .f32 .f64 x0) 4602678819172646912) (F.bin .mul .f64 (F.bin .sub .f64 (F.conv .f32 .f64 x0) 4602678819172646912) 4618760256179416344) (F.bin .mul .f64 (F.bin .mul .f64 (F.bin .sub .f64 (F.conv .f32 .f64 x0) 4602678819172646912) 4618760256179416344) (F.bin .mul .f64 (F.bin .sub .f64 (F.conv .f32 .f64 x0) 4602678819172646912) 4618760256179416344)) 9 4607182418800017408 8))
def Pure.s40_f64 (F : FOps) (x0 : Int) : Int := F.neg .f64 (Pure.s39_f64 F x0)
def Pure.s41_f64 (F : FOps) (x0 : Int) : Int := F.bin .mul .f64 (F.bin .mul .f64 (F.bin .sub .f64 4602678819172646912 (F.conv .f32 .f64 x0)) 4618760256179416344) (Prod.snd (Pure.impl_SineTurns_L1 F (F.cmp .geq .f64 (F.conv .f32 .f64 x0) 4602678819172646912) (F.bin .mul .f64 (F.bin .sub .f64 4602678819172646912 (F.conv .f32 .f64 x0)) 4618760256179416344) (F.bin .mul .f64 (F.bin .mul .f64 (F.bin .sub .f64 4602678819172646912 (F.conv .f32 .f64 x0)) 4618760256179416344) (F.bin .mul .f64 (F.bin .sub .f64 4602678819172646912 (F.conv .f32 .f64 x0)) 4618760256179416344)) 9 4607182418800017408 8))
def Pure.s42_f64 (F : FOps) (x0 : Int) : Int := F.neg .f64 (Pure.s41_f64 F x0)
def Pure.s43_f64 (F : FOps) (x0 : Int) : Int := F.bin .mul .f64 (F.bin .mul .f64 (F.conv .f32 .f64 x0) 4618760256179416344) (Prod.snd (Pure.impl_SineTurns_L1 F (F.cmp .geq .f64 (F.conv .f32 .f64 x0) 4602678819172646912) (F.bin .mul .f64 (F.conv .f32 .f64 x0) 4618760256179416344) (F.bin .mul .f64 (F.bin .mul .f64 (F.conv .f32 .f64 x0) 4618760256179416344) (F.bin .mul .f64 (F.conv .f32 .f64 x0) 4618760256179416344)) 9 4607182418800017408 8))
def Pure.s44_f64 (F : FOps) (x0 : Int) : Int := F.neg .f64 (Pure.s43_f64 F x0)
def Pure.impl_SineTurns (F : FOps) (x0 : Int) : Int := bif Pure.impl_IsFinite F x0 then bif F.cmp .geq .f64 (F.abs .f64 (F.conv .f32 .f64 x0)) 4841369599423283200 then 0 else bif F.cmp .neq .f64 (F.integral Ieee.Toward.zero (F.conv .f32 .f64 x0)) 0 then bif F.cmp .lss .f64 (F.bin .sub .f64 (F.conv .f32 .f64 x0) (F.integral Ieee.Toward.zero (F.conv .f32 .f64 x0))) 0 then bif F.cmp .geq .f64 (Pure.s1_f64 F x0) 4602678819172646912 then bif F.cmp .gtr .f64 (Pure.s2_f64 F x0) 4598175219545276416 then F.conv .f64 .f32 (Pure.s5_f64 F x0) else F.conv .f64 .f32 (Pure.s8_f64 F x0) else bif F.cmp .gtr .f64 (Pure.s1_f64 F x0) 4598175219545276416 then F.conv .f64 .f32 (Pure.s10_f64 F x0) else F.conv .f64 .f32 (Pure.s13_f64 F x0) else bif F.cmp .geq .f64 (F.bin .sub .f64 (F.conv .f32 .f64 x0) (F.integral Ieee.Toward.zero (F.conv .f32 .f64 x0))) 4602678819172646912 then bif F.cmp .gtr .f64 (Pure.s15_f64 F x0) 4598175219545276416 then F.conv .f64 .f32 (Pure.s18_f64 F x0) else F.conv .f64 .f32 (Pure.s21_f64 F x0) else bif F.cmp .gtr .f64 (F.bin .sub .f64 (F.conv .f32 .f64 x0) (F.integral Ieee.Toward.zero (F.conv .f32 .f64 x0))) 4598175219545276416 then F.conv .f64 .f32 (Pure.s23_f64 F x0) else F.conv .f64 .f32 (Pure.s26_f64 F x0) else bif F.cmp .lss .f64 (F.conv .f32 .f64 x0) 0 then bif F.cmp .geq .f64 (F.bin .add .f64 (F.conv .f32 .f64 x0) 4607182418800017408) 4602678819172646912 then bif F.cmp .gtr .f64 (F.bin .sub .f64 (F.bin .add .f64 (F.conv .f32 .f64 x0) 4607182418800017408) 4602678819172646912) 4598175219545276416 then F.conv .f64 .f32 (Pure.s30_f64 F x0) else F.conv .f64 .f32 (Pure.s32_f64 F x0) else bif F.cmp .gtr .f64 (F.bin .add .f64 (F.conv .f32 .f64 x0) 4607182418800017408) 4598175219545276416 then F.conv .f64 .f32 (Pure.s33_f64 F x0) else F.conv .f64 .f32 (Pure.s35_f64 F x0) else bif F.cmp .geq .f64 (F.conv .f32 .f64 x0) 4602678819172646912 then bif F.cmp .gtr .f64 (F.bin .sub .f64 (F.conv .f32 .f64 x0) 4602678819172646912) 4598175219545276416 then F.conv .f64 .f32 (Pure.s38_f64 F x0) else F.conv .f64 .f32 (Pure.s40_f64 F x0) else bif F.cmp .gtr .f64 (F.conv .f32 .f64 x0) 4598175219545276416 then F.conv .f64 .f32 (Pure.s41_f64 F x0) else F.conv .f64 .f32 (Pure.s43_f64 F x0) else F.conv .f64 .f32 (F.ofBits .f64 9221120237041090561)
def Pure.impl_SineTurns_ok (F : FOps) (x0 : Int) : Bool := bif F.convOk .f32 .f64 x0 then bif Pure.impl_IsFinite F x0 then bif F.cmp .geq .f64 (F.abs .f64 (F.conv .f32 .f64 x0)) 4841369599423283200 then true else bif F.cmp .neq .f64 (F.integral Ieee.Toward.zero (F.conv .f32 .f64 x0)) 0 then bif F.cmp .lss .f64 (F.bin .sub .f64 (F.conv .f32 .f64 x0) (F.integral Ieee.Toward.zero (F.conv .f32 .f64 x0))) 0 then bif F.cmp .geq .f64 (Pure.s1_f64 F x0) 4602678819172646912 then bif F.cmp .gtr .f64 (Pure.s2_f64 F x0) 4598175219545276416 then bif Prod.fst (Pure.impl_SineTurns_L1 F true (Pure.s3_f64 F x0) (F.bin .mul .f64 (Pure.s3_f64 F x0) (Pure.s3_f64 F x0)) 9 4607182418800017408 8) then F.convOk .f64 .f32 (Pure.s5_f64 F x0) else false else bif Prod.fst (Pure.impl_SineTurns_L1 F true (Pure.s6_f64 F x0) (F.bin .mul .f64 (Pure.s6_f64 F x0) (Pure.s6_f64 F x0)) 9 4607182418800017408 8) then F.convOk .f64 .f32 (Pure.s8_f64 F x0) else false else bif F.cmp .gtr .f64 (Pure.s1_f64 F x0) 4598175219545276416 then bif Prod.fst (Pure.impl_SineTurns_L1 F false (Pure.s9_f64 F x0) (F.bin .mul .f64 (Pure.s9_f64 F x0) (Pure.s9_f64 F x0)) 9 4607182418800017408 8) then F.convOk .f64 .f32 (Pure.s10_f64 F x0) else false else bif Prod.fst (Pure.impl_SineTurns_L1 F false (Pure.s12_f64 F x0) (F.bin .mul .f64 (Pure.s12_f64 F x0) (Pure.s12_f64 F x0)) 9 4607182418800017408 8) then F.convOk .f64 .f32 (Pure.s13_f64 F x0) else false else bif F.cmp .geq .f64 (F.bin .sub .f64 (F.conv .f32 .f64 x0) (F.integral Ieee.Toward.zero (F.conv .f32 .f64 x0))) 4602678819172646912 then bif F.cmp .gtr .f64 (Pure.s15_f64 F x0) 4598175219545276416 then bif Prod.fst (Pure.impl_SineTurns_L1 F true (Pure.s16_f64 F x0) (F.bin .mul .f64 (Pure.s16_f64 F x0) (Pure.s16_f64 F x0)) 9 4607182418800017408 8) then F.convOk .f64 .f32 (Pure.s18_f64 F x0) else false else bif Prod.fst (Pure.impl_SineTurns_L1 F true (Pure.s19_f64 F x0) (F.bin .mul .f64 (Pure.s19_f64 F x0) (Pure.s19_f64 F x0)) 9 4607182418800017408 8) then F.convOk .f64 .f32 (Pure.s21_f64 F x0) else false else bif F.cmp .gtr .f64 (F.bin .sub .f64 (F.conv .f32 .f64 x0) (F.integral Ieee.Toward.zero (F.conv .f32 .f64 x0))) 4598175219545276416 then bif Prod.fst (Pure.impl_SineTurns_L1 F false (Pure.s22_f64 F x0) (F.bin .mul .f64 (Pure.s22_f64 F x0) (Pure.s22_f64 F x0)) 9 4607182418800017408 8) then F.convOk .f64 .f32 (Pure.s23_f64 F x0) else false else bif Prod.fst (Pure.impl_SineTurns_L1 F false (Pure.s25_f64 F x0) (F.bin .mul .f64 (Pure.s25_f64 F x0) (Pure.s25_f64 F x0)) 9 4607182418800017408 8) then F.convOk .f64 .f32 (Pure.s26_f64 F x0) else false else bif F.cmp .lss .f64 (F.conv .f32 .f64 x0) 0 then bif F.cmp .geq .f64 (F.bin .add .f64 (F.conv .f32 .f64 x0) 4607182418800017408) 4602678819172646912 then bif F.cmp .gtr .f64 (F.bin .sub .f64 (F.bin .add .f64 (F.conv .f32 .f64 x0) 4607182418800017408) 4602678819172646912) 4598175219545276416 then bif Prod.fst (Pure.impl_SineTurns_L1 F true (Pure.s28_f64 F x0) (F.bin .mul .f64 (Pure.s28_f64 F x0) (Pure.s28_f64 F x0)) 9 4607182418800017408 8) then F.convOk .f64 .f32 (Pure.s30_f64 F x0) else false else bif Prod.fst (Pure.impl_SineTurns_L1 F true (F.bin .mul .f64 (F.bin .sub .f64 (F.bin .add .f64 (F.conv .f32 .f64 x0) 4607182418800017408) 4602678819172646912) 4618760256179416344) (F.bin .mul .f64 (F.bin .mul .f64 (F.bin .sub .f64 (F.bin .add .f64 (F.conv .f32 .f64 x0) 4607182418800017408) 4602678819172646912) 4618760256179416344) (F.bin .mul .f64 (F.bin .sub .f64 (F.bin .add .f64 (F.conv .f32 .f64 x0) 4607182418800017408) 4602678819172646912) 4618760256179416344)) 9 4607182418800017408 8) then F.convOk .f64 .f32 (Pure.s32_f64 F x0) else false else bif F.cmp .gtr .f64 (F.bin .add .f64 (F.conv .f32 .f64 x0) 4607182418800017408) 4598175219545276416 then bif Prod.fst (Pure.impl_SineTurns_L1 F false (F.bin .mul .f64 (F.bin .sub .f64 4602678819172646912 (F.bin .add .f64 (F.conv .f32 .f64 x0) 4607182418800017408)) 4618760256179416344) (F.bin .mul .f64 (F.bin .mul .f64 (F.bin .sub .f64 4602678819172646912 (F.bin .add .f64 (F.conv .f32 .f64 x0) 4607182418800017408)) 4618760256179416344) (F.bin .mul .f64 (F.bin .sub .f64 4602678819172646912 (F.bin .add .f64 (F.conv .f32 .f64 x0) 4607182418800017408)) 4618760256179416344)) 9 4607182418800017408 8) then F.convOk .f64 .f32 (Pure.s33_f64 F x0) else false else bif Prod.fst (Pure.impl_SineTurns_L1 F false (F.bin .mul .f64 (F.bin .add .f64 (F.conv .f32 .f64 x0) 4607182418800017408) 4618760256179416344) (F.bin .mul .f64 (F.bin .mul .f64 (F.bin .add .f64 (F.conv .f32 .f64 x0) 4607182418800017408) 4618760256179416344) (F.bin .mul .f64 (F.bin .add .f64 (F.conv .f32 .f64 x0) 4607182418800017408) 4618760256179416344)) 9 4607182418800017408 8) then F.convOk .f64 .f32 (Pure.s35_f64 F x0) else false else bif F.cmp .geq .f64 (F.conv .f32 .f64 x0) 4602678819172646912 then bif F.cmp .gtr .f64 (F.bin .sub .f64 (F.conv .f32 .f64 x0) 4602678819172646912) 4598175219545276416 then bif Prod.fst (Pure.impl_SineTurns_L1 F true (F.bin .mul .f64 (F.bin .sub .f64 4602678819172646912 (F.bin .sub .f64 (F.conv .f32 .f64 x0) 4602678819172646912)) 4618760256179416344) (F.bin .mul .f64 (F.bin .mul .f64 (F.bin .sub .f64 4602678819172646912 (F.bin .sub .f64 (F.conv .f32 .f64 x0) 4602678819172646912)) 4618760256179416344) (F.bin .mul .f64 (F.bin .sub .f64 4602678819172646912 (F.bin .sub .f64 (F.conv .f32 .f64 x0) 4602678819172646912)) 4618760256179416344)) 9 4607182418800017408 8) then F.convOk .f64 .f32 (Pure.s38_f64 F x0) else false else bif Prod.fst (Pure.impl_SineTurns_L1 F true (F.bin .mul .f64 (F.bin .sub .f64 (F.conv .f32 .f64 x0) 4602678819172646912) 4618760256179416344) (F.bin .mul .f64 (F.bin .mul .f64 (F.bin .sub .f64 (F.conv .f32 .f64 x0) 4602678819172646912) 4618760256179416344) (F.bin .mul .f64 (F.bin .sub .f64 (F.conv .f32 .f64 x0) 4602678819172646912) 4618760256179416344)) 9 4607182418800017408 8) then F.convOk .f64 .f32 (Pure.s40_f64 F x0) else false else bif F.cmp .gtr .f64 (F.conv .f32 .f64 x0) 4598175219545276416 then bif Prod.fst (Pure.impl_SineTurns_L1 F false (F.bin .mul .f64 (F.bin .sub .f64 4602678819172646912 (F.conv .f32 .f64 x0)) 4618760256179416344) (F.bin .mul .f64 (F.bin .mul .f64 (F.bin .sub .f64 4602678819172646912 (F.conv .f32 .f64 x0)) 4618760256179416344) (F.bin .mul .f64 (F.bin .sub .f64 4602678819172646912 (F.conv .f32 .f64 x0)) 4618760256179416344)) 9 4607182418800017408 8) then F.convOk .f64 .f32 (Pure.s41_f64 F x0) else false else bif Prod.fst (Pure.impl_SineTurns_L1 F false (F.bin .mul .f64 (F.conv .f32 .f64 x0) 4618760256179416344) (F.bin .mul .f64 (F.bin .mul .f64 (F.conv .f32 .f64 x0) 4618760256179416344) (F.bin .mul .f64 (F.conv .f32 .f64 x0) 4618760256179416344)) 9 4607182418800017408 8) then F.convOk .f64 .f32 (Pure.s43_f64 F x0) else false else F.convOk .f64 .f32 (F.ofBits .f64 9221120237041090561) else false
def c_impl_SineTurns (F : FOps) : Con
  | [V.at (A.fl .f32 x0)], [] => some (Pure.impl_SineTurns_ok F x0, ⟨V.at (A.fl .f32 (Pure.impl_SineTurns F x0)), none, []⟩)
  | _, _ => none
theorem e_impl_SineTurns (F : FOps) (x0 : Int) : Pure.impl_SineTurns_ok F x0 = true → evFn (cxS F tyl [(62, c_impl_IsFinite F), (100, c_math_NaN F), (101, c_math_Abs F), (102, c_math_Trunc F)] [] [(1, S_impl_SineTurns_L1 F)] 0) Try.f64 false [V.at (A.fl .f32 x0)] [] = some ⟨V.at (A.fl .f32 (Pure.impl_SineTurns F x0)), none, []⟩ := by
  have h0 : evFn (cxS F tyl [(62, c_impl_IsFinite F), (100, c_math_NaN F), (101, c_math_Abs F), (102, c_math_Trunc F)] [] [(1, S_impl_SineTurns_L1 F)] 0) Try.f64 false [V.at (A.fl .f32 x0)] [] = bif F.convOk .f32 .f64 x0 then bif Bool.not (Pure.impl_IsFinite F x0) then bif F.convOk .f64 .f32 (F.ofBits .f64 9221120237041090561) then some ⟨V.at (A.fl .f32 (F.conv .f64 .f32 (F.ofBits .f64 9221120237041090561))), none, []⟩ else none else bif F.cmp .geq .f64 (F.abs .f64 (F.conv .f32 .f64 x0)) 4841369599423283200 then some ⟨V.at (A.fl .f32 0), none, []⟩ else bif F.cmp .neq .f64 (F.integral Ieee.Toward.zero (F.conv .f32 .f64 x0)) 0 then bif F.cmp .lss .f64 (F.bin .sub .f64 (F.conv .f32 .f64 x0) (F.integral Ieee.Toward.zero (F.conv .f32 .f64 x0))) 0 then bif F.cmp .geq .f64 (Pure.s1_f64 F x0) 4602678819172646912 then bif F.cmp .gtr .f64 (Pure.s2_f64 F x0) 4598175219545276416 then bif Prod.fst (Pure.impl_SineTurns_L1 F (F.cmp .geq .f64 (Pure.s1_f64 F x0) 4602678819172646912) (Pure.s3_f64 F x0) (F.bin .mul .f64 (Pure.s3_f64 F x0) (Pure.s3_f64 F x0)) 9 4607182418800017408 8) then bif F.cmp .geq .f64 (Pure.s1_f64 F x0) 4602678819172646912 then bif F.convOk .f64 .f32 (Pure.s5_f64 F x0) then some ⟨V.at (A.fl .f32 (F.conv .f64 .f32 (Pure.s5_f64 F x0))), none, []⟩ else none else bif F.convOk .f64 .f32 (Pure.s4_f64 F x0) then some ⟨V.at (A.fl .f32 (F.conv .f64 .f32 (Pure.s4_f64 F x0))), none, []⟩ else none else none else bif Prod.fst (Pure.impl_SineTurns_L1 F (F.cmp .geq .f64 (Pure.s1_f64 F x0) 4602678819172646912) (Pure.s6_f64 F x0) (F.bin .mul .f64 (Pure.s6_f64 F x0) (Pure.s6_f64 F x0)) 9 4607182418800017408 8) then bif F.cmp .geq .f64 (Pure.s1_f64 F x0) 4602678819172646912 then bif F.convOk .f64 .f32 (Pure.s8_f64 F x0) then some ⟨V.at (A.fl .f32 (F.conv .f64 .f32 (Pure.s8_f64 F x0))), none, []⟩ else none else bif F.convOk .f64 .f32 (Pure.s7_f64 F x0) then some ⟨V.at (A.fl .f32 (F.conv .f64 .f32 (Pure.s7_f64 F x0))), none, []⟩ else none else none else bif F.cmp .gtr .f64 (Pure.s1_f64 F x0) 4598175219545276416 then bif Prod.fst (Pure.impl_SineTurns_L1 F (F.cmp .geq .f64 (Pure.s1_f64 F x0) 4602678819172646912) (Pure.s9_f64 F x0) (F.bin .mul .f64 (Pure.s9_f64 F x0) (Pure.s9_f64 F x0)) 9 4607182418800017408 8) then bif F.cmp .geq .f64 (Pure.s1_f64 F x0) 4602678819172646912 then bif F.convOk .f64 .f32 (Pure.s11_f64 F x0) then some ⟨V.at (A.fl .f32 (F.conv .f64 .f32 (Pure.s11_f64 F x0))), none, []⟩ else none else bif F.convOk .f64 .f32 (Pure.s10_f64 F x0) then some ⟨V.at (A.fl .f32 (F.conv .f64 .f32 (Pure.s10_f64 F x0))), none, []⟩ else none else none else bif Prod.fst (Pure.impl_SineTurns_L1 F (F.cmp .geq .f64 (Pure.s1_f64 F x0) 4602678819172646912) (Pure.s12_f64 F x0) (F.bin .mul .f64 (Pure.s12_f64 F x0) (Pure.s12_f64 F x0)) 9 4607182418800017408 8) then bif F.cmp .geq .f64 (Pure.s1_f64 F x0) 4602678819172646912 then bif F.convOk .f64 .f32 (Pure.s14_f64 F x0) then some ⟨V.at (A.fl .f32 (F.conv .f64 .f32 (Pure.s14_f64 F x0))), none, []⟩ else none else bif F.convOk .f64 .f32 (Pure.s13_f64 F x0) then some ⟨V.at (A.fl .f32 (F.conv .f64 .f32 (Pure.s13_f64 F x0))), none, []⟩ else none else none else bif F.cmp .geq .f64 (F.bin .sub .f64 (F.conv .f32 .f64 x0) (F.integral Ieee.Toward.zero (F.conv .f32 .f64 x0))) 4602678819172646912 then bif F.cmp .gtr .f64 (Pure.s15_f64 F x0) 4598175219545276416 then bif Prod.fst (Pure.impl_SineTurns_L1 F (F.cmp .geq .f64 (F.bin .sub .f64 (F.conv .f32 .f64 x0) (F.integral Ieee.Toward.zero (F.conv .f32 .f64 x0))) 4602678819172646912) (Pure.s16_f64 F x0) (F.bin .mul .f64 (Pure.s16_f64 F x0) (Pure.s16_f64 F x0)) 9 4607182418800017408 8) then bif F.cmp .geq .f64 (F.bin .sub .f64 (F.conv .f32 .f64 x0) (F.integral Ieee.Toward.zero (F.conv .f32 .f64 x0))) 4602678819172646912 then bif F.convOk .f64 .f32 (Pure.s18_f64 F x0) then some ⟨V.at (A.fl .f32 (F.conv .f64 .f32 (Pure.s18_f64 F x0))), none, []⟩ else none else bif F.convOk .f64 .f32 (Pure.s17_f64 F x0) then some ⟨V.at (A.fl .f32 (F.conv .f64 .f32 (Pure.s17_f64 F x0))), none, []⟩ else none else none else bif Prod.fst (Pure.impl_SineTurns_L1 F (F.cmp .geq .f64 (F.bin .sub .f64 (F.conv .f32 .f64 x0) (F.integral Ieee.Toward.zero (F.conv .f32 .f64 x0))) 4602678819172646912) (Pure.s19_f64 F x0) (F.bin .mul .f64 (Pure.s19_f64 F x0) (Pure.s19_f64 F x0)) 9 4607182418800017408 8) then bif F.cmp .geq .f64 (F.bin .sub .f64 (F.conv .f32 .f64 x0) (F.integral Ieee.Toward.zero (F.conv .f32 .f64 x0))) 4602678819172646912 then bif F.convOk .f64 .f32 (Pure.s21_f64 F x0) then some ⟨V.at (A.fl .f32 (F.conv .f64 .f32 (Pure.s21_f64 F x0))), none, []⟩ else none else bif F.convOk .f64 .f32 (Pure.s20_f64 F x0) then some ⟨V.at (A.fl .f32 (F.conv .f64 .f32 (Pure.s20_f64 F x0))), none, []⟩ else none else none else bif F.cmp .gtr .f64 (F.bin .sub .f64 (F.conv .f32 .f64 x0) (F.integral Ieee.Toward.zero (F.conv .f32 .f64 x0))) 4598175219545276416 then bif Prod.fst (Pure.impl_SineTurns_L1 F (F.cmp .geq .f64 (F.bin .sub .f64 (F.conv .f32 .f64 x0) (F.integral Ieee.Toward.zero (F.conv .f32 .f64 x0))) 4602678819172646912) (Pure.s22_f64 F x0) (F.bin .mul .f64 (Pure.s22_f64 F x0) (Pure.s22_f64 F x0)) 9 4607182418800017408 8) then bif F.cmp .geq .f64 (F.bin .sub .f64 (F.conv .f32 .f64 x0) (F.integral Ieee.Toward.zero (F.conv .f32 .f64 x0))) 4602678819172646912 then bif F.convOk .f64 .f32 (Pure.s24_f64 F x0) then some ⟨V.at (A.fl .f32 (F.conv .f64 .f32 (Pure.s24_f64 F x0))), none, []⟩ else none else bif F.convOk .f64 .f32 (Pure.s23_f64 F x0) then some ⟨V.at (A.fl .f32 (F.conv .f64 .f32 (Pure.s23_f64 F x0))), none, []⟩ else none else none else bif Prod.fst (Pure.impl_SineTurns_L1 F (F.cmp .geq .f64 (F.bin .sub .f64 (F.conv .f32 .f64 x0) (F.integral Ieee.Toward.zero (F.conv .f32 .f64 x0))) 4602678819172646912) (Pure.s25_f64 F x0) (F.bin .mul .f64 (Pure.s25_f64 F x0) (Pure.s25_f64 F x0)) 9 4607182418800017408 8) then bif F.cmp .geq .f64 (F.bin .sub .f64 (F.conv .f32 .f64 x0) (F.integral Ieee.Toward.zero (F.conv .f32 .f64 x0))) 4602678819172646912 then bif F.convOk .f64 .f32 (Pure.s27_f64 F x0) then some ⟨V.at (A.fl .f32 (F.conv .f64 .f32 (Pure.s27_f64 F x0))), none, []⟩ else none else bif F.convOk .f64 .f32 (Pure.s26_f64 F x0) then some ⟨V.at (A.fl .f32 (F.conv .f64 .f32 (Pure.s26_f64 F x0))), none, []⟩ else none else none else bif F.cmp .lss .f64 (F.conv .f32 .f64 x0) 0 then bif F.cmp .geq .f64 (F.bin .add .f64 (F.conv .f32 .f64 x0) 4607182418800017408) 4602678819172646912 then bif F.cmp .gtr .f64 (F.bin .sub .f64 (F.bin .add .f64 (F.conv .f32 .f64 x0) 4607182418800017408) 4602678819172646912) 4598175219545276416 then bif Prod.fst (Pure.impl_SineTurns_L1 F (F.cmp .geq .f64 (F.bin .add .f64 (F.conv .f32 .f64 x0) 4607182418800017408) 4602678819172646912) (Pure.s28_f64 F x0) (F.bin .mul .f64 (Pure.s28_f64 F x0) (Pure.s28_f64 F x0)) 9 4607182418800017408 8) then bif F.cmp .geq .f64 (F.bin .add .f64 (F.conv .f32 .f64 x0) 4607182418800017408) 4602678819172646912 then bif F.convOk .f64 .f32 (Pure.s30_f64 F x0) then some ⟨V.at (A.fl .f32 (F.conv .f64 .f32 (Pure.s30_f64 F x0))), none, []⟩ else none else bif F.convOk .f64 .f32 (Pure.s29_f64 F x0) then some ⟨V.at (A.fl .f32 (F.conv .f64 .f32 (Pure.s29_f64 F x0))), none, []⟩ else none else none else bif Prod.fst (Pure.impl_SineTurns_L1 F (F.cmp .geq .f64 (F.bin .add .f64 (F.conv .f32 .f64 x0) 4607182418800017408) 4602678819172646912) (F.bin .mul .f64 (F.bin .sub .f64 (F.bin .add .f64 (F.conv .f32 .f64 x0) 4607182418800017408) 4602678819172646912) 4618760256179416344) (F.bin .mul .f64 (F.bin .mul .f64 (F.bin .sub .f64 (F.bin .add .f64 (F.conv .f32 .f64 x0) 4607182418800017408) 4602678819172646912) 4618760256179416344) (F.bin .mul .f64 (F.bin .sub .f64 (F.bin .add .f64 (F.conv .f32 .f64 x0) 4607182418800017408) 4602678819172646912) 4618760256179416344)) 9 4607182418800017408 8) then bif F.cmp .geq .f64 (F.bin .add .f64 (F.conv .f32 .f64 x0) 4607182418800017408) 4602678819172646912 then bif F.convOk .f64 .f32 (Pure.s32_f64 F x0) then some ⟨V.at (A.fl .f32 (F.conv .f64 .f32 (Pure.s32_f64 F x0))), none, []⟩ else none else bif F.convOk .f64 .f32 (Pure.s31_f64 F x0) then some ⟨V.at (A.fl .f32 (F.conv .f64 .f32 (Pure.s31_f64 F x0))), none, []⟩ else none else none else bif F.cmp .gtr .f64 (F.bin .add .f64 (F.conv .f32 .f64 x0) 4607182418800017408) 4598175219545276416 then bif Prod.fst (Pure.impl_SineTurns_L1 F (F.cmp .geq .f64 (F.bin .add .f64 (F.conv .f32 .f64 x0) 4607182418800017408) 4602678819172646912) (F.bin .mul .f64 (F.bin .sub .f64 4602678819172646912 (F.bin .add .f64 (F.conv .f32 .f64 x0) 4607182418800017408)) 4618760256179416344) (F.bin .mul .f64 (F.bin .mul .f64 (F.bin .sub .f64 4602678819172646912 (F.bin .add .f64 (F.conv .f32 .f64 x0) 4607182418800017408)) 4618760256179416344) (F.bin .mul .f64 (F.bin .sub .f64 4602678819172646912 (F.bin .add .f64 (F.conv .f32 .f64 x0) 4607182418800017408)) 4618760256179416344)) 9 4607182418800017408 8) then bif F.cmp .geq .f64 (F.bin .add .f64 (F.conv .f32 .f64 x0) 4607182418800017408) 4602678819172646912 then bif F.convOk .f64 .f32 (Pure.s34_f64 F x0) then some ⟨V.at (A.fl .f32 (F.conv .f64 .f32 (Pure.s34_f64 F x0))), none, []⟩ else none else bif F.convOk .f64 .f32 (Pure.s33_f64 F x0) then some ⟨V.at (A.fl .f32 (F.conv .f64 .f32 (Pure.s33_f64 F x0))), none, []⟩ else none else none else bif Prod.fst (Pure.impl_SineTurns_L1 F (F.cmp .geq .f64 (F.bin .add .f64 (F.conv .f32 .f64 x0) 4607182418800017408) 4602678819172646912) (F.bin .mul .f64 (F.bin .add .f64 (F.conv .f32 .f64 x0) 4607182418800017408) 4618760256179416344) (F.bin .mul .f64 (F.bin .mul .f64 (F.bin .add .f64 (F.conv .f32 .f64 x0) 4607182418800017408) 4618760256179416344) (F.bin .mul .f64 (F.bin .add .f64 (F.conv .f32 .f64 x0) 4607182418800017408) 4618760256179416344)) 9 4607182418800017408 8) then bif F.cmp .geq .f64 (F.bin .add .f64 (F.conv .f32 .f64 x0) 4607182418800017408) 4602678819172646912 then bif F.convOk .f64 .f32 (Pure.s36_f64 F x0) then some ⟨V.at (A.fl .f32 (F.conv .f64 .f32 (Pure.s36_f64 F x0))), none, []⟩ else none else bif F.convOk .f64 .f32 (Pure.s35_f64 F x0) then some ⟨V.at (A.fl .f32 (F.conv .f64 .f32 (Pure.s35_f64 F x0))), none, []⟩ else none else none else bif F.cmp .geq .f64 (F.conv .f32 .f64 x0) 4602678819172646912 then bif F.cmp .gtr .f64 (F.bin .sub .f64 (F.conv .f32 .f64 x0) 4602678819172646912) 4598175219545276416 then bif Prod.fst (Pure.impl_SineTurns_L1 F (F.cmp .geq .f64 (F.conv .f32 .f64 x0) 4602678819172646912) (F.bin .mul .f64 (F.bin .sub .f64 4602678819172646912 (F.bin .sub .f64 (F.conv .f32 .f64 x0) 4602678819172646912)) 4618760256179416344) (F.bin .mul .f64 (F.bin .mul .f64 (F.bin .sub .f64 4602678819172646912 (F.bin .sub .f64 (F.conv .f32 .f64 x0) 4602678819172646912)) 4618760256179416344) (F.bin .mul .f64 (F.bin .sub .f64 4602678819172646912 (F.bin .sub .f64 (F.conv .f32 .f64 x0) 4602678819172646912)) 4618760256179416344)) 9 4607182418800017408 8) then bif F.cmp .geq .f64 (F.conv .f32 .f64 x0) 4602678819172646912 then bif F.convOk .f64 .f32 (Pure.s38_f64 F x0) then some ⟨V.at (A.fl .f32 (F.conv .f64 .f32 (Pure.s38_f64 F x0))), none, []⟩ else none else bif F.convOk .f64 .f32 (Pure.s37_f64 F x0) then some ⟨V.at (A.fl .f32 (F.conv .f64 .f32 (Pure.s37_f64 F x0))), none, []⟩ else none else none else bif Prod.fst (Pure.impl_SineTurns_L1 F (F.cmp .geq .f64 (F.conv .f32 .f64 x0) 4602678819172646912) (F.bin .mul .f64 (F.bin .sub .f64 (F.conv .f32 .f64 x0) 4602678819172646912) 4618760256179416344) (F.bin .mul .f64 (F.bin .mul .f64 (F.bin .sub .f64 (F.conv .f32 .f64 x0) 4602678819172646912) 4618760256179416344) (F.bin .mul .f64 (F.bin .sub .f64 (F.conv .f32 .f64 x0) 4602678819172646912) 4618760256179416344)) 9 4607182418800017408 8) then bif F.cmp .geq .f64 (F.conv .f32 .f64 x0) 4602678819172646912 then bif F.convOk .f64 .f32 (Pure.s40_f64 F x0) then some ⟨V.at (A.fl .f32 (F.conv .f64 .f32 (Pure.s40_f64 F x0))), none, []⟩ else none else bif F.convOk .f64 .f32 (Pure.s39_f64 F x0) then some ⟨V.at (A.fl .f32 (F.conv .f64 .f32 (Pure.s39_f64 F x0))), none, []⟩ else none else none else bif F.cmp .gtr .f64 (F.conv .f32 .f64 x0) 4598175219545276416 then bif Prod.fst (Pure.impl_SineTurns_L1 F (F.cmp .geq .f64 (F.conv .f32 .f64 x0) 4602678819172646912) (F.bin .mul .f64 (F.bin .sub .f64 4602678819172646912 (F.conv .f32 .f64 x0)) 4618760256179416344) (F.bin .mul .f64 (F.bin .mul .f64 (F.bin .sub .f64 4602678819172646912 (F.conv .f32 .f64 x0)) 4618760256179416344) (F.bin .mul .f64 (F.bin .sub .f64 4602678819172646912 (F.conv .f32 .f64 x0)) 4618760256179416344)) 9 4607182418800017408 8) then bif F.cmp .geq .f64 (F.conv .f32 .f64 x0) 4602678819172646912 then bif F.convOk .f64 .f32 (Pure.s42_f64 F x0) then some ⟨V.at (A.fl .f32 (F.conv .f64 .f32 (Pure.s42_f64 F x0))), none, []⟩ else none else bif F.convOk .f64 .f32 (Pure.s41_f64 F x0) then some ⟨V.at (A.fl .f32 (F.conv .f64 .f32 (Pure.s41_f64 F x0))), none, []⟩ else none else none else bif Prod.fst (Pure.impl_SineTurns_L1 F (F.cmp .geq .f64 (F.conv .f32 .f64 x0) 4602678819172646912) (F.bin .mul .f64 (F.conv .f32 .f64 x0) 4618760256179416344) (F.bin .mul .f64 (F.bin .mul .f64 (F.conv .f32 .f64 x0) 4618760256179416344) (F.bin .mul .f64 (F.conv .f32 .f64 x0) 4618760256179416344)) 9 4607182418800017408 8) then bif F.cmp .geq .f64 (F.conv .f32 .f64 x0) 4602678819172646912 then bif F.convOk .f64 .f32 (Pure.s44_f64 F x0) then some ⟨V.at (A.fl .f32 (F.conv .f64 .f32 (Pure.s44_f64 F x0))), none, []⟩ else none else bif F.convOk .f64 .f32 (Pure.s43_f64 F x0) then some ⟨V.at (A.fl .f32 (F.conv .f64 .f32 (Pure.s43_f64 F x0))), none, []⟩ else none else none else none := by kernel_rfl
  rw [h0]
  unfold Pure.impl_SineTurns Pure.impl_SineTurns_ok
  cases (F.convOk .f32 .f64 x0) with
  | true =>
    cases (Pure.impl_IsFinite F x0) with
    | true =>
      cases (F.cmp .geq .f64 (F.abs .f64 (F.conv .f32 .f64 x0)) 4841369599423283200) with
      | true =>
        intro _; rfl
      | false =>
        cases (F.cmp .neq .f64 (F.integral Ieee.Toward.zero (F.conv .f32 .f64 x0)) 0) with
        | true =>
          cases (F.cmp .lss .f64 (F.bin .sub .f64 (F.conv .f32 .f64 x0) (F.integral Ieee.Toward.zero (F.conv .f32 .f64 x0))) 0) with
          | true =>
            cases (F.cmp .geq .f64 (Pure.s1_f64 F x0) 4602678819172646912) with
            | true =>
              cases (F.cmp .gtr .f64 (Pure.s2_f64 F x0) 4598175219545276416) with
              | true =>
                cases (Prod.fst (Pure.impl_SineTurns_L1 F true (Pure.s3_f64 F x0) (F.bin .mul .f64 (Pure.s3_f64 F x0) (Pure.s3_f64 F x0)) 9 4607182418800017408 8)) with
                | true =>
                  cases (F.convOk .f64 .f32 (Pure.s5_f64 F x0)) with
                  | true =>
                    intro _; rfl
                  | false =>
                    intro h; exact absurd h Bool.false_ne_true
                | false =>
                  intro h; exact absurd h Bool.false_ne_true
              | false =>
                cases (Prod.fst (Pure.impl_SineTurns_L1 F true (Pure.s6_f64 F x0) (F.bin .mul .f64 (Pure.s6_f64 F x0) (Pure.s6_f64 F x0)) 9 4607182418800017408 8)) with
                | true =>
                  cases (F.convOk .f64 .f32 (Pure.s8_f64 F x0)) with
                  | true =>
                    intro _; rfl
                  | false =>
                    intro h; exact absurd h Bool.false_ne_true
                | false =>
                  intro h; exact absurd h Bool.false_ne_true
            | false =>
              cases (F.cmp .gtr .f64 (Pure.s1_f64 F x0) 4598175219545276416) with
              | true =>
                cases (Prod.fst (Pure.impl_SineTurns_L1 F false (Pure.s9_f64 F x0) (F.bin .mul .f64 (Pure.s9_f64 F x0) (Pure.s9_f64 F x0)) 9 4607182418800017408 8)) with
                | true =>
                  cases (F.convOk .f64 .f32 (Pure.s10_f64 F x0)) with
                  | true =>
                    intro _; rfl
                  | false =>
                    intro h; exact absurd h Bool.false_ne_true
                | false =>
                  intro h; exact absurd h Bool.false_ne_true
              | false =>
                cases (Prod.fst (Pure.impl_SineTurns_L1 F false (Pure.s12_f64 F x0) (F.bin .mul .f64 (Pure.s12_f64 F x0) (Pure.s12_f64 F x0)) 9 4607182418800017408 8)) with
                | true =>
                  cases (F.convOk .f64 .f32 (Pure.s13_f64 F x0)) with
                  | true =>
                    intro _; rfl
                  | false =>
                    intro h; exact absurd h Bool.false_ne_true
                | false =>
                  intro h; exact absurd h Bool.false_ne_true
          | false =>
            cases (F.cmp .geq .f64 (F.bin .sub .f64 (F.conv .f32 .f64 x0) (F.integral Ieee.Toward.zero (F.conv .f32 .f64 x0))) 4602678819172646912) with
            | true =>
              cases (F.cmp .gtr .f64 (Pure.s15_f64 F x0) 4598175219545276416) with
              | true =>
                cases (Prod.fst (Pure.impl_SineTurns_L1 F true (Pure.s16_f64 F x0) (F.bin .mul .f64 (Pure.s16_f64 F x0) (Pure.s16_f64 F x0)) 9 4607182418800017408 8)) with
                | true =>
                  cases (F.convOk .f64 .f32 (Pure.s18_f64 F x0)) with
                  | true =>
                    intro _; rfl
                  | false =>
                    intro h; exact absurd h Bool.false_ne_true
                | false =>
                  intro h; exact absurd h Bool.false_ne_true
              | false =>
                cases (Prod.fst (Pure.impl_SineTurns_L1 F true (Pure.s19_f64 F x0) (F.bin .mul .f64 (Pure.s19_f64 F x0) (Pure.s19_f64 F x0)) 9 4607182418800017408 8)) with
                | true =>
                  cases (F.convOk .f64 .f32 (Pure.s21_f64 F x0)) with
                  | true =>
                    intro _; rfl
                  | false =>
                    intro h; exact absurd h Bool.false_ne_true
                | false =>
                  intro h; exact absurd h Bool.false_ne_true
            | false =>
              cases (F.cmp .gtr .f64 (F.bin .sub .f64 (F.conv .f32 .f64 x0) (F.integral Ieee.Toward.zero (F.conv .f32 .f64 x0))) 4598175219545276416) with
              | true =>
                cases (Prod.fst (Pure.impl_SineTurns_L1 F false (Pure.s22_f64 F x0) (F.bin .mul .f64 (Pure.s22_f64 F x0) (Pure.s22_f64 F x0)) 9 4607182418800017408 8)) with
                | true =>
                  cases (F.convOk .f64 .f32 (Pure.s23_f64 F x0)) with
                  | true =>
                    intro _; rfl
                  | false =>
                    intro h; exact absurd h Bool.false_ne_true
                | false =>
                  intro h; exact absurd h Bool.false_ne_true
              | false =>
                cases (Prod.fst (Pure.impl_SineTurns_L1 F false (Pure.s25_f64 F x0) (F.bin .mul .f64 (Pure.s25_f64 F x0) (Pure.s25_f64 F x0)) 9 4607182418800017408 8)) with
                | true =>
                  cases (F.convOk .f64 .f32 (Pure.s26_f64 F x0)) with
                  | true =>
                    intro _; rfl
                  | false =>
                    intro h; exact absurd h Bool.false_ne_true
                | false =>
                  intro h; exact absurd h Bool.false_ne_true
        | false =>
          cases (F.cmp .lss .f64 (F.conv .f32 .f64 x0) 0) with
          | true =>
            cases (F.cmp .geq .f64 (F.bin .add .f64 (F.conv .f32 .f64 x0) 4607182418800017408) 4602678819172646912) with
            | true =>
              cases (F.cmp .gtr .f64 (F.bin .sub .f64 (F.bin .add .f64 (F.conv .f32 .f64 x0) 4607182418800017408) 4602678819172646912) 4598175219545276416) with
              | true =>
                cases (Prod.fst (Pure.impl_SineTurns_L1 F true (Pure.s28_f64 F x0) (F.bin .mul .f64 (Pure.s28_f64 F x0) (Pure.s28_f64 F x0)) 9 4607182418800017408 8)) with
                | true =>
                  cases (F.convOk .f64 .f32 (Pure.s30_f64 F x0)) with
                  | true =>
                    intro _; rfl
                  | false =>
                    intro h; exact absurd h Bool.false_ne_true
                | false =>
                  intro h; exact absurd h Bool.false_ne_true
              | false =>
                cases (Prod.fst (Pure.impl_SineTurns_L1 F true (F.bin .mul .f64 (F.bin .sub .f64 (F.bin .add .f64 (F.conv .f32 .f64 x0) 4607182418800017408) 4602678819172646912) 4618760256179416344) (F.bin .mul .f64 (F.bin .mul .f64 (F.bin .sub .f64 (F.bin .add .f64 (F.conv .f32 .f64 x0) 4607182418800017408) 4602678819172646912) 4618760256179416344) (F.bin .mul .f64 (F.bin .sub .f64 (F.bin .add .f64 (F.conv .f32 .f64 x0) 4607182418800017408) 4602678819172646912) 4618760256179416344)) 9 4607182418800017408 8)) with
                | true =>
                  cases (F.convOk .f64 .f32 (Pure.s32_f64 F x0)) with
                  | true =>
                    intro _; rfl
                  | false =>
                    intro h; exact absurd h Bool.false_ne_true
                | false =>
                  intro h; exact absurd h Bool.false_ne_true
            | false =>
              cases (F.cmp .gtr .f64 (F.bin .add .f64 (F.conv .f32 .f64 x0) 4607182418800017408) 4598175219545276416) with
              | true =>
                cases (Prod.fst (Pure.impl_SineTurns_L1 F false (F.bin .mul .f64 (F.bin .sub .f64 4602678819172646912 (F.bin .add .f64 (F.conv .f32 .f64 x0) 4607182418800017408)) 4618760256179416344) (F.bin .mul .f64 (F.bin .mul .f64 (F.bin .sub .f64 4602678819172646912 (F.bin .add .f64 (F.conv .f32 .f64 x0) 4607182418800017408)) 4618760256179416344) (F.bin .mul .f64 (F.bin .sub .f64 4602678819172646912 (F.bin .add .f64 (F.conv .f32 .f64 x0) 4607182418800017408)) 4618760256179416344)) 9 4607182418800017408 8)) with
                | true =>
                  cases (F.convOk .f64 .f32 (Pure.s33_f64 F x0)) with
                  | true =>
                    intro _; rfl
                  | false =>
                    intro h; exact absurd h Bool.false_ne_true
                | false =>
                  intro h; exact absurd h Bool.false_ne_true
              | false =>
                cases (Prod.fst (Pure.impl_SineTurns_L1 F false (F.bin .mul .f64 (F.bin .add .f64 (F.conv .f32 .f64 x0) 4607182418800017408) 4618760256179416344) (F.bin .mul .f64 (F.bin .mul .f64 (F.bin .add .f64 (F.conv .f32 .f64 x0) 4607182418800017408) 4618760256179416344) (F.bin .mul .f64 (F.bin .add .f64 (F.conv .f32 .f64 x0) 4607182418800017408) 4618760256179416344)) 9 4607182418800017408 8)) with
                | true =>
                  cases (F.convOk .f64 .f32 (Pure.s35_f64 F x0)) with
                  | true =>
                    intro _; rfl
                  | false =>
                    intro h; exact absurd h Bool.false_ne_true
                | false =>
                  intro h; exact absurd h Bool.false_ne_true
          | false =>
            cases (F.cmp .geq .f64 (F.conv .f32 .f64 x0) 4602678819172646912) with
            | true =>
              cases (F.cmp .gtr .f64 (F.bin .sub .f64 (F.conv .f32 .f64 x0) 4602678819172646912) 4598175219545276416) with
              | true =>
                cases (Prod.fst (Pure.impl_SineTurns_L1 F true (F.bin .mul .f64 (F.bin .sub .f64 4602678819172646912 (F.bin .sub .f64 (F.conv .f32 .f64 x0) 4602678819172646912)) 4618760256179416344) (F.bin .mul .f64 (F.bin .mul .f64 (F.bin .sub .f64 4602678819172646912 (F.bin .sub .f64 (F.conv .f32 .f64 x0) 4602678819172646912)) 4618760256179416344) (F.bin .mul .f64 (F.bin .sub .f64 4602678819172646912 (F.bin .sub .f64 (F.conv .f32 .f64 x0) 4602678819172646912)) 4618760256179416344)) 9 4607182418800017408 8)) with
                | true =>
                  cases (F.convOk .f64 .f32 (Pure.s38_f64 F x0)) with
                  | true =>
                    intro _; rfl
                  | false =>
                    intro h; exact absurd h Bool.false_ne_true
                | false =>
                  intro h; exact absurd h Bool.false_ne_true
              | false =>
                cases (Prod.fst (Pure.impl_SineTurns_L1 F true (F.bin .mul .f64 (F.bin .sub .f64 (F.conv .f32 .f64 x0) 4602678819172646912) 4618760256179416344) (F.bin .mul .f64 (F.bin .mul .f64 (F.bin .sub .f64 (F.conv .f32 .f64 x0) 4602678819172646912) 4618760256179416344) (F.bin .mul .f64 (F.bin .sub .f64 (F.conv .f32 .f64 x0) 4602678819172646912) 4618760256179416344)) 9 4607182418800017408 8)) with
                | true =>
                  cases (F.convOk .f64 .f32 (Pure.s40_f64 F x0)) with
                  | true =>
                    intro _; rfl
                  | false =>
                    intro h; exact absurd h Bool.false_ne_true
                | false =>
                  intro h; exact absurd h Bool.false_ne_true
            | false =>
              cases (F.cmp .gtr .f64 (F.conv .f32 .f64 x0) 4598175219545276416) with
              | true =>
                cases (Prod.fst (Pure.impl_SineTurns_L1 F false (F.bin .mul .f64 (F.bin .sub .f64 4602678819172646912 (F.conv .f32 .f64 x0)) 4618760256179416344) (F.bin .mul .f64 (F.bin .mul .f64 (F.bin .sub .f64 4602678819172646912 (F.conv .f32 .f64 x0)) 4618760256179416344) (F.bin .mul .f64 (F.bin .sub .f64 4602678819172646912 (F.conv .f32 .f64 x0)) 4618760256179416344)) 9 4607182418800017408 8)) with
                | true =>
                  cases (F.convOk .f64 .f32 (Pure.s41_f64 F x0)) with
                  | true =>
                    intro _; rfl
                  | false =>
                    intro h; exact absurd h Bool.false_ne_true
                | false =>
                  intro h; exact absurd h Bool.false_ne_true
              | false =>
                cases (Prod.fst (Pure.impl_SineTurns_L1 F false (F.bin .mul .f64 (F.conv .f32 .f64 x0) 4618760256179416344) (F.bin .mul .f64 (F.bin .mul .f64 (F.conv .f32 .f64 x0) 4618760256179416344) (F.bin .mul .f64 (F.conv .f32 .f64 x0) 4618760256179416344)) 9 4607182418800017408 8)) with
                | true =>
                  cases (F.convOk .f64 .f32 (Pure.s43_f64 F x0)) with
                  | true =>
                    intro _; rfl
                  | false =>
                    intro h; exact absurd h Bool.false_ne_true
                | false =>
                  intro h; exact absurd h Bool.false_ne_true
    | false =>
      cases (F.convOk .f64 .f32 (F.ofBits .f64 9221120237041090561)) with
      | true =>
        intro _; rfl
      | false =>
        intro h; exact absurd h Bool.false_ne_true
  | false =>
    intro h; exact absurd h Bool.false_ne_true
theorem ok_impl_SineTurns : CallOK Try.prog 64 (c_impl_SineTurns real) := by
  refine callOK_of fun args h ret hc => ?_
  unfold c_impl_SineTurns at hc
  split at hc
  · rename_i x0
    obtain ⟨hok, rfl⟩ := some_ret hc
    exact holds_ev prog_ok (allOK_cons ok_impl_IsFinite (allOK_cons ok_math_NaN (allOK_cons ok_math_Abs (allOK_cons ok_math_Trunc allOK_nil)))) Try.func64 rfl rfl (smL_cons (body := .loop (loopB 1 (codeOf Try.f64))) (by kernel_rfl) t_impl_SineTurns_L1 smL_nil) rfl (e_impl_SineTurns real x0 hok)
  · cases hc
def Pure.impl_toldNumber (F : FOps) (x0 : Int) : Int := bif Pure.impl_IsFinite F x0 then x0 else 0
def c_impl_toldNumber (F : FOps) : Con
  | [V.at (A.fl .f32 x0)], [] => some (true, ⟨V.tup [(false, [A.fl .f32 (Pure.impl_toldNumber F x0)]), (false, [A.bool (Pure.impl_IsFinite F x0)])], none, []⟩)
  | _, _ => none
theorem e_impl_toldNumber (F : FOps) (x0 : Int) : evFn (cxS F tyl [(62, c_impl_IsFinite F)] [] [] 0) Try.f63 false [V.at (A.fl .f32 x0)] [] = some ⟨V.tup [(false, [A.fl .f32 (Pure.impl_toldNumber F x0)]), (false, [A.bool (Pure.impl_IsFinite F x0)])], none, []⟩ := by
  have h0 : evFn (cxS F tyl [(62, c_impl_IsFinite F)] [] [] 0) Try.f63 false [V.at (A.fl .f32 x0)] [] = bif Bool.not (Pure.impl_IsFinite F x0) then some ⟨V.tup [(false, [A.fl .f32 0]), (false, [A.bool false])], none, []⟩ else some ⟨V.tup [(false, [A.fl .f32 x0]), (false, [A.bool true])], none, []⟩ := by kernel_rfl
  rw [h0]
  unfold Pure.impl_toldNumber
  cases (Pure.impl_IsFinite F x0) with
  | true =>
    rfl
  | false =>
    rfl
theorem ok_impl_toldNumber : CallOK Try.prog 63 (c_impl_toldNumber real) := by
  refine callOK_of fun args h ret hc => ?_
  unfold c_impl_toldNumber at hc
  split at hc
  · rename_i x0
    obtain ⟨_, rfl⟩ := some_ret hc
    exact holds_ev prog_ok (allOK_cons ok_impl_IsFinite allOK_nil) Try.func63 rfl rfl smL_nil rfl (e_impl_toldNumber real x0)
  · cases hc
def Pure.impl_TableAt (F : FOps) (x0 x1 x2 x3 x4 : Int) : Int := bif Pure.impl_ValidTable F x0 x1 x2 x3 then bif Pure.impl_IsFinite F x4 then Pure.impl_toldNumber F (F.bin .mul .f32 x0 (Pure.impl_SineTurns F (F.bin .mul .f32 x1 x4))) else 0 else 0
def Pure.impl_TableAt_1 (F : FOps) (x0 x1 x2 x3 x4 : Int) : Bool := bif Pure.impl_ValidTable F x0 x1 x2 x3 then bif Pure.impl_IsFinite F x4 then Pure.impl_IsFinite F (F.bin .mul .f32 x0 (Pure.impl_SineTurns F (F.bin .mul .f32 x1 x4))) else false else false
def Pure.impl_TableAt_ok (F : FOps) (x0 x1 x2 x3 x4 : Int) : Bool := bif Pure.impl_ValidTable_ok F x0 x1 x2 x3 then bif Pure.impl_ValidTable F x0 x1 x2 x3 then bif Pure.impl_IsFinite F x4 then Pure.impl_SineTurns_ok F (F.bin .mul .f32 x1 x4) else true else true else false
def c_impl_TableAt (F : FOps) : Con
  | [V.agg [A.fl .f32 x0, A.fl .f32 x1, A.fl .f32 x2, A.fl .f32 x3], V.at (A.fl .f32 x4)], [] => some (Pure.impl_TableAt_ok F x0 x1 x2 x3 x4, ⟨V.tup [(false, [A.fl .f32 (Pure.impl_TableAt F x0 x1 x2 x3 x4)]), (false, [A.bool (Pure.impl_TableAt_1 F x0 x1 x2 x3 x4)])], none, []⟩)
  | _, _ => none
theorem e_impl_TableAt (F : FOps) (x0 x1 x2 x3 x4 : Int) : Pure.impl_TableAt_ok F x0 x1 x2 x3 x4 = true → evFn (cxS F tyl [(24, c_impl_ValidTable F), (62, c_impl_IsFinite F), (64, c_impl_SineTurns F), (63, c_impl_toldNumber F)] [] [] 0) Try.f17 false [V.agg [A.fl .f32 x0, A.fl .f32 x1, A.fl .f32 x2, A.fl .f32 x3], V.at (A.fl .f32 x4)] [] = some ⟨V.tup [(false, [A.fl .f32 (Pure.impl_TableAt F x0 x1 x2 x3 x4)]), (false, [A.bool (Pure.impl_TableAt_1 F x0 x1 x2 x3 x4)])], none, []⟩ := by
  have h0 : evFn (cxS F tyl [(24, c_impl_ValidTable F), (62, c_impl_IsFinite F), (64, c_impl_SineTurns F), (63, c_impl_toldNumber F)] [] [] 0) Try.f17 false [V.agg [A.fl .f32 x0, A.fl .f32 x1, A.fl .f32 x2, A.fl .f32 x3], V.at (A.fl .f32 x4)] [] = bif Pure.impl_ValidTable_ok F x0 x1 x2 x3 then bif Bool.not (Pure.impl_ValidTable F x0 x1 x2 x3) then some ⟨V.tup [(false, [A.fl .f32 0]), (false, [A.bool false])], none, []⟩ else bif Bool.not (Pure.impl_IsFinite F x4) then some ⟨V.tup [(false, [A.fl .f32 0]), (false, [A.bool false])], none, []⟩ else bif Pure.impl_SineTurns_ok F (F.bin .mul .f32 x1 x4) then some ⟨V.tup [(false, [A.fl .f32 (Pure.impl_toldNumber F (F.bin .mul .f32 x0 (Pure.impl_SineTurns F (F.bin .mul .f32 x1 x4))))]), (false, [A.bool (Pure.impl_IsFinite F (F.bin .mul .f32 x0 (Pure.impl_SineTurns F (F.bin .mul .f32 x1 x4))))])], none, []⟩ else none else none := by kernel_rfl
  rw [h0]
  unfold Pure.impl_TableAt Pure.impl_TableAt_1 Pure.impl_TableAt_ok
  cases (Pure.impl_ValidTable_ok F x0 x1 x2 x3) with
  | true =>
    cases (Pure.impl_ValidTable F x0 x1 x2 x3) with
    | true =>
      cases (Pure.impl_IsFinite F x4) with
      | true =>
        cases (Pure.impl_SineTurns_ok F (F.bin .mul .f32 x1 x4)) with
        | true =>
          intro _; rfl
        | false =>
          intro h; exact absurd h Bool.false_ne_true
      | false =>
        intro _; rfl
    | false =>
      intro _; rfl
  | false =>
    intro h; exact absurd h Bool.false_ne_true
theorem ok_impl_TableAt : CallOK Try.prog 17 (c_impl_TableAt real) := by
  refine callOK_of fun args h ret hc => ?_
  unfold c_impl_TableAt at hc
  split at hc
  · rename_i x0 x1 x2 x3 x4
    obtain ⟨hok, rfl⟩ := some_ret hc
    exact holds_ev prog_ok (allOK_cons ok_impl_ValidTable (allOK_cons ok_impl_IsFinite (allOK_cons ok_impl_SineTurns (allOK_cons ok_impl_toldNumber allOK_nil)))) Try.func17 rfl rfl smL_nil rfl (e_impl_TableAt real x0 x1 x2 x3 x4 hok)
  · cases hc
def Pure.impl_under (F : FOps) (x0 x1 x2 x3 x4 x5 x6 x7 : Int) : Bool := F.cmp .lss .f32 (Pure.impl_FlyFall F x0 x1 x2 x3 x4 x5 x6 x7) (Pure.impl_TableAt F x0 x1 x2 x3 (Pure.impl_FlyFall_2 F x0 x1 x2 x3 x4 x5 x6 x7))
def Pure.impl_under_1 (F : FOps) (x0 x1 x2 x3 x4 x5 x6 x7 : Int) : Bool := bif Pure.impl_FlyFall_3 F x0 x1 x2 x3 x4 x5 x6 x7 then Pure.impl_TableAt_1 F x0 x1 x2 x3 (Pure.impl_FlyFall_2 F x0 x1 x2 x3 x4 x5 x6 x7) else false
def Pure.impl_under_ok (F : FOps) (x0 x1 x2 x3 x4 x5 x6 x7 : Int) : Bool := bif Pure.impl_FlyFall_ok F x0 x1 x2 x3 x4 x5 x6 x7 then Pure.impl_TableAt_ok F x0 x1 x2 x3 (Pure.impl_FlyFall_2 F x0 x1 x2 x3 x4 x5 x6 x7) else false
def c_impl_under (F : FOps) : Con
  | [V.agg [A.fl .f32 x0, A.fl .f32 x1, A.fl .f32 x2, A.fl .f32 x3], V.agg [A.fl .f32 x4, A.fl .f32 x5, A.fl .f32 x6], V.at (A.fl .f32 x7)], [] => some (Pure.impl_under_ok F x0 x1 x2 x3 x4 x5 x6 x7, ⟨V.tup [(false, [A.bool (Pure.impl_under F x0 x1 x2 x3 x4 x5 x6 x7)]), (false, [A.bool (Pure.impl_under_1 F x0 x1 x2 x3 x4 x5 x6 x7)])], none, []⟩)
  | _, _ => none
theorem e_impl_under (F : FOps) (x0 x1 x2 x3 x4 x5 x6 x7 : Int) : Pure.impl_under_ok F x0 x1 x2 x3 x4 x5 x6 x7 = true → evFn (cxS F tyl [(25, c_impl_FlyFall F), (17, c_impl_TableAt F)] [] [] 0) Try.f69 false [V.agg [A.fl .f32 x0, A.fl .f32 x1, A.fl .f32 x2, A.fl .f32 x3], V.agg [A.fl .f32 x4, A.fl .f32 x5, A.fl .f32 x6], V.at (A.fl .f32 x7)] [] = some ⟨V.tup [(false, [A.bool (Pure.impl_under F x0 x1 x2 x3 x4 x5 x6 x7)]), (false, [A.bool (Pure.impl_under_1 F x0 x1 x2 x3 x4 x5 x6 x7)])], none, []⟩ := by
  have h0 : evFn (cxS F tyl [(25, c_impl_FlyFall F), (17, c_impl_TableAt F)] [] [] 0) Try.f69 false [V.agg [A.fl .f32 x0, A.fl .f32 x1, A.fl .f32 x2, A.fl .f32 x3], V.agg [A.fl .f32 x4, A.fl .f32 x5, A.fl .f32 x6], V.at (A.fl .f32 x7)] [] = bif Pure.impl_FlyFall_ok F x0 x1 x2 x3 x4 x5 x6 x7 then bif Pure.impl_TableAt_ok F x0 x1 x2 x3 (Pure.impl_FlyFall_2 F x0 x1 x2 x3 x4 x5 x6 x7) then bif Pure.impl_FlyFall_3 F x0 x1 x2 x3 x4 x5 x6 x7 then some ⟨V.tup [(false, [A.bool (F.cmp .lss .f32 (Pure.impl_FlyFall F x0 x1 x2 x3 x4 x5 x6 x7) (Pure.impl_TableAt F x0 x1 x2 x3 (Pure.impl_FlyFall_2 F x0 x1 x2 x3 x4 x5 x6 x7)))]), (false, [A.bool (Pure.impl_TableAt_1 F x0 x1 x2 x3 (Pure.impl_FlyFall_2 F x0 x1 x2 x3 x4 x5 x6 x7))])], none, []⟩ else some ⟨V.tup [(false, [A.bool (F.cmp .lss .f32 (Pure.impl_FlyFall F x0 x1 x2 x3 x4 x5 x6 x7) (Pure.impl_TableAt F x0 x1 x2 x3 (Pure.impl_FlyFall_2 F x0 x1 x2 x3 x4 x5 x6 x7)))]), (false, [A.bool false])], none, []⟩ else none else none := by kernel_rfl
  rw [h0]
  unfold Pure.impl_under Pure.impl_under_1 Pure.impl_under_ok
  cases (Pure.impl_FlyFall_ok F x0 x1 x2 x3 x4 x5 x6 x7) with
  | true =>
    cases (Pure.impl_TableAt_ok F x0 x1 x2 x3 (Pure.impl_FlyFall_2 F x0 x1 x2 x3 x4 x5 x6 x7)) with
    | true =>
      cases (Pure.impl_FlyFall_3 F x0 x1 x2 x3 x4 x5 x6 x7) with
      | true =>
        intro _; rfl
      | false =>
        intro _; rfl
    | false =>
      intro h; exact absurd h Bool.false_ne_true
  | false =>
    intro h; exact absurd h Bool.false_ne_true
theorem ok_impl_under : CallOK Try.prog 69 (c_impl_under real) := by
  refine callOK_of fun args h ret hc => ?_
  unfold c_impl_under at hc
  split at hc
  · rename_i x0 x1 x2 x3 x4 x5 x6 x7
    obtain ⟨hok, rfl⟩ := some_ret hc
    exact holds_ev prog_ok (allOK_cons ok_impl_FlyFall (allOK_cons ok_impl_TableAt allOK_nil)) Try.func69 rfl rfl smL_nil rfl (e_impl_under real x0 x1 x2 x3 x4 x5 x6 x7 hok)
  · cases hc
def Pure.impl_NextHit_L0 (F : FOps) (y0 y1 y4 y5 y6 y7 y8 y9 y10 : Int) : Nat → Int → Bool → (Bool × Bool × Int × Bool × Int × Bool)
  | 0, _, _ => (false, false, 0, false, 0, false)
  | n + 1, y2, y3 => bif (decide (y2 < y1)) then (bif y3 then ((true, false, y2, y3, 0, false)) else (bif (Pure.impl_under_ok F y4 y5 y6 y7 y8 y9 y10 (F.bin .mul .f32 (F.ofInt .f32 (IntKind.wrap .i64 (y2 + 1))) y0)) then (bif (Pure.impl_under_1 F y4 y5 y6 y7 y8 y9 y10 (F.bin .mul .f32 (F.ofInt .f32 (IntKind.wrap .i64 (y2 + 1))) y0)) then (Pure.impl_NextHit_L0 F y0 y1 y4 y5 y6 y7 y8 y9 y10 n (IntKind.wrap .i64 (y2 + 1)) (Pure.impl_under F y4 y5 y6 y7 y8 y9 y10 (F.bin .mul .f32 (F.ofInt .f32 (IntKind.wrap .i64 (y2 + 1))) y0))) else ((true, true, 0, false, IntKind.wrap .i64 (y2 + 1), Pure.impl_under F y4 y5 y6 y7 y8 y9 y10 (F.bin .mul .f32 (F.ofInt .f32 (IntKind.wrap .i64 (y2 + 1))) y0)))) else ((false, false, 0, false, 0, false)))) else ((true, false, y2, y3, 0, false))
def R_impl_NextHit_L0 (y0 y4 y5 y6 y7 y8 y9 y10 : Int) (r : (Bool × Bool × Int × Bool × Int × Bool)) : Bool × Ends := ((r).1, .two (r).2.1 (.one Ex.normal [V.at (A.fl .f32 y0), V.at (A.ptr 0 0 0), V.at (A.ptr 1 0 0), V.at A.undef, V.at A.undef, V.at (A.int .i64 (r).2.2.1), V.at (A.bool (r).2.2.2.1)] [⟨true, .box [A.fl .f32 y4, A.fl .f32 y5, A.fl .f32 y6, A.fl .f32 y7]⟩, ⟨true, .box [A.fl .f32 y8, A.fl .f32 y9, A.fl .f32 y10]⟩]) (.one Ex.ret [V.at (A.fl .f32 y0), V.at (A.ptr 0 0 0), V.at (A.ptr 1 0 0), V.at (A.fl .f32 0), V.at (A.bool false), V.at (A.int .i64 (r).2.2.2.2.1), V.at (A.bool (r).2.2.2.2.2)] [⟨true, .box [A.fl .f32 y4, A.fl .f32 y5, A.fl .f32 y6, A.fl .f32 y7]⟩, ⟨true, .box [A.fl .f32 y8, A.fl .f32 y9, A.fl .f32 y10]⟩]))
def S_impl_NextHit_L0 (F : FOps) : Sm := ⟨[2, 3, 4, 5, 10, 11], [22, 2, 0, 0, 2, 4], [2, 4, 5, 8, 9, 10, 11], fun vals hp => match vals, hp with
  | [V.at (A.fl .f32 y0), V.at (A.int .i64 y1), V.at (A.ptr 0 0 0), V.at (A.ptr 1 0 0), V.at (A.int .i64 y2), V.at (A.bool y3)], [⟨true, .box [A.fl .f32 y4, A.fl .f32 y5, A.fl .f32 y6, A.fl .f32 y7]⟩, ⟨true, .box [A.fl .f32 y8, A.fl .f32 y9, A.fl .f32 y10]⟩] => some (R_impl_NextHit_L0 y0 y4 y5 y6 y7 y8 y9 y10 (Pure.impl_NextHit_L0 F y0 y1 y4 y5 y6 y7 y8 y9 y10 (y1 - y2 + 1).toNat y2 y3))
  | _, _ => none⟩
theorem l_impl_NextHit_L0 (F : FOps) (y0 y1 y4 y5 y6 y7 y8 y9 y10 : Int) : ∀ (fuel : Nat) (y2 : Int) (y3 : Bool), (Pure.impl_NextHit_L0 F y0 y1 y4 y5 y6 y7 y8 y9 y10 fuel y2 y3).1 = true → loopOf (cxS F tyl [(66, c_impl_fallOk F), (67, c_impl_lengthOk F), (68, c_impl_in F), (69, c_impl_under F)] [] [] 0) 0 82 0 [2, 3, 4, 5, 10, 11] [22, 2, 0, 0, 2, 4] [2, 4, 5, 8, 9, 10, 11] (loopB 0 (codeOf Try.f23)) fuel [V.at (A.fl .f32 y0), V.at (A.int .i64 y1), V.at (A.ptr 0 0 0), V.at (A.ptr 1 0 0), V.at (A.int .i64 y2), V.at (A.bool y3)] [⟨true, .box [A.fl .f32 y4, A.fl .f32 y5, A.fl .f32 y6, A.fl .f32 y7]⟩, ⟨true, .box [A.fl .f32 y8, A.fl .f32 y9, A.fl .f32 y10]⟩] = resOf (R_impl_NextHit_L0 y0 y4 y5 y6 y7 y8 y9 y10 (Pure.impl_NextHit_L0 F y0 y1 y4 y5 y6 y7 y8 y9 y10 fuel y2 y3)) := by
  intro fuel
  induction fuel with
  | zero => intro y2 y3 h; exact absurd h Bool.false_ne_true
  | succ n ih =>
    intro y2 y3
    have h0 : roundOf (cxS F tyl [(66, c_impl_fallOk F), (67, c_impl_lengthOk F), (68, c_impl_in F), (69, c_impl_under F)] [] [] 0) 0 82 0 [2, 3, 4, 5, 10, 11] [22, 2, 0, 0, 2, 4] [2, 4, 5, 8, 9, 10, 11] (loopB 0 (codeOf Try.f23)) [V.at (A.fl .f32 y0), V.at (A.int .i64 y1), V.at (A.ptr 0 0 0), V.at (A.ptr 1 0 0), V.at (A.int .i64 y2), V.at (A.bool y3)] [⟨true, .box [A.fl .f32 y4, A.fl .f32 y5, A.fl .f32 y6, A.fl .f32 y7]⟩, ⟨true, .box [A.fl .f32 y8, A.fl .f32 y9, A.fl .f32 y10]⟩] = (bif decide (y2 < y1) then bif Bool.not y3 then bif Pure.impl_under_ok F y4 y5 y6 y7 y8 y9 y10 (F.bin .mul .f32 (F.ofInt .f32 (IntKind.wrap .i64 (y2 + 1))) y0) then bif Bool.not (Pure.impl_under_1 F y4 y5 y6 y7 y8 y9 y10 (F.bin .mul .f32 (F.ofInt .f32 (IntKind.wrap .i64 (y2 + 1))) y0)) then some (false, (Ex.ret, ([V.at (A.fl .f32 y0), V.at (A.ptr 0 0 0), V.at (A.ptr 1 0 0), V.at (A.fl .f32 0), V.at (A.bool false), V.at (A.int .i64 (IntKind.wrap .i64 (y2 + 1))), V.at (A.bool (Pure.impl_under F y4 y5 y6 y7 y8 y9 y10 (F.bin .mul .f32 (F.ofInt .f32 (IntKind.wrap .i64 (y2 + 1))) y0)))], [⟨true, .box [A.fl .f32 y4, A.fl .f32 y5, A.fl .f32 y6, A.fl .f32 y7]⟩, ⟨true, .box [A.fl .f32 y8, A.fl .f32 y9, A.fl .f32 y10]⟩]))) else some (true, (Ex.normal, ([V.at (A.fl .f32 y0), V.at (A.int .i64 y1), V.at (A.ptr 0 0 0), V.at (A.ptr 1 0 0), V.at (A.int .i64 (IntKind.wrap .i64 (y2 + 1))), V.at (A.bool (Pure.impl_under F y4 y5 y6 y7 y8 y9 y10 (F.bin .mul .f32 (F.ofInt .f32 (IntKind.wrap .i64 (y2 + 1))) y0)))], [⟨true, .box [A.fl .f32 y4, A.fl .f32 y5, A.fl .f32 y6, A.fl .f32 y7]⟩, ⟨true, .box [A.fl .f32 y8, A.fl .f32 y9, A.fl .f32 y10]⟩]))) else none else some (false, (Ex.normal, ([V.at (A.fl .f32 y0), V.at (A.ptr 0 0 0), V.at (A.ptr 1 0 0), V.at A.undef, V.at A.undef, V.at (A.int .i64 y2), V.at (A.bool y3)], [⟨true, .box [A.fl .f32 y4, A.fl .f32 y5, A.fl .f32 y6, A.fl .f32 y7]⟩, ⟨true, .box [A.fl .f32 y8, A.fl .f32 y9, A.fl .f32 y10]⟩]))) else some (false, (Ex.normal, ([V.at (A.fl .f32 y0), V.at (A.ptr 0 0 0), V.at (A.ptr 1 0 0), V.at A.undef, V.at A.undef, V.at (A.int .i64 y2), V.at (A.bool y3)], [⟨true, .box [A.fl .f32 y4, A.fl .f32 y5, A.fl .f32 y6, A.fl .f32 y7]⟩, ⟨true, .box [A.fl .f32 y8, A.fl .f32 y9, A.fl .f32 y10]⟩])))) := by kernel_rfl
    unfold loopOf
    rw [h0]
    unfold Pure.impl_NextHit_L0
    cases (decide (y2 < y1)) with
    | true =>
      cases y3 with
      | true =>
        intro _; rfl
      | false =>
        cases (Pure.impl_under_ok F y4 y5 y6 y7 y8 y9 y10 (F.bin .mul .f32 (F.ofInt .f32 (IntKind.wrap .i64 (y2 + 1))) y0)) with
        | true =>
          cases (Pure.impl_under_1 F y4 y5 y6 y7 y8 y9 y10 (F.bin .mul .f32 (F.ofInt .f32 (IntKind.wrap .i64 (y2 + 1))) y0)) with
          | true =>
            exact ih _ _
          | false =>
            intro _; rfl
        | false =>
          intro h; exact absurd h Bool.false_ne_true
    | false =>
      intro _; rfl
theorem t_impl_NextHit_L0 : SmTo Try.prog 0 82 (S_impl_NextHit_L0 real) 0 (.loop (loopB 0 (codeOf Try.f23))) := by
  refine smTo_ev (cl := [(66, c_impl_fallOk real), (67, c_impl_lengthOk real), (68, c_impl_in real), (69, c_impl_under real)]) (ef := []) (sm := []) (un := 0) prog_ok (allOK_cons ok_impl_fallOk (allOK_cons ok_impl_lengthOk (allOK_cons ok_impl_in (allOK_cons ok_impl_under allOK_nil)))) smL_nil ?_
  intro vals hp q r h hq
  unfold S_impl_NextHit_L0 at h
  dsimp only at h
  split at h
  · rename_i y0 y1 y2 y3 y4 y5 y6 y7 y8 y9 y10
    obtain rfl := Option.some.inj h
    have h1 := hq
    unfold resOf at h1
    rw [chk_some] at h1
    exact ⟨_, (l_impl_NextHit_L0 real y0 y1 y4 y5 y6 y7 y8 y9 y10 _ y2 y3 h1.1).trans hq⟩
  · cases h
def Pure.impl_NextHit_L2 (F : FOps) (y3 y4 y5 y6 y7 y8 y9 : Int) : Nat → Int → Int → Int → (Bool × Bool × Int × Int)
  | 0, _, _, _ => (false, false, 0, 0)
  | n + 1, y0, y1, y2 => bif (decide (y2 < 20)) then (bif (Pure.impl_under_ok F y3 y4 y5 y6 y7 y8 y9 (F.bin .quo .f32 (F.bin .add .f32 y0 y1) 1073741824)) then (bif (Pure.impl_under_1 F y3 y4 y5 y6 y7 y8 y9 (F.bin .quo .f32 (F.bin .add .f32 y0 y1) 1073741824)) then (bif (Pure.impl_under F y3 y4 y5 y6 y7 y8 y9 (F.bin .quo .f32 (F.bin .add .f32 y0 y1) 1073741824)) then (Pure.impl_NextHit_L2 F y3 y4 y5 y6 y7 y8 y9 n y0 (F.bin .quo .f32 (F.bin .add .f32 y0 y1) 1073741824) (IntKind.wrap .i64 (y2 + 1))) else (Pure.impl_NextHit_L2 F y3 y4 y5 y6 y7 y8 y9 n (F.bin .quo .f32 (F.bin .add .f32 y0 y1) 1073741824) y1 (IntKind.wrap .i64 (y2 + 1)))) else ((true, true, 0, y0))) else ((false, false, 0, 0))) else ((true, false, y0, 0))
def R_impl_NextHit_L2 (r : (Bool × Bool × Int × Int)) : Bool × Ends := ((r).1, .two (r).2.1 (.one Ex.normal [V.at A.undef, V.at A.undef, V.at (A.fl .f32 (r).2.2.1)] []) (.one Ex.ret [V.at (A.fl .f32 0), V.at (A.bool false), V.at (A.fl .f32 (r).2.2.2)] []))
def S_impl_NextHit_L2 (F : FOps) : Sm := ⟨[4, 5, 13, 14, 62], [0, 0, 22, 22, 3], [8, 9, 13], fun vals hp => match vals, hp with
  | [V.at (A.ptr 0 0 0), V.at (A.ptr 1 0 0), V.at (A.fl .f32 y0), V.at (A.fl .f32 y1), V.at (A.int .i64 y2)], [⟨true, .box [A.fl .f32 y3, A.fl .f32 y4, A.fl .f32 y5, A.fl .f32 y6]⟩, ⟨true, .box [A.fl .f32 y7, A.fl .f32 y8, A.fl .f32 y9]⟩] => some (R_impl_NextHit_L2  (Pure.impl_NextHit_L2 F y3 y4 y5 y6 y7 y8 y9 (20 - y2 + 1).toNat y0 y1 y2))
  | _, _ => none⟩
theorem l_impl_NextHit_L2 (F : FOps) (y3 y4 y5 y6 y7 y8 y9 : Int) : ∀ (fuel : Nat) (y0 y1 y2 : Int), (Pure.impl_NextHit_L2 F y3 y4 y5 y6 y7 y8 y9 fuel y0 y1 y2).1 = true → loopOf (cxS F tyl [(66, c_impl_fallOk F), (67, c_impl_lengthOk F), (68, c_impl_in F), (69, c_impl_under F)] [] [] 0) 0 82 2 [4, 5, 13, 14, 62] [0, 0, 22, 22, 3] [8, 9, 13] (loopB 2 (codeOf Try.f23)) fuel [V.at (A.ptr 0 0 0), V.at (A.ptr 1 0 0), V.at (A.fl .f32 y0), V.at (A.fl .f32 y1), V.at (A.int .i64 y2)] [⟨true, .box [A.fl .f32 y3, A.fl .f32 y4, A.fl .f32 y5, A.fl .f32 y6]⟩, ⟨true, .box [A.fl .f32 y7, A.fl .f32 y8, A.fl .f32 y9]⟩] = resOf (R_impl_NextHit_L2  (Pure.impl_NextHit_L2 F y3 y4 y5 y6 y7 y8 y9 fuel y0 y1 y2)) := by
  intro fuel
  induction fuel with
  | zero => intro y0 y1 y2 h; exact absurd h Bool.false_ne_true
  | succ n ih =>
    intro y0 y1 y2
    have h0 : roundOf (cxS F tyl [(66, c_impl_fallOk F), (67, c_impl_lengthOk F), (68, c_impl_in F), (69, c_impl_under F)] [] [] 0) 0 82 2 [4, 5, 13, 14, 62] [0, 0, 22, 22, 3] [8, 9, 13] (loopB 2 (codeOf Try.f23)) [V.at (A.ptr 0 0 0), V.at (A.ptr 1 0 0), V.at (A.fl .f32 y0), V.at (A.fl .f32 y1), V.at (A.int .i64 y2)] [⟨true, .box [A.fl .f32 y3, A.fl .f32 y4, A.fl .f32 y5, A.fl .f32 y6]⟩, ⟨true, .box [A.fl .f32 y7, A.fl .f32 y8, A.fl .f32 y9]⟩] = (bif decide (y2 < 20) then bif Pure.impl_under_ok F y3 y4 y5 y6 y7 y8 y9 (F.bin .quo .f32 (F.bin .add .f32 y0 y1) 1073741824) then bif Bool.not (Pure.impl_under_1 F y3 y4 y5 y6 y7 y8 y9 (F.bin .quo .f32 (F.bin .add .f32 y0 y1) 1073741824)) then some (false, (Ex.ret, ([V.at (A.fl .f32 0), V.at (A.bool false), V.at (A.fl .f32 y0)], []))) else bif Pure.impl_under F y3 y4 y5 y6 y7 y8 y9 (F.bin .quo .f32 (F.bin .add .f32 y0 y1) 1073741824) then some (true, (Ex.normal, ([V.at (A.ptr 0 0 0), V.at (A.ptr 1 0 0), V.at (A.fl .f32 y0), V.at (A.fl .f32 (F.bin .quo .f32 (F.bin .add .f32 y0 y1) 1073741824)), V.at (A.int .i64 (IntKind.wrap .i64 (y2 + 1)))], [⟨true, .box [A.fl .f32 y3, A.fl .f32 y4, A.fl .f32 y5, A.fl .f32 y6]⟩, ⟨true, .box [A.fl .f32 y7, A.fl .f32 y8, A.fl .f32 y9]⟩]))) else some (true, (Ex.normal, ([V.at (A.ptr 0 0 0), V.at (A.ptr 1 0 0), V.at (A.fl .f32 (F.bin .quo .f32 (F.bin .add .f32 y0 y1) 1073741824)), V.at (A.fl .f32 y1), V.at (A.int .i64 (IntKind.wrap .i64 (y2 + 1)))], [⟨true, .box [A.fl .f32 y3, A.fl .f32 y4, A.fl .f32 y5, A.fl .f32 y6]⟩, ⟨true, .box [A.fl .f32 y7, A.fl .f32 y8, A.fl .f32 y9]⟩]))) else none else some (false, (Ex.normal, ([V.at A.undef, V.at A.undef, V.at (A.fl .f32 y0)], [])))) := by kernel_rfl
    unfold loopOf
    rw [h0]
    unfold Pure.impl_NextHit_L2
    cases (decide (y2 < 20)) with
    | true =>
      cases (Pure.impl_under_ok F y3 y4 y5 y6 y7 y8 y9 (F.bin .quo .f32 (F.bin .add .f32 y0 y1) 1073741824)) with
      | true =>
        cases (Pure.impl_under_1 F y3 y4 y5 y6 y7 y8 y9 (F.bin .quo .f32 (F.bin .add .f32 y0 y1) 1073741824)) with
        | true =>
          cases (Pure.impl_under F y3 y4 y5 y6 y7 y8 y9 (F.bin .quo .f32 (F.bin .add .f32 y0 y1) 1073741824)) with
          | true =>
            exact ih _ _ _
          | false =>
            exact ih _ _ _
        | false =>
          intro _; rfl
      | false =>
        intro h; exact absurd h Bool.false_ne_true
    | false =>
      intro _; rfl
theorem t_impl_NextHit_L2 : SmTo Try.prog 0 82 (S_impl_NextHit_L2 real) 2 (.loop (loopB 2 (codeOf Try.f23))) := by
  refine smTo_ev (cl := [(66, c_impl_fallOk real), (67, c_impl_lengthOk real), (68, c_impl_in real), (69, c_impl_under real)]) (ef := []) (sm := []) (un := 0) prog_ok (allOK_cons ok_impl_fallOk (allOK_cons ok_impl_lengthOk (allOK_cons ok_impl_in (allOK_cons ok_impl_under allOK_nil)))) smL_nil ?_
  intro vals hp q r h hq
  unfold S_impl_NextHit_L2 at h
  dsimp only at h
  split at h
  · rename_i y0 y1 y2 y3 y4 y5 y6 y7 y8 y9
    obtain rfl := Option.some.inj h
    have h1 := hq
    unfold resOf at h1
    rw [chk_some] at h1
    exact ⟨_, (l_impl_NextHit_L2 real y3 y4 y5 y6 y7 y8 y9 _ y0 y1 y2 h1.1).trans hq⟩
  · cases h
def Pure.impl_NextHit (F : FOps) (x0 x1 x2 x3 x4 x5 x6 x7 x8 : Int) : Int := bif Pure.impl_fallOk F x0 x1 x2 x3 x4 x5 x6 then bif Pure.impl_lengthOk F x7 then bif Pure.impl_in F x8 1 256 then bif Prod.fst (Prod.snd (Pure.impl_NextHit_L0 F x7 x8 x0 x1 x2 x3 x4 x5 x6 (Int.toNat ((x8 - 0) + 1)) 0 false)) then 0 else bif Prod.fst (Prod.snd (Prod.snd (Prod.snd (Pure.impl_NextHit_L0 F x7 x8 x0 x1 x2 x3 x4 x5 x6 (Int.toNat ((x8 - 0) + 1)) 0 false)))) then bif Prod.fst (Prod.snd (Pure.impl_NextHit_L2 F x0 x1 x2 x3 x4 x5 x6 21 (F.bin .mul .f32 (F.ofInt .f32 (IntKind.wrap .i64 ((Prod.fst (Prod.snd (Prod.snd (Pure.impl_NextHit_L0 F x7 x8 x0 x1 x2 x3 x4 x5 x6 (Int.toNat ((x8 - 0) + 1)) 0 false)))) - 1))) x7) (F.bin .mul .f32 (F.ofInt .f32 (Prod.fst (Prod.snd (Prod.snd (Pure.impl_NextHit_L0 F x7 x8 x0 x1 x2 x3 x4 x5 x6 (Int.toNat ((x8 - 0) + 1)) 0 false))))) x7) 0)) then 0 else Prod.fst (Prod.snd (Prod.snd (Pure.impl_NextHit_L2 F x0 x1 x2 x3 x4 x5 x6 21 (F.bin .mul .f32 (F.ofInt .f32 (IntKind.wrap .i64 ((Prod.fst (Prod.snd (Prod.snd (Pure.impl_NextHit_L0 F x7 x8 x0 x1 x2 x3 x4 x5 x6 (Int.toNat ((x8 - 0) + 1)) 0 false)))) - 1))) x7) (F.bin .mul .f32 (F.ofInt .f32 (Prod.fst (Prod.snd (Prod.snd (Pure.impl_NextHit_L0 F x7 x8 x0 x1 x2 x3 x4 x5 x6 (Int.toNat ((x8 - 0) + 1)) 0 false))))) x7) 0))) else 0 else 0 else 0 else 0
def Pure.impl_NextHit_1 (F : FOps) (x0 x1 x2 x3 x4 x5 x6 x7 x8 : Int) : Bool := bif Pure.impl_fallOk F x0 x1 x2 x3 x4 x5 x6 then bif Pure.impl_lengthOk F x7 then bif Pure.impl_in F x8 1 256 then bif Prod.fst (Prod.snd (Pure.impl_NextHit_L0 F x7 x8 x0 x1 x2 x3 x4 x5 x6 (Int.toNat ((x8 - 0) + 1)) 0 false)) then false else bif Prod.fst (Prod.snd (Prod.snd (Prod.snd (Pure.impl_NextHit_L0 F x7 x8 x0 x1 x2 x3 x4 x5 x6 (Int.toNat ((x8 - 0) + 1)) 0 false)))) then bif Prod.fst (Prod.snd (Pure.impl_NextHit_L2 F x0 x1 x2 x3 x4 x5 x6 21 (F.bin .mul .f32 (F.ofInt .f32 (IntKind.wrap .i64 ((Prod.fst (Prod.snd (Prod.snd (Pure.impl_NextHit_L0 F x7 x8 x0 x1 x2 x3 x4 x5 x6 (Int.toNat ((x8 - 0) + 1)) 0 false)))) - 1))) x7) (F.bin .mul .f32 (F.ofInt .f32 (Prod.fst (Prod.snd (Prod.snd (Pure.impl_NextHit_L0 F x7 x8 x0 x1 x2 x3 x4 x5 x6 (Int.toNat ((x8 - 0) + 1)) 0 false))))) x7) 0)) then false else true else false else false else false else false
def Pure.impl_NextHit_ok (F : FOps) (x0 x1 x2 x3 x4 x5 x6 x7 x8 : Int) : Bool := bif Pure.impl_fallOk_ok F x0 x1 x2 x3 x4 x5 x6 then bif Pure.impl_fallOk F x0 x1 x2 x3 x4 x5 x6 then bif Pure.impl_lengthOk F x7 then bif Pure.impl_in F x8 1 256 then bif Prod.fst (Pure.impl_NextHit_L0 F x7 x8 x0 x1 x2 x3 x4 x5 x6 (Int.toNat ((x8 - 0) + 1)) 0 false) then bif Prod.fst (Prod.snd (Pure.impl_NextHit_L0 F x7 x8 x0 x1 x2 x3 x4 x5 x6 (Int.toNat ((x8 - 0) + 1)) 0 false)) then true else bif Prod.fst (Prod.snd (Prod.snd (Prod.snd (Pure.impl_NextHit_L0 F x7 x8 x0 x1 x2 x3 x4 x5 x6 (Int.toNat ((x8 - 0) + 1)) 0 false)))) then Prod.fst (Pure.impl_NextHit_L2 F x0 x1 x2 x3 x4 x5 x6 21 (F.bin .mul .f32 (F.ofInt .f32 (IntKind.wrap .i64 ((Prod.fst (Prod.snd (Prod.snd (Pure.impl_NextHit_L0 F x7 x8 x0 x1 x2 x3 x4 x5 x6 (Int.toNat ((x8 - 0) + 1)) 0 false)))) - 1))) x7) (F.bin .mul .f32 (F.ofInt .f32 (Prod.fst (Prod.snd (Prod.snd (Pure.impl_NextHit_L0 F x7 x8 x0 x1 x2 x3 x4 x5 x6 (Int.toNat ((x8 - 0) + 1)) 0 false))))) x7) 0) else true else false else true else true else true else false
def c_impl_NextHit (F : FOps) : Con
  | [V.agg [A.fl .f32 x0, A.fl .f32 x1, A.fl .f32 x2, A.fl .f32 x3], V.agg [A.fl .f32 x4, A.fl .f32 x5, A.fl .f32 x6], V.at (A.fl .f32 x7), V.at (A.int .i64 x8)], [] => some (Pure.impl_NextHit_ok F x0 x1 x2 x3 x4 x5 x6 x7 x8, ⟨V.tup [(false, [A.fl .f32 (Pure.impl_NextHit F x0 x1 x2 x3 x4 x5 x6 x7 x8)]), (false, [A.bool (Pure.impl_NextHit_1 F x0 x1 x2 x3 x4 x5 x6 x7 x8)])], none, []⟩)
  | _, _ => none
theorem e_impl_NextHit (F : FOps) (x0 x1 x2 x3 x4 x5 x6 x7 x8 : Int) : Pure.impl_NextHit_ok F x0 x1 x2 x3 x4 x5 x6 x7 x8 = true → evFn (cxS F tyl [(66, c_impl_fallOk F), (67, c_impl_lengthOk F), (68, c_impl_in F), (69, c_impl_under F)] [] [(0, S_impl_NextHit_L0 F), (2, S_impl_NextHit_L2 F)] 0) Try.f23 false [V.agg [A.fl .f32 x0, A.fl .f32 x1, A.fl .f32 x2, A.fl .f32 x3], V.agg [A.fl .f32 x4, A.fl .f32 x5, A.fl .f32 x6], V.at (A.fl .f32 x7), V.at (A.int .i64 x8)] [] = some ⟨V.tup [(false, [A.fl .f32 (Pure.impl_NextHit F x0 x1 x2 x3 x4 x5 x6 x7 x8)]), (false, [A.bool (Pure.impl_NextHit_1 F x0 x1 x2 x3 x4 x5 x6 x7 x8)])], none, []⟩ := by
  have h0 : evFn (cxS F tyl [(66, c_impl_fallOk F), (67, c_impl_lengthOk F), (68, c_impl_in F), (69, c_impl_under F)] [] [(0, S_impl_NextHit_L0 F), (2, S_impl_NextHit_L2 F)] 0) Try.f23 false [V.agg [A.fl .f32 x0, A.fl .f32 x1, A.fl .f32 x2, A.fl .f32 x3], V.agg [A.fl .f32 x4, A.fl .f32 x5, A.fl .f32 x6], V.at (A.fl .f32 x7), V.at (A.int .i64 x8)] [] = bif Pure.impl_fallOk_ok F x0 x1 x2 x3 x4 x5 x6 then bif Bool.not (Pure.impl_fallOk F x0 x1 x2 x3 x4 x5 x6) then some ⟨V.tup [(false, [A.fl .f32 0]), (false, [A.bool false])], none, []⟩ else bif Bool.not (Pure.impl_lengthOk F x7) then some ⟨V.tup [(false, [A.fl .f32 0]), (false, [A.bool false])], none, []⟩ else bif Bool.not (Pure.impl_in F x8 1 256) then some ⟨V.tup [(false, [A.fl .f32 0]), (false, [A.bool false])], none, []⟩ else bif Prod.fst (Pure.impl_NextHit_L0 F x7 x8 x0 x1 x2 x3 x4 x5 x6 (Int.toNat ((x8 - 0) + 1)) 0 false) then bif Prod.fst (Prod.snd (Pure.impl_NextHit_L0 F x7 x8 x0 x1 x2 x3 x4 x5 x6 (Int.toNat ((x8 - 0) + 1)) 0 false)) then some ⟨V.tup [(false, [A.fl .f32 0]), (false, [A.bool false])], none, []⟩ else bif Bool.not (Prod.fst (Prod.snd (Prod.snd (Prod.snd (Pure.impl_NextHit_L0 F x7 x8 x0 x1 x2 x3 x4 x5 x6 (Int.toNat ((x8 - 0) + 1)) 0 false))))) then some ⟨V.tup [(false, [A.fl .f32 0]), (false, [A.bool false])], none, []⟩ else bif Prod.fst (Pure.impl_NextHit_L2 F x0 x1 x2 x3 x4 x5 x6 21 (F.bin .mul .f32 (F.ofInt .f32 (IntKind.wrap .i64 ((Prod.fst (Prod.snd (Prod.snd (Pure.impl_NextHit_L0 F x7 x8 x0 x1 x2 x3 x4 x5 x6 (Int.toNat ((x8 - 0) + 1)) 0 false)))) - 1))) x7) (F.bin .mul .f32 (F.ofInt .f32 (Prod.fst (Prod.snd (Prod.snd (Pure.impl_NextHit_L0 F x7 x8 x0 x1 x2 x3 x4 x5 x6 (Int.toNat ((x8 - 0) + 1)) 0 false))))) x7) 0) then bif Prod.fst (Prod.snd (Pure.impl_NextHit_L2 F x0 x1 x2 x3 x4 x5 x6 21 (F.bin .mul .f32 (F.ofInt .f32 (IntKind.wrap .i64 ((Prod.fst (Prod.snd (Prod.snd (Pure.impl_NextHit_L0 F x7 x8 x0 x1 x2 x3 x4 x5 x6 (Int.toNat ((x8 - 0) + 1)) 0 false)))) - 1))) x7) (F.bin .mul .f32 (F.ofInt .f32 (Prod.fst (Prod.snd (Prod.snd (Pure.impl_NextHit_L0 F x7 x8 x0 x1 x2 x3 x4 x5 x6 (Int.toNat ((x8 - 0) + 1)) 0 false))))) x7) 0)) then some ⟨V.tup [(false, [A.fl .f32 0]), (false, [A.bool false])], none, []⟩ else some ⟨V.tup [(false, [A.fl .f32 (Prod.fst (Prod.snd (Prod.snd (Pure.impl_NextHit_L2 F x0 x1 x2 x3 x4 x5 x6 21 (F.bin .mul .f32 (F.ofInt .f32 (IntKind.wrap .i64 ((Prod.fst (Prod.snd (Prod.snd (Pure.impl_NextHit_L0 F x7 x8 x0 x1 x2 x3 x4 x5 x6 (Int.toNat ((x8 - 0) + 1)) 0 false)))) - 1))) x7) (F.bin .mul .f32 (F.ofInt .f32 (Prod.fst (Prod.snd (Prod.snd (Pure.impl_NextHit_L0 F x7 x8 x0 x1 x2 x3 x4 x5 x6 (Int.toNat ((x8 - 0) + 1)) 0 false))))) x7) 0))))]), (false, [A.bool true])], none, []⟩ else none else none else none := by kernel_rfl
  rw [h0]
  unfold Pure.impl_NextHit Pure.impl_NextHit_1 Pure.impl_NextHit_ok
  cases (Pure.impl_fallOk_ok F x0 x1 x2 x3 x4 x5 x6) with
  | true =>
    cases (Pure.impl_fallOk F x0 x1 x2 x3 x4 x5 x6) with
    | true =>
      cases (Pure.impl_lengthOk F x7) with
      | true =>
        cases (Pure.impl_in F x8 1 256) with
        | true =>
          cases (Prod.fst (Pure.impl_NextHit_L0 F x7 x8 x0 x1 x2 x3 x4 x5 x6 (Int.toNat ((x8 - 0) + 1)) 0 false)) with
          | true =>
            cases (Prod.fst (Prod.snd (Pure.impl_NextHit_L0 F x7 x8 x0 x1 x2 x3 x4 x5 x6 (Int.toNat ((x8 - 0) + 1)) 0 false))) with
            | true =>
              intro _; rfl
            | false =>
              cases (Prod.fst (Prod.snd (Prod.snd (Prod.snd (Pure.impl_NextHit_L0 F x7 x8 x0 x1 x2 x3 x4 x5 x6 (Int.toNat ((x8 - 0) + 1)) 0 false))))) with
              | true =>
                cases (Prod.fst (Pure.impl_NextHit_L2 F x0 x1 x2 x3 x4 x5 x6 21 (F.bin .mul .f32 (F.ofInt .f32 (IntKind.wrap .i64 ((Prod.fst (Prod.snd (Prod.snd (Pure.impl_NextHit_L0 F x7 x8 x0 x1 x2 x3 x4 x5 x6 (Int.toNat ((x8 - 0) + 1)) 0 false)))) - 1))) x7) (F.bin .mul .f32 (F.ofInt .f32 (Prod.fst (Prod.snd (Prod.snd (Pure.impl_NextHit_L0 F x7 x8 x0 x1 x2 x3 x4 x5 x6 (Int.toNat ((x8 - 0) + 1)) 0 false))))) x7) 0)) with
                | true =>
                  cases (Prod.fst (Prod.snd (Pure.impl_NextHit_L2 F x0 x1 x2 x3 x4 x5 x6 21 (F.bin .mul .f32 (F.ofInt .f32 (IntKind.wrap .i64 ((Prod.fst (Prod.snd (Prod.snd (Pure.impl_NextHit_L0 F x7 x8 x0 x1 x2 x3 x4 x5 x6 (Int.toNat ((x8 - 0) + 1)) 0 false)))) - 1))) x7) (F.bin .mul .f32 (F.ofInt .f32 (Prod.fst (Prod.snd (Prod.snd (Pure.impl_NextHit_L0 F x7 x8 x0 x1 x2 x3 x4 x5 x6 (Int.toNat ((x8 - 0) + 1)) 0 false))))) x7) 0))) with
                  | true =>
                    intro _; rfl
                  | false =>
                    intro _; rfl
                | false =>
                  intro h; exact absurd h Bool.false_ne_true
              | false =>
                intro _; rfl
          | false =>
            intro h; exact absurd h Bool.false_ne_true
        | false =>
          intro _; rfl
      | false =>
        intro _; rfl
    | false =>
      intro _; rfl
  | false =>
    intro h; exact absurd h Bool.false_ne_true
theorem ok_impl_NextHit : CallOK Try.prog 23 (c_impl_NextHit real) := by
  refine callOK_of fun args h ret hc => ?_
  unfold c_impl_NextHit at hc
  split at hc
  · rename_i x0 x1 x2 x3 x4 x5 x6 x7 x8
    obtain ⟨hok, rfl⟩ := some_ret hc
    exact holds_ev prog_ok (allOK_cons ok_impl_fallOk (allOK_cons ok_impl_lengthOk (allOK_cons ok_impl_in (allOK_cons ok_impl_under allOK_nil)))) Try.func23 rfl rfl (smL_cons (body := .loop (loopB 0 (codeOf Try.f23))) (by kernel_rfl) t_impl_NextHit_L0 (smL_cons (body := .loop (loopB 2 (codeOf Try.f23))) (by kernel_rfl) t_impl_NextHit_L2 smL_nil)) rfl (e_impl_NextHit real x0 x1 x2 x3 x4 x5 x6 x7 x8 hok)
  · cases hc
def Pure.impl_TableSpeed (F : FOps) (x0 x1 x2 x3 x4 : Int) : Int := bif Pure.impl_ValidTable F x0 x1 x2 x3 then bif Pure.impl_IsFinite F x4 then Pure.impl_toldNumber F (F.bin .mul .f32 (F.bin .mul .f32 (F.bin .mul .f32 1086918619 x1) x0) (Pure.impl_SineTurns F (F.bin .add .f32 (F.bin .mul .f32 x1 x4) 1048576000))) else 0 else 0
def Pure.impl_TableSpeed_1 (F : FOps) (x0 x1 x2 x3 x4 : Int) : Bool := bif Pure.impl_ValidTable F x0 x1 x2 x3 then bif Pure.impl_IsFinite F x4 then Pure.impl_IsFinite F (F.bin .mul .f32 (F.bin .mul .f32 (F.bin .mul .f32 1086918619 x1) x0) (Pure.impl_SineTurns F (F.bin .add .f32 (F.bin .mul .f32 x1 x4) 1048576000))) else false else false
def Pure.impl_TableSpeed_ok (F : FOps) (x0 x1 x2 x3 x4 : Int) : Bool := bif Pure.impl_ValidTable_ok F x0 x1 x2 x3 then bif Pure.impl_ValidTable F x0 x1 x2 x3 then bif Pure.impl_IsFinite F x4 then Pure.impl_SineTurns_ok F (F.bin .add .f32 (F.bin .mul .f32 x1 x4) 1048576000) else true else true else false
def c_impl_TableSpeed (F : FOps) : Con
  | [V.agg [A.fl .f32 x0, A.fl .f32 x1, A.fl .f32 x2, A.fl .f32 x3], V.at (A.fl .f32 x4)], [] => some (Pure.impl_TableSpeed_ok F x0 x1 x2 x3 x4, ⟨V.tup [(false, [A.fl .f32 (Pure.impl_TableSpeed F x0 x1 x2 x3 x4)]), (false, [A.bool (Pure.impl_TableSpeed_1 F x0 x1 x2 x3 x4)])], none, []⟩)
  | _, _ => none
theorem e_impl_TableSpeed (F : FOps) (x0 x1 x2 x3 x4 : Int) : Pure.impl_TableSpeed_ok F x0 x1 x2 x3 x4 = true → evFn (cxS F tyl [(24, c_impl_ValidTable F), (62, c_impl_IsFinite F), (64, c_impl_SineTurns F), (63, c_impl_toldNumber F)] [] [] 0) Try.f20 false [V.agg [A.fl .f32 x0, A.fl .f32 x1, A.fl .f32 x2, A.fl .f32 x3], V.at (A.fl .f32 x4)] [] = some ⟨V.tup [(false, [A.fl .f32 (Pure.impl_TableSpeed F x0 x1 x2 x3 x4)]), (false, [A.bool (Pure.impl_TableSpeed_1 F x0 x1 x2 x3 x4)])], none, []⟩ := by
  have h0 : evFn (cxS F tyl [(24, c_impl_ValidTable F), (62, c_impl_IsFinite F), (64, c_impl_SineTurns F), (63, c_impl_toldNumber F)] [] [] 0) Try.f20 false [V.agg [A.fl .f32 x0, A.fl .f32 x1, A.fl .f32 x2, A.fl .f32 x3], V.at (A.fl .f32 x4)] [] = bif Pure.impl_ValidTable_ok F x0 x1 x2 x3 then bif Bool.not (Pure.impl_ValidTable F x0 x1 x2 x3) then some ⟨V.tup [(false, [A.fl .f32 0]), (false, [A.bool false])], none, []⟩ else bif Bool.not (Pure.impl_IsFinite F x4) then some ⟨V.tup [(false, [A.fl .f32 0]), (false, [A.bool false])], none, []⟩ else bif Pure.impl_SineTurns_ok F (F.bin .add .f32 (F.bin .mul .f32 x1 x4) 1048576000) then some ⟨V.tup [(false, [A.fl .f32 (Pure.impl_toldNumber F (F.bin .mul .f32 (F.bin .mul .f32 (F.bin .mul .f32 1086918619 x1) x0) (Pure.impl_SineTurns F (F.bin .add .f32 (F.bin .mul .f32 x1 x4) 1048576000))))]), (false, [A.bool (Pure.impl_IsFinite F (F.bin .mul .f32 (F.bin .mul .f32 (F.bin .mul .f32 1086918619 x1) x0) (Pure.impl_SineTurns F (F.bin .add .f32 (F.bin .mul .f32 x1 x4) 1048576000))))])], none, []⟩ else none else none := by kernel_rfl
  rw [h0]
  unfold Pure.impl_TableSpeed Pure.impl_TableSpeed_1 Pure.impl_TableSpeed_ok
  cases (Pure.impl_ValidTable_ok F x0 x1 x2 x3) with
  | true =>
    cases (Pure.impl_ValidTable F x0 x1 x2 x3) with
    | true =>
      cases (Pure.impl_IsFinite F x4) with
      | true =>
        cases (Pure.impl_SineTurns_ok F (F.bin .add .f32 (F.bin .mul .f32 x1 x4) 1048576000)) with
        | true =>
          intro _; rfl
        | false =>
          intro h; exact absurd h Bool.false_ne_true
      | false =>
        intro _; rfl
    | false =>
      intro _; rfl
  | false =>
    intro h; exact absurd h Bool.false_ne_true
theorem ok_impl_TableSpeed : CallOK Try.prog 20 (c_impl_TableSpeed real) := by
  refine callOK_of fun args h ret hc => ?_
  unfold c_impl_TableSpeed at hc
  split at hc
  · rename_i x0 x1 x2 x3 x4
    obtain ⟨hok, rfl⟩ := some_ret hc
    exact holds_ev prog_ok (allOK_cons ok_impl_ValidTable (allOK_cons ok_impl_IsFinite (allOK_cons ok_impl_SineTurns (allOK_cons ok_impl_toldNumber allOK_nil)))) Try.func20 rfl rfl smL_nil rfl (e_impl_TableSpeed real x0 x1 x2 x3 x4 hok)
  · cases hc
def Pure.impl_HitFall (F : FOps) (x0 x1 x2 x3 x4 x5 x6 : Int) : Int := bif Pure.impl_fallOk F x0 x1 x2 x3 x4 x5 x6 then bif Pure.impl_TableAt_1 F x0 x1 x2 x3 x6 then bif Pure.impl_TableSpeed_1 F x0 x1 x2 x3 x6 then bif Pure.impl_IsFinite F (F.bin .add .f32 (Pure.impl_TableSpeed F x0 x1 x2 x3 x6) (F.bin .mul .f32 x2 (F.bin .sub .f32 (Pure.impl_TableSpeed F x0 x1 x2 x3 x6) x5))) then Pure.impl_TableAt F x0 x1 x2 x3 x6 else 0 else 0 else 0 else 0
def Pure.impl_HitFall_1 (F : FOps) (x0 x1 x2 x3 x4 x5 x6 : Int) : Int := bif Pure.impl_fallOk F x0 x1 x2 x3 x4 x5 x6 then bif Pure.impl_TableAt_1 F x0 x1 x2 x3 x6 then bif Pure.impl_TableSpeed_1 F x0 x1 x2 x3 x6 then bif Pure.impl_IsFinite F (F.bin .add .f32 (Pure.impl_TableSpeed F x0 x1 x2 x3 x6) (F.bin .mul .f32 x2 (F.bin .sub .f32 (Pure.impl_TableSpeed F x0 x1 x2 x3 x6) x5))) then F.bin .add .f32 (Pure.impl_TableSpeed F x0 x1 x2 x3 x6) (F.bin .mul .f32 x2 (F.bin .sub .f32 (Pure.impl_TableSpeed F x0 x1 x2 x3 x6) x5)) else 0 else 0 else 0 else 0
def Pure.impl_HitFall_2 (F : FOps) (x0 x1 x2 x3 x4 x5 x6 : Int) : Int := bif Pure.impl_fallOk F x0 x1 x2 x3 x4 x5 x6 then bif Pure.impl_TableAt_1 F x0 x1 x2 x3 x6 then bif Pure.impl_TableSpeed_1 F x0 x1 x2 x3 x6 then bif Pure.impl_IsFinite F (F.bin .add .f32 (Pure.impl_TableSpeed F x0 x1 x2 x3 x6) (F.bin .mul .f32 x2 (F.bin .sub .f32 (Pure.impl_TableSpeed F x0 x1 x2 x3 x6) x5))) then x6 else 0 else 0 else 0 else 0
def Pure.impl_HitFall_3 (F : FOps) (x0 x1 x2 x3 x4 x5 x6 : Int) : Bool := bif Pure.impl_fallOk F x0 x1 x2 x3 x4 x5 x6 then bif Pure.impl_TableAt_1 F x0 x1 x2 x3 x6 then bif Pure.impl_TableSpeed_1 F x0 x1 x2 x3 x6 then Pure.impl_IsFinite F (F.bin .add .f32 (Pure.impl_TableSpeed F x0 x1 x2 x3 x6) (F.bin .mul .f32 x2 (F.bin .sub .f32 (Pure.impl_TableSpeed F x0 x1 x2 x3 x6) x5))) else false else false else false
def Pure.impl_HitFall_ok (F : FOps) (x0 x1 x2 x3 x4 x5 x6 : Int) : Bool := bif Pure.impl_TableAt_ok F x0 x1 x2 x3 x6 then bif Pure.impl_TableSpeed_ok F x0 x1 x2 x3 x6 then Pure.impl_fallOk_ok F x0 x1 x2 x3 x4 x5 x6 else false else false
def c_impl_HitFall (F : FOps) : Con
  | [V.agg [A.fl .f32 x0, A.fl .f32 x1, A.fl .f32 x2, A.fl .f32 x3], V.agg [A.fl .f32 x4, A.fl .f32 x5, A.fl .f32 x6]], [] => some (Pure.impl_HitFall_ok F x0 x1 x2 x3 x4 x5 x6, ⟨V.tup [(true, [A.fl .f32 (Pure.impl_HitFall F x0 x1 x2 x3 x4 x5 x6), A.fl .f32 (Pure.impl_HitFall_1 F x0 x1 x2 x3 x4 x5 x6), A.fl .f32 (Pure.impl_HitFall_2 F x0 x1 x2 x3 x4 x5 x6)]), (false, [A.bool (Pure.impl_HitFall_3 F x0 x1 x2 x3 x4 x5 x6)])], none, []⟩)
  | _, _ => none
theorem e_impl_HitFall (F : FOps) (x0 x1 x2 x3 x4 x5 x6 : Int) : Pure.impl_HitFall_ok F x0 x1 x2 x3 x4 x5 x6 = true → evFn (cxS F tyl [(17, c_impl_TableAt F), (20, c_impl_TableSpeed F), (66, c_impl_fallOk F), (62, c_impl_IsFinite F)] [] [] 0) Try.f26 false [V.agg [A.fl .f32 x0, A.fl .f32 x1, A.fl .f32 x2, A.fl .f32 x3], V.agg [A.fl .f32 x4, A.fl .f32 x5, A.fl .f32 x6]] [] = some ⟨V.tup [(true, [A.fl .f32 (Pure.impl_HitFall F x0 x1 x2 x3 x4 x5 x6), A.fl .f32 (Pure.impl_HitFall_1 F x0 x1 x2 x3 x4 x5 x6), A.fl .f32 (Pure.impl_HitFall_2 F x0 x1 x2 x3 x4 x5 x6)]), (false, [A.bool (Pure.impl_HitFall_3 F x0 x1 x2 x3 x4 x5 x6)])], none, []⟩ := by
  have h0 : evFn (cxS F tyl [(17, c_impl_TableAt F), (20, c_impl_TableSpeed F), (66, c_impl_fallOk F), (62, c_impl_IsFinite F)] [] [] 0) Try.f26 false [V.agg [A.fl .f32 x0, A.fl .f32 x1, A.fl .f32 x2, A.fl .f32 x3], V.agg [A.fl .f32 x4, A.fl .f32 x5, A.fl .f32 x6]] [] = bif Pure.impl_TableAt_ok F x0 x1 x2 x3 x6 then bif Pure.impl_TableSpeed_ok F x0 x1 x2 x3 x6 then bif Pure.impl_fallOk_ok F x0 x1 x2 x3 x4 x5 x6 then bif Bool.not (Pure.impl_fallOk F x0 x1 x2 x3 x4 x5 x6) then some ⟨V.tup [(true, [A.fl .f32 0, A.fl .f32 0, A.fl .f32 0]), (false, [A.bool false])], none, []⟩ else bif Bool.not (Pure.impl_TableAt_1 F x0 x1 x2 x3 x6) then some ⟨V.tup [(true, [A.fl .f32 0, A.fl .f32 0, A.fl .f32 0]), (false, [A.bool false])], none, []⟩ else bif Bool.not (Pure.impl_TableSpeed_1 F x0 x1 x2 x3 x6) then some ⟨V.tup [(true, [A.fl .f32 0, A.fl .f32 0, A.fl .f32 0]), (false, [A.bool false])], none, []⟩ else bif Bool.not (Pure.impl_IsFinite F (F.bin .add .f32 (Pure.impl_TableSpeed F x0 x1 x2 x3 x6) (F.bin .mul .f32 x2 (F.bin .sub .f32 (Pure.impl_TableSpeed F x0 x1 x2 x3 x6) x5)))) then some ⟨V.tup [(true, [A.fl .f32 0, A.fl .f32 0, A.fl .f32 0]), (false, [A.bool false])], none, []⟩ else some ⟨V.tup [(true, [A.fl .f32 (Pure.impl_TableAt F x0 x1 x2 x3 x6), A.fl .f32 (F.bin .add .f32 (Pure.impl_TableSpeed F x0 x1 x2 x3 x6) (F.bin .mul .f32 x2 (F.bin .sub .f32 (Pure.impl_TableSpeed F x0 x1 x2 x3 x6) x5))), A.fl .f32 x6]), (false, [A.bool true])], none, []⟩ else none else none else none := by kernel_rfl
  rw [h0]
  unfold Pure.impl_HitFall Pure.impl_HitFall_1 Pure.impl_HitFall_2 Pure.impl_HitFall_3 Pure.impl_HitFall_ok
  cases (Pure.impl_TableAt_ok F x0 x1 x2 x3 x6) with
  | true =>
    cases (Pure.impl_TableSpeed_ok F x0 x1 x2 x3 x6) with
    | true =>
      cases (Pure.impl_fallOk_ok F x0 x1 x2 x3 x4 x5 x6) with
      | true =>
        cases (Pure.impl_fallOk F x0 x1 x2 x3 x4 x5 x6) with
        | true =>
          cases (Pure.impl_TableAt_1 F x0 x1 x2 x3 x6) with
          | true =>
            cases (Pure.impl_TableSpeed_1 F x0 x1 x2 x3 x6) with
            | true =>
              cases (Pure.impl_IsFinite F (F.bin .add .f32 (Pure.impl_TableSpeed F x0 x1 x2 x3 x6) (F.bin .mul .f32 x2 (F.bin .sub .f32 (Pure.impl_TableSpeed F x0 x1 x2 x3 x6) x5)))) with
              | true =>
                intro _; rfl
              | false =>
                intro _; rfl
            | false =>
              intro _; rfl
          | false =>
            intro _; rfl
        | false =>
          intro _; rfl
      | false =>
        intro h; exact absurd h Bool.false_ne_true
    | false =>
      intro h; exact absurd h Bool.false_ne_true
  | false =>
    intro h; exact absurd h Bool.false_ne_true
theorem ok_impl_HitFall : CallOK Try.prog 26 (c_impl_HitFall real) := by
  refine callOK_of fun args h ret hc => ?_
  unfold c_impl_HitFall at hc
  split at hc
  · rename_i x0 x1 x2 x3 x4 x5 x6
    obtain ⟨hok, rfl⟩ := some_ret hc
    exact holds_ev prog_ok (allOK_cons ok_impl_TableAt (allOK_cons ok_impl_TableSpeed (allOK_cons ok_impl_fallOk (allOK_cons ok_impl_IsFinite allOK_nil)))) Try.func26 rfl rfl smL_nil rfl (e_impl_HitFall real x0 x1 x2 x3 x4 x5 x6 hok)
  · cases hc
def Pure.impl_RunFalls_L0 (F : FOps) (y0 y1 y2 y4 y5 y6 y7 : Int) : Nat → Int → Int → Int → Int → (List (List Int)) → (Bool × Bool × (List (List Int)) × (List (List Int)))
  | 0, _, _, _, _, _ => (false, false, [], [])
  | n + 1, y3, y8, y9, y10, y11 => bif (decide (y3 < y2)) then (bif (Pure.impl_NextHit_ok F y4 y5 y6 y7 y8 y9 y10 y0 y1) then (bif (Pure.impl_FlyFall_ok F y4 y5 y6 y7 y8 y9 y10 (Pure.impl_NextHit F y4 y5 y6 y7 y8 y9 y10 y0 y1)) then (bif (Pure.impl_HitFall_ok F y4 y5 y6 y7 (Pure.impl_FlyFall F y4 y5 y6 y7 y8 y9 y10 (Pure.impl_NextHit F y4 y5 y6 y7 y8 y9 y10 y0 y1)) (Pure.impl_FlyFall_1 F y4 y5 y6 y7 y8 y9 y10 (Pure.impl_NextHit F y4 y5 y6 y7 y8 y9 y10 y0 y1)) (Pure.impl_FlyFall_2 F y4 y5 y6 y7 y8 y9 y10 (Pure.impl_NextHit F y4 y5 y6 y7 y8 y9 y10 y0 y1))) then (bif (Pure.impl_NextHit_1 F y4 y5 y6 y7 y8 y9 y10 y0 y1) then (bif (Pure.impl_FlyFall_3 F y4 y5 y6 y7 y8 y9 y10 (Pure.impl_NextHit F y4 y5 y6 y7 y8 y9 y10 y0 y1)) then (bif (Pure.impl_HitFall_3 F y4 y5 y6 y7 (Pure.impl_FlyFall F y4 y5 y6 y7 y8 y9 y10 (Pure.impl_NextHit F y4 y5 y6 y7 y8 y9 y10 y0 y1)) (Pure.impl_FlyFall_1 F y4 y5 y6 y7 y8 y9 y10 (Pure.impl_NextHit F y4 y5 y6 y7 y8 y9 y10 y0 y1)) (Pure.impl_FlyFall_2 F y4 y5 y6 y7 y8 y9 y10 (Pure.impl_NextHit F y4 y5 y6 y7 y8 y9 y10 y0 y1))) then (bif (decide ((Nat.succ y11.length) ≤ 1073741824)) then (Pure.impl_RunFalls_L0 F y0 y1 y2 y4 y5 y6 y7 n (IntKind.wrap .i64 (y3 + 1)) (Pure.impl_HitFall F y4 y5 y6 y7 (Pure.impl_FlyFall F y4 y5 y6 y7 y8 y9 y10 (Pure.impl_NextHit F y4 y5 y6 y7 y8 y9 y10 y0 y1)) (Pure.impl_FlyFall_1 F y4 y5 y6 y7 y8 y9 y10 (Pure.impl_NextHit F y4 y5 y6 y7 y8 y9 y10 y0 y1)) (Pure.impl_FlyFall_2 F y4 y5 y6 y7 y8 y9 y10 (Pure.impl_NextHit F y4 y5 y6 y7 y8 y9 y10 y0 y1))) (Pure.impl_HitFall_1 F y4 y5 y6 y7 (Pure.impl_FlyFall F y4 y5 y6 y7 y8 y9 y10 (Pure.impl_NextHit F y4 y5 y6 y7 y8 y9 y10 y0 y1)) (Pure.impl_FlyFall_1 F y4 y5 y6 y7 y8 y9 y10 (Pure.impl_NextHit F y4 y5 y6 y7 y8 y9 y10 y0 y1)) (Pure.impl_FlyFall_2 F y4 y5 y6 y7 y8 y9 y10 (Pure.impl_NextHit F y4 y5 y6 y7 y8 y9 y10 y0 y1))) (Pure.impl_HitFall_2 F y4 y5 y6 y7 (Pure.impl_FlyFall F y4 y5 y6 y7 y8 y9 y10 (Pure.impl_NextHit F y4 y5 y6 y7 y8 y9 y10 y0 y1)) (Pure.impl_FlyFall_1 F y4 y5 y6 y7 y8 y9 y10 (Pure.impl_NextHit F y4 y5 y6 y7 y8 y9 y10 y0 y1)) (Pure.impl_FlyFall_2 F y4 y5 y6 y7 y8 y9 y10 (Pure.impl_NextHit F y4 y5 y6 y7 y8 y9 y10 y0 y1))) (y11 ++ [[Pure.impl_HitFall F y4 y5 y6 y7 (Pure.impl_FlyFall F y4 y5 y6 y7 y8 y9 y10 (Pure.impl_NextHit F y4 y5 y6 y7 y8 y9 y10 y0 y1)) (Pure.impl_FlyFall_1 F y4 y5 y6 y7 y8 y9 y10 (Pure.impl_NextHit F y4 y5 y6 y7 y8 y9 y10 y0 y1)) (Pure.impl_FlyFall_2 F y4 y5 y6 y7 y8 y9 y10 (Pure.impl_NextHit F y4 y5 y6 y7 y8 y9 y10 y0 y1)), Pure.impl_HitFall_1 F y4 y5 y6 y7 (Pure.impl_FlyFall F y4 y5 y6 y7 y8 y9 y10 (Pure.impl_NextHit F y4 y5 y6 y7 y8 y9 y10 y0 y1)) (Pure.impl_FlyFall_1 F y4 y5 y6 y7 y8 y9 y10 (Pure.impl_NextHit F y4 y5 y6 y7 y8 y9 y10 y0 y1)) (Pure.impl_FlyFall_2 F y4 y5 y6 y7 y8 y9 y10 (Pure.impl_NextHit F y4 y5 y6 y7 y8 y9 y10 y0 y1)), Pure.impl_HitFall_2 F y4 y5 y6 y7 (Pure.impl_FlyFall F y4 y5 y6 y7 y8 y9 y10 (Pure.impl_NextHit F y4 y5 y6 y7 y8 y9 y10 y0 y1)) (Pure.impl_FlyFall_1 F y4 y5 y6 y7 y8 y9 y10 (Pure.impl_NextHit F y4 y5 y6 y7 y8 y9 y10 y0 y1)) (Pure.impl_FlyFall_2 F y4 y5 y6 y7 y8 y9 y10 (Pure.impl_NextHit F y4 y5 y6 y7 y8 y9 y10 y0 y1))]])) else ((false, false, [], []))) else ((true, true, [], y11))) else ((true, true, [], y11))) else ((true, true, [], y11))) else ((false, false, [], []))) else ((false, false, [], []))) else ((false, false, [], []))) else ((true, false, y11, []))
def R_impl_RunFalls_L0 (r : (Bool × Bool × (List (List Int)) × (List (List Int)))) : Bool × Ends := ((r).1, .two (r).2.1 (.one Ex.normal [V.at A.undef, V.at A.undef, V.at (A.sl 0)] [⟨true, .rows [K.f .f32, K.f .f32, K.f .f32] (r).2.2.1⟩]) (.one Ex.ret [V.at A.nil, V.at (A.bool false), V.at (A.sl 0)] [⟨true, .rows [K.f .f32, K.f .f32, K.f .f32] (r).2.2.2⟩]))
def S_impl_RunFalls_L0 (F : FOps) : Sm := ⟨[2, 3, 5, 6, 12, 29, 30], [22, 2, 0, 0, 42, 2, 2], [10, 11, 12], fun vals hp => match vals, hp with
  | [V.at (A.fl .f32 y0), V.at (A.int .i64 y1), V.at (A.ptr 0 0 0), V.at (A.ptr 1 0 0), V.at (A.sl 2), V.at (A.int .i64 y2), V.at (A.int .i64 y3)], [⟨true, .box [A.fl .f32 y4, A.fl .f32 y5, A.fl .f32 y6, A.fl .f32 y7]⟩, ⟨true, .box [A.fl .f32 y8, A.fl .f32 y9, A.fl .f32 y10]⟩, ⟨true, .rows [K.f .f32, K.f .f32, K.f .f32] y11⟩] => some (R_impl_RunFalls_L0  (Pure.impl_RunFalls_L0 F y0 y1 y2 y4 y5 y6 y7 (y2 - y3 + 1).toNat y3 y8 y9 y10 y11))
  | _, _ => none⟩
theorem l_impl_RunFalls_L0 (F : FOps) (y0 y1 y2 y4 y5 y6 y7 : Int) : ∀ (fuel : Nat) (y3 y8 y9 y10 : Int) (y11 : List (List Int)), (Pure.impl_RunFalls_L0 F y0 y1 y2 y4 y5 y6 y7 fuel y3 y8 y9 y10 y11).1 = true → loopOf (cxS F tyl [(66, c_impl_fallOk F), (68, c_impl_in F), (23, c_impl_NextHit F), (25, c_impl_FlyFall F), (26, c_impl_HitFall F)] [] [] 0) 0 70 0 [2, 3, 5, 6, 12, 29, 30] [22, 2, 0, 0, 42, 2, 2] [10, 11, 12] (loopB 0 (codeOf Try.f27)) fuel [V.at (A.fl .f32 y0), V.at (A.int .i64 y1), V.at (A.ptr 0 0 0), V.at (A.ptr 1 0 0), V.at (A.sl 2), V.at (A.int .i64 y2), V.at (A.int .i64 y3)] [⟨true, .box [A.fl .f32 y4, A.fl .f32 y5, A.fl .f32 y6, A.fl .f32 y7]⟩, ⟨true, .box [A.fl .f32 y8, A.fl .f32 y9, A.fl .f32 y10]⟩, ⟨true, .rows [K.f .f32, K.f .f32, K.f .f32] y11⟩] = resOf (R_impl_RunFalls_L0  (Pure.impl_RunFalls_L0 F y0 y1 y2 y4 y5 y6 y7 fuel y3 y8 y9 y10 y11)) := by
  intro fuel
  induction fuel with
  | zero => intro y3 y8 y9 y10 y11 h; exact absurd h Bool.false_ne_true
  | succ n ih =>
    intro y3 y8 y9 y10 y11
    have h0 : roundOf (cxS F tyl [(66, c_impl_fallOk F), (68, c_impl_in F), (23, c_impl_NextHit F), (25, c_impl_FlyFall F), (26, c_impl_HitFall F)] [] [] 0) 0 70 0 [2, 3, 5, 6, 12, 29, 30] [22, 2, 0, 0, 42, 2, 2] [10, 11, 12] (loopB 0 (codeOf Try.f27)) [V.at (A.fl .f32 y0), V.at (A.int .i64 y1), V.at (A.ptr 0 0 0), V.at (A.ptr 1 0 0), V.at (A.sl 2), V.at (A.int .i64 y2), V.at (A.int .i64 y3)] [⟨true, .box [A.fl .f32 y4, A.fl .f32 y5, A.fl .f32 y6, A.fl .f32 y7]⟩, ⟨true, .box [A.fl .f32 y8, A.fl .f32 y9, A.fl .f32 y10]⟩, ⟨true, .rows [K.f .f32, K.f .f32, K.f .f32] y11⟩] = (bif decide (y3 < y2) then bif Pure.impl_NextHit_ok F y4 y5 y6 y7 y8 y9 y10 y0 y1 then bif Pure.impl_FlyFall_ok F y4 y5 y6 y7 y8 y9 y10 (Pure.impl_NextHit F y4 y5 y6 y7 y8 y9 y10 y0 y1) then bif Pure.impl_HitFall_ok F y4 y5 y6 y7 (Pure.impl_FlyFall F y4 y5 y6 y7 y8 y9 y10 (Pure.impl_NextHit F y4 y5 y6 y7 y8 y9 y10 y0 y1)) (Pure.impl_FlyFall_1 F y4 y5 y6 y7 y8 y9 y10 (Pure.impl_NextHit F y4 y5 y6 y7 y8 y9 y10 y0 y1)) (Pure.impl_FlyFall_2 F y4 y5 y6 y7 y8 y9 y10 (Pure.impl_NextHit F y4 y5 y6 y7 y8 y9 y10 y0 y1)) then bif Bool.not (Pure.impl_NextHit_1 F y4 y5 y6 y7 y8 y9 y10 y0 y1) then some (false, (Ex.ret, ([V.at A.nil, V.at (A.bool false), V.at (A.sl 0)], [⟨true, .rows [K.f .f32, K.f .f32, K.f .f32] y11⟩]))) else bif Bool.not (Pure.impl_FlyFall_3 F y4 y5 y6 y7 y8 y9 y10 (Pure.impl_NextHit F y4 y5 y6 y7 y8 y9 y10 y0 y1)) then some (false, (Ex.ret, ([V.at A.nil, V.at (A.bool false), V.at (A.sl 0)], [⟨true, .rows [K.f .f32, K.f .f32, K.f .f32] y11⟩]))) else bif Bool.not (Pure.impl_HitFall_3 F y4 y5 y6 y7 (Pure.impl_FlyFall F y4 y5 y6 y7 y8 y9 y10 (Pure.impl_NextHit F y4 y5 y6 y7 y8 y9 y10 y0 y1)) (Pure.impl_FlyFall_1 F y4 y5 y6 y7 y8 y9 y10 (Pure.impl_NextHit F y4 y5 y6 y7 y8 y9 y10 y0 y1)) (Pure.impl_FlyFall_2 F y4 y5 y6 y7 y8 y9 y10 (Pure.impl_NextHit F y4 y5 y6 y7 y8 y9 y10 y0 y1))) then some (false, (Ex.ret, ([V.at A.nil, V.at (A.bool false), V.at (A.sl 0)], [⟨true, .rows [K.f .f32, K.f .f32, K.f .f32] y11⟩]))) else bif decide ((Nat.succ y11.length) ≤ 1073741824) then some (true, (Ex.normal, ([V.at (A.fl .f32 y0), V.at (A.int .i64 y1), V.at (A.ptr 0 0 0), V.at (A.ptr 1 0 0), V.at (A.sl 2), V.at (A.int .i64 y2), V.at (A.int .i64 (IntKind.wrap .i64 (y3 + 1)))], [⟨true, .box [A.fl .f32 y4, A.fl .f32 y5, A.fl .f32 y6, A.fl .f32 y7]⟩, ⟨true, .box [A.fl .f32 (Pure.impl_HitFall F y4 y5 y6 y7 (Pure.impl_FlyFall F y4 y5 y6 y7 y8 y9 y10 (Pure.impl_NextHit F y4 y5 y6 y7 y8 y9 y10 y0 y1)) (Pure.impl_FlyFall_1 F y4 y5 y6 y7 y8 y9 y10 (Pure.impl_NextHit F y4 y5 y6 y7 y8 y9 y10 y0 y1)) (Pure.impl_FlyFall_2 F y4 y5 y6 y7 y8 y9 y10 (Pure.impl_NextHit F y4 y5 y6 y7 y8 y9 y10 y0 y1))), A.fl .f32 (Pure.impl_HitFall_1 F y4 y5 y6 y7 (Pure.impl_FlyFall F y4 y5 y6 y7 y8 y9 y10 (Pure.impl_NextHit F y4 y5 y6 y7 y8 y9 y10 y0 y1)) (Pure.impl_FlyFall_1 F y4 y5 y6 y7 y8 y9 y10 (Pure.impl_NextHit F y4 y5 y6 y7 y8 y9 y10 y0 y1)) (Pure.impl_FlyFall_2 F y4 y5 y6 y7 y8 y9 y10 (Pure.impl_NextHit F y4 y5 y6 y7 y8 y9 y10 y0 y1))), A.fl .f32 (Pure.impl_HitFall_2 F y4 y5 y6 y7 (Pure.impl_FlyFall F y4 y5 y6 y7 y8 y9 y10 (Pure.impl_NextHit F y4 y5 y6 y7 y8 y9 y10 y0 y1)) (Pure.impl_FlyFall_1 F y4 y5 y6 y7 y8 y9 y10 (Pure.impl_NextHit F y4 y5 y6 y7 y8 y9 y10 y0 y1)) (Pure.impl_FlyFall_2 F y4 y5 y6 y7 y8 y9 y10 (Pure.impl_NextHit F y4 y5 y6 y7 y8 y9 y10 y0 y1)))]⟩, ⟨true, .rows [K.f .f32, K.f .f32, K.f .f32] (y11 ++ [[Pure.impl_HitFall F y4 y5 y6 y7 (Pure.impl_FlyFall F y4 y5 y6 y7 y8 y9 y10 (Pure.impl_NextHit F y4 y5 y6 y7 y8 y9 y10 y0 y1)) (Pure.impl_FlyFall_1 F y4 y5 y6 y7 y8 y9 y10 (Pure.impl_NextHit F y4 y5 y6 y7 y8 y9 y10 y0 y1)) (Pure.impl_FlyFall_2 F y4 y5 y6 y7 y8 y9 y10 (Pure.impl_NextHit F y4 y5 y6 y7 y8 y9 y10 y0 y1)), Pure.impl_HitFall_1 F y4 y5 y6 y7 (Pure.impl_FlyFall F y4 y5 y6 y7 y8 y9 y10 (Pure.impl_NextHit F y4 y5 y6 y7 y8 y9 y10 y0 y1)) (Pure.impl_FlyFall_1 F y4 y5 y6 y7 y8 y9 y10 (Pure.impl_NextHit F y4 y5 y6 y7 y8 y9 y10 y0 y1)) (Pure.impl_FlyFall_2 F y4 y5 y6 y7 y8 y9 y10 (Pure.impl_NextHit F y4 y5 y6 y7 y8 y9 y10 y0 y1)), Pure.impl_HitFall_2 F y4 y5 y6 y7 (Pure.impl_FlyFall F y4 y5 y6 y7 y8 y9 y10 (Pure.impl_NextHit F y4 y5 y6 y7 y8 y9 y10 y0 y1)) (Pure.impl_FlyFall_1 F y4 y5 y6 y7 y8 y9 y10 (Pure.impl_NextHit F y4 y5 y6 y7 y8 y9 y10 y0 y1)) (Pure.impl_FlyFall_2 F y4 y5 y6 y7 y8 y9 y10 (Pure.impl_NextHit F y4 y5 y6 y7 y8 y9 y10 y0 y1))]])⟩]))) else none else none else none else none else some (false, (Ex.normal, ([V.at A.undef, V.at A.undef, V.at (A.sl 0)], [⟨true, .rows [K.f .f32, K.f .f32, K.f .f32] y11⟩])))) := by kernel_rfl
    unfold loopOf
    rw [h0]
    unfold Pure.impl_RunFalls_L0
    cases (decide (y3 < y2)) with
    | true =>
      cases (Pure.impl_NextHit_ok F y4 y5 y6 y7 y8 y9 y10 y0 y1) with
      | true =>
        cases (Pure.impl_FlyFall_ok F y4 y5 y6 y7 y8 y9 y10 (Pure.impl_NextHit F y4 y5 y6 y7 y8 y9 y10 y0 y1)) with
        | true =>
          cases (Pure.impl_HitFall_ok F y4 y5 y6 y7 (Pure.impl_FlyFall F y4 y5 y6 y7 y8 y9 y10 (Pure.impl_NextHit F y4 y5 y6 y7 y8 y9 y10 y0 y1)) (Pure.impl_FlyFall_1 F y4 y5 y6 y7 y8 y9 y10 (Pure.impl_NextHit F y4 y5 y6 y7 y8 y9 y10 y0 y1)) (Pure.impl_FlyFall_2 F y4 y5 y6 y7 y8 y9 y10 (Pure.impl_NextHit F y4 y5 y6 y7 y8 y9 y10 y0 y1))) with
          | true =>
            cases (Pure.impl_NextHit_1 F y4 y5 y6 y7 y8 y9 y10 y0 y1) with
            | true =>
              cases (Pure.impl_FlyFall_3 F y4 y5 y6 y7 y8 y9 y10 (Pure.impl_NextHit F y4 y5 y6 y7 y8 y9 y10 y0 y1)) with
              | true =>
                cases (Pure.impl_HitFall_3 F y4 y5 y6 y7 (Pure.impl_FlyFall F y4 y5 y6 y7 y8 y9 y10 (Pure.impl_NextHit F y4 y5 y6 y7 y8 y9 y10 y0 y1)) (Pure.impl_FlyFall_1 F y4 y5 y6 y7 y8 y9 y10 (Pure.impl_NextHit F y4 y5 y6 y7 y8 y9 y10 y0 y1)) (Pure.impl_FlyFall_2 F y4 y5 y6 y7 y8 y9 y10 (Pure.impl_NextHit F y4 y5 y6 y7 y8 y9 y10 y0 y1))) with
                | true =>
                  cases (decide ((Nat.succ y11.length) ≤ 1073741824)) with
                  | true =>
                    exact ih _ _ _ _ _
                  | false =>
                    intro h; exact absurd h Bool.false_ne_true
                | false =>
                  intro _; rfl
              | false =>
                intro _; rfl
            | false =>
              intro _; rfl
          | false =>
            intro h; exact absurd h Bool.false_ne_true
        | false =>
          intro h; exact absurd h Bool.false_ne_true
      | false =>
        intro h; exact absurd h Bool.false_ne_true
    | false =>
      intro _; rfl
theorem t_impl_RunFalls_L0 : SmTo Try.prog 0 70 (S_impl_RunFalls_L0 real) 0 (.loop (loopB 0 (codeOf Try.f27))) := by
  refine smTo_ev (cl := [(66, c_impl_fallOk real), (68, c_impl_in real), (23, c_impl_NextHit real), (25, c_impl_FlyFall real), (26, c_impl_HitFall real)]) (ef := []) (sm := []) (un := 0) prog_ok (allOK_cons ok_impl_fallOk (allOK_cons ok_impl_in (allOK_cons ok_impl_NextHit (allOK_cons ok_impl_FlyFall (allOK_cons ok_impl_HitFall allOK_nil))))) smL_nil ?_
  intro vals hp q r h hq
  unfold S_impl_RunFalls_L0 at h
  dsimp only at h
  split at h
  · rename_i y0 y1 y2 y3 y4 y5 y6 y7 y8 y9 y10 y11
    obtain rfl := Option.some.inj h
    have h1 := hq
    unfold resOf at h1
    rw [chk_some] at h1
    exact ⟨_, (l_impl_RunFalls_L0 real y0 y1 y2 y4 y5 y6 y7 _ y3 y8 y9 y10 y11 h1.1).trans hq⟩
  · cases h
def Pure.impl_RunFalls (F : FOps) (x0 x1 x2 x3 x4 x5 x6 x7 x8 x9 : Int) : Bool := bif Pure.impl_fallOk F x0 x1 x2 x3 x4 x5 x6 then bif Pure.impl_in F x9 1 32 then bif Prod.fst (Prod.snd (Pure.impl_RunFalls_L0 F x7 x8 x9 x0 x1 x2 x3 (Int.toNat ((x9 - 0) + 1)) 0 x4 x5 x6 [])) then false else true else false else false
def Pure.impl_RunFalls_1 (F : FOps) (x0 x1 x2 x3 x4 x5 x6 x7 x8 x9 : Int) : List (List Int) := bif Pure.impl_fallOk F x0 x1 x2 x3 x4 x5 x6 then bif Pure.impl_in F x9 1 32 then bif Prod.fst (Prod.snd (Pure.impl_RunFalls_L0 F x7 x8 x9 x0 x1 x2 x3 (Int.toNat ((x9 - 0) + 1)) 0 x4 x5 x6 [])) then [] else Prod.fst (Prod.snd (Prod.snd (Pure.impl_RunFalls_L0 F x7 x8 x9 x0 x1 x2 x3 (Int.toNat ((x9 - 0) + 1)) 0 x4 x5 x6 []))) else [] else []
def Pure.impl_RunFalls_ok (F : FOps) (x0 x1 x2 x3 x4 x5 x6 x7 x8 x9 : Int) : Bool := bif Pure.impl_fallOk_ok F x0 x1 x2 x3 x4 x5 x6 then bif Pure.impl_fallOk F x0 x1 x2 x3 x4 x5 x6 then bif Pure.impl_in F x9 1 32 then Prod.fst (Pure.impl_RunFalls_L0 F x7 x8 x9 x0 x1 x2 x3 (Int.toNat ((x9 - 0) + 1)) 0 x4 x5 x6 []) else true else true else false
def c_impl_RunFalls (F : FOps) : Con
  | [V.agg [A.fl .f32 x0, A.fl .f32 x1, A.fl .f32 x2, A.fl .f32 x3], V.agg [A.fl .f32 x4, A.fl .f32 x5, A.fl .f32 x6], V.at (A.fl .f32 x7), V.at (A.int .i64 x8), V.at (A.int .i64 x9)], [] => some (Pure.impl_RunFalls_ok F x0 x1 x2 x3 x4 x5 x6 x7 x8 x9, ⟨V.tup [(false, [A.sl 0]), (false, [A.bool (Pure.impl_RunFalls F x0 x1 x2 x3 x4 x5 x6 x7 x8 x9)])], none, [⟨true, .rows [K.f .f32, K.f .f32, K.f .f32] (Pure.impl_RunFalls_1 F x0 x1 x2 x3 x4 x5 x6 x7 x8 x9)⟩]⟩)
  | _, _ => none
theorem e_impl_RunFalls (F : FOps) (x0 x1 x2 x3 x4 x5 x6 x7 x8 x9 : Int) : Pure.impl_RunFalls_ok F x0 x1 x2 x3 x4 x5 x6 x7 x8 x9 = true → evFn (cxS F tyl [(66, c_impl_fallOk F), (68, c_impl_in F), (23, c_impl_NextHit F), (25, c_impl_FlyFall F), (26, c_impl_HitFall F)] [] [(0, S_impl_RunFalls_L0 F)] 0) Try.f27 false [V.agg [A.fl .f32 x0, A.fl .f32 x1, A.fl .f32 x2, A.fl .f32 x3], V.agg [A.fl .f32 x4, A.fl .f32 x5, A.fl .f32 x6], V.at (A.fl .f32 x7), V.at (A.int .i64 x8), V.at (A.int .i64 x9)] [] = some ⟨V.tup [(false, [A.sl 0]), (false, [A.bool (Pure.impl_RunFalls F x0 x1 x2 x3 x4 x5 x6 x7 x8 x9)])], none, [⟨true, .rows [K.f .f32, K.f .f32, K.f .f32] (Pure.impl_RunFalls_1 F x0 x1 x2 x3 x4 x5 x6 x7 x8 x9)⟩]⟩ := by
  have h0 : evFn (cxS F tyl [(66, c_impl_fallOk F), (68, c_impl_in F), (23, c_impl_NextHit F), (25, c_impl_FlyFall F), (26, c_impl_HitFall F)] [] [(0, S_impl_RunFalls_L0 F)] 0) Try.f27 false [V.agg [A.fl .f32 x0, A.fl .f32 x1, A.fl .f32 x2, A.fl .f32 x3], V.agg [A.fl .f32 x4, A.fl .f32 x5, A.fl .f32 x6], V.at (A.fl .f32 x7), V.at (A.int .i64 x8), V.at (A.int .i64 x9)] [] = bif Pure.impl_fallOk_ok F x0 x1 x2 x3 x4 x5 x6 then bif Bool.not (Pure.impl_fallOk F x0 x1 x2 x3 x4 x5 x6) then some ⟨V.tup [(false, [A.sl 0]), (false, [A.bool false])], none, [⟨true, .rows [K.f .f32, K.f .f32, K.f .f32] []⟩]⟩ else bif Bool.not (Pure.impl_in F x9 1 32) then some ⟨V.tup [(false, [A.sl 0]), (false, [A.bool false])], none, [⟨true, .rows [K.f .f32, K.f .f32, K.f .f32] []⟩]⟩ else bif Prod.fst (Pure.impl_RunFalls_L0 F x7 x8 x9 x0 x1 x2 x3 (Int.toNat ((x9 - 0) + 1)) 0 x4 x5 x6 []) then bif Prod.fst (Prod.snd (Pure.impl_RunFalls_L0 F x7 x8 x9 x0 x1 x2 x3 (Int.toNat ((x9 - 0) + 1)) 0 x4 x5 x6 [])) then some ⟨V.tup [(false, [A.sl 0]), (false, [A.bool false])], none, [⟨true, .rows [K.f .f32, K.f .f32, K.f .f32] []⟩]⟩ else some ⟨V.tup [(false, [A.sl 0]), (false, [A.bool true])], none, [⟨true, .rows [K.f .f32, K.f .f32, K.f .f32] (Prod.fst (Prod.snd (Prod.snd (Pure.impl_RunFalls_L0 F x7 x8 x9 x0 x1 x2 x3 (Int.toNat ((x9 - 0) + 1)) 0 x4 x5 x6 []))))⟩]⟩ else none else none := by kernel_rfl
  rw [h0]
  unfold Pure.impl_RunFalls Pure.impl_RunFalls_1 Pure.impl_RunFalls_ok
  cases (Pure.impl_fallOk_ok F x0 x1 x2 x3 x4 x5 x6) with
  | true =>
    cases (Pure.impl_fallOk F x0 x1 x2 x3 x4 x5 x6) with
    | true =>
      cases (Pure.impl_in F x9 1 32) with
      | true =>
        cases (Prod.fst (Pure.impl_RunFalls_L0 F x7 x8 x9 x0 x1 x2 x3 (Int.toNat ((x9 - 0) + 1)) 0 x4 x5 x6 [])) with
        | true =>
          cases (Prod.fst (Prod.snd (Pure.impl_RunFalls_L0 F x7 x8 x9 x0 x1 x2 x3 (Int.toNat ((x9 - 0) + 1)) 0 x4 x5 x6 []))) with
          | true =>
            intro _; rfl
          | false =>
            intro _; rfl
        | false =>
          intro h; exact absurd h Bool.false_ne_true
      | false =>
        intro _; rfl
    | false =>
      intro _; rfl
  | false =>
    intro h; exact absurd h Bool.false_ne_true
theorem ok_impl_RunFalls : CallOK Try.prog 27 (c_impl_RunFalls real) := by
  refine callOK_of fun args h ret hc => ?_
  unfold c_impl_RunFalls at hc
  split at hc
  · rename_i x0 x1 x2 x3 x4 x5 x6 x7 x8 x9
    obtain ⟨hok, rfl⟩ := some_ret hc
    exact holds_ev prog_ok (allOK_cons ok_impl_fallOk (allOK_cons ok_impl_in (allOK_cons ok_impl_NextHit (allOK_cons ok_impl_FlyFall (allOK_cons ok_impl_HitFall allOK_nil))))) Try.func27 rfl rfl (smL_cons (body := .loop (loopB 0 (codeOf Try.f27))) (by kernel_rfl) t_impl_RunFalls_L0 smL_nil) rfl (e_impl_RunFalls real x0 x1 x2 x3 x4 x5 x6 x7 x8 x9 hok)
  · cases hc
def Pure.laws_r8Gap (F : FOps) (x0 x1 : Int) : Int := F.mx .f64 (F.bin .sub .f64 x0 x1) (F.bin .sub .f64 x1 x0)
def c_laws_r8Gap (F : FOps) : Con
  | [V.at (A.fl .f64 x0), V.at (A.fl .f64 x1)], [] => some (true, ⟨V.at (A.fl .f64 (Pure.laws_r8Gap F x0 x1)), none, []⟩)
  | _, _ => none
theorem e_laws_r8Gap (F : FOps) (x0 x1 : Int) : evFn (cxS F tyl [] [] [] 0) Try.f28 false [V.at (A.fl .f64 x0), V.at (A.fl .f64 x1)] [] = some ⟨V.at (A.fl .f64 (Pure.laws_r8Gap F x0 x1)), none, []⟩ := by
  kernel_rfl
theorem ok_laws_r8Gap : CallOK Try.prog 28 (c_laws_r8Gap real) := by
  refine callOK_of fun args h ret hc => ?_
  unfold c_laws_r8Gap at hc
  split at hc
  · rename_i x0 x1
    obtain ⟨_, rfl⟩ := some_ret hc
    exact holds_ev prog_ok allOK_nil Try.func28 rfl rfl smL_nil rfl (e_laws_r8Gap real x0 x1)
  · cases hc
def Pure.s45_f5 (F : FOps) (x0 x1 : List (List Int)) : Int := Pure.impl_NextHit F (F.bin .quo .f32 (F.ofInt .f32 (Pure.laws_r8At F x0 0 9)) 1107296256) (F.bin .quo .f32 (F.ofInt .f32 (Pure.laws_r8At F x0 1 9)) 1082130432) (F.bin .quo .f32 (F.ofInt .f32 (Pure.laws_r8At F x0 2 5)) 1082130432) (F.bin .quo .f32 (F.ofInt .f32 (IntKind.wrap .i64 (1 + (Pure.laws_r8At F x0 3 8)))) 1073741824) (F.bin .quo .f32 (F.ofInt .f32 (IntKind.wrap .i64 (4 + (Pure.laws_r8At F x1 0 13)))) 1090519040) (F.bin .quo .f32 (F.ofInt .f32 (IntKind.wrap .i64 ((Pure.laws_r8At F x1 1 17) - 8))) 1082130432) (F.bin .quo .f32 (F.ofInt .f32 (Pure.laws_r8At F x1 2 9)) 1090519040) 1031798784 256
def Pure.s46_f5 (F : FOps) (x0 x1 : List (List Int)) : Int := Pure.impl_FlyFall_2 F (F.bin .quo .f32 (F.ofInt .f32 (Pure.laws_r8At F x0 0 9)) 1107296256) (F.bin .quo .f32 (F.ofInt .f32 (Pure.laws_r8At F x0 1 9)) 1082130432) (F.bin .quo .f32 (F.ofInt .f32 (Pure.laws_r8At F x0 2 5)) 1082130432) (F.bin .quo .f32 (F.ofInt .f32 (IntKind.wrap .i64 (1 + (Pure.laws_r8At F x0 3 8)))) 1073741824) (F.bin .quo .f32 (F.ofInt .f32 (IntKind.wrap .i64 (4 + (Pure.laws_r8At F x1 0 13)))) 1090519040) (F.bin .quo .f32 (F.ofInt .f32 (IntKind.wrap .i64 ((Pure.laws_r8At F x1 1 17) - 8))) 1082130432) (F.bin .quo .f32 (F.ofInt .f32 (Pure.laws_r8At F x1 2 9)) 1090519040) (Pure.s45_f5 F x0 x1)
def Pure.s47_f5 (F : FOps) (x0 x1 : List (List Int)) : Int := Pure.impl_FlyFall F (F.bin .quo .f32 (F.ofInt .f32 (Pure.laws_r8At F x0 0 9)) 1107296256) (F.bin .quo .f32 (F.ofInt .f32 (Pure.laws_r8At F x0 1 9)) 1082130432) (F.bin .quo .f32 (F.ofInt .f32 (Pure.laws_r8At F x0 2 5)) 1082130432) (F.bin .quo .f32 (F.ofInt .f32 (IntKind.wrap .i64 (1 + (Pure.laws_r8At F x0 3 8)))) 1073741824) (F.bin .quo .f32 (F.ofInt .f32 (IntKind.wrap .i64 (4 + (Pure.laws_r8At F x1 0 13)))) 1090519040) (F.bin .quo .f32 (F.ofInt .f32 (IntKind.wrap .i64 ((Pure.laws_r8At F x1 1 17) - 8))) 1082130432) (F.bin .quo .f32 (F.ofInt .f32 (Pure.laws_r8At F x1 2 9)) 1090519040) (Pure.s45_f5 F x0 x1)
def Pure.s48_f5 (F : FOps) (x0 x1 : List (List Int)) : Int := Pure.impl_FlyFall_1 F (F.bin .quo .f32 (F.ofInt .f32 (Pure.laws_r8At F x0 0 9)) 1107296256) (F.bin .quo .f32 (F.ofInt .f32 (Pure.laws_r8At F x0 1 9)) 1082130432) (F.bin .quo .f32 (F.ofInt .f32 (Pure.laws_r8At F x0 2 5)) 1082130432) (F.bin .quo .f32 (F.ofInt .f32 (IntKind.wrap .i64 (1 + (Pure.laws_r8At F x0 3 8)))) 1073741824) (F.bin .quo .f32 (F.ofInt .f32 (IntKind.wrap .i64 (4 + (Pure.laws_r8At F x1 0 13)))) 1090519040) (F.bin .quo .f32 (F.ofInt .f32 (IntKind.wrap .i64 ((Pure.laws_r8At F x1 1 17) - 8))) 1082130432) (F.bin .quo .f32 (F.ofInt .f32 (Pure.laws_r8At F x1 2 9)) 1090519040) (Pure.s45_f5 F x0 x1)
def Pure.s49_f5 (F : FOps) (x0 x1 : List (List Int)) : Int := Pure.impl_HitFall F (F.bin .quo .f32 (F.ofInt .f32 (Pure.laws_r8At F x0 0 9)) 1107296256) (F.bin .quo .f32 (F.ofInt .f32 (Pure.laws_r8At F x0 1 9)) 1082130432) (F.bin .quo .f32 (F.ofInt .f32 (Pure.laws_r8At F x0 2 5)) 1082130432) (F.bin .quo .f32 (F.ofInt .f32 (IntKind.wrap .i64 (1 + (Pure.laws_r8At F x0 3 8)))) 1073741824) (Pure.s47_f5 F x0 x1) (Pure.s48_f5 F x0 x1) (Pure.s46_f5 F x0 x1)
def Pure.s50_f5 (F : FOps) (x0 x1 : List (List Int)) : Int := Pure.impl_HitFall_1 F (F.bin .quo .f32 (F.ofInt .f32 (Pure.laws_r8At F x0 0 9)) 1107296256) (F.bin .quo .f32 (F.ofInt .f32 (Pure.laws_r8At F x0 1 9)) 1082130432) (F.bin .quo .f32 (F.ofInt .f32 (Pure.laws_r8At F x0 2 5)) 1082130432) (F.bin .quo .f32 (F.ofInt .f32 (IntKind.wrap .i64 (1 + (Pure.laws_r8At F x0 3 8)))) 1073741824) (Pure.s47_f5 F x0 x1) (Pure.s48_f5 F x0 x1) (Pure.s46_f5 F x0 x1)
def Pure.s51_f5 (F : FOps) (x0 x1 : List (List Int)) : Int := Pure.impl_HitFall_2 F (F.bin .quo .f32 (F.ofInt .f32 (Pure.laws_r8At F x0 0 9)) 1107296256) (F.bin .quo .f32 (F.ofInt .f32 (Pure.laws_r8At F x0 1 9)) 1082130432) (F.bin .quo .f32 (F.ofInt .f32 (Pure.laws_r8At F x0 2 5)) 1082130432) (F.bin .quo .f32 (F.ofInt .f32 (IntKind.wrap .i64 (1 + (Pure.laws_r8At F x0 3 8)))) 1073741824) (Pure.s47_f5 F x0 x1) (Pure.s48_f5 F x0 x1) (Pure.s46_f5 F x0 x1)
def Pure.s52_f5 (F : FOps) (x0 x1 : List (List Int)) : Int := Pure.impl_TableAt F (F.bin .quo .f32 (F.ofInt .f32 (Pure.laws_r8At F x0 0 9)) 1107296256) (F.bin .quo .f32 (F.ofInt .f32 (Pure.laws_r8At F x0 1 9)) 1082130432) (F.bin .quo .f32 (F.ofInt .f32 (Pure.laws_r8At F x0 2 5)) 1082130432) (F.bin .quo .f32 (F.ofInt .f32 (IntKind.wrap .i64 (1 + (Pure.laws_r8At F x0 3 8)))) 1073741824) (Pure.s46_f5 F x0 x1)
def Pure.s53_f5 (F : FOps) (x0 x1 : List (List Int)) : Int := Pure.impl_TableSpeed F (F.bin .quo .f32 (F.ofInt .f32 (Pure.laws_r8At F x0 0 9)) 1107296256) (F.bin .quo .f32 (F.ofInt .f32 (Pure.laws_r8At F x0 1 9)) 1082130432) (F.bin .quo .f32 (F.ofInt .f32 (Pure.laws_r8At F x0 2 5)) 1082130432) (F.bin .quo .f32 (F.ofInt .f32 (IntKind.wrap .i64 (1 + (Pure.laws_r8At F x0 3 8)))) 1073741824) (Pure.s46_f5 F x0 x1)
def Pure.s54_f5 (F : FOps) (x0 x1 : List (List Int)) : Int := F.conv .f32 .f64 (Pure.s53_f5 F x0 x1)
def Pure.s55_f5 (F : FOps) (x0 x1 : List (List Int)) : Int := Pure.impl_FlyFall F (F.bin .quo .f32 (F.ofInt .f32 (Pure.laws_r8At F x0 0 9)) 1107296256) (F.bin .quo .f32 (F.ofInt .f32 (Pure.laws_r8At F x0 1 9)) 1082130432) (F.bin .quo .f32 (F.ofInt .f32 (Pure.laws_r8At F x0 2 5)) 1082130432) (F.bin .quo .f32 (F.ofInt .f32 (IntKind.wrap .i64 (1 + (Pure.laws_r8At F x0 3 8)))) 1073741824) (F.bin .quo .f32 (F.ofInt .f32 (IntKind.wrap .i64 (4 + (Pure.laws_r8At F x1 0 13)))) 1090519040) (F.bin .quo .f32 (F.ofInt .f32 (IntKind.wrap .i64 ((Pure.laws_r8At F x1 1 17) - 8))) 1082130432) (F.bin .quo .f32 (F.ofInt .f32 (Pure.laws_r8At F x1 2 9)) 1090519040) 1048576000
def Pure.s56_f5 (F : FOps) (x0 x1 : List (List Int)) : Int := Pure.impl_FlyFall_1 F (F.bin .quo .f32 (F.ofInt .f32 (Pure.laws_r8At F x0 0 9)) 1107296256) (F.bin .quo .f32 (F.ofInt .f32 (Pure.laws_r8At F x0 1 9)) 1082130432) (F.bin .quo .f32 (F.ofInt .f32 (Pure.laws_r8At F x0 2 5)) 1082130432) (F.bin .quo .f32 (F.ofInt .f32 (IntKind.wrap .i64 (1 + (Pure.laws_r8At F x0 3 8)))) 1073741824) (F.bin .quo .f32 (F.ofInt .f32 (IntKind.wrap .i64 (4 + (Pure.laws_r8At F x1 0 13)))) 1090519040) (F.bin .quo .f32 (F.ofInt .f32 (IntKind.wrap .i64 ((Pure.laws_r8At F x1 1 17) - 8))) 1082130432) (F.bin .quo .f32 (F.ofInt .f32 (Pure.laws_r8At F x1 2 9)) 1090519040) 1048576000
def Pure.s57_f5 (F : FOps) (x0 x1 : List (List Int)) : Int := Pure.impl_FlyFall_2 F (F.bin .quo .f32 (F.ofInt .f32 (Pure.laws_r8At F x0 0 9)) 1107296256) (F.bin .quo .f32 (F.ofInt .f32 (Pure.laws_r8At F x0 1 9)) 1082130432) (F.bin .quo .f32 (F.ofInt .f32 (Pure.laws_r8At F x0 2 5)) 1082130432) (F.bin .quo .f32 (F.ofInt .f32 (IntKind.wrap .i64 (1 + (Pure.laws_r8At F x0 3 8)))) 1073741824) (F.bin .quo .f32 (F.ofInt .f32 (IntKind.wrap .i64 (4 + (Pure.laws_r8At F x1 0 13)))) 1090519040) (F.bin .quo .f32 (F.ofInt .f32 (IntKind.wrap .i64 ((Pure.laws_r8At F x1 1 17) - 8))) 1082130432) (F.bin .quo .f32 (F.ofInt .f32 (Pure.laws_r8At F x1 2 9)) 1090519040) 1048576000
def Pure.s58_f5 (F : FOps) (x0 x1 : List (List Int)) : Int := Pure.impl_FlyFall F (F.bin .quo .f32 (F.ofInt .f32 (Pure.laws_r8At F x0 0 9)) 1107296256) (F.bin .quo .f32 (F.ofInt .f32 (Pure.laws_r8At F x0 1 9)) 1082130432) (F.bin .quo .f32 (F.ofInt .f32 (Pure.laws_r8At F x0 2 5)) 1082130432) (F.bin .quo .f32 (F.ofInt .f32 (IntKind.wrap .i64 (1 + (Pure.laws_r8At F x0 3 8)))) 1073741824) (Pure.s55_f5 F x0 x1) (Pure.s56_f5 F x0 x1) (Pure.s57_f5 F x0 x1) 1056964608
def Pure.s59_f5 (F : FOps) (x0 x1 : List (List Int)) : Int := Pure.impl_FlyFall F (F.bin .quo .f32 (F.ofInt .f32 (Pure.laws_r8At F x0 0 9)) 1107296256) (F.bin .quo .f32 (F.ofInt .f32 (Pure.laws_r8At F x0 1 9)) 1082130432) (F.bin .quo .f32 (F.ofInt .f32 (Pure.laws_r8At F x0 2 5)) 1082130432) (F.bin .quo .f32 (F.ofInt .f32 (IntKind.wrap .i64 (1 + (Pure.laws_r8At F x0 3 8)))) 1073741824) (F.bin .quo .f32 (F.ofInt .f32 (IntKind.wrap .i64 (4 + (Pure.laws_r8At F x1 0 13)))) 1090519040) (F.bin .quo .f32 (F.ofInt .f32 (IntKind.wrap .i64 ((Pure.laws_r8At F x1 1 17) - 8))) 1082130432) (F.bin .quo .f32 (F.ofInt .f32 (Pure.laws_r8At F x1 2 9)) 1090519040) 1061158912
def Pure.s60_f5 (F : FOps) (x0 x1 : List (List Int)) : Int := Pure.impl_FlyFall_1 F (F.bin .quo .f32 (F.ofInt .f32 (Pure.laws_r8At F x0 0 9)) 1107296256) (F.bin .quo .f32 (F.ofInt .f32 (Pure.laws_r8At F x0 1 9)) 1082130432) (F.bin .quo .f32 (F.ofInt .f32 (Pure.laws_r8At F x0 2 5)) 1082130432) (F.bin .quo .f32 (F.ofInt .f32 (IntKind.wrap .i64 (1 + (Pure.laws_r8At F x0 3 8)))) 1073741824) (Pure.s55_f5 F x0 x1) (Pure.s56_f5 F x0 x1) (Pure.s57_f5 F x0 x1) 1056964608
def Pure.s61_f5 (F : FOps) (x0 x1 : List (List Int)) : Int := Pure.impl_FlyFall_1 F (F.bin .quo .f32 (F.ofInt .f32 (Pure.laws_r8At F x0 0 9)) 1107296256) (F.bin .quo .f32 (F.ofInt .f32 (Pure.laws_r8At F x0 1 9)) 1082130432) (F.bin .quo .f32 (F.ofInt .f32 (Pure.laws_r8At F x0 2 5)) 1082130432) (F.bin .quo .f32 (F.ofInt .f32 (IntKind.wrap .i64 (1 + (Pure.laws_r8At F x0 3 8)))) 1073741824) (F.bin .quo .f32 (F.ofInt .f32 (IntKind.wrap .i64 (4 + (Pure.laws_r8At F x1 0 13)))) 1090519040) (F.bin .quo .f32 (F.ofInt .f32 (IntKind.wrap .i64 ((Pure.laws_r8At F x1 1 17) - 8))) 1082130432) (F.bin .quo .f32 (F.ofInt .f32 (Pure.laws_r8At F x1 2 9)) 1090519040) 1061158912
def Pure.laws_FnTables (F : FOps) (x0 x1 : List (List Int)) : Bool := bif Pure.laws_r8Long F x0 x1 then true else bif Pure.impl_NextHit_1 F (F.bin .quo .f32 (F.ofInt .f32 (Pure.laws_r8At F x0 0 9)) 1107296256) (F.bin .quo .f32 (F.ofInt .f32 (Pure.laws_r8At F x0 1 9)) 1082130432) (F.bin .quo .f32 (F.ofInt .f32 (Pure.laws_r8At F x0 2 5)) 1082130432) (F.bin .quo .f32 (F.ofInt .f32 (IntKind.wrap .i64 (1 + (Pure.laws_r8At F x0 3 8)))) 1073741824) (F.bin .quo .f32 (F.ofInt .f32 (IntKind.wrap .i64 (4 + (Pure.laws_r8At F x1 0 13)))) 1090519040) (F.bin .quo .f32 (F.ofInt .f32 (IntKind.wrap .i64 ((Pure.laws_r8At F x1 1 17) - 8))) 1082130432) (F.bin .quo .f32 (F.ofInt .f32 (Pure.laws_r8At F x1 2 9)) 1090519040) 1031798784 256 then bif Pure.impl_ValidTable F (F.bin .quo .f32 (F.ofInt .f32 (Pure.laws_r8At F x0 0 9)) 1107296256) (F.bin .quo .f32 (F.ofInt .f32 (Pure.laws_r8At F x0 1 9)) 1082130432) (F.bin .quo .f32 (F.ofInt .f32 (Pure.laws_r8At F x0 2 5)) 1082130432) (F.bin .quo .f32 (F.ofInt .f32 (IntKind.wrap .i64 (1 + (Pure.laws_r8At F x0 3 8)))) 1073741824) then bif F.cmp .lss .f32 (Pure.s45_f5 F x0 x1) 0 then false else bif Pure.impl_FlyFall_3 F (F.bin .quo .f32 (F.ofInt .f32 (Pure.laws_r8At F x0 0 9)) 1107296256) (F.bin .quo .f32 (F.ofInt .f32 (Pure.laws_r8At F x0 1 9)) 1082130432) (F.bin .quo .f32 (F.ofInt .f32 (Pure.laws_r8At F x0 2 5)) 1082130432) (F.bin .quo .f32 (F.ofInt .f32 (IntKind.wrap .i64 (1 + (Pure.laws_r8At F x0 3 8)))) 1073741824) (F.bin .quo .f32 (F.ofInt .f32 (IntKind.wrap .i64 (4 + (Pure.laws_r8At F x1 0 13)))) 1090519040) (F.bin .quo .f32 (F.ofInt .f32 (IntKind.wrap .i64 ((Pure.laws_r8At F x1 1 17) - 8))) 1082130432) (F.bin .quo .f32 (F.ofInt .f32 (Pure.laws_r8At F x1 2 9)) 1090519040) (Pure.s45_f5 F x0 x1) then bif Pure.impl_TableAt_1 F (F.bin .quo .f32 (F.ofInt .f32 (Pure.laws_r8At F x0 0 9)) 1107296256) (F.bin .quo .f32 (F.ofInt .f32 (Pure.laws_r8At F x0 1 9)) 1082130432) (F.bin .quo .f32 (F.ofInt .f32 (Pure.laws_r8At F x0 2 5)) 1082130432) (F.bin .quo .f32 (F.ofInt .f32 (IntKind.wrap .i64 (1 + (Pure.laws_r8At F x0 3 8)))) 1073741824) (Pure.s46_f5 F x0 x1) then bif Pure.impl_TableSpeed_1 F (F.bin .quo .f32 (F.ofInt .f32 (Pure.laws_r8At F x0 0 9)) 1107296256) (F.bin .quo .f32 (F.ofInt .f32 (Pure.laws_r8At F x0 1 9)) 1082130432) (F.bin .quo .f32 (F.ofInt .f32 (Pure.laws_r8At F x0 2 5)) 1082130432) (F.bin .quo .f32 (F.ofInt .f32 (IntKind.wrap .i64 (1 + (Pure.laws_r8At F x0 3 8)))) 1073741824) (Pure.s46_f5 F x0 x1) then bif Pure.impl_HitFall_3 F (F.bin .quo .f32 (F.ofInt .f32 (Pure.laws_r8At F x0 0 9)) 1107296256) (F.bin .quo .f32 (F.ofInt .f32 (Pure.laws_r8At F x0 1 9)) 1082130432) (F.bin .quo .f32 (F.ofInt .f32 (Pure.laws_r8At F x0 2 5)) 1082130432) (F.bin .quo .f32 (F.ofInt .f32 (IntKind.wrap .i64 (1 + (Pure.laws_r8At F x0 3 8)))) 1073741824) (Pure.s47_f5 F x0 x1) (Pure.s48_f5 F x0 x1) (Pure.s46_f5 F x0 x1) then bif Pure.impl_RunFalls F (F.bin .quo .f32 (F.ofInt .f32 (Pure.laws_r8At F x0 0 9)) 1107296256) (F.bin .quo .f32 (F.ofInt .f32 (Pure.laws_r8At F x0 1 9)) 1082130432) (F.bin .quo .f32 (F.ofInt .f32 (Pure.laws_r8At F x0 2 5)) 1082130432) (F.bin .quo .f32 (F.ofInt .f32 (IntKind.wrap .i64 (1 + (Pure.laws_r8At F x0 3 8)))) 1073741824) (F.bin .quo .f32 (F.ofInt .f32 (IntKind.wrap .i64 (4 + (Pure.laws_r8At F x1 0 13)))) 1090519040) (F.bin .quo .f32 (F.ofInt .f32 (IntKind.wrap .i64 ((Pure.laws_r8At F x1 1 17) - 8))) 1082130432) (F.bin .quo .f32 (F.ofInt .f32 (Pure.laws_r8At F x1 2 9)) 1090519040) 1031798784 256 1 then bif (Int.ofNat (List.length (Pure.impl_RunFalls_1 F (F.bin .quo .f32 (F.ofInt .f32 (Pure.laws_r8At F x0 0 9)) 1107296256) (F.bin .quo .f32 (F.ofInt .f32 (Pure.laws_r8At F x0 1 9)) 1082130432) (F.bin .quo .f32 (F.ofInt .f32 (Pure.laws_r8At F x0 2 5)) 1082130432) (F.bin .quo .f32 (F.ofInt .f32 (IntKind.wrap .i64 (1 + (Pure.laws_r8At F x0 3 8)))) 1073741824) (F.bin .quo .f32 (F.ofInt .f32 (IntKind.wrap .i64 (4 + (Pure.laws_r8At F x1 0 13)))) 1090519040) (F.bin .quo .f32 (F.ofInt .f32 (IntKind.wrap .i64 ((Pure.laws_r8At F x1 1 17) - 8))) 1082130432) (F.bin .quo .f32 (F.ofInt .f32 (Pure.laws_r8At F x1 2 9)) 1090519040) 1031798784 256 1))) != 1 then false else bif F.cmp .eql .f32 (List.getD (List.getD (Pure.impl_RunFalls_1 F (F.bin .quo .f32 (F.ofInt .f32 (Pure.laws_r8At F x0 0 9)) 1107296256) (F.bin .quo .f32 (F.ofInt .f32 (Pure.laws_r8At F x0 1 9)) 1082130432) (F.bin .quo .f32 (F.ofInt .f32 (Pure.laws_r8At F x0 2 5)) 1082130432) (F.bin .quo .f32 (F.ofInt .f32 (IntKind.wrap .i64 (1 + (Pure.laws_r8At F x0 3 8)))) 1073741824) (F.bin .quo .f32 (F.ofInt .f32 (IntKind.wrap .i64 (4 + (Pure.laws_r8At F x1 0 13)))) 1090519040) (F.bin .quo .f32 (F.ofInt .f32 (IntKind.wrap .i64 ((Pure.laws_r8At F x1 1 17) - 8))) 1082130432) (F.bin .quo .f32 (F.ofInt .f32 (Pure.laws_r8At F x1 2 9)) 1090519040) 1031798784 256 1) 0 []) 0 0) (Pure.s49_f5 F x0 x1) then bif F.cmp .eql .f32 (List.getD (List.getD (Pure.impl_RunFalls_1 F (F.bin .quo .f32 (F.ofInt .f32 (Pure.laws_r8At F x0 0 9)) 1107296256) (F.bin .quo .f32 (F.ofInt .f32 (Pure.laws_r8At F x0 1 9)) 1082130432) (F.bin .quo .f32 (F.ofInt .f32 (Pure.laws_r8At F x0 2 5)) 1082130432) (F.bin .quo .f32 (F.ofInt .f32 (IntKind.wrap .i64 (1 + (Pure.laws_r8At F x0 3 8)))) 1073741824) (F.bin .quo .f32 (F.ofInt .f32 (IntKind.wrap .i64 (4 + (Pure.laws_r8At F x1 0 13)))) 1090519040) (F.bin .quo .f32 (F.ofInt .f32 (IntKind.wrap .i64 ((Pure.laws_r8At F x1 1 17) - 8))) 1082130432) (F.bin .quo .f32 (F.ofInt .f32 (Pure.laws_r8At F x1 2 9)) 1090519040) 1031798784 256 1) 0 []) 1 0) (Pure.s50_f5 F x0 x1) then bif F.cmp .eql .f32 (List.getD (List.getD (Pure.impl_RunFalls_1 F (F.bin .quo .f32 (F.ofInt .f32 (Pure.laws_r8At F x0 0 9)) 1107296256) (F.bin .quo .f32 (F.ofInt .f32 (Pure.laws_r8At F x0 1 9)) 1082130432) (F.bin .quo .f32 (F.ofInt .f32 (Pure.laws_r8At F x0 2 5)) 1082130432) (F.bin .quo .f32 (F.ofInt .f32 (IntKind.wrap .i64 (1 + (Pure.laws_r8At F x0 3 8)))) 1073741824) (F.bin .quo .f32 (F.ofInt .f32 (IntKind.wrap .i64 (4 + (Pure.laws_r8At F x1 0 13)))) 1090519040) (F.bin .quo .f32 (F.ofInt .f32 (IntKind.wrap .i64 ((Pure.laws_r8At F x1 1 17) - 8))) 1082130432) (F.bin .quo .f32 (F.ofInt .f32 (Pure.laws_r8At F x1 2 9)) 1090519040) 1031798784 256 1) 0 []) 2 0) (Pure.s51_f5 F x0 x1) then bif F.cmp .neq .f32 (Pure.s49_f5 F x0 x1) (Pure.s52_f5 F x0 x1) then false else bif F.cmp .neq .f32 (Pure.s51_f5 F x0 x1) (Pure.s46_f5 F x0 x1) then false else bif F.cmp .gtr .f64 (Pure.laws_r8Gap F (F.conv .f32 .f64 (Pure.s47_f5 F x0 x1)) (F.conv .f32 .f64 (Pure.s52_f5 F x0 x1))) 4576918229304087675 then false else bif F.cmp .gtr .f64 (Pure.laws_r8Gap F (F.bin .sub .f64 (F.conv .f32 .f64 (Pure.s50_f5 F x0 x1)) (Pure.s54_f5 F x0 x1)) (F.bin .mul .f64 (F.conv .f32 .f64 (F.bin .quo .f32 (F.ofInt .f32 (Pure.laws_r8At F x0 2 5)) 1082130432)) (F.bin .sub .f64 (Pure.s54_f5 F x0 x1) (F.conv .f32 .f64 (Pure.s48_f5 F x0 x1))))) 4562254508917369340 then false else bif Pure.impl_FlyFall_3 F (F.bin .quo .f32 (F.ofInt .f32 (Pure.laws_r8At F x0 0 9)) 1107296256) (F.bin .quo .f32 (F.ofInt .f32 (Pure.laws_r8At F x0 1 9)) 1082130432) (F.bin .quo .f32 (F.ofInt .f32 (Pure.laws_r8At F x0 2 5)) 1082130432) (F.bin .quo .f32 (F.ofInt .f32 (IntKind.wrap .i64 (1 + (Pure.laws_r8At F x0 3 8)))) 1073741824) (F.bin .quo .f32 (F.ofInt .f32 (IntKind.wrap .i64 (4 + (Pure.laws_r8At F x1 0 13)))) 1090519040) (F.bin .quo .f32 (F.ofInt .f32 (IntKind.wrap .i64 ((Pure.laws_r8At F x1 1 17) - 8))) 1082130432) (F.bin .quo .f32 (F.ofInt .f32 (Pure.laws_r8At F x1 2 9)) 1090519040) 1048576000 then bif Pure.impl_FlyFall_3 F (F.bin .quo .f32 (F.ofInt .f32 (Pure.laws_r8At F x0 0 9)) 1107296256) (F.bin .quo .f32 (F.ofInt .f32 (Pure.laws_r8At F x0 1 9)) 1082130432) (F.bin .quo .f32 (F.ofInt .f32 (Pure.laws_r8At F x0 2 5)) 1082130432) (F.bin .quo .f32 (F.ofInt .f32 (IntKind.wrap .i64 (1 + (Pure.laws_r8At F x0 3 8)))) 1073741824) (Pure.s55_f5 F x0 x1) (Pure.s56_f5 F x0 x1) (Pure.s57_f5 F x0 x1) 1056964608 then bif Pure.impl_FlyFall_3 F (F.bin .quo .f32 (F.ofInt .f32 (Pure.laws_r8At F x0 0 9)) 1107296256) (F.bin .quo .f32 (F.ofInt .f32 (Pure.laws_r8At F x0 1 9)) 1082130432) (F.bin .quo .f32 (F.ofInt .f32 (Pure.laws_r8At F x0 2 5)) 1082130432) (F.bin .quo .f32 (F.ofInt .f32 (IntKind.wrap .i64 (1 + (Pure.laws_r8At F x0 3 8)))) 1073741824) (F.bin .quo .f32 (F.ofInt .f32 (IntKind.wrap .i64 (4 + (Pure.laws_r8At F x1 0 13)))) 1090519040) (F.bin .quo .f32 (F.ofInt .f32 (IntKind.wrap .i64 ((Pure.laws_r8At F x1 1 17) - 8))) 1082130432) (F.bin .quo .f32 (F.ofInt .f32 (Pure.laws_r8At F x1 2 9)) 1090519040) 1061158912 then bif F.cmp .lss .f64 (Pure.laws_r8Gap F (F.conv .f32 .f64 (Pure.s58_f5 F x0 x1)) (F.conv .f32 .f64 (Pure.s59_f5 F x0 x1))) 4562254508917369340 then bif F.cmp .lss .f64 (Pure.laws_r8Gap F (F.conv .f32 .f64 (Pure.s60_f5 F x0 x1)) (F.conv .f32 .f64 (Pure.s61_f5 F x0 x1))) 4562254508917369340 then F.cmp .eql .f32 (Pure.impl_FlyFall_2 F (F.bin .quo .f32 (F.ofInt .f32 (Pure.laws_r8At F x0 0 9)) 1107296256) (F.bin .quo .f32 (F.ofInt .f32 (Pure.laws_r8At F x0 1 9)) 1082130432) (F.bin .quo .f32 (F.ofInt .f32 (Pure.laws_r8At F x0 2 5)) 1082130432) (F.bin .quo .f32 (F.ofInt .f32 (IntKind.wrap .i64 (1 + (Pure.laws_r8At F x0 3 8)))) 1073741824) (Pure.s55_f5 F x0 x1) (Pure.s56_f5 F x0 x1) (Pure.s57_f5 F x0 x1) 1056964608) (Pure.impl_FlyFall_2 F (F.bin .quo .f32 (F.ofInt .f32 (Pure.laws_r8At F x0 0 9)) 1107296256) (F.bin .quo .f32 (F.ofInt .f32 (Pure.laws_r8At F x0 1 9)) 1082130432) (F.bin .quo .f32 (F.ofInt .f32 (Pure.laws_r8At F x0 2 5)) 1082130432) (F.bin .quo .f32 (F.ofInt .f32 (IntKind.wrap .i64 (1 + (Pure.laws_r8At F x0 3 8)))) 1073741824) (F.bin .quo .f32 (F.ofInt .f32 (IntKind.wrap .i64 (4 + (Pure.laws_r8At F x1 0 13)))) 1090519040) (F.bin .quo .f32 (F.ofInt .f32 (IntKind.wrap .i64 ((Pure.laws_r8At F x1 1 17) - 8))) 1082130432) (F.bin .quo .f32 (F.ofInt .f32 (Pure.laws_r8At F x1 2 9)) 1090519040) 1061158912) else false else false else false else false else false else false else false else false else false else false else false else false else false else false else false
def Pure.laws_FnTables_ok (F : FOps) (x0 x1 : List (List Int)) : Bool := bif Pure.laws_r8Long F x0 x1 then true else bif Pure.laws_r8At_ok F x0 0 9 then bif Pure.laws_r8At_ok F x0 1 9 then bif Pure.laws_r8At_ok F x0 2 5 then bif Pure.laws_r8At_ok F x0 3 8 then bif Pure.laws_r8At_ok F x1 0 13 then bif Pure.laws_r8At_ok F x1 1 17 then bif Pure.laws_r8At_ok F x1 2 9 then bif Pure.impl_NextHit_ok F (F.bin .quo .f32 (F.ofInt .f32 (Pure.laws_r8At F x0 0 9)) 1107296256) (F.bin .quo .f32 (F.ofInt .f32 (Pure.laws_r8At F x0 1 9)) 1082130432) (F.bin .quo .f32 (F.ofInt .f32 (Pure.laws_r8At F x0 2 5)) 1082130432) (F.bin .quo .f32 (F.ofInt .f32 (IntKind.wrap .i64 (1 + (Pure.laws_r8At F x0 3 8)))) 1073741824) (F.bin .quo .f32 (F.ofInt .f32 (IntKind.wrap .i64 (4 + (Pure.laws_r8At F x1 0 13)))) 1090519040) (F.bin .quo .f32 (F.ofInt .f32 (IntKind.wrap .i64 ((Pure.laws_r8At F x1 1 17) - 8))) 1082130432) (F.bin .quo .f32 (F.ofInt .f32 (Pure.laws_r8At F x1 2 9)) 1090519040) 1031798784 256 then bif Pure.impl_NextHit_1 F (F.bin .quo .f32 (F.ofInt .f32 (Pure.laws_r8At F x0 0 9)) 1107296256) (F.bin .quo .f32 (F.ofInt .f32 (Pure.laws_r8At F x0 1 9)) 1082130432) (F.bin .quo .f32 (F.ofInt .f32 (Pure.laws_r8At F x0 2 5)) 1082130432) (F.bin .quo .f32 (F.ofInt .f32 (IntKind.wrap .i64 (1 + (Pure.laws_r8At F x0 3 8)))) 1073741824) (F.bin .quo .f32 (F.ofInt .f32 (IntKind.wrap .i64 (4 + (Pure.laws_r8At F x1 0 13)))) 1090519040) (F.bin .quo .f32 (F.ofInt .f32 (IntKind.wrap .i64 ((Pure.laws_r8At F x1 1 17) - 8))) 1082130432) (F.bin .quo .f32 (F.ofInt .f32 (Pure.laws_r8At F x1 2 9)) 1090519040) 1031798784 256 then bif Pure.impl_ValidTable_ok F (F.bin .quo .f32 (F.ofInt .f32 (Pure.laws_r8At F x0 0 9)) 1107296256) (F.bin .quo .f32 (F.ofInt .f32 (Pure.laws_r8At F x0 1 9)) 1082130432) (F.bin .quo .f32 (F.ofInt .f32 (Pure.laws_r8At F x0 2 5)) 1082130432) (F.bin .quo .f32 (F.ofInt .f32 (IntKind.wrap .i64 (1 + (Pure.laws_r8At F x0 3 8)))) 1073741824) then bif Pure.impl_ValidTable F (F.bin .quo .f32 (F.ofInt .f32 (Pure.laws_r8At F x0 0 9)) 1107296256) (F.bin .quo .f32 (F.ofInt .f32 (Pure.laws_r8At F x0 1 9)) 1082130432) (F.bin .quo .f32 (F.ofInt .f32 (Pure.laws_r8At F x0 2 5)) 1082130432) (F.bin .quo .f32 (F.ofInt .f32 (IntKind.wrap .i64 (1 + (Pure.laws_r8At F x0 3 8)))) 1073741824) then bif F.cmp .lss .f32 (Pure.s45_f5 F x0 x1) 0 then true else bif Pure.impl_FlyFall_ok F (F.bin .quo .f32 (F.ofInt .f32 (Pure.laws_r8At F x0 0 9)) 1107296256) (F.bin .quo .f32 (F.ofInt .f32 (Pure.laws_r8At F x0 1 9)) 1082130432) (F.bin .quo .f32 (F.ofInt .f32 (Pure.laws_r8At F x0 2 5)) 1082130432) (F.bin .quo .f32 (F.ofInt .f32 (IntKind.wrap .i64 (1 + (Pure.laws_r8At F x0 3 8)))) 1073741824) (F.bin .quo .f32 (F.ofInt .f32 (IntKind.wrap .i64 (4 + (Pure.laws_r8At F x1 0 13)))) 1090519040) (F.bin .quo .f32 (F.ofInt .f32 (IntKind.wrap .i64 ((Pure.laws_r8At F x1 1 17) - 8))) 1082130432) (F.bin .quo .f32 (F.ofInt .f32 (Pure.laws_r8At F x1 2 9)) 1090519040) (Pure.s45_f5 F x0 x1) then bif Pure.impl_TableAt_ok F (F.bin .quo .f32 (F.ofInt .f32 (Pure.laws_r8At F x0 0 9)) 1107296256) (F.bin .quo .f32 (F.ofInt .f32 (Pure.laws_r8At F x0 1 9)) 1082130432) (F.bin .quo .f32 (F.ofInt .f32 (Pure.laws_r8At F x0 2 5)) 1082130432) (F.bin .quo .f32 (F.ofInt .f32 (IntKind.wrap .i64 (1 + (Pure.laws_r8At F x0 3 8)))) 1073741824) (Pure.s46_f5 F x0 x1) then bif Pure.impl_TableSpeed_ok F (F.bin .quo .f32 (F.ofInt .f32 (Pure.laws_r8At F x0 0 9)) 1107296256) (F.bin .quo .f32 (F.ofInt .f32 (Pure.laws_r8At F x0 1 9)) 1082130432) (F.bin .quo .f32 (F.ofInt .f32 (Pure.laws_r8At F x0 2 5)) 1082130432) (F.bin .quo .f32 (F.ofInt .f32 (IntKind.wrap .i64 (1 + (Pure.laws_r8At F x0 3 8)))) 1073741824) (Pure.s46_f5 F x0 x1) then bif Pure.impl_HitFall_ok F (F.bin .quo .f32 (F.ofInt .f32 (Pure.laws_r8At F x0 0 9)) 1107296256) (F.bin .quo .f32 (F.ofInt .f32 (Pure.laws_r8At F x0 1 9)) 1082130432) (F.bin .quo .f32 (F.ofInt .f32 (Pure.laws_r8At F x0 2 5)) 1082130432) (F.bin .quo .f32 (F.ofInt .f32 (IntKind.wrap .i64 (1 + (Pure.laws_r8At F x0 3 8)))) 1073741824) (Pure.s47_f5 F x0 x1) (Pure.s48_f5 F x0 x1) (Pure.s46_f5 F x0 x1) then bif Pure.impl_RunFalls_ok F (F.bin .quo .f32 (F.ofInt .f32 (Pure.laws_r8At F x0 0 9)) 1107296256) (F.bin .quo .f32 (F.ofInt .f32 (Pure.laws_r8At F x0 1 9)) 1082130432) (F.bin .quo .f32 (F.ofInt .f32 (Pure.laws_r8At F x0 2 5)) 1082130432) (F.bin .quo .f32 (F.ofInt .f32 (IntKind.wrap .i64 (1 + (Pure.laws_r8At F x0 3 8)))) 1073741824) (F.bin .quo .f32 (F.ofInt .f32 (IntKind.wrap .i64 (4 + (Pure.laws_r8At F x1 0 13)))) 1090519040) (F.bin .quo .f32 (F.ofInt .f32 (IntKind.wrap .i64 ((Pure.laws_r8At F x1 1 17) - 8))) 1082130432) (F.bin .quo .f32 (F.ofInt .f32 (Pure.laws_r8At F x1 2 9)) 1090519040) 1031798784 256 1 then bif Pure.impl_FlyFall_3 F (F.bin .quo .f32 (F.ofInt .f32 (Pure.laws_r8At F x0 0 9)) 1107296256) (F.bin .quo .f32 (F.ofInt .f32 (Pure.laws_r8At F x0 1 9)) 1082130432) (F.bin .quo .f32 (F.ofInt .f32 (Pure.laws_r8At F x0 2 5)) 1082130432) (F.bin .quo .f32 (F.ofInt .f32 (IntKind.wrap .i64 (1 + (Pure.laws_r8At F x0 3 8)))) 1073741824) (F.bin .quo .f32 (F.ofInt .f32 (IntKind.wrap .i64 (4 + (Pure.laws_r8At F x1 0 13)))) 1090519040) (F.bin .quo .f32 (F.ofInt .f32 (IntKind.wrap .i64 ((Pure.laws_r8At F x1 1 17) - 8))) 1082130432) (F.bin .quo .f32 (F.ofInt .f32 (Pure.laws_r8At F x1 2 9)) 1090519040) (Pure.s45_f5 F x0 x1) then bif Pure.impl_TableAt_1 F (F.bin .quo .f32 (F.ofInt .f32 (Pure.laws_r8At F x0 0 9)) 1107296256) (F.bin .quo .f32 (F.ofInt .f32 (Pure.laws_r8At F x0 1 9)) 1082130432) (F.bin .quo .f32 (F.ofInt .f32 (Pure.laws_r8At F x0 2 5)) 1082130432) (F.bin .quo .f32 (F.ofInt .f32 (IntKind.wrap .i64 (1 + (Pure.laws_r8At F x0 3 8)))) 1073741824) (Pure.s46_f5 F x0 x1) then bif Pure.impl_TableSpeed_1 F (F.bin .quo .f32 (F.ofInt .f32 (Pure.laws_r8At F x0 0 9)) 1107296256) (F.bin .quo .f32 (F.ofInt .f32 (Pure.laws_r8At F x0 1 9)) 1082130432) (F.bin .quo .f32 (F.ofInt .f32 (Pure.laws_r8At F x0 2 5)) 1082130432) (F.bin .quo .f32 (F.ofInt .f32 (IntKind.wrap .i64 (1 + (Pure.laws_r8At F x0 3 8)))) 1073741824) (Pure.s46_f5 F x0 x1) then bif Pure.impl_HitFall_3 F (F.bin .quo .f32 (F.ofInt .f32 (Pure.laws_r8At F x0 0 9)) 1107296256) (F.bin .quo .f32 (F.ofInt .f32 (Pure.laws_r8At F x0 1 9)) 1082130432) (F.bin .quo .f32 (F.ofInt .f32 (Pure.laws_r8At F x0 2 5)) 1082130432) (F.bin .quo .f32 (F.ofInt .f32 (IntKind.wrap .i64 (1 + (Pure.laws_r8At F x0 3 8)))) 1073741824) (Pure.s47_f5 F x0 x1) (Pure.s48_f5 F x0 x1) (Pure.s46_f5 F x0 x1) then bif Pure.impl_RunFalls F (F.bin .quo .f32 (F.ofInt .f32 (Pure.laws_r8At F x0 0 9)) 1107296256) (F.bin .quo .f32 (F.ofInt .f32 (Pure.laws_r8At F x0 1 9)) 1082130432) (F.bin .quo .f32 (F.ofInt .f32 (Pure.laws_r8At F x0 2 5)) 1082130432) (F.bin .quo .f32 (F.ofInt .f32 (IntKind.wrap .i64 (1 + (Pure.laws_r8At F x0 3 8)))) 1073741824) (F.bin .quo .f32 (F.ofInt .f32 (IntKind.wrap .i64 (4 + (Pure.laws_r8At F x1 0 13)))) 1090519040) (F.bin .quo .f32 (F.ofInt .f32 (IntKind.wrap .i64 ((Pure.laws_r8At F x1 1 17) - 8))) 1082130432) (F.bin .quo .f32 (F.ofInt .f32 (Pure.laws_r8At F x1 2 9)) 1090519040) 1031798784 256 1 then bif (Int.ofNat (List.length (Pure.impl_RunFalls_1 F (F.bin .quo .f32 (F.ofInt .f32 (Pure.laws_r8At F x0 0 9)) 1107296256) (F.bin .quo .f32 (F.ofInt .f32 (Pure.laws_r8At F x0 1 9)) 1082130432) (F.bin .quo .f32 (F.ofInt .f32 (Pure.laws_r8At F x0 2 5)) 1082130432) (F.bin .quo .f32 (F.ofInt .f32 (IntKind.wrap .i64 (1 + (Pure.laws_r8At F x0 3 8)))) 1073741824) (F.bin .quo .f32 (F.ofInt .f32 (IntKind.wrap .i64 (4 + (Pure.laws_r8At F x1 0 13)))) 1090519040) (F.bin .quo .f32 (F.ofInt .f32 (IntKind.wrap .i64 ((Pure.laws_r8At F x1 1 17) - 8))) 1082130432) (F.bin .quo .f32 (F.ofInt .f32 (Pure.laws_r8At F x1 2 9)) 1090519040) 1031798784 256 1))) != 1 then true else bif decide (0 < (Int.ofNat (List.length (Pure.impl_RunFalls_1 F (F.bin .quo .f32 (F.ofInt .f32 (Pure.laws_r8At F x0 0 9)) 1107296256) (F.bin .quo .f32 (F.ofInt .f32 (Pure.laws_r8At F x0 1 9)) 1082130432) (F.bin .quo .f32 (F.ofInt .f32 (Pure.laws_r8At F x0 2 5)) 1082130432) (F.bin .quo .f32 (F.ofInt .f32 (IntKind.wrap .i64 (1 + (Pure.laws_r8At F x0 3 8)))) 1073741824) (F.bin .quo .f32 (F.ofInt .f32 (IntKind.wrap .i64 (4 + (Pure.laws_r8At F x1 0 13)))) 1090519040) (F.bin .quo .f32 (F.ofInt .f32 (IntKind.wrap .i64 ((Pure.laws_r8At F x1 1 17) - 8))) 1082130432) (F.bin .quo .f32 (F.ofInt .f32 (Pure.laws_r8At F x1 2 9)) 1090519040) 1031798784 256 1)))) then bif F.cmp .eql .f32 (List.getD (List.getD (Pure.impl_RunFalls_1 F (F.bin .quo .f32 (F.ofInt .f32 (Pure.laws_r8At F x0 0 9)) 1107296256) (F.bin .quo .f32 (F.ofInt .f32 (Pure.laws_r8At F x0 1 9)) 1082130432) (F.bin .quo .f32 (F.ofInt .f32 (Pure.laws_r8At F x0 2 5)) 1082130432) (F.bin .quo .f32 (F.ofInt .f32 (IntKind.wrap .i64 (1 + (Pure.laws_r8At F x0 3 8)))) 1073741824) (F.bin .quo .f32 (F.ofInt .f32 (IntKind.wrap .i64 (4 + (Pure.laws_r8At F x1 0 13)))) 1090519040) (F.bin .quo .f32 (F.ofInt .f32 (IntKind.wrap .i64 ((Pure.laws_r8At F x1 1 17) - 8))) 1082130432) (F.bin .quo .f32 (F.ofInt .f32 (Pure.laws_r8At F x1 2 9)) 1090519040) 1031798784 256 1) 0 []) 0 0) (Pure.s49_f5 F x0 x1) then bif F.cmp .eql .f32 (List.getD (List.getD (Pure.impl_RunFalls_1 F (F.bin .quo .f32 (F.ofInt .f32 (Pure.laws_r8At F x0 0 9)) 1107296256) (F.bin .quo .f32 (F.ofInt .f32 (Pure.laws_r8At F x0 1 9)) 1082130432) (F.bin .quo .f32 (F.ofInt .f32 (Pure.laws_r8At F x0 2 5)) 1082130432) (F.bin .quo .f32 (F.ofInt .f32 (IntKind.wrap .i64 (1 + (Pure.laws_r8At F x0 3 8)))) 1073741824) (F.bin .quo .f32 (F.ofInt .f32 (IntKind.wrap .i64 (4 + (Pure.laws_r8At F x1 0 13)))) 1090519040) (F.bin .quo .f32 (F.ofInt .f32 (IntKind.wrap .i64 ((Pure.laws_r8At F x1 1 17) - 8))) 1082130432) (F.bin .quo .f32 (F.ofInt .f32 (Pure.laws_r8At F x1 2 9)) 1090519040) 1031798784 256 1) 0 []) 1 0) (Pure.s50_f5 F x0 x1) then bif F.cmp .eql .f32 (List.getD (List.getD (Pure.impl_RunFalls_1 F (F.bin .quo .f32 (F.ofInt .f32 (Pure.laws_r8At F x0 0 9)) 1107296256) (F.bin .quo .f32 (F.ofInt .f32 (Pure.laws_r8At F x0 1 9)) 1082130432) (F.bin .quo .f32 (F.ofInt .f32 (Pure.laws_r8At F x0 2 5)) 1082130432) (F.bin .quo .f32 (F.ofInt .f32 (IntKind.wrap .i64 (1 + (Pure.laws_r8At F x0 3 8)))) 1073741824) (F.bin .quo .f32 (F.ofInt .f32 (IntKind.wrap .i64 (4 + (Pure.laws_r8At F x1 0 13)))) 1090519040) (F.bin .quo .f32 (F.ofInt .f32 (IntKind.wrap .i64 ((Pure.laws_r8At F x1 1 17) - 8))) 1082130432) (F.bin .quo .f32 (F.ofInt .f32 (Pure.laws_r8At F x1 2 9)) 1090519040) 1031798784 256 1) 0 []) 2 0) (Pure.s51_f5 F x0 x1) then bif F.cmp .neq .f32 (Pure.s49_f5 F x0 x1) (Pure.s52_f5 F x0 x1) then true else bif F.cmp .neq .f32 (Pure.s51_f5 F x0 x1) (Pure.s46_f5 F x0 x1) then true else bif F.convOk .f32 .f64 (Pure.s47_f5 F x0 x1) then bif F.convOk .f32 .f64 (Pure.s52_f5 F x0 x1) then bif F.cmp .gtr .f64 (Pure.laws_r8Gap F (F.conv .f32 .f64 (Pure.s47_f5 F x0 x1)) (F.conv .f32 .f64 (Pure.s52_f5 F x0 x1))) 4576918229304087675 then true else bif F.convOk .f32 .f64 (Pure.s50_f5 F x0 x1) then bif F.convOk .f32 .f64 (Pure.s53_f5 F x0 x1) then bif F.convOk .f32 .f64 (F.bin .quo .f32 (F.ofInt .f32 (Pure.laws_r8At F x0 2 5)) 1082130432) then bif F.convOk .f32 .f64 (Pure.s48_f5 F x0 x1) then bif F.cmp .gtr .f64 (Pure.laws_r8Gap F (F.bin .sub .f64 (F.conv .f32 .f64 (Pure.s50_f5 F x0 x1)) (Pure.s54_f5 F x0 x1)) (F.bin .mul .f64 (F.conv .f32 .f64 (F.bin .quo .f32 (F.ofInt .f32 (Pure.laws_r8At F x0 2 5)) 1082130432)) (F.bin .sub .f64 (Pure.s54_f5 F x0 x1) (F.conv .f32 .f64 (Pure.s48_f5 F x0 x1))))) 4562254508917369340 then true else bif Pure.impl_FlyFall_ok F (F.bin .quo .f32 (F.ofInt .f32 (Pure.laws_r8At F x0 0 9)) 1107296256) (F.bin .quo .f32 (F.ofInt .f32 (Pure.laws_r8At F x0 1 9)) 1082130432) (F.bin .quo .f32 (F.ofInt .f32 (Pure.laws_r8At F x0 2 5)) 1082130432) (F.bin .quo .f32 (F.ofInt .f32 (IntKind.wrap .i64 (1 + (Pure.laws_r8At F x0 3 8)))) 1073741824) (F.bin .quo .f32 (F.ofInt .f32 (IntKind.wrap .i64 (4 + (Pure.laws_r8At F x1 0 13)))) 1090519040) (F.bin .quo .f32 (F.ofInt .f32 (IntKind.wrap .i64 ((Pure.laws_r8At F x1 1 17) - 8))) 1082130432) (F.bin .quo .f32 (F.ofInt .f32 (Pure.laws_r8At F x1 2 9)) 1090519040) 1048576000 then bif Pure.impl_FlyFall_ok F (F.bin .quo .f32 (F.ofInt .f32 (Pure.laws_r8At F x0 0 9)) 1107296256) (F.bin .quo .f32 (F.ofInt .f32 (Pure.laws_r8At F x0 1 9)) 1082130432) (F.bin .quo .f32 (F.ofInt .f32 (Pure.laws_r8At F x0 2 5)) 1082130432) (F.bin .quo .f32 (F.ofInt .f32 (IntKind.wrap .i64 (1 + (Pure.laws_r8At F x0 3 8)))) 1073741824) (Pure.s55_f5 F x0 x1) (Pure.s56_f5 F x0 x1) (Pure.s57_f5 F x0 x1) 1056964608 then bif Pure.impl_FlyFall_ok F (F.bin .quo .f32 (F.ofInt .f32 (Pure.laws_r8At F x0 0 9)) 1107296256) (F.bin .quo .f32 (F.ofInt .f32 (Pure.laws_r8At F x0 1 9)) 1082130432) (F.bin .quo .f32 (F.ofInt .f32 (Pure.laws_r8At F x0 2 5)) 1082130432) (F.bin .quo .f32 (F.ofInt .f32 (IntKind.wrap .i64 (1 + (Pure.laws_r8At F x0 3 8)))) 1073741824) (F.bin .quo .f32 (F.ofInt .f32 (IntKind.wrap .i64 (4 + (Pure.laws_r8At F x1 0 13)))) 1090519040) (F.bin .quo .f32 (F.ofInt .f32 (IntKind.wrap .i64 ((Pure.laws_r8At F x1 1 17) - 8))) 1082130432) (F.bin .quo .f32 (F.ofInt .f32 (Pure.laws_r8At F x1 2 9)) 1090519040) 1061158912 then bif Pure.impl_FlyFall_3 F (F.bin .quo .f32 (F.ofInt .f32 (Pure.laws_r8At F x0 0 9)) 1107296256) (F.bin .quo .f32 (F.ofInt .f32 (Pure.laws_r8At F x0 1 9)) 1082130432) (F.bin .quo .f32 (F.ofInt .f32 (Pure.laws_r8At F x0 2 5)) 1082130432) (F.bin .quo .f32 (F.ofInt .f32 (IntKind.wrap .i64 (1 + (Pure.laws_r8At F x0 3 8)))) 1073741824) (F.bin .quo .f32 (F.ofInt .f32 (IntKind.wrap .i64 (4 + (Pure.laws_r8At F x1 0 13)))) 1090519040) (F.bin .quo .f32 (F.ofInt .f32 (IntKind.wrap .i64 ((Pure.laws_r8At F x1 1 17) - 8))) 1082130432) (F.bin .quo .f32 (F.ofInt .f32 (Pure.laws_r8At F x1 2 9)) 1090519040) 1048576000 then bif Pure.impl_FlyFall_3 F (F.bin .quo .f32 (F.ofInt .f32 (Pure.laws_r8At F x0 0 9)) 1107296256) (F.bin .quo .f32 (F.ofInt .f32 (Pure.laws_r8At F x0 1 9)) 1082130432) (F.bin .quo .f32 (F.ofInt .f32 (Pure.laws_r8At F x0 2 5)) 1082130432) (F.bin .quo .f32 (F.ofInt .f32 (IntKind.wrap .i64 (1 + (Pure.laws_r8At F x0 3 8)))) 1073741824) (Pure.s55_f5 F x0 x1) (Pure.s56_f5 F x0 x1) (Pure.s57_f5 F x0 x1) 1056964608 then bif Pure.impl_FlyFall_3 F (F.bin .quo .f32 (F.ofInt .f32 (Pure.laws_r8At F x0 0 9)) 1107296256) (F.bin .quo .f32 (F.ofInt .f32 (Pure.laws_r8At F x0 1 9)) 1082130432) (F.bin .quo .f32 (F.ofInt .f32 (Pure.laws_r8At F x0 2 5)) 1082130432) (F.bin .quo .f32 (F.ofInt .f32 (IntKind.wrap .i64 (1 + (Pure.laws_r8At F x0 3 8)))) 1073741824) (F.bin .quo .f32 (F.ofInt .f32 (IntKind.wrap .i64 (4 + (Pure.laws_r8At F x1 0 13)))) 1090519040) (F.bin .quo .f32 (F.ofInt .f32 (IntKind.wrap .i64 ((Pure.laws_r8At F x1 1 17) - 8))) 1082130432) (F.bin .quo .f32 (F.ofInt .f32 (Pure.laws_r8At F x1 2 9)) 1090519040) 1061158912 then bif F.convOk .f32 .f64 (Pure.s58_f5 F x0 x1) then bif F.convOk .f32 .f64 (Pure.s59_f5 F x0 x1) then bif F.cmp .lss .f64 (Pure.laws_r8Gap F (F.conv .f32 .f64 (Pure.s58_f5 F x0 x1)) (F.conv .f32 .f64 (Pure.s59_f5 F x0 x1))) 4562254508917369340 then bif F.convOk .f32 .f64 (Pure.s60_f5 F x0 x1) then F.convOk .f32 .f64 (Pure.s61_f5 F x0 x1) else false else true else false else false else true else true else true else false else false else false else false else false else false else false else false else false else true else true else true else false else true else true else true else true else true else false else false else false else false else false else true else false else true else false else false else false else false else false else false else false else false
def c_laws_FnTables (F : FOps) : Con
  | [V.at (A.sl 0), V.at (A.sl 1)], [⟨false, .rows [K.i .u8] x0⟩, ⟨false, .rows [K.i .u8] x1⟩] => some (Pure.laws_FnTables_ok F x0 x1, ⟨V.at (A.bool (Pure.laws_FnTables F x0 x1)), none, []⟩)
  | _, _ => none
end Go.Fx
