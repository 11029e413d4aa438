import Derived.Test.YtmcfcijddhgphaaXr4a
import Derived.KernelRfl
namespace Go.Fx
open Go.Proofs
set_option maxRecDepth 100000
def Pure.impl_IsFinite (F : FOps) (x0 : Int) : Bool := F.cmp .eql .f32 (F.bin .sub .f32 x0 x0) 0
def c_impl_IsFinite (F : FOps) : Con
  | [V.at (A.fl .f32 x0)], [] => some (true, ⟨V.at (A.bool (Pure.impl_IsFinite F x0)), none, []⟩)
  | _, _ => none
theorem e_impl_IsFinite (F : FOps) (x0 : Int) : evFn (cxS F tyl [] [] [] 0) Try.f47 false [V.at (A.fl .f32 x0)] [] = some ⟨V.at (A.bool (Pure.impl_IsFinite F x0)), none, []⟩ := by
  kernel_rfl
theorem ok_impl_IsFinite : CallOK Try.prog 47 (c_impl_IsFinite real) := by
  refine callOK_of fun args h ret hc => ?_
  unfold c_impl_IsFinite at hc
  split at hc
  · rename_i x0
    obtain ⟨_, rfl⟩ := some_ret hc
    exact holds_ev prog_ok allOK_nil Try.func47 rfl rfl smL_nil rfl (e_impl_IsFinite real x0)
  · cases hc
def Pure.impl_finite_c1 (F : FOps) (x0 : Int) : Bool := bif Pure.impl_IsFinite F x0 then false else true
def c_impl_finite_c1 (F : FOps) : Con
  | [V.at (A.fl .f32 x0)], [] => some (true, ⟨V.at (A.bool (Pure.impl_finite_c1 F x0)), none, []⟩)
  | _, _ => none
theorem e_impl_finite_c1 (F : FOps) (x0 : Int) : evFn (cxS F tyl [(47, c_impl_IsFinite F)] [] [] 0) Try.f93 false [V.at (A.fl .f32 x0)] [] = some ⟨V.at (A.bool (Pure.impl_finite_c1 F x0)), none, []⟩ := by
  kernel_rfl
theorem ok_impl_finite_c1 : CallOK Try.prog 93 (c_impl_finite_c1 real) := by
  refine callOK_of fun args h ret hc => ?_
  unfold c_impl_finite_c1 at hc
  split at hc
  · rename_i x0
    obtain ⟨_, rfl⟩ := some_ret hc
    exact holds_ev prog_ok (allOK_cons ok_impl_IsFinite allOK_nil) Try.func93 rfl rfl smL_nil rfl (e_impl_finite_c1 real x0)
  · cases hc
def Pure.slices_IndexFunc_float32_float32_finite_L0 (F : FOps) (y0 : Int) (y2 : List (List Int)) : Nat → Int → (Bool × Bool × Int)
  | 0, _ => (false, false, 0)
  | n + 1, y1 => bif (decide (y1 < y0)) then (bif (decide (0 ≤ y1)) then (bif (decide (y1 < (Int.ofNat y2.length))) then (bif (Pure.impl_finite_c1 F ((y2.getD y1.toNat []).getD 0 0)) then ((true, true, y1)) else (Pure.slices_IndexFunc_float32_float32_finite_L0 F y0 y2 n (IntKind.wrap .i64 (y1 + 1)))) else ((false, false, 0))) else ((false, false, 0))) else ((true, false, 0))
def R_slices_IndexFunc_float32_float32_finite_L0 (y2 : List (List Int)) (r : (Bool × Bool × Int)) : Bool × Bool × (Ex × List V × List Ob) × (Ex × List V × List Ob) := ((r).1, (r).2.1, (Ex.normal, [V.at A.undef], [⟨false, .rows [K.f .f32] y2⟩]), (Ex.ret, [V.at (A.int .i64 (r).2.2)], [⟨false, .rows [K.f .f32] y2⟩]))
def S_slices_IndexFunc_float32_float32_finite_L0 (F : FOps) : Sm := ⟨[0, 1, 7, 8], [30, 65, 3, 3], [4], fun vals hp => match vals, hp with
  | [V.at (A.sl 0), V.at (A.fn 93 []), V.at (A.int .i64 y0), V.at (A.int .i64 y1)], [⟨false, .rows [K.f .f32] y2⟩] => some (R_slices_IndexFunc_float32_float32_finite_L0 y2 (Pure.slices_IndexFunc_float32_float32_finite_L0 F y0 y2 (y0 - y1 + 1).toNat y1))
  | _, _ => none⟩
theorem l_slices_IndexFunc_float32_float32_finite_L0 (F : FOps) (y0 : Int) (y2 : List (List Int)) : ∀ (fuel : Nat) (y1 : Int), (Pure.slices_IndexFunc_float32_float32_finite_L0 F y0 y2 fuel y1).1 = true → loopOf (cxS F tyl [(93, c_impl_finite_c1 F)] [] [] 0) 1 19 0 [0, 1, 7, 8] [30, 65, 3, 3] [4] (loopB 0 (codeOf Try.f119)) fuel [V.at (A.sl 0), V.at (A.fn 93 []), V.at (A.int .i64 y0), V.at (A.int .i64 y1)] [⟨false, .rows [K.f .f32] y2⟩] = resOf (R_slices_IndexFunc_float32_float32_finite_L0 y2 (Pure.slices_IndexFunc_float32_float32_finite_L0 F y0 y2 fuel y1)) := by
  intro fuel
  induction fuel with
  | zero => intro y1 h; exact absurd h Bool.false_ne_true
  | succ n ih =>
    intro y1
    have h0 : roundOf (cxS F tyl [(93, c_impl_finite_c1 F)] [] [] 0) 1 19 0 [0, 1, 7, 8] [30, 65, 3, 3] [4] (loopB 0 (codeOf Try.f119)) [V.at (A.sl 0), V.at (A.fn 93 []), V.at (A.int .i64 y0), V.at (A.int .i64 y1)] [⟨false, .rows [K.f .f32] y2⟩] = (bif decide (y1 < y0) then bif decide (0 ≤ y1) then bif decide (y1 < (Int.ofNat y2.length)) then bif Pure.impl_finite_c1 F ((y2.getD y1.toNat []).getD 0 0) then some (false, (Ex.ret, ([V.at (A.int .i64 y1)], [⟨false, .rows [K.f .f32] y2⟩]))) else some (true, (Ex.normal, ([V.at (A.sl 0), V.at (A.fn 93 []), V.at (A.int .i64 y0), V.at (A.int .i64 (IntKind.wrap .i64 (y1 + 1)))], [⟨false, .rows [K.f .f32] y2⟩]))) else none else none else some (false, (Ex.normal, ([V.at A.undef], [⟨false, .rows [K.f .f32] y2⟩])))) := by kernel_rfl
    unfold loopOf
    rw [h0]
    unfold Pure.slices_IndexFunc_float32_float32_finite_L0
    cases (decide (y1 < y0)) with
    | true =>
      cases (decide (0 ≤ y1)) with
      | true =>
        cases (decide (y1 < (Int.ofNat y2.length))) with
        | true =>
          cases (Pure.impl_finite_c1 F ((y2.getD y1.toNat []).getD 0 0)) with
          | true =>
            intro _; rfl
          | false =>
            exact ih _
        | false =>
          intro h; exact absurd h Bool.false_ne_true
      | false =>
        intro h; exact absurd h Bool.false_ne_true
    | false =>
      intro _; rfl
theorem t_slices_IndexFunc_float32_float32_finite_L0 : SmTo Try.prog 1 19 (S_slices_IndexFunc_float32_float32_finite_L0 real) 0 (.loop (loopB 0 (codeOf Try.f119))) := by
  refine smTo_ev (cl := [(93, c_impl_finite_c1 real)]) (ef := []) (sm := []) (un := 0) prog_ok (allOK_cons ok_impl_finite_c1 allOK_nil) smL_nil ?_
  intro vals hp q r h hq
  unfold S_slices_IndexFunc_float32_float32_finite_L0 at h
  dsimp only at h
  split at h
  · rename_i y0 y1 y2
    obtain rfl := Option.some.inj h
    have h1 := hq
    unfold resOf at h1
    rw [chk_some] at h1
    exact ⟨_, (l_slices_IndexFunc_float32_float32_finite_L0 real y0 y2 _ y1 h1.1).trans hq⟩
  · cases h
def Pure.slices_IndexFunc_float32_float32_finite (F : FOps) (x0 : List (List Int)) : Int := bif Prod.fst (Prod.snd (Pure.slices_IndexFunc_float32_float32_finite_L0 F (Int.ofNat x0.length) x0 (Nat.succ (x0.length + 0)) 0)) then Prod.snd (Prod.snd (Pure.slices_IndexFunc_float32_float32_finite_L0 F (Int.ofNat x0.length) x0 (Nat.succ (x0.length + 0)) 0)) else (-1)
def Pure.slices_IndexFunc_float32_float32_finite_ok (F : FOps) (x0 : List (List Int)) : Bool := Prod.fst (Pure.slices_IndexFunc_float32_float32_finite_L0 F (Int.ofNat x0.length) x0 (Nat.succ (x0.length + 0)) 0)
def c_slices_IndexFunc_float32_float32_finite (F : FOps) : Con
  | [V.at (A.sl 0), V.at (A.fn 93 [])], [⟨false, .rows [K.f .f32] x0⟩] => some (Pure.slices_IndexFunc_float32_float32_finite_ok F x0, ⟨V.at (A.int .i64 (Pure.slices_IndexFunc_float32_float32_finite F x0)), none, []⟩)
  | _, _ => none
theorem e_slices_IndexFunc_float32_float32_finite (F : FOps) (x0 : List (List Int)) : Pure.slices_IndexFunc_float32_float32_finite_ok F x0 = true → evFn (cxS F tyl [(93, c_impl_finite_c1 F)] [] [(0, S_slices_IndexFunc_float32_float32_finite_L0 F)] 0) Try.f119 false [V.at (A.sl 0), V.at (A.fn 93 [])] [⟨false, .rows [K.f .f32] x0⟩] = some ⟨V.at (A.int .i64 (Pure.slices_IndexFunc_float32_float32_finite F x0)), none, []⟩ := by
  have h0 : evFn (cxS F tyl [(93, c_impl_finite_c1 F)] [] [(0, S_slices_IndexFunc_float32_float32_finite_L0 F)] 0) Try.f119 false [V.at (A.sl 0), V.at (A.fn 93 [])] [⟨false, .rows [K.f .f32] x0⟩] = bif Prod.fst (Pure.slices_IndexFunc_float32_float32_finite_L0 F (Int.ofNat x0.length) x0 (Nat.succ (x0.length + 0)) 0) then bif Prod.fst (Prod.snd (Pure.slices_IndexFunc_float32_float32_finite_L0 F (Int.ofNat x0.length) x0 (Nat.succ (x0.length + 0)) 0)) then some ⟨V.at (A.int .i64 (Prod.snd (Prod.snd (Pure.slices_IndexFunc_float32_float32_finite_L0 F (Int.ofNat x0.length) x0 (Nat.succ (x0.length + 0)) 0)))), none, []⟩ else some ⟨V.at (A.int .i64 (-1)), none, []⟩ else none := by kernel_rfl
  rw [h0]
  unfold Pure.slices_IndexFunc_float32_float32_finite Pure.slices_IndexFunc_float32_float32_finite_ok
  cases (Prod.fst (Pure.slices_IndexFunc_float32_float32_finite_L0 F (Int.ofNat x0.length) x0 (Nat.succ (x0.length + 0)) 0)) with
  | true =>
    cases (Prod.fst (Prod.snd (Pure.slices_IndexFunc_float32_float32_finite_L0 F (Int.ofNat x0.length) x0 (Nat.succ (x0.length + 0)) 0))) with
    | true =>
      intro _; rfl
    | false =>
      intro _; rfl
  | false =>
    intro h; exact absurd h Bool.false_ne_true
theorem ok_slices_IndexFunc_float32_float32_finite : CallOK Try.prog 119 (c_slices_IndexFunc_float32_float32_finite real) := by
  refine callOK_of fun args h ret hc => ?_
  unfold c_slices_IndexFunc_float32_float32_finite at hc
  split at hc
  · rename_i x0
    obtain ⟨hok, rfl⟩ := some_ret hc
    exact holds_ev prog_ok (allOK_cons ok_impl_finite_c1 allOK_nil) Try.func119 rfl rfl (smL_cons (body := .loop (loopB 0 (codeOf Try.f119))) (by kernel_rfl) t_slices_IndexFunc_float32_float32_finite_L0 smL_nil) rfl (e_slices_IndexFunc_float32_float32_finite real x0 hok)
  · cases hc
def Pure.slices_ContainsFunc_float32_float32_finite (F : FOps) (x0 : List (List Int)) : Bool := decide ((Pure.slices_IndexFunc_float32_float32_finite F x0) ≥ 0)
def Pure.slices_ContainsFunc_float32_float32_finite_ok (F : FOps) (x0 : List (List Int)) : Bool := Pure.slices_IndexFunc_float32_float32_finite_ok F x0
def c_slices_ContainsFunc_float32_float32_finite (F : FOps) : Con
  | [V.at (A.sl 0), V.at (A.fn 93 [])], [⟨false, .rows [K.f .f32] x0⟩] => some (Pure.slices_ContainsFunc_float32_float32_finite_ok F x0, ⟨V.at (A.bool (Pure.slices_ContainsFunc_float32_float32_finite F x0)), none, []⟩)
  | _, _ => none
theorem e_slices_ContainsFunc_float32_float32_finite (F : FOps) (x0 : List (List Int)) : Pure.slices_ContainsFunc_float32_float32_finite_ok F x0 = true → evFn (cxS F tyl [(119, c_slices_IndexFunc_float32_float32_finite F), (93, c_impl_finite_c1 F)] [] [] 0) Try.f92 false [V.at (A.sl 0), V.at (A.fn 93 [])] [⟨false, .rows [K.f .f32] x0⟩] = some ⟨V.at (A.bool (Pure.slices_ContainsFunc_float32_float32_finite F x0)), none, []⟩ := by
  have h0 : evFn (cxS F tyl [(119, c_slices_IndexFunc_float32_float32_finite F), (93, c_impl_finite_c1 F)] [] [] 0) Try.f92 false [V.at (A.sl 0), V.at (A.fn 93 [])] [⟨false, .rows [K.f .f32] x0⟩] = bif Pure.slices_IndexFunc_float32_float32_finite_ok F x0 then some ⟨V.at (A.bool (decide ((Pure.slices_IndexFunc_float32_float32_finite F x0) ≥ 0))), none, []⟩ else none := by kernel_rfl
  rw [h0]
  unfold Pure.slices_ContainsFunc_float32_float32_finite Pure.slices_ContainsFunc_float32_float32_finite_ok
  cases (Pure.slices_IndexFunc_float32_float32_finite_ok F x0) with
  | true =>
    intro _; rfl
  | false =>
    intro h; exact absurd h Bool.false_ne_true
theorem ok_slices_ContainsFunc_float32_float32_finite : CallOK Try.prog 92 (c_slices_ContainsFunc_float32_float32_finite real) := by
  refine callOK_of fun args h ret hc => ?_
  unfold c_slices_ContainsFunc_float32_float32_finite at hc
  split at hc
  · rename_i x0
    obtain ⟨hok, rfl⟩ := some_ret hc
    exact holds_ev prog_ok (allOK_cons ok_slices_IndexFunc_float32_float32_finite (allOK_cons ok_impl_finite_c1 allOK_nil)) Try.func92 rfl rfl smL_nil rfl (e_slices_ContainsFunc_float32_float32_finite real x0 hok)
  · cases hc
def c_math_Float64frombits (F : FOps) : Con
  | [V.at (A.raw .f64 x)], [] => some (true, ⟨V.at (A.fl .f64 x), none, []⟩)
  | [V.at (A.int .u64 x)], [] => some (true, ⟨V.at (A.fl .f64 (F.ofBits .f64 x)), none, []⟩)
  | _, _ => none
theorem ok_math_Float64frombits : CallOK Try.prog 130 (c_math_Float64frombits real) := by
  refine callOK_of fun args h ret hc => ?_
  unfold c_math_Float64frombits at hc
  split at hc
  · rename_i x
    obtain ⟨_, rfl⟩ := some_ret hc
    exact ext_from64 Try.func130 rfl rfl (by kernel_rfl) (by kernel_rfl) x
  · rename_i x
    obtain ⟨_, rfl⟩ := some_ret hc
    exact ext_from64i Try.func130 rfl rfl (by kernel_rfl) (by kernel_rfl) x
  · cases hc
def c_math_NaN (F : FOps) : Con
  | [], [] => some (true, ⟨V.at (A.fl .f64 (F.ofBits .f64 9221120237041090561)), none, []⟩)
  | _, _ => none
theorem e_math_NaN (F : FOps) : evFn (cxS F tyl [(130, c_math_Float64frombits F)] [] [] 0) Try.f120 false [] [] = some ⟨V.at (A.fl .f64 (F.ofBits .f64 9221120237041090561)), none, []⟩ := by
  kernel_rfl
theorem ok_math_NaN : CallOK Try.prog 120 (c_math_NaN real) := by
  refine callOK_of fun args h ret hc => ?_
  unfold c_math_NaN at hc
  split at hc
  · obtain ⟨_, rfl⟩ := some_ret hc
    exact holds_ev prog_ok (allOK_cons ok_math_Float64frombits allOK_nil) Try.func120 rfl rfl smL_nil rfl (e_math_NaN real)
  · cases hc
def Pure.spec_l01SineWide_L0 (F : FOps) (y0 : Bool) (y1 y2 : Int) : Nat → Int → Int → (Bool × Int)
  | 0, _, _ => (false, 0)
  | n + 1, y3, y4 => bif (decide (y4 ≥ 1)) then (Pure.spec_l01SineWide_L0 F y0 y1 y2 n (F.bin .sub .f64 4607182418800017408 (F.bin .quo .f64 (F.bin .mul .f64 y2 y3) (F.ofInt .f64 (IntKind.wrap .i64 ((IntKind.wrap .i64 (2 * y4)) * (IntKind.wrap .i64 ((IntKind.wrap .i64 (2 * y4)) + 1))))))) (IntKind.wrap .i64 (y4 - 1))) else ((true, y3))
def R_spec_l01SineWide_L0 (y0 : Bool) (y1 : Int) (r : (Bool × Int)) : Bool × Bool × (Ex × List V × List Ob) × (Ex × List V × List Ob) := ((r).1, false, (Ex.normal, [V.at (A.bool y0), V.at (A.fl .f64 y1), V.at (A.fl .f64 (r).2)], []), (Ex.normal, [V.at (A.bool y0), V.at (A.fl .f64 y1), V.at (A.fl .f64 (r).2)], []))
def S_spec_l01SineWide_L0 (F : FOps) : Sm := ⟨[4, 5, 6, 7, 8], [4, 29, 29, 29, 3], [4, 5, 7], fun vals hp => match vals, hp with
  | [V.at (A.bool y0), V.at (A.fl .f64 y1), V.at (A.fl .f64 y2), V.at (A.fl .f64 y3), V.at (A.int .i64 y4)], [] => some (R_spec_l01SineWide_L0 y0 y1 (Pure.spec_l01SineWide_L0 F y0 y1 y2 (y4 - 1 + 2).toNat y3 y4))
  | _, _ => none⟩
theorem l_spec_l01SineWide_L0 (F : FOps) (y0 : Bool) (y1 y2 : Int) : ∀ (fuel : Nat) (y3 y4 : Int), (Pure.spec_l01SineWide_L0 F y0 y1 y2 fuel y3 y4).1 = true → loopOf (cxS F tyl [(120, c_math_NaN F)] [] [] 0) 0 67 0 [4, 5, 6, 7, 8] [4, 29, 29, 29, 3] [4, 5, 7] (loopB 0 (codeOf Try.f125)) fuel [V.at (A.bool y0), V.at (A.fl .f64 y1), V.at (A.fl .f64 y2), V.at (A.fl .f64 y3), V.at (A.int .i64 y4)] [] = resOf (R_spec_l01SineWide_L0 y0 y1 (Pure.spec_l01SineWide_L0 F y0 y1 y2 fuel y3 y4)) := by
  intro fuel
  induction fuel with
  | zero => intro y3 y4 h; exact absurd h Bool.false_ne_true
  | succ n ih =>
    intro y3 y4
    have h0 : roundOf (cxS F tyl [(120, c_math_NaN F)] [] [] 0) 0 67 0 [4, 5, 6, 7, 8] [4, 29, 29, 29, 3] [4, 5, 7] (loopB 0 (codeOf Try.f125)) [V.at (A.bool y0), V.at (A.fl .f64 y1), V.at (A.fl .f64 y2), V.at (A.fl .f64 y3), V.at (A.int .i64 y4)] [] = (bif decide (y4 ≥ 1) then some (true, (Ex.normal, ([V.at (A.bool y0), V.at (A.fl .f64 y1), V.at (A.fl .f64 y2), V.at (A.fl .f64 (F.bin .sub .f64 4607182418800017408 (F.bin .quo .f64 (F.bin .mul .f64 y2 y3) (F.ofInt .f64 (IntKind.wrap .i64 ((IntKind.wrap .i64 (2 * y4)) * (IntKind.wrap .i64 ((IntKind.wrap .i64 (2 * y4)) + 1)))))))), V.at (A.int .i64 (IntKind.wrap .i64 (y4 - 1)))], []))) else some (false, (Ex.normal, ([V.at (A.bool y0), V.at (A.fl .f64 y1), V.at (A.fl .f64 y3)], [])))) := by kernel_rfl
    unfold loopOf
    rw [h0]
    unfold Pure.spec_l01SineWide_L0
    cases (decide (y4 ≥ 1)) with
    | true =>
      exact ih _ _
    | false =>
      intro _; rfl
theorem t_spec_l01SineWide_L0 : SmTo Try.prog 0 67 (S_spec_l01SineWide_L0 real) 0 (.loop (loopB 0 (codeOf Try.f125))) := by
  refine smTo_ev (cl := [(120, c_math_NaN real)]) (ef := []) (sm := []) (un := 0) prog_ok (allOK_cons ok_math_NaN allOK_nil) smL_nil ?_
  intro vals hp q r h hq
  unfold S_spec_l01SineWide_L0 at h
  dsimp only at h
  split at h
  · rename_i y0 y1 y2 y3 y4
    obtain rfl := Option.some.inj h
    have h1 := hq
    unfold resOf at h1
    rw [chk_some] at h1
    exact ⟨_, (l_spec_l01SineWide_L0 real y0 y1 y2 _ y3 y4 h1.1).trans hq⟩
  · cases h
def Pure.spec_l01SineWide (F : FOps) (x0 : Int) : Int := bif F.cmp .neq .f64 (F.bin .sub .f64 x0 x0) 0 then F.ofBits .f64 9221120237041090561 else bif F.cmp .geq .f64 x0 4841369599423283200 then 0 else bif F.cmp .leq .f64 x0 14064741636278059008 then 0 else bif F.cmp .lss .f64 (F.bin .sub .f64 x0 (F.ofInt .f64 (F.toInt .f64 IntKind.i64 x0))) 0 then bif F.cmp .geq .f64 (F.bin .add .f64 (F.bin .sub .f64 x0 (F.ofInt .f64 (F.toInt .f64 IntKind.i64 x0))) 4607182418800017408) 4602678819172646912 then bif F.cmp .gtr .f64 (F.bin .sub .f64 (F.bin .add .f64 (F.bin .sub .f64 x0 (F.ofInt .f64 (F.toInt .f64 IntKind.i64 x0))) 4607182418800017408) 4602678819172646912) 4598175219545276416 then F.neg .f64 (F.bin .mul .f64 (F.bin .mul .f64 (F.bin .sub .f64 4602678819172646912 (F.bin .sub .f64 (F.bin .add .f64 (F.bin .sub .f64 x0 (F.ofInt .f64 (F.toInt .f64 IntKind.i64 x0))) 4607182418800017408) 4602678819172646912)) 4618760256179416344) (Prod.snd (Pure.spec_l01SineWide_L0 F true (F.bin .mul .f64 (F.bin .sub .f64 4602678819172646912 (F.bin .sub .f64 (F.bin .add .f64 (F.bin .sub .f64 x0 (F.ofInt .f64 (F.toInt .f64 IntKind.i64 x0))) 4607182418800017408) 4602678819172646912)) 4618760256179416344) (F.bin .mul .f64 (F.bin .mul .f64 (F.bin .sub .f64 4602678819172646912 (F.bin .sub .f64 (F.bin .add .f64 (F.bin .sub .f64 x0 (F.ofInt .f64 (F.toInt .f64 IntKind.i64 x0))) 4607182418800017408) 4602678819172646912)) 4618760256179416344) (F.bin .mul .f64 (F.bin .sub .f64 4602678819172646912 (F.bin .sub .f64 (F.bin .add .f64 (F.bin .sub .f64 x0 (F.ofInt .f64 (F.toInt .f64 IntKind.i64 x0))) 4607182418800017408) 4602678819172646912)) 4618760256179416344)) 9 4607182418800017408 8))) else F.neg .f64 (F.bin .mul .f64 (F.bin .mul .f64 (F.bin .sub .f64 (F.bin .add .f64 (F.bin .sub .f64 x0 (F.ofInt .f64 (F.toInt .f64 IntKind.i64 x0))) 4607182418800017408) 4602678819172646912) 4618760256179416344) (Prod.snd (Pure.spec_l01SineWide_L0 F true (F.bin .mul .f64 (F.bin .sub .f64 (F.bin .add .f64 (F.bin .sub .f64 x0 (F.ofInt .f64 (F.toInt .f64 IntKind.i64 x0))) 4607182418800017408) 4602678819172646912) 4618760256179416344) (F.bin .mul .f64 (F.bin .mul .f64 (F.bin .sub .f64 (F.bin .add .f64 (F.bin .sub .f64 x0 (F.ofInt .f64 (F.toInt .f64 IntKind.i64 x0))) 4607182418800017408) 4602678819172646912) 4618760256179416344) (F.bin .mul .f64 (F.bin .sub .f64 (F.bin .add .f64 (F.bin .sub .f64 x0 (F.ofInt .f64 (F.toInt .f64 IntKind.i64 x0))) 4607182418800017408) 4602678819172646912) 4618760256179416344)) 9 4607182418800017408 8))) else bif F.cmp .gtr .f64 (F.bin .add .f64 (F.bin .sub .f64 x0 (F.ofInt .f64 (F.toInt .f64 IntKind.i64 x0))) 4607182418800017408) 4598175219545276416 then F.bin .mul .f64 (F.bin .mul .f64 (F.bin .sub .f64 4602678819172646912 (F.bin .add .f64 (F.bin .sub .f64 x0 (F.ofInt .f64 (F.toInt .f64 IntKind.i64 x0))) 4607182418800017408)) 4618760256179416344) (Prod.snd (Pure.spec_l01SineWide_L0 F false (F.bin .mul .f64 (F.bin .sub .f64 4602678819172646912 (F.bin .add .f64 (F.bin .sub .f64 x0 (F.ofInt .f64 (F.toInt .f64 IntKind.i64 x0))) 4607182418800017408)) 4618760256179416344) (F.bin .mul .f64 (F.bin .mul .f64 (F.bin .sub .f64 4602678819172646912 (F.bin .add .f64 (F.bin .sub .f64 x0 (F.ofInt .f64 (F.toInt .f64 IntKind.i64 x0))) 4607182418800017408)) 4618760256179416344) (F.bin .mul .f64 (F.bin .sub .f64 4602678819172646912 (F.bin .add .f64 (F.bin .sub .f64 x0 (F.ofInt .f64 (F.toInt .f64 IntKind.i64 x0))) 4607182418800017408)) 4618760256179416344)) 9 4607182418800017408 8)) else F.bin .mul .f64 (F.bin .mul .f64 (F.bin .add .f64 (F.bin .sub .f64 x0 (F.ofInt .f64 (F.toInt .f64 IntKind.i64 x0))) 4607182418800017408) 4618760256179416344) (Prod.snd (Pure.spec_l01SineWide_L0 F false (F.bin .mul .f64 (F.bin .add .f64 (F.bin .sub .f64 x0 (F.ofInt .f64 (F.toInt .f64 IntKind.i64 x0))) 4607182418800017408) 4618760256179416344) (F.bin .mul .f64 (F.bin .mul .f64 (F.bin .add .f64 (F.bin .sub .f64 x0 (F.ofInt .f64 (F.toInt .f64 IntKind.i64 x0))) 4607182418800017408) 4618760256179416344) (F.bin .mul .f64 (F.bin .add .f64 (F.bin .sub .f64 x0 (F.ofInt .f64 (F.toInt .f64 IntKind.i64 x0))) 4607182418800017408) 4618760256179416344)) 9 4607182418800017408 8)) else bif F.cmp .geq .f64 (F.bin .sub .f64 x0 (F.ofInt .f64 (F.toInt .f64 IntKind.i64 x0))) 4602678819172646912 then bif F.cmp .gtr .f64 (F.bin .sub .f64 (F.bin .sub .f64 x0 (F.ofInt .f64 (F.toInt .f64 IntKind.i64 x0))) 4602678819172646912) 4598175219545276416 then F.neg .f64 (F.bin .mul .f64 (F.bin .mul .f64 (F.bin .sub .f64 4602678819172646912 (F.bin .sub .f64 (F.bin .sub .f64 x0 (F.ofInt .f64 (F.toInt .f64 IntKind.i64 x0))) 4602678819172646912)) 4618760256179416344) (Prod.snd (Pure.spec_l01SineWide_L0 F true (F.bin .mul .f64 (F.bin .sub .f64 4602678819172646912 (F.bin .sub .f64 (F.bin .sub .f64 x0 (F.ofInt .f64 (F.toInt .f64 IntKind.i64 x0))) 4602678819172646912)) 4618760256179416344) (F.bin .mul .f64 (F.bin .mul .f64 (F.bin .sub .f64 4602678819172646912 (F.bin .sub .f64 (F.bin .sub .f64 x0 (F.ofInt .f64 (F.toInt .f64 IntKind.i64 x0))) 4602678819172646912)) 4618760256179416344) (F.bin .mul .f64 (F.bin .sub .f64 4602678819172646912 (F.bin .sub .f64 (F.bin .sub .f64 x0 (F.ofInt .f64 (F.toInt .f64 IntKind.i64 x0))) 4602678819172646912)) 4618760256179416344)) 9 4607182418800017408 8))) else F.neg .f64 (F.bin .mul .f64 (F.bin .mul .f64 (F.bin .sub .f64 (F.bin .sub .f64 x0 (F.ofInt .f64 (F.toInt .f64 IntKind.i64 x0))) 4602678819172646912) 4618760256179416344) (Prod.snd (Pure.spec_l01SineWide_L0 F true (F.bin .mul .f64 (F.bin .sub .f64 (F.bin .sub .f64 x0 (F.ofInt .f64 (F.toInt .f64 IntKind.i64 x0))) 4602678819172646912) 4618760256179416344) (F.bin .mul .f64 (F.bin .mul .f64 (F.bin .sub .f64 (F.bin .sub .f64 x0 (F.ofInt .f64 (F.toInt .f64 IntKind.i64 x0))) 4602678819172646912) 4618760256179416344) (F.bin .mul .f64 (F.bin .sub .f64 (F.bin .sub .f64 x0 (F.ofInt .f64 (F.toInt .f64 IntKind.i64 x0))) 4602678819172646912) 4618760256179416344)) 9 4607182418800017408 8))) else bif F.cmp .gtr .f64 (F.bin .sub .f64 x0 (F.ofInt .f64 (F.toInt .f64 IntKind.i64 x0))) 4598175219545276416 then F.bin .mul .f64 (F.bin .mul .f64 (F.bin .sub .f64 4602678819172646912 (F.bin .sub .f64 x0 (F.ofInt .f64 (F.toInt .f64 IntKind.i64 x0)))) 4618760256179416344) (Prod.snd (Pure.spec_l01SineWide_L0 F false (F.bin .mul .f64 (F.bin .sub .f64 4602678819172646912 (F.bin .sub .f64 x0 (F.ofInt .f64 (F.toInt .f64 IntKind.i64 x0)))) 4618760256179416344) (F.bin .mul .f64 (F.bin .mul .f64 (F.bin .sub .f64 4602678819172646912 (F.bin .sub .f64 x0 (F.ofInt .f64 (F.toInt .f64 IntKind.i64 x0)))) 4618760256179416344) (F.bin .mul .f64 (F.bin .sub .f64 4602678819172646912 (F.bin .sub .f64 x0 (F.ofInt .f64 (F.toInt .f64 IntKind.i64 x0)))) 4618760256179416344)) 9 4607182418800017408 8)) else F.bin .mul .f64 (F.bin .mul .f64 (F.bin .sub .f64 x0 (F.ofInt .f64 (F.toInt .f64 IntKind.i64 x0))) 4618760256179416344) (Prod.snd (Pure.spec_l01SineWide_L0 F false (F.bin .mul .f64 (F.bin .sub .f64 x0 (F.ofInt .f64 (F.toInt .f64 IntKind.i64 x0))) 4618760256179416344) (F.bin .mul .f64 (F.bin .mul .f64 (F.bin .sub .f64 x0 (F.ofInt .f64 (F.toInt .f64 IntKind.i64 x0))) 4618760256179416344) (F.bin .mul .f64 (F.bin .sub .f64 x0 (F.ofInt .f64 (F.toInt .f64 IntKind.i64 x0))) 4618760256179416344)) 9 4607182418800017408 8))
def Pure.spec_l01SineWide_ok (F : FOps) (x0 : Int) : Bool := bif F.cmp .neq .f64 (F.bin .sub .f64 x0 x0) 0 then true else bif F.cmp .geq .f64 x0 4841369599423283200 then true else bif F.cmp .leq .f64 x0 14064741636278059008 then true else bif F.toIntOk .f64 IntKind.i64 x0 then bif F.cmp .lss .f64 (F.bin .sub .f64 x0 (F.ofInt .f64 (F.toInt .f64 IntKind.i64 x0))) 0 then bif F.cmp .geq .f64 (F.bin .add .f64 (F.bin .sub .f64 x0 (F.ofInt .f64 (F.toInt .f64 IntKind.i64 x0))) 4607182418800017408) 4602678819172646912 then bif F.cmp .gtr .f64 (F.bin .sub .f64 (F.bin .add .f64 (F.bin .sub .f64 x0 (F.ofInt .f64 (F.toInt .f64 IntKind.i64 x0))) 4607182418800017408) 4602678819172646912) 4598175219545276416 then Prod.fst (Pure.spec_l01SineWide_L0 F true (F.bin .mul .f64 (F.bin .sub .f64 4602678819172646912 (F.bin .sub .f64 (F.bin .add .f64 (F.bin .sub .f64 x0 (F.ofInt .f64 (F.toInt .f64 IntKind.i64 x0))) 4607182418800017408) 4602678819172646912)) 4618760256179416344) (F.bin .mul .f64 (F.bin .mul .f64 (F.bin .sub .f64 4602678819172646912 (F.bin .sub .f64 (F.bin .add .f64 (F.bin .sub .f64 x0 (F.ofInt .f64 (F.toInt .f64 IntKind.i64 x0))) 4607182418800017408) 4602678819172646912)) 4618760256179416344) (F.bin .mul .f64 (F.bin .sub .f64 4602678819172646912 (F.bin .sub .f64 (F.bin .add .f64 (F.bin .sub .f64 x0 (F.ofInt .f64 (F.toInt .f64 IntKind.i64 x0))) 4607182418800017408) 4602678819172646912)) 4618760256179416344)) 9 4607182418800017408 8) else Prod.fst (Pure.spec_l01SineWide_L0 F true (F.bin .mul .f64 (F.bin .sub .f64 (F.bin .add .f64 (F.bin .sub .f64 x0 (F.ofInt .f64 (F.toInt .f64 IntKind.i64 x0))) 4607182418800017408) 4602678819172646912) 4618760256179416344) (F.bin .mul .f64 (F.bin .mul .f64 (F.bin .sub .f64 (F.bin .add .f64 (F.bin .sub .f64 x0 (F.ofInt .f64 (F.toInt .f64 IntKind.i64 x0))) 4607182418800017408) 4602678819172646912) 4618760256179416344) (F.bin .mul .f64 (F.bin .sub .f64 (F.bin .add .f64 (F.bin .sub .f64 x0 (F.ofInt .f64 (F.toInt .f64 IntKind.i64 x0))) 4607182418800017408) 4602678819172646912) 4618760256179416344)) 9 4607182418800017408 8) else bif F.cmp .gtr .f64 (F.bin .add .f64 (F.bin .sub .f64 x0 (F.ofInt .f64 (F.toInt .f64 IntKind.i64 x0))) 4607182418800017408) 4598175219545276416 then Prod.fst (Pure.spec_l01SineWide_L0 F false (F.bin .mul .f64 (F.bin .sub .f64 4602678819172646912 (F.bin .add .f64 (F.bin .sub .f64 x0 (F.ofInt .f64 (F.toInt .f64 IntKind.i64 x0))) 4607182418800017408)) 4618760256179416344) (F.bin .mul .f64 (F.bin .mul .f64 (F.bin .sub .f64 4602678819172646912 (F.bin .add .f64 (F.bin .sub .f64 x0 (F.ofInt .f64 (F.toInt .f64 IntKind.i64 x0))) 4607182418800017408)) 4618760256179416344) (F.bin .mul .f64 (F.bin .sub .f64 4602678819172646912 (F.bin .add .f64 (F.bin .sub .f64 x0 (F.ofInt .f64 (F.toInt .f64 IntKind.i64 x0))) 4607182418800017408)) 4618760256179416344)) 9 4607182418800017408 8) else Prod.fst (Pure.spec_l01SineWide_L0 F false (F.bin .mul .f64 (F.bin .add .f64 (F.bin .sub .f64 x0 (F.ofInt .f64 (F.toInt .f64 IntKind.i64 x0))) 4607182418800017408) 4618760256179416344) (F.bin .mul .f64 (F.bin .mul .f64 (F.bin .add .f64 (F.bin .sub .f64 x0 (F.ofInt .f64 (F.toInt .f64 IntKind.i64 x0))) 4607182418800017408) 4618760256179416344) (F.bin .mul .f64 (F.bin .add .f64 (F.bin .sub .f64 x0 (F.ofInt .f64 (F.toInt .f64 IntKind.i64 x0))) 4607182418800017408) 4618760256179416344)) 9 4607182418800017408 8) else bif F.cmp .geq .f64 (F.bin .sub .f64 x0 (F.ofInt .f64 (F.toInt .f64 IntKind.i64 x0))) 4602678819172646912 then bif F.cmp .gtr .f64 (F.bin .sub .f64 (F.bin .sub .f64 x0 (F.ofInt .f64 (F.toInt .f64 IntKind.i64 x0))) 4602678819172646912) 4598175219545276416 then Prod.fst (Pure.spec_l01SineWide_L0 F true (F.bin .mul .f64 (F.bin .sub .f64 4602678819172646912 (F.bin .sub .f64 (F.bin .sub .f64 x0 (F.ofInt .f64 (F.toInt .f64 IntKind.i64 x0))) 4602678819172646912)) 4618760256179416344) (F.bin .mul .f64 (F.bin .mul .f64 (F.bin .sub .f64 4602678819172646912 (F.bin .sub .f64 (F.bin .sub .f64 x0 (F.ofInt .f64 (F.toInt .f64 IntKind.i64 x0))) 4602678819172646912)) 4618760256179416344) (F.bin .mul .f64 (F.bin .sub .f64 4602678819172646912 (F.bin .sub .f64 (F.bin .sub .f64 x0 (F.ofInt .f64 (F.toInt .f64 IntKind.i64 x0))) 4602678819172646912)) 4618760256179416344)) 9 4607182418800017408 8) else Prod.fst (Pure.spec_l01SineWide_L0 F true (F.bin .mul .f64 (F.bin .sub .f64 (F.bin .sub .f64 x0 (F.ofInt .f64 (F.toInt .f64 IntKind.i64 x0))) 4602678819172646912) 4618760256179416344) (F.bin .mul .f64 (F.bin .mul .f64 (F.bin .sub .f64 (F.bin .sub .f64 x0 (F.ofInt .f64 (F.toInt .f64 IntKind.i64 x0))) 4602678819172646912) 4618760256179416344) (F.bin .mul .f64 (F.bin .sub .f64 (F.bin .sub .f64 x0 (F.ofInt .f64 (F.toInt .f64 IntKind.i64 x0))) 4602678819172646912) 4618760256179416344)) 9 4607182418800017408 8) else bif F.cmp .gtr .f64 (F.bin .sub .f64 x0 (F.ofInt .f64 (F.toInt .f64 IntKind.i64 x0))) 4598175219545276416 then Prod.fst (Pure.spec_l01SineWide_L0 F false (F.bin .mul .f64 (F.bin .sub .f64 4602678819172646912 (F.bin .sub .f64 x0 (F.ofInt .f64 (F.toInt .f64 IntKind.i64 x0)))) 4618760256179416344) (F.bin .mul .f64 (F.bin .mul .f64 (F.bin .sub .f64 4602678819172646912 (F.bin .sub .f64 x0 (F.ofInt .f64 (F.toInt .f64 IntKind.i64 x0)))) 4618760256179416344) (F.bin .mul .f64 (F.bin .sub .f64 4602678819172646912 (F.bin .sub .f64 x0 (F.ofInt .f64 (F.toInt .f64 IntKind.i64 x0)))) 4618760256179416344)) 9 4607182418800017408 8) else Prod.fst (Pure.spec_l01SineWide_L0 F false (F.bin .mul .f64 (F.bin .sub .f64 x0 (F.ofInt .f64 (F.toInt .f64 IntKind.i64 x0))) 4618760256179416344) (F.bin .mul .f64 (F.bin .mul .f64 (F.bin .sub .f64 x0 (F.ofInt .f64 (F.toInt .f64 IntKind.i64 x0))) 4618760256179416344) (F.bin .mul .f64 (F.bin .sub .f64 x0 (F.ofInt .f64 (F.toInt .f64 IntKind.i64 x0))) 4618760256179416344)) 9 4607182418800017408 8) else false
def c_spec_l01SineWide (F : FOps) : Con
  | [V.at (A.fl .f64 x0)], [] => some (Pure.spec_l01SineWide_ok F x0, ⟨V.at (A.fl .f64 (Pure.spec_l01SineWide F x0)), none, []⟩)
  | _, _ => none
theorem e_spec_l01SineWide (F : FOps) (x0 : Int) : Pure.spec_l01SineWide_ok F x0 = true → evFn (cxS F tyl [(120, c_math_NaN F)] [] [(0, S_spec_l01SineWide_L0 F)] 0) Try.f125 false [V.at (A.fl .f64 x0)] [] = some ⟨V.at (A.fl .f64 (Pure.spec_l01SineWide F x0)), none, []⟩ := by
  have h0 : evFn (cxS F tyl [(120, c_math_NaN F)] [] [(0, S_spec_l01SineWide_L0 F)] 0) Try.f125 false [V.at (A.fl .f64 x0)] [] = bif F.cmp .neq .f64 (F.bin .sub .f64 x0 x0) 0 then some ⟨V.at (A.fl .f64 (F.ofBits .f64 9221120237041090561)), none, []⟩ else bif F.cmp .geq .f64 x0 4841369599423283200 then some ⟨V.at (A.fl .f64 0), none, []⟩ else bif F.cmp .leq .f64 x0 14064741636278059008 then some ⟨V.at (A.fl .f64 0), none, []⟩ else bif F.toIntOk .f64 IntKind.i64 x0 then bif F.cmp .lss .f64 (F.bin .sub .f64 x0 (F.ofInt .f64 (F.toInt .f64 IntKind.i64 x0))) 0 then bif F.cmp .geq .f64 (F.bin .add .f64 (F.bin .sub .f64 x0 (F.ofInt .f64 (F.toInt .f64 IntKind.i64 x0))) 4607182418800017408) 4602678819172646912 then bif F.cmp .gtr .f64 (F.bin .sub .f64 (F.bin .add .f64 (F.bin .sub .f64 x0 (F.ofInt .f64 (F.toInt .f64 IntKind.i64 x0))) 4607182418800017408) 4602678819172646912) 4598175219545276416 then bif Prod.fst (Pure.spec_l01SineWide_L0 F (F.cmp .geq .f64 (F.bin .add .f64 (F.bin .sub .f64 x0 (F.ofInt .f64 (F.toInt .f64 IntKind.i64 x0))) 4607182418800017408) 4602678819172646912) (F.bin .mul .f64 (F.bin .sub .f64 4602678819172646912 (F.bin .sub .f64 (F.bin .add .f64 (F.bin .sub .f64 x0 (F.ofInt .f64 (F.toInt .f64 IntKind.i64 x0))) 4607182418800017408) 4602678819172646912)) 4618760256179416344) (F.bin .mul .f64 (F.bin .mul .f64 (F.bin .sub .f64 4602678819172646912 (F.bin .sub .f64 (F.bin .add .f64 (F.bin .sub .f64 x0 (F.ofInt .f64 (F.toInt .f64 IntKind.i64 x0))) 4607182418800017408) 4602678819172646912)) 4618760256179416344) (F.bin .mul .f64 (F.bin .sub .f64 4602678819172646912 (F.bin .sub .f64 (F.bin .add .f64 (F.bin .sub .f64 x0 (F.ofInt .f64 (F.toInt .f64 IntKind.i64 x0))) 4607182418800017408) 4602678819172646912)) 4618760256179416344)) 9 4607182418800017408 8) then bif F.cmp .geq .f64 (F.bin .add .f64 (F.bin .sub .f64 x0 (F.ofInt .f64 (F.toInt .f64 IntKind.i64 x0))) 4607182418800017408) 4602678819172646912 then some ⟨V.at (A.fl .f64 (F.neg .f64 (F.bin .mul .f64 (F.bin .mul .f64 (F.bin .sub .f64 4602678819172646912 (F.bin .sub .f64 (F.bin .add .f64 (F.bin .sub .f64 x0 (F.ofInt .f64 (F.toInt .f64 IntKind.i64 x0))) 4607182418800017408) 4602678819172646912)) 4618760256179416344) (Prod.snd (Pure.spec_l01SineWide_L0 F (F.cmp .geq .f64 (F.bin .add .f64 (F.bin .sub .f64 x0 (F.ofInt .f64 (F.toInt .f64 IntKind.i64 x0))) 4607182418800017408) 4602678819172646912) (F.bin .mul .f64 (F.bin .sub .f64 4602678819172646912 (F.bin .sub .f64 (F.bin .add .f64 (F.bin .sub .f64 x0 (F.ofInt .f64 (F.toInt .f64 IntKind.i64 x0))) 4607182418800017408) 4602678819172646912)) 4618760256179416344) (F.bin .mul .f64 (F.bin .mul .f64 (F.bin .sub .f64 4602678819172646912 (F.bin .sub .f64 (F.bin .add .f64 (F.bin .sub .f64 x0 (F.ofInt .f64 (F.toInt .f64 IntKind.i64 x0))) 4607182418800017408) 4602678819172646912)) 4618760256179416344) (F.bin .mul .f64 (F.bin .sub .f64 4602678819172646912 (F.bin .sub .f64 (F.bin .add .f64 (F.bin .sub .f64 x0 (F.ofInt .f64 (F.toInt .f64 IntKind.i64 x0))) 4607182418800017408) 4602678819172646912)) 4618760256179416344)) 9 4607182418800017408 8))))), none, []⟩ else some ⟨V.at (A.fl .f64 (F.bin .mul .f64 (F.bin .mul .f64 (F.bin .sub .f64 4602678819172646912 (F.bin .sub .f64 (F.bin .add .f64 (F.bin .sub .f64 x0 (F.ofInt .f64 (F.toInt .f64 IntKind.i64 x0))) 4607182418800017408) 4602678819172646912)) 4618760256179416344) (Prod.snd (Pure.spec_l01SineWide_L0 F (F.cmp .geq .f64 (F.bin .add .f64 (F.bin .sub .f64 x0 (F.ofInt .f64 (F.toInt .f64 IntKind.i64 x0))) 4607182418800017408) 4602678819172646912) (F.bin .mul .f64 (F.bin .sub .f64 4602678819172646912 (F.bin .sub .f64 (F.bin .add .f64 (F.bin .sub .f64 x0 (F.ofInt .f64 (F.toInt .f64 IntKind.i64 x0))) 4607182418800017408) 4602678819172646912)) 4618760256179416344) (F.bin .mul .f64 (F.bin .mul .f64 (F.bin .sub .f64 4602678819172646912 (F.bin .sub .f64 (F.bin .add .f64 (F.bin .sub .f64 x0 (F.ofInt .f64 (F.toInt .f64 IntKind.i64 x0))) 4607182418800017408) 4602678819172646912)) 4618760256179416344) (F.bin .mul .f64 (F.bin .sub .f64 4602678819172646912 (F.bin .sub .f64 (F.bin .add .f64 (F.bin .sub .f64 x0 (F.ofInt .f64 (F.toInt .f64 IntKind.i64 x0))) 4607182418800017408) 4602678819172646912)) 4618760256179416344)) 9 4607182418800017408 8)))), none, []⟩ else none else bif Prod.fst (Pure.spec_l01SineWide_L0 F (F.cmp .geq .f64 (F.bin .add .f64 (F.bin .sub .f64 x0 (F.ofInt .f64 (F.toInt .f64 IntKind.i64 x0))) 4607182418800017408) 4602678819172646912) (F.bin .mul .f64 (F.bin .sub .f64 (F.bin .add .f64 (F.bin .sub .f64 x0 (F.ofInt .f64 (F.toInt .f64 IntKind.i64 x0))) 4607182418800017408) 4602678819172646912) 4618760256179416344) (F.bin .mul .f64 (F.bin .mul .f64 (F.bin .sub .f64 (F.bin .add .f64 (F.bin .sub .f64 x0 (F.ofInt .f64 (F.toInt .f64 IntKind.i64 x0))) 4607182418800017408) 4602678819172646912) 4618760256179416344) (F.bin .mul .f64 (F.bin .sub .f64 (F.bin .add .f64 (F.bin .sub .f64 x0 (F.ofInt .f64 (F.toInt .f64 IntKind.i64 x0))) 4607182418800017408) 4602678819172646912) 4618760256179416344)) 9 4607182418800017408 8) then bif F.cmp .geq .f64 (F.bin .add .f64 (F.bin .sub .f64 x0 (F.ofInt .f64 (F.toInt .f64 IntKind.i64 x0))) 4607182418800017408) 4602678819172646912 then some ⟨V.at (A.fl .f64 (F.neg .f64 (F.bin .mul .f64 (F.bin .mul .f64 (F.bin .sub .f64 (F.bin .add .f64 (F.bin .sub .f64 x0 (F.ofInt .f64 (F.toInt .f64 IntKind.i64 x0))) 4607182418800017408) 4602678819172646912) 4618760256179416344) (Prod.snd (Pure.spec_l01SineWide_L0 F (F.cmp .geq .f64 (F.bin .add .f64 (F.bin .sub .f64 x0 (F.ofInt .f64 (F.toInt .f64 IntKind.i64 x0))) 4607182418800017408) 4602678819172646912) (F.bin .mul .f64 (F.bin .sub .f64 (F.bin .add .f64 (F.bin .sub .f64 x0 (F.ofInt .f64 (F.toInt .f64 IntKind.i64 x0))) 4607182418800017408) 4602678819172646912) 4618760256179416344) (F.bin .mul .f64 (F.bin .mul .f64 (F.bin .sub .f64 (F.bin .add .f64 (F.bin .sub .f64 x0 (F.ofInt .f64 (F.toInt .f64 IntKind.i64 x0))) 4607182418800017408) 4602678819172646912) 4618760256179416344) (F.bin .mul .f64 (F.bin .sub .f64 (F.bin .add .f64 (F.bin .sub .f64 x0 (F.ofInt .f64 (F.toInt .f64 IntKind.i64 x0))) 4607182418800017408) 4602678819172646912) 4618760256179416344)) 9 4607182418800017408 8))))), none, []⟩ else some ⟨V.at (A.fl .f64 (F.bin .mul .f64 (F.bin .mul .f64 (F.bin .sub .f64 (F.bin .add .f64 (F.bin .sub .f64 x0 (F.ofInt .f64 (F.toInt .f64 IntKind.i64 x0))) 4607182418800017408) 4602678819172646912) 4618760256179416344) (Prod.snd (Pure.spec_l01SineWide_L0 F (F.cmp .geq .f64 (F.bin .add .f64 (F.bin .sub .f64 x0 (F.ofInt .f64 (F.toInt .f64 IntKind.i64 x0))) 4607182418800017408) 4602678819172646912) (F.bin .mul .f64 (F.bin .sub .f64 (F.bin .add .f64 (F.bin .sub .f64 x0 (F.ofInt .f64 (F.toInt .f64 IntKind.i64 x0))) 4607182418800017408) 4602678819172646912) 4618760256179416344) (F.bin .mul .f64 (F.bin .mul .f64 (F.bin .sub .f64 (F.bin .add .f64 (F.bin .sub .f64 x0 (F.ofInt .f64 (F.toInt .f64 IntKind.i64 x0))) 4607182418800017408) 4602678819172646912) 4618760256179416344) (F.bin .mul .f64 (F.bin .sub .f64 (F.bin .add .f64 (F.bin .sub .f64 x0 (F.ofInt .f64 (F.toInt .f64 IntKind.i64 x0))) 4607182418800017408) 4602678819172646912) 4618760256179416344)) 9 4607182418800017408 8)))), none, []⟩ else none else bif F.cmp .gtr .f64 (F.bin .add .f64 (F.bin .sub .f64 x0 (F.ofInt .f64 (F.toInt .f64 IntKind.i64 x0))) 4607182418800017408) 4598175219545276416 then bif Prod.fst (Pure.spec_l01SineWide_L0 F (F.cmp .geq .f64 (F.bin .add .f64 (F.bin .sub .f64 x0 (F.ofInt .f64 (F.toInt .f64 IntKind.i64 x0))) 4607182418800017408) 4602678819172646912) (F.bin .mul .f64 (F.bin .sub .f64 4602678819172646912 (F.bin .add .f64 (F.bin .sub .f64 x0 (F.ofInt .f64 (F.toInt .f64 IntKind.i64 x0))) 4607182418800017408)) 4618760256179416344) (F.bin .mul .f64 (F.bin .mul .f64 (F.bin .sub .f64 4602678819172646912 (F.bin .add .f64 (F.bin .sub .f64 x0 (F.ofInt .f64 (F.toInt .f64 IntKind.i64 x0))) 4607182418800017408)) 4618760256179416344) (F.bin .mul .f64 (F.bin .sub .f64 4602678819172646912 (F.bin .add .f64 (F.bin .sub .f64 x0 (F.ofInt .f64 (F.toInt .f64 IntKind.i64 x0))) 4607182418800017408)) 4618760256179416344)) 9 4607182418800017408 8) then bif F.cmp .geq .f64 (F.bin .add .f64 (F.bin .sub .f64 x0 (F.ofInt .f64 (F.toInt .f64 IntKind.i64 x0))) 4607182418800017408) 4602678819172646912 then some ⟨V.at (A.fl .f64 (F.neg .f64 (F.bin .mul .f64 (F.bin .mul .f64 (F.bin .sub .f64 4602678819172646912 (F.bin .add .f64 (F.bin .sub .f64 x0 (F.ofInt .f64 (F.toInt .f64 IntKind.i64 x0))) 4607182418800017408)) 4618760256179416344) (Prod.snd (Pure.spec_l01SineWide_L0 F (F.cmp .geq .f64 (F.bin .add .f64 (F.bin .sub .f64 x0 (F.ofInt .f64 (F.toInt .f64 IntKind.i64 x0))) 4607182418800017408) 4602678819172646912) (F.bin .mul .f64 (F.bin .sub .f64 4602678819172646912 (F.bin .add .f64 (F.bin .sub .f64 x0 (F.ofInt .f64 (F.toInt .f64 IntKind.i64 x0))) 4607182418800017408)) 4618760256179416344) (F.bin .mul .f64 (F.bin .mul .f64 (F.bin .sub .f64 4602678819172646912 (F.bin .add .f64 (F.bin .sub .f64 x0 (F.ofInt .f64 (F.toInt .f64 IntKind.i64 x0))) 4607182418800017408)) 4618760256179416344) (F.bin .mul .f64 (F.bin .sub .f64 4602678819172646912 (F.bin .add .f64 (F.bin .sub .f64 x0 (F.ofInt .f64 (F.toInt .f64 IntKind.i64 x0))) 4607182418800017408)) 4618760256179416344)) 9 4607182418800017408 8))))), none, []⟩ else some ⟨V.at (A.fl .f64 (F.bin .mul .f64 (F.bin .mul .f64 (F.bin .sub .f64 4602678819172646912 (F.bin .add .f64 (F.bin .sub .f64 x0 (F.ofInt .f64 (F.toInt .f64 IntKind.i64 x0))) 4607182418800017408)) 4618760256179416344) (Prod.snd (Pure.spec_l01SineWide_L0 F (F.cmp .geq .f64 (F.bin .add .f64 (F.bin .sub .f64 x0 (F.ofInt .f64 (F.toInt .f64 IntKind.i64 x0))) 4607182418800017408) 4602678819172646912) (F.bin .mul .f64 (F.bin .sub .f64 4602678819172646912 (F.bin .add .f64 (F.bin .sub .f64 x0 (F.ofInt .f64 (F.toInt .f64 IntKind.i64 x0))) 4607182418800017408)) 4618760256179416344) (F.bin .mul .f64 (F.bin .mul .f64 (F.bin .sub .f64 4602678819172646912 (F.bin .add .f64 (F.bin .sub .f64 x0 (F.ofInt .f64 (F.toInt .f64 IntKind.i64 x0))) 4607182418800017408)) 4618760256179416344) (F.bin .mul .f64 (F.bin .sub .f64 4602678819172646912 (F.bin .add .f64 (F.bin .sub .f64 x0 (F.ofInt .f64 (F.toInt .f64 IntKind.i64 x0))) 4607182418800017408)) 4618760256179416344)) 9 4607182418800017408 8)))), none, []⟩ else none else bif Prod.fst (Pure.spec_l01SineWide_L0 F (F.cmp .geq .f64 (F.bin .add .f64 (F.bin .sub .f64 x0 (F.ofInt .f64 (F.toInt .f64 IntKind.i64 x0))) 4607182418800017408) 4602678819172646912) (F.bin .mul .f64 (F.bin .add .f64 (F.bin .sub .f64 x0 (F.ofInt .f64 (F.toInt .f64 IntKind.i64 x0))) 4607182418800017408) 4618760256179416344) (F.bin .mul .f64 (F.bin .mul .f64 (F.bin .add .f64 (F.bin .sub .f64 x0 (F.ofInt .f64 (F.toInt .f64 IntKind.i64 x0))) 4607182418800017408) 4618760256179416344) (F.bin .mul .f64 (F.bin .add .f64 (F.bin .sub .f64 x0 (F.ofInt .f64 (F.toInt .f64 IntKind.i64 x0))) 4607182418800017408) 4618760256179416344)) 9 4607182418800017408 8) then bif F.cmp .geq .f64 (F.bin .add .f64 (F.bin .sub .f64 x0 (F.ofInt .f64 (F.toInt .f64 IntKind.i64 x0))) 4607182418800017408) 4602678819172646912 then some ⟨V.at (A.fl .f64 (F.neg .f64 (F.bin .mul .f64 (F.bin .mul .f64 (F.bin .add .f64 (F.bin .sub .f64 x0 (F.ofInt .f64 (F.toInt .f64 IntKind.i64 x0))) 4607182418800017408) 4618760256179416344) (Prod.snd (Pure.spec_l01SineWide_L0 F (F.cmp .geq .f64 (F.bin .add .f64 (F.bin .sub .f64 x0 (F.ofInt .f64 (F.toInt .f64 IntKind.i64 x0))) 4607182418800017408) 4602678819172646912) (F.bin .mul .f64 (F.bin .add .f64 (F.bin .sub .f64 x0 (F.ofInt .f64 (F.toInt .f64 IntKind.i64 x0))) 4607182418800017408) 4618760256179416344) (F.bin .mul .f64 (F.bin .mul .f64 (F.bin .add .f64 (F.bin .sub .f64 x0 (F.ofInt .f64 (F.toInt .f64 IntKind.i64 x0))) 4607182418800017408) 4618760256179416344) (F.bin .mul .f64 (F.bin .add .f64 (F.bin .sub .f64 x0 (F.ofInt .f64 (F.toInt .f64 IntKind.i64 x0))) 4607182418800017408) 4618760256179416344)) 9 4607182418800017408 8))))), none, []⟩ else some ⟨V.at (A.fl .f64 (F.bin .mul .f64 (F.bin .mul .f64 (F.bin .add .f64 (F.bin .sub .f64 x0 (F.ofInt .f64 (F.toInt .f64 IntKind.i64 x0))) 4607182418800017408) 4618760256179416344) (Prod.snd (Pure.spec_l01SineWide_L0 F (F.cmp .geq .f64 (F.bin .add .f64 (F.bin .sub .f64 x0 (F.ofInt .f64 (F.toInt .f64 IntKind.i64 x0))) 4607182418800017408) 4602678819172646912) (F.bin .mul .f64 (F.bin .add .f64 (F.bin .sub .f64 x0 (F.ofInt .f64 (F.toInt .f64 IntKind.i64 x0))) 4607182418800017408) 4618760256179416344) (F.bin .mul .f64 (F.bin .mul .f64 (F.bin .add .f64 (F.bin .sub .f64 x0 (F.ofInt .f64 (F.toInt .f64 IntKind.i64 x0))) 4607182418800017408) 4618760256179416344) (F.bin .mul .f64 (F.bin .add .f64 (F.bin .sub .f64 x0 (F.ofInt .f64 (F.toInt .f64 IntKind.i64 x0))) 4607182418800017408) 4618760256179416344)) 9 4607182418800017408 8)))), none, []⟩ else none else bif F.cmp .geq .f64 (F.bin .sub .f64 x0 (F.ofInt .f64 (F.toInt .f64 IntKind.i64 x0))) 4602678819172646912 then bif F.cmp .gtr .f64 (F.bin .sub .f64 (F.bin .sub .f64 x0 (F.ofInt .f64 (F.toInt .f64 IntKind.i64 x0))) 4602678819172646912) 4598175219545276416 then bif Prod.fst (Pure.spec_l01SineWide_L0 F (F.cmp .geq .f64 (F.bin .sub .f64 x0 (F.ofInt .f64 (F.toInt .f64 IntKind.i64 x0))) 4602678819172646912) (F.bin .mul .f64 (F.bin .sub .f64 4602678819172646912 (F.bin .sub .f64 (F.bin .sub .f64 x0 (F.ofInt .f64 (F.toInt .f64 IntKind.i64 x0))) 4602678819172646912)) 4618760256179416344) (F.bin .mul .f64 (F.bin .mul .f64 (F.bin .sub .f64 4602678819172646912 (F.bin .sub .f64 (F.bin .sub .f64 x0 (F.ofInt .f64 (F.toInt .f64 IntKind.i64 x0))) 4602678819172646912)) 4618760256179416344) (F.bin .mul .f64 (F.bin .sub .f64 4602678819172646912 (F.bin .sub .f64 (F.bin .sub .f64 x0 (F.ofInt .f64 (F.toInt .f64 IntKind.i64 x0))) 4602678819172646912)) 4618760256179416344)) 9 4607182418800017408 8) then bif F.cmp .geq .f64 (F.bin .sub .f64 x0 (F.ofInt .f64 (F.toInt .f64 IntKind.i64 x0))) 4602678819172646912 then some ⟨V.at (A.fl .f64 (F.neg .f64 (F.bin .mul .f64 (F.bin .mul .f64 (F.bin .sub .f64 4602678819172646912 (F.bin .sub .f64 (F.bin .sub .f64 x0 (F.ofInt .f64 (F.toInt .f64 IntKind.i64 x0))) 4602678819172646912)) 4618760256179416344) (Prod.snd (Pure.spec_l01SineWide_L0 F (F.cmp .geq .f64 (F.bin .sub .f64 x0 (F.ofInt .f64 (F.toInt .f64 IntKind.i64 x0))) 4602678819172646912) (F.bin .mul .f64 (F.bin .sub .f64 4602678819172646912 (F.bin .sub .f64 (F.bin .sub .f64 x0 (F.ofInt .f64 (F.toInt .f64 IntKind.i64 x0))) 4602678819172646912)) 4618760256179416344) (F.bin .mul .f64 (F.bin .mul .f64 (F.bin .sub .f64 4602678819172646912 (F.bin .sub .f64 (F.bin .sub .f64 x0 (F.ofInt .f64 (F.toInt .f64 IntKind.i64 x0))) 4602678819172646912)) 4618760256179416344) (F.bin .mul .f64 (F.bin .sub .f64 4602678819172646912 (F.bin .sub .f64 (F.bin .sub .f64 x0 (F.ofInt .f64 (F.toInt .f64 IntKind.i64 x0))) 4602678819172646912)) 4618760256179416344)) 9 4607182418800017408 8))))), none, []⟩ else some ⟨V.at (A.fl .f64 (F.bin .mul .f64 (F.bin .mul .f64 (F.bin .sub .f64 4602678819172646912 (F.bin .sub .f64 (F.bin .sub .f64 x0 (F.ofInt .f64 (F.toInt .f64 IntKind.i64 x0))) 4602678819172646912)) 4618760256179416344) (Prod.snd (Pure.spec_l01SineWide_L0 F (F.cmp .geq .f64 (F.bin .sub .f64 x0 (F.ofInt .f64 (F.toInt .f64 IntKind.i64 x0))) 4602678819172646912) (F.bin .mul .f64 (F.bin .sub .f64 4602678819172646912 (F.bin .sub .f64 (F.bin .sub .f64 x0 (F.ofInt .f64 (F.toInt .f64 IntKind.i64 x0))) 4602678819172646912)) 4618760256179416344) (F.bin .mul .f64 (F.bin .mul .f64 (F.bin .sub .f64 4602678819172646912 (F.bin .sub .f64 (F.bin .sub .f64 x0 (F.ofInt .f64 (F.toInt .f64 IntKind.i64 x0))) 4602678819172646912)) 4618760256179416344) (F.bin .mul .f64 (F.bin .sub .f64 4602678819172646912 (F.bin .sub .f64 (F.bin .sub .f64 x0 (F.ofInt .f64 (F.toInt .f64 IntKind.i64 x0))) 4602678819172646912)) 4618760256179416344)) 9 4607182418800017408 8)))), none, []⟩ else none else bif Prod.fst (Pure.spec_l01SineWide_L0 F (F.cmp .geq .f64 (F.bin .sub .f64 x0 (F.ofInt .f64 (F.toInt .f64 IntKind.i64 x0))) 4602678819172646912) (F.bin .mul .f64 (F.bin .sub .f64 (F.bin .sub .f64 x0 (F.ofInt .f64 (F.toInt .f64 IntKind.i64 x0))) 4602678819172646912) 4618760256179416344) (F.bin .mul .f64 (F.bin .mul .f64 (F.bin .sub .f64 (F.bin .sub .f64 x0 (F.ofInt .f64 (F.toInt .f64 IntKind.i64 x0))) 4602678819172646912) 4618760256179416344) (F.bin .mul .f64 (F.bin .sub .f64 (F.bin .sub .f64 x0 (F.ofInt .f64 (F.toInt .f64 IntKind.i64 x0))) 4602678819172646912) 4618760256179416344)) 9 4607182418800017408 8) then bif F.cmp .geq .f64 (F.bin .sub .f64 x0 (F.ofInt .f64 (F.toInt .f64 IntKind.i64 x0))) 4602678819172646912 then some ⟨V.at (A.fl .f64 (F.neg .f64 (F.bin .mul .f64 (F.bin .mul .f64 (F.bin .sub .f64 (F.bin .sub .f64 x0 (F.ofInt .f64 (F.toInt .f64 IntKind.i64 x0))) 4602678819172646912) 4618760256179416344) (Prod.snd (Pure.spec_l01SineWide_L0 F (F.cmp .geq .f64 (F.bin .sub .f64 x0 (F.ofInt .f64 (F.toInt .f64 IntKind.i64 x0))) 4602678819172646912) (F.bin .mul .f64 (F.bin .sub .f64 (F.bin .sub .f64 x0 (F.ofInt .f64 (F.toInt .f64 IntKind.i64 x0))) 4602678819172646912) 4618760256179416344) (F.bin .mul .f64 (F.bin .mul .f64 (F.bin .sub .f64 (F.bin .sub .f64 x0 (F.ofInt .f64 (F.toInt .f64 IntKind.i64 x0))) 4602678819172646912) 4618760256179416344) (F.bin .mul .f64 (F.bin .sub .f64 (F.bin .sub .f64 x0 (F.ofInt .f64 (F.toInt .f64 IntKind.i64 x0))) 4602678819172646912) 4618760256179416344)) 9 4607182418800017408 8))))), none, []⟩ else some ⟨V.at (A.fl .f64 (F.bin .mul .f64 (F.bin .mul .f64 (F.bin .sub .f64 (F.bin .sub .f64 x0 (F.ofInt .f64 (F.toInt .f64 IntKind.i64 x0))) 4602678819172646912) 4618760256179416344) (Prod.snd (Pure.spec_l01SineWide_L0 F (F.cmp .geq .f64 (F.bin .sub .f64 x0 (F.ofInt .f64 (F.toInt .f64 IntKind.i64 x0))) 4602678819172646912) (F.bin .mul .f64 (F.bin .sub .f64 (F.bin .sub .f64 x0 (F.ofInt .f64 (F.toInt .f64 IntKind.i64 x0))) 4602678819172646912) 4618760256179416344) (F.bin .mul .f64 (F.bin .mul .f64 (F.bin .sub .f64 (F.bin .sub .f64 x0 (F.ofInt .f64 (F.toInt .f64 IntKind.i64 x0))) 4602678819172646912) 4618760256179416344) (F.bin .mul .f64 (F.bin .sub .f64 (F.bin .sub .f64 x0 (F.ofInt .f64 (F.toInt .f64 IntKind.i64 x0))) 4602678819172646912) 4618760256179416344)) 9 4607182418800017408 8)))), none, []⟩ else none else bif F.cmp .gtr .f64 (F.bin .sub .f64 x0 (F.ofInt .f64 (F.toInt .f64 IntKind.i64 x0))) 4598175219545276416 then bif Prod.fst (Pure.spec_l01SineWide_L0 F (F.cmp .geq .f64 (F.bin .sub .f64 x0 (F.ofInt .f64 (F.toInt .f64 IntKind.i64 x0))) 4602678819172646912) (F.bin .mul .f64 (F.bin .sub .f64 4602678819172646912 (F.bin .sub .f64 x0 (F.ofInt .f64 (F.toInt .f64 IntKind.i64 x0)))) 4618760256179416344) (F.bin .mul .f64 (F.bin .mul .f64 (F.bin .sub .f64 4602678819172646912 (F.bin .sub .f64 x0 (F.ofInt .f64 (F.toInt .f64 IntKind.i64 x0)))) 4618760256179416344) (F.bin .mul .f64 (F.bin .sub .f64 4602678819172646912 (F.bin .sub .f64 x0 (F.ofInt .f64 (F.toInt .f64 IntKind.i64 x0)))) 4618760256179416344)) 9 4607182418800017408 8) then bif F.cmp .geq .f64 (F.bin .sub .f64 x0 (F.ofInt .f64 (F.toInt .f64 IntKind.i64 x0))) 4602678819172646912 then some ⟨V.at (A.fl .f64 (F.neg .f64 (F.bin .mul .f64 (F.bin .mul .f64 (F.bin .sub .f64 4602678819172646912 (F.bin .sub .f64 x0 (F.ofInt .f64 (F.toInt .f64 IntKind.i64 x0)))) 4618760256179416344) (Prod.snd (Pure.spec_l01SineWide_L0 F (F.cmp .geq .f64 (F.bin .sub .f64 x0 (F.ofInt .f64 (F.toInt .f64 IntKind.i64 x0))) 4602678819172646912) (F.bin .mul .f64 (F.bin .sub .f64 4602678819172646912 (F.bin .sub .f64 x0 (F.ofInt .f64 (F.toInt .f64 IntKind.i64 x0)))) 4618760256179416344) (F.bin .mul .f64 (F.bin .mul .f64 (F.bin .sub .f64 4602678819172646912 (F.bin .sub .f64 x0 (F.ofInt .f64 (F.toInt .f64 IntKind.i64 x0)))) 4618760256179416344) (F.bin .mul .f64 (F.bin .sub .f64 4602678819172646912 (F.bin .sub .f64 x0 (F.ofInt .f64 (F.toInt .f64 IntKind.i64 x0)))) 4618760256179416344)) 9 4607182418800017408 8))))), none, []⟩ else some ⟨V.at (A.fl .f64 (F.bin .mul .f64 (F.bin .mul .f64 (F.bin .sub .f64 4602678819172646912 (F.bin .sub .f64 x0 (F.ofInt .f64 (F.toInt .f64 IntKind.i64 x0)))) 4618760256179416344) (Prod.snd (Pure.spec_l01SineWide_L0 F (F.cmp .geq .f64 (F.bin .sub .f64 x0 (F.ofInt .f64 (F.toInt .f64 IntKind.i64 x0))) 4602678819172646912) (F.bin .mul .f64 (F.bin .sub .f64 4602678819172646912 (F.bin .sub .f64 x0 (F.ofInt .f64 (F.toInt .f64 IntKind.i64 x0)))) 4618760256179416344) (F.bin .mul .f64 (F.bin .mul .f64 (F.bin .sub .f64 4602678819172646912 (F.bin .sub .f64 x0 (F.ofInt .f64 (F.toInt .f64 IntKind.i64 x0)))) 4618760256179416344) (F.bin .mul .f64 (F.bin .sub .f64 4602678819172646912 (F.bin .sub .f64 x0 (F.ofInt .f64 (F.toInt .f64 IntKind.i64 x0)))) 4618760256179416344)) 9 4607182418800017408 8)))), none, []⟩ else none else bif Prod.fst (Pure.spec_l01SineWide_L0 F (F.cmp .geq .f64 (F.bin .sub .f64 x0 (F.ofInt .f64 (F.toInt .f64 IntKind.i64 x0))) 4602678819172646912) (F.bin .mul .f64 (F.bin .sub .f64 x0 (F.ofInt .f64 (F.toInt .f64 IntKind.i64 x0))) 4618760256179416344) (F.bin .mul .f64 (F.bin .mul .f64 (F.bin .sub .f64 x0 (F.ofInt .f64 (F.toInt .f64 IntKind.i64 x0))) 4618760256179416344) (F.bin .mul .f64 (F.bin .sub .f64 x0 (F.ofInt .f64 (F.toInt .f64 IntKind.i64 x0))) 4618760256179416344)) 9 4607182418800017408 8) then bif F.cmp .geq .f64 (F.bin .sub .f64 x0 (F.ofInt .f64 (F.toInt .f64 IntKind.i64 x0))) 4602678819172646912 then some ⟨V.at (A.fl .f64 (F.neg .f64 (F.bin .mul .f64 (F.bin .mul .f64 (F.bin .sub .f64 x0 (F.ofInt .f64 (F.toInt .f64 IntKind.i64 x0))) 4618760256179416344) (Prod.snd (Pure.spec_l01SineWide_L0 F (F.cmp .geq .f64 (F.bin .sub .f64 x0 (F.ofInt .f64 (F.toInt .f64 IntKind.i64 x0))) 4602678819172646912) (F.bin .mul .f64 (F.bin .sub .f64 x0 (F.ofInt .f64 (F.toInt .f64 IntKind.i64 x0))) 4618760256179416344) (F.bin .mul .f64 (F.bin .mul .f64 (F.bin .sub .f64 x0 (F.ofInt .f64 (F.toInt .f64 IntKind.i64 x0))) 4618760256179416344) (F.bin .mul .f64 (F.bin .sub .f64 x0 (F.ofInt .f64 (F.toInt .f64 IntKind.i64 x0))) 4618760256179416344)) 9 4607182418800017408 8))))), none, []⟩ else some ⟨V.at (A.fl .f64 (F.bin .mul .f64 (F.bin .mul .f64 (F.bin .sub .f64 x0 (F.ofInt .f64 (F.toInt .f64 IntKind.i64 x0))) 4618760256179416344) (Prod.snd (Pure.spec_l01SineWide_L0 F (F.cmp .geq .f64 (F.bin .sub .f64 x0 (F.ofInt .f64 (F.toInt .f64 IntKind.i64 x0))) 4602678819172646912) (F.bin .mul .f64 (F.bin .sub .f64 x0 (F.ofInt .f64 (F.toInt .f64 IntKind.i64 x0))) 4618760256179416344) (F.bin .mul .f64 (F.bin .mul .f64 (F.bin .sub .f64 x0 (F.ofInt .f64 (F.toInt .f64 IntKind.i64 x0))) 4618760256179416344) (F.bin .mul .f64 (F.bin .sub .f64 x0 (F.ofInt .f64 (F.toInt .f64 IntKind.i64 x0))) 4618760256179416344)) 9 4607182418800017408 8)))), none, []⟩ else none else none := by kernel_rfl
  rw [h0]
  unfold Pure.spec_l01SineWide Pure.spec_l01SineWide_ok
  cases (F.cmp .neq .f64 (F.bin .sub .f64 x0 x0) 0) with
  | true =>
    intro _; rfl
  | false =>
    cases (F.cmp .geq .f64 x0 4841369599423283200) with
    | true =>
      intro _; rfl
    | false =>
      cases (F.cmp .leq .f64 x0 14064741636278059008) with
      | true =>
        intro _; rfl
      | false =>
        cases (F.toIntOk .f64 IntKind.i64 x0) with
        | true =>
          cases (F.cmp .lss .f64 (F.bin .sub .f64 x0 (F.ofInt .f64 (F.toInt .f64 IntKind.i64 x0))) 0) with
          | true =>
            cases (F.cmp .geq .f64 (F.bin .add .f64 (F.bin .sub .f64 x0 (F.ofInt .f64 (F.toInt .f64 IntKind.i64 x0))) 4607182418800017408) 4602678819172646912) with
            | true =>
              cases (F.cmp .gtr .f64 (F.bin .sub .f64 (F.bin .add .f64 (F.bin .sub .f64 x0 (F.ofInt .f64 (F.toInt .f64 IntKind.i64 x0))) 4607182418800017408) 4602678819172646912) 4598175219545276416) with
              | true =>
                cases (Prod.fst (Pure.spec_l01SineWide_L0 F true (F.bin .mul .f64 (F.bin .sub .f64 4602678819172646912 (F.bin .sub .f64 (F.bin .add .f64 (F.bin .sub .f64 x0 (F.ofInt .f64 (F.toInt .f64 IntKind.i64 x0))) 4607182418800017408) 4602678819172646912)) 4618760256179416344) (F.bin .mul .f64 (F.bin .mul .f64 (F.bin .sub .f64 4602678819172646912 (F.bin .sub .f64 (F.bin .add .f64 (F.bin .sub .f64 x0 (F.ofInt .f64 (F.toInt .f64 IntKind.i64 x0))) 4607182418800017408) 4602678819172646912)) 4618760256179416344) (F.bin .mul .f64 (F.bin .sub .f64 4602678819172646912 (F.bin .sub .f64 (F.bin .add .f64 (F.bin .sub .f64 x0 (F.ofInt .f64 (F.toInt .f64 IntKind.i64 x0))) 4607182418800017408) 4602678819172646912)) 4618760256179416344)) 9 4607182418800017408 8)) with
                | true =>
                  intro _; rfl
                | false =>
                  intro h; exact absurd h Bool.false_ne_true
              | false =>
                cases (Prod.fst (Pure.spec_l01SineWide_L0 F true (F.bin .mul .f64 (F.bin .sub .f64 (F.bin .add .f64 (F.bin .sub .f64 x0 (F.ofInt .f64 (F.toInt .f64 IntKind.i64 x0))) 4607182418800017408) 4602678819172646912) 4618760256179416344) (F.bin .mul .f64 (F.bin .mul .f64 (F.bin .sub .f64 (F.bin .add .f64 (F.bin .sub .f64 x0 (F.ofInt .f64 (F.toInt .f64 IntKind.i64 x0))) 4607182418800017408) 4602678819172646912) 4618760256179416344) (F.bin .mul .f64 (F.bin .sub .f64 (F.bin .add .f64 (F.bin .sub .f64 x0 (F.ofInt .f64 (F.toInt .f64 IntKind.i64 x0))) 4607182418800017408) 4602678819172646912) 4618760256179416344)) 9 4607182418800017408 8)) with
                | true =>
                  intro _; rfl
                | false =>
                  intro h; exact absurd h Bool.false_ne_true
            | false =>
              cases (F.cmp .gtr .f64 (F.bin .add .f64 (F.bin .sub .f64 x0 (F.ofInt .f64 (F.toInt .f64 IntKind.i64 x0))) 4607182418800017408) 4598175219545276416) with
              | true =>
                cases (Prod.fst (Pure.spec_l01SineWide_L0 F false (F.bin .mul .f64 (F.bin .sub .f64 4602678819172646912 (F.bin .add .f64 (F.bin .sub .f64 x0 (F.ofInt .f64 (F.toInt .f64 IntKind.i64 x0))) 4607182418800017408)) 4618760256179416344) (F.bin .mul .f64 (F.bin .mul .f64 (F.bin .sub .f64 4602678819172646912 (F.bin .add .f64 (F.bin .sub .f64 x0 (F.ofInt .f64 (F.toInt .f64 IntKind.i64 x0))) 4607182418800017408)) 4618760256179416344) (F.bin .mul .f64 (F.bin .sub .f64 4602678819172646912 (F.bin .add .f64 (F.bin .sub .f64 x0 (F.ofInt .f64 (F.toInt .f64 IntKind.i64 x0))) 4607182418800017408)) 4618760256179416344)) 9 4607182418800017408 8)) with
                | true =>
                  intro _; rfl
                | false =>
                  intro h; exact absurd h Bool.false_ne_true
              | false =>
                cases (Prod.fst (Pure.spec_l01SineWide_L0 F false (F.bin .mul .f64 (F.bin .add .f64 (F.bin .sub .f64 x0 (F.ofInt .f64 (F.toInt .f64 IntKind.i64 x0))) 4607182418800017408) 4618760256179416344) (F.bin .mul .f64 (F.bin .mul .f64 (F.bin .add .f64 (F.bin .sub .f64 x0 (F.ofInt .f64 (F.toInt .f64 IntKind.i64 x0))) 4607182418800017408) 4618760256179416344) (F.bin .mul .f64 (F.bin .add .f64 (F.bin .sub .f64 x0 (F.ofInt .f64 (F.toInt .f64 IntKind.i64 x0))) 4607182418800017408) 4618760256179416344)) 9 4607182418800017408 8)) with
                | true =>
                  intro _; rfl
                | false =>
                  intro h; exact absurd h Bool.false_ne_true
          | false =>
            cases (F.cmp .geq .f64 (F.bin .sub .f64 x0 (F.ofInt .f64 (F.toInt .f64 IntKind.i64 x0))) 4602678819172646912) with
            | true =>
              cases (F.cmp .gtr .f64 (F.bin .sub .f64 (F.bin .sub .f64 x0 (F.ofInt .f64 (F.toInt .f64 IntKind.i64 x0))) 4602678819172646912) 4598175219545276416) with
              | true =>
                cases (Prod.fst (Pure.spec_l01SineWide_L0 F true (F.bin .mul .f64 (F.bin .sub .f64 4602678819172646912 (F.bin .sub .f64 (F.bin .sub .f64 x0 (F.ofInt .f64 (F.toInt .f64 IntKind.i64 x0))) 4602678819172646912)) 4618760256179416344) (F.bin .mul .f64 (F.bin .mul .f64 (F.bin .sub .f64 4602678819172646912 (F.bin .sub .f64 (F.bin .sub .f64 x0 (F.ofInt .f64 (F.toInt .f64 IntKind.i64 x0))) 4602678819172646912)) 4618760256179416344) (F.bin .mul .f64 (F.bin .sub .f64 4602678819172646912 (F.bin .sub .f64 (F.bin .sub .f64 x0 (F.ofInt .f64 (F.toInt .f64 IntKind.i64 x0))) 4602678819172646912)) 4618760256179416344)) 9 4607182418800017408 8)) with
                | true =>
                  intro _; rfl
                | false =>
                  intro h; exact absurd h Bool.false_ne_true
              | false =>
                cases (Prod.fst (Pure.spec_l01SineWide_L0 F true (F.bin .mul .f64 (F.bin .sub .f64 (F.bin .sub .f64 x0 (F.ofInt .f64 (F.toInt .f64 IntKind.i64 x0))) 4602678819172646912) 4618760256179416344) (F.bin .mul .f64 (F.bin .mul .f64 (F.bin .sub .f64 (F.bin .sub .f64 x0 (F.ofInt .f64 (F.toInt .f64 IntKind.i64 x0))) 4602678819172646912) 4618760256179416344) (F.bin .mul .f64 (F.bin .sub .f64 (F.bin .sub .f64 x0 (F.ofInt .f64 (F.toInt .f64 IntKind.i64 x0))) 4602678819172646912) 4618760256179416344)) 9 4607182418800017408 8)) with
                | true =>
                  intro _; rfl
                | false =>
                  intro h; exact absurd h Bool.false_ne_true
            | false =>
              cases (F.cmp .gtr .f64 (F.bin .sub .f64 x0 (F.ofInt .f64 (F.toInt .f64 IntKind.i64 x0))) 4598175219545276416) with
              | true =>
                cases (Prod.fst (Pure.spec_l01SineWide_L0 F false (F.bin .mul .f64 (F.bin .sub .f64 4602678819172646912 (F.bin .sub .f64 x0 (F.ofInt .f64 (F.toInt .f64 IntKind.i64 x0)))) 4618760256179416344) (F.bin .mul .f64 (F.bin .mul .f64 (F.bin .sub .f64 4602678819172646912 (F.bin .sub .f64 x0 (F.ofInt .f64 (F.toInt .f64 IntKind.i64 x0)))) 4618760256179416344) (F.bin .mul .f64 (F.bin .sub .f64 4602678819172646912 (F.bin .sub .f64 x0 (F.ofInt .f64 (F.toInt .f64 IntKind.i64 x0)))) 4618760256179416344)) 9 4607182418800017408 8)) with
                | true =>
                  intro _; rfl
                | false =>
                  intro h; exact absurd h Bool.false_ne_true
              | false =>
                cases (Prod.fst (Pure.spec_l01SineWide_L0 F false (F.bin .mul .f64 (F.bin .sub .f64 x0 (F.ofInt .f64 (F.toInt .f64 IntKind.i64 x0))) 4618760256179416344) (F.bin .mul .f64 (F.bin .mul .f64 (F.bin .sub .f64 x0 (F.ofInt .f64 (F.toInt .f64 IntKind.i64 x0))) 4618760256179416344) (F.bin .mul .f64 (F.bin .sub .f64 x0 (F.ofInt .f64 (F.toInt .f64 IntKind.i64 x0))) 4618760256179416344)) 9 4607182418800017408 8)) with
                | true =>
                  intro _; rfl
                | false =>
                  intro h; exact absurd h Bool.false_ne_true
        | false =>
          intro h; exact absurd h Bool.false_ne_true
theorem ok_spec_l01SineWide : CallOK Try.prog 125 (c_spec_l01SineWide real) := by
  refine callOK_of fun args h ret hc => ?_
  unfold c_spec_l01SineWide at hc
  split at hc
  · rename_i x0
    obtain ⟨hok, rfl⟩ := some_ret hc
    exact holds_ev prog_ok (allOK_cons ok_math_NaN allOK_nil) Try.func125 rfl rfl (smL_cons (body := .loop (loopB 0 (codeOf Try.f125))) (by kernel_rfl) t_spec_l01SineWide_L0 smL_nil) rfl (e_spec_l01SineWide real x0 hok)
  · cases hc
def Pure.spec_l01Narrow (F : FOps) (x0 : Int) : Int := F.conv .f64 .f32 x0
def Pure.spec_l01Narrow_ok (F : FOps) (x0 : Int) : Bool := F.convOk .f64 .f32 x0
def c_spec_l01Narrow (F : FOps) : Con
  | [V.at (A.fl .f64 x0)], [] => some (Pure.spec_l01Narrow_ok F x0, ⟨V.at (A.fl .f32 (Pure.spec_l01Narrow F x0)), none, []⟩)
  | _, _ => none
theorem e_spec_l01Narrow (F : FOps) (x0 : Int) : Pure.spec_l01Narrow_ok F x0 = true → evFn (cxS F tyl [] [] [] 0) Try.f100 false [V.at (A.fl .f64 x0)] [] = some ⟨V.at (A.fl .f32 (Pure.spec_l01Narrow F x0)), none, []⟩ := by
  have h0 : evFn (cxS F tyl [] [] [] 0) Try.f100 false [V.at (A.fl .f64 x0)] [] = bif F.convOk .f64 .f32 x0 then some ⟨V.at (A.fl .f32 (F.conv .f64 .f32 x0)), none, []⟩ else none := by kernel_rfl
  rw [h0]
  unfold Pure.spec_l01Narrow Pure.spec_l01Narrow_ok
  cases (F.convOk .f64 .f32 x0) with
  | true =>
    intro _; rfl
  | false =>
    intro h; exact absurd h Bool.false_ne_true
theorem ok_spec_l01Narrow : CallOK Try.prog 100 (c_spec_l01Narrow real) := by
  refine callOK_of fun args h ret hc => ?_
  unfold c_spec_l01Narrow at hc
  split at hc
  · rename_i x0
    obtain ⟨hok, rfl⟩ := some_ret hc
    exact holds_ev prog_ok allOK_nil Try.func100 rfl rfl smL_nil rfl (e_spec_l01Narrow real x0 hok)
  · cases hc
def Pure.spec_l01Sine (F : FOps) (x0 : Int) : Int := Pure.spec_l01Narrow F (Pure.spec_l01SineWide F (F.conv .f32 .f64 x0))
def Pure.spec_l01Sine_ok (F : FOps) (x0 : Int) : Bool := bif F.convOk .f32 .f64 x0 then bif Pure.spec_l01SineWide_ok F (F.conv .f32 .f64 x0) then Pure.spec_l01Narrow_ok F (Pure.spec_l01SineWide F (F.conv .f32 .f64 x0)) else false else false
def c_spec_l01Sine (F : FOps) : Con
  | [V.at (A.fl .f32 x0)], [] => some (Pure.spec_l01Sine_ok F x0, ⟨V.at (A.fl .f32 (Pure.spec_l01Sine F x0)), none, []⟩)
  | _, _ => none
theorem e_spec_l01Sine (F : FOps) (x0 : Int) : Pure.spec_l01Sine_ok F x0 = true → evFn (cxS F tyl [(125, c_spec_l01SineWide F), (100, c_spec_l01Narrow F)] [] [] 0) Try.f113 false [V.at (A.fl .f32 x0)] [] = some ⟨V.at (A.fl .f32 (Pure.spec_l01Sine F x0)), none, []⟩ := by
  have h0 : evFn (cxS F tyl [(125, c_spec_l01SineWide F), (100, c_spec_l01Narrow F)] [] [] 0) Try.f113 false [V.at (A.fl .f32 x0)] [] = bif F.convOk .f32 .f64 x0 then bif Pure.spec_l01SineWide_ok F (F.conv .f32 .f64 x0) then bif Pure.spec_l01Narrow_ok F (Pure.spec_l01SineWide F (F.conv .f32 .f64 x0)) then some ⟨V.at (A.fl .f32 (Pure.spec_l01Narrow F (Pure.spec_l01SineWide F (F.conv .f32 .f64 x0)))), none, []⟩ else none else none else none := by kernel_rfl
  rw [h0]
  unfold Pure.spec_l01Sine Pure.spec_l01Sine_ok
  cases (F.convOk .f32 .f64 x0) with
  | true =>
    cases (Pure.spec_l01SineWide_ok F (F.conv .f32 .f64 x0)) with
    | true =>
      cases (Pure.spec_l01Narrow_ok F (Pure.spec_l01SineWide F (F.conv .f32 .f64 x0))) with
      | true =>
        intro _; rfl
      | false =>
        intro h; exact absurd h Bool.false_ne_true
    | false =>
      intro h; exact absurd h Bool.false_ne_true
  | false =>
    intro h; exact absurd h Bool.false_ne_true
theorem ok_spec_l01Sine : CallOK Try.prog 113 (c_spec_l01Sine real) := by
  refine callOK_of fun args h ret hc => ?_
  unfold c_spec_l01Sine at hc
  split at hc
  · rename_i x0
    obtain ⟨hok, rfl⟩ := some_ret hc
    exact holds_ev prog_ok (allOK_cons ok_spec_l01SineWide (allOK_cons ok_spec_l01Narrow allOK_nil)) Try.func113 rfl rfl smL_nil rfl (e_spec_l01Sine real x0 hok)
  · cases hc
end Go.Fx
