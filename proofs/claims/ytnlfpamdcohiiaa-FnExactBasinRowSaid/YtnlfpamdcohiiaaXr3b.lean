import Derived.Test.YtnlfpamdcohiiaaXr3a
import Derived.KernelRfl
namespace Go.Fx
open Go.Proofs
set_option maxRecDepth 100000
def Pure.impl_IsFinite (F : FOps) (x0 : Int) : Bool := FOps.cmp F BinOp.eql FloatKind.f32 (FOps.bin F BinOp.sub FloatKind.f32 x0 x0) 0
def c_impl_IsFinite (F : FOps) : Con
  | [V.at (A.fl FloatKind.f32 x0)], [] => some (true, ⟨V.at (A.bool (Pure.impl_IsFinite F x0)), none, []⟩)
  | _, _ => none
theorem e_impl_IsFinite (F : FOps) (x0 : Int) : evFn (cxS F tyl [] [] [] 0) Try.f95 false [V.at (A.fl FloatKind.f32 x0)] [] = some ⟨V.at (A.bool (Pure.impl_IsFinite F x0)), none, []⟩ := by
  kernel_rfl
theorem ok_impl_IsFinite : CallOK Try.prog 95 (c_impl_IsFinite real) := by
  refine callOK_of fun args h ret hc => ?_
  unfold c_impl_IsFinite at hc
  split at hc
  · rename_i x0
    obtain ⟨_, rfl⟩ := some_ret hc
    exact holds_ev prog_ok allOK_nil Try.func95 rfl rfl smL_nil rfl (e_impl_IsFinite real x0)
  · cases hc
def Pure.impl_finite_c1 (F : FOps) (x0 : Int) : Bool := bif Pure.impl_IsFinite F x0 then false else true
def c_impl_finite_c1 (F : FOps) : Con
  | [V.at (A.fl FloatKind.f32 x0)], [] => some (true, ⟨V.at (A.bool (Pure.impl_finite_c1 F x0)), none, []⟩)
  | _, _ => none
theorem e_impl_finite_c1 (F : FOps) (x0 : Int) : evFn (cxS F tyl [(95, c_impl_IsFinite F)] [] [] 0) Try.f104 false [V.at (A.fl FloatKind.f32 x0)] [] = some ⟨V.at (A.bool (Pure.impl_finite_c1 F x0)), none, []⟩ := by
  kernel_rfl
theorem ok_impl_finite_c1 : CallOK Try.prog 104 (c_impl_finite_c1 real) := by
  refine callOK_of fun args h ret hc => ?_
  unfold c_impl_finite_c1 at hc
  split at hc
  · rename_i x0
    obtain ⟨_, rfl⟩ := some_ret hc
    exact holds_ev prog_ok (allOK_cons ok_impl_IsFinite allOK_nil) Try.func104 rfl rfl smL_nil rfl (e_impl_finite_c1 real x0)
  · cases hc
def Pure.slices_IndexFunc_float32_float32_finite_L0 (F : FOps) (y0 : Int) (y2 : List (List Int)) : Nat → Int → (Bool × Bool × Int)
  | 0, _ => (false, false, 0)
  | n + 1, y1 => bif (Decidable.decide (y1 < y0)) then (bif (Decidable.decide (0 ≤ y1)) then (bif (Decidable.decide (y1 < (Int.ofNat (List.length y2)))) then (bif (Pure.impl_finite_c1 F (List.getD (List.getD y2 (Int.toNat y1) []) 0 0)) then ((true, true, y1)) else (Pure.slices_IndexFunc_float32_float32_finite_L0 F y0 y2 n (IntKind.wrap IntKind.i64 (y1 + 1)))) else ((false, false, 0))) else ((false, false, 0))) else ((true, false, 0))
def R_slices_IndexFunc_float32_float32_finite_L0 (y2 : List (List Int)) (r : (Bool × Bool × Int)) : Bool × Bool × (Ex × List V × List Ob) × (Ex × List V × List Ob) := ((r).1, (r).2.1, (Ex.normal, [V.at A.undef], [⟨false, OC.rows [K.f FloatKind.f32] y2⟩]), (Ex.ret, [V.at (A.int IntKind.i64 (r).2.2)], [⟨false, OC.rows [K.f FloatKind.f32] y2⟩]))
def S_slices_IndexFunc_float32_float32_finite_L0 (F : FOps) : Sm := ⟨[0, 1, 7, 8], [31, 66, 3, 3], [4], fun vals hp => match vals, hp with
  | [V.at (A.sl 0), V.at (A.fn 104 []), V.at (A.int IntKind.i64 y0), V.at (A.int IntKind.i64 y1)], [⟨false, OC.rows [K.f FloatKind.f32] y2⟩] => some (R_slices_IndexFunc_float32_float32_finite_L0 y2 (Pure.slices_IndexFunc_float32_float32_finite_L0 F y0 y2 (y0 - y1 + 1).toNat y1))
  | _, _ => none⟩
theorem l_slices_IndexFunc_float32_float32_finite_L0 (F : FOps) (y0 : Int) (y2 : List (List Int)) : ∀ (fuel : Nat) (y1 : Int), (Pure.slices_IndexFunc_float32_float32_finite_L0 F y0 y2 fuel y1).1 = true → loopOf (cxS F tyl [(104, c_impl_finite_c1 F)] [] [] 0) 1 19 0 [0, 1, 7, 8] [31, 66, 3, 3] [4] (loopB 0 (codeOf Try.f113)) fuel [V.at (A.sl 0), V.at (A.fn 104 []), V.at (A.int IntKind.i64 y0), V.at (A.int IntKind.i64 y1)] [⟨false, OC.rows [K.f FloatKind.f32] y2⟩] = resOf (R_slices_IndexFunc_float32_float32_finite_L0 y2 (Pure.slices_IndexFunc_float32_float32_finite_L0 F y0 y2 fuel y1)) := by
  intro fuel
  induction fuel with
  | zero => intro y1 h; exact absurd h Bool.false_ne_true
  | succ n ih =>
    intro y1
    have h0 : roundOf (cxS F tyl [(104, c_impl_finite_c1 F)] [] [] 0) 1 19 0 [0, 1, 7, 8] [31, 66, 3, 3] [4] (loopB 0 (codeOf Try.f113)) [V.at (A.sl 0), V.at (A.fn 104 []), V.at (A.int IntKind.i64 y0), V.at (A.int IntKind.i64 y1)] [⟨false, OC.rows [K.f FloatKind.f32] y2⟩] = (bif Decidable.decide (y1 < y0) then bif Decidable.decide (0 ≤ y1) then bif Decidable.decide (y1 < (Int.ofNat (List.length y2))) then bif Pure.impl_finite_c1 F (List.getD (List.getD y2 (Int.toNat y1) []) 0 0) then some (false, (Ex.ret, ([V.at (A.int IntKind.i64 y1)], [⟨false, OC.rows [K.f FloatKind.f32] y2⟩]))) else some (true, (Ex.normal, ([V.at (A.sl 0), V.at (A.fn 104 []), V.at (A.int IntKind.i64 y0), V.at (A.int IntKind.i64 (IntKind.wrap IntKind.i64 (y1 + 1)))], [⟨false, OC.rows [K.f FloatKind.f32] y2⟩]))) else none else none else some (false, (Ex.normal, ([V.at A.undef], [⟨false, OC.rows [K.f FloatKind.f32] y2⟩])))) := by kernel_rfl
    unfold loopOf
    rw [h0]
    unfold Pure.slices_IndexFunc_float32_float32_finite_L0
    cases (Decidable.decide (y1 < y0)) with
    | true =>
      cases (Decidable.decide (0 ≤ y1)) with
      | true =>
        cases (Decidable.decide (y1 < (Int.ofNat (List.length y2)))) with
        | true =>
          cases (Pure.impl_finite_c1 F (List.getD (List.getD y2 (Int.toNat y1) []) 0 0)) with
          | true =>
            intro _; rfl
          | false =>
            exact ih _
        | false =>
          intro h; exact absurd h Bool.false_ne_true
      | false =>
        intro h; exact absurd h Bool.false_ne_true
    | false =>
      intro _; rfl
theorem t_slices_IndexFunc_float32_float32_finite_L0 : SmTo Try.prog 1 19 (S_slices_IndexFunc_float32_float32_finite_L0 real) 0 (.loop (loopB 0 (codeOf Try.f113))) := by
  refine smTo_ev (cl := [(104, c_impl_finite_c1 real)]) (ef := []) (sm := []) (un := 0) prog_ok (allOK_cons ok_impl_finite_c1 allOK_nil) smL_nil ?_
  intro vals hp q r h hq
  unfold S_slices_IndexFunc_float32_float32_finite_L0 at h
  dsimp only at h
  split at h
  · rename_i y0 y1 y2
    obtain rfl := Option.some.inj h
    have h1 := hq
    unfold resOf at h1
    rw [chk_some] at h1
    exact ⟨_, (l_slices_IndexFunc_float32_float32_finite_L0 real y0 y2 _ y1 h1.1).trans hq⟩
  · cases h
def Pure.slices_IndexFunc_float32_float32_finite (F : FOps) (x0 : List (List Int)) : Int := bif Prod.fst (Prod.snd (Pure.slices_IndexFunc_float32_float32_finite_L0 F (Int.ofNat (List.length x0)) x0 (Nat.succ ((List.length x0) + 0)) 0)) then Prod.snd (Prod.snd (Pure.slices_IndexFunc_float32_float32_finite_L0 F (Int.ofNat (List.length x0)) x0 (Nat.succ ((List.length x0) + 0)) 0)) else (-1)
def Pure.slices_IndexFunc_float32_float32_finite_ok (F : FOps) (x0 : List (List Int)) : Bool := Prod.fst (Pure.slices_IndexFunc_float32_float32_finite_L0 F (Int.ofNat (List.length x0)) x0 (Nat.succ ((List.length x0) + 0)) 0)
def c_slices_IndexFunc_float32_float32_finite (F : FOps) : Con
  | [V.at (A.sl 0), V.at (A.fn 104 [])], [⟨false, OC.rows [K.f FloatKind.f32] x0⟩] => some (Pure.slices_IndexFunc_float32_float32_finite_ok F x0, ⟨V.at (A.int IntKind.i64 (Pure.slices_IndexFunc_float32_float32_finite F x0)), none, []⟩)
  | _, _ => none
theorem e_slices_IndexFunc_float32_float32_finite (F : FOps) (x0 : List (List Int)) : Pure.slices_IndexFunc_float32_float32_finite_ok F x0 = true → evFn (cxS F tyl [(104, c_impl_finite_c1 F)] [] [(0, S_slices_IndexFunc_float32_float32_finite_L0 F)] 0) Try.f113 false [V.at (A.sl 0), V.at (A.fn 104 [])] [⟨false, OC.rows [K.f FloatKind.f32] x0⟩] = some ⟨V.at (A.int IntKind.i64 (Pure.slices_IndexFunc_float32_float32_finite F x0)), none, []⟩ := by
  have h0 : evFn (cxS F tyl [(104, c_impl_finite_c1 F)] [] [(0, S_slices_IndexFunc_float32_float32_finite_L0 F)] 0) Try.f113 false [V.at (A.sl 0), V.at (A.fn 104 [])] [⟨false, OC.rows [K.f FloatKind.f32] x0⟩] = bif Prod.fst (Pure.slices_IndexFunc_float32_float32_finite_L0 F (Int.ofNat (List.length x0)) x0 (Nat.succ ((List.length x0) + 0)) 0) then bif Prod.fst (Prod.snd (Pure.slices_IndexFunc_float32_float32_finite_L0 F (Int.ofNat (List.length x0)) x0 (Nat.succ ((List.length x0) + 0)) 0)) then some ⟨V.at (A.int IntKind.i64 (Prod.snd (Prod.snd (Pure.slices_IndexFunc_float32_float32_finite_L0 F (Int.ofNat (List.length x0)) x0 (Nat.succ ((List.length x0) + 0)) 0)))), none, []⟩ else some ⟨V.at (A.int IntKind.i64 (-1)), none, []⟩ else none := by kernel_rfl
  rw [h0]
  unfold Pure.slices_IndexFunc_float32_float32_finite Pure.slices_IndexFunc_float32_float32_finite_ok
  cases (Prod.fst (Pure.slices_IndexFunc_float32_float32_finite_L0 F (Int.ofNat (List.length x0)) x0 (Nat.succ ((List.length x0) + 0)) 0)) with
  | true =>
    cases (Prod.fst (Prod.snd (Pure.slices_IndexFunc_float32_float32_finite_L0 F (Int.ofNat (List.length x0)) x0 (Nat.succ ((List.length x0) + 0)) 0))) with
    | true =>
      intro _; rfl
    | false =>
      intro _; rfl
  | false =>
    intro h; exact absurd h Bool.false_ne_true
theorem ok_slices_IndexFunc_float32_float32_finite : CallOK Try.prog 113 (c_slices_IndexFunc_float32_float32_finite real) := by
  refine callOK_of fun args h ret hc => ?_
  unfold c_slices_IndexFunc_float32_float32_finite at hc
  split at hc
  · rename_i x0
    obtain ⟨hok, rfl⟩ := some_ret hc
    exact holds_ev prog_ok (allOK_cons ok_impl_finite_c1 allOK_nil) Try.func113 rfl rfl (smL_cons (body := .loop (loopB 0 (codeOf Try.f113))) (by kernel_rfl) t_slices_IndexFunc_float32_float32_finite_L0 smL_nil) rfl (e_slices_IndexFunc_float32_float32_finite real x0 hok)
  · cases hc
def Pure.slices_ContainsFunc_float32_float32_finite (F : FOps) (x0 : List (List Int)) : Bool := Decidable.decide ((Pure.slices_IndexFunc_float32_float32_finite F x0) ≥ 0)
def Pure.slices_ContainsFunc_float32_float32_finite_ok (F : FOps) (x0 : List (List Int)) : Bool := Pure.slices_IndexFunc_float32_float32_finite_ok F x0
def c_slices_ContainsFunc_float32_float32_finite (F : FOps) : Con
  | [V.at (A.sl 0), V.at (A.fn 104 [])], [⟨false, OC.rows [K.f FloatKind.f32] x0⟩] => some (Pure.slices_ContainsFunc_float32_float32_finite_ok F x0, ⟨V.at (A.bool (Pure.slices_ContainsFunc_float32_float32_finite F x0)), none, []⟩)
  | _, _ => none
theorem e_slices_ContainsFunc_float32_float32_finite (F : FOps) (x0 : List (List Int)) : Pure.slices_ContainsFunc_float32_float32_finite_ok F x0 = true → evFn (cxS F tyl [(113, c_slices_IndexFunc_float32_float32_finite F), (104, c_impl_finite_c1 F)] [] [] 0) Try.f103 false [V.at (A.sl 0), V.at (A.fn 104 [])] [⟨false, OC.rows [K.f FloatKind.f32] x0⟩] = some ⟨V.at (A.bool (Pure.slices_ContainsFunc_float32_float32_finite F x0)), none, []⟩ := by
  have h0 : evFn (cxS F tyl [(113, c_slices_IndexFunc_float32_float32_finite F), (104, c_impl_finite_c1 F)] [] [] 0) Try.f103 false [V.at (A.sl 0), V.at (A.fn 104 [])] [⟨false, OC.rows [K.f FloatKind.f32] x0⟩] = bif Pure.slices_IndexFunc_float32_float32_finite_ok F x0 then some ⟨V.at (A.bool (Decidable.decide ((Pure.slices_IndexFunc_float32_float32_finite F x0) ≥ 0))), none, []⟩ else none := by kernel_rfl
  rw [h0]
  unfold Pure.slices_ContainsFunc_float32_float32_finite Pure.slices_ContainsFunc_float32_float32_finite_ok
  cases (Pure.slices_IndexFunc_float32_float32_finite_ok F x0) with
  | true =>
    intro _; rfl
  | false =>
    intro h; exact absurd h Bool.false_ne_true
theorem ok_slices_ContainsFunc_float32_float32_finite : CallOK Try.prog 103 (c_slices_ContainsFunc_float32_float32_finite real) := by
  refine callOK_of fun args h ret hc => ?_
  unfold c_slices_ContainsFunc_float32_float32_finite at hc
  split at hc
  · rename_i x0
    obtain ⟨hok, rfl⟩ := some_ret hc
    exact holds_ev prog_ok (allOK_cons ok_slices_IndexFunc_float32_float32_finite (allOK_cons ok_impl_finite_c1 allOK_nil)) Try.func103 rfl rfl smL_nil rfl (e_slices_ContainsFunc_float32_float32_finite real x0 hok)
  · cases hc
def c_laws_toState (_ : FOps) : Con
  | [V.agg [A.fl FloatKind.f32 x0, A.fl FloatKind.f32 x1]], [] => some (true, ⟨V.agg [A.fl FloatKind.f32 x0, A.fl FloatKind.f32 x1], none, []⟩)
  | _, _ => none
theorem e_laws_toState (F : FOps) (x0 : Int) (x1 : Int) : evFn (cxS F tyl [] [] [] 0) Try.f16 false [V.agg [A.fl FloatKind.f32 x0, A.fl FloatKind.f32 x1]] [] = some ⟨V.agg [A.fl FloatKind.f32 x0, A.fl FloatKind.f32 x1], none, []⟩ := by
  kernel_rfl
theorem ok_laws_toState : CallOK Try.prog 16 (c_laws_toState real) := by
  refine callOK_of fun args h ret hc => ?_
  unfold c_laws_toState at hc
  split at hc
  · rename_i x0 x1
    obtain ⟨_, rfl⟩ := some_ret hc
    exact holds_ev prog_ok allOK_nil Try.func16 rfl rfl smL_nil rfl (e_laws_toState real x0 x1)
  · cases hc
def Pure.spec_l07Is (F : FOps) (x0 : Int) (x1 : Int) : Bool := bif FOps.cmp F BinOp.geq FloatKind.f32 x0 0 then bif FOps.cmp F BinOp.lss FloatKind.f32 x0 1065353216 then bif FOps.cmp F BinOp.geq FloatKind.f32 x1 3204448256 then FOps.cmp F BinOp.lss FloatKind.f32 x1 1056964608 else false else false else false
def c_spec_l07Is (F : FOps) : Con
  | [V.agg [A.fl FloatKind.f32 x0, A.fl FloatKind.f32 x1]], [] => some (true, ⟨V.at (A.bool (Pure.spec_l07Is F x0 x1)), none, []⟩)
  | _, _ => none
theorem e_spec_l07Is (F : FOps) (x0 : Int) (x1 : Int) : evFn (cxS F tyl [] [] [] 0) Try.f51 false [V.agg [A.fl FloatKind.f32 x0, A.fl FloatKind.f32 x1]] [] = some ⟨V.at (A.bool (Pure.spec_l07Is F x0 x1)), none, []⟩ := by
  have h0 : evFn (cxS F tyl [] [] [] 0) Try.f51 false [V.agg [A.fl FloatKind.f32 x0, A.fl FloatKind.f32 x1]] [] = bif FOps.cmp F BinOp.geq FloatKind.f32 x0 0 then bif FOps.cmp F BinOp.lss FloatKind.f32 x0 1065353216 then bif FOps.cmp F BinOp.geq FloatKind.f32 x1 3204448256 then some ⟨V.at (A.bool (FOps.cmp F BinOp.lss FloatKind.f32 x1 1056964608)), none, []⟩ else some ⟨V.at (A.bool false), none, []⟩ else some ⟨V.at (A.bool false), none, []⟩ else some ⟨V.at (A.bool false), none, []⟩ := by kernel_rfl
  rw [h0]
  unfold Pure.spec_l07Is
  cases (FOps.cmp F BinOp.geq FloatKind.f32 x0 0) with
  | true =>
    cases (FOps.cmp F BinOp.lss FloatKind.f32 x0 1065353216) with
    | true =>
      cases (FOps.cmp F BinOp.geq FloatKind.f32 x1 3204448256) with
      | true =>
        rfl
      | false =>
        rfl
    | false =>
      rfl
  | false =>
    rfl
theorem ok_spec_l07Is : CallOK Try.prog 51 (c_spec_l07Is real) := by
  refine callOK_of fun args h ret hc => ?_
  unfold c_spec_l07Is at hc
  split at hc
  · rename_i x0 x1
    obtain ⟨_, rfl⟩ := some_ret hc
    exact holds_ev prog_ok allOK_nil Try.func51 rfl rfl smL_nil rfl (e_spec_l07Is real x0 x1)
  · cases hc
def c_math_archFloor (F : FOps) : Con
  | [V.at (A.fl FloatKind.f64 x)], [] => some (true, ⟨V.at (A.fl FloatKind.f64 (F.integral .down x)), none, []⟩)
  | _, _ => none
theorem ok_math_archFloor : CallOK Try.prog 101 (c_math_archFloor real) := by
  refine callOK_of fun args h ret hc => ?_
  unfold c_math_archFloor at hc
  split at hc
  · rename_i x
    obtain ⟨_, rfl⟩ := some_ret hc
    exact ext_integral (nm := "math.archFloor") Try.func101 rfl rfl (by kernel_rfl) (by kernel_rfl) x
  · cases hc
def Pure.math_IsNaN (F : FOps) (x0 : Int) : Bool := FOps.cmp F BinOp.neq FloatKind.f64 x0 x0
def c_math_IsNaN (F : FOps) : Con
  | [V.at (A.fl FloatKind.f64 x0)], [] => some (true, ⟨V.at (A.bool (Pure.math_IsNaN F x0)), none, []⟩)
  | _, _ => none
theorem e_math_IsNaN (F : FOps) (x0 : Int) : evFn (cxS F tyl [] [] [] 0) Try.f110 false [V.at (A.fl FloatKind.f64 x0)] [] = some ⟨V.at (A.bool (Pure.math_IsNaN F x0)), none, []⟩ := by
  kernel_rfl
theorem ok_math_IsNaN : CallOK Try.prog 110 (c_math_IsNaN real) := by
  refine callOK_of fun args h ret hc => ?_
  unfold c_math_IsNaN at hc
  split at hc
  · rename_i x0
    obtain ⟨_, rfl⟩ := some_ret hc
    exact holds_ev prog_ok allOK_nil Try.func110 rfl rfl smL_nil rfl (e_math_IsNaN real x0)
  · cases hc
def c_math_Float64bits (_ : FOps) : Con
  | [V.at (A.fl FloatKind.f64 x)], [] => some (true, ⟨V.at (A.raw FloatKind.f64 x), none, []⟩)
  | _, _ => none
theorem ok_math_Float64bits : CallOK Try.prog 106 (c_math_Float64bits real) := by
  refine callOK_of fun args h ret hc => ?_
  unfold c_math_Float64bits at hc
  split at hc
  · rename_i x
    obtain ⟨_, rfl⟩ := some_ret hc
    exact ext_bits64 Try.func106 rfl rfl (by kernel_rfl) (by kernel_rfl) x
  · cases hc
def c_math_Float64frombits (F : FOps) : Con
  | [V.at (A.raw FloatKind.f64 x)], [] => some (true, ⟨V.at (A.fl FloatKind.f64 x), none, []⟩)
  | [V.at (A.int IntKind.u64 x)], [] => some (true, ⟨V.at (A.fl FloatKind.f64 (F.ofBits FloatKind.f64 x)), none, []⟩)
  | _, _ => none
theorem ok_math_Float64frombits : CallOK Try.prog 105 (c_math_Float64frombits real) := by
  refine callOK_of fun args h ret hc => ?_
  unfold c_math_Float64frombits at hc
  split at hc
  · rename_i x
    obtain ⟨_, rfl⟩ := some_ret hc
    exact ext_from64 Try.func105 rfl rfl (by kernel_rfl) (by kernel_rfl) x
  · rename_i x
    obtain ⟨_, rfl⟩ := some_ret hc
    exact ext_from64i Try.func105 rfl rfl (by kernel_rfl) (by kernel_rfl) x
  · cases hc
def c_math_Abs (F : FOps) : Con
  | [V.at (A.fl FloatKind.f64 x0)], [] => some (true, ⟨V.at (A.fl FloatKind.f64 (FOps.abs F FloatKind.f64 x0)), none, []⟩)
  | _, _ => none
theorem e_math_Abs (F : FOps) (x0 : Int) : evFn (cxS F tyl [(106, c_math_Float64bits F), (105, c_math_Float64frombits F)] [] [] 0) Try.f97 false [V.at (A.fl FloatKind.f64 x0)] [] = some ⟨V.at (A.fl FloatKind.f64 (FOps.abs F FloatKind.f64 x0)), none, []⟩ := by
  kernel_rfl
theorem ok_math_Abs : CallOK Try.prog 97 (c_math_Abs real) := by
  refine callOK_of fun args h ret hc => ?_
  unfold c_math_Abs at hc
  split at hc
  · rename_i x0
    obtain ⟨_, rfl⟩ := some_ret hc
    exact holds_ev prog_ok (allOK_cons ok_math_Float64bits (allOK_cons ok_math_Float64frombits allOK_nil)) Try.func97 rfl rfl smL_nil rfl (e_math_Abs real x0)
  · cases hc
def Pure.math_IsInf (F : FOps) (x0 : Int) (x1 : Int) : Bool := bif x1 == 0 then FOps.cmp F BinOp.gtr FloatKind.f64 (FOps.abs F FloatKind.f64 x0) 9218868437227405311 else bif Decidable.decide (x1 < 0) then FOps.cmp F BinOp.gtr FloatKind.f64 (FOps.neg F FloatKind.f64 x0) 9218868437227405311 else FOps.cmp F BinOp.gtr FloatKind.f64 x0 9218868437227405311
def c_math_IsInf (F : FOps) : Con
  | [V.at (A.fl FloatKind.f64 x0), V.at (A.int IntKind.i64 x1)], [] => some (true, ⟨V.at (A.bool (Pure.math_IsInf F x0 x1)), none, []⟩)
  | _, _ => none
theorem e_math_IsInf (F : FOps) (x0 : Int) (x1 : Int) : evFn (cxS F tyl [(97, c_math_Abs F)] [] [] 0) Try.f111 false [V.at (A.fl FloatKind.f64 x0), V.at (A.int IntKind.i64 x1)] [] = some ⟨V.at (A.bool (Pure.math_IsInf F x0 x1)), none, []⟩ := by
  have h0 : evFn (cxS F tyl [(97, c_math_Abs F)] [] [] 0) Try.f111 false [V.at (A.fl FloatKind.f64 x0), V.at (A.int IntKind.i64 x1)] [] = bif x1 == 0 then some ⟨V.at (A.bool (FOps.cmp F BinOp.gtr FloatKind.f64 (FOps.abs F FloatKind.f64 x0) 9218868437227405311)), none, []⟩ else bif Decidable.decide (x1 < 0) then some ⟨V.at (A.bool (FOps.cmp F BinOp.gtr FloatKind.f64 (FOps.neg F FloatKind.f64 x0) 9218868437227405311)), none, []⟩ else some ⟨V.at (A.bool (FOps.cmp F BinOp.gtr FloatKind.f64 x0 9218868437227405311)), none, []⟩ := by kernel_rfl
  rw [h0]
  unfold Pure.math_IsInf
  cases (x1 == 0) with
  | true =>
    rfl
  | false =>
    cases (Decidable.decide (x1 < 0)) with
    | true =>
      rfl
    | false =>
      rfl
theorem ok_math_IsInf : CallOK Try.prog 111 (c_math_IsInf real) := by
  refine callOK_of fun args h ret hc => ?_
  unfold c_math_IsInf at hc
  split at hc
  · rename_i x0 x1
    obtain ⟨_, rfl⟩ := some_ret hc
    exact holds_ev prog_ok (allOK_cons ok_math_Abs allOK_nil) Try.func111 rfl rfl smL_nil rfl (e_math_IsInf real x0 x1)
  · cases hc
def c_math_archTrunc (F : FOps) : Con
  | [V.at (A.fl FloatKind.f64 x)], [] => some (true, ⟨V.at (A.fl FloatKind.f64 (F.integral .zero x)), none, []⟩)
  | _, _ => none
theorem ok_math_archTrunc : CallOK Try.prog 107 (c_math_archTrunc real) := by
  refine callOK_of fun args h ret hc => ?_
  unfold c_math_archTrunc at hc
  split at hc
  · rename_i x
    obtain ⟨_, rfl⟩ := some_ret hc
    exact ext_integral (nm := "math.archTrunc") Try.func107 rfl rfl (by kernel_rfl) (by kernel_rfl) x
  · cases hc
def c_math_Trunc (F : FOps) : Con
  | [V.at (A.fl FloatKind.f64 x0)], [] => some (true, ⟨V.at (A.fl FloatKind.f64 (FOps.integral F Ieee.Toward.zero x0)), none, []⟩)
  | _, _ => none
theorem e_math_Trunc (F : FOps) (x0 : Int) : evFn (cxS F tyl [(107, c_math_archTrunc F)] [] [] 0) Try.f98 false [V.at (A.fl FloatKind.f64 x0)] [] = some ⟨V.at (A.fl FloatKind.f64 (FOps.integral F Ieee.Toward.zero x0)), none, []⟩ := by
  kernel_rfl
theorem ok_math_Trunc : CallOK Try.prog 98 (c_math_Trunc real) := by
  refine callOK_of fun args h ret hc => ?_
  unfold c_math_Trunc at hc
  split at hc
  · rename_i x0
    obtain ⟨_, rfl⟩ := some_ret hc
    exact holds_ev prog_ok (allOK_cons ok_math_archTrunc allOK_nil) Try.func98 rfl rfl smL_nil rfl (e_math_Trunc real x0)
  · cases hc
def Pure.math_floor_ok (F : FOps) (x0 : Int) : Bool := bif FOps.cmp F BinOp.eql FloatKind.f64 x0 0 then true else bif Pure.math_IsNaN F x0 then true else Pure.math_IsInf F x0 0
def c_math_floor (F : FOps) : Con
  | [V.at (A.fl FloatKind.f64 x0)], [] => some (Pure.math_floor_ok F x0, ⟨V.at (A.fl FloatKind.f64 x0), none, []⟩)
  | _, _ => none
theorem e_math_floor (F : FOps) (x0 : Int) : Pure.math_floor_ok F x0 = true → evFn (cxS F tyl [(110, c_math_IsNaN F), (111, c_math_IsInf F)] [] [] 0) Try.f102 false [V.at (A.fl FloatKind.f64 x0)] [] = some ⟨V.at (A.fl FloatKind.f64 x0), none, []⟩ := by
  have h0 : evFn (cxS F tyl [(110, c_math_IsNaN F), (111, c_math_IsInf F)] [] [] 0) Try.f102 false [V.at (A.fl FloatKind.f64 x0)] [] = bif FOps.cmp F BinOp.eql FloatKind.f64 x0 0 then some ⟨V.at (A.fl FloatKind.f64 x0), none, []⟩ else bif Pure.math_IsNaN F x0 then some ⟨V.at (A.fl FloatKind.f64 x0), none, []⟩ else bif Pure.math_IsInf F x0 0 then some ⟨V.at (A.fl FloatKind.f64 x0), none, []⟩ else bif FOps.cmp F BinOp.lss FloatKind.f64 x0 0 then none else none := by kernel_rfl
  rw [h0]
  unfold Pure.math_floor_ok
  cases (FOps.cmp F BinOp.eql FloatKind.f64 x0 0) with
  | true =>
    intro _; rfl
  | false =>
    cases (Pure.math_IsNaN F x0) with
    | true =>
      intro _; rfl
    | false =>
      cases (Pure.math_IsInf F x0 0) with
      | true =>
        intro _; rfl
      | false =>
        cases (FOps.cmp F BinOp.lss FloatKind.f64 x0 0) with
        | true =>
          intro h; exact absurd h Bool.false_ne_true
        | false =>
          intro h; exact absurd h Bool.false_ne_true
theorem ok_math_floor : CallOK Try.prog 102 (c_math_floor real) := by
  refine callOK_of fun args h ret hc => ?_
  unfold c_math_floor at hc
  split at hc
  · rename_i x0
    obtain ⟨hok, rfl⟩ := some_ret hc
    exact holds_ev prog_ok (allOK_cons ok_math_IsNaN (allOK_cons ok_math_IsInf allOK_nil)) Try.func102 rfl rfl smL_nil rfl (e_math_floor real x0 hok)
  · cases hc
def c_math_Floor (F : FOps) : Con
  | [V.at (A.fl FloatKind.f64 x0)], [] => some (true, ⟨V.at (A.fl FloatKind.f64 (FOps.integral F Ieee.Toward.down x0)), none, []⟩)
  | _, _ => none
theorem e_math_Floor (F : FOps) (x0 : Int) : evFn (cxS F tyl [(101, c_math_archFloor F), (102, c_math_floor F)] [] [] 0) Try.f89 false [V.at (A.fl FloatKind.f64 x0)] [] = some ⟨V.at (A.fl FloatKind.f64 (FOps.integral F Ieee.Toward.down x0)), none, []⟩ := by
  kernel_rfl
theorem ok_math_Floor : CallOK Try.prog 89 (c_math_Floor real) := by
  refine callOK_of fun args h ret hc => ?_
  unfold c_math_Floor at hc
  split at hc
  · rename_i x0
    obtain ⟨_, rfl⟩ := some_ret hc
    exact holds_ev prog_ok (allOK_cons ok_math_archFloor (allOK_cons ok_math_floor allOK_nil)) Try.func89 rfl rfl smL_nil rfl (e_math_Floor real x0)
  · cases hc
def Pure.spec_l01Narrow (F : FOps) (x0 : Int) : Int := FOps.conv F FloatKind.f64 FloatKind.f32 x0
def Pure.spec_l01Narrow_ok (F : FOps) (x0 : Int) : Bool := FOps.convOk F FloatKind.f64 FloatKind.f32 x0
def c_spec_l01Narrow (F : FOps) : Con
  | [V.at (A.fl FloatKind.f64 x0)], [] => some (Pure.spec_l01Narrow_ok F x0, ⟨V.at (A.fl FloatKind.f32 (Pure.spec_l01Narrow F x0)), none, []⟩)
  | _, _ => none
theorem e_spec_l01Narrow (F : FOps) (x0 : Int) : Pure.spec_l01Narrow_ok F x0 = true → evFn (cxS F tyl [] [] [] 0) Try.f88 false [V.at (A.fl FloatKind.f64 x0)] [] = some ⟨V.at (A.fl FloatKind.f32 (Pure.spec_l01Narrow F x0)), none, []⟩ := by
  have h0 : evFn (cxS F tyl [] [] [] 0) Try.f88 false [V.at (A.fl FloatKind.f64 x0)] [] = bif FOps.convOk F FloatKind.f64 FloatKind.f32 x0 then some ⟨V.at (A.fl FloatKind.f32 (FOps.conv F FloatKind.f64 FloatKind.f32 x0)), none, []⟩ else none := by kernel_rfl
  rw [h0]
  unfold Pure.spec_l01Narrow Pure.spec_l01Narrow_ok
  cases (FOps.convOk F FloatKind.f64 FloatKind.f32 x0) with
  | true =>
    intro _; rfl
  | false =>
    intro h; exact absurd h Bool.false_ne_true
theorem ok_spec_l01Narrow : CallOK Try.prog 88 (c_spec_l01Narrow real) := by
  refine callOK_of fun args h ret hc => ?_
  unfold c_spec_l01Narrow at hc
  split at hc
  · rename_i x0
    obtain ⟨hok, rfl⟩ := some_ret hc
    exact holds_ev prog_ok allOK_nil Try.func88 rfl rfl smL_nil rfl (e_spec_l01Narrow real x0 hok)
  · cases hc
def Pure.spec_l05Wrap (F : FOps) (x0 : Int) : Int := bif FOps.cmp F BinOp.eql FloatKind.f32 (Pure.spec_l01Narrow F (FOps.bin F BinOp.sub FloatKind.f64 (FOps.conv F FloatKind.f32 FloatKind.f64 x0) (FOps.integral F Ieee.Toward.down (FOps.conv F FloatKind.f32 FloatKind.f64 x0)))) 0 then 0 else bif FOps.cmp F BinOp.geq FloatKind.f32 (Pure.spec_l01Narrow F (FOps.bin F BinOp.sub FloatKind.f64 (FOps.conv F FloatKind.f32 FloatKind.f64 x0) (FOps.integral F Ieee.Toward.down (FOps.conv F FloatKind.f32 FloatKind.f64 x0)))) 1065353216 then 0 else Pure.spec_l01Narrow F (FOps.bin F BinOp.sub FloatKind.f64 (FOps.conv F FloatKind.f32 FloatKind.f64 x0) (FOps.integral F Ieee.Toward.down (FOps.conv F FloatKind.f32 FloatKind.f64 x0)))
def Pure.spec_l05Wrap_ok (F : FOps) (x0 : Int) : Bool := bif FOps.convOk F FloatKind.f32 FloatKind.f64 x0 then Pure.spec_l01Narrow_ok F (FOps.bin F BinOp.sub FloatKind.f64 (FOps.conv F FloatKind.f32 FloatKind.f64 x0) (FOps.integral F Ieee.Toward.down (FOps.conv F FloatKind.f32 FloatKind.f64 x0))) else false
def c_spec_l05Wrap (F : FOps) : Con
  | [V.at (A.fl FloatKind.f32 x0)], [] => some (Pure.spec_l05Wrap_ok F x0, ⟨V.at (A.fl FloatKind.f32 (Pure.spec_l05Wrap F x0)), none, []⟩)
  | _, _ => none
theorem e_spec_l05Wrap (F : FOps) (x0 : Int) : Pure.spec_l05Wrap_ok F x0 = true → evFn (cxS F tyl [(89, c_math_Floor F), (88, c_spec_l01Narrow F)] [] [] 0) Try.f52 false [V.at (A.fl FloatKind.f32 x0)] [] = some ⟨V.at (A.fl FloatKind.f32 (Pure.spec_l05Wrap F x0)), none, []⟩ := by
  have h0 : evFn (cxS F tyl [(89, c_math_Floor F), (88, c_spec_l01Narrow F)] [] [] 0) Try.f52 false [V.at (A.fl FloatKind.f32 x0)] [] = bif FOps.convOk F FloatKind.f32 FloatKind.f64 x0 then bif Pure.spec_l01Narrow_ok F (FOps.bin F BinOp.sub FloatKind.f64 (FOps.conv F FloatKind.f32 FloatKind.f64 x0) (FOps.integral F Ieee.Toward.down (FOps.conv F FloatKind.f32 FloatKind.f64 x0))) then bif FOps.cmp F BinOp.eql FloatKind.f32 (Pure.spec_l01Narrow F (FOps.bin F BinOp.sub FloatKind.f64 (FOps.conv F FloatKind.f32 FloatKind.f64 x0) (FOps.integral F Ieee.Toward.down (FOps.conv F FloatKind.f32 FloatKind.f64 x0)))) 0 then some ⟨V.at (A.fl FloatKind.f32 0), none, []⟩ else bif FOps.cmp F BinOp.geq FloatKind.f32 (Pure.spec_l01Narrow F (FOps.bin F BinOp.sub FloatKind.f64 (FOps.conv F FloatKind.f32 FloatKind.f64 x0) (FOps.integral F Ieee.Toward.down (FOps.conv F FloatKind.f32 FloatKind.f64 x0)))) 1065353216 then some ⟨V.at (A.fl FloatKind.f32 0), none, []⟩ else some ⟨V.at (A.fl FloatKind.f32 (Pure.spec_l01Narrow F (FOps.bin F BinOp.sub FloatKind.f64 (FOps.conv F FloatKind.f32 FloatKind.f64 x0) (FOps.integral F Ieee.Toward.down (FOps.conv F FloatKind.f32 FloatKind.f64 x0))))), none, []⟩ else none else none := by kernel_rfl
  rw [h0]
  unfold Pure.spec_l05Wrap Pure.spec_l05Wrap_ok
  cases (FOps.convOk F FloatKind.f32 FloatKind.f64 x0) with
  | true =>
    cases (Pure.spec_l01Narrow_ok F (FOps.bin F BinOp.sub FloatKind.f64 (FOps.conv F FloatKind.f32 FloatKind.f64 x0) (FOps.integral F Ieee.Toward.down (FOps.conv F FloatKind.f32 FloatKind.f64 x0)))) with
    | true =>
      cases (FOps.cmp F BinOp.eql FloatKind.f32 (Pure.spec_l01Narrow F (FOps.bin F BinOp.sub FloatKind.f64 (FOps.conv F FloatKind.f32 FloatKind.f64 x0) (FOps.integral F Ieee.Toward.down (FOps.conv F FloatKind.f32 FloatKind.f64 x0)))) 0) with
      | true =>
        intro _; rfl
      | false =>
        cases (FOps.cmp F BinOp.geq FloatKind.f32 (Pure.spec_l01Narrow F (FOps.bin F BinOp.sub FloatKind.f64 (FOps.conv F FloatKind.f32 FloatKind.f64 x0) (FOps.integral F Ieee.Toward.down (FOps.conv F FloatKind.f32 FloatKind.f64 x0)))) 1065353216) with
        | true =>
          intro _; rfl
        | false =>
          intro _; rfl
    | false =>
      intro h; exact absurd h Bool.false_ne_true
  | false =>
    intro h; exact absurd h Bool.false_ne_true
theorem ok_spec_l05Wrap : CallOK Try.prog 52 (c_spec_l05Wrap real) := by
  refine callOK_of fun args h ret hc => ?_
  unfold c_spec_l05Wrap at hc
  split at hc
  · rename_i x0
    obtain ⟨hok, rfl⟩ := some_ret hc
    exact holds_ev prog_ok (allOK_cons ok_math_Floor (allOK_cons ok_spec_l01Narrow allOK_nil)) Try.func52 rfl rfl smL_nil rfl (e_spec_l05Wrap real x0 hok)
  · cases hc
def Pure.spec_l07Kick (F : FOps) (x0 : Int) : Int := bif FOps.cmp F BinOp.geq FloatKind.f32 (Pure.spec_l01Narrow F (FOps.bin F BinOp.sub FloatKind.f64 (FOps.conv F FloatKind.f32 FloatKind.f64 x0) (FOps.integral F Ieee.Toward.down (FOps.bin F BinOp.add FloatKind.f64 (FOps.conv F FloatKind.f32 FloatKind.f64 x0) 4602678819172646912)))) 1056964608 then 3204448256 else bif FOps.cmp F BinOp.eql FloatKind.f32 (Pure.spec_l01Narrow F (FOps.bin F BinOp.sub FloatKind.f64 (FOps.conv F FloatKind.f32 FloatKind.f64 x0) (FOps.integral F Ieee.Toward.down (FOps.bin F BinOp.add FloatKind.f64 (FOps.conv F FloatKind.f32 FloatKind.f64 x0) 4602678819172646912)))) 0 then 0 else Pure.spec_l01Narrow F (FOps.bin F BinOp.sub FloatKind.f64 (FOps.conv F FloatKind.f32 FloatKind.f64 x0) (FOps.integral F Ieee.Toward.down (FOps.bin F BinOp.add FloatKind.f64 (FOps.conv F FloatKind.f32 FloatKind.f64 x0) 4602678819172646912)))
def Pure.spec_l07Kick_ok (F : FOps) (x0 : Int) : Bool := bif FOps.convOk F FloatKind.f32 FloatKind.f64 x0 then Pure.spec_l01Narrow_ok F (FOps.bin F BinOp.sub FloatKind.f64 (FOps.conv F FloatKind.f32 FloatKind.f64 x0) (FOps.integral F Ieee.Toward.down (FOps.bin F BinOp.add FloatKind.f64 (FOps.conv F FloatKind.f32 FloatKind.f64 x0) 4602678819172646912))) else false
def c_spec_l07Kick (F : FOps) : Con
  | [V.at (A.fl FloatKind.f32 x0)], [] => some (Pure.spec_l07Kick_ok F x0, ⟨V.at (A.fl FloatKind.f32 (Pure.spec_l07Kick F x0)), none, []⟩)
  | _, _ => none
theorem e_spec_l07Kick (F : FOps) (x0 : Int) : Pure.spec_l07Kick_ok F x0 = true → evFn (cxS F tyl [(89, c_math_Floor F), (88, c_spec_l01Narrow F)] [] [] 0) Try.f53 false [V.at (A.fl FloatKind.f32 x0)] [] = some ⟨V.at (A.fl FloatKind.f32 (Pure.spec_l07Kick F x0)), none, []⟩ := by
  have h0 : evFn (cxS F tyl [(89, c_math_Floor F), (88, c_spec_l01Narrow F)] [] [] 0) Try.f53 false [V.at (A.fl FloatKind.f32 x0)] [] = bif FOps.convOk F FloatKind.f32 FloatKind.f64 x0 then bif Pure.spec_l01Narrow_ok F (FOps.bin F BinOp.sub FloatKind.f64 (FOps.conv F FloatKind.f32 FloatKind.f64 x0) (FOps.integral F Ieee.Toward.down (FOps.bin F BinOp.add FloatKind.f64 (FOps.conv F FloatKind.f32 FloatKind.f64 x0) 4602678819172646912))) then bif FOps.cmp F BinOp.geq FloatKind.f32 (Pure.spec_l01Narrow F (FOps.bin F BinOp.sub FloatKind.f64 (FOps.conv F FloatKind.f32 FloatKind.f64 x0) (FOps.integral F Ieee.Toward.down (FOps.bin F BinOp.add FloatKind.f64 (FOps.conv F FloatKind.f32 FloatKind.f64 x0) 4602678819172646912)))) 1056964608 then some ⟨V.at (A.fl FloatKind.f32 3204448256), none, []⟩ else bif FOps.cmp F BinOp.eql FloatKind.f32 (Pure.spec_l01Narrow F (FOps.bin F BinOp.sub FloatKind.f64 (FOps.conv F FloatKind.f32 FloatKind.f64 x0) (FOps.integral F Ieee.Toward.down (FOps.bin F BinOp.add FloatKind.f64 (FOps.conv F FloatKind.f32 FloatKind.f64 x0) 4602678819172646912)))) 0 then some ⟨V.at (A.fl FloatKind.f32 0), none, []⟩ else some ⟨V.at (A.fl FloatKind.f32 (Pure.spec_l01Narrow F (FOps.bin F BinOp.sub FloatKind.f64 (FOps.conv F FloatKind.f32 FloatKind.f64 x0) (FOps.integral F Ieee.Toward.down (FOps.bin F BinOp.add FloatKind.f64 (FOps.conv F FloatKind.f32 FloatKind.f64 x0) 4602678819172646912))))), none, []⟩ else none else none := by kernel_rfl
  rw [h0]
  unfold Pure.spec_l07Kick Pure.spec_l07Kick_ok
  cases (FOps.convOk F FloatKind.f32 FloatKind.f64 x0) with
  | true =>
    cases (Pure.spec_l01Narrow_ok F (FOps.bin F BinOp.sub FloatKind.f64 (FOps.conv F FloatKind.f32 FloatKind.f64 x0) (FOps.integral F Ieee.Toward.down (FOps.bin F BinOp.add FloatKind.f64 (FOps.conv F FloatKind.f32 FloatKind.f64 x0) 4602678819172646912)))) with
    | true =>
      cases (FOps.cmp F BinOp.geq FloatKind.f32 (Pure.spec_l01Narrow F (FOps.bin F BinOp.sub FloatKind.f64 (FOps.conv F FloatKind.f32 FloatKind.f64 x0) (FOps.integral F Ieee.Toward.down (FOps.bin F BinOp.add FloatKind.f64 (FOps.conv F FloatKind.f32 FloatKind.f64 x0) 4602678819172646912)))) 1056964608) with
      | true =>
        intro _; rfl
      | false =>
        cases (FOps.cmp F BinOp.eql FloatKind.f32 (Pure.spec_l01Narrow F (FOps.bin F BinOp.sub FloatKind.f64 (FOps.conv F FloatKind.f32 FloatKind.f64 x0) (FOps.integral F Ieee.Toward.down (FOps.bin F BinOp.add FloatKind.f64 (FOps.conv F FloatKind.f32 FloatKind.f64 x0) 4602678819172646912)))) 0) with
        | true =>
          intro _; rfl
        | false =>
          intro _; rfl
    | false =>
      intro h; exact absurd h Bool.false_ne_true
  | false =>
    intro h; exact absurd h Bool.false_ne_true
theorem ok_spec_l07Kick : CallOK Try.prog 53 (c_spec_l07Kick real) := by
  refine callOK_of fun args h ret hc => ?_
  unfold c_spec_l07Kick at hc
  split at hc
  · rename_i x0
    obtain ⟨hok, rfl⟩ := some_ret hc
    exact holds_ev prog_ok (allOK_cons ok_math_Floor (allOK_cons ok_spec_l01Narrow allOK_nil)) Try.func53 rfl rfl smL_nil rfl (e_spec_l07Kick real x0 hok)
  · cases hc
def Pure.spec_MirrorState (F : FOps) (x0 : Int) (x1 : Int) : Int := bif Pure.spec_l07Is F x0 x1 then Pure.spec_l05Wrap F (FOps.neg F FloatKind.f32 x0) else 0
def Pure.spec_MirrorState_1 (F : FOps) (x0 : Int) (x1 : Int) : Int := bif Pure.spec_l07Is F x0 x1 then Pure.spec_l07Kick F (FOps.neg F FloatKind.f32 x1) else 0
def Pure.spec_MirrorState_ok (F : FOps) (x0 : Int) (x1 : Int) : Bool := bif Pure.spec_l07Is F x0 x1 then bif Pure.spec_l05Wrap_ok F (FOps.neg F FloatKind.f32 x0) then Pure.spec_l07Kick_ok F (FOps.neg F FloatKind.f32 x1) else false else true
def c_spec_MirrorState (F : FOps) : Con
  | [V.agg [A.fl FloatKind.f32 x0, A.fl FloatKind.f32 x1]], [] => some (Pure.spec_MirrorState_ok F x0 x1, ⟨V.tup [(true, [A.fl FloatKind.f32 (Pure.spec_MirrorState F x0 x1), A.fl FloatKind.f32 (Pure.spec_MirrorState_1 F x0 x1)]), (false, [A.bool (Pure.spec_l07Is F x0 x1)])], none, []⟩)
  | _, _ => none
theorem e_spec_MirrorState (F : FOps) (x0 : Int) (x1 : Int) : Pure.spec_MirrorState_ok F x0 x1 = true → evFn (cxS F tyl [(51, c_spec_l07Is F), (52, c_spec_l05Wrap F), (53, c_spec_l07Kick F)] [] [] 0) Try.f15 false [V.agg [A.fl FloatKind.f32 x0, A.fl FloatKind.f32 x1]] [] = some ⟨V.tup [(true, [A.fl FloatKind.f32 (Pure.spec_MirrorState F x0 x1), A.fl FloatKind.f32 (Pure.spec_MirrorState_1 F x0 x1)]), (false, [A.bool (Pure.spec_l07Is F x0 x1)])], none, []⟩ := by
  have h0 : evFn (cxS F tyl [(51, c_spec_l07Is F), (52, c_spec_l05Wrap F), (53, c_spec_l07Kick F)] [] [] 0) Try.f15 false [V.agg [A.fl FloatKind.f32 x0, A.fl FloatKind.f32 x1]] [] = bif Bool.not (Pure.spec_l07Is F x0 x1) then some ⟨V.tup [(true, [A.fl FloatKind.f32 0, A.fl FloatKind.f32 0]), (false, [A.bool false])], none, []⟩ else bif Pure.spec_l05Wrap_ok F (FOps.neg F FloatKind.f32 x0) then bif Pure.spec_l07Kick_ok F (FOps.neg F FloatKind.f32 x1) then some ⟨V.tup [(true, [A.fl FloatKind.f32 (Pure.spec_l05Wrap F (FOps.neg F FloatKind.f32 x0)), A.fl FloatKind.f32 (Pure.spec_l07Kick F (FOps.neg F FloatKind.f32 x1))]), (false, [A.bool true])], none, []⟩ else none else none := by kernel_rfl
  rw [h0]
  unfold Pure.spec_MirrorState Pure.spec_MirrorState_1 Pure.spec_MirrorState_ok
  cases (Pure.spec_l07Is F x0 x1) with
  | true =>
    cases (Pure.spec_l05Wrap_ok F (FOps.neg F FloatKind.f32 x0)) with
    | true =>
      cases (Pure.spec_l07Kick_ok F (FOps.neg F FloatKind.f32 x1)) with
      | true =>
        intro _; rfl
      | false =>
        intro h; exact absurd h Bool.false_ne_true
    | false =>
      intro h; exact absurd h Bool.false_ne_true
  | false =>
    intro _; rfl
theorem ok_spec_MirrorState : CallOK Try.prog 15 (c_spec_MirrorState real) := by
  refine callOK_of fun args h ret hc => ?_
  unfold c_spec_MirrorState at hc
  split at hc
  · rename_i x0 x1
    obtain ⟨hok, rfl⟩ := some_ret hc
    exact holds_ev prog_ok (allOK_cons ok_spec_l07Is (allOK_cons ok_spec_l05Wrap (allOK_cons ok_spec_l07Kick allOK_nil))) Try.func15 rfl rfl smL_nil rfl (e_spec_MirrorState real x0 x1 hok)
  · cases hc
def Pure.impl_ValidState (F : FOps) (x0 : Int) (x1 : Int) : Bool := bif FOps.cmp F BinOp.geq FloatKind.f32 x0 0 then bif FOps.cmp F BinOp.lss FloatKind.f32 x0 1065353216 then bif FOps.cmp F BinOp.geq FloatKind.f32 x1 3204448256 then FOps.cmp F BinOp.lss FloatKind.f32 x1 1056964608 else false else false else false
def c_impl_ValidState (F : FOps) : Con
  | [V.agg [A.fl FloatKind.f32 x0, A.fl FloatKind.f32 x1]], [] => some (true, ⟨V.at (A.bool (Pure.impl_ValidState F x0 x1)), none, []⟩)
  | _, _ => none
theorem e_impl_ValidState (F : FOps) (x0 : Int) (x1 : Int) : evFn (cxS F tyl [] [] [] 0) Try.f54 false [V.agg [A.fl FloatKind.f32 x0, A.fl FloatKind.f32 x1]] [] = some ⟨V.at (A.bool (Pure.impl_ValidState F x0 x1)), none, []⟩ := by
  have h0 : evFn (cxS F tyl [] [] [] 0) Try.f54 false [V.agg [A.fl FloatKind.f32 x0, A.fl FloatKind.f32 x1]] [] = bif FOps.cmp F BinOp.geq FloatKind.f32 x0 0 then bif FOps.cmp F BinOp.lss FloatKind.f32 x0 1065353216 then bif FOps.cmp F BinOp.geq FloatKind.f32 x1 3204448256 then some ⟨V.at (A.bool (FOps.cmp F BinOp.lss FloatKind.f32 x1 1056964608)), none, []⟩ else some ⟨V.at (A.bool false), none, []⟩ else some ⟨V.at (A.bool false), none, []⟩ else some ⟨V.at (A.bool false), none, []⟩ := by kernel_rfl
  rw [h0]
  unfold Pure.impl_ValidState
  cases (FOps.cmp F BinOp.geq FloatKind.f32 x0 0) with
  | true =>
    cases (FOps.cmp F BinOp.lss FloatKind.f32 x0 1065353216) with
    | true =>
      cases (FOps.cmp F BinOp.geq FloatKind.f32 x1 3204448256) with
      | true =>
        rfl
      | false =>
        rfl
    | false =>
      rfl
  | false =>
    rfl
theorem ok_impl_ValidState : CallOK Try.prog 54 (c_impl_ValidState real) := by
  refine callOK_of fun args h ret hc => ?_
  unfold c_impl_ValidState at hc
  split at hc
  · rename_i x0 x1
    obtain ⟨_, rfl⟩ := some_ret hc
    exact holds_ev prog_ok allOK_nil Try.func54 rfl rfl smL_nil rfl (e_impl_ValidState real x0 x1)
  · cases hc
def Pure.impl_WrapTurn (F : FOps) (x0 : Int) : Int := bif Pure.impl_IsFinite F x0 then bif FOps.cmp F BinOp.eql FloatKind.f32 (FOps.conv F FloatKind.f64 FloatKind.f32 (FOps.bin F BinOp.sub FloatKind.f64 (FOps.conv F FloatKind.f32 FloatKind.f64 x0) (FOps.integral F Ieee.Toward.down (FOps.conv F FloatKind.f32 FloatKind.f64 x0)))) 1065353216 then 0 else bif FOps.cmp F BinOp.eql FloatKind.f32 (FOps.conv F FloatKind.f64 FloatKind.f32 (FOps.bin F BinOp.sub FloatKind.f64 (FOps.conv F FloatKind.f32 FloatKind.f64 x0) (FOps.integral F Ieee.Toward.down (FOps.conv F FloatKind.f32 FloatKind.f64 x0)))) 0 then 0 else FOps.conv F FloatKind.f64 FloatKind.f32 (FOps.bin F BinOp.sub FloatKind.f64 (FOps.conv F FloatKind.f32 FloatKind.f64 x0) (FOps.integral F Ieee.Toward.down (FOps.conv F FloatKind.f32 FloatKind.f64 x0))) else 0
def Pure.impl_WrapTurn_ok (F : FOps) (x0 : Int) : Bool := bif Pure.impl_IsFinite F x0 then bif FOps.convOk F FloatKind.f32 FloatKind.f64 x0 then FOps.convOk F FloatKind.f64 FloatKind.f32 (FOps.bin F BinOp.sub FloatKind.f64 (FOps.conv F FloatKind.f32 FloatKind.f64 x0) (FOps.integral F Ieee.Toward.down (FOps.conv F FloatKind.f32 FloatKind.f64 x0))) else false else true
def c_impl_WrapTurn (F : FOps) : Con
  | [V.at (A.fl FloatKind.f32 x0)], [] => some (Pure.impl_WrapTurn_ok F x0, ⟨V.tup [(false, [A.fl FloatKind.f32 (Pure.impl_WrapTurn F x0)]), (false, [A.bool (Pure.impl_IsFinite F x0)])], none, []⟩)
  | _, _ => none
theorem e_impl_WrapTurn (F : FOps) (x0 : Int) : Pure.impl_WrapTurn_ok F x0 = true → evFn (cxS F tyl [(95, c_impl_IsFinite F), (89, c_math_Floor F)] [] [] 0) Try.f90 false [V.at (A.fl FloatKind.f32 x0)] [] = some ⟨V.tup [(false, [A.fl FloatKind.f32 (Pure.impl_WrapTurn F x0)]), (false, [A.bool (Pure.impl_IsFinite F x0)])], none, []⟩ := by
  have h0 : evFn (cxS F tyl [(95, c_impl_IsFinite F), (89, c_math_Floor F)] [] [] 0) Try.f90 false [V.at (A.fl FloatKind.f32 x0)] [] = bif Bool.not (Pure.impl_IsFinite F x0) then some ⟨V.tup [(false, [A.fl FloatKind.f32 0]), (false, [A.bool false])], none, []⟩ else bif FOps.convOk F FloatKind.f32 FloatKind.f64 x0 then bif FOps.convOk F FloatKind.f32 FloatKind.f64 x0 then bif FOps.convOk F FloatKind.f64 FloatKind.f32 (FOps.bin F BinOp.sub FloatKind.f64 (FOps.conv F FloatKind.f32 FloatKind.f64 x0) (FOps.integral F Ieee.Toward.down (FOps.conv F FloatKind.f32 FloatKind.f64 x0))) then bif FOps.cmp F BinOp.eql FloatKind.f32 (FOps.conv F FloatKind.f64 FloatKind.f32 (FOps.bin F BinOp.sub FloatKind.f64 (FOps.conv F FloatKind.f32 FloatKind.f64 x0) (FOps.integral F Ieee.Toward.down (FOps.conv F FloatKind.f32 FloatKind.f64 x0)))) 1065353216 then some ⟨V.tup [(false, [A.fl FloatKind.f32 0]), (false, [A.bool true])], none, []⟩ else bif FOps.cmp F BinOp.eql FloatKind.f32 (FOps.conv F FloatKind.f64 FloatKind.f32 (FOps.bin F BinOp.sub FloatKind.f64 (FOps.conv F FloatKind.f32 FloatKind.f64 x0) (FOps.integral F Ieee.Toward.down (FOps.conv F FloatKind.f32 FloatKind.f64 x0)))) 0 then some ⟨V.tup [(false, [A.fl FloatKind.f32 0]), (false, [A.bool true])], none, []⟩ else some ⟨V.tup [(false, [A.fl FloatKind.f32 (FOps.conv F FloatKind.f64 FloatKind.f32 (FOps.bin F BinOp.sub FloatKind.f64 (FOps.conv F FloatKind.f32 FloatKind.f64 x0) (FOps.integral F Ieee.Toward.down (FOps.conv F FloatKind.f32 FloatKind.f64 x0))))]), (false, [A.bool true])], none, []⟩ else none else none else none := by kernel_rfl
  rw [h0]
  unfold Pure.impl_WrapTurn Pure.impl_WrapTurn_ok
  cases (Pure.impl_IsFinite F x0) with
  | true =>
    cases (FOps.convOk F FloatKind.f32 FloatKind.f64 x0) with
    | true =>
      cases (FOps.convOk F FloatKind.f64 FloatKind.f32 (FOps.bin F BinOp.sub FloatKind.f64 (FOps.conv F FloatKind.f32 FloatKind.f64 x0) (FOps.integral F Ieee.Toward.down (FOps.conv F FloatKind.f32 FloatKind.f64 x0)))) with
      | true =>
        cases (FOps.cmp F BinOp.eql FloatKind.f32 (FOps.conv F FloatKind.f64 FloatKind.f32 (FOps.bin F BinOp.sub FloatKind.f64 (FOps.conv F FloatKind.f32 FloatKind.f64 x0) (FOps.integral F Ieee.Toward.down (FOps.conv F FloatKind.f32 FloatKind.f64 x0)))) 1065353216) with
        | true =>
          intro _; rfl
        | false =>
          cases (FOps.cmp F BinOp.eql FloatKind.f32 (FOps.conv F FloatKind.f64 FloatKind.f32 (FOps.bin F BinOp.sub FloatKind.f64 (FOps.conv F FloatKind.f32 FloatKind.f64 x0) (FOps.integral F Ieee.Toward.down (FOps.conv F FloatKind.f32 FloatKind.f64 x0)))) 0) with
          | true =>
            intro _; rfl
          | false =>
            intro _; rfl
      | false =>
        intro h; exact absurd h Bool.false_ne_true
    | false =>
      intro h; exact absurd h Bool.false_ne_true
  | false =>
    intro _; rfl
theorem ok_impl_WrapTurn : CallOK Try.prog 90 (c_impl_WrapTurn real) := by
  refine callOK_of fun args h ret hc => ?_
  unfold c_impl_WrapTurn at hc
  split at hc
  · rename_i x0
    obtain ⟨hok, rfl⟩ := some_ret hc
    exact holds_ev prog_ok (allOK_cons ok_impl_IsFinite (allOK_cons ok_math_Floor allOK_nil)) Try.func90 rfl rfl smL_nil rfl (e_impl_WrapTurn real x0 hok)
  · cases hc
def Pure.impl_wrapped_ok (F : FOps) (x0 : Int) : Bool := Pure.impl_WrapTurn_ok F x0
def c_impl_wrapped (F : FOps) : Con
  | [V.at (A.fl FloatKind.f32 x0)], [] => some (Pure.impl_wrapped_ok F x0, ⟨V.at (A.fl FloatKind.f32 (Pure.impl_WrapTurn F x0)), none, []⟩)
  | _, _ => none
theorem e_impl_wrapped (F : FOps) (x0 : Int) : Pure.impl_wrapped_ok F x0 = true → evFn (cxS F tyl [(90, c_impl_WrapTurn F)] [] [] 0) Try.f55 false [V.at (A.fl FloatKind.f32 x0)] [] = some ⟨V.at (A.fl FloatKind.f32 (Pure.impl_WrapTurn F x0)), none, []⟩ := by
  have h0 : evFn (cxS F tyl [(90, c_impl_WrapTurn F)] [] [] 0) Try.f55 false [V.at (A.fl FloatKind.f32 x0)] [] = bif Pure.impl_WrapTurn_ok F x0 then some ⟨V.at (A.fl FloatKind.f32 (Pure.impl_WrapTurn F x0)), none, []⟩ else none := by kernel_rfl
  rw [h0]
  unfold Pure.impl_wrapped_ok
  cases (Pure.impl_WrapTurn_ok F x0) with
  | true =>
    intro _; rfl
  | false =>
    intro h; exact absurd h Bool.false_ne_true
theorem ok_impl_wrapped : CallOK Try.prog 55 (c_impl_wrapped real) := by
  refine callOK_of fun args h ret hc => ?_
  unfold c_impl_wrapped at hc
  split at hc
  · rename_i x0
    obtain ⟨hok, rfl⟩ := some_ret hc
    exact holds_ev prog_ok (allOK_cons ok_impl_WrapTurn allOK_nil) Try.func55 rfl rfl smL_nil rfl (e_impl_wrapped real x0 hok)
  · cases hc
def Pure.impl_WrapKick (F : FOps) (x0 : Int) : Int := bif Pure.impl_IsFinite F x0 then bif FOps.cmp F BinOp.geq FloatKind.f32 (FOps.conv F FloatKind.f64 FloatKind.f32 (FOps.bin F BinOp.sub FloatKind.f64 (FOps.conv F FloatKind.f32 FloatKind.f64 x0) (FOps.integral F Ieee.Toward.down (FOps.bin F BinOp.add FloatKind.f64 (FOps.conv F FloatKind.f32 FloatKind.f64 x0) 4602678819172646912)))) 1056964608 then 3204448256 else bif FOps.cmp F BinOp.eql FloatKind.f32 (FOps.conv F FloatKind.f64 FloatKind.f32 (FOps.bin F BinOp.sub FloatKind.f64 (FOps.conv F FloatKind.f32 FloatKind.f64 x0) (FOps.integral F Ieee.Toward.down (FOps.bin F BinOp.add FloatKind.f64 (FOps.conv F FloatKind.f32 FloatKind.f64 x0) 4602678819172646912)))) 0 then 0 else FOps.conv F FloatKind.f64 FloatKind.f32 (FOps.bin F BinOp.sub FloatKind.f64 (FOps.conv F FloatKind.f32 FloatKind.f64 x0) (FOps.integral F Ieee.Toward.down (FOps.bin F BinOp.add FloatKind.f64 (FOps.conv F FloatKind.f32 FloatKind.f64 x0) 4602678819172646912))) else 0
def Pure.impl_WrapKick_ok (F : FOps) (x0 : Int) : Bool := bif Pure.impl_IsFinite F x0 then bif FOps.convOk F FloatKind.f32 FloatKind.f64 x0 then FOps.convOk F FloatKind.f64 FloatKind.f32 (FOps.bin F BinOp.sub FloatKind.f64 (FOps.conv F FloatKind.f32 FloatKind.f64 x0) (FOps.integral F Ieee.Toward.down (FOps.bin F BinOp.add FloatKind.f64 (FOps.conv F FloatKind.f32 FloatKind.f64 x0) 4602678819172646912))) else false else true
def c_impl_WrapKick (F : FOps) : Con
  | [V.at (A.fl FloatKind.f32 x0)], [] => some (Pure.impl_WrapKick_ok F x0, ⟨V.tup [(false, [A.fl FloatKind.f32 (Pure.impl_WrapKick F x0)]), (false, [A.bool (Pure.impl_IsFinite F x0)])], none, []⟩)
  | _, _ => none
theorem e_impl_WrapKick (F : FOps) (x0 : Int) : Pure.impl_WrapKick_ok F x0 = true → evFn (cxS F tyl [(95, c_impl_IsFinite F), (89, c_math_Floor F)] [] [] 0) Try.f91 false [V.at (A.fl FloatKind.f32 x0)] [] = some ⟨V.tup [(false, [A.fl FloatKind.f32 (Pure.impl_WrapKick F x0)]), (false, [A.bool (Pure.impl_IsFinite F x0)])], none, []⟩ := by
  have h0 : evFn (cxS F tyl [(95, c_impl_IsFinite F), (89, c_math_Floor F)] [] [] 0) Try.f91 false [V.at (A.fl FloatKind.f32 x0)] [] = bif Bool.not (Pure.impl_IsFinite F x0) then some ⟨V.tup [(false, [A.fl FloatKind.f32 0]), (false, [A.bool false])], none, []⟩ else bif FOps.convOk F FloatKind.f32 FloatKind.f64 x0 then bif FOps.convOk F FloatKind.f32 FloatKind.f64 x0 then bif FOps.convOk F FloatKind.f64 FloatKind.f32 (FOps.bin F BinOp.sub FloatKind.f64 (FOps.conv F FloatKind.f32 FloatKind.f64 x0) (FOps.integral F Ieee.Toward.down (FOps.bin F BinOp.add FloatKind.f64 (FOps.conv F FloatKind.f32 FloatKind.f64 x0) 4602678819172646912))) then bif FOps.cmp F BinOp.geq FloatKind.f32 (FOps.conv F FloatKind.f64 FloatKind.f32 (FOps.bin F BinOp.sub FloatKind.f64 (FOps.conv F FloatKind.f32 FloatKind.f64 x0) (FOps.integral F Ieee.Toward.down (FOps.bin F BinOp.add FloatKind.f64 (FOps.conv F FloatKind.f32 FloatKind.f64 x0) 4602678819172646912)))) 1056964608 then some ⟨V.tup [(false, [A.fl FloatKind.f32 3204448256]), (false, [A.bool true])], none, []⟩ else bif FOps.cmp F BinOp.eql FloatKind.f32 (FOps.conv F FloatKind.f64 FloatKind.f32 (FOps.bin F BinOp.sub FloatKind.f64 (FOps.conv F FloatKind.f32 FloatKind.f64 x0) (FOps.integral F Ieee.Toward.down (FOps.bin F BinOp.add FloatKind.f64 (FOps.conv F FloatKind.f32 FloatKind.f64 x0) 4602678819172646912)))) 0 then some ⟨V.tup [(false, [A.fl FloatKind.f32 0]), (false, [A.bool true])], none, []⟩ else some ⟨V.tup [(false, [A.fl FloatKind.f32 (FOps.conv F FloatKind.f64 FloatKind.f32 (FOps.bin F BinOp.sub FloatKind.f64 (FOps.conv F FloatKind.f32 FloatKind.f64 x0) (FOps.integral F Ieee.Toward.down (FOps.bin F BinOp.add FloatKind.f64 (FOps.conv F FloatKind.f32 FloatKind.f64 x0) 4602678819172646912))))]), (false, [A.bool true])], none, []⟩ else none else none else none := by kernel_rfl
  rw [h0]
  unfold Pure.impl_WrapKick Pure.impl_WrapKick_ok
  cases (Pure.impl_IsFinite F x0) with
  | true =>
    cases (FOps.convOk F FloatKind.f32 FloatKind.f64 x0) with
    | true =>
      cases (FOps.convOk F FloatKind.f64 FloatKind.f32 (FOps.bin F BinOp.sub FloatKind.f64 (FOps.conv F FloatKind.f32 FloatKind.f64 x0) (FOps.integral F Ieee.Toward.down (FOps.bin F BinOp.add FloatKind.f64 (FOps.conv F FloatKind.f32 FloatKind.f64 x0) 4602678819172646912)))) with
      | true =>
        cases (FOps.cmp F BinOp.geq FloatKind.f32 (FOps.conv F FloatKind.f64 FloatKind.f32 (FOps.bin F BinOp.sub FloatKind.f64 (FOps.conv F FloatKind.f32 FloatKind.f64 x0) (FOps.integral F Ieee.Toward.down (FOps.bin F BinOp.add FloatKind.f64 (FOps.conv F FloatKind.f32 FloatKind.f64 x0) 4602678819172646912)))) 1056964608) with
        | true =>
          intro _; rfl
        | false =>
          cases (FOps.cmp F BinOp.eql FloatKind.f32 (FOps.conv F FloatKind.f64 FloatKind.f32 (FOps.bin F BinOp.sub FloatKind.f64 (FOps.conv F FloatKind.f32 FloatKind.f64 x0) (FOps.integral F Ieee.Toward.down (FOps.bin F BinOp.add FloatKind.f64 (FOps.conv F FloatKind.f32 FloatKind.f64 x0) 4602678819172646912)))) 0) with
          | true =>
            intro _; rfl
          | false =>
            intro _; rfl
      | false =>
        intro h; exact absurd h Bool.false_ne_true
    | false =>
      intro h; exact absurd h Bool.false_ne_true
  | false =>
    intro _; rfl
theorem ok_impl_WrapKick : CallOK Try.prog 91 (c_impl_WrapKick real) := by
  refine callOK_of fun args h ret hc => ?_
  unfold c_impl_WrapKick at hc
  split at hc
  · rename_i x0
    obtain ⟨hok, rfl⟩ := some_ret hc
    exact holds_ev prog_ok (allOK_cons ok_impl_IsFinite (allOK_cons ok_math_Floor allOK_nil)) Try.func91 rfl rfl smL_nil rfl (e_impl_WrapKick real x0 hok)
  · cases hc
def Pure.impl_kicked_ok (F : FOps) (x0 : Int) : Bool := Pure.impl_WrapKick_ok F x0
def c_impl_kicked (F : FOps) : Con
  | [V.at (A.fl FloatKind.f32 x0)], [] => some (Pure.impl_kicked_ok F x0, ⟨V.at (A.fl FloatKind.f32 (Pure.impl_WrapKick F x0)), none, []⟩)
  | _, _ => none
theorem e_impl_kicked (F : FOps) (x0 : Int) : Pure.impl_kicked_ok F x0 = true → evFn (cxS F tyl [(91, c_impl_WrapKick F)] [] [] 0) Try.f56 false [V.at (A.fl FloatKind.f32 x0)] [] = some ⟨V.at (A.fl FloatKind.f32 (Pure.impl_WrapKick F x0)), none, []⟩ := by
  have h0 : evFn (cxS F tyl [(91, c_impl_WrapKick F)] [] [] 0) Try.f56 false [V.at (A.fl FloatKind.f32 x0)] [] = bif Pure.impl_WrapKick_ok F x0 then some ⟨V.at (A.fl FloatKind.f32 (Pure.impl_WrapKick F x0)), none, []⟩ else none := by kernel_rfl
  rw [h0]
  unfold Pure.impl_kicked_ok
  cases (Pure.impl_WrapKick_ok F x0) with
  | true =>
    intro _; rfl
  | false =>
    intro h; exact absurd h Bool.false_ne_true
theorem ok_impl_kicked : CallOK Try.prog 56 (c_impl_kicked real) := by
  refine callOK_of fun args h ret hc => ?_
  unfold c_impl_kicked at hc
  split at hc
  · rename_i x0
    obtain ⟨hok, rfl⟩ := some_ret hc
    exact holds_ev prog_ok (allOK_cons ok_impl_WrapKick allOK_nil) Try.func56 rfl rfl smL_nil rfl (e_impl_kicked real x0 hok)
  · cases hc
def Pure.impl_MirrorState (F : FOps) (x0 : Int) (x1 : Int) : Int := bif Pure.impl_ValidState F x0 x1 then Pure.impl_WrapTurn F (FOps.neg F FloatKind.f32 x0) else 0
def Pure.impl_MirrorState_1 (F : FOps) (x0 : Int) (x1 : Int) : Int := bif Pure.impl_ValidState F x0 x1 then Pure.impl_WrapKick F (FOps.neg F FloatKind.f32 x1) else 0
def Pure.impl_MirrorState_ok (F : FOps) (x0 : Int) (x1 : Int) : Bool := bif Pure.impl_ValidState F x0 x1 then bif Pure.impl_wrapped_ok F (FOps.neg F FloatKind.f32 x0) then Pure.impl_kicked_ok F (FOps.neg F FloatKind.f32 x1) else false else true
def c_impl_MirrorState (F : FOps) : Con
  | [V.agg [A.fl FloatKind.f32 x0, A.fl FloatKind.f32 x1]], [] => some (Pure.impl_MirrorState_ok F x0 x1, ⟨V.tup [(true, [A.fl FloatKind.f32 (Pure.impl_MirrorState F x0 x1), A.fl FloatKind.f32 (Pure.impl_MirrorState_1 F x0 x1)]), (false, [A.bool (Pure.impl_ValidState F x0 x1)])], none, []⟩)
  | _, _ => none
theorem e_impl_MirrorState (F : FOps) (x0 : Int) (x1 : Int) : Pure.impl_MirrorState_ok F x0 x1 = true → evFn (cxS F tyl [(54, c_impl_ValidState F), (55, c_impl_wrapped F), (56, c_impl_kicked F)] [] [] 0) Try.f17 false [V.agg [A.fl FloatKind.f32 x0, A.fl FloatKind.f32 x1]] [] = some ⟨V.tup [(true, [A.fl FloatKind.f32 (Pure.impl_MirrorState F x0 x1), A.fl FloatKind.f32 (Pure.impl_MirrorState_1 F x0 x1)]), (false, [A.bool (Pure.impl_ValidState F x0 x1)])], none, []⟩ := by
  have h0 : evFn (cxS F tyl [(54, c_impl_ValidState F), (55, c_impl_wrapped F), (56, c_impl_kicked F)] [] [] 0) Try.f17 false [V.agg [A.fl FloatKind.f32 x0, A.fl FloatKind.f32 x1]] [] = bif Bool.not (Pure.impl_ValidState F x0 x1) then some ⟨V.tup [(true, [A.fl FloatKind.f32 0, A.fl FloatKind.f32 0]), (false, [A.bool false])], none, []⟩ else bif Pure.impl_wrapped_ok F (FOps.neg F FloatKind.f32 x0) then bif Pure.impl_kicked_ok F (FOps.neg F FloatKind.f32 x1) then some ⟨V.tup [(true, [A.fl FloatKind.f32 (Pure.impl_WrapTurn F (FOps.neg F FloatKind.f32 x0)), A.fl FloatKind.f32 (Pure.impl_WrapKick F (FOps.neg F FloatKind.f32 x1))]), (false, [A.bool true])], none, []⟩ else none else none := by kernel_rfl
  rw [h0]
  unfold Pure.impl_MirrorState Pure.impl_MirrorState_1 Pure.impl_MirrorState_ok
  cases (Pure.impl_ValidState F x0 x1) with
  | true =>
    cases (Pure.impl_wrapped_ok F (FOps.neg F FloatKind.f32 x0)) with
    | true =>
      cases (Pure.impl_kicked_ok F (FOps.neg F FloatKind.f32 x1)) with
      | true =>
        intro _; rfl
      | false =>
        intro h; exact absurd h Bool.false_ne_true
    | false =>
      intro h; exact absurd h Bool.false_ne_true
  | false =>
    intro _; rfl
theorem ok_impl_MirrorState : CallOK Try.prog 17 (c_impl_MirrorState real) := by
  refine callOK_of fun args h ret hc => ?_
  unfold c_impl_MirrorState at hc
  split at hc
  · rename_i x0 x1
    obtain ⟨hok, rfl⟩ := some_ret hc
    exact holds_ev prog_ok (allOK_cons ok_impl_ValidState (allOK_cons ok_impl_wrapped (allOK_cons ok_impl_kicked allOK_nil))) Try.func17 rfl rfl smL_nil rfl (e_impl_MirrorState real x0 x1 hok)
  · cases hc
def Pure.laws_sameFloat (F : FOps) (x0 : Int) (x1 : Int) : Bool := bif FOps.cmp F BinOp.neq FloatKind.f64 x0 x0 then FOps.cmp F BinOp.neq FloatKind.f64 x1 x1 else bif FOps.cmp F BinOp.neq FloatKind.f64 x1 x1 then false else bif FOps.cmp F BinOp.eql FloatKind.f64 x0 0 then bif FOps.cmp F BinOp.eql FloatKind.f64 x1 0 then (FOps.cmp F BinOp.gtr FloatKind.f64 (FOps.bin F BinOp.quo FloatKind.f64 4607182418800017408 x0) 0) == (FOps.cmp F BinOp.gtr FloatKind.f64 (FOps.bin F BinOp.quo FloatKind.f64 4607182418800017408 x1) 0) else FOps.cmp F BinOp.eql FloatKind.f64 x0 x1 else FOps.cmp F BinOp.eql FloatKind.f64 x0 x1
def c_laws_sameFloat (F : FOps) : Con
  | [V.at (A.fl FloatKind.f64 x0), V.at (A.fl FloatKind.f64 x1)], [] => some (true, ⟨V.at (A.bool (Pure.laws_sameFloat F x0 x1)), none, []⟩)
  | _, _ => none
theorem e_laws_sameFloat (F : FOps) (x0 : Int) (x1 : Int) : evFn (cxS F tyl [] [] [] 0) Try.f34 false [V.at (A.fl FloatKind.f64 x0), V.at (A.fl FloatKind.f64 x1)] [] = some ⟨V.at (A.bool (Pure.laws_sameFloat F x0 x1)), none, []⟩ := by
  have h0 : evFn (cxS F tyl [] [] [] 0) Try.f34 false [V.at (A.fl FloatKind.f64 x0), V.at (A.fl FloatKind.f64 x1)] [] = bif FOps.cmp F BinOp.neq FloatKind.f64 x0 x0 then bif FOps.cmp F BinOp.neq FloatKind.f64 x0 x0 then some ⟨V.at (A.bool (FOps.cmp F BinOp.neq FloatKind.f64 x1 x1)), none, []⟩ else some ⟨V.at (A.bool false), none, []⟩ else bif FOps.cmp F BinOp.neq FloatKind.f64 x1 x1 then bif FOps.cmp F BinOp.neq FloatKind.f64 x0 x0 then some ⟨V.at (A.bool (FOps.cmp F BinOp.neq FloatKind.f64 x1 x1)), none, []⟩ else some ⟨V.at (A.bool false), none, []⟩ else bif FOps.cmp F BinOp.eql FloatKind.f64 x0 0 then bif FOps.cmp F BinOp.eql FloatKind.f64 x1 0 then some ⟨V.at (A.bool ((FOps.cmp F BinOp.gtr FloatKind.f64 (FOps.bin F BinOp.quo FloatKind.f64 4607182418800017408 x0) 0) == (FOps.cmp F BinOp.gtr FloatKind.f64 (FOps.bin F BinOp.quo FloatKind.f64 4607182418800017408 x1) 0))), none, []⟩ else some ⟨V.at (A.bool (FOps.cmp F BinOp.eql FloatKind.f64 x0 x1)), none, []⟩ else some ⟨V.at (A.bool (FOps.cmp F BinOp.eql FloatKind.f64 x0 x1)), none, []⟩ := by kernel_rfl
  rw [h0]
  unfold Pure.laws_sameFloat
  cases (FOps.cmp F BinOp.neq FloatKind.f64 x0 x0) with
  | true =>
    rfl
  | false =>
    cases (FOps.cmp F BinOp.neq FloatKind.f64 x1 x1) with
    | true =>
      rfl
    | false =>
      cases (FOps.cmp F BinOp.eql FloatKind.f64 x0 0) with
      | true =>
        cases (FOps.cmp F BinOp.eql FloatKind.f64 x1 0) with
        | true =>
          rfl
        | false =>
          rfl
      | false =>
        rfl
theorem ok_laws_sameFloat : CallOK Try.prog 34 (c_laws_sameFloat real) := by
  refine callOK_of fun args h ret hc => ?_
  unfold c_laws_sameFloat at hc
  split at hc
  · rename_i x0 x1
    obtain ⟨_, rfl⟩ := some_ret hc
    exact holds_ev prog_ok allOK_nil Try.func34 rfl rfl smL_nil rfl (e_laws_sameFloat real x0 x1)
  · cases hc
def Pure.laws_eqState (F : FOps) (x0 : Int) (x1 : Int) (x2 : Int) (x3 : Int) : Bool := bif Pure.laws_sameFloat F (FOps.conv F FloatKind.f32 FloatKind.f64 x0) (FOps.conv F FloatKind.f32 FloatKind.f64 x2) then Pure.laws_sameFloat F (FOps.conv F FloatKind.f32 FloatKind.f64 x1) (FOps.conv F FloatKind.f32 FloatKind.f64 x3) else false
def Pure.laws_eqState_ok (F : FOps) (x0 : Int) (x1 : Int) (x2 : Int) (x3 : Int) : Bool := bif FOps.convOk F FloatKind.f32 FloatKind.f64 x0 then bif FOps.convOk F FloatKind.f32 FloatKind.f64 x2 then bif Pure.laws_sameFloat F (FOps.conv F FloatKind.f32 FloatKind.f64 x0) (FOps.conv F FloatKind.f32 FloatKind.f64 x2) then bif FOps.convOk F FloatKind.f32 FloatKind.f64 x1 then FOps.convOk F FloatKind.f32 FloatKind.f64 x3 else false else true else false else false
def c_laws_eqState (F : FOps) : Con
  | [V.agg [A.fl FloatKind.f32 x0, A.fl FloatKind.f32 x1], V.agg [A.fl FloatKind.f32 x2, A.fl FloatKind.f32 x3]], [] => some (Pure.laws_eqState_ok F x0 x1 x2 x3, ⟨V.at (A.bool (Pure.laws_eqState F x0 x1 x2 x3)), none, []⟩)
  | _, _ => none
theorem e_laws_eqState (F : FOps) (x0 : Int) (x1 : Int) (x2 : Int) (x3 : Int) : Pure.laws_eqState_ok F x0 x1 x2 x3 = true → evFn (cxS F tyl [(34, c_laws_sameFloat F)] [] [] 0) Try.f18 false [V.agg [A.fl FloatKind.f32 x0, A.fl FloatKind.f32 x1], V.agg [A.fl FloatKind.f32 x2, A.fl FloatKind.f32 x3]] [] = some ⟨V.at (A.bool (Pure.laws_eqState F x0 x1 x2 x3)), none, []⟩ := by
  have h0 : evFn (cxS F tyl [(34, c_laws_sameFloat F)] [] [] 0) Try.f18 false [V.agg [A.fl FloatKind.f32 x0, A.fl FloatKind.f32 x1], V.agg [A.fl FloatKind.f32 x2, A.fl FloatKind.f32 x3]] [] = bif FOps.convOk F FloatKind.f32 FloatKind.f64 x0 then bif FOps.convOk F FloatKind.f32 FloatKind.f64 x2 then bif Bool.not (Pure.laws_sameFloat F (FOps.conv F FloatKind.f32 FloatKind.f64 x0) (FOps.conv F FloatKind.f32 FloatKind.f64 x2)) then some ⟨V.at (A.bool false), none, []⟩ else bif FOps.convOk F FloatKind.f32 FloatKind.f64 x1 then bif FOps.convOk F FloatKind.f32 FloatKind.f64 x3 then bif Bool.not (Pure.laws_sameFloat F (FOps.conv F FloatKind.f32 FloatKind.f64 x1) (FOps.conv F FloatKind.f32 FloatKind.f64 x3)) then some ⟨V.at (A.bool false), none, []⟩ else some ⟨V.at (A.bool true), none, []⟩ else none else none else none else none := by kernel_rfl
  rw [h0]
  unfold Pure.laws_eqState Pure.laws_eqState_ok
  cases (FOps.convOk F FloatKind.f32 FloatKind.f64 x0) with
  | true =>
    cases (FOps.convOk F FloatKind.f32 FloatKind.f64 x2) with
    | true =>
      cases (Pure.laws_sameFloat F (FOps.conv F FloatKind.f32 FloatKind.f64 x0) (FOps.conv F FloatKind.f32 FloatKind.f64 x2)) with
      | true =>
        cases (FOps.convOk F FloatKind.f32 FloatKind.f64 x1) with
        | true =>
          cases (FOps.convOk F FloatKind.f32 FloatKind.f64 x3) with
          | true =>
            cases (Pure.laws_sameFloat F (FOps.conv F FloatKind.f32 FloatKind.f64 x1) (FOps.conv F FloatKind.f32 FloatKind.f64 x3)) with
            | true =>
              intro _; rfl
            | false =>
              intro _; rfl
          | false =>
            intro h; exact absurd h Bool.false_ne_true
        | false =>
          intro h; exact absurd h Bool.false_ne_true
      | false =>
        intro _; rfl
    | false =>
      intro h; exact absurd h Bool.false_ne_true
  | false =>
    intro h; exact absurd h Bool.false_ne_true
theorem ok_laws_eqState : CallOK Try.prog 18 (c_laws_eqState real) := by
  refine callOK_of fun args h ret hc => ?_
  unfold c_laws_eqState at hc
  split at hc
  · rename_i x0 x1 x2 x3
    obtain ⟨hok, rfl⟩ := some_ret hc
    exact holds_ev prog_ok (allOK_cons ok_laws_sameFloat allOK_nil) Try.func18 rfl rfl smL_nil rfl (e_laws_eqState real x0 x1 x2 x3 hok)
  · cases hc
def Pure.laws_FnExactMirrorState (F : FOps) (x0 : Int) (x1 : Int) : Bool := bif Pure.laws_eqState F (Pure.impl_MirrorState F x0 x1) (Pure.impl_MirrorState_1 F x0 x1) (Pure.spec_MirrorState F x0 x1) (Pure.spec_MirrorState_1 F x0 x1) then (Pure.impl_ValidState F x0 x1) == (Pure.spec_l07Is F x0 x1) else false
def Pure.laws_FnExactMirrorState_ok (F : FOps) (x0 : Int) (x1 : Int) : Bool := bif Pure.spec_MirrorState_ok F x0 x1 then bif Pure.impl_MirrorState_ok F x0 x1 then Pure.laws_eqState_ok F (Pure.impl_MirrorState F x0 x1) (Pure.impl_MirrorState_1 F x0 x1) (Pure.spec_MirrorState F x0 x1) (Pure.spec_MirrorState_1 F x0 x1) else false else false
def c_laws_FnExactMirrorState (F : FOps) : Con
  | [V.agg [A.fl FloatKind.f32 x0, A.fl FloatKind.f32 x1]], [] => some (Pure.laws_FnExactMirrorState_ok F x0 x1, ⟨V.at (A.bool (Pure.laws_FnExactMirrorState F x0 x1)), none, []⟩)
  | _, _ => none
theorem e_laws_FnExactMirrorState (F : FOps) (x0 : Int) (x1 : Int) : Pure.laws_FnExactMirrorState_ok F x0 x1 = true → evFn (cxS F tyl [(16, c_laws_toState F), (15, c_spec_MirrorState F), (17, c_impl_MirrorState F), (18, c_laws_eqState F)] [] [] 0) Try.f3 false [V.agg [A.fl FloatKind.f32 x0, A.fl FloatKind.f32 x1]] [] = some ⟨V.at (A.bool (Pure.laws_FnExactMirrorState F x0 x1)), none, []⟩ := by
  have h0 : evFn (cxS F tyl [(16, c_laws_toState F), (15, c_spec_MirrorState F), (17, c_impl_MirrorState F), (18, c_laws_eqState F)] [] [] 0) Try.f3 false [V.agg [A.fl FloatKind.f32 x0, A.fl FloatKind.f32 x1]] [] = bif Pure.spec_MirrorState_ok F x0 x1 then bif Pure.impl_MirrorState_ok F x0 x1 then bif Pure.laws_eqState_ok F (Pure.impl_MirrorState F x0 x1) (Pure.impl_MirrorState_1 F x0 x1) (Pure.spec_MirrorState F x0 x1) (Pure.spec_MirrorState_1 F x0 x1) then bif Bool.not (Pure.laws_eqState F (Pure.impl_MirrorState F x0 x1) (Pure.impl_MirrorState_1 F x0 x1) (Pure.spec_MirrorState F x0 x1) (Pure.spec_MirrorState_1 F x0 x1)) then some ⟨V.at (A.bool false), none, []⟩ else bif Bool.not ((Pure.impl_ValidState F x0 x1) == (Pure.spec_l07Is F x0 x1)) then some ⟨V.at (A.bool false), none, []⟩ else some ⟨V.at (A.bool true), none, []⟩ else none else none else none := by kernel_rfl
  rw [h0]
  unfold Pure.laws_FnExactMirrorState Pure.laws_FnExactMirrorState_ok
  cases (Pure.spec_MirrorState_ok F x0 x1) with
  | true =>
    cases (Pure.impl_MirrorState_ok F x0 x1) with
    | true =>
      cases (Pure.laws_eqState_ok F (Pure.impl_MirrorState F x0 x1) (Pure.impl_MirrorState_1 F x0 x1) (Pure.spec_MirrorState F x0 x1) (Pure.spec_MirrorState_1 F x0 x1)) with
      | true =>
        cases (Pure.laws_eqState F (Pure.impl_MirrorState F x0 x1) (Pure.impl_MirrorState_1 F x0 x1) (Pure.spec_MirrorState F x0 x1) (Pure.spec_MirrorState_1 F x0 x1)) with
        | true =>
          cases ((Pure.impl_ValidState F x0 x1) == (Pure.spec_l07Is F x0 x1)) with
          | true =>
            intro _; rfl
          | false =>
            intro _; rfl
        | false =>
          intro _; rfl
      | false =>
        intro h; exact absurd h Bool.false_ne_true
    | false =>
      intro h; exact absurd h Bool.false_ne_true
  | false =>
    intro h; exact absurd h Bool.false_ne_true
theorem ok_laws_FnExactMirrorState : CallOK Try.prog 3 (c_laws_FnExactMirrorState real) := by
  refine callOK_of fun args h ret hc => ?_
  unfold c_laws_FnExactMirrorState at hc
  split at hc
  · rename_i x0 x1
    obtain ⟨hok, rfl⟩ := some_ret hc
    exact holds_ev prog_ok (allOK_cons ok_laws_toState (allOK_cons ok_spec_MirrorState (allOK_cons ok_impl_MirrorState (allOK_cons ok_laws_eqState allOK_nil)))) Try.func3 rfl rfl smL_nil rfl (e_laws_FnExactMirrorState real x0 x1 hok)
  · cases hc
end Go.Fx
