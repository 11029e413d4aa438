import Derived.Test.YtodilhnddnoekaaXr7b
import Derived.KernelRfl
namespace Go.Fx
open Go.Proofs
set_option maxRecDepth 100000
def Pure.impl_lengthOk (F : FOps) (x0 : Int) : Bool := bif Pure.impl_IsFinite F x0 then F.cmp .gtr .f32 x0 0 else false
def c_impl_lengthOk (F : FOps) : Con
  | [V.at (A.fl .f32 x0)], [] => some (true, ⟨V.at (A.bool (Pure.impl_lengthOk F x0)), none, []⟩)
  | _, _ => none
theorem e_impl_lengthOk (F : FOps) (x0 : Int) : evFn (cxS F tyl [(90, c_impl_IsFinite F)] [] [] 0) Try.f64 false [V.at (A.fl .f32 x0)] [] = some ⟨V.at (A.bool (Pure.impl_lengthOk F x0)), none, []⟩ := by
  have h0 : evFn (cxS F tyl [(90, c_impl_IsFinite F)] [] [] 0) Try.f64 false [V.at (A.fl .f32 x0)] [] = bif Pure.impl_IsFinite F x0 then some ⟨V.at (A.bool (F.cmp .gtr .f32 x0 0)), none, []⟩ else some ⟨V.at (A.bool false), none, []⟩ := by kernel_rfl
  rw [h0]
  unfold Pure.impl_lengthOk
  cases (Pure.impl_IsFinite F x0) with
  | true =>
    rfl
  | false =>
    rfl
theorem ok_impl_lengthOk : CallOK Try.prog 64 (c_impl_lengthOk real) := by
  refine callOK_of fun args h ret hc => ?_
  unfold c_impl_lengthOk at hc
  split at hc
  · rename_i x0
    obtain ⟨_, rfl⟩ := some_ret hc
    exact holds_ev prog_ok (allOK_cons ok_impl_IsFinite allOK_nil) Try.func64 rfl rfl smL_nil rfl (e_impl_lengthOk real x0)
  · cases hc
def Pure.impl_flyOk (F : FOps) (x0 x1 x2 x3 x4 : Int) : Bool := bif Pure.impl_finiteVector F x0 x1 x2 then bif F.cmp .geq .f32 x3 0 then bif F.cmp .leq .f32 x3 1065353216 then Pure.impl_lengthOk F x4 else false else false else false
def Pure.impl_flyOk_ok (F : FOps) (x0 x1 x2 x3 x4 : Int) : Bool := Pure.impl_finiteVector_ok F x0 x1 x2
def c_impl_flyOk (F : FOps) : Con
  | [V.agg [A.fl .f32 x0, A.fl .f32 x1, A.fl .f32 x2], V.at (A.fl .f32 x3), V.at (A.fl .f32 x4)], [] => some (Pure.impl_flyOk_ok F x0 x1 x2 x3 x4, ⟨V.at (A.bool (Pure.impl_flyOk F x0 x1 x2 x3 x4)), none, []⟩)
  | _, _ => none
theorem e_impl_flyOk (F : FOps) (x0 x1 x2 x3 x4 : Int) : Pure.impl_flyOk_ok F x0 x1 x2 x3 x4 = true → evFn (cxS F tyl [(47, c_impl_finiteVector F), (64, c_impl_lengthOk F)] [] [] 0) Try.f33 false [V.agg [A.fl .f32 x0, A.fl .f32 x1, A.fl .f32 x2], V.at (A.fl .f32 x3), V.at (A.fl .f32 x4)] [] = some ⟨V.at (A.bool (Pure.impl_flyOk F x0 x1 x2 x3 x4)), none, []⟩ := by
  have h0 : evFn (cxS F tyl [(47, c_impl_finiteVector F), (64, c_impl_lengthOk F)] [] [] 0) Try.f33 false [V.agg [A.fl .f32 x0, A.fl .f32 x1, A.fl .f32 x2], V.at (A.fl .f32 x3), V.at (A.fl .f32 x4)] [] = bif Pure.impl_finiteVector_ok F x0 x1 x2 then bif Pure.impl_finiteVector F x0 x1 x2 then bif F.cmp .geq .f32 x3 0 then bif F.cmp .leq .f32 x3 1065353216 then some ⟨V.at (A.bool (Pure.impl_lengthOk F x4)), none, []⟩ else some ⟨V.at (A.bool false), none, []⟩ else some ⟨V.at (A.bool false), none, []⟩ else some ⟨V.at (A.bool false), none, []⟩ else none := by kernel_rfl
  rw [h0]
  unfold Pure.impl_flyOk Pure.impl_flyOk_ok
  cases (Pure.impl_finiteVector_ok F x0 x1 x2) with
  | true =>
    cases (Pure.impl_finiteVector F x0 x1 x2) with
    | true =>
      cases (F.cmp .geq .f32 x3 0) with
      | true =>
        cases (F.cmp .leq .f32 x3 1065353216) with
        | true =>
          intro _; rfl
        | false =>
          intro _; rfl
      | false =>
        intro _; rfl
    | false =>
      intro _; rfl
  | false =>
    intro h; exact absurd h Bool.false_ne_true
theorem ok_impl_flyOk : CallOK Try.prog 33 (c_impl_flyOk real) := by
  refine callOK_of fun args h ret hc => ?_
  unfold c_impl_flyOk at hc
  split at hc
  · rename_i x0 x1 x2 x3 x4
    obtain ⟨hok, rfl⟩ := some_ret hc
    exact holds_ev prog_ok (allOK_cons ok_impl_finiteVector (allOK_cons ok_impl_lengthOk allOK_nil)) Try.func33 rfl rfl smL_nil rfl (e_impl_flyOk real x0 x1 x2 x3 x4 hok)
  · cases hc
def c_impl_roundsOk (F : FOps) : Con
  | [V.at (A.int .i64 x0)], [] => some (true, ⟨V.at (A.bool (Pure.impl_in F x0 0 20)), none, []⟩)
  | _, _ => none
theorem e_impl_roundsOk (F : FOps) (x0 : Int) : evFn (cxS F tyl [(48, c_impl_in F)] [] [] 0) Try.f34 false [V.at (A.int .i64 x0)] [] = some ⟨V.at (A.bool (Pure.impl_in F x0 0 20)), none, []⟩ := by
  kernel_rfl
theorem ok_impl_roundsOk : CallOK Try.prog 34 (c_impl_roundsOk real) := by
  refine callOK_of fun args h ret hc => ?_
  unfold c_impl_roundsOk at hc
  split at hc
  · rename_i x0
    obtain ⟨_, rfl⟩ := some_ret hc
    exact holds_ev prog_ok (allOK_cons ok_impl_in allOK_nil) Try.func34 rfl rfl smL_nil rfl (e_impl_roundsOk real x0)
  · cases hc
def Pure.impl_LessVectors (F : FOps) (x0 x1 x2 x3 x4 x5 : Int) : Int := F.bin .sub .f32 x0 x3
def Pure.impl_LessVectors_1 (F : FOps) (x0 x1 x2 x3 x4 x5 : Int) : Int := F.bin .sub .f32 x1 x4
def Pure.impl_LessVectors_2 (F : FOps) (x0 x1 x2 x3 x4 x5 : Int) : Int := F.bin .sub .f32 x2 x5
def c_impl_LessVectors (F : FOps) : Con
  | [V.agg [A.fl .f32 x0, A.fl .f32 x1, A.fl .f32 x2], V.agg [A.fl .f32 x3, A.fl .f32 x4, A.fl .f32 x5]], [] => some (true, ⟨V.agg [A.fl .f32 (Pure.impl_LessVectors F x0 x1 x2 x3 x4 x5), A.fl .f32 (Pure.impl_LessVectors_1 F x0 x1 x2 x3 x4 x5), A.fl .f32 (Pure.impl_LessVectors_2 F x0 x1 x2 x3 x4 x5)], none, []⟩)
  | _, _ => none
theorem e_impl_LessVectors (F : FOps) (x0 x1 x2 x3 x4 x5 : Int) : evFn (cxS F tyl [] [] [] 0) Try.f50 false [V.agg [A.fl .f32 x0, A.fl .f32 x1, A.fl .f32 x2], V.agg [A.fl .f32 x3, A.fl .f32 x4, A.fl .f32 x5]] [] = some ⟨V.agg [A.fl .f32 (Pure.impl_LessVectors F x0 x1 x2 x3 x4 x5), A.fl .f32 (Pure.impl_LessVectors_1 F x0 x1 x2 x3 x4 x5), A.fl .f32 (Pure.impl_LessVectors_2 F x0 x1 x2 x3 x4 x5)], none, []⟩ := by
  kernel_rfl
theorem ok_impl_LessVectors : CallOK Try.prog 50 (c_impl_LessVectors real) := by
  refine callOK_of fun args h ret hc => ?_
  unfold c_impl_LessVectors at hc
  split at hc
  · rename_i x0 x1 x2 x3 x4 x5
    obtain ⟨_, rfl⟩ := some_ret hc
    exact holds_ev prog_ok allOK_nil Try.func50 rfl rfl smL_nil rfl (e_impl_LessVectors real x0 x1 x2 x3 x4 x5)
  · cases hc
def Pure.impl_ScaleVector (F : FOps) (x0 x1 x2 x3 : Int) : Int := F.bin .mul .f32 x0 x3
def Pure.impl_ScaleVector_1 (F : FOps) (x0 x1 x2 x3 : Int) : Int := F.bin .mul .f32 x1 x3
def Pure.impl_ScaleVector_2 (F : FOps) (x0 x1 x2 x3 : Int) : Int := F.bin .mul .f32 x2 x3
def c_impl_ScaleVector (F : FOps) : Con
  | [V.agg [A.fl .f32 x0, A.fl .f32 x1, A.fl .f32 x2], V.at (A.fl .f32 x3)], [] => some (true, ⟨V.agg [A.fl .f32 (Pure.impl_ScaleVector F x0 x1 x2 x3), A.fl .f32 (Pure.impl_ScaleVector_1 F x0 x1 x2 x3), A.fl .f32 (Pure.impl_ScaleVector_2 F x0 x1 x2 x3)], none, []⟩)
  | _, _ => none
theorem e_impl_ScaleVector (F : FOps) (x0 x1 x2 x3 : Int) : evFn (cxS F tyl [] [] [] 0) Try.f77 false [V.agg [A.fl .f32 x0, A.fl .f32 x1, A.fl .f32 x2], V.at (A.fl .f32 x3)] [] = some ⟨V.agg [A.fl .f32 (Pure.impl_ScaleVector F x0 x1 x2 x3), A.fl .f32 (Pure.impl_ScaleVector_1 F x0 x1 x2 x3), A.fl .f32 (Pure.impl_ScaleVector_2 F x0 x1 x2 x3)], none, []⟩ := by
  kernel_rfl
theorem ok_impl_ScaleVector : CallOK Try.prog 77 (c_impl_ScaleVector real) := by
  refine callOK_of fun args h ret hc => ?_
  unfold c_impl_ScaleVector at hc
  split at hc
  · rename_i x0 x1 x2 x3
    obtain ⟨_, rfl⟩ := some_ret hc
    exact holds_ev prog_ok allOK_nil Try.func77 rfl rfl smL_nil rfl (e_impl_ScaleVector real x0 x1 x2 x3)
  · cases hc
def Pure.impl_AddVectors (F : FOps) (x0 x1 x2 x3 x4 x5 : Int) : Int := F.bin .add .f32 x0 x3
def Pure.impl_AddVectors_1 (F : FOps) (x0 x1 x2 x3 x4 x5 : Int) : Int := F.bin .add .f32 x1 x4
def Pure.impl_AddVectors_2 (F : FOps) (x0 x1 x2 x3 x4 x5 : Int) : Int := F.bin .add .f32 x2 x5
def c_impl_AddVectors (F : FOps) : Con
  | [V.agg [A.fl .f32 x0, A.fl .f32 x1, A.fl .f32 x2], V.agg [A.fl .f32 x3, A.fl .f32 x4, A.fl .f32 x5]], [] => some (true, ⟨V.agg [A.fl .f32 (Pure.impl_AddVectors F x0 x1 x2 x3 x4 x5), A.fl .f32 (Pure.impl_AddVectors_1 F x0 x1 x2 x3 x4 x5), A.fl .f32 (Pure.impl_AddVectors_2 F x0 x1 x2 x3 x4 x5)], none, []⟩)
  | _, _ => none
theorem e_impl_AddVectors (F : FOps) (x0 x1 x2 x3 x4 x5 : Int) : evFn (cxS F tyl [] [] [] 0) Try.f91 false [V.agg [A.fl .f32 x0, A.fl .f32 x1, A.fl .f32 x2], V.agg [A.fl .f32 x3, A.fl .f32 x4, A.fl .f32 x5]] [] = some ⟨V.agg [A.fl .f32 (Pure.impl_AddVectors F x0 x1 x2 x3 x4 x5), A.fl .f32 (Pure.impl_AddVectors_1 F x0 x1 x2 x3 x4 x5), A.fl .f32 (Pure.impl_AddVectors_2 F x0 x1 x2 x3 x4 x5)], none, []⟩ := by
  kernel_rfl
theorem ok_impl_AddVectors : CallOK Try.prog 91 (c_impl_AddVectors real) := by
  refine callOK_of fun args h ret hc => ?_
  unfold c_impl_AddVectors at hc
  split at hc
  · rename_i x0 x1 x2 x3 x4 x5
    obtain ⟨_, rfl⟩ := some_ret hc
    exact holds_ev prog_ok allOK_nil Try.func91 rfl rfl smL_nil rfl (e_impl_AddVectors real x0 x1 x2 x3 x4 x5)
  · cases hc
def Pure.impl_Chain_fly_L0 (F : FOps) (y0 y1 y2 : Int) (y6 y7 : List (List Int)) (y8 y9 y10 : Int) : Nat → Int → (List (List Int)) → (List (List Int)) → (Bool × (List (List Int)) × (List (List Int)))
  | 0, _, _, _ => (false, [], [])
  | n + 1, y3, y4, y5 => bif (decide (y3 < y2)) then (bif (decide (0 ≤ y3)) then (bif (decide (y3 < (Int.ofNat y4.length))) then (bif (decide (0 ≤ y3)) then (bif (decide (y3 < (Int.ofNat y6.length))) then (bif (F.cmp .neq .f32 ((y6.getD y3.toNat []).getD 0 0) 0) then (bif (decide (0 ≤ y3)) then (bif (decide (y3 < (Int.ofNat y5.length))) then (bif (decide (0 ≤ y3)) then (bif (decide (y3 < (Int.ofNat y4.length))) then (bif (decide (0 ≤ y3)) then (bif (decide (y3 < (Int.ofNat y5.length))) then (Pure.impl_Chain_fly_L0 F y0 y1 y2 y6 y7 y8 y9 y10 n (IntKind.wrap .i64 (y3 + 1)) (List.set y4 (Int.toNat y3) [Pure.impl_AddVectors F (Pure.impl_AddVectors F ((y4.getD y3.toNat []).getD 0 0) ((y4.getD y3.toNat []).getD 1 0) ((y4.getD y3.toNat []).getD 2 0) (Pure.impl_ScaleVector F (Pure.impl_LessVectors F ((y4.getD y3.toNat []).getD 0 0) ((y4.getD y3.toNat []).getD 1 0) ((y4.getD y3.toNat []).getD 2 0) ((y5.getD y3.toNat []).getD 0 0) ((y5.getD y3.toNat []).getD 1 0) ((y5.getD y3.toNat []).getD 2 0)) (Pure.impl_LessVectors_1 F ((y4.getD y3.toNat []).getD 0 0) ((y4.getD y3.toNat []).getD 1 0) ((y4.getD y3.toNat []).getD 2 0) ((y5.getD y3.toNat []).getD 0 0) ((y5.getD y3.toNat []).getD 1 0) ((y5.getD y3.toNat []).getD 2 0)) (Pure.impl_LessVectors_2 F ((y4.getD y3.toNat []).getD 0 0) ((y4.getD y3.toNat []).getD 1 0) ((y4.getD y3.toNat []).getD 2 0) ((y5.getD y3.toNat []).getD 0 0) ((y5.getD y3.toNat []).getD 1 0) ((y5.getD y3.toNat []).getD 2 0)) y0) (Pure.impl_ScaleVector_1 F (Pure.impl_LessVectors F ((y4.getD y3.toNat []).getD 0 0) ((y4.getD y3.toNat []).getD 1 0) ((y4.getD y3.toNat []).getD 2 0) ((y5.getD y3.toNat []).getD 0 0) ((y5.getD y3.toNat []).getD 1 0) ((y5.getD y3.toNat []).getD 2 0)) (Pure.impl_LessVectors_1 F ((y4.getD y3.toNat []).getD 0 0) ((y4.getD y3.toNat []).getD 1 0) ((y4.getD y3.toNat []).getD 2 0) ((y5.getD y3.toNat []).getD 0 0) ((y5.getD y3.toNat []).getD 1 0) ((y5.getD y3.toNat []).getD 2 0)) (Pure.impl_LessVectors_2 F ((y4.getD y3.toNat []).getD 0 0) ((y4.getD y3.toNat []).getD 1 0) ((y4.getD y3.toNat []).getD 2 0) ((y5.getD y3.toNat []).getD 0 0) ((y5.getD y3.toNat []).getD 1 0) ((y5.getD y3.toNat []).getD 2 0)) y0) (Pure.impl_ScaleVector_2 F (Pure.impl_LessVectors F ((y4.getD y3.toNat []).getD 0 0) ((y4.getD y3.toNat []).getD 1 0) ((y4.getD y3.toNat []).getD 2 0) ((y5.getD y3.toNat []).getD 0 0) ((y5.getD y3.toNat []).getD 1 0) ((y5.getD y3.toNat []).getD 2 0)) (Pure.impl_LessVectors_1 F ((y4.getD y3.toNat []).getD 0 0) ((y4.getD y3.toNat []).getD 1 0) ((y4.getD y3.toNat []).getD 2 0) ((y5.getD y3.toNat []).getD 0 0) ((y5.getD y3.toNat []).getD 1 0) ((y5.getD y3.toNat []).getD 2 0)) (Pure.impl_LessVectors_2 F ((y4.getD y3.toNat []).getD 0 0) ((y4.getD y3.toNat []).getD 1 0) ((y4.getD y3.toNat []).getD 2 0) ((y5.getD y3.toNat []).getD 0 0) ((y5.getD y3.toNat []).getD 1 0) ((y5.getD y3.toNat []).getD 2 0)) y0)) (Pure.impl_AddVectors_1 F ((y4.getD y3.toNat []).getD 0 0) ((y4.getD y3.toNat []).getD 1 0) ((y4.getD y3.toNat []).getD 2 0) (Pure.impl_ScaleVector F (Pure.impl_LessVectors F ((y4.getD y3.toNat []).getD 0 0) ((y4.getD y3.toNat []).getD 1 0) ((y4.getD y3.toNat []).getD 2 0) ((y5.getD y3.toNat []).getD 0 0) ((y5.getD y3.toNat []).getD 1 0) ((y5.getD y3.toNat []).getD 2 0)) (Pure.impl_LessVectors_1 F ((y4.getD y3.toNat []).getD 0 0) ((y4.getD y3.toNat []).getD 1 0) ((y4.getD y3.toNat []).getD 2 0) ((y5.getD y3.toNat []).getD 0 0) ((y5.getD y3.toNat []).getD 1 0) ((y5.getD y3.toNat []).getD 2 0)) (Pure.impl_LessVectors_2 F ((y4.getD y3.toNat []).getD 0 0) ((y4.getD y3.toNat []).getD 1 0) ((y4.getD y3.toNat []).getD 2 0) ((y5.getD y3.toNat []).getD 0 0) ((y5.getD y3.toNat []).getD 1 0) ((y5.getD y3.toNat []).getD 2 0)) y0) (Pure.impl_ScaleVector_1 F (Pure.impl_LessVectors F ((y4.getD y3.toNat []).getD 0 0) ((y4.getD y3.toNat []).getD 1 0) ((y4.getD y3.toNat []).getD 2 0) ((y5.getD y3.toNat []).getD 0 0) ((y5.getD y3.toNat []).getD 1 0) ((y5.getD y3.toNat []).getD 2 0)) (Pure.impl_LessVectors_1 F ((y4.getD y3.toNat []).getD 0 0) ((y4.getD y3.toNat []).getD 1 0) ((y4.getD y3.toNat []).getD 2 0) ((y5.getD y3.toNat []).getD 0 0) ((y5.getD y3.toNat []).getD 1 0) ((y5.getD y3.toNat []).getD 2 0)) (Pure.impl_LessVectors_2 F ((y4.getD y3.toNat []).getD 0 0) ((y4.getD y3.toNat []).getD 1 0) ((y4.getD y3.toNat []).getD 2 0) ((y5.getD y3.toNat []).getD 0 0) ((y5.getD y3.toNat []).getD 1 0) ((y5.getD y3.toNat []).getD 2 0)) y0) (Pure.impl_ScaleVector_2 F (Pure.impl_LessVectors F ((y4.getD y3.toNat []).getD 0 0) ((y4.getD y3.toNat []).getD 1 0) ((y4.getD y3.toNat []).getD 2 0) ((y5.getD y3.toNat []).getD 0 0) ((y5.getD y3.toNat []).getD 1 0) ((y5.getD y3.toNat []).getD 2 0)) (Pure.impl_LessVectors_1 F ((y4.getD y3.toNat []).getD 0 0) ((y4.getD y3.toNat []).getD 1 0) ((y4.getD y3.toNat []).getD 2 0) ((y5.getD y3.toNat []).getD 0 0) ((y5.getD y3.toNat []).getD 1 0) ((y5.getD y3.toNat []).getD 2 0)) (Pure.impl_LessVectors_2 F ((y4.getD y3.toNat []).getD 0 0) ((y4.getD y3.toNat []).getD 1 0) ((y4.getD y3.toNat []).getD 2 0) ((y5.getD y3.toNat []).getD 0 0) ((y5.getD y3.toNat []).getD 1 0) ((y5.getD y3.toNat []).getD 2 0)) y0)) (Pure.impl_AddVectors_2 F ((y4.getD y3.toNat []).getD 0 0) ((y4.getD y3.toNat []).getD 1 0) ((y4.getD y3.toNat []).getD 2 0) (Pure.impl_ScaleVector F (Pure.impl_LessVectors F ((y4.getD y3.toNat []).getD 0 0) ((y4.getD y3.toNat []).getD 1 0) ((y4.getD y3.toNat []).getD 2 0) ((y5.getD y3.toNat []).getD 0 0) ((y5.getD y3.toNat []).getD 1 0) ((y5.getD y3.toNat []).getD 2 0)) (Pure.impl_LessVectors_1 F ((y4.getD y3.toNat []).getD 0 0) ((y4.getD y3.toNat []).getD 1 0) ((y4.getD y3.toNat []).getD 2 0) ((y5.getD y3.toNat []).getD 0 0) ((y5.getD y3.toNat []).getD 1 0) ((y5.getD y3.toNat []).getD 2 0)) (Pure.impl_LessVectors_2 F ((y4.getD y3.toNat []).getD 0 0) ((y4.getD y3.toNat []).getD 1 0) ((y4.getD y3.toNat []).getD 2 0) ((y5.getD y3.toNat []).getD 0 0) ((y5.getD y3.toNat []).getD 1 0) ((y5.getD y3.toNat []).getD 2 0)) y0) (Pure.impl_ScaleVector_1 F (Pure.impl_LessVectors F ((y4.getD y3.toNat []).getD 0 0) ((y4.getD y3.toNat []).getD 1 0) ((y4.getD y3.toNat []).getD 2 0) ((y5.getD y3.toNat []).getD 0 0) ((y5.getD y3.toNat []).getD 1 0) ((y5.getD y3.toNat []).getD 2 0)) (Pure.impl_LessVectors_1 F ((y4.getD y3.toNat []).getD 0 0) ((y4.getD y3.toNat []).getD 1 0) ((y4.getD y3.toNat []).getD 2 0) ((y5.getD y3.toNat []).getD 0 0) ((y5.getD y3.toNat []).getD 1 0) ((y5.getD y3.toNat []).getD 2 0)) (Pure.impl_LessVectors_2 F ((y4.getD y3.toNat []).getD 0 0) ((y4.getD y3.toNat []).getD 1 0) ((y4.getD y3.toNat []).getD 2 0) ((y5.getD y3.toNat []).getD 0 0) ((y5.getD y3.toNat []).getD 1 0) ((y5.getD y3.toNat []).getD 2 0)) y0) (Pure.impl_ScaleVector_2 F (Pure.impl_LessVectors F ((y4.getD y3.toNat []).getD 0 0) ((y4.getD y3.toNat []).getD 1 0) ((y4.getD y3.toNat []).getD 2 0) ((y5.getD y3.toNat []).getD 0 0) ((y5.getD y3.toNat []).getD 1 0) ((y5.getD y3.toNat []).getD 2 0)) (Pure.impl_LessVectors_1 F ((y4.getD y3.toNat []).getD 0 0) ((y4.getD y3.toNat []).getD 1 0) ((y4.getD y3.toNat []).getD 2 0) ((y5.getD y3.toNat []).getD 0 0) ((y5.getD y3.toNat []).getD 1 0) ((y5.getD y3.toNat []).getD 2 0)) (Pure.impl_LessVectors_2 F ((y4.getD y3.toNat []).getD 0 0) ((y4.getD y3.toNat []).getD 1 0) ((y4.getD y3.toNat []).getD 2 0) ((y5.getD y3.toNat []).getD 0 0) ((y5.getD y3.toNat []).getD 1 0) ((y5.getD y3.toNat []).getD 2 0)) y0)) (Pure.impl_ScaleVector F y8 y9 y10 (F.bin .mul .f32 y1 y1)) (Pure.impl_ScaleVector_1 F y8 y9 y10 (F.bin .mul .f32 y1 y1)) (Pure.impl_ScaleVector_2 F y8 y9 y10 (F.bin .mul .f32 y1 y1)), Pure.impl_AddVectors_1 F (Pure.impl_AddVectors F ((y4.getD y3.toNat []).getD 0 0) ((y4.getD y3.toNat []).getD 1 0) ((y4.getD y3.toNat []).getD 2 0) (Pure.impl_ScaleVector F (Pure.impl_LessVectors F ((y4.getD y3.toNat []).getD 0 0) ((y4.getD y3.toNat []).getD 1 0) ((y4.getD y3.toNat []).getD 2 0) ((y5.getD y3.toNat []).getD 0 0) ((y5.getD y3.toNat []).getD 1 0) ((y5.getD y3.toNat []).getD 2 0)) (Pure.impl_LessVectors_1 F ((y4.getD y3.toNat []).getD 0 0) ((y4.getD y3.toNat []).getD 1 0) ((y4.getD y3.toNat []).getD 2 0) ((y5.getD y3.toNat []).getD 0 0) ((y5.getD y3.toNat []).getD 1 0) ((y5.getD y3.toNat []).getD 2 0)) (Pure.impl_LessVectors_2 F ((y4.getD y3.toNat []).getD 0 0) ((y4.getD y3.toNat []).getD 1 0) ((y4.getD y3.toNat []).getD 2 0) ((y5.getD y3.toNat []).getD 0 0) ((y5.getD y3.toNat []).getD 1 0) ((y5.getD y3.toNat []).getD 2 0)) y0) (Pure.impl_ScaleVector_1 F (Pure.impl_LessVectors F ((y4.getD y3.toNat []).getD 0 0) ((y4.getD y3.toNat []).getD 1 0) ((y4.getD y3.toNat []).getD 2 0) ((y5.getD y3.toNat []).getD 0 0) ((y5.getD y3.toNat []).getD 1 0) ((y5.getD y3.toNat []).getD 2 0)) (Pure.impl_LessVectors_1 F ((y4.getD y3.toNat []).getD 0 0) ((y4.getD y3.toNat []).getD 1 0) ((y4.getD y3.toNat []).getD 2 0) ((y5.getD y3.toNat []).getD 0 0) ((y5.getD y3.toNat []).getD 1 0) ((y5.getD y3.toNat []).getD 2 0)) (Pure.impl_LessVectors_2 F ((y4.getD y3.toNat []).getD 0 0) ((y4.getD y3.toNat []).getD 1 0) ((y4.getD y3.toNat []).getD 2 0) ((y5.getD y3.toNat []).getD 0 0) ((y5.getD y3.toNat []).getD 1 0) ((y5.getD y3.toNat []).getD 2 0)) y0) (Pure.impl_ScaleVector_2 F (Pure.impl_LessVectors F ((y4.getD y3.toNat []).getD 0 0) ((y4.getD y3.toNat []).getD 1 0) ((y4.getD y3.toNat []).getD 2 0) ((y5.getD y3.toNat []).getD 0 0) ((y5.getD y3.toNat []).getD 1 0) ((y5.getD y3.toNat []).getD 2 0)) (Pure.impl_LessVectors_1 F ((y4.getD y3.toNat []).getD 0 0) ((y4.getD y3.toNat []).getD 1 0) ((y4.getD y3.toNat []).getD 2 0) ((y5.getD y3.toNat []).getD 0 0) ((y5.getD y3.toNat []).getD 1 0) ((y5.getD y3.toNat []).getD 2 0)) (Pure.impl_LessVectors_2 F ((y4.getD y3.toNat []).getD 0 0) ((y4.getD y3.toNat []).getD 1 0) ((y4.getD y3.toNat []).getD 2 0) ((y5.getD y3.toNat []).getD 0 0) ((y5.getD y3.toNat []).getD 1 0) ((y5.getD y3.toNat []).getD 2 0)) y0)) (Pure.impl_AddVectors_1 F ((y4.getD y3.toNat []).getD 0 0) ((y4.getD y3.toNat []).getD 1 0) ((y4.getD y3.toNat []).getD 2 0) (Pure.impl_ScaleVector F (Pure.impl_LessVectors F ((y4.getD y3.toNat []).getD 0 0) ((y4.getD y3.toNat []).getD 1 0) ((y4.getD y3.toNat []).getD 2 0) ((y5.getD y3.toNat []).getD 0 0) ((y5.getD y3.toNat []).getD 1 0) ((y5.getD y3.toNat []).getD 2 0)) (Pure.impl_LessVectors_1 F ((y4.getD y3.toNat []).getD 0 0) ((y4.getD y3.toNat []).getD 1 0) ((y4.getD y3.toNat []).getD 2 0) ((y5.getD y3.toNat []).getD 0 0) ((y5.getD y3.toNat []).getD 1 0) ((y5.getD y3.toNat []).getD 2 0)) (Pure.impl_LessVectors_2 F ((y4.getD y3.toNat []).getD 0 0) ((y4.getD y3.toNat []).getD 1 0) ((y4.getD y3.toNat []).getD 2 0) ((y5.getD y3.toNat []).getD 0 0) ((y5.getD y3.toNat []).getD 1 0) ((y5.getD y3.toNat []).getD 2 0)) y0) (Pure.impl_ScaleVector_1 F (Pure.impl_LessVectors F ((y4.getD y3.toNat []).getD 0 0) ((y4.getD y3.toNat []).getD 1 0) ((y4.getD y3.toNat []).getD 2 0) ((y5.getD y3.toNat []).getD 0 0) ((y5.getD y3.toNat []).getD 1 0) ((y5.getD y3.toNat []).getD 2 0)) (Pure.impl_LessVectors_1 F ((y4.getD y3.toNat []).getD 0 0) ((y4.getD y3.toNat []).getD 1 0) ((y4.getD y3.toNat []).getD 2 0) ((y5.getD y3.toNat []).getD 0 0) ((y5.getD y3.toNat []).getD 1 0) ((y5.getD y3.toNat []).getD 2 0)) (Pure.impl_LessVectors_2 F ((y4.getD y3.toNat []).getD 0 0) ((y4.getD y3.toNat []).getD 1 0) ((y4.getD y3.toNat []).getD 2 0) ((y5.getD y3.toNat []).getD 0 0) ((y5.getD y3.toNat []).getD 1 0) ((y5.getD y3.toNat []).getD 2 0)) y0) (Pure.impl_ScaleVector_2 F (Pure.impl_LessVectors F ((y4.getD y3.toNat []).getD 0 0) ((y4.getD y3.toNat []).getD 1 0) ((y4.getD y3.toNat []).getD 2 0) ((y5.getD y3.toNat []).getD 0 0) ((y5.getD y3.toNat []).getD 1 0) ((y5.getD y3.toNat []).getD 2 0)) (Pure.impl_LessVectors_1 F ((y4.getD y3.toNat []).getD 0 0) ((y4.getD y3.toNat []).getD 1 0) ((y4.getD y3.toNat []).getD 2 0) ((y5.getD y3.toNat []).getD 0 0) ((y5.getD y3.toNat []).getD 1 0) ((y5.getD y3.toNat []).getD 2 0)) (Pure.impl_LessVectors_2 F ((y4.getD y3.toNat []).getD 0 0) ((y4.getD y3.toNat []).getD 1 0) ((y4.getD y3.toNat []).getD 2 0) ((y5.getD y3.toNat []).getD 0 0) ((y5.getD y3.toNat []).getD 1 0) ((y5.getD y3.toNat []).getD 2 0)) y0)) (Pure.impl_AddVectors_2 F ((y4.getD y3.toNat []).getD 0 0) ((y4.getD y3.toNat []).getD 1 0) ((y4.getD y3.toNat []).getD 2 0) (Pure.impl_ScaleVector F (Pure.impl_LessVectors F ((y4.getD y3.toNat []).getD 0 0) ((y4.getD y3.toNat []).getD 1 0) ((y4.getD y3.toNat []).getD 2 0) ((y5.getD y3.toNat []).getD 0 0) ((y5.getD y3.toNat []).getD 1 0) ((y5.getD y3.toNat []).getD 2 0)) (Pure.impl_LessVectors_1 F ((y4.getD y3.toNat []).getD 0 0) ((y4.getD y3.toNat []).getD 1 0) ((y4.getD y3.toNat []).getD 2 0) ((y5.getD y3.toNat []).getD 0 0) ((y5.getD y3.toNat []).getD 1 0) ((y5.getD y3.toNat []).getD 2 0)) (Pure.impl_LessVectors_2 F ((y4.getD y3.toNat []).getD 0 0) ((y4.getD y3.toNat []).getD 1 0) ((y4.getD y3.toNat []).getD 2 0) ((y5.getD y3.toNat []).getD 0 0) ((y5.getD y3.toNat []).getD 1 0) ((y5.getD y3.toNat []).getD 2 0)) y0) (Pure.impl_ScaleVector_1 F (Pure.impl_LessVectors F ((y4.getD y3.toNat []).getD 0 0) ((y4.getD y3.toNat []).getD 1 0) ((y4.getD y3.toNat []).getD 2 0) ((y5.getD y3.toNat []).getD 0 0) ((y5.getD y3.toNat []).getD 1 0) ((y5.getD y3.toNat []).getD 2 0)) (Pure.impl_LessVectors_1 F ((y4.getD y3.toNat []).getD 0 0) ((y4.getD y3.toNat []).getD 1 0) ((y4.getD y3.toNat []).getD 2 0) ((y5.getD y3.toNat []).getD 0 0) ((y5.getD y3.toNat []).getD 1 0) ((y5.getD y3.toNat []).getD 2 0)) (Pure.impl_LessVectors_2 F ((y4.getD y3.toNat []).getD 0 0) ((y4.getD y3.toNat []).getD 1 0) ((y4.getD y3.toNat []).getD 2 0) ((y5.getD y3.toNat []).getD 0 0) ((y5.getD y3.toNat []).getD 1 0) ((y5.getD y3.toNat []).getD 2 0)) y0) (Pure.impl_ScaleVector_2 F (Pure.impl_LessVectors F ((y4.getD y3.toNat []).getD 0 0) ((y4.getD y3.toNat []).getD 1 0) ((y4.getD y3.toNat []).getD 2 0) ((y5.getD y3.toNat []).getD 0 0) ((y5.getD y3.toNat []).getD 1 0) ((y5.getD y3.toNat []).getD 2 0)) (Pure.impl_LessVectors_1 F ((y4.getD y3.toNat []).getD 0 0) ((y4.getD y3.toNat []).getD 1 0) ((y4.getD y3.toNat []).getD 2 0) ((y5.getD y3.toNat []).getD 0 0) ((y5.getD y3.toNat []).getD 1 0) ((y5.getD y3.toNat []).getD 2 0)) (Pure.impl_LessVectors_2 F ((y4.getD y3.toNat []).getD 0 0) ((y4.getD y3.toNat []).getD 1 0) ((y4.getD y3.toNat []).getD 2 0) ((y5.getD y3.toNat []).getD 0 0) ((y5.getD y3.toNat []).getD 1 0) ((y5.getD y3.toNat []).getD 2 0)) y0)) (Pure.impl_ScaleVector F y8 y9 y10 (F.bin .mul .f32 y1 y1)) (Pure.impl_ScaleVector_1 F y8 y9 y10 (F.bin .mul .f32 y1 y1)) (Pure.impl_ScaleVector_2 F y8 y9 y10 (F.bin .mul .f32 y1 y1)), Pure.impl_AddVectors_2 F (Pure.impl_AddVectors F ((y4.getD y3.toNat []).getD 0 0) ((y4.getD y3.toNat []).getD 1 0) ((y4.getD y3.toNat []).getD 2 0) (Pure.impl_ScaleVector F (Pure.impl_LessVectors F ((y4.getD y3.toNat []).getD 0 0) ((y4.getD y3.toNat []).getD 1 0) ((y4.getD y3.toNat []).getD 2 0) ((y5.getD y3.toNat []).getD 0 0) ((y5.getD y3.toNat []).getD 1 0) ((y5.getD y3.toNat []).getD 2 0)) (Pure.impl_LessVectors_1 F ((y4.getD y3.toNat []).getD 0 0) ((y4.getD y3.toNat []).getD 1 0) ((y4.getD y3.toNat []).getD 2 0) ((y5.getD y3.toNat []).getD 0 0) ((y5.getD y3.toNat []).getD 1 0) ((y5.getD y3.toNat []).getD 2 0)) (Pure.impl_LessVectors_2 F ((y4.getD y3.toNat []).getD 0 0) ((y4.getD y3.toNat []).getD 1 0) ((y4.getD y3.toNat []).getD 2 0) ((y5.getD y3.toNat []).getD 0 0) ((y5.getD y3.toNat []).getD 1 0) ((y5.getD y3.toNat []).getD 2 0)) y0) (Pure.impl_ScaleVector_1 F (Pure.impl_LessVectors F ((y4.getD y3.toNat []).getD 0 0) ((y4.getD y3.toNat []).getD 1 0) ((y4.getD y3.toNat []).getD 2 0) ((y5.getD y3.toNat []).getD 0 0) ((y5.getD y3.toNat []).getD 1 0) ((y5.getD y3.toNat []).getD 2 0)) (Pure.impl_LessVectors_1 F ((y4.getD y3.toNat []).getD 0 0) ((y4.getD y3.toNat []).getD 1 0) ((y4.getD y3.toNat []).getD 2 0) ((y5.getD y3.toNat []).getD 0 0) ((y5.getD y3.toNat []).getD 1 0) ((y5.getD y3.toNat []).getD 2 0)) (Pure.impl_LessVectors_2 F ((y4.getD y3.toNat []).getD 0 0) ((y4.getD y3.toNat []).getD 1 0) ((y4.getD y3.toNat []).getD 2 0) ((y5.getD y3.toNat []).getD 0 0) ((y5.getD y3.toNat []).getD 1 0) ((y5.getD y3.toNat []).getD 2 0)) y0) (Pure.impl_ScaleVector_2 F (Pure.impl_LessVectors F ((y4.getD y3.toNat []).getD 0 0) ((y4.getD y3.toNat []).getD 1 0) ((y4.getD y3.toNat []).getD 2 0) ((y5.getD y3.toNat []).getD 0 0) ((y5.getD y3.toNat []).getD 1 0) ((y5.getD y3.toNat []).getD 2 0)) (Pure.impl_LessVectors_1 F ((y4.getD y3.toNat []).getD 0 0) ((y4.getD y3.toNat []).getD 1 0) ((y4.getD y3.toNat []).getD 2 0) ((y5.getD y3.toNat []).getD 0 0) ((y5.getD y3.toNat []).getD 1 0) ((y5.getD y3.toNat []).getD 2 0)) (Pure.impl_LessVectors_2 F ((y4.getD y3.toNat []).getD 0 0) ((y4.getD y3.toNat []).getD 1 0) ((y4.getD y3.toNat []).getD 2 0) ((y5.getD y3.toNat []).getD 0 0) ((y5.getD y3.toNat []).getD 1 0) ((y5.getD y3.toNat []).getD 2 0)) y0)) (Pure.impl_AddVectors_1 F ((y4.getD y3.toNat []).getD 0 0) ((y4.getD y3.toNat []).getD 1 0) ((y4.getD y3.toNat []).getD 2 0) (Pure.impl_ScaleVector F (Pure.impl_LessVectors F ((y4.getD y3.toNat []).getD 0 0) ((y4.getD y3.toNat []).getD 1 0) ((y4.getD y3.toNat []).getD 2 0) ((y5.getD y3.toNat []).getD 0 0) ((y5.getD y3.toNat []).getD 1 0) ((y5.getD y3.toNat []).getD 2 0)) (Pure.impl_LessVectors_1 F ((y4.getD y3.toNat []).getD 0 0) ((y4.getD y3.toNat []).getD 1 0) ((y4.getD y3.toNat []).getD 2 0) ((y5.getD y3.toNat []).getD 0 0) ((y5.getD y3.toNat []).getD 1 0) ((y5.getD y3.toNat []).getD 2 0)) (Pure.impl_LessVectors_2 F ((y4.getD y3.toNat []).getD 0 0) ((y4.getD y3.toNat []).getD 1 0) ((y4.getD y3.toNat []).getD 2 0) ((y5.getD y3.toNat []).getD 0 0) ((y5.getD y3.toNat []).getD 1 0) ((y5.getD y3.toNat []).getD 2 0)) y0) (Pure.impl_ScaleVector_1 F (Pure.impl_LessVectors F ((y4.getD y3.toNat []).getD 0 0) ((y4.getD y3.toNat []).getD 1 0) ((y4.getD y3.toNat []).getD 2 0) ((y5.getD y3.toNat []).getD 0 0) ((y5.getD y3.toNat []).getD 1 0) ((y5.getD y3.toNat []).getD 2 0)) (Pure.impl_LessVectors_1 F ((y4.getD y3.toNat []).getD 0 0) ((y4.getD y3.toNat []).getD 1 0) ((y4.getD y3.toNat []).getD 2 0) ((y5.getD y3.toNat []).getD 0 0) ((y5.getD y3.toNat []).getD 1 0) ((y5.getD y3.toNat []).getD 2 0)) (Pure.impl_LessVectors_2 F ((y4.getD y3.toNat []).getD 0 0) ((y4.getD y3.toNat []).getD 1 0) ((y4.getD y3.toNat []).getD 2 0) ((y5.getD y3.toNat []).getD 0 0) ((y5.getD y3.toNat []).getD 1 0) ((y5.getD y3.toNat []).getD 2 0)) y0) (Pure.impl_ScaleVector_2 F (Pure.impl_LessVectors F ((y4.getD y3.toNat []).getD 0 0) ((y4.getD y3.toNat []).getD 1 0) ((y4.getD y3.toNat []).getD 2 0) ((y5.getD y3.toNat []).getD 0 0) ((y5.getD y3.toNat []).getD 1 0) ((y5.getD y3.toNat []).getD 2 0)) (Pure.impl_LessVectors_1 F ((y4.getD y3.toNat []).getD 0 0) ((y4.getD y3.toNat []).getD 1 0) ((y4.getD y3.toNat []).getD 2 0) ((y5.getD y3.toNat []).getD 0 0) ((y5.getD y3.toNat []).getD 1 0) ((y5.getD y3.toNat []).getD 2 0)) (Pure.impl_LessVectors_2 F ((y4.getD y3.toNat []).getD 0 0) ((y4.getD y3.toNat []).getD 1 0) ((y4.getD y3.toNat []).getD 2 0) ((y5.getD y3.toNat []).getD 0 0) ((y5.getD y3.toNat []).getD 1 0) ((y5.getD y3.toNat []).getD 2 0)) y0)) (Pure.impl_AddVectors_2 F ((y4.getD y3.toNat []).getD 0 0) ((y4.getD y3.toNat []).getD 1 0) ((y4.getD y3.toNat []).getD 2 0) (Pure.impl_ScaleVector F (Pure.impl_LessVectors F ((y4.getD y3.toNat []).getD 0 0) ((y4.getD y3.toNat []).getD 1 0) ((y4.getD y3.toNat []).getD 2 0) ((y5.getD y3.toNat []).getD 0 0) ((y5.getD y3.toNat []).getD 1 0) ((y5.getD y3.toNat []).getD 2 0)) (Pure.impl_LessVectors_1 F ((y4.getD y3.toNat []).getD 0 0) ((y4.getD y3.toNat []).getD 1 0) ((y4.getD y3.toNat []).getD 2 0) ((y5.getD y3.toNat []).getD 0 0) ((y5.getD y3.toNat []).getD 1 0) ((y5.getD y3.toNat []).getD 2 0)) (Pure.impl_LessVectors_2 F ((y4.getD y3.toNat []).getD 0 0) ((y4.getD y3.toNat []).getD 1 0) ((y4.getD y3.toNat []).getD 2 0) ((y5.getD y3.toNat []).getD 0 0) ((y5.getD y3.toNat []).getD 1 0) ((y5.getD y3.toNat []).getD 2 0)) y0) (Pure.impl_ScaleVector_1 F (Pure.impl_LessVectors F ((y4.getD y3.toNat []).getD 0 0) ((y4.getD y3.toNat []).getD 1 0) ((y4.getD y3.toNat []).getD 2 0) ((y5.getD y3.toNat []).getD 0 0) ((y5.getD y3.toNat []).getD 1 0) ((y5.getD y3.toNat []).getD 2 0)) (Pure.impl_LessVectors_1 F ((y4.getD y3.toNat []).getD 0 0) ((y4.getD y3.toNat []).getD 1 0) ((y4.getD y3.toNat []).getD 2 0) ((y5.getD y3.toNat []).getD 0 0) ((y5.getD y3.toNat []).getD 1 0) ((y5.getD y3.toNat []).getD 2 0)) (Pure.impl_LessVectors_2 F ((y4.getD y3.toNat []).getD 0 0) ((y4.getD y3.toNat []).getD 1 0) ((y4.getD y3.toNat []).getD 2 0) ((y5.getD y3.toNat []).getD 0 0) ((y5.getD y3.toNat []).getD 1 0) ((y5.getD y3.toNat []).getD 2 0)) y0) (Pure.impl_ScaleVector_2 F (Pure.impl_LessVectors F ((y4.getD y3.toNat []).getD 0 0) ((y4.getD y3.toNat []).getD 1 0) ((y4.getD y3.toNat []).getD 2 0) ((y5.getD y3.toNat []).getD 0 0) ((y5.getD y3.toNat []).getD 1 0) ((y5.getD y3.toNat []).getD 2 0)) (Pure.impl_LessVectors_1 F ((y4.getD y3.toNat []).getD 0 0) ((y4.getD y3.toNat []).getD 1 0) ((y4.getD y3.toNat []).getD 2 0) ((y5.getD y3.toNat []).getD 0 0) ((y5.getD y3.toNat []).getD 1 0) ((y5.getD y3.toNat []).getD 2 0)) (Pure.impl_LessVectors_2 F ((y4.getD y3.toNat []).getD 0 0) ((y4.getD y3.toNat []).getD 1 0) ((y4.getD y3.toNat []).getD 2 0) ((y5.getD y3.toNat []).getD 0 0) ((y5.getD y3.toNat []).getD 1 0) ((y5.getD y3.toNat []).getD 2 0)) y0)) (Pure.impl_ScaleVector F y8 y9 y10 (F.bin .mul .f32 y1 y1)) (Pure.impl_ScaleVector_1 F y8 y9 y10 (F.bin .mul .f32 y1 y1)) (Pure.impl_ScaleVector_2 F y8 y9 y10 (F.bin .mul .f32 y1 y1))]) (List.set y5 (Int.toNat y3) [List.getD (List.getD y4 (Int.toNat y3) []) 0 0, List.getD (List.getD y4 (Int.toNat y3) []) 1 0, List.getD (List.getD y4 (Int.toNat y3) []) 2 0])) else ((false, [], []))) else ((false, [], []))) else ((false, [], []))) else ((false, [], []))) else ((false, [], []))) else ((false, [], []))) else (bif (decide (0 ≤ y3)) then (bif (decide (y3 < (Int.ofNat y5.length))) then (Pure.impl_Chain_fly_L0 F y0 y1 y2 y6 y7 y8 y9 y10 n (IntKind.wrap .i64 (y3 + 1)) y4 (List.set y5 (Int.toNat y3) [List.getD (List.getD y4 (Int.toNat y3) []) 0 0, List.getD (List.getD y4 (Int.toNat y3) []) 1 0, List.getD (List.getD y4 (Int.toNat y3) []) 2 0])) else ((false, [], []))) else ((false, [], [])))) else ((false, [], []))) else ((false, [], []))) else ((false, [], []))) else ((false, [], []))) else ((true, y4, y5))
def R_impl_Chain_fly_L0 (y6 y7 : List (List Int)) (r : (Bool × (List (List Int)) × (List (List Int)))) : Bool × Ends := ((r).1, (.one Ex.normal [] [⟨true, .box [A.sl 1, A.sl 2, A.sl 3, A.sl 4]⟩, ⟨true, .rows [K.f .f32, K.f .f32, K.f .f32] (r).2.1⟩, ⟨true, .rows [K.f .f32, K.f .f32, K.f .f32] (r).2.2⟩, ⟨true, .rows [K.f .f32] y6⟩, ⟨true, .rows [K.i .i64, K.i .i64, K.f .f32] y7⟩]))
def S_impl_Chain_fly_L0 (F : FOps) : Sm := ⟨[0, 2, 3, 5, 14, 15, 16], [54, 27, 27, 0, 31, 3, 3], [], fun vals hp => match vals, hp with
  | [V.at (A.ptr 0 0 0), V.at (A.fl .f32 y0), V.at (A.fl .f32 y1), V.at (A.ptr 5 0 0), V.at (A.sl 1), V.at (A.int .i64 y2), V.at (A.int .i64 y3)], [⟨true, .box [A.sl 1, A.sl 2, A.sl 3, A.sl 4]⟩, ⟨true, .rows [K.f .f32, K.f .f32, K.f .f32] y4⟩, ⟨true, .rows [K.f .f32, K.f .f32, K.f .f32] y5⟩, ⟨true, .rows [K.f .f32] y6⟩, ⟨true, .rows [K.i .i64, K.i .i64, K.f .f32] y7⟩, ⟨true, .box [A.fl .f32 y8, A.fl .f32 y9, A.fl .f32 y10]⟩] => some (R_impl_Chain_fly_L0 y6 y7 (Pure.impl_Chain_fly_L0 F y0 y1 y2 y6 y7 y8 y9 y10 (y2 - y3 + 1).toNat y3 y4 y5))
  | _, _ => none⟩
theorem l_impl_Chain_fly_L0 (F : FOps) (y0 y1 y2 : Int) (y6 y7 : List (List Int)) (y8 y9 y10 : Int) : ∀ (fuel : Nat) (y3 : Int) (y4 y5 : List (List Int)), (Pure.impl_Chain_fly_L0 F y0 y1 y2 y6 y7 y8 y9 y10 fuel y3 y4 y5).1 = true → loopOf (cxS F tyl [(50, c_impl_LessVectors F), (77, c_impl_ScaleVector F), (91, c_impl_AddVectors F)] [] [] 0) 5 63 0 [0, 2, 3, 5, 14, 15, 16] [54, 27, 27, 0, 31, 3, 3] [] (loopB 0 (codeOf Try.f65)) fuel [V.at (A.ptr 0 0 0), V.at (A.fl .f32 y0), V.at (A.fl .f32 y1), V.at (A.ptr 5 0 0), V.at (A.sl 1), V.at (A.int .i64 y2), V.at (A.int .i64 y3)] [⟨true, .box [A.sl 1, A.sl 2, A.sl 3, A.sl 4]⟩, ⟨true, .rows [K.f .f32, K.f .f32, K.f .f32] y4⟩, ⟨true, .rows [K.f .f32, K.f .f32, K.f .f32] y5⟩, ⟨true, .rows [K.f .f32] y6⟩, ⟨true, .rows [K.i .i64, K.i .i64, K.f .f32] y7⟩, ⟨true, .box [A.fl .f32 y8, A.fl .f32 y9, A.fl .f32 y10]⟩] = resOf (R_impl_Chain_fly_L0 y6 y7 (Pure.impl_Chain_fly_L0 F y0 y1 y2 y6 y7 y8 y9 y10 fuel y3 y4 y5)) := by
  intro fuel
  induction fuel with
  | zero => intro y3 y4 y5 h; exact absurd h Bool.false_ne_true
  | succ n ih =>
    intro y3 y4 y5
    have h0 : roundOf (cxS F tyl [(50, c_impl_LessVectors F), (77, c_impl_ScaleVector F), (91, c_impl_AddVectors F)] [] [] 0) 5 63 0 [0, 2, 3, 5, 14, 15, 16] [54, 27, 27, 0, 31, 3, 3] [] (loopB 0 (codeOf Try.f65)) [V.at (A.ptr 0 0 0), V.at (A.fl .f32 y0), V.at (A.fl .f32 y1), V.at (A.ptr 5 0 0), V.at (A.sl 1), V.at (A.int .i64 y2), V.at (A.int .i64 y3)] [⟨true, .box [A.sl 1, A.sl 2, A.sl 3, A.sl 4]⟩, ⟨true, .rows [K.f .f32, K.f .f32, K.f .f32] y4⟩, ⟨true, .rows [K.f .f32, K.f .f32, K.f .f32] y5⟩, ⟨true, .rows [K.f .f32] y6⟩, ⟨true, .rows [K.i .i64, K.i .i64, K.f .f32] y7⟩, ⟨true, .box [A.fl .f32 y8, A.fl .f32 y9, A.fl .f32 y10]⟩] = (bif decide (y3 < y2) then bif decide (0 ≤ y3) then bif decide (y3 < (Int.ofNat y4.length)) then bif decide (0 ≤ y3) then bif decide (y3 < (Int.ofNat y6.length)) then bif F.cmp .neq .f32 ((y6.getD y3.toNat []).getD 0 0) 0 then bif decide (0 ≤ y3) then bif decide (y3 < (Int.ofNat y5.length)) then bif decide (0 ≤ y3) then bif decide (y3 < (Int.ofNat y4.length)) then bif decide (0 ≤ y3) then bif decide (y3 < (Int.ofNat y5.length)) then some (true, (Ex.normal, ([V.at (A.ptr 0 0 0), V.at (A.fl .f32 y0), V.at (A.fl .f32 y1), V.at (A.ptr 5 0 0), V.at (A.sl 1), V.at (A.int .i64 y2), V.at (A.int .i64 (IntKind.wrap .i64 (y3 + 1)))], [⟨true, .box [A.sl 1, A.sl 2, A.sl 3, A.sl 4]⟩, ⟨true, .rows [K.f .f32, K.f .f32, K.f .f32] (List.set y4 (Int.toNat y3) [Pure.impl_AddVectors F (Pure.impl_AddVectors F ((y4.getD y3.toNat []).getD 0 0) ((y4.getD y3.toNat []).getD 1 0) ((y4.getD y3.toNat []).getD 2 0) (Pure.impl_ScaleVector F (Pure.impl_LessVectors F ((y4.getD y3.toNat []).getD 0 0) ((y4.getD y3.toNat []).getD 1 0) ((y4.getD y3.toNat []).getD 2 0) ((y5.getD y3.toNat []).getD 0 0) ((y5.getD y3.toNat []).getD 1 0) ((y5.getD y3.toNat []).getD 2 0)) (Pure.impl_LessVectors_1 F ((y4.getD y3.toNat []).getD 0 0) ((y4.getD y3.toNat []).getD 1 0) ((y4.getD y3.toNat []).getD 2 0) ((y5.getD y3.toNat []).getD 0 0) ((y5.getD y3.toNat []).getD 1 0) ((y5.getD y3.toNat []).getD 2 0)) (Pure.impl_LessVectors_2 F ((y4.getD y3.toNat []).getD 0 0) ((y4.getD y3.toNat []).getD 1 0) ((y4.getD y3.toNat []).getD 2 0) ((y5.getD y3.toNat []).getD 0 0) ((y5.getD y3.toNat []).getD 1 0) ((y5.getD y3.toNat []).getD 2 0)) y0) (Pure.impl_ScaleVector_1 F (Pure.impl_LessVectors F ((y4.getD y3.toNat []).getD 0 0) ((y4.getD y3.toNat []).getD 1 0) ((y4.getD y3.toNat []).getD 2 0) ((y5.getD y3.toNat []).getD 0 0) ((y5.getD y3.toNat []).getD 1 0) ((y5.getD y3.toNat []).getD 2 0)) (Pure.impl_LessVectors_1 F ((y4.getD y3.toNat []).getD 0 0) ((y4.getD y3.toNat []).getD 1 0) ((y4.getD y3.toNat []).getD 2 0) ((y5.getD y3.toNat []).getD 0 0) ((y5.getD y3.toNat []).getD 1 0) ((y5.getD y3.toNat []).getD 2 0)) (Pure.impl_LessVectors_2 F ((y4.getD y3.toNat []).getD 0 0) ((y4.getD y3.toNat []).getD 1 0) ((y4.getD y3.toNat []).getD 2 0) ((y5.getD y3.toNat []).getD 0 0) ((y5.getD y3.toNat []).getD 1 0) ((y5.getD y3.toNat []).getD 2 0)) y0) (Pure.impl_ScaleVector_2 F (Pure.impl_LessVectors F ((y4.getD y3.toNat []).getD 0 0) ((y4.getD y3.toNat []).getD 1 0) ((y4.getD y3.toNat []).getD 2 0) ((y5.getD y3.toNat []).getD 0 0) ((y5.getD y3.toNat []).getD 1 0) ((y5.getD y3.toNat []).getD 2 0)) (Pure.impl_LessVectors_1 F ((y4.getD y3.toNat []).getD 0 0) ((y4.getD y3.toNat []).getD 1 0) ((y4.getD y3.toNat []).getD 2 0) ((y5.getD y3.toNat []).getD 0 0) ((y5.getD y3.toNat []).getD 1 0) ((y5.getD y3.toNat []).getD 2 0)) (Pure.impl_LessVectors_2 F ((y4.getD y3.toNat []).getD 0 0) ((y4.getD y3.toNat []).getD 1 0) ((y4.getD y3.toNat []).getD 2 0) ((y5.getD y3.toNat []).getD 0 0) ((y5.getD y3.toNat []).getD 1 0) ((y5.getD y3.toNat []).getD 2 0)) y0)) (Pure.impl_AddVectors_1 F ((y4.getD y3.toNat []).getD 0 0) ((y4.getD y3.toNat []).getD 1 0) ((y4.getD y3.toNat []).getD 2 0) (Pure.impl_ScaleVector F (Pure.impl_LessVectors F ((y4.getD y3.toNat []).getD 0 0) ((y4.getD y3.toNat []).getD 1 0) ((y4.getD y3.toNat []).getD 2 0) ((y5.getD y3.toNat []).getD 0 0) ((y5.getD y3.toNat []).getD 1 0) ((y5.getD y3.toNat []).getD 2 0)) (Pure.impl_LessVectors_1 F ((y4.getD y3.toNat []).getD 0 0) ((y4.getD y3.toNat []).getD 1 0) ((y4.getD y3.toNat []).getD 2 0) ((y5.getD y3.toNat []).getD 0 0) ((y5.getD y3.toNat []).getD 1 0) ((y5.getD y3.toNat []).getD 2 0)) (Pure.impl_LessVectors_2 F ((y4.getD y3.toNat []).getD 0 0) ((y4.getD y3.toNat []).getD 1 0) ((y4.getD y3.toNat []).getD 2 0) ((y5.getD y3.toNat []).getD 0 0) ((y5.getD y3.toNat []).getD 1 0) ((y5.getD y3.toNat []).getD 2 0)) y0) (Pure.impl_ScaleVector_1 F (Pure.impl_LessVectors F ((y4.getD y3.toNat []).getD 0 0) ((y4.getD y3.toNat []).getD 1 0) ((y4.getD y3.toNat []).getD 2 0) ((y5.getD y3.toNat []).getD 0 0) ((y5.getD y3.toNat []).getD 1 0) ((y5.getD y3.toNat []).getD 2 0)) (Pure.impl_LessVectors_1 F ((y4.getD y3.toNat []).getD 0 0) ((y4.getD y3.toNat []).getD 1 0) ((y4.getD y3.toNat []).getD 2 0) ((y5.getD y3.toNat []).getD 0 0) ((y5.getD y3.toNat []).getD 1 0) ((y5.getD y3.toNat []).getD 2 0)) (Pure.impl_LessVectors_2 F ((y4.getD y3.toNat []).getD 0 0) ((y4.getD y3.toNat []).getD 1 0) ((y4.getD y3.toNat []).getD 2 0) ((y5.getD y3.toNat []).getD 0 0) ((y5.getD y3.toNat []).getD 1 0) ((y5.getD y3.toNat []).getD 2 0)) y0) (Pure.impl_ScaleVector_2 F (Pure.impl_LessVectors F ((y4.getD y3.toNat []).getD 0 0) ((y4.getD y3.toNat []).getD 1 0) ((y4.getD y3.toNat []).getD 2 0) ((y5.getD y3.toNat []).getD 0 0) ((y5.getD y3.toNat []).getD 1 0) ((y5.getD y3.toNat []).getD 2 0)) (Pure.impl_LessVectors_1 F ((y4.getD y3.toNat []).getD 0 0) ((y4.getD y3.toNat []).getD 1 0) ((y4.getD y3.toNat []).getD 2 0) ((y5.getD y3.toNat []).getD 0 0) ((y5.getD y3.toNat []).getD 1 0) ((y5.getD y3.toNat []).getD 2 0)) (Pure.impl_LessVectors_2 F ((y4.getD y3.toNat []).getD 0 0) ((y4.getD y3.toNat []).getD 1 0) ((y4.getD y3.toNat []).getD 2 0) ((y5.getD y3.toNat []).getD 0 0) ((y5.getD y3.toNat []).getD 1 0) ((y5.getD y3.toNat []).getD 2 0)) y0)) (Pure.impl_AddVectors_2 F ((y4.getD y3.toNat []).getD 0 0) ((y4.getD y3.toNat []).getD 1 0) ((y4.getD y3.toNat []).getD 2 0) (Pure.impl_ScaleVector F (Pure.impl_LessVectors F ((y4.getD y3.toNat []).getD 0 0) ((y4.getD y3.toNat []).getD 1 0) ((y4.getD y3.toNat []).getD 2 0) ((y5.getD y3.toNat []).getD 0 0) ((y5.getD y3.toNat []).getD 1 0) ((y5.getD y3.toNat []).getD 2 0)) (Pure.impl_LessVectors_1 F ((y4.getD y3.toNat []).getD 0 0) ((y4.getD y3.toNat []).getD 1 0) ((y4.getD y3.toNat []).getD 2 0) ((y5.getD y3.toNat []).getD 0 0) ((y5.getD y3.toNat []).getD 1 0) ((y5.getD y3.toNat []).getD 2 0)) (Pure.impl_LessVectors_2 F ((y4.getD y3.toNat []).getD 0 0) ((y4.getD y3.toNat []).getD 1 0) ((y4.getD y3.toNat []).getD 2 0) ((y5.getD y3.toNat []).getD 0 0) ((y5.getD y3.toNat []).getD 1 0) ((y5.getD y3.toNat []).getD 2 0)) y0) (Pure.impl_ScaleVector_1 F (Pure.impl_LessVectors F ((y4.getD y3.toNat []).getD 0 0) ((y4.getD y3.toNat []).getD 1 0) ((y4.getD y3.toNat []).getD 2 0) ((y5.getD y3.toNat []).getD 0 0) ((y5.getD y3.toNat []).getD 1 0) ((y5.getD y3.toNat []).getD 2 0)) (Pure.impl_LessVectors_1 F ((y4.getD y3.toNat []).getD 0 0) ((y4.getD y3.toNat []).getD 1 0) ((y4.getD y3.toNat []).getD 2 0) ((y5.getD y3.toNat []).getD 0 0) ((y5.getD y3.toNat []).getD 1 0) ((y5.getD y3.toNat []).getD 2 0)) (Pure.impl_LessVectors_2 F ((y4.getD y3.toNat []).getD 0 0) ((y4.getD y3.toNat []).getD 1 0) ((y4.getD y3.toNat []).getD 2 0) ((y5.getD y3.toNat []).getD 0 0) ((y5.getD y3.toNat []).getD 1 0) ((y5.getD y3.toNat []).getD 2 0)) y0) (Pure.impl_ScaleVector_2 F (Pure.impl_LessVectors F ((y4.getD y3.toNat []).getD 0 0) ((y4.getD y3.toNat []).getD 1 0) ((y4.getD y3.toNat []).getD 2 0) ((y5.getD y3.toNat []).getD 0 0) ((y5.getD y3.toNat []).getD 1 0) ((y5.getD y3.toNat []).getD 2 0)) (Pure.impl_LessVectors_1 F ((y4.getD y3.toNat []).getD 0 0) ((y4.getD y3.toNat []).getD 1 0) ((y4.getD y3.toNat []).getD 2 0) ((y5.getD y3.toNat []).getD 0 0) ((y5.getD y3.toNat []).getD 1 0) ((y5.getD y3.toNat []).getD 2 0)) (Pure.impl_LessVectors_2 F ((y4.getD y3.toNat []).getD 0 0) ((y4.getD y3.toNat []).getD 1 0) ((y4.getD y3.toNat []).getD 2 0) ((y5.getD y3.toNat []).getD 0 0) ((y5.getD y3.toNat []).getD 1 0) ((y5.getD y3.toNat []).getD 2 0)) y0)) (Pure.impl_ScaleVector F y8 y9 y10 (F.bin .mul .f32 y1 y1)) (Pure.impl_ScaleVector_1 F y8 y9 y10 (F.bin .mul .f32 y1 y1)) (Pure.impl_ScaleVector_2 F y8 y9 y10 (F.bin .mul .f32 y1 y1)), Pure.impl_AddVectors_1 F (Pure.impl_AddVectors F ((y4.getD y3.toNat []).getD 0 0) ((y4.getD y3.toNat []).getD 1 0) ((y4.getD y3.toNat []).getD 2 0) (Pure.impl_ScaleVector F (Pure.impl_LessVectors F ((y4.getD y3.toNat []).getD 0 0) ((y4.getD y3.toNat []).getD 1 0) ((y4.getD y3.toNat []).getD 2 0) ((y5.getD y3.toNat []).getD 0 0) ((y5.getD y3.toNat []).getD 1 0) ((y5.getD y3.toNat []).getD 2 0)) (Pure.impl_LessVectors_1 F ((y4.getD y3.toNat []).getD 0 0) ((y4.getD y3.toNat []).getD 1 0) ((y4.getD y3.toNat []).getD 2 0) ((y5.getD y3.toNat []).getD 0 0) ((y5.getD y3.toNat []).getD 1 0) ((y5.getD y3.toNat []).getD 2 0)) (Pure.impl_LessVectors_2 F ((y4.getD y3.toNat []).getD 0 0) ((y4.getD y3.toNat []).getD 1 0) ((y4.getD y3.toNat []).getD 2 0) ((y5.getD y3.toNat []).getD 0 0) ((y5.getD y3.toNat []).getD 1 0) ((y5.getD y3.toNat []).getD 2 0)) y0) (Pure.impl_ScaleVector_1 F (Pure.impl_LessVectors F ((y4.getD y3.toNat []).getD 0 0) ((y4.getD y3.toNat []).getD 1 0) ((y4.getD y3.toNat []).getD 2 0) ((y5.getD y3.toNat []).getD 0 0) ((y5.getD y3.toNat []).getD 1 0) ((y5.getD y3.toNat []).getD 2 0)) (Pure.impl_LessVectors_1 F ((y4.getD y3.toNat []).getD 0 0) ((y4.getD y3.toNat []).getD 1 0) ((y4.getD y3.toNat []).getD 2 0) ((y5.getD y3.toNat []).getD 0 0) ((y5.getD y3.toNat []).getD 1 0) ((y5.getD y3.toNat []).getD 2 0)) (Pure.impl_LessVectors_2 F ((y4.getD y3.toNat []).getD 0 0) ((y4.getD y3.toNat []).getD 1 0) ((y4.getD y3.toNat []).getD 2 0) ((y5.getD y3.toNat []).getD 0 0) ((y5.getD y3.toNat []).getD 1 0) ((y5.getD y3.toNat []).getD 2 0)) y0) (Pure.impl_ScaleVector_2 F (Pure.impl_LessVectors F ((y4.getD y3.toNat []).getD 0 0) ((y4.getD y3.toNat []).getD 1 0) ((y4.getD y3.toNat []).getD 2 0) ((y5.getD y3.toNat []).getD 0 0) ((y5.getD y3.toNat []).getD 1 0) ((y5.getD y3.toNat []).getD 2 0)) (Pure.impl_LessVectors_1 F ((y4.getD y3.toNat []).getD 0 0) ((y4.getD y3.toNat []).getD 1 0) ((y4.getD y3.toNat []).getD 2 0) ((y5.getD y3.toNat []).getD 0 0) ((y5.getD y3.toNat []).getD 1 0) ((y5.getD y3.toNat []).getD 2 0)) (Pure.impl_LessVectors_2 F ((y4.getD y3.toNat []).getD 0 0) ((y4.getD y3.toNat []).getD 1 0) ((y4.getD y3.toNat []).getD 2 0) ((y5.getD y3.toNat []).getD 0 0) ((y5.getD y3.toNat []).getD 1 0) ((y5.getD y3.toNat []).getD 2 0)) y0)) (Pure.impl_AddVectors_1 F ((y4.getD y3.toNat []).getD 0 0) ((y4.getD y3.toNat []).getD 1 0) ((y4.getD y3.toNat []).getD 2 0) (Pure.impl_ScaleVector F (Pure.impl_LessVectors F ((y4.getD y3.toNat []).getD 0 0) ((y4.getD y3.toNat []).getD 1 0) ((y4.getD y3.toNat []).getD 2 0) ((y5.getD y3.toNat []).getD 0 0) ((y5.getD y3.toNat []).getD 1 0) ((y5.getD y3.toNat []).getD 2 0)) (Pure.impl_LessVectors_1 F ((y4.getD y3.toNat []).getD 0 0) ((y4.getD y3.toNat []).getD 1 0) ((y4.getD y3.toNat []).getD 2 0) ((y5.getD y3.toNat []).getD 0 0) ((y5.getD y3.toNat []).getD 1 0) ((y5.getD y3.toNat []).getD 2 0)) (Pure.impl_LessVectors_2 F ((y4.getD y3.toNat []).getD 0 0) ((y4.getD y3.toNat []).getD 1 0) ((y4.getD y3.toNat []).getD 2 0) ((y5.getD y3.toNat []).getD 0 0) ((y5.getD y3.toNat []).getD 1 0) ((y5.getD y3.toNat []).getD 2 0)) y0) (Pure.impl_ScaleVector_1 F (Pure.impl_LessVectors F ((y4.getD y3.toNat []).getD 0 0) ((y4.getD y3.toNat []).getD 1 0) ((y4.getD y3.toNat []).getD 2 0) ((y5.getD y3.toNat []).getD 0 0) ((y5.getD y3.toNat []).getD 1 0) ((y5.getD y3.toNat []).getD 2 0)) (Pure.impl_LessVectors_1 F ((y4.getD y3.toNat []).getD 0 0) ((y4.getD y3.toNat []).getD 1 0) ((y4.getD y3.toNat []).getD 2 0) ((y5.getD y3.toNat []).getD 0 0) ((y5.getD y3.toNat []).getD 1 0) ((y5.getD y3.toNat []).getD 2 0)) (Pure.impl_LessVectors_2 F ((y4.getD y3.toNat []).getD 0 0) ((y4.getD y3.toNat []).getD 1 0) ((y4.getD y3.toNat []).getD 2 0) ((y5.getD y3.toNat []).getD 0 0) ((y5.getD y3.toNat []).getD 1 0) ((y5.getD y3.toNat []).getD 2 0)) y0) (Pure.impl_ScaleVector_2 F (Pure.impl_LessVectors F ((y4.getD y3.toNat []).getD 0 0) ((y4.getD y3.toNat []).getD 1 0) ((y4.getD y3.toNat []).getD 2 0) ((y5.getD y3.toNat []).getD 0 0) ((y5.getD y3.toNat []).getD 1 0) ((y5.getD y3.toNat []).getD 2 0)) (Pure.impl_LessVectors_1 F ((y4.getD y3.toNat []).getD 0 0) ((y4.getD y3.toNat []).getD 1 0) ((y4.getD y3.toNat []).getD 2 0) ((y5.getD y3.toNat []).getD 0 0) ((y5.getD y3.toNat []).getD 1 0) ((y5.getD y3.toNat []).getD 2 0)) (Pure.impl_LessVectors_2 F ((y4.getD y3.toNat []).getD 0 0) ((y4.getD y3.toNat []).getD 1 0) ((y4.getD y3.toNat []).getD 2 0) ((y5.getD y3.toNat []).getD 0 0) ((y5.getD y3.toNat []).getD 1 0) ((y5.getD y3.toNat []).getD 2 0)) y0)) (Pure.impl_AddVectors_2 F ((y4.getD y3.toNat []).getD 0 0) ((y4.getD y3.toNat []).getD 1 0) ((y4.getD y3.toNat []).getD 2 0) (Pure.impl_ScaleVector F (Pure.impl_LessVectors F ((y4.getD y3.toNat []).getD 0 0) ((y4.getD y3.toNat []).getD 1 0) ((y4.getD y3.toNat []).getD 2 0) ((y5.getD y3.toNat []).getD 0 0) ((y5.getD y3.toNat []).getD 1 0) ((y5.getD y3.toNat []).getD 2 0)) (Pure.impl_LessVectors_1 F ((y4.getD y3.toNat []).getD 0 0) ((y4.getD y3.toNat []).getD 1 0) ((y4.getD y3.toNat []).getD 2 0) ((y5.getD y3.toNat []).getD 0 0) ((y5.getD y3.toNat []).getD 1 0) ((y5.getD y3.toNat []).getD 2 0)) (Pure.impl_LessVectors_2 F ((y4.getD y3.toNat []).getD 0 0) ((y4.getD y3.toNat []).getD 1 0) ((y4.getD y3.toNat []).getD 2 0) ((y5.getD y3.toNat []).getD 0 0) ((y5.getD y3.toNat []).getD 1 0) ((y5.getD y3.toNat []).getD 2 0)) y0) (Pure.impl_ScaleVector_1 F (Pure.impl_LessVectors F ((y4.getD y3.toNat []).getD 0 0) ((y4.getD y3.toNat []).getD 1 0) ((y4.getD y3.toNat []).getD 2 0) ((y5.getD y3.toNat []).getD 0 0) ((y5.getD y3.toNat []).getD 1 0) ((y5.getD y3.toNat []).getD 2 0)) (Pure.impl_LessVectors_1 F ((y4.getD y3.toNat []).getD 0 0) ((y4.getD y3.toNat []).getD 1 0) ((y4.getD y3.toNat []).getD 2 0) ((y5.getD y3.toNat []).getD 0 0) ((y5.getD y3.toNat []).getD 1 0) ((y5.getD y3.toNat []).getD 2 0)) (Pure.impl_LessVectors_2 F ((y4.getD y3.toNat []).getD 0 0) ((y4.getD y3.toNat []).getD 1 0) ((y4.getD y3.toNat []).getD 2 0) ((y5.getD y3.toNat []).getD 0 0) ((y5.getD y3.toNat []).getD 1 0) ((y5.getD y3.toNat []).getD 2 0)) y0) (Pure.impl_ScaleVector_2 F (Pure.impl_LessVectors F ((y4.getD y3.toNat []).getD 0 0) ((y4.getD y3.toNat []).getD 1 0) ((y4.getD y3.toNat []).getD 2 0) ((y5.getD y3.toNat []).getD 0 0) ((y5.getD y3.toNat []).getD 1 0) ((y5.getD y3.toNat []).getD 2 0)) (Pure.impl_LessVectors_1 F ((y4.getD y3.toNat []).getD 0 0) ((y4.getD y3.toNat []).getD 1 0) ((y4.getD y3.toNat []).getD 2 0) ((y5.getD y3.toNat []).getD 0 0) ((y5.getD y3.toNat []).getD 1 0) ((y5.getD y3.toNat []).getD 2 0)) (Pure.impl_LessVectors_2 F ((y4.getD y3.toNat []).getD 0 0) ((y4.getD y3.toNat []).getD 1 0) ((y4.getD y3.toNat []).getD 2 0) ((y5.getD y3.toNat []).getD 0 0) ((y5.getD y3.toNat []).getD 1 0) ((y5.getD y3.toNat []).getD 2 0)) y0)) (Pure.impl_ScaleVector F y8 y9 y10 (F.bin .mul .f32 y1 y1)) (Pure.impl_ScaleVector_1 F y8 y9 y10 (F.bin .mul .f32 y1 y1)) (Pure.impl_ScaleVector_2 F y8 y9 y10 (F.bin .mul .f32 y1 y1)), Pure.impl_AddVectors_2 F (Pure.impl_AddVectors F ((y4.getD y3.toNat []).getD 0 0) ((y4.getD y3.toNat []).getD 1 0) ((y4.getD y3.toNat []).getD 2 0) (Pure.impl_ScaleVector F (Pure.impl_LessVectors F ((y4.getD y3.toNat []).getD 0 0) ((y4.getD y3.toNat []).getD 1 0) ((y4.getD y3.toNat []).getD 2 0) ((y5.getD y3.toNat []).getD 0 0) ((y5.getD y3.toNat []).getD 1 0) ((y5.getD y3.toNat []).getD 2 0)) (Pure.impl_LessVectors_1 F ((y4.getD y3.toNat []).getD 0 0) ((y4.getD y3.toNat []).getD 1 0) ((y4.getD y3.toNat []).getD 2 0) ((y5.getD y3.toNat []).getD 0 0) ((y5.getD y3.toNat []).getD 1 0) ((y5.getD y3.toNat []).getD 2 0)) (Pure.impl_LessVectors_2 F ((y4.getD y3.toNat []).getD 0 0) ((y4.getD y3.toNat []).getD 1 0) ((y4.getD y3.toNat []).getD 2 0) ((y5.getD y3.toNat []).getD 0 0) ((y5.getD y3.toNat []).getD 1 0) ((y5.getD y3.toNat []).getD 2 0)) y0) (Pure.impl_ScaleVector_1 F (Pure.impl_LessVectors F ((y4.getD y3.toNat []).getD 0 0) ((y4.getD y3.toNat []).getD 1 0) ((y4.getD y3.toNat []).getD 2 0) ((y5.getD y3.toNat []).getD 0 0) ((y5.getD y3.toNat []).getD 1 0) ((y5.getD y3.toNat []).getD 2 0)) (Pure.impl_LessVectors_1 F ((y4.getD y3.toNat []).getD 0 0) ((y4.getD y3.toNat []).getD 1 0) ((y4.getD y3.toNat []).getD 2 0) ((y5.getD y3.toNat []).getD 0 0) ((y5.getD y3.toNat []).getD 1 0) ((y5.getD y3.toNat []).getD 2 0)) (Pure.impl_LessVectors_2 F ((y4.getD y3.toNat []).getD 0 0) ((y4.getD y3.toNat []).getD 1 0) ((y4.getD y3.toNat []).getD 2 0) ((y5.getD y3.toNat []).getD 0 0) ((y5.getD y3.toNat []).getD 1 0) ((y5.getD y3.toNat []).getD 2 0)) y0) (Pure.impl_ScaleVector_2 F (Pure.impl_LessVectors F ((y4.getD y3.toNat []).getD 0 0) ((y4.getD y3.toNat []).getD 1 0) ((y4.getD y3.toNat []).getD 2 0) ((y5.getD y3.toNat []).getD 0 0) ((y5.getD y3.toNat []).getD 1 0) ((y5.getD y3.toNat []).getD 2 0)) (Pure.impl_LessVectors_1 F ((y4.getD y3.toNat []).getD 0 0) ((y4.getD y3.toNat []).getD 1 0) ((y4.getD y3.toNat []).getD 2 0) ((y5.getD y3.toNat []).getD 0 0) ((y5.getD y3.toNat []).getD 1 0) ((y5.getD y3.toNat []).getD 2 0)) (Pure.impl_LessVectors_2 F ((y4.getD y3.toNat []).getD 0 0) ((y4.getD y3.toNat []).getD 1 0) ((y4.getD y3.toNat []).getD 2 0) ((y5.getD y3.toNat []).getD 0 0) ((y5.getD y3.toNat []).getD 1 0) ((y5.getD y3.toNat []).getD 2 0)) y0)) (Pure.impl_AddVectors_1 F ((y4.getD y3.toNat []).getD 0 0) ((y4.getD y3.toNat []).getD 1 0) ((y4.getD y3.toNat []).getD 2 0) (Pure.impl_ScaleVector F (Pure.impl_LessVectors F ((y4.getD y3.toNat []).getD 0 0) ((y4.getD y3.toNat []).getD 1 0) ((y4.getD y3.toNat []).getD 2 0) ((y5.getD y3.toNat []).getD 0 0) ((y5.getD y3.toNat []).getD 1 0) ((y5.getD y3.toNat []).getD 2 0)) (Pure.impl_LessVectors_1 F ((y4.getD y3.toNat []).getD 0 0) ((y4.getD y3.toNat []).getD 1 0) ((y4.getD y3.toNat []).getD 2 0) ((y5.getD y3.toNat []).getD 0 0) ((y5.getD y3.toNat []).getD 1 0) ((y5.getD y3.toNat []).getD 2 0)) (Pure.impl_LessVectors_2 F ((y4.getD y3.toNat []).getD 0 0) ((y4.getD y3.toNat []).getD 1 0) ((y4.getD y3.toNat []).getD 2 0) ((y5.getD y3.toNat []).getD 0 0) ((y5.getD y3.toNat []).getD 1 0) ((y5.getD y3.toNat []).getD 2 0)) y0) (Pure.impl_ScaleVector_1 F (Pure.impl_LessVectors F ((y4.getD y3.toNat []).getD 0 0) ((y4.getD y3.toNat []).getD 1 0) ((y4.getD y3.toNat []).getD 2 0) ((y5.getD y3.toNat []).getD 0 0) ((y5.getD y3.toNat []).getD 1 0) ((y5.getD y3.toNat []).getD 2 0)) (Pure.impl_LessVectors_1 F ((y4.getD y3.toNat []).getD 0 0) ((y4.getD y3.toNat []).getD 1 0) ((y4.getD y3.toNat []).getD 2 0) ((y5.getD y3.toNat []).getD 0 0) ((y5.getD y3.toNat []).getD 1 0) ((y5.getD y3.toNat []).getD 2 0)) (Pure.impl_LessVectors_2 F ((y4.getD y3.toNat []).getD 0 0) ((y4.getD y3.toNat []).getD 1 0) ((y4.getD y3.toNat []).getD 2 0) ((y5.getD y3.toNat []).getD 0 0) ((y5.getD y3.toNat []).getD 1 0) ((y5.getD y3.toNat []).getD 2 0)) y0) (Pure.impl_ScaleVector_2 F (Pure.impl_LessVectors F ((y4.getD y3.toNat []).getD 0 0) ((y4.getD y3.toNat []).getD 1 0) ((y4.getD y3.toNat []).getD 2 0) ((y5.getD y3.toNat []).getD 0 0) ((y5.getD y3.toNat []).getD 1 0) ((y5.getD y3.toNat []).getD 2 0)) (Pure.impl_LessVectors_1 F ((y4.getD y3.toNat []).getD 0 0) ((y4.getD y3.toNat []).getD 1 0) ((y4.getD y3.toNat []).getD 2 0) ((y5.getD y3.toNat []).getD 0 0) ((y5.getD y3.toNat []).getD 1 0) ((y5.getD y3.toNat []).getD 2 0)) (Pure.impl_LessVectors_2 F ((y4.getD y3.toNat []).getD 0 0) ((y4.getD y3.toNat []).getD 1 0) ((y4.getD y3.toNat []).getD 2 0) ((y5.getD y3.toNat []).getD 0 0) ((y5.getD y3.toNat []).getD 1 0) ((y5.getD y3.toNat []).getD 2 0)) y0)) (Pure.impl_AddVectors_2 F ((y4.getD y3.toNat []).getD 0 0) ((y4.getD y3.toNat []).getD 1 0) ((y4.getD y3.toNat []).getD 2 0) (Pure.impl_ScaleVector F (Pure.impl_LessVectors F ((y4.getD y3.toNat []).getD 0 0) ((y4.getD y3.toNat []).getD 1 0) ((y4.getD y3.toNat []).getD 2 0) ((y5.getD y3.toNat []).getD 0 0) ((y5.getD y3.toNat []).getD 1 0) ((y5.getD y3.toNat []).getD 2 0)) (Pure.impl_LessVectors_1 F ((y4.getD y3.toNat []).getD 0 0) ((y4.getD y3.toNat []).getD 1 0) ((y4.getD y3.toNat []).getD 2 0) ((y5.getD y3.toNat []).getD 0 0) ((y5.getD y3.toNat []).getD 1 0) ((y5.getD y3.toNat []).getD 2 0)) (Pure.impl_LessVectors_2 F ((y4.getD y3.toNat []).getD 0 0) ((y4.getD y3.toNat []).getD 1 0) ((y4.getD y3.toNat []).getD 2 0) ((y5.getD y3.toNat []).getD 0 0) ((y5.getD y3.toNat []).getD 1 0) ((y5.getD y3.toNat []).getD 2 0)) y0) (Pure.impl_ScaleVector_1 F (Pure.impl_LessVectors F ((y4.getD y3.toNat []).getD 0 0) ((y4.getD y3.toNat []).getD 1 0) ((y4.getD y3.toNat []).getD 2 0) ((y5.getD y3.toNat []).getD 0 0) ((y5.getD y3.toNat []).getD 1 0) ((y5.getD y3.toNat []).getD 2 0)) (Pure.impl_LessVectors_1 F ((y4.getD y3.toNat []).getD 0 0) ((y4.getD y3.toNat []).getD 1 0) ((y4.getD y3.toNat []).getD 2 0) ((y5.getD y3.toNat []).getD 0 0) ((y5.getD y3.toNat []).getD 1 0) ((y5.getD y3.toNat []).getD 2 0)) (Pure.impl_LessVectors_2 F ((y4.getD y3.toNat []).getD 0 0) ((y4.getD y3.toNat []).getD 1 0) ((y4.getD y3.toNat []).getD 2 0) ((y5.getD y3.toNat []).getD 0 0) ((y5.getD y3.toNat []).getD 1 0) ((y5.getD y3.toNat []).getD 2 0)) y0) (Pure.impl_ScaleVector_2 F (Pure.impl_LessVectors F ((y4.getD y3.toNat []).getD 0 0) ((y4.getD y3.toNat []).getD 1 0) ((y4.getD y3.toNat []).getD 2 0) ((y5.getD y3.toNat []).getD 0 0) ((y5.getD y3.toNat []).getD 1 0) ((y5.getD y3.toNat []).getD 2 0)) (Pure.impl_LessVectors_1 F ((y4.getD y3.toNat []).getD 0 0) ((y4.getD y3.toNat []).getD 1 0) ((y4.getD y3.toNat []).getD 2 0) ((y5.getD y3.toNat []).getD 0 0) ((y5.getD y3.toNat []).getD 1 0) ((y5.getD y3.toNat []).getD 2 0)) (Pure.impl_LessVectors_2 F ((y4.getD y3.toNat []).getD 0 0) ((y4.getD y3.toNat []).getD 1 0) ((y4.getD y3.toNat []).getD 2 0) ((y5.getD y3.toNat []).getD 0 0) ((y5.getD y3.toNat []).getD 1 0) ((y5.getD y3.toNat []).getD 2 0)) y0)) (Pure.impl_ScaleVector F y8 y9 y10 (F.bin .mul .f32 y1 y1)) (Pure.impl_ScaleVector_1 F y8 y9 y10 (F.bin .mul .f32 y1 y1)) (Pure.impl_ScaleVector_2 F y8 y9 y10 (F.bin .mul .f32 y1 y1))])⟩, ⟨true, .rows [K.f .f32, K.f .f32, K.f .f32] (List.set y5 (Int.toNat y3) [List.getD (List.getD y4 (Int.toNat y3) []) 0 0, List.getD (List.getD y4 (Int.toNat y3) []) 1 0, List.getD (List.getD y4 (Int.toNat y3) []) 2 0])⟩, ⟨true, .rows [K.f .f32] y6⟩, ⟨true, .rows [K.i .i64, K.i .i64, K.f .f32] y7⟩, ⟨true, .box [A.fl .f32 y8, A.fl .f32 y9, A.fl .f32 y10]⟩]))) else none else none else none else none else none else none else bif decide (0 ≤ y3) then bif decide (y3 < (Int.ofNat y5.length)) then some (true, (Ex.normal, ([V.at (A.ptr 0 0 0), V.at (A.fl .f32 y0), V.at (A.fl .f32 y1), V.at (A.ptr 5 0 0), V.at (A.sl 1), V.at (A.int .i64 y2), V.at (A.int .i64 (IntKind.wrap .i64 (y3 + 1)))], [⟨true, .box [A.sl 1, A.sl 2, A.sl 3, A.sl 4]⟩, ⟨true, .rows [K.f .f32, K.f .f32, K.f .f32] y4⟩, ⟨true, .rows [K.f .f32, K.f .f32, K.f .f32] (List.set y5 (Int.toNat y3) [List.getD (List.getD y4 (Int.toNat y3) []) 0 0, List.getD (List.getD y4 (Int.toNat y3) []) 1 0, List.getD (List.getD y4 (Int.toNat y3) []) 2 0])⟩, ⟨true, .rows [K.f .f32] y6⟩, ⟨true, .rows [K.i .i64, K.i .i64, K.f .f32] y7⟩, ⟨true, .box [A.fl .f32 y8, A.fl .f32 y9, A.fl .f32 y10]⟩]))) else none else none else none else none else none else none else some (false, (Ex.normal, ([], [⟨true, .box [A.sl 1, A.sl 2, A.sl 3, A.sl 4]⟩, ⟨true, .rows [K.f .f32, K.f .f32, K.f .f32] y4⟩, ⟨true, .rows [K.f .f32, K.f .f32, K.f .f32] y5⟩, ⟨true, .rows [K.f .f32] y6⟩, ⟨true, .rows [K.i .i64, K.i .i64, K.f .f32] y7⟩])))) := by kernel_rfl
    unfold loopOf
    rw [h0]
    unfold Pure.impl_Chain_fly_L0
    cases (decide (y3 < y2)) with
    | true =>
      cases (decide (0 ≤ y3)) with
      | true =>
        cases (decide (y3 < (Int.ofNat y4.length))) with
        | true =>
          cases (decide (y3 < (Int.ofNat y6.length))) with
          | true =>
            cases (F.cmp .neq .f32 ((y6.getD y3.toNat []).getD 0 0) 0) with
            | true =>
              cases (decide (y3 < (Int.ofNat y5.length))) with
              | true =>
                exact ih _ _ _
              | false =>
                intro h; exact absurd h Bool.false_ne_true
            | false =>
              cases (decide (y3 < (Int.ofNat y5.length))) with
              | true =>
                exact ih _ _ _
              | false =>
                intro h; exact absurd h Bool.false_ne_true
          | false =>
            intro h; exact absurd h Bool.false_ne_true
        | false =>
          intro h; exact absurd h Bool.false_ne_true
      | false =>
        intro h; exact absurd h Bool.false_ne_true
    | false =>
      intro _; rfl
theorem t_impl_Chain_fly_L0 : SmTo Try.prog 5 63 (S_impl_Chain_fly_L0 real) 0 (.loop (loopB 0 (codeOf Try.f65))) := by
  refine smTo_ev (cl := [(50, c_impl_LessVectors real), (77, c_impl_ScaleVector real), (91, c_impl_AddVectors real)]) (ef := []) (sm := []) (un := 0) prog_ok (allOK_cons ok_impl_LessVectors (allOK_cons ok_impl_ScaleVector (allOK_cons ok_impl_AddVectors allOK_nil))) smL_nil ?_
  intro vals hp q r h hq
  unfold S_impl_Chain_fly_L0 at h
  dsimp only at h
  split at h
  · rename_i y0 y1 y2 y3 y4 y5 y6 y7 y8 y9 y10
    obtain rfl := Option.some.inj h
    have h1 := hq
    unfold resOf at h1
    rw [chk_some] at h1
    exact ⟨_, (l_impl_Chain_fly_L0 real y0 y1 y2 y6 y7 y8 y9 y10 _ y3 y4 y5 h1.1).trans hq⟩
  · cases h
def Pure.impl_Chain_fly (F : FOps) (x0 x1 x2 x3 : List (List Int)) (x4 x5 x6 x7 x8 : Int) : List (List Int) := Prod.fst (Prod.snd (Pure.impl_Chain_fly_L0 F x7 x8 (Int.ofNat x0.length) x2 x3 x4 x5 x6 (Nat.succ (x0.length + 0)) 0 x0 x1))
def Pure.impl_Chain_fly_1 (F : FOps) (x0 x1 x2 x3 : List (List Int)) (x4 x5 x6 x7 x8 : Int) : List (List Int) := Prod.snd (Prod.snd (Pure.impl_Chain_fly_L0 F x7 x8 (Int.ofNat x0.length) x2 x3 x4 x5 x6 (Nat.succ (x0.length + 0)) 0 x0 x1))
def Pure.impl_Chain_fly_ok (F : FOps) (x0 x1 x2 x3 : List (List Int)) (x4 x5 x6 x7 x8 : Int) : Bool := Prod.fst (Pure.impl_Chain_fly_L0 F x7 x8 (Int.ofNat x0.length) x2 x3 x4 x5 x6 (Nat.succ (x0.length + 0)) 0 x0 x1)
def c_impl_Chain_fly (F : FOps) : Con
  | [V.at (A.ptr 0 0 0), V.agg [A.fl .f32 x4, A.fl .f32 x5, A.fl .f32 x6], V.at (A.fl .f32 x7), V.at (A.fl .f32 x8)], [⟨true, .box [A.sl 1, A.sl 2, A.sl 3, A.sl 4]⟩, ⟨true, .rows [K.f .f32, K.f .f32, K.f .f32] x0⟩, ⟨true, .rows [K.f .f32, K.f .f32, K.f .f32] x1⟩, ⟨true, .rows [K.f .f32] x2⟩, ⟨true, .rows [K.i .i64, K.i .i64, K.f .f32] x3⟩] => some (Pure.impl_Chain_fly_ok F x0 x1 x2 x3 x4 x5 x6 x7 x8, ⟨V.tup [], some [⟨true, .box [A.sl 1, A.sl 2, A.sl 3, A.sl 4]⟩, ⟨true, .rows [K.f .f32, K.f .f32, K.f .f32] (Pure.impl_Chain_fly F x0 x1 x2 x3 x4 x5 x6 x7 x8)⟩, ⟨true, .rows [K.f .f32, K.f .f32, K.f .f32] (Pure.impl_Chain_fly_1 F x0 x1 x2 x3 x4 x5 x6 x7 x8)⟩, ⟨true, .rows [K.f .f32] x2⟩, ⟨true, .rows [K.i .i64, K.i .i64, K.f .f32] x3⟩], []⟩)
  | _, _ => none
theorem e_impl_Chain_fly (F : FOps) (x0 x1 x2 x3 : List (List Int)) (x4 x5 x6 x7 x8 : Int) : Pure.impl_Chain_fly_ok F x0 x1 x2 x3 x4 x5 x6 x7 x8 = true → evFn (cxS F tyl [(50, c_impl_LessVectors F), (77, c_impl_ScaleVector F), (91, c_impl_AddVectors F)] [] [(0, S_impl_Chain_fly_L0 F)] 0) Try.f65 true [V.at (A.ptr 0 0 0), V.agg [A.fl .f32 x4, A.fl .f32 x5, A.fl .f32 x6], V.at (A.fl .f32 x7), V.at (A.fl .f32 x8)] [⟨true, .box [A.sl 1, A.sl 2, A.sl 3, A.sl 4]⟩, ⟨true, .rows [K.f .f32, K.f .f32, K.f .f32] x0⟩, ⟨true, .rows [K.f .f32, K.f .f32, K.f .f32] x1⟩, ⟨true, .rows [K.f .f32] x2⟩, ⟨true, .rows [K.i .i64, K.i .i64, K.f .f32] x3⟩] = some ⟨V.tup [], some [⟨true, .box [A.sl 1, A.sl 2, A.sl 3, A.sl 4]⟩, ⟨true, .rows [K.f .f32, K.f .f32, K.f .f32] (Pure.impl_Chain_fly F x0 x1 x2 x3 x4 x5 x6 x7 x8)⟩, ⟨true, .rows [K.f .f32, K.f .f32, K.f .f32] (Pure.impl_Chain_fly_1 F x0 x1 x2 x3 x4 x5 x6 x7 x8)⟩, ⟨true, .rows [K.f .f32] x2⟩, ⟨true, .rows [K.i .i64, K.i .i64, K.f .f32] x3⟩], []⟩ := by
  have h0 : evFn (cxS F tyl [(50, c_impl_LessVectors F), (77, c_impl_ScaleVector F), (91, c_impl_AddVectors F)] [] [(0, S_impl_Chain_fly_L0 F)] 0) Try.f65 true [V.at (A.ptr 0 0 0), V.agg [A.fl .f32 x4, A.fl .f32 x5, A.fl .f32 x6], V.at (A.fl .f32 x7), V.at (A.fl .f32 x8)] [⟨true, .box [A.sl 1, A.sl 2, A.sl 3, A.sl 4]⟩, ⟨true, .rows [K.f .f32, K.f .f32, K.f .f32] x0⟩, ⟨true, .rows [K.f .f32, K.f .f32, K.f .f32] x1⟩, ⟨true, .rows [K.f .f32] x2⟩, ⟨true, .rows [K.i .i64, K.i .i64, K.f .f32] x3⟩] = bif Prod.fst (Pure.impl_Chain_fly_L0 F x7 x8 (Int.ofNat x0.length) x2 x3 x4 x5 x6 (Nat.succ (x0.length + 0)) 0 x0 x1) then some ⟨V.tup [], some [⟨true, .box [A.sl 1, A.sl 2, A.sl 3, A.sl 4]⟩, ⟨true, .rows [K.f .f32, K.f .f32, K.f .f32] (Prod.fst (Prod.snd (Pure.impl_Chain_fly_L0 F x7 x8 (Int.ofNat x0.length) x2 x3 x4 x5 x6 (Nat.succ (x0.length + 0)) 0 x0 x1)))⟩, ⟨true, .rows [K.f .f32, K.f .f32, K.f .f32] (Prod.snd (Prod.snd (Pure.impl_Chain_fly_L0 F x7 x8 (Int.ofNat x0.length) x2 x3 x4 x5 x6 (Nat.succ (x0.length + 0)) 0 x0 x1)))⟩, ⟨true, .rows [K.f .f32] x2⟩, ⟨true, .rows [K.i .i64, K.i .i64, K.f .f32] x3⟩], []⟩ else none := by kernel_rfl
  rw [h0]
  unfold Pure.impl_Chain_fly Pure.impl_Chain_fly_1 Pure.impl_Chain_fly_ok
  cases (Prod.fst (Pure.impl_Chain_fly_L0 F x7 x8 (Int.ofNat x0.length) x2 x3 x4 x5 x6 (Nat.succ (x0.length + 0)) 0 x0 x1)) with
  | true =>
    intro _; rfl
  | false =>
    intro h; exact absurd h Bool.false_ne_true
theorem ok_impl_Chain_fly : CallOK Try.prog 65 (c_impl_Chain_fly real) := by
  refine callOK_of fun args h ret hc => ?_
  unfold c_impl_Chain_fly at hc
  split at hc
  · rename_i x4 x5 x6 x7 x8 x0 x1 x2 x3
    obtain ⟨hok, rfl⟩ := some_ret hc
    exact holdsE_ev prog_ok (allOK_cons ok_impl_LessVectors (allOK_cons ok_impl_ScaleVector (allOK_cons ok_impl_AddVectors allOK_nil))) Try.func65 rfl rfl (smL_cons (body := .loop (loopB 0 (codeOf Try.f65))) (by kernel_rfl) t_impl_Chain_fly_L0 smL_nil) (e_impl_Chain_fly real x0 x1 x2 x3 x4 x5 x6 x7 x8 hok)
  · cases hc
def Pure.impl_Chain_share (F : FOps) (x0 x1 x2 x3 : List (List Int)) (x4 : Int) : Int := bif F.cmp .eql .f32 ((x2.getD x4.toNat []).getD 0 0) 0 then 0 else F.bin .quo .f32 1065353216 ((x2.getD x4.toNat []).getD 0 0)
def Pure.impl_Chain_share_ok (F : FOps) (x0 x1 x2 x3 : List (List Int)) (x4 : Int) : Bool := bif decide (0 ≤ x4) then decide (x4 < (Int.ofNat x2.length)) else false
def c_impl_Chain_share (F : FOps) : Con
  | [V.at (A.ptr 0 0 0), V.at (A.int .i64 x4)], [⟨false, .box [A.sl 1, A.sl 2, A.sl 3, A.sl 4]⟩, ⟨false, .rows [K.f .f32, K.f .f32, K.f .f32] x0⟩, ⟨false, .rows [K.f .f32, K.f .f32, K.f .f32] x1⟩, ⟨false, .rows [K.f .f32] x2⟩, ⟨false, .rows [K.i .i64, K.i .i64, K.f .f32] x3⟩] => some (Pure.impl_Chain_share_ok F x0 x1 x2 x3 x4, ⟨V.at (A.fl .f32 (Pure.impl_Chain_share F x0 x1 x2 x3 x4)), none, []⟩)
  | _, _ => none
theorem e_impl_Chain_share (F : FOps) (x0 x1 x2 x3 : List (List Int)) (x4 : Int) : Pure.impl_Chain_share_ok F x0 x1 x2 x3 x4 = true → evFn (cxS F tyl [] [] [] 0) Try.f101 false [V.at (A.ptr 0 0 0), V.at (A.int .i64 x4)] [⟨false, .box [A.sl 1, A.sl 2, A.sl 3, A.sl 4]⟩, ⟨false, .rows [K.f .f32, K.f .f32, K.f .f32] x0⟩, ⟨false, .rows [K.f .f32, K.f .f32, K.f .f32] x1⟩, ⟨false, .rows [K.f .f32] x2⟩, ⟨false, .rows [K.i .i64, K.i .i64, K.f .f32] x3⟩] = some ⟨V.at (A.fl .f32 (Pure.impl_Chain_share F x0 x1 x2 x3 x4)), none, []⟩ := by
  have h0 : evFn (cxS F tyl [] [] [] 0) Try.f101 false [V.at (A.ptr 0 0 0), V.at (A.int .i64 x4)] [⟨false, .box [A.sl 1, A.sl 2, A.sl 3, A.sl 4]⟩, ⟨false, .rows [K.f .f32, K.f .f32, K.f .f32] x0⟩, ⟨false, .rows [K.f .f32, K.f .f32, K.f .f32] x1⟩, ⟨false, .rows [K.f .f32] x2⟩, ⟨false, .rows [K.i .i64, K.i .i64, K.f .f32] x3⟩] = bif decide (0 ≤ x4) then bif decide (x4 < (Int.ofNat x2.length)) then bif F.cmp .eql .f32 ((x2.getD x4.toNat []).getD 0 0) 0 then some ⟨V.at (A.fl .f32 0), none, []⟩ else bif decide (0 ≤ x4) then bif decide (x4 < (Int.ofNat x2.length)) then some ⟨V.at (A.fl .f32 (F.bin .quo .f32 1065353216 ((x2.getD x4.toNat []).getD 0 0))), none, []⟩ else none else none else none else none := by kernel_rfl
  rw [h0]
  unfold Pure.impl_Chain_share Pure.impl_Chain_share_ok
  cases (decide (0 ≤ x4)) with
  | true =>
    cases (decide (x4 < (Int.ofNat x2.length))) with
    | true =>
      cases (F.cmp .eql .f32 ((x2.getD x4.toNat []).getD 0 0) 0) with
      | true =>
        intro _; rfl
      | false =>
        intro _; rfl
    | false =>
      intro h; exact absurd h Bool.false_ne_true
  | false =>
    intro h; exact absurd h Bool.false_ne_true
theorem ok_impl_Chain_share : CallOK Try.prog 101 (c_impl_Chain_share real) := by
  refine callOK_of fun args h ret hc => ?_
  unfold c_impl_Chain_share at hc
  split at hc
  · rename_i x4 x0 x1 x2 x3
    obtain ⟨hok, rfl⟩ := some_ret hc
    exact holds_ev prog_ok allOK_nil Try.func101 rfl rfl smL_nil rfl (e_impl_Chain_share real x0 x1 x2 x3 x4 hok)
  · cases hc
def Pure.impl_InnerOf (F : FOps) (x0 x1 x2 x3 x4 x5 : Int) : Int := F.bin .add .f32 (F.bin .add .f32 (F.bin .mul .f32 x0 x3) (F.bin .mul .f32 x1 x4)) (F.bin .mul .f32 x2 x5)
def c_impl_InnerOf (F : FOps) : Con
  | [V.agg [A.fl .f32 x0, A.fl .f32 x1, A.fl .f32 x2], V.agg [A.fl .f32 x3, A.fl .f32 x4, A.fl .f32 x5]], [] => some (true, ⟨V.at (A.fl .f32 (Pure.impl_InnerOf F x0 x1 x2 x3 x4 x5)), none, []⟩)
  | _, _ => none
theorem e_impl_InnerOf (F : FOps) (x0 x1 x2 x3 x4 x5 : Int) : evFn (cxS F tyl [] [] [] 0) Try.f74 false [V.agg [A.fl .f32 x0, A.fl .f32 x1, A.fl .f32 x2], V.agg [A.fl .f32 x3, A.fl .f32 x4, A.fl .f32 x5]] [] = some ⟨V.at (A.fl .f32 (Pure.impl_InnerOf F x0 x1 x2 x3 x4 x5)), none, []⟩ := by
  kernel_rfl
theorem ok_impl_InnerOf : CallOK Try.prog 74 (c_impl_InnerOf real) := by
  refine callOK_of fun args h ret hc => ?_
  unfold c_impl_InnerOf at hc
  split at hc
  · rename_i x0 x1 x2 x3 x4 x5
    obtain ⟨_, rfl⟩ := some_ret hc
    exact holds_ev prog_ok allOK_nil Try.func74 rfl rfl smL_nil rfl (e_impl_InnerOf real x0 x1 x2 x3 x4 x5)
  · cases hc
def c_math_sqrt (F : FOps) : Con
  | [V.at (A.fl .f64 x)], [] => some (true, ⟨V.at (A.fl .f64 (F.sqrt x)), none, []⟩)
  | _, _ => none
theorem ok_math_sqrt : CallOK Try.prog 103 (c_math_sqrt real) := by
  refine callOK_of fun args h ret hc => ?_
  unfold c_math_sqrt at hc
  split at hc
  · rename_i x
    obtain ⟨_, rfl⟩ := some_ret hc
    exact ext_sqrt Try.func103 rfl rfl (by kernel_rfl) (by kernel_rfl) x
  · cases hc
def c_math_Sqrt (F : FOps) : Con
  | [V.at (A.fl .f64 x0)], [] => some (true, ⟨V.at (A.fl .f64 (F.sqrt x0)), none, []⟩)
  | _, _ => none
theorem e_math_Sqrt (F : FOps) (x0 : Int) : evFn (cxS F tyl [(103, c_math_sqrt F)] [] [] 0) Try.f95 false [V.at (A.fl .f64 x0)] [] = some ⟨V.at (A.fl .f64 (F.sqrt x0)), none, []⟩ := by
  kernel_rfl
theorem ok_math_Sqrt : CallOK Try.prog 95 (c_math_Sqrt real) := by
  refine callOK_of fun args h ret hc => ?_
  unfold c_math_Sqrt at hc
  split at hc
  · rename_i x0
    obtain ⟨_, rfl⟩ := some_ret hc
    exact holds_ev prog_ok (allOK_cons ok_math_sqrt allOK_nil) Try.func95 rfl rfl smL_nil rfl (e_math_Sqrt real x0)
  · cases hc
def Pure.impl_RootNumber (F : FOps) (x0 : Int) : Int := F.conv .f64 .f32 (F.sqrt (F.conv .f32 .f64 x0))
def Pure.impl_RootNumber_ok (F : FOps) (x0 : Int) : Bool := bif F.convOk .f32 .f64 x0 then F.convOk .f64 .f32 (F.sqrt (F.conv .f32 .f64 x0)) else false
def c_impl_RootNumber (F : FOps) : Con
  | [V.at (A.fl .f32 x0)], [] => some (Pure.impl_RootNumber_ok F x0, ⟨V.at (A.fl .f32 (Pure.impl_RootNumber F x0)), none, []⟩)
  | _, _ => none
theorem e_impl_RootNumber (F : FOps) (x0 : Int) : Pure.impl_RootNumber_ok F x0 = true → evFn (cxS F tyl [(95, c_math_Sqrt F)] [] [] 0) Try.f73 false [V.at (A.fl .f32 x0)] [] = some ⟨V.at (A.fl .f32 (Pure.impl_RootNumber F x0)), none, []⟩ := by
  have h0 : evFn (cxS F tyl [(95, c_math_Sqrt F)] [] [] 0) Try.f73 false [V.at (A.fl .f32 x0)] [] = bif F.convOk .f32 .f64 x0 then bif F.convOk .f64 .f32 (F.sqrt (F.conv .f32 .f64 x0)) then some ⟨V.at (A.fl .f32 (F.conv .f64 .f32 (F.sqrt (F.conv .f32 .f64 x0)))), none, []⟩ else none else none := by kernel_rfl
  rw [h0]
  unfold Pure.impl_RootNumber Pure.impl_RootNumber_ok
  cases (F.convOk .f32 .f64 x0) with
  | true =>
    cases (F.convOk .f64 .f32 (F.sqrt (F.conv .f32 .f64 x0))) with
    | true =>
      intro _; rfl
    | false =>
      intro h; exact absurd h Bool.false_ne_true
  | false =>
    intro h; exact absurd h Bool.false_ne_true
theorem ok_impl_RootNumber : CallOK Try.prog 73 (c_impl_RootNumber real) := by
  refine callOK_of fun args h ret hc => ?_
  unfold c_impl_RootNumber at hc
  split at hc
  · rename_i x0
    obtain ⟨hok, rfl⟩ := some_ret hc
    exact holds_ev prog_ok (allOK_cons ok_math_Sqrt allOK_nil) Try.func73 rfl rfl smL_nil rfl (e_impl_RootNumber real x0 hok)
  · cases hc
def Pure.impl_LongOf (F : FOps) (x0 x1 x2 : Int) : Int := Pure.impl_RootNumber F (Pure.impl_InnerOf F x0 x1 x2 x0 x1 x2)
def Pure.impl_LongOf_ok (F : FOps) (x0 x1 x2 : Int) : Bool := Pure.impl_RootNumber_ok F (Pure.impl_InnerOf F x0 x1 x2 x0 x1 x2)
def c_impl_LongOf (F : FOps) : Con
  | [V.agg [A.fl .f32 x0, A.fl .f32 x1, A.fl .f32 x2]], [] => some (Pure.impl_LongOf_ok F x0 x1 x2, ⟨V.at (A.fl .f32 (Pure.impl_LongOf F x0 x1 x2)), none, []⟩)
  | _, _ => none
theorem e_impl_LongOf (F : FOps) (x0 x1 x2 : Int) : Pure.impl_LongOf_ok F x0 x1 x2 = true → evFn (cxS F tyl [(74, c_impl_InnerOf F), (73, c_impl_RootNumber F)] [] [] 0) Try.f49 false [V.agg [A.fl .f32 x0, A.fl .f32 x1, A.fl .f32 x2]] [] = some ⟨V.at (A.fl .f32 (Pure.impl_LongOf F x0 x1 x2)), none, []⟩ := by
  have h0 : evFn (cxS F tyl [(74, c_impl_InnerOf F), (73, c_impl_RootNumber F)] [] [] 0) Try.f49 false [V.agg [A.fl .f32 x0, A.fl .f32 x1, A.fl .f32 x2]] [] = bif Pure.impl_RootNumber_ok F (Pure.impl_InnerOf F x0 x1 x2 x0 x1 x2) then some ⟨V.at (A.fl .f32 (Pure.impl_RootNumber F (Pure.impl_InnerOf F x0 x1 x2 x0 x1 x2))), none, []⟩ else none := by kernel_rfl
  rw [h0]
  unfold Pure.impl_LongOf Pure.impl_LongOf_ok
  cases (Pure.impl_RootNumber_ok F (Pure.impl_InnerOf F x0 x1 x2 x0 x1 x2)) with
  | true =>
    intro _; rfl
  | false =>
    intro h; exact absurd h Bool.false_ne_true
theorem ok_impl_LongOf : CallOK Try.prog 49 (c_impl_LongOf real) := by
  refine callOK_of fun args h ret hc => ?_
  unfold c_impl_LongOf at hc
  split at hc
  · rename_i x0 x1 x2
    obtain ⟨hok, rfl⟩ := some_ret hc
    exact holds_ev prog_ok (allOK_cons ok_impl_InnerOf (allOK_cons ok_impl_RootNumber allOK_nil)) Try.func49 rfl rfl smL_nil rfl (e_impl_LongOf real x0 x1 x2 hok)
  · cases hc
def Pure.s1_f92 (F : FOps) (x0 : List (List Int)) (x4 x5 : Int) : Int := Pure.impl_LessVectors F ((x0.getD x5.toNat []).getD 0 0) ((x0.getD x5.toNat []).getD 1 0) ((x0.getD x5.toNat []).getD 2 0) ((x0.getD x4.toNat []).getD 0 0) ((x0.getD x4.toNat []).getD 1 0) ((x0.getD x4.toNat []).getD 2 0)
def Pure.s2_f92 (F : FOps) (x0 : List (List Int)) (x4 x5 : Int) : Int := Pure.impl_LessVectors_1 F ((x0.getD x5.toNat []).getD 0 0) ((x0.getD x5.toNat []).getD 1 0) ((x0.getD x5.toNat []).getD 2 0) ((x0.getD x4.toNat []).getD 0 0) ((x0.getD x4.toNat []).getD 1 0) ((x0.getD x4.toNat []).getD 2 0)
def Pure.s3_f92 (F : FOps) (x0 : List (List Int)) (x4 x5 : Int) : Int := Pure.impl_LessVectors_2 F ((x0.getD x5.toNat []).getD 0 0) ((x0.getD x5.toNat []).getD 1 0) ((x0.getD x5.toNat []).getD 2 0) ((x0.getD x4.toNat []).getD 0 0) ((x0.getD x4.toNat []).getD 1 0) ((x0.getD x4.toNat []).getD 2 0)
def Pure.s4_f92 (F : FOps) (x0 : List (List Int)) (x4 x5 : Int) : Int := Pure.impl_LongOf F (Pure.s1_f92 F x0 x4 x5) (Pure.s2_f92 F x0 x4 x5) (Pure.s3_f92 F x0 x4 x5)
def Pure.s5_f92 (F : FOps) (x0 x1 x2 x3 : List (List Int)) (x4 x5 x6 : Int) : Int := F.bin .quo .f32 (F.bin .sub .f32 (Pure.s4_f92 F x0 x4 x5) x6) (F.bin .mul .f32 (Pure.s4_f92 F x0 x4 x5) (F.bin .add .f32 (Pure.impl_Chain_share F x0 x1 x2 x3 x4) (Pure.impl_Chain_share F x0 x1 x2 x3 x5)))
def Pure.s6_f92 (F : FOps) (x0 x1 x2 x3 : List (List Int)) (x4 x5 x6 : Int) : Int := F.bin .mul .f32 (Pure.s5_f92 F x0 x1 x2 x3 x4 x5 x6) (Pure.impl_Chain_share F x0 x1 x2 x3 x4)
def Pure.s7_f92 (F : FOps) (x0 x1 x2 x3 : List (List Int)) (x4 x5 x6 : Int) : Int := Pure.impl_ScaleVector F (Pure.s1_f92 F x0 x4 x5) (Pure.s2_f92 F x0 x4 x5) (Pure.s3_f92 F x0 x4 x5) (Pure.s6_f92 F x0 x1 x2 x3 x4 x5 x6)
def Pure.s8_f92 (F : FOps) (x0 x1 x2 x3 : List (List Int)) (x4 x5 x6 : Int) : Int := Pure.impl_ScaleVector_1 F (Pure.s1_f92 F x0 x4 x5) (Pure.s2_f92 F x0 x4 x5) (Pure.s3_f92 F x0 x4 x5) (Pure.s6_f92 F x0 x1 x2 x3 x4 x5 x6)
def Pure.s9_f92 (F : FOps) (x0 x1 x2 x3 : List (List Int)) (x4 x5 x6 : Int) : Int := Pure.impl_ScaleVector_2 F (Pure.s1_f92 F x0 x4 x5) (Pure.s2_f92 F x0 x4 x5) (Pure.s3_f92 F x0 x4 x5) (Pure.s6_f92 F x0 x1 x2 x3 x4 x5 x6)
def Pure.s10_f92 (F : FOps) (x0 x1 x2 x3 : List (List Int)) (x4 x5 x6 : Int) : Int := F.bin .mul .f32 (Pure.s5_f92 F x0 x1 x2 x3 x4 x5 x6) (Pure.impl_Chain_share F x0 x1 x2 x3 x5)
def Pure.s11_f92 (F : FOps) (x0 x1 x2 x3 : List (List Int)) (x4 x5 x6 : Int) : Int := Pure.impl_ScaleVector F (Pure.s1_f92 F x0 x4 x5) (Pure.s2_f92 F x0 x4 x5) (Pure.s3_f92 F x0 x4 x5) (Pure.s10_f92 F x0 x1 x2 x3 x4 x5 x6)
def Pure.s12_f92 (F : FOps) (x0 x1 x2 x3 : List (List Int)) (x4 x5 x6 : Int) : Int := Pure.impl_ScaleVector_1 F (Pure.s1_f92 F x0 x4 x5) (Pure.s2_f92 F x0 x4 x5) (Pure.s3_f92 F x0 x4 x5) (Pure.s10_f92 F x0 x1 x2 x3 x4 x5 x6)
def Pure.s13_f92 (F : FOps) (x0 x1 x2 x3 : List (List Int)) (x4 x5 x6 : Int) : Int := Pure.impl_ScaleVector_2 F (Pure.s1_f92 F x0 x4 x5) (Pure.s2_f92 F x0 x4 x5) (Pure.s3_f92 F x0 x4 x5) (Pure.s10_f92 F x0 x1 x2 x3 x4 x5 x6)
def Pure.impl_Chain_straighten (F : FOps) (x0 x1 x2 x3 : List (List Int)) (x4 x5 x6 : Int) : List (List Int) := bif F.cmp .gtr .f32 (Pure.s4_f92 F x0 x4 x5) 0 then bif F.cmp .gtr .f32 (F.bin .add .f32 (Pure.impl_Chain_share F x0 x1 x2 x3 x4) (Pure.impl_Chain_share F x0 x1 x2 x3 x5)) 0 then List.set (List.set x0 (Int.toNat x4) [Pure.impl_AddVectors F ((x0.getD x4.toNat []).getD 0 0) ((x0.getD x4.toNat []).getD 1 0) ((x0.getD x4.toNat []).getD 2 0) (Pure.s7_f92 F x0 x1 x2 x3 x4 x5 x6) (Pure.s8_f92 F x0 x1 x2 x3 x4 x5 x6) (Pure.s9_f92 F x0 x1 x2 x3 x4 x5 x6), Pure.impl_AddVectors_1 F ((x0.getD x4.toNat []).getD 0 0) ((x0.getD x4.toNat []).getD 1 0) ((x0.getD x4.toNat []).getD 2 0) (Pure.s7_f92 F x0 x1 x2 x3 x4 x5 x6) (Pure.s8_f92 F x0 x1 x2 x3 x4 x5 x6) (Pure.s9_f92 F x0 x1 x2 x3 x4 x5 x6), Pure.impl_AddVectors_2 F ((x0.getD x4.toNat []).getD 0 0) ((x0.getD x4.toNat []).getD 1 0) ((x0.getD x4.toNat []).getD 2 0) (Pure.s7_f92 F x0 x1 x2 x3 x4 x5 x6) (Pure.s8_f92 F x0 x1 x2 x3 x4 x5 x6) (Pure.s9_f92 F x0 x1 x2 x3 x4 x5 x6)]) (Int.toNat x5) [Pure.impl_LessVectors F (List.getD (List.getD (List.set x0 (Int.toNat x4) [Pure.impl_AddVectors F ((x0.getD x4.toNat []).getD 0 0) ((x0.getD x4.toNat []).getD 1 0) ((x0.getD x4.toNat []).getD 2 0) (Pure.s7_f92 F x0 x1 x2 x3 x4 x5 x6) (Pure.s8_f92 F x0 x1 x2 x3 x4 x5 x6) (Pure.s9_f92 F x0 x1 x2 x3 x4 x5 x6), Pure.impl_AddVectors_1 F ((x0.getD x4.toNat []).getD 0 0) ((x0.getD x4.toNat []).getD 1 0) ((x0.getD x4.toNat []).getD 2 0) (Pure.s7_f92 F x0 x1 x2 x3 x4 x5 x6) (Pure.s8_f92 F x0 x1 x2 x3 x4 x5 x6) (Pure.s9_f92 F x0 x1 x2 x3 x4 x5 x6), Pure.impl_AddVectors_2 F ((x0.getD x4.toNat []).getD 0 0) ((x0.getD x4.toNat []).getD 1 0) ((x0.getD x4.toNat []).getD 2 0) (Pure.s7_f92 F x0 x1 x2 x3 x4 x5 x6) (Pure.s8_f92 F x0 x1 x2 x3 x4 x5 x6) (Pure.s9_f92 F x0 x1 x2 x3 x4 x5 x6)]) (Int.toNat x5) []) 0 0) (List.getD (List.getD (List.set x0 (Int.toNat x4) [Pure.impl_AddVectors F ((x0.getD x4.toNat []).getD 0 0) ((x0.getD x4.toNat []).getD 1 0) ((x0.getD x4.toNat []).getD 2 0) (Pure.s7_f92 F x0 x1 x2 x3 x4 x5 x6) (Pure.s8_f92 F x0 x1 x2 x3 x4 x5 x6) (Pure.s9_f92 F x0 x1 x2 x3 x4 x5 x6), Pure.impl_AddVectors_1 F ((x0.getD x4.toNat []).getD 0 0) ((x0.getD x4.toNat []).getD 1 0) ((x0.getD x4.toNat []).getD 2 0) (Pure.s7_f92 F x0 x1 x2 x3 x4 x5 x6) (Pure.s8_f92 F x0 x1 x2 x3 x4 x5 x6) (Pure.s9_f92 F x0 x1 x2 x3 x4 x5 x6), Pure.impl_AddVectors_2 F ((x0.getD x4.toNat []).getD 0 0) ((x0.getD x4.toNat []).getD 1 0) ((x0.getD x4.toNat []).getD 2 0) (Pure.s7_f92 F x0 x1 x2 x3 x4 x5 x6) (Pure.s8_f92 F x0 x1 x2 x3 x4 x5 x6) (Pure.s9_f92 F x0 x1 x2 x3 x4 x5 x6)]) (Int.toNat x5) []) 1 0) (List.getD (List.getD (List.set x0 (Int.toNat x4) [Pure.impl_AddVectors F ((x0.getD x4.toNat []).getD 0 0) ((x0.getD x4.toNat []).getD 1 0) ((x0.getD x4.toNat []).getD 2 0) (Pure.s7_f92 F x0 x1 x2 x3 x4 x5 x6) (Pure.s8_f92 F x0 x1 x2 x3 x4 x5 x6) (Pure.s9_f92 F x0 x1 x2 x3 x4 x5 x6), Pure.impl_AddVectors_1 F ((x0.getD x4.toNat []).getD 0 0) ((x0.getD x4.toNat []).getD 1 0) ((x0.getD x4.toNat []).getD 2 0) (Pure.s7_f92 F x0 x1 x2 x3 x4 x5 x6) (Pure.s8_f92 F x0 x1 x2 x3 x4 x5 x6) (Pure.s9_f92 F x0 x1 x2 x3 x4 x5 x6), Pure.impl_AddVectors_2 F ((x0.getD x4.toNat []).getD 0 0) ((x0.getD x4.toNat []).getD 1 0) ((x0.getD x4.toNat []).getD 2 0) (Pure.s7_f92 F x0 x1 x2 x3 x4 x5 x6) (Pure.s8_f92 F x0 x1 x2 x3 x4 x5 x6) (Pure.s9_f92 F x0 x1 x2 x3 x4 x5 x6)]) (Int.toNat x5) []) 2 0) (Pure.s11_f92 F x0 x1 x2 x3 x4 x5 x6) (Pure.s12_f92 F x0 x1 x2 x3 x4 x5 x6) (Pure.s13_f92 F x0 x1 x2 x3 x4 x5 x6), Pure.impl_LessVectors_1 F (List.getD (List.getD (List.set x0 (Int.toNat x4) [Pure.impl_AddVectors F ((x0.getD x4.toNat []).getD 0 0) ((x0.getD x4.toNat []).getD 1 0) ((x0.getD x4.toNat []).getD 2 0) (Pure.s7_f92 F x0 x1 x2 x3 x4 x5 x6) (Pure.s8_f92 F x0 x1 x2 x3 x4 x5 x6) (Pure.s9_f92 F x0 x1 x2 x3 x4 x5 x6), Pure.impl_AddVectors_1 F ((x0.getD x4.toNat []).getD 0 0) ((x0.getD x4.toNat []).getD 1 0) ((x0.getD x4.toNat []).getD 2 0) (Pure.s7_f92 F x0 x1 x2 x3 x4 x5 x6) (Pure.s8_f92 F x0 x1 x2 x3 x4 x5 x6) (Pure.s9_f92 F x0 x1 x2 x3 x4 x5 x6), Pure.impl_AddVectors_2 F ((x0.getD x4.toNat []).getD 0 0) ((x0.getD x4.toNat []).getD 1 0) ((x0.getD x4.toNat []).getD 2 0) (Pure.s7_f92 F x0 x1 x2 x3 x4 x5 x6) (Pure.s8_f92 F x0 x1 x2 x3 x4 x5 x6) (Pure.s9_f92 F x0 x1 x2 x3 x4 x5 x6)]) (Int.toNat x5) []) 0 0) (List.getD (List.getD (List.set x0 (Int.toNat x4) [Pure.impl_AddVectors F ((x0.getD x4.toNat []).getD 0 0) ((x0.getD x4.toNat []).getD 1 0) ((x0.getD x4.toNat []).getD 2 0) (Pure.s7_f92 F x0 x1 x2 x3 x4 x5 x6) (Pure.s8_f92 F x0 x1 x2 x3 x4 x5 x6) (Pure.s9_f92 F x0 x1 x2 x3 x4 x5 x6), Pure.impl_AddVectors_1 F ((x0.getD x4.toNat []).getD 0 0) ((x0.getD x4.toNat []).getD 1 0) ((x0.getD x4.toNat []).getD 2 0) (Pure.s7_f92 F x0 x1 x2 x3 x4 x5 x6) (Pure.s8_f92 F x0 x1 x2 x3 x4 x5 x6) (Pure.s9_f92 F x0 x1 x2 x3 x4 x5 x6), Pure.impl_AddVectors_2 F ((x0.getD x4.toNat []).getD 0 0) ((x0.getD x4.toNat []).getD 1 0) ((x0.getD x4.toNat []).getD 2 0) (Pure.s7_f92 F x0 x1 x2 x3 x4 x5 x6) (Pure.s8_f92 F x0 x1 x2 x3 x4 x5 x6) (Pure.s9_f92 F x0 x1 x2 x3 x4 x5 x6)]) (Int.toNat x5) []) 1 0) (List.getD (List.getD (List.set x0 (Int.toNat x4) [Pure.impl_AddVectors F ((x0.getD x4.toNat []).getD 0 0) ((x0.getD x4.toNat []).getD 1 0) ((x0.getD x4.toNat []).getD 2 0) (Pure.s7_f92 F x0 x1 x2 x3 x4 x5 x6) (Pure.s8_f92 F x0 x1 x2 x3 x4 x5 x6) (Pure.s9_f92 F x0 x1 x2 x3 x4 x5 x6), Pure.impl_AddVectors_1 F ((x0.getD x4.toNat []).getD 0 0) ((x0.getD x4.toNat []).getD 1 0) ((x0.getD x4.toNat []).getD 2 0) (Pure.s7_f92 F x0 x1 x2 x3 x4 x5 x6) (Pure.s8_f92 F x0 x1 x2 x3 x4 x5 x6) (Pure.s9_f92 F x0 x1 x2 x3 x4 x5 x6), Pure.impl_AddVectors_2 F ((x0.getD x4.toNat []).getD 0 0) ((x0.getD x4.toNat []).getD 1 0) ((x0.getD x4.toNat []).getD 2 0) (Pure.s7_f92 F x0 x1 x2 x3 x4 x5 x6) (Pure.s8_f92 F x0 x1 x2 x3 x4 x5 x6) (Pure.s9_f92 F x0 x1 x2 x3 x4 x5 x6)]) (Int.toNat x5) []) 2 0) (Pure.s11_f92 F x0 x1 x2 x3 x4 x5 x6) (Pure.s12_f92 F x0 x1 x2 x3 x4 x5 x6) (Pure.s13_f92 F x0 x1 x2 x3 x4 x5 x6), Pure.impl_LessVectors_2 F (List.getD (List.getD (List.set x0 (Int.toNat x4) [Pure.impl_AddVectors F ((x0.getD x4.toNat []).getD 0 0) ((x0.getD x4.toNat []).getD 1 0) ((x0.getD x4.toNat []).getD 2 0) (Pure.s7_f92 F x0 x1 x2 x3 x4 x5 x6) (Pure.s8_f92 F x0 x1 x2 x3 x4 x5 x6) (Pure.s9_f92 F x0 x1 x2 x3 x4 x5 x6), Pure.impl_AddVectors_1 F ((x0.getD x4.toNat []).getD 0 0) ((x0.getD x4.toNat []).getD 1 0) ((x0.getD x4.toNat []).getD 2 0) (Pure.s7_f92 F x0 x1 x2 x3 x4 x5 x6) (Pure.s8_f92 F x0 x1 x2 x3 x4 x5 x6) (Pure.s9_f92 F x0 x1 x2 x3 x4 x5 x6), Pure.impl_AddVectors_2 F ((x0.getD x4.toNat []).getD 0 0) ((x0.getD x4.toNat []).getD 1 0) ((x0.getD x4.toNat []).getD 2 0) (Pure.s7_f92 F x0 x1 x2 x3 x4 x5 x6) (Pure.s8_f92 F x0 x1 x2 x3 x4 x5 x6) (Pure.s9_f92 F x0 x1 x2 x3 x4 x5 x6)]) (Int.toNat x5) []) 0 0) (List.getD (List.getD (List.set x0 (Int.toNat x4) [Pure.impl_AddVectors F ((x0.getD x4.toNat []).getD 0 0) ((x0.getD x4.toNat []).getD 1 0) ((x0.getD x4.toNat []).getD 2 0) (Pure.s7_f92 F x0 x1 x2 x3 x4 x5 x6) (Pure.s8_f92 F x0 x1 x2 x3 x4 x5 x6) (Pure.s9_f92 F x0 x1 x2 x3 x4 x5 x6), Pure.impl_AddVectors_1 F ((x0.getD x4.toNat []).getD 0 0) ((x0.getD x4.toNat []).getD 1 0) ((x0.getD x4.toNat []).getD 2 0) (Pure.s7_f92 F x0 x1 x2 x3 x4 x5 x6) (Pure.s8_f92 F x0 x1 x2 x3 x4 x5 x6) (Pure.s9_f92 F x0 x1 x2 x3 x4 x5 x6), Pure.impl_AddVectors_2 F ((x0.getD x4.toNat []).getD 0 0) ((x0.getD x4.toNat []).getD 1 0) ((x0.getD x4.toNat []).getD 2 0) (Pure.s7_f92 F x0 x1 x2 x3 x4 x5 x6) (Pure.s8_f92 F x0 x1 x2 x3 x4 x5 x6) (Pure.s9_f92 F x0 x1 x2 x3 x4 x5 x6)]) (Int.toNat x5) []) 1 0) (List.getD (List.getD (List.set x0 (Int.toNat x4) [Pure.impl_AddVectors F ((x0.getD x4.toNat []).getD 0 0) ((x0.getD x4.toNat []).getD 1 0) ((x0.getD x4.toNat []).getD 2 0) (Pure.s7_f92 F x0 x1 x2 x3 x4 x5 x6) (Pure.s8_f92 F x0 x1 x2 x3 x4 x5 x6) (Pure.s9_f92 F x0 x1 x2 x3 x4 x5 x6), Pure.impl_AddVectors_1 F ((x0.getD x4.toNat []).getD 0 0) ((x0.getD x4.toNat []).getD 1 0) ((x0.getD x4.toNat []).getD 2 0) (Pure.s7_f92 F x0 x1 x2 x3 x4 x5 x6) (Pure.s8_f92 F x0 x1 x2 x3 x4 x5 x6) (Pure.s9_f92 F x0 x1 x2 x3 x4 x5 x6), Pure.impl_AddVectors_2 F ((x0.getD x4.toNat []).getD 0 0) ((x0.getD x4.toNat []).getD 1 0) ((x0.getD x4.toNat []).getD 2 0) (Pure.s7_f92 F x0 x1 x2 x3 x4 x5 x6) (Pure.s8_f92 F x0 x1 x2 x3 x4 x5 x6) (Pure.s9_f92 F x0 x1 x2 x3 x4 x5 x6)]) (Int.toNat x5) []) 2 0) (Pure.s11_f92 F x0 x1 x2 x3 x4 x5 x6) (Pure.s12_f92 F x0 x1 x2 x3 x4 x5 x6) (Pure.s13_f92 F x0 x1 x2 x3 x4 x5 x6)] else x0 else x0
def Pure.impl_Chain_straighten_ok (F : FOps) (x0 x1 x2 x3 : List (List Int)) (x4 x5 x6 : Int) : Bool := bif decide (0 ≤ x5) then bif decide (x5 < (Int.ofNat x0.length)) then bif decide (0 ≤ x4) then bif decide (x4 < (Int.ofNat x0.length)) then bif Pure.impl_Chain_share_ok F x0 x1 x2 x3 x4 then bif Pure.impl_Chain_share_ok F x0 x1 x2 x3 x5 then bif Pure.impl_LongOf_ok F (Pure.s1_f92 F x0 x4 x5) (Pure.s2_f92 F x0 x4 x5) (Pure.s3_f92 F x0 x4 x5) then bif F.cmp .gtr .f32 (Pure.s4_f92 F x0 x4 x5) 0 then bif F.cmp .gtr .f32 (F.bin .add .f32 (Pure.impl_Chain_share F x0 x1 x2 x3 x4) (Pure.impl_Chain_share F x0 x1 x2 x3 x5)) 0 then decide (x5 < (Int.ofNat (List.length (List.set x0 (Int.toNat x4) [Pure.impl_AddVectors F ((x0.getD x4.toNat []).getD 0 0) ((x0.getD x4.toNat []).getD 1 0) ((x0.getD x4.toNat []).getD 2 0) (Pure.s7_f92 F x0 x1 x2 x3 x4 x5 x6) (Pure.s8_f92 F x0 x1 x2 x3 x4 x5 x6) (Pure.s9_f92 F x0 x1 x2 x3 x4 x5 x6), Pure.impl_AddVectors_1 F ((x0.getD x4.toNat []).getD 0 0) ((x0.getD x4.toNat []).getD 1 0) ((x0.getD x4.toNat []).getD 2 0) (Pure.s7_f92 F x0 x1 x2 x3 x4 x5 x6) (Pure.s8_f92 F x0 x1 x2 x3 x4 x5 x6) (Pure.s9_f92 F x0 x1 x2 x3 x4 x5 x6), Pure.impl_AddVectors_2 F ((x0.getD x4.toNat []).getD 0 0) ((x0.getD x4.toNat []).getD 1 0) ((x0.getD x4.toNat []).getD 2 0) (Pure.s7_f92 F x0 x1 x2 x3 x4 x5 x6) (Pure.s8_f92 F x0 x1 x2 x3 x4 x5 x6) (Pure.s9_f92 F x0 x1 x2 x3 x4 x5 x6)])))) else true else true else false else false else false else false else false else false else false
def c_impl_Chain_straighten (F : FOps) : Con
  | [V.at (A.ptr 0 0 0), V.agg [A.int .i64 x4, A.int .i64 x5, A.fl .f32 x6]], [⟨true, .box [A.sl 1, A.sl 2, A.sl 3, A.sl 4]⟩, ⟨true, .rows [K.f .f32, K.f .f32, K.f .f32] x0⟩, ⟨true, .rows [K.f .f32, K.f .f32, K.f .f32] x1⟩, ⟨true, .rows [K.f .f32] x2⟩, ⟨true, .rows [K.i .i64, K.i .i64, K.f .f32] x3⟩] => some (Pure.impl_Chain_straighten_ok F x0 x1 x2 x3 x4 x5 x6, ⟨V.tup [], some [⟨true, .box [A.sl 1, A.sl 2, A.sl 3, A.sl 4]⟩, ⟨true, .rows [K.f .f32, K.f .f32, K.f .f32] (Pure.impl_Chain_straighten F x0 x1 x2 x3 x4 x5 x6)⟩, ⟨true, .rows [K.f .f32, K.f .f32, K.f .f32] x1⟩, ⟨true, .rows [K.f .f32] x2⟩, ⟨true, .rows [K.i .i64, K.i .i64, K.f .f32] x3⟩], []⟩)
  | _, _ => none
theorem e_impl_Chain_straighten (F : FOps) (x0 x1 x2 x3 : List (List Int)) (x4 x5 x6 : Int) : Pure.impl_Chain_straighten_ok F x0 x1 x2 x3 x4 x5 x6 = true → evFn (cxS F tyl [(50, c_impl_LessVectors F), (101, c_impl_Chain_share F), (49, c_impl_LongOf F), (77, c_impl_ScaleVector F), (91, c_impl_AddVectors F)] [] [] 0) Try.f92 true [V.at (A.ptr 0 0 0), V.agg [A.int .i64 x4, A.int .i64 x5, A.fl .f32 x6]] [⟨true, .box [A.sl 1, A.sl 2, A.sl 3, A.sl 4]⟩, ⟨true, .rows [K.f .f32, K.f .f32, K.f .f32] x0⟩, ⟨true, .rows [K.f .f32, K.f .f32, K.f .f32] x1⟩, ⟨true, .rows [K.f .f32] x2⟩, ⟨true, .rows [K.i .i64, K.i .i64, K.f .f32] x3⟩] = some ⟨V.tup [], some [⟨true, .box [A.sl 1, A.sl 2, A.sl 3, A.sl 4]⟩, ⟨true, .rows [K.f .f32, K.f .f32, K.f .f32] (Pure.impl_Chain_straighten F x0 x1 x2 x3 x4 x5 x6)⟩, ⟨true, .rows [K.f .f32, K.f .f32, K.f .f32] x1⟩, ⟨true, .rows [K.f .f32] x2⟩, ⟨true, .rows [K.i .i64, K.i .i64, K.f .f32] x3⟩], []⟩ := by
  have h0 : evFn (cxS F tyl [(50, c_impl_LessVectors F), (101, c_impl_Chain_share F), (49, c_impl_LongOf F), (77, c_impl_ScaleVector F), (91, c_impl_AddVectors F)] [] [] 0) Try.f92 true [V.at (A.ptr 0 0 0), V.agg [A.int .i64 x4, A.int .i64 x5, A.fl .f32 x6]] [⟨true, .box [A.sl 1, A.sl 2, A.sl 3, A.sl 4]⟩, ⟨true, .rows [K.f .f32, K.f .f32, K.f .f32] x0⟩, ⟨true, .rows [K.f .f32, K.f .f32, K.f .f32] x1⟩, ⟨true, .rows [K.f .f32] x2⟩, ⟨true, .rows [K.i .i64, K.i .i64, K.f .f32] x3⟩] = bif decide (0 ≤ x5) then bif decide (x5 < (Int.ofNat x0.length)) then bif decide (0 ≤ x4) then bif decide (x4 < (Int.ofNat x0.length)) then bif Pure.impl_Chain_share_ok F x0 x1 x2 x3 x4 then bif Pure.impl_Chain_share_ok F x0 x1 x2 x3 x5 then bif Pure.impl_LongOf_ok F (Pure.s1_f92 F x0 x4 x5) (Pure.s2_f92 F x0 x4 x5) (Pure.s3_f92 F x0 x4 x5) then bif Bool.not (F.cmp .gtr .f32 (Pure.s4_f92 F x0 x4 x5) 0) then some ⟨V.tup [], some [⟨true, .box [A.sl 1, A.sl 2, A.sl 3, A.sl 4]⟩, ⟨true, .rows [K.f .f32, K.f .f32, K.f .f32] x0⟩, ⟨true, .rows [K.f .f32, K.f .f32, K.f .f32] x1⟩, ⟨true, .rows [K.f .f32] x2⟩, ⟨true, .rows [K.i .i64, K.i .i64, K.f .f32] x3⟩], []⟩ else bif Bool.not (F.cmp .gtr .f32 (F.bin .add .f32 (Pure.impl_Chain_share F x0 x1 x2 x3 x4) (Pure.impl_Chain_share F x0 x1 x2 x3 x5)) 0) then some ⟨V.tup [], some [⟨true, .box [A.sl 1, A.sl 2, A.sl 3, A.sl 4]⟩, ⟨true, .rows [K.f .f32, K.f .f32, K.f .f32] x0⟩, ⟨true, .rows [K.f .f32, K.f .f32, K.f .f32] x1⟩, ⟨true, .rows [K.f .f32] x2⟩, ⟨true, .rows [K.i .i64, K.i .i64, K.f .f32] x3⟩], []⟩ else bif decide (0 ≤ x4) then bif decide (x4 < (Int.ofNat x0.length)) then bif decide (0 ≤ x4) then bif decide (x4 < (Int.ofNat x0.length)) then bif decide (0 ≤ x5) then bif decide (x5 < (Int.ofNat (List.length (List.set x0 (Int.toNat x4) [Pure.impl_AddVectors F ((x0.getD x4.toNat []).getD 0 0) ((x0.getD x4.toNat []).getD 1 0) ((x0.getD x4.toNat []).getD 2 0) (Pure.s7_f92 F x0 x1 x2 x3 x4 x5 x6) (Pure.s8_f92 F x0 x1 x2 x3 x4 x5 x6) (Pure.s9_f92 F x0 x1 x2 x3 x4 x5 x6), Pure.impl_AddVectors_1 F ((x0.getD x4.toNat []).getD 0 0) ((x0.getD x4.toNat []).getD 1 0) ((x0.getD x4.toNat []).getD 2 0) (Pure.s7_f92 F x0 x1 x2 x3 x4 x5 x6) (Pure.s8_f92 F x0 x1 x2 x3 x4 x5 x6) (Pure.s9_f92 F x0 x1 x2 x3 x4 x5 x6), Pure.impl_AddVectors_2 F ((x0.getD x4.toNat []).getD 0 0) ((x0.getD x4.toNat []).getD 1 0) ((x0.getD x4.toNat []).getD 2 0) (Pure.s7_f92 F x0 x1 x2 x3 x4 x5 x6) (Pure.s8_f92 F x0 x1 x2 x3 x4 x5 x6) (Pure.s9_f92 F x0 x1 x2 x3 x4 x5 x6)])))) then bif decide (0 ≤ x5) then bif decide (x5 < (Int.ofNat (List.length (List.set x0 (Int.toNat x4) [Pure.impl_AddVectors F ((x0.getD x4.toNat []).getD 0 0) ((x0.getD x4.toNat []).getD 1 0) ((x0.getD x4.toNat []).getD 2 0) (Pure.s7_f92 F x0 x1 x2 x3 x4 x5 x6) (Pure.s8_f92 F x0 x1 x2 x3 x4 x5 x6) (Pure.s9_f92 F x0 x1 x2 x3 x4 x5 x6), Pure.impl_AddVectors_1 F ((x0.getD x4.toNat []).getD 0 0) ((x0.getD x4.toNat []).getD 1 0) ((x0.getD x4.toNat []).getD 2 0) (Pure.s7_f92 F x0 x1 x2 x3 x4 x5 x6) (Pure.s8_f92 F x0 x1 x2 x3 x4 x5 x6) (Pure.s9_f92 F x0 x1 x2 x3 x4 x5 x6), Pure.impl_AddVectors_2 F ((x0.getD x4.toNat []).getD 0 0) ((x0.getD x4.toNat []).getD 1 0) ((x0.getD x4.toNat []).getD 2 0) (Pure.s7_f92 F x0 x1 x2 x3 x4 x5 x6) (Pure.s8_f92 F x0 x1 x2 x3 x4 x5 x6) (Pure.s9_f92 F x0 x1 x2 x3 x4 x5 x6)])))) then some ⟨V.tup [], some [⟨true, .box [A.sl 1, A.sl 2, A.sl 3, A.sl 4]⟩, ⟨true, .rows [K.f .f32, K.f .f32, K.f .f32] (List.set (List.set x0 (Int.toNat x4) [Pure.impl_AddVectors F ((x0.getD x4.toNat []).getD 0 0) ((x0.getD x4.toNat []).getD 1 0) ((x0.getD x4.toNat []).getD 2 0) (Pure.s7_f92 F x0 x1 x2 x3 x4 x5 x6) (Pure.s8_f92 F x0 x1 x2 x3 x4 x5 x6) (Pure.s9_f92 F x0 x1 x2 x3 x4 x5 x6), Pure.impl_AddVectors_1 F ((x0.getD x4.toNat []).getD 0 0) ((x0.getD x4.toNat []).getD 1 0) ((x0.getD x4.toNat []).getD 2 0) (Pure.s7_f92 F x0 x1 x2 x3 x4 x5 x6) (Pure.s8_f92 F x0 x1 x2 x3 x4 x5 x6) (Pure.s9_f92 F x0 x1 x2 x3 x4 x5 x6), Pure.impl_AddVectors_2 F ((x0.getD x4.toNat []).getD 0 0) ((x0.getD x4.toNat []).getD 1 0) ((x0.getD x4.toNat []).getD 2 0) (Pure.s7_f92 F x0 x1 x2 x3 x4 x5 x6) (Pure.s8_f92 F x0 x1 x2 x3 x4 x5 x6) (Pure.s9_f92 F x0 x1 x2 x3 x4 x5 x6)]) (Int.toNat x5) [Pure.impl_LessVectors F (List.getD (List.getD (List.set x0 (Int.toNat x4) [Pure.impl_AddVectors F ((x0.getD x4.toNat []).getD 0 0) ((x0.getD x4.toNat []).getD 1 0) ((x0.getD x4.toNat []).getD 2 0) (Pure.s7_f92 F x0 x1 x2 x3 x4 x5 x6) (Pure.s8_f92 F x0 x1 x2 x3 x4 x5 x6) (Pure.s9_f92 F x0 x1 x2 x3 x4 x5 x6), Pure.impl_AddVectors_1 F ((x0.getD x4.toNat []).getD 0 0) ((x0.getD x4.toNat []).getD 1 0) ((x0.getD x4.toNat []).getD 2 0) (Pure.s7_f92 F x0 x1 x2 x3 x4 x5 x6) (Pure.s8_f92 F x0 x1 x2 x3 x4 x5 x6) (Pure.s9_f92 F x0 x1 x2 x3 x4 x5 x6), Pure.impl_AddVectors_2 F ((x0.getD x4.toNat []).getD 0 0) ((x0.getD x4.toNat []).getD 1 0) ((x0.getD x4.toNat []).getD 2 0) (Pure.s7_f92 F x0 x1 x2 x3 x4 x5 x6) (Pure.s8_f92 F x0 x1 x2 x3 x4 x5 x6) (Pure.s9_f92 F x0 x1 x2 x3 x4 x5 x6)]) (Int.toNat x5) []) 0 0) (List.getD (List.getD (List.set x0 (Int.toNat x4) [Pure.impl_AddVectors F ((x0.getD x4.toNat []).getD 0 0) ((x0.getD x4.toNat []).getD 1 0) ((x0.getD x4.toNat []).getD 2 0) (Pure.s7_f92 F x0 x1 x2 x3 x4 x5 x6) (Pure.s8_f92 F x0 x1 x2 x3 x4 x5 x6) (Pure.s9_f92 F x0 x1 x2 x3 x4 x5 x6), Pure.impl_AddVectors_1 F ((x0.getD x4.toNat []).getD 0 0) ((x0.getD x4.toNat []).getD 1 0) ((x0.getD x4.toNat []).getD 2 0) (Pure.s7_f92 F x0 x1 x2 x3 x4 x5 x6) (Pure.s8_f92 F x0 x1 x2 x3 x4 x5 x6) (Pure.s9_f92 F x0 x1 x2 x3 x4 x5 x6), Pure.impl_AddVectors_2 F ((x0.getD x4.toNat []).getD 0 0) ((x0.getD x4.toNat []).getD 1 0) ((x0.getD x4.toNat []).getD 2 0) (Pure.s7_f92 F x0 x1 x2 x3 x4 x5 x6) (Pure.s8_f92 F x0 x1 x2 x3 x4 x5 x6) (Pure.s9_f92 F x0 x1 x2 x3 x4 x5 x6)]) (Int.toNat x5) []) 1 0) (List.getD (List.getD (List.set x0 (Int.toNat x4) [Pure.impl_AddVectors F ((x0.getD x4.toNat []).getD 0 0) ((x0.getD x4.toNat []).getD 1 0) ((x0.getD x4.toNat []).getD 2 0) (Pure.s7_f92 F x0 x1 x2 x3 x4 x5 x6) (Pure.s8_f92 F x0 x1 x2 x3 x4 x5 x6) (Pure.s9_f92 F x0 x1 x2 x3 x4 x5 x6), Pure.impl_AddVectors_1 F ((x0.getD x4.toNat []).getD 0 0) ((x0.getD x4.toNat []).getD 1 0) ((x0.getD x4.toNat []).getD 2 0) (Pure.s7_f92 F x0 x1 x2 x3 x4 x5 x6) (Pure.s8_f92 F x0 x1 x2 x3 x4 x5 x6) (Pure.s9_f92 F x0 x1 x2 x3 x4 x5 x6), Pure.impl_AddVectors_2 F ((x0.getD x4.toNat []).getD 0 0) ((x0.getD x4.toNat []).getD 1 0) ((x0.getD x4.toNat []).getD 2 0) (Pure.s7_f92 F x0 x1 x2 x3 x4 x5 x6) (Pure.s8_f92 F x0 x1 x2 x3 x4 x5 x6) (Pure.s9_f92 F x0 x1 x2 x3 x4 x5 x6)]) (Int.toNat x5) []) 2 0) (Pure.s11_f92 F x0 x1 x2 x3 x4 x5 x6) (Pure.s12_f92 F x0 x1 x2 x3 x4 x5 x6) (Pure.s13_f92 F x0 x1 x2 x3 x4 x5 x6), Pure.impl_LessVectors_1 F (List.getD (List.getD (List.set x0 (Int.toNat x4) [Pure.impl_AddVectors F ((x0.getD x4.toNat []).getD 0 0) ((x0.getD x4.toNat []).getD 1 0) ((x0.getD x4.toNat []).getD 2 0) (Pure.s7_f92 F x0 x1 x2 x3 x4 x5 x6) (Pure.s8_f92 F x0 x1 x2 x3 x4 x5 x6) (Pure.s9_f92 F x0 x1 x2 x3 x4 x5 x6), Pure.impl_AddVectors_1 F ((x0.getD x4.toNat []).getD 0 0) ((x0.getD x4.toNat []).getD 1 0) ((x0.getD x4.toNat []).getD 2 0) (Pure.s7_f92 F x0 x1 x2 x3 x4 x5 x6) (Pure.s8_f92 F x0 x1 x2 x3 x4 x5 x6) (Pure.s9_f92 F x0 x1 x2 x3 x4 x5 x6), Pure.impl_AddVectors_2 F ((x0.getD x4.toNat []).getD 0 0) ((x0.getD x4.toNat []).getD 1 0) ((x0.getD x4.toNat []).getD 2 0) (Pure.s7_f92 F x0 x1 x2 x3 x4 x5 x6) (Pure.s8_f92 F x0 x1 x2 x3 x4 x5 x6) (Pure.s9_f92 F x0 x1 x2 x3 x4 x5 x6)]) (Int.toNat x5) []) 0 0) (List.getD (List.getD (List.set x0 (Int.toNat x4) [Pure.impl_AddVectors F ((x0.getD x4.toNat []).getD 0 0) ((x0.getD x4.toNat []).getD 1 0) ((x0.getD x4.toNat []).getD 2 0) (Pure.s7_f92 F x0 x1 x2 x3 x4 x5 x6) (Pure.s8_f92 F x0 x1 x2 x3 x4 x5 x6) (Pure.s9_f92 F x0 x1 x2 x3 x4 x5 x6), Pure.impl_AddVectors_1 F ((x0.getD x4.toNat []).getD 0 0) ((x0.getD x4.toNat []).getD 1 0) ((x0.getD x4.toNat []).getD 2 0) (Pure.s7_f92 F x0 x1 x2 x3 x4 x5 x6) (Pure.s8_f92 F x0 x1 x2 x3 x4 x5 x6) (Pure.s9_f92 F x0 x1 x2 x3 x4 x5 x6), Pure.impl_AddVectors_2 F ((x0.getD x4.toNat []).getD 0 0) ((x0.getD x4.toNat []).getD 1 0) ((x0.getD x4.toNat []).getD 2 0) (Pure.s7_f92 F x0 x1 x2 x3 x4 x5 x6) (Pure.s8_f92 F x0 x1 x2 x3 x4 x5 x6) (Pure.s9_f92 F x0 x1 x2 x3 x4 x5 x6)]) (Int.toNat x5) []) 1 0) (List.getD (List.getD (List.set x0 (Int.toNat x4) [Pure.impl_AddVectors F ((x0.getD x4.toNat []).getD 0 0) ((x0.getD x4.toNat []).getD 1 0) ((x0.getD x4.toNat []).getD 2 0) (Pure.s7_f92 F x0 x1 x2 x3 x4 x5 x6) (Pure.s8_f92 F x0 x1 x2 x3 x4 x5 x6) (Pure.s9_f92 F x0 x1 x2 x3 x4 x5 x6), Pure.impl_AddVectors_1 F ((x0.getD x4.toNat []).getD 0 0) ((x0.getD x4.toNat []).getD 1 0) ((x0.getD x4.toNat []).getD 2 0) (Pure.s7_f92 F x0 x1 x2 x3 x4 x5 x6) (Pure.s8_f92 F x0 x1 x2 x3 x4 x5 x6) (Pure.s9_f92 F x0 x1 x2 x3 x4 x5 x6), Pure.impl_AddVectors_2 F ((x0.getD x4.toNat []).getD 0 0) ((x0.getD x4.toNat []).getD 1 0) ((x0.getD x4.toNat []).getD 2 0) (Pure.s7_f92 F x0 x1 x2 x3 x4 x5 x6) (Pure.s8_f92 F x0 x1 x2 x3 x4 x5 x6) (Pure.s9_f92 F x0 x1 x2 x3 x4 x5 x6)]) (Int.toNat x5) []) 2 0) (Pure.s11_f92 F x0 x1 x2 x3 x4 x5 x6) (Pure.s12_f92 F x0 x1 x2 x3 x4 x5 x6) (Pure.s13_f92 F x0 x1 x2 x3 x4 x5 x6), Pure.impl_LessVectors_2 F (List.getD (List.getD (List.set x0 (Int.toNat x4) [Pure.impl_AddVectors F ((x0.getD x4.toNat []).getD 0 0) ((x0.getD x4.toNat []).getD 1 0) ((x0.getD x4.toNat []).getD 2 0) (Pure.s7_f92 F x0 x1 x2 x3 x4 x5 x6) (Pure.s8_f92 F x0 x1 x2 x3 x4 x5 x6) (Pure.s9_f92 F x0 x1 x2 x3 x4 x5 x6), Pure.impl_AddVectors_1 F ((x0.getD x4.toNat []).getD 0 0) ((x0.getD x4.toNat []).getD 1 0) ((x0.getD x4.toNat []).getD 2 0) (Pure.s7_f92 F x0 x1 x2 x3 x4 x5 x6) (Pure.s8_f92 F x0 x1 x2 x3 x4 x5 x6) (Pure.s9_f92 F x0 x1 x2 x3 x4 x5 x6), Pure.impl_AddVectors_2 F ((x0.getD x4.toNat []).getD 0 0) ((x0.getD x4.toNat []).getD 1 0) ((x0.getD x4.toNat []).getD 2 0) (Pure.s7_f92 F x0 x1 x2 x3 x4 x5 x6) (Pure.s8_f92 F x0 x1 x2 x3 x4 x5 x6) (Pure.s9_f92 F x0 x1 x2 x3 x4 x5 x6)]) (Int.toNat x5) []) 0 0) (List.getD (List.getD (List.set x0 (Int.toNat x4) [Pure.impl_AddVectors F ((x0.getD x4.toNat []).getD 0 0) ((x0.getD x4.toNat []).getD 1 0) ((x0.getD x4.toNat []).getD 2 0) (Pure.s7_f92 F x0 x1 x2 x3 x4 x5 x6) (Pure.s8_f92 F x0 x1 x2 x3 x4 x5 x6) (Pure.s9_f92 F x0 x1 x2 x3 x4 x5 x6), Pure.impl_AddVectors_1 F ((x0.getD x4.toNat []).getD 0 0) ((x0.getD x4.toNat []).getD 1 0) ((x0.getD x4.toNat []).getD 2 0) (Pure.s7_f92 F x0 x1 x2 x3 x4 x5 x6) (Pure.s8_f92 F x0 x1 x2 x3 x4 x5 x6) (Pure.s9_f92 F x0 x1 x2 x3 x4 x5 x6), Pure.impl_AddVectors_2 F ((x0.getD x4.toNat []).getD 0 0) ((x0.getD x4.toNat []).getD 1 0) ((x0.getD x4.toNat []).getD 2 0) (Pure.s7_f92 F x0 x1 x2 x3 x4 x5 x6) (Pure.s8_f92 F x0 x1 x2 x3 x4 x5 x6) (Pure.s9_f92 F x0 x1 x2 x3 x4 x5 x6)]) (Int.toNat x5) []) 1 0) (List.getD (List.getD (List.set x0 (Int.toNat x4) [Pure.impl_AddVectors F ((x0.getD x4.toNat []).getD 0 0) ((x0.getD x4.toNat []).getD 1 0) ((x0.getD x4.toNat []).getD 2 0) (Pure.s7_f92 F x0 x1 x2 x3 x4 x5 x6) (Pure.s8_f92 F x0 x1 x2 x3 x4 x5 x6) (Pure.s9_f92 F x0 x1 x2 x3 x4 x5 x6), Pure.impl_AddVectors_1 F ((x0.getD x4.toNat []).getD 0 0) ((x0.getD x4.toNat []).getD 1 0) ((x0.getD x4.toNat []).getD 2 0) (Pure.s7_f92 F x0 x1 x2 x3 x4 x5 x6) (Pure.s8_f92 F x0 x1 x2 x3 x4 x5 x6) (Pure.s9_f92 F x0 x1 x2 x3 x4 x5 x6), Pure.impl_AddVectors_2 F ((x0.getD x4.toNat []).getD 0 0) ((x0.getD x4.toNat []).getD 1 0) ((x0.getD x4.toNat []).getD 2 0) (Pure.s7_f92 F x0 x1 x2 x3 x4 x5 x6) (Pure.s8_f92 F x0 x1 x2 x3 x4 x5 x6) (Pure.s9_f92 F x0 x1 x2 x3 x4 x5 x6)]) (Int.toNat x5) []) 2 0) (Pure.s11_f92 F x0 x1 x2 x3 x4 x5 x6) (Pure.s12_f92 F x0 x1 x2 x3 x4 x5 x6) (Pure.s13_f92 F x0 x1 x2 x3 x4 x5 x6)])⟩, ⟨true, .rows [K.f .f32, K.f .f32, K.f .f32] x1⟩, ⟨true, .rows [K.f .f32] x2⟩, ⟨true, .rows [K.i .i64, K.i .i64, K.f .f32] x3⟩], []⟩ else none else none else none else none else none else none else none else none else none else none else none else none else none else none else none := by kernel_rfl
  rw [h0]
  unfold Pure.impl_Chain_straighten Pure.impl_Chain_straighten_ok
  cases (decide (0 ≤ x5)) with
  | true =>
    cases (decide (x5 < (Int.ofNat x0.length))) with
    | true =>
      cases (decide (0 ≤ x4)) with
      | true =>
        cases (decide (x4 < (Int.ofNat x0.length))) with
        | true =>
          cases (Pure.impl_Chain_share_ok F x0 x1 x2 x3 x4) with
          | true =>
            cases (Pure.impl_Chain_share_ok F x0 x1 x2 x3 x5) with
            | true =>
              cases (Pure.impl_LongOf_ok F (Pure.s1_f92 F x0 x4 x5) (Pure.s2_f92 F x0 x4 x5) (Pure.s3_f92 F x0 x4 x5)) with
              | true =>
                cases (F.cmp .gtr .f32 (Pure.s4_f92 F x0 x4 x5) 0) with
                | true =>
                  cases (F.cmp .gtr .f32 (F.bin .add .f32 (Pure.impl_Chain_share F x0 x1 x2 x3 x4) (Pure.impl_Chain_share F x0 x1 x2 x3 x5)) 0) with
                  | true =>
                    cases (decide (x5 < (Int.ofNat (List.length (List.set x0 (Int.toNat x4) [Pure.impl_AddVectors F ((x0.getD x4.toNat []).getD 0 0) ((x0.getD x4.toNat []).getD 1 0) ((x0.getD x4.toNat []).getD 2 0) (Pure.s7_f92 F x0 x1 x2 x3 x4 x5 x6) (Pure.s8_f92 F x0 x1 x2 x3 x4 x5 x6) (Pure.s9_f92 F x0 x1 x2 x3 x4 x5 x6), Pure.impl_AddVectors_1 F ((x0.getD x4.toNat []).getD 0 0) ((x0.getD x4.toNat []).getD 1 0) ((x0.getD x4.toNat []).getD 2 0) (Pure.s7_f92 F x0 x1 x2 x3 x4 x5 x6) (Pure.s8_f92 F x0 x1 x2 x3 x4 x5 x6) (Pure.s9_f92 F x0 x1 x2 x3 x4 x5 x6), Pure.impl_AddVectors_2 F ((x0.getD x4.toNat []).getD 0 0) ((x0.getD x4.toNat []).getD 1 0) ((x0.getD x4.toNat []).getD 2 0) (Pure.s7_f92 F x0 x1 x2 x3 x4 x5 x6) (Pure.s8_f92 F x0 x1 x2 x3 x4 x5 x6) (Pure.s9_f92 F x0 x1 x2 x3 x4 x5 x6)]))))) with
                    | true =>
                      intro _; rfl
                    | false =>
                      intro h; exact absurd h Bool.false_ne_true
                  | false =>
                    intro _; rfl
                | false =>
                  intro _; rfl
              | false =>
                intro h; exact absurd h Bool.false_ne_true
            | false =>
              intro h; exact absurd h Bool.false_ne_true
          | false =>
            intro h; exact absurd h Bool.false_ne_true
        | false =>
          intro h; exact absurd h Bool.false_ne_true
      | false =>
        intro h; exact absurd h Bool.false_ne_true
    | false =>
      intro h; exact absurd h Bool.false_ne_true
  | false =>
    intro h; exact absurd h Bool.false_ne_true
theorem ok_impl_Chain_straighten : CallOK Try.prog 92 (c_impl_Chain_straighten real) := by
  refine callOK_of fun args h ret hc => ?_
  unfold c_impl_Chain_straighten at hc
  split at hc
  · rename_i x4 x5 x6 x0 x1 x2 x3
    obtain ⟨hok, rfl⟩ := some_ret hc
    exact holdsE_ev prog_ok (allOK_cons ok_impl_LessVectors (allOK_cons ok_impl_Chain_share (allOK_cons ok_impl_LongOf (allOK_cons ok_impl_ScaleVector (allOK_cons ok_impl_AddVectors allOK_nil))))) Try.func92 rfl rfl smL_nil (e_impl_Chain_straighten real x0 x1 x2 x3 x4 x5 x6 hok)
  · cases hc
def Pure.impl_Chain_straightenAll_L2 (F : FOps) (y0 y1 y2 : Int) (y5 y6 y7 : List (List Int)) : Nat → Int → (List (List Int)) → (Bool × (List (List Int)))
  | 0, _, _ => (false, [])
  | n + 1, y3, y4 => bif (decide (y3 < y2)) then (bif (decide (0 ≤ y3)) then (bif (decide (y3 < (Int.ofNat y7.length))) then (bif (Pure.impl_Chain_straighten_ok F y4 y5 y6 y7 ((y7.getD y3.toNat []).getD 0 0) ((y7.getD y3.toNat []).getD 1 0) ((y7.getD y3.toNat []).getD 2 0)) then (Pure.impl_Chain_straightenAll_L2 F y0 y1 y2 y5 y6 y7 n (IntKind.wrap .i64 (y3 + 1)) (Pure.impl_Chain_straighten F y4 y5 y6 y7 ((y7.getD y3.toNat []).getD 0 0) ((y7.getD y3.toNat []).getD 1 0) ((y7.getD y3.toNat []).getD 2 0))) else ((false, []))) else ((false, []))) else ((false, []))) else ((true, y4))
def R_impl_Chain_straightenAll_L2 (y0 y1 : Int) (y5 y6 y7 : List (List Int)) (r : (Bool × (List (List Int)))) : Bool × Ends := ((r).1, (.one Ex.normal [V.at (A.ptr 0 0 0), V.at (A.int .i64 y0), V.at (A.int .i64 y1)] [⟨true, .box [A.sl 1, A.sl 2, A.sl 3, A.sl 4]⟩, ⟨true, .rows [K.f .f32, K.f .f32, K.f .f32] (r).2⟩, ⟨true, .rows [K.f .f32, K.f .f32, K.f .f32] y5⟩, ⟨true, .rows [K.f .f32] y6⟩, ⟨true, .rows [K.i .i64, K.i .i64, K.f .f32] y7⟩]))
def S_impl_Chain_straightenAll_L2 (F : FOps) : Sm := ⟨[0, 6, 7, 12, 13, 14], [54, 2, 2, 32, 3, 3], [0, 6, 7], fun vals hp => match vals, hp with
  | [V.at (A.ptr 0 0 0), V.at (A.int .i64 y0), V.at (A.int .i64 y1), V.at (A.sl 4), V.at (A.int .i64 y2), V.at (A.int .i64 y3)], [⟨true, .box [A.sl 1, A.sl 2, A.sl 3, A.sl 4]⟩, ⟨true, .rows [K.f .f32, K.f .f32, K.f .f32] y4⟩, ⟨true, .rows [K.f .f32, K.f .f32, K.f .f32] y5⟩, ⟨true, .rows [K.f .f32] y6⟩, ⟨true, .rows [K.i .i64, K.i .i64, K.f .f32] y7⟩] => some (R_impl_Chain_straightenAll_L2 y0 y1 y5 y6 y7 (Pure.impl_Chain_straightenAll_L2 F y0 y1 y2 y5 y6 y7 (y2 - y3 + 1).toNat y3 y4))
  | _, _ => none⟩
theorem l_impl_Chain_straightenAll_L2 (F : FOps) (y0 y1 y2 : Int) (y5 y6 y7 : List (List Int)) : ∀ (fuel : Nat) (y3 : Int) (y4 : List (List Int)), (Pure.impl_Chain_straightenAll_L2 F y0 y1 y2 y5 y6 y7 fuel y3 y4).1 = true → loopOf (cxS F tyl [(92, c_impl_Chain_straighten F)] [92] [] 0) 5 23 2 [0, 6, 7, 12, 13, 14] [54, 2, 2, 32, 3, 3] [0, 6, 7] (loopB 2 (codeOf Try.f66)) fuel [V.at (A.ptr 0 0 0), V.at (A.int .i64 y0), V.at (A.int .i64 y1), V.at (A.sl 4), V.at (A.int .i64 y2), V.at (A.int .i64 y3)] [⟨true, .box [A.sl 1, A.sl 2, A.sl 3, A.sl 4]⟩, ⟨true, .rows [K.f .f32, K.f .f32, K.f .f32] y4⟩, ⟨true, .rows [K.f .f32, K.f .f32, K.f .f32] y5⟩, ⟨true, .rows [K.f .f32] y6⟩, ⟨true, .rows [K.i .i64, K.i .i64, K.f .f32] y7⟩] = resOf (R_impl_Chain_straightenAll_L2 y0 y1 y5 y6 y7 (Pure.impl_Chain_straightenAll_L2 F y0 y1 y2 y5 y6 y7 fuel y3 y4)) := by
  intro fuel
  induction fuel with
  | zero => intro y3 y4 h; exact absurd h Bool.false_ne_true
  | succ n ih =>
    intro y3 y4
    have h0 : roundOf (cxS F tyl [(92, c_impl_Chain_straighten F)] [92] [] 0) 5 23 2 [0, 6, 7, 12, 13, 14] [54, 2, 2, 32, 3, 3] [0, 6, 7] (loopB 2 (codeOf Try.f66)) [V.at (A.ptr 0 0 0), V.at (A.int .i64 y0), V.at (A.int .i64 y1), V.at (A.sl 4), V.at (A.int .i64 y2), V.at (A.int .i64 y3)] [⟨true, .box [A.sl 1, A.sl 2, A.sl 3, A.sl 4]⟩, ⟨true, .rows [K.f .f32, K.f .f32, K.f .f32] y4⟩, ⟨true, .rows [K.f .f32, K.f .f32, K.f .f32] y5⟩, ⟨true, .rows [K.f .f32] y6⟩, ⟨true, .rows [K.i .i64, K.i .i64, K.f .f32] y7⟩] = (bif decide (y3 < y2) then bif decide (0 ≤ y3) then bif decide (y3 < (Int.ofNat y7.length)) then bif Pure.impl_Chain_straighten_ok F y4 y5 y6 y7 ((y7.getD y3.toNat []).getD 0 0) ((y7.getD y3.toNat []).getD 1 0) ((y7.getD y3.toNat []).getD 2 0) then some (true, (Ex.normal, ([V.at (A.ptr 0 0 0), V.at (A.int .i64 y0), V.at (A.int .i64 y1), V.at (A.sl 4), V.at (A.int .i64 y2), V.at (A.int .i64 (IntKind.wrap .i64 (y3 + 1)))], [⟨true, .box [A.sl 1, A.sl 2, A.sl 3, A.sl 4]⟩, ⟨true, .rows [K.f .f32, K.f .f32, K.f .f32] (Pure.impl_Chain_straighten F y4 y5 y6 y7 ((y7.getD y3.toNat []).getD 0 0) ((y7.getD y3.toNat []).getD 1 0) ((y7.getD y3.toNat []).getD 2 0))⟩, ⟨true, .rows [K.f .f32, K.f .f32, K.f .f32] y5⟩, ⟨true, .rows [K.f .f32] y6⟩, ⟨true, .rows [K.i .i64, K.i .i64, K.f .f32] y7⟩]))) else none else none else none else some (false, (Ex.normal, ([V.at (A.ptr 0 0 0), V.at (A.int .i64 y0), V.at (A.int .i64 y1)], [⟨true, .box [A.sl 1, A.sl 2, A.sl 3, A.sl 4]⟩, ⟨true, .rows [K.f .f32, K.f .f32, K.f .f32] y4⟩, ⟨true, .rows [K.f .f32, K.f .f32, K.f .f32] y5⟩, ⟨true, .rows [K.f .f32] y6⟩, ⟨true, .rows [K.i .i64, K.i .i64, K.f .f32] y7⟩])))) := by kernel_rfl
    unfold loopOf
    rw [h0]
    unfold Pure.impl_Chain_straightenAll_L2
    cases (decide (y3 < y2)) with
    | true =>
      cases (decide (0 ≤ y3)) with
      | true =>
        cases (decide (y3 < (Int.ofNat y7.length))) with
        | true =>
          cases (Pure.impl_Chain_straighten_ok F y4 y5 y6 y7 ((y7.getD y3.toNat []).getD 0 0) ((y7.getD y3.toNat []).getD 1 0) ((y7.getD y3.toNat []).getD 2 0)) with
          | true =>
            exact ih _ _
          | false =>
            intro h; exact absurd h Bool.false_ne_true
        | false =>
          intro h; exact absurd h Bool.false_ne_true
      | false =>
        intro h; exact absurd h Bool.false_ne_true
    | false =>
      intro _; rfl
theorem t_impl_Chain_straightenAll_L2 : SmTo Try.prog 5 23 (S_impl_Chain_straightenAll_L2 real) 2 (.loop (loopB 2 (codeOf Try.f66))) := by
  refine smTo_ev (cl := [(92, c_impl_Chain_straighten real)]) (ef := [92]) (sm := []) (un := 0) prog_ok (allOK_cons ok_impl_Chain_straighten allOK_nil) smL_nil ?_
  intro vals hp q r h hq
  unfold S_impl_Chain_straightenAll_L2 at h
  dsimp only at h
  split at h
  · rename_i y0 y1 y2 y3 y4 y5 y6 y7
    obtain rfl := Option.some.inj h
    have h1 := hq
    unfold resOf at h1
    rw [chk_some] at h1
    exact ⟨_, (l_impl_Chain_straightenAll_L2 real y0 y1 y2 y5 y6 y7 _ y3 y4 h1.1).trans hq⟩
  · cases h
def Pure.impl_Chain_straightenAll_L0 (F : FOps) (y0 : Int) (y3 y4 y5 : List (List Int)) : Nat → Int → (List (List Int)) → (Bool × (List (List Int)))
  | 0, _, _ => (false, [])
  | n + 1, y1, y2 => bif (decide (y1 < y0)) then (bif (Prod.fst (Pure.impl_Chain_straightenAll_L2 F y0 y1 (Int.ofNat y5.length) y3 y4 y5 (Nat.succ (y5.length + 0)) 0 y2)) then (Pure.impl_Chain_straightenAll_L0 F y0 y3 y4 y5 n (IntKind.wrap .i64 (y1 + 1)) (Prod.snd (Pure.impl_Chain_straightenAll_L2 F y0 y1 (Int.ofNat y5.length) y3 y4 y5 (Nat.succ (y5.length + 0)) 0 y2))) else ((false, []))) else ((true, y2))
def R_impl_Chain_straightenAll_L0 (y3 y4 y5 : List (List Int)) (r : (Bool × (List (List Int)))) : Bool × Ends := ((r).1, (.one Ex.normal [] [⟨true, .box [A.sl 1, A.sl 2, A.sl 3, A.sl 4]⟩, ⟨true, .rows [K.f .f32, K.f .f32, K.f .f32] (r).2⟩, ⟨true, .rows [K.f .f32, K.f .f32, K.f .f32] y3⟩, ⟨true, .rows [K.f .f32] y4⟩, ⟨true, .rows [K.i .i64, K.i .i64, K.f .f32] y5⟩]))
def S_impl_Chain_straightenAll_L0 (F : FOps) : Sm := ⟨[0, 6, 7], [54, 2, 2], [], fun vals hp => match vals, hp with
  | [V.at (A.ptr 0 0 0), V.at (A.int .i64 y0), V.at (A.int .i64 y1)], [⟨true, .box [A.sl 1, A.sl 2, A.sl 3, A.sl 4]⟩, ⟨true, .rows [K.f .f32, K.f .f32, K.f .f32] y2⟩, ⟨true, .rows [K.f .f32, K.f .f32, K.f .f32] y3⟩, ⟨true, .rows [K.f .f32] y4⟩, ⟨true, .rows [K.i .i64, K.i .i64, K.f .f32] y5⟩] => some (R_impl_Chain_straightenAll_L0 y3 y4 y5 (Pure.impl_Chain_straightenAll_L0 F y0 y3 y4 y5 (y0 - y1 + 1).toNat y1 y2))
  | _, _ => none⟩
theorem l_impl_Chain_straightenAll_L0 (F : FOps) (y0 : Int) (y3 y4 y5 : List (List Int)) : ∀ (fuel : Nat) (y1 : Int) (y2 : List (List Int)), (Pure.impl_Chain_straightenAll_L0 F y0 y3 y4 y5 fuel y1 y2).1 = true → loopOf (cxS F tyl [(92, c_impl_Chain_straighten F)] [92] [(2, S_impl_Chain_straightenAll_L2 F)] 0) 5 23 0 [0, 6, 7] [54, 2, 2] [] (loopB 0 (codeOf Try.f66)) fuel [V.at (A.ptr 0 0 0), V.at (A.int .i64 y0), V.at (A.int .i64 y1)] [⟨true, .box [A.sl 1, A.sl 2, A.sl 3, A.sl 4]⟩, ⟨true, .rows [K.f .f32, K.f .f32, K.f .f32] y2⟩, ⟨true, .rows [K.f .f32, K.f .f32, K.f .f32] y3⟩, ⟨true, .rows [K.f .f32] y4⟩, ⟨true, .rows [K.i .i64, K.i .i64, K.f .f32] y5⟩] = resOf (R_impl_Chain_straightenAll_L0 y3 y4 y5 (Pure.impl_Chain_straightenAll_L0 F y0 y3 y4 y5 fuel y1 y2)) := by
  intro fuel
  induction fuel with
  | zero => intro y1 y2 h; exact absurd h Bool.false_ne_true
  | succ n ih =>
    intro y1 y2
    have h0 : roundOf (cxS F tyl [(92, c_impl_Chain_straighten F)] [92] [(2, S_impl_Chain_straightenAll_L2 F)] 0) 5 23 0 [0, 6, 7] [54, 2, 2] [] (loopB 0 (codeOf Try.f66)) [V.at (A.ptr 0 0 0), V.at (A.int .i64 y0), V.at (A.int .i64 y1)] [⟨true, .box [A.sl 1, A.sl 2, A.sl 3, A.sl 4]⟩, ⟨true, .rows [K.f .f32, K.f .f32, K.f .f32] y2⟩, ⟨true, .rows [K.f .f32, K.f .f32, K.f .f32] y3⟩, ⟨true, .rows [K.f .f32] y4⟩, ⟨true, .rows [K.i .i64, K.i .i64, K.f .f32] y5⟩] = (bif decide (y1 < y0) then bif Prod.fst (Pure.impl_Chain_straightenAll_L2 F y0 y1 (Int.ofNat y5.length) y3 y4 y5 (Nat.succ (y5.length + 0)) 0 y2) then some (true, (Ex.normal, ([V.at (A.ptr 0 0 0), V.at (A.int .i64 y0), V.at (A.int .i64 (IntKind.wrap .i64 (y1 + 1)))], [⟨true, .box [A.sl 1, A.sl 2, A.sl 3, A.sl 4]⟩, ⟨true, .rows [K.f .f32, K.f .f32, K.f .f32] (Prod.snd (Pure.impl_Chain_straightenAll_L2 F y0 y1 (Int.ofNat y5.length) y3 y4 y5 (Nat.succ (y5.length + 0)) 0 y2))⟩, ⟨true, .rows [K.f .f32, K.f .f32, K.f .f32] y3⟩, ⟨true, .rows [K.f .f32] y4⟩, ⟨true, .rows [K.i .i64, K.i .i64, K.f .f32] y5⟩]))) else none else some (false, (Ex.normal, ([], [⟨true, .box [A.sl 1, A.sl 2, A.sl 3, A.sl 4]⟩, ⟨true, .rows [K.f .f32, K.f .f32, K.f .f32] y2⟩, ⟨true, .rows [K.f .f32, K.f .f32, K.f .f32] y3⟩, ⟨true, .rows [K.f .f32] y4⟩, ⟨true, .rows [K.i .i64, K.i .i64, K.f .f32] y5⟩])))) := by kernel_rfl
    unfold loopOf
    rw [h0]
    unfold Pure.impl_Chain_straightenAll_L0
    cases (decide (y1 < y0)) with
    | true =>
      cases (Prod.fst (Pure.impl_Chain_straightenAll_L2 F y0 y1 (Int.ofNat y5.length) y3 y4 y5 (Nat.succ (y5.length + 0)) 0 y2)) with
      | true =>
        exact ih _ _
      | false =>
        intro h; exact absurd h Bool.false_ne_true
    | false =>
      intro _; rfl
theorem t_impl_Chain_straightenAll_L0 : SmTo Try.prog 5 23 (S_impl_Chain_straightenAll_L0 real) 0 (.loop (loopB 0 (codeOf Try.f66))) := by
  refine smTo_ev (cl := [(92, c_impl_Chain_straighten real)]) (ef := [92]) (sm := [(2, S_impl_Chain_straightenAll_L2 real)]) (un := 0) prog_ok (allOK_cons ok_impl_Chain_straighten allOK_nil) (smL_cons (body := .loop (loopB 2 (codeOf Try.f66))) (by kernel_rfl) t_impl_Chain_straightenAll_L2 smL_nil) ?_
  intro vals hp q r h hq
  unfold S_impl_Chain_straightenAll_L0 at h
  dsimp only at h
  split at h
  · rename_i y0 y1 y2 y3 y4 y5
    obtain rfl := Option.some.inj h
    have h1 := hq
    unfold resOf at h1
    rw [chk_some] at h1
    exact ⟨_, (l_impl_Chain_straightenAll_L0 real y0 y3 y4 y5 _ y1 y2 h1.1).trans hq⟩
  · cases h
def Pure.impl_Chain_straightenAll (F : FOps) (x0 x1 x2 x3 : List (List Int)) (x4 : Int) : List (List Int) := Prod.snd (Pure.impl_Chain_straightenAll_L0 F x4 x1 x2 x3 (Int.toNat ((x4 - 0) + 1)) 0 x0)
def Pure.impl_Chain_straightenAll_ok (F : FOps) (x0 x1 x2 x3 : List (List Int)) (x4 : Int) : Bool := Prod.fst (Pure.impl_Chain_straightenAll_L0 F x4 x1 x2 x3 (Int.toNat ((x4 - 0) + 1)) 0 x0)
def c_impl_Chain_straightenAll (F : FOps) : Con
  | [V.at (A.ptr 0 0 0), V.at (A.int .i64 x4)], [⟨true, .box [A.sl 1, A.sl 2, A.sl 3, A.sl 4]⟩, ⟨true, .rows [K.f .f32, K.f .f32, K.f .f32] x0⟩, ⟨true, .rows [K.f .f32, K.f .f32, K.f .f32] x1⟩, ⟨true, .rows [K.f .f32] x2⟩, ⟨true, .rows [K.i .i64, K.i .i64, K.f .f32] x3⟩] => some (Pure.impl_Chain_straightenAll_ok F x0 x1 x2 x3 x4, ⟨V.tup [], some [⟨true, .box [A.sl 1, A.sl 2, A.sl 3, A.sl 4]⟩, ⟨true, .rows [K.f .f32, K.f .f32, K.f .f32] (Pure.impl_Chain_straightenAll F x0 x1 x2 x3 x4)⟩, ⟨true, .rows [K.f .f32, K.f .f32, K.f .f32] x1⟩, ⟨true, .rows [K.f .f32] x2⟩, ⟨true, .rows [K.i .i64, K.i .i64, K.f .f32] x3⟩], []⟩)
  | _, _ => none
theorem e_impl_Chain_straightenAll (F : FOps) (x0 x1 x2 x3 : List (List Int)) (x4 : Int) : Pure.impl_Chain_straightenAll_ok F x0 x1 x2 x3 x4 = true → evFn (cxS F tyl [(92, c_impl_Chain_straighten F)] [92] [(0, S_impl_Chain_straightenAll_L0 F)] 0) Try.f66 true [V.at (A.ptr 0 0 0), V.at (A.int .i64 x4)] [⟨true, .box [A.sl 1, A.sl 2, A.sl 3, A.sl 4]⟩, ⟨true, .rows [K.f .f32, K.f .f32, K.f .f32] x0⟩, ⟨true, .rows [K.f .f32, K.f .f32, K.f .f32] x1⟩, ⟨true, .rows [K.f .f32] x2⟩, ⟨true, .rows [K.i .i64, K.i .i64, K.f .f32] x3⟩] = some ⟨V.tup [], some [⟨true, .box [A.sl 1, A.sl 2, A.sl 3, A.sl 4]⟩, ⟨true, .rows [K.f .f32, K.f .f32, K.f .f32] (Pure.impl_Chain_straightenAll F x0 x1 x2 x3 x4)⟩, ⟨true, .rows [K.f .f32, K.f .f32, K.f .f32] x1⟩, ⟨true, .rows [K.f .f32] x2⟩, ⟨true, .rows [K.i .i64, K.i .i64, K.f .f32] x3⟩], []⟩ := by
  have h0 : evFn (cxS F tyl [(92, c_impl_Chain_straighten F)] [92] [(0, S_impl_Chain_straightenAll_L0 F)] 0) Try.f66 true [V.at (A.ptr 0 0 0), V.at (A.int .i64 x4)] [⟨true, .box [A.sl 1, A.sl 2, A.sl 3, A.sl 4]⟩, ⟨true, .rows [K.f .f32, K.f .f32, K.f .f32] x0⟩, ⟨true, .rows [K.f .f32, K.f .f32, K.f .f32] x1⟩, ⟨true, .rows [K.f .f32] x2⟩, ⟨true, .rows [K.i .i64, K.i .i64, K.f .f32] x3⟩] = bif Prod.fst (Pure.impl_Chain_straightenAll_L0 F x4 x1 x2 x3 (Int.toNat ((x4 - 0) + 1)) 0 x0) then some ⟨V.tup [], some [⟨true, .box [A.sl 1, A.sl 2, A.sl 3, A.sl 4]⟩, ⟨true, .rows [K.f .f32, K.f .f32, K.f .f32] (Prod.snd (Pure.impl_Chain_straightenAll_L0 F x4 x1 x2 x3 (Int.toNat ((x4 - 0) + 1)) 0 x0))⟩, ⟨true, .rows [K.f .f32, K.f .f32, K.f .f32] x1⟩, ⟨true, .rows [K.f .f32] x2⟩, ⟨true, .rows [K.i .i64, K.i .i64, K.f .f32] x3⟩], []⟩ else none := by kernel_rfl
  rw [h0]
  unfold Pure.impl_Chain_straightenAll Pure.impl_Chain_straightenAll_ok
  cases (Prod.fst (Pure.impl_Chain_straightenAll_L0 F x4 x1 x2 x3 (Int.toNat ((x4 - 0) + 1)) 0 x0)) with
  | true =>
    intro _; rfl
  | false =>
    intro h; exact absurd h Bool.false_ne_true
theorem ok_impl_Chain_straightenAll : CallOK Try.prog 66 (c_impl_Chain_straightenAll real) := by
  refine callOK_of fun args h ret hc => ?_
  unfold c_impl_Chain_straightenAll at hc
  split at hc
  · rename_i x4 x0 x1 x2 x3
    obtain ⟨hok, rfl⟩ := some_ret hc
    exact holdsE_ev prog_ok (allOK_cons ok_impl_Chain_straighten allOK_nil) Try.func66 rfl rfl (smL_cons (body := .loop (loopB 0 (codeOf Try.f66))) (by kernel_rfl) t_impl_Chain_straightenAll_L0 smL_nil) (e_impl_Chain_straightenAll real x0 x1 x2 x3 x4 hok)
  · cases hc
def Pure.impl_Chain_step (F : FOps) (x0 x1 x2 x3 : List (List Int)) (x4 x5 x6 x7 x8 x9 : Int) : Bool := bif Pure.impl_ValidChain F (Pure.impl_Chain_fly F x0 x1 x2 x3 x4 x5 x6 x7 x8) (Pure.impl_Chain_fly_1 F x0 x1 x2 x3 x4 x5 x6 x7 x8) x2 x3 then Pure.impl_ValidChain F (Pure.impl_Chain_straightenAll F (Pure.impl_Chain_fly F x0 x1 x2 x3 x4 x5 x6 x7 x8) (Pure.impl_Chain_fly_1 F x0 x1 x2 x3 x4 x5 x6 x7 x8) x2 x3 x9) (Pure.impl_Chain_fly_1 F x0 x1 x2 x3 x4 x5 x6 x7 x8) x2 x3 else false
def Pure.impl_Chain_step_1 (F : FOps) (x0 x1 x2 x3 : List (List Int)) (x4 x5 x6 x7 x8 x9 : Int) : List (List Int) := bif Pure.impl_ValidChain F (Pure.impl_Chain_fly F x0 x1 x2 x3 x4 x5 x6 x7 x8) (Pure.impl_Chain_fly_1 F x0 x1 x2 x3 x4 x5 x6 x7 x8) x2 x3 then Pure.impl_Chain_straightenAll F (Pure.impl_Chain_fly F x0 x1 x2 x3 x4 x5 x6 x7 x8) (Pure.impl_Chain_fly_1 F x0 x1 x2 x3 x4 x5 x6 x7 x8) x2 x3 x9 else Pure.impl_Chain_fly F x0 x1 x2 x3 x4 x5 x6 x7 x8
def Pure.impl_Chain_step_ok (F : FOps) (x0 x1 x2 x3 : List (List Int)) (x4 x5 x6 x7 x8 x9 : Int) : Bool := bif Pure.impl_Chain_fly_ok F x0 x1 x2 x3 x4 x5 x6 x7 x8 then bif Pure.impl_ValidChain_ok F (Pure.impl_Chain_fly F x0 x1 x2 x3 x4 x5 x6 x7 x8) (Pure.impl_Chain_fly_1 F x0 x1 x2 x3 x4 x5 x6 x7 x8) x2 x3 then bif Pure.impl_ValidChain F (Pure.impl_Chain_fly F x0 x1 x2 x3 x4 x5 x6 x7 x8) (Pure.impl_Chain_fly_1 F x0 x1 x2 x3 x4 x5 x6 x7 x8) x2 x3 then bif Pure.impl_Chain_straightenAll_ok F (Pure.impl_Chain_fly F x0 x1 x2 x3 x4 x5 x6 x7 x8) (Pure.impl_Chain_fly_1 F x0 x1 x2 x3 x4 x5 x6 x7 x8) x2 x3 x9 then Pure.impl_ValidChain_ok F (Pure.impl_Chain_straightenAll F (Pure.impl_Chain_fly F x0 x1 x2 x3 x4 x5 x6 x7 x8) (Pure.impl_Chain_fly_1 F x0 x1 x2 x3 x4 x5 x6 x7 x8) x2 x3 x9) (Pure.impl_Chain_fly_1 F x0 x1 x2 x3 x4 x5 x6 x7 x8) x2 x3 else false else true else false else false
def c_impl_Chain_step (F : FOps) : Con
  | [V.at (A.ptr 0 0 0), V.agg [A.fl .f32 x4, A.fl .f32 x5, A.fl .f32 x6], V.at (A.fl .f32 x7), V.at (A.fl .f32 x8), V.at (A.int .i64 x9)], [⟨true, .box [A.sl 1, A.sl 2, A.sl 3, A.sl 4]⟩, ⟨true, .rows [K.f .f32, K.f .f32, K.f .f32] x0⟩, ⟨true, .rows [K.f .f32, K.f .f32, K.f .f32] x1⟩, ⟨true, .rows [K.f .f32] x2⟩, ⟨true, .rows [K.i .i64, K.i .i64, K.f .f32] x3⟩] => some (Pure.impl_Chain_step_ok F x0 x1 x2 x3 x4 x5 x6 x7 x8 x9, ⟨V.at (A.bool (Pure.impl_Chain_step F x0 x1 x2 x3 x4 x5 x6 x7 x8 x9)), some [⟨true, .box [A.sl 1, A.sl 2, A.sl 3, A.sl 4]⟩, ⟨true, .rows [K.f .f32, K.f .f32, K.f .f32] (Pure.impl_Chain_step_1 F x0 x1 x2 x3 x4 x5 x6 x7 x8 x9)⟩, ⟨true, .rows [K.f .f32, K.f .f32, K.f .f32] (Pure.impl_Chain_fly_1 F x0 x1 x2 x3 x4 x5 x6 x7 x8)⟩, ⟨true, .rows [K.f .f32] x2⟩, ⟨true, .rows [K.i .i64, K.i .i64, K.f .f32] x3⟩], []⟩)
  | _, _ => none
theorem e_impl_Chain_step (F : FOps) (x0 x1 x2 x3 : List (List Int)) (x4 x5 x6 x7 x8 x9 : Int) : Pure.impl_Chain_step_ok F x0 x1 x2 x3 x4 x5 x6 x7 x8 x9 = true → evFn (cxS F tyl [(65, c_impl_Chain_fly F), (61, c_impl_ValidChain F), (66, c_impl_Chain_straightenAll F)] [65, 66] [] 0) Try.f35 true [V.at (A.ptr 0 0 0), V.agg [A.fl .f32 x4, A.fl .f32 x5, A.fl .f32 x6], V.at (A.fl .f32 x7), V.at (A.fl .f32 x8), V.at (A.int .i64 x9)] [⟨true, .box [A.sl 1, A.sl 2, A.sl 3, A.sl 4]⟩, ⟨true, .rows [K.f .f32, K.f .f32, K.f .f32] x0⟩, ⟨true, .rows [K.f .f32, K.f .f32, K.f .f32] x1⟩, ⟨true, .rows [K.f .f32] x2⟩, ⟨true, .rows [K.i .i64, K.i .i64, K.f .f32] x3⟩] = some ⟨V.at (A.bool (Pure.impl_Chain_step F x0 x1 x2 x3 x4 x5 x6 x7 x8 x9)), some [⟨true, .box [A.sl 1, A.sl 2, A.sl 3, A.sl 4]⟩, ⟨true, .rows [K.f .f32, K.f .f32, K.f .f32] (Pure.impl_Chain_step_1 F x0 x1 x2 x3 x4 x5 x6 x7 x8 x9)⟩, ⟨true, .rows [K.f .f32, K.f .f32, K.f .f32] (Pure.impl_Chain_fly_1 F x0 x1 x2 x3 x4 x5 x6 x7 x8)⟩, ⟨true, .rows [K.f .f32] x2⟩, ⟨true, .rows [K.i .i64, K.i .i64, K.f .f32] x3⟩], []⟩ := by
  have h0 : evFn (cxS F tyl [(65, c_impl_Chain_fly F), (61, c_impl_ValidChain F), (66, c_impl_Chain_straightenAll F)] [65, 66] [] 0) Try.f35 true [V.at (A.ptr 0 0 0), V.agg [A.fl .f32 x4, A.fl .f32 x5, A.fl .f32 x6], V.at (A.fl .f32 x7), V.at (A.fl .f32 x8), V.at (A.int .i64 x9)] [⟨true, .box [A.sl 1, A.sl 2, A.sl 3, A.sl 4]⟩, ⟨true, .rows [K.f .f32, K.f .f32, K.f .f32] x0⟩, ⟨true, .rows [K.f .f32, K.f .f32, K.f .f32] x1⟩, ⟨true, .rows [K.f .f32] x2⟩, ⟨true, .rows [K.i .i64, K.i .i64, K.f .f32] x3⟩] = bif Pure.impl_Chain_fly_ok F x0 x1 x2 x3 x4 x5 x6 x7 x8 then bif Pure.impl_ValidChain_ok F (Pure.impl_Chain_fly F x0 x1 x2 x3 x4 x5 x6 x7 x8) (Pure.impl_Chain_fly_1 F x0 x1 x2 x3 x4 x5 x6 x7 x8) x2 x3 then bif Bool.not (Pure.impl_ValidChain F (Pure.impl_Chain_fly F x0 x1 x2 x3 x4 x5 x6 x7 x8) (Pure.impl_Chain_fly_1 F x0 x1 x2 x3 x4 x5 x6 x7 x8) x2 x3) then some ⟨V.at (A.bool false), some [⟨true, .box [A.sl 1, A.sl 2, A.sl 3, A.sl 4]⟩, ⟨true, .rows [K.f .f32, K.f .f32, K.f .f32] (Pure.impl_Chain_fly F x0 x1 x2 x3 x4 x5 x6 x7 x8)⟩, ⟨true, .rows [K.f .f32, K.f .f32, K.f .f32] (Pure.impl_Chain_fly_1 F x0 x1 x2 x3 x4 x5 x6 x7 x8)⟩, ⟨true, .rows [K.f .f32] x2⟩, ⟨true, .rows [K.i .i64, K.i .i64, K.f .f32] x3⟩], []⟩ else bif Pure.impl_Chain_straightenAll_ok F (Pure.impl_Chain_fly F x0 x1 x2 x3 x4 x5 x6 x7 x8) (Pure.impl_Chain_fly_1 F x0 x1 x2 x3 x4 x5 x6 x7 x8) x2 x3 x9 then bif Pure.impl_ValidChain_ok F (Pure.impl_Chain_straightenAll F (Pure.impl_Chain_fly F x0 x1 x2 x3 x4 x5 x6 x7 x8) (Pure.impl_Chain_fly_1 F x0 x1 x2 x3 x4 x5 x6 x7 x8) x2 x3 x9) (Pure.impl_Chain_fly_1 F x0 x1 x2 x3 x4 x5 x6 x7 x8) x2 x3 then some ⟨V.at (A.bool (Pure.impl_ValidChain F (Pure.impl_Chain_straightenAll F (Pure.impl_Chain_fly F x0 x1 x2 x3 x4 x5 x6 x7 x8) (Pure.impl_Chain_fly_1 F x0 x1 x2 x3 x4 x5 x6 x7 x8) x2 x3 x9) (Pure.impl_Chain_fly_1 F x0 x1 x2 x3 x4 x5 x6 x7 x8) x2 x3)), some [⟨true, .box [A.sl 1, A.sl 2, A.sl 3, A.sl 4]⟩, ⟨true, .rows [K.f .f32, K.f .f32, K.f .f32] (Pure.impl_Chain_straightenAll F (Pure.impl_Chain_fly F x0 x1 x2 x3 x4 x5 x6 x7 x8) (Pure.impl_Chain_fly_1 F x0 x1 x2 x3 x4 x5 x6 x7 x8) x2 x3 x9)⟩, ⟨true, .rows [K.f .f32, K.f .f32, K.f .f32] (Pure.impl_Chain_fly_1 F x0 x1 x2 x3 x4 x5 x6 x7 x8)⟩, ⟨true, .rows [K.f .f32] x2⟩, ⟨true, .rows [K.i .i64, K.i .i64, K.f .f32] x3⟩], []⟩ else none else none else none else none := by kernel_rfl
  rw [h0]
  unfold Pure.impl_Chain_step Pure.impl_Chain_step_1 Pure.impl_Chain_step_ok
  cases (Pure.impl_Chain_fly_ok F x0 x1 x2 x3 x4 x5 x6 x7 x8) with
  | true =>
    cases (Pure.impl_ValidChain_ok F (Pure.impl_Chain_fly F x0 x1 x2 x3 x4 x5 x6 x7 x8) (Pure.impl_Chain_fly_1 F x0 x1 x2 x3 x4 x5 x6 x7 x8) x2 x3) with
    | true =>
      cases (Pure.impl_ValidChain F (Pure.impl_Chain_fly F x0 x1 x2 x3 x4 x5 x6 x7 x8) (Pure.impl_Chain_fly_1 F x0 x1 x2 x3 x4 x5 x6 x7 x8) x2 x3) with
      | true =>
        cases (Pure.impl_Chain_straightenAll_ok F (Pure.impl_Chain_fly F x0 x1 x2 x3 x4 x5 x6 x7 x8) (Pure.impl_Chain_fly_1 F x0 x1 x2 x3 x4 x5 x6 x7 x8) x2 x3 x9) with
        | true =>
          cases (Pure.impl_ValidChain_ok F (Pure.impl_Chain_straightenAll F (Pure.impl_Chain_fly F x0 x1 x2 x3 x4 x5 x6 x7 x8) (Pure.impl_Chain_fly_1 F x0 x1 x2 x3 x4 x5 x6 x7 x8) x2 x3 x9) (Pure.impl_Chain_fly_1 F x0 x1 x2 x3 x4 x5 x6 x7 x8) x2 x3) with
          | true =>
            intro _; rfl
          | false =>
            intro h; exact absurd h Bool.false_ne_true
        | false =>
          intro h; exact absurd h Bool.false_ne_true
      | false =>
        intro _; rfl
    | false =>
      intro h; exact absurd h Bool.false_ne_true
  | false =>
    intro h; exact absurd h Bool.false_ne_true
theorem ok_impl_Chain_step : CallOK Try.prog 35 (c_impl_Chain_step real) := by
  refine callOK_of fun args h ret hc => ?_
  unfold c_impl_Chain_step at hc
  split at hc
  · rename_i x4 x5 x6 x7 x8 x9 x0 x1 x2 x3
    obtain ⟨hok, rfl⟩ := some_ret hc
    exact holdsE_ev prog_ok (allOK_cons ok_impl_Chain_fly (allOK_cons ok_impl_ValidChain (allOK_cons ok_impl_Chain_straightenAll allOK_nil))) Try.func35 rfl rfl smL_nil (e_impl_Chain_step real x0 x1 x2 x3 x4 x5 x6 x7 x8 x9 hok)
  · cases hc
def Pure.impl_StepChain_c1 (F : FOps) (x0 x1 x2 x3 : List (List Int)) (x4 x5 x6 x7 x8 x9 : Int) : Bool := bif Pure.impl_flyOk F x4 x5 x6 x7 x8 then bif Pure.impl_in F x9 0 20 then Pure.impl_Chain_step F x0 x1 x2 x3 x4 x5 x6 x7 x8 x9 else false else false
def Pure.impl_StepChain_c1_1 (F : FOps) (x0 x1 x2 x3 : List (List Int)) (x4 x5 x6 x7 x8 x9 : Int) : List (List Int) := bif Pure.impl_flyOk F x4 x5 x6 x7 x8 then bif Pure.impl_in F x9 0 20 then Pure.impl_Chain_step_1 F x0 x1 x2 x3 x4 x5 x6 x7 x8 x9 else x0 else x0
def Pure.impl_StepChain_c1_2 (F : FOps) (x0 x1 x2 x3 : List (List Int)) (x4 x5 x6 x7 x8 x9 : Int) : List (List Int) := bif Pure.impl_flyOk F x4 x5 x6 x7 x8 then bif Pure.impl_in F x9 0 20 then Pure.impl_Chain_fly_1 F x0 x1 x2 x3 x4 x5 x6 x7 x8 else x1 else x1
def Pure.impl_StepChain_c1_ok (F : FOps) (x0 x1 x2 x3 : List (List Int)) (x4 x5 x6 x7 x8 x9 : Int) : Bool := bif Pure.impl_flyOk_ok F x4 x5 x6 x7 x8 then bif Pure.impl_flyOk F x4 x5 x6 x7 x8 then bif Pure.impl_in F x9 0 20 then Pure.impl_Chain_step_ok F x0 x1 x2 x3 x4 x5 x6 x7 x8 x9 else true else true else false
def c_impl_StepChain_c1 (F : FOps) : Con
  | [V.at (A.ptr 0 0 0), V.at (A.ptr 1 0 0), V.at (A.ptr 2 0 0), V.at (A.ptr 3 0 0), V.at (A.ptr 4 0 0)], [⟨true, .box [A.sl 5, A.sl 6, A.sl 7, A.sl 8]⟩, ⟨false, .box [A.fl .f32 x4, A.fl .f32 x5, A.fl .f32 x6]⟩, ⟨false, .box [A.fl .f32 x7]⟩, ⟨false, .box [A.fl .f32 x8]⟩, ⟨false, .box [A.int .i64 x9]⟩, ⟨true, .rows [K.f .f32, K.f .f32, K.f .f32] x0⟩, ⟨true, .rows [K.f .f32, K.f .f32, K.f .f32] x1⟩, ⟨true, .rows [K.f .f32] x2⟩, ⟨true, .rows [K.i .i64, K.i .i64, K.f .f32] x3⟩] => some (Pure.impl_StepChain_c1_ok F x0 x1 x2 x3 x4 x5 x6 x7 x8 x9, ⟨V.at (A.bool (Pure.impl_StepChain_c1 F x0 x1 x2 x3 x4 x5 x6 x7 x8 x9)), some [⟨true, .box [A.sl 5, A.sl 6, A.sl 7, A.sl 8]⟩, ⟨false, .box [A.fl .f32 x4, A.fl .f32 x5, A.fl .f32 x6]⟩, ⟨false, .box [A.fl .f32 x7]⟩, ⟨false, .box [A.fl .f32 x8]⟩, ⟨false, .box [A.int .i64 x9]⟩, ⟨true, .rows [K.f .f32, K.f .f32, K.f .f32] (Pure.impl_StepChain_c1_1 F x0 x1 x2 x3 x4 x5 x6 x7 x8 x9)⟩, ⟨true, .rows [K.f .f32, K.f .f32, K.f .f32] (Pure.impl_StepChain_c1_2 F x0 x1 x2 x3 x4 x5 x6 x7 x8 x9)⟩, ⟨true, .rows [K.f .f32] x2⟩, ⟨true, .rows [K.i .i64, K.i .i64, K.f .f32] x3⟩], []⟩)
  | _, _ => none
theorem e_impl_StepChain_c1 (F : FOps) (x0 x1 x2 x3 : List (List Int)) (x4 x5 x6 x7 x8 x9 : Int) : Pure.impl_StepChain_c1_ok F x0 x1 x2 x3 x4 x5 x6 x7 x8 x9 = true → evFn (cxS F tyl [(33, c_impl_flyOk F), (34, c_impl_roundsOk F), (35, c_impl_Chain_step F)] [35] [] 0) Try.f32 true [V.at (A.ptr 0 0 0), V.at (A.ptr 1 0 0), V.at (A.ptr 2 0 0), V.at (A.ptr 3 0 0), V.at (A.ptr 4 0 0)] [⟨true, .box [A.sl 5, A.sl 6, A.sl 7, A.sl 8]⟩, ⟨false, .box [A.fl .f32 x4, A.fl .f32 x5, A.fl .f32 x6]⟩, ⟨false, .box [A.fl .f32 x7]⟩, ⟨false, .box [A.fl .f32 x8]⟩, ⟨false, .box [A.int .i64 x9]⟩, ⟨true, .rows [K.f .f32, K.f .f32, K.f .f32] x0⟩, ⟨true, .rows [K.f .f32, K.f .f32, K.f .f32] x1⟩, ⟨true, .rows [K.f .f32] x2⟩, ⟨true, .rows [K.i .i64, K.i .i64, K.f .f32] x3⟩] = some ⟨V.at (A.bool (Pure.impl_StepChain_c1 F x0 x1 x2 x3 x4 x5 x6 x7 x8 x9)), some [⟨true, .box [A.sl 5, A.sl 6, A.sl 7, A.sl 8]⟩, ⟨false, .box [A.fl .f32 x4, A.fl .f32 x5, A.fl .f32 x6]⟩, ⟨false, .box [A.fl .f32 x7]⟩, ⟨false, .box [A.fl .f32 x8]⟩, ⟨false, .box [A.int .i64 x9]⟩, ⟨true, .rows [K.f .f32, K.f .f32, K.f .f32] (Pure.impl_StepChain_c1_1 F x0 x1 x2 x3 x4 x5 x6 x7 x8 x9)⟩, ⟨true, .rows [K.f .f32, K.f .f32, K.f .f32] (Pure.impl_StepChain_c1_2 F x0 x1 x2 x3 x4 x5 x6 x7 x8 x9)⟩, ⟨true, .rows [K.f .f32] x2⟩, ⟨true, .rows [K.i .i64, K.i .i64, K.f .f32] x3⟩], []⟩ := by
  have h0 : evFn (cxS F tyl [(33, c_impl_flyOk F), (34, c_impl_roundsOk F), (35, c_impl_Chain_step F)] [35] [] 0) Try.f32 true [V.at (A.ptr 0 0 0), V.at (A.ptr 1 0 0), V.at (A.ptr 2 0 0), V.at (A.ptr 3 0 0), V.at (A.ptr 4 0 0)] [⟨true, .box [A.sl 5, A.sl 6, A.sl 7, A.sl 8]⟩, ⟨false, .box [A.fl .f32 x4, A.fl .f32 x5, A.fl .f32 x6]⟩, ⟨false, .box [A.fl .f32 x7]⟩, ⟨false, .box [A.fl .f32 x8]⟩, ⟨false, .box [A.int .i64 x9]⟩, ⟨true, .rows [K.f .f32, K.f .f32, K.f .f32] x0⟩, ⟨true, .rows [K.f .f32, K.f .f32, K.f .f32] x1⟩, ⟨true, .rows [K.f .f32] x2⟩, ⟨true, .rows [K.i .i64, K.i .i64, K.f .f32] x3⟩] = bif Pure.impl_flyOk_ok F x4 x5 x6 x7 x8 then bif Pure.impl_flyOk F x4 x5 x6 x7 x8 then bif Pure.impl_in F x9 0 20 then bif Pure.impl_Chain_step_ok F x0 x1 x2 x3 x4 x5 x6 x7 x8 x9 then some ⟨V.at (A.bool (Pure.impl_Chain_step F x0 x1 x2 x3 x4 x5 x6 x7 x8 x9)), some [⟨true, .box [A.sl 5, A.sl 6, A.sl 7, A.sl 8]⟩, ⟨false, .box [A.fl .f32 x4, A.fl .f32 x5, A.fl .f32 x6]⟩, ⟨false, .box [A.fl .f32 x7]⟩, ⟨false, .box [A.fl .f32 x8]⟩, ⟨false, .box [A.int .i64 x9]⟩, ⟨true, .rows [K.f .f32, K.f .f32, K.f .f32] (Pure.impl_Chain_step_1 F x0 x1 x2 x3 x4 x5 x6 x7 x8 x9)⟩, ⟨true, .rows [K.f .f32, K.f .f32, K.f .f32] (Pure.impl_Chain_fly_1 F x0 x1 x2 x3 x4 x5 x6 x7 x8)⟩, ⟨true, .rows [K.f .f32] x2⟩, ⟨true, .rows [K.i .i64, K.i .i64, K.f .f32] x3⟩], []⟩ else none else some ⟨V.at (A.bool false), some [⟨true, .box [A.sl 5, A.sl 6, A.sl 7, A.sl 8]⟩, ⟨false, .box [A.fl .f32 x4, A.fl .f32 x5, A.fl .f32 x6]⟩, ⟨false, .box [A.fl .f32 x7]⟩, ⟨false, .box [A.fl .f32 x8]⟩, ⟨false, .box [A.int .i64 x9]⟩, ⟨true, .rows [K.f .f32, K.f .f32, K.f .f32] x0⟩, ⟨true, .rows [K.f .f32, K.f .f32, K.f .f32] x1⟩, ⟨true, .rows [K.f .f32] x2⟩, ⟨true, .rows [K.i .i64, K.i .i64, K.f .f32] x3⟩], []⟩ else some ⟨V.at (A.bool false), some [⟨true, .box [A.sl 5, A.sl 6, A.sl 7, A.sl 8]⟩, ⟨false, .box [A.fl .f32 x4, A.fl .f32 x5, A.fl .f32 x6]⟩, ⟨false, .box [A.fl .f32 x7]⟩, ⟨false, .box [A.fl .f32 x8]⟩, ⟨false, .box [A.int .i64 x9]⟩, ⟨true, .rows [K.f .f32, K.f .f32, K.f .f32] x0⟩, ⟨true, .rows [K.f .f32, K.f .f32, K.f .f32] x1⟩, ⟨true, .rows [K.f .f32] x2⟩, ⟨true, .rows [K.i .i64, K.i .i64, K.f .f32] x3⟩], []⟩ else none := by kernel_rfl
  rw [h0]
  unfold Pure.impl_StepChain_c1 Pure.impl_StepChain_c1_1 Pure.impl_StepChain_c1_2 Pure.impl_StepChain_c1_ok
  cases (Pure.impl_flyOk_ok F x4 x5 x6 x7 x8) with
  | true =>
    cases (Pure.impl_flyOk F x4 x5 x6 x7 x8) with
    | true =>
      cases (Pure.impl_in F x9 0 20) with
      | true =>
        cases (Pure.impl_Chain_step_ok F x0 x1 x2 x3 x4 x5 x6 x7 x8 x9) with
        | true =>
          intro _; rfl
        | false =>
          intro h; exact absurd h Bool.false_ne_true
      | false =>
        intro _; rfl
    | false =>
      intro _; rfl
  | false =>
    intro h; exact absurd h Bool.false_ne_true
theorem ok_impl_StepChain_c1 : CallOK Try.prog 32 (c_impl_StepChain_c1 real) := by
  refine callOK_of fun args h ret hc => ?_
  unfold c_impl_StepChain_c1 at hc
  split at hc
  · rename_i x4 x5 x6 x7 x8 x9 x0 x1 x2 x3
    obtain ⟨hok, rfl⟩ := some_ret hc
    exact holdsE_ev prog_ok (allOK_cons ok_impl_flyOk (allOK_cons ok_impl_roundsOk (allOK_cons ok_impl_Chain_step allOK_nil))) Try.func32 rfl rfl smL_nil (e_impl_StepChain_c1 real x0 x1 x2 x3 x4 x5 x6 x7 x8 x9 hok)
  · cases hc
def c_slices_Clone_impl_Vector_impl_Vector (_ : FOps) : Con
  | [V.at (A.sl 0)], [⟨false, .rows [K.f .f32, K.f .f32, K.f .f32] x0⟩] => some (decide (x0.length ≤ 1073741824), ⟨V.at (A.sl 1), none, [⟨true, .rows [K.f .f32, K.f .f32, K.f .f32] x0⟩]⟩)
  | _, _ => none
theorem ok_slices_Clone_impl_Vector_impl_Vector : CallOK Try.prog 87 (c_slices_Clone_impl_Vector_impl_Vector real) := by
  refine callOK_of fun args h ret hc => ?_
  unfold c_slices_Clone_impl_Vector_impl_Vector at hc
  split at hc
  · rename_i x0
    obtain ⟨hok, rfl⟩ := some_ret hc
    refine holds_of_nilcmp (cx := cxS real tyl [] [] [] 0) (cxS_ok prog_ok.ty allOK_nil) prog_ok.mix Try.func87 (o0 := opC 0 (codeOf Try.f87)) (o1 := opC 1 (codeOf Try.f87)) (o2 := opC 2 (codeOf Try.f87)) (i0 := 0) (i1 := 1) (cnd := cndC (codeOf Try.f87)) (rest := endC (codeOf Try.f87)) (t := 31)
      (by kernel_rfl) (by decide) rfl ⟨by kernel_rfl, by kernel_rfl, by kernel_rfl⟩ ⟨by kernel_rfl, by kernel_rfl, by kernel_rfl⟩ ⟨by kernel_rfl, by kernel_rfl, by kernel_rfl⟩ ⟨38, by kernel_rfl⟩ (smL_sms smL_nil) ?_
    intro b hb
    cases b with
    | true => obtain rfl := hb rfl; kernel_rfl
    | false =>
      clear hb hc
      revert hok
      generalize hg : decide (x0.length ≤ 1073741824) = q
      intro hok
      subst hok
      have h0 : ∀ F : FOps, evC (cxS F tyl [] [] [] 0) 1 (restC (codeOf Try.f87)) ⟨[.at (.sl 0), .at .void, .at .nil, .at (.sl 0), .at (.bool false), .at .void, .at .void, .at .void], [⟨false, .rows [K.f .f32, K.f .f32, K.f .f32] x0⟩]⟩ (fun e st => match e with | .normal => finish (cxS F tyl [] [] [] 0) Try.f87 false 1 st | .ret => finish (cxS F tyl [] [] [] 0) Try.f87 false 1 st | .exit _ => none) = bif decide (x0.length ≤ 1073741824) then some ⟨V.at (A.sl 1), none, [⟨true, .rows [K.f .f32, K.f .f32, K.f .f32] x0⟩]⟩ else none := by
        intro F
        kernel_rfl
      rw [hg] at h0
      exact h0 real
  · cases hc
def c_slices_Clone_float32_float32 (_ : FOps) : Con
  | [V.at (A.sl 0)], [⟨false, .rows [K.f .f32] x0⟩] => some (decide (x0.length ≤ 1073741824), ⟨V.at (A.sl 1), none, [⟨true, .rows [K.f .f32] x0⟩]⟩)
  | _, _ => none
theorem ok_slices_Clone_float32_float32 : CallOK Try.prog 88 (c_slices_Clone_float32_float32 real) := by
  refine callOK_of fun args h ret hc => ?_
  unfold c_slices_Clone_float32_float32 at hc
  split at hc
  · rename_i x0
    obtain ⟨hok, rfl⟩ := some_ret hc
    refine holds_of_nilcmp (cx := cxS real tyl [] [] [] 0) (cxS_ok prog_ok.ty allOK_nil) prog_ok.mix Try.func88 (o0 := opC 0 (codeOf Try.f88)) (o1 := opC 1 (codeOf Try.f88)) (o2 := opC 2 (codeOf Try.f88)) (i0 := 0) (i1 := 1) (cnd := cndC (codeOf Try.f88)) (rest := endC (codeOf Try.f88)) (t := 23)
      (by kernel_rfl) (by decide) rfl ⟨by kernel_rfl, by kernel_rfl, by kernel_rfl⟩ ⟨by kernel_rfl, by kernel_rfl, by kernel_rfl⟩ ⟨by kernel_rfl, by kernel_rfl, by kernel_rfl⟩ ⟨27, by kernel_rfl⟩ (smL_sms smL_nil) ?_
    intro b hb
    cases b with
    | true => obtain rfl := hb rfl; kernel_rfl
    | false =>
      clear hb hc
      revert hok
      generalize hg : decide (x0.length ≤ 1073741824) = q
      intro hok
      subst hok
      have h0 : ∀ F : FOps, evC (cxS F tyl [] [] [] 0) 1 (restC (codeOf Try.f88)) ⟨[.at (.sl 0), .at .void, .at .nil, .at (.sl 0), .at (.bool false), .at .void, .at .void, .at .void], [⟨false, .rows [K.f .f32] x0⟩]⟩ (fun e st => match e with | .normal => finish (cxS F tyl [] [] [] 0) Try.f88 false 1 st | .ret => finish (cxS F tyl [] [] [] 0) Try.f88 false 1 st | .exit _ => none) = bif decide (x0.length ≤ 1073741824) then some ⟨V.at (A.sl 1), none, [⟨true, .rows [K.f .f32] x0⟩]⟩ else none := by
        intro F
        kernel_rfl
      rw [hg] at h0
      exact h0 real
  · cases hc
def c_slices_Clone_impl_Rod_impl_Rod (_ : FOps) : Con
  | [V.at (A.sl 0)], [⟨false, .rows [K.i .i64, K.i .i64, K.f .f32] x0⟩] => some (decide (x0.length ≤ 1073741824), ⟨V.at (A.sl 1), none, [⟨true, .rows [K.i .i64, K.i .i64, K.f .f32] x0⟩]⟩)
  | _, _ => none
theorem ok_slices_Clone_impl_Rod_impl_Rod : CallOK Try.prog 89 (c_slices_Clone_impl_Rod_impl_Rod real) := by
  refine callOK_of fun args h ret hc => ?_
  unfold c_slices_Clone_impl_Rod_impl_Rod at hc
  split at hc
  · rename_i x0
    obtain ⟨hok, rfl⟩ := some_ret hc
    refine holds_of_nilcmp (cx := cxS real tyl [] [] [] 0) (cxS_ok prog_ok.ty allOK_nil) prog_ok.mix Try.func89 (o0 := opC 0 (codeOf Try.f89)) (o1 := opC 1 (codeOf Try.f89)) (o2 := opC 2 (codeOf Try.f89)) (i0 := 0) (i1 := 1) (cnd := cndC (codeOf Try.f89)) (rest := endC (codeOf Try.f89)) (t := 32)
      (by kernel_rfl) (by decide) rfl ⟨by kernel_rfl, by kernel_rfl, by kernel_rfl⟩ ⟨by kernel_rfl, by kernel_rfl, by kernel_rfl⟩ ⟨by kernel_rfl, by kernel_rfl, by kernel_rfl⟩ ⟨79, by kernel_rfl⟩ (smL_sms smL_nil) ?_
    intro b hb
    cases b with
    | true => obtain rfl := hb rfl; kernel_rfl
    | false =>
      clear hb hc
      revert hok
      generalize hg : decide (x0.length ≤ 1073741824) = q
      intro hok
      subst hok
      have h0 : ∀ F : FOps, evC (cxS F tyl [] [] [] 0) 1 (restC (codeOf Try.f89)) ⟨[.at (.sl 0), .at .void, .at .nil, .at (.sl 0), .at (.bool false), .at .void, .at .void, .at .void], [⟨false, .rows [K.i .i64, K.i .i64, K.f .f32] x0⟩]⟩ (fun e st => match e with | .normal => finish (cxS F tyl [] [] [] 0) Try.f89 false 1 st | .ret => finish (cxS F tyl [] [] [] 0) Try.f89 false 1 st | .exit _ => none) = bif decide (x0.length ≤ 1073741824) then some ⟨V.at (A.sl 1), none, [⟨true, .rows [K.i .i64, K.i .i64, K.f .f32] x0⟩]⟩ else none := by
        intro F
        kernel_rfl
      rw [hg] at h0
      exact h0 real
  · cases hc
def Pure.impl_cloneChain_ok (F : FOps) (x0 x1 x2 x3 : List (List Int)) : Bool := bif decide (x0.length ≤ 1073741824) then bif decide (x1.length ≤ 1073741824) then bif decide (x2.length ≤ 1073741824) then decide (x3.length ≤ 1073741824) else false else false else false
def c_impl_cloneChain (F : FOps) : Con
  | [V.agg [A.sl 0, A.sl 1, A.sl 2, A.sl 3]], [⟨false, .rows [K.f .f32, K.f .f32, K.f .f32] x0⟩, ⟨false, .rows [K.f .f32, K.f .f32, K.f .f32] x1⟩, ⟨false, .rows [K.f .f32] x2⟩, ⟨false, .rows [K.i .i64, K.i .i64, K.f .f32] x3⟩] => some (Pure.impl_cloneChain_ok F x0 x1 x2 x3, ⟨V.agg [A.sl 4, A.sl 5, A.sl 6, A.sl 7], none, [⟨true, .rows [K.f .f32, K.f .f32, K.f .f32] x0⟩, ⟨true, .rows [K.f .f32, K.f .f32, K.f .f32] x1⟩, ⟨true, .rows [K.f .f32] x2⟩, ⟨true, .rows [K.i .i64, K.i .i64, K.f .f32] x3⟩]⟩)
  | _, _ => none
theorem e_impl_cloneChain (F : FOps) (x0 x1 x2 x3 : List (List Int)) : Pure.impl_cloneChain_ok F x0 x1 x2 x3 = true → evFn (cxS F tyl [(87, c_slices_Clone_impl_Vector_impl_Vector F), (88, c_slices_Clone_float32_float32 F), (89, c_slices_Clone_impl_Rod_impl_Rod F)] [] [] 0) Try.f62 false [V.agg [A.sl 0, A.sl 1, A.sl 2, A.sl 3]] [⟨false, .rows [K.f .f32, K.f .f32, K.f .f32] x0⟩, ⟨false, .rows [K.f .f32, K.f .f32, K.f .f32] x1⟩, ⟨false, .rows [K.f .f32] x2⟩, ⟨false, .rows [K.i .i64, K.i .i64, K.f .f32] x3⟩] = some ⟨V.agg [A.sl 4, A.sl 5, A.sl 6, A.sl 7], none, [⟨true, .rows [K.f .f32, K.f .f32, K.f .f32] x0⟩, ⟨true, .rows [K.f .f32, K.f .f32, K.f .f32] x1⟩, ⟨true, .rows [K.f .f32] x2⟩, ⟨true, .rows [K.i .i64, K.i .i64, K.f .f32] x3⟩]⟩ := by
  have h0 : evFn (cxS F tyl [(87, c_slices_Clone_impl_Vector_impl_Vector F), (88, c_slices_Clone_float32_float32 F), (89, c_slices_Clone_impl_Rod_impl_Rod F)] [] [] 0) Try.f62 false [V.agg [A.sl 0, A.sl 1, A.sl 2, A.sl 3]] [⟨false, .rows [K.f .f32, K.f .f32, K.f .f32] x0⟩, ⟨false, .rows [K.f .f32, K.f .f32, K.f .f32] x1⟩, ⟨false, .rows [K.f .f32] x2⟩, ⟨false, .rows [K.i .i64, K.i .i64, K.f .f32] x3⟩] = bif decide (x0.length ≤ 1073741824) then bif decide (x1.length ≤ 1073741824) then bif decide (x2.length ≤ 1073741824) then bif decide (x3.length ≤ 1073741824) then some ⟨V.agg [A.sl 4, A.sl 5, A.sl 6, A.sl 7], none, [⟨true, .rows [K.f .f32, K.f .f32, K.f .f32] x0⟩, ⟨true, .rows [K.f .f32, K.f .f32, K.f .f32] x1⟩, ⟨true, .rows [K.f .f32] x2⟩, ⟨true, .rows [K.i .i64, K.i .i64, K.f .f32] x3⟩]⟩ else none else none else none else none := by kernel_rfl
  rw [h0]
  unfold Pure.impl_cloneChain_ok
  cases (decide (x0.length ≤ 1073741824)) with
  | true =>
    cases (decide (x1.length ≤ 1073741824)) with
    | true =>
      cases (decide (x2.length ≤ 1073741824)) with
      | true =>
        cases (decide (x3.length ≤ 1073741824)) with
        | true =>
          intro _; rfl
        | false =>
          intro h; exact absurd h Bool.false_ne_true
      | false =>
        intro h; exact absurd h Bool.false_ne_true
    | false =>
      intro h; exact absurd h Bool.false_ne_true
  | false =>
    intro h; exact absurd h Bool.false_ne_true
theorem ok_impl_cloneChain : CallOK Try.prog 62 (c_impl_cloneChain real) := by
  refine callOK_of fun args h ret hc => ?_
  unfold c_impl_cloneChain at hc
  split at hc
  · rename_i x0 x1 x2 x3
    obtain ⟨hok, rfl⟩ := some_ret hc
    exact holds_ev prog_ok (allOK_cons ok_slices_Clone_impl_Vector_impl_Vector (allOK_cons ok_slices_Clone_float32_float32 (allOK_cons ok_slices_Clone_impl_Rod_impl_Rod allOK_nil))) Try.func62 rfl rfl smL_nil rfl (e_impl_cloneChain real x0 x1 x2 x3 hok)
  · cases hc
def Pure.impl_toldChain_way (F : FOps) (x0 x1 x2 x3 : List (List Int)) : Bool := Pure.impl_ValidChain F x0 x1 x2 x3
def Pure.impl_toldChain_okA (F : FOps) (x0 x1 x2 x3 : List (List Int)) : Bool := Pure.impl_ValidChain_ok F x0 x1 x2 x3
def Pure.impl_toldChain_okB (F : FOps) (x0 x1 x2 x3 : List (List Int)) : Bool := Pure.impl_ValidChain_ok F x0 x1 x2 x3
def c2_impl_toldChain (F : FOps) : Con2
  | [V.agg [A.sl 0, A.sl 1, A.sl 2, A.sl 3]], [⟨false, .rows [K.f .f32, K.f .f32, K.f .f32] x0⟩, ⟨false, .rows [K.f .f32, K.f .f32, K.f .f32] x1⟩, ⟨false, .rows [K.f .f32] x2⟩, ⟨false, .rows [K.i .i64, K.i .i64, K.f .f32] x3⟩] => some (Pure.impl_toldChain_way F x0 x1 x2 x3, (Pure.impl_toldChain_okA F x0 x1 x2 x3, ⟨V.tup [(true, [A.sl 0, A.sl 1, A.sl 2, A.sl 3]), (false, [A.bool true])], none, []⟩), (Pure.impl_toldChain_okB F x0 x1 x2 x3, ⟨V.tup [(true, [A.sl 4, A.sl 5, A.sl 6, A.sl 7]), (false, [A.bool false])], none, [⟨true, .rows [K.f .f32, K.f .f32, K.f .f32] []⟩, ⟨true, .rows [K.f .f32, K.f .f32, K.f .f32] []⟩, ⟨true, .rows [K.f .f32] []⟩, ⟨true, .rows [K.i .i64, K.i .i64, K.f .f32] []⟩]⟩))
  | _, _ => none
theorem e2_impl_toldChain_true (F : FOps) (x0 x1 x2 x3 : List (List Int)) : Pure.impl_toldChain_way F x0 x1 x2 x3 = true → Pure.impl_toldChain_okA F x0 x1 x2 x3 = true → evFn (cxS F tyl [(61, c_impl_ValidChain F)] [] [] 0) Try.f63 false [V.agg [A.sl 0, A.sl 1, A.sl 2, A.sl 3]] [⟨false, .rows [K.f .f32, K.f .f32, K.f .f32] x0⟩, ⟨false, .rows [K.f .f32, K.f .f32, K.f .f32] x1⟩, ⟨false, .rows [K.f .f32] x2⟩, ⟨false, .rows [K.i .i64, K.i .i64, K.f .f32] x3⟩] = some ⟨V.tup [(true, [A.sl 0, A.sl 1, A.sl 2, A.sl 3]), (false, [A.bool true])], none, []⟩ := by
  have h0 : evFn (cxS F tyl [(61, c_impl_ValidChain F)] [] [] 0) Try.f63 false [V.agg [A.sl 0, A.sl 1, A.sl 2, A.sl 3]] [⟨false, .rows [K.f .f32, K.f .f32, K.f .f32] x0⟩, ⟨false, .rows [K.f .f32, K.f .f32, K.f .f32] x1⟩, ⟨false, .rows [K.f .f32] x2⟩, ⟨false, .rows [K.i .i64, K.i .i64, K.f .f32] x3⟩] = bif Pure.impl_ValidChain_ok F x0 x1 x2 x3 then bif Bool.not (Pure.impl_ValidChain F x0 x1 x2 x3) then some ⟨V.tup [(true, [A.sl 4, A.sl 5, A.sl 6, A.sl 7]), (false, [A.bool false])], none, [⟨true, .rows [K.f .f32, K.f .f32, K.f .f32] []⟩, ⟨true, .rows [K.f .f32, K.f .f32, K.f .f32] []⟩, ⟨true, .rows [K.f .f32] []⟩, ⟨true, .rows [K.i .i64, K.i .i64, K.f .f32] []⟩]⟩ else some ⟨V.tup [(true, [A.sl 0, A.sl 1, A.sl 2, A.sl 3]), (false, [A.bool true])], none, []⟩ else none := by kernel_rfl
  rw [h0]
  unfold Pure.impl_toldChain_way Pure.impl_toldChain_okA
  cases (Pure.impl_ValidChain_ok F x0 x1 x2 x3) with
  | true =>
    cases (Pure.impl_ValidChain F x0 x1 x2 x3) with
    | true =>
      intro h1 h2; first | rfl | cases h1 | cases h2
    | false =>
      intro h1 h2; first | rfl | cases h1 | cases h2
  | false =>
    intro h1 h2; first | rfl | cases h1 | cases h2
theorem e2_impl_toldChain_false (F : FOps) (x0 x1 x2 x3 : List (List Int)) : Pure.impl_toldChain_way F x0 x1 x2 x3 = false → Pure.impl_toldChain_okB F x0 x1 x2 x3 = true → evFn (cxS F tyl [(61, c_impl_ValidChain F)] [] [] 0) Try.f63 false [V.agg [A.sl 0, A.sl 1, A.sl 2, A.sl 3]] [⟨false, .rows [K.f .f32, K.f .f32, K.f .f32] x0⟩, ⟨false, .rows [K.f .f32, K.f .f32, K.f .f32] x1⟩, ⟨false, .rows [K.f .f32] x2⟩, ⟨false, .rows [K.i .i64, K.i .i64, K.f .f32] x3⟩] = some ⟨V.tup [(true, [A.sl 4, A.sl 5, A.sl 6, A.sl 7]), (false, [A.bool false])], none, [⟨true, .rows [K.f .f32, K.f .f32, K.f .f32] []⟩, ⟨true, .rows [K.f .f32, K.f .f32, K.f .f32] []⟩, ⟨true, .rows [K.f .f32] []⟩, ⟨true, .rows [K.i .i64, K.i .i64, K.f .f32] []⟩]⟩ := by
  have h0 : evFn (cxS F tyl [(61, c_impl_ValidChain F)] [] [] 0) Try.f63 false [V.agg [A.sl 0, A.sl 1, A.sl 2, A.sl 3]] [⟨false, .rows [K.f .f32, K.f .f32, K.f .f32] x0⟩, ⟨false, .rows [K.f .f32, K.f .f32, K.f .f32] x1⟩, ⟨false, .rows [K.f .f32] x2⟩, ⟨false, .rows [K.i .i64, K.i .i64, K.f .f32] x3⟩] = bif Pure.impl_ValidChain_ok F x0 x1 x2 x3 then bif Bool.not (Pure.impl_ValidChain F x0 x1 x2 x3) then some ⟨V.tup [(true, [A.sl 4, A.sl 5, A.sl 6, A.sl 7]), (false, [A.bool false])], none, [⟨true, .rows [K.f .f32, K.f .f32, K.f .f32] []⟩, ⟨true, .rows [K.f .f32, K.f .f32, K.f .f32] []⟩, ⟨true, .rows [K.f .f32] []⟩, ⟨true, .rows [K.i .i64, K.i .i64, K.f .f32] []⟩]⟩ else some ⟨V.tup [(true, [A.sl 0, A.sl 1, A.sl 2, A.sl 3]), (false, [A.bool true])], none, []⟩ else none := by kernel_rfl
  rw [h0]
  unfold Pure.impl_toldChain_way Pure.impl_toldChain_okB
  cases (Pure.impl_ValidChain_ok F x0 x1 x2 x3) with
  | true =>
    cases (Pure.impl_ValidChain F x0 x1 x2 x3) with
    | true =>
      intro h1 h2; first | rfl | cases h1 | cases h2
    | false =>
      intro h1 h2; first | rfl | cases h1 | cases h2
  | false =>
    intro h1 h2; first | rfl | cases h1 | cases h2
theorem ok2_impl_toldChain : TwoOK Try.prog 63 (c2_impl_toldChain real) := by
  intro args h b x y r news hc hb
  unfold c2_impl_toldChain at hc
  split at hc
  · rename_i x0 x1 x2 x3
    obtain ⟨rfl, rfl, rfl⟩ := two_ret hc
    cases hq : Pure.impl_toldChain_way real x0 x1 x2 x3 with
    | true =>
      rw [hq] at hb
      obtain ⟨hok, hr⟩ := ret_two hb
      have he := e2_impl_toldChain_true real x0 x1 x2 x3 hq hok
      rw [hr] at he
      exact holds_ev prog_ok (allOK_cons ok_impl_ValidChain allOK_nil) Try.func63 rfl rfl smL_nil rfl he
    | false =>
      rw [hq] at hb
      obtain ⟨hok, hr⟩ := ret_two hb
      have he := e2_impl_toldChain_false real x0 x1 x2 x3 hq hok
      rw [hr] at he
      exact holds_ev prog_ok (allOK_cons ok_impl_ValidChain allOK_nil) Try.func63 rfl rfl smL_nil rfl he
  · cases hc
def Pure.impl_changedChain_step (F : FOps) (x0 x1 x2 x3 : List (List Int)) (x4 x5 x6 x7 x8 x9 : Int) : Bool := bif Pure.impl_ValidChain F x0 x1 x2 x3 then bif Pure.impl_StepChain_c1 F x0 x1 x2 x3 x4 x5 x6 x7 x8 x9 then Pure.impl_toldChain_way F (Pure.impl_StepChain_c1_1 F x0 x1 x2 x3 x4 x5 x6 x7 x8 x9) (Pure.impl_StepChain_c1_2 F x0 x1 x2 x3 x4 x5 x6 x7 x8 x9) x2 x3 else false else false
def Pure.impl_changedChain_step_1 (F : FOps) (x0 x1 x2 x3 : List (List Int)) (x4 x5 x6 x7 x8 x9 : Int) : List (List Int) := bif Pure.impl_ValidChain F x0 x1 x2 x3 then bif Pure.impl_StepChain_c1 F x0 x1 x2 x3 x4 x5 x6 x7 x8 x9 then bif Pure.impl_toldChain_way F (Pure.impl_StepChain_c1_1 F x0 x1 x2 x3 x4 x5 x6 x7 x8 x9) (Pure.impl_StepChain_c1_2 F x0 x1 x2 x3 x4 x5 x6 x7 x8 x9) x2 x3 then Pure.impl_StepChain_c1_1 F x0 x1 x2 x3 x4 x5 x6 x7 x8 x9 else [] else [] else []
def Pure.impl_changedChain_step_2 (F : FOps) (x0 x1 x2 x3 : List (List Int)) (x4 x5 x6 x7 x8 x9 : Int) : List (List Int) := bif Pure.impl_ValidChain F x0 x1 x2 x3 then bif Pure.impl_StepChain_c1 F x0 x1 x2 x3 x4 x5 x6 x7 x8 x9 then bif Pure.impl_toldChain_way F (Pure.impl_StepChain_c1_1 F x0 x1 x2 x3 x4 x5 x6 x7 x8 x9) (Pure.impl_StepChain_c1_2 F x0 x1 x2 x3 x4 x5 x6 x7 x8 x9) x2 x3 then Pure.impl_StepChain_c1_2 F x0 x1 x2 x3 x4 x5 x6 x7 x8 x9 else [] else [] else []
def Pure.impl_changedChain_step_3 (F : FOps) (x0 x1 x2 x3 : List (List Int)) (x4 x5 x6 x7 x8 x9 : Int) : List (List Int) := bif Pure.impl_ValidChain F x0 x1 x2 x3 then bif Pure.impl_StepChain_c1 F x0 x1 x2 x3 x4 x5 x6 x7 x8 x9 then bif Pure.impl_toldChain_way F (Pure.impl_StepChain_c1_1 F x0 x1 x2 x3 x4 x5 x6 x7 x8 x9) (Pure.impl_StepChain_c1_2 F x0 x1 x2 x3 x4 x5 x6 x7 x8 x9) x2 x3 then x2 else [] else [] else []
def Pure.impl_changedChain_step_4 (F : FOps) (x0 x1 x2 x3 : List (List Int)) (x4 x5 x6 x7 x8 x9 : Int) : List (List Int) := bif Pure.impl_ValidChain F x0 x1 x2 x3 then bif Pure.impl_StepChain_c1 F x0 x1 x2 x3 x4 x5 x6 x7 x8 x9 then bif Pure.impl_toldChain_way F (Pure.impl_StepChain_c1_1 F x0 x1 x2 x3 x4 x5 x6 x7 x8 x9) (Pure.impl_StepChain_c1_2 F x0 x1 x2 x3 x4 x5 x6 x7 x8 x9) x2 x3 then x3 else [] else [] else []
def Pure.impl_changedChain_step_ok (F : FOps) (x0 x1 x2 x3 : List (List Int)) (x4 x5 x6 x7 x8 x9 : Int) : Bool := bif Pure.impl_ValidChain_ok F x0 x1 x2 x3 then bif Pure.impl_ValidChain F x0 x1 x2 x3 then bif Pure.impl_cloneChain_ok F x0 x1 x2 x3 then bif Pure.impl_StepChain_c1_ok F x0 x1 x2 x3 x4 x5 x6 x7 x8 x9 then bif Pure.impl_StepChain_c1 F x0 x1 x2 x3 x4 x5 x6 x7 x8 x9 then bif Pure.impl_toldChain_way F (Pure.impl_StepChain_c1_1 F x0 x1 x2 x3 x4 x5 x6 x7 x8 x9) (Pure.impl_StepChain_c1_2 F x0 x1 x2 x3 x4 x5 x6 x7 x8 x9) x2 x3 then Pure.impl_toldChain_okA F (Pure.impl_StepChain_c1_1 F x0 x1 x2 x3 x4 x5 x6 x7 x8 x9) (Pure.impl_StepChain_c1_2 F x0 x1 x2 x3 x4 x5 x6 x7 x8 x9) x2 x3 else Pure.impl_toldChain_okB F (Pure.impl_StepChain_c1_1 F x0 x1 x2 x3 x4 x5 x6 x7 x8 x9) (Pure.impl_StepChain_c1_2 F x0 x1 x2 x3 x4 x5 x6 x7 x8 x9) x2 x3 else true else false else false else true else false
def c_impl_changedChain_step (F : FOps) : Con
  | [V.agg [A.sl 0, A.sl 1, A.sl 2, A.sl 3], V.at (A.fn 32 [(4, (0, 0)), (5, (0, 0)), (6, (0, 0)), (7, (0, 0))])], [⟨false, .rows [K.f .f32, K.f .f32, K.f .f32] x0⟩, ⟨false, .rows [K.f .f32, K.f .f32, K.f .f32] x1⟩, ⟨false, .rows [K.f .f32] x2⟩, ⟨false, .rows [K.i .i64, K.i .i64, K.f .f32] x3⟩, ⟨false, .box [A.fl .f32 x4, A.fl .f32 x5, A.fl .f32 x6]⟩, ⟨false, .box [A.fl .f32 x7]⟩, ⟨false, .box [A.fl .f32 x8]⟩, ⟨false, .box [A.int .i64 x9]⟩] => some (Pure.impl_changedChain_step_ok F x0 x1 x2 x3 x4 x5 x6 x7 x8 x9, ⟨V.tup [(true, [A.sl 8, A.sl 9, A.sl 10, A.sl 11]), (false, [A.bool (Pure.impl_changedChain_step F x0 x1 x2 x3 x4 x5 x6 x7 x8 x9)])], none, [⟨true, .rows [K.f .f32, K.f .f32, K.f .f32] (Pure.impl_changedChain_step_1 F x0 x1 x2 x3 x4 x5 x6 x7 x8 x9)⟩, ⟨true, .rows [K.f .f32, K.f .f32, K.f .f32] (Pure.impl_changedChain_step_2 F x0 x1 x2 x3 x4 x5 x6 x7 x8 x9)⟩, ⟨true, .rows [K.f .f32] (Pure.impl_changedChain_step_3 F x0 x1 x2 x3 x4 x5 x6 x7 x8 x9)⟩, ⟨true, .rows [K.i .i64, K.i .i64, K.f .f32] (Pure.impl_changedChain_step_4 F x0 x1 x2 x3 x4 x5 x6 x7 x8 x9)⟩]⟩)
  | _, _ => none
theorem e_impl_changedChain_step (F : FOps) (x0 x1 x2 x3 : List (List Int)) (x4 x5 x6 x7 x8 x9 : Int) : Pure.impl_changedChain_step_ok F x0 x1 x2 x3 x4 x5 x6 x7 x8 x9 = true → evFn (cxS F tyl [(61, c_impl_ValidChain F), (62, c_impl_cloneChain F), (32, c_impl_StepChain_c1 F)] [32] [] 0 [(63, c2_impl_toldChain F)]) Try.f31 false [V.agg [A.sl 0, A.sl 1, A.sl 2, A.sl 3], V.at (A.fn 32 [(4, (0, 0)), (5, (0, 0)), (6, (0, 0)), (7, (0, 0))])] [⟨false, .rows [K.f .f32, K.f .f32, K.f .f32] x0⟩, ⟨false, .rows [K.f .f32, K.f .f32, K.f .f32] x1⟩, ⟨false, .rows [K.f .f32] x2⟩, ⟨false, .rows [K.i .i64, K.i .i64, K.f .f32] x3⟩, ⟨false, .box [A.fl .f32 x4, A.fl .f32 x5, A.fl .f32 x6]⟩, ⟨false, .box [A.fl .f32 x7]⟩, ⟨false, .box [A.fl .f32 x8]⟩, ⟨false, .box [A.int .i64 x9]⟩] = some ⟨V.tup [(true, [A.sl 8, A.sl 9, A.sl 10, A.sl 11]), (false, [A.bool (Pure.impl_changedChain_step F x0 x1 x2 x3 x4 x5 x6 x7 x8 x9)])], none, [⟨true, .rows [K.f .f32, K.f .f32, K.f .f32] (Pure.impl_changedChain_step_1 F x0 x1 x2 x3 x4 x5 x6 x7 x8 x9)⟩, ⟨true, .rows [K.f .f32, K.f .f32, K.f .f32] (Pure.impl_changedChain_step_2 F x0 x1 x2 x3 x4 x5 x6 x7 x8 x9)⟩, ⟨true, .rows [K.f .f32] (Pure.impl_changedChain_step_3 F x0 x1 x2 x3 x4 x5 x6 x7 x8 x9)⟩, ⟨true, .rows [K.i .i64, K.i .i64, K.f .f32] (Pure.impl_changedChain_step_4 F x0 x1 x2 x3 x4 x5 x6 x7 x8 x9)⟩]⟩ := by
  have h0 : evFn (cxS F tyl [(61, c_impl_ValidChain F), (62, c_impl_cloneChain F), (32, c_impl_StepChain_c1 F)] [32] [] 0 [(63, c2_impl_toldChain F)]) Try.f31 false [V.agg [A.sl 0, A.sl 1, A.sl 2, A.sl 3], V.at (A.fn 32 [(4, (0, 0)), (5, (0, 0)), (6, (0, 0)), (7, (0, 0))])] [⟨false, .rows [K.f .f32, K.f .f32, K.f .f32] x0⟩, ⟨false, .rows [K.f .f32, K.f .f32, K.f .f32] x1⟩, ⟨false, .rows [K.f .f32] x2⟩, ⟨false, .rows [K.i .i64, K.i .i64, K.f .f32] x3⟩, ⟨false, .box [A.fl .f32 x4, A.fl .f32 x5, A.fl .f32 x6]⟩, ⟨false, .box [A.fl .f32 x7]⟩, ⟨false, .box [A.fl .f32 x8]⟩, ⟨false, .box [A.int .i64 x9]⟩] = bif Pure.impl_ValidChain_ok F x0 x1 x2 x3 then bif Bool.not (Pure.impl_ValidChain F x0 x1 x2 x3) then some ⟨V.tup [(true, [A.sl 8, A.sl 9, A.sl 10, A.sl 11]), (false, [A.bool false])], none, [⟨true, .rows [K.f .f32, K.f .f32, K.f .f32] []⟩, ⟨true, .rows [K.f .f32, K.f .f32, K.f .f32] []⟩, ⟨true, .rows [K.f .f32] []⟩, ⟨true, .rows [K.i .i64, K.i .i64, K.f .f32] []⟩]⟩ else bif Pure.impl_cloneChain_ok F x0 x1 x2 x3 then bif Pure.impl_StepChain_c1_ok F x0 x1 x2 x3 x4 x5 x6 x7 x8 x9 then bif Bool.not (Pure.impl_StepChain_c1 F x0 x1 x2 x3 x4 x5 x6 x7 x8 x9) then some ⟨V.tup [(true, [A.sl 8, A.sl 9, A.sl 10, A.sl 11]), (false, [A.bool false])], none, [⟨true, .rows [K.f .f32, K.f .f32, K.f .f32] []⟩, ⟨true, .rows [K.f .f32, K.f .f32, K.f .f32] []⟩, ⟨true, .rows [K.f .f32] []⟩, ⟨true, .rows [K.i .i64, K.i .i64, K.f .f32] []⟩]⟩ else bif Pure.impl_toldChain_way F (Pure.impl_StepChain_c1_1 F x0 x1 x2 x3 x4 x5 x6 x7 x8 x9) (Pure.impl_StepChain_c1_2 F x0 x1 x2 x3 x4 x5 x6 x7 x8 x9) x2 x3 then bif Pure.impl_toldChain_okA F (Pure.impl_StepChain_c1_1 F x0 x1 x2 x3 x4 x5 x6 x7 x8 x9) (Pure.impl_StepChain_c1_2 F x0 x1 x2 x3 x4 x5 x6 x7 x8 x9) x2 x3 then some ⟨V.tup [(true, [A.sl 8, A.sl 9, A.sl 10, A.sl 11]), (false, [A.bool true])], none, [⟨true, .rows [K.f .f32, K.f .f32, K.f .f32] (Pure.impl_StepChain_c1_1 F x0 x1 x2 x3 x4 x5 x6 x7 x8 x9)⟩, ⟨true, .rows [K.f .f32, K.f .f32, K.f .f32] (Pure.impl_StepChain_c1_2 F x0 x1 x2 x3 x4 x5 x6 x7 x8 x9)⟩, ⟨true, .rows [K.f .f32] x2⟩, ⟨true, .rows [K.i .i64, K.i .i64, K.f .f32] x3⟩]⟩ else none else bif Pure.impl_toldChain_okB F (Pure.impl_StepChain_c1_1 F x0 x1 x2 x3 x4 x5 x6 x7 x8 x9) (Pure.impl_StepChain_c1_2 F x0 x1 x2 x3 x4 x5 x6 x7 x8 x9) x2 x3 then some ⟨V.tup [(true, [A.sl 8, A.sl 9, A.sl 10, A.sl 11]), (false, [A.bool false])], none, [⟨true, .rows [K.f .f32, K.f .f32, K.f .f32] []⟩, ⟨true, .rows [K.f .f32, K.f .f32, K.f .f32] []⟩, ⟨true, .rows [K.f .f32] []⟩, ⟨true, .rows [K.i .i64, K.i .i64, K.f .f32] []⟩]⟩ else none else none else none else none := by kernel_rfl
  rw [h0]
  unfold Pure.impl_changedChain_step Pure.impl_changedChain_step_1 Pure.impl_changedChain_step_2 Pure.impl_changedChain_step_3 Pure.impl_changedChain_step_4 Pure.impl_changedChain_step_ok
  cases (Pure.impl_ValidChain_ok F x0 x1 x2 x3) with
  | true =>
    cases (Pure.impl_ValidChain F x0 x1 x2 x3) with
    | true =>
      cases (Pure.impl_cloneChain_ok F x0 x1 x2 x3) with
      | true =>
        cases (Pure.impl_StepChain_c1_ok F x0 x1 x2 x3 x4 x5 x6 x7 x8 x9) with
        | true =>
          cases (Pure.impl_StepChain_c1 F x0 x1 x2 x3 x4 x5 x6 x7 x8 x9) with
          | true =>
            cases (Pure.impl_toldChain_way F (Pure.impl_StepChain_c1_1 F x0 x1 x2 x3 x4 x5 x6 x7 x8 x9) (Pure.impl_StepChain_c1_2 F x0 x1 x2 x3 x4 x5 x6 x7 x8 x9) x2 x3) with
            | true =>
              cases (Pure.impl_toldChain_okA F (Pure.impl_StepChain_c1_1 F x0 x1 x2 x3 x4 x5 x6 x7 x8 x9) (Pure.impl_StepChain_c1_2 F x0 x1 x2 x3 x4 x5 x6 x7 x8 x9) x2 x3) with
              | true =>
                intro _; rfl
              | false =>
                intro h; exact absurd h Bool.false_ne_true
            | false =>
              cases (Pure.impl_toldChain_okB F (Pure.impl_StepChain_c1_1 F x0 x1 x2 x3 x4 x5 x6 x7 x8 x9) (Pure.impl_StepChain_c1_2 F x0 x1 x2 x3 x4 x5 x6 x7 x8 x9) x2 x3) with
              | true =>
                intro _; rfl
              | false =>
                intro h; exact absurd h Bool.false_ne_true
          | false =>
            intro _; rfl
        | false =>
          intro h; exact absurd h Bool.false_ne_true
      | false =>
        intro h; exact absurd h Bool.false_ne_true
    | false =>
      intro _; rfl
  | false =>
    intro h; exact absurd h Bool.false_ne_true
theorem ok_impl_changedChain_step : CallOK Try.prog 31 (c_impl_changedChain_step real) := by
  refine callOK_of fun args h ret hc => ?_
  unfold c_impl_changedChain_step at hc
  split at hc
  · rename_i x0 x1 x2 x3 x4 x5 x6 x7 x8 x9
    obtain ⟨hok, rfl⟩ := some_ret hc
    exact holds_ev2 prog_ok (allOK_cons ok_impl_ValidChain (allOK_cons ok_impl_cloneChain (allOK_cons ok_impl_StepChain_c1 allOK_nil))) (allTwo_cons ok2_impl_toldChain allTwo_nil) Try.func31 rfl rfl smL_nil rfl (e_impl_changedChain_step real x0 x1 x2 x3 x4 x5 x6 x7 x8 x9 hok)
  · cases hc
def Pure.laws_szVectorS (F : FOps) (x0 : List (List Int)) (x1 : Int) : Int := bif decide ((IntKind.wrap .i64 (x1 - (Int.ofNat x0.length))) < 0) then (-1) else IntKind.wrap .i64 (x1 - (Int.ofNat x0.length))
def c_laws_szVectorS (F : FOps) : Con
  | [V.at (A.sl 0), V.at (A.int .i64 x1)], [⟨false, .rows [K.f .f32, K.f .f32, K.f .f32] x0⟩] => some (true, ⟨V.at (A.int .i64 (Pure.laws_szVectorS F x0 x1)), none, []⟩)
  | _, _ => none
theorem e_laws_szVectorS (F : FOps) (x0 : List (List Int)) (x1 : Int) : evFn (cxS F tyl [] [] [] 0) Try.f21 false [V.at (A.sl 0), V.at (A.int .i64 x1)] [⟨false, .rows [K.f .f32, K.f .f32, K.f .f32] x0⟩] = some ⟨V.at (A.int .i64 (Pure.laws_szVectorS F x0 x1)), none, []⟩ := by
  have h0 : evFn (cxS F tyl [] [] [] 0) Try.f21 false [V.at (A.sl 0), V.at (A.int .i64 x1)] [⟨false, .rows [K.f .f32, K.f .f32, K.f .f32] x0⟩] = bif decide ((IntKind.wrap .i64 (x1 - (Int.ofNat x0.length))) < 0) then some ⟨V.at (A.int .i64 (-1)), none, []⟩ else some ⟨V.at (A.int .i64 (IntKind.wrap .i64 (x1 - (Int.ofNat x0.length)))), none, []⟩ := by kernel_rfl
  rw [h0]
  unfold Pure.laws_szVectorS
  cases (decide ((IntKind.wrap .i64 (x1 - (Int.ofNat x0.length))) < 0)) with
  | true =>
    rfl
  | false =>
    rfl
theorem ok_laws_szVectorS : CallOK Try.prog 21 (c_laws_szVectorS real) := by
  refine callOK_of fun args h ret hc => ?_
  unfold c_laws_szVectorS at hc
  split at hc
  · rename_i x1 x0
    obtain ⟨_, rfl⟩ := some_ret hc
    exact holds_ev prog_ok allOK_nil Try.func21 rfl rfl smL_nil rfl (e_laws_szVectorS real x0 x1)
  · cases hc
def Pure.laws_szFloat32S (F : FOps) (x0 : List (List Int)) (x1 : Int) : Int := bif decide ((IntKind.wrap .i64 (x1 - (Int.ofNat x0.length))) < 0) then (-1) else IntKind.wrap .i64 (x1 - (Int.ofNat x0.length))
def c_laws_szFloat32S (F : FOps) : Con
  | [V.at (A.sl 0), V.at (A.int .i64 x1)], [⟨false, .rows [K.f .f32] x0⟩] => some (true, ⟨V.at (A.int .i64 (Pure.laws_szFloat32S F x0 x1)), none, []⟩)
  | _, _ => none
theorem e_laws_szFloat32S (F : FOps) (x0 : List (List Int)) (x1 : Int) : evFn (cxS F tyl [] [] [] 0) Try.f22 false [V.at (A.sl 0), V.at (A.int .i64 x1)] [⟨false, .rows [K.f .f32] x0⟩] = some ⟨V.at (A.int .i64 (Pure.laws_szFloat32S F x0 x1)), none, []⟩ := by
  have h0 : evFn (cxS F tyl [] [] [] 0) Try.f22 false [V.at (A.sl 0), V.at (A.int .i64 x1)] [⟨false, .rows [K.f .f32] x0⟩] = bif decide ((IntKind.wrap .i64 (x1 - (Int.ofNat x0.length))) < 0) then some ⟨V.at (A.int .i64 (-1)), none, []⟩ else some ⟨V.at (A.int .i64 (IntKind.wrap .i64 (x1 - (Int.ofNat x0.length)))), none, []⟩ := by kernel_rfl
  rw [h0]
  unfold Pure.laws_szFloat32S
  cases (decide ((IntKind.wrap .i64 (x1 - (Int.ofNat x0.length))) < 0)) with
  | true =>
    rfl
  | false =>
    rfl
theorem ok_laws_szFloat32S : CallOK Try.prog 22 (c_laws_szFloat32S real) := by
  refine callOK_of fun args h ret hc => ?_
  unfold c_laws_szFloat32S at hc
  split at hc
  · rename_i x1 x0
    obtain ⟨_, rfl⟩ := some_ret hc
    exact holds_ev prog_ok allOK_nil Try.func22 rfl rfl smL_nil rfl (e_laws_szFloat32S real x0 x1)
  · cases hc
def Pure.laws_szRodS (F : FOps) (x0 : List (List Int)) (x1 : Int) : Int := bif decide ((IntKind.wrap .i64 (x1 - (Int.ofNat x0.length))) < 0) then (-1) else IntKind.wrap .i64 (x1 - (Int.ofNat x0.length))
def c_laws_szRodS (F : FOps) : Con
  | [V.at (A.sl 0), V.at (A.int .i64 x1)], [⟨false, .rows [K.i .i64, K.i .i64, K.f .f32] x0⟩] => some (true, ⟨V.at (A.int .i64 (Pure.laws_szRodS F x0 x1)), none, []⟩)
  | _, _ => none
theorem e_laws_szRodS (F : FOps) (x0 : List (List Int)) (x1 : Int) : evFn (cxS F tyl [] [] [] 0) Try.f23 false [V.at (A.sl 0), V.at (A.int .i64 x1)] [⟨false, .rows [K.i .i64, K.i .i64, K.f .f32] x0⟩] = some ⟨V.at (A.int .i64 (Pure.laws_szRodS F x0 x1)), none, []⟩ := by
  have h0 : evFn (cxS F tyl [] [] [] 0) Try.f23 false [V.at (A.sl 0), V.at (A.int .i64 x1)] [⟨false, .rows [K.i .i64, K.i .i64, K.f .f32] x0⟩] = bif decide ((IntKind.wrap .i64 (x1 - (Int.ofNat x0.length))) < 0) then some ⟨V.at (A.int .i64 (-1)), none, []⟩ else some ⟨V.at (A.int .i64 (IntKind.wrap .i64 (x1 - (Int.ofNat x0.length)))), none, []⟩ := by kernel_rfl
  rw [h0]
  unfold Pure.laws_szRodS
  cases (decide ((IntKind.wrap .i64 (x1 - (Int.ofNat x0.length))) < 0)) with
  | true =>
    rfl
  | false =>
    rfl
theorem ok_laws_szRodS : CallOK Try.prog 23 (c_laws_szRodS real) := by
  refine callOK_of fun args h ret hc => ?_
  unfold c_laws_szRodS at hc
  split at hc
  · rename_i x1 x0
    obtain ⟨_, rfl⟩ := some_ret hc
    exact holds_ev prog_ok allOK_nil Try.func23 rfl rfl smL_nil rfl (e_laws_szRodS real x0 x1)
  · cases hc
def Pure.laws_szChain (F : FOps) (x0 x1 x2 x3 : List (List Int)) (x4 : Int) : Int := bif decide ((Pure.laws_szVectorS F x0 x4) < 0) then (-1) else bif decide ((Pure.laws_szVectorS F x1 (Pure.laws_szVectorS F x0 x4)) < 0) then (-1) else bif decide ((Pure.laws_szFloat32S F x2 (Pure.laws_szVectorS F x1 (Pure.laws_szVectorS F x0 x4))) < 0) then (-1) else bif decide ((Pure.laws_szRodS F x3 (Pure.laws_szFloat32S F x2 (Pure.laws_szVectorS F x1 (Pure.laws_szVectorS F x0 x4)))) < 0) then (-1) else Pure.laws_szRodS F x3 (Pure.laws_szFloat32S F x2 (Pure.laws_szVectorS F x1 (Pure.laws_szVectorS F x0 x4)))
def c_laws_szChain (F : FOps) : Con
  | [V.agg [A.sl 0, A.sl 1, A.sl 2, A.sl 3], V.at (A.int .i64 x4)], [⟨false, .rows [K.f .f32, K.f .f32, K.f .f32] x0⟩, ⟨false, .rows [K.f .f32, K.f .f32, K.f .f32] x1⟩, ⟨false, .rows [K.f .f32] x2⟩, ⟨false, .rows [K.i .i64, K.i .i64, K.f .f32] x3⟩] => some (true, ⟨V.at (A.int .i64 (Pure.laws_szChain F x0 x1 x2 x3 x4)), none, []⟩)
  | _, _ => none
theorem e_laws_szChain (F : FOps) (x0 x1 x2 x3 : List (List Int)) (x4 : Int) : evFn (cxS F tyl [(21, c_laws_szVectorS F), (22, c_laws_szFloat32S F), (23, c_laws_szRodS F)] [] [] 0) Try.f6 false [V.agg [A.sl 0, A.sl 1, A.sl 2, A.sl 3], V.at (A.int .i64 x4)] [⟨false, .rows [K.f .f32, K.f .f32, K.f .f32] x0⟩, ⟨false, .rows [K.f .f32, K.f .f32, K.f .f32] x1⟩, ⟨false, .rows [K.f .f32] x2⟩, ⟨false, .rows [K.i .i64, K.i .i64, K.f .f32] x3⟩] = some ⟨V.at (A.int .i64 (Pure.laws_szChain F x0 x1 x2 x3 x4)), none, []⟩ := by
  have h0 : evFn (cxS F tyl [(21, c_laws_szVectorS F), (22, c_laws_szFloat32S F), (23, c_laws_szRodS F)] [] [] 0) Try.f6 false [V.agg [A.sl 0, A.sl 1, A.sl 2, A.sl 3], V.at (A.int .i64 x4)] [⟨false, .rows [K.f .f32, K.f .f32, K.f .f32] x0⟩, ⟨false, .rows [K.f .f32, K.f .f32, K.f .f32] x1⟩, ⟨false, .rows [K.f .f32] x2⟩, ⟨false, .rows [K.i .i64, K.i .i64, K.f .f32] x3⟩] = bif decide ((Pure.laws_szVectorS F x0 x4) < 0) then some ⟨V.at (A.int .i64 (-1)), none, []⟩ else bif decide ((Pure.laws_szVectorS F x1 (Pure.laws_szVectorS F x0 x4)) < 0) then some ⟨V.at (A.int .i64 (-1)), none, []⟩ else bif decide ((Pure.laws_szFloat32S F x2 (Pure.laws_szVectorS F x1 (Pure.laws_szVectorS F x0 x4))) < 0) then some ⟨V.at (A.int .i64 (-1)), none, []⟩ else bif decide ((Pure.laws_szRodS F x3 (Pure.laws_szFloat32S F x2 (Pure.laws_szVectorS F x1 (Pure.laws_szVectorS F x0 x4)))) < 0) then some ⟨V.at (A.int .i64 (-1)), none, []⟩ else some ⟨V.at (A.int .i64 (Pure.laws_szRodS F x3 (Pure.laws_szFloat32S F x2 (Pure.laws_szVectorS F x1 (Pure.laws_szVectorS F x0 x4))))), none, []⟩ := by kernel_rfl
  rw [h0]
  unfold Pure.laws_szChain
  cases (decide ((Pure.laws_szVectorS F x0 x4) < 0)) with
  | true =>
    rfl
  | false =>
    cases (decide ((Pure.laws_szVectorS F x1 (Pure.laws_szVectorS F x0 x4)) < 0)) with
    | true =>
      rfl
    | false =>
      cases (decide ((Pure.laws_szFloat32S F x2 (Pure.laws_szVectorS F x1 (Pure.laws_szVectorS F x0 x4))) < 0)) with
      | true =>
        rfl
      | false =>
        cases (decide ((Pure.laws_szRodS F x3 (Pure.laws_szFloat32S F x2 (Pure.laws_szVectorS F x1 (Pure.laws_szVectorS F x0 x4)))) < 0)) with
        | true =>
          rfl
        | false =>
          rfl
theorem ok_laws_szChain : CallOK Try.prog 6 (c_laws_szChain real) := by
  refine callOK_of fun args h ret hc => ?_
  unfold c_laws_szChain at hc
  split at hc
  · rename_i x4 x0 x1 x2 x3
    obtain ⟨_, rfl⟩ := some_ret hc
    exact holds_ev prog_ok (allOK_cons ok_laws_szVectorS (allOK_cons ok_laws_szFloat32S (allOK_cons ok_laws_szRodS allOK_nil))) Try.func6 rfl rfl smL_nil rfl (e_laws_szChain real x0 x1 x2 x3 x4)
  · cases hc
def c_laws_toVector (_ : FOps) : Con
  | [V.agg [A.fl .f32 x0, A.fl .f32 x1, A.fl .f32 x2]], [] => some (true, ⟨V.agg [A.fl .f32 x0, A.fl .f32 x1, A.fl .f32 x2], none, []⟩)
  | _, _ => none
theorem e_laws_toVector (F : FOps) (x0 x1 x2 : Int) : evFn (cxS F tyl [] [] [] 0) Try.f9 false [V.agg [A.fl .f32 x0, A.fl .f32 x1, A.fl .f32 x2]] [] = some ⟨V.agg [A.fl .f32 x0, A.fl .f32 x1, A.fl .f32 x2], none, []⟩ := by
  kernel_rfl
theorem ok_laws_toVector : CallOK Try.prog 9 (c_laws_toVector real) := by
  refine callOK_of fun args h ret hc => ?_
  unfold c_laws_toVector at hc
  split at hc
  · rename_i x0 x1 x2
    obtain ⟨_, rfl⟩ := some_ret hc
    exact holds_ev prog_ok allOK_nil Try.func9 rfl rfl smL_nil rfl (e_laws_toVector real x0 x1 x2)
  · cases hc
def Pure.laws_toVectorS_L0 (F : FOps) (y1 : List (List Int)) : Nat → Int → (List (List Int)) → (Bool × (List (List Int)))
  | 0, _, _ => (false, [])
  | n + 1, y0, y2 => bif (decide (y0 < (Int.ofNat y1.length))) then (bif (decide (0 ≤ y0)) then (bif (decide (y0 < (Int.ofNat y1.length))) then (bif (decide (0 ≤ y0)) then (bif (decide (y0 < (Int.ofNat y2.length))) then (Pure.laws_toVectorS_L0 F y1 n (IntKind.wrap .i64 (y0 + 1)) (List.set y2 (Int.toNat y0) [List.getD (List.getD y1 (Int.toNat y0) []) 0 0, List.getD (List.getD y1 (Int.toNat y0) []) 1 0, List.getD (List.getD y1 (Int.toNat y0) []) 2 0])) else ((false, []))) else ((false, []))) else ((false, []))) else ((false, []))) else ((true, y2))
def R_laws_toVectorS_L0 (y1 : List (List Int)) (r : (Bool × (List (List Int)))) : Bool × Ends := ((r).1, (.one Ex.normal [V.at (A.sl 1)] [⟨false, .rows [K.f .f32, K.f .f32, K.f .f32] y1⟩, ⟨true, .rows [K.f .f32, K.f .f32, K.f .f32] (r).2⟩]))
def S_laws_toVectorS_L0 (F : FOps) : Sm := ⟨[0, 3, 4], [22, 31, 3], [3], fun vals hp => match vals, hp with
  | [V.at (A.sl 0), V.at (A.sl 1), V.at (A.int .i64 y0)], [⟨false, .rows [K.f .f32, K.f .f32, K.f .f32] y1⟩, ⟨true, .rows [K.f .f32, K.f .f32, K.f .f32] y2⟩] => some (R_laws_toVectorS_L0 y1 (Pure.laws_toVectorS_L0 F y1 ((Int.ofNat y1.length) - y0 + 1).toNat y0 y2))
  | _, _ => none⟩
theorem l_laws_toVectorS_L0 (F : FOps) (y1 : List (List Int)) : ∀ (fuel : Nat) (y0 : Int) (y2 : List (List Int)), (Pure.laws_toVectorS_L0 F y1 fuel y0 y2).1 = true → loopOf (cxS F tyl [(9, c_laws_toVector F)] [] [] 0) 1 23 0 [0, 3, 4] [22, 31, 3] [3] (loopB 0 (codeOf Try.f28)) fuel [V.at (A.sl 0), V.at (A.sl 1), V.at (A.int .i64 y0)] [⟨false, .rows [K.f .f32, K.f .f32, K.f .f32] y1⟩, ⟨true, .rows [K.f .f32, K.f .f32, K.f .f32] y2⟩] = resOf (R_laws_toVectorS_L0 y1 (Pure.laws_toVectorS_L0 F y1 fuel y0 y2)) := by
  intro fuel
  induction fuel with
  | zero => intro y0 y2 h; exact absurd h Bool.false_ne_true
  | succ n ih =>
    intro y0 y2
    have h0 : roundOf (cxS F tyl [(9, c_laws_toVector F)] [] [] 0) 1 23 0 [0, 3, 4] [22, 31, 3] [3] (loopB 0 (codeOf Try.f28)) [V.at (A.sl 0), V.at (A.sl 1), V.at (A.int .i64 y0)] [⟨false, .rows [K.f .f32, K.f .f32, K.f .f32] y1⟩, ⟨true, .rows [K.f .f32, K.f .f32, K.f .f32] y2⟩] = (bif decide (y0 < (Int.ofNat y1.length)) then bif decide (0 ≤ y0) then bif decide (y0 < (Int.ofNat y1.length)) then bif decide (0 ≤ y0) then bif decide (y0 < (Int.ofNat y2.length)) then some (true, (Ex.normal, ([V.at (A.sl 0), V.at (A.sl 1), V.at (A.int .i64 (IntKind.wrap .i64 (y0 + 1)))], [⟨false, .rows [K.f .f32, K.f .f32, K.f .f32] y1⟩, ⟨true, .rows [K.f .f32, K.f .f32, K.f .f32] (List.set y2 (Int.toNat y0) [List.getD (List.getD y1 (Int.toNat y0) []) 0 0, List.getD (List.getD y1 (Int.toNat y0) []) 1 0, List.getD (List.getD y1 (Int.toNat y0) []) 2 0])⟩]))) else none else none else none else none else some (false, (Ex.normal, ([V.at (A.sl 1)], [⟨false, .rows [K.f .f32, K.f .f32, K.f .f32] y1⟩, ⟨true, .rows [K.f .f32, K.f .f32, K.f .f32] y2⟩])))) := by kernel_rfl
    unfold loopOf
    rw [h0]
    unfold Pure.laws_toVectorS_L0
    cases (decide (y0 < (Int.ofNat y1.length))) with
    | true =>
      cases (decide (0 ≤ y0)) with
      | true =>
        cases (decide (y0 < (Int.ofNat y2.length))) with
        | true =>
          exact ih _ _
        | false =>
          intro h; exact absurd h Bool.false_ne_true
      | false =>
        intro h; exact absurd h Bool.false_ne_true
    | false =>
      intro _; rfl
theorem t_laws_toVectorS_L0 : SmTo Try.prog 1 23 (S_laws_toVectorS_L0 real) 0 (.loop (loopB 0 (codeOf Try.f28))) := by
  refine smTo_ev (cl := [(9, c_laws_toVector real)]) (ef := []) (sm := []) (un := 0) prog_ok (allOK_cons ok_laws_toVector allOK_nil) smL_nil ?_
  intro vals hp q r h hq
  unfold S_laws_toVectorS_L0 at h
  dsimp only at h
  split at h
  · rename_i y0 y1 y2
    obtain rfl := Option.some.inj h
    have h1 := hq
    unfold resOf at h1
    rw [chk_some] at h1
    exact ⟨_, (l_laws_toVectorS_L0 real y1 _ y0 y2 h1.1).trans hq⟩
  · cases h
def Pure.laws_toVectorS (F : FOps) (x0 : List (List Int)) : List (List Int) := Prod.snd (Pure.laws_toVectorS_L0 F x0 (Nat.succ (x0.length + 0)) 0 (List.replicate (Int.toNat (Int.ofNat x0.length)) [0, 0, 0]))
def Pure.laws_toVectorS_ok (F : FOps) (x0 : List (List Int)) : Bool := bif (Int.ofNat x0.length) == (Int.ofNat x0.length) then bif decide ((Int.ofNat x0.length) ≤ 1073741824) then Prod.fst (Pure.laws_toVectorS_L0 F x0 (Nat.succ (x0.length + 0)) 0 (List.replicate (Int.toNat (Int.ofNat x0.length)) [0, 0, 0])) else false else false
def c_laws_toVectorS (F : FOps) : Con
  | [V.at (A.sl 0)], [⟨false, .rows [K.f .f32, K.f .f32, K.f .f32] x0⟩] => some (Pure.laws_toVectorS_ok F x0, ⟨V.at (A.sl 1), none, [⟨true, .rows [K.f .f32, K.f .f32, K.f .f32] (Pure.laws_toVectorS F x0)⟩]⟩)
  | _, _ => none
theorem e_laws_toVectorS (F : FOps) (x0 : List (List Int)) : Pure.laws_toVectorS_ok F x0 = true → evFn (cxS F tyl [(9, c_laws_toVector F)] [] [(0, S_laws_toVectorS_L0 F)] 0) Try.f28 false [V.at (A.sl 0)] [⟨false, .rows [K.f .f32, K.f .f32, K.f .f32] x0⟩] = some ⟨V.at (A.sl 1), none, [⟨true, .rows [K.f .f32, K.f .f32, K.f .f32] (Pure.laws_toVectorS F x0)⟩]⟩ := by
  have h0 : evFn (cxS F tyl [(9, c_laws_toVector F)] [] [(0, S_laws_toVectorS_L0 F)] 0) Try.f28 false [V.at (A.sl 0)] [⟨false, .rows [K.f .f32, K.f .f32, K.f .f32] x0⟩] = bif (Int.ofNat x0.length) == (Int.ofNat x0.length) then bif decide ((Int.ofNat x0.length) ≤ 1073741824) then bif Prod.fst (Pure.laws_toVectorS_L0 F x0 (Nat.succ (x0.length + 0)) 0 (List.replicate (Int.toNat (Int.ofNat x0.length)) [0, 0, 0])) then some ⟨V.at (A.sl 1), none, [⟨true, .rows [K.f .f32, K.f .f32, K.f .f32] (Prod.snd (Pure.laws_toVectorS_L0 F x0 (Nat.succ (x0.length + 0)) 0 (List.replicate (Int.toNat (Int.ofNat x0.length)) [0, 0, 0])))⟩]⟩ else none else none else none := by kernel_rfl
  rw [h0]
  unfold Pure.laws_toVectorS Pure.laws_toVectorS_ok
  cases ((Int.ofNat x0.length) == (Int.ofNat x0.length)) with
  | true =>
    cases (decide ((Int.ofNat x0.length) ≤ 1073741824)) with
    | true =>
      cases (Prod.fst (Pure.laws_toVectorS_L0 F x0 (Nat.succ (x0.length + 0)) 0 (List.replicate (Int.toNat (Int.ofNat x0.length)) [0, 0, 0]))) with
      | true =>
        intro _; rfl
      | false =>
        intro h; exact absurd h Bool.false_ne_true
    | false =>
      intro h; exact absurd h Bool.false_ne_true
  | false =>
    intro h; exact absurd h Bool.false_ne_true
theorem ok_laws_toVectorS : CallOK Try.prog 28 (c_laws_toVectorS real) := by
  refine callOK_of fun args h ret hc => ?_
  unfold c_laws_toVectorS at hc
  split at hc
  · rename_i x0
    obtain ⟨hok, rfl⟩ := some_ret hc
    exact holds_ev prog_ok (allOK_cons ok_laws_toVector allOK_nil) Try.func28 rfl rfl (smL_cons (body := .loop (loopB 0 (codeOf Try.f28))) (by kernel_rfl) t_laws_toVectorS_L0 smL_nil) rfl (e_laws_toVectorS real x0 hok)
  · cases hc
def Pure.laws_toFloat32S_L0 (F : FOps) (y1 : List (List Int)) : Nat → Int → (List (List Int)) → (Bool × (List (List Int)))
  | 0, _, _ => (false, [])
  | n + 1, y0, y2 => bif (decide (y0 < (Int.ofNat y1.length))) then (bif (decide (0 ≤ y0)) then (bif (decide (y0 < (Int.ofNat y1.length))) then (bif (decide (0 ≤ y0)) then (bif (decide (y0 < (Int.ofNat y2.length))) then (Pure.laws_toFloat32S_L0 F y1 n (IntKind.wrap .i64 (y0 + 1)) (List.set y2 (Int.toNat y0) [List.getD (List.getD y1 (Int.toNat y0) []) 0 0])) else ((false, []))) else ((false, []))) else ((false, []))) else ((false, []))) else ((true, y2))
def R_laws_toFloat32S_L0 (y1 : List (List Int)) (r : (Bool × (List (List Int)))) : Bool × Ends := ((r).1, (.one Ex.normal [V.at (A.sl 1)] [⟨false, .rows [K.f .f32] y1⟩, ⟨true, .rows [K.f .f32] (r).2⟩]))
def S_laws_toFloat32S_L0 (F : FOps) : Sm := ⟨[0, 3, 4], [23, 23, 3], [3], fun vals hp => match vals, hp with
  | [V.at (A.sl 0), V.at (A.sl 1), V.at (A.int .i64 y0)], [⟨false, .rows [K.f .f32] y1⟩, ⟨true, .rows [K.f .f32] y2⟩] => some (R_laws_toFloat32S_L0 y1 (Pure.laws_toFloat32S_L0 F y1 ((Int.ofNat y1.length) - y0 + 1).toNat y0 y2))
  | _, _ => none⟩
theorem l_laws_toFloat32S_L0 (F : FOps) (y1 : List (List Int)) : ∀ (fuel : Nat) (y0 : Int) (y2 : List (List Int)), (Pure.laws_toFloat32S_L0 F y1 fuel y0 y2).1 = true → loopOf (cxS F tyl [] [] [] 0) 1 22 0 [0, 3, 4] [23, 23, 3] [3] (loopB 0 (codeOf Try.f29)) fuel [V.at (A.sl 0), V.at (A.sl 1), V.at (A.int .i64 y0)] [⟨false, .rows [K.f .f32] y1⟩, ⟨true, .rows [K.f .f32] y2⟩] = resOf (R_laws_toFloat32S_L0 y1 (Pure.laws_toFloat32S_L0 F y1 fuel y0 y2)) := by
  intro fuel
  induction fuel with
  | zero => intro y0 y2 h; exact absurd h Bool.false_ne_true
  | succ n ih =>
    intro y0 y2
    have h0 : roundOf (cxS F tyl [] [] [] 0) 1 22 0 [0, 3, 4] [23, 23, 3] [3] (loopB 0 (codeOf Try.f29)) [V.at (A.sl 0), V.at (A.sl 1), V.at (A.int .i64 y0)] [⟨false, .rows [K.f .f32] y1⟩, ⟨true, .rows [K.f .f32] y2⟩] = (bif decide (y0 < (Int.ofNat y1.length)) then bif decide (0 ≤ y0) then bif decide (y0 < (Int.ofNat y1.length)) then bif decide (0 ≤ y0) then bif decide (y0 < (Int.ofNat y2.length)) then some (true, (Ex.normal, ([V.at (A.sl 0), V.at (A.sl 1), V.at (A.int .i64 (IntKind.wrap .i64 (y0 + 1)))], [⟨false, .rows [K.f .f32] y1⟩, ⟨true, .rows [K.f .f32] (List.set y2 (Int.toNat y0) [List.getD (List.getD y1 (Int.toNat y0) []) 0 0])⟩]))) else none else none else none else none else some (false, (Ex.normal, ([V.at (A.sl 1)], [⟨false, .rows [K.f .f32] y1⟩, ⟨true, .rows [K.f .f32] y2⟩])))) := by kernel_rfl
    unfold loopOf
    rw [h0]
    unfold Pure.laws_toFloat32S_L0
    cases (decide (y0 < (Int.ofNat y1.length))) with
    | true =>
      cases (decide (0 ≤ y0)) with
      | true =>
        cases (decide (y0 < (Int.ofNat y2.length))) with
        | true =>
          exact ih _ _
        | false =>
          intro h; exact absurd h Bool.false_ne_true
      | false =>
        intro h; exact absurd h Bool.false_ne_true
    | false =>
      intro _; rfl
theorem t_laws_toFloat32S_L0 : SmTo Try.prog 1 22 (S_laws_toFloat32S_L0 real) 0 (.loop (loopB 0 (codeOf Try.f29))) := by
  refine smTo_ev (cl := []) (ef := []) (sm := []) (un := 0) prog_ok allOK_nil smL_nil ?_
  intro vals hp q r h hq
  unfold S_laws_toFloat32S_L0 at h
  dsimp only at h
  split at h
  · rename_i y0 y1 y2
    obtain rfl := Option.some.inj h
    have h1 := hq
    unfold resOf at h1
    rw [chk_some] at h1
    exact ⟨_, (l_laws_toFloat32S_L0 real y1 _ y0 y2 h1.1).trans hq⟩
  · cases h
def Pure.laws_toFloat32S (F : FOps) (x0 : List (List Int)) : List (List Int) := Prod.snd (Pure.laws_toFloat32S_L0 F x0 (Nat.succ (x0.length + 0)) 0 (List.replicate (Int.toNat (Int.ofNat x0.length)) [0]))
def Pure.laws_toFloat32S_ok (F : FOps) (x0 : List (List Int)) : Bool := bif (Int.ofNat x0.length) == (Int.ofNat x0.length) then bif decide ((Int.ofNat x0.length) ≤ 1073741824) then Prod.fst (Pure.laws_toFloat32S_L0 F x0 (Nat.succ (x0.length + 0)) 0 (List.replicate (Int.toNat (Int.ofNat x0.length)) [0])) else false else false
def c_laws_toFloat32S (F : FOps) : Con
  | [V.at (A.sl 0)], [⟨false, .rows [K.f .f32] x0⟩] => some (Pure.laws_toFloat32S_ok F x0, ⟨V.at (A.sl 1), none, [⟨true, .rows [K.f .f32] (Pure.laws_toFloat32S F x0)⟩]⟩)
  | _, _ => none
theorem e_laws_toFloat32S (F : FOps) (x0 : List (List Int)) : Pure.laws_toFloat32S_ok F x0 = true → evFn (cxS F tyl [] [] [(0, S_laws_toFloat32S_L0 F)] 0) Try.f29 false [V.at (A.sl 0)] [⟨false, .rows [K.f .f32] x0⟩] = some ⟨V.at (A.sl 1), none, [⟨true, .rows [K.f .f32] (Pure.laws_toFloat32S F x0)⟩]⟩ := by
  have h0 : evFn (cxS F tyl [] [] [(0, S_laws_toFloat32S_L0 F)] 0) Try.f29 false [V.at (A.sl 0)] [⟨false, .rows [K.f .f32] x0⟩] = bif (Int.ofNat x0.length) == (Int.ofNat x0.length) then bif decide ((Int.ofNat x0.length) ≤ 1073741824) then bif Prod.fst (Pure.laws_toFloat32S_L0 F x0 (Nat.succ (x0.length + 0)) 0 (List.replicate (Int.toNat (Int.ofNat x0.length)) [0])) then some ⟨V.at (A.sl 1), none, [⟨true, .rows [K.f .f32] (Prod.snd (Pure.laws_toFloat32S_L0 F x0 (Nat.succ (x0.length + 0)) 0 (List.replicate (Int.toNat (Int.ofNat x0.length)) [0])))⟩]⟩ else none else none else none := by kernel_rfl
  rw [h0]
  unfold Pure.laws_toFloat32S Pure.laws_toFloat32S_ok
  cases ((Int.ofNat x0.length) == (Int.ofNat x0.length)) with
  | true =>
    cases (decide ((Int.ofNat x0.length) ≤ 1073741824)) with
    | true =>
      cases (Prod.fst (Pure.laws_toFloat32S_L0 F x0 (Nat.succ (x0.length + 0)) 0 (List.replicate (Int.toNat (Int.ofNat x0.length)) [0]))) with
      | true =>
        intro _; rfl
      | false =>
        intro h; exact absurd h Bool.false_ne_true
    | false =>
      intro h; exact absurd h Bool.false_ne_true
  | false =>
    intro h; exact absurd h Bool.false_ne_true
theorem ok_laws_toFloat32S : CallOK Try.prog 29 (c_laws_toFloat32S real) := by
  refine callOK_of fun args h ret hc => ?_
  unfold c_laws_toFloat32S at hc
  split at hc
  · rename_i x0
    obtain ⟨hok, rfl⟩ := some_ret hc
    exact holds_ev prog_ok allOK_nil Try.func29 rfl rfl (smL_cons (body := .loop (loopB 0 (codeOf Try.f29))) (by kernel_rfl) t_laws_toFloat32S_L0 smL_nil) rfl (e_laws_toFloat32S real x0 hok)
  · cases hc
def c_laws_toRod (_ : FOps) : Con
  | [V.agg [A.int .i64 x0, A.int .i64 x1, A.fl .f32 x2]], [] => some (true, ⟨V.agg [A.int .i64 x0, A.int .i64 x1, A.fl .f32 x2], none, []⟩)
  | _, _ => none
theorem e_laws_toRod (F : FOps) (x0 x1 x2 : Int) : evFn (cxS F tyl [] [] [] 0) Try.f60 false [V.agg [A.int .i64 x0, A.int .i64 x1, A.fl .f32 x2]] [] = some ⟨V.agg [A.int .i64 x0, A.int .i64 x1, A.fl .f32 x2], none, []⟩ := by
  kernel_rfl
theorem ok_laws_toRod : CallOK Try.prog 60 (c_laws_toRod real) := by
  refine callOK_of fun args h ret hc => ?_
  unfold c_laws_toRod at hc
  split at hc
  · rename_i x0 x1 x2
    obtain ⟨_, rfl⟩ := some_ret hc
    exact holds_ev prog_ok allOK_nil Try.func60 rfl rfl smL_nil rfl (e_laws_toRod real x0 x1 x2)
  · cases hc
def Pure.laws_toRodS_L0 (F : FOps) (y1 : List (List Int)) : Nat → Int → (List (List Int)) → (Bool × (List (List Int)))
  | 0, _, _ => (false, [])
  | n + 1, y0, y2 => bif (decide (y0 < (Int.ofNat y1.length))) then (bif (decide (0 ≤ y0)) then (bif (decide (y0 < (Int.ofNat y1.length))) then (bif (decide (0 ≤ y0)) then (bif (decide (y0 < (Int.ofNat y2.length))) then (Pure.laws_toRodS_L0 F y1 n (IntKind.wrap .i64 (y0 + 1)) (List.set y2 (Int.toNat y0) [List.getD (List.getD y1 (Int.toNat y0) []) 0 0, List.getD (List.getD y1 (Int.toNat y0) []) 1 0, List.getD (List.getD y1 (Int.toNat y0) []) 2 0])) else ((false, []))) else ((false, []))) else ((false, []))) else ((false, []))) else ((true, y2))
def R_laws_toRodS_L0 (y1 : List (List Int)) (r : (Bool × (List (List Int)))) : Bool × Ends := ((r).1, (.one Ex.normal [V.at (A.sl 1)] [⟨false, .rows [K.i .i64, K.i .i64, K.f .f32] y1⟩, ⟨true, .rows [K.i .i64, K.i .i64, K.f .f32] (r).2⟩]))
def S_laws_toRodS_L0 (F : FOps) : Sm := ⟨[0, 3, 4], [24, 32, 3], [3], fun vals hp => match vals, hp with
  | [V.at (A.sl 0), V.at (A.sl 1), V.at (A.int .i64 y0)], [⟨false, .rows [K.i .i64, K.i .i64, K.f .f32] y1⟩, ⟨true, .rows [K.i .i64, K.i .i64, K.f .f32] y2⟩] => some (R_laws_toRodS_L0 y1 (Pure.laws_toRodS_L0 F y1 ((Int.ofNat y1.length) - y0 + 1).toNat y0 y2))
  | _, _ => none⟩
theorem l_laws_toRodS_L0 (F : FOps) (y1 : List (List Int)) : ∀ (fuel : Nat) (y0 : Int) (y2 : List (List Int)), (Pure.laws_toRodS_L0 F y1 fuel y0 y2).1 = true → loopOf (cxS F tyl [(60, c_laws_toRod F)] [] [] 0) 1 23 0 [0, 3, 4] [24, 32, 3] [3] (loopB 0 (codeOf Try.f30)) fuel [V.at (A.sl 0), V.at (A.sl 1), V.at (A.int .i64 y0)] [⟨false, .rows [K.i .i64, K.i .i64, K.f .f32] y1⟩, ⟨true, .rows [K.i .i64, K.i .i64, K.f .f32] y2⟩] = resOf (R_laws_toRodS_L0 y1 (Pure.laws_toRodS_L0 F y1 fuel y0 y2)) := by
  intro fuel
  induction fuel with
  | zero => intro y0 y2 h; exact absurd h Bool.false_ne_true
  | succ n ih =>
    intro y0 y2
    have h0 : roundOf (cxS F tyl [(60, c_laws_toRod F)] [] [] 0) 1 23 0 [0, 3, 4] [24, 32, 3] [3] (loopB 0 (codeOf Try.f30)) [V.at (A.sl 0), V.at (A.sl 1), V.at (A.int .i64 y0)] [⟨false, .rows [K.i .i64, K.i .i64, K.f .f32] y1⟩, ⟨true, .rows [K.i .i64, K.i .i64, K.f .f32] y2⟩] = (bif decide (y0 < (Int.ofNat y1.length)) then bif decide (0 ≤ y0) then bif decide (y0 < (Int.ofNat y1.length)) then bif decide (0 ≤ y0) then bif decide (y0 < (Int.ofNat y2.length)) then some (true, (Ex.normal, ([V.at (A.sl 0), V.at (A.sl 1), V.at (A.int .i64 (IntKind.wrap .i64 (y0 + 1)))], [⟨false, .rows [K.i .i64, K.i .i64, K.f .f32] y1⟩, ⟨true, .rows [K.i .i64, K.i .i64, K.f .f32] (List.set y2 (Int.toNat y0) [List.getD (List.getD y1 (Int.toNat y0) []) 0 0, List.getD (List.getD y1 (Int.toNat y0) []) 1 0, List.getD (List.getD y1 (Int.toNat y0) []) 2 0])⟩]))) else none else none else none else none else some (false, (Ex.normal, ([V.at (A.sl 1)], [⟨false, .rows [K.i .i64, K.i .i64, K.f .f32] y1⟩, ⟨true, .rows [K.i .i64, K.i .i64, K.f .f32] y2⟩])))) := by kernel_rfl
    unfold loopOf
    rw [h0]
    unfold Pure.laws_toRodS_L0
    cases (decide (y0 < (Int.ofNat y1.length))) with
    | true =>
      cases (decide (0 ≤ y0)) with
      | true =>
        cases (decide (y0 < (Int.ofNat y2.length))) with
        | true =>
          exact ih _ _
        | false =>
          intro h; exact absurd h Bool.false_ne_true
      | false =>
        intro h; exact absurd h Bool.false_ne_true
    | false =>
      intro _; rfl
theorem t_laws_toRodS_L0 : SmTo Try.prog 1 23 (S_laws_toRodS_L0 real) 0 (.loop (loopB 0 (codeOf Try.f30))) := by
  refine smTo_ev (cl := [(60, c_laws_toRod real)]) (ef := []) (sm := []) (un := 0) prog_ok (allOK_cons ok_laws_toRod allOK_nil) smL_nil ?_
  intro vals hp q r h hq
  unfold S_laws_toRodS_L0 at h
  dsimp only at h
  split at h
  · rename_i y0 y1 y2
    obtain rfl := Option.some.inj h
    have h1 := hq
    unfold resOf at h1
    rw [chk_some] at h1
    exact ⟨_, (l_laws_toRodS_L0 real y1 _ y0 y2 h1.1).trans hq⟩
  · cases h
def Pure.laws_toRodS (F : FOps) (x0 : List (List Int)) : List (List Int) := Prod.snd (Pure.laws_toRodS_L0 F x0 (Nat.succ (x0.length + 0)) 0 (List.replicate (Int.toNat (Int.ofNat x0.length)) [0, 0, 0]))
def Pure.laws_toRodS_ok (F : FOps) (x0 : List (List Int)) : Bool := bif (Int.ofNat x0.length) == (Int.ofNat x0.length) then bif decide ((Int.ofNat x0.length) ≤ 1073741824) then Prod.fst (Pure.laws_toRodS_L0 F x0 (Nat.succ (x0.length + 0)) 0 (List.replicate (Int.toNat (Int.ofNat x0.length)) [0, 0, 0])) else false else false
def c_laws_toRodS (F : FOps) : Con
  | [V.at (A.sl 0)], [⟨false, .rows [K.i .i64, K.i .i64, K.f .f32] x0⟩] => some (Pure.laws_toRodS_ok F x0, ⟨V.at (A.sl 1), none, [⟨true, .rows [K.i .i64, K.i .i64, K.f .f32] (Pure.laws_toRodS F x0)⟩]⟩)
  | _, _ => none
theorem e_laws_toRodS (F : FOps) (x0 : List (List Int)) : Pure.laws_toRodS_ok F x0 = true → evFn (cxS F tyl [(60, c_laws_toRod F)] [] [(0, S_laws_toRodS_L0 F)] 0) Try.f30 false [V.at (A.sl 0)] [⟨false, .rows [K.i .i64, K.i .i64, K.f .f32] x0⟩] = some ⟨V.at (A.sl 1), none, [⟨true, .rows [K.i .i64, K.i .i64, K.f .f32] (Pure.laws_toRodS F x0)⟩]⟩ := by
  have h0 : evFn (cxS F tyl [(60, c_laws_toRod F)] [] [(0, S_laws_toRodS_L0 F)] 0) Try.f30 false [V.at (A.sl 0)] [⟨false, .rows [K.i .i64, K.i .i64, K.f .f32] x0⟩] = bif (Int.ofNat x0.length) == (Int.ofNat x0.length) then bif decide ((Int.ofNat x0.length) ≤ 1073741824) then bif Prod.fst (Pure.laws_toRodS_L0 F x0 (Nat.succ (x0.length + 0)) 0 (List.replicate (Int.toNat (Int.ofNat x0.length)) [0, 0, 0])) then some ⟨V.at (A.sl 1), none, [⟨true, .rows [K.i .i64, K.i .i64, K.f .f32] (Prod.snd (Pure.laws_toRodS_L0 F x0 (Nat.succ (x0.length + 0)) 0 (List.replicate (Int.toNat (Int.ofNat x0.length)) [0, 0, 0])))⟩]⟩ else none else none else none := by kernel_rfl
  rw [h0]
  unfold Pure.laws_toRodS Pure.laws_toRodS_ok
  cases ((Int.ofNat x0.length) == (Int.ofNat x0.length)) with
  | true =>
    cases (decide ((Int.ofNat x0.length) ≤ 1073741824)) with
    | true =>
      cases (Prod.fst (Pure.laws_toRodS_L0 F x0 (Nat.succ (x0.length + 0)) 0 (List.replicate (Int.toNat (Int.ofNat x0.length)) [0, 0, 0]))) with
      | true =>
        intro _; rfl
      | false =>
        intro h; exact absurd h Bool.false_ne_true
    | false =>
      intro h; exact absurd h Bool.false_ne_true
  | false =>
    intro h; exact absurd h Bool.false_ne_true
theorem ok_laws_toRodS : CallOK Try.prog 30 (c_laws_toRodS real) := by
  refine callOK_of fun args h ret hc => ?_
  unfold c_laws_toRodS at hc
  split at hc
  · rename_i x0
    obtain ⟨hok, rfl⟩ := some_ret hc
    exact holds_ev prog_ok (allOK_cons ok_laws_toRod allOK_nil) Try.func30 rfl rfl (smL_cons (body := .loop (loopB 0 (codeOf Try.f30))) (by kernel_rfl) t_laws_toRodS_L0 smL_nil) rfl (e_laws_toRodS real x0 hok)
  · cases hc
def Pure.laws_toChain_ok (F : FOps) (x0 x1 x2 x3 : List (List Int)) : Bool := bif Pure.laws_toVectorS_ok F x0 then bif Pure.laws_toVectorS_ok F x1 then bif Pure.laws_toFloat32S_ok F x2 then Pure.laws_toRodS_ok F x3 else false else false else false
def c_laws_toChain (F : FOps) : Con
  | [V.agg [A.sl 0, A.sl 1, A.sl 2, A.sl 3]], [⟨false, .rows [K.f .f32, K.f .f32, K.f .f32] x0⟩, ⟨false, .rows [K.f .f32, K.f .f32, K.f .f32] x1⟩, ⟨false, .rows [K.f .f32] x2⟩, ⟨false, .rows [K.i .i64, K.i .i64, K.f .f32] x3⟩] => some (Pure.laws_toChain_ok F x0 x1 x2 x3, ⟨V.agg [A.sl 4, A.sl 5, A.sl 6, A.sl 7], none, [⟨true, .rows [K.f .f32, K.f .f32, K.f .f32] (Pure.laws_toVectorS F x0)⟩, ⟨true, .rows [K.f .f32, K.f .f32, K.f .f32] (Pure.laws_toVectorS F x1)⟩, ⟨true, .rows [K.f .f32] (Pure.laws_toFloat32S F x2)⟩, ⟨true, .rows [K.i .i64, K.i .i64, K.f .f32] (Pure.laws_toRodS F x3)⟩]⟩)
  | _, _ => none
theorem e_laws_toChain (F : FOps) (x0 x1 x2 x3 : List (List Int)) : Pure.laws_toChain_ok F x0 x1 x2 x3 = true → evFn (cxS F tyl [(28, c_laws_toVectorS F), (29, c_laws_toFloat32S F), (30, c_laws_toRodS F)] [] [] 0) Try.f8 false [V.agg [A.sl 0, A.sl 1, A.sl 2, A.sl 3]] [⟨false, .rows [K.f .f32, K.f .f32, K.f .f32] x0⟩, ⟨false, .rows [K.f .f32, K.f .f32, K.f .f32] x1⟩, ⟨false, .rows [K.f .f32] x2⟩, ⟨false, .rows [K.i .i64, K.i .i64, K.f .f32] x3⟩] = some ⟨V.agg [A.sl 4, A.sl 5, A.sl 6, A.sl 7], none, [⟨true, .rows [K.f .f32, K.f .f32, K.f .f32] (Pure.laws_toVectorS F x0)⟩, ⟨true, .rows [K.f .f32, K.f .f32, K.f .f32] (Pure.laws_toVectorS F x1)⟩, ⟨true, .rows [K.f .f32] (Pure.laws_toFloat32S F x2)⟩, ⟨true, .rows [K.i .i64, K.i .i64, K.f .f32] (Pure.laws_toRodS F x3)⟩]⟩ := by
  have h0 : evFn (cxS F tyl [(28, c_laws_toVectorS F), (29, c_laws_toFloat32S F), (30, c_laws_toRodS F)] [] [] 0) Try.f8 false [V.agg [A.sl 0, A.sl 1, A.sl 2, A.sl 3]] [⟨false, .rows [K.f .f32, K.f .f32, K.f .f32] x0⟩, ⟨false, .rows [K.f .f32, K.f .f32, K.f .f32] x1⟩, ⟨false, .rows [K.f .f32] x2⟩, ⟨false, .rows [K.i .i64, K.i .i64, K.f .f32] x3⟩] = bif Pure.laws_toVectorS_ok F x0 then bif Pure.laws_toVectorS_ok F x1 then bif Pure.laws_toFloat32S_ok F x2 then bif Pure.laws_toRodS_ok F x3 then some ⟨V.agg [A.sl 4, A.sl 5, A.sl 6, A.sl 7], none, [⟨true, .rows [K.f .f32, K.f .f32, K.f .f32] (Pure.laws_toVectorS F x0)⟩, ⟨true, .rows [K.f .f32, K.f .f32, K.f .f32] (Pure.laws_toVectorS F x1)⟩, ⟨true, .rows [K.f .f32] (Pure.laws_toFloat32S F x2)⟩, ⟨true, .rows [K.i .i64, K.i .i64, K.f .f32] (Pure.laws_toRodS F x3)⟩]⟩ else none else none else none else none := by kernel_rfl
  rw [h0]
  unfold Pure.laws_toChain_ok
  cases (Pure.laws_toVectorS_ok F x0) with
  | true =>
    cases (Pure.laws_toVectorS_ok F x1) with
    | true =>
      cases (Pure.laws_toFloat32S_ok F x2) with
      | true =>
        cases (Pure.laws_toRodS_ok F x3) with
        | true =>
          intro _; rfl
        | false =>
          intro h; exact absurd h Bool.false_ne_true
      | false =>
        intro h; exact absurd h Bool.false_ne_true
    | false =>
      intro h; exact absurd h Bool.false_ne_true
  | false =>
    intro h; exact absurd h Bool.false_ne_true
theorem ok_laws_toChain : CallOK Try.prog 8 (c_laws_toChain real) := by
  refine callOK_of fun args h ret hc => ?_
  unfold c_laws_toChain at hc
  split at hc
  · rename_i x0 x1 x2 x3
    obtain ⟨hok, rfl⟩ := some_ret hc
    exact holds_ev prog_ok (allOK_cons ok_laws_toVectorS (allOK_cons ok_laws_toFloat32S (allOK_cons ok_laws_toRodS allOK_nil))) Try.func8 rfl rfl smL_nil rfl (e_laws_toChain real x0 x1 x2 x3 hok)
  · cases hc
def Pure.spec_l03Above (F : FOps) (x0 : Int) : Bool := bif Pure.spec_l01Finite F x0 then F.cmp .gtr .f32 x0 0 else false
def c_spec_l03Above (F : FOps) : Con
  | [V.at (A.fl .f32 x0)], [] => some (true, ⟨V.at (A.bool (Pure.spec_l03Above F x0)), none, []⟩)
  | _, _ => none
theorem e_spec_l03Above (F : FOps) (x0 : Int) : evFn (cxS F tyl [(69, c_spec_l01Finite F)] [] [] 0) Try.f56 false [V.at (A.fl .f32 x0)] [] = some ⟨V.at (A.bool (Pure.spec_l03Above F x0)), none, []⟩ := by
  have h0 : evFn (cxS F tyl [(69, c_spec_l01Finite F)] [] [] 0) Try.f56 false [V.at (A.fl .f32 x0)] [] = bif Pure.spec_l01Finite F x0 then some ⟨V.at (A.bool (F.cmp .gtr .f32 x0 0)), none, []⟩ else some ⟨V.at (A.bool false), none, []⟩ := by kernel_rfl
  rw [h0]
  unfold Pure.spec_l03Above
  cases (Pure.spec_l01Finite F x0) with
  | true =>
    rfl
  | false =>
    rfl
theorem ok_spec_l03Above : CallOK Try.prog 56 (c_spec_l03Above real) := by
  refine callOK_of fun args h ret hc => ?_
  unfold c_spec_l03Above at hc
  split at hc
  · rename_i x0
    obtain ⟨_, rfl⟩ := some_ret hc
    exact holds_ev prog_ok (allOK_cons ok_spec_l01Finite allOK_nil) Try.func56 rfl rfl smL_nil rfl (e_spec_l03Above real x0)
  · cases hc
def Pure.spec_l03Air (F : FOps) (x0 x1 x2 x3 x4 : Int) : Bool := bif Pure.spec_l01VFinite F x0 x1 x2 then bif F.cmp .geq .f32 x3 0 then bif F.cmp .leq .f32 x3 1065353216 then Pure.spec_l03Above F x4 else false else false else false
def c_spec_l03Air (F : FOps) : Con
  | [V.agg [A.fl .f32 x0, A.fl .f32 x1, A.fl .f32 x2], V.at (A.fl .f32 x3), V.at (A.fl .f32 x4)], [] => some (true, ⟨V.at (A.bool (Pure.spec_l03Air F x0 x1 x2 x3 x4)), none, []⟩)
  | _, _ => none
theorem e_spec_l03Air (F : FOps) (x0 x1 x2 x3 x4 : Int) : evFn (cxS F tyl [(42, c_spec_l01VFinite F), (56, c_spec_l03Above F)] [] [] 0) Try.f25 false [V.agg [A.fl .f32 x0, A.fl .f32 x1, A.fl .f32 x2], V.at (A.fl .f32 x3), V.at (A.fl .f32 x4)] [] = some ⟨V.at (A.bool (Pure.spec_l03Air F x0 x1 x2 x3 x4)), none, []⟩ := by
  have h0 : evFn (cxS F tyl [(42, c_spec_l01VFinite F), (56, c_spec_l03Above F)] [] [] 0) Try.f25 false [V.agg [A.fl .f32 x0, A.fl .f32 x1, A.fl .f32 x2], V.at (A.fl .f32 x3), V.at (A.fl .f32 x4)] [] = bif Pure.spec_l01VFinite F x0 x1 x2 then bif F.cmp .geq .f32 x3 0 then bif F.cmp .leq .f32 x3 1065353216 then some ⟨V.at (A.bool (Pure.spec_l03Above F x4)), none, []⟩ else some ⟨V.at (A.bool false), none, []⟩ else some ⟨V.at (A.bool false), none, []⟩ else some ⟨V.at (A.bool false), none, []⟩ := by kernel_rfl
  rw [h0]
  unfold Pure.spec_l03Air
  cases (Pure.spec_l01VFinite F x0 x1 x2) with
  | true =>
    cases (F.cmp .geq .f32 x3 0) with
    | true =>
      cases (F.cmp .leq .f32 x3 1065353216) with
      | true =>
        rfl
      | false =>
        rfl
    | false =>
      rfl
  | false =>
    rfl
theorem ok_spec_l03Air : CallOK Try.prog 25 (c_spec_l03Air real) := by
  refine callOK_of fun args h ret hc => ?_
  unfold c_spec_l03Air at hc
  split at hc
  · rename_i x0 x1 x2 x3 x4
    obtain ⟨_, rfl⟩ := some_ret hc
    exact holds_ev prog_ok (allOK_cons ok_spec_l01VFinite (allOK_cons ok_spec_l03Above allOK_nil)) Try.func25 rfl rfl smL_nil rfl (e_spec_l03Air real x0 x1 x2 x3 x4)
  · cases hc
def c_spec_l03Rounds (F : FOps) : Con
  | [V.at (A.int .i64 x0)], [] => some (true, ⟨V.at (A.bool (Pure.spec_l00In F x0 0 20)), none, []⟩)
  | _, _ => none
theorem e_spec_l03Rounds (F : FOps) (x0 : Int) : evFn (cxS F tyl [(43, c_spec_l00In F)] [] [] 0) Try.f26 false [V.at (A.int .i64 x0)] [] = some ⟨V.at (A.bool (Pure.spec_l00In F x0 0 20)), none, []⟩ := by
  kernel_rfl
theorem ok_spec_l03Rounds : CallOK Try.prog 26 (c_spec_l03Rounds real) := by
  refine callOK_of fun args h ret hc => ?_
  unfold c_spec_l03Rounds at hc
  split at hc
  · rename_i x0
    obtain ⟨_, rfl⟩ := some_ret hc
    exact holds_ev prog_ok (allOK_cons ok_spec_l00In allOK_nil) Try.func26 rfl rfl smL_nil rfl (e_spec_l03Rounds real x0)
  · cases hc
def Pure.spec_l03Own_ok (F : FOps) (x0 x1 x2 x3 : List (List Int)) : Bool := bif decide (x0.length ≤ 1073741824) then bif decide (x1.length ≤ 1073741824) then bif decide (x2.length ≤ 1073741824) then decide (x3.length ≤ 1073741824) else false else false else false
def c_spec_l03Own (F : FOps) : Con
  | [V.at (A.ptr 0 0 0)], [⟨false, .box [A.sl 1, A.sl 2, A.sl 3, A.sl 4]⟩, ⟨false, .rows [K.f .f32, K.f .f32, K.f .f32] x0⟩, ⟨false, .rows [K.f .f32, K.f .f32, K.f .f32] x1⟩, ⟨false, .rows [K.f .f32] x2⟩, ⟨false, .rows [K.i .i64, K.i .i64, K.f .f32] x3⟩] => some (Pure.spec_l03Own_ok F x0 x1 x2 x3, ⟨V.agg [A.sl 5, A.sl 6, A.sl 7, A.sl 8], none, [⟨true, .rows [K.f .f32, K.f .f32, K.f .f32] x0⟩, ⟨true, .rows [K.f .f32, K.f .f32, K.f .f32] x1⟩, ⟨true, .rows [K.f .f32] x2⟩, ⟨true, .rows [K.i .i64, K.i .i64, K.f .f32] x3⟩]⟩)
  | _, _ => none
theorem e_spec_l03Own (F : FOps) (x0 x1 x2 x3 : List (List Int)) : Pure.spec_l03Own_ok F x0 x1 x2 x3 = true → evFn (cxS F tyl [] [] [] 0) Try.f44 false [V.at (A.ptr 0 0 0)] [⟨false, .box [A.sl 1, A.sl 2, A.sl 3, A.sl 4]⟩, ⟨false, .rows [K.f .f32, K.f .f32, K.f .f32] x0⟩, ⟨false, .rows [K.f .f32, K.f .f32, K.f .f32] x1⟩, ⟨false, .rows [K.f .f32] x2⟩, ⟨false, .rows [K.i .i64, K.i .i64, K.f .f32] x3⟩] = some ⟨V.agg [A.sl 5, A.sl 6, A.sl 7, A.sl 8], none, [⟨true, .rows [K.f .f32, K.f .f32, K.f .f32] x0⟩, ⟨true, .rows [K.f .f32, K.f .f32, K.f .f32] x1⟩, ⟨true, .rows [K.f .f32] x2⟩, ⟨true, .rows [K.i .i64, K.i .i64, K.f .f32] x3⟩]⟩ := by
  have h0 : evFn (cxS F tyl [] [] [] 0) Try.f44 false [V.at (A.ptr 0 0 0)] [⟨false, .box [A.sl 1, A.sl 2, A.sl 3, A.sl 4]⟩, ⟨false, .rows [K.f .f32, K.f .f32, K.f .f32] x0⟩, ⟨false, .rows [K.f .f32, K.f .f32, K.f .f32] x1⟩, ⟨false, .rows [K.f .f32] x2⟩, ⟨false, .rows [K.i .i64, K.i .i64, K.f .f32] x3⟩] = bif decide (x0.length ≤ 1073741824) then bif decide (x1.length ≤ 1073741824) then bif decide (x2.length ≤ 1073741824) then bif decide (x3.length ≤ 1073741824) then some ⟨V.agg [A.sl 5, A.sl 6, A.sl 7, A.sl 8], none, [⟨true, .rows [K.f .f32, K.f .f32, K.f .f32] x0⟩, ⟨true, .rows [K.f .f32, K.f .f32, K.f .f32] x1⟩, ⟨true, .rows [K.f .f32] x2⟩, ⟨true, .rows [K.i .i64, K.i .i64, K.f .f32] x3⟩]⟩ else none else none else none else none := by kernel_rfl
  rw [h0]
  unfold Pure.spec_l03Own_ok
  cases (decide (x0.length ≤ 1073741824)) with
  | true =>
    cases (decide (x1.length ≤ 1073741824)) with
    | true =>
      cases (decide (x2.length ≤ 1073741824)) with
      | true =>
        cases (decide (x3.length ≤ 1073741824)) with
        | true =>
          intro _; rfl
        | false =>
          intro h; exact absurd h Bool.false_ne_true
      | false =>
        intro h; exact absurd h Bool.false_ne_true
    | false =>
      intro h; exact absurd h Bool.false_ne_true
  | false =>
    intro h; exact absurd h Bool.false_ne_true
theorem ok_spec_l03Own : CallOK Try.prog 44 (c_spec_l03Own real) := by
  refine callOK_of fun args h ret hc => ?_
  unfold c_spec_l03Own at hc
  split at hc
  · rename_i x0 x1 x2 x3
    obtain ⟨hok, rfl⟩ := some_ret hc
    exact holds_ev prog_ok allOK_nil Try.func44 rfl rfl smL_nil rfl (e_spec_l03Own real x0 x1 x2 x3 hok)
  · cases hc
def Pure.spec_l01Less (F : FOps) (x0 x1 x2 x3 x4 x5 : Int) : Int := F.bin .sub .f32 x0 x3
def Pure.spec_l01Less_1 (F : FOps) (x0 x1 x2 x3 x4 x5 : Int) : Int := F.bin .sub .f32 x1 x4
def Pure.spec_l01Less_2 (F : FOps) (x0 x1 x2 x3 x4 x5 : Int) : Int := F.bin .sub .f32 x2 x5
def c_spec_l01Less (F : FOps) : Con
  | [V.agg [A.fl .f32 x0, A.fl .f32 x1, A.fl .f32 x2], V.agg [A.fl .f32 x3, A.fl .f32 x4, A.fl .f32 x5]], [] => some (true, ⟨V.agg [A.fl .f32 (Pure.spec_l01Less F x0 x1 x2 x3 x4 x5), A.fl .f32 (Pure.spec_l01Less_1 F x0 x1 x2 x3 x4 x5), A.fl .f32 (Pure.spec_l01Less_2 F x0 x1 x2 x3 x4 x5)], none, []⟩)
  | _, _ => none
theorem e_spec_l01Less (F : FOps) (x0 x1 x2 x3 x4 x5 : Int) : evFn (cxS F tyl [] [] [] 0) Try.f71 false [V.agg [A.fl .f32 x0, A.fl .f32 x1, A.fl .f32 x2], V.agg [A.fl .f32 x3, A.fl .f32 x4, A.fl .f32 x5]] [] = some ⟨V.agg [A.fl .f32 (Pure.spec_l01Less F x0 x1 x2 x3 x4 x5), A.fl .f32 (Pure.spec_l01Less_1 F x0 x1 x2 x3 x4 x5), A.fl .f32 (Pure.spec_l01Less_2 F x0 x1 x2 x3 x4 x5)], none, []⟩ := by
  kernel_rfl
theorem ok_spec_l01Less : CallOK Try.prog 71 (c_spec_l01Less real) := by
  refine callOK_of fun args h ret hc => ?_
  unfold c_spec_l01Less at hc
  split at hc
  · rename_i x0 x1 x2 x3 x4 x5
    obtain ⟨_, rfl⟩ := some_ret hc
    exact holds_ev prog_ok allOK_nil Try.func71 rfl rfl smL_nil rfl (e_spec_l01Less real x0 x1 x2 x3 x4 x5)
  · cases hc
def Pure.spec_l01Scale (F : FOps) (x0 x1 x2 x3 : Int) : Int := F.bin .mul .f32 x0 x3
def Pure.spec_l01Scale_1 (F : FOps) (x0 x1 x2 x3 : Int) : Int := F.bin .mul .f32 x1 x3
def Pure.spec_l01Scale_2 (F : FOps) (x0 x1 x2 x3 : Int) : Int := F.bin .mul .f32 x2 x3
def c_spec_l01Scale (F : FOps) : Con
  | [V.agg [A.fl .f32 x0, A.fl .f32 x1, A.fl .f32 x2], V.at (A.fl .f32 x3)], [] => some (true, ⟨V.agg [A.fl .f32 (Pure.spec_l01Scale F x0 x1 x2 x3), A.fl .f32 (Pure.spec_l01Scale_1 F x0 x1 x2 x3), A.fl .f32 (Pure.spec_l01Scale_2 F x0 x1 x2 x3)], none, []⟩)
  | _, _ => none
theorem e_spec_l01Scale (F : FOps) (x0 x1 x2 x3 : Int) : evFn (cxS F tyl [] [] [] 0) Try.f75 false [V.agg [A.fl .f32 x0, A.fl .f32 x1, A.fl .f32 x2], V.at (A.fl .f32 x3)] [] = some ⟨V.agg [A.fl .f32 (Pure.spec_l01Scale F x0 x1 x2 x3), A.fl .f32 (Pure.spec_l01Scale_1 F x0 x1 x2 x3), A.fl .f32 (Pure.spec_l01Scale_2 F x0 x1 x2 x3)], none, []⟩ := by
  kernel_rfl
theorem ok_spec_l01Scale : CallOK Try.prog 75 (c_spec_l01Scale real) := by
  refine callOK_of fun args h ret hc => ?_
  unfold c_spec_l01Scale at hc
  split at hc
  · rename_i x0 x1 x2 x3
    obtain ⟨_, rfl⟩ := some_ret hc
    exact holds_ev prog_ok allOK_nil Try.func75 rfl rfl smL_nil rfl (e_spec_l01Scale real x0 x1 x2 x3)
  · cases hc
def Pure.spec_l01Add (F : FOps) (x0 x1 x2 x3 x4 x5 : Int) : Int := F.bin .add .f32 x0 x3
def Pure.spec_l01Add_1 (F : FOps) (x0 x1 x2 x3 x4 x5 : Int) : Int := F.bin .add .f32 x1 x4
def Pure.spec_l01Add_2 (F : FOps) (x0 x1 x2 x3 x4 x5 : Int) : Int := F.bin .add .f32 x2 x5
def c_spec_l01Add (F : FOps) : Con
  | [V.agg [A.fl .f32 x0, A.fl .f32 x1, A.fl .f32 x2], V.agg [A.fl .f32 x3, A.fl .f32 x4, A.fl .f32 x5]], [] => some (true, ⟨V.agg [A.fl .f32 (Pure.spec_l01Add F x0 x1 x2 x3 x4 x5), A.fl .f32 (Pure.spec_l01Add_1 F x0 x1 x2 x3 x4 x5), A.fl .f32 (Pure.spec_l01Add_2 F x0 x1 x2 x3 x4 x5)], none, []⟩)
  | _, _ => none
theorem e_spec_l01Add (F : FOps) (x0 x1 x2 x3 x4 x5 : Int) : evFn (cxS F tyl [] [] [] 0) Try.f78 false [V.agg [A.fl .f32 x0, A.fl .f32 x1, A.fl .f32 x2], V.agg [A.fl .f32 x3, A.fl .f32 x4, A.fl .f32 x5]] [] = some ⟨V.agg [A.fl .f32 (Pure.spec_l01Add F x0 x1 x2 x3 x4 x5), A.fl .f32 (Pure.spec_l01Add_1 F x0 x1 x2 x3 x4 x5), A.fl .f32 (Pure.spec_l01Add_2 F x0 x1 x2 x3 x4 x5)], none, []⟩ := by
  kernel_rfl
theorem ok_spec_l01Add : CallOK Try.prog 78 (c_spec_l01Add real) := by
  refine callOK_of fun args h ret hc => ?_
  unfold c_spec_l01Add at hc
  split at hc
  · rename_i x0 x1 x2 x3 x4 x5
    obtain ⟨_, rfl⟩ := some_ret hc
    exact holds_ev prog_ok allOK_nil Try.func78 rfl rfl smL_nil rfl (e_spec_l01Add real x0 x1 x2 x3 x4 x5)
  · cases hc
end Go.Fx
