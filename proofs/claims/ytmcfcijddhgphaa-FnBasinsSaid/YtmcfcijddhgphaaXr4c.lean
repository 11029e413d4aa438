import Derived.Test.YtmcfcijddhgphaaXr4b2
import Derived.KernelRfl
namespace Go.Fx
open Go.Proofs
set_option maxRecDepth 100000
def c_math_archFloor (F : FOps) : Con
  | [V.at (A.fl .f64 x)], [] => some (true, ⟨V.at (A.fl .f64 (F.integral .down x)), none, []⟩)
  | _, _ => none
theorem ok_math_archFloor : CallOK Try.prog 90 (c_math_archFloor real) := by
  refine callOK_of fun args h ret hc => ?_
  unfold c_math_archFloor at hc
  split at hc
  · rename_i x
    obtain ⟨_, rfl⟩ := some_ret hc
    exact ext_integral (nm := "math.archFloor") Try.func90 rfl rfl (by kernel_rfl) (by kernel_rfl) x
  · cases hc
def Pure.math_IsNaN (F : FOps) (x0 : Int) : Bool := F.cmp .neq .f64 x0 x0
def c_math_IsNaN (F : FOps) : Con
  | [V.at (A.fl .f64 x0)], [] => some (true, ⟨V.at (A.bool (Pure.math_IsNaN F x0)), none, []⟩)
  | _, _ => none
theorem e_math_IsNaN (F : FOps) (x0 : Int) : evFn (cxS F tyl [] [] [] 0) Try.f116 false [V.at (A.fl .f64 x0)] [] = some ⟨V.at (A.bool (Pure.math_IsNaN F x0)), none, []⟩ := by
  kernel_rfl
theorem ok_math_IsNaN : CallOK Try.prog 116 (c_math_IsNaN real) := by
  refine callOK_of fun args h ret hc => ?_
  unfold c_math_IsNaN at hc
  split at hc
  · rename_i x0
    obtain ⟨_, rfl⟩ := some_ret hc
    exact holds_ev prog_ok allOK_nil Try.func116 rfl rfl smL_nil rfl (e_math_IsNaN real x0)
  · cases hc
def Pure.math_IsInf (F : FOps) (x0 x1 : Int) : Bool := bif x1 == 0 then F.cmp .gtr .f64 (F.abs .f64 x0) 9218868437227405311 else bif decide (x1 < 0) then F.cmp .gtr .f64 (F.neg .f64 x0) 9218868437227405311 else F.cmp .gtr .f64 x0 9218868437227405311
def c_math_IsInf (F : FOps) : Con
  | [V.at (A.fl .f64 x0), V.at (A.int .i64 x1)], [] => some (true, ⟨V.at (A.bool (Pure.math_IsInf F x0 x1)), none, []⟩)
  | _, _ => none
theorem e_math_IsInf (F : FOps) (x0 x1 : Int) : evFn (cxS F tyl [(127, c_math_Abs F)] [] [] 0) Try.f117 false [V.at (A.fl .f64 x0), V.at (A.int .i64 x1)] [] = some ⟨V.at (A.bool (Pure.math_IsInf F x0 x1)), none, []⟩ := by
  have h0 : evFn (cxS F tyl [(127, c_math_Abs F)] [] [] 0) Try.f117 false [V.at (A.fl .f64 x0), V.at (A.int .i64 x1)] [] = bif x1 == 0 then some ⟨V.at (A.bool (F.cmp .gtr .f64 (F.abs .f64 x0) 9218868437227405311)), none, []⟩ else bif decide (x1 < 0) then some ⟨V.at (A.bool (F.cmp .gtr .f64 (F.neg .f64 x0) 9218868437227405311)), none, []⟩ else some ⟨V.at (A.bool (F.cmp .gtr .f64 x0 9218868437227405311)), none, []⟩ := by kernel_rfl
  rw [h0]
  unfold Pure.math_IsInf
  cases (x1 == 0) with
  | true =>
    rfl
  | false =>
    cases (decide (x1 < 0)) with
    | true =>
      rfl
    | false =>
      rfl
theorem ok_math_IsInf : CallOK Try.prog 117 (c_math_IsInf real) := by
  refine callOK_of fun args h ret hc => ?_
  unfold c_math_IsInf at hc
  split at hc
  · rename_i x0 x1
    obtain ⟨_, rfl⟩ := some_ret hc
    exact holds_ev prog_ok (allOK_cons ok_math_Abs allOK_nil) Try.func117 rfl rfl smL_nil rfl (e_math_IsInf real x0 x1)
  · cases hc
def Pure.math_floor_ok (F : FOps) (x0 : Int) : Bool := bif F.cmp .eql .f64 x0 0 then true else bif Pure.math_IsNaN F x0 then true else Pure.math_IsInf F x0 0
def c_math_floor (F : FOps) : Con
  | [V.at (A.fl .f64 x0)], [] => some (Pure.math_floor_ok F x0, ⟨V.at (A.fl .f64 x0), none, []⟩)
  | _, _ => none
theorem e_math_floor (F : FOps) (x0 : Int) : Pure.math_floor_ok F x0 = true → evFn (cxS F tyl [(116, c_math_IsNaN F), (117, c_math_IsInf F)] [] [] 0) Try.f91 false [V.at (A.fl .f64 x0)] [] = some ⟨V.at (A.fl .f64 x0), none, []⟩ := by
  have h0 : evFn (cxS F tyl [(116, c_math_IsNaN F), (117, c_math_IsInf F)] [] [] 0) Try.f91 false [V.at (A.fl .f64 x0)] [] = bif F.cmp .eql .f64 x0 0 then some ⟨V.at (A.fl .f64 x0), none, []⟩ else bif Pure.math_IsNaN F x0 then some ⟨V.at (A.fl .f64 x0), none, []⟩ else bif Pure.math_IsInf F x0 0 then some ⟨V.at (A.fl .f64 x0), none, []⟩ else bif F.cmp .lss .f64 x0 0 then none else none := by kernel_rfl
  rw [h0]
  unfold Pure.math_floor_ok
  cases (F.cmp .eql .f64 x0 0) with
  | true =>
    intro _; rfl
  | false =>
    cases (Pure.math_IsNaN F x0) with
    | true =>
      intro _; rfl
    | false =>
      cases (Pure.math_IsInf F x0 0) with
      | true =>
        intro _; rfl
      | false =>
        cases (F.cmp .lss .f64 x0 0) with
        | true =>
          intro h; exact absurd h Bool.false_ne_true
        | false =>
          intro h; exact absurd h Bool.false_ne_true
theorem ok_math_floor : CallOK Try.prog 91 (c_math_floor real) := by
  refine callOK_of fun args h ret hc => ?_
  unfold c_math_floor at hc
  split at hc
  · rename_i x0
    obtain ⟨hok, rfl⟩ := some_ret hc
    exact holds_ev prog_ok (allOK_cons ok_math_IsNaN (allOK_cons ok_math_IsInf allOK_nil)) Try.func91 rfl rfl smL_nil rfl (e_math_floor real x0 hok)
  · cases hc
def c_math_Floor (F : FOps) : Con
  | [V.at (A.fl .f64 x0)], [] => some (true, ⟨V.at (A.fl .f64 (F.integral Ieee.Toward.down x0)), none, []⟩)
  | _, _ => none
theorem e_math_Floor (F : FOps) (x0 : Int) : evFn (cxS F tyl [(90, c_math_archFloor F), (91, c_math_floor F)] [] [] 0) Try.f48 false [V.at (A.fl .f64 x0)] [] = some ⟨V.at (A.fl .f64 (F.integral Ieee.Toward.down x0)), none, []⟩ := by
  kernel_rfl
theorem ok_math_Floor : CallOK Try.prog 48 (c_math_Floor real) := by
  refine callOK_of fun args h ret hc => ?_
  unfold c_math_Floor at hc
  split at hc
  · rename_i x0
    obtain ⟨_, rfl⟩ := some_ret hc
    exact holds_ev prog_ok (allOK_cons ok_math_archFloor (allOK_cons ok_math_floor allOK_nil)) Try.func48 rfl rfl smL_nil rfl (e_math_Floor real x0)
  · cases hc
def Pure.spec_l07Kick (F : FOps) (x0 : Int) : Int := bif F.cmp .geq .f32 (Pure.spec_l01Narrow F (F.bin .sub .f64 (F.conv .f32 .f64 x0) (F.integral Ieee.Toward.down (F.bin .add .f64 (F.conv .f32 .f64 x0) 4602678819172646912)))) 1056964608 then 3204448256 else bif F.cmp .eql .f32 (Pure.spec_l01Narrow F (F.bin .sub .f64 (F.conv .f32 .f64 x0) (F.integral Ieee.Toward.down (F.bin .add .f64 (F.conv .f32 .f64 x0) 4602678819172646912)))) 0 then 0 else Pure.spec_l01Narrow F (F.bin .sub .f64 (F.conv .f32 .f64 x0) (F.integral Ieee.Toward.down (F.bin .add .f64 (F.conv .f32 .f64 x0) 4602678819172646912)))
def Pure.spec_l07Kick_ok (F : FOps) (x0 : Int) : Bool := bif F.convOk .f32 .f64 x0 then Pure.spec_l01Narrow_ok F (F.bin .sub .f64 (F.conv .f32 .f64 x0) (F.integral Ieee.Toward.down (F.bin .add .f64 (F.conv .f32 .f64 x0) 4602678819172646912))) else false
def Pure.spec_l05Wrap (F : FOps) (x0 : Int) : Int := bif F.cmp .eql .f32 (Pure.spec_l01Narrow F (F.bin .sub .f64 (F.conv .f32 .f64 x0) (F.integral Ieee.Toward.down (F.conv .f32 .f64 x0)))) 0 then 0 else bif F.cmp .geq .f32 (Pure.spec_l01Narrow F (F.bin .sub .f64 (F.conv .f32 .f64 x0) (F.integral Ieee.Toward.down (F.conv .f32 .f64 x0)))) 1065353216 then 0 else Pure.spec_l01Narrow F (F.bin .sub .f64 (F.conv .f32 .f64 x0) (F.integral Ieee.Toward.down (F.conv .f32 .f64 x0)))
def Pure.spec_l05Wrap_ok (F : FOps) (x0 : Int) : Bool := bif F.convOk .f32 .f64 x0 then Pure.spec_l01Narrow_ok F (F.bin .sub .f64 (F.conv .f32 .f64 x0) (F.integral Ieee.Toward.down (F.conv .f32 .f64 x0))) else false
def Pure.impl_ValidState (F : FOps) (x0 x1 : Int) : Bool := bif F.cmp .geq .f32 x0 0 then bif F.cmp .lss .f32 x0 1065353216 then bif F.cmp .geq .f32 x1 3204448256 then F.cmp .lss .f32 x1 1056964608 else false else false else false
def c_impl_ValidState (F : FOps) : Con
  | [V.agg [A.fl .f32 x0, A.fl .f32 x1]], [] => some (true, ⟨V.at (A.bool (Pure.impl_ValidState F x0 x1)), none, []⟩)
  | _, _ => none
theorem e_impl_ValidState (F : FOps) (x0 x1 : Int) : evFn (cxS F tyl [] [] [] 0) Try.f64 false [V.agg [A.fl .f32 x0, A.fl .f32 x1]] [] = some ⟨V.at (A.bool (Pure.impl_ValidState F x0 x1)), none, []⟩ := by
  have h0 : evFn (cxS F tyl [] [] [] 0) Try.f64 false [V.agg [A.fl .f32 x0, A.fl .f32 x1]] [] = bif F.cmp .geq .f32 x0 0 then bif F.cmp .lss .f32 x0 1065353216 then bif F.cmp .geq .f32 x1 3204448256 then some ⟨V.at (A.bool (F.cmp .lss .f32 x1 1056964608)), none, []⟩ else some ⟨V.at (A.bool false), none, []⟩ else some ⟨V.at (A.bool false), none, []⟩ else some ⟨V.at (A.bool false), none, []⟩ := by kernel_rfl
  rw [h0]
  unfold Pure.impl_ValidState
  cases (F.cmp .geq .f32 x0 0) with
  | true =>
    cases (F.cmp .lss .f32 x0 1065353216) with
    | true =>
      cases (F.cmp .geq .f32 x1 3204448256) with
      | true =>
        rfl
      | false =>
        rfl
    | false =>
      rfl
  | false =>
    rfl
theorem ok_impl_ValidState : CallOK Try.prog 64 (c_impl_ValidState real) := by
  refine callOK_of fun args h ret hc => ?_
  unfold c_impl_ValidState at hc
  split at hc
  · rename_i x0 x1
    obtain ⟨_, rfl⟩ := some_ret hc
    exact holds_ev prog_ok allOK_nil Try.func64 rfl rfl smL_nil rfl (e_impl_ValidState real x0 x1)
  · cases hc
def Pure.impl_sizeOk (F : FOps) (x0 : Int) : Bool := bif F.cmp .geq .f32 x0 3229614080 then F.cmp .leq .f32 x0 1082130432 else false
def c_impl_sizeOk (F : FOps) : Con
  | [V.at (A.fl .f32 x0)], [] => some (true, ⟨V.at (A.bool (Pure.impl_sizeOk F x0)), none, []⟩)
  | _, _ => none
theorem e_impl_sizeOk (F : FOps) (x0 : Int) : evFn (cxS F tyl [] [] [] 0) Try.f102 false [V.at (A.fl .f32 x0)] [] = some ⟨V.at (A.bool (Pure.impl_sizeOk F x0)), none, []⟩ := by
  have h0 : evFn (cxS F tyl [] [] [] 0) Try.f102 false [V.at (A.fl .f32 x0)] [] = bif F.cmp .geq .f32 x0 3229614080 then some ⟨V.at (A.bool (F.cmp .leq .f32 x0 1082130432)), none, []⟩ else some ⟨V.at (A.bool false), none, []⟩ := by kernel_rfl
  rw [h0]
  unfold Pure.impl_sizeOk
  cases (F.cmp .geq .f32 x0 3229614080) with
  | true =>
    rfl
  | false =>
    rfl
theorem ok_impl_sizeOk : CallOK Try.prog 102 (c_impl_sizeOk real) := by
  refine callOK_of fun args h ret hc => ?_
  unfold c_impl_sizeOk at hc
  split at hc
  · rename_i x0
    obtain ⟨_, rfl⟩ := some_ret hc
    exact holds_ev prog_ok allOK_nil Try.func102 rfl rfl smL_nil rfl (e_impl_sizeOk real x0)
  · cases hc
end Go.Fx
