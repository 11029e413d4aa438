import Derived.Test.YtnlfpamdcohiiaaXr3s
import Derived.KernelRfl
namespace Go.Fx
open Go.Proofs
set_option maxRecDepth 100000
def c_laws_toState (_ : FOps) : Con
  | [V.agg [A.fl .f32 x0, A.fl .f32 x1]], [] => some (true, ⟨V.agg [A.fl .f32 x0, A.fl .f32 x1], none, []⟩)
  | _, _ => none
theorem e_laws_toState (F : FOps) (x0 x1 : Int) : evFn (cxS F tyl [] [] [] 0) Try.f16 false [V.agg [A.fl .f32 x0, A.fl .f32 x1]] [] = some ⟨V.agg [A.fl .f32 x0, A.fl .f32 x1], none, []⟩ := by
  kernel_rfl
theorem ok_laws_toState : CallOK Try.prog 16 (c_laws_toState real) := by
  refine callOK_of fun args h ret hc => ?_
  unfold c_laws_toState at hc
  split at hc
  · rename_i x0 x1
    obtain ⟨_, rfl⟩ := some_ret hc
    exact holds_ev prog_ok allOK_nil Try.func16 rfl rfl smL_nil rfl (e_laws_toState real x0 x1)
  · cases hc
def Pure.spec_l07Is (F : FOps) (x0 x1 : Int) : Bool := bif F.cmp .geq .f32 x0 0 then bif F.cmp .lss .f32 x0 1065353216 then bif F.cmp .geq .f32 x1 3204448256 then F.cmp .lss .f32 x1 1056964608 else false else false else false
def c_spec_l07Is (F : FOps) : Con
  | [V.agg [A.fl .f32 x0, A.fl .f32 x1]], [] => some (true, ⟨V.at (A.bool (Pure.spec_l07Is F x0 x1)), none, []⟩)
  | _, _ => none
theorem e_spec_l07Is (F : FOps) (x0 x1 : Int) : evFn (cxS F tyl [] [] [] 0) Try.f51 false [V.agg [A.fl .f32 x0, A.fl .f32 x1]] [] = some ⟨V.at (A.bool (Pure.spec_l07Is F x0 x1)), none, []⟩ := by
  have h0 : evFn (cxS F tyl [] [] [] 0) Try.f51 false [V.agg [A.fl .f32 x0, A.fl .f32 x1]] [] = bif F.cmp .geq .f32 x0 0 then bif F.cmp .lss .f32 x0 1065353216 then bif F.cmp .geq .f32 x1 3204448256 then some ⟨V.at (A.bool (F.cmp .lss .f32 x1 1056964608)), none, []⟩ else some ⟨V.at (A.bool false), none, []⟩ else some ⟨V.at (A.bool false), none, []⟩ else some ⟨V.at (A.bool false), none, []⟩ := by kernel_rfl
  rw [h0]
  unfold Pure.spec_l07Is
  cases (F.cmp .geq .f32 x0 0) with
  | true =>
    cases (F.cmp .lss .f32 x0 1065353216) with
    | true =>
      cases (F.cmp .geq .f32 x1 3204448256) with
      | true =>
        rfl
      | false =>
        rfl
    | false =>
      rfl
  | false =>
    rfl
theorem ok_spec_l07Is : CallOK Try.prog 51 (c_spec_l07Is real) := by
  refine callOK_of fun args h ret hc => ?_
  unfold c_spec_l07Is at hc
  split at hc
  · rename_i x0 x1
    obtain ⟨_, rfl⟩ := some_ret hc
    exact holds_ev prog_ok allOK_nil Try.func51 rfl rfl smL_nil rfl (e_spec_l07Is real x0 x1)
  · cases hc
def Pure.spec_l07Size (F : FOps) (x0 : Int) : Bool := bif F.cmp .geq .f32 x0 3229614080 then F.cmp .leq .f32 x0 1082130432 else false
def c_spec_l07Size (F : FOps) : Con
  | [V.at (A.fl .f32 x0)], [] => some (true, ⟨V.at (A.bool (Pure.spec_l07Size F x0)), none, []⟩)
  | _, _ => none
theorem e_spec_l07Size (F : FOps) (x0 : Int) : evFn (cxS F tyl [] [] [] 0) Try.f57 false [V.at (A.fl .f32 x0)] [] = some ⟨V.at (A.bool (Pure.spec_l07Size F x0)), none, []⟩ := by
  have h0 : evFn (cxS F tyl [] [] [] 0) Try.f57 false [V.at (A.fl .f32 x0)] [] = bif F.cmp .geq .f32 x0 3229614080 then some ⟨V.at (A.bool (F.cmp .leq .f32 x0 1082130432)), none, []⟩ else some ⟨V.at (A.bool false), none, []⟩ := by kernel_rfl
  rw [h0]
  unfold Pure.spec_l07Size
  cases (F.cmp .geq .f32 x0 3229614080) with
  | true =>
    rfl
  | false =>
    rfl
theorem ok_spec_l07Size : CallOK Try.prog 57 (c_spec_l07Size real) := by
  refine callOK_of fun args h ret hc => ?_
  unfold c_spec_l07Size at hc
  split at hc
  · rename_i x0
    obtain ⟨_, rfl⟩ := some_ret hc
    exact holds_ev prog_ok allOK_nil Try.func57 rfl rfl smL_nil rfl (e_spec_l07Size real x0)
  · cases hc
def Pure.spec_l00In (F : FOps) (x0 x1 x2 : Int) : Bool := bif decide (x0 ≥ x1) then decide (x0 ≤ x2) else false
def c_spec_l00In (F : FOps) : Con
  | [V.at (A.int .i64 x0), V.at (A.int .i64 x1), V.at (A.int .i64 x2)], [] => some (true, ⟨V.at (A.bool (Pure.spec_l00In F x0 x1 x2)), none, []⟩)
  | _, _ => none
theorem e_spec_l00In (F : FOps) (x0 x1 x2 : Int) : evFn (cxS F tyl [] [] [] 0) Try.f78 false [V.at (A.int .i64 x0), V.at (A.int .i64 x1), V.at (A.int .i64 x2)] [] = some ⟨V.at (A.bool (Pure.spec_l00In F x0 x1 x2)), none, []⟩ := by
  have h0 : evFn (cxS F tyl [] [] [] 0) Try.f78 false [V.at (A.int .i64 x0), V.at (A.int .i64 x1), V.at (A.int .i64 x2)] [] = bif decide (x0 ≥ x1) then some ⟨V.at (A.bool (decide (x0 ≤ x2))), none, []⟩ else some ⟨V.at (A.bool false), none, []⟩ := by kernel_rfl
  rw [h0]
  unfold Pure.spec_l00In
  cases (decide (x0 ≥ x1)) with
  | true =>
    rfl
  | false =>
    rfl
theorem ok_spec_l00In : CallOK Try.prog 78 (c_spec_l00In real) := by
  refine callOK_of fun args h ret hc => ?_
  unfold c_spec_l00In at hc
  split at hc
  · rename_i x0 x1 x2
    obtain ⟨_, rfl⟩ := some_ret hc
    exact holds_ev prog_ok allOK_nil Try.func78 rfl rfl smL_nil rfl (e_spec_l00In real x0 x1 x2)
  · cases hc
def c_spec_l07Count (F : FOps) : Con
  | [V.at (A.int .i64 x0), V.at (A.int .i64 x1)], [] => some (true, ⟨V.at (A.bool (Pure.spec_l00In F x0 x1 128)), none, []⟩)
  | _, _ => none
theorem e_spec_l07Count (F : FOps) (x0 x1 : Int) : evFn (cxS F tyl [(78, c_spec_l00In F)] [] [] 0) Try.f74 false [V.at (A.int .i64 x0), V.at (A.int .i64 x1)] [] = some ⟨V.at (A.bool (Pure.spec_l00In F x0 x1 128)), none, []⟩ := by
  kernel_rfl
theorem ok_spec_l07Count : CallOK Try.prog 74 (c_spec_l07Count real) := by
  refine callOK_of fun args h ret hc => ?_
  unfold c_spec_l07Count at hc
  split at hc
  · rename_i x0 x1
    obtain ⟨_, rfl⟩ := some_ret hc
    exact holds_ev prog_ok (allOK_cons ok_spec_l00In allOK_nil) Try.func74 rfl rfl smL_nil rfl (e_spec_l07Count real x0 x1)
  · cases hc
def c_math_archFloor (F : FOps) : Con
  | [V.at (A.fl .f64 x)], [] => some (true, ⟨V.at (A.fl .f64 (F.integral .down x)), none, []⟩)
  | _, _ => none
theorem ok_math_archFloor : CallOK Try.prog 101 (c_math_archFloor real) := by
  refine callOK_of fun args h ret hc => ?_
  unfold c_math_archFloor at hc
  split at hc
  · rename_i x
    obtain ⟨_, rfl⟩ := some_ret hc
    exact ext_integral (nm := "math.archFloor") Try.func101 rfl rfl (by kernel_rfl) (by kernel_rfl) x
  · cases hc
def Pure.math_IsNaN (F : FOps) (x0 : Int) : Bool := F.cmp .neq .f64 x0 x0
def c_math_IsNaN (F : FOps) : Con
  | [V.at (A.fl .f64 x0)], [] => some (true, ⟨V.at (A.bool (Pure.math_IsNaN F x0)), none, []⟩)
  | _, _ => none
theorem e_math_IsNaN (F : FOps) (x0 : Int) : evFn (cxS F tyl [] [] [] 0) Try.f110 false [V.at (A.fl .f64 x0)] [] = some ⟨V.at (A.bool (Pure.math_IsNaN F x0)), none, []⟩ := by
  kernel_rfl
theorem ok_math_IsNaN : CallOK Try.prog 110 (c_math_IsNaN real) := by
  refine callOK_of fun args h ret hc => ?_
  unfold c_math_IsNaN at hc
  split at hc
  · rename_i x0
    obtain ⟨_, rfl⟩ := some_ret hc
    exact holds_ev prog_ok allOK_nil Try.func110 rfl rfl smL_nil rfl (e_math_IsNaN real x0)
  · cases hc
def Pure.math_IsInf (F : FOps) (x0 x1 : Int) : Bool := bif x1 == 0 then F.cmp .gtr .f64 (F.abs .f64 x0) 9218868437227405311 else bif decide (x1 < 0) then F.cmp .gtr .f64 (F.neg .f64 x0) 9218868437227405311 else F.cmp .gtr .f64 x0 9218868437227405311
def c_math_IsInf (F : FOps) : Con
  | [V.at (A.fl .f64 x0), V.at (A.int .i64 x1)], [] => some (true, ⟨V.at (A.bool (Pure.math_IsInf F x0 x1)), none, []⟩)
  | _, _ => none
theorem e_math_IsInf (F : FOps) (x0 x1 : Int) : evFn (cxS F tyl [(97, c_math_Abs F)] [] [] 0) Try.f111 false [V.at (A.fl .f64 x0), V.at (A.int .i64 x1)] [] = some ⟨V.at (A.bool (Pure.math_IsInf F x0 x1)), none, []⟩ := by
  have h0 : evFn (cxS F tyl [(97, c_math_Abs F)] [] [] 0) Try.f111 false [V.at (A.fl .f64 x0), V.at (A.int .i64 x1)] [] = bif x1 == 0 then some ⟨V.at (A.bool (F.cmp .gtr .f64 (F.abs .f64 x0) 9218868437227405311)), none, []⟩ else bif decide (x1 < 0) then some ⟨V.at (A.bool (F.cmp .gtr .f64 (F.neg .f64 x0) 9218868437227405311)), none, []⟩ else some ⟨V.at (A.bool (F.cmp .gtr .f64 x0 9218868437227405311)), none, []⟩ := by kernel_rfl
  rw [h0]
  unfold Pure.math_IsInf
  cases (x1 == 0) with
  | true =>
    rfl
  | false =>
    cases (decide (x1 < 0)) with
    | true =>
      rfl
    | false =>
      rfl
theorem ok_math_IsInf : CallOK Try.prog 111 (c_math_IsInf real) := by
  refine callOK_of fun args h ret hc => ?_
  unfold c_math_IsInf at hc
  split at hc
  · rename_i x0 x1
    obtain ⟨_, rfl⟩ := some_ret hc
    exact holds_ev prog_ok (allOK_cons ok_math_Abs allOK_nil) Try.func111 rfl rfl smL_nil rfl (e_math_IsInf real x0 x1)
  · cases hc
def Pure.math_floor_ok (F : FOps) (x0 : Int) : Bool := bif F.cmp .eql .f64 x0 0 then true else bif Pure.math_IsNaN F x0 then true else Pure.math_IsInf F x0 0
def c_math_floor (F : FOps) : Con
  | [V.at (A.fl .f64 x0)], [] => some (Pure.math_floor_ok F x0, ⟨V.at (A.fl .f64 x0), none, []⟩)
  | _, _ => none
theorem e_math_floor (F : FOps) (x0 : Int) : Pure.math_floor_ok F x0 = true → evFn (cxS F tyl [(110, c_math_IsNaN F), (111, c_math_IsInf F)] [] [] 0) Try.f102 false [V.at (A.fl .f64 x0)] [] = some ⟨V.at (A.fl .f64 x0), none, []⟩ := by
  have h0 : evFn (cxS F tyl [(110, c_math_IsNaN F), (111, c_math_IsInf F)] [] [] 0) Try.f102 false [V.at (A.fl .f64 x0)] [] = bif F.cmp .eql .f64 x0 0 then some ⟨V.at (A.fl .f64 x0), none, []⟩ else bif Pure.math_IsNaN F x0 then some ⟨V.at (A.fl .f64 x0), none, []⟩ else bif Pure.math_IsInf F x0 0 then some ⟨V.at (A.fl .f64 x0), none, []⟩ else bif F.cmp .lss .f64 x0 0 then none else none := by kernel_rfl
  rw [h0]
  unfold Pure.math_floor_ok
  cases (F.cmp .eql .f64 x0 0) with
  | true =>
    intro _; rfl
  | false =>
    cases (Pure.math_IsNaN F x0) with
    | true =>
      intro _; rfl
    | false =>
      cases (Pure.math_IsInf F x0 0) with
      | true =>
        intro _; rfl
      | false =>
        cases (F.cmp .lss .f64 x0 0) with
        | true =>
          intro h; exact absurd h Bool.false_ne_true
        | false =>
          intro h; exact absurd h Bool.false_ne_true
theorem ok_math_floor : CallOK Try.prog 102 (c_math_floor real) := by
  refine callOK_of fun args h ret hc => ?_
  unfold c_math_floor at hc
  split at hc
  · rename_i x0
    obtain ⟨hok, rfl⟩ := some_ret hc
    exact holds_ev prog_ok (allOK_cons ok_math_IsNaN (allOK_cons ok_math_IsInf allOK_nil)) Try.func102 rfl rfl smL_nil rfl (e_math_floor real x0 hok)
  · cases hc
def c_math_Floor (F : FOps) : Con
  | [V.at (A.fl .f64 x0)], [] => some (true, ⟨V.at (A.fl .f64 (F.integral Ieee.Toward.down x0)), none, []⟩)
  | _, _ => none
theorem e_math_Floor (F : FOps) (x0 : Int) : evFn (cxS F tyl [(101, c_math_archFloor F), (102, c_math_floor F)] [] [] 0) Try.f89 false [V.at (A.fl .f64 x0)] [] = some ⟨V.at (A.fl .f64 (F.integral Ieee.Toward.down x0)), none, []⟩ := by
  kernel_rfl
theorem ok_math_Floor : CallOK Try.prog 89 (c_math_Floor real) := by
  refine callOK_of fun args h ret hc => ?_
  unfold c_math_Floor at hc
  split at hc
  · rename_i x0
    obtain ⟨_, rfl⟩ := some_ret hc
    exact holds_ev prog_ok (allOK_cons ok_math_archFloor (allOK_cons ok_math_floor allOK_nil)) Try.func89 rfl rfl smL_nil rfl (e_math_Floor real x0)
  · cases hc
def Pure.spec_l07Kick (F : FOps) (x0 : Int) : Int := bif F.cmp .geq .f32 (Pure.spec_l01Narrow F (F.bin .sub .f64 (F.conv .f32 .f64 x0) (F.integral Ieee.Toward.down (F.bin .add .f64 (F.conv .f32 .f64 x0) 4602678819172646912)))) 1056964608 then 3204448256 else bif F.cmp .eql .f32 (Pure.spec_l01Narrow F (F.bin .sub .f64 (F.conv .f32 .f64 x0) (F.integral Ieee.Toward.down (F.bin .add .f64 (F.conv .f32 .f64 x0) 4602678819172646912)))) 0 then 0 else Pure.spec_l01Narrow F (F.bin .sub .f64 (F.conv .f32 .f64 x0) (F.integral Ieee.Toward.down (F.bin .add .f64 (F.conv .f32 .f64 x0) 4602678819172646912)))
def Pure.spec_l07Kick_ok (F : FOps) (x0 : Int) : Bool := bif F.convOk .f32 .f64 x0 then Pure.spec_l01Narrow_ok F (F.bin .sub .f64 (F.conv .f32 .f64 x0) (F.integral Ieee.Toward.down (F.bin .add .f64 (F.conv .f32 .f64 x0) 4602678819172646912))) else false
def c_spec_l07Kick (F : FOps) : Con
  | [V.at (A.fl .f32 x0)], [] => some (Pure.spec_l07Kick_ok F x0, ⟨V.at (A.fl .f32 (Pure.spec_l07Kick F x0)), none, []⟩)
  | _, _ => none
theorem e_spec_l07Kick (F : FOps) (x0 : Int) : Pure.spec_l07Kick_ok F x0 = true → evFn (cxS F tyl [(89, c_math_Floor F), (88, c_spec_l01Narrow F)] [] [] 0) Try.f53 false [V.at (A.fl .f32 x0)] [] = some ⟨V.at (A.fl .f32 (Pure.spec_l07Kick F x0)), none, []⟩ := by
  have h0 : evFn (cxS F tyl [(89, c_math_Floor F), (88, c_spec_l01Narrow F)] [] [] 0) Try.f53 false [V.at (A.fl .f32 x0)] [] = bif F.convOk .f32 .f64 x0 then bif Pure.spec_l01Narrow_ok F (F.bin .sub .f64 (F.conv .f32 .f64 x0) (F.integral Ieee.Toward.down (F.bin .add .f64 (F.conv .f32 .f64 x0) 4602678819172646912))) then bif F.cmp .geq .f32 (Pure.spec_l01Narrow F (F.bin .sub .f64 (F.conv .f32 .f64 x0) (F.integral Ieee.Toward.down (F.bin .add .f64 (F.conv .f32 .f64 x0) 4602678819172646912)))) 1056964608 then some ⟨V.at (A.fl .f32 3204448256), none, []⟩ else bif F.cmp .eql .f32 (Pure.spec_l01Narrow F (F.bin .sub .f64 (F.conv .f32 .f64 x0) (F.integral Ieee.Toward.down (F.bin .add .f64 (F.conv .f32 .f64 x0) 4602678819172646912)))) 0 then some ⟨V.at (A.fl .f32 0), none, []⟩ else some ⟨V.at (A.fl .f32 (Pure.spec_l01Narrow F (F.bin .sub .f64 (F.conv .f32 .f64 x0) (F.integral Ieee.Toward.down (F.bin .add .f64 (F.conv .f32 .f64 x0) 4602678819172646912))))), none, []⟩ else none else none := by kernel_rfl
  rw [h0]
  unfold Pure.spec_l07Kick Pure.spec_l07Kick_ok
  cases (F.convOk .f32 .f64 x0) with
  | true =>
    cases (Pure.spec_l01Narrow_ok F (F.bin .sub .f64 (F.conv .f32 .f64 x0) (F.integral Ieee.Toward.down (F.bin .add .f64 (F.conv .f32 .f64 x0) 4602678819172646912)))) with
    | true =>
      cases (F.cmp .geq .f32 (Pure.spec_l01Narrow F (F.bin .sub .f64 (F.conv .f32 .f64 x0) (F.integral Ieee.Toward.down (F.bin .add .f64 (F.conv .f32 .f64 x0) 4602678819172646912)))) 1056964608) with
      | true =>
        intro _; rfl
      | false =>
        cases (F.cmp .eql .f32 (Pure.spec_l01Narrow F (F.bin .sub .f64 (F.conv .f32 .f64 x0) (F.integral Ieee.Toward.down (F.bin .add .f64 (F.conv .f32 .f64 x0) 4602678819172646912)))) 0) with
        | true =>
          intro _; rfl
        | false =>
          intro _; rfl
    | false =>
      intro h; exact absurd h Bool.false_ne_true
  | false =>
    intro h; exact absurd h Bool.false_ne_true
theorem ok_spec_l07Kick : CallOK Try.prog 53 (c_spec_l07Kick real) := by
  refine callOK_of fun args h ret hc => ?_
  unfold c_spec_l07Kick at hc
  split at hc
  · rename_i x0
    obtain ⟨hok, rfl⟩ := some_ret hc
    exact holds_ev prog_ok (allOK_cons ok_math_Floor (allOK_cons ok_spec_l01Narrow allOK_nil)) Try.func53 rfl rfl smL_nil rfl (e_spec_l07Kick real x0 hok)
  · cases hc
def Pure.spec_l05Wrap (F : FOps) (x0 : Int) : Int := bif F.cmp .eql .f32 (Pure.spec_l01Narrow F (F.bin .sub .f64 (F.conv .f32 .f64 x0) (F.integral Ieee.Toward.down (F.conv .f32 .f64 x0)))) 0 then 0 else bif F.cmp .geq .f32 (Pure.spec_l01Narrow F (F.bin .sub .f64 (F.conv .f32 .f64 x0) (F.integral Ieee.Toward.down (F.conv .f32 .f64 x0)))) 1065353216 then 0 else Pure.spec_l01Narrow F (F.bin .sub .f64 (F.conv .f32 .f64 x0) (F.integral Ieee.Toward.down (F.conv .f32 .f64 x0)))
def Pure.spec_l05Wrap_ok (F : FOps) (x0 : Int) : Bool := bif F.convOk .f32 .f64 x0 then Pure.spec_l01Narrow_ok F (F.bin .sub .f64 (F.conv .f32 .f64 x0) (F.integral Ieee.Toward.down (F.conv .f32 .f64 x0))) else false
def c_spec_l05Wrap (F : FOps) : Con
  | [V.at (A.fl .f32 x0)], [] => some (Pure.spec_l05Wrap_ok F x0, ⟨V.at (A.fl .f32 (Pure.spec_l05Wrap F x0)), none, []⟩)
  | _, _ => none
theorem e_spec_l05Wrap (F : FOps) (x0 : Int) : Pure.spec_l05Wrap_ok F x0 = true → evFn (cxS F tyl [(89, c_math_Floor F), (88, c_spec_l01Narrow F)] [] [] 0) Try.f52 false [V.at (A.fl .f32 x0)] [] = some ⟨V.at (A.fl .f32 (Pure.spec_l05Wrap F x0)), none, []⟩ := by
  have h0 : evFn (cxS F tyl [(89, c_math_Floor F), (88, c_spec_l01Narrow F)] [] [] 0) Try.f52 false [V.at (A.fl .f32 x0)] [] = bif F.convOk .f32 .f64 x0 then bif Pure.spec_l01Narrow_ok F (F.bin .sub .f64 (F.conv .f32 .f64 x0) (F.integral Ieee.Toward.down (F.conv .f32 .f64 x0))) then bif F.cmp .eql .f32 (Pure.spec_l01Narrow F (F.bin .sub .f64 (F.conv .f32 .f64 x0) (F.integral Ieee.Toward.down (F.conv .f32 .f64 x0)))) 0 then some ⟨V.at (A.fl .f32 0), none, []⟩ else bif F.cmp .geq .f32 (Pure.spec_l01Narrow F (F.bin .sub .f64 (F.conv .f32 .f64 x0) (F.integral Ieee.Toward.down (F.conv .f32 .f64 x0)))) 1065353216 then some ⟨V.at (A.fl .f32 0), none, []⟩ else some ⟨V.at (A.fl .f32 (Pure.spec_l01Narrow F (F.bin .sub .f64 (F.conv .f32 .f64 x0) (F.integral Ieee.Toward.down (F.conv .f32 .f64 x0))))), none, []⟩ else none else none := by kernel_rfl
  rw [h0]
  unfold Pure.spec_l05Wrap Pure.spec_l05Wrap_ok
  cases (F.convOk .f32 .f64 x0) with
  | true =>
    cases (Pure.spec_l01Narrow_ok F (F.bin .sub .f64 (F.conv .f32 .f64 x0) (F.integral Ieee.Toward.down (F.conv .f32 .f64 x0)))) with
    | true =>
      cases (F.cmp .eql .f32 (Pure.spec_l01Narrow F (F.bin .sub .f64 (F.conv .f32 .f64 x0) (F.integral Ieee.Toward.down (F.conv .f32 .f64 x0)))) 0) with
      | true =>
        intro _; rfl
      | false =>
        cases (F.cmp .geq .f32 (Pure.spec_l01Narrow F (F.bin .sub .f64 (F.conv .f32 .f64 x0) (F.integral Ieee.Toward.down (F.conv .f32 .f64 x0)))) 1065353216) with
        | true =>
          intro _; rfl
        | false =>
          intro _; rfl
    | false =>
      intro h; exact absurd h Bool.false_ne_true
  | false =>
    intro h; exact absurd h Bool.false_ne_true
theorem ok_spec_l05Wrap : CallOK Try.prog 52 (c_spec_l05Wrap real) := by
  refine callOK_of fun args h ret hc => ?_
  unfold c_spec_l05Wrap at hc
  split at hc
  · rename_i x0
    obtain ⟨hok, rfl⟩ := some_ret hc
    exact holds_ev prog_ok (allOK_cons ok_math_Floor (allOK_cons ok_spec_l01Narrow allOK_nil)) Try.func52 rfl rfl smL_nil rfl (e_spec_l05Wrap real x0 hok)
  · cases hc
def Pure.spec_l07Map (F : FOps) (x0 x1 x2 : Int) : Int := Pure.spec_l05Wrap F (F.bin .add .f32 x0 (Pure.spec_l07Kick F (F.bin .add .f32 x1 (F.bin .mul .f32 x2 (Pure.spec_l01Sine F x0)))))
def Pure.spec_l07Map_1 (F : FOps) (x0 x1 x2 : Int) : Int := Pure.spec_l07Kick F (F.bin .add .f32 x1 (F.bin .mul .f32 x2 (Pure.spec_l01Sine F x0)))
def Pure.spec_l07Map_ok (F : FOps) (x0 x1 x2 : Int) : Bool := bif Pure.spec_l01Sine_ok F x0 then bif Pure.spec_l07Kick_ok F (F.bin .add .f32 x1 (F.bin .mul .f32 x2 (Pure.spec_l01Sine F x0))) then Pure.spec_l05Wrap_ok F (F.bin .add .f32 x0 (Pure.spec_l07Kick F (F.bin .add .f32 x1 (F.bin .mul .f32 x2 (Pure.spec_l01Sine F x0))))) else false else false
def c_spec_l07Map (F : FOps) : Con
  | [V.agg [A.fl .f32 x0, A.fl .f32 x1], V.at (A.fl .f32 x2)], [] => some (Pure.spec_l07Map_ok F x0 x1 x2, ⟨V.agg [A.fl .f32 (Pure.spec_l07Map F x0 x1 x2), A.fl .f32 (Pure.spec_l07Map_1 F x0 x1 x2)], none, []⟩)
  | _, _ => none
theorem e_spec_l07Map (F : FOps) (x0 x1 x2 : Int) : Pure.spec_l07Map_ok F x0 x1 x2 = true → evFn (cxS F tyl [(62, c_spec_l01Sine F), (53, c_spec_l07Kick F), (52, c_spec_l05Wrap F)] [] [] 0) Try.f64 false [V.agg [A.fl .f32 x0, A.fl .f32 x1], V.at (A.fl .f32 x2)] [] = some ⟨V.agg [A.fl .f32 (Pure.spec_l07Map F x0 x1 x2), A.fl .f32 (Pure.spec_l07Map_1 F x0 x1 x2)], none, []⟩ := by
  have h0 : evFn (cxS F tyl [(62, c_spec_l01Sine F), (53, c_spec_l07Kick F), (52, c_spec_l05Wrap F)] [] [] 0) Try.f64 false [V.agg [A.fl .f32 x0, A.fl .f32 x1], V.at (A.fl .f32 x2)] [] = bif Pure.spec_l01Sine_ok F x0 then bif Pure.spec_l07Kick_ok F (F.bin .add .f32 x1 (F.bin .mul .f32 x2 (Pure.spec_l01Sine F x0))) then bif Pure.spec_l05Wrap_ok F (F.bin .add .f32 x0 (Pure.spec_l07Kick F (F.bin .add .f32 x1 (F.bin .mul .f32 x2 (Pure.spec_l01Sine F x0))))) then some ⟨V.agg [A.fl .f32 (Pure.spec_l05Wrap F (F.bin .add .f32 x0 (Pure.spec_l07Kick F (F.bin .add .f32 x1 (F.bin .mul .f32 x2 (Pure.spec_l01Sine F x0)))))), A.fl .f32 (Pure.spec_l07Kick F (F.bin .add .f32 x1 (F.bin .mul .f32 x2 (Pure.spec_l01Sine F x0))))], none, []⟩ else none else none else none := by kernel_rfl
  rw [h0]
  unfold Pure.spec_l07Map Pure.spec_l07Map_1 Pure.spec_l07Map_ok
  cases (Pure.spec_l01Sine_ok F x0) with
  | true =>
    cases (Pure.spec_l07Kick_ok F (F.bin .add .f32 x1 (F.bin .mul .f32 x2 (Pure.spec_l01Sine F x0)))) with
    | true =>
      cases (Pure.spec_l05Wrap_ok F (F.bin .add .f32 x0 (Pure.spec_l07Kick F (F.bin .add .f32 x1 (F.bin .mul .f32 x2 (Pure.spec_l01Sine F x0)))))) with
      | true =>
        intro _; rfl
      | false =>
        intro h; exact absurd h Bool.false_ne_true
    | false =>
      intro h; exact absurd h Bool.false_ne_true
  | false =>
    intro h; exact absurd h Bool.false_ne_true
theorem ok_spec_l07Map : CallOK Try.prog 64 (c_spec_l07Map real) := by
  refine callOK_of fun args h ret hc => ?_
  unfold c_spec_l07Map at hc
  split at hc
  · rename_i x0 x1 x2
    obtain ⟨hok, rfl⟩ := some_ret hc
    exact holds_ev prog_ok (allOK_cons ok_spec_l01Sine (allOK_cons ok_spec_l07Kick (allOK_cons ok_spec_l05Wrap allOK_nil))) Try.func64 rfl rfl smL_nil rfl (e_spec_l07Map real x0 x1 x2 hok)
  · cases hc
def Pure.spec_l07Orbit_L0 (F : FOps) (y0 : Int) : Nat → Int → Int → Int → (List (List Int)) → (Bool × (List (List Int)))
  | 0, _, _, _, _ => (false, [])
  | n + 1, y1, y2, y3, y4 => bif (decide (y1 > 0)) then (bif (Pure.spec_l07Map_ok F y2 y3 y0) then (bif (decide ((Nat.succ y4.length) ≤ 1073741824)) then (Pure.spec_l07Orbit_L0 F y0 n (IntKind.wrap .i64 (y1 - 1)) (Pure.spec_l07Map F y2 y3 y0) (Pure.spec_l07Map_1 F y2 y3 y0) (y4 ++ [[Pure.spec_l07Map F y2 y3 y0, Pure.spec_l07Map_1 F y2 y3 y0]])) else ((false, []))) else ((false, []))) else ((true, y4))
def R_spec_l07Orbit_L0 (r : (Bool × (List (List Int)))) : Bool × Ends := ((r).1, (.one Ex.normal [V.at (A.sl 0)] [⟨true, .rows [K.f .f32, K.f .f32] (r).2⟩]))
def S_spec_l07Orbit_L0 (F : FOps) : Sm := ⟨[1, 2, 3, 7], [22, 2, 0, 56], [7], fun vals hp => match vals, hp with
  | [V.at (A.fl .f32 y0), V.at (A.int .i64 y1), V.at (A.ptr 0 0 0), V.at (A.sl 1)], [⟨true, .box [A.fl .f32 y2, A.fl .f32 y3]⟩, ⟨true, .rows [K.f .f32, K.f .f32] y4⟩] => some (R_spec_l07Orbit_L0  (Pure.spec_l07Orbit_L0 F y0 (y1 - 0 + 1).toNat y1 y2 y3 y4))
  | _, _ => none⟩
theorem l_spec_l07Orbit_L0 (F : FOps) (y0 : Int) : ∀ (fuel : Nat) (y1 y2 y3 : Int) (y4 : List (List Int)), (Pure.spec_l07Orbit_L0 F y0 fuel y1 y2 y3 y4).1 = true → loopOf (cxS F tyl [(64, c_spec_l07Map F)] [] [] 0) 0 22 0 [1, 2, 3, 7] [22, 2, 0, 56] [7] (loopB 0 (codeOf Try.f75)) fuel [V.at (A.fl .f32 y0), V.at (A.int .i64 y1), V.at (A.ptr 0 0 0), V.at (A.sl 1)] [⟨true, .box [A.fl .f32 y2, A.fl .f32 y3]⟩, ⟨true, .rows [K.f .f32, K.f .f32] y4⟩] = resOf (R_spec_l07Orbit_L0  (Pure.spec_l07Orbit_L0 F y0 fuel y1 y2 y3 y4)) := by
  intro fuel
  induction fuel with
  | zero => intro y1 y2 y3 y4 h; exact absurd h Bool.false_ne_true
  | succ n ih =>
    intro y1 y2 y3 y4
    have h0 : roundOf (cxS F tyl [(64, c_spec_l07Map F)] [] [] 0) 0 22 0 [1, 2, 3, 7] [22, 2, 0, 56] [7] (loopB 0 (codeOf Try.f75)) [V.at (A.fl .f32 y0), V.at (A.int .i64 y1), V.at (A.ptr 0 0 0), V.at (A.sl 1)] [⟨true, .box [A.fl .f32 y2, A.fl .f32 y3]⟩, ⟨true, .rows [K.f .f32, K.f .f32] y4⟩] = (bif decide (y1 > 0) then bif Pure.spec_l07Map_ok F y2 y3 y0 then bif decide ((Nat.succ y4.length) ≤ 1073741824) then some (true, (Ex.normal, ([V.at (A.fl .f32 y0), V.at (A.int .i64 (IntKind.wrap .i64 (y1 - 1))), V.at (A.ptr 0 0 0), V.at (A.sl 1)], [⟨true, .box [A.fl .f32 (Pure.spec_l07Map F y2 y3 y0), A.fl .f32 (Pure.spec_l07Map_1 F y2 y3 y0)]⟩, ⟨true, .rows [K.f .f32, K.f .f32] (y4 ++ [[Pure.spec_l07Map F y2 y3 y0, Pure.spec_l07Map_1 F y2 y3 y0]])⟩]))) else none else none else some (false, (Ex.normal, ([V.at (A.sl 0)], [⟨true, .rows [K.f .f32, K.f .f32] y4⟩])))) := by kernel_rfl
    unfold loopOf
    rw [h0]
    unfold Pure.spec_l07Orbit_L0
    cases (decide (y1 > 0)) with
    | true =>
      cases (Pure.spec_l07Map_ok F y2 y3 y0) with
      | true =>
        cases (decide ((Nat.succ y4.length) ≤ 1073741824)) with
        | true =>
          exact ih _ _ _ _
        | false =>
          intro h; exact absurd h Bool.false_ne_true
      | false =>
        intro h; exact absurd h Bool.false_ne_true
    | false =>
      intro _; rfl
theorem t_spec_l07Orbit_L0 : SmTo Try.prog 0 22 (S_spec_l07Orbit_L0 real) 0 (.loop (loopB 0 (codeOf Try.f75))) := by
  refine smTo_ev (cl := [(64, c_spec_l07Map real)]) (ef := []) (sm := []) (un := 0) prog_ok (allOK_cons ok_spec_l07Map allOK_nil) smL_nil ?_
  intro vals hp q r h hq
  unfold S_spec_l07Orbit_L0 at h
  dsimp only at h
  split at h
  · rename_i y0 y1 y2 y3 y4
    obtain rfl := Option.some.inj h
    have h1 := hq
    unfold resOf at h1
    rw [chk_some] at h1
    exact ⟨_, (l_spec_l07Orbit_L0 real y0 _ y1 y2 y3 y4 h1.1).trans hq⟩
  · cases h
def Pure.spec_l07Orbit (F : FOps) (x0 x1 x2 x3 : Int) : List (List Int) := Prod.snd (Pure.spec_l07Orbit_L0 F x2 (Int.toNat ((x3 - 0) + 1)) x3 x0 x1 [[x0, x1]])
def Pure.spec_l07Orbit_ok (F : FOps) (x0 x1 x2 x3 : Int) : Bool := Prod.fst (Pure.spec_l07Orbit_L0 F x2 (Int.toNat ((x3 - 0) + 1)) x3 x0 x1 [[x0, x1]])
def c_spec_l07Orbit (F : FOps) : Con
  | [V.agg [A.fl .f32 x0, A.fl .f32 x1], V.at (A.fl .f32 x2), V.at (A.int .i64 x3)], [] => some (Pure.spec_l07Orbit_ok F x0 x1 x2 x3, ⟨V.at (A.sl 0), none, [⟨true, .rows [K.f .f32, K.f .f32] (Pure.spec_l07Orbit F x0 x1 x2 x3)⟩]⟩)
  | _, _ => none
theorem e_spec_l07Orbit (F : FOps) (x0 x1 x2 x3 : Int) : Pure.spec_l07Orbit_ok F x0 x1 x2 x3 = true → evFn (cxS F tyl [(64, c_spec_l07Map F)] [] [(0, S_spec_l07Orbit_L0 F)] 0) Try.f75 false [V.agg [A.fl .f32 x0, A.fl .f32 x1], V.at (A.fl .f32 x2), V.at (A.int .i64 x3)] [] = some ⟨V.at (A.sl 0), none, [⟨true, .rows [K.f .f32, K.f .f32] (Pure.spec_l07Orbit F x0 x1 x2 x3)⟩]⟩ := by
  have h0 : evFn (cxS F tyl [(64, c_spec_l07Map F)] [] [(0, S_spec_l07Orbit_L0 F)] 0) Try.f75 false [V.agg [A.fl .f32 x0, A.fl .f32 x1], V.at (A.fl .f32 x2), V.at (A.int .i64 x3)] [] = bif Prod.fst (Pure.spec_l07Orbit_L0 F x2 (Int.toNat ((x3 - 0) + 1)) x3 x0 x1 [[x0, x1]]) then some ⟨V.at (A.sl 0), none, [⟨true, .rows [K.f .f32, K.f .f32] (Prod.snd (Pure.spec_l07Orbit_L0 F x2 (Int.toNat ((x3 - 0) + 1)) x3 x0 x1 [[x0, x1]]))⟩]⟩ else none := by kernel_rfl
  rw [h0]
  unfold Pure.spec_l07Orbit Pure.spec_l07Orbit_ok
  cases (Prod.fst (Pure.spec_l07Orbit_L0 F x2 (Int.toNat ((x3 - 0) + 1)) x3 x0 x1 [[x0, x1]])) with
  | true =>
    intro _; rfl
  | false =>
    intro h; exact absurd h Bool.false_ne_true
theorem ok_spec_l07Orbit : CallOK Try.prog 75 (c_spec_l07Orbit real) := by
  refine callOK_of fun args h ret hc => ?_
  unfold c_spec_l07Orbit at hc
  split at hc
  · rename_i x0 x1 x2 x3
    obtain ⟨hok, rfl⟩ := some_ret hc
    exact holds_ev prog_ok (allOK_cons ok_spec_l07Map allOK_nil) Try.func75 rfl rfl (smL_cons (body := .loop (loopB 0 (codeOf Try.f75))) (by kernel_rfl) t_spec_l07Orbit_L0 smL_nil) rfl (e_spec_l07Orbit real x0 x1 x2 x3 hok)
  · cases hc
def Pure.spec_l00Min (F : FOps) (x0 x1 : Int) : Int := bif decide (x0 < x1) then x0 else x1
def c_spec_l00Min (F : FOps) : Con
  | [V.at (A.int .i64 x0), V.at (A.int .i64 x1)], [] => some (true, ⟨V.at (A.int .i64 (Pure.spec_l00Min F x0 x1)), none, []⟩)
  | _, _ => none
theorem e_spec_l00Min (F : FOps) (x0 x1 : Int) : evFn (cxS F tyl [] [] [] 0) Try.f79 false [V.at (A.int .i64 x0), V.at (A.int .i64 x1)] [] = some ⟨V.at (A.int .i64 (Pure.spec_l00Min F x0 x1)), none, []⟩ := by
  have h0 : evFn (cxS F tyl [] [] [] 0) Try.f79 false [V.at (A.int .i64 x0), V.at (A.int .i64 x1)] [] = bif decide (x0 < x1) then some ⟨V.at (A.int .i64 x0), none, []⟩ else some ⟨V.at (A.int .i64 x1), none, []⟩ := by kernel_rfl
  rw [h0]
  unfold Pure.spec_l00Min
  cases (decide (x0 < x1)) with
  | true =>
    rfl
  | false =>
    rfl
theorem ok_spec_l00Min : CallOK Try.prog 79 (c_spec_l00Min real) := by
  refine callOK_of fun args h ret hc => ?_
  unfold c_spec_l00Min at hc
  split at hc
  · rename_i x0 x1
    obtain ⟨_, rfl⟩ := some_ret hc
    exact holds_ev prog_ok allOK_nil Try.func79 rfl rfl smL_nil rfl (e_spec_l00Min real x0 x1)
  · cases hc
def Pure.spec_BoxesOf_L0 (F : FOps) (y0 y2 : Int) (y5 : List (List Int)) : Nat → Int → Int → (List (List Int)) → (Bool × Int)
  | 0, _, _, _ => (false, 0)
  | n + 1, y1, y3, y4 => bif (decide (y3 < y2)) then (bif (decide (0 ≤ y3)) then (bif (decide (y3 < (Int.ofNat y5.length))) then (bif (F.toIntOk .f32 IntKind.i64 (F.bin .mul .f32 (F.ofInt .f32 y0) ((y5.getD y3.toNat []).getD 0 0))) then (bif (decide (0 ≤ y3)) then (bif (decide (y3 < (Int.ofNat y5.length))) then (bif (F.toIntOk .f32 IntKind.i64 (F.bin .mul .f32 (F.ofInt .f32 y0) (F.bin .add .f32 ((y5.getD y3.toNat []).getD 1 0) 1056964608))) then (bif (decide (0 ≤ (IntKind.wrap .i64 ((Pure.spec_l00Min F (IntKind.wrap .i64 (y0 - 1)) (F.toInt .f32 IntKind.i64 (F.bin .mul .f32 (F.ofInt .f32 y0) ((y5.getD y3.toNat []).getD 0 0)))) + (IntKind.wrap .i64 (y0 * (Pure.spec_l00Min F (IntKind.wrap .i64 (y0 - 1)) (F.toInt .f32 IntKind.i64 (F.bin .mul .f32 (F.ofInt .f32 y0) (F.bin .add .f32 ((y5.getD y3.toNat []).getD 1 0) 1056964608)))))))))) then (bif (decide ((IntKind.wrap .i64 ((Pure.spec_l00Min F (IntKind.wrap .i64 (y0 - 1)) (F.toInt .f32 IntKind.i64 (F.bin .mul .f32 (F.ofInt .f32 y0) ((y5.getD y3.toNat []).getD 0 0)))) + (IntKind.wrap .i64 (y0 * (Pure.spec_l00Min F (IntKind.wrap .i64 (y0 - 1)) (F.toInt .f32 IntKind.i64 (F.bin .mul .f32 (F.ofInt .f32 y0) (F.bin .add .f32 ((y5.getD y3.toNat []).getD 1 0) 1056964608)))))))) < (Int.ofNat y4.length))) then (bif ((List.getD (List.getD y4 (Int.toNat (IntKind.wrap .i64 ((Pure.spec_l00Min F (IntKind.wrap .i64 (y0 - 1)) (F.toInt .f32 IntKind.i64 (F.bin .mul .f32 (F.ofInt .f32 y0) ((y5.getD y3.toNat []).getD 0 0)))) + (IntKind.wrap .i64 (y0 * (Pure.spec_l00Min F (IntKind.wrap .i64 (y0 - 1)) (F.toInt .f32 IntKind.i64 (F.bin .mul .f32 (F.ofInt .f32 y0) (F.bin .add .f32 ((y5.getD y3.toNat []).getD 1 0) 1056964608))))))))) []) 0 0) == 0) then (bif false then (Pure.spec_BoxesOf_L0 F y0 y2 y5 n y1 (IntKind.wrap .i64 (y3 + 1)) y4) else (bif (decide (0 ≤ (IntKind.wrap .i64 ((Pure.spec_l00Min F (IntKind.wrap .i64 (y0 - 1)) (F.toInt .f32 IntKind.i64 (F.bin .mul .f32 (F.ofInt .f32 y0) ((y5.getD y3.toNat []).getD 0 0)))) + (IntKind.wrap .i64 (y0 * (Pure.spec_l00Min F (IntKind.wrap .i64 (y0 - 1)) (F.toInt .f32 IntKind.i64 (F.bin .mul .f32 (F.ofInt .f32 y0) (F.bin .add .f32 ((y5.getD y3.toNat []).getD 1 0) 1056964608)))))))))) then (bif (decide ((IntKind.wrap .i64 ((Pure.spec_l00Min F (IntKind.wrap .i64 (y0 - 1)) (F.toInt .f32 IntKind.i64 (F.bin .mul .f32 (F.ofInt .f32 y0) ((y5.getD y3.toNat []).getD 0 0)))) + (IntKind.wrap .i64 (y0 * (Pure.spec_l00Min F (IntKind.wrap .i64 (y0 - 1)) (F.toInt .f32 IntKind.i64 (F.bin .mul .f32 (F.ofInt .f32 y0) (F.bin .add .f32 ((y5.getD y3.toNat []).getD 1 0) 1056964608)))))))) < (Int.ofNat y4.length))) then (Pure.spec_BoxesOf_L0 F y0 y2 y5 n (IntKind.wrap .i64 (y1 + 1)) (IntKind.wrap .i64 (y3 + 1)) (List.set y4 (Int.toNat (IntKind.wrap .i64 ((Pure.spec_l00Min F (IntKind.wrap .i64 (y0 - 1)) (F.toInt .f32 IntKind.i64 (F.bin .mul .f32 (F.ofInt .f32 y0) ((y5.getD y3.toNat []).getD 0 0)))) + (IntKind.wrap .i64 (y0 * (Pure.spec_l00Min F (IntKind.wrap .i64 (y0 - 1)) (F.toInt .f32 IntKind.i64 (F.bin .mul .f32 (F.ofInt .f32 y0) (F.bin .add .f32 ((y5.getD y3.toNat []).getD 1 0) 1056964608))))))))) [1])) else ((false, 0))) else ((false, 0)))) else (bif true then (Pure.spec_BoxesOf_L0 F y0 y2 y5 n y1 (IntKind.wrap .i64 (y3 + 1)) y4) else (bif (decide (0 ≤ (IntKind.wrap .i64 ((Pure.spec_l00Min F (IntKind.wrap .i64 (y0 - 1)) (F.toInt .f32 IntKind.i64 (F.bin .mul .f32 (F.ofInt .f32 y0) ((y5.getD y3.toNat []).getD 0 0)))) + (IntKind.wrap .i64 (y0 * (Pure.spec_l00Min F (IntKind.wrap .i64 (y0 - 1)) (F.toInt .f32 IntKind.i64 (F.bin .mul .f32 (F.ofInt .f32 y0) (F.bin .add .f32 ((y5.getD y3.toNat []).getD 1 0) 1056964608)))))))))) then (bif (decide ((IntKind.wrap .i64 ((Pure.spec_l00Min F (IntKind.wrap .i64 (y0 - 1)) (F.toInt .f32 IntKind.i64 (F.bin .mul .f32 (F.ofInt .f32 y0) ((y5.getD y3.toNat []).getD 0 0)))) + (IntKind.wrap .i64 (y0 * (Pure.spec_l00Min F (IntKind.wrap .i64 (y0 - 1)) (F.toInt .f32 IntKind.i64 (F.bin .mul .f32 (F.ofInt .f32 y0) (F.bin .add .f32 ((y5.getD y3.toNat []).getD 1 0) 1056964608)))))))) < (Int.ofNat y4.length))) then (Pure.spec_BoxesOf_L0 F y0 y2 y5 n (IntKind.wrap .i64 (y1 + 1)) (IntKind.wrap .i64 (y3 + 1)) (List.set y4 (Int.toNat (IntKind.wrap .i64 ((Pure.spec_l00Min F (IntKind.wrap .i64 (y0 - 1)) (F.toInt .f32 IntKind.i64 (F.bin .mul .f32 (F.ofInt .f32 y0) ((y5.getD y3.toNat []).getD 0 0)))) + (IntKind.wrap .i64 (y0 * (Pure.spec_l00Min F (IntKind.wrap .i64 (y0 - 1)) (F.toInt .f32 IntKind.i64 (F.bin .mul .f32 (F.ofInt .f32 y0) (F.bin .add .f32 ((y5.getD y3.toNat []).getD 1 0) 1056964608))))))))) [1])) else ((false, 0))) else ((false, 0))))) else ((false, 0))) else ((false, 0))) else ((false, 0))) else ((false, 0))) else ((false, 0))) else ((false, 0))) else ((false, 0))) else ((false, 0))) else ((true, y1))
def R_spec_BoxesOf_L0 (r : (Bool × Int)) : Bool × Ends := ((r).1, (.one Ex.normal [V.at (A.int .i64 (r).2)] []))
def S_spec_BoxesOf_L0 (F : FOps) : Sm := ⟨[3, 10, 11, 12, 43, 44], [2, 84, 56, 2, 3, 3], [12], fun vals hp => match vals, hp with
  | [V.at (A.int .i64 y0), V.at (A.sl 0), V.at (A.sl 1), V.at (A.int .i64 y1), V.at (A.int .i64 y2), V.at (A.int .i64 y3)], [⟨true, .rows [K.b] y4⟩, ⟨true, .rows [K.f .f32, K.f .f32] y5⟩] => some (R_spec_BoxesOf_L0  (Pure.spec_BoxesOf_L0 F y0 y2 y5 (y2 - y3 + 1).toNat y1 y3 y4))
  | _, _ => none⟩
theorem l_spec_BoxesOf_L0 (F : FOps) (y0 y2 : Int) (y5 : List (List Int)) : ∀ (fuel : Nat) (y1 y3 : Int) (y4 : List (List Int)), (Pure.spec_BoxesOf_L0 F y0 y2 y5 fuel y1 y3 y4).1 = true → loopOf (cxS F tyl [(51, c_spec_l07Is F), (57, c_spec_l07Size F), (74, c_spec_l07Count F), (78, c_spec_l00In F), (75, c_spec_l07Orbit F), (79, c_spec_l00Min F)] [] [] 0) 0 92 0 [3, 10, 11, 12, 43, 44] [2, 84, 56, 2, 3, 3] [12] (loopB 0 (codeOf Try.f35)) fuel [V.at (A.int .i64 y0), V.at (A.sl 0), V.at (A.sl 1), V.at (A.int .i64 y1), V.at (A.int .i64 y2), V.at (A.int .i64 y3)] [⟨true, .rows [K.b] y4⟩, ⟨true, .rows [K.f .f32, K.f .f32] y5⟩] = resOf (R_spec_BoxesOf_L0  (Pure.spec_BoxesOf_L0 F y0 y2 y5 fuel y1 y3 y4)) := by
  intro fuel
  induction fuel with
  | zero => intro y1 y3 y4 h; exact absurd h Bool.false_ne_true
  | succ n ih =>
    intro y1 y3 y4
    have h0 : roundOf (cxS F tyl [(51, c_spec_l07Is F), (57, c_spec_l07Size F), (74, c_spec_l07Count F), (78, c_spec_l00In F), (75, c_spec_l07Orbit F), (79, c_spec_l00Min F)] [] [] 0) 0 92 0 [3, 10, 11, 12, 43, 44] [2, 84, 56, 2, 3, 3] [12] (loopB 0 (codeOf Try.f35)) [V.at (A.int .i64 y0), V.at (A.sl 0), V.at (A.sl 1), V.at (A.int .i64 y1), V.at (A.int .i64 y2), V.at (A.int .i64 y3)] [⟨true, .rows [K.b] y4⟩, ⟨true, .rows [K.f .f32, K.f .f32] y5⟩] = (bif decide (y3 < y2) then bif decide (0 ≤ y3) then bif decide (y3 < (Int.ofNat y5.length)) then bif F.toIntOk .f32 IntKind.i64 (F.bin .mul .f32 (F.ofInt .f32 y0) ((y5.getD y3.toNat []).getD 0 0)) then bif decide (0 ≤ y3) then bif decide (y3 < (Int.ofNat y5.length)) then bif F.toIntOk .f32 IntKind.i64 (F.bin .mul .f32 (F.ofInt .f32 y0) (F.bin .add .f32 ((y5.getD y3.toNat []).getD 1 0) 1056964608)) then bif decide (0 ≤ (IntKind.wrap .i64 ((Pure.spec_l00Min F (IntKind.wrap .i64 (y0 - 1)) (F.toInt .f32 IntKind.i64 (F.bin .mul .f32 (F.ofInt .f32 y0) ((y5.getD y3.toNat []).getD 0 0)))) + (IntKind.wrap .i64 (y0 * (Pure.spec_l00Min F (IntKind.wrap .i64 (y0 - 1)) (F.toInt .f32 IntKind.i64 (F.bin .mul .f32 (F.ofInt .f32 y0) (F.bin .add .f32 ((y5.getD y3.toNat []).getD 1 0) 1056964608))))))))) then bif decide ((IntKind.wrap .i64 ((Pure.spec_l00Min F (IntKind.wrap .i64 (y0 - 1)) (F.toInt .f32 IntKind.i64 (F.bin .mul .f32 (F.ofInt .f32 y0) ((y5.getD y3.toNat []).getD 0 0)))) + (IntKind.wrap .i64 (y0 * (Pure.spec_l00Min F (IntKind.wrap .i64 (y0 - 1)) (F.toInt .f32 IntKind.i64 (F.bin .mul .f32 (F.ofInt .f32 y0) (F.bin .add .f32 ((y5.getD y3.toNat []).getD 1 0) 1056964608)))))))) < (Int.ofNat y4.length)) then bif Bool.not (bif (List.getD (List.getD y4 (Int.toNat (IntKind.wrap .i64 ((Pure.spec_l00Min F (IntKind.wrap .i64 (y0 - 1)) (F.toInt .f32 IntKind.i64 (F.bin .mul .f32 (F.ofInt .f32 y0) ((y5.getD y3.toNat []).getD 0 0)))) + (IntKind.wrap .i64 (y0 * (Pure.spec_l00Min F (IntKind.wrap .i64 (y0 - 1)) (F.toInt .f32 IntKind.i64 (F.bin .mul .f32 (F.ofInt .f32 y0) (F.bin .add .f32 ((y5.getD y3.toNat []).getD 1 0) 1056964608))))))))) []) 0 0) == 0 then false else true) then bif decide (0 ≤ (IntKind.wrap .i64 ((Pure.spec_l00Min F (IntKind.wrap .i64 (y0 - 1)) (F.toInt .f32 IntKind.i64 (F.bin .mul .f32 (F.ofInt .f32 y0) ((y5.getD y3.toNat []).getD 0 0)))) + (IntKind.wrap .i64 (y0 * (Pure.spec_l00Min F (IntKind.wrap .i64 (y0 - 1)) (F.toInt .f32 IntKind.i64 (F.bin .mul .f32 (F.ofInt .f32 y0) (F.bin .add .f32 ((y5.getD y3.toNat []).getD 1 0) 1056964608))))))))) then bif decide ((IntKind.wrap .i64 ((Pure.spec_l00Min F (IntKind.wrap .i64 (y0 - 1)) (F.toInt .f32 IntKind.i64 (F.bin .mul .f32 (F.ofInt .f32 y0) ((y5.getD y3.toNat []).getD 0 0)))) + (IntKind.wrap .i64 (y0 * (Pure.spec_l00Min F (IntKind.wrap .i64 (y0 - 1)) (F.toInt .f32 IntKind.i64 (F.bin .mul .f32 (F.ofInt .f32 y0) (F.bin .add .f32 ((y5.getD y3.toNat []).getD 1 0) 1056964608)))))))) < (Int.ofNat y4.length)) then some (true, (Ex.normal, ([V.at (A.int .i64 y0), V.at (A.sl 0), V.at (A.sl 1), V.at (A.int .i64 (IntKind.wrap .i64 (y1 + 1))), V.at (A.int .i64 y2), V.at (A.int .i64 (IntKind.wrap .i64 (y3 + 1)))], [⟨true, .rows [K.b] (List.set y4 (Int.toNat (IntKind.wrap .i64 ((Pure.spec_l00Min F (IntKind.wrap .i64 (y0 - 1)) (F.toInt .f32 IntKind.i64 (F.bin .mul .f32 (F.ofInt .f32 y0) ((y5.getD y3.toNat []).getD 0 0)))) + (IntKind.wrap .i64 (y0 * (Pure.spec_l00Min F (IntKind.wrap .i64 (y0 - 1)) (F.toInt .f32 IntKind.i64 (F.bin .mul .f32 (F.ofInt .f32 y0) (F.bin .add .f32 ((y5.getD y3.toNat []).getD 1 0) 1056964608))))))))) [1])⟩, ⟨true, .rows [K.f .f32, K.f .f32] y5⟩]))) else none else none else some (true, (Ex.normal, ([V.at (A.int .i64 y0), V.at (A.sl 0), V.at (A.sl 1), V.at (A.int .i64 y1), V.at (A.int .i64 y2), V.at (A.int .i64 (IntKind.wrap .i64 (y3 + 1)))], [⟨true, .rows [K.b] y4⟩, ⟨true, .rows [K.f .f32, K.f .f32] y5⟩]))) else none else none else none else none else none else none else none else none else some (false, (Ex.normal, ([V.at (A.int .i64 y1)], [])))) := by kernel_rfl
    unfold loopOf
    rw [h0]
    unfold Pure.spec_BoxesOf_L0
    cases (decide (y3 < y2)) with
    | true =>
      cases (decide (0 ≤ y3)) with
      | true =>
        cases (decide (y3 < (Int.ofNat y5.length))) with
        | true =>
          cases (F.toIntOk .f32 IntKind.i64 (F.bin .mul .f32 (F.ofInt .f32 y0) ((y5.getD y3.toNat []).getD 0 0))) with
          | true =>
            cases (F.toIntOk .f32 IntKind.i64 (F.bin .mul .f32 (F.ofInt .f32 y0) (F.bin .add .f32 ((y5.getD y3.toNat []).getD 1 0) 1056964608))) with
            | true =>
              cases (decide (0 ≤ (IntKind.wrap .i64 ((Pure.spec_l00Min F (IntKind.wrap .i64 (y0 - 1)) (F.toInt .f32 IntKind.i64 (F.bin .mul .f32 (F.ofInt .f32 y0) ((y5.getD y3.toNat []).getD 0 0)))) + (IntKind.wrap .i64 (y0 * (Pure.spec_l00Min F (IntKind.wrap .i64 (y0 - 1)) (F.toInt .f32 IntKind.i64 (F.bin .mul .f32 (F.ofInt .f32 y0) (F.bin .add .f32 ((y5.getD y3.toNat []).getD 1 0) 1056964608)))))))))) with
              | true =>
                cases (decide ((IntKind.wrap .i64 ((Pure.spec_l00Min F (IntKind.wrap .i64 (y0 - 1)) (F.toInt .f32 IntKind.i64 (F.bin .mul .f32 (F.ofInt .f32 y0) ((y5.getD y3.toNat []).getD 0 0)))) + (IntKind.wrap .i64 (y0 * (Pure.spec_l00Min F (IntKind.wrap .i64 (y0 - 1)) (F.toInt .f32 IntKind.i64 (F.bin .mul .f32 (F.ofInt .f32 y0) (F.bin .add .f32 ((y5.getD y3.toNat []).getD 1 0) 1056964608)))))))) < (Int.ofNat y4.length))) with
                | true =>
                  cases ((List.getD (List.getD y4 (Int.toNat (IntKind.wrap .i64 ((Pure.spec_l00Min F (IntKind.wrap .i64 (y0 - 1)) (F.toInt .f32 IntKind.i64 (F.bin .mul .f32 (F.ofInt .f32 y0) ((y5.getD y3.toNat []).getD 0 0)))) + (IntKind.wrap .i64 (y0 * (Pure.spec_l00Min F (IntKind.wrap .i64 (y0 - 1)) (F.toInt .f32 IntKind.i64 (F.bin .mul .f32 (F.ofInt .f32 y0) (F.bin .add .f32 ((y5.getD y3.toNat []).getD 1 0) 1056964608))))))))) []) 0 0) == 0) with
                  | true =>
                    exact ih _ _ _
                  | false =>
                    exact ih _ _ _
                | false =>
                  intro h; exact absurd h Bool.false_ne_true
              | false =>
                intro h; exact absurd h Bool.false_ne_true
            | false =>
              intro h; exact absurd h Bool.false_ne_true
          | false =>
            intro h; exact absurd h Bool.false_ne_true
        | false =>
          intro h; exact absurd h Bool.false_ne_true
      | false =>
        intro h; exact absurd h Bool.false_ne_true
    | false =>
      intro _; rfl
theorem t_spec_BoxesOf_L0 : SmTo Try.prog 0 92 (S_spec_BoxesOf_L0 real) 0 (.loop (loopB 0 (codeOf Try.f35))) := by
  refine smTo_ev (cl := [(51, c_spec_l07Is real), (57, c_spec_l07Size real), (74, c_spec_l07Count real), (78, c_spec_l00In real), (75, c_spec_l07Orbit real), (79, c_spec_l00Min real)]) (ef := []) (sm := []) (un := 0) prog_ok (allOK_cons ok_spec_l07Is (allOK_cons ok_spec_l07Size (allOK_cons ok_spec_l07Count (allOK_cons ok_spec_l00In (allOK_cons ok_spec_l07Orbit (allOK_cons ok_spec_l00Min allOK_nil)))))) smL_nil ?_
  intro vals hp q r h hq
  unfold S_spec_BoxesOf_L0 at h
  dsimp only at h
  split at h
  · rename_i y0 y1 y2 y3 y4 y5
    obtain rfl := Option.some.inj h
    have h1 := hq
    unfold resOf at h1
    rw [chk_some] at h1
    exact ⟨_, (l_spec_BoxesOf_L0 real y0 y2 y5 _ y1 y3 y4 h1.1).trans hq⟩
  · cases h
def Pure.spec_BoxesOf (F : FOps) (x0 x1 x2 x3 x4 : Int) : Int := bif Pure.spec_l07Is F x0 x1 then bif Pure.spec_l07Size F x2 then bif Pure.spec_l00In F x3 0 128 then bif Pure.spec_l00In F x4 1 32 then Prod.snd (Pure.spec_BoxesOf_L0 F x4 (Int.ofNat (List.length (Pure.spec_l07Orbit F x0 x1 x2 x3))) (Pure.spec_l07Orbit F x0 x1 x2 x3) (Nat.succ ((List.length (Pure.spec_l07Orbit F x0 x1 x2 x3)) + 0)) 0 0 (List.replicate (Int.toNat (IntKind.wrap .i64 (x4 * x4))) [0])) else 0 else 0 else 0 else 0
def Pure.spec_BoxesOf_1 (F : FOps) (x0 x1 x2 x3 x4 : Int) : Bool := bif Pure.spec_l07Is F x0 x1 then bif Pure.spec_l07Size F x2 then bif Pure.spec_l00In F x3 0 128 then Pure.spec_l00In F x4 1 32 else false else false else false
def Pure.spec_BoxesOf_ok (F : FOps) (x0 x1 x2 x3 x4 : Int) : Bool := bif Pure.spec_l07Is F x0 x1 then bif Pure.spec_l07Size F x2 then bif Pure.spec_l00In F x3 0 128 then bif Pure.spec_l00In F x4 1 32 then bif decide (0 ≤ (IntKind.wrap .i64 (x4 * x4))) then bif (IntKind.wrap .i64 (x4 * x4)) == (IntKind.wrap .i64 (x4 * x4)) then bif decide ((IntKind.wrap .i64 (x4 * x4)) ≤ 1073741824) then bif Pure.spec_l07Orbit_ok F x0 x1 x2 x3 then Prod.fst (Pure.spec_BoxesOf_L0 F x4 (Int.ofNat (List.length (Pure.spec_l07Orbit F x0 x1 x2 x3))) (Pure.spec_l07Orbit F x0 x1 x2 x3) (Nat.succ ((List.length (Pure.spec_l07Orbit F x0 x1 x2 x3)) + 0)) 0 0 (List.replicate (Int.toNat (IntKind.wrap .i64 (x4 * x4))) [0])) else false else false else false else false else true else true else true else true
def c_spec_BoxesOf (F : FOps) : Con
  | [V.agg [A.fl .f32 x0, A.fl .f32 x1], V.at (A.fl .f32 x2), V.at (A.int .i64 x3), V.at (A.int .i64 x4)], [] => some (Pure.spec_BoxesOf_ok F x0 x1 x2 x3 x4, ⟨V.tup [(false, [A.int .i64 (Pure.spec_BoxesOf F x0 x1 x2 x3 x4)]), (false, [A.bool (Pure.spec_BoxesOf_1 F x0 x1 x2 x3 x4)])], none, []⟩)
  | _, _ => none
theorem e_spec_BoxesOf (F : FOps) (x0 x1 x2 x3 x4 : Int) : Pure.spec_BoxesOf_ok F x0 x1 x2 x3 x4 = true → evFn (cxS F tyl [(51, c_spec_l07Is F), (57, c_spec_l07Size F), (74, c_spec_l07Count F), (78, c_spec_l00In F), (75, c_spec_l07Orbit F), (79, c_spec_l00Min F)] [] [(0, S_spec_BoxesOf_L0 F)] 0) Try.f35 false [V.agg [A.fl .f32 x0, A.fl .f32 x1], V.at (A.fl .f32 x2), V.at (A.int .i64 x3), V.at (A.int .i64 x4)] [] = some ⟨V.tup [(false, [A.int .i64 (Pure.spec_BoxesOf F x0 x1 x2 x3 x4)]), (false, [A.bool (Pure.spec_BoxesOf_1 F x0 x1 x2 x3 x4)])], none, []⟩ := by
  have h0 : evFn (cxS F tyl [(51, c_spec_l07Is F), (57, c_spec_l07Size F), (74, c_spec_l07Count F), (78, c_spec_l00In F), (75, c_spec_l07Orbit F), (79, c_spec_l00Min F)] [] [(0, S_spec_BoxesOf_L0 F)] 0) Try.f35 false [V.agg [A.fl .f32 x0, A.fl .f32 x1], V.at (A.fl .f32 x2), V.at (A.int .i64 x3), V.at (A.int .i64 x4)] [] = bif Bool.not (Pure.spec_l07Is F x0 x1) then some ⟨V.tup [(false, [A.int .i64 0]), (false, [A.bool false])], none, []⟩ else bif Bool.not (Pure.spec_l07Size F x2) then some ⟨V.tup [(false, [A.int .i64 0]), (false, [A.bool false])], none, []⟩ else bif Bool.not (Pure.spec_l00In F x3 0 128) then some ⟨V.tup [(false, [A.int .i64 0]), (false, [A.bool false])], none, []⟩ else bif Bool.not (Pure.spec_l00In F x4 1 32) then some ⟨V.tup [(false, [A.int .i64 0]), (false, [A.bool false])], none, []⟩ else bif decide (0 ≤ (IntKind.wrap .i64 (x4 * x4))) then bif (IntKind.wrap .i64 (x4 * x4)) == (IntKind.wrap .i64 (x4 * x4)) then bif decide ((IntKind.wrap .i64 (x4 * x4)) ≤ 1073741824) then bif Pure.spec_l07Orbit_ok F x0 x1 x2 x3 then bif Prod.fst (Pure.spec_BoxesOf_L0 F x4 (Int.ofNat (List.length (Pure.spec_l07Orbit F x0 x1 x2 x3))) (Pure.spec_l07Orbit F x0 x1 x2 x3) (Nat.succ ((List.length (Pure.spec_l07Orbit F x0 x1 x2 x3)) + 0)) 0 0 (List.replicate (Int.toNat (IntKind.wrap .i64 (x4 * x4))) [0])) then some ⟨V.tup [(false, [A.int .i64 (Prod.snd (Pure.spec_BoxesOf_L0 F x4 (Int.ofNat (List.length (Pure.spec_l07Orbit F x0 x1 x2 x3))) (Pure.spec_l07Orbit F x0 x1 x2 x3) (Nat.succ ((List.length (Pure.spec_l07Orbit F x0 x1 x2 x3)) + 0)) 0 0 (List.replicate (Int.toNat (IntKind.wrap .i64 (x4 * x4))) [0])))]), (false, [A.bool true])], none, []⟩ else none else none else none else none else none := by kernel_rfl
  rw [h0]
  unfold Pure.spec_BoxesOf Pure.spec_BoxesOf_1 Pure.spec_BoxesOf_ok
  cases (Pure.spec_l07Is F x0 x1) with
  | true =>
    cases (Pure.spec_l07Size F x2) with
    | true =>
      cases (Pure.spec_l00In F x3 0 128) with
      | true =>
        cases (Pure.spec_l00In F x4 1 32) with
        | true =>
          cases (decide (0 ≤ (IntKind.wrap .i64 (x4 * x4)))) with
          | true =>
            cases ((IntKind.wrap .i64 (x4 * x4)) == (IntKind.wrap .i64 (x4 * x4))) with
            | true =>
              cases (decide ((IntKind.wrap .i64 (x4 * x4)) ≤ 1073741824)) with
              | true =>
                cases (Pure.spec_l07Orbit_ok F x0 x1 x2 x3) with
                | true =>
                  cases (Prod.fst (Pure.spec_BoxesOf_L0 F x4 (Int.ofNat (List.length (Pure.spec_l07Orbit F x0 x1 x2 x3))) (Pure.spec_l07Orbit F x0 x1 x2 x3) (Nat.succ ((List.length (Pure.spec_l07Orbit F x0 x1 x2 x3)) + 0)) 0 0 (List.replicate (Int.toNat (IntKind.wrap .i64 (x4 * x4))) [0]))) with
                  | true =>
                    intro _; rfl
                  | false =>
                    intro h; exact absurd h Bool.false_ne_true
                | false =>
                  intro h; exact absurd h Bool.false_ne_true
              | false =>
                intro h; exact absurd h Bool.false_ne_true
            | false =>
              intro h; exact absurd h Bool.false_ne_true
          | false =>
            intro h; exact absurd h Bool.false_ne_true
        | false =>
          intro _; rfl
      | false =>
        intro _; rfl
    | false =>
      intro _; rfl
  | false =>
    intro _; rfl
theorem ok_spec_BoxesOf : CallOK Try.prog 35 (c_spec_BoxesOf real) := by
  refine callOK_of fun args h ret hc => ?_
  unfold c_spec_BoxesOf at hc
  split at hc
  · rename_i x0 x1 x2 x3 x4
    obtain ⟨hok, rfl⟩ := some_ret hc
    exact holds_ev prog_ok (allOK_cons ok_spec_l07Is (allOK_cons ok_spec_l07Size (allOK_cons ok_spec_l07Count (allOK_cons ok_spec_l00In (allOK_cons ok_spec_l07Orbit (allOK_cons ok_spec_l00Min allOK_nil)))))) Try.func35 rfl rfl (smL_cons (body := .loop (loopB 0 (codeOf Try.f35))) (by kernel_rfl) t_spec_BoxesOf_L0 smL_nil) rfl (e_spec_BoxesOf real x0 x1 x2 x3 x4 hok)
  · cases hc
def Pure.impl_ValidState (F : FOps) (x0 x1 : Int) : Bool := bif F.cmp .geq .f32 x0 0 then bif F.cmp .lss .f32 x0 1065353216 then bif F.cmp .geq .f32 x1 3204448256 then F.cmp .lss .f32 x1 1056964608 else false else false else false
def c_impl_ValidState (F : FOps) : Con
  | [V.agg [A.fl .f32 x0, A.fl .f32 x1]], [] => some (true, ⟨V.at (A.bool (Pure.impl_ValidState F x0 x1)), none, []⟩)
  | _, _ => none
theorem e_impl_ValidState (F : FOps) (x0 x1 : Int) : evFn (cxS F tyl [] [] [] 0) Try.f54 false [V.agg [A.fl .f32 x0, A.fl .f32 x1]] [] = some ⟨V.at (A.bool (Pure.impl_ValidState F x0 x1)), none, []⟩ := by
  have h0 : evFn (cxS F tyl [] [] [] 0) Try.f54 false [V.agg [A.fl .f32 x0, A.fl .f32 x1]] [] = bif F.cmp .geq .f32 x0 0 then bif F.cmp .lss .f32 x0 1065353216 then bif F.cmp .geq .f32 x1 3204448256 then some ⟨V.at (A.bool (F.cmp .lss .f32 x1 1056964608)), none, []⟩ else some ⟨V.at (A.bool false), none, []⟩ else some ⟨V.at (A.bool false), none, []⟩ else some ⟨V.at (A.bool false), none, []⟩ := by kernel_rfl
  rw [h0]
  unfold Pure.impl_ValidState
  cases (F.cmp .geq .f32 x0 0) with
  | true =>
    cases (F.cmp .lss .f32 x0 1065353216) with
    | true =>
      cases (F.cmp .geq .f32 x1 3204448256) with
      | true =>
        rfl
      | false =>
        rfl
    | false =>
      rfl
  | false =>
    rfl
theorem ok_impl_ValidState : CallOK Try.prog 54 (c_impl_ValidState real) := by
  refine callOK_of fun args h ret hc => ?_
  unfold c_impl_ValidState at hc
  split at hc
  · rename_i x0 x1
    obtain ⟨_, rfl⟩ := some_ret hc
    exact holds_ev prog_ok allOK_nil Try.func54 rfl rfl smL_nil rfl (e_impl_ValidState real x0 x1)
  · cases hc
def Pure.impl_sizeOk (F : FOps) (x0 : Int) : Bool := bif F.cmp .geq .f32 x0 3229614080 then F.cmp .leq .f32 x0 1082130432 else false
def c_impl_sizeOk (F : FOps) : Con
  | [V.at (A.fl .f32 x0)], [] => some (true, ⟨V.at (A.bool (Pure.impl_sizeOk F x0)), none, []⟩)
  | _, _ => none
theorem e_impl_sizeOk (F : FOps) (x0 : Int) : evFn (cxS F tyl [] [] [] 0) Try.f92 false [V.at (A.fl .f32 x0)] [] = some ⟨V.at (A.bool (Pure.impl_sizeOk F x0)), none, []⟩ := by
  have h0 : evFn (cxS F tyl [] [] [] 0) Try.f92 false [V.at (A.fl .f32 x0)] [] = bif F.cmp .geq .f32 x0 3229614080 then some ⟨V.at (A.bool (F.cmp .leq .f32 x0 1082130432)), none, []⟩ else some ⟨V.at (A.bool false), none, []⟩ := by kernel_rfl
  rw [h0]
  unfold Pure.impl_sizeOk
  cases (F.cmp .geq .f32 x0 3229614080) with
  | true =>
    rfl
  | false =>
    rfl
theorem ok_impl_sizeOk : CallOK Try.prog 92 (c_impl_sizeOk real) := by
  refine callOK_of fun args h ret hc => ?_
  unfold c_impl_sizeOk at hc
  split at hc
  · rename_i x0
    obtain ⟨_, rfl⟩ := some_ret hc
    exact holds_ev prog_ok allOK_nil Try.func92 rfl rfl smL_nil rfl (e_impl_sizeOk real x0)
  · cases hc
def Pure.impl_stateOk (F : FOps) (x0 x1 x2 : Int) : Bool := bif Pure.impl_ValidState F x0 x1 then Pure.impl_sizeOk F x2 else false
def c_impl_stateOk (F : FOps) : Con
  | [V.agg [A.fl .f32 x0, A.fl .f32 x1], V.at (A.fl .f32 x2)], [] => some (true, ⟨V.at (A.bool (Pure.impl_stateOk F x0 x1 x2)), none, []⟩)
  | _, _ => none
theorem e_impl_stateOk (F : FOps) (x0 x1 x2 : Int) : evFn (cxS F tyl [(54, c_impl_ValidState F), (92, c_impl_sizeOk F)] [] [] 0) Try.f59 false [V.agg [A.fl .f32 x0, A.fl .f32 x1], V.at (A.fl .f32 x2)] [] = some ⟨V.at (A.bool (Pure.impl_stateOk F x0 x1 x2)), none, []⟩ := by
  have h0 : evFn (cxS F tyl [(54, c_impl_ValidState F), (92, c_impl_sizeOk F)] [] [] 0) Try.f59 false [V.agg [A.fl .f32 x0, A.fl .f32 x1], V.at (A.fl .f32 x2)] [] = bif Pure.impl_ValidState F x0 x1 then some ⟨V.at (A.bool (Pure.impl_sizeOk F x2)), none, []⟩ else some ⟨V.at (A.bool false), none, []⟩ := by kernel_rfl
  rw [h0]
  unfold Pure.impl_stateOk
  cases (Pure.impl_ValidState F x0 x1) with
  | true =>
    rfl
  | false =>
    rfl
theorem ok_impl_stateOk : CallOK Try.prog 59 (c_impl_stateOk real) := by
  refine callOK_of fun args h ret hc => ?_
  unfold c_impl_stateOk at hc
  split at hc
  · rename_i x0 x1 x2
    obtain ⟨_, rfl⟩ := some_ret hc
    exact holds_ev prog_ok (allOK_cons ok_impl_ValidState (allOK_cons ok_impl_sizeOk allOK_nil)) Try.func59 rfl rfl smL_nil rfl (e_impl_stateOk real x0 x1 x2)
  · cases hc
def Pure.impl_in (F : FOps) (x0 x1 x2 : Int) : Bool := bif decide (x0 ≥ x1) then decide (x0 ≤ x2) else false
def c_impl_in (F : FOps) : Con
  | [V.at (A.int .i64 x0), V.at (A.int .i64 x1), V.at (A.int .i64 x2)], [] => some (true, ⟨V.at (A.bool (Pure.impl_in F x0 x1 x2)), none, []⟩)
  | _, _ => none
theorem e_impl_in (F : FOps) (x0 x1 x2 : Int) : evFn (cxS F tyl [] [] [] 0) Try.f76 false [V.at (A.int .i64 x0), V.at (A.int .i64 x1), V.at (A.int .i64 x2)] [] = some ⟨V.at (A.bool (Pure.impl_in F x0 x1 x2)), none, []⟩ := by
  have h0 : evFn (cxS F tyl [] [] [] 0) Try.f76 false [V.at (A.int .i64 x0), V.at (A.int .i64 x1), V.at (A.int .i64 x2)] [] = bif decide (x0 ≥ x1) then some ⟨V.at (A.bool (decide (x0 ≤ x2))), none, []⟩ else some ⟨V.at (A.bool false), none, []⟩ := by kernel_rfl
  rw [h0]
  unfold Pure.impl_in
  cases (decide (x0 ≥ x1)) with
  | true =>
    rfl
  | false =>
    rfl
theorem ok_impl_in : CallOK Try.prog 76 (c_impl_in real) := by
  refine callOK_of fun args h ret hc => ?_
  unfold c_impl_in at hc
  split at hc
  · rename_i x0 x1 x2
    obtain ⟨_, rfl⟩ := some_ret hc
    exact holds_ev prog_ok allOK_nil Try.func76 rfl rfl smL_nil rfl (e_impl_in real x0 x1 x2)
  · cases hc
def c_impl_gridOk (F : FOps) : Con
  | [V.at (A.int .i64 x0)], [] => some (true, ⟨V.at (A.bool (Pure.impl_in F x0 1 32)), none, []⟩)
  | _, _ => none
theorem e_impl_gridOk (F : FOps) (x0 : Int) : evFn (cxS F tyl [(76, c_impl_in F)] [] [] 0) Try.f80 false [V.at (A.int .i64 x0)] [] = some ⟨V.at (A.bool (Pure.impl_in F x0 1 32)), none, []⟩ := by
  kernel_rfl
theorem ok_impl_gridOk : CallOK Try.prog 80 (c_impl_gridOk real) := by
  refine callOK_of fun args h ret hc => ?_
  unfold c_impl_gridOk at hc
  split at hc
  · rename_i x0
    obtain ⟨_, rfl⟩ := some_ret hc
    exact holds_ev prog_ok (allOK_cons ok_impl_in allOK_nil) Try.func80 rfl rfl smL_nil rfl (e_impl_gridOk real x0)
  · cases hc
def Pure.impl_WrapKick (F : FOps) (x0 : Int) : Int := bif Pure.impl_IsFinite F x0 then bif F.cmp .geq .f32 (F.conv .f64 .f32 (F.bin .sub .f64 (F.conv .f32 .f64 x0) (F.integral Ieee.Toward.down (F.bin .add .f64 (F.conv .f32 .f64 x0) 4602678819172646912)))) 1056964608 then 3204448256 else bif F.cmp .eql .f32 (F.conv .f64 .f32 (F.bin .sub .f64 (F.conv .f32 .f64 x0) (F.integral Ieee.Toward.down (F.bin .add .f64 (F.conv .f32 .f64 x0) 4602678819172646912)))) 0 then 0 else F.conv .f64 .f32 (F.bin .sub .f64 (F.conv .f32 .f64 x0) (F.integral Ieee.Toward.down (F.bin .add .f64 (F.conv .f32 .f64 x0) 4602678819172646912))) else 0
def Pure.impl_WrapKick_ok (F : FOps) (x0 : Int) : Bool := bif Pure.impl_IsFinite F x0 then bif F.convOk .f32 .f64 x0 then F.convOk .f64 .f32 (F.bin .sub .f64 (F.conv .f32 .f64 x0) (F.integral Ieee.Toward.down (F.bin .add .f64 (F.conv .f32 .f64 x0) 4602678819172646912))) else false else true
def c_impl_WrapKick (F : FOps) : Con
  | [V.at (A.fl .f32 x0)], [] => some (Pure.impl_WrapKick_ok F x0, ⟨V.tup [(false, [A.fl .f32 (Pure.impl_WrapKick F x0)]), (false, [A.bool (Pure.impl_IsFinite F x0)])], none, []⟩)
  | _, _ => none
theorem e_impl_WrapKick (F : FOps) (x0 : Int) : Pure.impl_WrapKick_ok F x0 = true → evFn (cxS F tyl [(95, c_impl_IsFinite F), (89, c_math_Floor F)] [] [] 0) Try.f91 false [V.at (A.fl .f32 x0)] [] = some ⟨V.tup [(false, [A.fl .f32 (Pure.impl_WrapKick F x0)]), (false, [A.bool (Pure.impl_IsFinite F x0)])], none, []⟩ := by
  have h0 : evFn (cxS F tyl [(95, c_impl_IsFinite F), (89, c_math_Floor F)] [] [] 0) Try.f91 false [V.at (A.fl .f32 x0)] [] = bif Bool.not (Pure.impl_IsFinite F x0) then some ⟨V.tup [(false, [A.fl .f32 0]), (false, [A.bool false])], none, []⟩ else bif F.convOk .f32 .f64 x0 then bif F.convOk .f32 .f64 x0 then bif F.convOk .f64 .f32 (F.bin .sub .f64 (F.conv .f32 .f64 x0) (F.integral Ieee.Toward.down (F.bin .add .f64 (F.conv .f32 .f64 x0) 4602678819172646912))) then bif F.cmp .geq .f32 (F.conv .f64 .f32 (F.bin .sub .f64 (F.conv .f32 .f64 x0) (F.integral Ieee.Toward.down (F.bin .add .f64 (F.conv .f32 .f64 x0) 4602678819172646912)))) 1056964608 then some ⟨V.tup [(false, [A.fl .f32 3204448256]), (false, [A.bool true])], none, []⟩ else bif F.cmp .eql .f32 (F.conv .f64 .f32 (F.bin .sub .f64 (F.conv .f32 .f64 x0) (F.integral Ieee.Toward.down (F.bin .add .f64 (F.conv .f32 .f64 x0) 4602678819172646912)))) 0 then some ⟨V.tup [(false, [A.fl .f32 0]), (false, [A.bool true])], none, []⟩ else some ⟨V.tup [(false, [A.fl .f32 (F.conv .f64 .f32 (F.bin .sub .f64 (F.conv .f32 .f64 x0) (F.integral Ieee.Toward.down (F.bin .add .f64 (F.conv .f32 .f64 x0) 4602678819172646912))))]), (false, [A.bool true])], none, []⟩ else none else none else none := by kernel_rfl
  rw [h0]
  unfold Pure.impl_WrapKick Pure.impl_WrapKick_ok
  cases (Pure.impl_IsFinite F x0) with
  | true =>
    cases (F.convOk .f32 .f64 x0) with
    | true =>
      cases (F.convOk .f64 .f32 (F.bin .sub .f64 (F.conv .f32 .f64 x0) (F.integral Ieee.Toward.down (F.bin .add .f64 (F.conv .f32 .f64 x0) 4602678819172646912)))) with
      | true =>
        cases (F.cmp .geq .f32 (F.conv .f64 .f32 (F.bin .sub .f64 (F.conv .f32 .f64 x0) (F.integral Ieee.Toward.down (F.bin .add .f64 (F.conv .f32 .f64 x0) 4602678819172646912)))) 1056964608) with
        | true =>
          intro _; rfl
        | false =>
          cases (F.cmp .eql .f32 (F.conv .f64 .f32 (F.bin .sub .f64 (F.conv .f32 .f64 x0) (F.integral Ieee.Toward.down (F.bin .add .f64 (F.conv .f32 .f64 x0) 4602678819172646912)))) 0) with
          | true =>
            intro _; rfl
          | false =>
            intro _; rfl
      | false =>
        intro h; exact absurd h Bool.false_ne_true
    | false =>
      intro h; exact absurd h Bool.false_ne_true
  | false =>
    intro _; rfl
theorem ok_impl_WrapKick : CallOK Try.prog 91 (c_impl_WrapKick real) := by
  refine callOK_of fun args h ret hc => ?_
  unfold c_impl_WrapKick at hc
  split at hc
  · rename_i x0
    obtain ⟨hok, rfl⟩ := some_ret hc
    exact holds_ev prog_ok (allOK_cons ok_impl_IsFinite (allOK_cons ok_math_Floor allOK_nil)) Try.func91 rfl rfl smL_nil rfl (e_impl_WrapKick real x0 hok)
  · cases hc
def Pure.impl_kicked_ok (F : FOps) (x0 : Int) : Bool := Pure.impl_WrapKick_ok F x0
def c_impl_kicked (F : FOps) : Con
  | [V.at (A.fl .f32 x0)], [] => some (Pure.impl_kicked_ok F x0, ⟨V.at (A.fl .f32 (Pure.impl_WrapKick F x0)), none, []⟩)
  | _, _ => none
theorem e_impl_kicked (F : FOps) (x0 : Int) : Pure.impl_kicked_ok F x0 = true → evFn (cxS F tyl [(91, c_impl_WrapKick F)] [] [] 0) Try.f56 false [V.at (A.fl .f32 x0)] [] = some ⟨V.at (A.fl .f32 (Pure.impl_WrapKick F x0)), none, []⟩ := by
  have h0 : evFn (cxS F tyl [(91, c_impl_WrapKick F)] [] [] 0) Try.f56 false [V.at (A.fl .f32 x0)] [] = bif Pure.impl_WrapKick_ok F x0 then some ⟨V.at (A.fl .f32 (Pure.impl_WrapKick F x0)), none, []⟩ else none := by kernel_rfl
  rw [h0]
  unfold Pure.impl_kicked_ok
  cases (Pure.impl_WrapKick_ok F x0) with
  | true =>
    intro _; rfl
  | false =>
    intro h; exact absurd h Bool.false_ne_true
theorem ok_impl_kicked : CallOK Try.prog 56 (c_impl_kicked real) := by
  refine callOK_of fun args h ret hc => ?_
  unfold c_impl_kicked at hc
  split at hc
  · rename_i x0
    obtain ⟨hok, rfl⟩ := some_ret hc
    exact holds_ev prog_ok (allOK_cons ok_impl_WrapKick allOK_nil) Try.func56 rfl rfl smL_nil rfl (e_impl_kicked real x0 hok)
  · cases hc
def Pure.impl_WrapTurn (F : FOps) (x0 : Int) : Int := bif Pure.impl_IsFinite F x0 then bif F.cmp .eql .f32 (F.conv .f64 .f32 (F.bin .sub .f64 (F.conv .f32 .f64 x0) (F.integral Ieee.Toward.down (F.conv .f32 .f64 x0)))) 1065353216 then 0 else bif F.cmp .eql .f32 (F.conv .f64 .f32 (F.bin .sub .f64 (F.conv .f32 .f64 x0) (F.integral Ieee.Toward.down (F.conv .f32 .f64 x0)))) 0 then 0 else F.conv .f64 .f32 (F.bin .sub .f64 (F.conv .f32 .f64 x0) (F.integral Ieee.Toward.down (F.conv .f32 .f64 x0))) else 0
def Pure.impl_WrapTurn_ok (F : FOps) (x0 : Int) : Bool := bif Pure.impl_IsFinite F x0 then bif F.convOk .f32 .f64 x0 then F.convOk .f64 .f32 (F.bin .sub .f64 (F.conv .f32 .f64 x0) (F.integral Ieee.Toward.down (F.conv .f32 .f64 x0))) else false else true
def c_impl_WrapTurn (F : FOps) : Con
  | [V.at (A.fl .f32 x0)], [] => some (Pure.impl_WrapTurn_ok F x0, ⟨V.tup [(false, [A.fl .f32 (Pure.impl_WrapTurn F x0)]), (false, [A.bool (Pure.impl_IsFinite F x0)])], none, []⟩)
  | _, _ => none
theorem e_impl_WrapTurn (F : FOps) (x0 : Int) : Pure.impl_WrapTurn_ok F x0 = true → evFn (cxS F tyl [(95, c_impl_IsFinite F), (89, c_math_Floor F)] [] [] 0) Try.f90 false [V.at (A.fl .f32 x0)] [] = some ⟨V.tup [(false, [A.fl .f32 (Pure.impl_WrapTurn F x0)]), (false, [A.bool (Pure.impl_IsFinite F x0)])], none, []⟩ := by
  have h0 : evFn (cxS F tyl [(95, c_impl_IsFinite F), (89, c_math_Floor F)] [] [] 0) Try.f90 false [V.at (A.fl .f32 x0)] [] = bif Bool.not (Pure.impl_IsFinite F x0) then some ⟨V.tup [(false, [A.fl .f32 0]), (false, [A.bool false])], none, []⟩ else bif F.convOk .f32 .f64 x0 then bif F.convOk .f32 .f64 x0 then bif F.convOk .f64 .f32 (F.bin .sub .f64 (F.conv .f32 .f64 x0) (F.integral Ieee.Toward.down (F.conv .f32 .f64 x0))) then bif F.cmp .eql .f32 (F.conv .f64 .f32 (F.bin .sub .f64 (F.conv .f32 .f64 x0) (F.integral Ieee.Toward.down (F.conv .f32 .f64 x0)))) 1065353216 then some ⟨V.tup [(false, [A.fl .f32 0]), (false, [A.bool true])], none, []⟩ else bif F.cmp .eql .f32 (F.conv .f64 .f32 (F.bin .sub .f64 (F.conv .f32 .f64 x0) (F.integral Ieee.Toward.down (F.conv .f32 .f64 x0)))) 0 then some ⟨V.tup [(false, [A.fl .f32 0]), (false, [A.bool true])], none, []⟩ else some ⟨V.tup [(false, [A.fl .f32 (F.conv .f64 .f32 (F.bin .sub .f64 (F.conv .f32 .f64 x0) (F.integral Ieee.Toward.down (F.conv .f32 .f64 x0))))]), (false, [A.bool true])], none, []⟩ else none else none else none := by kernel_rfl
  rw [h0]
  unfold Pure.impl_WrapTurn Pure.impl_WrapTurn_ok
  cases (Pure.impl_IsFinite F x0) with
  | true =>
    cases (F.convOk .f32 .f64 x0) with
    | true =>
      cases (F.convOk .f64 .f32 (F.bin .sub .f64 (F.conv .f32 .f64 x0) (F.integral Ieee.Toward.down (F.conv .f32 .f64 x0)))) with
      | true =>
        cases (F.cmp .eql .f32 (F.conv .f64 .f32 (F.bin .sub .f64 (F.conv .f32 .f64 x0) (F.integral Ieee.Toward.down (F.conv .f32 .f64 x0)))) 1065353216) with
        | true =>
          intro _; rfl
        | false =>
          cases (F.cmp .eql .f32 (F.conv .f64 .f32 (F.bin .sub .f64 (F.conv .f32 .f64 x0) (F.integral Ieee.Toward.down (F.conv .f32 .f64 x0)))) 0) with
          | true =>
            intro _; rfl
          | false =>
            intro _; rfl
      | false =>
        intro h; exact absurd h Bool.false_ne_true
    | false =>
      intro h; exact absurd h Bool.false_ne_true
  | false =>
    intro _; rfl
theorem ok_impl_WrapTurn : CallOK Try.prog 90 (c_impl_WrapTurn real) := by
  refine callOK_of fun args h ret hc => ?_
  unfold c_impl_WrapTurn at hc
  split at hc
  · rename_i x0
    obtain ⟨hok, rfl⟩ := some_ret hc
    exact holds_ev prog_ok (allOK_cons ok_impl_IsFinite (allOK_cons ok_math_Floor allOK_nil)) Try.func90 rfl rfl smL_nil rfl (e_impl_WrapTurn real x0 hok)
  · cases hc
def Pure.impl_wrapped_ok (F : FOps) (x0 : Int) : Bool := Pure.impl_WrapTurn_ok F x0
def c_impl_wrapped (F : FOps) : Con
  | [V.at (A.fl .f32 x0)], [] => some (Pure.impl_wrapped_ok F x0, ⟨V.at (A.fl .f32 (Pure.impl_WrapTurn F x0)), none, []⟩)
  | _, _ => none
theorem e_impl_wrapped (F : FOps) (x0 : Int) : Pure.impl_wrapped_ok F x0 = true → evFn (cxS F tyl [(90, c_impl_WrapTurn F)] [] [] 0) Try.f55 false [V.at (A.fl .f32 x0)] [] = some ⟨V.at (A.fl .f32 (Pure.impl_WrapTurn F x0)), none, []⟩ := by
  have h0 : evFn (cxS F tyl [(90, c_impl_WrapTurn F)] [] [] 0) Try.f55 false [V.at (A.fl .f32 x0)] [] = bif Pure.impl_WrapTurn_ok F x0 then some ⟨V.at (A.fl .f32 (Pure.impl_WrapTurn F x0)), none, []⟩ else none := by kernel_rfl
  rw [h0]
  unfold Pure.impl_wrapped_ok
  cases (Pure.impl_WrapTurn_ok F x0) with
  | true =>
    intro _; rfl
  | false =>
    intro h; exact absurd h Bool.false_ne_true
theorem ok_impl_wrapped : CallOK Try.prog 55 (c_impl_wrapped real) := by
  refine callOK_of fun args h ret hc => ?_
  unfold c_impl_wrapped at hc
  split at hc
  · rename_i x0
    obtain ⟨hok, rfl⟩ := some_ret hc
    exact holds_ev prog_ok (allOK_cons ok_impl_WrapTurn allOK_nil) Try.func55 rfl rfl smL_nil rfl (e_impl_wrapped real x0 hok)
  · cases hc
def Pure.impl_State_damped (F : FOps) (x0 x1 x2 x3 : Int) : Int := Pure.impl_WrapTurn F (F.bin .add .f32 x0 (Pure.impl_WrapKick F (F.bin .add .f32 (F.bin .mul .f32 x3 x1) (F.bin .mul .f32 x2 (Pure.impl_SineTurns F x0)))))
def Pure.impl_State_damped_1 (F : FOps) (x0 x1 x2 x3 : Int) : Int := Pure.impl_WrapKick F (F.bin .add .f32 (F.bin .mul .f32 x3 x1) (F.bin .mul .f32 x2 (Pure.impl_SineTurns F x0)))
def Pure.impl_State_damped_ok (F : FOps) (x0 x1 x2 x3 : Int) : Bool := bif Pure.impl_SineTurns_ok F x0 then bif Pure.impl_kicked_ok F (F.bin .add .f32 (F.bin .mul .f32 x3 x1) (F.bin .mul .f32 x2 (Pure.impl_SineTurns F x0))) then Pure.impl_wrapped_ok F (F.bin .add .f32 x0 (Pure.impl_WrapKick F (F.bin .add .f32 (F.bin .mul .f32 x3 x1) (F.bin .mul .f32 x2 (Pure.impl_SineTurns F x0))))) else false else false
def c_impl_State_damped (F : FOps) : Con
  | [V.agg [A.fl .f32 x0, A.fl .f32 x1], V.at (A.fl .f32 x2), V.at (A.fl .f32 x3)], [] => some (Pure.impl_State_damped_ok F x0 x1 x2 x3, ⟨V.agg [A.fl .f32 (Pure.impl_State_damped F x0 x1 x2 x3), A.fl .f32 (Pure.impl_State_damped_1 F x0 x1 x2 x3)], none, []⟩)
  | _, _ => none
theorem e_impl_State_damped (F : FOps) (x0 x1 x2 x3 : Int) : Pure.impl_State_damped_ok F x0 x1 x2 x3 = true → evFn (cxS F tyl [(63, c_impl_SineTurns F), (56, c_impl_kicked F), (55, c_impl_wrapped F)] [] [] 0) Try.f69 false [V.agg [A.fl .f32 x0, A.fl .f32 x1], V.at (A.fl .f32 x2), V.at (A.fl .f32 x3)] [] = some ⟨V.agg [A.fl .f32 (Pure.impl_State_damped F x0 x1 x2 x3), A.fl .f32 (Pure.impl_State_damped_1 F x0 x1 x2 x3)], none, []⟩ := by
  have h0 : evFn (cxS F tyl [(63, c_impl_SineTurns F), (56, c_impl_kicked F), (55, c_impl_wrapped F)] [] [] 0) Try.f69 false [V.agg [A.fl .f32 x0, A.fl .f32 x1], V.at (A.fl .f32 x2), V.at (A.fl .f32 x3)] [] = bif Pure.impl_SineTurns_ok F x0 then bif Pure.impl_kicked_ok F (F.bin .add .f32 (F.bin .mul .f32 x3 x1) (F.bin .mul .f32 x2 (Pure.impl_SineTurns F x0))) then bif Pure.impl_wrapped_ok F (F.bin .add .f32 x0 (Pure.impl_WrapKick F (F.bin .add .f32 (F.bin .mul .f32 x3 x1) (F.bin .mul .f32 x2 (Pure.impl_SineTurns F x0))))) then some ⟨V.agg [A.fl .f32 (Pure.impl_WrapTurn F (F.bin .add .f32 x0 (Pure.impl_WrapKick F (F.bin .add .f32 (F.bin .mul .f32 x3 x1) (F.bin .mul .f32 x2 (Pure.impl_SineTurns F x0)))))), A.fl .f32 (Pure.impl_WrapKick F (F.bin .add .f32 (F.bin .mul .f32 x3 x1) (F.bin .mul .f32 x2 (Pure.impl_SineTurns F x0))))], none, []⟩ else none else none else none := by kernel_rfl
  rw [h0]
  unfold Pure.impl_State_damped Pure.impl_State_damped_1 Pure.impl_State_damped_ok
  cases (Pure.impl_SineTurns_ok F x0) with
  | true =>
    cases (Pure.impl_kicked_ok F (F.bin .add .f32 (F.bin .mul .f32 x3 x1) (F.bin .mul .f32 x2 (Pure.impl_SineTurns F x0)))) with
    | true =>
      cases (Pure.impl_wrapped_ok F (F.bin .add .f32 x0 (Pure.impl_WrapKick F (F.bin .add .f32 (F.bin .mul .f32 x3 x1) (F.bin .mul .f32 x2 (Pure.impl_SineTurns F x0)))))) with
      | true =>
        intro _; rfl
      | false =>
        intro h; exact absurd h Bool.false_ne_true
    | false =>
      intro h; exact absurd h Bool.false_ne_true
  | false =>
    intro h; exact absurd h Bool.false_ne_true
theorem ok_impl_State_damped : CallOK Try.prog 69 (c_impl_State_damped real) := by
  refine callOK_of fun args h ret hc => ?_
  unfold c_impl_State_damped at hc
  split at hc
  · rename_i x0 x1 x2 x3
    obtain ⟨hok, rfl⟩ := some_ret hc
    exact holds_ev prog_ok (allOK_cons ok_impl_SineTurns (allOK_cons ok_impl_kicked (allOK_cons ok_impl_wrapped allOK_nil))) Try.func69 rfl rfl smL_nil rfl (e_impl_State_damped real x0 x1 x2 x3 hok)
  · cases hc
def Pure.impl_State_mapped_ok (F : FOps) (x0 x1 x2 : Int) : Bool := Pure.impl_State_damped_ok F x0 x1 x2 1065353216
def c_impl_State_mapped (F : FOps) : Con
  | [V.agg [A.fl .f32 x0, A.fl .f32 x1], V.at (A.fl .f32 x2)], [] => some (Pure.impl_State_mapped_ok F x0 x1 x2, ⟨V.agg [A.fl .f32 (Pure.impl_State_damped F x0 x1 x2 1065353216), A.fl .f32 (Pure.impl_State_damped_1 F x0 x1 x2 1065353216)], none, []⟩)
  | _, _ => none
theorem e_impl_State_mapped (F : FOps) (x0 x1 x2 : Int) : Pure.impl_State_mapped_ok F x0 x1 x2 = true → evFn (cxS F tyl [(69, c_impl_State_damped F)] [] [] 0) Try.f65 false [V.agg [A.fl .f32 x0, A.fl .f32 x1], V.at (A.fl .f32 x2)] [] = some ⟨V.agg [A.fl .f32 (Pure.impl_State_damped F x0 x1 x2 1065353216), A.fl .f32 (Pure.impl_State_damped_1 F x0 x1 x2 1065353216)], none, []⟩ := by
  have h0 : evFn (cxS F tyl [(69, c_impl_State_damped F)] [] [] 0) Try.f65 false [V.agg [A.fl .f32 x0, A.fl .f32 x1], V.at (A.fl .f32 x2)] [] = bif Pure.impl_State_damped_ok F x0 x1 x2 1065353216 then some ⟨V.agg [A.fl .f32 (Pure.impl_State_damped F x0 x1 x2 1065353216), A.fl .f32 (Pure.impl_State_damped_1 F x0 x1 x2 1065353216)], none, []⟩ else none := by kernel_rfl
  rw [h0]
  unfold Pure.impl_State_mapped_ok
  cases (Pure.impl_State_damped_ok F x0 x1 x2 1065353216) with
  | true =>
    intro _; rfl
  | false =>
    intro h; exact absurd h Bool.false_ne_true
theorem ok_impl_State_mapped : CallOK Try.prog 65 (c_impl_State_mapped real) := by
  refine callOK_of fun args h ret hc => ?_
  unfold c_impl_State_mapped at hc
  split at hc
  · rename_i x0 x1 x2
    obtain ⟨hok, rfl⟩ := some_ret hc
    exact holds_ev prog_ok (allOK_cons ok_impl_State_damped allOK_nil) Try.func65 rfl rfl smL_nil rfl (e_impl_State_mapped real x0 x1 x2 hok)
  · cases hc
def Pure.impl_State_orbit_L0 (F : FOps) (y0 y1 : Int) : Nat → Int → Int → Int → (List (List Int)) → (Bool × (List (List Int)))
  | 0, _, _, _, _ => (false, [])
  | n + 1, y2, y3, y4, y5 => bif (decide (y2 < y1)) then (bif (Pure.impl_State_mapped_ok F y3 y4 y0) then (bif (decide ((Nat.succ y5.length) ≤ 1073741824)) then (Pure.impl_State_orbit_L0 F y0 y1 n (IntKind.wrap .i64 (y2 + 1)) (Pure.impl_State_damped F y3 y4 y0 1065353216) (Pure.impl_State_damped_1 F y3 y4 y0 1065353216) (y5 ++ [[Pure.impl_State_damped F y3 y4 y0 1065353216, Pure.impl_State_damped_1 F y3 y4 y0 1065353216]])) else ((false, []))) else ((false, []))) else ((true, y5))
def R_impl_State_orbit_L0 (r : (Bool × (List (List Int)))) : Bool × Ends := ((r).1, (.one Ex.normal [V.at (A.sl 0)] [⟨true, .rows [K.f .f32, K.f .f32] (r).2⟩]))
def S_impl_State_orbit_L0 (F : FOps) : Sm := ⟨[1, 3, 7, 10, 11], [22, 0, 56, 2, 2], [7], fun vals hp => match vals, hp with
  | [V.at (A.fl .f32 y0), V.at (A.ptr 0 0 0), V.at (A.sl 1), V.at (A.int .i64 y1), V.at (A.int .i64 y2)], [⟨true, .box [A.fl .f32 y3, A.fl .f32 y4]⟩, ⟨true, .rows [K.f .f32, K.f .f32] y5⟩] => some (R_impl_State_orbit_L0  (Pure.impl_State_orbit_L0 F y0 y1 (y1 - y2 + 1).toNat y2 y3 y4 y5))
  | _, _ => none⟩
theorem l_impl_State_orbit_L0 (F : FOps) (y0 y1 : Int) : ∀ (fuel : Nat) (y2 y3 y4 : Int) (y5 : List (List Int)), (Pure.impl_State_orbit_L0 F y0 y1 fuel y2 y3 y4 y5).1 = true → loopOf (cxS F tyl [(65, c_impl_State_mapped F)] [] [] 0) 0 22 0 [1, 3, 7, 10, 11] [22, 0, 56, 2, 2] [7] (loopB 0 (codeOf Try.f77)) fuel [V.at (A.fl .f32 y0), V.at (A.ptr 0 0 0), V.at (A.sl 1), V.at (A.int .i64 y1), V.at (A.int .i64 y2)] [⟨true, .box [A.fl .f32 y3, A.fl .f32 y4]⟩, ⟨true, .rows [K.f .f32, K.f .f32] y5⟩] = resOf (R_impl_State_orbit_L0  (Pure.impl_State_orbit_L0 F y0 y1 fuel y2 y3 y4 y5)) := by
  intro fuel
  induction fuel with
  | zero => intro y2 y3 y4 y5 h; exact absurd h Bool.false_ne_true
  | succ n ih =>
    intro y2 y3 y4 y5
    have h0 : roundOf (cxS F tyl [(65, c_impl_State_mapped F)] [] [] 0) 0 22 0 [1, 3, 7, 10, 11] [22, 0, 56, 2, 2] [7] (loopB 0 (codeOf Try.f77)) [V.at (A.fl .f32 y0), V.at (A.ptr 0 0 0), V.at (A.sl 1), V.at (A.int .i64 y1), V.at (A.int .i64 y2)] [⟨true, .box [A.fl .f32 y3, A.fl .f32 y4]⟩, ⟨true, .rows [K.f .f32, K.f .f32] y5⟩] = (bif decide (y2 < y1) then bif Pure.impl_State_mapped_ok F y3 y4 y0 then bif decide ((Nat.succ y5.length) ≤ 1073741824) then some (true, (Ex.normal, ([V.at (A.fl .f32 y0), V.at (A.ptr 0 0 0), V.at (A.sl 1), V.at (A.int .i64 y1), V.at (A.int .i64 (IntKind.wrap .i64 (y2 + 1)))], [⟨true, .box [A.fl .f32 (Pure.impl_State_damped F y3 y4 y0 1065353216), A.fl .f32 (Pure.impl_State_damped_1 F y3 y4 y0 1065353216)]⟩, ⟨true, .rows [K.f .f32, K.f .f32] (y5 ++ [[Pure.impl_State_damped F y3 y4 y0 1065353216, Pure.impl_State_damped_1 F y3 y4 y0 1065353216]])⟩]))) else none else none else some (false, (Ex.normal, ([V.at (A.sl 0)], [⟨true, .rows [K.f .f32, K.f .f32] y5⟩])))) := by kernel_rfl
    unfold loopOf
    rw [h0]
    unfold Pure.impl_State_orbit_L0
    cases (decide (y2 < y1)) with
    | true =>
      cases (Pure.impl_State_mapped_ok F y3 y4 y0) with
      | true =>
        cases (decide ((Nat.succ y5.length) ≤ 1073741824)) with
        | true =>
          exact ih _ _ _ _
        | false =>
          intro h; exact absurd h Bool.false_ne_true
      | false =>
        intro h; exact absurd h Bool.false_ne_true
    | false =>
      intro _; rfl
theorem t_impl_State_orbit_L0 : SmTo Try.prog 0 22 (S_impl_State_orbit_L0 real) 0 (.loop (loopB 0 (codeOf Try.f77))) := by
  refine smTo_ev (cl := [(65, c_impl_State_mapped real)]) (ef := []) (sm := []) (un := 0) prog_ok (allOK_cons ok_impl_State_mapped allOK_nil) smL_nil ?_
  intro vals hp q r h hq
  unfold S_impl_State_orbit_L0 at h
  dsimp only at h
  split at h
  · rename_i y0 y1 y2 y3 y4 y5
    obtain rfl := Option.some.inj h
    have h1 := hq
    unfold resOf at h1
    rw [chk_some] at h1
    exact ⟨_, (l_impl_State_orbit_L0 real y0 y1 _ y2 y3 y4 y5 h1.1).trans hq⟩
  · cases h
def Pure.impl_State_orbit (F : FOps) (x0 x1 x2 x3 : Int) : List (List Int) := Prod.snd (Pure.impl_State_orbit_L0 F x2 x3 (Int.toNat ((x3 - 0) + 1)) 0 x0 x1 [[x0, x1]])
def Pure.impl_State_orbit_ok (F : FOps) (x0 x1 x2 x3 : Int) : Bool := Prod.fst (Pure.impl_State_orbit_L0 F x2 x3 (Int.toNat ((x3 - 0) + 1)) 0 x0 x1 [[x0, x1]])
def c_impl_State_orbit (F : FOps) : Con
  | [V.agg [A.fl .f32 x0, A.fl .f32 x1], V.at (A.fl .f32 x2), V.at (A.int .i64 x3)], [] => some (Pure.impl_State_orbit_ok F x0 x1 x2 x3, ⟨V.at (A.sl 0), none, [⟨true, .rows [K.f .f32, K.f .f32] (Pure.impl_State_orbit F x0 x1 x2 x3)⟩]⟩)
  | _, _ => none
theorem e_impl_State_orbit (F : FOps) (x0 x1 x2 x3 : Int) : Pure.impl_State_orbit_ok F x0 x1 x2 x3 = true → evFn (cxS F tyl [(65, c_impl_State_mapped F)] [] [(0, S_impl_State_orbit_L0 F)] 0) Try.f77 false [V.agg [A.fl .f32 x0, A.fl .f32 x1], V.at (A.fl .f32 x2), V.at (A.int .i64 x3)] [] = some ⟨V.at (A.sl 0), none, [⟨true, .rows [K.f .f32, K.f .f32] (Pure.impl_State_orbit F x0 x1 x2 x3)⟩]⟩ := by
  have h0 : evFn (cxS F tyl [(65, c_impl_State_mapped F)] [] [(0, S_impl_State_orbit_L0 F)] 0) Try.f77 false [V.agg [A.fl .f32 x0, A.fl .f32 x1], V.at (A.fl .f32 x2), V.at (A.int .i64 x3)] [] = bif Prod.fst (Pure.impl_State_orbit_L0 F x2 x3 (Int.toNat ((x3 - 0) + 1)) 0 x0 x1 [[x0, x1]]) then some ⟨V.at (A.sl 0), none, [⟨true, .rows [K.f .f32, K.f .f32] (Prod.snd (Pure.impl_State_orbit_L0 F x2 x3 (Int.toNat ((x3 - 0) + 1)) 0 x0 x1 [[x0, x1]]))⟩]⟩ else none := by kernel_rfl
  rw [h0]
  unfold Pure.impl_State_orbit Pure.impl_State_orbit_ok
  cases (Prod.fst (Pure.impl_State_orbit_L0 F x2 x3 (Int.toNat ((x3 - 0) + 1)) 0 x0 x1 [[x0, x1]])) with
  | true =>
    intro _; rfl
  | false =>
    intro h; exact absurd h Bool.false_ne_true
theorem ok_impl_State_orbit : CallOK Try.prog 77 (c_impl_State_orbit real) := by
  refine callOK_of fun args h ret hc => ?_
  unfold c_impl_State_orbit at hc
  split at hc
  · rename_i x0 x1 x2 x3
    obtain ⟨hok, rfl⟩ := some_ret hc
    exact holds_ev prog_ok (allOK_cons ok_impl_State_mapped allOK_nil) Try.func77 rfl rfl (smL_cons (body := .loop (loopB 0 (codeOf Try.f77))) (by kernel_rfl) t_impl_State_orbit_L0 smL_nil) rfl (e_impl_State_orbit real x0 x1 x2 x3 hok)
  · cases hc
def Pure.impl_box (F : FOps) (x0 x1 : Int) : Int := bif decide ((IntKind.wrap .i64 (x0 - 1)) < (F.toInt .f64 IntKind.i64 (F.integral Ieee.Toward.down (F.conv .f32 .f64 (F.bin .mul .f32 (F.ofInt .f32 x0) x1))))) then IntKind.wrap .i64 (x0 - 1) else F.toInt .f64 IntKind.i64 (F.integral Ieee.Toward.down (F.conv .f32 .f64 (F.bin .mul .f32 (F.ofInt .f32 x0) x1)))
def Pure.impl_box_ok (F : FOps) (x0 x1 : Int) : Bool := bif F.convOk .f32 .f64 (F.bin .mul .f32 (F.ofInt .f32 x0) x1) then F.toIntOk .f64 IntKind.i64 (F.integral Ieee.Toward.down (F.conv .f32 .f64 (F.bin .mul .f32 (F.ofInt .f32 x0) x1))) else false
def c_impl_box (F : FOps) : Con
  | [V.at (A.int .i64 x0), V.at (A.fl .f32 x1)], [] => some (Pure.impl_box_ok F x0 x1, ⟨V.at (A.int .i64 (Pure.impl_box F x0 x1)), none, []⟩)
  | _, _ => none
theorem e_impl_box (F : FOps) (x0 x1 : Int) : Pure.impl_box_ok F x0 x1 = true → evFn (cxS F tyl [(89, c_math_Floor F)] [] [] 0) Try.f81 false [V.at (A.int .i64 x0), V.at (A.fl .f32 x1)] [] = some ⟨V.at (A.int .i64 (Pure.impl_box F x0 x1)), none, []⟩ := by
  have h0 : evFn (cxS F tyl [(89, c_math_Floor F)] [] [] 0) Try.f81 false [V.at (A.int .i64 x0), V.at (A.fl .f32 x1)] [] = bif F.convOk .f32 .f64 (F.bin .mul .f32 (F.ofInt .f32 x0) x1) then bif F.toIntOk .f64 IntKind.i64 (F.integral Ieee.Toward.down (F.conv .f32 .f64 (F.bin .mul .f32 (F.ofInt .f32 x0) x1))) then some ⟨V.at (A.int .i64 (bif decide ((IntKind.wrap .i64 (x0 - 1)) < (F.toInt .f64 IntKind.i64 (F.integral Ieee.Toward.down (F.conv .f32 .f64 (F.bin .mul .f32 (F.ofInt .f32 x0) x1))))) then IntKind.wrap .i64 (x0 - 1) else F.toInt .f64 IntKind.i64 (F.integral Ieee.Toward.down (F.conv .f32 .f64 (F.bin .mul .f32 (F.ofInt .f32 x0) x1))))), none, []⟩ else none else none := by kernel_rfl
  rw [h0]
  unfold Pure.impl_box Pure.impl_box_ok
  cases (F.convOk .f32 .f64 (F.bin .mul .f32 (F.ofInt .f32 x0) x1)) with
  | true =>
    cases (F.toIntOk .f64 IntKind.i64 (F.integral Ieee.Toward.down (F.conv .f32 .f64 (F.bin .mul .f32 (F.ofInt .f32 x0) x1)))) with
    | true =>
      intro _; rfl
    | false =>
      intro h; exact absurd h Bool.false_ne_true
  | false =>
    intro h; exact absurd h Bool.false_ne_true
theorem ok_impl_box : CallOK Try.prog 81 (c_impl_box real) := by
  refine callOK_of fun args h ret hc => ?_
  unfold c_impl_box at hc
  split at hc
  · rename_i x0 x1
    obtain ⟨hok, rfl⟩ := some_ret hc
    exact holds_ev prog_ok (allOK_cons ok_math_Floor allOK_nil) Try.func81 rfl rfl smL_nil rfl (e_impl_box real x0 x1 hok)
  · cases hc
def Pure.impl_BoxesOf_L0 (F : FOps) (y0 y1 : Int) (y4 : List (List Int)) : Nat → Int → (List (List Int)) → (Bool × (List (List Int)))
  | 0, _, _ => (false, [])
  | n + 1, y2, y3 => bif (decide (y2 < y1)) then (bif (decide (0 ≤ y2)) then (bif (decide (y2 < (Int.ofNat y4.length))) then (bif (Pure.impl_box_ok F y0 ((y4.getD y2.toNat []).getD 0 0)) then (bif (Pure.impl_box_ok F y0 (F.bin .add .f32 ((y4.getD y2.toNat []).getD 1 0) 1056964608)) then (bif (Bool.and (decide ((-9223372036854775808) ≤ (Pure.impl_box F y0 ((y4.getD y2.toNat []).getD 0 0)))) (decide ((Pure.impl_box F y0 ((y4.getD y2.toNat []).getD 0 0)) ≤ 9223372036854775807))) then (bif (Bool.and (decide ((-9223372036854775808) ≤ (Pure.impl_box F y0 (F.bin .add .f32 ((y4.getD y2.toNat []).getD 1 0) 1056964608)))) (decide ((Pure.impl_box F y0 (F.bin .add .f32 ((y4.getD y2.toNat []).getD 1 0) 1056964608)) ≤ 9223372036854775807))) then (Pure.impl_BoxesOf_L0 F y0 y1 y4 n (IntKind.wrap .i64 (y2 + 1)) (bif hasKey y3 (Pure.impl_box F y0 ((y4.getD y2.toNat []).getD 0 0)) (Pure.impl_box F y0 (F.bin .add .f32 ((y4.getD y2.toNat []).getD 1 0) 1056964608)) then y3 else y3 ++ [[Pure.impl_box F y0 ((y4.getD y2.toNat []).getD 0 0), Pure.impl_box F y0 (F.bin .add .f32 ((y4.getD y2.toNat []).getD 1 0) 1056964608)]])) else ((false, []))) else ((false, []))) else ((false, []))) else ((false, []))) else ((false, []))) else ((false, []))) else ((true, y3))
def R_impl_BoxesOf_L0 (r : (Bool × (List (List Int)))) : Bool × Ends := ((r).1, (.one Ex.normal [V.at (A.mp 0)] [⟨true, OC.mp IntKind.i64 (r).2⟩]))
def S_impl_BoxesOf_L0 (F : FOps) : Sm := ⟨[3, 10, 31, 32, 33], [2, 87, 56, 3, 3], [10], fun vals hp => match vals, hp with
  | [V.at (A.int .i64 y0), V.at (A.mp 0), V.at (A.sl 1), V.at (A.int .i64 y1), V.at (A.int .i64 y2)], [⟨true, OC.mp IntKind.i64 y3⟩, ⟨true, .rows [K.f .f32, K.f .f32] y4⟩] => some (R_impl_BoxesOf_L0  (Pure.impl_BoxesOf_L0 F y0 y1 y4 (y1 - y2 + 1).toNat y2 y3))
  | _, _ => none⟩
theorem l_impl_BoxesOf_L0 (F : FOps) (y0 y1 : Int) (y4 : List (List Int)) : ∀ (fuel : Nat) (y2 : Int) (y3 : List (List Int)), (Pure.impl_BoxesOf_L0 F y0 y1 y4 fuel y2 y3).1 = true → loopOf (cxS F tyl [(59, c_impl_stateOk F), (76, c_impl_in F), (80, c_impl_gridOk F), (77, c_impl_State_orbit F), (81, c_impl_box F)] [] [] 0) 0 51 0 [3, 10, 31, 32, 33] [2, 87, 56, 3, 3] [10] (loopB 0 (codeOf Try.f36)) fuel [V.at (A.int .i64 y0), V.at (A.mp 0), V.at (A.sl 1), V.at (A.int .i64 y1), V.at (A.int .i64 y2)] [⟨true, OC.mp IntKind.i64 y3⟩, ⟨true, .rows [K.f .f32, K.f .f32] y4⟩] = resOf (R_impl_BoxesOf_L0  (Pure.impl_BoxesOf_L0 F y0 y1 y4 fuel y2 y3)) := by
  intro fuel
  induction fuel with
  | zero => intro y2 y3 h; exact absurd h Bool.false_ne_true
  | succ n ih =>
    intro y2 y3
    have h0 : roundOf (cxS F tyl [(59, c_impl_stateOk F), (76, c_impl_in F), (80, c_impl_gridOk F), (77, c_impl_State_orbit F), (81, c_impl_box F)] [] [] 0) 0 51 0 [3, 10, 31, 32, 33] [2, 87, 56, 3, 3] [10] (loopB 0 (codeOf Try.f36)) [V.at (A.int .i64 y0), V.at (A.mp 0), V.at (A.sl 1), V.at (A.int .i64 y1), V.at (A.int .i64 y2)] [⟨true, OC.mp IntKind.i64 y3⟩, ⟨true, .rows [K.f .f32, K.f .f32] y4⟩] = (bif decide (y2 < y1) then bif decide (0 ≤ y2) then bif decide (y2 < (Int.ofNat y4.length)) then bif Pure.impl_box_ok F y0 ((y4.getD y2.toNat []).getD 0 0) then bif Pure.impl_box_ok F y0 (F.bin .add .f32 ((y4.getD y2.toNat []).getD 1 0) 1056964608) then bif Bool.and (decide ((-9223372036854775808) ≤ (Pure.impl_box F y0 ((y4.getD y2.toNat []).getD 0 0)))) (decide ((Pure.impl_box F y0 ((y4.getD y2.toNat []).getD 0 0)) ≤ 9223372036854775807)) then bif Bool.and (decide ((-9223372036854775808) ≤ (Pure.impl_box F y0 (F.bin .add .f32 ((y4.getD y2.toNat []).getD 1 0) 1056964608)))) (decide ((Pure.impl_box F y0 (F.bin .add .f32 ((y4.getD y2.toNat []).getD 1 0) 1056964608)) ≤ 9223372036854775807)) then some (true, (Ex.normal, ([V.at (A.int .i64 y0), V.at (A.mp 0), V.at (A.sl 1), V.at (A.int .i64 y1), V.at (A.int .i64 (IntKind.wrap .i64 (y2 + 1)))], [⟨true, OC.mp IntKind.i64 (bif hasKey y3 (Pure.impl_box F y0 ((y4.getD y2.toNat []).getD 0 0)) (Pure.impl_box F y0 (F.bin .add .f32 ((y4.getD y2.toNat []).getD 1 0) 1056964608)) then y3 else y3 ++ [[Pure.impl_box F y0 ((y4.getD y2.toNat []).getD 0 0), Pure.impl_box F y0 (F.bin .add .f32 ((y4.getD y2.toNat []).getD 1 0) 1056964608)]])⟩, ⟨true, .rows [K.f .f32, K.f .f32] y4⟩]))) else none else none else none else none else none else none else some (false, (Ex.normal, ([V.at (A.mp 0)], [⟨true, OC.mp IntKind.i64 y3⟩])))) := by kernel_rfl
    unfold loopOf
    rw [h0]
    unfold Pure.impl_BoxesOf_L0
    cases (decide (y2 < y1)) with
    | true =>
      cases (decide (0 ≤ y2)) with
      | true =>
        cases (decide (y2 < (Int.ofNat y4.length))) with
        | true =>
          cases (Pure.impl_box_ok F y0 ((y4.getD y2.toNat []).getD 0 0)) with
          | true =>
            cases (Pure.impl_box_ok F y0 (F.bin .add .f32 ((y4.getD y2.toNat []).getD 1 0) 1056964608)) with
            | true =>
              cases (Bool.and (decide ((-9223372036854775808) ≤ (Pure.impl_box F y0 ((y4.getD y2.toNat []).getD 0 0)))) (decide ((Pure.impl_box F y0 ((y4.getD y2.toNat []).getD 0 0)) ≤ 9223372036854775807))) with
              | true =>
                cases (Bool.and (decide ((-9223372036854775808) ≤ (Pure.impl_box F y0 (F.bin .add .f32 ((y4.getD y2.toNat []).getD 1 0) 1056964608)))) (decide ((Pure.impl_box F y0 (F.bin .add .f32 ((y4.getD y2.toNat []).getD 1 0) 1056964608)) ≤ 9223372036854775807))) with
                | true =>
                  exact ih _ _
                | false =>
                  intro h; exact absurd h Bool.false_ne_true
              | false =>
                intro h; exact absurd h Bool.false_ne_true
            | false =>
              intro h; exact absurd h Bool.false_ne_true
          | false =>
            intro h; exact absurd h Bool.false_ne_true
        | false =>
          intro h; exact absurd h Bool.false_ne_true
      | false =>
        intro h; exact absurd h Bool.false_ne_true
    | false =>
      intro _; rfl
theorem t_impl_BoxesOf_L0 : SmTo Try.prog 0 51 (S_impl_BoxesOf_L0 real) 0 (.loop (loopB 0 (codeOf Try.f36))) := by
  refine smTo_ev (cl := [(59, c_impl_stateOk real), (76, c_impl_in real), (80, c_impl_gridOk real), (77, c_impl_State_orbit real), (81, c_impl_box real)]) (ef := []) (sm := []) (un := 0) prog_ok (allOK_cons ok_impl_stateOk (allOK_cons ok_impl_in (allOK_cons ok_impl_gridOk (allOK_cons ok_impl_State_orbit (allOK_cons ok_impl_box allOK_nil))))) smL_nil ?_
  intro vals hp q r h hq
  unfold S_impl_BoxesOf_L0 at h
  dsimp only at h
  split at h
  · rename_i y0 y1 y2 y3 y4
    obtain rfl := Option.some.inj h
    have h1 := hq
    unfold resOf at h1
    rw [chk_some] at h1
    exact ⟨_, (l_impl_BoxesOf_L0 real y0 y1 y4 _ y2 y3 h1.1).trans hq⟩
  · cases h
def Pure.impl_BoxesOf (F : FOps) (x0 x1 x2 x3 x4 : Int) : Int := bif Pure.impl_stateOk F x0 x1 x2 then bif Pure.impl_in F x3 0 128 then bif Pure.impl_in F x4 1 32 then Int.ofNat (List.length (Prod.snd (Pure.impl_BoxesOf_L0 F x4 (Int.ofNat (List.length (Pure.impl_State_orbit F x0 x1 x2 x3))) (Pure.impl_State_orbit F x0 x1 x2 x3) (Nat.succ ((List.length (Pure.impl_State_orbit F x0 x1 x2 x3)) + 0)) 0 []))) else 0 else 0 else 0
def Pure.impl_BoxesOf_1 (F : FOps) (x0 x1 x2 x3 x4 : Int) : Bool := bif Pure.impl_stateOk F x0 x1 x2 then bif Pure.impl_in F x3 0 128 then Pure.impl_in F x4 1 32 else false else false
def Pure.impl_BoxesOf_ok (F : FOps) (x0 x1 x2 x3 x4 : Int) : Bool := bif Pure.impl_stateOk F x0 x1 x2 then bif Pure.impl_in F x3 0 128 then bif Pure.impl_in F x4 1 32 then bif Pure.impl_State_orbit_ok F x0 x1 x2 x3 then Prod.fst (Pure.impl_BoxesOf_L0 F x4 (Int.ofNat (List.length (Pure.impl_State_orbit F x0 x1 x2 x3))) (Pure.impl_State_orbit F x0 x1 x2 x3) (Nat.succ ((List.length (Pure.impl_State_orbit F x0 x1 x2 x3)) + 0)) 0 []) else false else true else true else true
def c_impl_BoxesOf (F : FOps) : Con
  | [V.agg [A.fl .f32 x0, A.fl .f32 x1], V.at (A.fl .f32 x2), V.at (A.int .i64 x3), V.at (A.int .i64 x4)], [] => some (Pure.impl_BoxesOf_ok F x0 x1 x2 x3 x4, ⟨V.tup [(false, [A.int .i64 (Pure.impl_BoxesOf F x0 x1 x2 x3 x4)]), (false, [A.bool (Pure.impl_BoxesOf_1 F x0 x1 x2 x3 x4)])], none, []⟩)
  | _, _ => none
theorem e_impl_BoxesOf (F : FOps) (x0 x1 x2 x3 x4 : Int) : Pure.impl_BoxesOf_ok F x0 x1 x2 x3 x4 = true → evFn (cxS F tyl [(59, c_impl_stateOk F), (76, c_impl_in F), (80, c_impl_gridOk F), (77, c_impl_State_orbit F), (81, c_impl_box F)] [] [(0, S_impl_BoxesOf_L0 F)] 0) Try.f36 false [V.agg [A.fl .f32 x0, A.fl .f32 x1], V.at (A.fl .f32 x2), V.at (A.int .i64 x3), V.at (A.int .i64 x4)] [] = some ⟨V.tup [(false, [A.int .i64 (Pure.impl_BoxesOf F x0 x1 x2 x3 x4)]), (false, [A.bool (Pure.impl_BoxesOf_1 F x0 x1 x2 x3 x4)])], none, []⟩ := by
  have h0 : evFn (cxS F tyl [(59, c_impl_stateOk F), (76, c_impl_in F), (80, c_impl_gridOk F), (77, c_impl_State_orbit F), (81, c_impl_box F)] [] [(0, S_impl_BoxesOf_L0 F)] 0) Try.f36 false [V.agg [A.fl .f32 x0, A.fl .f32 x1], V.at (A.fl .f32 x2), V.at (A.int .i64 x3), V.at (A.int .i64 x4)] [] = bif Bool.not (Pure.impl_stateOk F x0 x1 x2) then some ⟨V.tup [(false, [A.int .i64 0]), (false, [A.bool false])], none, []⟩ else bif Bool.not (Pure.impl_in F x3 0 128) then some ⟨V.tup [(false, [A.int .i64 0]), (false, [A.bool false])], none, []⟩ else bif Bool.not (Pure.impl_in F x4 1 32) then some ⟨V.tup [(false, [A.int .i64 0]), (false, [A.bool false])], none, []⟩ else bif Pure.impl_State_orbit_ok F x0 x1 x2 x3 then bif Prod.fst (Pure.impl_BoxesOf_L0 F x4 (Int.ofNat (List.length (Pure.impl_State_orbit F x0 x1 x2 x3))) (Pure.impl_State_orbit F x0 x1 x2 x3) (Nat.succ ((List.length (Pure.impl_State_orbit F x0 x1 x2 x3)) + 0)) 0 []) then some ⟨V.tup [(false, [A.int .i64 (Int.ofNat (List.length (Prod.snd (Pure.impl_BoxesOf_L0 F x4 (Int.ofNat (List.length (Pure.impl_State_orbit F x0 x1 x2 x3))) (Pure.impl_State_orbit F x0 x1 x2 x3) (Nat.succ ((List.length (Pure.impl_State_orbit F x0 x1 x2 x3)) + 0)) 0 []))))]), (false, [A.bool true])], none, []⟩ else none else none := by kernel_rfl
  rw [h0]
  unfold Pure.impl_BoxesOf Pure.impl_BoxesOf_1 Pure.impl_BoxesOf_ok
  cases (Pure.impl_stateOk F x0 x1 x2) with
  | true =>
    cases (Pure.impl_in F x3 0 128) with
    | true =>
      cases (Pure.impl_in F x4 1 32) with
      | true =>
        cases (Pure.impl_State_orbit_ok F x0 x1 x2 x3) with
        | true =>
          cases (Prod.fst (Pure.impl_BoxesOf_L0 F x4 (Int.ofNat (List.length (Pure.impl_State_orbit F x0 x1 x2 x3))) (Pure.impl_State_orbit F x0 x1 x2 x3) (Nat.succ ((List.length (Pure.impl_State_orbit F x0 x1 x2 x3)) + 0)) 0 [])) with
          | true =>
            intro _; rfl
          | false =>
            intro h; exact absurd h Bool.false_ne_true
        | false =>
          intro h; exact absurd h Bool.false_ne_true
      | false =>
        intro _; rfl
    | false =>
      intro _; rfl
  | false =>
    intro _; rfl
theorem ok_impl_BoxesOf : CallOK Try.prog 36 (c_impl_BoxesOf real) := by
  refine callOK_of fun args h ret hc => ?_
  unfold c_impl_BoxesOf at hc
  split at hc
  · rename_i x0 x1 x2 x3 x4
    obtain ⟨hok, rfl⟩ := some_ret hc
    exact holds_ev prog_ok (allOK_cons ok_impl_stateOk (allOK_cons ok_impl_in (allOK_cons ok_impl_gridOk (allOK_cons ok_impl_State_orbit (allOK_cons ok_impl_box allOK_nil))))) Try.func36 rfl rfl (smL_cons (body := .loop (loopB 0 (codeOf Try.f36))) (by kernel_rfl) t_impl_BoxesOf_L0 smL_nil) rfl (e_impl_BoxesOf real x0 x1 x2 x3 x4 hok)
  · cases hc
def Pure.laws_FnExactBoxesOf (F : FOps) (x0 x1 x2 x3 x4 : Int) : Bool := bif (Pure.impl_BoxesOf F x0 x1 x2 x3 x4) != (Pure.spec_BoxesOf F x0 x1 x2 x3 x4) then false else (Pure.impl_BoxesOf_1 F x0 x1 x2 x3 x4) == (Pure.spec_BoxesOf_1 F x0 x1 x2 x3 x4)
def Pure.laws_FnExactBoxesOf_ok (F : FOps) (x0 x1 x2 x3 x4 : Int) : Bool := bif Pure.spec_BoxesOf_ok F x0 x1 x2 x3 x4 then Pure.impl_BoxesOf_ok F x0 x1 x2 x3 x4 else false
def c_laws_FnExactBoxesOf (F : FOps) : Con
  | [V.agg [A.fl .f32 x0, A.fl .f32 x1], V.at (A.fl .f32 x2), V.at (A.int .i64 x3), V.at (A.int .i64 x4)], [] => some (Pure.laws_FnExactBoxesOf_ok F x0 x1 x2 x3 x4, ⟨V.at (A.bool (Pure.laws_FnExactBoxesOf F x0 x1 x2 x3 x4)), none, []⟩)
  | _, _ => none
theorem e_laws_FnExactBoxesOf (F : FOps) (x0 x1 x2 x3 x4 : Int) : Pure.laws_FnExactBoxesOf_ok F x0 x1 x2 x3 x4 = true → evFn (cxS F tyl [(16, c_laws_toState F), (35, c_spec_BoxesOf F), (36, c_impl_BoxesOf F)] [] [] 0) Try.f10 false [V.agg [A.fl .f32 x0, A.fl .f32 x1], V.at (A.fl .f32 x2), V.at (A.int .i64 x3), V.at (A.int .i64 x4)] [] = some ⟨V.at (A.bool (Pure.laws_FnExactBoxesOf F x0 x1 x2 x3 x4)), none, []⟩ := by
  have h0 : evFn (cxS F tyl [(16, c_laws_toState F), (35, c_spec_BoxesOf F), (36, c_impl_BoxesOf F)] [] [] 0) Try.f10 false [V.agg [A.fl .f32 x0, A.fl .f32 x1], V.at (A.fl .f32 x2), V.at (A.int .i64 x3), V.at (A.int .i64 x4)] [] = bif Pure.spec_BoxesOf_ok F x0 x1 x2 x3 x4 then bif Pure.impl_BoxesOf_ok F x0 x1 x2 x3 x4 then bif (Pure.impl_BoxesOf F x0 x1 x2 x3 x4) != (Pure.spec_BoxesOf F x0 x1 x2 x3 x4) then some ⟨V.at (A.bool false), none, []⟩ else bif Bool.not ((Pure.impl_BoxesOf_1 F x0 x1 x2 x3 x4) == (Pure.spec_BoxesOf_1 F x0 x1 x2 x3 x4)) then some ⟨V.at (A.bool false), none, []⟩ else some ⟨V.at (A.bool true), none, []⟩ else none else none := by kernel_rfl
  rw [h0]
  unfold Pure.laws_FnExactBoxesOf Pure.laws_FnExactBoxesOf_ok
  cases (Pure.spec_BoxesOf_ok F x0 x1 x2 x3 x4) with
  | true =>
    cases (Pure.impl_BoxesOf_ok F x0 x1 x2 x3 x4) with
    | true =>
      cases ((Pure.impl_BoxesOf F x0 x1 x2 x3 x4) != (Pure.spec_BoxesOf F x0 x1 x2 x3 x4)) with
      | true =>
        intro _; rfl
      | false =>
        cases ((Pure.impl_BoxesOf_1 F x0 x1 x2 x3 x4) == (Pure.spec_BoxesOf_1 F x0 x1 x2 x3 x4)) with
        | true =>
          intro _; rfl
        | false =>
          intro _; rfl
    | false =>
      intro h; exact absurd h Bool.false_ne_true
  | false =>
    intro h; exact absurd h Bool.false_ne_true
theorem ok_laws_FnExactBoxesOf : CallOK Try.prog 10 (c_laws_FnExactBoxesOf real) := by
  refine callOK_of fun args h ret hc => ?_
  unfold c_laws_FnExactBoxesOf at hc
  split at hc
  · rename_i x0 x1 x2 x3 x4
    obtain ⟨hok, rfl⟩ := some_ret hc
    exact holds_ev prog_ok (allOK_cons ok_laws_toState (allOK_cons ok_spec_BoxesOf (allOK_cons ok_impl_BoxesOf allOK_nil))) Try.func10 rfl rfl smL_nil rfl (e_laws_FnExactBoxesOf real x0 x1 x2 x3 x4 hok)
  · cases hc
end Go.Fx
