import Derived.Test.YtnlfpamdcohiiaaXr3a
import Derived.KernelRfl
namespace Go.Fx
open Go.Proofs
set_option maxRecDepth 100000
def Pure.impl_IsFinite (F : FOps) (x0 : Int) : Bool := F.cmp .eql .f32 (F.bin .sub .f32 x0 x0) 0
def c_impl_IsFinite (F : FOps) : Con
  | [V.at (A.fl .f32 x0)], [] => some (true, ⟨V.at (A.bool (Pure.impl_IsFinite F x0)), none, []⟩)
  | _, _ => none
theorem e_impl_IsFinite (F : FOps) (x0 : Int) : evFn (cxS F tyl [] [] [] 0) Try.f95 false [V.at (A.fl .f32 x0)] [] = some ⟨V.at (A.bool (Pure.impl_IsFinite F x0)), none, []⟩ := by
  kernel_rfl
theorem ok_impl_IsFinite : CallOK Try.prog 95 (c_impl_IsFinite real) := by
  refine callOK_of fun args h ret hc => ?_
  unfold c_impl_IsFinite at hc
  split at hc
  · rename_i x0
    obtain ⟨_, rfl⟩ := some_ret hc
    exact holds_ev prog_ok allOK_nil Try.func95 rfl rfl smL_nil rfl (e_impl_IsFinite real x0)
  · cases hc
def c_math_archFloor (F : FOps) : Con
  | [V.at (A.fl .f64 x)], [] => some (true, ⟨V.at (A.fl .f64 (F.integral .down x)), none, []⟩)
  | _, _ => none
theorem ok_math_archFloor : CallOK Try.prog 101 (c_math_archFloor real) := by
  refine callOK_of fun args h ret hc => ?_
  unfold c_math_archFloor at hc
  split at hc
  · rename_i x
    obtain ⟨_, rfl⟩ := some_ret hc
    exact ext_integral (nm := "math.archFloor") Try.func101 rfl rfl (by kernel_rfl) (by kernel_rfl) x
  · cases hc
def Pure.math_IsNaN (F : FOps) (x0 : Int) : Bool := F.cmp .neq .f64 x0 x0
def c_math_IsNaN (F : FOps) : Con
  | [V.at (A.fl .f64 x0)], [] => some (true, ⟨V.at (A.bool (Pure.math_IsNaN F x0)), none, []⟩)
  | _, _ => none
theorem e_math_IsNaN (F : FOps) (x0 : Int) : evFn (cxS F tyl [] [] [] 0) Try.f110 false [V.at (A.fl .f64 x0)] [] = some ⟨V.at (A.bool (Pure.math_IsNaN F x0)), none, []⟩ := by
  kernel_rfl
theorem ok_math_IsNaN : CallOK Try.prog 110 (c_math_IsNaN real) := by
  refine callOK_of fun args h ret hc => ?_
  unfold c_math_IsNaN at hc
  split at hc
  · rename_i x0
    obtain ⟨_, rfl⟩ := some_ret hc
    exact holds_ev prog_ok allOK_nil Try.func110 rfl rfl smL_nil rfl (e_math_IsNaN real x0)
  · cases hc
def c_math_Float64bits (_ : FOps) : Con
  | [V.at (A.fl .f64 x)], [] => some (true, ⟨V.at (A.raw .f64 x), none, []⟩)
  | _, _ => none
theorem ok_math_Float64bits : CallOK Try.prog 106 (c_math_Float64bits real) := by
  refine callOK_of fun args h ret hc => ?_
  unfold c_math_Float64bits at hc
  split at hc
  · rename_i x
    obtain ⟨_, rfl⟩ := some_ret hc
    exact ext_bits64 Try.func106 rfl rfl (by kernel_rfl) (by kernel_rfl) x
  · cases hc
def c_math_Float64frombits (F : FOps) : Con
  | [V.at (A.raw .f64 x)], [] => some (true, ⟨V.at (A.fl .f64 x), none, []⟩)
  | [V.at (A.int .u64 x)], [] => some (true, ⟨V.at (A.fl .f64 (F.ofBits .f64 x)), none, []⟩)
  | _, _ => none
theorem ok_math_Float64frombits : CallOK Try.prog 105 (c_math_Float64frombits real) := by
  refine callOK_of fun args h ret hc => ?_
  unfold c_math_Float64frombits at hc
  split at hc
  · rename_i x
    obtain ⟨_, rfl⟩ := some_ret hc
    exact ext_from64 Try.func105 rfl rfl (by kernel_rfl) (by kernel_rfl) x
  · rename_i x
    obtain ⟨_, rfl⟩ := some_ret hc
    exact ext_from64i Try.func105 rfl rfl (by kernel_rfl) (by kernel_rfl) x
  · cases hc
def c_math_Abs (F : FOps) : Con
  | [V.at (A.fl .f64 x0)], [] => some (true, ⟨V.at (A.fl .f64 (F.abs .f64 x0)), none, []⟩)
  | _, _ => none
theorem e_math_Abs (F : FOps) (x0 : Int) : evFn (cxS F tyl [(106, c_math_Float64bits F), (105, c_math_Float64frombits F)] [] [] 0) Try.f97 false [V.at (A.fl .f64 x0)] [] = some ⟨V.at (A.fl .f64 (F.abs .f64 x0)), none, []⟩ := by
  kernel_rfl
theorem ok_math_Abs : CallOK Try.prog 97 (c_math_Abs real) := by
  refine callOK_of fun args h ret hc => ?_
  unfold c_math_Abs at hc
  split at hc
  · rename_i x0
    obtain ⟨_, rfl⟩ := some_ret hc
    exact holds_ev prog_ok (allOK_cons ok_math_Float64bits (allOK_cons ok_math_Float64frombits allOK_nil)) Try.func97 rfl rfl smL_nil rfl (e_math_Abs real x0)
  · cases hc
def Pure.math_IsInf (F : FOps) (x0 x1 : Int) : Bool := bif x1 == 0 then F.cmp .gtr .f64 (F.abs .f64 x0) 9218868437227405311 else bif decide (x1 < 0) then F.cmp .gtr .f64 (F.neg .f64 x0) 9218868437227405311 else F.cmp .gtr .f64 x0 9218868437227405311
def c_math_IsInf (F : FOps) : Con
  | [V.at (A.fl .f64 x0), V.at (A.int .i64 x1)], [] => some (true, ⟨V.at (A.bool (Pure.math_IsInf F x0 x1)), none, []⟩)
  | _, _ => none
theorem e_math_IsInf (F : FOps) (x0 x1 : Int) : evFn (cxS F tyl [(97, c_math_Abs F)] [] [] 0) Try.f111 false [V.at (A.fl .f64 x0), V.at (A.int .i64 x1)] [] = some ⟨V.at (A.bool (Pure.math_IsInf F x0 x1)), none, []⟩ := by
  have h0 : evFn (cxS F tyl [(97, c_math_Abs F)] [] [] 0) Try.f111 false [V.at (A.fl .f64 x0), V.at (A.int .i64 x1)] [] = bif x1 == 0 then some ⟨V.at (A.bool (F.cmp .gtr .f64 (F.abs .f64 x0) 9218868437227405311)), none, []⟩ else bif decide (x1 < 0) then some ⟨V.at (A.bool (F.cmp .gtr .f64 (F.neg .f64 x0) 9218868437227405311)), none, []⟩ else some ⟨V.at (A.bool (F.cmp .gtr .f64 x0 9218868437227405311)), none, []⟩ := by kernel_rfl
  rw [h0]
  unfold Pure.math_IsInf
  cases (x1 == 0) with
  | true =>
    rfl
  | false =>
    cases (decide (x1 < 0)) with
    | true =>
      rfl
    | false =>
      rfl
theorem ok_math_IsInf : CallOK Try.prog 111 (c_math_IsInf real) := by
  refine callOK_of fun args h ret hc => ?_
  unfold c_math_IsInf at hc
  split at hc
  · rename_i x0 x1
    obtain ⟨_, rfl⟩ := some_ret hc
    exact holds_ev prog_ok (allOK_cons ok_math_Abs allOK_nil) Try.func111 rfl rfl smL_nil rfl (e_math_IsInf real x0 x1)
  · cases hc
def c_math_archTrunc (F : FOps) : Con
  | [V.at (A.fl .f64 x)], [] => some (true, ⟨V.at (A.fl .f64 (F.integral .zero x)), none, []⟩)
  | _, _ => none
theorem ok_math_archTrunc : CallOK Try.prog 107 (c_math_archTrunc real) := by
  refine callOK_of fun args h ret hc => ?_
  unfold c_math_archTrunc at hc
  split at hc
  · rename_i x
    obtain ⟨_, rfl⟩ := some_ret hc
    exact ext_integral (nm := "math.archTrunc") Try.func107 rfl rfl (by kernel_rfl) (by kernel_rfl) x
  · cases hc
def c_math_Trunc (F : FOps) : Con
  | [V.at (A.fl .f64 x0)], [] => some (true, ⟨V.at (A.fl .f64 (F.integral Ieee.Toward.zero x0)), none, []⟩)
  | _, _ => none
theorem e_math_Trunc (F : FOps) (x0 : Int) : evFn (cxS F tyl [(107, c_math_archTrunc F)] [] [] 0) Try.f98 false [V.at (A.fl .f64 x0)] [] = some ⟨V.at (A.fl .f64 (F.integral Ieee.Toward.zero x0)), none, []⟩ := by
  kernel_rfl
theorem ok_math_Trunc : CallOK Try.prog 98 (c_math_Trunc real) := by
  refine callOK_of fun args h ret hc => ?_
  unfold c_math_Trunc at hc
  split at hc
  · rename_i x0
    obtain ⟨_, rfl⟩ := some_ret hc
    exact holds_ev prog_ok (allOK_cons ok_math_archTrunc allOK_nil) Try.func98 rfl rfl smL_nil rfl (e_math_Trunc real x0)
  · cases hc
def Pure.math_floor_ok (F : FOps) (x0 : Int) : Bool := bif F.cmp .eql .f64 x0 0 then true else bif Pure.math_IsNaN F x0 then true else Pure.math_IsInf F x0 0
def c_math_floor (F : FOps) : Con
  | [V.at (A.fl .f64 x0)], [] => some (Pure.math_floor_ok F x0, ⟨V.at (A.fl .f64 x0), none, []⟩)
  | _, _ => none
theorem e_math_floor (F : FOps) (x0 : Int) : Pure.math_floor_ok F x0 = true → evFn (cxS F tyl [(110, c_math_IsNaN F), (111, c_math_IsInf F)] [] [] 0) Try.f102 false [V.at (A.fl .f64 x0)] [] = some ⟨V.at (A.fl .f64 x0), none, []⟩ := by
  have h0 : evFn (cxS F tyl [(110, c_math_IsNaN F), (111, c_math_IsInf F)] [] [] 0) Try.f102 false [V.at (A.fl .f64 x0)] [] = bif F.cmp .eql .f64 x0 0 then some ⟨V.at (A.fl .f64 x0), none, []⟩ else bif Pure.math_IsNaN F x0 then some ⟨V.at (A.fl .f64 x0), none, []⟩ else bif Pure.math_IsInf F x0 0 then some ⟨V.at (A.fl .f64 x0), none, []⟩ else bif F.cmp .lss .f64 x0 0 then none else none := by kernel_rfl
  rw [h0]
  unfold Pure.math_floor_ok
  cases (F.cmp .eql .f64 x0 0) with
  | true =>
    intro _; rfl
  | false =>
    cases (Pure.math_IsNaN F x0) with
    | true =>
      intro _; rfl
    | false =>
      cases (Pure.math_IsInf F x0 0) with
      | true =>
        intro _; rfl
      | false =>
        cases (F.cmp .lss .f64 x0 0) with
        | true =>
          intro h; exact absurd h Bool.false_ne_true
        | false =>
          intro h; exact absurd h Bool.false_ne_true
theorem ok_math_floor : CallOK Try.prog 102 (c_math_floor real) := by
  refine callOK_of fun args h ret hc => ?_
  unfold c_math_floor at hc
  split at hc
  · rename_i x0
    obtain ⟨hok, rfl⟩ := some_ret hc
    exact holds_ev prog_ok (allOK_cons ok_math_IsNaN (allOK_cons ok_math_IsInf allOK_nil)) Try.func102 rfl rfl smL_nil rfl (e_math_floor real x0 hok)
  · cases hc
def c_math_Floor (F : FOps) : Con
  | [V.at (A.fl .f64 x0)], [] => some (true, ⟨V.at (A.fl .f64 (F.integral Ieee.Toward.down x0)), none, []⟩)
  | _, _ => none
theorem e_math_Floor (F : FOps) (x0 : Int) : evFn (cxS F tyl [(101, c_math_archFloor F), (102, c_math_floor F)] [] [] 0) Try.f89 false [V.at (A.fl .f64 x0)] [] = some ⟨V.at (A.fl .f64 (F.integral Ieee.Toward.down x0)), none, []⟩ := by
  kernel_rfl
theorem ok_math_Floor : CallOK Try.prog 89 (c_math_Floor real) := by
  refine callOK_of fun args h ret hc => ?_
  unfold c_math_Floor at hc
  split at hc
  · rename_i x0
    obtain ⟨_, rfl⟩ := some_ret hc
    exact holds_ev prog_ok (allOK_cons ok_math_archFloor (allOK_cons ok_math_floor allOK_nil)) Try.func89 rfl rfl smL_nil rfl (e_math_Floor real x0)
  · cases hc
def Pure.spec_l01Narrow (F : FOps) (x0 : Int) : Int := F.conv .f64 .f32 x0
def Pure.spec_l01Narrow_ok (F : FOps) (x0 : Int) : Bool := F.convOk .f64 .f32 x0
def c_spec_l01Narrow (F : FOps) : Con
  | [V.at (A.fl .f64 x0)], [] => some (Pure.spec_l01Narrow_ok F x0, ⟨V.at (A.fl .f32 (Pure.spec_l01Narrow F x0)), none, []⟩)
  | _, _ => none
theorem e_spec_l01Narrow (F : FOps) (x0 : Int) : Pure.spec_l01Narrow_ok F x0 = true → evFn (cxS F tyl [] [] [] 0) Try.f88 false [V.at (A.fl .f64 x0)] [] = some ⟨V.at (A.fl .f32 (Pure.spec_l01Narrow F x0)), none, []⟩ := by
  have h0 : evFn (cxS F tyl [] [] [] 0) Try.f88 false [V.at (A.fl .f64 x0)] [] = bif F.convOk .f64 .f32 x0 then some ⟨V.at (A.fl .f32 (F.conv .f64 .f32 x0)), none, []⟩ else none := by kernel_rfl
  rw [h0]
  unfold Pure.spec_l01Narrow Pure.spec_l01Narrow_ok
  cases (F.convOk .f64 .f32 x0) with
  | true =>
    intro _; rfl
  | false =>
    intro h; exact absurd h Bool.false_ne_true
theorem ok_spec_l01Narrow : CallOK Try.prog 88 (c_spec_l01Narrow real) := by
  refine callOK_of fun args h ret hc => ?_
  unfold c_spec_l01Narrow at hc
  split at hc
  · rename_i x0
    obtain ⟨hok, rfl⟩ := some_ret hc
    exact holds_ev prog_ok allOK_nil Try.func88 rfl rfl smL_nil rfl (e_spec_l01Narrow real x0 hok)
  · cases hc
def Pure.spec_l05Wrap (F : FOps) (x0 : Int) : Int := bif F.cmp .eql .f32 (Pure.spec_l01Narrow F (F.bin .sub .f64 (F.conv .f32 .f64 x0) (F.integral Ieee.Toward.down (F.conv .f32 .f64 x0)))) 0 then 0 else bif F.cmp .geq .f32 (Pure.spec_l01Narrow F (F.bin .sub .f64 (F.conv .f32 .f64 x0) (F.integral Ieee.Toward.down (F.conv .f32 .f64 x0)))) 1065353216 then 0 else Pure.spec_l01Narrow F (F.bin .sub .f64 (F.conv .f32 .f64 x0) (F.integral Ieee.Toward.down (F.conv .f32 .f64 x0)))
def Pure.spec_l05Wrap_ok (F : FOps) (x0 : Int) : Bool := bif F.convOk .f32 .f64 x0 then Pure.spec_l01Narrow_ok F (F.bin .sub .f64 (F.conv .f32 .f64 x0) (F.integral Ieee.Toward.down (F.conv .f32 .f64 x0))) else false
def c_spec_l05Wrap (F : FOps) : Con
  | [V.at (A.fl .f32 x0)], [] => some (Pure.spec_l05Wrap_ok F x0, ⟨V.at (A.fl .f32 (Pure.spec_l05Wrap F x0)), none, []⟩)
  | _, _ => none
theorem e_spec_l05Wrap (F : FOps) (x0 : Int) : Pure.spec_l05Wrap_ok F x0 = true → evFn (cxS F tyl [(89, c_math_Floor F), (88, c_spec_l01Narrow F)] [] [] 0) Try.f52 false [V.at (A.fl .f32 x0)] [] = some ⟨V.at (A.fl .f32 (Pure.spec_l05Wrap F x0)), none, []⟩ := by
  have h0 : evFn (cxS F tyl [(89, c_math_Floor F), (88, c_spec_l01Narrow F)] [] [] 0) Try.f52 false [V.at (A.fl .f32 x0)] [] = bif F.convOk .f32 .f64 x0 then bif Pure.spec_l01Narrow_ok F (F.bin .sub .f64 (F.conv .f32 .f64 x0) (F.integral Ieee.Toward.down (F.conv .f32 .f64 x0))) then bif F.cmp .eql .f32 (Pure.spec_l01Narrow F (F.bin .sub .f64 (F.conv .f32 .f64 x0) (F.integral Ieee.Toward.down (F.conv .f32 .f64 x0)))) 0 then some ⟨V.at (A.fl .f32 0), none, []⟩ else bif F.cmp .geq .f32 (Pure.spec_l01Narrow F (F.bin .sub .f64 (F.conv .f32 .f64 x0) (F.integral Ieee.Toward.down (F.conv .f32 .f64 x0)))) 1065353216 then some ⟨V.at (A.fl .f32 0), none, []⟩ else some ⟨V.at (A.fl .f32 (Pure.spec_l01Narrow F (F.bin .sub .f64 (F.conv .f32 .f64 x0) (F.integral Ieee.Toward.down (F.conv .f32 .f64 x0))))), none, []⟩ else none else none := by kernel_rfl
  rw [h0]
  unfold Pure.spec_l05Wrap Pure.spec_l05Wrap_ok
  cases (F.convOk .f32 .f64 x0) with
  | true =>
    cases (Pure.spec_l01Narrow_ok F (F.bin .sub .f64 (F.conv .f32 .f64 x0) (F.integral Ieee.Toward.down (F.conv .f32 .f64 x0)))) with
    | true =>
      cases (F.cmp .eql .f32 (Pure.spec_l01Narrow F (F.bin .sub .f64 (F.conv .f32 .f64 x0) (F.integral Ieee.Toward.down (F.conv .f32 .f64 x0)))) 0) with
      | true =>
        intro _; rfl
      | false =>
        cases (F.cmp .geq .f32 (Pure.spec_l01Narrow F (F.bin .sub .f64 (F.conv .f32 .f64 x0) (F.integral Ieee.Toward.down (F.conv .f32 .f64 x0)))) 1065353216) with
        | true =>
          intro _; rfl
        | false =>
          intro _; rfl
    | false =>
      intro h; exact absurd h Bool.false_ne_true
  | false =>
    intro h; exact absurd h Bool.false_ne_true
theorem ok_spec_l05Wrap : CallOK Try.prog 52 (c_spec_l05Wrap real) := by
  refine callOK_of fun args h ret hc => ?_
  unfold c_spec_l05Wrap at hc
  split at hc
  · rename_i x0
    obtain ⟨hok, rfl⟩ := some_ret hc
    exact holds_ev prog_ok (allOK_cons ok_math_Floor (allOK_cons ok_spec_l01Narrow allOK_nil)) Try.func52 rfl rfl smL_nil rfl (e_spec_l05Wrap real x0 hok)
  · cases hc
def Pure.spec_l07Kick (F : FOps) (x0 : Int) : Int := bif F.cmp .geq .f32 (Pure.spec_l01Narrow F (F.bin .sub .f64 (F.conv .f32 .f64 x0) (F.integral Ieee.Toward.down (F.bin .add .f64 (F.conv .f32 .f64 x0) 4602678819172646912)))) 1056964608 then 3204448256 else bif F.cmp .eql .f32 (Pure.spec_l01Narrow F (F.bin .sub .f64 (F.conv .f32 .f64 x0) (F.integral Ieee.Toward.down (F.bin .add .f64 (F.conv .f32 .f64 x0) 4602678819172646912)))) 0 then 0 else Pure.spec_l01Narrow F (F.bin .sub .f64 (F.conv .f32 .f64 x0) (F.integral Ieee.Toward.down (F.bin .add .f64 (F.conv .f32 .f64 x0) 4602678819172646912)))
def Pure.spec_l07Kick_ok (F : FOps) (x0 : Int) : Bool := bif F.convOk .f32 .f64 x0 then Pure.spec_l01Narrow_ok F (F.bin .sub .f64 (F.conv .f32 .f64 x0) (F.integral Ieee.Toward.down (F.bin .add .f64 (F.conv .f32 .f64 x0) 4602678819172646912))) else false
def c_spec_l07Kick (F : FOps) : Con
  | [V.at (A.fl .f32 x0)], [] => some (Pure.spec_l07Kick_ok F x0, ⟨V.at (A.fl .f32 (Pure.spec_l07Kick F x0)), none, []⟩)
  | _, _ => none
theorem e_spec_l07Kick (F : FOps) (x0 : Int) : Pure.spec_l07Kick_ok F x0 = true → evFn (cxS F tyl [(89, c_math_Floor F), (88, c_spec_l01Narrow F)] [] [] 0) Try.f53 false [V.at (A.fl .f32 x0)] [] = some ⟨V.at (A.fl .f32 (Pure.spec_l07Kick F x0)), none, []⟩ := by
  have h0 : evFn (cxS F tyl [(89, c_math_Floor F), (88, c_spec_l01Narrow F)] [] [] 0) Try.f53 false [V.at (A.fl .f32 x0)] [] = bif F.convOk .f32 .f64 x0 then bif Pure.spec_l01Narrow_ok F (F.bin .sub .f64 (F.conv .f32 .f64 x0) (F.integral Ieee.Toward.down (F.bin .add .f64 (F.conv .f32 .f64 x0) 4602678819172646912))) then bif F.cmp .geq .f32 (Pure.spec_l01Narrow F (F.bin .sub .f64 (F.conv .f32 .f64 x0) (F.integral Ieee.Toward.down (F.bin .add .f64 (F.conv .f32 .f64 x0) 4602678819172646912)))) 1056964608 then some ⟨V.at (A.fl .f32 3204448256), none, []⟩ else bif F.cmp .eql .f32 (Pure.spec_l01Narrow F (F.bin .sub .f64 (F.conv .f32 .f64 x0) (F.integral Ieee.Toward.down (F.bin .add .f64 (F.conv .f32 .f64 x0) 4602678819172646912)))) 0 then some ⟨V.at (A.fl .f32 0), none, []⟩ else some ⟨V.at (A.fl .f32 (Pure.spec_l01Narrow F (F.bin .sub .f64 (F.conv .f32 .f64 x0) (F.integral Ieee.Toward.down (F.bin .add .f64 (F.conv .f32 .f64 x0) 4602678819172646912))))), none, []⟩ else none else none := by kernel_rfl
  rw [h0]
  unfold Pure.spec_l07Kick Pure.spec_l07Kick_ok
  cases (F.convOk .f32 .f64 x0) with
  | true =>
    cases (Pure.spec_l01Narrow_ok F (F.bin .sub .f64 (F.conv .f32 .f64 x0) (F.integral Ieee.Toward.down (F.bin .add .f64 (F.conv .f32 .f64 x0) 4602678819172646912)))) with
    | true =>
      cases (F.cmp .geq .f32 (Pure.spec_l01Narrow F (F.bin .sub .f64 (F.conv .f32 .f64 x0) (F.integral Ieee.Toward.down (F.bin .add .f64 (F.conv .f32 .f64 x0) 4602678819172646912)))) 1056964608) with
      | true =>
        intro _; rfl
      | false =>
        cases (F.cmp .eql .f32 (Pure.spec_l01Narrow F (F.bin .sub .f64 (F.conv .f32 .f64 x0) (F.integral Ieee.Toward.down (F.bin .add .f64 (F.conv .f32 .f64 x0) 4602678819172646912)))) 0) with
        | true =>
          intro _; rfl
        | false =>
          intro _; rfl
    | false =>
      intro h; exact absurd h Bool.false_ne_true
  | false =>
    intro h; exact absurd h Bool.false_ne_true
theorem ok_spec_l07Kick : CallOK Try.prog 53 (c_spec_l07Kick real) := by
  refine callOK_of fun args h ret hc => ?_
  unfold c_spec_l07Kick at hc
  split at hc
  · rename_i x0
    obtain ⟨hok, rfl⟩ := some_ret hc
    exact holds_ev prog_ok (allOK_cons ok_math_Floor (allOK_cons ok_spec_l01Narrow allOK_nil)) Try.func53 rfl rfl smL_nil rfl (e_spec_l07Kick real x0 hok)
  · cases hc
def Pure.impl_WrapTurn (F : FOps) (x0 : Int) : Int := bif Pure.impl_IsFinite F x0 then bif F.cmp .eql .f32 (F.conv .f64 .f32 (F.bin .sub .f64 (F.conv .f32 .f64 x0) (F.integral Ieee.Toward.down (F.conv .f32 .f64 x0)))) 1065353216 then 0 else bif F.cmp .eql .f32 (F.conv .f64 .f32 (F.bin .sub .f64 (F.conv .f32 .f64 x0) (F.integral Ieee.Toward.down (F.conv .f32 .f64 x0)))) 0 then 0 else F.conv .f64 .f32 (F.bin .sub .f64 (F.conv .f32 .f64 x0) (F.integral Ieee.Toward.down (F.conv .f32 .f64 x0))) else 0
def Pure.impl_WrapTurn_ok (F : FOps) (x0 : Int) : Bool := bif Pure.impl_IsFinite F x0 then bif F.convOk .f32 .f64 x0 then F.convOk .f64 .f32 (F.bin .sub .f64 (F.conv .f32 .f64 x0) (F.integral Ieee.Toward.down (F.conv .f32 .f64 x0))) else false else true
def c_impl_WrapTurn (F : FOps) : Con
  | [V.at (A.fl .f32 x0)], [] => some (Pure.impl_WrapTurn_ok F x0, ⟨V.tup [(false, [A.fl .f32 (Pure.impl_WrapTurn F x0)]), (false, [A.bool (Pure.impl_IsFinite F x0)])], none, []⟩)
  | _, _ => none
theorem e_impl_WrapTurn (F : FOps) (x0 : Int) : Pure.impl_WrapTurn_ok F x0 = true → evFn (cxS F tyl [(95, c_impl_IsFinite F), (89, c_math_Floor F)] [] [] 0) Try.f90 false [V.at (A.fl .f32 x0)] [] = some ⟨V.tup [(false, [A.fl .f32 (Pure.impl_WrapTurn F x0)]), (false, [A.bool (Pure.impl_IsFinite F x0)])], none, []⟩ := by
  have h0 : evFn (cxS F tyl [(95, c_impl_IsFinite F), (89, c_math_Floor F)] [] [] 0) Try.f90 false [V.at (A.fl .f32 x0)] [] = bif Bool.not (Pure.impl_IsFinite F x0) then some ⟨V.tup [(false, [A.fl .f32 0]), (false, [A.bool false])], none, []⟩ else bif F.convOk .f32 .f64 x0 then bif F.convOk .f32 .f64 x0 then bif F.convOk .f64 .f32 (F.bin .sub .f64 (F.conv .f32 .f64 x0) (F.integral Ieee.Toward.down (F.conv .f32 .f64 x0))) then bif F.cmp .eql .f32 (F.conv .f64 .f32 (F.bin .sub .f64 (F.conv .f32 .f64 x0) (F.integral Ieee.Toward.down (F.conv .f32 .f64 x0)))) 1065353216 then some ⟨V.tup [(false, [A.fl .f32 0]), (false, [A.bool true])], none, []⟩ else bif F.cmp .eql .f32 (F.conv .f64 .f32 (F.bin .sub .f64 (F.conv .f32 .f64 x0) (F.integral Ieee.Toward.down (F.conv .f32 .f64 x0)))) 0 then some ⟨V.tup [(false, [A.fl .f32 0]), (false, [A.bool true])], none, []⟩ else some ⟨V.tup [(false, [A.fl .f32 (F.conv .f64 .f32 (F.bin .sub .f64 (F.conv .f32 .f64 x0) (F.integral Ieee.Toward.down (F.conv .f32 .f64 x0))))]), (false, [A.bool true])], none, []⟩ else none else none else none := by kernel_rfl
  rw [h0]
  unfold Pure.impl_WrapTurn Pure.impl_WrapTurn_ok
  cases (Pure.impl_IsFinite F x0) with
  | true =>
    cases (F.convOk .f32 .f64 x0) with
    | true =>
      cases (F.convOk .f64 .f32 (F.bin .sub .f64 (F.conv .f32 .f64 x0) (F.integral Ieee.Toward.down (F.conv .f32 .f64 x0)))) with
      | true =>
        cases (F.cmp .eql .f32 (F.conv .f64 .f32 (F.bin .sub .f64 (F.conv .f32 .f64 x0) (F.integral Ieee.Toward.down (F.conv .f32 .f64 x0)))) 1065353216) with
        | true =>
          intro _; rfl
        | false =>
          cases (F.cmp .eql .f32 (F.conv .f64 .f32 (F.bin .sub .f64 (F.conv .f32 .f64 x0) (F.integral Ieee.Toward.down (F.conv .f32 .f64 x0)))) 0) with
          | true =>
            intro _; rfl
          | false =>
            intro _; rfl
      | false =>
        intro h; exact absurd h Bool.false_ne_true
    | false =>
      intro h; exact absurd h Bool.false_ne_true
  | false =>
    intro _; rfl
theorem ok_impl_WrapTurn : CallOK Try.prog 90 (c_impl_WrapTurn real) := by
  refine callOK_of fun args h ret hc => ?_
  unfold c_impl_WrapTurn at hc
  split at hc
  · rename_i x0
    obtain ⟨hok, rfl⟩ := some_ret hc
    exact holds_ev prog_ok (allOK_cons ok_impl_IsFinite (allOK_cons ok_math_Floor allOK_nil)) Try.func90 rfl rfl smL_nil rfl (e_impl_WrapTurn real x0 hok)
  · cases hc
def Pure.impl_wrapped_ok (F : FOps) (x0 : Int) : Bool := Pure.impl_WrapTurn_ok F x0
def c_impl_wrapped (F : FOps) : Con
  | [V.at (A.fl .f32 x0)], [] => some (Pure.impl_wrapped_ok F x0, ⟨V.at (A.fl .f32 (Pure.impl_WrapTurn F x0)), none, []⟩)
  | _, _ => none
theorem e_impl_wrapped (F : FOps) (x0 : Int) : Pure.impl_wrapped_ok F x0 = true → evFn (cxS F tyl [(90, c_impl_WrapTurn F)] [] [] 0) Try.f55 false [V.at (A.fl .f32 x0)] [] = some ⟨V.at (A.fl .f32 (Pure.impl_WrapTurn F x0)), none, []⟩ := by
  have h0 : evFn (cxS F tyl [(90, c_impl_WrapTurn F)] [] [] 0) Try.f55 false [V.at (A.fl .f32 x0)] [] = bif Pure.impl_WrapTurn_ok F x0 then some ⟨V.at (A.fl .f32 (Pure.impl_WrapTurn F x0)), none, []⟩ else none := by kernel_rfl
  rw [h0]
  unfold Pure.impl_wrapped_ok
  cases (Pure.impl_WrapTurn_ok F x0) with
  | true =>
    intro _; rfl
  | false =>
    intro h; exact absurd h Bool.false_ne_true
theorem ok_impl_wrapped : CallOK Try.prog 55 (c_impl_wrapped real) := by
  refine callOK_of fun args h ret hc => ?_
  unfold c_impl_wrapped at hc
  split at hc
  · rename_i x0
    obtain ⟨hok, rfl⟩ := some_ret hc
    exact holds_ev prog_ok (allOK_cons ok_impl_WrapTurn allOK_nil) Try.func55 rfl rfl smL_nil rfl (e_impl_wrapped real x0 hok)
  · cases hc
def Pure.impl_WrapKick (F : FOps) (x0 : Int) : Int := bif Pure.impl_IsFinite F x0 then bif F.cmp .geq .f32 (F.conv .f64 .f32 (F.bin .sub .f64 (F.conv .f32 .f64 x0) (F.integral Ieee.Toward.down (F.bin .add .f64 (F.conv .f32 .f64 x0) 4602678819172646912)))) 1056964608 then 3204448256 else bif F.cmp .eql .f32 (F.conv .f64 .f32 (F.bin .sub .f64 (F.conv .f32 .f64 x0) (F.integral Ieee.Toward.down (F.bin .add .f64 (F.conv .f32 .f64 x0) 4602678819172646912)))) 0 then 0 else F.conv .f64 .f32 (F.bin .sub .f64 (F.conv .f32 .f64 x0) (F.integral Ieee.Toward.down (F.bin .add .f64 (F.conv .f32 .f64 x0) 4602678819172646912))) else 0
def Pure.impl_WrapKick_ok (F : FOps) (x0 : Int) : Bool := bif Pure.impl_IsFinite F x0 then bif F.convOk .f32 .f64 x0 then F.convOk .f64 .f32 (F.bin .sub .f64 (F.conv .f32 .f64 x0) (F.integral Ieee.Toward.down (F.bin .add .f64 (F.conv .f32 .f64 x0) 4602678819172646912))) else false else true
def c_impl_WrapKick (F : FOps) : Con
  | [V.at (A.fl .f32 x0)], [] => some (Pure.impl_WrapKick_ok F x0, ⟨V.tup [(false, [A.fl .f32 (Pure.impl_WrapKick F x0)]), (false, [A.bool (Pure.impl_IsFinite F x0)])], none, []⟩)
  | _, _ => none
theorem e_impl_WrapKick (F : FOps) (x0 : Int) : Pure.impl_WrapKick_ok F x0 = true → evFn (cxS F tyl [(95, c_impl_IsFinite F), (89, c_math_Floor F)] [] [] 0) Try.f91 false [V.at (A.fl .f32 x0)] [] = some ⟨V.tup [(false, [A.fl .f32 (Pure.impl_WrapKick F x0)]), (false, [A.bool (Pure.impl_IsFinite F x0)])], none, []⟩ := by
  have h0 : evFn (cxS F tyl [(95, c_impl_IsFinite F), (89, c_math_Floor F)] [] [] 0) Try.f91 false [V.at (A.fl .f32 x0)] [] = bif Bool.not (Pure.impl_IsFinite F x0) then some ⟨V.tup [(false, [A.fl .f32 0]), (false, [A.bool false])], none, []⟩ else bif F.convOk .f32 .f64 x0 then bif F.convOk .f32 .f64 x0 then bif F.convOk .f64 .f32 (F.bin .sub .f64 (F.conv .f32 .f64 x0) (F.integral Ieee.Toward.down (F.bin .add .f64 (F.conv .f32 .f64 x0) 4602678819172646912))) then bif F.cmp .geq .f32 (F.conv .f64 .f32 (F.bin .sub .f64 (F.conv .f32 .f64 x0) (F.integral Ieee.Toward.down (F.bin .add .f64 (F.conv .f32 .f64 x0) 4602678819172646912)))) 1056964608 then some ⟨V.tup [(false, [A.fl .f32 3204448256]), (false, [A.bool true])], none, []⟩ else bif F.cmp .eql .f32 (F.conv .f64 .f32 (F.bin .sub .f64 (F.conv .f32 .f64 x0) (F.integral Ieee.Toward.down (F.bin .add .f64 (F.conv .f32 .f64 x0) 4602678819172646912)))) 0 then some ⟨V.tup [(false, [A.fl .f32 0]), (false, [A.bool true])], none, []⟩ else some ⟨V.tup [(false, [A.fl .f32 (F.conv .f64 .f32 (F.bin .sub .f64 (F.conv .f32 .f64 x0) (F.integral Ieee.Toward.down (F.bin .add .f64 (F.conv .f32 .f64 x0) 4602678819172646912))))]), (false, [A.bool true])], none, []⟩ else none else none else none := by kernel_rfl
  rw [h0]
  unfold Pure.impl_WrapKick Pure.impl_WrapKick_ok
  cases (Pure.impl_IsFinite F x0) with
  | true =>
    cases (F.convOk .f32 .f64 x0) with
    | true =>
      cases (F.convOk .f64 .f32 (F.bin .sub .f64 (F.conv .f32 .f64 x0) (F.integral Ieee.Toward.down (F.bin .add .f64 (F.conv .f32 .f64 x0) 4602678819172646912)))) with
      | true =>
        cases (F.cmp .geq .f32 (F.conv .f64 .f32 (F.bin .sub .f64 (F.conv .f32 .f64 x0) (F.integral Ieee.Toward.down (F.bin .add .f64 (F.conv .f32 .f64 x0) 4602678819172646912)))) 1056964608) with
        | true =>
          intro _; rfl
        | false =>
          cases (F.cmp .eql .f32 (F.conv .f64 .f32 (F.bin .sub .f64 (F.conv .f32 .f64 x0) (F.integral Ieee.Toward.down (F.bin .add .f64 (F.conv .f32 .f64 x0) 4602678819172646912)))) 0) with
          | true =>
            intro _; rfl
          | false =>
            intro _; rfl
      | false =>
        intro h; exact absurd h Bool.false_ne_true
    | false =>
      intro h; exact absurd h Bool.false_ne_true
  | false =>
    intro _; rfl
theorem ok_impl_WrapKick : CallOK Try.prog 91 (c_impl_WrapKick real) := by
  refine callOK_of fun args h ret hc => ?_
  unfold c_impl_WrapKick at hc
  split at hc
  · rename_i x0
    obtain ⟨hok, rfl⟩ := some_ret hc
    exact holds_ev prog_ok (allOK_cons ok_impl_IsFinite (allOK_cons ok_math_Floor allOK_nil)) Try.func91 rfl rfl smL_nil rfl (e_impl_WrapKick real x0 hok)
  · cases hc
def Pure.impl_kicked_ok (F : FOps) (x0 : Int) : Bool := Pure.impl_WrapKick_ok F x0
def c_impl_kicked (F : FOps) : Con
  | [V.at (A.fl .f32 x0)], [] => some (Pure.impl_kicked_ok F x0, ⟨V.at (A.fl .f32 (Pure.impl_WrapKick F x0)), none, []⟩)
  | _, _ => none
theorem e_impl_kicked (F : FOps) (x0 : Int) : Pure.impl_kicked_ok F x0 = true → evFn (cxS F tyl [(91, c_impl_WrapKick F)] [] [] 0) Try.f56 false [V.at (A.fl .f32 x0)] [] = some ⟨V.at (A.fl .f32 (Pure.impl_WrapKick F x0)), none, []⟩ := by
  have h0 : evFn (cxS F tyl [(91, c_impl_WrapKick F)] [] [] 0) Try.f56 false [V.at (A.fl .f32 x0)] [] = bif Pure.impl_WrapKick_ok F x0 then some ⟨V.at (A.fl .f32 (Pure.impl_WrapKick F x0)), none, []⟩ else none := by kernel_rfl
  rw [h0]
  unfold Pure.impl_kicked_ok
  cases (Pure.impl_WrapKick_ok F x0) with
  | true =>
    intro _; rfl
  | false =>
    intro h; exact absurd h Bool.false_ne_true
theorem ok_impl_kicked : CallOK Try.prog 56 (c_impl_kicked real) := by
  refine callOK_of fun args h ret hc => ?_
  unfold c_impl_kicked at hc
  split at hc
  · rename_i x0
    obtain ⟨hok, rfl⟩ := some_ret hc
    exact holds_ev prog_ok (allOK_cons ok_impl_WrapKick allOK_nil) Try.func56 rfl rfl smL_nil rfl (e_impl_kicked real x0 hok)
  · cases hc
end Go.Fx
