import Derived.Test.YtmcfcijddhgphaaXr4b2
import Derived.KernelRfl
namespace Go.Fx
open Go.Proofs
set_option maxRecDepth 100000
def c_math_archFloor (F : FOps) : Con
  | [V.at (A.fl .f64 x)], [] => some (true, ⟨V.at (A.fl .f64 (F.integral .down x)), none, []⟩)
  | _, _ => none
theorem ok_math_archFloor : CallOK Try.prog 90 (c_math_archFloor real) := by
  refine callOK_of fun args h ret hc => ?_
  unfold c_math_archFloor at hc
  split at hc
  · rename_i x
    obtain ⟨_, rfl⟩ := some_ret hc
    exact ext_integral (nm := "math.archFloor") Try.func90 rfl rfl (by kernel_rfl) (by kernel_rfl) x
  · cases hc
def Pure.math_IsNaN (F : FOps) (x0 : Int) : Bool := FOps.cmp F BinOp.neq .f64 x0 x0
def c_math_IsNaN (F : FOps) : Con
  | [V.at (A.fl .f64 x0)], [] => some (true, ⟨V.at (A.bool (Pure.math_IsNaN F x0)), none, []⟩)
  | _, _ => none
theorem e_math_IsNaN (F : FOps) (x0 : Int) : evFn (cxS F tyl [] [] [] 0) Try.f116 false [V.at (A.fl .f64 x0)] [] = some ⟨V.at (A.bool (Pure.math_IsNaN F x0)), none, []⟩ := by
  kernel_rfl
theorem ok_math_IsNaN : CallOK Try.prog 116 (c_math_IsNaN real) := by
  refine callOK_of fun args h ret hc => ?_
  unfold c_math_IsNaN at hc
  split at hc
  · rename_i x0
    obtain ⟨_, rfl⟩ := some_ret hc
    exact holds_ev prog_ok allOK_nil Try.func116 rfl rfl smL_nil rfl (e_math_IsNaN real x0)
  · cases hc
def Pure.math_IsInf (F : FOps) (x0 : Int) (x1 : Int) : Bool := bif x1 == 0 then FOps.cmp F BinOp.gtr .f64 (FOps.abs F .f64 x0) 9218868437227405311 else bif decide (x1 < 0) then FOps.cmp F BinOp.gtr .f64 (FOps.neg F .f64 x0) 9218868437227405311 else FOps.cmp F BinOp.gtr .f64 x0 9218868437227405311
def c_math_IsInf (F : FOps) : Con
  | [V.at (A.fl .f64 x0), V.at (A.int .i64 x1)], [] => some (true, ⟨V.at (A.bool (Pure.math_IsInf F x0 x1)), none, []⟩)
  | _, _ => none
theorem e_math_IsInf (F : FOps) (x0 : Int) (x1 : Int) : evFn (cxS F tyl [(127, c_math_Abs F)] [] [] 0) Try.f117 false [V.at (A.fl .f64 x0), V.at (A.int .i64 x1)] [] = some ⟨V.at (A.bool (Pure.math_IsInf F x0 x1)), none, []⟩ := by
  have h0 : evFn (cxS F tyl [(127, c_math_Abs F)] [] [] 0) Try.f117 false [V.at (A.fl .f64 x0), V.at (A.int .i64 x1)] [] = bif x1 == 0 then some ⟨V.at (A.bool (FOps.cmp F BinOp.gtr .f64 (FOps.abs F .f64 x0) 9218868437227405311)), none, []⟩ else bif decide (x1 < 0) then some ⟨V.at (A.bool (FOps.cmp F BinOp.gtr .f64 (FOps.neg F .f64 x0) 9218868437227405311)), none, []⟩ else some ⟨V.at (A.bool (FOps.cmp F BinOp.gtr .f64 x0 9218868437227405311)), none, []⟩ := by kernel_rfl
  rw [h0]
  unfold Pure.math_IsInf
  cases (x1 == 0) with
  | true =>
    rfl
  | false =>
    cases (decide (x1 < 0)) with
    | true =>
      rfl
    | false =>
      rfl
theorem ok_math_IsInf : CallOK Try.prog 117 (c_math_IsInf real) := by
  refine callOK_of fun args h ret hc => ?_
  unfold c_math_IsInf at hc
  split at hc
  · rename_i x0 x1
    obtain ⟨_, rfl⟩ := some_ret hc
    exact holds_ev prog_ok (allOK_cons ok_math_Abs allOK_nil) Try.func117 rfl rfl smL_nil rfl (e_math_IsInf real x0 x1)
  · cases hc
def Pure.math_floor_ok (F : FOps) (x0 : Int) : Bool := bif FOps.cmp F BinOp.eql .f64 x0 0 then true else bif Pure.math_IsNaN F x0 then true else Pure.math_IsInf F x0 0
def c_math_floor (F : FOps) : Con
  | [V.at (A.fl .f64 x0)], [] => some (Pure.math_floor_ok F x0, ⟨V.at (A.fl .f64 x0), none, []⟩)
  | _, _ => none
theorem e_math_floor (F : FOps) (x0 : Int) : Pure.math_floor_ok F x0 = true → evFn (cxS F tyl [(116, c_math_IsNaN F), (117, c_math_IsInf F)] [] [] 0) Try.f91 false [V.at (A.fl .f64 x0)] [] = some ⟨V.at (A.fl .f64 x0), none, []⟩ := by
  have h0 : evFn (cxS F tyl [(116, c_math_IsNaN F), (117, c_math_IsInf F)] [] [] 0) Try.f91 false [V.at (A.fl .f64 x0)] [] = bif FOps.cmp F BinOp.eql .f64 x0 0 then some ⟨V.at (A.fl .f64 x0), none, []⟩ else bif Pure.math_IsNaN F x0 then some ⟨V.at (A.fl .f64 x0), none, []⟩ else bif Pure.math_IsInf F x0 0 then some ⟨V.at (A.fl .f64 x0), none, []⟩ else bif FOps.cmp F BinOp.lss .f64 x0 0 then none else none := by kernel_rfl
  rw [h0]
  unfold Pure.math_floor_ok
  cases (FOps.cmp F BinOp.eql .f64 x0 0) with
  | true =>
    intro _; rfl
  | false =>
    cases (Pure.math_IsNaN F x0) with
    | true =>
      intro _; rfl
    | false =>
      cases (Pure.math_IsInf F x0 0) with
      | true =>
        intro _; rfl
      | false =>
        cases (FOps.cmp F BinOp.lss .f64 x0 0) with
        | true =>
          intro h; exact absurd h Bool.false_ne_true
        | false =>
          intro h; exact absurd h Bool.false_ne_true
theorem ok_math_floor : CallOK Try.prog 91 (c_math_floor real) := by
  refine callOK_of fun args h ret hc => ?_
  unfold c_math_floor at hc
  split at hc
  · rename_i x0
    obtain ⟨hok, rfl⟩ := some_ret hc
    exact holds_ev prog_ok (allOK_cons ok_math_IsNaN (allOK_cons ok_math_IsInf allOK_nil)) Try.func91 rfl rfl smL_nil rfl (e_math_floor real x0 hok)
  · cases hc
def c_math_Floor (F : FOps) : Con
  | [V.at (A.fl .f64 x0)], [] => some (true, ⟨V.at (A.fl .f64 (FOps.integral F Ieee.Toward.down x0)), none, []⟩)
  | _, _ => none
theorem e_math_Floor (F : FOps) (x0 : Int) : evFn (cxS F tyl [(90, c_math_archFloor F), (91, c_math_floor F)] [] [] 0) Try.f48 false [V.at (A.fl .f64 x0)] [] = some ⟨V.at (A.fl .f64 (FOps.integral F Ieee.Toward.down x0)), none, []⟩ := by
  kernel_rfl
theorem ok_math_Floor : CallOK Try.prog 48 (c_math_Floor real) := by
  refine callOK_of fun args h ret hc => ?_
  unfold c_math_Floor at hc
  split at hc
  · rename_i x0
    obtain ⟨_, rfl⟩ := some_ret hc
    exact holds_ev prog_ok (allOK_cons ok_math_archFloor (allOK_cons ok_math_floor allOK_nil)) Try.func48 rfl rfl smL_nil rfl (e_math_Floor real x0)
  · cases hc
end Go.Fx
