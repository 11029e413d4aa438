import Derived.Test.YtfefhcbffepdlaaXr6b
import Derived.KernelRfl
namespace Go.Fx
open Go.Proofs
set_option maxRecDepth 100000
def Pure.spec_l01Finite (F : FOps) (x0 : Int) : Bool := FOps.cmp F BinOp.eql FloatKind.f32 (FOps.bin F BinOp.sub FloatKind.f32 x0 x0) 0
def c_spec_l01Finite (F : FOps) : Con
  | [V.at (A.fl FloatKind.f32 x0)], [] => some (true, ⟨V.at (A.bool (Pure.spec_l01Finite F x0)), none, []⟩)
  | _, _ => none
theorem e_spec_l01Finite (F : FOps) (x0 : Int) : evFn (cxS F tyl [] [] [] 0) Try.f47 false [V.at (A.fl FloatKind.f32 x0)] [] = some ⟨V.at (A.bool (Pure.spec_l01Finite F x0)), none, []⟩ := by
  kernel_rfl
theorem ok_spec_l01Finite : CallOK Try.prog 47 (c_spec_l01Finite real) := by
  refine callOK_of fun args h ret hc => ?_
  unfold c_spec_l01Finite at hc
  split at hc
  · rename_i x0
    obtain ⟨_, rfl⟩ := some_ret hc
    exact holds_ev prog_ok allOK_nil Try.func47 rfl rfl smL_nil rfl (e_spec_l01Finite real x0)
  · cases hc
def Pure.spec_l04Spin (F : FOps) (x0 : Int) (x1 : Int) (x2 : Int) (x3 : Int) : Bool := bif Pure.spec_l01Finite F x0 then bif Pure.spec_l01Finite F x1 then bif Pure.spec_l01Finite F x2 then bif Pure.spec_l01Finite F x3 then bif FOps.cmp F BinOp.neq FloatKind.f32 x0 0 then true else bif FOps.cmp F BinOp.neq FloatKind.f32 x1 0 then true else bif FOps.cmp F BinOp.neq FloatKind.f32 x2 0 then true else FOps.cmp F BinOp.neq FloatKind.f32 x3 0 else false else false else false else false
def c_spec_l04Spin (F : FOps) : Con
  | [V.at (A.ptr 0 0 0)], [⟨false, OC.box [A.fl FloatKind.f32 x0, A.fl FloatKind.f32 x1, A.fl FloatKind.f32 x2, A.fl FloatKind.f32 x3]⟩] => some (true, ⟨V.at (A.bool (Pure.spec_l04Spin F x0 x1 x2 x3)), none, []⟩)
  | _, _ => none
theorem e_spec_l04Spin (F : FOps) (x0 : Int) (x1 : Int) (x2 : Int) (x3 : Int) : evFn (cxS F tyl [(47, c_spec_l01Finite F)] [] [] 0) Try.f37 false [V.at (A.ptr 0 0 0)] [⟨false, OC.box [A.fl FloatKind.f32 x0, A.fl FloatKind.f32 x1, A.fl FloatKind.f32 x2, A.fl FloatKind.f32 x3]⟩] = some ⟨V.at (A.bool (Pure.spec_l04Spin F x0 x1 x2 x3)), none, []⟩ := by
  have h0 : evFn (cxS F tyl [(47, c_spec_l01Finite F)] [] [] 0) Try.f37 false [V.at (A.ptr 0 0 0)] [⟨false, OC.box [A.fl FloatKind.f32 x0, A.fl FloatKind.f32 x1, A.fl FloatKind.f32 x2, A.fl FloatKind.f32 x3]⟩] = bif Bool.not (Pure.spec_l01Finite F x0) then some ⟨V.at (A.bool false), none, []⟩ else bif Bool.not (Pure.spec_l01Finite F x1) then some ⟨V.at (A.bool false), none, []⟩ else bif Bool.not (Pure.spec_l01Finite F x2) then some ⟨V.at (A.bool false), none, []⟩ else bif Bool.not (Pure.spec_l01Finite F x3) then some ⟨V.at (A.bool false), none, []⟩ else bif FOps.cmp F BinOp.neq FloatKind.f32 x0 0 then some ⟨V.at (A.bool true), none, []⟩ else bif FOps.cmp F BinOp.neq FloatKind.f32 x1 0 then some ⟨V.at (A.bool true), none, []⟩ else bif FOps.cmp F BinOp.neq FloatKind.f32 x2 0 then some ⟨V.at (A.bool true), none, []⟩ else some ⟨V.at (A.bool (FOps.cmp F BinOp.neq FloatKind.f32 x3 0)), none, []⟩ := by kernel_rfl
  rw [h0]
  unfold Pure.spec_l04Spin
  cases (Pure.spec_l01Finite F x0) with
  | true =>
    cases (Pure.spec_l01Finite F x1) with
    | true =>
      cases (Pure.spec_l01Finite F x2) with
      | true =>
        cases (Pure.spec_l01Finite F x3) with
        | true =>
          cases (FOps.cmp F BinOp.neq FloatKind.f32 x0 0) with
          | true =>
            rfl
          | false =>
            cases (FOps.cmp F BinOp.neq FloatKind.f32 x1 0) with
            | true =>
              rfl
            | false =>
              cases (FOps.cmp F BinOp.neq FloatKind.f32 x2 0) with
              | true =>
                rfl
              | false =>
                rfl
        | false =>
          rfl
      | false =>
        rfl
    | false =>
      rfl
  | false =>
    rfl
theorem ok_spec_l04Spin : CallOK Try.prog 37 (c_spec_l04Spin real) := by
  refine callOK_of fun args h ret hc => ?_
  unfold c_spec_l04Spin at hc
  split at hc
  · rename_i x0 x1 x2 x3
    obtain ⟨_, rfl⟩ := some_ret hc
    exact holds_ev prog_ok (allOK_cons ok_spec_l01Finite allOK_nil) Try.func37 rfl rfl smL_nil rfl (e_spec_l04Spin real x0 x1 x2 x3)
  · cases hc
def Pure.spec_l04Spin_in (F : FOps) (x0 : Int) (x1 : Int) (x2 : Int) (x3 : Int) (x4 : Int) (x5 : Int) (x6 : Int) (x7 : Int) (x8 : Int) (x9 : Int) : Bool := bif Pure.spec_l01Finite F x3 then bif Pure.spec_l01Finite F x4 then bif Pure.spec_l01Finite F x5 then bif Pure.spec_l01Finite F x6 then bif FOps.cmp F BinOp.neq FloatKind.f32 x3 0 then true else bif FOps.cmp F BinOp.neq FloatKind.f32 x4 0 then true else bif FOps.cmp F BinOp.neq FloatKind.f32 x5 0 then true else FOps.cmp F BinOp.neq FloatKind.f32 x6 0 else false else false else false else false
def c_spec_l04Spin_in (F : FOps) : Con
  | [V.at (A.ptr 0 0 3)], [⟨false, OC.box [A.fl FloatKind.f32 x0, A.fl FloatKind.f32 x1, A.fl FloatKind.f32 x2, A.fl FloatKind.f32 x3, A.fl FloatKind.f32 x4, A.fl FloatKind.f32 x5, A.fl FloatKind.f32 x6, A.fl FloatKind.f32 x7, A.fl FloatKind.f32 x8, A.fl FloatKind.f32 x9]⟩] => some (true, ⟨V.at (A.bool (Pure.spec_l04Spin_in F x0 x1 x2 x3 x4 x5 x6 x7 x8 x9)), none, []⟩)
  | _, _ => none
theorem e_spec_l04Spin_in (F : FOps) (x0 : Int) (x1 : Int) (x2 : Int) (x3 : Int) (x4 : Int) (x5 : Int) (x6 : Int) (x7 : Int) (x8 : Int) (x9 : Int) : evFn (cxS F tyl [(47, c_spec_l01Finite F)] [] [] 0) Try.f37 false [V.at (A.ptr 0 0 3)] [⟨false, OC.box [A.fl FloatKind.f32 x0, A.fl FloatKind.f32 x1, A.fl FloatKind.f32 x2, A.fl FloatKind.f32 x3, A.fl FloatKind.f32 x4, A.fl FloatKind.f32 x5, A.fl FloatKind.f32 x6, A.fl FloatKind.f32 x7, A.fl FloatKind.f32 x8, A.fl FloatKind.f32 x9]⟩] = some ⟨V.at (A.bool (Pure.spec_l04Spin_in F x0 x1 x2 x3 x4 x5 x6 x7 x8 x9)), none, []⟩ := by
  have h0 : evFn (cxS F tyl [(47, c_spec_l01Finite F)] [] [] 0) Try.f37 false [V.at (A.ptr 0 0 3)] [⟨false, OC.box [A.fl FloatKind.f32 x0, A.fl FloatKind.f32 x1, A.fl FloatKind.f32 x2, A.fl FloatKind.f32 x3, A.fl FloatKind.f32 x4, A.fl FloatKind.f32 x5, A.fl FloatKind.f32 x6, A.fl FloatKind.f32 x7, A.fl FloatKind.f32 x8, A.fl FloatKind.f32 x9]⟩] = bif Bool.not (Pure.spec_l01Finite F x3) then some ⟨V.at (A.bool false), none, []⟩ else bif Bool.not (Pure.spec_l01Finite F x4) then some ⟨V.at (A.bool false), none, []⟩ else bif Bool.not (Pure.spec_l01Finite F x5) then some ⟨V.at (A.bool false), none, []⟩ else bif Bool.not (Pure.spec_l01Finite F x6) then some ⟨V.at (A.bool false), none, []⟩ else bif FOps.cmp F BinOp.neq FloatKind.f32 x3 0 then some ⟨V.at (A.bool true), none, []⟩ else bif FOps.cmp F BinOp.neq FloatKind.f32 x4 0 then some ⟨V.at (A.bool true), none, []⟩ else bif FOps.cmp F BinOp.neq FloatKind.f32 x5 0 then some ⟨V.at (A.bool true), none, []⟩ else some ⟨V.at (A.bool (FOps.cmp F BinOp.neq FloatKind.f32 x6 0)), none, []⟩ := by kernel_rfl
  rw [h0]
  unfold Pure.spec_l04Spin_in
  cases (Pure.spec_l01Finite F x3) with
  | true =>
    cases (Pure.spec_l01Finite F x4) with
    | true =>
      cases (Pure.spec_l01Finite F x5) with
      | true =>
        cases (Pure.spec_l01Finite F x6) with
        | true =>
          cases (FOps.cmp F BinOp.neq FloatKind.f32 x3 0) with
          | true =>
            rfl
          | false =>
            cases (FOps.cmp F BinOp.neq FloatKind.f32 x4 0) with
            | true =>
              rfl
            | false =>
              cases (FOps.cmp F BinOp.neq FloatKind.f32 x5 0) with
              | true =>
                rfl
              | false =>
                rfl
        | false =>
          rfl
      | false =>
        rfl
    | false =>
      rfl
  | false =>
    rfl
theorem ok_spec_l04Spin_in : CallOK Try.prog 37 (c_spec_l04Spin_in real) := by
  refine callOK_of fun args h ret hc => ?_
  unfold c_spec_l04Spin_in at hc
  split at hc
  · rename_i x0 x1 x2 x3 x4 x5 x6 x7 x8 x9
    obtain ⟨_, rfl⟩ := some_ret hc
    exact holds_ev prog_ok (allOK_cons ok_spec_l01Finite allOK_nil) Try.func37 rfl rfl smL_nil rfl (e_spec_l04Spin_in real x0 x1 x2 x3 x4 x5 x6 x7 x8 x9)
  · cases hc
def c_spec_l04Spin_or1 (F : FOps) : Con := orC (c_spec_l04Spin F) (c_spec_l04Spin_in F)
theorem ok_spec_l04Spin_or1 : CallOK Try.prog 37 (c_spec_l04Spin_or1 real) := callOK_or ok_spec_l04Spin ok_spec_l04Spin_in
def c_laws_toSpin (_ : FOps) : Con
  | [V.agg [A.fl FloatKind.f32 x0, A.fl FloatKind.f32 x1, A.fl FloatKind.f32 x2, A.fl FloatKind.f32 x3]], [] => some (true, ⟨V.agg [A.fl FloatKind.f32 x0, A.fl FloatKind.f32 x1, A.fl FloatKind.f32 x2, A.fl FloatKind.f32 x3], none, []⟩)
  | _, _ => none
theorem e_laws_toSpin (F : FOps) (x0 : Int) (x1 : Int) (x2 : Int) (x3 : Int) : evFn (cxS F tyl [] [] [] 0) Try.f19 false [V.agg [A.fl FloatKind.f32 x0, A.fl FloatKind.f32 x1, A.fl FloatKind.f32 x2, A.fl FloatKind.f32 x3]] [] = some ⟨V.agg [A.fl FloatKind.f32 x0, A.fl FloatKind.f32 x1, A.fl FloatKind.f32 x2, A.fl FloatKind.f32 x3], none, []⟩ := by
  kernel_rfl
theorem ok_laws_toSpin : CallOK Try.prog 19 (c_laws_toSpin real) := by
  refine callOK_of fun args h ret hc => ?_
  unfold c_laws_toSpin at hc
  split at hc
  · rename_i x0 x1 x2 x3
    obtain ⟨_, rfl⟩ := some_ret hc
    exact holds_ev prog_ok allOK_nil Try.func19 rfl rfl smL_nil rfl (e_laws_toSpin real x0 x1 x2 x3)
  · cases hc
def c_math_sqrt (F : FOps) : Con
  | [V.at (A.fl FloatKind.f64 x)], [] => some (true, ⟨V.at (A.fl FloatKind.f64 (F.sqrt x)), none, []⟩)
  | _, _ => none
theorem ok_math_sqrt : CallOK Try.prog 90 (c_math_sqrt real) := by
  refine callOK_of fun args h ret hc => ?_
  unfold c_math_sqrt at hc
  split at hc
  · rename_i x
    obtain ⟨_, rfl⟩ := some_ret hc
    exact ext_sqrt Try.func90 rfl rfl (by kernel_rfl) (by kernel_rfl) x
  · cases hc
def c_math_Sqrt (F : FOps) : Con
  | [V.at (A.fl FloatKind.f64 x0)], [] => some (true, ⟨V.at (A.fl FloatKind.f64 (FOps.sqrt F x0)), none, []⟩)
  | _, _ => none
theorem e_math_Sqrt (F : FOps) (x0 : Int) : evFn (cxS F tyl [(90, c_math_sqrt F)] [] [] 0) Try.f66 false [V.at (A.fl FloatKind.f64 x0)] [] = some ⟨V.at (A.fl FloatKind.f64 (FOps.sqrt F x0)), none, []⟩ := by
  kernel_rfl
theorem ok_math_Sqrt : CallOK Try.prog 66 (c_math_Sqrt real) := by
  refine callOK_of fun args h ret hc => ?_
  unfold c_math_Sqrt at hc
  split at hc
  · rename_i x0
    obtain ⟨_, rfl⟩ := some_ret hc
    exact holds_ev prog_ok (allOK_cons ok_math_sqrt allOK_nil) Try.func66 rfl rfl smL_nil rfl (e_math_Sqrt real x0)
  · cases hc
def Pure.spec_l01Sqrt (F : FOps) (x0 : Int) : Int := Pure.spec_l01Narrow F (FOps.sqrt F (FOps.conv F FloatKind.f32 FloatKind.f64 x0))
def Pure.spec_l01Sqrt_ok (F : FOps) (x0 : Int) : Bool := bif FOps.convOk F FloatKind.f32 FloatKind.f64 x0 then Pure.spec_l01Narrow_ok F (FOps.sqrt F (FOps.conv F FloatKind.f32 FloatKind.f64 x0)) else false
def c_spec_l01Sqrt (F : FOps) : Con
  | [V.at (A.fl FloatKind.f32 x0)], [] => some (Pure.spec_l01Sqrt_ok F x0, ⟨V.at (A.fl FloatKind.f32 (Pure.spec_l01Sqrt F x0)), none, []⟩)
  | _, _ => none
theorem e_spec_l01Sqrt (F : FOps) (x0 : Int) : Pure.spec_l01Sqrt_ok F x0 = true → evFn (cxS F tyl [(66, c_math_Sqrt F), (101, c_spec_l01Narrow F)] [] [] 0) Try.f94 false [V.at (A.fl FloatKind.f32 x0)] [] = some ⟨V.at (A.fl FloatKind.f32 (Pure.spec_l01Sqrt F x0)), none, []⟩ := by
  have h0 : evFn (cxS F tyl [(66, c_math_Sqrt F), (101, c_spec_l01Narrow F)] [] [] 0) Try.f94 false [V.at (A.fl FloatKind.f32 x0)] [] = bif FOps.convOk F FloatKind.f32 FloatKind.f64 x0 then bif Pure.spec_l01Narrow_ok F (FOps.sqrt F (FOps.conv F FloatKind.f32 FloatKind.f64 x0)) then some ⟨V.at (A.fl FloatKind.f32 (Pure.spec_l01Narrow F (FOps.sqrt F (FOps.conv F FloatKind.f32 FloatKind.f64 x0)))), none, []⟩ else none else none := by kernel_rfl
  rw [h0]
  unfold Pure.spec_l01Sqrt Pure.spec_l01Sqrt_ok
  cases (FOps.convOk F FloatKind.f32 FloatKind.f64 x0) with
  | true =>
    cases (Pure.spec_l01Narrow_ok F (FOps.sqrt F (FOps.conv F FloatKind.f32 FloatKind.f64 x0))) with
    | true =>
      intro _; rfl
    | false =>
      intro h; exact absurd h Bool.false_ne_true
  | false =>
    intro h; exact absurd h Bool.false_ne_true
theorem ok_spec_l01Sqrt : CallOK Try.prog 94 (c_spec_l01Sqrt real) := by
  refine callOK_of fun args h ret hc => ?_
  unfold c_spec_l01Sqrt at hc
  split at hc
  · rename_i x0
    obtain ⟨hok, rfl⟩ := some_ret hc
    exact holds_ev prog_ok (allOK_cons ok_math_Sqrt (allOK_cons ok_spec_l01Narrow allOK_nil)) Try.func94 rfl rfl smL_nil rfl (e_spec_l01Sqrt real x0 hok)
  · cases hc
def Pure.spec_l04Size (F : FOps) (x0 : Int) (x1 : Int) (x2 : Int) (x3 : Int) : Int := Pure.spec_l01Sqrt F (FOps.bin F BinOp.add FloatKind.f32 (FOps.bin F BinOp.add FloatKind.f32 (FOps.bin F BinOp.add FloatKind.f32 (FOps.bin F BinOp.mul FloatKind.f32 x0 x0) (FOps.bin F BinOp.mul FloatKind.f32 x1 x1)) (FOps.bin F BinOp.mul FloatKind.f32 x2 x2)) (FOps.bin F BinOp.mul FloatKind.f32 x3 x3))
def Pure.spec_l04Size_ok (F : FOps) (x0 : Int) (x1 : Int) (x2 : Int) (x3 : Int) : Bool := Pure.spec_l01Sqrt_ok F (FOps.bin F BinOp.add FloatKind.f32 (FOps.bin F BinOp.add FloatKind.f32 (FOps.bin F BinOp.add FloatKind.f32 (FOps.bin F BinOp.mul FloatKind.f32 x0 x0) (FOps.bin F BinOp.mul FloatKind.f32 x1 x1)) (FOps.bin F BinOp.mul FloatKind.f32 x2 x2)) (FOps.bin F BinOp.mul FloatKind.f32 x3 x3))
def c_spec_l04Size (F : FOps) : Con
  | [V.agg [A.fl FloatKind.f32 x0, A.fl FloatKind.f32 x1, A.fl FloatKind.f32 x2, A.fl FloatKind.f32 x3]], [] => some (Pure.spec_l04Size_ok F x0 x1 x2 x3, ⟨V.at (A.fl FloatKind.f32 (Pure.spec_l04Size F x0 x1 x2 x3)), none, []⟩)
  | _, _ => none
theorem e_spec_l04Size (F : FOps) (x0 : Int) (x1 : Int) (x2 : Int) (x3 : Int) : Pure.spec_l04Size_ok F x0 x1 x2 x3 = true → evFn (cxS F tyl [(94, c_spec_l01Sqrt F)] [] [] 0) Try.f71 false [V.agg [A.fl FloatKind.f32 x0, A.fl FloatKind.f32 x1, A.fl FloatKind.f32 x2, A.fl FloatKind.f32 x3]] [] = some ⟨V.at (A.fl FloatKind.f32 (Pure.spec_l04Size F x0 x1 x2 x3)), none, []⟩ := by
  have h0 : evFn (cxS F tyl [(94, c_spec_l01Sqrt F)] [] [] 0) Try.f71 false [V.agg [A.fl FloatKind.f32 x0, A.fl FloatKind.f32 x1, A.fl FloatKind.f32 x2, A.fl FloatKind.f32 x3]] [] = bif Pure.spec_l01Sqrt_ok F (FOps.bin F BinOp.add FloatKind.f32 (FOps.bin F BinOp.add FloatKind.f32 (FOps.bin F BinOp.add FloatKind.f32 (FOps.bin F BinOp.mul FloatKind.f32 x0 x0) (FOps.bin F BinOp.mul FloatKind.f32 x1 x1)) (FOps.bin F BinOp.mul FloatKind.f32 x2 x2)) (FOps.bin F BinOp.mul FloatKind.f32 x3 x3)) then some ⟨V.at (A.fl FloatKind.f32 (Pure.spec_l01Sqrt F (FOps.bin F BinOp.add FloatKind.f32 (FOps.bin F BinOp.add FloatKind.f32 (FOps.bin F BinOp.add FloatKind.f32 (FOps.bin F BinOp.mul FloatKind.f32 x0 x0) (FOps.bin F BinOp.mul FloatKind.f32 x1 x1)) (FOps.bin F BinOp.mul FloatKind.f32 x2 x2)) (FOps.bin F BinOp.mul FloatKind.f32 x3 x3)))), none, []⟩ else none := by kernel_rfl
  rw [h0]
  unfold Pure.spec_l04Size Pure.spec_l04Size_ok
  cases (Pure.spec_l01Sqrt_ok F (FOps.bin F BinOp.add FloatKind.f32 (FOps.bin F BinOp.add FloatKind.f32 (FOps.bin F BinOp.add FloatKind.f32 (FOps.bin F BinOp.mul FloatKind.f32 x0 x0) (FOps.bin F BinOp.mul FloatKind.f32 x1 x1)) (FOps.bin F BinOp.mul FloatKind.f32 x2 x2)) (FOps.bin F BinOp.mul FloatKind.f32 x3 x3))) with
  | true =>
    intro _; rfl
  | false =>
    intro h; exact absurd h Bool.false_ne_true
theorem ok_spec_l04Size : CallOK Try.prog 71 (c_spec_l04Size real) := by
  refine callOK_of fun args h ret hc => ?_
  unfold c_spec_l04Size at hc
  split at hc
  · rename_i x0 x1 x2 x3
    obtain ⟨hok, rfl⟩ := some_ret hc
    exact holds_ev prog_ok (allOK_cons ok_spec_l01Sqrt allOK_nil) Try.func71 rfl rfl smL_nil rfl (e_spec_l04Size real x0 x1 x2 x3 hok)
  · cases hc
def Pure.spec_l04Norm (F : FOps) (x0 : Int) (x1 : Int) (x2 : Int) (x3 : Int) : Int := bif Pure.spec_l04Spin F x0 x1 x2 x3 then bif Pure.spec_l04Spin F (FOps.bin F BinOp.quo FloatKind.f32 x0 (Pure.spec_l04Size F x0 x1 x2 x3)) (FOps.bin F BinOp.quo FloatKind.f32 x1 (Pure.spec_l04Size F x0 x1 x2 x3)) (FOps.bin F BinOp.quo FloatKind.f32 x2 (Pure.spec_l04Size F x0 x1 x2 x3)) (FOps.bin F BinOp.quo FloatKind.f32 x3 (Pure.spec_l04Size F x0 x1 x2 x3)) then FOps.bin F BinOp.quo FloatKind.f32 x0 (Pure.spec_l04Size F x0 x1 x2 x3) else 0 else 0
def Pure.spec_l04Norm_1 (F : FOps) (x0 : Int) (x1 : Int) (x2 : Int) (x3 : Int) : Int := bif Pure.spec_l04Spin F x0 x1 x2 x3 then bif Pure.spec_l04Spin F (FOps.bin F BinOp.quo FloatKind.f32 x0 (Pure.spec_l04Size F x0 x1 x2 x3)) (FOps.bin F BinOp.quo FloatKind.f32 x1 (Pure.spec_l04Size F x0 x1 x2 x3)) (FOps.bin F BinOp.quo FloatKind.f32 x2 (Pure.spec_l04Size F x0 x1 x2 x3)) (FOps.bin F BinOp.quo FloatKind.f32 x3 (Pure.spec_l04Size F x0 x1 x2 x3)) then FOps.bin F BinOp.quo FloatKind.f32 x1 (Pure.spec_l04Size F x0 x1 x2 x3) else 0 else 0
def Pure.spec_l04Norm_2 (F : FOps) (x0 : Int) (x1 : Int) (x2 : Int) (x3 : Int) : Int := bif Pure.spec_l04Spin F x0 x1 x2 x3 then bif Pure.spec_l04Spin F (FOps.bin F BinOp.quo FloatKind.f32 x0 (Pure.spec_l04Size F x0 x1 x2 x3)) (FOps.bin F BinOp.quo FloatKind.f32 x1 (Pure.spec_l04Size F x0 x1 x2 x3)) (FOps.bin F BinOp.quo FloatKind.f32 x2 (Pure.spec_l04Size F x0 x1 x2 x3)) (FOps.bin F BinOp.quo FloatKind.f32 x3 (Pure.spec_l04Size F x0 x1 x2 x3)) then FOps.bin F BinOp.quo FloatKind.f32 x2 (Pure.spec_l04Size F x0 x1 x2 x3) else 0 else 0
def Pure.spec_l04Norm_3 (F : FOps) (x0 : Int) (x1 : Int) (x2 : Int) (x3 : Int) : Int := bif Pure.spec_l04Spin F x0 x1 x2 x3 then bif Pure.spec_l04Spin F (FOps.bin F BinOp.quo FloatKind.f32 x0 (Pure.spec_l04Size F x0 x1 x2 x3)) (FOps.bin F BinOp.quo FloatKind.f32 x1 (Pure.spec_l04Size F x0 x1 x2 x3)) (FOps.bin F BinOp.quo FloatKind.f32 x2 (Pure.spec_l04Size F x0 x1 x2 x3)) (FOps.bin F BinOp.quo FloatKind.f32 x3 (Pure.spec_l04Size F x0 x1 x2 x3)) then FOps.bin F BinOp.quo FloatKind.f32 x3 (Pure.spec_l04Size F x0 x1 x2 x3) else 0 else 0
def Pure.spec_l04Norm_4 (F : FOps) (x0 : Int) (x1 : Int) (x2 : Int) (x3 : Int) : Bool := bif Pure.spec_l04Spin F x0 x1 x2 x3 then Pure.spec_l04Spin F (FOps.bin F BinOp.quo FloatKind.f32 x0 (Pure.spec_l04Size F x0 x1 x2 x3)) (FOps.bin F BinOp.quo FloatKind.f32 x1 (Pure.spec_l04Size F x0 x1 x2 x3)) (FOps.bin F BinOp.quo FloatKind.f32 x2 (Pure.spec_l04Size F x0 x1 x2 x3)) (FOps.bin F BinOp.quo FloatKind.f32 x3 (Pure.spec_l04Size F x0 x1 x2 x3)) else false
def Pure.spec_l04Norm_ok (F : FOps) (x0 : Int) (x1 : Int) (x2 : Int) (x3 : Int) : Bool := Pure.spec_l04Size_ok F x0 x1 x2 x3
def c_spec_l04Norm (F : FOps) : Con
  | [V.agg [A.fl FloatKind.f32 x0, A.fl FloatKind.f32 x1, A.fl FloatKind.f32 x2, A.fl FloatKind.f32 x3]], [] => some (Pure.spec_l04Norm_ok F x0 x1 x2 x3, ⟨V.tup [(true, [A.fl FloatKind.f32 (Pure.spec_l04Norm F x0 x1 x2 x3), A.fl FloatKind.f32 (Pure.spec_l04Norm_1 F x0 x1 x2 x3), A.fl FloatKind.f32 (Pure.spec_l04Norm_2 F x0 x1 x2 x3), A.fl FloatKind.f32 (Pure.spec_l04Norm_3 F x0 x1 x2 x3)]), (false, [A.bool (Pure.spec_l04Norm_4 F x0 x1 x2 x3)])], none, []⟩)
  | _, _ => none
theorem e_spec_l04Norm (F : FOps) (x0 : Int) (x1 : Int) (x2 : Int) (x3 : Int) : Pure.spec_l04Norm_ok F x0 x1 x2 x3 = true → evFn (cxS F tyl [(71, c_spec_l04Size F), (37, c_spec_l04Spin_or1 F)] [] [] 0) Try.f48 false [V.agg [A.fl FloatKind.f32 x0, A.fl FloatKind.f32 x1, A.fl FloatKind.f32 x2, A.fl FloatKind.f32 x3]] [] = some ⟨V.tup [(true, [A.fl FloatKind.f32 (Pure.spec_l04Norm F x0 x1 x2 x3), A.fl FloatKind.f32 (Pure.spec_l04Norm_1 F x0 x1 x2 x3), A.fl FloatKind.f32 (Pure.spec_l04Norm_2 F x0 x1 x2 x3), A.fl FloatKind.f32 (Pure.spec_l04Norm_3 F x0 x1 x2 x3)]), (false, [A.bool (Pure.spec_l04Norm_4 F x0 x1 x2 x3)])], none, []⟩ := by
  have h0 : evFn (cxS F tyl [(71, c_spec_l04Size F), (37, c_spec_l04Spin_or1 F)] [] [] 0) Try.f48 false [V.agg [A.fl FloatKind.f32 x0, A.fl FloatKind.f32 x1, A.fl FloatKind.f32 x2, A.fl FloatKind.f32 x3]] [] = bif Pure.spec_l04Size_ok F x0 x1 x2 x3 then bif Bool.not (Pure.spec_l04Spin F x0 x1 x2 x3) then some ⟨V.tup [(true, [A.fl FloatKind.f32 0, A.fl FloatKind.f32 0, A.fl FloatKind.f32 0, A.fl FloatKind.f32 0]), (false, [A.bool false])], none, []⟩ else bif Bool.not (Pure.spec_l04Spin F (FOps.bin F BinOp.quo FloatKind.f32 x0 (Pure.spec_l04Size F x0 x1 x2 x3)) (FOps.bin F BinOp.quo FloatKind.f32 x1 (Pure.spec_l04Size F x0 x1 x2 x3)) (FOps.bin F BinOp.quo FloatKind.f32 x2 (Pure.spec_l04Size F x0 x1 x2 x3)) (FOps.bin F BinOp.quo FloatKind.f32 x3 (Pure.spec_l04Size F x0 x1 x2 x3))) then some ⟨V.tup [(true, [A.fl FloatKind.f32 0, A.fl FloatKind.f32 0, A.fl FloatKind.f32 0, A.fl FloatKind.f32 0]), (false, [A.bool false])], none, []⟩ else some ⟨V.tup [(true, [A.fl FloatKind.f32 (FOps.bin F BinOp.quo FloatKind.f32 x0 (Pure.spec_l04Size F x0 x1 x2 x3)), A.fl FloatKind.f32 (FOps.bin F BinOp.quo FloatKind.f32 x1 (Pure.spec_l04Size F x0 x1 x2 x3)), A.fl FloatKind.f32 (FOps.bin F BinOp.quo FloatKind.f32 x2 (Pure.spec_l04Size F x0 x1 x2 x3)), A.fl FloatKind.f32 (FOps.bin F BinOp.quo FloatKind.f32 x3 (Pure.spec_l04Size F x0 x1 x2 x3))]), (false, [A.bool true])], none, []⟩ else none := by kernel_rfl
  rw [h0]
  unfold Pure.spec_l04Norm Pure.spec_l04Norm_1 Pure.spec_l04Norm_2 Pure.spec_l04Norm_3 Pure.spec_l04Norm_4 Pure.spec_l04Norm_ok
  cases (Pure.spec_l04Size_ok F x0 x1 x2 x3) with
  | true =>
    cases (Pure.spec_l04Spin F x0 x1 x2 x3) with
    | true =>
      cases (Pure.spec_l04Spin F (FOps.bin F BinOp.quo FloatKind.f32 x0 (Pure.spec_l04Size F x0 x1 x2 x3)) (FOps.bin F BinOp.quo FloatKind.f32 x1 (Pure.spec_l04Size F x0 x1 x2 x3)) (FOps.bin F BinOp.quo FloatKind.f32 x2 (Pure.spec_l04Size F x0 x1 x2 x3)) (FOps.bin F BinOp.quo FloatKind.f32 x3 (Pure.spec_l04Size F x0 x1 x2 x3))) with
      | true =>
        intro _; rfl
      | false =>
        intro _; rfl
    | false =>
      intro _; rfl
  | false =>
    intro h; exact absurd h Bool.false_ne_true
theorem ok_spec_l04Norm : CallOK Try.prog 48 (c_spec_l04Norm real) := by
  refine callOK_of fun args h ret hc => ?_
  unfold c_spec_l04Norm at hc
  split at hc
  · rename_i x0 x1 x2 x3
    obtain ⟨hok, rfl⟩ := some_ret hc
    exact holds_ev prog_ok (allOK_cons ok_spec_l04Size (allOK_cons ok_spec_l04Spin_or1 allOK_nil)) Try.func48 rfl rfl smL_nil rfl (e_spec_l04Norm real x0 x1 x2 x3 hok)
  · cases hc
def Pure.impl_Spin_numbers (F : FOps) (x0 : Int) (x1 : Int) (x2 : Int) (x3 : Int) : List (List Int) := [[x0], [x1], [x2], [x3]]
def c_impl_Spin_numbers (F : FOps) : Con
  | [V.at (A.ptr 0 0 0)], [⟨false, OC.box [A.fl FloatKind.f32 x0, A.fl FloatKind.f32 x1, A.fl FloatKind.f32 x2, A.fl FloatKind.f32 x3]⟩] => some (true, ⟨V.at (A.sl 1), none, [⟨true, OC.rows [K.f FloatKind.f32] (Pure.impl_Spin_numbers F x0 x1 x2 x3)⟩]⟩)
  | _, _ => none
theorem e_impl_Spin_numbers (F : FOps) (x0 : Int) (x1 : Int) (x2 : Int) (x3 : Int) : evFn (cxS F tyl [] [] [] 0) Try.f45 false [V.at (A.ptr 0 0 0)] [⟨false, OC.box [A.fl FloatKind.f32 x0, A.fl FloatKind.f32 x1, A.fl FloatKind.f32 x2, A.fl FloatKind.f32 x3]⟩] = some ⟨V.at (A.sl 1), none, [⟨true, OC.rows [K.f FloatKind.f32] (Pure.impl_Spin_numbers F x0 x1 x2 x3)⟩]⟩ := by
  kernel_rfl
theorem ok_impl_Spin_numbers : CallOK Try.prog 45 (c_impl_Spin_numbers real) := by
  refine callOK_of fun args h ret hc => ?_
  unfold c_impl_Spin_numbers at hc
  split at hc
  · rename_i x0 x1 x2 x3
    obtain ⟨_, rfl⟩ := some_ret hc
    exact holds_ev prog_ok allOK_nil Try.func45 rfl rfl smL_nil rfl (e_impl_Spin_numbers real x0 x1 x2 x3)
  · cases hc
def Pure.impl_finite (F : FOps) (x0 : List (List Int)) : Bool := bif Pure.slices_ContainsFunc_float32_float32_finite F x0 then false else true
def Pure.impl_finite_ok (F : FOps) (x0 : List (List Int)) : Bool := Pure.slices_ContainsFunc_float32_float32_finite_ok F x0
def c_impl_finite (F : FOps) : Con
  | [V.at (A.sl 0)], [⟨false, OC.rows [K.f FloatKind.f32] x0⟩] => some (Pure.impl_finite_ok F x0, ⟨V.at (A.bool (Pure.impl_finite F x0)), none, []⟩)
  | _, _ => none
theorem e_impl_finite (F : FOps) (x0 : List (List Int)) : Pure.impl_finite_ok F x0 = true → evFn (cxS F tyl [(67, c_slices_ContainsFunc_float32_float32_finite F), (68, c_impl_finite_c1 F)] [] [] 0) Try.f44 false [V.at (A.sl 0)] [⟨false, OC.rows [K.f FloatKind.f32] x0⟩] = some ⟨V.at (A.bool (Pure.impl_finite F x0)), none, []⟩ := by
  have h0 : evFn (cxS F tyl [(67, c_slices_ContainsFunc_float32_float32_finite F), (68, c_impl_finite_c1 F)] [] [] 0) Try.f44 false [V.at (A.sl 0)] [⟨false, OC.rows [K.f FloatKind.f32] x0⟩] = bif Pure.slices_ContainsFunc_float32_float32_finite_ok F x0 then some ⟨V.at (A.bool (bif Pure.slices_ContainsFunc_float32_float32_finite F x0 then false else true)), none, []⟩ else none := by kernel_rfl
  rw [h0]
  unfold Pure.impl_finite Pure.impl_finite_ok
  cases (Pure.slices_ContainsFunc_float32_float32_finite_ok F x0) with
  | true =>
    intro _; rfl
  | false =>
    intro h; exact absurd h Bool.false_ne_true
theorem ok_impl_finite : CallOK Try.prog 44 (c_impl_finite real) := by
  refine callOK_of fun args h ret hc => ?_
  unfold c_impl_finite at hc
  split at hc
  · rename_i x0
    obtain ⟨hok, rfl⟩ := some_ret hc
    exact holds_ev prog_ok (allOK_cons ok_slices_ContainsFunc_float32_float32_finite (allOK_cons ok_impl_finite_c1 allOK_nil)) Try.func44 rfl rfl smL_nil rfl (e_impl_finite real x0 hok)
  · cases hc
def Pure.impl_IsSpin (F : FOps) (x0 : Int) (x1 : Int) (x2 : Int) (x3 : Int) : Bool := bif Pure.impl_finite F (Pure.impl_Spin_numbers F x0 x1 x2 x3) then bif FOps.cmp F BinOp.neq FloatKind.f32 x0 0 then true else bif FOps.cmp F BinOp.neq FloatKind.f32 x1 0 then true else bif FOps.cmp F BinOp.neq FloatKind.f32 x2 0 then true else FOps.cmp F BinOp.neq FloatKind.f32 x3 0 else false
def Pure.impl_IsSpin_ok (F : FOps) (x0 : Int) (x1 : Int) (x2 : Int) (x3 : Int) : Bool := Pure.impl_finite_ok F (Pure.impl_Spin_numbers F x0 x1 x2 x3)
def c_impl_IsSpin (F : FOps) : Con
  | [V.agg [A.fl FloatKind.f32 x0, A.fl FloatKind.f32 x1, A.fl FloatKind.f32 x2, A.fl FloatKind.f32 x3]], [] => some (Pure.impl_IsSpin_ok F x0 x1 x2 x3, ⟨V.at (A.bool (Pure.impl_IsSpin F x0 x1 x2 x3)), none, []⟩)
  | _, _ => none
theorem e_impl_IsSpin (F : FOps) (x0 : Int) (x1 : Int) (x2 : Int) (x3 : Int) : Pure.impl_IsSpin_ok F x0 x1 x2 x3 = true → evFn (cxS F tyl [(45, c_impl_Spin_numbers F), (44, c_impl_finite F)] [] [] 0) Try.f15 false [V.agg [A.fl FloatKind.f32 x0, A.fl FloatKind.f32 x1, A.fl FloatKind.f32 x2, A.fl FloatKind.f32 x3]] [] = some ⟨V.at (A.bool (Pure.impl_IsSpin F x0 x1 x2 x3)), none, []⟩ := by
  have h0 : evFn (cxS F tyl [(45, c_impl_Spin_numbers F), (44, c_impl_finite F)] [] [] 0) Try.f15 false [V.agg [A.fl FloatKind.f32 x0, A.fl FloatKind.f32 x1, A.fl FloatKind.f32 x2, A.fl FloatKind.f32 x3]] [] = bif Pure.impl_finite_ok F (Pure.impl_Spin_numbers F x0 x1 x2 x3) then bif Pure.impl_finite F (Pure.impl_Spin_numbers F x0 x1 x2 x3) then bif FOps.cmp F BinOp.neq FloatKind.f32 x0 0 then some ⟨V.at (A.bool true), none, []⟩ else bif FOps.cmp F BinOp.neq FloatKind.f32 x1 0 then some ⟨V.at (A.bool true), none, []⟩ else bif FOps.cmp F BinOp.neq FloatKind.f32 x2 0 then some ⟨V.at (A.bool true), none, []⟩ else some ⟨V.at (A.bool (FOps.cmp F BinOp.neq FloatKind.f32 x3 0)), none, []⟩ else some ⟨V.at (A.bool false), none, []⟩ else none := by kernel_rfl
  rw [h0]
  unfold Pure.impl_IsSpin Pure.impl_IsSpin_ok
  cases (Pure.impl_finite_ok F (Pure.impl_Spin_numbers F x0 x1 x2 x3)) with
  | true =>
    cases (Pure.impl_finite F (Pure.impl_Spin_numbers F x0 x1 x2 x3)) with
    | true =>
      cases (FOps.cmp F BinOp.neq FloatKind.f32 x0 0) with
      | true =>
        intro _; rfl
      | false =>
        cases (FOps.cmp F BinOp.neq FloatKind.f32 x1 0) with
        | true =>
          intro _; rfl
        | false =>
          cases (FOps.cmp F BinOp.neq FloatKind.f32 x2 0) with
          | true =>
            intro _; rfl
          | false =>
            intro _; rfl
    | false =>
      intro _; rfl
  | false =>
    intro h; exact absurd h Bool.false_ne_true
theorem ok_impl_IsSpin : CallOK Try.prog 15 (c_impl_IsSpin real) := by
  refine callOK_of fun args h ret hc => ?_
  unfold c_impl_IsSpin at hc
  split at hc
  · rename_i x0 x1 x2 x3
    obtain ⟨hok, rfl⟩ := some_ret hc
    exact holds_ev prog_ok (allOK_cons ok_impl_Spin_numbers (allOK_cons ok_impl_finite allOK_nil)) Try.func15 rfl rfl smL_nil rfl (e_impl_IsSpin real x0 x1 x2 x3 hok)
  · cases hc
def Pure.impl_along (F : FOps) (x0 : Int) (x1 : Int) (x2 : Int) (x3 : Int) (x4 : Int) (x5 : Int) (x6 : Int) (x7 : Int) (x8 : Int) : Int := FOps.bin F BinOp.add FloatKind.f32 x0 (FOps.bin F BinOp.mul FloatKind.f32 x8 x4)
def Pure.impl_along_1 (F : FOps) (x0 : Int) (x1 : Int) (x2 : Int) (x3 : Int) (x4 : Int) (x5 : Int) (x6 : Int) (x7 : Int) (x8 : Int) : Int := FOps.bin F BinOp.add FloatKind.f32 x1 (FOps.bin F BinOp.mul FloatKind.f32 x8 x5)
def Pure.impl_along_2 (F : FOps) (x0 : Int) (x1 : Int) (x2 : Int) (x3 : Int) (x4 : Int) (x5 : Int) (x6 : Int) (x7 : Int) (x8 : Int) : Int := FOps.bin F BinOp.add FloatKind.f32 x2 (FOps.bin F BinOp.mul FloatKind.f32 x8 x6)
def Pure.impl_along_3 (F : FOps) (x0 : Int) (x1 : Int) (x2 : Int) (x3 : Int) (x4 : Int) (x5 : Int) (x6 : Int) (x7 : Int) (x8 : Int) : Int := FOps.bin F BinOp.add FloatKind.f32 x3 (FOps.bin F BinOp.mul FloatKind.f32 x8 x7)
def c_impl_along (F : FOps) : Con
  | [V.agg [A.fl FloatKind.f32 x0, A.fl FloatKind.f32 x1, A.fl FloatKind.f32 x2, A.fl FloatKind.f32 x3], V.agg [A.fl FloatKind.f32 x4, A.fl FloatKind.f32 x5, A.fl FloatKind.f32 x6, A.fl FloatKind.f32 x7], V.at (A.fl FloatKind.f32 x8)], [] => some (true, ⟨V.agg [A.fl FloatKind.f32 (Pure.impl_along F x0 x1 x2 x3 x4 x5 x6 x7 x8), A.fl FloatKind.f32 (Pure.impl_along_1 F x0 x1 x2 x3 x4 x5 x6 x7 x8), A.fl FloatKind.f32 (Pure.impl_along_2 F x0 x1 x2 x3 x4 x5 x6 x7 x8), A.fl FloatKind.f32 (Pure.impl_along_3 F x0 x1 x2 x3 x4 x5 x6 x7 x8)], none, []⟩)
  | _, _ => none
theorem e_impl_along (F : FOps) (x0 : Int) (x1 : Int) (x2 : Int) (x3 : Int) (x4 : Int) (x5 : Int) (x6 : Int) (x7 : Int) (x8 : Int) : evFn (cxS F tyl [] [] [] 0) Try.f43 false [V.agg [A.fl FloatKind.f32 x0, A.fl FloatKind.f32 x1, A.fl FloatKind.f32 x2, A.fl FloatKind.f32 x3], V.agg [A.fl FloatKind.f32 x4, A.fl FloatKind.f32 x5, A.fl FloatKind.f32 x6, A.fl FloatKind.f32 x7], V.at (A.fl FloatKind.f32 x8)] [] = some ⟨V.agg [A.fl FloatKind.f32 (Pure.impl_along F x0 x1 x2 x3 x4 x5 x6 x7 x8), A.fl FloatKind.f32 (Pure.impl_along_1 F x0 x1 x2 x3 x4 x5 x6 x7 x8), A.fl FloatKind.f32 (Pure.impl_along_2 F x0 x1 x2 x3 x4 x5 x6 x7 x8), A.fl FloatKind.f32 (Pure.impl_along_3 F x0 x1 x2 x3 x4 x5 x6 x7 x8)], none, []⟩ := by
  kernel_rfl
theorem ok_impl_along : CallOK Try.prog 43 (c_impl_along real) := by
  refine callOK_of fun args h ret hc => ?_
  unfold c_impl_along at hc
  split at hc
  · rename_i x0 x1 x2 x3 x4 x5 x6 x7 x8
    obtain ⟨_, rfl⟩ := some_ret hc
    exact holds_ev prog_ok allOK_nil Try.func43 rfl rfl smL_nil rfl (e_impl_along real x0 x1 x2 x3 x4 x5 x6 x7 x8)
  · cases hc
def Pure.impl_products (F : FOps) (x0 : Int) (x1 : Int) (x2 : Int) (x3 : Int) (x4 : Int) (x5 : Int) (x6 : Int) (x7 : Int) : Int := FOps.bin F BinOp.add FloatKind.f32 (FOps.bin F BinOp.add FloatKind.f32 (FOps.bin F BinOp.add FloatKind.f32 (FOps.bin F BinOp.mul FloatKind.f32 x0 x4) (FOps.bin F BinOp.mul FloatKind.f32 x1 x5)) (FOps.bin F BinOp.mul FloatKind.f32 x2 x6)) (FOps.bin F BinOp.mul FloatKind.f32 x3 x7)
def c_impl_products (F : FOps) : Con
  | [V.agg [A.fl FloatKind.f32 x0, A.fl FloatKind.f32 x1, A.fl FloatKind.f32 x2, A.fl FloatKind.f32 x3], V.agg [A.fl FloatKind.f32 x4, A.fl FloatKind.f32 x5, A.fl FloatKind.f32 x6, A.fl FloatKind.f32 x7]], [] => some (true, ⟨V.at (A.fl FloatKind.f32 (Pure.impl_products F x0 x1 x2 x3 x4 x5 x6 x7)), none, []⟩)
  | _, _ => none
theorem e_impl_products (F : FOps) (x0 : Int) (x1 : Int) (x2 : Int) (x3 : Int) (x4 : Int) (x5 : Int) (x6 : Int) (x7 : Int) : evFn (cxS F tyl [] [] [] 0) Try.f40 false [V.agg [A.fl FloatKind.f32 x0, A.fl FloatKind.f32 x1, A.fl FloatKind.f32 x2, A.fl FloatKind.f32 x3], V.agg [A.fl FloatKind.f32 x4, A.fl FloatKind.f32 x5, A.fl FloatKind.f32 x6, A.fl FloatKind.f32 x7]] [] = some ⟨V.at (A.fl FloatKind.f32 (Pure.impl_products F x0 x1 x2 x3 x4 x5 x6 x7)), none, []⟩ := by
  kernel_rfl
theorem ok_impl_products : CallOK Try.prog 40 (c_impl_products real) := by
  refine callOK_of fun args h ret hc => ?_
  unfold c_impl_products at hc
  split at hc
  · rename_i x0 x1 x2 x3 x4 x5 x6 x7
    obtain ⟨_, rfl⟩ := some_ret hc
    exact holds_ev prog_ok allOK_nil Try.func40 rfl rfl smL_nil rfl (e_impl_products real x0 x1 x2 x3 x4 x5 x6 x7)
  · cases hc
def Pure.impl_RootNumber (F : FOps) (x0 : Int) : Int := FOps.conv F FloatKind.f64 FloatKind.f32 (FOps.sqrt F (FOps.conv F FloatKind.f32 FloatKind.f64 x0))
def Pure.impl_RootNumber_ok (F : FOps) (x0 : Int) : Bool := bif FOps.convOk F FloatKind.f32 FloatKind.f64 x0 then FOps.convOk F FloatKind.f64 FloatKind.f32 (FOps.sqrt F (FOps.conv F FloatKind.f32 FloatKind.f64 x0)) else false
def c_impl_RootNumber (F : FOps) : Con
  | [V.at (A.fl FloatKind.f32 x0)], [] => some (Pure.impl_RootNumber_ok F x0, ⟨V.at (A.fl FloatKind.f32 (Pure.impl_RootNumber F x0)), none, []⟩)
  | _, _ => none
theorem e_impl_RootNumber (F : FOps) (x0 : Int) : Pure.impl_RootNumber_ok F x0 = true → evFn (cxS F tyl [(66, c_math_Sqrt F)] [] [] 0) Try.f39 false [V.at (A.fl FloatKind.f32 x0)] [] = some ⟨V.at (A.fl FloatKind.f32 (Pure.impl_RootNumber F x0)), none, []⟩ := by
  have h0 : evFn (cxS F tyl [(66, c_math_Sqrt F)] [] [] 0) Try.f39 false [V.at (A.fl FloatKind.f32 x0)] [] = bif FOps.convOk F FloatKind.f32 FloatKind.f64 x0 then bif FOps.convOk F FloatKind.f64 FloatKind.f32 (FOps.sqrt F (FOps.conv F FloatKind.f32 FloatKind.f64 x0)) then some ⟨V.at (A.fl FloatKind.f32 (FOps.conv F FloatKind.f64 FloatKind.f32 (FOps.sqrt F (FOps.conv F FloatKind.f32 FloatKind.f64 x0)))), none, []⟩ else none else none := by kernel_rfl
  rw [h0]
  unfold Pure.impl_RootNumber Pure.impl_RootNumber_ok
  cases (FOps.convOk F FloatKind.f32 FloatKind.f64 x0) with
  | true =>
    cases (FOps.convOk F FloatKind.f64 FloatKind.f32 (FOps.sqrt F (FOps.conv F FloatKind.f32 FloatKind.f64 x0))) with
    | true =>
      intro _; rfl
    | false =>
      intro h; exact absurd h Bool.false_ne_true
  | false =>
    intro h; exact absurd h Bool.false_ne_true
theorem ok_impl_RootNumber : CallOK Try.prog 39 (c_impl_RootNumber real) := by
  refine callOK_of fun args h ret hc => ?_
  unfold c_impl_RootNumber at hc
  split at hc
  · rename_i x0
    obtain ⟨hok, rfl⟩ := some_ret hc
    exact holds_ev prog_ok (allOK_cons ok_math_Sqrt allOK_nil) Try.func39 rfl rfl smL_nil rfl (e_impl_RootNumber real x0 hok)
  · cases hc
def Pure.impl_SizeOfSpin (F : FOps) (x0 : Int) (x1 : Int) (x2 : Int) (x3 : Int) : Int := Pure.impl_RootNumber F (Pure.impl_products F x0 x1 x2 x3 x0 x1 x2 x3)
def Pure.impl_SizeOfSpin_ok (F : FOps) (x0 : Int) (x1 : Int) (x2 : Int) (x3 : Int) : Bool := Pure.impl_RootNumber_ok F (Pure.impl_products F x0 x1 x2 x3 x0 x1 x2 x3)
def c_impl_SizeOfSpin (F : FOps) : Con
  | [V.agg [A.fl FloatKind.f32 x0, A.fl FloatKind.f32 x1, A.fl FloatKind.f32 x2, A.fl FloatKind.f32 x3]], [] => some (Pure.impl_SizeOfSpin_ok F x0 x1 x2 x3, ⟨V.at (A.fl FloatKind.f32 (Pure.impl_SizeOfSpin F x0 x1 x2 x3)), none, []⟩)
  | _, _ => none
theorem e_impl_SizeOfSpin (F : FOps) (x0 : Int) (x1 : Int) (x2 : Int) (x3 : Int) : Pure.impl_SizeOfSpin_ok F x0 x1 x2 x3 = true → evFn (cxS F tyl [(40, c_impl_products F), (39, c_impl_RootNumber F)] [] [] 0) Try.f12 false [V.agg [A.fl FloatKind.f32 x0, A.fl FloatKind.f32 x1, A.fl FloatKind.f32 x2, A.fl FloatKind.f32 x3]] [] = some ⟨V.at (A.fl FloatKind.f32 (Pure.impl_SizeOfSpin F x0 x1 x2 x3)), none, []⟩ := by
  have h0 : evFn (cxS F tyl [(40, c_impl_products F), (39, c_impl_RootNumber F)] [] [] 0) Try.f12 false [V.agg [A.fl FloatKind.f32 x0, A.fl FloatKind.f32 x1, A.fl FloatKind.f32 x2, A.fl FloatKind.f32 x3]] [] = bif Pure.impl_RootNumber_ok F (Pure.impl_products F x0 x1 x2 x3 x0 x1 x2 x3) then some ⟨V.at (A.fl FloatKind.f32 (Pure.impl_RootNumber F (Pure.impl_products F x0 x1 x2 x3 x0 x1 x2 x3))), none, []⟩ else none := by kernel_rfl
  rw [h0]
  unfold Pure.impl_SizeOfSpin Pure.impl_SizeOfSpin_ok
  cases (Pure.impl_RootNumber_ok F (Pure.impl_products F x0 x1 x2 x3 x0 x1 x2 x3)) with
  | true =>
    intro _; rfl
  | false =>
    intro h; exact absurd h Bool.false_ne_true
theorem ok_impl_SizeOfSpin : CallOK Try.prog 12 (c_impl_SizeOfSpin real) := by
  refine callOK_of fun args h ret hc => ?_
  unfold c_impl_SizeOfSpin at hc
  split at hc
  · rename_i x0 x1 x2 x3
    obtain ⟨hok, rfl⟩ := some_ret hc
    exact holds_ev prog_ok (allOK_cons ok_impl_products (allOK_cons ok_impl_RootNumber allOK_nil)) Try.func12 rfl rfl smL_nil rfl (e_impl_SizeOfSpin real x0 x1 x2 x3 hok)
  · cases hc
def Pure.impl_toldSpin (F : FOps) (x0 : Int) (x1 : Int) (x2 : Int) (x3 : Int) : Int := bif Pure.impl_IsSpin F x0 x1 x2 x3 then x0 else 0
def Pure.impl_toldSpin_1 (F : FOps) (x0 : Int) (x1 : Int) (x2 : Int) (x3 : Int) : Int := bif Pure.impl_IsSpin F x0 x1 x2 x3 then x1 else 0
def Pure.impl_toldSpin_2 (F : FOps) (x0 : Int) (x1 : Int) (x2 : Int) (x3 : Int) : Int := bif Pure.impl_IsSpin F x0 x1 x2 x3 then x2 else 0
def Pure.impl_toldSpin_3 (F : FOps) (x0 : Int) (x1 : Int) (x2 : Int) (x3 : Int) : Int := bif Pure.impl_IsSpin F x0 x1 x2 x3 then x3 else 0
def Pure.impl_toldSpin_ok (F : FOps) (x0 : Int) (x1 : Int) (x2 : Int) (x3 : Int) : Bool := Pure.impl_IsSpin_ok F x0 x1 x2 x3
def c_impl_toldSpin (F : FOps) : Con
  | [V.agg [A.fl FloatKind.f32 x0, A.fl FloatKind.f32 x1, A.fl FloatKind.f32 x2, A.fl FloatKind.f32 x3]], [] => some (Pure.impl_toldSpin_ok F x0 x1 x2 x3, ⟨V.tup [(true, [A.fl FloatKind.f32 (Pure.impl_toldSpin F x0 x1 x2 x3), A.fl FloatKind.f32 (Pure.impl_toldSpin_1 F x0 x1 x2 x3), A.fl FloatKind.f32 (Pure.impl_toldSpin_2 F x0 x1 x2 x3), A.fl FloatKind.f32 (Pure.impl_toldSpin_3 F x0 x1 x2 x3)]), (false, [A.bool (Pure.impl_IsSpin F x0 x1 x2 x3)])], none, []⟩)
  | _, _ => none
theorem e_impl_toldSpin (F : FOps) (x0 : Int) (x1 : Int) (x2 : Int) (x3 : Int) : Pure.impl_toldSpin_ok F x0 x1 x2 x3 = true → evFn (cxS F tyl [(15, c_impl_IsSpin F)] [] [] 0) Try.f41 false [V.agg [A.fl FloatKind.f32 x0, A.fl FloatKind.f32 x1, A.fl FloatKind.f32 x2, A.fl FloatKind.f32 x3]] [] = some ⟨V.tup [(true, [A.fl FloatKind.f32 (Pure.impl_toldSpin F x0 x1 x2 x3), A.fl FloatKind.f32 (Pure.impl_toldSpin_1 F x0 x1 x2 x3), A.fl FloatKind.f32 (Pure.impl_toldSpin_2 F x0 x1 x2 x3), A.fl FloatKind.f32 (Pure.impl_toldSpin_3 F x0 x1 x2 x3)]), (false, [A.bool (Pure.impl_IsSpin F x0 x1 x2 x3)])], none, []⟩ := by
  have h0 : evFn (cxS F tyl [(15, c_impl_IsSpin F)] [] [] 0) Try.f41 false [V.agg [A.fl FloatKind.f32 x0, A.fl FloatKind.f32 x1, A.fl FloatKind.f32 x2, A.fl FloatKind.f32 x3]] [] = bif Pure.impl_IsSpin_ok F x0 x1 x2 x3 then bif Bool.not (Pure.impl_IsSpin F x0 x1 x2 x3) then some ⟨V.tup [(true, [A.fl FloatKind.f32 0, A.fl FloatKind.f32 0, A.fl FloatKind.f32 0, A.fl FloatKind.f32 0]), (false, [A.bool false])], none, []⟩ else some ⟨V.tup [(true, [A.fl FloatKind.f32 x0, A.fl FloatKind.f32 x1, A.fl FloatKind.f32 x2, A.fl FloatKind.f32 x3]), (false, [A.bool true])], none, []⟩ else none := by kernel_rfl
  rw [h0]
  unfold Pure.impl_toldSpin Pure.impl_toldSpin_1 Pure.impl_toldSpin_2 Pure.impl_toldSpin_3 Pure.impl_toldSpin_ok
  cases (Pure.impl_IsSpin_ok F x0 x1 x2 x3) with
  | true =>
    cases (Pure.impl_IsSpin F x0 x1 x2 x3) with
    | true =>
      intro _; rfl
    | false =>
      intro _; rfl
  | false =>
    intro h; exact absurd h Bool.false_ne_true
theorem ok_impl_toldSpin : CallOK Try.prog 41 (c_impl_toldSpin real) := by
  refine callOK_of fun args h ret hc => ?_
  unfold c_impl_toldSpin at hc
  split at hc
  · rename_i x0 x1 x2 x3
    obtain ⟨hok, rfl⟩ := some_ret hc
    exact holds_ev prog_ok (allOK_cons ok_impl_IsSpin allOK_nil) Try.func41 rfl rfl smL_nil rfl (e_impl_toldSpin real x0 x1 x2 x3 hok)
  · cases hc
def Pure.impl_NormSpin (F : FOps) (x0 : Int) (x1 : Int) (x2 : Int) (x3 : Int) : Int := bif Pure.impl_IsSpin F x0 x1 x2 x3 then Pure.impl_toldSpin F (FOps.bin F BinOp.quo FloatKind.f32 x0 (Pure.impl_SizeOfSpin F x0 x1 x2 x3)) (FOps.bin F BinOp.quo FloatKind.f32 x1 (Pure.impl_SizeOfSpin F x0 x1 x2 x3)) (FOps.bin F BinOp.quo FloatKind.f32 x2 (Pure.impl_SizeOfSpin F x0 x1 x2 x3)) (FOps.bin F BinOp.quo FloatKind.f32 x3 (Pure.impl_SizeOfSpin F x0 x1 x2 x3)) else 0
def Pure.impl_NormSpin_1 (F : FOps) (x0 : Int) (x1 : Int) (x2 : Int) (x3 : Int) : Int := bif Pure.impl_IsSpin F x0 x1 x2 x3 then Pure.impl_toldSpin_1 F (FOps.bin F BinOp.quo FloatKind.f32 x0 (Pure.impl_SizeOfSpin F x0 x1 x2 x3)) (FOps.bin F BinOp.quo FloatKind.f32 x1 (Pure.impl_SizeOfSpin F x0 x1 x2 x3)) (FOps.bin F BinOp.quo FloatKind.f32 x2 (Pure.impl_SizeOfSpin F x0 x1 x2 x3)) (FOps.bin F BinOp.quo FloatKind.f32 x3 (Pure.impl_SizeOfSpin F x0 x1 x2 x3)) else 0
def Pure.impl_NormSpin_2 (F : FOps) (x0 : Int) (x1 : Int) (x2 : Int) (x3 : Int) : Int := bif Pure.impl_IsSpin F x0 x1 x2 x3 then Pure.impl_toldSpin_2 F (FOps.bin F BinOp.quo FloatKind.f32 x0 (Pure.impl_SizeOfSpin F x0 x1 x2 x3)) (FOps.bin F BinOp.quo FloatKind.f32 x1 (Pure.impl_SizeOfSpin F x0 x1 x2 x3)) (FOps.bin F BinOp.quo FloatKind.f32 x2 (Pure.impl_SizeOfSpin F x0 x1 x2 x3)) (FOps.bin F BinOp.quo FloatKind.f32 x3 (Pure.impl_SizeOfSpin F x0 x1 x2 x3)) else 0
def Pure.impl_NormSpin_3 (F : FOps) (x0 : Int) (x1 : Int) (x2 : Int) (x3 : Int) : Int := bif Pure.impl_IsSpin F x0 x1 x2 x3 then Pure.impl_toldSpin_3 F (FOps.bin F BinOp.quo FloatKind.f32 x0 (Pure.impl_SizeOfSpin F x0 x1 x2 x3)) (FOps.bin F BinOp.quo FloatKind.f32 x1 (Pure.impl_SizeOfSpin F x0 x1 x2 x3)) (FOps.bin F BinOp.quo FloatKind.f32 x2 (Pure.impl_SizeOfSpin F x0 x1 x2 x3)) (FOps.bin F BinOp.quo FloatKind.f32 x3 (Pure.impl_SizeOfSpin F x0 x1 x2 x3)) else 0
def Pure.impl_NormSpin_4 (F : FOps) (x0 : Int) (x1 : Int) (x2 : Int) (x3 : Int) : Bool := bif Pure.impl_IsSpin F x0 x1 x2 x3 then Pure.impl_IsSpin F (FOps.bin F BinOp.quo FloatKind.f32 x0 (Pure.impl_SizeOfSpin F x0 x1 x2 x3)) (FOps.bin F BinOp.quo FloatKind.f32 x1 (Pure.impl_SizeOfSpin F x0 x1 x2 x3)) (FOps.bin F BinOp.quo FloatKind.f32 x2 (Pure.impl_SizeOfSpin F x0 x1 x2 x3)) (FOps.bin F BinOp.quo FloatKind.f32 x3 (Pure.impl_SizeOfSpin F x0 x1 x2 x3)) else false
def Pure.impl_NormSpin_ok (F : FOps) (x0 : Int) (x1 : Int) (x2 : Int) (x3 : Int) : Bool := bif Pure.impl_IsSpin_ok F x0 x1 x2 x3 then bif Pure.impl_IsSpin F x0 x1 x2 x3 then bif Pure.impl_SizeOfSpin_ok F x0 x1 x2 x3 then Pure.impl_toldSpin_ok F (FOps.bin F BinOp.quo FloatKind.f32 x0 (Pure.impl_SizeOfSpin F x0 x1 x2 x3)) (FOps.bin F BinOp.quo FloatKind.f32 x1 (Pure.impl_SizeOfSpin F x0 x1 x2 x3)) (FOps.bin F BinOp.quo FloatKind.f32 x2 (Pure.impl_SizeOfSpin F x0 x1 x2 x3)) (FOps.bin F BinOp.quo FloatKind.f32 x3 (Pure.impl_SizeOfSpin F x0 x1 x2 x3)) else false else true else false
def c_impl_NormSpin (F : FOps) : Con
  | [V.agg [A.fl FloatKind.f32 x0, A.fl FloatKind.f32 x1, A.fl FloatKind.f32 x2, A.fl FloatKind.f32 x3]], [] => some (Pure.impl_NormSpin_ok F x0 x1 x2 x3, ⟨V.tup [(true, [A.fl FloatKind.f32 (Pure.impl_NormSpin F x0 x1 x2 x3), A.fl FloatKind.f32 (Pure.impl_NormSpin_1 F x0 x1 x2 x3), A.fl FloatKind.f32 (Pure.impl_NormSpin_2 F x0 x1 x2 x3), A.fl FloatKind.f32 (Pure.impl_NormSpin_3 F x0 x1 x2 x3)]), (false, [A.bool (Pure.impl_NormSpin_4 F x0 x1 x2 x3)])], none, []⟩)
  | _, _ => none
theorem e_impl_NormSpin (F : FOps) (x0 : Int) (x1 : Int) (x2 : Int) (x3 : Int) : Pure.impl_NormSpin_ok F x0 x1 x2 x3 = true → evFn (cxS F tyl [(15, c_impl_IsSpin F), (12, c_impl_SizeOfSpin F), (41, c_impl_toldSpin F)] [] [] 0) Try.f13 false [V.agg [A.fl FloatKind.f32 x0, A.fl FloatKind.f32 x1, A.fl FloatKind.f32 x2, A.fl FloatKind.f32 x3]] [] = some ⟨V.tup [(true, [A.fl FloatKind.f32 (Pure.impl_NormSpin F x0 x1 x2 x3), A.fl FloatKind.f32 (Pure.impl_NormSpin_1 F x0 x1 x2 x3), A.fl FloatKind.f32 (Pure.impl_NormSpin_2 F x0 x1 x2 x3), A.fl FloatKind.f32 (Pure.impl_NormSpin_3 F x0 x1 x2 x3)]), (false, [A.bool (Pure.impl_NormSpin_4 F x0 x1 x2 x3)])], none, []⟩ := by
  have h0 : evFn (cxS F tyl [(15, c_impl_IsSpin F), (12, c_impl_SizeOfSpin F), (41, c_impl_toldSpin F)] [] [] 0) Try.f13 false [V.agg [A.fl FloatKind.f32 x0, A.fl FloatKind.f32 x1, A.fl FloatKind.f32 x2, A.fl FloatKind.f32 x3]] [] = bif Pure.impl_IsSpin_ok F x0 x1 x2 x3 then bif Bool.not (Pure.impl_IsSpin F x0 x1 x2 x3) then some ⟨V.tup [(true, [A.fl FloatKind.f32 0, A.fl FloatKind.f32 0, A.fl FloatKind.f32 0, A.fl FloatKind.f32 0]), (false, [A.bool false])], none, []⟩ else bif Pure.impl_SizeOfSpin_ok F x0 x1 x2 x3 then bif Pure.impl_toldSpin_ok F (FOps.bin F BinOp.quo FloatKind.f32 x0 (Pure.impl_SizeOfSpin F x0 x1 x2 x3)) (FOps.bin F BinOp.quo FloatKind.f32 x1 (Pure.impl_SizeOfSpin F x0 x1 x2 x3)) (FOps.bin F BinOp.quo FloatKind.f32 x2 (Pure.impl_SizeOfSpin F x0 x1 x2 x3)) (FOps.bin F BinOp.quo FloatKind.f32 x3 (Pure.impl_SizeOfSpin F x0 x1 x2 x3)) then some ⟨V.tup [(true, [A.fl FloatKind.f32 (Pure.impl_toldSpin F (FOps.bin F BinOp.quo FloatKind.f32 x0 (Pure.impl_SizeOfSpin F x0 x1 x2 x3)) (FOps.bin F BinOp.quo FloatKind.f32 x1 (Pure.impl_SizeOfSpin F x0 x1 x2 x3)) (FOps.bin F BinOp.quo FloatKind.f32 x2 (Pure.impl_SizeOfSpin F x0 x1 x2 x3)) (FOps.bin F BinOp.quo FloatKind.f32 x3 (Pure.impl_SizeOfSpin F x0 x1 x2 x3))), A.fl FloatKind.f32 (Pure.impl_toldSpin_1 F (FOps.bin F BinOp.quo FloatKind.f32 x0 (Pure.impl_SizeOfSpin F x0 x1 x2 x3)) (FOps.bin F BinOp.quo FloatKind.f32 x1 (Pure.impl_SizeOfSpin F x0 x1 x2 x3)) (FOps.bin F BinOp.quo FloatKind.f32 x2 (Pure.impl_SizeOfSpin F x0 x1 x2 x3)) (FOps.bin F BinOp.quo FloatKind.f32 x3 (Pure.impl_SizeOfSpin F x0 x1 x2 x3))), A.fl FloatKind.f32 (Pure.impl_toldSpin_2 F (FOps.bin F BinOp.quo FloatKind.f32 x0 (Pure.impl_SizeOfSpin F x0 x1 x2 x3)) (FOps.bin F BinOp.quo FloatKind.f32 x1 (Pure.impl_SizeOfSpin F x0 x1 x2 x3)) (FOps.bin F BinOp.quo FloatKind.f32 x2 (Pure.impl_SizeOfSpin F x0 x1 x2 x3)) (FOps.bin F BinOp.quo FloatKind.f32 x3 (Pure.impl_SizeOfSpin F x0 x1 x2 x3))), A.fl FloatKind.f32 (Pure.impl_toldSpin_3 F (FOps.bin F BinOp.quo FloatKind.f32 x0 (Pure.impl_SizeOfSpin F x0 x1 x2 x3)) (FOps.bin F BinOp.quo FloatKind.f32 x1 (Pure.impl_SizeOfSpin F x0 x1 x2 x3)) (FOps.bin F BinOp.quo FloatKind.f32 x2 (Pure.impl_SizeOfSpin F x0 x1 x2 x3)) (FOps.bin F BinOp.quo FloatKind.f32 x3 (Pure.impl_SizeOfSpin F x0 x1 x2 x3)))]), (false, [A.bool (Pure.impl_IsSpin F (FOps.bin F BinOp.quo FloatKind.f32 x0 (Pure.impl_SizeOfSpin F x0 x1 x2 x3)) (FOps.bin F BinOp.quo FloatKind.f32 x1 (Pure.impl_SizeOfSpin F x0 x1 x2 x3)) (FOps.bin F BinOp.quo FloatKind.f32 x2 (Pure.impl_SizeOfSpin F x0 x1 x2 x3)) (FOps.bin F BinOp.quo FloatKind.f32 x3 (Pure.impl_SizeOfSpin F x0 x1 x2 x3)))])], none, []⟩ else none else none else none := by kernel_rfl
  rw [h0]
  unfold Pure.impl_NormSpin Pure.impl_NormSpin_1 Pure.impl_NormSpin_2 Pure.impl_NormSpin_3 Pure.impl_NormSpin_4 Pure.impl_NormSpin_ok
  cases (Pure.impl_IsSpin_ok F x0 x1 x2 x3) with
  | true =>
    cases (Pure.impl_IsSpin F x0 x1 x2 x3) with
    | true =>
      cases (Pure.impl_SizeOfSpin_ok F x0 x1 x2 x3) with
      | true =>
        cases (Pure.impl_toldSpin_ok F (FOps.bin F BinOp.quo FloatKind.f32 x0 (Pure.impl_SizeOfSpin F x0 x1 x2 x3)) (FOps.bin F BinOp.quo FloatKind.f32 x1 (Pure.impl_SizeOfSpin F x0 x1 x2 x3)) (FOps.bin F BinOp.quo FloatKind.f32 x2 (Pure.impl_SizeOfSpin F x0 x1 x2 x3)) (FOps.bin F BinOp.quo FloatKind.f32 x3 (Pure.impl_SizeOfSpin F x0 x1 x2 x3))) with
        | true =>
          intro _; rfl
        | false =>
          intro h; exact absurd h Bool.false_ne_true
      | false =>
        intro h; exact absurd h Bool.false_ne_true
    | false =>
      intro _; rfl
  | false =>
    intro h; exact absurd h Bool.false_ne_true
theorem ok_impl_NormSpin : CallOK Try.prog 13 (c_impl_NormSpin real) := by
  refine callOK_of fun args h ret hc => ?_
  unfold c_impl_NormSpin at hc
  split at hc
  · rename_i x0 x1 x2 x3
    obtain ⟨hok, rfl⟩ := some_ret hc
    exact holds_ev prog_ok (allOK_cons ok_impl_IsSpin (allOK_cons ok_impl_SizeOfSpin (allOK_cons ok_impl_toldSpin allOK_nil))) Try.func13 rfl rfl smL_nil rfl (e_impl_NormSpin real x0 x1 x2 x3 hok)
  · cases hc
def Pure.laws_sameFloat (F : FOps) (x0 : Int) (x1 : Int) : Bool := bif FOps.cmp F BinOp.neq FloatKind.f64 x0 x0 then FOps.cmp F BinOp.neq FloatKind.f64 x1 x1 else bif FOps.cmp F BinOp.neq FloatKind.f64 x1 x1 then false else bif FOps.cmp F BinOp.eql FloatKind.f64 x0 0 then bif FOps.cmp F BinOp.eql FloatKind.f64 x1 0 then (FOps.cmp F BinOp.gtr FloatKind.f64 (FOps.bin F BinOp.quo FloatKind.f64 4607182418800017408 x0) 0) == (FOps.cmp F BinOp.gtr FloatKind.f64 (FOps.bin F BinOp.quo FloatKind.f64 4607182418800017408 x1) 0) else FOps.cmp F BinOp.eql FloatKind.f64 x0 x1 else FOps.cmp F BinOp.eql FloatKind.f64 x0 x1
def c_laws_sameFloat (F : FOps) : Con
  | [V.at (A.fl FloatKind.f64 x0), V.at (A.fl FloatKind.f64 x1)], [] => some (true, ⟨V.at (A.bool (Pure.laws_sameFloat F x0 x1)), none, []⟩)
  | _, _ => none
theorem e_laws_sameFloat (F : FOps) (x0 : Int) (x1 : Int) : evFn (cxS F tyl [] [] [] 0) Try.f36 false [V.at (A.fl FloatKind.f64 x0), V.at (A.fl FloatKind.f64 x1)] [] = some ⟨V.at (A.bool (Pure.laws_sameFloat F x0 x1)), none, []⟩ := by
  have h0 : evFn (cxS F tyl [] [] [] 0) Try.f36 false [V.at (A.fl FloatKind.f64 x0), V.at (A.fl FloatKind.f64 x1)] [] = bif FOps.cmp F BinOp.neq FloatKind.f64 x0 x0 then bif FOps.cmp F BinOp.neq FloatKind.f64 x0 x0 then some ⟨V.at (A.bool (FOps.cmp F BinOp.neq FloatKind.f64 x1 x1)), none, []⟩ else some ⟨V.at (A.bool false), none, []⟩ else bif FOps.cmp F BinOp.neq FloatKind.f64 x1 x1 then bif FOps.cmp F BinOp.neq FloatKind.f64 x0 x0 then some ⟨V.at (A.bool (FOps.cmp F BinOp.neq FloatKind.f64 x1 x1)), none, []⟩ else some ⟨V.at (A.bool false), none, []⟩ else bif FOps.cmp F BinOp.eql FloatKind.f64 x0 0 then bif FOps.cmp F BinOp.eql FloatKind.f64 x1 0 then some ⟨V.at (A.bool ((FOps.cmp F BinOp.gtr FloatKind.f64 (FOps.bin F BinOp.quo FloatKind.f64 4607182418800017408 x0) 0) == (FOps.cmp F BinOp.gtr FloatKind.f64 (FOps.bin F BinOp.quo FloatKind.f64 4607182418800017408 x1) 0))), none, []⟩ else some ⟨V.at (A.bool (FOps.cmp F BinOp.eql FloatKind.f64 x0 x1)), none, []⟩ else some ⟨V.at (A.bool (FOps.cmp F BinOp.eql FloatKind.f64 x0 x1)), none, []⟩ := by kernel_rfl
  rw [h0]
  unfold Pure.laws_sameFloat
  cases (FOps.cmp F BinOp.neq FloatKind.f64 x0 x0) with
  | true =>
    rfl
  | false =>
    cases (FOps.cmp F BinOp.neq FloatKind.f64 x1 x1) with
    | true =>
      rfl
    | false =>
      cases (FOps.cmp F BinOp.eql FloatKind.f64 x0 0) with
      | true =>
        cases (FOps.cmp F BinOp.eql FloatKind.f64 x1 0) with
        | true =>
          rfl
        | false =>
          rfl
      | false =>
        rfl
theorem ok_laws_sameFloat : CallOK Try.prog 36 (c_laws_sameFloat real) := by
  refine callOK_of fun args h ret hc => ?_
  unfold c_laws_sameFloat at hc
  split at hc
  · rename_i x0 x1
    obtain ⟨_, rfl⟩ := some_ret hc
    exact holds_ev prog_ok allOK_nil Try.func36 rfl rfl smL_nil rfl (e_laws_sameFloat real x0 x1)
  · cases hc
def Pure.laws_eqSpin (F : FOps) (x0 : Int) (x1 : Int) (x2 : Int) (x3 : Int) (x4 : Int) (x5 : Int) (x6 : Int) (x7 : Int) : Bool := bif Pure.laws_sameFloat F (FOps.conv F FloatKind.f32 FloatKind.f64 x0) (FOps.conv F FloatKind.f32 FloatKind.f64 x4) then bif Pure.laws_sameFloat F (FOps.conv F FloatKind.f32 FloatKind.f64 x1) (FOps.conv F FloatKind.f32 FloatKind.f64 x5) then bif Pure.laws_sameFloat F (FOps.conv F FloatKind.f32 FloatKind.f64 x2) (FOps.conv F FloatKind.f32 FloatKind.f64 x6) then Pure.laws_sameFloat F (FOps.conv F FloatKind.f32 FloatKind.f64 x3) (FOps.conv F FloatKind.f32 FloatKind.f64 x7) else false else false else false
def Pure.laws_eqSpin_ok (F : FOps) (x0 : Int) (x1 : Int) (x2 : Int) (x3 : Int) (x4 : Int) (x5 : Int) (x6 : Int) (x7 : Int) : Bool := bif FOps.convOk F FloatKind.f32 FloatKind.f64 x0 then bif FOps.convOk F FloatKind.f32 FloatKind.f64 x4 then bif Pure.laws_sameFloat F (FOps.conv F FloatKind.f32 FloatKind.f64 x0) (FOps.conv F FloatKind.f32 FloatKind.f64 x4) then bif FOps.convOk F FloatKind.f32 FloatKind.f64 x1 then bif FOps.convOk F FloatKind.f32 FloatKind.f64 x5 then bif Pure.laws_sameFloat F (FOps.conv F FloatKind.f32 FloatKind.f64 x1) (FOps.conv F FloatKind.f32 FloatKind.f64 x5) then bif FOps.convOk F FloatKind.f32 FloatKind.f64 x2 then bif FOps.convOk F FloatKind.f32 FloatKind.f64 x6 then bif Pure.laws_sameFloat F (FOps.conv F FloatKind.f32 FloatKind.f64 x2) (FOps.conv F FloatKind.f32 FloatKind.f64 x6) then bif FOps.convOk F FloatKind.f32 FloatKind.f64 x3 then FOps.convOk F FloatKind.f32 FloatKind.f64 x7 else false else true else false else false else true else false else false else true else false else false
def c_laws_eqSpin (F : FOps) : Con
  | [V.agg [A.fl FloatKind.f32 x0, A.fl FloatKind.f32 x1, A.fl FloatKind.f32 x2, A.fl FloatKind.f32 x3], V.agg [A.fl FloatKind.f32 x4, A.fl FloatKind.f32 x5, A.fl FloatKind.f32 x6, A.fl FloatKind.f32 x7]], [] => some (Pure.laws_eqSpin_ok F x0 x1 x2 x3 x4 x5 x6 x7, ⟨V.at (A.bool (Pure.laws_eqSpin F x0 x1 x2 x3 x4 x5 x6 x7)), none, []⟩)
  | _, _ => none
theorem e_laws_eqSpin (F : FOps) (x0 : Int) (x1 : Int) (x2 : Int) (x3 : Int) (x4 : Int) (x5 : Int) (x6 : Int) (x7 : Int) : Pure.laws_eqSpin_ok F x0 x1 x2 x3 x4 x5 x6 x7 = true → evFn (cxS F tyl [(36, c_laws_sameFloat F)] [] [] 0) Try.f20 false [V.agg [A.fl FloatKind.f32 x0, A.fl FloatKind.f32 x1, A.fl FloatKind.f32 x2, A.fl FloatKind.f32 x3], V.agg [A.fl FloatKind.f32 x4, A.fl FloatKind.f32 x5, A.fl FloatKind.f32 x6, A.fl FloatKind.f32 x7]] [] = some ⟨V.at (A.bool (Pure.laws_eqSpin F x0 x1 x2 x3 x4 x5 x6 x7)), none, []⟩ := by
  have h0 : evFn (cxS F tyl [(36, c_laws_sameFloat F)] [] [] 0) Try.f20 false [V.agg [A.fl FloatKind.f32 x0, A.fl FloatKind.f32 x1, A.fl FloatKind.f32 x2, A.fl FloatKind.f32 x3], V.agg [A.fl FloatKind.f32 x4, A.fl FloatKind.f32 x5, A.fl FloatKind.f32 x6, A.fl FloatKind.f32 x7]] [] = bif FOps.convOk F FloatKind.f32 FloatKind.f64 x0 then bif FOps.convOk F FloatKind.f32 FloatKind.f64 x4 then bif Bool.not (Pure.laws_sameFloat F (FOps.conv F FloatKind.f32 FloatKind.f64 x0) (FOps.conv F FloatKind.f32 FloatKind.f64 x4)) then some ⟨V.at (A.bool false), none, []⟩ else bif FOps.convOk F FloatKind.f32 FloatKind.f64 x1 then bif FOps.convOk F FloatKind.f32 FloatKind.f64 x5 then bif Bool.not (Pure.laws_sameFloat F (FOps.conv F FloatKind.f32 FloatKind.f64 x1) (FOps.conv F FloatKind.f32 FloatKind.f64 x5)) then some ⟨V.at (A.bool false), none, []⟩ else bif FOps.convOk F FloatKind.f32 FloatKind.f64 x2 then bif FOps.convOk F FloatKind.f32 FloatKind.f64 x6 then bif Bool.not (Pure.laws_sameFloat F (FOps.conv F FloatKind.f32 FloatKind.f64 x2) (FOps.conv F FloatKind.f32 FloatKind.f64 x6)) then some ⟨V.at (A.bool false), none, []⟩ else bif FOps.convOk F FloatKind.f32 FloatKind.f64 x3 then bif FOps.convOk F FloatKind.f32 FloatKind.f64 x7 then bif Bool.not (Pure.laws_sameFloat F (FOps.conv F FloatKind.f32 FloatKind.f64 x3) (FOps.conv F FloatKind.f32 FloatKind.f64 x7)) then some ⟨V.at (A.bool false), none, []⟩ else some ⟨V.at (A.bool true), none, []⟩ else none else none else none else none else none else none else none else none := by kernel_rfl
  rw [h0]
  unfold Pure.laws_eqSpin Pure.laws_eqSpin_ok
  cases (FOps.convOk F FloatKind.f32 FloatKind.f64 x0) with
  | true =>
    cases (FOps.convOk F FloatKind.f32 FloatKind.f64 x4) with
    | true =>
      cases (Pure.laws_sameFloat F (FOps.conv F FloatKind.f32 FloatKind.f64 x0) (FOps.conv F FloatKind.f32 FloatKind.f64 x4)) with
      | true =>
        cases (FOps.convOk F FloatKind.f32 FloatKind.f64 x1) with
        | true =>
          cases (FOps.convOk F FloatKind.f32 FloatKind.f64 x5) with
          | true =>
            cases (Pure.laws_sameFloat F (FOps.conv F FloatKind.f32 FloatKind.f64 x1) (FOps.conv F FloatKind.f32 FloatKind.f64 x5)) with
            | true =>
              cases (FOps.convOk F FloatKind.f32 FloatKind.f64 x2) with
              | true =>
                cases (FOps.convOk F FloatKind.f32 FloatKind.f64 x6) with
                | true =>
                  cases (Pure.laws_sameFloat F (FOps.conv F FloatKind.f32 FloatKind.f64 x2) (FOps.conv F FloatKind.f32 FloatKind.f64 x6)) with
                  | true =>
                    cases (FOps.convOk F FloatKind.f32 FloatKind.f64 x3) with
                    | true =>
                      cases (FOps.convOk F FloatKind.f32 FloatKind.f64 x7) with
                      | true =>
                        cases (Pure.laws_sameFloat F (FOps.conv F FloatKind.f32 FloatKind.f64 x3) (FOps.conv F FloatKind.f32 FloatKind.f64 x7)) with
                        | true =>
                          intro _; rfl
                        | false =>
                          intro _; rfl
                      | false =>
                        intro h; exact absurd h Bool.false_ne_true
                    | false =>
                      intro h; exact absurd h Bool.false_ne_true
                  | false =>
                    intro _; rfl
                | false =>
                  intro h; exact absurd h Bool.false_ne_true
              | false =>
                intro h; exact absurd h Bool.false_ne_true
            | false =>
              intro _; rfl
          | false =>
            intro h; exact absurd h Bool.false_ne_true
        | false =>
          intro h; exact absurd h Bool.false_ne_true
      | false =>
        intro _; rfl
    | false =>
      intro h; exact absurd h Bool.false_ne_true
  | false =>
    intro h; exact absurd h Bool.false_ne_true
theorem ok_laws_eqSpin : CallOK Try.prog 20 (c_laws_eqSpin real) := by
  refine callOK_of fun args h ret hc => ?_
  unfold c_laws_eqSpin at hc
  split at hc
  · rename_i x0 x1 x2 x3 x4 x5 x6 x7
    obtain ⟨hok, rfl⟩ := some_ret hc
    exact holds_ev prog_ok (allOK_cons ok_laws_sameFloat allOK_nil) Try.func20 rfl rfl smL_nil rfl (e_laws_eqSpin real x0 x1 x2 x3 x4 x5 x6 x7 hok)
  · cases hc
end Go.Fx
