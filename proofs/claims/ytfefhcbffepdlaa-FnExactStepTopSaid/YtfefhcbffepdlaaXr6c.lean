import Derived.Test.YtfefhcbffepdlaaXr6b
import Derived.KernelRfl
namespace Go.Fx
open Go.Proofs
set_option maxRecDepth 100000
def Pure.spec_l01Finite (F : FOps) (x0 : Int) : Bool := FOps.cmp F BinOp.eql FloatKind.f32 (FOps.bin F BinOp.sub FloatKind.f32 x0 x0) 0
def c_spec_l01Finite (F : FOps) : Con
  | [V.at (A.fl FloatKind.f32 x0)], [] => some (true, ⟨V.at (A.bool (Pure.spec_l01Finite F x0)), none, []⟩)
  | _, _ => none
theorem e_spec_l01Finite (F : FOps) (x0 : Int) : evFn (cxS F tyl [] [] [] 0) Try.f47 false [V.at (A.fl FloatKind.f32 x0)] [] = some ⟨V.at (A.bool (Pure.spec_l01Finite F x0)), none, []⟩ := by
  kernel_rfl
theorem ok_spec_l01Finite : CallOK Try.prog 47 (c_spec_l01Finite real) := by
  refine callOK_of fun args h ret hc => ?_
  unfold c_spec_l01Finite at hc
  split at hc
  · rename_i x0
    obtain ⟨_, rfl⟩ := some_ret hc
    exact holds_ev prog_ok allOK_nil Try.func47 rfl rfl smL_nil rfl (e_spec_l01Finite real x0)
  · cases hc
def Pure.spec_l04Spin (F : FOps) (x0 : Int) (x1 : Int) (x2 : Int) (x3 : Int) : Bool := bif Pure.spec_l01Finite F x0 then bif Pure.spec_l01Finite F x1 then bif Pure.spec_l01Finite F x2 then bif Pure.spec_l01Finite F x3 then bif FOps.cmp F BinOp.neq FloatKind.f32 x0 0 then true else bif FOps.cmp F BinOp.neq FloatKind.f32 x1 0 then true else bif FOps.cmp F BinOp.neq FloatKind.f32 x2 0 then true else FOps.cmp F BinOp.neq FloatKind.f32 x3 0 else false else false else false else false
def c_spec_l04Spin (F : FOps) : Con
  | [V.at (A.ptr 0 0 0)], [⟨false, OC.box [A.fl FloatKind.f32 x0, A.fl FloatKind.f32 x1, A.fl FloatKind.f32 x2, A.fl FloatKind.f32 x3]⟩] => some (true, ⟨V.at (A.bool (Pure.spec_l04Spin F x0 x1 x2 x3)), none, []⟩)
  | _, _ => none
theorem e_spec_l04Spin (F : FOps) (x0 : Int) (x1 : Int) (x2 : Int) (x3 : Int) : evFn (cxS F tyl [(47, c_spec_l01Finite F)] [] [] 0) Try.f37 false [V.at (A.ptr 0 0 0)] [⟨false, OC.box [A.fl FloatKind.f32 x0, A.fl FloatKind.f32 x1, A.fl FloatKind.f32 x2, A.fl FloatKind.f32 x3]⟩] = some ⟨V.at (A.bool (Pure.spec_l04Spin F x0 x1 x2 x3)), none, []⟩ := by
  have h0 : evFn (cxS F tyl [(47, c_spec_l01Finite F)] [] [] 0) Try.f37 false [V.at (A.ptr 0 0 0)] [⟨false, OC.box [A.fl FloatKind.f32 x0, A.fl FloatKind.f32 x1, A.fl FloatKind.f32 x2, A.fl FloatKind.f32 x3]⟩] = bif Bool.not (Pure.spec_l01Finite F x0) then some ⟨V.at (A.bool false), none, []⟩ else bif Bool.not (Pure.spec_l01Finite F x1) then some ⟨V.at (A.bool false), none, []⟩ else bif Bool.not (Pure.spec_l01Finite F x2) then some ⟨V.at (A.bool false), none, []⟩ else bif Bool.not (Pure.spec_l01Finite F x3) then some ⟨V.at (A.bool false), none, []⟩ else bif FOps.cmp F BinOp.neq FloatKind.f32 x0 0 then some ⟨V.at (A.bool true), none, []⟩ else bif FOps.cmp F BinOp.neq FloatKind.f32 x1 0 then some ⟨V.at (A.bool true), none, []⟩ else bif FOps.cmp F BinOp.neq FloatKind.f32 x2 0 then some ⟨V.at (A.bool true), none, []⟩ else some ⟨V.at (A.bool (FOps.cmp F BinOp.neq FloatKind.f32 x3 0)), none, []⟩ := by kernel_rfl
  rw [h0]
  unfold Pure.spec_l04Spin
  cases (Pure.spec_l01Finite F x0) with
  | true =>
    cases (Pure.spec_l01Finite F x1) with
    | true =>
      cases (Pure.spec_l01Finite F x2) with
      | true =>
        cases (Pure.spec_l01Finite F x3) with
        | true =>
          cases (FOps.cmp F BinOp.neq FloatKind.f32 x0 0) with
          | true =>
            rfl
          | false =>
            cases (FOps.cmp F BinOp.neq FloatKind.f32 x1 0) with
            | true =>
              rfl
            | false =>
              cases (FOps.cmp F BinOp.neq FloatKind.f32 x2 0) with
              | true =>
                rfl
              | false =>
                rfl
        | false =>
          rfl
      | false =>
        rfl
    | false =>
      rfl
  | false =>
    rfl
theorem ok_spec_l04Spin : CallOK Try.prog 37 (c_spec_l04Spin real) := by
  refine callOK_of fun args h ret hc => ?_
  unfold c_spec_l04Spin at hc
  split at hc
  · rename_i x0 x1 x2 x3
    obtain ⟨_, rfl⟩ := some_ret hc
    exact holds_ev prog_ok (allOK_cons ok_spec_l01Finite allOK_nil) Try.func37 rfl rfl smL_nil rfl (e_spec_l04Spin real x0 x1 x2 x3)
  · cases hc
def Pure.spec_l04Spin_in (F : FOps) (_x0 : Int) (_x1 : Int) (_x2 : Int) (x3 : Int) (x4 : Int) (x5 : Int) (x6 : Int) (_x7 : Int) (_x8 : Int) (_x9 : Int) : Bool := bif Pure.spec_l01Finite F x3 then bif Pure.spec_l01Finite F x4 then bif Pure.spec_l01Finite F x5 then bif Pure.spec_l01Finite F x6 then bif FOps.cmp F BinOp.neq FloatKind.f32 x3 0 then true else bif FOps.cmp F BinOp.neq FloatKind.f32 x4 0 then true else bif FOps.cmp F BinOp.neq FloatKind.f32 x5 0 then true else FOps.cmp F BinOp.neq FloatKind.f32 x6 0 else false else false else false else false
def c_spec_l04Spin_in (F : FOps) : Con
  | [V.at (A.ptr 0 0 3)], [⟨false, OC.box [A.fl FloatKind.f32 x0, A.fl FloatKind.f32 x1, A.fl FloatKind.f32 x2, A.fl FloatKind.f32 x3, A.fl FloatKind.f32 x4, A.fl FloatKind.f32 x5, A.fl FloatKind.f32 x6, A.fl FloatKind.f32 x7, A.fl FloatKind.f32 x8, A.fl FloatKind.f32 x9]⟩] => some (true, ⟨V.at (A.bool (Pure.spec_l04Spin_in F x0 x1 x2 x3 x4 x5 x6 x7 x8 x9)), none, []⟩)
  | _, _ => none
theorem e_spec_l04Spin_in (F : FOps) (x0 : Int) (x1 : Int) (x2 : Int) (x3 : Int) (x4 : Int) (x5 : Int) (x6 : Int) (x7 : Int) (x8 : Int) (x9 : Int) : evFn (cxS F tyl [(47, c_spec_l01Finite F)] [] [] 0) Try.f37 false [V.at (A.ptr 0 0 3)] [⟨false, OC.box [A.fl FloatKind.f32 x0, A.fl FloatKind.f32 x1, A.fl FloatKind.f32 x2, A.fl FloatKind.f32 x3, A.fl FloatKind.f32 x4, A.fl FloatKind.f32 x5, A.fl FloatKind.f32 x6, A.fl FloatKind.f32 x7, A.fl FloatKind.f32 x8, A.fl FloatKind.f32 x9]⟩] = some ⟨V.at (A.bool (Pure.spec_l04Spin_in F x0 x1 x2 x3 x4 x5 x6 x7 x8 x9)), none, []⟩ := by
  have h0 : evFn (cxS F tyl [(47, c_spec_l01Finite F)] [] [] 0) Try.f37 false [V.at (A.ptr 0 0 3)] [⟨false, OC.box [A.fl FloatKind.f32 x0, A.fl FloatKind.f32 x1, A.fl FloatKind.f32 x2, A.fl FloatKind.f32 x3, A.fl FloatKind.f32 x4, A.fl FloatKind.f32 x5, A.fl FloatKind.f32 x6, A.fl FloatKind.f32 x7, A.fl FloatKind.f32 x8, A.fl FloatKind.f32 x9]⟩] = bif Bool.not (Pure.spec_l01Finite F x3) then some ⟨V.at (A.bool false), none, []⟩ else bif Bool.not (Pure.spec_l01Finite F x4) then some ⟨V.at (A.bool false), none, []⟩ else bif Bool.not (Pure.spec_l01Finite F x5) then some ⟨V.at (A.bool false), none, []⟩ else bif Bool.not (Pure.spec_l01Finite F x6) then some ⟨V.at (A.bool false), none, []⟩ else bif FOps.cmp F BinOp.neq FloatKind.f32 x3 0 then some ⟨V.at (A.bool true), none, []⟩ else bif FOps.cmp F BinOp.neq FloatKind.f32 x4 0 then some ⟨V.at (A.bool true), none, []⟩ else bif FOps.cmp F BinOp.neq FloatKind.f32 x5 0 then some ⟨V.at (A.bool true), none, []⟩ else some ⟨V.at (A.bool (FOps.cmp F BinOp.neq FloatKind.f32 x6 0)), none, []⟩ := by kernel_rfl
  rw [h0]
  unfold Pure.spec_l04Spin_in
  cases (Pure.spec_l01Finite F x3) with
  | true =>
    cases (Pure.spec_l01Finite F x4) with
    | true =>
      cases (Pure.spec_l01Finite F x5) with
      | true =>
        cases (Pure.spec_l01Finite F x6) with
        | true =>
          cases (FOps.cmp F BinOp.neq FloatKind.f32 x3 0) with
          | true =>
            rfl
          | false =>
            cases (FOps.cmp F BinOp.neq FloatKind.f32 x4 0) with
            | true =>
              rfl
            | false =>
              cases (FOps.cmp F BinOp.neq FloatKind.f32 x5 0) with
              | true =>
                rfl
              | false =>
                rfl
        | false =>
          rfl
      | false =>
        rfl
    | false =>
      rfl
  | false =>
    rfl
theorem ok_spec_l04Spin_in : CallOK Try.prog 37 (c_spec_l04Spin_in real) := by
  refine callOK_of fun args h ret hc => ?_
  unfold c_spec_l04Spin_in at hc
  split at hc
  · rename_i x0 x1 x2 x3 x4 x5 x6 x7 x8 x9
    obtain ⟨_, rfl⟩ := some_ret hc
    exact holds_ev prog_ok (allOK_cons ok_spec_l01Finite allOK_nil) Try.func37 rfl rfl smL_nil rfl (e_spec_l04Spin_in real x0 x1 x2 x3 x4 x5 x6 x7 x8 x9)
  · cases hc
def c_spec_l04Spin_or1 (F : FOps) : Con := orC (c_spec_l04Spin F) (c_spec_l04Spin_in F)
theorem ok_spec_l04Spin_or1 : CallOK Try.prog 37 (c_spec_l04Spin_or1 real) := callOK_or ok_spec_l04Spin ok_spec_l04Spin_in
def Pure.impl_signed (F : FOps) (x0 : Int) (x1 : Int) (x2 : Int) (x3 : Int) (x4 : Int) (x5 : Int) (x6 : Int) (x7 : Int) (x8 : Int) (x9 : Int) (x10 : Int) : Int := FOps.bin F BinOp.add FloatKind.f32 (FOps.bin F BinOp.add FloatKind.f32 (FOps.bin F BinOp.add FloatKind.f32 (FOps.bin F BinOp.mul FloatKind.f32 (List.getD [x0] 0 0) (List.getD [x4] 0 0)) (FOps.bin F BinOp.mul FloatKind.f32 (List.getD [x8] 0 0) (FOps.bin F BinOp.mul FloatKind.f32 (List.getD [x1] 0 0) (List.getD [x5] 0 0)))) (FOps.bin F BinOp.mul FloatKind.f32 (List.getD [x9] 0 0) (FOps.bin F BinOp.mul FloatKind.f32 (List.getD [x2] 0 0) (List.getD [x6] 0 0)))) (FOps.bin F BinOp.mul FloatKind.f32 (List.getD [x10] 0 0) (FOps.bin F BinOp.mul FloatKind.f32 (List.getD [x3] 0 0) (List.getD [x7] 0 0)))
def c_impl_signed (F : FOps) : Con
  | [V.agg [A.fl FloatKind.f32 x0, A.fl FloatKind.f32 x1, A.fl FloatKind.f32 x2, A.fl FloatKind.f32 x3], V.agg [A.fl FloatKind.f32 x4, A.fl FloatKind.f32 x5, A.fl FloatKind.f32 x6, A.fl FloatKind.f32 x7], V.agg [A.fl FloatKind.f32 x8, A.fl FloatKind.f32 x9, A.fl FloatKind.f32 x10]], [] => some (true, ⟨V.at (A.fl FloatKind.f32 (Pure.impl_signed F x0 x1 x2 x3 x4 x5 x6 x7 x8 x9 x10)), none, []⟩)
  | _, _ => none
theorem e_impl_signed (F : FOps) (x0 : Int) (x1 : Int) (x2 : Int) (x3 : Int) (x4 : Int) (x5 : Int) (x6 : Int) (x7 : Int) (x8 : Int) (x9 : Int) (x10 : Int) : evFn (cxS F tyl [] [] [] 5) Try.f38 false [V.agg [A.fl FloatKind.f32 x0, A.fl FloatKind.f32 x1, A.fl FloatKind.f32 x2, A.fl FloatKind.f32 x3], V.agg [A.fl FloatKind.f32 x4, A.fl FloatKind.f32 x5, A.fl FloatKind.f32 x6, A.fl FloatKind.f32 x7], V.agg [A.fl FloatKind.f32 x8, A.fl FloatKind.f32 x9, A.fl FloatKind.f32 x10]] [] = some ⟨V.at (A.fl FloatKind.f32 (Pure.impl_signed F x0 x1 x2 x3 x4 x5 x6 x7 x8 x9 x10)), none, []⟩ := by
  kernel_rfl
theorem ok_impl_signed : CallOK Try.prog 38 (c_impl_signed real) := by
  refine callOK_of fun args h ret hc => ?_
  unfold c_impl_signed at hc
  split at hc
  · rename_i x0 x1 x2 x3 x4 x5 x6 x7 x8 x9 x10
    obtain ⟨_, rfl⟩ := some_ret hc
    exact holds_ev prog_ok allOK_nil Try.func38 rfl rfl smL_nil rfl (e_impl_signed real x0 x1 x2 x3 x4 x5 x6 x7 x8 x9 x10)
  · cases hc
def c_impl_TimesSpins (F : FOps) : Con
  | [V.agg [A.fl FloatKind.f32 x0, A.fl FloatKind.f32 x1, A.fl FloatKind.f32 x2, A.fl FloatKind.f32 x3], V.agg [A.fl FloatKind.f32 x4, A.fl FloatKind.f32 x5, A.fl FloatKind.f32 x6, A.fl FloatKind.f32 x7]], [] => some (true, ⟨V.agg [A.fl FloatKind.f32 (Pure.impl_signed F x0 x1 x2 x3 x4 x5 x6 x7 3212836864 3212836864 3212836864), A.fl FloatKind.f32 (Pure.impl_signed F x0 x1 x2 x3 x5 x4 x7 x6 1065353216 1065353216 3212836864), A.fl FloatKind.f32 (Pure.impl_signed F x0 x1 x2 x3 x6 x7 x4 x5 3212836864 1065353216 1065353216), A.fl FloatKind.f32 (Pure.impl_signed F x0 x1 x2 x3 x7 x6 x5 x4 1065353216 3212836864 1065353216)], none, []⟩)
  | _, _ => none
theorem e_impl_TimesSpins (F : FOps) (x0 : Int) (x1 : Int) (x2 : Int) (x3 : Int) (x4 : Int) (x5 : Int) (x6 : Int) (x7 : Int) : evFn (cxS F tyl [(38, c_impl_signed F)] [] [] 0) Try.f10 false [V.agg [A.fl FloatKind.f32 x0, A.fl FloatKind.f32 x1, A.fl FloatKind.f32 x2, A.fl FloatKind.f32 x3], V.agg [A.fl FloatKind.f32 x4, A.fl FloatKind.f32 x5, A.fl FloatKind.f32 x6, A.fl FloatKind.f32 x7]] [] = some ⟨V.agg [A.fl FloatKind.f32 (Pure.impl_signed F x0 x1 x2 x3 x4 x5 x6 x7 3212836864 3212836864 3212836864), A.fl FloatKind.f32 (Pure.impl_signed F x0 x1 x2 x3 x5 x4 x7 x6 1065353216 1065353216 3212836864), A.fl FloatKind.f32 (Pure.impl_signed F x0 x1 x2 x3 x6 x7 x4 x5 3212836864 1065353216 1065353216), A.fl FloatKind.f32 (Pure.impl_signed F x0 x1 x2 x3 x7 x6 x5 x4 1065353216 3212836864 1065353216)], none, []⟩ := by
  kernel_rfl
theorem ok_impl_TimesSpins : CallOK Try.prog 10 (c_impl_TimesSpins real) := by
  refine callOK_of fun args h ret hc => ?_
  unfold c_impl_TimesSpins at hc
  split at hc
  · rename_i x0 x1 x2 x3 x4 x5 x6 x7
    obtain ⟨_, rfl⟩ := some_ret hc
    exact holds_ev prog_ok (allOK_cons ok_impl_signed allOK_nil) Try.func10 rfl rfl smL_nil rfl (e_impl_TimesSpins real x0 x1 x2 x3 x4 x5 x6 x7)
  · cases hc
def c_laws_toVector (_ : FOps) : Con
  | [V.agg [A.fl FloatKind.f32 x0, A.fl FloatKind.f32 x1, A.fl FloatKind.f32 x2]], [] => some (true, ⟨V.agg [A.fl FloatKind.f32 x0, A.fl FloatKind.f32 x1, A.fl FloatKind.f32 x2], none, []⟩)
  | _, _ => none
theorem e_laws_toVector (F : FOps) (x0 : Int) (x1 : Int) (x2 : Int) : evFn (cxS F tyl [] [] [] 0) Try.f23 false [V.agg [A.fl FloatKind.f32 x0, A.fl FloatKind.f32 x1, A.fl FloatKind.f32 x2]] [] = some ⟨V.agg [A.fl FloatKind.f32 x0, A.fl FloatKind.f32 x1, A.fl FloatKind.f32 x2], none, []⟩ := by
  kernel_rfl
theorem ok_laws_toVector : CallOK Try.prog 23 (c_laws_toVector real) := by
  refine callOK_of fun args h ret hc => ?_
  unfold c_laws_toVector at hc
  split at hc
  · rename_i x0 x1 x2
    obtain ⟨_, rfl⟩ := some_ret hc
    exact holds_ev prog_ok allOK_nil Try.func23 rfl rfl smL_nil rfl (e_laws_toVector real x0 x1 x2)
  · cases hc
def c_laws_toSpin (_ : FOps) : Con
  | [V.agg [A.fl FloatKind.f32 x0, A.fl FloatKind.f32 x1, A.fl FloatKind.f32 x2, A.fl FloatKind.f32 x3]], [] => some (true, ⟨V.agg [A.fl FloatKind.f32 x0, A.fl FloatKind.f32 x1, A.fl FloatKind.f32 x2, A.fl FloatKind.f32 x3], none, []⟩)
  | _, _ => none
theorem e_laws_toSpin (F : FOps) (x0 : Int) (x1 : Int) (x2 : Int) (x3 : Int) : evFn (cxS F tyl [] [] [] 0) Try.f19 false [V.agg [A.fl FloatKind.f32 x0, A.fl FloatKind.f32 x1, A.fl FloatKind.f32 x2, A.fl FloatKind.f32 x3]] [] = some ⟨V.agg [A.fl FloatKind.f32 x0, A.fl FloatKind.f32 x1, A.fl FloatKind.f32 x2, A.fl FloatKind.f32 x3], none, []⟩ := by
  kernel_rfl
theorem ok_laws_toSpin : CallOK Try.prog 19 (c_laws_toSpin real) := by
  refine callOK_of fun args h ret hc => ?_
  unfold c_laws_toSpin at hc
  split at hc
  · rename_i x0 x1 x2 x3
    obtain ⟨_, rfl⟩ := some_ret hc
    exact holds_ev prog_ok allOK_nil Try.func19 rfl rfl smL_nil rfl (e_laws_toSpin real x0 x1 x2 x3)
  · cases hc
def c_laws_toTop (_ : FOps) : Con
  | [V.agg [A.fl FloatKind.f32 x0, A.fl FloatKind.f32 x1, A.fl FloatKind.f32 x2, A.fl FloatKind.f32 x3, A.fl FloatKind.f32 x4, A.fl FloatKind.f32 x5, A.fl FloatKind.f32 x6, A.fl FloatKind.f32 x7, A.fl FloatKind.f32 x8, A.fl FloatKind.f32 x9]], [] => some (true, ⟨V.agg [A.fl FloatKind.f32 x0, A.fl FloatKind.f32 x1, A.fl FloatKind.f32 x2, A.fl FloatKind.f32 x3, A.fl FloatKind.f32 x4, A.fl FloatKind.f32 x5, A.fl FloatKind.f32 x6, A.fl FloatKind.f32 x7, A.fl FloatKind.f32 x8, A.fl FloatKind.f32 x9], none, []⟩)
  | _, _ => none
theorem e_laws_toTop (F : FOps) (x0 : Int) (x1 : Int) (x2 : Int) (x3 : Int) (x4 : Int) (x5 : Int) (x6 : Int) (x7 : Int) (x8 : Int) (x9 : Int) : evFn (cxS F tyl [(23, c_laws_toVector F), (19, c_laws_toSpin F)] [] [] 0) Try.f22 false [V.agg [A.fl FloatKind.f32 x0, A.fl FloatKind.f32 x1, A.fl FloatKind.f32 x2, A.fl FloatKind.f32 x3, A.fl FloatKind.f32 x4, A.fl FloatKind.f32 x5, A.fl FloatKind.f32 x6, A.fl FloatKind.f32 x7, A.fl FloatKind.f32 x8, A.fl FloatKind.f32 x9]] [] = some ⟨V.agg [A.fl FloatKind.f32 x0, A.fl FloatKind.f32 x1, A.fl FloatKind.f32 x2, A.fl FloatKind.f32 x3, A.fl FloatKind.f32 x4, A.fl FloatKind.f32 x5, A.fl FloatKind.f32 x6, A.fl FloatKind.f32 x7, A.fl FloatKind.f32 x8, A.fl FloatKind.f32 x9], none, []⟩ := by
  kernel_rfl
theorem ok_laws_toTop : CallOK Try.prog 22 (c_laws_toTop real) := by
  refine callOK_of fun args h ret hc => ?_
  unfold c_laws_toTop at hc
  split at hc
  · rename_i x0 x1 x2 x3 x4 x5 x6 x7 x8 x9
    obtain ⟨_, rfl⟩ := some_ret hc
    exact holds_ev prog_ok (allOK_cons ok_laws_toVector (allOK_cons ok_laws_toSpin allOK_nil)) Try.func22 rfl rfl smL_nil rfl (e_laws_toTop real x0 x1 x2 x3 x4 x5 x6 x7 x8 x9)
  · cases hc
def Pure.spec_l02Above (F : FOps) (x0 : Int) : Bool := bif Pure.spec_l01Finite F x0 then FOps.cmp F BinOp.gtr FloatKind.f32 x0 0 else false
def c_spec_l02Above (F : FOps) : Con
  | [V.at (A.fl FloatKind.f32 x0)], [] => some (true, ⟨V.at (A.bool (Pure.spec_l02Above F x0)), none, []⟩)
  | _, _ => none
theorem e_spec_l02Above (F : FOps) (x0 : Int) : evFn (cxS F tyl [(47, c_spec_l01Finite F)] [] [] 0) Try.f83 false [V.at (A.fl FloatKind.f32 x0)] [] = some ⟨V.at (A.bool (Pure.spec_l02Above F x0)), none, []⟩ := by
  have h0 : evFn (cxS F tyl [(47, c_spec_l01Finite F)] [] [] 0) Try.f83 false [V.at (A.fl FloatKind.f32 x0)] [] = bif Pure.spec_l01Finite F x0 then some ⟨V.at (A.bool (FOps.cmp F BinOp.gtr FloatKind.f32 x0 0)), none, []⟩ else some ⟨V.at (A.bool false), none, []⟩ := by kernel_rfl
  rw [h0]
  unfold Pure.spec_l02Above
  cases (Pure.spec_l01Finite F x0) with
  | true =>
    rfl
  | false =>
    rfl
theorem ok_spec_l02Above : CallOK Try.prog 83 (c_spec_l02Above real) := by
  refine callOK_of fun args h ret hc => ?_
  unfold c_spec_l02Above at hc
  split at hc
  · rename_i x0
    obtain ⟨_, rfl⟩ := some_ret hc
    exact holds_ev prog_ok (allOK_cons ok_spec_l01Finite allOK_nil) Try.func83 rfl rfl smL_nil rfl (e_spec_l02Above real x0)
  · cases hc
def Pure.spec_l01VFinite (F : FOps) (x0 : Int) (x1 : Int) (x2 : Int) : Bool := bif Pure.spec_l01Finite F x0 then bif Pure.spec_l01Finite F x1 then Pure.spec_l01Finite F x2 else false else false
def c_spec_l01VFinite (F : FOps) : Con
  | [V.agg [A.fl FloatKind.f32 x0, A.fl FloatKind.f32 x1, A.fl FloatKind.f32 x2]], [] => some (true, ⟨V.at (A.bool (Pure.spec_l01VFinite F x0 x1 x2)), none, []⟩)
  | _, _ => none
theorem e_spec_l01VFinite (F : FOps) (x0 : Int) (x1 : Int) (x2 : Int) : evFn (cxS F tyl [(47, c_spec_l01Finite F)] [] [] 0) Try.f73 false [V.agg [A.fl FloatKind.f32 x0, A.fl FloatKind.f32 x1, A.fl FloatKind.f32 x2]] [] = some ⟨V.at (A.bool (Pure.spec_l01VFinite F x0 x1 x2)), none, []⟩ := by
  have h0 : evFn (cxS F tyl [(47, c_spec_l01Finite F)] [] [] 0) Try.f73 false [V.agg [A.fl FloatKind.f32 x0, A.fl FloatKind.f32 x1, A.fl FloatKind.f32 x2]] [] = bif Pure.spec_l01Finite F x0 then bif Pure.spec_l01Finite F x1 then some ⟨V.at (A.bool (Pure.spec_l01Finite F x2)), none, []⟩ else some ⟨V.at (A.bool false), none, []⟩ else some ⟨V.at (A.bool false), none, []⟩ := by kernel_rfl
  rw [h0]
  unfold Pure.spec_l01VFinite
  cases (Pure.spec_l01Finite F x0) with
  | true =>
    cases (Pure.spec_l01Finite F x1) with
    | true =>
      rfl
    | false =>
      rfl
  | false =>
    rfl
theorem ok_spec_l01VFinite : CallOK Try.prog 73 (c_spec_l01VFinite real) := by
  refine callOK_of fun args h ret hc => ?_
  unfold c_spec_l01VFinite at hc
  split at hc
  · rename_i x0 x1 x2
    obtain ⟨_, rfl⟩ := some_ret hc
    exact holds_ev prog_ok (allOK_cons ok_spec_l01Finite allOK_nil) Try.func73 rfl rfl smL_nil rfl (e_spec_l01VFinite real x0 x1 x2)
  · cases hc
def Pure.spec_l04Is (F : FOps) (x0 : Int) (x1 : Int) (x2 : Int) (x3 : Int) (x4 : Int) (x5 : Int) (x6 : Int) (x7 : Int) (x8 : Int) (x9 : Int) : Bool := bif Pure.spec_l02Above F x0 then bif Pure.spec_l02Above F x1 then bif Pure.spec_l02Above F x2 then bif Pure.spec_l04Spin_in F x0 x1 x2 x3 x4 x5 x6 x7 x8 x9 then Pure.spec_l01VFinite F x7 x8 x9 else false else false else false else false
def c_spec_l04Is (F : FOps) : Con
  | [V.at (A.ptr 0 0 0)], [⟨false, OC.box [A.fl FloatKind.f32 x0, A.fl FloatKind.f32 x1, A.fl FloatKind.f32 x2, A.fl FloatKind.f32 x3, A.fl FloatKind.f32 x4, A.fl FloatKind.f32 x5, A.fl FloatKind.f32 x6, A.fl FloatKind.f32 x7, A.fl FloatKind.f32 x8, A.fl FloatKind.f32 x9]⟩] => some (true, ⟨V.at (A.bool (Pure.spec_l04Is F x0 x1 x2 x3 x4 x5 x6 x7 x8 x9)), none, []⟩)
  | _, _ => none
theorem e_spec_l04Is (F : FOps) (x0 : Int) (x1 : Int) (x2 : Int) (x3 : Int) (x4 : Int) (x5 : Int) (x6 : Int) (x7 : Int) (x8 : Int) (x9 : Int) : evFn (cxS F tyl [(83, c_spec_l02Above F), (37, c_spec_l04Spin_or1 F), (73, c_spec_l01VFinite F)] [] [] 0) Try.f72 false [V.at (A.ptr 0 0 0)] [⟨false, OC.box [A.fl FloatKind.f32 x0, A.fl FloatKind.f32 x1, A.fl FloatKind.f32 x2, A.fl FloatKind.f32 x3, A.fl FloatKind.f32 x4, A.fl FloatKind.f32 x5, A.fl FloatKind.f32 x6, A.fl FloatKind.f32 x7, A.fl FloatKind.f32 x8, A.fl FloatKind.f32 x9]⟩] = some ⟨V.at (A.bool (Pure.spec_l04Is F x0 x1 x2 x3 x4 x5 x6 x7 x8 x9)), none, []⟩ := by
  have h0 : evFn (cxS F tyl [(83, c_spec_l02Above F), (37, c_spec_l04Spin_or1 F), (73, c_spec_l01VFinite F)] [] [] 0) Try.f72 false [V.at (A.ptr 0 0 0)] [⟨false, OC.box [A.fl FloatKind.f32 x0, A.fl FloatKind.f32 x1, A.fl FloatKind.f32 x2, A.fl FloatKind.f32 x3, A.fl FloatKind.f32 x4, A.fl FloatKind.f32 x5, A.fl FloatKind.f32 x6, A.fl FloatKind.f32 x7, A.fl FloatKind.f32 x8, A.fl FloatKind.f32 x9]⟩] = bif Pure.spec_l02Above F x0 then bif Pure.spec_l02Above F x1 then bif Pure.spec_l02Above F x2 then bif Pure.spec_l04Spin_in F x0 x1 x2 x3 x4 x5 x6 x7 x8 x9 then some ⟨V.at (A.bool (Pure.spec_l01VFinite F x7 x8 x9)), none, []⟩ else some ⟨V.at (A.bool false), none, []⟩ else some ⟨V.at (A.bool false), none, []⟩ else some ⟨V.at (A.bool false), none, []⟩ else some ⟨V.at (A.bool false), none, []⟩ := by kernel_rfl
  rw [h0]
  unfold Pure.spec_l04Is
  cases (Pure.spec_l02Above F x0) with
  | true =>
    cases (Pure.spec_l02Above F x1) with
    | true =>
      cases (Pure.spec_l02Above F x2) with
      | true =>
        cases (Pure.spec_l04Spin_in F x0 x1 x2 x3 x4 x5 x6 x7 x8 x9) with
        | true =>
          rfl
        | false =>
          rfl
      | false =>
        rfl
    | false =>
      rfl
  | false =>
    rfl
theorem ok_spec_l04Is : CallOK Try.prog 72 (c_spec_l04Is real) := by
  refine callOK_of fun args h ret hc => ?_
  unfold c_spec_l04Is at hc
  split at hc
  · rename_i x0 x1 x2 x3 x4 x5 x6 x7 x8 x9
    obtain ⟨_, rfl⟩ := some_ret hc
    exact holds_ev prog_ok (allOK_cons ok_spec_l02Above (allOK_cons ok_spec_l04Spin_or1 (allOK_cons ok_spec_l01VFinite allOK_nil))) Try.func72 rfl rfl smL_nil rfl (e_spec_l04Is real x0 x1 x2 x3 x4 x5 x6 x7 x8 x9)
  · cases hc
def Pure.spec_l04Can (F : FOps) (x0 : Int) (x1 : Int) (x2 : Int) (x3 : Int) (x4 : Int) (x5 : Int) (x6 : Int) (x7 : Int) (x8 : Int) (x9 : Int) (x10 : Int) (x11 : Int) (x12 : Int) (x13 : Int) : Bool := bif Pure.spec_l04Is F x0 x1 x2 x3 x4 x5 x6 x7 x8 x9 then bif Pure.spec_l01VFinite F x10 x11 x12 then Pure.spec_l01Finite F x13 else false else false
def c_spec_l04Can (F : FOps) : Con
  | [V.at (A.ptr 0 0 0), V.agg [A.fl FloatKind.f32 x10, A.fl FloatKind.f32 x11, A.fl FloatKind.f32 x12], V.at (A.fl FloatKind.f32 x13)], [⟨false, OC.box [A.fl FloatKind.f32 x0, A.fl FloatKind.f32 x1, A.fl FloatKind.f32 x2, A.fl FloatKind.f32 x3, A.fl FloatKind.f32 x4, A.fl FloatKind.f32 x5, A.fl FloatKind.f32 x6, A.fl FloatKind.f32 x7, A.fl FloatKind.f32 x8, A.fl FloatKind.f32 x9]⟩] => some (true, ⟨V.at (A.bool (Pure.spec_l04Can F x0 x1 x2 x3 x4 x5 x6 x7 x8 x9 x10 x11 x12 x13)), none, []⟩)
  | _, _ => none
theorem e_spec_l04Can (F : FOps) (x0 : Int) (x1 : Int) (x2 : Int) (x3 : Int) (x4 : Int) (x5 : Int) (x6 : Int) (x7 : Int) (x8 : Int) (x9 : Int) (x10 : Int) (x11 : Int) (x12 : Int) (x13 : Int) : evFn (cxS F tyl [(72, c_spec_l04Is F), (73, c_spec_l01VFinite F), (47, c_spec_l01Finite F)] [] [] 0) Try.f50 false [V.at (A.ptr 0 0 0), V.agg [A.fl FloatKind.f32 x10, A.fl FloatKind.f32 x11, A.fl FloatKind.f32 x12], V.at (A.fl FloatKind.f32 x13)] [⟨false, OC.box [A.fl FloatKind.f32 x0, A.fl FloatKind.f32 x1, A.fl FloatKind.f32 x2, A.fl FloatKind.f32 x3, A.fl FloatKind.f32 x4, A.fl FloatKind.f32 x5, A.fl FloatKind.f32 x6, A.fl FloatKind.f32 x7, A.fl FloatKind.f32 x8, A.fl FloatKind.f32 x9]⟩] = some ⟨V.at (A.bool (Pure.spec_l04Can F x0 x1 x2 x3 x4 x5 x6 x7 x8 x9 x10 x11 x12 x13)), none, []⟩ := by
  have h0 : evFn (cxS F tyl [(72, c_spec_l04Is F), (73, c_spec_l01VFinite F), (47, c_spec_l01Finite F)] [] [] 0) Try.f50 false [V.at (A.ptr 0 0 0), V.agg [A.fl FloatKind.f32 x10, A.fl FloatKind.f32 x11, A.fl FloatKind.f32 x12], V.at (A.fl FloatKind.f32 x13)] [⟨false, OC.box [A.fl FloatKind.f32 x0, A.fl FloatKind.f32 x1, A.fl FloatKind.f32 x2, A.fl FloatKind.f32 x3, A.fl FloatKind.f32 x4, A.fl FloatKind.f32 x5, A.fl FloatKind.f32 x6, A.fl FloatKind.f32 x7, A.fl FloatKind.f32 x8, A.fl FloatKind.f32 x9]⟩] = bif Pure.spec_l04Is F x0 x1 x2 x3 x4 x5 x6 x7 x8 x9 then bif Pure.spec_l01VFinite F x10 x11 x12 then some ⟨V.at (A.bool (Pure.spec_l01Finite F x13)), none, []⟩ else some ⟨V.at (A.bool false), none, []⟩ else some ⟨V.at (A.bool false), none, []⟩ := by kernel_rfl
  rw [h0]
  unfold Pure.spec_l04Can
  cases (Pure.spec_l04Is F x0 x1 x2 x3 x4 x5 x6 x7 x8 x9) with
  | true =>
    cases (Pure.spec_l01VFinite F x10 x11 x12) with
    | true =>
      rfl
    | false =>
      rfl
  | false =>
    rfl
theorem ok_spec_l04Can : CallOK Try.prog 50 (c_spec_l04Can real) := by
  refine callOK_of fun args h ret hc => ?_
  unfold c_spec_l04Can at hc
  split at hc
  · rename_i x10 x11 x12 x13 x0 x1 x2 x3 x4 x5 x6 x7 x8 x9
    obtain ⟨_, rfl⟩ := some_ret hc
    exact holds_ev prog_ok (allOK_cons ok_spec_l04Is (allOK_cons ok_spec_l01VFinite (allOK_cons ok_spec_l01Finite allOK_nil))) Try.func50 rfl rfl smL_nil rfl (e_spec_l04Can real x0 x1 x2 x3 x4 x5 x6 x7 x8 x9 x10 x11 x12 x13)
  · cases hc
def Pure.spec_l04Rate (F : FOps) (x0 : Int) (x1 : Int) (x2 : Int) (_x3 : Int) (_x4 : Int) (_x5 : Int) (_x6 : Int) (_x7 : Int) (_x8 : Int) (_x9 : Int) (_x10 : Int) (x11 : Int) (x12 : Int) (x13 : Int) (_x14 : Int) (_x15 : Int) : Int := FOps.bin F BinOp.quo FloatKind.f32 (FOps.bin F BinOp.add FloatKind.f32 (FOps.bin F BinOp.mul FloatKind.f32 (FOps.bin F BinOp.sub FloatKind.f32 x1 x2) (FOps.bin F BinOp.mul FloatKind.f32 x11 x12)) x13) x0
def Pure.spec_l04Rate_1 (F : FOps) (x0 : Int) (x1 : Int) (x2 : Int) (_x3 : Int) (_x4 : Int) (_x5 : Int) (_x6 : Int) (_x7 : Int) (_x8 : Int) (_x9 : Int) (x10 : Int) (_x11 : Int) (x12 : Int) (_x13 : Int) (x14 : Int) (_x15 : Int) : Int := FOps.bin F BinOp.quo FloatKind.f32 (FOps.bin F BinOp.add FloatKind.f32 (FOps.bin F BinOp.mul FloatKind.f32 (FOps.bin F BinOp.sub FloatKind.f32 x2 x0) (FOps.bin F BinOp.mul FloatKind.f32 x12 x10)) x14) x1
def Pure.spec_l04Rate_2 (F : FOps) (x0 : Int) (x1 : Int) (x2 : Int) (_x3 : Int) (_x4 : Int) (_x5 : Int) (_x6 : Int) (_x7 : Int) (_x8 : Int) (_x9 : Int) (x10 : Int) (x11 : Int) (_x12 : Int) (_x13 : Int) (_x14 : Int) (x15 : Int) : Int := FOps.bin F BinOp.quo FloatKind.f32 (FOps.bin F BinOp.add FloatKind.f32 (FOps.bin F BinOp.mul FloatKind.f32 (FOps.bin F BinOp.sub FloatKind.f32 x0 x1) (FOps.bin F BinOp.mul FloatKind.f32 x10 x11)) x15) x2
def c_spec_l04Rate (F : FOps) : Con
  | [V.at (A.ptr 0 0 0), V.agg [A.fl FloatKind.f32 x10, A.fl FloatKind.f32 x11, A.fl FloatKind.f32 x12], V.agg [A.fl FloatKind.f32 x13, A.fl FloatKind.f32 x14, A.fl FloatKind.f32 x15]], [⟨false, OC.box [A.fl FloatKind.f32 x0, A.fl FloatKind.f32 x1, A.fl FloatKind.f32 x2, A.fl FloatKind.f32 x3, A.fl FloatKind.f32 x4, A.fl FloatKind.f32 x5, A.fl FloatKind.f32 x6, A.fl FloatKind.f32 x7, A.fl FloatKind.f32 x8, A.fl FloatKind.f32 x9]⟩] => some (true, ⟨V.agg [A.fl FloatKind.f32 (Pure.spec_l04Rate F x0 x1 x2 x3 x4 x5 x6 x7 x8 x9 x10 x11 x12 x13 x14 x15), A.fl FloatKind.f32 (Pure.spec_l04Rate_1 F x0 x1 x2 x3 x4 x5 x6 x7 x8 x9 x10 x11 x12 x13 x14 x15), A.fl FloatKind.f32 (Pure.spec_l04Rate_2 F x0 x1 x2 x3 x4 x5 x6 x7 x8 x9 x10 x11 x12 x13 x14 x15)], none, []⟩)
  | _, _ => none
theorem e_spec_l04Rate (F : FOps) (x0 : Int) (x1 : Int) (x2 : Int) (x3 : Int) (x4 : Int) (x5 : Int) (x6 : Int) (x7 : Int) (x8 : Int) (x9 : Int) (x10 : Int) (x11 : Int) (x12 : Int) (x13 : Int) (x14 : Int) (x15 : Int) : evFn (cxS F tyl [] [] [] 0) Try.f76 false [V.at (A.ptr 0 0 0), V.agg [A.fl FloatKind.f32 x10, A.fl FloatKind.f32 x11, A.fl FloatKind.f32 x12], V.agg [A.fl FloatKind.f32 x13, A.fl FloatKind.f32 x14, A.fl FloatKind.f32 x15]] [⟨false, OC.box [A.fl FloatKind.f32 x0, A.fl FloatKind.f32 x1, A.fl FloatKind.f32 x2, A.fl FloatKind.f32 x3, A.fl FloatKind.f32 x4, A.fl FloatKind.f32 x5, A.fl FloatKind.f32 x6, A.fl FloatKind.f32 x7, A.fl FloatKind.f32 x8, A.fl FloatKind.f32 x9]⟩] = some ⟨V.agg [A.fl FloatKind.f32 (Pure.spec_l04Rate F x0 x1 x2 x3 x4 x5 x6 x7 x8 x9 x10 x11 x12 x13 x14 x15), A.fl FloatKind.f32 (Pure.spec_l04Rate_1 F x0 x1 x2 x3 x4 x5 x6 x7 x8 x9 x10 x11 x12 x13 x14 x15), A.fl FloatKind.f32 (Pure.spec_l04Rate_2 F x0 x1 x2 x3 x4 x5 x6 x7 x8 x9 x10 x11 x12 x13 x14 x15)], none, []⟩ := by
  kernel_rfl
theorem ok_spec_l04Rate : CallOK Try.prog 76 (c_spec_l04Rate real) := by
  refine callOK_of fun args h ret hc => ?_
  unfold c_spec_l04Rate at hc
  split at hc
  · rename_i x10 x11 x12 x13 x14 x15 x0 x1 x2 x3 x4 x5 x6 x7 x8 x9
    obtain ⟨_, rfl⟩ := some_ret hc
    exact holds_ev prog_ok allOK_nil Try.func76 rfl rfl smL_nil rfl (e_spec_l04Rate real x0 x1 x2 x3 x4 x5 x6 x7 x8 x9 x10 x11 x12 x13 x14 x15)
  · cases hc
def Pure.spec_l01Scale (F : FOps) (x0 : Int) (_x1 : Int) (_x2 : Int) (x3 : Int) : Int := FOps.bin F BinOp.mul FloatKind.f32 x0 x3
def Pure.spec_l01Scale_1 (F : FOps) (_x0 : Int) (x1 : Int) (_x2 : Int) (x3 : Int) : Int := FOps.bin F BinOp.mul FloatKind.f32 x1 x3
def Pure.spec_l01Scale_2 (F : FOps) (_x0 : Int) (_x1 : Int) (x2 : Int) (x3 : Int) : Int := FOps.bin F BinOp.mul FloatKind.f32 x2 x3
def c_spec_l01Scale (F : FOps) : Con
  | [V.agg [A.fl FloatKind.f32 x0, A.fl FloatKind.f32 x1, A.fl FloatKind.f32 x2], V.at (A.fl FloatKind.f32 x3)], [] => some (true, ⟨V.agg [A.fl FloatKind.f32 (Pure.spec_l01Scale F x0 x1 x2 x3), A.fl FloatKind.f32 (Pure.spec_l01Scale_1 F x0 x1 x2 x3), A.fl FloatKind.f32 (Pure.spec_l01Scale_2 F x0 x1 x2 x3)], none, []⟩)
  | _, _ => none
theorem e_spec_l01Scale (F : FOps) (x0 : Int) (x1 : Int) (x2 : Int) (x3 : Int) : evFn (cxS F tyl [] [] [] 0) Try.f75 false [V.agg [A.fl FloatKind.f32 x0, A.fl FloatKind.f32 x1, A.fl FloatKind.f32 x2], V.at (A.fl FloatKind.f32 x3)] [] = some ⟨V.agg [A.fl FloatKind.f32 (Pure.spec_l01Scale F x0 x1 x2 x3), A.fl FloatKind.f32 (Pure.spec_l01Scale_1 F x0 x1 x2 x3), A.fl FloatKind.f32 (Pure.spec_l01Scale_2 F x0 x1 x2 x3)], none, []⟩ := by
  kernel_rfl
theorem ok_spec_l01Scale : CallOK Try.prog 75 (c_spec_l01Scale real) := by
  refine callOK_of fun args h ret hc => ?_
  unfold c_spec_l01Scale at hc
  split at hc
  · rename_i x0 x1 x2 x3
    obtain ⟨_, rfl⟩ := some_ret hc
    exact holds_ev prog_ok allOK_nil Try.func75 rfl rfl smL_nil rfl (e_spec_l01Scale real x0 x1 x2 x3)
  · cases hc
def Pure.spec_l01Add (F : FOps) (x0 : Int) (_x1 : Int) (_x2 : Int) (x3 : Int) (_x4 : Int) (_x5 : Int) : Int := FOps.bin F BinOp.add FloatKind.f32 x0 x3
def Pure.spec_l01Add_1 (F : FOps) (_x0 : Int) (x1 : Int) (_x2 : Int) (_x3 : Int) (x4 : Int) (_x5 : Int) : Int := FOps.bin F BinOp.add FloatKind.f32 x1 x4
def Pure.spec_l01Add_2 (F : FOps) (_x0 : Int) (_x1 : Int) (x2 : Int) (_x3 : Int) (_x4 : Int) (x5 : Int) : Int := FOps.bin F BinOp.add FloatKind.f32 x2 x5
def c_spec_l01Add (F : FOps) : Con
  | [V.agg [A.fl FloatKind.f32 x0, A.fl FloatKind.f32 x1, A.fl FloatKind.f32 x2], V.agg [A.fl FloatKind.f32 x3, A.fl FloatKind.f32 x4, A.fl FloatKind.f32 x5]], [] => some (true, ⟨V.agg [A.fl FloatKind.f32 (Pure.spec_l01Add F x0 x1 x2 x3 x4 x5), A.fl FloatKind.f32 (Pure.spec_l01Add_1 F x0 x1 x2 x3 x4 x5), A.fl FloatKind.f32 (Pure.spec_l01Add_2 F x0 x1 x2 x3 x4 x5)], none, []⟩)
  | _, _ => none
theorem e_spec_l01Add (F : FOps) (x0 : Int) (x1 : Int) (x2 : Int) (x3 : Int) (x4 : Int) (x5 : Int) : evFn (cxS F tyl [] [] [] 0) Try.f74 false [V.agg [A.fl FloatKind.f32 x0, A.fl FloatKind.f32 x1, A.fl FloatKind.f32 x2], V.agg [A.fl FloatKind.f32 x3, A.fl FloatKind.f32 x4, A.fl FloatKind.f32 x5]] [] = some ⟨V.agg [A.fl FloatKind.f32 (Pure.spec_l01Add F x0 x1 x2 x3 x4 x5), A.fl FloatKind.f32 (Pure.spec_l01Add_1 F x0 x1 x2 x3 x4 x5), A.fl FloatKind.f32 (Pure.spec_l01Add_2 F x0 x1 x2 x3 x4 x5)], none, []⟩ := by
  kernel_rfl
theorem ok_spec_l01Add : CallOK Try.prog 74 (c_spec_l01Add real) := by
  refine callOK_of fun args h ret hc => ?_
  unfold c_spec_l01Add at hc
  split at hc
  · rename_i x0 x1 x2 x3 x4 x5
    obtain ⟨_, rfl⟩ := some_ret hc
    exact holds_ev prog_ok allOK_nil Try.func74 rfl rfl smL_nil rfl (e_spec_l01Add real x0 x1 x2 x3 x4 x5)
  · cases hc
def Pure.spec_l04Times (F : FOps) (x0 : Int) (x1 : Int) (x2 : Int) (x3 : Int) (x4 : Int) (x5 : Int) (x6 : Int) (x7 : Int) : Int := FOps.bin F BinOp.sub FloatKind.f32 (FOps.bin F BinOp.sub FloatKind.f32 (FOps.bin F BinOp.sub FloatKind.f32 (FOps.bin F BinOp.mul FloatKind.f32 x0 x4) (FOps.bin F BinOp.mul FloatKind.f32 x1 x5)) (FOps.bin F BinOp.mul FloatKind.f32 x2 x6)) (FOps.bin F BinOp.mul FloatKind.f32 x3 x7)
def Pure.spec_l04Times_1 (F : FOps) (x0 : Int) (x1 : Int) (x2 : Int) (x3 : Int) (x4 : Int) (x5 : Int) (x6 : Int) (x7 : Int) : Int := FOps.bin F BinOp.sub FloatKind.f32 (FOps.bin F BinOp.add FloatKind.f32 (FOps.bin F BinOp.add FloatKind.f32 (FOps.bin F BinOp.mul FloatKind.f32 x0 x5) (FOps.bin F BinOp.mul FloatKind.f32 x1 x4)) (FOps.bin F BinOp.mul FloatKind.f32 x2 x7)) (FOps.bin F BinOp.mul FloatKind.f32 x3 x6)
def Pure.spec_l04Times_2 (F : FOps) (x0 : Int) (x1 : Int) (x2 : Int) (x3 : Int) (x4 : Int) (x5 : Int) (x6 : Int) (x7 : Int) : Int := FOps.bin F BinOp.add FloatKind.f32 (FOps.bin F BinOp.add FloatKind.f32 (FOps.bin F BinOp.sub FloatKind.f32 (FOps.bin F BinOp.mul FloatKind.f32 x0 x6) (FOps.bin F BinOp.mul FloatKind.f32 x1 x7)) (FOps.bin F BinOp.mul FloatKind.f32 x2 x4)) (FOps.bin F BinOp.mul FloatKind.f32 x3 x5)
def Pure.spec_l04Times_3 (F : FOps) (x0 : Int) (x1 : Int) (x2 : Int) (x3 : Int) (x4 : Int) (x5 : Int) (x6 : Int) (x7 : Int) : Int := FOps.bin F BinOp.add FloatKind.f32 (FOps.bin F BinOp.sub FloatKind.f32 (FOps.bin F BinOp.add FloatKind.f32 (FOps.bin F BinOp.mul FloatKind.f32 x0 x7) (FOps.bin F BinOp.mul FloatKind.f32 x1 x6)) (FOps.bin F BinOp.mul FloatKind.f32 x2 x5)) (FOps.bin F BinOp.mul FloatKind.f32 x3 x4)
def c_spec_l04Times (F : FOps) : Con
  | [V.agg [A.fl FloatKind.f32 x0, A.fl FloatKind.f32 x1, A.fl FloatKind.f32 x2, A.fl FloatKind.f32 x3], V.agg [A.fl FloatKind.f32 x4, A.fl FloatKind.f32 x5, A.fl FloatKind.f32 x6, A.fl FloatKind.f32 x7]], [] => some (true, ⟨V.agg [A.fl FloatKind.f32 (Pure.spec_l04Times F x0 x1 x2 x3 x4 x5 x6 x7), A.fl FloatKind.f32 (Pure.spec_l04Times_1 F x0 x1 x2 x3 x4 x5 x6 x7), A.fl FloatKind.f32 (Pure.spec_l04Times_2 F x0 x1 x2 x3 x4 x5 x6 x7), A.fl FloatKind.f32 (Pure.spec_l04Times_3 F x0 x1 x2 x3 x4 x5 x6 x7)], none, []⟩)
  | _, _ => none
theorem e_spec_l04Times (F : FOps) (x0 : Int) (x1 : Int) (x2 : Int) (x3 : Int) (x4 : Int) (x5 : Int) (x6 : Int) (x7 : Int) : evFn (cxS F tyl [] [] [] 0) Try.f77 false [V.agg [A.fl FloatKind.f32 x0, A.fl FloatKind.f32 x1, A.fl FloatKind.f32 x2, A.fl FloatKind.f32 x3], V.agg [A.fl FloatKind.f32 x4, A.fl FloatKind.f32 x5, A.fl FloatKind.f32 x6, A.fl FloatKind.f32 x7]] [] = some ⟨V.agg [A.fl FloatKind.f32 (Pure.spec_l04Times F x0 x1 x2 x3 x4 x5 x6 x7), A.fl FloatKind.f32 (Pure.spec_l04Times_1 F x0 x1 x2 x3 x4 x5 x6 x7), A.fl FloatKind.f32 (Pure.spec_l04Times_2 F x0 x1 x2 x3 x4 x5 x6 x7), A.fl FloatKind.f32 (Pure.spec_l04Times_3 F x0 x1 x2 x3 x4 x5 x6 x7)], none, []⟩ := by
  kernel_rfl
theorem ok_spec_l04Times : CallOK Try.prog 77 (c_spec_l04Times real) := by
  refine callOK_of fun args h ret hc => ?_
  unfold c_spec_l04Times at hc
  split at hc
  · rename_i x0 x1 x2 x3 x4 x5 x6 x7
    obtain ⟨_, rfl⟩ := some_ret hc
    exact holds_ev prog_ok allOK_nil Try.func77 rfl rfl smL_nil rfl (e_spec_l04Times real x0 x1 x2 x3 x4 x5 x6 x7)
  · cases hc
def c_math_sqrt (F : FOps) : Con
  | [V.at (A.fl FloatKind.f64 x)], [] => some (true, ⟨V.at (A.fl FloatKind.f64 (F.sqrt x)), none, []⟩)
  | _, _ => none
theorem ok_math_sqrt : CallOK Try.prog 90 (c_math_sqrt real) := by
  refine callOK_of fun args h ret hc => ?_
  unfold c_math_sqrt at hc
  split at hc
  · rename_i x
    obtain ⟨_, rfl⟩ := some_ret hc
    exact ext_sqrt Try.func90 rfl rfl (by kernel_rfl) (by kernel_rfl) x
  · cases hc
def c_math_Sqrt (F : FOps) : Con
  | [V.at (A.fl FloatKind.f64 x0)], [] => some (true, ⟨V.at (A.fl FloatKind.f64 (FOps.sqrt F x0)), none, []⟩)
  | _, _ => none
theorem e_math_Sqrt (F : FOps) (x0 : Int) : evFn (cxS F tyl [(90, c_math_sqrt F)] [] [] 0) Try.f66 false [V.at (A.fl FloatKind.f64 x0)] [] = some ⟨V.at (A.fl FloatKind.f64 (FOps.sqrt F x0)), none, []⟩ := by
  kernel_rfl
theorem ok_math_Sqrt : CallOK Try.prog 66 (c_math_Sqrt real) := by
  refine callOK_of fun args h ret hc => ?_
  unfold c_math_Sqrt at hc
  split at hc
  · rename_i x0
    obtain ⟨_, rfl⟩ := some_ret hc
    exact holds_ev prog_ok (allOK_cons ok_math_sqrt allOK_nil) Try.func66 rfl rfl smL_nil rfl (e_math_Sqrt real x0)
  · cases hc
def Pure.spec_l01Sqrt (F : FOps) (x0 : Int) : Int := Pure.spec_l01Narrow F (FOps.sqrt F (FOps.conv F FloatKind.f32 FloatKind.f64 x0))
def Pure.spec_l01Sqrt_ok (F : FOps) (x0 : Int) : Bool := bif FOps.convOk F FloatKind.f32 FloatKind.f64 x0 then Pure.spec_l01Narrow_ok F (FOps.sqrt F (FOps.conv F FloatKind.f32 FloatKind.f64 x0)) else false
def c_spec_l01Sqrt (F : FOps) : Con
  | [V.at (A.fl FloatKind.f32 x0)], [] => some (Pure.spec_l01Sqrt_ok F x0, ⟨V.at (A.fl FloatKind.f32 (Pure.spec_l01Sqrt F x0)), none, []⟩)
  | _, _ => none
theorem e_spec_l01Sqrt (F : FOps) (x0 : Int) : Pure.spec_l01Sqrt_ok F x0 = true → evFn (cxS F tyl [(66, c_math_Sqrt F), (101, c_spec_l01Narrow F)] [] [] 0) Try.f94 false [V.at (A.fl FloatKind.f32 x0)] [] = some ⟨V.at (A.fl FloatKind.f32 (Pure.spec_l01Sqrt F x0)), none, []⟩ := by
  have h0 : evFn (cxS F tyl [(66, c_math_Sqrt F), (101, c_spec_l01Narrow F)] [] [] 0) Try.f94 false [V.at (A.fl FloatKind.f32 x0)] [] = bif FOps.convOk F FloatKind.f32 FloatKind.f64 x0 then bif Pure.spec_l01Narrow_ok F (FOps.sqrt F (FOps.conv F FloatKind.f32 FloatKind.f64 x0)) then some ⟨V.at (A.fl FloatKind.f32 (Pure.spec_l01Narrow F (FOps.sqrt F (FOps.conv F FloatKind.f32 FloatKind.f64 x0)))), none, []⟩ else none else none := by kernel_rfl
  rw [h0]
  unfold Pure.spec_l01Sqrt Pure.spec_l01Sqrt_ok
  cases (FOps.convOk F FloatKind.f32 FloatKind.f64 x0) with
  | true =>
    cases (Pure.spec_l01Narrow_ok F (FOps.sqrt F (FOps.conv F FloatKind.f32 FloatKind.f64 x0))) with
    | true =>
      intro _; rfl
    | false =>
      intro h; exact absurd h Bool.false_ne_true
  | false =>
    intro h; exact absurd h Bool.false_ne_true
theorem ok_spec_l01Sqrt : CallOK Try.prog 94 (c_spec_l01Sqrt real) := by
  refine callOK_of fun args h ret hc => ?_
  unfold c_spec_l01Sqrt at hc
  split at hc
  · rename_i x0
    obtain ⟨hok, rfl⟩ := some_ret hc
    exact holds_ev prog_ok (allOK_cons ok_math_Sqrt (allOK_cons ok_spec_l01Narrow allOK_nil)) Try.func94 rfl rfl smL_nil rfl (e_spec_l01Sqrt real x0 hok)
  · cases hc
def Pure.spec_l04Size (F : FOps) (x0 : Int) (x1 : Int) (x2 : Int) (x3 : Int) : Int := Pure.spec_l01Sqrt F (FOps.bin F BinOp.add FloatKind.f32 (FOps.bin F BinOp.add FloatKind.f32 (FOps.bin F BinOp.add FloatKind.f32 (FOps.bin F BinOp.mul FloatKind.f32 x0 x0) (FOps.bin F BinOp.mul FloatKind.f32 x1 x1)) (FOps.bin F BinOp.mul FloatKind.f32 x2 x2)) (FOps.bin F BinOp.mul FloatKind.f32 x3 x3))
def Pure.spec_l04Size_ok (F : FOps) (x0 : Int) (x1 : Int) (x2 : Int) (x3 : Int) : Bool := Pure.spec_l01Sqrt_ok F (FOps.bin F BinOp.add FloatKind.f32 (FOps.bin F BinOp.add FloatKind.f32 (FOps.bin F BinOp.add FloatKind.f32 (FOps.bin F BinOp.mul FloatKind.f32 x0 x0) (FOps.bin F BinOp.mul FloatKind.f32 x1 x1)) (FOps.bin F BinOp.mul FloatKind.f32 x2 x2)) (FOps.bin F BinOp.mul FloatKind.f32 x3 x3))
def c_spec_l04Size (F : FOps) : Con
  | [V.agg [A.fl FloatKind.f32 x0, A.fl FloatKind.f32 x1, A.fl FloatKind.f32 x2, A.fl FloatKind.f32 x3]], [] => some (Pure.spec_l04Size_ok F x0 x1 x2 x3, ⟨V.at (A.fl FloatKind.f32 (Pure.spec_l04Size F x0 x1 x2 x3)), none, []⟩)
  | _, _ => none
theorem e_spec_l04Size (F : FOps) (x0 : Int) (x1 : Int) (x2 : Int) (x3 : Int) : Pure.spec_l04Size_ok F x0 x1 x2 x3 = true → evFn (cxS F tyl [(94, c_spec_l01Sqrt F)] [] [] 0) Try.f71 false [V.agg [A.fl FloatKind.f32 x0, A.fl FloatKind.f32 x1, A.fl FloatKind.f32 x2, A.fl FloatKind.f32 x3]] [] = some ⟨V.at (A.fl FloatKind.f32 (Pure.spec_l04Size F x0 x1 x2 x3)), none, []⟩ := by
  have h0 : evFn (cxS F tyl [(94, c_spec_l01Sqrt F)] [] [] 0) Try.f71 false [V.agg [A.fl FloatKind.f32 x0, A.fl FloatKind.f32 x1, A.fl FloatKind.f32 x2, A.fl FloatKind.f32 x3]] [] = bif Pure.spec_l01Sqrt_ok F (FOps.bin F BinOp.add FloatKind.f32 (FOps.bin F BinOp.add FloatKind.f32 (FOps.bin F BinOp.add FloatKind.f32 (FOps.bin F BinOp.mul FloatKind.f32 x0 x0) (FOps.bin F BinOp.mul FloatKind.f32 x1 x1)) (FOps.bin F BinOp.mul FloatKind.f32 x2 x2)) (FOps.bin F BinOp.mul FloatKind.f32 x3 x3)) then some ⟨V.at (A.fl FloatKind.f32 (Pure.spec_l01Sqrt F (FOps.bin F BinOp.add FloatKind.f32 (FOps.bin F BinOp.add FloatKind.f32 (FOps.bin F BinOp.add FloatKind.f32 (FOps.bin F BinOp.mul FloatKind.f32 x0 x0) (FOps.bin F BinOp.mul FloatKind.f32 x1 x1)) (FOps.bin F BinOp.mul FloatKind.f32 x2 x2)) (FOps.bin F BinOp.mul FloatKind.f32 x3 x3)))), none, []⟩ else none := by kernel_rfl
  rw [h0]
  unfold Pure.spec_l04Size Pure.spec_l04Size_ok
  cases (Pure.spec_l01Sqrt_ok F (FOps.bin F BinOp.add FloatKind.f32 (FOps.bin F BinOp.add FloatKind.f32 (FOps.bin F BinOp.add FloatKind.f32 (FOps.bin F BinOp.mul FloatKind.f32 x0 x0) (FOps.bin F BinOp.mul FloatKind.f32 x1 x1)) (FOps.bin F BinOp.mul FloatKind.f32 x2 x2)) (FOps.bin F BinOp.mul FloatKind.f32 x3 x3))) with
  | true =>
    intro _; rfl
  | false =>
    intro h; exact absurd h Bool.false_ne_true
theorem ok_spec_l04Size : CallOK Try.prog 71 (c_spec_l04Size real) := by
  refine callOK_of fun args h ret hc => ?_
  unfold c_spec_l04Size at hc
  split at hc
  · rename_i x0 x1 x2 x3
    obtain ⟨hok, rfl⟩ := some_ret hc
    exact holds_ev prog_ok (allOK_cons ok_spec_l01Sqrt allOK_nil) Try.func71 rfl rfl smL_nil rfl (e_spec_l04Size real x0 x1 x2 x3 hok)
  · cases hc
def Pure.spec_l04Norm (F : FOps) (x0 : Int) (x1 : Int) (x2 : Int) (x3 : Int) : Int := bif Pure.spec_l04Spin F x0 x1 x2 x3 then bif Pure.spec_l04Spin F (FOps.bin F BinOp.quo FloatKind.f32 x0 (Pure.spec_l04Size F x0 x1 x2 x3)) (FOps.bin F BinOp.quo FloatKind.f32 x1 (Pure.spec_l04Size F x0 x1 x2 x3)) (FOps.bin F BinOp.quo FloatKind.f32 x2 (Pure.spec_l04Size F x0 x1 x2 x3)) (FOps.bin F BinOp.quo FloatKind.f32 x3 (Pure.spec_l04Size F x0 x1 x2 x3)) then FOps.bin F BinOp.quo FloatKind.f32 x0 (Pure.spec_l04Size F x0 x1 x2 x3) else 0 else 0
def Pure.spec_l04Norm_1 (F : FOps) (x0 : Int) (x1 : Int) (x2 : Int) (x3 : Int) : Int := bif Pure.spec_l04Spin F x0 x1 x2 x3 then bif Pure.spec_l04Spin F (FOps.bin F BinOp.quo FloatKind.f32 x0 (Pure.spec_l04Size F x0 x1 x2 x3)) (FOps.bin F BinOp.quo FloatKind.f32 x1 (Pure.spec_l04Size F x0 x1 x2 x3)) (FOps.bin F BinOp.quo FloatKind.f32 x2 (Pure.spec_l04Size F x0 x1 x2 x3)) (FOps.bin F BinOp.quo FloatKind.f32 x3 (Pure.spec_l04Size F x0 x1 x2 x3)) then FOps.bin F BinOp.quo FloatKind.f32 x1 (Pure.spec_l04Size F x0 x1 x2 x3) else 0 else 0
def Pure.spec_l04Norm_2 (F : FOps) (x0 : Int) (x1 : Int) (x2 : Int) (x3 : Int) : Int := bif Pure.spec_l04Spin F x0 x1 x2 x3 then bif Pure.spec_l04Spin F (FOps.bin F BinOp.quo FloatKind.f32 x0 (Pure.spec_l04Size F x0 x1 x2 x3)) (FOps.bin F BinOp.quo FloatKind.f32 x1 (Pure.spec_l04Size F x0 x1 x2 x3)) (FOps.bin F BinOp.quo FloatKind.f32 x2 (Pure.spec_l04Size F x0 x1 x2 x3)) (FOps.bin F BinOp.quo FloatKind.f32 x3 (Pure.spec_l04Size F x0 x1 x2 x3)) then FOps.bin F BinOp.quo FloatKind.f32 x2 (Pure.spec_l04Size F x0 x1 x2 x3) else 0 else 0
def Pure.spec_l04Norm_3 (F : FOps) (x0 : Int) (x1 : Int) (x2 : Int) (x3 : Int) : Int := bif Pure.spec_l04Spin F x0 x1 x2 x3 then bif Pure.spec_l04Spin F (FOps.bin F BinOp.quo FloatKind.f32 x0 (Pure.spec_l04Size F x0 x1 x2 x3)) (FOps.bin F BinOp.quo FloatKind.f32 x1 (Pure.spec_l04Size F x0 x1 x2 x3)) (FOps.bin F BinOp.quo FloatKind.f32 x2 (Pure.spec_l04Size F x0 x1 x2 x3)) (FOps.bin F BinOp.quo FloatKind.f32 x3 (Pure.spec_l04Size F x0 x1 x2 x3)) then FOps.bin F BinOp.quo FloatKind.f32 x3 (Pure.spec_l04Size F x0 x1 x2 x3) else 0 else 0
def Pure.spec_l04Norm_4 (F : FOps) (x0 : Int) (x1 : Int) (x2 : Int) (x3 : Int) : Bool := bif Pure.spec_l04Spin F x0 x1 x2 x3 then Pure.spec_l04Spin F (FOps.bin F BinOp.quo FloatKind.f32 x0 (Pure.spec_l04Size F x0 x1 x2 x3)) (FOps.bin F BinOp.quo FloatKind.f32 x1 (Pure.spec_l04Size F x0 x1 x2 x3)) (FOps.bin F BinOp.quo FloatKind.f32 x2 (Pure.spec_l04Size F x0 x1 x2 x3)) (FOps.bin F BinOp.quo FloatKind.f32 x3 (Pure.spec_l04Size F x0 x1 x2 x3)) else false
def Pure.spec_l04Norm_ok (F : FOps) (x0 : Int) (x1 : Int) (x2 : Int) (x3 : Int) : Bool := Pure.spec_l04Size_ok F x0 x1 x2 x3
def c_spec_l04Norm (F : FOps) : Con
  | [V.agg [A.fl FloatKind.f32 x0, A.fl FloatKind.f32 x1, A.fl FloatKind.f32 x2, A.fl FloatKind.f32 x3]], [] => some (Pure.spec_l04Norm_ok F x0 x1 x2 x3, ⟨V.tup [(true, [A.fl FloatKind.f32 (Pure.spec_l04Norm F x0 x1 x2 x3), A.fl FloatKind.f32 (Pure.spec_l04Norm_1 F x0 x1 x2 x3), A.fl FloatKind.f32 (Pure.spec_l04Norm_2 F x0 x1 x2 x3), A.fl FloatKind.f32 (Pure.spec_l04Norm_3 F x0 x1 x2 x3)]), (false, [A.bool (Pure.spec_l04Norm_4 F x0 x1 x2 x3)])], none, []⟩)
  | _, _ => none
theorem e_spec_l04Norm (F : FOps) (x0 : Int) (x1 : Int) (x2 : Int) (x3 : Int) : Pure.spec_l04Norm_ok F x0 x1 x2 x3 = true → evFn (cxS F tyl [(71, c_spec_l04Size F), (37, c_spec_l04Spin_or1 F)] [] [] 0) Try.f48 false [V.agg [A.fl FloatKind.f32 x0, A.fl FloatKind.f32 x1, A.fl FloatKind.f32 x2, A.fl FloatKind.f32 x3]] [] = some ⟨V.tup [(true, [A.fl FloatKind.f32 (Pure.spec_l04Norm F x0 x1 x2 x3), A.fl FloatKind.f32 (Pure.spec_l04Norm_1 F x0 x1 x2 x3), A.fl FloatKind.f32 (Pure.spec_l04Norm_2 F x0 x1 x2 x3), A.fl FloatKind.f32 (Pure.spec_l04Norm_3 F x0 x1 x2 x3)]), (false, [A.bool (Pure.spec_l04Norm_4 F x0 x1 x2 x3)])], none, []⟩ := by
  have h0 : evFn (cxS F tyl [(71, c_spec_l04Size F), (37, c_spec_l04Spin_or1 F)] [] [] 0) Try.f48 false [V.agg [A.fl FloatKind.f32 x0, A.fl FloatKind.f32 x1, A.fl FloatKind.f32 x2, A.fl FloatKind.f32 x3]] [] = bif Pure.spec_l04Size_ok F x0 x1 x2 x3 then bif Bool.not (Pure.spec_l04Spin F x0 x1 x2 x3) then some ⟨V.tup [(true, [A.fl FloatKind.f32 0, A.fl FloatKind.f32 0, A.fl FloatKind.f32 0, A.fl FloatKind.f32 0]), (false, [A.bool false])], none, []⟩ else bif Bool.not (Pure.spec_l04Spin F (FOps.bin F BinOp.quo FloatKind.f32 x0 (Pure.spec_l04Size F x0 x1 x2 x3)) (FOps.bin F BinOp.quo FloatKind.f32 x1 (Pure.spec_l04Size F x0 x1 x2 x3)) (FOps.bin F BinOp.quo FloatKind.f32 x2 (Pure.spec_l04Size F x0 x1 x2 x3)) (FOps.bin F BinOp.quo FloatKind.f32 x3 (Pure.spec_l04Size F x0 x1 x2 x3))) then some ⟨V.tup [(true, [A.fl FloatKind.f32 0, A.fl FloatKind.f32 0, A.fl FloatKind.f32 0, A.fl FloatKind.f32 0]), (false, [A.bool false])], none, []⟩ else some ⟨V.tup [(true, [A.fl FloatKind.f32 (FOps.bin F BinOp.quo FloatKind.f32 x0 (Pure.spec_l04Size F x0 x1 x2 x3)), A.fl FloatKind.f32 (FOps.bin F BinOp.quo FloatKind.f32 x1 (Pure.spec_l04Size F x0 x1 x2 x3)), A.fl FloatKind.f32 (FOps.bin F BinOp.quo FloatKind.f32 x2 (Pure.spec_l04Size F x0 x1 x2 x3)), A.fl FloatKind.f32 (FOps.bin F BinOp.quo FloatKind.f32 x3 (Pure.spec_l04Size F x0 x1 x2 x3))]), (false, [A.bool true])], none, []⟩ else none := by kernel_rfl
  rw [h0]
  unfold Pure.spec_l04Norm Pure.spec_l04Norm_1 Pure.spec_l04Norm_2 Pure.spec_l04Norm_3 Pure.spec_l04Norm_4 Pure.spec_l04Norm_ok
  cases (Pure.spec_l04Size_ok F x0 x1 x2 x3) with
  | true =>
    cases (Pure.spec_l04Spin F x0 x1 x2 x3) with
    | true =>
      cases (Pure.spec_l04Spin F (FOps.bin F BinOp.quo FloatKind.f32 x0 (Pure.spec_l04Size F x0 x1 x2 x3)) (FOps.bin F BinOp.quo FloatKind.f32 x1 (Pure.spec_l04Size F x0 x1 x2 x3)) (FOps.bin F BinOp.quo FloatKind.f32 x2 (Pure.spec_l04Size F x0 x1 x2 x3)) (FOps.bin F BinOp.quo FloatKind.f32 x3 (Pure.spec_l04Size F x0 x1 x2 x3))) with
      | true =>
        intro _; rfl
      | false =>
        intro _; rfl
    | false =>
      intro _; rfl
  | false =>
    intro h; exact absurd h Bool.false_ne_true
theorem ok_spec_l04Norm : CallOK Try.prog 48 (c_spec_l04Norm real) := by
  refine callOK_of fun args h ret hc => ?_
  unfold c_spec_l04Norm at hc
  split at hc
  · rename_i x0 x1 x2 x3
    obtain ⟨hok, rfl⟩ := some_ret hc
    exact holds_ev prog_ok (allOK_cons ok_spec_l04Size (allOK_cons ok_spec_l04Spin_or1 allOK_nil)) Try.func48 rfl rfl smL_nil rfl (e_spec_l04Norm real x0 x1 x2 x3 hok)
  · cases hc
def Pure.s45_f51 (F : FOps) (x0 : Int) (x1 : Int) (x2 : Int) (x3 : Int) (x4 : Int) (x5 : Int) (x6 : Int) (x7 : Int) (x8 : Int) (x9 : Int) (x10 : Int) (x11 : Int) (x12 : Int) (x13 : Int) : Int := Pure.spec_l01Scale F (Pure.spec_l04Rate F x0 x1 x2 x3 x4 x5 x6 x7 x8 x9 x7 x8 x9 x10 x11 x12) (Pure.spec_l04Rate_1 F x0 x1 x2 x3 x4 x5 x6 x7 x8 x9 x7 x8 x9 x10 x11 x12) (Pure.spec_l04Rate_2 F x0 x1 x2 x3 x4 x5 x6 x7 x8 x9 x7 x8 x9 x10 x11 x12) (FOps.bin F BinOp.mul FloatKind.f32 1056964608 x13)
def Pure.s46_f51 (F : FOps) (x0 : Int) (x1 : Int) (x2 : Int) (x3 : Int) (x4 : Int) (x5 : Int) (x6 : Int) (x7 : Int) (x8 : Int) (x9 : Int) (x10 : Int) (x11 : Int) (x12 : Int) (x13 : Int) : Int := Pure.spec_l01Scale_1 F (Pure.spec_l04Rate F x0 x1 x2 x3 x4 x5 x6 x7 x8 x9 x7 x8 x9 x10 x11 x12) (Pure.spec_l04Rate_1 F x0 x1 x2 x3 x4 x5 x6 x7 x8 x9 x7 x8 x9 x10 x11 x12) (Pure.spec_l04Rate_2 F x0 x1 x2 x3 x4 x5 x6 x7 x8 x9 x7 x8 x9 x10 x11 x12) (FOps.bin F BinOp.mul FloatKind.f32 1056964608 x13)
def Pure.s47_f51 (F : FOps) (x0 : Int) (x1 : Int) (x2 : Int) (x3 : Int) (x4 : Int) (x5 : Int) (x6 : Int) (x7 : Int) (x8 : Int) (x9 : Int) (x10 : Int) (x11 : Int) (x12 : Int) (x13 : Int) : Int := Pure.spec_l01Scale_2 F (Pure.spec_l04Rate F x0 x1 x2 x3 x4 x5 x6 x7 x8 x9 x7 x8 x9 x10 x11 x12) (Pure.spec_l04Rate_1 F x0 x1 x2 x3 x4 x5 x6 x7 x8 x9 x7 x8 x9 x10 x11 x12) (Pure.spec_l04Rate_2 F x0 x1 x2 x3 x4 x5 x6 x7 x8 x9 x7 x8 x9 x10 x11 x12) (FOps.bin F BinOp.mul FloatKind.f32 1056964608 x13)
def Pure.s48_f51 (F : FOps) (x0 : Int) (x1 : Int) (x2 : Int) (x3 : Int) (x4 : Int) (x5 : Int) (x6 : Int) (x7 : Int) (x8 : Int) (x9 : Int) (x10 : Int) (x11 : Int) (x12 : Int) (x13 : Int) : Int := Pure.spec_l01Add F x7 x8 x9 (Pure.s45_f51 F x0 x1 x2 x3 x4 x5 x6 x7 x8 x9 x10 x11 x12 x13) (Pure.s46_f51 F x0 x1 x2 x3 x4 x5 x6 x7 x8 x9 x10 x11 x12 x13) (Pure.s47_f51 F x0 x1 x2 x3 x4 x5 x6 x7 x8 x9 x10 x11 x12 x13)
def Pure.s49_f51 (F : FOps) (x0 : Int) (x1 : Int) (x2 : Int) (x3 : Int) (x4 : Int) (x5 : Int) (x6 : Int) (x7 : Int) (x8 : Int) (x9 : Int) (x10 : Int) (x11 : Int) (x12 : Int) (x13 : Int) : Int := Pure.spec_l01Add_1 F x7 x8 x9 (Pure.s45_f51 F x0 x1 x2 x3 x4 x5 x6 x7 x8 x9 x10 x11 x12 x13) (Pure.s46_f51 F x0 x1 x2 x3 x4 x5 x6 x7 x8 x9 x10 x11 x12 x13) (Pure.s47_f51 F x0 x1 x2 x3 x4 x5 x6 x7 x8 x9 x10 x11 x12 x13)
def Pure.s50_f51 (F : FOps) (x0 : Int) (x1 : Int) (x2 : Int) (x3 : Int) (x4 : Int) (x5 : Int) (x6 : Int) (x7 : Int) (x8 : Int) (x9 : Int) (x10 : Int) (x11 : Int) (x12 : Int) (x13 : Int) : Int := Pure.spec_l01Add_2 F x7 x8 x9 (Pure.s45_f51 F x0 x1 x2 x3 x4 x5 x6 x7 x8 x9 x10 x11 x12 x13) (Pure.s46_f51 F x0 x1 x2 x3 x4 x5 x6 x7 x8 x9 x10 x11 x12 x13) (Pure.s47_f51 F x0 x1 x2 x3 x4 x5 x6 x7 x8 x9 x10 x11 x12 x13)
def Pure.s51_f51 (F : FOps) (x0 : Int) (x1 : Int) (x2 : Int) (x3 : Int) (x4 : Int) (x5 : Int) (x6 : Int) (x7 : Int) (x8 : Int) (x9 : Int) (x10 : Int) (x11 : Int) (x12 : Int) (x13 : Int) : Int := FOps.bin F BinOp.add FloatKind.f32 x3 (FOps.bin F BinOp.mul FloatKind.f32 (FOps.bin F BinOp.mul FloatKind.f32 1056964608 x13) (Pure.spec_l04Times F x3 x4 x5 x6 0 (Pure.s48_f51 F x0 x1 x2 x3 x4 x5 x6 x7 x8 x9 x10 x11 x12 x13) (Pure.s49_f51 F x0 x1 x2 x3 x4 x5 x6 x7 x8 x9 x10 x11 x12 x13) (Pure.s50_f51 F x0 x1 x2 x3 x4 x5 x6 x7 x8 x9 x10 x11 x12 x13)))
def Pure.s52_f51 (F : FOps) (x0 : Int) (x1 : Int) (x2 : Int) (x3 : Int) (x4 : Int) (x5 : Int) (x6 : Int) (x7 : Int) (x8 : Int) (x9 : Int) (x10 : Int) (x11 : Int) (x12 : Int) (x13 : Int) : Int := FOps.bin F BinOp.add FloatKind.f32 x4 (FOps.bin F BinOp.mul FloatKind.f32 (FOps.bin F BinOp.mul FloatKind.f32 1056964608 x13) (Pure.spec_l04Times_1 F x3 x4 x5 x6 0 (Pure.s48_f51 F x0 x1 x2 x3 x4 x5 x6 x7 x8 x9 x10 x11 x12 x13) (Pure.s49_f51 F x0 x1 x2 x3 x4 x5 x6 x7 x8 x9 x10 x11 x12 x13) (Pure.s50_f51 F x0 x1 x2 x3 x4 x5 x6 x7 x8 x9 x10 x11 x12 x13)))
def Pure.s53_f51 (F : FOps) (x0 : Int) (x1 : Int) (x2 : Int) (x3 : Int) (x4 : Int) (x5 : Int) (x6 : Int) (x7 : Int) (x8 : Int) (x9 : Int) (x10 : Int) (x11 : Int) (x12 : Int) (x13 : Int) : Int := FOps.bin F BinOp.add FloatKind.f32 x5 (FOps.bin F BinOp.mul FloatKind.f32 (FOps.bin F BinOp.mul FloatKind.f32 1056964608 x13) (Pure.spec_l04Times_2 F x3 x4 x5 x6 0 (Pure.s48_f51 F x0 x1 x2 x3 x4 x5 x6 x7 x8 x9 x10 x11 x12 x13) (Pure.s49_f51 F x0 x1 x2 x3 x4 x5 x6 x7 x8 x9 x10 x11 x12 x13) (Pure.s50_f51 F x0 x1 x2 x3 x4 x5 x6 x7 x8 x9 x10 x11 x12 x13)))
def Pure.s54_f51 (F : FOps) (x0 : Int) (x1 : Int) (x2 : Int) (x3 : Int) (x4 : Int) (x5 : Int) (x6 : Int) (x7 : Int) (x8 : Int) (x9 : Int) (x10 : Int) (x11 : Int) (x12 : Int) (x13 : Int) : Int := FOps.bin F BinOp.add FloatKind.f32 x6 (FOps.bin F BinOp.mul FloatKind.f32 (FOps.bin F BinOp.mul FloatKind.f32 1056964608 x13) (Pure.spec_l04Times_3 F x3 x4 x5 x6 0 (Pure.s48_f51 F x0 x1 x2 x3 x4 x5 x6 x7 x8 x9 x10 x11 x12 x13) (Pure.s49_f51 F x0 x1 x2 x3 x4 x5 x6 x7 x8 x9 x10 x11 x12 x13) (Pure.s50_f51 F x0 x1 x2 x3 x4 x5 x6 x7 x8 x9 x10 x11 x12 x13)))
def Pure.s55_f51 (F : FOps) (x0 : Int) (x1 : Int) (x2 : Int) (x3 : Int) (x4 : Int) (x5 : Int) (x6 : Int) (x7 : Int) (x8 : Int) (x9 : Int) (x10 : Int) (x11 : Int) (x12 : Int) (x13 : Int) : Int := Pure.spec_l04Norm F (Pure.s51_f51 F x0 x1 x2 x3 x4 x5 x6 x7 x8 x9 x10 x11 x12 x13) (Pure.s52_f51 F x0 x1 x2 x3 x4 x5 x6 x7 x8 x9 x10 x11 x12 x13) (Pure.s53_f51 F x0 x1 x2 x3 x4 x5 x6 x7 x8 x9 x10 x11 x12 x13) (Pure.s54_f51 F x0 x1 x2 x3 x4 x5 x6 x7 x8 x9 x10 x11 x12 x13)
def Pure.s56_f51 (F : FOps) (x0 : Int) (x1 : Int) (x2 : Int) (x3 : Int) (x4 : Int) (x5 : Int) (x6 : Int) (x7 : Int) (x8 : Int) (x9 : Int) (x10 : Int) (x11 : Int) (x12 : Int) (x13 : Int) : Int := Pure.spec_l04Norm_1 F (Pure.s51_f51 F x0 x1 x2 x3 x4 x5 x6 x7 x8 x9 x10 x11 x12 x13) (Pure.s52_f51 F x0 x1 x2 x3 x4 x5 x6 x7 x8 x9 x10 x11 x12 x13) (Pure.s53_f51 F x0 x1 x2 x3 x4 x5 x6 x7 x8 x9 x10 x11 x12 x13) (Pure.s54_f51 F x0 x1 x2 x3 x4 x5 x6 x7 x8 x9 x10 x11 x12 x13)
def Pure.s57_f51 (F : FOps) (x0 : Int) (x1 : Int) (x2 : Int) (x3 : Int) (x4 : Int) (x5 : Int) (x6 : Int) (x7 : Int) (x8 : Int) (x9 : Int) (x10 : Int) (x11 : Int) (x12 : Int) (x13 : Int) : Int := Pure.spec_l04Norm_2 F (Pure.s51_f51 F x0 x1 x2 x3 x4 x5 x6 x7 x8 x9 x10 x11 x12 x13) (Pure.s52_f51 F x0 x1 x2 x3 x4 x5 x6 x7 x8 x9 x10 x11 x12 x13) (Pure.s53_f51 F x0 x1 x2 x3 x4 x5 x6 x7 x8 x9 x10 x11 x12 x13) (Pure.s54_f51 F x0 x1 x2 x3 x4 x5 x6 x7 x8 x9 x10 x11 x12 x13)
def Pure.s58_f51 (F : FOps) (x0 : Int) (x1 : Int) (x2 : Int) (x3 : Int) (x4 : Int) (x5 : Int) (x6 : Int) (x7 : Int) (x8 : Int) (x9 : Int) (x10 : Int) (x11 : Int) (x12 : Int) (x13 : Int) : Int := Pure.spec_l04Norm_3 F (Pure.s51_f51 F x0 x1 x2 x3 x4 x5 x6 x7 x8 x9 x10 x11 x12 x13) (Pure.s52_f51 F x0 x1 x2 x3 x4 x5 x6 x7 x8 x9 x10 x11 x12 x13) (Pure.s53_f51 F x0 x1 x2 x3 x4 x5 x6 x7 x8 x9 x10 x11 x12 x13) (Pure.s54_f51 F x0 x1 x2 x3 x4 x5 x6 x7 x8 x9 x10 x11 x12 x13)
def Pure.s59_f51 (F : FOps) (x0 : Int) (x1 : Int) (x2 : Int) (x3 : Int) (x4 : Int) (x5 : Int) (x6 : Int) (x7 : Int) (x8 : Int) (x9 : Int) (x10 : Int) (x11 : Int) (x12 : Int) (x13 : Int) : Int := Pure.spec_l04Rate F x0 x1 x2 x3 x4 x5 x6 x7 x8 x9 (Pure.s48_f51 F x0 x1 x2 x3 x4 x5 x6 x7 x8 x9 x10 x11 x12 x13) (Pure.s49_f51 F x0 x1 x2 x3 x4 x5 x6 x7 x8 x9 x10 x11 x12 x13) (Pure.s50_f51 F x0 x1 x2 x3 x4 x5 x6 x7 x8 x9 x10 x11 x12 x13) x10 x11 x12
def Pure.s60_f51 (F : FOps) (x0 : Int) (x1 : Int) (x2 : Int) (x3 : Int) (x4 : Int) (x5 : Int) (x6 : Int) (x7 : Int) (x8 : Int) (x9 : Int) (x10 : Int) (x11 : Int) (x12 : Int) (x13 : Int) : Int := Pure.spec_l04Rate_1 F x0 x1 x2 x3 x4 x5 x6 x7 x8 x9 (Pure.s48_f51 F x0 x1 x2 x3 x4 x5 x6 x7 x8 x9 x10 x11 x12 x13) (Pure.s49_f51 F x0 x1 x2 x3 x4 x5 x6 x7 x8 x9 x10 x11 x12 x13) (Pure.s50_f51 F x0 x1 x2 x3 x4 x5 x6 x7 x8 x9 x10 x11 x12 x13) x10 x11 x12
def Pure.s61_f51 (F : FOps) (x0 : Int) (x1 : Int) (x2 : Int) (x3 : Int) (x4 : Int) (x5 : Int) (x6 : Int) (x7 : Int) (x8 : Int) (x9 : Int) (x10 : Int) (x11 : Int) (x12 : Int) (x13 : Int) : Int := Pure.spec_l04Rate_2 F x0 x1 x2 x3 x4 x5 x6 x7 x8 x9 (Pure.s48_f51 F x0 x1 x2 x3 x4 x5 x6 x7 x8 x9 x10 x11 x12 x13) (Pure.s49_f51 F x0 x1 x2 x3 x4 x5 x6 x7 x8 x9 x10 x11 x12 x13) (Pure.s50_f51 F x0 x1 x2 x3 x4 x5 x6 x7 x8 x9 x10 x11 x12 x13) x10 x11 x12
def Pure.s62_f51 (F : FOps) (x0 : Int) (x1 : Int) (x2 : Int) (x3 : Int) (x4 : Int) (x5 : Int) (x6 : Int) (x7 : Int) (x8 : Int) (x9 : Int) (x10 : Int) (x11 : Int) (x12 : Int) (x13 : Int) : Int := Pure.spec_l01Scale F (Pure.s59_f51 F x0 x1 x2 x3 x4 x5 x6 x7 x8 x9 x10 x11 x12 x13) (Pure.s60_f51 F x0 x1 x2 x3 x4 x5 x6 x7 x8 x9 x10 x11 x12 x13) (Pure.s61_f51 F x0 x1 x2 x3 x4 x5 x6 x7 x8 x9 x10 x11 x12 x13) x13
def Pure.s63_f51 (F : FOps) (x0 : Int) (x1 : Int) (x2 : Int) (x3 : Int) (x4 : Int) (x5 : Int) (x6 : Int) (x7 : Int) (x8 : Int) (x9 : Int) (x10 : Int) (x11 : Int) (x12 : Int) (x13 : Int) : Int := Pure.spec_l01Scale_1 F (Pure.s59_f51 F x0 x1 x2 x3 x4 x5 x6 x7 x8 x9 x10 x11 x12 x13) (Pure.s60_f51 F x0 x1 x2 x3 x4 x5 x6 x7 x8 x9 x10 x11 x12 x13) (Pure.s61_f51 F x0 x1 x2 x3 x4 x5 x6 x7 x8 x9 x10 x11 x12 x13) x13
def Pure.s64_f51 (F : FOps) (x0 : Int) (x1 : Int) (x2 : Int) (x3 : Int) (x4 : Int) (x5 : Int) (x6 : Int) (x7 : Int) (x8 : Int) (x9 : Int) (x10 : Int) (x11 : Int) (x12 : Int) (x13 : Int) : Int := Pure.spec_l01Scale_2 F (Pure.s59_f51 F x0 x1 x2 x3 x4 x5 x6 x7 x8 x9 x10 x11 x12 x13) (Pure.s60_f51 F x0 x1 x2 x3 x4 x5 x6 x7 x8 x9 x10 x11 x12 x13) (Pure.s61_f51 F x0 x1 x2 x3 x4 x5 x6 x7 x8 x9 x10 x11 x12 x13) x13
def Pure.s65_f51 (F : FOps) (x0 : Int) (x1 : Int) (x2 : Int) (x3 : Int) (x4 : Int) (x5 : Int) (x6 : Int) (x7 : Int) (x8 : Int) (x9 : Int) (x10 : Int) (x11 : Int) (x12 : Int) (x13 : Int) : Int := Pure.spec_l01Add F x7 x8 x9 (Pure.s62_f51 F x0 x1 x2 x3 x4 x5 x6 x7 x8 x9 x10 x11 x12 x13) (Pure.s63_f51 F x0 x1 x2 x3 x4 x5 x6 x7 x8 x9 x10 x11 x12 x13) (Pure.s64_f51 F x0 x1 x2 x3 x4 x5 x6 x7 x8 x9 x10 x11 x12 x13)
def Pure.s66_f51 (F : FOps) (x0 : Int) (x1 : Int) (x2 : Int) (x3 : Int) (x4 : Int) (x5 : Int) (x6 : Int) (x7 : Int) (x8 : Int) (x9 : Int) (x10 : Int) (x11 : Int) (x12 : Int) (x13 : Int) : Int := Pure.spec_l01Add_1 F x7 x8 x9 (Pure.s62_f51 F x0 x1 x2 x3 x4 x5 x6 x7 x8 x9 x10 x11 x12 x13) (Pure.s63_f51 F x0 x1 x2 x3 x4 x5 x6 x7 x8 x9 x10 x11 x12 x13) (Pure.s64_f51 F x0 x1 x2 x3 x4 x5 x6 x7 x8 x9 x10 x11 x12 x13)
def Pure.s67_f51 (F : FOps) (x0 : Int) (x1 : Int) (x2 : Int) (x3 : Int) (x4 : Int) (x5 : Int) (x6 : Int) (x7 : Int) (x8 : Int) (x9 : Int) (x10 : Int) (x11 : Int) (x12 : Int) (x13 : Int) : Int := Pure.spec_l01Add_2 F x7 x8 x9 (Pure.s62_f51 F x0 x1 x2 x3 x4 x5 x6 x7 x8 x9 x10 x11 x12 x13) (Pure.s63_f51 F x0 x1 x2 x3 x4 x5 x6 x7 x8 x9 x10 x11 x12 x13) (Pure.s64_f51 F x0 x1 x2 x3 x4 x5 x6 x7 x8 x9 x10 x11 x12 x13)
def Pure.spec_l04Step (F : FOps) (x0 : Int) (x1 : Int) (x2 : Int) (x3 : Int) (x4 : Int) (x5 : Int) (x6 : Int) (x7 : Int) (x8 : Int) (x9 : Int) (x10 : Int) (x11 : Int) (x12 : Int) (x13 : Int) : Bool := bif Pure.spec_l04Norm_4 F (Pure.s51_f51 F x0 x1 x2 x3 x4 x5 x6 x7 x8 x9 x10 x11 x12 x13) (Pure.s52_f51 F x0 x1 x2 x3 x4 x5 x6 x7 x8 x9 x10 x11 x12 x13) (Pure.s53_f51 F x0 x1 x2 x3 x4 x5 x6 x7 x8 x9 x10 x11 x12 x13) (Pure.s54_f51 F x0 x1 x2 x3 x4 x5 x6 x7 x8 x9 x10 x11 x12 x13) then Pure.spec_l04Is F x0 x1 x2 (Pure.s55_f51 F x0 x1 x2 x3 x4 x5 x6 x7 x8 x9 x10 x11 x12 x13) (Pure.s56_f51 F x0 x1 x2 x3 x4 x5 x6 x7 x8 x9 x10 x11 x12 x13) (Pure.s57_f51 F x0 x1 x2 x3 x4 x5 x6 x7 x8 x9 x10 x11 x12 x13) (Pure.s58_f51 F x0 x1 x2 x3 x4 x5 x6 x7 x8 x9 x10 x11 x12 x13) (Pure.s65_f51 F x0 x1 x2 x3 x4 x5 x6 x7 x8 x9 x10 x11 x12 x13) (Pure.s66_f51 F x0 x1 x2 x3 x4 x5 x6 x7 x8 x9 x10 x11 x12 x13) (Pure.s67_f51 F x0 x1 x2 x3 x4 x5 x6 x7 x8 x9 x10 x11 x12 x13) else false
def Pure.spec_l04Step_ok (F : FOps) (x0 : Int) (x1 : Int) (x2 : Int) (x3 : Int) (x4 : Int) (x5 : Int) (x6 : Int) (x7 : Int) (x8 : Int) (x9 : Int) (x10 : Int) (x11 : Int) (x12 : Int) (x13 : Int) : Bool := Pure.spec_l04Norm_ok F (Pure.s51_f51 F x0 x1 x2 x3 x4 x5 x6 x7 x8 x9 x10 x11 x12 x13) (Pure.s52_f51 F x0 x1 x2 x3 x4 x5 x6 x7 x8 x9 x10 x11 x12 x13) (Pure.s53_f51 F x0 x1 x2 x3 x4 x5 x6 x7 x8 x9 x10 x11 x12 x13) (Pure.s54_f51 F x0 x1 x2 x3 x4 x5 x6 x7 x8 x9 x10 x11 x12 x13)
def c_spec_l04Step (F : FOps) : Con
  | [V.at (A.ptr 0 0 0), V.agg [A.fl FloatKind.f32 x10, A.fl FloatKind.f32 x11, A.fl FloatKind.f32 x12], V.at (A.fl FloatKind.f32 x13)], [⟨false, OC.box [A.fl FloatKind.f32 x0, A.fl FloatKind.f32 x1, A.fl FloatKind.f32 x2, A.fl FloatKind.f32 x3, A.fl FloatKind.f32 x4, A.fl FloatKind.f32 x5, A.fl FloatKind.f32 x6, A.fl FloatKind.f32 x7, A.fl FloatKind.f32 x8, A.fl FloatKind.f32 x9]⟩] => some (Pure.spec_l04Step_ok F x0 x1 x2 x3 x4 x5 x6 x7 x8 x9 x10 x11 x12 x13, ⟨V.tup [(true, [A.fl FloatKind.f32 x0, A.fl FloatKind.f32 x1, A.fl FloatKind.f32 x2, A.fl FloatKind.f32 (Pure.s55_f51 F x0 x1 x2 x3 x4 x5 x6 x7 x8 x9 x10 x11 x12 x13), A.fl FloatKind.f32 (Pure.s56_f51 F x0 x1 x2 x3 x4 x5 x6 x7 x8 x9 x10 x11 x12 x13), A.fl FloatKind.f32 (Pure.s57_f51 F x0 x1 x2 x3 x4 x5 x6 x7 x8 x9 x10 x11 x12 x13), A.fl FloatKind.f32 (Pure.s58_f51 F x0 x1 x2 x3 x4 x5 x6 x7 x8 x9 x10 x11 x12 x13), A.fl FloatKind.f32 (Pure.s65_f51 F x0 x1 x2 x3 x4 x5 x6 x7 x8 x9 x10 x11 x12 x13), A.fl FloatKind.f32 (Pure.s66_f51 F x0 x1 x2 x3 x4 x5 x6 x7 x8 x9 x10 x11 x12 x13), A.fl FloatKind.f32 (Pure.s67_f51 F x0 x1 x2 x3 x4 x5 x6 x7 x8 x9 x10 x11 x12 x13)]), (false, [A.bool (Pure.spec_l04Step F x0 x1 x2 x3 x4 x5 x6 x7 x8 x9 x10 x11 x12 x13)])], none, []⟩)
  | _, _ => none
theorem e_spec_l04Step (F : FOps) (x0 : Int) (x1 : Int) (x2 : Int) (x3 : Int) (x4 : Int) (x5 : Int) (x6 : Int) (x7 : Int) (x8 : Int) (x9 : Int) (x10 : Int) (x11 : Int) (x12 : Int) (x13 : Int) : Pure.spec_l04Step_ok F x0 x1 x2 x3 x4 x5 x6 x7 x8 x9 x10 x11 x12 x13 = true → evFn (cxS F tyl [(76, c_spec_l04Rate F), (75, c_spec_l01Scale F), (74, c_spec_l01Add F), (77, c_spec_l04Times F), (48, c_spec_l04Norm F), (72, c_spec_l04Is F)] [] [] 0) Try.f51 false [V.at (A.ptr 0 0 0), V.agg [A.fl FloatKind.f32 x10, A.fl FloatKind.f32 x11, A.fl FloatKind.f32 x12], V.at (A.fl FloatKind.f32 x13)] [⟨false, OC.box [A.fl FloatKind.f32 x0, A.fl FloatKind.f32 x1, A.fl FloatKind.f32 x2, A.fl FloatKind.f32 x3, A.fl FloatKind.f32 x4, A.fl FloatKind.f32 x5, A.fl FloatKind.f32 x6, A.fl FloatKind.f32 x7, A.fl FloatKind.f32 x8, A.fl FloatKind.f32 x9]⟩] = some ⟨V.tup [(true, [A.fl FloatKind.f32 x0, A.fl FloatKind.f32 x1, A.fl FloatKind.f32 x2, A.fl FloatKind.f32 (Pure.s55_f51 F x0 x1 x2 x3 x4 x5 x6 x7 x8 x9 x10 x11 x12 x13), A.fl FloatKind.f32 (Pure.s56_f51 F x0 x1 x2 x3 x4 x5 x6 x7 x8 x9 x10 x11 x12 x13), A.fl FloatKind.f32 (Pure.s57_f51 F x0 x1 x2 x3 x4 x5 x6 x7 x8 x9 x10 x11 x12 x13), A.fl FloatKind.f32 (Pure.s58_f51 F x0 x1 x2 x3 x4 x5 x6 x7 x8 x9 x10 x11 x12 x13), A.fl FloatKind.f32 (Pure.s65_f51 F x0 x1 x2 x3 x4 x5 x6 x7 x8 x9 x10 x11 x12 x13), A.fl FloatKind.f32 (Pure.s66_f51 F x0 x1 x2 x3 x4 x5 x6 x7 x8 x9 x10 x11 x12 x13), A.fl FloatKind.f32 (Pure.s67_f51 F x0 x1 x2 x3 x4 x5 x6 x7 x8 x9 x10 x11 x12 x13)]), (false, [A.bool (Pure.spec_l04Step F x0 x1 x2 x3 x4 x5 x6 x7 x8 x9 x10 x11 x12 x13)])], none, []⟩ := by
  have h0 : evFn (cxS F tyl [(76, c_spec_l04Rate F), (75, c_spec_l01Scale F), (74, c_spec_l01Add F), (77, c_spec_l04Times F), (48, c_spec_l04Norm F), (72, c_spec_l04Is F)] [] [] 0) Try.f51 false [V.at (A.ptr 0 0 0), V.agg [A.fl FloatKind.f32 x10, A.fl FloatKind.f32 x11, A.fl FloatKind.f32 x12], V.at (A.fl FloatKind.f32 x13)] [⟨false, OC.box [A.fl FloatKind.f32 x0, A.fl FloatKind.f32 x1, A.fl FloatKind.f32 x2, A.fl FloatKind.f32 x3, A.fl FloatKind.f32 x4, A.fl FloatKind.f32 x5, A.fl FloatKind.f32 x6, A.fl FloatKind.f32 x7, A.fl FloatKind.f32 x8, A.fl FloatKind.f32 x9]⟩] = bif Pure.spec_l04Norm_ok F (Pure.s51_f51 F x0 x1 x2 x3 x4 x5 x6 x7 x8 x9 x10 x11 x12 x13) (Pure.s52_f51 F x0 x1 x2 x3 x4 x5 x6 x7 x8 x9 x10 x11 x12 x13) (Pure.s53_f51 F x0 x1 x2 x3 x4 x5 x6 x7 x8 x9 x10 x11 x12 x13) (Pure.s54_f51 F x0 x1 x2 x3 x4 x5 x6 x7 x8 x9 x10 x11 x12 x13) then bif Pure.spec_l04Norm_4 F (Pure.s51_f51 F x0 x1 x2 x3 x4 x5 x6 x7 x8 x9 x10 x11 x12 x13) (Pure.s52_f51 F x0 x1 x2 x3 x4 x5 x6 x7 x8 x9 x10 x11 x12 x13) (Pure.s53_f51 F x0 x1 x2 x3 x4 x5 x6 x7 x8 x9 x10 x11 x12 x13) (Pure.s54_f51 F x0 x1 x2 x3 x4 x5 x6 x7 x8 x9 x10 x11 x12 x13) then some ⟨V.tup [(true, [A.fl FloatKind.f32 x0, A.fl FloatKind.f32 x1, A.fl FloatKind.f32 x2, A.fl FloatKind.f32 (Pure.s55_f51 F x0 x1 x2 x3 x4 x5 x6 x7 x8 x9 x10 x11 x12 x13), A.fl FloatKind.f32 (Pure.s56_f51 F x0 x1 x2 x3 x4 x5 x6 x7 x8 x9 x10 x11 x12 x13), A.fl FloatKind.f32 (Pure.s57_f51 F x0 x1 x2 x3 x4 x5 x6 x7 x8 x9 x10 x11 x12 x13), A.fl FloatKind.f32 (Pure.s58_f51 F x0 x1 x2 x3 x4 x5 x6 x7 x8 x9 x10 x11 x12 x13), A.fl FloatKind.f32 (Pure.s65_f51 F x0 x1 x2 x3 x4 x5 x6 x7 x8 x9 x10 x11 x12 x13), A.fl FloatKind.f32 (Pure.s66_f51 F x0 x1 x2 x3 x4 x5 x6 x7 x8 x9 x10 x11 x12 x13), A.fl FloatKind.f32 (Pure.s67_f51 F x0 x1 x2 x3 x4 x5 x6 x7 x8 x9 x10 x11 x12 x13)]), (false, [A.bool (Pure.spec_l04Is F x0 x1 x2 (Pure.s55_f51 F x0 x1 x2 x3 x4 x5 x6 x7 x8 x9 x10 x11 x12 x13) (Pure.s56_f51 F x0 x1 x2 x3 x4 x5 x6 x7 x8 x9 x10 x11 x12 x13) (Pure.s57_f51 F x0 x1 x2 x3 x4 x5 x6 x7 x8 x9 x10 x11 x12 x13) (Pure.s58_f51 F x0 x1 x2 x3 x4 x5 x6 x7 x8 x9 x10 x11 x12 x13) (Pure.s65_f51 F x0 x1 x2 x3 x4 x5 x6 x7 x8 x9 x10 x11 x12 x13) (Pure.s66_f51 F x0 x1 x2 x3 x4 x5 x6 x7 x8 x9 x10 x11 x12 x13) (Pure.s67_f51 F x0 x1 x2 x3 x4 x5 x6 x7 x8 x9 x10 x11 x12 x13))])], none, []⟩ else some ⟨V.tup [(true, [A.fl FloatKind.f32 x0, A.fl FloatKind.f32 x1, A.fl FloatKind.f32 x2, A.fl FloatKind.f32 (Pure.s55_f51 F x0 x1 x2 x3 x4 x5 x6 x7 x8 x9 x10 x11 x12 x13), A.fl FloatKind.f32 (Pure.s56_f51 F x0 x1 x2 x3 x4 x5 x6 x7 x8 x9 x10 x11 x12 x13), A.fl FloatKind.f32 (Pure.s57_f51 F x0 x1 x2 x3 x4 x5 x6 x7 x8 x9 x10 x11 x12 x13), A.fl FloatKind.f32 (Pure.s58_f51 F x0 x1 x2 x3 x4 x5 x6 x7 x8 x9 x10 x11 x12 x13), A.fl FloatKind.f32 (Pure.s65_f51 F x0 x1 x2 x3 x4 x5 x6 x7 x8 x9 x10 x11 x12 x13), A.fl FloatKind.f32 (Pure.s66_f51 F x0 x1 x2 x3 x4 x5 x6 x7 x8 x9 x10 x11 x12 x13), A.fl FloatKind.f32 (Pure.s67_f51 F x0 x1 x2 x3 x4 x5 x6 x7 x8 x9 x10 x11 x12 x13)]), (false, [A.bool false])], none, []⟩ else none := by kernel_rfl
  rw [h0]
  unfold Pure.spec_l04Step Pure.spec_l04Step_ok
  cases (Pure.spec_l04Norm_ok F (Pure.s51_f51 F x0 x1 x2 x3 x4 x5 x6 x7 x8 x9 x10 x11 x12 x13) (Pure.s52_f51 F x0 x1 x2 x3 x4 x5 x6 x7 x8 x9 x10 x11 x12 x13) (Pure.s53_f51 F x0 x1 x2 x3 x4 x5 x6 x7 x8 x9 x10 x11 x12 x13) (Pure.s54_f51 F x0 x1 x2 x3 x4 x5 x6 x7 x8 x9 x10 x11 x12 x13)) with
  | true =>
    cases (Pure.spec_l04Norm_4 F (Pure.s51_f51 F x0 x1 x2 x3 x4 x5 x6 x7 x8 x9 x10 x11 x12 x13) (Pure.s52_f51 F x0 x1 x2 x3 x4 x5 x6 x7 x8 x9 x10 x11 x12 x13) (Pure.s53_f51 F x0 x1 x2 x3 x4 x5 x6 x7 x8 x9 x10 x11 x12 x13) (Pure.s54_f51 F x0 x1 x2 x3 x4 x5 x6 x7 x8 x9 x10 x11 x12 x13)) with
    | true =>
      intro _; rfl
    | false =>
      intro _; rfl
  | false =>
    intro h; exact absurd h Bool.false_ne_true
theorem ok_spec_l04Step : CallOK Try.prog 51 (c_spec_l04Step real) := by
  refine callOK_of fun args h ret hc => ?_
  unfold c_spec_l04Step at hc
  split at hc
  · rename_i x10 x11 x12 x13 x0 x1 x2 x3 x4 x5 x6 x7 x8 x9
    obtain ⟨hok, rfl⟩ := some_ret hc
    exact holds_ev prog_ok (allOK_cons ok_spec_l04Rate (allOK_cons ok_spec_l01Scale (allOK_cons ok_spec_l01Add (allOK_cons ok_spec_l04Times (allOK_cons ok_spec_l04Norm (allOK_cons ok_spec_l04Is allOK_nil)))))) Try.func51 rfl rfl smL_nil rfl (e_spec_l04Step real x0 x1 x2 x3 x4 x5 x6 x7 x8 x9 x10 x11 x12 x13 hok)
  · cases hc
def Pure.spec_StepTop (F : FOps) (x0 : Int) (x1 : Int) (x2 : Int) (x3 : Int) (x4 : Int) (x5 : Int) (x6 : Int) (x7 : Int) (x8 : Int) (x9 : Int) (x10 : Int) (x11 : Int) (x12 : Int) (x13 : Int) : Int := bif Pure.spec_l04Can F x0 x1 x2 x3 x4 x5 x6 x7 x8 x9 x10 x11 x12 x13 then bif Pure.spec_l04Step F x0 x1 x2 x3 x4 x5 x6 x7 x8 x9 x10 x11 x12 x13 then x0 else 0 else 0
def Pure.spec_StepTop_1 (F : FOps) (x0 : Int) (x1 : Int) (x2 : Int) (x3 : Int) (x4 : Int) (x5 : Int) (x6 : Int) (x7 : Int) (x8 : Int) (x9 : Int) (x10 : Int) (x11 : Int) (x12 : Int) (x13 : Int) : Int := bif Pure.spec_l04Can F x0 x1 x2 x3 x4 x5 x6 x7 x8 x9 x10 x11 x12 x13 then bif Pure.spec_l04Step F x0 x1 x2 x3 x4 x5 x6 x7 x8 x9 x10 x11 x12 x13 then x1 else 0 else 0
def Pure.spec_StepTop_2 (F : FOps) (x0 : Int) (x1 : Int) (x2 : Int) (x3 : Int) (x4 : Int) (x5 : Int) (x6 : Int) (x7 : Int) (x8 : Int) (x9 : Int) (x10 : Int) (x11 : Int) (x12 : Int) (x13 : Int) : Int := bif Pure.spec_l04Can F x0 x1 x2 x3 x4 x5 x6 x7 x8 x9 x10 x11 x12 x13 then bif Pure.spec_l04Step F x0 x1 x2 x3 x4 x5 x6 x7 x8 x9 x10 x11 x12 x13 then x2 else 0 else 0
def Pure.spec_StepTop_3 (F : FOps) (x0 : Int) (x1 : Int) (x2 : Int) (x3 : Int) (x4 : Int) (x5 : Int) (x6 : Int) (x7 : Int) (x8 : Int) (x9 : Int) (x10 : Int) (x11 : Int) (x12 : Int) (x13 : Int) : Int := bif Pure.spec_l04Can F x0 x1 x2 x3 x4 x5 x6 x7 x8 x9 x10 x11 x12 x13 then bif Pure.spec_l04Step F x0 x1 x2 x3 x4 x5 x6 x7 x8 x9 x10 x11 x12 x13 then Pure.s55_f51 F x0 x1 x2 x3 x4 x5 x6 x7 x8 x9 x10 x11 x12 x13 else 0 else 0
def Pure.spec_StepTop_4 (F : FOps) (x0 : Int) (x1 : Int) (x2 : Int) (x3 : Int) (x4 : Int) (x5 : Int) (x6 : Int) (x7 : Int) (x8 : Int) (x9 : Int) (x10 : Int) (x11 : Int) (x12 : Int) (x13 : Int) : Int := bif Pure.spec_l04Can F x0 x1 x2 x3 x4 x5 x6 x7 x8 x9 x10 x11 x12 x13 then bif Pure.spec_l04Step F x0 x1 x2 x3 x4 x5 x6 x7 x8 x9 x10 x11 x12 x13 then Pure.s56_f51 F x0 x1 x2 x3 x4 x5 x6 x7 x8 x9 x10 x11 x12 x13 else 0 else 0
def Pure.spec_StepTop_5 (F : FOps) (x0 : Int) (x1 : Int) (x2 : Int) (x3 : Int) (x4 : Int) (x5 : Int) (x6 : Int) (x7 : Int) (x8 : Int) (x9 : Int) (x10 : Int) (x11 : Int) (x12 : Int) (x13 : Int) : Int := bif Pure.spec_l04Can F x0 x1 x2 x3 x4 x5 x6 x7 x8 x9 x10 x11 x12 x13 then bif Pure.spec_l04Step F x0 x1 x2 x3 x4 x5 x6 x7 x8 x9 x10 x11 x12 x13 then Pure.s57_f51 F x0 x1 x2 x3 x4 x5 x6 x7 x8 x9 x10 x11 x12 x13 else 0 else 0
def Pure.spec_StepTop_6 (F : FOps) (x0 : Int) (x1 : Int) (x2 : Int) (x3 : Int) (x4 : Int) (x5 : Int) (x6 : Int) (x7 : Int) (x8 : Int) (x9 : Int) (x10 : Int) (x11 : Int) (x12 : Int) (x13 : Int) : Int := bif Pure.spec_l04Can F x0 x1 x2 x3 x4 x5 x6 x7 x8 x9 x10 x11 x12 x13 then bif Pure.spec_l04Step F x0 x1 x2 x3 x4 x5 x6 x7 x8 x9 x10 x11 x12 x13 then Pure.s58_f51 F x0 x1 x2 x3 x4 x5 x6 x7 x8 x9 x10 x11 x12 x13 else 0 else 0
def Pure.spec_StepTop_7 (F : FOps) (x0 : Int) (x1 : Int) (x2 : Int) (x3 : Int) (x4 : Int) (x5 : Int) (x6 : Int) (x7 : Int) (x8 : Int) (x9 : Int) (x10 : Int) (x11 : Int) (x12 : Int) (x13 : Int) : Int := bif Pure.spec_l04Can F x0 x1 x2 x3 x4 x5 x6 x7 x8 x9 x10 x11 x12 x13 then bif Pure.spec_l04Step F x0 x1 x2 x3 x4 x5 x6 x7 x8 x9 x10 x11 x12 x13 then Pure.s65_f51 F x0 x1 x2 x3 x4 x5 x6 x7 x8 x9 x10 x11 x12 x13 else 0 else 0
def Pure.spec_StepTop_8 (F : FOps) (x0 : Int) (x1 : Int) (x2 : Int) (x3 : Int) (x4 : Int) (x5 : Int) (x6 : Int) (x7 : Int) (x8 : Int) (x9 : Int) (x10 : Int) (x11 : Int) (x12 : Int) (x13 : Int) : Int := bif Pure.spec_l04Can F x0 x1 x2 x3 x4 x5 x6 x7 x8 x9 x10 x11 x12 x13 then bif Pure.spec_l04Step F x0 x1 x2 x3 x4 x5 x6 x7 x8 x9 x10 x11 x12 x13 then Pure.s66_f51 F x0 x1 x2 x3 x4 x5 x6 x7 x8 x9 x10 x11 x12 x13 else 0 else 0
def Pure.spec_StepTop_9 (F : FOps) (x0 : Int) (x1 : Int) (x2 : Int) (x3 : Int) (x4 : Int) (x5 : Int) (x6 : Int) (x7 : Int) (x8 : Int) (x9 : Int) (x10 : Int) (x11 : Int) (x12 : Int) (x13 : Int) : Int := bif Pure.spec_l04Can F x0 x1 x2 x3 x4 x5 x6 x7 x8 x9 x10 x11 x12 x13 then bif Pure.spec_l04Step F x0 x1 x2 x3 x4 x5 x6 x7 x8 x9 x10 x11 x12 x13 then Pure.s67_f51 F x0 x1 x2 x3 x4 x5 x6 x7 x8 x9 x10 x11 x12 x13 else 0 else 0
def Pure.spec_StepTop_10 (F : FOps) (x0 : Int) (x1 : Int) (x2 : Int) (x3 : Int) (x4 : Int) (x5 : Int) (x6 : Int) (x7 : Int) (x8 : Int) (x9 : Int) (x10 : Int) (x11 : Int) (x12 : Int) (x13 : Int) : Bool := bif Pure.spec_l04Can F x0 x1 x2 x3 x4 x5 x6 x7 x8 x9 x10 x11 x12 x13 then Pure.spec_l04Step F x0 x1 x2 x3 x4 x5 x6 x7 x8 x9 x10 x11 x12 x13 else false
def Pure.spec_StepTop_ok (F : FOps) (x0 : Int) (x1 : Int) (x2 : Int) (x3 : Int) (x4 : Int) (x5 : Int) (x6 : Int) (x7 : Int) (x8 : Int) (x9 : Int) (x10 : Int) (x11 : Int) (x12 : Int) (x13 : Int) : Bool := bif Pure.spec_l04Can F x0 x1 x2 x3 x4 x5 x6 x7 x8 x9 x10 x11 x12 x13 then Pure.spec_l04Step_ok F x0 x1 x2 x3 x4 x5 x6 x7 x8 x9 x10 x11 x12 x13 else true
def c_spec_StepTop (F : FOps) : Con
  | [V.agg [A.fl FloatKind.f32 x0, A.fl FloatKind.f32 x1, A.fl FloatKind.f32 x2, A.fl FloatKind.f32 x3, A.fl FloatKind.f32 x4, A.fl FloatKind.f32 x5, A.fl FloatKind.f32 x6, A.fl FloatKind.f32 x7, A.fl FloatKind.f32 x8, A.fl FloatKind.f32 x9], V.agg [A.fl FloatKind.f32 x10, A.fl FloatKind.f32 x11, A.fl FloatKind.f32 x12], V.at (A.fl FloatKind.f32 x13)], [] => some (Pure.spec_StepTop_ok F x0 x1 x2 x3 x4 x5 x6 x7 x8 x9 x10 x11 x12 x13, ⟨V.tup [(true, [A.fl FloatKind.f32 (Pure.spec_StepTop F x0 x1 x2 x3 x4 x5 x6 x7 x8 x9 x10 x11 x12 x13), A.fl FloatKind.f32 (Pure.spec_StepTop_1 F x0 x1 x2 x3 x4 x5 x6 x7 x8 x9 x10 x11 x12 x13), A.fl FloatKind.f32 (Pure.spec_StepTop_2 F x0 x1 x2 x3 x4 x5 x6 x7 x8 x9 x10 x11 x12 x13), A.fl FloatKind.f32 (Pure.spec_StepTop_3 F x0 x1 x2 x3 x4 x5 x6 x7 x8 x9 x10 x11 x12 x13), A.fl FloatKind.f32 (Pure.spec_StepTop_4 F x0 x1 x2 x3 x4 x5 x6 x7 x8 x9 x10 x11 x12 x13), A.fl FloatKind.f32 (Pure.spec_StepTop_5 F x0 x1 x2 x3 x4 x5 x6 x7 x8 x9 x10 x11 x12 x13), A.fl FloatKind.f32 (Pure.spec_StepTop_6 F x0 x1 x2 x3 x4 x5 x6 x7 x8 x9 x10 x11 x12 x13), A.fl FloatKind.f32 (Pure.spec_StepTop_7 F x0 x1 x2 x3 x4 x5 x6 x7 x8 x9 x10 x11 x12 x13), A.fl FloatKind.f32 (Pure.spec_StepTop_8 F x0 x1 x2 x3 x4 x5 x6 x7 x8 x9 x10 x11 x12 x13), A.fl FloatKind.f32 (Pure.spec_StepTop_9 F x0 x1 x2 x3 x4 x5 x6 x7 x8 x9 x10 x11 x12 x13)]), (false, [A.bool (Pure.spec_StepTop_10 F x0 x1 x2 x3 x4 x5 x6 x7 x8 x9 x10 x11 x12 x13)])], none, []⟩)
  | _, _ => none
theorem e_spec_StepTop (F : FOps) (x0 : Int) (x1 : Int) (x2 : Int) (x3 : Int) (x4 : Int) (x5 : Int) (x6 : Int) (x7 : Int) (x8 : Int) (x9 : Int) (x10 : Int) (x11 : Int) (x12 : Int) (x13 : Int) : Pure.spec_StepTop_ok F x0 x1 x2 x3 x4 x5 x6 x7 x8 x9 x10 x11 x12 x13 = true → evFn (cxS F tyl [(50, c_spec_l04Can F), (51, c_spec_l04Step F)] [] [] 0) Try.f21 false [V.agg [A.fl FloatKind.f32 x0, A.fl FloatKind.f32 x1, A.fl FloatKind.f32 x2, A.fl FloatKind.f32 x3, A.fl FloatKind.f32 x4, A.fl FloatKind.f32 x5, A.fl FloatKind.f32 x6, A.fl FloatKind.f32 x7, A.fl FloatKind.f32 x8, A.fl FloatKind.f32 x9], V.agg [A.fl FloatKind.f32 x10, A.fl FloatKind.f32 x11, A.fl FloatKind.f32 x12], V.at (A.fl FloatKind.f32 x13)] [] = some ⟨V.tup [(true, [A.fl FloatKind.f32 (Pure.spec_StepTop F x0 x1 x2 x3 x4 x5 x6 x7 x8 x9 x10 x11 x12 x13), A.fl FloatKind.f32 (Pure.spec_StepTop_1 F x0 x1 x2 x3 x4 x5 x6 x7 x8 x9 x10 x11 x12 x13), A.fl FloatKind.f32 (Pure.spec_StepTop_2 F x0 x1 x2 x3 x4 x5 x6 x7 x8 x9 x10 x11 x12 x13), A.fl FloatKind.f32 (Pure.spec_StepTop_3 F x0 x1 x2 x3 x4 x5 x6 x7 x8 x9 x10 x11 x12 x13), A.fl FloatKind.f32 (Pure.spec_StepTop_4 F x0 x1 x2 x3 x4 x5 x6 x7 x8 x9 x10 x11 x12 x13), A.fl FloatKind.f32 (Pure.spec_StepTop_5 F x0 x1 x2 x3 x4 x5 x6 x7 x8 x9 x10 x11 x12 x13), A.fl FloatKind.f32 (Pure.spec_StepTop_6 F x0 x1 x2 x3 x4 x5 x6 x7 x8 x9 x10 x11 x12 x13), A.fl FloatKind.f32 (Pure.spec_StepTop_7 F x0 x1 x2 x3 x4 x5 x6 x7 x8 x9 x10 x11 x12 x13), A.fl FloatKind.f32 (Pure.spec_StepTop_8 F x0 x1 x2 x3 x4 x5 x6 x7 x8 x9 x10 x11 x12 x13), A.fl FloatKind.f32 (Pure.spec_StepTop_9 F x0 x1 x2 x3 x4 x5 x6 x7 x8 x9 x10 x11 x12 x13)]), (false, [A.bool (Pure.spec_StepTop_10 F x0 x1 x2 x3 x4 x5 x6 x7 x8 x9 x10 x11 x12 x13)])], none, []⟩ := by
  have h0 : evFn (cxS F tyl [(50, c_spec_l04Can F), (51, c_spec_l04Step F)] [] [] 0) Try.f21 false [V.agg [A.fl FloatKind.f32 x0, A.fl FloatKind.f32 x1, A.fl FloatKind.f32 x2, A.fl FloatKind.f32 x3, A.fl FloatKind.f32 x4, A.fl FloatKind.f32 x5, A.fl FloatKind.f32 x6, A.fl FloatKind.f32 x7, A.fl FloatKind.f32 x8, A.fl FloatKind.f32 x9], V.agg [A.fl FloatKind.f32 x10, A.fl FloatKind.f32 x11, A.fl FloatKind.f32 x12], V.at (A.fl FloatKind.f32 x13)] [] = bif Bool.not (Pure.spec_l04Can F x0 x1 x2 x3 x4 x5 x6 x7 x8 x9 x10 x11 x12 x13) then some ⟨V.tup [(true, [A.fl FloatKind.f32 0, A.fl FloatKind.f32 0, A.fl FloatKind.f32 0, A.fl FloatKind.f32 0, A.fl FloatKind.f32 0, A.fl FloatKind.f32 0, A.fl FloatKind.f32 0, A.fl FloatKind.f32 0, A.fl FloatKind.f32 0, A.fl FloatKind.f32 0]), (false, [A.bool false])], none, []⟩ else bif Pure.spec_l04Step_ok F x0 x1 x2 x3 x4 x5 x6 x7 x8 x9 x10 x11 x12 x13 then bif Bool.not (Pure.spec_l04Step F x0 x1 x2 x3 x4 x5 x6 x7 x8 x9 x10 x11 x12 x13) then some ⟨V.tup [(true, [A.fl FloatKind.f32 0, A.fl FloatKind.f32 0, A.fl FloatKind.f32 0, A.fl FloatKind.f32 0, A.fl FloatKind.f32 0, A.fl FloatKind.f32 0, A.fl FloatKind.f32 0, A.fl FloatKind.f32 0, A.fl FloatKind.f32 0, A.fl FloatKind.f32 0]), (false, [A.bool false])], none, []⟩ else some ⟨V.tup [(true, [A.fl FloatKind.f32 x0, A.fl FloatKind.f32 x1, A.fl FloatKind.f32 x2, A.fl FloatKind.f32 (Pure.s55_f51 F x0 x1 x2 x3 x4 x5 x6 x7 x8 x9 x10 x11 x12 x13), A.fl FloatKind.f32 (Pure.s56_f51 F x0 x1 x2 x3 x4 x5 x6 x7 x8 x9 x10 x11 x12 x13), A.fl FloatKind.f32 (Pure.s57_f51 F x0 x1 x2 x3 x4 x5 x6 x7 x8 x9 x10 x11 x12 x13), A.fl FloatKind.f32 (Pure.s58_f51 F x0 x1 x2 x3 x4 x5 x6 x7 x8 x9 x10 x11 x12 x13), A.fl FloatKind.f32 (Pure.s65_f51 F x0 x1 x2 x3 x4 x5 x6 x7 x8 x9 x10 x11 x12 x13), A.fl FloatKind.f32 (Pure.s66_f51 F x0 x1 x2 x3 x4 x5 x6 x7 x8 x9 x10 x11 x12 x13), A.fl FloatKind.f32 (Pure.s67_f51 F x0 x1 x2 x3 x4 x5 x6 x7 x8 x9 x10 x11 x12 x13)]), (false, [A.bool true])], none, []⟩ else none := by kernel_rfl
  rw [h0]
  unfold Pure.spec_StepTop Pure.spec_StepTop_1 Pure.spec_StepTop_2 Pure.spec_StepTop_3 Pure.spec_StepTop_4 Pure.spec_StepTop_5 Pure.spec_StepTop_6 Pure.spec_StepTop_7 Pure.spec_StepTop_8 Pure.spec_StepTop_9 Pure.spec_StepTop_10 Pure.spec_StepTop_ok
  cases (Pure.spec_l04Can F x0 x1 x2 x3 x4 x5 x6 x7 x8 x9 x10 x11 x12 x13) with
  | true =>
    cases (Pure.spec_l04Step_ok F x0 x1 x2 x3 x4 x5 x6 x7 x8 x9 x10 x11 x12 x13) with
    | true =>
      cases (Pure.spec_l04Step F x0 x1 x2 x3 x4 x5 x6 x7 x8 x9 x10 x11 x12 x13) with
      | true =>
        intro _; rfl
      | false =>
        intro _; rfl
    | false =>
      intro h; exact absurd h Bool.false_ne_true
  | false =>
    intro _; rfl
theorem ok_spec_StepTop : CallOK Try.prog 21 (c_spec_StepTop real) := by
  refine callOK_of fun args h ret hc => ?_
  unfold c_spec_StepTop at hc
  split at hc
  · rename_i x0 x1 x2 x3 x4 x5 x6 x7 x8 x9 x10 x11 x12 x13
    obtain ⟨hok, rfl⟩ := some_ret hc
    exact holds_ev prog_ok (allOK_cons ok_spec_l04Can (allOK_cons ok_spec_l04Step allOK_nil)) Try.func21 rfl rfl smL_nil rfl (e_spec_StepTop real x0 x1 x2 x3 x4 x5 x6 x7 x8 x9 x10 x11 x12 x13 hok)
  · cases hc
def Pure.impl_lengthOk (F : FOps) (x0 : Int) : Bool := bif Pure.impl_IsFinite F x0 then FOps.cmp F BinOp.gtr FloatKind.f32 x0 0 else false
def c_impl_lengthOk (F : FOps) : Con
  | [V.at (A.fl FloatKind.f32 x0)], [] => some (true, ⟨V.at (A.bool (Pure.impl_lengthOk F x0)), none, []⟩)
  | _, _ => none
theorem e_impl_lengthOk (F : FOps) (x0 : Int) : evFn (cxS F tyl [(42, c_impl_IsFinite F)] [] [] 0) Try.f78 false [V.at (A.fl FloatKind.f32 x0)] [] = some ⟨V.at (A.bool (Pure.impl_lengthOk F x0)), none, []⟩ := by
  have h0 : evFn (cxS F tyl [(42, c_impl_IsFinite F)] [] [] 0) Try.f78 false [V.at (A.fl FloatKind.f32 x0)] [] = bif Pure.impl_IsFinite F x0 then some ⟨V.at (A.bool (FOps.cmp F BinOp.gtr FloatKind.f32 x0 0)), none, []⟩ else some ⟨V.at (A.bool false), none, []⟩ := by kernel_rfl
  rw [h0]
  unfold Pure.impl_lengthOk
  cases (Pure.impl_IsFinite F x0) with
  | true =>
    rfl
  | false =>
    rfl
theorem ok_impl_lengthOk : CallOK Try.prog 78 (c_impl_lengthOk real) := by
  refine callOK_of fun args h ret hc => ?_
  unfold c_impl_lengthOk at hc
  split at hc
  · rename_i x0
    obtain ⟨_, rfl⟩ := some_ret hc
    exact holds_ev prog_ok (allOK_cons ok_impl_IsFinite allOK_nil) Try.func78 rfl rfl smL_nil rfl (e_impl_lengthOk real x0)
  · cases hc
def Pure.impl_Spin_numbers (_F : FOps) (x0 : Int) (x1 : Int) (x2 : Int) (x3 : Int) : List (List Int) := [[x0], [x1], [x2], [x3]]
def c_impl_Spin_numbers (F : FOps) : Con
  | [V.at (A.ptr 0 0 0)], [⟨false, OC.box [A.fl FloatKind.f32 x0, A.fl FloatKind.f32 x1, A.fl FloatKind.f32 x2, A.fl FloatKind.f32 x3]⟩] => some (true, ⟨V.at (A.sl 1), none, [⟨true, OC.rows [K.f FloatKind.f32] (Pure.impl_Spin_numbers F x0 x1 x2 x3)⟩]⟩)
  | _, _ => none
theorem e_impl_Spin_numbers (F : FOps) (x0 : Int) (x1 : Int) (x2 : Int) (x3 : Int) : evFn (cxS F tyl [] [] [] 0) Try.f45 false [V.at (A.ptr 0 0 0)] [⟨false, OC.box [A.fl FloatKind.f32 x0, A.fl FloatKind.f32 x1, A.fl FloatKind.f32 x2, A.fl FloatKind.f32 x3]⟩] = some ⟨V.at (A.sl 1), none, [⟨true, OC.rows [K.f FloatKind.f32] (Pure.impl_Spin_numbers F x0 x1 x2 x3)⟩]⟩ := by
  kernel_rfl
theorem ok_impl_Spin_numbers : CallOK Try.prog 45 (c_impl_Spin_numbers real) := by
  refine callOK_of fun args h ret hc => ?_
  unfold c_impl_Spin_numbers at hc
  split at hc
  · rename_i x0 x1 x2 x3
    obtain ⟨_, rfl⟩ := some_ret hc
    exact holds_ev prog_ok allOK_nil Try.func45 rfl rfl smL_nil rfl (e_impl_Spin_numbers real x0 x1 x2 x3)
  · cases hc
def Pure.impl_finite (F : FOps) (x0 : List (List Int)) : Bool := bif Pure.slices_ContainsFunc_float32_float32_finite F x0 then false else true
def Pure.impl_finite_ok (F : FOps) (x0 : List (List Int)) : Bool := Pure.slices_ContainsFunc_float32_float32_finite_ok F x0
def c_impl_finite (F : FOps) : Con
  | [V.at (A.sl 0)], [⟨false, OC.rows [K.f FloatKind.f32] x0⟩] => some (Pure.impl_finite_ok F x0, ⟨V.at (A.bool (Pure.impl_finite F x0)), none, []⟩)
  | _, _ => none
theorem e_impl_finite (F : FOps) (x0 : List (List Int)) : Pure.impl_finite_ok F x0 = true → evFn (cxS F tyl [(67, c_slices_ContainsFunc_float32_float32_finite F), (68, c_impl_finite_c1 F)] [] [] 0) Try.f44 false [V.at (A.sl 0)] [⟨false, OC.rows [K.f FloatKind.f32] x0⟩] = some ⟨V.at (A.bool (Pure.impl_finite F x0)), none, []⟩ := by
  have h0 : evFn (cxS F tyl [(67, c_slices_ContainsFunc_float32_float32_finite F), (68, c_impl_finite_c1 F)] [] [] 0) Try.f44 false [V.at (A.sl 0)] [⟨false, OC.rows [K.f FloatKind.f32] x0⟩] = bif Pure.slices_ContainsFunc_float32_float32_finite_ok F x0 then some ⟨V.at (A.bool (bif Pure.slices_ContainsFunc_float32_float32_finite F x0 then false else true)), none, []⟩ else none := by kernel_rfl
  rw [h0]
  unfold Pure.impl_finite Pure.impl_finite_ok
  cases (Pure.slices_ContainsFunc_float32_float32_finite_ok F x0) with
  | true =>
    intro _; rfl
  | false =>
    intro h; exact absurd h Bool.false_ne_true
theorem ok_impl_finite : CallOK Try.prog 44 (c_impl_finite real) := by
  refine callOK_of fun args h ret hc => ?_
  unfold c_impl_finite at hc
  split at hc
  · rename_i x0
    obtain ⟨hok, rfl⟩ := some_ret hc
    exact holds_ev prog_ok (allOK_cons ok_slices_ContainsFunc_float32_float32_finite (allOK_cons ok_impl_finite_c1 allOK_nil)) Try.func44 rfl rfl smL_nil rfl (e_impl_finite real x0 hok)
  · cases hc
def Pure.impl_IsSpin (F : FOps) (x0 : Int) (x1 : Int) (x2 : Int) (x3 : Int) : Bool := bif Pure.impl_finite F (Pure.impl_Spin_numbers F x0 x1 x2 x3) then bif FOps.cmp F BinOp.neq FloatKind.f32 x0 0 then true else bif FOps.cmp F BinOp.neq FloatKind.f32 x1 0 then true else bif FOps.cmp F BinOp.neq FloatKind.f32 x2 0 then true else FOps.cmp F BinOp.neq FloatKind.f32 x3 0 else false
def Pure.impl_IsSpin_ok (F : FOps) (x0 : Int) (x1 : Int) (x2 : Int) (x3 : Int) : Bool := Pure.impl_finite_ok F (Pure.impl_Spin_numbers F x0 x1 x2 x3)
def c_impl_IsSpin (F : FOps) : Con
  | [V.agg [A.fl FloatKind.f32 x0, A.fl FloatKind.f32 x1, A.fl FloatKind.f32 x2, A.fl FloatKind.f32 x3]], [] => some (Pure.impl_IsSpin_ok F x0 x1 x2 x3, ⟨V.at (A.bool (Pure.impl_IsSpin F x0 x1 x2 x3)), none, []⟩)
  | _, _ => none
theorem e_impl_IsSpin (F : FOps) (x0 : Int) (x1 : Int) (x2 : Int) (x3 : Int) : Pure.impl_IsSpin_ok F x0 x1 x2 x3 = true → evFn (cxS F tyl [(45, c_impl_Spin_numbers F), (44, c_impl_finite F)] [] [] 0) Try.f15 false [V.agg [A.fl FloatKind.f32 x0, A.fl FloatKind.f32 x1, A.fl FloatKind.f32 x2, A.fl FloatKind.f32 x3]] [] = some ⟨V.at (A.bool (Pure.impl_IsSpin F x0 x1 x2 x3)), none, []⟩ := by
  have h0 : evFn (cxS F tyl [(45, c_impl_Spin_numbers F), (44, c_impl_finite F)] [] [] 0) Try.f15 false [V.agg [A.fl FloatKind.f32 x0, A.fl FloatKind.f32 x1, A.fl FloatKind.f32 x2, A.fl FloatKind.f32 x3]] [] = bif Pure.impl_finite_ok F (Pure.impl_Spin_numbers F x0 x1 x2 x3) then bif Pure.impl_finite F (Pure.impl_Spin_numbers F x0 x1 x2 x3) then bif FOps.cmp F BinOp.neq FloatKind.f32 x0 0 then some ⟨V.at (A.bool true), none, []⟩ else bif FOps.cmp F BinOp.neq FloatKind.f32 x1 0 then some ⟨V.at (A.bool true), none, []⟩ else bif FOps.cmp F BinOp.neq FloatKind.f32 x2 0 then some ⟨V.at (A.bool true), none, []⟩ else some ⟨V.at (A.bool (FOps.cmp F BinOp.neq FloatKind.f32 x3 0)), none, []⟩ else some ⟨V.at (A.bool false), none, []⟩ else none := by kernel_rfl
  rw [h0]
  unfold Pure.impl_IsSpin Pure.impl_IsSpin_ok
  cases (Pure.impl_finite_ok F (Pure.impl_Spin_numbers F x0 x1 x2 x3)) with
  | true =>
    cases (Pure.impl_finite F (Pure.impl_Spin_numbers F x0 x1 x2 x3)) with
    | true =>
      cases (FOps.cmp F BinOp.neq FloatKind.f32 x0 0) with
      | true =>
        intro _; rfl
      | false =>
        cases (FOps.cmp F BinOp.neq FloatKind.f32 x1 0) with
        | true =>
          intro _; rfl
        | false =>
          cases (FOps.cmp F BinOp.neq FloatKind.f32 x2 0) with
          | true =>
            intro _; rfl
          | false =>
            intro _; rfl
    | false =>
      intro _; rfl
  | false =>
    intro h; exact absurd h Bool.false_ne_true
theorem ok_impl_IsSpin : CallOK Try.prog 15 (c_impl_IsSpin real) := by
  refine callOK_of fun args h ret hc => ?_
  unfold c_impl_IsSpin at hc
  split at hc
  · rename_i x0 x1 x2 x3
    obtain ⟨hok, rfl⟩ := some_ret hc
    exact holds_ev prog_ok (allOK_cons ok_impl_Spin_numbers (allOK_cons ok_impl_finite allOK_nil)) Try.func15 rfl rfl smL_nil rfl (e_impl_IsSpin real x0 x1 x2 x3 hok)
  · cases hc
def Pure.impl_finiteVector (F : FOps) (x0 : Int) (x1 : Int) (x2 : Int) : Bool := Pure.impl_finite F [[x0], [x1], [x2]]
def Pure.impl_finiteVector_ok (F : FOps) (x0 : Int) (x1 : Int) (x2 : Int) : Bool := Pure.impl_finite_ok F [[x0], [x1], [x2]]
def c_impl_finiteVector (F : FOps) : Con
  | [V.agg [A.fl FloatKind.f32 x0, A.fl FloatKind.f32 x1, A.fl FloatKind.f32 x2]], [] => some (Pure.impl_finiteVector_ok F x0 x1 x2, ⟨V.at (A.bool (Pure.impl_finiteVector F x0 x1 x2)), none, []⟩)
  | _, _ => none
theorem e_impl_finiteVector (F : FOps) (x0 : Int) (x1 : Int) (x2 : Int) : Pure.impl_finiteVector_ok F x0 x1 x2 = true → evFn (cxS F tyl [(44, c_impl_finite F)] [] [] 0) Try.f53 false [V.agg [A.fl FloatKind.f32 x0, A.fl FloatKind.f32 x1, A.fl FloatKind.f32 x2]] [] = some ⟨V.at (A.bool (Pure.impl_finiteVector F x0 x1 x2)), none, []⟩ := by
  have h0 : evFn (cxS F tyl [(44, c_impl_finite F)] [] [] 0) Try.f53 false [V.agg [A.fl FloatKind.f32 x0, A.fl FloatKind.f32 x1, A.fl FloatKind.f32 x2]] [] = bif Pure.impl_finite_ok F [[x0], [x1], [x2]] then some ⟨V.at (A.bool (Pure.impl_finite F [[x0], [x1], [x2]])), none, []⟩ else none := by kernel_rfl
  rw [h0]
  unfold Pure.impl_finiteVector Pure.impl_finiteVector_ok
  cases (Pure.impl_finite_ok F [[x0], [x1], [x2]]) with
  | true =>
    intro _; rfl
  | false =>
    intro h; exact absurd h Bool.false_ne_true
theorem ok_impl_finiteVector : CallOK Try.prog 53 (c_impl_finiteVector real) := by
  refine callOK_of fun args h ret hc => ?_
  unfold c_impl_finiteVector at hc
  split at hc
  · rename_i x0 x1 x2
    obtain ⟨hok, rfl⟩ := some_ret hc
    exact holds_ev prog_ok (allOK_cons ok_impl_finite allOK_nil) Try.func53 rfl rfl smL_nil rfl (e_impl_finiteVector real x0 x1 x2 hok)
  · cases hc
def Pure.impl_ValidTop (F : FOps) (x0 : Int) (x1 : Int) (x2 : Int) (x3 : Int) (x4 : Int) (x5 : Int) (x6 : Int) (x7 : Int) (x8 : Int) (x9 : Int) : Bool := bif Pure.impl_lengthOk F x0 then bif Pure.impl_lengthOk F x1 then bif Pure.impl_lengthOk F x2 then bif Pure.impl_IsSpin F x3 x4 x5 x6 then Pure.impl_finiteVector F x7 x8 x9 else false else false else false else false
def Pure.impl_ValidTop_ok (F : FOps) (x0 : Int) (x1 : Int) (x2 : Int) (x3 : Int) (x4 : Int) (x5 : Int) (x6 : Int) (x7 : Int) (x8 : Int) (x9 : Int) : Bool := bif Pure.impl_lengthOk F x0 then bif Pure.impl_lengthOk F x1 then bif Pure.impl_lengthOk F x2 then bif Pure.impl_IsSpin_ok F x3 x4 x5 x6 then bif Pure.impl_IsSpin F x3 x4 x5 x6 then Pure.impl_finiteVector_ok F x7 x8 x9 else true else false else true else true else true
def c_impl_ValidTop (F : FOps) : Con
  | [V.agg [A.fl FloatKind.f32 x0, A.fl FloatKind.f32 x1, A.fl FloatKind.f32 x2, A.fl FloatKind.f32 x3, A.fl FloatKind.f32 x4, A.fl FloatKind.f32 x5, A.fl FloatKind.f32 x6, A.fl FloatKind.f32 x7, A.fl FloatKind.f32 x8, A.fl FloatKind.f32 x9]], [] => some (Pure.impl_ValidTop_ok F x0 x1 x2 x3 x4 x5 x6 x7 x8 x9, ⟨V.at (A.bool (Pure.impl_ValidTop F x0 x1 x2 x3 x4 x5 x6 x7 x8 x9)), none, []⟩)
  | _, _ => none
theorem e_impl_ValidTop (F : FOps) (x0 : Int) (x1 : Int) (x2 : Int) (x3 : Int) (x4 : Int) (x5 : Int) (x6 : Int) (x7 : Int) (x8 : Int) (x9 : Int) : Pure.impl_ValidTop_ok F x0 x1 x2 x3 x4 x5 x6 x7 x8 x9 = true → evFn (cxS F tyl [(78, c_impl_lengthOk F), (15, c_impl_IsSpin F), (53, c_impl_finiteVector F)] [] [] 0) Try.f52 false [V.agg [A.fl FloatKind.f32 x0, A.fl FloatKind.f32 x1, A.fl FloatKind.f32 x2, A.fl FloatKind.f32 x3, A.fl FloatKind.f32 x4, A.fl FloatKind.f32 x5, A.fl FloatKind.f32 x6, A.fl FloatKind.f32 x7, A.fl FloatKind.f32 x8, A.fl FloatKind.f32 x9]] [] = some ⟨V.at (A.bool (Pure.impl_ValidTop F x0 x1 x2 x3 x4 x5 x6 x7 x8 x9)), none, []⟩ := by
  have h0 : evFn (cxS F tyl [(78, c_impl_lengthOk F), (15, c_impl_IsSpin F), (53, c_impl_finiteVector F)] [] [] 0) Try.f52 false [V.agg [A.fl FloatKind.f32 x0, A.fl FloatKind.f32 x1, A.fl FloatKind.f32 x2, A.fl FloatKind.f32 x3, A.fl FloatKind.f32 x4, A.fl FloatKind.f32 x5, A.fl FloatKind.f32 x6, A.fl FloatKind.f32 x7, A.fl FloatKind.f32 x8, A.fl FloatKind.f32 x9]] [] = bif Pure.impl_lengthOk F x0 then bif Pure.impl_lengthOk F x1 then bif Pure.impl_lengthOk F x2 then bif Pure.impl_IsSpin_ok F x3 x4 x5 x6 then bif Pure.impl_IsSpin F x3 x4 x5 x6 then bif Pure.impl_finiteVector_ok F x7 x8 x9 then some ⟨V.at (A.bool (Pure.impl_finiteVector F x7 x8 x9)), none, []⟩ else none else some ⟨V.at (A.bool false), none, []⟩ else none else some ⟨V.at (A.bool false), none, []⟩ else some ⟨V.at (A.bool false), none, []⟩ else some ⟨V.at (A.bool false), none, []⟩ := by kernel_rfl
  rw [h0]
  unfold Pure.impl_ValidTop Pure.impl_ValidTop_ok
  cases (Pure.impl_lengthOk F x0) with
  | true =>
    cases (Pure.impl_lengthOk F x1) with
    | true =>
      cases (Pure.impl_lengthOk F x2) with
      | true =>
        cases (Pure.impl_IsSpin_ok F x3 x4 x5 x6) with
        | true =>
          cases (Pure.impl_IsSpin F x3 x4 x5 x6) with
          | true =>
            cases (Pure.impl_finiteVector_ok F x7 x8 x9) with
            | true =>
              intro _; rfl
            | false =>
              intro h; exact absurd h Bool.false_ne_true
          | false =>
            intro _; rfl
        | false =>
          intro h; exact absurd h Bool.false_ne_true
      | false =>
        intro _; rfl
    | false =>
      intro _; rfl
  | false =>
    intro _; rfl
theorem ok_impl_ValidTop : CallOK Try.prog 52 (c_impl_ValidTop real) := by
  refine callOK_of fun args h ret hc => ?_
  unfold c_impl_ValidTop at hc
  split at hc
  · rename_i x0 x1 x2 x3 x4 x5 x6 x7 x8 x9
    obtain ⟨hok, rfl⟩ := some_ret hc
    exact holds_ev prog_ok (allOK_cons ok_impl_lengthOk (allOK_cons ok_impl_IsSpin (allOK_cons ok_impl_finiteVector allOK_nil))) Try.func52 rfl rfl smL_nil rfl (e_impl_ValidTop real x0 x1 x2 x3 x4 x5 x6 x7 x8 x9 hok)
  · cases hc
def Pure.impl_Top_rate_c1 (F : FOps) (x0 : Int) (x1 : Int) (x2 : Int) (x3 : Int) (x4 : Int) (x5 : Int) : Int := FOps.bin F BinOp.quo FloatKind.f32 (FOps.bin F BinOp.add FloatKind.f32 (FOps.bin F BinOp.mul FloatKind.f32 (FOps.bin F BinOp.sub FloatKind.f32 x0 x1) (FOps.bin F BinOp.mul FloatKind.f32 x3 x4)) x5) x2
def c_impl_Top_rate_c1 (F : FOps) : Con
  | [V.at (A.fl FloatKind.f32 x0), V.at (A.fl FloatKind.f32 x1), V.at (A.fl FloatKind.f32 x2), V.at (A.fl FloatKind.f32 x3), V.at (A.fl FloatKind.f32 x4), V.at (A.fl FloatKind.f32 x5)], [] => some (true, ⟨V.at (A.fl FloatKind.f32 (Pure.impl_Top_rate_c1 F x0 x1 x2 x3 x4 x5)), none, []⟩)
  | _, _ => none
theorem e_impl_Top_rate_c1 (F : FOps) (x0 : Int) (x1 : Int) (x2 : Int) (x3 : Int) (x4 : Int) (x5 : Int) : evFn (cxS F tyl [] [] [] 0) Try.f79 false [V.at (A.fl FloatKind.f32 x0), V.at (A.fl FloatKind.f32 x1), V.at (A.fl FloatKind.f32 x2), V.at (A.fl FloatKind.f32 x3), V.at (A.fl FloatKind.f32 x4), V.at (A.fl FloatKind.f32 x5)] [] = some ⟨V.at (A.fl FloatKind.f32 (Pure.impl_Top_rate_c1 F x0 x1 x2 x3 x4 x5)), none, []⟩ := by
  kernel_rfl
theorem ok_impl_Top_rate_c1 : CallOK Try.prog 79 (c_impl_Top_rate_c1 real) := by
  refine callOK_of fun args h ret hc => ?_
  unfold c_impl_Top_rate_c1 at hc
  split at hc
  · rename_i x0 x1 x2 x3 x4 x5
    obtain ⟨_, rfl⟩ := some_ret hc
    exact holds_ev prog_ok allOK_nil Try.func79 rfl rfl smL_nil rfl (e_impl_Top_rate_c1 real x0 x1 x2 x3 x4 x5)
  · cases hc
def c_impl_Top_rate (F : FOps) : Con
  | [V.at (A.ptr 0 0 0), V.agg [A.fl FloatKind.f32 x10, A.fl FloatKind.f32 x11, A.fl FloatKind.f32 x12], V.agg [A.fl FloatKind.f32 x13, A.fl FloatKind.f32 x14, A.fl FloatKind.f32 x15]], [⟨false, OC.box [A.fl FloatKind.f32 x0, A.fl FloatKind.f32 x1, A.fl FloatKind.f32 x2, A.fl FloatKind.f32 _x3, A.fl FloatKind.f32 _x4, A.fl FloatKind.f32 _x5, A.fl FloatKind.f32 _x6, A.fl FloatKind.f32 _x7, A.fl FloatKind.f32 _x8, A.fl FloatKind.f32 _x9]⟩] => some (true, ⟨V.agg [A.fl FloatKind.f32 (Pure.impl_Top_rate_c1 F x1 x2 x0 x11 x12 x13), A.fl FloatKind.f32 (Pure.impl_Top_rate_c1 F x2 x0 x1 x12 x10 x14), A.fl FloatKind.f32 (Pure.impl_Top_rate_c1 F x0 x1 x2 x10 x11 x15)], none, []⟩)
  | _, _ => none
theorem e_impl_Top_rate (F : FOps) (x0 : Int) (x1 : Int) (x2 : Int) (x3 : Int) (x4 : Int) (x5 : Int) (x6 : Int) (x7 : Int) (x8 : Int) (x9 : Int) (x10 : Int) (x11 : Int) (x12 : Int) (x13 : Int) (x14 : Int) (x15 : Int) : evFn (cxS F tyl [(79, c_impl_Top_rate_c1 F)] [] [] 0) Try.f54 false [V.at (A.ptr 0 0 0), V.agg [A.fl FloatKind.f32 x10, A.fl FloatKind.f32 x11, A.fl FloatKind.f32 x12], V.agg [A.fl FloatKind.f32 x13, A.fl FloatKind.f32 x14, A.fl FloatKind.f32 x15]] [⟨false, OC.box [A.fl FloatKind.f32 x0, A.fl FloatKind.f32 x1, A.fl FloatKind.f32 x2, A.fl FloatKind.f32 x3, A.fl FloatKind.f32 x4, A.fl FloatKind.f32 x5, A.fl FloatKind.f32 x6, A.fl FloatKind.f32 x7, A.fl FloatKind.f32 x8, A.fl FloatKind.f32 x9]⟩] = some ⟨V.agg [A.fl FloatKind.f32 (Pure.impl_Top_rate_c1 F x1 x2 x0 x11 x12 x13), A.fl FloatKind.f32 (Pure.impl_Top_rate_c1 F x2 x0 x1 x12 x10 x14), A.fl FloatKind.f32 (Pure.impl_Top_rate_c1 F x0 x1 x2 x10 x11 x15)], none, []⟩ := by
  kernel_rfl
theorem ok_impl_Top_rate : CallOK Try.prog 54 (c_impl_Top_rate real) := by
  refine callOK_of fun args h ret hc => ?_
  unfold c_impl_Top_rate at hc
  split at hc
  · rename_i x10 x11 x12 x13 x14 x15 x0 x1 x2 x3 x4 x5 x6 x7 x8 x9
    obtain ⟨_, rfl⟩ := some_ret hc
    exact holds_ev prog_ok (allOK_cons ok_impl_Top_rate_c1 allOK_nil) Try.func54 rfl rfl smL_nil rfl (e_impl_Top_rate real x0 x1 x2 x3 x4 x5 x6 x7 x8 x9 x10 x11 x12 x13 x14 x15)
  · cases hc
def Pure.impl_ScaleVector (F : FOps) (x0 : Int) (_x1 : Int) (_x2 : Int) (x3 : Int) : Int := FOps.bin F BinOp.mul FloatKind.f32 x0 x3
def Pure.impl_ScaleVector_1 (F : FOps) (_x0 : Int) (x1 : Int) (_x2 : Int) (x3 : Int) : Int := FOps.bin F BinOp.mul FloatKind.f32 x1 x3
def Pure.impl_ScaleVector_2 (F : FOps) (_x0 : Int) (_x1 : Int) (x2 : Int) (x3 : Int) : Int := FOps.bin F BinOp.mul FloatKind.f32 x2 x3
def c_impl_ScaleVector (F : FOps) : Con
  | [V.agg [A.fl FloatKind.f32 x0, A.fl FloatKind.f32 x1, A.fl FloatKind.f32 x2], V.at (A.fl FloatKind.f32 x3)], [] => some (true, ⟨V.agg [A.fl FloatKind.f32 (Pure.impl_ScaleVector F x0 x1 x2 x3), A.fl FloatKind.f32 (Pure.impl_ScaleVector_1 F x0 x1 x2 x3), A.fl FloatKind.f32 (Pure.impl_ScaleVector_2 F x0 x1 x2 x3)], none, []⟩)
  | _, _ => none
theorem e_impl_ScaleVector (F : FOps) (x0 : Int) (x1 : Int) (x2 : Int) (x3 : Int) : evFn (cxS F tyl [] [] [] 0) Try.f56 false [V.agg [A.fl FloatKind.f32 x0, A.fl FloatKind.f32 x1, A.fl FloatKind.f32 x2], V.at (A.fl FloatKind.f32 x3)] [] = some ⟨V.agg [A.fl FloatKind.f32 (Pure.impl_ScaleVector F x0 x1 x2 x3), A.fl FloatKind.f32 (Pure.impl_ScaleVector_1 F x0 x1 x2 x3), A.fl FloatKind.f32 (Pure.impl_ScaleVector_2 F x0 x1 x2 x3)], none, []⟩ := by
  kernel_rfl
theorem ok_impl_ScaleVector : CallOK Try.prog 56 (c_impl_ScaleVector real) := by
  refine callOK_of fun args h ret hc => ?_
  unfold c_impl_ScaleVector at hc
  split at hc
  · rename_i x0 x1 x2 x3
    obtain ⟨_, rfl⟩ := some_ret hc
    exact holds_ev prog_ok allOK_nil Try.func56 rfl rfl smL_nil rfl (e_impl_ScaleVector real x0 x1 x2 x3)
  · cases hc
def Pure.impl_AddVectors (F : FOps) (x0 : Int) (_x1 : Int) (_x2 : Int) (x3 : Int) (_x4 : Int) (_x5 : Int) : Int := FOps.bin F BinOp.add FloatKind.f32 x0 x3
def Pure.impl_AddVectors_1 (F : FOps) (_x0 : Int) (x1 : Int) (_x2 : Int) (_x3 : Int) (x4 : Int) (_x5 : Int) : Int := FOps.bin F BinOp.add FloatKind.f32 x1 x4
def Pure.impl_AddVectors_2 (F : FOps) (_x0 : Int) (_x1 : Int) (x2 : Int) (_x3 : Int) (_x4 : Int) (x5 : Int) : Int := FOps.bin F BinOp.add FloatKind.f32 x2 x5
def c_impl_AddVectors (F : FOps) : Con
  | [V.agg [A.fl FloatKind.f32 x0, A.fl FloatKind.f32 x1, A.fl FloatKind.f32 x2], V.agg [A.fl FloatKind.f32 x3, A.fl FloatKind.f32 x4, A.fl FloatKind.f32 x5]], [] => some (true, ⟨V.agg [A.fl FloatKind.f32 (Pure.impl_AddVectors F x0 x1 x2 x3 x4 x5), A.fl FloatKind.f32 (Pure.impl_AddVectors_1 F x0 x1 x2 x3 x4 x5), A.fl FloatKind.f32 (Pure.impl_AddVectors_2 F x0 x1 x2 x3 x4 x5)], none, []⟩)
  | _, _ => none
theorem e_impl_AddVectors (F : FOps) (x0 : Int) (x1 : Int) (x2 : Int) (x3 : Int) (x4 : Int) (x5 : Int) : evFn (cxS F tyl [] [] [] 0) Try.f55 false [V.agg [A.fl FloatKind.f32 x0, A.fl FloatKind.f32 x1, A.fl FloatKind.f32 x2], V.agg [A.fl FloatKind.f32 x3, A.fl FloatKind.f32 x4, A.fl FloatKind.f32 x5]] [] = some ⟨V.agg [A.fl FloatKind.f32 (Pure.impl_AddVectors F x0 x1 x2 x3 x4 x5), A.fl FloatKind.f32 (Pure.impl_AddVectors_1 F x0 x1 x2 x3 x4 x5), A.fl FloatKind.f32 (Pure.impl_AddVectors_2 F x0 x1 x2 x3 x4 x5)], none, []⟩ := by
  kernel_rfl
theorem ok_impl_AddVectors : CallOK Try.prog 55 (c_impl_AddVectors real) := by
  refine callOK_of fun args h ret hc => ?_
  unfold c_impl_AddVectors at hc
  split at hc
  · rename_i x0 x1 x2 x3 x4 x5
    obtain ⟨_, rfl⟩ := some_ret hc
    exact holds_ev prog_ok allOK_nil Try.func55 rfl rfl smL_nil rfl (e_impl_AddVectors real x0 x1 x2 x3 x4 x5)
  · cases hc
def Pure.impl_along (F : FOps) (x0 : Int) (_x1 : Int) (_x2 : Int) (_x3 : Int) (x4 : Int) (_x5 : Int) (_x6 : Int) (_x7 : Int) (x8 : Int) : Int := FOps.bin F BinOp.add FloatKind.f32 x0 (FOps.bin F BinOp.mul FloatKind.f32 x8 x4)
def Pure.impl_along_1 (F : FOps) (_x0 : Int) (x1 : Int) (_x2 : Int) (_x3 : Int) (_x4 : Int) (x5 : Int) (_x6 : Int) (_x7 : Int) (x8 : Int) : Int := FOps.bin F BinOp.add FloatKind.f32 x1 (FOps.bin F BinOp.mul FloatKind.f32 x8 x5)
def Pure.impl_along_2 (F : FOps) (_x0 : Int) (_x1 : Int) (x2 : Int) (_x3 : Int) (_x4 : Int) (_x5 : Int) (x6 : Int) (_x7 : Int) (x8 : Int) : Int := FOps.bin F BinOp.add FloatKind.f32 x2 (FOps.bin F BinOp.mul FloatKind.f32 x8 x6)
def Pure.impl_along_3 (F : FOps) (_x0 : Int) (_x1 : Int) (_x2 : Int) (x3 : Int) (_x4 : Int) (_x5 : Int) (_x6 : Int) (x7 : Int) (x8 : Int) : Int := FOps.bin F BinOp.add FloatKind.f32 x3 (FOps.bin F BinOp.mul FloatKind.f32 x8 x7)
def c_impl_along (F : FOps) : Con
  | [V.agg [A.fl FloatKind.f32 x0, A.fl FloatKind.f32 x1, A.fl FloatKind.f32 x2, A.fl FloatKind.f32 x3], V.agg [A.fl FloatKind.f32 x4, A.fl FloatKind.f32 x5, A.fl FloatKind.f32 x6, A.fl FloatKind.f32 x7], V.at (A.fl FloatKind.f32 x8)], [] => some (true, ⟨V.agg [A.fl FloatKind.f32 (Pure.impl_along F x0 x1 x2 x3 x4 x5 x6 x7 x8), A.fl FloatKind.f32 (Pure.impl_along_1 F x0 x1 x2 x3 x4 x5 x6 x7 x8), A.fl FloatKind.f32 (Pure.impl_along_2 F x0 x1 x2 x3 x4 x5 x6 x7 x8), A.fl FloatKind.f32 (Pure.impl_along_3 F x0 x1 x2 x3 x4 x5 x6 x7 x8)], none, []⟩)
  | _, _ => none
theorem e_impl_along (F : FOps) (x0 : Int) (x1 : Int) (x2 : Int) (x3 : Int) (x4 : Int) (x5 : Int) (x6 : Int) (x7 : Int) (x8 : Int) : evFn (cxS F tyl [] [] [] 0) Try.f43 false [V.agg [A.fl FloatKind.f32 x0, A.fl FloatKind.f32 x1, A.fl FloatKind.f32 x2, A.fl FloatKind.f32 x3], V.agg [A.fl FloatKind.f32 x4, A.fl FloatKind.f32 x5, A.fl FloatKind.f32 x6, A.fl FloatKind.f32 x7], V.at (A.fl FloatKind.f32 x8)] [] = some ⟨V.agg [A.fl FloatKind.f32 (Pure.impl_along F x0 x1 x2 x3 x4 x5 x6 x7 x8), A.fl FloatKind.f32 (Pure.impl_along_1 F x0 x1 x2 x3 x4 x5 x6 x7 x8), A.fl FloatKind.f32 (Pure.impl_along_2 F x0 x1 x2 x3 x4 x5 x6 x7 x8), A.fl FloatKind.f32 (Pure.impl_along_3 F x0 x1 x2 x3 x4 x5 x6 x7 x8)], none, []⟩ := by
  kernel_rfl
theorem ok_impl_along : CallOK Try.prog 43 (c_impl_along real) := by
  refine callOK_of fun args h ret hc => ?_
  unfold c_impl_along at hc
  split at hc
  · rename_i x0 x1 x2 x3 x4 x5 x6 x7 x8
    obtain ⟨_, rfl⟩ := some_ret hc
    exact holds_ev prog_ok allOK_nil Try.func43 rfl rfl smL_nil rfl (e_impl_along real x0 x1 x2 x3 x4 x5 x6 x7 x8)
  · cases hc
def Pure.impl_products (F : FOps) (x0 : Int) (x1 : Int) (x2 : Int) (x3 : Int) (x4 : Int) (x5 : Int) (x6 : Int) (x7 : Int) : Int := FOps.bin F BinOp.add FloatKind.f32 (FOps.bin F BinOp.add FloatKind.f32 (FOps.bin F BinOp.add FloatKind.f32 (FOps.bin F BinOp.mul FloatKind.f32 x0 x4) (FOps.bin F BinOp.mul FloatKind.f32 x1 x5)) (FOps.bin F BinOp.mul FloatKind.f32 x2 x6)) (FOps.bin F BinOp.mul FloatKind.f32 x3 x7)
def c_impl_products (F : FOps) : Con
  | [V.agg [A.fl FloatKind.f32 x0, A.fl FloatKind.f32 x1, A.fl FloatKind.f32 x2, A.fl FloatKind.f32 x3], V.agg [A.fl FloatKind.f32 x4, A.fl FloatKind.f32 x5, A.fl FloatKind.f32 x6, A.fl FloatKind.f32 x7]], [] => some (true, ⟨V.at (A.fl FloatKind.f32 (Pure.impl_products F x0 x1 x2 x3 x4 x5 x6 x7)), none, []⟩)
  | _, _ => none
theorem e_impl_products (F : FOps) (x0 : Int) (x1 : Int) (x2 : Int) (x3 : Int) (x4 : Int) (x5 : Int) (x6 : Int) (x7 : Int) : evFn (cxS F tyl [] [] [] 0) Try.f40 false [V.agg [A.fl FloatKind.f32 x0, A.fl FloatKind.f32 x1, A.fl FloatKind.f32 x2, A.fl FloatKind.f32 x3], V.agg [A.fl FloatKind.f32 x4, A.fl FloatKind.f32 x5, A.fl FloatKind.f32 x6, A.fl FloatKind.f32 x7]] [] = some ⟨V.at (A.fl FloatKind.f32 (Pure.impl_products F x0 x1 x2 x3 x4 x5 x6 x7)), none, []⟩ := by
  kernel_rfl
theorem ok_impl_products : CallOK Try.prog 40 (c_impl_products real) := by
  refine callOK_of fun args h ret hc => ?_
  unfold c_impl_products at hc
  split at hc
  · rename_i x0 x1 x2 x3 x4 x5 x6 x7
    obtain ⟨_, rfl⟩ := some_ret hc
    exact holds_ev prog_ok allOK_nil Try.func40 rfl rfl smL_nil rfl (e_impl_products real x0 x1 x2 x3 x4 x5 x6 x7)
  · cases hc
def Pure.impl_RootNumber (F : FOps) (x0 : Int) : Int := FOps.conv F FloatKind.f64 FloatKind.f32 (FOps.sqrt F (FOps.conv F FloatKind.f32 FloatKind.f64 x0))
def Pure.impl_RootNumber_ok (F : FOps) (x0 : Int) : Bool := bif FOps.convOk F FloatKind.f32 FloatKind.f64 x0 then FOps.convOk F FloatKind.f64 FloatKind.f32 (FOps.sqrt F (FOps.conv F FloatKind.f32 FloatKind.f64 x0)) else false
def c_impl_RootNumber (F : FOps) : Con
  | [V.at (A.fl FloatKind.f32 x0)], [] => some (Pure.impl_RootNumber_ok F x0, ⟨V.at (A.fl FloatKind.f32 (Pure.impl_RootNumber F x0)), none, []⟩)
  | _, _ => none
theorem e_impl_RootNumber (F : FOps) (x0 : Int) : Pure.impl_RootNumber_ok F x0 = true → evFn (cxS F tyl [(66, c_math_Sqrt F)] [] [] 0) Try.f39 false [V.at (A.fl FloatKind.f32 x0)] [] = some ⟨V.at (A.fl FloatKind.f32 (Pure.impl_RootNumber F x0)), none, []⟩ := by
  have h0 : evFn (cxS F tyl [(66, c_math_Sqrt F)] [] [] 0) Try.f39 false [V.at (A.fl FloatKind.f32 x0)] [] = bif FOps.convOk F FloatKind.f32 FloatKind.f64 x0 then bif FOps.convOk F FloatKind.f64 FloatKind.f32 (FOps.sqrt F (FOps.conv F FloatKind.f32 FloatKind.f64 x0)) then some ⟨V.at (A.fl FloatKind.f32 (FOps.conv F FloatKind.f64 FloatKind.f32 (FOps.sqrt F (FOps.conv F FloatKind.f32 FloatKind.f64 x0)))), none, []⟩ else none else none := by kernel_rfl
  rw [h0]
  unfold Pure.impl_RootNumber Pure.impl_RootNumber_ok
  cases (FOps.convOk F FloatKind.f32 FloatKind.f64 x0) with
  | true =>
    cases (FOps.convOk F FloatKind.f64 FloatKind.f32 (FOps.sqrt F (FOps.conv F FloatKind.f32 FloatKind.f64 x0))) with
    | true =>
      intro _; rfl
    | false =>
      intro h; exact absurd h Bool.false_ne_true
  | false =>
    intro h; exact absurd h Bool.false_ne_true
theorem ok_impl_RootNumber : CallOK Try.prog 39 (c_impl_RootNumber real) := by
  refine callOK_of fun args h ret hc => ?_
  unfold c_impl_RootNumber at hc
  split at hc
  · rename_i x0
    obtain ⟨hok, rfl⟩ := some_ret hc
    exact holds_ev prog_ok (allOK_cons ok_math_Sqrt allOK_nil) Try.func39 rfl rfl smL_nil rfl (e_impl_RootNumber real x0 hok)
  · cases hc
def Pure.impl_SizeOfSpin (F : FOps) (x0 : Int) (x1 : Int) (x2 : Int) (x3 : Int) : Int := Pure.impl_RootNumber F (Pure.impl_products F x0 x1 x2 x3 x0 x1 x2 x3)
def Pure.impl_SizeOfSpin_ok (F : FOps) (x0 : Int) (x1 : Int) (x2 : Int) (x3 : Int) : Bool := Pure.impl_RootNumber_ok F (Pure.impl_products F x0 x1 x2 x3 x0 x1 x2 x3)
def c_impl_SizeOfSpin (F : FOps) : Con
  | [V.agg [A.fl FloatKind.f32 x0, A.fl FloatKind.f32 x1, A.fl FloatKind.f32 x2, A.fl FloatKind.f32 x3]], [] => some (Pure.impl_SizeOfSpin_ok F x0 x1 x2 x3, ⟨V.at (A.fl FloatKind.f32 (Pure.impl_SizeOfSpin F x0 x1 x2 x3)), none, []⟩)
  | _, _ => none
theorem e_impl_SizeOfSpin (F : FOps) (x0 : Int) (x1 : Int) (x2 : Int) (x3 : Int) : Pure.impl_SizeOfSpin_ok F x0 x1 x2 x3 = true → evFn (cxS F tyl [(40, c_impl_products F), (39, c_impl_RootNumber F)] [] [] 0) Try.f12 false [V.agg [A.fl FloatKind.f32 x0, A.fl FloatKind.f32 x1, A.fl FloatKind.f32 x2, A.fl FloatKind.f32 x3]] [] = some ⟨V.at (A.fl FloatKind.f32 (Pure.impl_SizeOfSpin F x0 x1 x2 x3)), none, []⟩ := by
  have h0 : evFn (cxS F tyl [(40, c_impl_products F), (39, c_impl_RootNumber F)] [] [] 0) Try.f12 false [V.agg [A.fl FloatKind.f32 x0, A.fl FloatKind.f32 x1, A.fl FloatKind.f32 x2, A.fl FloatKind.f32 x3]] [] = bif Pure.impl_RootNumber_ok F (Pure.impl_products F x0 x1 x2 x3 x0 x1 x2 x3) then some ⟨V.at (A.fl FloatKind.f32 (Pure.impl_RootNumber F (Pure.impl_products F x0 x1 x2 x3 x0 x1 x2 x3))), none, []⟩ else none := by kernel_rfl
  rw [h0]
  unfold Pure.impl_SizeOfSpin Pure.impl_SizeOfSpin_ok
  cases (Pure.impl_RootNumber_ok F (Pure.impl_products F x0 x1 x2 x3 x0 x1 x2 x3)) with
  | true =>
    intro _; rfl
  | false =>
    intro h; exact absurd h Bool.false_ne_true
theorem ok_impl_SizeOfSpin : CallOK Try.prog 12 (c_impl_SizeOfSpin real) := by
  refine callOK_of fun args h ret hc => ?_
  unfold c_impl_SizeOfSpin at hc
  split at hc
  · rename_i x0 x1 x2 x3
    obtain ⟨hok, rfl⟩ := some_ret hc
    exact holds_ev prog_ok (allOK_cons ok_impl_products (allOK_cons ok_impl_RootNumber allOK_nil)) Try.func12 rfl rfl smL_nil rfl (e_impl_SizeOfSpin real x0 x1 x2 x3 hok)
  · cases hc
def Pure.impl_toldSpin (F : FOps) (x0 : Int) (x1 : Int) (x2 : Int) (x3 : Int) : Int := bif Pure.impl_IsSpin F x0 x1 x2 x3 then x0 else 0
def Pure.impl_toldSpin_1 (F : FOps) (x0 : Int) (x1 : Int) (x2 : Int) (x3 : Int) : Int := bif Pure.impl_IsSpin F x0 x1 x2 x3 then x1 else 0
def Pure.impl_toldSpin_2 (F : FOps) (x0 : Int) (x1 : Int) (x2 : Int) (x3 : Int) : Int := bif Pure.impl_IsSpin F x0 x1 x2 x3 then x2 else 0
def Pure.impl_toldSpin_3 (F : FOps) (x0 : Int) (x1 : Int) (x2 : Int) (x3 : Int) : Int := bif Pure.impl_IsSpin F x0 x1 x2 x3 then x3 else 0
def Pure.impl_toldSpin_ok (F : FOps) (x0 : Int) (x1 : Int) (x2 : Int) (x3 : Int) : Bool := Pure.impl_IsSpin_ok F x0 x1 x2 x3
def c_impl_toldSpin (F : FOps) : Con
  | [V.agg [A.fl FloatKind.f32 x0, A.fl FloatKind.f32 x1, A.fl FloatKind.f32 x2, A.fl FloatKind.f32 x3]], [] => some (Pure.impl_toldSpin_ok F x0 x1 x2 x3, ⟨V.tup [(true, [A.fl FloatKind.f32 (Pure.impl_toldSpin F x0 x1 x2 x3), A.fl FloatKind.f32 (Pure.impl_toldSpin_1 F x0 x1 x2 x3), A.fl FloatKind.f32 (Pure.impl_toldSpin_2 F x0 x1 x2 x3), A.fl FloatKind.f32 (Pure.impl_toldSpin_3 F x0 x1 x2 x3)]), (false, [A.bool (Pure.impl_IsSpin F x0 x1 x2 x3)])], none, []⟩)
  | _, _ => none
theorem e_impl_toldSpin (F : FOps) (x0 : Int) (x1 : Int) (x2 : Int) (x3 : Int) : Pure.impl_toldSpin_ok F x0 x1 x2 x3 = true → evFn (cxS F tyl [(15, c_impl_IsSpin F)] [] [] 0) Try.f41 false [V.agg [A.fl FloatKind.f32 x0, A.fl FloatKind.f32 x1, A.fl FloatKind.f32 x2, A.fl FloatKind.f32 x3]] [] = some ⟨V.tup [(true, [A.fl FloatKind.f32 (Pure.impl_toldSpin F x0 x1 x2 x3), A.fl FloatKind.f32 (Pure.impl_toldSpin_1 F x0 x1 x2 x3), A.fl FloatKind.f32 (Pure.impl_toldSpin_2 F x0 x1 x2 x3), A.fl FloatKind.f32 (Pure.impl_toldSpin_3 F x0 x1 x2 x3)]), (false, [A.bool (Pure.impl_IsSpin F x0 x1 x2 x3)])], none, []⟩ := by
  have h0 : evFn (cxS F tyl [(15, c_impl_IsSpin F)] [] [] 0) Try.f41 false [V.agg [A.fl FloatKind.f32 x0, A.fl FloatKind.f32 x1, A.fl FloatKind.f32 x2, A.fl FloatKind.f32 x3]] [] = bif Pure.impl_IsSpin_ok F x0 x1 x2 x3 then bif Bool.not (Pure.impl_IsSpin F x0 x1 x2 x3) then some ⟨V.tup [(true, [A.fl FloatKind.f32 0, A.fl FloatKind.f32 0, A.fl FloatKind.f32 0, A.fl FloatKind.f32 0]), (false, [A.bool false])], none, []⟩ else some ⟨V.tup [(true, [A.fl FloatKind.f32 x0, A.fl FloatKind.f32 x1, A.fl FloatKind.f32 x2, A.fl FloatKind.f32 x3]), (false, [A.bool true])], none, []⟩ else none := by kernel_rfl
  rw [h0]
  unfold Pure.impl_toldSpin Pure.impl_toldSpin_1 Pure.impl_toldSpin_2 Pure.impl_toldSpin_3 Pure.impl_toldSpin_ok
  cases (Pure.impl_IsSpin_ok F x0 x1 x2 x3) with
  | true =>
    cases (Pure.impl_IsSpin F x0 x1 x2 x3) with
    | true =>
      intro _; rfl
    | false =>
      intro _; rfl
  | false =>
    intro h; exact absurd h Bool.false_ne_true
theorem ok_impl_toldSpin : CallOK Try.prog 41 (c_impl_toldSpin real) := by
  refine callOK_of fun args h ret hc => ?_
  unfold c_impl_toldSpin at hc
  split at hc
  · rename_i x0 x1 x2 x3
    obtain ⟨hok, rfl⟩ := some_ret hc
    exact holds_ev prog_ok (allOK_cons ok_impl_IsSpin allOK_nil) Try.func41 rfl rfl smL_nil rfl (e_impl_toldSpin real x0 x1 x2 x3 hok)
  · cases hc
def Pure.impl_NormSpin (F : FOps) (x0 : Int) (x1 : Int) (x2 : Int) (x3 : Int) : Int := bif Pure.impl_IsSpin F x0 x1 x2 x3 then Pure.impl_toldSpin F (FOps.bin F BinOp.quo FloatKind.f32 x0 (Pure.impl_SizeOfSpin F x0 x1 x2 x3)) (FOps.bin F BinOp.quo FloatKind.f32 x1 (Pure.impl_SizeOfSpin F x0 x1 x2 x3)) (FOps.bin F BinOp.quo FloatKind.f32 x2 (Pure.impl_SizeOfSpin F x0 x1 x2 x3)) (FOps.bin F BinOp.quo FloatKind.f32 x3 (Pure.impl_SizeOfSpin F x0 x1 x2 x3)) else 0
def Pure.impl_NormSpin_1 (F : FOps) (x0 : Int) (x1 : Int) (x2 : Int) (x3 : Int) : Int := bif Pure.impl_IsSpin F x0 x1 x2 x3 then Pure.impl_toldSpin_1 F (FOps.bin F BinOp.quo FloatKind.f32 x0 (Pure.impl_SizeOfSpin F x0 x1 x2 x3)) (FOps.bin F BinOp.quo FloatKind.f32 x1 (Pure.impl_SizeOfSpin F x0 x1 x2 x3)) (FOps.bin F BinOp.quo FloatKind.f32 x2 (Pure.impl_SizeOfSpin F x0 x1 x2 x3)) (FOps.bin F BinOp.quo FloatKind.f32 x3 (Pure.impl_SizeOfSpin F x0 x1 x2 x3)) else 0
def Pure.impl_NormSpin_2 (F : FOps) (x0 : Int) (x1 : Int) (x2 : Int) (x3 : Int) : Int := bif Pure.impl_IsSpin F x0 x1 x2 x3 then Pure.impl_toldSpin_2 F (FOps.bin F BinOp.quo FloatKind.f32 x0 (Pure.impl_SizeOfSpin F x0 x1 x2 x3)) (FOps.bin F BinOp.quo FloatKind.f32 x1 (Pure.impl_SizeOfSpin F x0 x1 x2 x3)) (FOps.bin F BinOp.quo FloatKind.f32 x2 (Pure.impl_SizeOfSpin F x0 x1 x2 x3)) (FOps.bin F BinOp.quo FloatKind.f32 x3 (Pure.impl_SizeOfSpin F x0 x1 x2 x3)) else 0
def Pure.impl_NormSpin_3 (F : FOps) (x0 : Int) (x1 : Int) (x2 : Int) (x3 : Int) : Int := bif Pure.impl_IsSpin F x0 x1 x2 x3 then Pure.impl_toldSpin_3 F (FOps.bin F BinOp.quo FloatKind.f32 x0 (Pure.impl_SizeOfSpin F x0 x1 x2 x3)) (FOps.bin F BinOp.quo FloatKind.f32 x1 (Pure.impl_SizeOfSpin F x0 x1 x2 x3)) (FOps.bin F BinOp.quo FloatKind.f32 x2 (Pure.impl_SizeOfSpin F x0 x1 x2 x3)) (FOps.bin F BinOp.quo FloatKind.f32 x3 (Pure.impl_SizeOfSpin F x0 x1 x2 x3)) else 0
def Pure.impl_NormSpin_4 (F : FOps) (x0 : Int) (x1 : Int) (x2 : Int) (x3 : Int) : Bool := bif Pure.impl_IsSpin F x0 x1 x2 x3 then Pure.impl_IsSpin F (FOps.bin F BinOp.quo FloatKind.f32 x0 (Pure.impl_SizeOfSpin F x0 x1 x2 x3)) (FOps.bin F BinOp.quo FloatKind.f32 x1 (Pure.impl_SizeOfSpin F x0 x1 x2 x3)) (FOps.bin F BinOp.quo FloatKind.f32 x2 (Pure.impl_SizeOfSpin F x0 x1 x2 x3)) (FOps.bin F BinOp.quo FloatKind.f32 x3 (Pure.impl_SizeOfSpin F x0 x1 x2 x3)) else false
def Pure.impl_NormSpin_ok (F : FOps) (x0 : Int) (x1 : Int) (x2 : Int) (x3 : Int) : Bool := bif Pure.impl_IsSpin_ok F x0 x1 x2 x3 then bif Pure.impl_IsSpin F x0 x1 x2 x3 then bif Pure.impl_SizeOfSpin_ok F x0 x1 x2 x3 then Pure.impl_toldSpin_ok F (FOps.bin F BinOp.quo FloatKind.f32 x0 (Pure.impl_SizeOfSpin F x0 x1 x2 x3)) (FOps.bin F BinOp.quo FloatKind.f32 x1 (Pure.impl_SizeOfSpin F x0 x1 x2 x3)) (FOps.bin F BinOp.quo FloatKind.f32 x2 (Pure.impl_SizeOfSpin F x0 x1 x2 x3)) (FOps.bin F BinOp.quo FloatKind.f32 x3 (Pure.impl_SizeOfSpin F x0 x1 x2 x3)) else false else true else false
def c_impl_NormSpin (F : FOps) : Con
  | [V.agg [A.fl FloatKind.f32 x0, A.fl FloatKind.f32 x1, A.fl FloatKind.f32 x2, A.fl FloatKind.f32 x3]], [] => some (Pure.impl_NormSpin_ok F x0 x1 x2 x3, ⟨V.tup [(true, [A.fl FloatKind.f32 (Pure.impl_NormSpin F x0 x1 x2 x3), A.fl FloatKind.f32 (Pure.impl_NormSpin_1 F x0 x1 x2 x3), A.fl FloatKind.f32 (Pure.impl_NormSpin_2 F x0 x1 x2 x3), A.fl FloatKind.f32 (Pure.impl_NormSpin_3 F x0 x1 x2 x3)]), (false, [A.bool (Pure.impl_NormSpin_4 F x0 x1 x2 x3)])], none, []⟩)
  | _, _ => none
theorem e_impl_NormSpin (F : FOps) (x0 : Int) (x1 : Int) (x2 : Int) (x3 : Int) : Pure.impl_NormSpin_ok F x0 x1 x2 x3 = true → evFn (cxS F tyl [(15, c_impl_IsSpin F), (12, c_impl_SizeOfSpin F), (41, c_impl_toldSpin F)] [] [] 0) Try.f13 false [V.agg [A.fl FloatKind.f32 x0, A.fl FloatKind.f32 x1, A.fl FloatKind.f32 x2, A.fl FloatKind.f32 x3]] [] = some ⟨V.tup [(true, [A.fl FloatKind.f32 (Pure.impl_NormSpin F x0 x1 x2 x3), A.fl FloatKind.f32 (Pure.impl_NormSpin_1 F x0 x1 x2 x3), A.fl FloatKind.f32 (Pure.impl_NormSpin_2 F x0 x1 x2 x3), A.fl FloatKind.f32 (Pure.impl_NormSpin_3 F x0 x1 x2 x3)]), (false, [A.bool (Pure.impl_NormSpin_4 F x0 x1 x2 x3)])], none, []⟩ := by
  have h0 : evFn (cxS F tyl [(15, c_impl_IsSpin F), (12, c_impl_SizeOfSpin F), (41, c_impl_toldSpin F)] [] [] 0) Try.f13 false [V.agg [A.fl FloatKind.f32 x0, A.fl FloatKind.f32 x1, A.fl FloatKind.f32 x2, A.fl FloatKind.f32 x3]] [] = bif Pure.impl_IsSpin_ok F x0 x1 x2 x3 then bif Bool.not (Pure.impl_IsSpin F x0 x1 x2 x3) then some ⟨V.tup [(true, [A.fl FloatKind.f32 0, A.fl FloatKind.f32 0, A.fl FloatKind.f32 0, A.fl FloatKind.f32 0]), (false, [A.bool false])], none, []⟩ else bif Pure.impl_SizeOfSpin_ok F x0 x1 x2 x3 then bif Pure.impl_toldSpin_ok F (FOps.bin F BinOp.quo FloatKind.f32 x0 (Pure.impl_SizeOfSpin F x0 x1 x2 x3)) (FOps.bin F BinOp.quo FloatKind.f32 x1 (Pure.impl_SizeOfSpin F x0 x1 x2 x3)) (FOps.bin F BinOp.quo FloatKind.f32 x2 (Pure.impl_SizeOfSpin F x0 x1 x2 x3)) (FOps.bin F BinOp.quo FloatKind.f32 x3 (Pure.impl_SizeOfSpin F x0 x1 x2 x3)) then some ⟨V.tup [(true, [A.fl FloatKind.f32 (Pure.impl_toldSpin F (FOps.bin F BinOp.quo FloatKind.f32 x0 (Pure.impl_SizeOfSpin F x0 x1 x2 x3)) (FOps.bin F BinOp.quo FloatKind.f32 x1 (Pure.impl_SizeOfSpin F x0 x1 x2 x3)) (FOps.bin F BinOp.quo FloatKind.f32 x2 (Pure.impl_SizeOfSpin F x0 x1 x2 x3)) (FOps.bin F BinOp.quo FloatKind.f32 x3 (Pure.impl_SizeOfSpin F x0 x1 x2 x3))), A.fl FloatKind.f32 (Pure.impl_toldSpin_1 F (FOps.bin F BinOp.quo FloatKind.f32 x0 (Pure.impl_SizeOfSpin F x0 x1 x2 x3)) (FOps.bin F BinOp.quo FloatKind.f32 x1 (Pure.impl_SizeOfSpin F x0 x1 x2 x3)) (FOps.bin F BinOp.quo FloatKind.f32 x2 (Pure.impl_SizeOfSpin F x0 x1 x2 x3)) (FOps.bin F BinOp.quo FloatKind.f32 x3 (Pure.impl_SizeOfSpin F x0 x1 x2 x3))), A.fl FloatKind.f32 (Pure.impl_toldSpin_2 F (FOps.bin F BinOp.quo FloatKind.f32 x0 (Pure.impl_SizeOfSpin F x0 x1 x2 x3)) (FOps.bin F BinOp.quo FloatKind.f32 x1 (Pure.impl_SizeOfSpin F x0 x1 x2 x3)) (FOps.bin F BinOp.quo FloatKind.f32 x2 (Pure.impl_SizeOfSpin F x0 x1 x2 x3)) (FOps.bin F BinOp.quo FloatKind.f32 x3 (Pure.impl_SizeOfSpin F x0 x1 x2 x3))), A.fl FloatKind.f32 (Pure.impl_toldSpin_3 F (FOps.bin F BinOp.quo FloatKind.f32 x0 (Pure.impl_SizeOfSpin F x0 x1 x2 x3)) (FOps.bin F BinOp.quo FloatKind.f32 x1 (Pure.impl_SizeOfSpin F x0 x1 x2 x3)) (FOps.bin F BinOp.quo FloatKind.f32 x2 (Pure.impl_SizeOfSpin F x0 x1 x2 x3)) (FOps.bin F BinOp.quo FloatKind.f32 x3 (Pure.impl_SizeOfSpin F x0 x1 x2 x3)))]), (false, [A.bool (Pure.impl_IsSpin F (FOps.bin F BinOp.quo FloatKind.f32 x0 (Pure.impl_SizeOfSpin F x0 x1 x2 x3)) (FOps.bin F BinOp.quo FloatKind.f32 x1 (Pure.impl_SizeOfSpin F x0 x1 x2 x3)) (FOps.bin F BinOp.quo FloatKind.f32 x2 (Pure.impl_SizeOfSpin F x0 x1 x2 x3)) (FOps.bin F BinOp.quo FloatKind.f32 x3 (Pure.impl_SizeOfSpin F x0 x1 x2 x3)))])], none, []⟩ else none else none else none := by kernel_rfl
  rw [h0]
  unfold Pure.impl_NormSpin Pure.impl_NormSpin_1 Pure.impl_NormSpin_2 Pure.impl_NormSpin_3 Pure.impl_NormSpin_4 Pure.impl_NormSpin_ok
  cases (Pure.impl_IsSpin_ok F x0 x1 x2 x3) with
  | true =>
    cases (Pure.impl_IsSpin F x0 x1 x2 x3) with
    | true =>
      cases (Pure.impl_SizeOfSpin_ok F x0 x1 x2 x3) with
      | true =>
        cases (Pure.impl_toldSpin_ok F (FOps.bin F BinOp.quo FloatKind.f32 x0 (Pure.impl_SizeOfSpin F x0 x1 x2 x3)) (FOps.bin F BinOp.quo FloatKind.f32 x1 (Pure.impl_SizeOfSpin F x0 x1 x2 x3)) (FOps.bin F BinOp.quo FloatKind.f32 x2 (Pure.impl_SizeOfSpin F x0 x1 x2 x3)) (FOps.bin F BinOp.quo FloatKind.f32 x3 (Pure.impl_SizeOfSpin F x0 x1 x2 x3))) with
        | true =>
          intro _; rfl
        | false =>
          intro h; exact absurd h Bool.false_ne_true
      | false =>
        intro h; exact absurd h Bool.false_ne_true
    | false =>
      intro _; rfl
  | false =>
    intro h; exact absurd h Bool.false_ne_true
theorem ok_impl_NormSpin : CallOK Try.prog 13 (c_impl_NormSpin real) := by
  refine callOK_of fun args h ret hc => ?_
  unfold c_impl_NormSpin at hc
  split at hc
  · rename_i x0 x1 x2 x3
    obtain ⟨hok, rfl⟩ := some_ret hc
    exact holds_ev prog_ok (allOK_cons ok_impl_IsSpin (allOK_cons ok_impl_SizeOfSpin (allOK_cons ok_impl_toldSpin allOK_nil))) Try.func13 rfl rfl smL_nil rfl (e_impl_NormSpin real x0 x1 x2 x3 hok)
  · cases hc
def Pure.s68_f24 (F : FOps) (x0 : Int) (x1 : Int) (x2 : Int) (x7 : Int) (x8 : Int) (x9 : Int) (x10 : Int) (x11 : Int) (x12 : Int) (x13 : Int) : Int := Pure.impl_ScaleVector F (Pure.impl_Top_rate_c1 F x1 x2 x0 x8 x9 x10) (Pure.impl_Top_rate_c1 F x2 x0 x1 x9 x7 x11) (Pure.impl_Top_rate_c1 F x0 x1 x2 x7 x8 x12) (FOps.bin F BinOp.quo FloatKind.f32 x13 1073741824)
def Pure.s69_f24 (F : FOps) (x0 : Int) (x1 : Int) (x2 : Int) (x7 : Int) (x8 : Int) (x9 : Int) (x10 : Int) (x11 : Int) (x12 : Int) (x13 : Int) : Int := Pure.impl_ScaleVector_1 F (Pure.impl_Top_rate_c1 F x1 x2 x0 x8 x9 x10) (Pure.impl_Top_rate_c1 F x2 x0 x1 x9 x7 x11) (Pure.impl_Top_rate_c1 F x0 x1 x2 x7 x8 x12) (FOps.bin F BinOp.quo FloatKind.f32 x13 1073741824)
def Pure.s70_f24 (F : FOps) (x0 : Int) (x1 : Int) (x2 : Int) (x7 : Int) (x8 : Int) (x9 : Int) (x10 : Int) (x11 : Int) (x12 : Int) (x13 : Int) : Int := Pure.impl_ScaleVector_2 F (Pure.impl_Top_rate_c1 F x1 x2 x0 x8 x9 x10) (Pure.impl_Top_rate_c1 F x2 x0 x1 x9 x7 x11) (Pure.impl_Top_rate_c1 F x0 x1 x2 x7 x8 x12) (FOps.bin F BinOp.quo FloatKind.f32 x13 1073741824)
def Pure.s71_f24 (F : FOps) (x0 : Int) (x1 : Int) (x2 : Int) (x7 : Int) (x8 : Int) (x9 : Int) (x10 : Int) (x11 : Int) (x12 : Int) (x13 : Int) : Int := Pure.impl_AddVectors F x7 x8 x9 (Pure.s68_f24 F x0 x1 x2 x7 x8 x9 x10 x11 x12 x13) (Pure.s69_f24 F x0 x1 x2 x7 x8 x9 x10 x11 x12 x13) (Pure.s70_f24 F x0 x1 x2 x7 x8 x9 x10 x11 x12 x13)
def Pure.s72_f24 (F : FOps) (x0 : Int) (x1 : Int) (x2 : Int) (x7 : Int) (x8 : Int) (x9 : Int) (x10 : Int) (x11 : Int) (x12 : Int) (x13 : Int) : Int := Pure.impl_AddVectors_1 F x7 x8 x9 (Pure.s68_f24 F x0 x1 x2 x7 x8 x9 x10 x11 x12 x13) (Pure.s69_f24 F x0 x1 x2 x7 x8 x9 x10 x11 x12 x13) (Pure.s70_f24 F x0 x1 x2 x7 x8 x9 x10 x11 x12 x13)
def Pure.s73_f24 (F : FOps) (x0 : Int) (x1 : Int) (x2 : Int) (x7 : Int) (x8 : Int) (x9 : Int) (x10 : Int) (x11 : Int) (x12 : Int) (x13 : Int) : Int := Pure.impl_AddVectors_2 F x7 x8 x9 (Pure.s68_f24 F x0 x1 x2 x7 x8 x9 x10 x11 x12 x13) (Pure.s69_f24 F x0 x1 x2 x7 x8 x9 x10 x11 x12 x13) (Pure.s70_f24 F x0 x1 x2 x7 x8 x9 x10 x11 x12 x13)
def Pure.s74_f24 (F : FOps) (x0 : Int) (x1 : Int) (x2 : Int) (x3 : Int) (x4 : Int) (x5 : Int) (x6 : Int) (x7 : Int) (x8 : Int) (x9 : Int) (x10 : Int) (x11 : Int) (x12 : Int) (x13 : Int) : Int := Pure.impl_signed F x3 x4 x5 x6 0 (Pure.s71_f24 F x0 x1 x2 x7 x8 x9 x10 x11 x12 x13) (Pure.s72_f24 F x0 x1 x2 x7 x8 x9 x10 x11 x12 x13) (Pure.s73_f24 F x0 x1 x2 x7 x8 x9 x10 x11 x12 x13) 3212836864 3212836864 3212836864
def Pure.s75_f24 (F : FOps) (x0 : Int) (x1 : Int) (x2 : Int) (x3 : Int) (x4 : Int) (x5 : Int) (x6 : Int) (x7 : Int) (x8 : Int) (x9 : Int) (x10 : Int) (x11 : Int) (x12 : Int) (x13 : Int) : Int := Pure.impl_signed F x3 x4 x5 x6 (Pure.s71_f24 F x0 x1 x2 x7 x8 x9 x10 x11 x12 x13) 0 (Pure.s73_f24 F x0 x1 x2 x7 x8 x9 x10 x11 x12 x13) (Pure.s72_f24 F x0 x1 x2 x7 x8 x9 x10 x11 x12 x13) 1065353216 1065353216 3212836864
def Pure.s76_f24 (F : FOps) (x0 : Int) (x1 : Int) (x2 : Int) (x3 : Int) (x4 : Int) (x5 : Int) (x6 : Int) (x7 : Int) (x8 : Int) (x9 : Int) (x10 : Int) (x11 : Int) (x12 : Int) (x13 : Int) : Int := Pure.impl_signed F x3 x4 x5 x6 (Pure.s72_f24 F x0 x1 x2 x7 x8 x9 x10 x11 x12 x13) (Pure.s73_f24 F x0 x1 x2 x7 x8 x9 x10 x11 x12 x13) 0 (Pure.s71_f24 F x0 x1 x2 x7 x8 x9 x10 x11 x12 x13) 3212836864 1065353216 1065353216
def Pure.s77_f24 (F : FOps) (x0 : Int) (x1 : Int) (x2 : Int) (x3 : Int) (x4 : Int) (x5 : Int) (x6 : Int) (x7 : Int) (x8 : Int) (x9 : Int) (x10 : Int) (x11 : Int) (x12 : Int) (x13 : Int) : Int := Pure.impl_signed F x3 x4 x5 x6 (Pure.s73_f24 F x0 x1 x2 x7 x8 x9 x10 x11 x12 x13) (Pure.s72_f24 F x0 x1 x2 x7 x8 x9 x10 x11 x12 x13) (Pure.s71_f24 F x0 x1 x2 x7 x8 x9 x10 x11 x12 x13) 0 1065353216 3212836864 1065353216
def Pure.s78_f24 (F : FOps) (x0 : Int) (x1 : Int) (x2 : Int) (x3 : Int) (x4 : Int) (x5 : Int) (x6 : Int) (x7 : Int) (x8 : Int) (x9 : Int) (x10 : Int) (x11 : Int) (x12 : Int) (x13 : Int) : Int := Pure.impl_along F x3 x4 x5 x6 (Pure.s74_f24 F x0 x1 x2 x3 x4 x5 x6 x7 x8 x9 x10 x11 x12 x13) (Pure.s75_f24 F x0 x1 x2 x3 x4 x5 x6 x7 x8 x9 x10 x11 x12 x13) (Pure.s76_f24 F x0 x1 x2 x3 x4 x5 x6 x7 x8 x9 x10 x11 x12 x13) (Pure.s77_f24 F x0 x1 x2 x3 x4 x5 x6 x7 x8 x9 x10 x11 x12 x13) (FOps.bin F BinOp.quo FloatKind.f32 x13 1073741824)
def Pure.s79_f24 (F : FOps) (x0 : Int) (x1 : Int) (x2 : Int) (x3 : Int) (x4 : Int) (x5 : Int) (x6 : Int) (x7 : Int) (x8 : Int) (x9 : Int) (x10 : Int) (x11 : Int) (x12 : Int) (x13 : Int) : Int := Pure.impl_along_1 F x3 x4 x5 x6 (Pure.s74_f24 F x0 x1 x2 x3 x4 x5 x6 x7 x8 x9 x10 x11 x12 x13) (Pure.s75_f24 F x0 x1 x2 x3 x4 x5 x6 x7 x8 x9 x10 x11 x12 x13) (Pure.s76_f24 F x0 x1 x2 x3 x4 x5 x6 x7 x8 x9 x10 x11 x12 x13) (Pure.s77_f24 F x0 x1 x2 x3 x4 x5 x6 x7 x8 x9 x10 x11 x12 x13) (FOps.bin F BinOp.quo FloatKind.f32 x13 1073741824)
def Pure.s80_f24 (F : FOps) (x0 : Int) (x1 : Int) (x2 : Int) (x3 : Int) (x4 : Int) (x5 : Int) (x6 : Int) (x7 : Int) (x8 : Int) (x9 : Int) (x10 : Int) (x11 : Int) (x12 : Int) (x13 : Int) : Int := Pure.impl_along_2 F x3 x4 x5 x6 (Pure.s74_f24 F x0 x1 x2 x3 x4 x5 x6 x7 x8 x9 x10 x11 x12 x13) (Pure.s75_f24 F x0 x1 x2 x3 x4 x5 x6 x7 x8 x9 x10 x11 x12 x13) (Pure.s76_f24 F x0 x1 x2 x3 x4 x5 x6 x7 x8 x9 x10 x11 x12 x13) (Pure.s77_f24 F x0 x1 x2 x3 x4 x5 x6 x7 x8 x9 x10 x11 x12 x13) (FOps.bin F BinOp.quo FloatKind.f32 x13 1073741824)
def Pure.s81_f24 (F : FOps) (x0 : Int) (x1 : Int) (x2 : Int) (x3 : Int) (x4 : Int) (x5 : Int) (x6 : Int) (x7 : Int) (x8 : Int) (x9 : Int) (x10 : Int) (x11 : Int) (x12 : Int) (x13 : Int) : Int := Pure.impl_along_3 F x3 x4 x5 x6 (Pure.s74_f24 F x0 x1 x2 x3 x4 x5 x6 x7 x8 x9 x10 x11 x12 x13) (Pure.s75_f24 F x0 x1 x2 x3 x4 x5 x6 x7 x8 x9 x10 x11 x12 x13) (Pure.s76_f24 F x0 x1 x2 x3 x4 x5 x6 x7 x8 x9 x10 x11 x12 x13) (Pure.s77_f24 F x0 x1 x2 x3 x4 x5 x6 x7 x8 x9 x10 x11 x12 x13) (FOps.bin F BinOp.quo FloatKind.f32 x13 1073741824)
def Pure.s82_f24 (F : FOps) (x0 : Int) (x1 : Int) (x2 : Int) (x7 : Int) (x8 : Int) (x9 : Int) (x10 : Int) (x11 : Int) (x12 : Int) (x13 : Int) : Int := Pure.impl_Top_rate_c1 F x1 x2 x0 (Pure.s72_f24 F x0 x1 x2 x7 x8 x9 x10 x11 x12 x13) (Pure.s73_f24 F x0 x1 x2 x7 x8 x9 x10 x11 x12 x13) x10
def Pure.s83_f24 (F : FOps) (x0 : Int) (x1 : Int) (x2 : Int) (x7 : Int) (x8 : Int) (x9 : Int) (x10 : Int) (x11 : Int) (x12 : Int) (x13 : Int) : Int := Pure.impl_Top_rate_c1 F x2 x0 x1 (Pure.s73_f24 F x0 x1 x2 x7 x8 x9 x10 x11 x12 x13) (Pure.s71_f24 F x0 x1 x2 x7 x8 x9 x10 x11 x12 x13) x11
def Pure.s84_f24 (F : FOps) (x0 : Int) (x1 : Int) (x2 : Int) (x7 : Int) (x8 : Int) (x9 : Int) (x10 : Int) (x11 : Int) (x12 : Int) (x13 : Int) : Int := Pure.impl_Top_rate_c1 F x0 x1 x2 (Pure.s71_f24 F x0 x1 x2 x7 x8 x9 x10 x11 x12 x13) (Pure.s72_f24 F x0 x1 x2 x7 x8 x9 x10 x11 x12 x13) x12
def Pure.s85_f24 (F : FOps) (x0 : Int) (x1 : Int) (x2 : Int) (x3 : Int) (x4 : Int) (x5 : Int) (x6 : Int) (x7 : Int) (x8 : Int) (x9 : Int) (x10 : Int) (x11 : Int) (x12 : Int) (x13 : Int) : Int := Pure.impl_NormSpin F (Pure.s78_f24 F x0 x1 x2 x3 x4 x5 x6 x7 x8 x9 x10 x11 x12 x13) (Pure.s79_f24 F x0 x1 x2 x3 x4 x5 x6 x7 x8 x9 x10 x11 x12 x13) (Pure.s80_f24 F x0 x1 x2 x3 x4 x5 x6 x7 x8 x9 x10 x11 x12 x13) (Pure.s81_f24 F x0 x1 x2 x3 x4 x5 x6 x7 x8 x9 x10 x11 x12 x13)
def Pure.s86_f24 (F : FOps) (x0 : Int) (x1 : Int) (x2 : Int) (x3 : Int) (x4 : Int) (x5 : Int) (x6 : Int) (x7 : Int) (x8 : Int) (x9 : Int) (x10 : Int) (x11 : Int) (x12 : Int) (x13 : Int) : Int := Pure.impl_NormSpin_1 F (Pure.s78_f24 F x0 x1 x2 x3 x4 x5 x6 x7 x8 x9 x10 x11 x12 x13) (Pure.s79_f24 F x0 x1 x2 x3 x4 x5 x6 x7 x8 x9 x10 x11 x12 x13) (Pure.s80_f24 F x0 x1 x2 x3 x4 x5 x6 x7 x8 x9 x10 x11 x12 x13) (Pure.s81_f24 F x0 x1 x2 x3 x4 x5 x6 x7 x8 x9 x10 x11 x12 x13)
def Pure.s87_f24 (F : FOps) (x0 : Int) (x1 : Int) (x2 : Int) (x3 : Int) (x4 : Int) (x5 : Int) (x6 : Int) (x7 : Int) (x8 : Int) (x9 : Int) (x10 : Int) (x11 : Int) (x12 : Int) (x13 : Int) : Int := Pure.impl_NormSpin_2 F (Pure.s78_f24 F x0 x1 x2 x3 x4 x5 x6 x7 x8 x9 x10 x11 x12 x13) (Pure.s79_f24 F x0 x1 x2 x3 x4 x5 x6 x7 x8 x9 x10 x11 x12 x13) (Pure.s80_f24 F x0 x1 x2 x3 x4 x5 x6 x7 x8 x9 x10 x11 x12 x13) (Pure.s81_f24 F x0 x1 x2 x3 x4 x5 x6 x7 x8 x9 x10 x11 x12 x13)
def Pure.s88_f24 (F : FOps) (x0 : Int) (x1 : Int) (x2 : Int) (x3 : Int) (x4 : Int) (x5 : Int) (x6 : Int) (x7 : Int) (x8 : Int) (x9 : Int) (x10 : Int) (x11 : Int) (x12 : Int) (x13 : Int) : Int := Pure.impl_NormSpin_3 F (Pure.s78_f24 F x0 x1 x2 x3 x4 x5 x6 x7 x8 x9 x10 x11 x12 x13) (Pure.s79_f24 F x0 x1 x2 x3 x4 x5 x6 x7 x8 x9 x10 x11 x12 x13) (Pure.s80_f24 F x0 x1 x2 x3 x4 x5 x6 x7 x8 x9 x10 x11 x12 x13) (Pure.s81_f24 F x0 x1 x2 x3 x4 x5 x6 x7 x8 x9 x10 x11 x12 x13)
def Pure.s89_f24 (F : FOps) (x0 : Int) (x1 : Int) (x2 : Int) (x7 : Int) (x8 : Int) (x9 : Int) (x10 : Int) (x11 : Int) (x12 : Int) (x13 : Int) : Int := Pure.impl_ScaleVector F (Pure.s82_f24 F x0 x1 x2 x7 x8 x9 x10 x11 x12 x13) (Pure.s83_f24 F x0 x1 x2 x7 x8 x9 x10 x11 x12 x13) (Pure.s84_f24 F x0 x1 x2 x7 x8 x9 x10 x11 x12 x13) x13
def Pure.s90_f24 (F : FOps) (x0 : Int) (x1 : Int) (x2 : Int) (x7 : Int) (x8 : Int) (x9 : Int) (x10 : Int) (x11 : Int) (x12 : Int) (x13 : Int) : Int := Pure.impl_ScaleVector_1 F (Pure.s82_f24 F x0 x1 x2 x7 x8 x9 x10 x11 x12 x13) (Pure.s83_f24 F x0 x1 x2 x7 x8 x9 x10 x11 x12 x13) (Pure.s84_f24 F x0 x1 x2 x7 x8 x9 x10 x11 x12 x13) x13
def Pure.s91_f24 (F : FOps) (x0 : Int) (x1 : Int) (x2 : Int) (x7 : Int) (x8 : Int) (x9 : Int) (x10 : Int) (x11 : Int) (x12 : Int) (x13 : Int) : Int := Pure.impl_ScaleVector_2 F (Pure.s82_f24 F x0 x1 x2 x7 x8 x9 x10 x11 x12 x13) (Pure.s83_f24 F x0 x1 x2 x7 x8 x9 x10 x11 x12 x13) (Pure.s84_f24 F x0 x1 x2 x7 x8 x9 x10 x11 x12 x13) x13
def Pure.s92_f24 (F : FOps) (x0 : Int) (x1 : Int) (x2 : Int) (x7 : Int) (x8 : Int) (x9 : Int) (x10 : Int) (x11 : Int) (x12 : Int) (x13 : Int) : Int := Pure.impl_AddVectors F x7 x8 x9 (Pure.s89_f24 F x0 x1 x2 x7 x8 x9 x10 x11 x12 x13) (Pure.s90_f24 F x0 x1 x2 x7 x8 x9 x10 x11 x12 x13) (Pure.s91_f24 F x0 x1 x2 x7 x8 x9 x10 x11 x12 x13)
def Pure.s93_f24 (F : FOps) (x0 : Int) (x1 : Int) (x2 : Int) (x7 : Int) (x8 : Int) (x9 : Int) (x10 : Int) (x11 : Int) (x12 : Int) (x13 : Int) : Int := Pure.impl_AddVectors_1 F x7 x8 x9 (Pure.s89_f24 F x0 x1 x2 x7 x8 x9 x10 x11 x12 x13) (Pure.s90_f24 F x0 x1 x2 x7 x8 x9 x10 x11 x12 x13) (Pure.s91_f24 F x0 x1 x2 x7 x8 x9 x10 x11 x12 x13)
def Pure.s94_f24 (F : FOps) (x0 : Int) (x1 : Int) (x2 : Int) (x7 : Int) (x8 : Int) (x9 : Int) (x10 : Int) (x11 : Int) (x12 : Int) (x13 : Int) : Int := Pure.impl_AddVectors_2 F x7 x8 x9 (Pure.s89_f24 F x0 x1 x2 x7 x8 x9 x10 x11 x12 x13) (Pure.s90_f24 F x0 x1 x2 x7 x8 x9 x10 x11 x12 x13) (Pure.s91_f24 F x0 x1 x2 x7 x8 x9 x10 x11 x12 x13)
def Pure.impl_StepTop (F : FOps) (x0 : Int) (x1 : Int) (x2 : Int) (x3 : Int) (x4 : Int) (x5 : Int) (x6 : Int) (x7 : Int) (x8 : Int) (x9 : Int) (x10 : Int) (x11 : Int) (x12 : Int) (x13 : Int) : Int := bif Pure.impl_ValidTop F x0 x1 x2 x3 x4 x5 x6 x7 x8 x9 then bif Pure.impl_finiteVector F x10 x11 x12 then bif Pure.impl_IsFinite F x13 then bif Pure.impl_NormSpin_4 F (Pure.s78_f24 F x0 x1 x2 x3 x4 x5 x6 x7 x8 x9 x10 x11 x12 x13) (Pure.s79_f24 F x0 x1 x2 x3 x4 x5 x6 x7 x8 x9 x10 x11 x12 x13) (Pure.s80_f24 F x0 x1 x2 x3 x4 x5 x6 x7 x8 x9 x10 x11 x12 x13) (Pure.s81_f24 F x0 x1 x2 x3 x4 x5 x6 x7 x8 x9 x10 x11 x12 x13) then bif Pure.impl_finiteVector F (Pure.impl_Top_rate_c1 F x1 x2 x0 x8 x9 x10) (Pure.impl_Top_rate_c1 F x2 x0 x1 x9 x7 x11) (Pure.impl_Top_rate_c1 F x0 x1 x2 x7 x8 x12) then bif Pure.impl_finiteVector F (Pure.s71_f24 F x0 x1 x2 x7 x8 x9 x10 x11 x12 x13) (Pure.s72_f24 F x0 x1 x2 x7 x8 x9 x10 x11 x12 x13) (Pure.s73_f24 F x0 x1 x2 x7 x8 x9 x10 x11 x12 x13) then bif Pure.impl_finiteVector F (Pure.s82_f24 F x0 x1 x2 x7 x8 x9 x10 x11 x12 x13) (Pure.s83_f24 F x0 x1 x2 x7 x8 x9 x10 x11 x12 x13) (Pure.s84_f24 F x0 x1 x2 x7 x8 x9 x10 x11 x12 x13) then bif Pure.impl_ValidTop F x0 x1 x2 (Pure.s85_f24 F x0 x1 x2 x3 x4 x5 x6 x7 x8 x9 x10 x11 x12 x13) (Pure.s86_f24 F x0 x1 x2 x3 x4 x5 x6 x7 x8 x9 x10 x11 x12 x13) (Pure.s87_f24 F x0 x1 x2 x3 x4 x5 x6 x7 x8 x9 x10 x11 x12 x13) (Pure.s88_f24 F x0 x1 x2 x3 x4 x5 x6 x7 x8 x9 x10 x11 x12 x13) (Pure.s92_f24 F x0 x1 x2 x7 x8 x9 x10 x11 x12 x13) (Pure.s93_f24 F x0 x1 x2 x7 x8 x9 x10 x11 x12 x13) (Pure.s94_f24 F x0 x1 x2 x7 x8 x9 x10 x11 x12 x13) then x0 else 0 else 0 else 0 else 0 else 0 else 0 else 0 else 0
def Pure.impl_StepTop_1 (F : FOps) (x0 : Int) (x1 : Int) (x2 : Int) (x3 : Int) (x4 : Int) (x5 : Int) (x6 : Int) (x7 : Int) (x8 : Int) (x9 : Int) (x10 : Int) (x11 : Int) (x12 : Int) (x13 : Int) : Int := bif Pure.impl_ValidTop F x0 x1 x2 x3 x4 x5 x6 x7 x8 x9 then bif Pure.impl_finiteVector F x10 x11 x12 then bif Pure.impl_IsFinite F x13 then bif Pure.impl_NormSpin_4 F (Pure.s78_f24 F x0 x1 x2 x3 x4 x5 x6 x7 x8 x9 x10 x11 x12 x13) (Pure.s79_f24 F x0 x1 x2 x3 x4 x5 x6 x7 x8 x9 x10 x11 x12 x13) (Pure.s80_f24 F x0 x1 x2 x3 x4 x5 x6 x7 x8 x9 x10 x11 x12 x13) (Pure.s81_f24 F x0 x1 x2 x3 x4 x5 x6 x7 x8 x9 x10 x11 x12 x13) then bif Pure.impl_finiteVector F (Pure.impl_Top_rate_c1 F x1 x2 x0 x8 x9 x10) (Pure.impl_Top_rate_c1 F x2 x0 x1 x9 x7 x11) (Pure.impl_Top_rate_c1 F x0 x1 x2 x7 x8 x12) then bif Pure.impl_finiteVector F (Pure.s71_f24 F x0 x1 x2 x7 x8 x9 x10 x11 x12 x13) (Pure.s72_f24 F x0 x1 x2 x7 x8 x9 x10 x11 x12 x13) (Pure.s73_f24 F x0 x1 x2 x7 x8 x9 x10 x11 x12 x13) then bif Pure.impl_finiteVector F (Pure.s82_f24 F x0 x1 x2 x7 x8 x9 x10 x11 x12 x13) (Pure.s83_f24 F x0 x1 x2 x7 x8 x9 x10 x11 x12 x13) (Pure.s84_f24 F x0 x1 x2 x7 x8 x9 x10 x11 x12 x13) then bif Pure.impl_ValidTop F x0 x1 x2 (Pure.s85_f24 F x0 x1 x2 x3 x4 x5 x6 x7 x8 x9 x10 x11 x12 x13) (Pure.s86_f24 F x0 x1 x2 x3 x4 x5 x6 x7 x8 x9 x10 x11 x12 x13) (Pure.s87_f24 F x0 x1 x2 x3 x4 x5 x6 x7 x8 x9 x10 x11 x12 x13) (Pure.s88_f24 F x0 x1 x2 x3 x4 x5 x6 x7 x8 x9 x10 x11 x12 x13) (Pure.s92_f24 F x0 x1 x2 x7 x8 x9 x10 x11 x12 x13) (Pure.s93_f24 F x0 x1 x2 x7 x8 x9 x10 x11 x12 x13) (Pure.s94_f24 F x0 x1 x2 x7 x8 x9 x10 x11 x12 x13) then x1 else 0 else 0 else 0 else 0 else 0 else 0 else 0 else 0
def Pure.impl_StepTop_2 (F : FOps) (x0 : Int) (x1 : Int) (x2 : Int) (x3 : Int) (x4 : Int) (x5 : Int) (x6 : Int) (x7 : Int) (x8 : Int) (x9 : Int) (x10 : Int) (x11 : Int) (x12 : Int) (x13 : Int) : Int := bif Pure.impl_ValidTop F x0 x1 x2 x3 x4 x5 x6 x7 x8 x9 then bif Pure.impl_finiteVector F x10 x11 x12 then bif Pure.impl_IsFinite F x13 then bif Pure.impl_NormSpin_4 F (Pure.s78_f24 F x0 x1 x2 x3 x4 x5 x6 x7 x8 x9 x10 x11 x12 x13) (Pure.s79_f24 F x0 x1 x2 x3 x4 x5 x6 x7 x8 x9 x10 x11 x12 x13) (Pure.s80_f24 F x0 x1 x2 x3 x4 x5 x6 x7 x8 x9 x10 x11 x12 x13) (Pure.s81_f24 F x0 x1 x2 x3 x4 x5 x6 x7 x8 x9 x10 x11 x12 x13) then bif Pure.impl_finiteVector F (Pure.impl_Top_rate_c1 F x1 x2 x0 x8 x9 x10) (Pure.impl_Top_rate_c1 F x2 x0 x1 x9 x7 x11) (Pure.impl_Top_rate_c1 F x0 x1 x2 x7 x8 x12) then bif Pure.impl_finiteVector F (Pure.s71_f24 F x0 x1 x2 x7 x8 x9 x10 x11 x12 x13) (Pure.s72_f24 F x0 x1 x2 x7 x8 x9 x10 x11 x12 x13) (Pure.s73_f24 F x0 x1 x2 x7 x8 x9 x10 x11 x12 x13) then bif Pure.impl_finiteVector F (Pure.s82_f24 F x0 x1 x2 x7 x8 x9 x10 x11 x12 x13) (Pure.s83_f24 F x0 x1 x2 x7 x8 x9 x10 x11 x12 x13) (Pure.s84_f24 F x0 x1 x2 x7 x8 x9 x10 x11 x12 x13) then bif Pure.impl_ValidTop F x0 x1 x2 (Pure.s85_f24 F x0 x1 x2 x3 x4 x5 x6 x7 x8 x9 x10 x11 x12 x13) (Pure.s86_f24 F x0 x1 x2 x3 x4 x5 x6 x7 x8 x9 x10 x11 x12 x13) (Pure.s87_f24 F x0 x1 x2 x3 x4 x5 x6 x7 x8 x9 x10 x11 x12 x13) (Pure.s88_f24 F x0 x1 x2 x3 x4 x5 x6 x7 x8 x9 x10 x11 x12 x13) (Pure.s92_f24 F x0 x1 x2 x7 x8 x9 x10 x11 x12 x13) (Pure.s93_f24 F x0 x1 x2 x7 x8 x9 x10 x11 x12 x13) (Pure.s94_f24 F x0 x1 x2 x7 x8 x9 x10 x11 x12 x13) then x2 else 0 else 0 else 0 else 0 else 0 else 0 else 0 else 0
def Pure.impl_StepTop_3 (F : FOps) (x0 : Int) (x1 : Int) (x2 : Int) (x3 : Int) (x4 : Int) (x5 : Int) (x6 : Int) (x7 : Int) (x8 : Int) (x9 : Int) (x10 : Int) (x11 : Int) (x12 : Int) (x13 : Int) : Int := bif Pure.impl_ValidTop F x0 x1 x2 x3 x4 x5 x6 x7 x8 x9 then bif Pure.impl_finiteVector F x10 x11 x12 then bif Pure.impl_IsFinite F x13 then bif Pure.impl_NormSpin_4 F (Pure.s78_f24 F x0 x1 x2 x3 x4 x5 x6 x7 x8 x9 x10 x11 x12 x13) (Pure.s79_f24 F x0 x1 x2 x3 x4 x5 x6 x7 x8 x9 x10 x11 x12 x13) (Pure.s80_f24 F x0 x1 x2 x3 x4 x5 x6 x7 x8 x9 x10 x11 x12 x13) (Pure.s81_f24 F x0 x1 x2 x3 x4 x5 x6 x7 x8 x9 x10 x11 x12 x13) then bif Pure.impl_finiteVector F (Pure.impl_Top_rate_c1 F x1 x2 x0 x8 x9 x10) (Pure.impl_Top_rate_c1 F x2 x0 x1 x9 x7 x11) (Pure.impl_Top_rate_c1 F x0 x1 x2 x7 x8 x12) then bif Pure.impl_finiteVector F (Pure.s71_f24 F x0 x1 x2 x7 x8 x9 x10 x11 x12 x13) (Pure.s72_f24 F x0 x1 x2 x7 x8 x9 x10 x11 x12 x13) (Pure.s73_f24 F x0 x1 x2 x7 x8 x9 x10 x11 x12 x13) then bif Pure.impl_finiteVector F (Pure.s82_f24 F x0 x1 x2 x7 x8 x9 x10 x11 x12 x13) (Pure.s83_f24 F x0 x1 x2 x7 x8 x9 x10 x11 x12 x13) (Pure.s84_f24 F x0 x1 x2 x7 x8 x9 x10 x11 x12 x13) then bif Pure.impl_ValidTop F x0 x1 x2 (Pure.s85_f24 F x0 x1 x2 x3 x4 x5 x6 x7 x8 x9 x10 x11 x12 x13) (Pure.s86_f24 F x0 x1 x2 x3 x4 x5 x6 x7 x8 x9 x10 x11 x12 x13) (Pure.s87_f24 F x0 x1 x2 x3 x4 x5 x6 x7 x8 x9 x10 x11 x12 x13) (Pure.s88_f24 F x0 x1 x2 x3 x4 x5 x6 x7 x8 x9 x10 x11 x12 x13) (Pure.s92_f24 F x0 x1 x2 x7 x8 x9 x10 x11 x12 x13) (Pure.s93_f24 F x0 x1 x2 x7 x8 x9 x10 x11 x12 x13) (Pure.s94_f24 F x0 x1 x2 x7 x8 x9 x10 x11 x12 x13) then Pure.s85_f24 F x0 x1 x2 x3 x4 x5 x6 x7 x8 x9 x10 x11 x12 x13 else 0 else 0 else 0 else 0 else 0 else 0 else 0 else 0
def Pure.impl_StepTop_4 (F : FOps) (x0 : Int) (x1 : Int) (x2 : Int) (x3 : Int) (x4 : Int) (x5 : Int) (x6 : Int) (x7 : Int) (x8 : Int) (x9 : Int) (x10 : Int) (x11 : Int) (x12 : Int) (x13 : Int) : Int := bif Pure.impl_ValidTop F x0 x1 x2 x3 x4 x5 x6 x7 x8 x9 then bif Pure.impl_finiteVector F x10 x11 x12 then bif Pure.impl_IsFinite F x13 then bif Pure.impl_NormSpin_4 F (Pure.s78_f24 F x0 x1 x2 x3 x4 x5 x6 x7 x8 x9 x10 x11 x12 x13) (Pure.s79_f24 F x0 x1 x2 x3 x4 x5 x6 x7 x8 x9 x10 x11 x12 x13) (Pure.s80_f24 F x0 x1 x2 x3 x4 x5 x6 x7 x8 x9 x10 x11 x12 x13) (Pure.s81_f24 F x0 x1 x2 x3 x4 x5 x6 x7 x8 x9 x10 x11 x12 x13) then bif Pure.impl_finiteVector F (Pure.impl_Top_rate_c1 F x1 x2 x0 x8 x9 x10) (Pure.impl_Top_rate_c1 F x2 x0 x1 x9 x7 x11) (Pure.impl_Top_rate_c1 F x0 x1 x2 x7 x8 x12) then bif Pure.impl_finiteVector F (Pure.s71_f24 F x0 x1 x2 x7 x8 x9 x10 x11 x12 x13) (Pure.s72_f24 F x0 x1 x2 x7 x8 x9 x10 x11 x12 x13) (Pure.s73_f24 F x0 x1 x2 x7 x8 x9 x10 x11 x12 x13) then bif Pure.impl_finiteVector F (Pure.s82_f24 F x0 x1 x2 x7 x8 x9 x10 x11 x12 x13) (Pure.s83_f24 F x0 x1 x2 x7 x8 x9 x10 x11 x12 x13) (Pure.s84_f24 F x0 x1 x2 x7 x8 x9 x10 x11 x12 x13) then bif Pure.impl_ValidTop F x0 x1 x2 (Pure.s85_f24 F x0 x1 x2 x3 x4 x5 x6 x7 x8 x9 x10 x11 x12 x13) (Pure.s86_f24 F x0 x1 x2 x3 x4 x5 x6 x7 x8 x9 x10 x11 x12 x13) (Pure.s87_f24 F x0 x1 x2 x3 x4 x5 x6 x7 x8 x9 x10 x11 x12 x13) (Pure.s88_f24 F x0 x1 x2 x3 x4 x5 x6 x7 x8 x9 x10 x11 x12 x13) (Pure.s92_f24 F x0 x1 x2 x7 x8 x9 x10 x11 x12 x13) (Pure.s93_f24 F x0 x1 x2 x7 x8 x9 x10 x11 x12 x13) (Pure.s94_f24 F x0 x1 x2 x7 x8 x9 x10 x11 x12 x13) then Pure.s86_f24 F x0 x1 x2 x3 x4 x5 x6 x7 x8 x9 x10 x11 x12 x13 else 0 else 0 else 0 else 0 else 0 else 0 else 0 else 0
def Pure.impl_StepTop_5 (F : FOps) (x0 : Int) (x1 : Int) (x2 : Int) (x3 : Int) (x4 : Int) (x5 : Int) (x6 : Int) (x7 : Int) (x8 : Int) (x9 : Int) (x10 : Int) (x11 : Int) (x12 : Int) (x13 : Int) : Int := bif Pure.impl_ValidTop F x0 x1 x2 x3 x4 x5 x6 x7 x8 x9 then bif Pure.impl_finiteVector F x10 x11 x12 then bif Pure.impl_IsFinite F x13 then bif Pure.impl_NormSpin_4 F (Pure.s78_f24 F x0 x1 x2 x3 x4 x5 x6 x7 x8 x9 x10 x11 x12 x13) (Pure.s79_f24 F x0 x1 x2 x3 x4 x5 x6 x7 x8 x9 x10 x11 x12 x13) (Pure.s80_f24 F x0 x1 x2 x3 x4 x5 x6 x7 x8 x9 x10 x11 x12 x13) (Pure.s81_f24 F x0 x1 x2 x3 x4 x5 x6 x7 x8 x9 x10 x11 x12 x13) then bif Pure.impl_finiteVector F (Pure.impl_Top_rate_c1 F x1 x2 x0 x8 x9 x10) (Pure.impl_Top_rate_c1 F x2 x0 x1 x9 x7 x11) (Pure.impl_Top_rate_c1 F x0 x1 x2 x7 x8 x12) then bif Pure.impl_finiteVector F (Pure.s71_f24 F x0 x1 x2 x7 x8 x9 x10 x11 x12 x13) (Pure.s72_f24 F x0 x1 x2 x7 x8 x9 x10 x11 x12 x13) (Pure.s73_f24 F x0 x1 x2 x7 x8 x9 x10 x11 x12 x13) then bif Pure.impl_finiteVector F (Pure.s82_f24 F x0 x1 x2 x7 x8 x9 x10 x11 x12 x13) (Pure.s83_f24 F x0 x1 x2 x7 x8 x9 x10 x11 x12 x13) (Pure.s84_f24 F x0 x1 x2 x7 x8 x9 x10 x11 x12 x13) then bif Pure.impl_ValidTop F x0 x1 x2 (Pure.s85_f24 F x0 x1 x2 x3 x4 x5 x6 x7 x8 x9 x10 x11 x12 x13) (Pure.s86_f24 F x0 x1 x2 x3 x4 x5 x6 x7 x8 x9 x10 x11 x12 x13) (Pure.s87_f24 F x0 x1 x2 x3 x4 x5 x6 x7 x8 x9 x10 x11 x12 x13) (Pure.s88_f24 F x0 x1 x2 x3 x4 x5 x6 x7 x8 x9 x10 x11 x12 x13) (Pure.s92_f24 F x0 x1 x2 x7 x8 x9 x10 x11 x12 x13) (Pure.s93_f24 F x0 x1 x2 x7 x8 x9 x10 x11 x12 x13) (Pure.s94_f24 F x0 x1 x2 x7 x8 x9 x10 x11 x12 x13) then Pure.s87_f24 F x0 x1 x2 x3 x4 x5 x6 x7 x8 x9 x10 x11 x12 x13 else 0 else 0 else 0 else 0 else 0 else 0 else 0 else 0
def Pure.impl_StepTop_6 (F : FOps) (x0 : Int) (x1 : Int) (x2 : Int) (x3 : Int) (x4 : Int) (x5 : Int) (x6 : Int) (x7 : Int) (x8 : Int) (x9 : Int) (x10 : Int) (x11 : Int) (x12 : Int) (x13 : Int) : Int := bif Pure.impl_ValidTop F x0 x1 x2 x3 x4 x5 x6 x7 x8 x9 then bif Pure.impl_finiteVector F x10 x11 x12 then bif Pure.impl_IsFinite F x13 then bif Pure.impl_NormSpin_4 F (Pure.s78_f24 F x0 x1 x2 x3 x4 x5 x6 x7 x8 x9 x10 x11 x12 x13) (Pure.s79_f24 F x0 x1 x2 x3 x4 x5 x6 x7 x8 x9 x10 x11 x12 x13) (Pure.s80_f24 F x0 x1 x2 x3 x4 x5 x6 x7 x8 x9 x10 x11 x12 x13) (Pure.s81_f24 F x0 x1 x2 x3 x4 x5 x6 x7 x8 x9 x10 x11 x12 x13) then bif Pure.impl_finiteVector F (Pure.impl_Top_rate_c1 F x1 x2 x0 x8 x9 x10) (Pure.impl_Top_rate_c1 F x2 x0 x1 x9 x7 x11) (Pure.impl_Top_rate_c1 F x0 x1 x2 x7 x8 x12) then bif Pure.impl_finiteVector F (Pure.s71_f24 F x0 x1 x2 x7 x8 x9 x10 x11 x12 x13) (Pure.s72_f24 F x0 x1 x2 x7 x8 x9 x10 x11 x12 x13) (Pure.s73_f24 F x0 x1 x2 x7 x8 x9 x10 x11 x12 x13) then bif Pure.impl_finiteVector F (Pure.s82_f24 F x0 x1 x2 x7 x8 x9 x10 x11 x12 x13) (Pure.s83_f24 F x0 x1 x2 x7 x8 x9 x10 x11 x12 x13) (Pure.s84_f24 F x0 x1 x2 x7 x8 x9 x10 x11 x12 x13) then bif Pure.impl_ValidTop F x0 x1 x2 (Pure.s85_f24 F x0 x1 x2 x3 x4 x5 x6 x7 x8 x9 x10 x11 x12 x13) (Pure.s86_f24 F x0 x1 x2 x3 x4 x5 x6 x7 x8 x9 x10 x11 x12 x13) (Pure.s87_f24 F x0 x1 x2 x3 x4 x5 x6 x7 x8 x9 x10 x11 x12 x13) (Pure.s88_f24 F x0 x1 x2 x3 x4 x5 x6 x7 x8 x9 x10 x11 x12 x13) (Pure.s92_f24 F x0 x1 x2 x7 x8 x9 x10 x11 x12 x13) (Pure.s93_f24 F x0 x1 x2 x7 x8 x9 x10 x11 x12 x13) (Pure.s94_f24 F x0 x1 x2 x7 x8 x9 x10 x11 x12 x13) then Pure.s88_f24 F x0 x1 x2 x3 x4 x5 x6 x7 x8 x9 x10 x11 x12 x13 else 0 else 0 else 0 else 0 else 0 else 0 else 0 else 0
def Pure.impl_StepTop_7 (F : FOps) (x0 : Int) (x1 : Int) (x2 : Int) (x3 : Int) (x4 : Int) (x5 : Int) (x6 : Int) (x7 : Int) (x8 : Int) (x9 : Int) (x10 : Int) (x11 : Int) (x12 : Int) (x13 : Int) : Int := bif Pure.impl_ValidTop F x0 x1 x2 x3 x4 x5 x6 x7 x8 x9 then bif Pure.impl_finiteVector F x10 x11 x12 then bif Pure.impl_IsFinite F x13 then bif Pure.impl_NormSpin_4 F (Pure.s78_f24 F x0 x1 x2 x3 x4 x5 x6 x7 x8 x9 x10 x11 x12 x13) (Pure.s79_f24 F x0 x1 x2 x3 x4 x5 x6 x7 x8 x9 x10 x11 x12 x13) (Pure.s80_f24 F x0 x1 x2 x3 x4 x5 x6 x7 x8 x9 x10 x11 x12 x13) (Pure.s81_f24 F x0 x1 x2 x3 x4 x5 x6 x7 x8 x9 x10 x11 x12 x13) then bif Pure.impl_finiteVector F (Pure.impl_Top_rate_c1 F x1 x2 x0 x8 x9 x10) (Pure.impl_Top_rate_c1 F x2 x0 x1 x9 x7 x11) (Pure.impl_Top_rate_c1 F x0 x1 x2 x7 x8 x12) then bif Pure.impl_finiteVector F (Pure.s71_f24 F x0 x1 x2 x7 x8 x9 x10 x11 x12 x13) (Pure.s72_f24 F x0 x1 x2 x7 x8 x9 x10 x11 x12 x13) (Pure.s73_f24 F x0 x1 x2 x7 x8 x9 x10 x11 x12 x13) then bif Pure.impl_finiteVector F (Pure.s82_f24 F x0 x1 x2 x7 x8 x9 x10 x11 x12 x13) (Pure.s83_f24 F x0 x1 x2 x7 x8 x9 x10 x11 x12 x13) (Pure.s84_f24 F x0 x1 x2 x7 x8 x9 x10 x11 x12 x13) then bif Pure.impl_ValidTop F x0 x1 x2 (Pure.s85_f24 F x0 x1 x2 x3 x4 x5 x6 x7 x8 x9 x10 x11 x12 x13) (Pure.s86_f24 F x0 x1 x2 x3 x4 x5 x6 x7 x8 x9 x10 x11 x12 x13) (Pure.s87_f24 F x0 x1 x2 x3 x4 x5 x6 x7 x8 x9 x10 x11 x12 x13) (Pure.s88_f24 F x0 x1 x2 x3 x4 x5 x6 x7 x8 x9 x10 x11 x12 x13) (Pure.s92_f24 F x0 x1 x2 x7 x8 x9 x10 x11 x12 x13) (Pure.s93_f24 F x0 x1 x2 x7 x8 x9 x10 x11 x12 x13) (Pure.s94_f24 F x0 x1 x2 x7 x8 x9 x10 x11 x12 x13) then Pure.s92_f24 F x0 x1 x2 x7 x8 x9 x10 x11 x12 x13 else 0 else 0 else 0 else 0 else 0 else 0 else 0 else 0
def Pure.impl_StepTop_8 (F : FOps) (x0 : Int) (x1 : Int) (x2 : Int) (x3 : Int) (x4 : Int) (x5 : Int) (x6 : Int) (x7 : Int) (x8 : Int) (x9 : Int) (x10 : Int) (x11 : Int) (x12 : Int) (x13 : Int) : Int := bif Pure.impl_ValidTop F x0 x1 x2 x3 x4 x5 x6 x7 x8 x9 then bif Pure.impl_finiteVector F x10 x11 x12 then bif Pure.impl_IsFinite F x13 then bif Pure.impl_NormSpin_4 F (Pure.s78_f24 F x0 x1 x2 x3 x4 x5 x6 x7 x8 x9 x10 x11 x12 x13) (Pure.s79_f24 F x0 x1 x2 x3 x4 x5 x6 x7 x8 x9 x10 x11 x12 x13) (Pure.s80_f24 F x0 x1 x2 x3 x4 x5 x6 x7 x8 x9 x10 x11 x12 x13) (Pure.s81_f24 F x0 x1 x2 x3 x4 x5 x6 x7 x8 x9 x10 x11 x12 x13) then bif Pure.impl_finiteVector F (Pure.impl_Top_rate_c1 F x1 x2 x0 x8 x9 x10) (Pure.impl_Top_rate_c1 F x2 x0 x1 x9 x7 x11) (Pure.impl_Top_rate_c1 F x0 x1 x2 x7 x8 x12) then bif Pure.impl_finiteVector F (Pure.s71_f24 F x0 x1 x2 x7 x8 x9 x10 x11 x12 x13) (Pure.s72_f24 F x0 x1 x2 x7 x8 x9 x10 x11 x12 x13) (Pure.s73_f24 F x0 x1 x2 x7 x8 x9 x10 x11 x12 x13) then bif Pure.impl_finiteVector F (Pure.s82_f24 F x0 x1 x2 x7 x8 x9 x10 x11 x12 x13) (Pure.s83_f24 F x0 x1 x2 x7 x8 x9 x10 x11 x12 x13) (Pure.s84_f24 F x0 x1 x2 x7 x8 x9 x10 x11 x12 x13) then bif Pure.impl_ValidTop F x0 x1 x2 (Pure.s85_f24 F x0 x1 x2 x3 x4 x5 x6 x7 x8 x9 x10 x11 x12 x13) (Pure.s86_f24 F x0 x1 x2 x3 x4 x5 x6 x7 x8 x9 x10 x11 x12 x13) (Pure.s87_f24 F x0 x1 x2 x3 x4 x5 x6 x7 x8 x9 x10 x11 x12 x13) (Pure.s88_f24 F x0 x1 x2 x3 x4 x5 x6 x7 x8 x9 x10 x11 x12 x13) (Pure.s92_f24 F x0 x1 x2 x7 x8 x9 x10 x11 x12 x13) (Pure.s93_f24 F x0 x1 x2 x7 x8 x9 x10 x11 x12 x13) (Pure.s94_f24 F x0 x1 x2 x7 x8 x9 x10 x11 x12 x13) then Pure.s93_f24 F x0 x1 x2 x7 x8 x9 x10 x11 x12 x13 else 0 else 0 else 0 else 0 else 0 else 0 else 0 else 0
def Pure.impl_StepTop_9 (F : FOps) (x0 : Int) (x1 : Int) (x2 : Int) (x3 : Int) (x4 : Int) (x5 : Int) (x6 : Int) (x7 : Int) (x8 : Int) (x9 : Int) (x10 : Int) (x11 : Int) (x12 : Int) (x13 : Int) : Int := bif Pure.impl_ValidTop F x0 x1 x2 x3 x4 x5 x6 x7 x8 x9 then bif Pure.impl_finiteVector F x10 x11 x12 then bif Pure.impl_IsFinite F x13 then bif Pure.impl_NormSpin_4 F (Pure.s78_f24 F x0 x1 x2 x3 x4 x5 x6 x7 x8 x9 x10 x11 x12 x13) (Pure.s79_f24 F x0 x1 x2 x3 x4 x5 x6 x7 x8 x9 x10 x11 x12 x13) (Pure.s80_f24 F x0 x1 x2 x3 x4 x5 x6 x7 x8 x9 x10 x11 x12 x13) (Pure.s81_f24 F x0 x1 x2 x3 x4 x5 x6 x7 x8 x9 x10 x11 x12 x13) then bif Pure.impl_finiteVector F (Pure.impl_Top_rate_c1 F x1 x2 x0 x8 x9 x10) (Pure.impl_Top_rate_c1 F x2 x0 x1 x9 x7 x11) (Pure.impl_Top_rate_c1 F x0 x1 x2 x7 x8 x12) then bif Pure.impl_finiteVector F (Pure.s71_f24 F x0 x1 x2 x7 x8 x9 x10 x11 x12 x13) (Pure.s72_f24 F x0 x1 x2 x7 x8 x9 x10 x11 x12 x13) (Pure.s73_f24 F x0 x1 x2 x7 x8 x9 x10 x11 x12 x13) then bif Pure.impl_finiteVector F (Pure.s82_f24 F x0 x1 x2 x7 x8 x9 x10 x11 x12 x13) (Pure.s83_f24 F x0 x1 x2 x7 x8 x9 x10 x11 x12 x13) (Pure.s84_f24 F x0 x1 x2 x7 x8 x9 x10 x11 x12 x13) then bif Pure.impl_ValidTop F x0 x1 x2 (Pure.s85_f24 F x0 x1 x2 x3 x4 x5 x6 x7 x8 x9 x10 x11 x12 x13) (Pure.s86_f24 F x0 x1 x2 x3 x4 x5 x6 x7 x8 x9 x10 x11 x12 x13) (Pure.s87_f24 F x0 x1 x2 x3 x4 x5 x6 x7 x8 x9 x10 x11 x12 x13) (Pure.s88_f24 F x0 x1 x2 x3 x4 x5 x6 x7 x8 x9 x10 x11 x12 x13) (Pure.s92_f24 F x0 x1 x2 x7 x8 x9 x10 x11 x12 x13) (Pure.s93_f24 F x0 x1 x2 x7 x8 x9 x10 x11 x12 x13) (Pure.s94_f24 F x0 x1 x2 x7 x8 x9 x10 x11 x12 x13) then Pure.s94_f24 F x0 x1 x2 x7 x8 x9 x10 x11 x12 x13 else 0 else 0 else 0 else 0 else 0 else 0 else 0 else 0
def Pure.impl_StepTop_10 (F : FOps) (x0 : Int) (x1 : Int) (x2 : Int) (x3 : Int) (x4 : Int) (x5 : Int) (x6 : Int) (x7 : Int) (x8 : Int) (x9 : Int) (x10 : Int) (x11 : Int) (x12 : Int) (x13 : Int) : Bool := bif Pure.impl_ValidTop F x0 x1 x2 x3 x4 x5 x6 x7 x8 x9 then bif Pure.impl_finiteVector F x10 x11 x12 then bif Pure.impl_IsFinite F x13 then bif Pure.impl_NormSpin_4 F (Pure.s78_f24 F x0 x1 x2 x3 x4 x5 x6 x7 x8 x9 x10 x11 x12 x13) (Pure.s79_f24 F x0 x1 x2 x3 x4 x5 x6 x7 x8 x9 x10 x11 x12 x13) (Pure.s80_f24 F x0 x1 x2 x3 x4 x5 x6 x7 x8 x9 x10 x11 x12 x13) (Pure.s81_f24 F x0 x1 x2 x3 x4 x5 x6 x7 x8 x9 x10 x11 x12 x13) then bif Pure.impl_finiteVector F (Pure.impl_Top_rate_c1 F x1 x2 x0 x8 x9 x10) (Pure.impl_Top_rate_c1 F x2 x0 x1 x9 x7 x11) (Pure.impl_Top_rate_c1 F x0 x1 x2 x7 x8 x12) then bif Pure.impl_finiteVector F (Pure.s71_f24 F x0 x1 x2 x7 x8 x9 x10 x11 x12 x13) (Pure.s72_f24 F x0 x1 x2 x7 x8 x9 x10 x11 x12 x13) (Pure.s73_f24 F x0 x1 x2 x7 x8 x9 x10 x11 x12 x13) then bif Pure.impl_finiteVector F (Pure.s82_f24 F x0 x1 x2 x7 x8 x9 x10 x11 x12 x13) (Pure.s83_f24 F x0 x1 x2 x7 x8 x9 x10 x11 x12 x13) (Pure.s84_f24 F x0 x1 x2 x7 x8 x9 x10 x11 x12 x13) then Pure.impl_ValidTop F x0 x1 x2 (Pure.s85_f24 F x0 x1 x2 x3 x4 x5 x6 x7 x8 x9 x10 x11 x12 x13) (Pure.s86_f24 F x0 x1 x2 x3 x4 x5 x6 x7 x8 x9 x10 x11 x12 x13) (Pure.s87_f24 F x0 x1 x2 x3 x4 x5 x6 x7 x8 x9 x10 x11 x12 x13) (Pure.s88_f24 F x0 x1 x2 x3 x4 x5 x6 x7 x8 x9 x10 x11 x12 x13) (Pure.s92_f24 F x0 x1 x2 x7 x8 x9 x10 x11 x12 x13) (Pure.s93_f24 F x0 x1 x2 x7 x8 x9 x10 x11 x12 x13) (Pure.s94_f24 F x0 x1 x2 x7 x8 x9 x10 x11 x12 x13) else false else false else false else false else false else false else false
def Pure.impl_StepTop_ok (F : FOps) (x0 : Int) (x1 : Int) (x2 : Int) (x3 : Int) (x4 : Int) (x5 : Int) (x6 : Int) (x7 : Int) (x8 : Int) (x9 : Int) (x10 : Int) (x11 : Int) (x12 : Int) (x13 : Int) : Bool := bif Pure.impl_ValidTop_ok F x0 x1 x2 x3 x4 x5 x6 x7 x8 x9 then bif Pure.impl_ValidTop F x0 x1 x2 x3 x4 x5 x6 x7 x8 x9 then bif Pure.impl_finiteVector_ok F x10 x11 x12 then bif Pure.impl_finiteVector F x10 x11 x12 then bif Pure.impl_IsFinite F x13 then bif Pure.impl_NormSpin_ok F (Pure.s78_f24 F x0 x1 x2 x3 x4 x5 x6 x7 x8 x9 x10 x11 x12 x13) (Pure.s79_f24 F x0 x1 x2 x3 x4 x5 x6 x7 x8 x9 x10 x11 x12 x13) (Pure.s80_f24 F x0 x1 x2 x3 x4 x5 x6 x7 x8 x9 x10 x11 x12 x13) (Pure.s81_f24 F x0 x1 x2 x3 x4 x5 x6 x7 x8 x9 x10 x11 x12 x13) then bif Pure.impl_NormSpin_4 F (Pure.s78_f24 F x0 x1 x2 x3 x4 x5 x6 x7 x8 x9 x10 x11 x12 x13) (Pure.s79_f24 F x0 x1 x2 x3 x4 x5 x6 x7 x8 x9 x10 x11 x12 x13) (Pure.s80_f24 F x0 x1 x2 x3 x4 x5 x6 x7 x8 x9 x10 x11 x12 x13) (Pure.s81_f24 F x0 x1 x2 x3 x4 x5 x6 x7 x8 x9 x10 x11 x12 x13) then bif Pure.impl_finiteVector_ok F (Pure.impl_Top_rate_c1 F x1 x2 x0 x8 x9 x10) (Pure.impl_Top_rate_c1 F x2 x0 x1 x9 x7 x11) (Pure.impl_Top_rate_c1 F x0 x1 x2 x7 x8 x12) then bif Pure.impl_finiteVector F (Pure.impl_Top_rate_c1 F x1 x2 x0 x8 x9 x10) (Pure.impl_Top_rate_c1 F x2 x0 x1 x9 x7 x11) (Pure.impl_Top_rate_c1 F x0 x1 x2 x7 x8 x12) then bif Pure.impl_finiteVector_ok F (Pure.s71_f24 F x0 x1 x2 x7 x8 x9 x10 x11 x12 x13) (Pure.s72_f24 F x0 x1 x2 x7 x8 x9 x10 x11 x12 x13) (Pure.s73_f24 F x0 x1 x2 x7 x8 x9 x10 x11 x12 x13) then bif Pure.impl_finiteVector F (Pure.s71_f24 F x0 x1 x2 x7 x8 x9 x10 x11 x12 x13) (Pure.s72_f24 F x0 x1 x2 x7 x8 x9 x10 x11 x12 x13) (Pure.s73_f24 F x0 x1 x2 x7 x8 x9 x10 x11 x12 x13) then bif Pure.impl_finiteVector_ok F (Pure.s82_f24 F x0 x1 x2 x7 x8 x9 x10 x11 x12 x13) (Pure.s83_f24 F x0 x1 x2 x7 x8 x9 x10 x11 x12 x13) (Pure.s84_f24 F x0 x1 x2 x7 x8 x9 x10 x11 x12 x13) then bif Pure.impl_finiteVector F (Pure.s82_f24 F x0 x1 x2 x7 x8 x9 x10 x11 x12 x13) (Pure.s83_f24 F x0 x1 x2 x7 x8 x9 x10 x11 x12 x13) (Pure.s84_f24 F x0 x1 x2 x7 x8 x9 x10 x11 x12 x13) then Pure.impl_ValidTop_ok F x0 x1 x2 (Pure.s85_f24 F x0 x1 x2 x3 x4 x5 x6 x7 x8 x9 x10 x11 x12 x13) (Pure.s86_f24 F x0 x1 x2 x3 x4 x5 x6 x7 x8 x9 x10 x11 x12 x13) (Pure.s87_f24 F x0 x1 x2 x3 x4 x5 x6 x7 x8 x9 x10 x11 x12 x13) (Pure.s88_f24 F x0 x1 x2 x3 x4 x5 x6 x7 x8 x9 x10 x11 x12 x13) (Pure.s92_f24 F x0 x1 x2 x7 x8 x9 x10 x11 x12 x13) (Pure.s93_f24 F x0 x1 x2 x7 x8 x9 x10 x11 x12 x13) (Pure.s94_f24 F x0 x1 x2 x7 x8 x9 x10 x11 x12 x13) else true else false else true else false else true else false else true else false else true else true else false else true else false
def c_impl_StepTop (F : FOps) : Con
  | [V.agg [A.fl FloatKind.f32 x0, A.fl FloatKind.f32 x1, A.fl FloatKind.f32 x2, A.fl FloatKind.f32 x3, A.fl FloatKind.f32 x4, A.fl FloatKind.f32 x5, A.fl FloatKind.f32 x6, A.fl FloatKind.f32 x7, A.fl FloatKind.f32 x8, A.fl FloatKind.f32 x9], V.agg [A.fl FloatKind.f32 x10, A.fl FloatKind.f32 x11, A.fl FloatKind.f32 x12], V.at (A.fl FloatKind.f32 x13)], [] => some (Pure.impl_StepTop_ok F x0 x1 x2 x3 x4 x5 x6 x7 x8 x9 x10 x11 x12 x13, ⟨V.tup [(true, [A.fl FloatKind.f32 (Pure.impl_StepTop F x0 x1 x2 x3 x4 x5 x6 x7 x8 x9 x10 x11 x12 x13), A.fl FloatKind.f32 (Pure.impl_StepTop_1 F x0 x1 x2 x3 x4 x5 x6 x7 x8 x9 x10 x11 x12 x13), A.fl FloatKind.f32 (Pure.impl_StepTop_2 F x0 x1 x2 x3 x4 x5 x6 x7 x8 x9 x10 x11 x12 x13), A.fl FloatKind.f32 (Pure.impl_StepTop_3 F x0 x1 x2 x3 x4 x5 x6 x7 x8 x9 x10 x11 x12 x13), A.fl FloatKind.f32 (Pure.impl_StepTop_4 F x0 x1 x2 x3 x4 x5 x6 x7 x8 x9 x10 x11 x12 x13), A.fl FloatKind.f32 (Pure.impl_StepTop_5 F x0 x1 x2 x3 x4 x5 x6 x7 x8 x9 x10 x11 x12 x13), A.fl FloatKind.f32 (Pure.impl_StepTop_6 F x0 x1 x2 x3 x4 x5 x6 x7 x8 x9 x10 x11 x12 x13), A.fl FloatKind.f32 (Pure.impl_StepTop_7 F x0 x1 x2 x3 x4 x5 x6 x7 x8 x9 x10 x11 x12 x13), A.fl FloatKind.f32 (Pure.impl_StepTop_8 F x0 x1 x2 x3 x4 x5 x6 x7 x8 x9 x10 x11 x12 x13), A.fl FloatKind.f32 (Pure.impl_StepTop_9 F x0 x1 x2 x3 x4 x5 x6 x7 x8 x9 x10 x11 x12 x13)]), (false, [A.bool (Pure.impl_StepTop_10 F x0 x1 x2 x3 x4 x5 x6 x7 x8 x9 x10 x11 x12 x13)])], none, []⟩)
  | _, _ => none
theorem e_impl_StepTop (F : FOps) (x0 : Int) (x1 : Int) (x2 : Int) (x3 : Int) (x4 : Int) (x5 : Int) (x6 : Int) (x7 : Int) (x8 : Int) (x9 : Int) (x10 : Int) (x11 : Int) (x12 : Int) (x13 : Int) : Pure.impl_StepTop_ok F x0 x1 x2 x3 x4 x5 x6 x7 x8 x9 x10 x11 x12 x13 = true → evFn (cxS F tyl [(52, c_impl_ValidTop F), (53, c_impl_finiteVector F), (42, c_impl_IsFinite F), (54, c_impl_Top_rate F), (56, c_impl_ScaleVector F), (55, c_impl_AddVectors F), (10, c_impl_TimesSpins F), (43, c_impl_along F), (13, c_impl_NormSpin F)] [] [] 0) Try.f24 false [V.agg [A.fl FloatKind.f32 x0, A.fl FloatKind.f32 x1, A.fl FloatKind.f32 x2, A.fl FloatKind.f32 x3, A.fl FloatKind.f32 x4, A.fl FloatKind.f32 x5, A.fl FloatKind.f32 x6, A.fl FloatKind.f32 x7, A.fl FloatKind.f32 x8, A.fl FloatKind.f32 x9], V.agg [A.fl FloatKind.f32 x10, A.fl FloatKind.f32 x11, A.fl FloatKind.f32 x12], V.at (A.fl FloatKind.f32 x13)] [] = some ⟨V.tup [(true, [A.fl FloatKind.f32 (Pure.impl_StepTop F x0 x1 x2 x3 x4 x5 x6 x7 x8 x9 x10 x11 x12 x13), A.fl FloatKind.f32 (Pure.impl_StepTop_1 F x0 x1 x2 x3 x4 x5 x6 x7 x8 x9 x10 x11 x12 x13), A.fl FloatKind.f32 (Pure.impl_StepTop_2 F x0 x1 x2 x3 x4 x5 x6 x7 x8 x9 x10 x11 x12 x13), A.fl FloatKind.f32 (Pure.impl_StepTop_3 F x0 x1 x2 x3 x4 x5 x6 x7 x8 x9 x10 x11 x12 x13), A.fl FloatKind.f32 (Pure.impl_StepTop_4 F x0 x1 x2 x3 x4 x5 x6 x7 x8 x9 x10 x11 x12 x13), A.fl FloatKind.f32 (Pure.impl_StepTop_5 F x0 x1 x2 x3 x4 x5 x6 x7 x8 x9 x10 x11 x12 x13), A.fl FloatKind.f32 (Pure.impl_StepTop_6 F x0 x1 x2 x3 x4 x5 x6 x7 x8 x9 x10 x11 x12 x13), A.fl FloatKind.f32 (Pure.impl_StepTop_7 F x0 x1 x2 x3 x4 x5 x6 x7 x8 x9 x10 x11 x12 x13), A.fl FloatKind.f32 (Pure.impl_StepTop_8 F x0 x1 x2 x3 x4 x5 x6 x7 x8 x9 x10 x11 x12 x13), A.fl FloatKind.f32 (Pure.impl_StepTop_9 F x0 x1 x2 x3 x4 x5 x6 x7 x8 x9 x10 x11 x12 x13)]), (false, [A.bool (Pure.impl_StepTop_10 F x0 x1 x2 x3 x4 x5 x6 x7 x8 x9 x10 x11 x12 x13)])], none, []⟩ := by
  have h0 : evFn (cxS F tyl [(52, c_impl_ValidTop F), (53, c_impl_finiteVector F), (42, c_impl_IsFinite F), (54, c_impl_Top_rate F), (56, c_impl_ScaleVector F), (55, c_impl_AddVectors F), (10, c_impl_TimesSpins F), (43, c_impl_along F), (13, c_impl_NormSpin F)] [] [] 0) Try.f24 false [V.agg [A.fl FloatKind.f32 x0, A.fl FloatKind.f32 x1, A.fl FloatKind.f32 x2, A.fl FloatKind.f32 x3, A.fl FloatKind.f32 x4, A.fl FloatKind.f32 x5, A.fl FloatKind.f32 x6, A.fl FloatKind.f32 x7, A.fl FloatKind.f32 x8, A.fl FloatKind.f32 x9], V.agg [A.fl FloatKind.f32 x10, A.fl FloatKind.f32 x11, A.fl FloatKind.f32 x12], V.at (A.fl FloatKind.f32 x13)] [] = bif Pure.impl_ValidTop_ok F x0 x1 x2 x3 x4 x5 x6 x7 x8 x9 then bif Bool.not (Pure.impl_ValidTop F x0 x1 x2 x3 x4 x5 x6 x7 x8 x9) then some ⟨V.tup [(true, [A.fl FloatKind.f32 0, A.fl FloatKind.f32 0, A.fl FloatKind.f32 0, A.fl FloatKind.f32 0, A.fl FloatKind.f32 0, A.fl FloatKind.f32 0, A.fl FloatKind.f32 0, A.fl FloatKind.f32 0, A.fl FloatKind.f32 0, A.fl FloatKind.f32 0]), (false, [A.bool false])], none, []⟩ else bif Pure.impl_finiteVector_ok F x10 x11 x12 then bif Bool.not (Pure.impl_finiteVector F x10 x11 x12) then some ⟨V.tup [(true, [A.fl FloatKind.f32 0, A.fl FloatKind.f32 0, A.fl FloatKind.f32 0, A.fl FloatKind.f32 0, A.fl FloatKind.f32 0, A.fl FloatKind.f32 0, A.fl FloatKind.f32 0, A.fl FloatKind.f32 0, A.fl FloatKind.f32 0, A.fl FloatKind.f32 0]), (false, [A.bool false])], none, []⟩ else bif Bool.not (Pure.impl_IsFinite F x13) then some ⟨V.tup [(true, [A.fl FloatKind.f32 0, A.fl FloatKind.f32 0, A.fl FloatKind.f32 0, A.fl FloatKind.f32 0, A.fl FloatKind.f32 0, A.fl FloatKind.f32 0, A.fl FloatKind.f32 0, A.fl FloatKind.f32 0, A.fl FloatKind.f32 0, A.fl FloatKind.f32 0]), (false, [A.bool false])], none, []⟩ else bif Pure.impl_NormSpin_ok F (Pure.s78_f24 F x0 x1 x2 x3 x4 x5 x6 x7 x8 x9 x10 x11 x12 x13) (Pure.s79_f24 F x0 x1 x2 x3 x4 x5 x6 x7 x8 x9 x10 x11 x12 x13) (Pure.s80_f24 F x0 x1 x2 x3 x4 x5 x6 x7 x8 x9 x10 x11 x12 x13) (Pure.s81_f24 F x0 x1 x2 x3 x4 x5 x6 x7 x8 x9 x10 x11 x12 x13) then bif Bool.not (Pure.impl_NormSpin_4 F (Pure.s78_f24 F x0 x1 x2 x3 x4 x5 x6 x7 x8 x9 x10 x11 x12 x13) (Pure.s79_f24 F x0 x1 x2 x3 x4 x5 x6 x7 x8 x9 x10 x11 x12 x13) (Pure.s80_f24 F x0 x1 x2 x3 x4 x5 x6 x7 x8 x9 x10 x11 x12 x13) (Pure.s81_f24 F x0 x1 x2 x3 x4 x5 x6 x7 x8 x9 x10 x11 x12 x13)) then some ⟨V.tup [(true, [A.fl FloatKind.f32 0, A.fl FloatKind.f32 0, A.fl FloatKind.f32 0, A.fl FloatKind.f32 0, A.fl FloatKind.f32 0, A.fl FloatKind.f32 0, A.fl FloatKind.f32 0, A.fl FloatKind.f32 0, A.fl FloatKind.f32 0, A.fl FloatKind.f32 0]), (false, [A.bool false])], none, []⟩ else bif Pure.impl_finiteVector_ok F (Pure.impl_Top_rate_c1 F x1 x2 x0 x8 x9 x10) (Pure.impl_Top_rate_c1 F x2 x0 x1 x9 x7 x11) (Pure.impl_Top_rate_c1 F x0 x1 x2 x7 x8 x12) then bif Bool.not (Pure.impl_finiteVector F (Pure.impl_Top_rate_c1 F x1 x2 x0 x8 x9 x10) (Pure.impl_Top_rate_c1 F x2 x0 x1 x9 x7 x11) (Pure.impl_Top_rate_c1 F x0 x1 x2 x7 x8 x12)) then some ⟨V.tup [(true, [A.fl FloatKind.f32 0, A.fl FloatKind.f32 0, A.fl FloatKind.f32 0, A.fl FloatKind.f32 0, A.fl FloatKind.f32 0, A.fl FloatKind.f32 0, A.fl FloatKind.f32 0, A.fl FloatKind.f32 0, A.fl FloatKind.f32 0, A.fl FloatKind.f32 0]), (false, [A.bool false])], none, []⟩ else bif Pure.impl_finiteVector_ok F (Pure.s71_f24 F x0 x1 x2 x7 x8 x9 x10 x11 x12 x13) (Pure.s72_f24 F x0 x1 x2 x7 x8 x9 x10 x11 x12 x13) (Pure.s73_f24 F x0 x1 x2 x7 x8 x9 x10 x11 x12 x13) then bif Bool.not (Pure.impl_finiteVector F (Pure.s71_f24 F x0 x1 x2 x7 x8 x9 x10 x11 x12 x13) (Pure.s72_f24 F x0 x1 x2 x7 x8 x9 x10 x11 x12 x13) (Pure.s73_f24 F x0 x1 x2 x7 x8 x9 x10 x11 x12 x13)) then some ⟨V.tup [(true, [A.fl FloatKind.f32 0, A.fl FloatKind.f32 0, A.fl FloatKind.f32 0, A.fl FloatKind.f32 0, A.fl FloatKind.f32 0, A.fl FloatKind.f32 0, A.fl FloatKind.f32 0, A.fl FloatKind.f32 0, A.fl FloatKind.f32 0, A.fl FloatKind.f32 0]), (false, [A.bool false])], none, []⟩ else bif Pure.impl_finiteVector_ok F (Pure.s82_f24 F x0 x1 x2 x7 x8 x9 x10 x11 x12 x13) (Pure.s83_f24 F x0 x1 x2 x7 x8 x9 x10 x11 x12 x13) (Pure.s84_f24 F x0 x1 x2 x7 x8 x9 x10 x11 x12 x13) then bif Bool.not (Pure.impl_finiteVector F (Pure.s82_f24 F x0 x1 x2 x7 x8 x9 x10 x11 x12 x13) (Pure.s83_f24 F x0 x1 x2 x7 x8 x9 x10 x11 x12 x13) (Pure.s84_f24 F x0 x1 x2 x7 x8 x9 x10 x11 x12 x13)) then some ⟨V.tup [(true, [A.fl FloatKind.f32 0, A.fl FloatKind.f32 0, A.fl FloatKind.f32 0, A.fl FloatKind.f32 0, A.fl FloatKind.f32 0, A.fl FloatKind.f32 0, A.fl FloatKind.f32 0, A.fl FloatKind.f32 0, A.fl FloatKind.f32 0, A.fl FloatKind.f32 0]), (false, [A.bool false])], none, []⟩ else bif Pure.impl_ValidTop_ok F x0 x1 x2 (Pure.s85_f24 F x0 x1 x2 x3 x4 x5 x6 x7 x8 x9 x10 x11 x12 x13) (Pure.s86_f24 F x0 x1 x2 x3 x4 x5 x6 x7 x8 x9 x10 x11 x12 x13) (Pure.s87_f24 F x0 x1 x2 x3 x4 x5 x6 x7 x8 x9 x10 x11 x12 x13) (Pure.s88_f24 F x0 x1 x2 x3 x4 x5 x6 x7 x8 x9 x10 x11 x12 x13) (Pure.s92_f24 F x0 x1 x2 x7 x8 x9 x10 x11 x12 x13) (Pure.s93_f24 F x0 x1 x2 x7 x8 x9 x10 x11 x12 x13) (Pure.s94_f24 F x0 x1 x2 x7 x8 x9 x10 x11 x12 x13) then bif Bool.not (Pure.impl_ValidTop F x0 x1 x2 (Pure.s85_f24 F x0 x1 x2 x3 x4 x5 x6 x7 x8 x9 x10 x11 x12 x13) (Pure.s86_f24 F x0 x1 x2 x3 x4 x5 x6 x7 x8 x9 x10 x11 x12 x13) (Pure.s87_f24 F x0 x1 x2 x3 x4 x5 x6 x7 x8 x9 x10 x11 x12 x13) (Pure.s88_f24 F x0 x1 x2 x3 x4 x5 x6 x7 x8 x9 x10 x11 x12 x13) (Pure.s92_f24 F x0 x1 x2 x7 x8 x9 x10 x11 x12 x13) (Pure.s93_f24 F x0 x1 x2 x7 x8 x9 x10 x11 x12 x13) (Pure.s94_f24 F x0 x1 x2 x7 x8 x9 x10 x11 x12 x13)) then some ⟨V.tup [(true, [A.fl FloatKind.f32 0, A.fl FloatKind.f32 0, A.fl FloatKind.f32 0, A.fl FloatKind.f32 0, A.fl FloatKind.f32 0, A.fl FloatKind.f32 0, A.fl FloatKind.f32 0, A.fl FloatKind.f32 0, A.fl FloatKind.f32 0, A.fl FloatKind.f32 0]), (false, [A.bool false])], none, []⟩ else some ⟨V.tup [(true, [A.fl FloatKind.f32 x0, A.fl FloatKind.f32 x1, A.fl FloatKind.f32 x2, A.fl FloatKind.f32 (Pure.s85_f24 F x0 x1 x2 x3 x4 x5 x6 x7 x8 x9 x10 x11 x12 x13), A.fl FloatKind.f32 (Pure.s86_f24 F x0 x1 x2 x3 x4 x5 x6 x7 x8 x9 x10 x11 x12 x13), A.fl FloatKind.f32 (Pure.s87_f24 F x0 x1 x2 x3 x4 x5 x6 x7 x8 x9 x10 x11 x12 x13), A.fl FloatKind.f32 (Pure.s88_f24 F x0 x1 x2 x3 x4 x5 x6 x7 x8 x9 x10 x11 x12 x13), A.fl FloatKind.f32 (Pure.s92_f24 F x0 x1 x2 x7 x8 x9 x10 x11 x12 x13), A.fl FloatKind.f32 (Pure.s93_f24 F x0 x1 x2 x7 x8 x9 x10 x11 x12 x13), A.fl FloatKind.f32 (Pure.s94_f24 F x0 x1 x2 x7 x8 x9 x10 x11 x12 x13)]), (false, [A.bool true])], none, []⟩ else none else none else none else none else none else none else none := by kernel_rfl
  rw [h0]
  unfold Pure.impl_StepTop Pure.impl_StepTop_1 Pure.impl_StepTop_2 Pure.impl_StepTop_3 Pure.impl_StepTop_4 Pure.impl_StepTop_5 Pure.impl_StepTop_6 Pure.impl_StepTop_7 Pure.impl_StepTop_8 Pure.impl_StepTop_9 Pure.impl_StepTop_10 Pure.impl_StepTop_ok
  cases (Pure.impl_ValidTop_ok F x0 x1 x2 x3 x4 x5 x6 x7 x8 x9) with
  | true =>
    cases (Pure.impl_ValidTop F x0 x1 x2 x3 x4 x5 x6 x7 x8 x9) with
    | true =>
      cases (Pure.impl_finiteVector_ok F x10 x11 x12) with
      | true =>
        cases (Pure.impl_finiteVector F x10 x11 x12) with
        | true =>
          cases (Pure.impl_IsFinite F x13) with
          | true =>
            cases (Pure.impl_NormSpin_ok F (Pure.s78_f24 F x0 x1 x2 x3 x4 x5 x6 x7 x8 x9 x10 x11 x12 x13) (Pure.s79_f24 F x0 x1 x2 x3 x4 x5 x6 x7 x8 x9 x10 x11 x12 x13) (Pure.s80_f24 F x0 x1 x2 x3 x4 x5 x6 x7 x8 x9 x10 x11 x12 x13) (Pure.s81_f24 F x0 x1 x2 x3 x4 x5 x6 x7 x8 x9 x10 x11 x12 x13)) with
            | true =>
              cases (Pure.impl_NormSpin_4 F (Pure.s78_f24 F x0 x1 x2 x3 x4 x5 x6 x7 x8 x9 x10 x11 x12 x13) (Pure.s79_f24 F x0 x1 x2 x3 x4 x5 x6 x7 x8 x9 x10 x11 x12 x13) (Pure.s80_f24 F x0 x1 x2 x3 x4 x5 x6 x7 x8 x9 x10 x11 x12 x13) (Pure.s81_f24 F x0 x1 x2 x3 x4 x5 x6 x7 x8 x9 x10 x11 x12 x13)) with
              | true =>
                cases (Pure.impl_finiteVector_ok F (Pure.impl_Top_rate_c1 F x1 x2 x0 x8 x9 x10) (Pure.impl_Top_rate_c1 F x2 x0 x1 x9 x7 x11) (Pure.impl_Top_rate_c1 F x0 x1 x2 x7 x8 x12)) with
                | true =>
                  cases (Pure.impl_finiteVector F (Pure.impl_Top_rate_c1 F x1 x2 x0 x8 x9 x10) (Pure.impl_Top_rate_c1 F x2 x0 x1 x9 x7 x11) (Pure.impl_Top_rate_c1 F x0 x1 x2 x7 x8 x12)) with
                  | true =>
                    cases (Pure.impl_finiteVector_ok F (Pure.s71_f24 F x0 x1 x2 x7 x8 x9 x10 x11 x12 x13) (Pure.s72_f24 F x0 x1 x2 x7 x8 x9 x10 x11 x12 x13) (Pure.s73_f24 F x0 x1 x2 x7 x8 x9 x10 x11 x12 x13)) with
                    | true =>
                      cases (Pure.impl_finiteVector F (Pure.s71_f24 F x0 x1 x2 x7 x8 x9 x10 x11 x12 x13) (Pure.s72_f24 F x0 x1 x2 x7 x8 x9 x10 x11 x12 x13) (Pure.s73_f24 F x0 x1 x2 x7 x8 x9 x10 x11 x12 x13)) with
                      | true =>
                        cases (Pure.impl_finiteVector_ok F (Pure.s82_f24 F x0 x1 x2 x7 x8 x9 x10 x11 x12 x13) (Pure.s83_f24 F x0 x1 x2 x7 x8 x9 x10 x11 x12 x13) (Pure.s84_f24 F x0 x1 x2 x7 x8 x9 x10 x11 x12 x13)) with
                        | true =>
                          cases (Pure.impl_finiteVector F (Pure.s82_f24 F x0 x1 x2 x7 x8 x9 x10 x11 x12 x13) (Pure.s83_f24 F x0 x1 x2 x7 x8 x9 x10 x11 x12 x13) (Pure.s84_f24 F x0 x1 x2 x7 x8 x9 x10 x11 x12 x13)) with
                          | true =>
                            cases (Pure.impl_ValidTop_ok F x0 x1 x2 (Pure.s85_f24 F x0 x1 x2 x3 x4 x5 x6 x7 x8 x9 x10 x11 x12 x13) (Pure.s86_f24 F x0 x1 x2 x3 x4 x5 x6 x7 x8 x9 x10 x11 x12 x13) (Pure.s87_f24 F x0 x1 x2 x3 x4 x5 x6 x7 x8 x9 x10 x11 x12 x13) (Pure.s88_f24 F x0 x1 x2 x3 x4 x5 x6 x7 x8 x9 x10 x11 x12 x13) (Pure.s92_f24 F x0 x1 x2 x7 x8 x9 x10 x11 x12 x13) (Pure.s93_f24 F x0 x1 x2 x7 x8 x9 x10 x11 x12 x13) (Pure.s94_f24 F x0 x1 x2 x7 x8 x9 x10 x11 x12 x13)) with
                            | true =>
                              cases (Pure.impl_ValidTop F x0 x1 x2 (Pure.s85_f24 F x0 x1 x2 x3 x4 x5 x6 x7 x8 x9 x10 x11 x12 x13) (Pure.s86_f24 F x0 x1 x2 x3 x4 x5 x6 x7 x8 x9 x10 x11 x12 x13) (Pure.s87_f24 F x0 x1 x2 x3 x4 x5 x6 x7 x8 x9 x10 x11 x12 x13) (Pure.s88_f24 F x0 x1 x2 x3 x4 x5 x6 x7 x8 x9 x10 x11 x12 x13) (Pure.s92_f24 F x0 x1 x2 x7 x8 x9 x10 x11 x12 x13) (Pure.s93_f24 F x0 x1 x2 x7 x8 x9 x10 x11 x12 x13) (Pure.s94_f24 F x0 x1 x2 x7 x8 x9 x10 x11 x12 x13)) with
                              | true =>
                                intro _; rfl
                              | false =>
                                intro _; rfl
                            | false =>
                              intro h; exact absurd h Bool.false_ne_true
                          | false =>
                            intro _; rfl
                        | false =>
                          intro h; exact absurd h Bool.false_ne_true
                      | false =>
                        intro _; rfl
                    | false =>
                      intro h; exact absurd h Bool.false_ne_true
                  | false =>
                    intro _; rfl
                | false =>
                  intro h; exact absurd h Bool.false_ne_true
              | false =>
                intro _; rfl
            | false =>
              intro h; exact absurd h Bool.false_ne_true
          | false =>
            intro _; rfl
        | false =>
          intro _; rfl
      | false =>
        intro h; exact absurd h Bool.false_ne_true
    | false =>
      intro _; rfl
  | false =>
    intro h; exact absurd h Bool.false_ne_true
theorem ok_impl_StepTop : CallOK Try.prog 24 (c_impl_StepTop real) := by
  refine callOK_of fun args h ret hc => ?_
  unfold c_impl_StepTop at hc
  split at hc
  · rename_i x0 x1 x2 x3 x4 x5 x6 x7 x8 x9 x10 x11 x12 x13
    obtain ⟨hok, rfl⟩ := some_ret hc
    exact holds_ev prog_ok (allOK_cons ok_impl_ValidTop (allOK_cons ok_impl_finiteVector (allOK_cons ok_impl_IsFinite (allOK_cons ok_impl_Top_rate (allOK_cons ok_impl_ScaleVector (allOK_cons ok_impl_AddVectors (allOK_cons ok_impl_TimesSpins (allOK_cons ok_impl_along (allOK_cons ok_impl_NormSpin allOK_nil))))))))) Try.func24 rfl rfl smL_nil rfl (e_impl_StepTop real x0 x1 x2 x3 x4 x5 x6 x7 x8 x9 x10 x11 x12 x13 hok)
  · cases hc
def Pure.laws_sameFloat (F : FOps) (x0 : Int) (x1 : Int) : Bool := bif FOps.cmp F BinOp.neq FloatKind.f64 x0 x0 then FOps.cmp F BinOp.neq FloatKind.f64 x1 x1 else bif FOps.cmp F BinOp.neq FloatKind.f64 x1 x1 then false else bif FOps.cmp F BinOp.eql FloatKind.f64 x0 0 then bif FOps.cmp F BinOp.eql FloatKind.f64 x1 0 then (FOps.cmp F BinOp.gtr FloatKind.f64 (FOps.bin F BinOp.quo FloatKind.f64 4607182418800017408 x0) 0) == (FOps.cmp F BinOp.gtr FloatKind.f64 (FOps.bin F BinOp.quo FloatKind.f64 4607182418800017408 x1) 0) else FOps.cmp F BinOp.eql FloatKind.f64 x0 x1 else FOps.cmp F BinOp.eql FloatKind.f64 x0 x1
def c_laws_sameFloat (F : FOps) : Con
  | [V.at (A.fl FloatKind.f64 x0), V.at (A.fl FloatKind.f64 x1)], [] => some (true, ⟨V.at (A.bool (Pure.laws_sameFloat F x0 x1)), none, []⟩)
  | _, _ => none
theorem e_laws_sameFloat (F : FOps) (x0 : Int) (x1 : Int) : evFn (cxS F tyl [] [] [] 0) Try.f36 false [V.at (A.fl FloatKind.f64 x0), V.at (A.fl FloatKind.f64 x1)] [] = some ⟨V.at (A.bool (Pure.laws_sameFloat F x0 x1)), none, []⟩ := by
  have h0 : evFn (cxS F tyl [] [] [] 0) Try.f36 false [V.at (A.fl FloatKind.f64 x0), V.at (A.fl FloatKind.f64 x1)] [] = bif FOps.cmp F BinOp.neq FloatKind.f64 x0 x0 then bif FOps.cmp F BinOp.neq FloatKind.f64 x0 x0 then some ⟨V.at (A.bool (FOps.cmp F BinOp.neq FloatKind.f64 x1 x1)), none, []⟩ else some ⟨V.at (A.bool false), none, []⟩ else bif FOps.cmp F BinOp.neq FloatKind.f64 x1 x1 then bif FOps.cmp F BinOp.neq FloatKind.f64 x0 x0 then some ⟨V.at (A.bool (FOps.cmp F BinOp.neq FloatKind.f64 x1 x1)), none, []⟩ else some ⟨V.at (A.bool false), none, []⟩ else bif FOps.cmp F BinOp.eql FloatKind.f64 x0 0 then bif FOps.cmp F BinOp.eql FloatKind.f64 x1 0 then some ⟨V.at (A.bool ((FOps.cmp F BinOp.gtr FloatKind.f64 (FOps.bin F BinOp.quo FloatKind.f64 4607182418800017408 x0) 0) == (FOps.cmp F BinOp.gtr FloatKind.f64 (FOps.bin F BinOp.quo FloatKind.f64 4607182418800017408 x1) 0))), none, []⟩ else some ⟨V.at (A.bool (FOps.cmp F BinOp.eql FloatKind.f64 x0 x1)), none, []⟩ else some ⟨V.at (A.bool (FOps.cmp F BinOp.eql FloatKind.f64 x0 x1)), none, []⟩ := by kernel_rfl
  rw [h0]
  unfold Pure.laws_sameFloat
  cases (FOps.cmp F BinOp.neq FloatKind.f64 x0 x0) with
  | true =>
    rfl
  | false =>
    cases (FOps.cmp F BinOp.neq FloatKind.f64 x1 x1) with
    | true =>
      rfl
    | false =>
      cases (FOps.cmp F BinOp.eql FloatKind.f64 x0 0) with
      | true =>
        cases (FOps.cmp F BinOp.eql FloatKind.f64 x1 0) with
        | true =>
          rfl
        | false =>
          rfl
      | false =>
        rfl
theorem ok_laws_sameFloat : CallOK Try.prog 36 (c_laws_sameFloat real) := by
  refine callOK_of fun args h ret hc => ?_
  unfold c_laws_sameFloat at hc
  split at hc
  · rename_i x0 x1
    obtain ⟨_, rfl⟩ := some_ret hc
    exact holds_ev prog_ok allOK_nil Try.func36 rfl rfl smL_nil rfl (e_laws_sameFloat real x0 x1)
  · cases hc
def Pure.laws_eqVector (F : FOps) (x0 : Int) (x1 : Int) (x2 : Int) (x3 : Int) (x4 : Int) (x5 : Int) : Bool := bif Pure.laws_sameFloat F (FOps.conv F FloatKind.f32 FloatKind.f64 x0) (FOps.conv F FloatKind.f32 FloatKind.f64 x3) then bif Pure.laws_sameFloat F (FOps.conv F FloatKind.f32 FloatKind.f64 x1) (FOps.conv F FloatKind.f32 FloatKind.f64 x4) then Pure.laws_sameFloat F (FOps.conv F FloatKind.f32 FloatKind.f64 x2) (FOps.conv F FloatKind.f32 FloatKind.f64 x5) else false else false
def Pure.laws_eqVector_ok (F : FOps) (x0 : Int) (x1 : Int) (x2 : Int) (x3 : Int) (x4 : Int) (x5 : Int) : Bool := bif FOps.convOk F FloatKind.f32 FloatKind.f64 x0 then bif FOps.convOk F FloatKind.f32 FloatKind.f64 x3 then bif Pure.laws_sameFloat F (FOps.conv F FloatKind.f32 FloatKind.f64 x0) (FOps.conv F FloatKind.f32 FloatKind.f64 x3) then bif FOps.convOk F FloatKind.f32 FloatKind.f64 x1 then bif FOps.convOk F FloatKind.f32 FloatKind.f64 x4 then bif Pure.laws_sameFloat F (FOps.conv F FloatKind.f32 FloatKind.f64 x1) (FOps.conv F FloatKind.f32 FloatKind.f64 x4) then bif FOps.convOk F FloatKind.f32 FloatKind.f64 x2 then FOps.convOk F FloatKind.f32 FloatKind.f64 x5 else false else true else false else false else true else false else false
def c_laws_eqVector (F : FOps) : Con
  | [V.agg [A.fl FloatKind.f32 x0, A.fl FloatKind.f32 x1, A.fl FloatKind.f32 x2], V.agg [A.fl FloatKind.f32 x3, A.fl FloatKind.f32 x4, A.fl FloatKind.f32 x5]], [] => some (Pure.laws_eqVector_ok F x0 x1 x2 x3 x4 x5, ⟨V.at (A.bool (Pure.laws_eqVector F x0 x1 x2 x3 x4 x5)), none, []⟩)
  | _, _ => none
theorem e_laws_eqVector (F : FOps) (x0 : Int) (x1 : Int) (x2 : Int) (x3 : Int) (x4 : Int) (x5 : Int) : Pure.laws_eqVector_ok F x0 x1 x2 x3 x4 x5 = true → evFn (cxS F tyl [(36, c_laws_sameFloat F)] [] [] 0) Try.f57 false [V.agg [A.fl FloatKind.f32 x0, A.fl FloatKind.f32 x1, A.fl FloatKind.f32 x2], V.agg [A.fl FloatKind.f32 x3, A.fl FloatKind.f32 x4, A.fl FloatKind.f32 x5]] [] = some ⟨V.at (A.bool (Pure.laws_eqVector F x0 x1 x2 x3 x4 x5)), none, []⟩ := by
  have h0 : evFn (cxS F tyl [(36, c_laws_sameFloat F)] [] [] 0) Try.f57 false [V.agg [A.fl FloatKind.f32 x0, A.fl FloatKind.f32 x1, A.fl FloatKind.f32 x2], V.agg [A.fl FloatKind.f32 x3, A.fl FloatKind.f32 x4, A.fl FloatKind.f32 x5]] [] = bif FOps.convOk F FloatKind.f32 FloatKind.f64 x0 then bif FOps.convOk F FloatKind.f32 FloatKind.f64 x3 then bif Bool.not (Pure.laws_sameFloat F (FOps.conv F FloatKind.f32 FloatKind.f64 x0) (FOps.conv F FloatKind.f32 FloatKind.f64 x3)) then some ⟨V.at (A.bool false), none, []⟩ else bif FOps.convOk F FloatKind.f32 FloatKind.f64 x1 then bif FOps.convOk F FloatKind.f32 FloatKind.f64 x4 then bif Bool.not (Pure.laws_sameFloat F (FOps.conv F FloatKind.f32 FloatKind.f64 x1) (FOps.conv F FloatKind.f32 FloatKind.f64 x4)) then some ⟨V.at (A.bool false), none, []⟩ else bif FOps.convOk F FloatKind.f32 FloatKind.f64 x2 then bif FOps.convOk F FloatKind.f32 FloatKind.f64 x5 then bif Bool.not (Pure.laws_sameFloat F (FOps.conv F FloatKind.f32 FloatKind.f64 x2) (FOps.conv F FloatKind.f32 FloatKind.f64 x5)) then some ⟨V.at (A.bool false), none, []⟩ else some ⟨V.at (A.bool true), none, []⟩ else none else none else none else none else none else none := by kernel_rfl
  rw [h0]
  unfold Pure.laws_eqVector Pure.laws_eqVector_ok
  cases (FOps.convOk F FloatKind.f32 FloatKind.f64 x0) with
  | true =>
    cases (FOps.convOk F FloatKind.f32 FloatKind.f64 x3) with
    | true =>
      cases (Pure.laws_sameFloat F (FOps.conv F FloatKind.f32 FloatKind.f64 x0) (FOps.conv F FloatKind.f32 FloatKind.f64 x3)) with
      | true =>
        cases (FOps.convOk F FloatKind.f32 FloatKind.f64 x1) with
        | true =>
          cases (FOps.convOk F FloatKind.f32 FloatKind.f64 x4) with
          | true =>
            cases (Pure.laws_sameFloat F (FOps.conv F FloatKind.f32 FloatKind.f64 x1) (FOps.conv F FloatKind.f32 FloatKind.f64 x4)) with
            | true =>
              cases (FOps.convOk F FloatKind.f32 FloatKind.f64 x2) with
              | true =>
                cases (FOps.convOk F FloatKind.f32 FloatKind.f64 x5) with
                | true =>
                  cases (Pure.laws_sameFloat F (FOps.conv F FloatKind.f32 FloatKind.f64 x2) (FOps.conv F FloatKind.f32 FloatKind.f64 x5)) with
                  | true =>
                    intro _; rfl
                  | false =>
                    intro _; rfl
                | false =>
                  intro h; exact absurd h Bool.false_ne_true
              | false =>
                intro h; exact absurd h Bool.false_ne_true
            | false =>
              intro _; rfl
          | false =>
            intro h; exact absurd h Bool.false_ne_true
        | false =>
          intro h; exact absurd h Bool.false_ne_true
      | false =>
        intro _; rfl
    | false =>
      intro h; exact absurd h Bool.false_ne_true
  | false =>
    intro h; exact absurd h Bool.false_ne_true
theorem ok_laws_eqVector : CallOK Try.prog 57 (c_laws_eqVector real) := by
  refine callOK_of fun args h ret hc => ?_
  unfold c_laws_eqVector at hc
  split at hc
  · rename_i x0 x1 x2 x3 x4 x5
    obtain ⟨hok, rfl⟩ := some_ret hc
    exact holds_ev prog_ok (allOK_cons ok_laws_sameFloat allOK_nil) Try.func57 rfl rfl smL_nil rfl (e_laws_eqVector real x0 x1 x2 x3 x4 x5 hok)
  · cases hc
def Pure.laws_eqSpin (F : FOps) (x0 : Int) (x1 : Int) (x2 : Int) (x3 : Int) (x4 : Int) (x5 : Int) (x6 : Int) (x7 : Int) : Bool := bif Pure.laws_sameFloat F (FOps.conv F FloatKind.f32 FloatKind.f64 x0) (FOps.conv F FloatKind.f32 FloatKind.f64 x4) then bif Pure.laws_sameFloat F (FOps.conv F FloatKind.f32 FloatKind.f64 x1) (FOps.conv F FloatKind.f32 FloatKind.f64 x5) then bif Pure.laws_sameFloat F (FOps.conv F FloatKind.f32 FloatKind.f64 x2) (FOps.conv F FloatKind.f32 FloatKind.f64 x6) then Pure.laws_sameFloat F (FOps.conv F FloatKind.f32 FloatKind.f64 x3) (FOps.conv F FloatKind.f32 FloatKind.f64 x7) else false else false else false
def Pure.laws_eqSpin_ok (F : FOps) (x0 : Int) (x1 : Int) (x2 : Int) (x3 : Int) (x4 : Int) (x5 : Int) (x6 : Int) (x7 : Int) : Bool := bif FOps.convOk F FloatKind.f32 FloatKind.f64 x0 then bif FOps.convOk F FloatKind.f32 FloatKind.f64 x4 then bif Pure.laws_sameFloat F (FOps.conv F FloatKind.f32 FloatKind.f64 x0) (FOps.conv F FloatKind.f32 FloatKind.f64 x4) then bif FOps.convOk F FloatKind.f32 FloatKind.f64 x1 then bif FOps.convOk F FloatKind.f32 FloatKind.f64 x5 then bif Pure.laws_sameFloat F (FOps.conv F FloatKind.f32 FloatKind.f64 x1) (FOps.conv F FloatKind.f32 FloatKind.f64 x5) then bif FOps.convOk F FloatKind.f32 FloatKind.f64 x2 then bif FOps.convOk F FloatKind.f32 FloatKind.f64 x6 then bif Pure.laws_sameFloat F (FOps.conv F FloatKind.f32 FloatKind.f64 x2) (FOps.conv F FloatKind.f32 FloatKind.f64 x6) then bif FOps.convOk F FloatKind.f32 FloatKind.f64 x3 then FOps.convOk F FloatKind.f32 FloatKind.f64 x7 else false else true else false else false else true else false else false else true else false else false
def c_laws_eqSpin (F : FOps) : Con
  | [V.agg [A.fl FloatKind.f32 x0, A.fl FloatKind.f32 x1, A.fl FloatKind.f32 x2, A.fl FloatKind.f32 x3], V.agg [A.fl FloatKind.f32 x4, A.fl FloatKind.f32 x5, A.fl FloatKind.f32 x6, A.fl FloatKind.f32 x7]], [] => some (Pure.laws_eqSpin_ok F x0 x1 x2 x3 x4 x5 x6 x7, ⟨V.at (A.bool (Pure.laws_eqSpin F x0 x1 x2 x3 x4 x5 x6 x7)), none, []⟩)
  | _, _ => none
theorem e_laws_eqSpin (F : FOps) (x0 : Int) (x1 : Int) (x2 : Int) (x3 : Int) (x4 : Int) (x5 : Int) (x6 : Int) (x7 : Int) : Pure.laws_eqSpin_ok F x0 x1 x2 x3 x4 x5 x6 x7 = true → evFn (cxS F tyl [(36, c_laws_sameFloat F)] [] [] 0) Try.f20 false [V.agg [A.fl FloatKind.f32 x0, A.fl FloatKind.f32 x1, A.fl FloatKind.f32 x2, A.fl FloatKind.f32 x3], V.agg [A.fl FloatKind.f32 x4, A.fl FloatKind.f32 x5, A.fl FloatKind.f32 x6, A.fl FloatKind.f32 x7]] [] = some ⟨V.at (A.bool (Pure.laws_eqSpin F x0 x1 x2 x3 x4 x5 x6 x7)), none, []⟩ := by
  have h0 : evFn (cxS F tyl [(36, c_laws_sameFloat F)] [] [] 0) Try.f20 false [V.agg [A.fl FloatKind.f32 x0, A.fl FloatKind.f32 x1, A.fl FloatKind.f32 x2, A.fl FloatKind.f32 x3], V.agg [A.fl FloatKind.f32 x4, A.fl FloatKind.f32 x5, A.fl FloatKind.f32 x6, A.fl FloatKind.f32 x7]] [] = bif FOps.convOk F FloatKind.f32 FloatKind.f64 x0 then bif FOps.convOk F FloatKind.f32 FloatKind.f64 x4 then bif Bool.not (Pure.laws_sameFloat F (FOps.conv F FloatKind.f32 FloatKind.f64 x0) (FOps.conv F FloatKind.f32 FloatKind.f64 x4)) then some ⟨V.at (A.bool false), none, []⟩ else bif FOps.convOk F FloatKind.f32 FloatKind.f64 x1 then bif FOps.convOk F FloatKind.f32 FloatKind.f64 x5 then bif Bool.not (Pure.laws_sameFloat F (FOps.conv F FloatKind.f32 FloatKind.f64 x1) (FOps.conv F FloatKind.f32 FloatKind.f64 x5)) then some ⟨V.at (A.bool false), none, []⟩ else bif FOps.convOk F FloatKind.f32 FloatKind.f64 x2 then bif FOps.convOk F FloatKind.f32 FloatKind.f64 x6 then bif Bool.not (Pure.laws_sameFloat F (FOps.conv F FloatKind.f32 FloatKind.f64 x2) (FOps.conv F FloatKind.f32 FloatKind.f64 x6)) then some ⟨V.at (A.bool false), none, []⟩ else bif FOps.convOk F FloatKind.f32 FloatKind.f64 x3 then bif FOps.convOk F FloatKind.f32 FloatKind.f64 x7 then bif Bool.not (Pure.laws_sameFloat F (FOps.conv F FloatKind.f32 FloatKind.f64 x3) (FOps.conv F FloatKind.f32 FloatKind.f64 x7)) then some ⟨V.at (A.bool false), none, []⟩ else some ⟨V.at (A.bool true), none, []⟩ else none else none else none else none else none else none else none else none := by kernel_rfl
  rw [h0]
  unfold Pure.laws_eqSpin Pure.laws_eqSpin_ok
  cases (FOps.convOk F FloatKind.f32 FloatKind.f64 x0) with
  | true =>
    cases (FOps.convOk F FloatKind.f32 FloatKind.f64 x4) with
    | true =>
      cases (Pure.laws_sameFloat F (FOps.conv F FloatKind.f32 FloatKind.f64 x0) (FOps.conv F FloatKind.f32 FloatKind.f64 x4)) with
      | true =>
        cases (FOps.convOk F FloatKind.f32 FloatKind.f64 x1) with
        | true =>
          cases (FOps.convOk F FloatKind.f32 FloatKind.f64 x5) with
          | true =>
            cases (Pure.laws_sameFloat F (FOps.conv F FloatKind.f32 FloatKind.f64 x1) (FOps.conv F FloatKind.f32 FloatKind.f64 x5)) with
            | true =>
              cases (FOps.convOk F FloatKind.f32 FloatKind.f64 x2) with
              | true =>
                cases (FOps.convOk F FloatKind.f32 FloatKind.f64 x6) with
                | true =>
                  cases (Pure.laws_sameFloat F (FOps.conv F FloatKind.f32 FloatKind.f64 x2) (FOps.conv F FloatKind.f32 FloatKind.f64 x6)) with
                  | true =>
                    cases (FOps.convOk F FloatKind.f32 FloatKind.f64 x3) with
                    | true =>
                      cases (FOps.convOk F FloatKind.f32 FloatKind.f64 x7) with
                      | true =>
                        cases (Pure.laws_sameFloat F (FOps.conv F FloatKind.f32 FloatKind.f64 x3) (FOps.conv F FloatKind.f32 FloatKind.f64 x7)) with
                        | true =>
                          intro _; rfl
                        | false =>
                          intro _; rfl
                      | false =>
                        intro h; exact absurd h Bool.false_ne_true
                    | false =>
                      intro h; exact absurd h Bool.false_ne_true
                  | false =>
                    intro _; rfl
                | false =>
                  intro h; exact absurd h Bool.false_ne_true
              | false =>
                intro h; exact absurd h Bool.false_ne_true
            | false =>
              intro _; rfl
          | false =>
            intro h; exact absurd h Bool.false_ne_true
        | false =>
          intro h; exact absurd h Bool.false_ne_true
      | false =>
        intro _; rfl
    | false =>
      intro h; exact absurd h Bool.false_ne_true
  | false =>
    intro h; exact absurd h Bool.false_ne_true
theorem ok_laws_eqSpin : CallOK Try.prog 20 (c_laws_eqSpin real) := by
  refine callOK_of fun args h ret hc => ?_
  unfold c_laws_eqSpin at hc
  split at hc
  · rename_i x0 x1 x2 x3 x4 x5 x6 x7
    obtain ⟨hok, rfl⟩ := some_ret hc
    exact holds_ev prog_ok (allOK_cons ok_laws_sameFloat allOK_nil) Try.func20 rfl rfl smL_nil rfl (e_laws_eqSpin real x0 x1 x2 x3 x4 x5 x6 x7 hok)
  · cases hc
def Pure.laws_eqTop (F : FOps) (x0 : Int) (x1 : Int) (x2 : Int) (x3 : Int) (x4 : Int) (x5 : Int) (x6 : Int) (x7 : Int) (x8 : Int) (x9 : Int) (x10 : Int) (x11 : Int) (x12 : Int) (x13 : Int) (x14 : Int) (x15 : Int) (x16 : Int) (x17 : Int) (x18 : Int) (x19 : Int) : Bool := bif Pure.laws_eqVector F x0 x1 x2 x10 x11 x12 then bif Pure.laws_eqSpin F x3 x4 x5 x6 x13 x14 x15 x16 then Pure.laws_eqVector F x7 x8 x9 x17 x18 x19 else false else false
def Pure.laws_eqTop_ok (F : FOps) (x0 : Int) (x1 : Int) (x2 : Int) (x3 : Int) (x4 : Int) (x5 : Int) (x6 : Int) (x7 : Int) (x8 : Int) (x9 : Int) (x10 : Int) (x11 : Int) (x12 : Int) (x13 : Int) (x14 : Int) (x15 : Int) (x16 : Int) (x17 : Int) (x18 : Int) (x19 : Int) : Bool := bif Pure.laws_eqVector_ok F x0 x1 x2 x10 x11 x12 then bif Pure.laws_eqVector F x0 x1 x2 x10 x11 x12 then bif Pure.laws_eqSpin_ok F x3 x4 x5 x6 x13 x14 x15 x16 then bif Pure.laws_eqSpin F x3 x4 x5 x6 x13 x14 x15 x16 then Pure.laws_eqVector_ok F x7 x8 x9 x17 x18 x19 else true else false else true else false
def c_laws_eqTop (F : FOps) : Con
  | [V.agg [A.fl FloatKind.f32 x0, A.fl FloatKind.f32 x1, A.fl FloatKind.f32 x2, A.fl FloatKind.f32 x3, A.fl FloatKind.f32 x4, A.fl FloatKind.f32 x5, A.fl FloatKind.f32 x6, A.fl FloatKind.f32 x7, A.fl FloatKind.f32 x8, A.fl FloatKind.f32 x9], V.agg [A.fl FloatKind.f32 x10, A.fl FloatKind.f32 x11, A.fl FloatKind.f32 x12, A.fl FloatKind.f32 x13, A.fl FloatKind.f32 x14, A.fl FloatKind.f32 x15, A.fl FloatKind.f32 x16, A.fl FloatKind.f32 x17, A.fl FloatKind.f32 x18, A.fl FloatKind.f32 x19]], [] => some (Pure.laws_eqTop_ok F x0 x1 x2 x3 x4 x5 x6 x7 x8 x9 x10 x11 x12 x13 x14 x15 x16 x17 x18 x19, ⟨V.at (A.bool (Pure.laws_eqTop F x0 x1 x2 x3 x4 x5 x6 x7 x8 x9 x10 x11 x12 x13 x14 x15 x16 x17 x18 x19)), none, []⟩)
  | _, _ => none
theorem e_laws_eqTop (F : FOps) (x0 : Int) (x1 : Int) (x2 : Int) (x3 : Int) (x4 : Int) (x5 : Int) (x6 : Int) (x7 : Int) (x8 : Int) (x9 : Int) (x10 : Int) (x11 : Int) (x12 : Int) (x13 : Int) (x14 : Int) (x15 : Int) (x16 : Int) (x17 : Int) (x18 : Int) (x19 : Int) : Pure.laws_eqTop_ok F x0 x1 x2 x3 x4 x5 x6 x7 x8 x9 x10 x11 x12 x13 x14 x15 x16 x17 x18 x19 = true → evFn (cxS F tyl [(57, c_laws_eqVector F), (20, c_laws_eqSpin F)] [] [] 0) Try.f25 false [V.agg [A.fl FloatKind.f32 x0, A.fl FloatKind.f32 x1, A.fl FloatKind.f32 x2, A.fl FloatKind.f32 x3, A.fl FloatKind.f32 x4, A.fl FloatKind.f32 x5, A.fl FloatKind.f32 x6, A.fl FloatKind.f32 x7, A.fl FloatKind.f32 x8, A.fl FloatKind.f32 x9], V.agg [A.fl FloatKind.f32 x10, A.fl FloatKind.f32 x11, A.fl FloatKind.f32 x12, A.fl FloatKind.f32 x13, A.fl FloatKind.f32 x14, A.fl FloatKind.f32 x15, A.fl FloatKind.f32 x16, A.fl FloatKind.f32 x17, A.fl FloatKind.f32 x18, A.fl FloatKind.f32 x19]] [] = some ⟨V.at (A.bool (Pure.laws_eqTop F x0 x1 x2 x3 x4 x5 x6 x7 x8 x9 x10 x11 x12 x13 x14 x15 x16 x17 x18 x19)), none, []⟩ := by
  have h0 : evFn (cxS F tyl [(57, c_laws_eqVector F), (20, c_laws_eqSpin F)] [] [] 0) Try.f25 false [V.agg [A.fl FloatKind.f32 x0, A.fl FloatKind.f32 x1, A.fl FloatKind.f32 x2, A.fl FloatKind.f32 x3, A.fl FloatKind.f32 x4, A.fl FloatKind.f32 x5, A.fl FloatKind.f32 x6, A.fl FloatKind.f32 x7, A.fl FloatKind.f32 x8, A.fl FloatKind.f32 x9], V.agg [A.fl FloatKind.f32 x10, A.fl FloatKind.f32 x11, A.fl FloatKind.f32 x12, A.fl FloatKind.f32 x13, A.fl FloatKind.f32 x14, A.fl FloatKind.f32 x15, A.fl FloatKind.f32 x16, A.fl FloatKind.f32 x17, A.fl FloatKind.f32 x18, A.fl FloatKind.f32 x19]] [] = bif Pure.laws_eqVector_ok F x0 x1 x2 x10 x11 x12 then bif Bool.not (Pure.laws_eqVector F x0 x1 x2 x10 x11 x12) then some ⟨V.at (A.bool false), none, []⟩ else bif Pure.laws_eqSpin_ok F x3 x4 x5 x6 x13 x14 x15 x16 then bif Bool.not (Pure.laws_eqSpin F x3 x4 x5 x6 x13 x14 x15 x16) then some ⟨V.at (A.bool false), none, []⟩ else bif Pure.laws_eqVector_ok F x7 x8 x9 x17 x18 x19 then bif Bool.not (Pure.laws_eqVector F x7 x8 x9 x17 x18 x19) then some ⟨V.at (A.bool false), none, []⟩ else some ⟨V.at (A.bool true), none, []⟩ else none else none else none := by kernel_rfl
  rw [h0]
  unfold Pure.laws_eqTop Pure.laws_eqTop_ok
  cases (Pure.laws_eqVector_ok F x0 x1 x2 x10 x11 x12) with
  | true =>
    cases (Pure.laws_eqVector F x0 x1 x2 x10 x11 x12) with
    | true =>
      cases (Pure.laws_eqSpin_ok F x3 x4 x5 x6 x13 x14 x15 x16) with
      | true =>
        cases (Pure.laws_eqSpin F x3 x4 x5 x6 x13 x14 x15 x16) with
        | true =>
          cases (Pure.laws_eqVector_ok F x7 x8 x9 x17 x18 x19) with
          | true =>
            cases (Pure.laws_eqVector F x7 x8 x9 x17 x18 x19) with
            | true =>
              intro _; rfl
            | false =>
              intro _; rfl
          | false =>
            intro h; exact absurd h Bool.false_ne_true
        | false =>
          intro _; rfl
      | false =>
        intro h; exact absurd h Bool.false_ne_true
    | false =>
      intro _; rfl
  | false =>
    intro h; exact absurd h Bool.false_ne_true
theorem ok_laws_eqTop : CallOK Try.prog 25 (c_laws_eqTop real) := by
  refine callOK_of fun args h ret hc => ?_
  unfold c_laws_eqTop at hc
  split at hc
  · rename_i x0 x1 x2 x3 x4 x5 x6 x7 x8 x9 x10 x11 x12 x13 x14 x15 x16 x17 x18 x19
    obtain ⟨hok, rfl⟩ := some_ret hc
    exact holds_ev prog_ok (allOK_cons ok_laws_eqVector (allOK_cons ok_laws_eqSpin allOK_nil)) Try.func25 rfl rfl smL_nil rfl (e_laws_eqTop real x0 x1 x2 x3 x4 x5 x6 x7 x8 x9 x10 x11 x12 x13 x14 x15 x16 x17 x18 x19 hok)
  · cases hc
def Pure.laws_FnExactStepTop (F : FOps) (x0 : Int) (x1 : Int) (x2 : Int) (x3 : Int) (x4 : Int) (x5 : Int) (x6 : Int) (x7 : Int) (x8 : Int) (x9 : Int) (x10 : Int) (x11 : Int) (x12 : Int) (x13 : Int) : Bool := bif Pure.laws_eqTop F (Pure.impl_StepTop F x0 x1 x2 x3 x4 x5 x6 x7 x8 x9 x10 x11 x12 x13) (Pure.impl_StepTop_1 F x0 x1 x2 x3 x4 x5 x6 x7 x8 x9 x10 x11 x12 x13) (Pure.impl_StepTop_2 F x0 x1 x2 x3 x4 x5 x6 x7 x8 x9 x10 x11 x12 x13) (Pure.impl_StepTop_3 F x0 x1 x2 x3 x4 x5 x6 x7 x8 x9 x10 x11 x12 x13) (Pure.impl_StepTop_4 F x0 x1 x2 x3 x4 x5 x6 x7 x8 x9 x10 x11 x12 x13) (Pure.impl_StepTop_5 F x0 x1 x2 x3 x4 x5 x6 x7 x8 x9 x10 x11 x12 x13) (Pure.impl_StepTop_6 F x0 x1 x2 x3 x4 x5 x6 x7 x8 x9 x10 x11 x12 x13) (Pure.impl_StepTop_7 F x0 x1 x2 x3 x4 x5 x6 x7 x8 x9 x10 x11 x12 x13) (Pure.impl_StepTop_8 F x0 x1 x2 x3 x4 x5 x6 x7 x8 x9 x10 x11 x12 x13) (Pure.impl_StepTop_9 F x0 x1 x2 x3 x4 x5 x6 x7 x8 x9 x10 x11 x12 x13) (Pure.spec_StepTop F x0 x1 x2 x3 x4 x5 x6 x7 x8 x9 x10 x11 x12 x13) (Pure.spec_StepTop_1 F x0 x1 x2 x3 x4 x5 x6 x7 x8 x9 x10 x11 x12 x13) (Pure.spec_StepTop_2 F x0 x1 x2 x3 x4 x5 x6 x7 x8 x9 x10 x11 x12 x13) (Pure.spec_StepTop_3 F x0 x1 x2 x3 x4 x5 x6 x7 x8 x9 x10 x11 x12 x13) (Pure.spec_StepTop_4 F x0 x1 x2 x3 x4 x5 x6 x7 x8 x9 x10 x11 x12 x13) (Pure.spec_StepTop_5 F x0 x1 x2 x3 x4 x5 x6 x7 x8 x9 x10 x11 x12 x13) (Pure.spec_StepTop_6 F x0 x1 x2 x3 x4 x5 x6 x7 x8 x9 x10 x11 x12 x13) (Pure.spec_StepTop_7 F x0 x1 x2 x3 x4 x5 x6 x7 x8 x9 x10 x11 x12 x13) (Pure.spec_StepTop_8 F x0 x1 x2 x3 x4 x5 x6 x7 x8 x9 x10 x11 x12 x13) (Pure.spec_StepTop_9 F x0 x1 x2 x3 x4 x5 x6 x7 x8 x9 x10 x11 x12 x13) then (Pure.impl_StepTop_10 F x0 x1 x2 x3 x4 x5 x6 x7 x8 x9 x10 x11 x12 x13) == (Pure.spec_StepTop_10 F x0 x1 x2 x3 x4 x5 x6 x7 x8 x9 x10 x11 x12 x13) else false
def Pure.laws_FnExactStepTop_ok (F : FOps) (x0 : Int) (x1 : Int) (x2 : Int) (x3 : Int) (x4 : Int) (x5 : Int) (x6 : Int) (x7 : Int) (x8 : Int) (x9 : Int) (x10 : Int) (x11 : Int) (x12 : Int) (x13 : Int) : Bool := bif Pure.spec_StepTop_ok F x0 x1 x2 x3 x4 x5 x6 x7 x8 x9 x10 x11 x12 x13 then bif Pure.impl_StepTop_ok F x0 x1 x2 x3 x4 x5 x6 x7 x8 x9 x10 x11 x12 x13 then Pure.laws_eqTop_ok F (Pure.impl_StepTop F x0 x1 x2 x3 x4 x5 x6 x7 x8 x9 x10 x11 x12 x13) (Pure.impl_StepTop_1 F x0 x1 x2 x3 x4 x5 x6 x7 x8 x9 x10 x11 x12 x13) (Pure.impl_StepTop_2 F x0 x1 x2 x3 x4 x5 x6 x7 x8 x9 x10 x11 x12 x13) (Pure.impl_StepTop_3 F x0 x1 x2 x3 x4 x5 x6 x7 x8 x9 x10 x11 x12 x13) (Pure.impl_StepTop_4 F x0 x1 x2 x3 x4 x5 x6 x7 x8 x9 x10 x11 x12 x13) (Pure.impl_StepTop_5 F x0 x1 x2 x3 x4 x5 x6 x7 x8 x9 x10 x11 x12 x13) (Pure.impl_StepTop_6 F x0 x1 x2 x3 x4 x5 x6 x7 x8 x9 x10 x11 x12 x13) (Pure.impl_StepTop_7 F x0 x1 x2 x3 x4 x5 x6 x7 x8 x9 x10 x11 x12 x13) (Pure.impl_StepTop_8 F x0 x1 x2 x3 x4 x5 x6 x7 x8 x9 x10 x11 x12 x13) (Pure.impl_StepTop_9 F x0 x1 x2 x3 x4 x5 x6 x7 x8 x9 x10 x11 x12 x13) (Pure.spec_StepTop F x0 x1 x2 x3 x4 x5 x6 x7 x8 x9 x10 x11 x12 x13) (Pure.spec_StepTop_1 F x0 x1 x2 x3 x4 x5 x6 x7 x8 x9 x10 x11 x12 x13) (Pure.spec_StepTop_2 F x0 x1 x2 x3 x4 x5 x6 x7 x8 x9 x10 x11 x12 x13) (Pure.spec_StepTop_3 F x0 x1 x2 x3 x4 x5 x6 x7 x8 x9 x10 x11 x12 x13) (Pure.spec_StepTop_4 F x0 x1 x2 x3 x4 x5 x6 x7 x8 x9 x10 x11 x12 x13) (Pure.spec_StepTop_5 F x0 x1 x2 x3 x4 x5 x6 x7 x8 x9 x10 x11 x12 x13) (Pure.spec_StepTop_6 F x0 x1 x2 x3 x4 x5 x6 x7 x8 x9 x10 x11 x12 x13) (Pure.spec_StepTop_7 F x0 x1 x2 x3 x4 x5 x6 x7 x8 x9 x10 x11 x12 x13) (Pure.spec_StepTop_8 F x0 x1 x2 x3 x4 x5 x6 x7 x8 x9 x10 x11 x12 x13) (Pure.spec_StepTop_9 F x0 x1 x2 x3 x4 x5 x6 x7 x8 x9 x10 x11 x12 x13) else false else false
def c_laws_FnExactStepTop (F : FOps) : Con
  | [V.agg [A.fl FloatKind.f32 x0, A.fl FloatKind.f32 x1, A.fl FloatKind.f32 x2, A.fl FloatKind.f32 x3, A.fl FloatKind.f32 x4, A.fl FloatKind.f32 x5, A.fl FloatKind.f32 x6, A.fl FloatKind.f32 x7, A.fl FloatKind.f32 x8, A.fl FloatKind.f32 x9], V.agg [A.fl FloatKind.f32 x10, A.fl FloatKind.f32 x11, A.fl FloatKind.f32 x12], V.at (A.fl FloatKind.f32 x13)], [] => some (Pure.laws_FnExactStepTop_ok F x0 x1 x2 x3 x4 x5 x6 x7 x8 x9 x10 x11 x12 x13, ⟨V.at (A.bool (Pure.laws_FnExactStepTop F x0 x1 x2 x3 x4 x5 x6 x7 x8 x9 x10 x11 x12 x13)), none, []⟩)
  | _, _ => none
theorem e_laws_FnExactStepTop (F : FOps) (x0 : Int) (x1 : Int) (x2 : Int) (x3 : Int) (x4 : Int) (x5 : Int) (x6 : Int) (x7 : Int) (x8 : Int) (x9 : Int) (x10 : Int) (x11 : Int) (x12 : Int) (x13 : Int) : Pure.laws_FnExactStepTop_ok F x0 x1 x2 x3 x4 x5 x6 x7 x8 x9 x10 x11 x12 x13 = true → evFn (cxS F tyl [(22, c_laws_toTop F), (23, c_laws_toVector F), (21, c_spec_StepTop F), (24, c_impl_StepTop F), (25, c_laws_eqTop F)] [] [] 0) Try.f5 false [V.agg [A.fl FloatKind.f32 x0, A.fl FloatKind.f32 x1, A.fl FloatKind.f32 x2, A.fl FloatKind.f32 x3, A.fl FloatKind.f32 x4, A.fl FloatKind.f32 x5, A.fl FloatKind.f32 x6, A.fl FloatKind.f32 x7, A.fl FloatKind.f32 x8, A.fl FloatKind.f32 x9], V.agg [A.fl FloatKind.f32 x10, A.fl FloatKind.f32 x11, A.fl FloatKind.f32 x12], V.at (A.fl FloatKind.f32 x13)] [] = some ⟨V.at (A.bool (Pure.laws_FnExactStepTop F x0 x1 x2 x3 x4 x5 x6 x7 x8 x9 x10 x11 x12 x13)), none, []⟩ := by
  have h0 : evFn (cxS F tyl [(22, c_laws_toTop F), (23, c_laws_toVector F), (21, c_spec_StepTop F), (24, c_impl_StepTop F), (25, c_laws_eqTop F)] [] [] 0) Try.f5 false [V.agg [A.fl FloatKind.f32 x0, A.fl FloatKind.f32 x1, A.fl FloatKind.f32 x2, A.fl FloatKind.f32 x3, A.fl FloatKind.f32 x4, A.fl FloatKind.f32 x5, A.fl FloatKind.f32 x6, A.fl FloatKind.f32 x7, A.fl FloatKind.f32 x8, A.fl FloatKind.f32 x9], V.agg [A.fl FloatKind.f32 x10, A.fl FloatKind.f32 x11, A.fl FloatKind.f32 x12], V.at (A.fl FloatKind.f32 x13)] [] = bif Pure.spec_StepTop_ok F x0 x1 x2 x3 x4 x5 x6 x7 x8 x9 x10 x11 x12 x13 then bif Pure.impl_StepTop_ok F x0 x1 x2 x3 x4 x5 x6 x7 x8 x9 x10 x11 x12 x13 then bif Pure.laws_eqTop_ok F (Pure.impl_StepTop F x0 x1 x2 x3 x4 x5 x6 x7 x8 x9 x10 x11 x12 x13) (Pure.impl_StepTop_1 F x0 x1 x2 x3 x4 x5 x6 x7 x8 x9 x10 x11 x12 x13) (Pure.impl_StepTop_2 F x0 x1 x2 x3 x4 x5 x6 x7 x8 x9 x10 x11 x12 x13) (Pure.impl_StepTop_3 F x0 x1 x2 x3 x4 x5 x6 x7 x8 x9 x10 x11 x12 x13) (Pure.impl_StepTop_4 F x0 x1 x2 x3 x4 x5 x6 x7 x8 x9 x10 x11 x12 x13) (Pure.impl_StepTop_5 F x0 x1 x2 x3 x4 x5 x6 x7 x8 x9 x10 x11 x12 x13) (Pure.impl_StepTop_6 F x0 x1 x2 x3 x4 x5 x6 x7 x8 x9 x10 x11 x12 x13) (Pure.impl_StepTop_7 F x0 x1 x2 x3 x4 x5 x6 x7 x8 x9 x10 x11 x12 x13) (Pure.impl_StepTop_8 F x0 x1 x2 x3 x4 x5 x6 x7 x8 x9 x10 x11 x12 x13) (Pure.impl_StepTop_9 F x0 x1 x2 x3 x4 x5 x6 x7 x8 x9 x10 x11 x12 x13) (Pure.spec_StepTop F x0 x1 x2 x3 x4 x5 x6 x7 x8 x9 x10 x11 x12 x13) (Pure.spec_StepTop_1 F x0 x1 x2 x3 x4 x5 x6 x7 x8 x9 x10 x11 x12 x13) (Pure.spec_StepTop_2 F x0 x1 x2 x3 x4 x5 x6 x7 x8 x9 x10 x11 x12 x13) (Pure.spec_StepTop_3 F x0 x1 x2 x3 x4 x5 x6 x7 x8 x9 x10 x11 x12 x13) (Pure.spec_StepTop_4 F x0 x1 x2 x3 x4 x5 x6 x7 x8 x9 x10 x11 x12 x13) (Pure.spec_StepTop_5 F x0 x1 x2 x3 x4 x5 x6 x7 x8 x9 x10 x11 x12 x13) (Pure.spec_StepTop_6 F x0 x1 x2 x3 x4 x5 x6 x7 x8 x9 x10 x11 x12 x13) (Pure.spec_StepTop_7 F x0 x1 x2 x3 x4 x5 x6 x7 x8 x9 x10 x11 x12 x13) (Pure.spec_StepTop_8 F x0 x1 x2 x3 x4 x5 x6 x7 x8 x9 x10 x11 x12 x13) (Pure.spec_StepTop_9 F x0 x1 x2 x3 x4 x5 x6 x7 x8 x9 x10 x11 x12 x13) then bif Bool.not (Pure.laws_eqTop F (Pure.impl_StepTop F x0 x1 x2 x3 x4 x5 x6 x7 x8 x9 x10 x11 x12 x13) (Pure.impl_StepTop_1 F x0 x1 x2 x3 x4 x5 x6 x7 x8 x9 x10 x11 x12 x13) (Pure.impl_StepTop_2 F x0 x1 x2 x3 x4 x5 x6 x7 x8 x9 x10 x11 x12 x13) (Pure.impl_StepTop_3 F x0 x1 x2 x3 x4 x5 x6 x7 x8 x9 x10 x11 x12 x13) (Pure.impl_StepTop_4 F x0 x1 x2 x3 x4 x5 x6 x7 x8 x9 x10 x11 x12 x13) (Pure.impl_StepTop_5 F x0 x1 x2 x3 x4 x5 x6 x7 x8 x9 x10 x11 x12 x13) (Pure.impl_StepTop_6 F x0 x1 x2 x3 x4 x5 x6 x7 x8 x9 x10 x11 x12 x13) (Pure.impl_StepTop_7 F x0 x1 x2 x3 x4 x5 x6 x7 x8 x9 x10 x11 x12 x13) (Pure.impl_StepTop_8 F x0 x1 x2 x3 x4 x5 x6 x7 x8 x9 x10 x11 x12 x13) (Pure.impl_StepTop_9 F x0 x1 x2 x3 x4 x5 x6 x7 x8 x9 x10 x11 x12 x13) (Pure.spec_StepTop F x0 x1 x2 x3 x4 x5 x6 x7 x8 x9 x10 x11 x12 x13) (Pure.spec_StepTop_1 F x0 x1 x2 x3 x4 x5 x6 x7 x8 x9 x10 x11 x12 x13) (Pure.spec_StepTop_2 F x0 x1 x2 x3 x4 x5 x6 x7 x8 x9 x10 x11 x12 x13) (Pure.spec_StepTop_3 F x0 x1 x2 x3 x4 x5 x6 x7 x8 x9 x10 x11 x12 x13) (Pure.spec_StepTop_4 F x0 x1 x2 x3 x4 x5 x6 x7 x8 x9 x10 x11 x12 x13) (Pure.spec_StepTop_5 F x0 x1 x2 x3 x4 x5 x6 x7 x8 x9 x10 x11 x12 x13) (Pure.spec_StepTop_6 F x0 x1 x2 x3 x4 x5 x6 x7 x8 x9 x10 x11 x12 x13) (Pure.spec_StepTop_7 F x0 x1 x2 x3 x4 x5 x6 x7 x8 x9 x10 x11 x12 x13) (Pure.spec_StepTop_8 F x0 x1 x2 x3 x4 x5 x6 x7 x8 x9 x10 x11 x12 x13) (Pure.spec_StepTop_9 F x0 x1 x2 x3 x4 x5 x6 x7 x8 x9 x10 x11 x12 x13)) then some ⟨V.at (A.bool false), none, []⟩ else bif Bool.not ((Pure.impl_StepTop_10 F x0 x1 x2 x3 x4 x5 x6 x7 x8 x9 x10 x11 x12 x13) == (Pure.spec_StepTop_10 F x0 x1 x2 x3 x4 x5 x6 x7 x8 x9 x10 x11 x12 x13)) then some ⟨V.at (A.bool false), none, []⟩ else some ⟨V.at (A.bool true), none, []⟩ else none else none else none := by kernel_rfl
  rw [h0]
  unfold Pure.laws_FnExactStepTop Pure.laws_FnExactStepTop_ok
  cases (Pure.spec_StepTop_ok F x0 x1 x2 x3 x4 x5 x6 x7 x8 x9 x10 x11 x12 x13) with
  | true =>
    cases (Pure.impl_StepTop_ok F x0 x1 x2 x3 x4 x5 x6 x7 x8 x9 x10 x11 x12 x13) with
    | true =>
      cases (Pure.laws_eqTop_ok F (Pure.impl_StepTop F x0 x1 x2 x3 x4 x5 x6 x7 x8 x9 x10 x11 x12 x13) (Pure.impl_StepTop_1 F x0 x1 x2 x3 x4 x5 x6 x7 x8 x9 x10 x11 x12 x13) (Pure.impl_StepTop_2 F x0 x1 x2 x3 x4 x5 x6 x7 x8 x9 x10 x11 x12 x13) (Pure.impl_StepTop_3 F x0 x1 x2 x3 x4 x5 x6 x7 x8 x9 x10 x11 x12 x13) (Pure.impl_StepTop_4 F x0 x1 x2 x3 x4 x5 x6 x7 x8 x9 x10 x11 x12 x13) (Pure.impl_StepTop_5 F x0 x1 x2 x3 x4 x5 x6 x7 x8 x9 x10 x11 x12 x13) (Pure.impl_StepTop_6 F x0 x1 x2 x3 x4 x5 x6 x7 x8 x9 x10 x11 x12 x13) (Pure.impl_StepTop_7 F x0 x1 x2 x3 x4 x5 x6 x7 x8 x9 x10 x11 x12 x13) (Pure.impl_StepTop_8 F x0 x1 x2 x3 x4 x5 x6 x7 x8 x9 x10 x11 x12 x13) (Pure.impl_StepTop_9 F x0 x1 x2 x3 x4 x5 x6 x7 x8 x9 x10 x11 x12 x13) (Pure.spec_StepTop F x0 x1 x2 x3 x4 x5 x6 x7 x8 x9 x10 x11 x12 x13) (Pure.spec_StepTop_1 F x0 x1 x2 x3 x4 x5 x6 x7 x8 x9 x10 x11 x12 x13) (Pure.spec_StepTop_2 F x0 x1 x2 x3 x4 x5 x6 x7 x8 x9 x10 x11 x12 x13) (Pure.spec_StepTop_3 F x0 x1 x2 x3 x4 x5 x6 x7 x8 x9 x10 x11 x12 x13) (Pure.spec_StepTop_4 F x0 x1 x2 x3 x4 x5 x6 x7 x8 x9 x10 x11 x12 x13) (Pure.spec_StepTop_5 F x0 x1 x2 x3 x4 x5 x6 x7 x8 x9 x10 x11 x12 x13) (Pure.spec_StepTop_6 F x0 x1 x2 x3 x4 x5 x6 x7 x8 x9 x10 x11 x12 x13) (Pure.spec_StepTop_7 F x0 x1 x2 x3 x4 x5 x6 x7 x8 x9 x10 x11 x12 x13) (Pure.spec_StepTop_8 F x0 x1 x2 x3 x4 x5 x6 x7 x8 x9 x10 x11 x12 x13) (Pure.spec_StepTop_9 F x0 x1 x2 x3 x4 x5 x6 x7 x8 x9 x10 x11 x12 x13)) with
      | true =>
        cases (Pure.laws_eqTop F (Pure.impl_StepTop F x0 x1 x2 x3 x4 x5 x6 x7 x8 x9 x10 x11 x12 x13) (Pure.impl_StepTop_1 F x0 x1 x2 x3 x4 x5 x6 x7 x8 x9 x10 x11 x12 x13) (Pure.impl_StepTop_2 F x0 x1 x2 x3 x4 x5 x6 x7 x8 x9 x10 x11 x12 x13) (Pure.impl_StepTop_3 F x0 x1 x2 x3 x4 x5 x6 x7 x8 x9 x10 x11 x12 x13) (Pure.impl_StepTop_4 F x0 x1 x2 x3 x4 x5 x6 x7 x8 x9 x10 x11 x12 x13) (Pure.impl_StepTop_5 F x0 x1 x2 x3 x4 x5 x6 x7 x8 x9 x10 x11 x12 x13) (Pure.impl_StepTop_6 F x0 x1 x2 x3 x4 x5 x6 x7 x8 x9 x10 x11 x12 x13) (Pure.impl_StepTop_7 F x0 x1 x2 x3 x4 x5 x6 x7 x8 x9 x10 x11 x12 x13) (Pure.impl_StepTop_8 F x0 x1 x2 x3 x4 x5 x6 x7 x8 x9 x10 x11 x12 x13) (Pure.impl_StepTop_9 F x0 x1 x2 x3 x4 x5 x6 x7 x8 x9 x10 x11 x12 x13) (Pure.spec_StepTop F x0 x1 x2 x3 x4 x5 x6 x7 x8 x9 x10 x11 x12 x13) (Pure.spec_StepTop_1 F x0 x1 x2 x3 x4 x5 x6 x7 x8 x9 x10 x11 x12 x13) (Pure.spec_StepTop_2 F x0 x1 x2 x3 x4 x5 x6 x7 x8 x9 x10 x11 x12 x13) (Pure.spec_StepTop_3 F x0 x1 x2 x3 x4 x5 x6 x7 x8 x9 x10 x11 x12 x13) (Pure.spec_StepTop_4 F x0 x1 x2 x3 x4 x5 x6 x7 x8 x9 x10 x11 x12 x13) (Pure.spec_StepTop_5 F x0 x1 x2 x3 x4 x5 x6 x7 x8 x9 x10 x11 x12 x13) (Pure.spec_StepTop_6 F x0 x1 x2 x3 x4 x5 x6 x7 x8 x9 x10 x11 x12 x13) (Pure.spec_StepTop_7 F x0 x1 x2 x3 x4 x5 x6 x7 x8 x9 x10 x11 x12 x13) (Pure.spec_StepTop_8 F x0 x1 x2 x3 x4 x5 x6 x7 x8 x9 x10 x11 x12 x13) (Pure.spec_StepTop_9 F x0 x1 x2 x3 x4 x5 x6 x7 x8 x9 x10 x11 x12 x13)) with
        | true =>
          cases ((Pure.impl_StepTop_10 F x0 x1 x2 x3 x4 x5 x6 x7 x8 x9 x10 x11 x12 x13) == (Pure.spec_StepTop_10 F x0 x1 x2 x3 x4 x5 x6 x7 x8 x9 x10 x11 x12 x13)) with
          | true =>
            intro _; rfl
          | false =>
            intro _; rfl
        | false =>
          intro _; rfl
      | false =>
        intro h; exact absurd h Bool.false_ne_true
    | false =>
      intro h; exact absurd h Bool.false_ne_true
  | false =>
    intro h; exact absurd h Bool.false_ne_true
theorem ok_laws_FnExactStepTop : CallOK Try.prog 5 (c_laws_FnExactStepTop real) := by
  refine callOK_of fun args h ret hc => ?_
  unfold c_laws_FnExactStepTop at hc
  split at hc
  · rename_i x0 x1 x2 x3 x4 x5 x6 x7 x8 x9 x10 x11 x12 x13
    obtain ⟨hok, rfl⟩ := some_ret hc
    exact holds_ev prog_ok (allOK_cons ok_laws_toTop (allOK_cons ok_laws_toVector (allOK_cons ok_spec_StepTop (allOK_cons ok_impl_StepTop (allOK_cons ok_laws_eqTop allOK_nil))))) Try.func5 rfl rfl smL_nil rfl (e_laws_FnExactStepTop real x0 x1 x2 x3 x4 x5 x6 x7 x8 x9 x10 x11 x12 x13 hok)
  · cases hc
end Go.Fx
