import Derived.Test.YtnlfpamdcohiiaaXr3a
import Derived.KernelRfl
namespace Go.Fx
open Go.Proofs
set_option maxRecDepth 100000
def Pure.impl_IsFinite (F : FOps) (x0 : Int) : Bool := F.cmp .eql .f32 (F.bin .sub .f32 x0 x0) 0
def c_impl_IsFinite (F : FOps) : Con
  | [V.at (A.fl .f32 x0)], [] => some (true, ⟨V.at (A.bool (Pure.impl_IsFinite F x0)), none, []⟩)
  | _, _ => none
theorem e_impl_IsFinite (F : FOps) (x0 : Int) : evFn (cxS F tyl [] [] [] 0) Try.f95 false [V.at (A.fl .f32 x0)] [] = some ⟨V.at (A.bool (Pure.impl_IsFinite F x0)), none, []⟩ := by
  kernel_rfl
theorem ok_impl_IsFinite : CallOK Try.prog 95 (c_impl_IsFinite real) := by
  refine callOK_of fun args h ret hc => ?_
  unfold c_impl_IsFinite at hc
  split at hc
  · rename_i x0
    obtain ⟨_, rfl⟩ := some_ret hc
    exact holds_ev prog_ok allOK_nil Try.func95 rfl rfl smL_nil rfl (e_impl_IsFinite real x0)
  · cases hc
def c_math_Float64frombits (F : FOps) : Con
  | [V.at (A.raw .f64 x)], [] => some (true, ⟨V.at (A.fl .f64 x), none, []⟩)
  | [V.at (A.int .u64 x)], [] => some (true, ⟨V.at (A.fl .f64 (F.ofBits .f64 x)), none, []⟩)
  | _, _ => none
theorem ok_math_Float64frombits : CallOK Try.prog 105 (c_math_Float64frombits real) := by
  refine callOK_of fun args h ret hc => ?_
  unfold c_math_Float64frombits at hc
  split at hc
  · rename_i x
    obtain ⟨_, rfl⟩ := some_ret hc
    exact ext_from64 Try.func105 rfl rfl (by kernel_rfl) (by kernel_rfl) x
  · rename_i x
    obtain ⟨_, rfl⟩ := some_ret hc
    exact ext_from64i Try.func105 rfl rfl (by kernel_rfl) (by kernel_rfl) x
  · cases hc
def c_math_NaN (F : FOps) : Con
  | [], [] => some (true, ⟨V.at (A.fl .f64 (F.ofBits .f64 9221120237041090561)), none, []⟩)
  | _, _ => none
theorem e_math_NaN (F : FOps) : evFn (cxS F tyl [(105, c_math_Float64frombits F)] [] [] 0) Try.f96 false [] [] = some ⟨V.at (A.fl .f64 (F.ofBits .f64 9221120237041090561)), none, []⟩ := by
  kernel_rfl
theorem ok_math_NaN : CallOK Try.prog 96 (c_math_NaN real) := by
  refine callOK_of fun args h ret hc => ?_
  unfold c_math_NaN at hc
  split at hc
  · obtain ⟨_, rfl⟩ := some_ret hc
    exact holds_ev prog_ok (allOK_cons ok_math_Float64frombits allOK_nil) Try.func96 rfl rfl smL_nil rfl (e_math_NaN real)
  · cases hc
def Pure.spec_l01SineWide_L0 (F : FOps) (y0 : Bool) (y1 y2 : Int) : Nat → Int → Int → (Bool × Int)
  | 0, _, _ => (false, 0)
  | n + 1, y3, y4 => bif (decide (y4 ≥ 1)) then (Pure.spec_l01SineWide_L0 F y0 y1 y2 n (F.bin .sub .f64 4607182418800017408 (F.bin .quo .f64 (F.bin .mul .f64 y2 y3) (F.ofInt .f64 (IntKind.wrap .i64 ((IntKind.wrap .i64 (2 * y4)) * (IntKind.wrap .i64 ((IntKind.wrap .i64 (2 * y4)) + 1))))))) (IntKind.wrap .i64 (y4 - 1))) else ((true, y3))
def R_spec_l01SineWide_L0 (y0 : Bool) (y1 : Int) (r : (Bool × Int)) : Bool × Ends := ((r).1, (.one Ex.normal [V.at (A.bool y0), V.at (A.fl .f64 y1), V.at (A.fl .f64 (r).2)] []))
def S_spec_l01SineWide_L0 (F : FOps) : Sm := ⟨[4, 5, 6, 7, 8], [4, 46, 46, 46, 3], [4, 5, 7], fun vals hp => match vals, hp with
  | [V.at (A.bool y0), V.at (A.fl .f64 y1), V.at (A.fl .f64 y2), V.at (A.fl .f64 y3), V.at (A.int .i64 y4)], [] => some (R_spec_l01SineWide_L0 y0 y1 (Pure.spec_l01SineWide_L0 F y0 y1 y2 (y4 - 1 + 2).toNat y3 y4))
  | _, _ => none⟩
theorem l_spec_l01SineWide_L0 (F : FOps) (y0 : Bool) (y1 y2 : Int) : ∀ (fuel : Nat) (y3 y4 : Int), (Pure.spec_l01SineWide_L0 F y0 y1 y2 fuel y3 y4).1 = true → loopOf (cxS F tyl [(96, c_math_NaN F)] [] [] 0) 0 67 0 [4, 5, 6, 7, 8] [4, 46, 46, 46, 3] [4, 5, 7] (loopB 0 (codeOf Try.f94)) fuel [V.at (A.bool y0), V.at (A.fl .f64 y1), V.at (A.fl .f64 y2), V.at (A.fl .f64 y3), V.at (A.int .i64 y4)] [] = resOf (R_spec_l01SineWide_L0 y0 y1 (Pure.spec_l01SineWide_L0 F y0 y1 y2 fuel y3 y4)) := by
  intro fuel
  induction fuel with
  | zero => intro y3 y4 h; exact absurd h Bool.false_ne_true
  | succ n ih =>
    intro y3 y4
    have h0 : roundOf (cxS F tyl [(96, c_math_NaN F)] [] [] 0) 0 67 0 [4, 5, 6, 7, 8] [4, 46, 46, 46, 3] [4, 5, 7] (loopB 0 (codeOf Try.f94)) [V.at (A.bool y0), V.at (A.fl .f64 y1), V.at (A.fl .f64 y2), V.at (A.fl .f64 y3), V.at (A.int .i64 y4)] [] = (bif decide (y4 ≥ 1) then some (true, (Ex.normal, ([V.at (A.bool y0), V.at (A.fl .f64 y1), V.at (A.fl .f64 y2), V.at (A.fl .f64 (F.bin .sub .f64 4607182418800017408 (F.bin .quo .f64 (F.bin .mul .f64 y2 y3) (F.ofInt .f64 (IntKind.wrap .i64 ((IntKind.wrap .i64 (2 * y4)) * (IntKind.wrap .i64 ((IntKind.wrap .i64 (2 * y4)) + 1)))))))), V.at (A.int .i64 (IntKind.wrap .i64 (y4 - 1)))], []))) else some (false, (Ex.normal, ([V.at (A.bool y0), V.at (A.fl .f64 y1), V.at (A.fl .f64 y3)], [])))) := by kernel_rfl
    unfold loopOf
    rw [h0]
    unfold Pure.spec_l01SineWide_L0
    cases (decide (y4 ≥ 1)) with
    | true =>
      exact ih _ _
    | false =>
      intro _; rfl
theorem t_spec_l01SineWide_L0 : SmTo Try.prog 0 67 (S_spec_l01SineWide_L0 real) 0 (.loop (loopB 0 (codeOf Try.f94))) := by
  refine smTo_ev (cl := [(96, c_math_NaN real)]) (ef := []) (sm := []) (un := 0) prog_ok (allOK_cons ok_math_NaN allOK_nil) smL_nil ?_
  intro vals hp q r h hq
  unfold S_spec_l01SineWide_L0 at h
  dsimp only at h
  split at h
  · rename_i y0 y1 y2 y3 y4
    obtain rfl := Option.some.inj h
    have h1 := hq
    unfold resOf at h1
    rw [chk_some] at h1
    exact ⟨_, (l_spec_l01SineWide_L0 real y0 y1 y2 _ y3 y4 h1.1).trans hq⟩
  · cases h
def Pure.spec_l01SineWide (F : FOps) (x0 : Int) : Int := bif F.cmp .neq .f64 (F.bin .sub .f64 x0 x0) 0 then F.ofBits .f64 9221120237041090561 else bif F.cmp .geq .f64 x0 4841369599423283200 then 0 else bif F.cmp .leq .f64 x0 14064741636278059008 then 0 else bif F.cmp .lss .f64 (F.bin .sub .f64 x0 (F.ofInt .f64 (F.toInt .f64 IntKind.i64 x0))) 0 then bif F.cmp .geq .f64 (F.bin .add .f64 (F.bin .sub .f64 x0 (F.ofInt .f64 (F.toInt .f64 IntKind.i64 x0))) 4607182418800017408) 4602678819172646912 then bif F.cmp .gtr .f64 (F.bin .sub .f64 (F.bin .add .f64 (F.bin .sub .f64 x0 (F.ofInt .f64 (F.toInt .f64 IntKind.i64 x0))) 4607182418800017408) 4602678819172646912) 4598175219545276416 then F.neg .f64 (F.bin .mul .f64 (F.bin .mul .f64 (F.bin .sub .f64 4602678819172646912 (F.bin .sub .f64 (F.bin .add .f64 (F.bin .sub .f64 x0 (F.ofInt .f64 (F.toInt .f64 IntKind.i64 x0))) 4607182418800017408) 4602678819172646912)) 4618760256179416344) (Prod.snd (Pure.spec_l01SineWide_L0 F true (F.bin .mul .f64 (F.bin .sub .f64 4602678819172646912 (F.bin .sub .f64 (F.bin .add .f64 (F.bin .sub .f64 x0 (F.ofInt .f64 (F.toInt .f64 IntKind.i64 x0))) 4607182418800017408) 4602678819172646912)) 4618760256179416344) (F.bin .mul .f64 (F.bin .mul .f64 (F.bin .sub .f64 4602678819172646912 (F.bin .sub .f64 (F.bin .add .f64 (F.bin .sub .f64 x0 (F.ofInt .f64 (F.toInt .f64 IntKind.i64 x0))) 4607182418800017408) 4602678819172646912)) 4618760256179416344) (F.bin .mul .f64 (F.bin .sub .f64 4602678819172646912 (F.bin .sub .f64 (F.bin .add .f64 (F.bin .sub .f64 x0 (F.ofInt .f64 (F.toInt .f64 IntKind.i64 x0))) 4607182418800017408) 4602678819172646912)) 4618760256179416344)) 9 4607182418800017408 8))) else F.neg .f64 (F.bin .mul .f64 (F.bin .mul .f64 (F.bin .sub .f64 (F.bin .add .f64 (F.bin .sub .f64 x0 (F.ofInt .f64 (F.toInt .f64 IntKind.i64 x0))) 4607182418800017408) 4602678819172646912) 4618760256179416344) (Prod.snd (Pure.spec_l01SineWide_L0 F true (F.bin .mul .f64 (F.bin .sub .f64 (F.bin .add .f64 (F.bin .sub .f64 x0 (F.ofInt .f64 (F.toInt .f64 IntKind.i64 x0))) 4607182418800017408) 4602678819172646912) 4618760256179416344) (F.bin .mul .f64 (F.bin .mul .f64 (F.bin .sub .f64 (F.bin .add .f64 (F.bin .sub .f64 x0 (F.ofInt .f64 (F.toInt .f64 IntKind.i64 x0))) 4607182418800017408) 4602678819172646912) 4618760256179416344) (F.bin .mul .f64 (F.bin .sub .f64 (F.bin .add .f64 (F.bin .sub .f64 x0 (F.ofInt .f64 (F.toInt .f64 IntKind.i64 x0))) 4607182418800017408) 4602678819172646912) 4618760256179416344)) 9 4607182418800017408 8))) else bif F.cmp .gtr .f64 (F.bin .add .f64 (F.bin .sub .f64 x0 (F.ofInt .f64 (F.toInt .f64 IntKind.i64 x0))) 4607182418800017408) 4598175219545276416 then F.bin .mul .f64 (F.bin .mul .f64 (F.bin .sub .f64 4602678819172646912 (F.bin .add .f64 (F.bin .sub .f64 x0 (F.ofInt .f64 (F.toInt .f64 IntKind.i64 x0))) 4607182418800017408)) 4618760256179416344) (Prod.snd (Pure.spec_l01SineWide_L0 F false (F.bin .mul .f64 (F.bin .sub .f64 4602678819172646912 (F.bin .add .f64 (F.bin .sub .f64 x0 (F.ofInt .f64 (F.toInt .f64 IntKind.i64 x0))) 4607182418800017408)) 4618760256179416344) (F.bin .mul .f64 (F.bin .mul .f64 (F.bin .sub .f64 4602678819172646912 (F.bin .add .f64 (F.bin .sub .f64 x0 (F.ofInt .f64 (F.toInt .f64 IntKind.i64 x0))) 4607182418800017408)) 4618760256179416344) (F.bin .mul .f64 (F.bin .sub .f64 4602678819172646912 (F.bin .add .f64 (F.bin .sub .f64 x0 (F.ofInt .f64 (F.toInt .f64 IntKind.i64 x0))) 4607182418800017408)) 4618760256179416344)) 9 4607182418800017408 8)) else F.bin .mul .f64 (F.bin .mul .f64 (F.bin .add .f64 (F.bin .sub .f64 x0 (F.ofInt .f64 (F.toInt .f64 IntKind.i64 x0))) 4607182418800017408) 4618760256179416344) (Prod.snd (Pure.spec_l01SineWide_L0 F false (F.bin .mul .f64 (F.bin .add .f64 (F.bin .sub .f64 x0 (F.ofInt .f64 (F.toInt .f64 IntKind.i64 x0))) 4607182418800017408) 4618760256179416344) (F.bin .mul .f64 (F.bin .mul .f64 (F.bin .add .f64 (F.bin .sub .f64 x0 (F.ofInt .f64 (F.toInt .f64 IntKind.i64 x0))) 4607182418800017408) 4618760256179416344) (F.bin .mul .f64 (F.bin .add .f64 (F.bin .sub .f64 x0 (F.ofInt .f64 (F.toInt .f64 IntKind.i64 x0))) 4607182418800017408) 4618760256179416344)) 9 4607182418800017408 8)) else bif F.cmp .geq .f64 (F.bin .sub .f64 x0 (F.ofInt .f64 (F.toInt .f64 IntKind.i64 x0))) 4602678819172646912 then bif F.cmp .gtr .f64 (F.bin .sub .f64 (F.bin .sub .f64 x0 (F.ofInt .f64 (F.toInt .f64 IntKind.i64 x0))) 4602678819172646912) 4598175219545276416 then F.neg .f64 (F.bin .mul .f64 (F.bin .mul .f64 (F.bin .sub .f64 4602678819172646912 (F.bin .sub .f64 (F.bin .sub .f64 x0 (F.ofInt .f64 (F.toInt .f64 IntKind.i64 x0))) 4602678819172646912)) 4618760256179416344) (Prod.snd (Pure.spec_l01SineWide_L0 F true (F.bin .mul .f64 (F.bin .sub .f64 4602678819172646912 (F.bin .sub .f64 (F.bin .sub .f64 x0 (F.ofInt .f64 (F.toInt .f64 IntKind.i64 x0))) 4602678819172646912)) 4618760256179416344) (F.bin .mul .f64 (F.bin .mul .f64 (F.bin .sub .f64 4602678819172646912 (F.bin .sub .f64 (F.bin .sub .f64 x0 (F.ofInt .f64 (F.toInt .f64 IntKind.i64 x0))) 4602678819172646912)) 4618760256179416344) (F.bin .mul .f64 (F.bin .sub .f64 4602678819172646912 (F.bin .sub .f64 (F.bin .sub .f64 x0 (F.ofInt .f64 (F.toInt .f64 IntKind.i64 x0))) 4602678819172646912)) 4618760256179416344)) 9 4607182418800017408 8))) else F.neg .f64 (F.bin .mul .f64 (F.bin .mul .f64 (F.bin .sub .f64 (F.bin .sub .f64 x0 (F.ofInt .f64 (F.toInt .f64 IntKind.i64 x0))) 4602678819172646912) 4618760256179416344) (Prod.snd (Pure.spec_l01SineWide_L0 F true (F.bin .mul .f64 (F.bin .sub .f64 (F.bin .sub .f64 x0 (F.ofInt .f64 (F.toInt .f64 IntKind.i64 x0))) 4602678819172646912) 4618760256179416344) (F.bin .mul .f64 (F.bin .mul .f64 (F.bin .sub .f64 (F.bin .sub .f64 x0 (F.ofInt .f64 (F.toInt .f64 IntKind.i64 x0))) 4602678819172646912) 4618760256179416344) (F.bin .mul .f64 (F.bin .sub .f64 (F.bin .sub .f64 x0 (F.ofInt .f64 (F.toInt .f64 IntKind.i64 x0))) 4602678819172646912) 4618760256179416344)) 9 4607182418800017408 8))) else bif F.cmp .gtr .f64 (F.bin .sub .f64 x0 (F.ofInt .f64 (F.toInt .f64 IntKind.i64 x0))) 4598175219545276416 then F.bin .mul .f64 (F.bin .mul .f64 (F.bin .sub .f64 4602678819172646912 (F.bin .sub .f64 x0 (F.ofInt .f64 (F.toInt .f64 IntKind.i64 x0)))) 4618760256179416344) (Prod.snd (Pure.spec_l01SineWide_L0 F false (F.bin .mul .f64 (F.bin .sub .f64 4602678819172646912 (F.bin .sub .f64 x0 (F.ofInt .f64 (F.toInt .f64 IntKind.i64 x0)))) 4618760256179416344) (F.bin .mul .f64 (F.bin .mul .f64 (F.bin .sub .f64 4602678819172646912 (F.bin .sub .f64 x0 (F.ofInt .f64 (F.toInt .f64 IntKind.i64 x0)))) 4618760256179416344) (F.bin .mul .f64 (F.bin .sub .f64 4602678819172646912 (F.bin .sub .f64 x0 (F.ofInt .f64 (F.toInt .f64 IntKind.i64 x0)))) 4618760256179416344)) 9 4607182418800017408 8)) else F.bin .mul .f64 (F.bin .mul .f64 (F.bin .sub .f64 x0 (F.ofInt .f64 (F.toInt .f64 IntKind.i64 x0))) 4618760256179416344) (Prod.snd (Pure.spec_l01SineWide_L0 F false (F.bin .mul .f64 (F.bin .sub .f64 x0 (F.ofInt .f64 (F.toInt .f64 IntKind.i64 x0))) 4618760256179416344) (F.bin .mul .f64 (F.bin .mul .f64 (F.bin .sub .f64 x0 (F.ofInt .f64 (F.toInt .f64 IntKind.i64 x0))) 4618760256179416344) (F.bin .mul .f64 (F.bin .sub .f64 x0 (F.ofInt .f64 (F.toInt .f64 IntKind.i64 x0))) 4618760256179416344)) 9 4607182418800017408 8))
def Pure.spec_l01SineWide_ok (F : FOps) (x0 : Int) : Bool := bif F.cmp .neq .f64 (F.bin .sub .f64 x0 x0) 0 then true else bif F.cmp .geq .f64 x0 4841369599423283200 then true else bif F.cmp .leq .f64 x0 14064741636278059008 then true else bif F.toIntOk .f64 IntKind.i64 x0 then bif F.cmp .lss .f64 (F.bin .sub .f64 x0 (F.ofInt .f64 (F.toInt .f64 IntKind.i64 x0))) 0 then bif F.cmp .geq .f64 (F.bin .add .f64 (F.bin .sub .f64 x0 (F.ofInt .f64 (F.toInt .f64 IntKind.i64 x0))) 4607182418800017408) 4602678819172646912 then bif F.cmp .gtr .f64 (F.bin .sub .f64 (F.bin .add .f64 (F.bin .sub .f64 x0 (F.ofInt .f64 (F.toInt .f64 IntKind.i64 x0))) 4607182418800017408) 4602678819172646912) 4598175219545276416 then Prod.fst (Pure.spec_l01SineWide_L0 F true (F.bin .mul .f64 (F.bin .sub .f64 4602678819172646912 (F.bin .sub .f64 (F.bin .add .f64 (F.bin .sub .f64 x0 (F.ofInt .f64 (F.toInt .f64 IntKind.i64 x0))) 4607182418800017408) 4602678819172646912)) 4618760256179416344) (F.bin .mul .f64 (F.bin .mul .f64 (F.bin .sub .f64 4602678819172646912 (F.bin .sub .f64 (F.bin .add .f64 (F.bin .sub .f64 x0 (F.ofInt .f64 (F.toInt .f64 IntKind.i64 x0))) 4607182418800017408) 4602678819172646912)) 4618760256179416344) (F.bin .mul .f64 (F.bin .sub .f64 4602678819172646912 (F.bin .sub .f64 (F.bin .add .f64 (F.bin .sub .f64 x0 (F.ofInt .f64 (F.toInt .f64 IntKind.i64 x0))) 4607182418800017408) 4602678819172646912)) 4618760256179416344)) 9 4607182418800017408 8) else Prod.fst (Pure.spec_l01SineWide_L0 F true (F.bin .mul .f64 (F.bin .sub .f64 (F.bin .add .f64 (F.bin .sub .f64 x0 (F.ofInt .f64 (F.toInt .f64 IntKind.i64 x0))) 4607182418800017408) 4602678819172646912) 4618760256179416344) (F.bin .mul .f64 (F.bin .mul .f64 (F.bin .sub .f64 (F.bin .add .f64 (F.bin .sub .f64 x0 (F.ofInt .f64 (F.toInt .f64 IntKind.i64 x0))) 4607182418800017408) 4602678819172646912) 4618760256179416344) (F.bin .mul .f64 (F.bin .sub .f64 (F.bin .add .f64 (F.bin .sub .f64 x0 (F.ofInt .f64 (F.toInt .f64 IntKind.i64 x0))) 4607182418800017408) 4602678819172646912) 4618760256179416344)) 9 4607182418800017408 8) else bif F.cmp .gtr .f64 (F.bin .add .f64 (F.bin .sub .f64 x0 (F.ofInt .f64 (F.toInt .f64 IntKind.i64 x0))) 4607182418800017408) 4598175219545276416 then Prod.fst (Pure.spec_l01SineWide_L0 F false (F.bin .mul .f64 (F.bin .sub .f64 4602678819172646912 (F.bin .add .f64 (F.bin .sub .f64 x0 (F.ofInt .f64 (F.toInt .f64 IntKind.i64 x0))) 4607182418800017408)) 4618760256179416344) (F.bin .mul .f64 (F.bin .mul .f64 (F.bin .sub .f64 4602678819172646912 (F.bin .add .f64 (F.bin .sub .f64 x0 (F.ofInt .f64 (F.toInt .f64 IntKind.i64 x0))) 4607182418800017408)) 4618760256179416344) (F.bin .mul .f64 (F.bin .sub .f64 4602678819172646912 (F.bin .add .f64 (F.bin .sub .f64 x0 (F.ofInt .f64 (F.toInt .f64 IntKind.i64 x0))) 4607182418800017408)) 4618760256179416344)) 9 4607182418800017408 8) else Prod.fst (Pure.spec_l01SineWide_L0 F false (F.bin .mul .f64 (F.bin .add .f64 (F.bin .sub .f64 x0 (F.ofInt .f64 (F.toInt .f64 IntKind.i64 x0))) 4607182418800017408) 4618760256179416344) (F.bin .mul .f64 (F.bin .mul .f64 (F.bin .add .f64 (F.bin .sub .f64 x0 (F.ofInt .f64 (F.toInt .f64 IntKind.i64 x0))) 4607182418800017408) 4618760256179416344) (F.bin .mul .f64 (F.bin .add .f64 (F.bin .sub .f64 x0 (F.ofInt .f64 (F.toInt .f64 IntKind.i64 x0))) 4607182418800017408) 4618760256179416344)) 9 4607182418800017408 8) else bif F.cmp .geq .f64 (F.bin .sub .f64 x0 (F.ofInt .f64 (F.toInt .f64 IntKind.i64 x0))) 4602678819172646912 then bif F.cmp .gtr .f64 (F.bin .sub .f64 (F.bin .sub .f64 x0 (F.ofInt .f64 (F.toInt .f64 IntKind.i64 x0))) 4602678819172646912) 4598175219545276416 then Prod.fst (Pure.spec_l01SineWide_L0 F true (F.bin .mul .f64 (F.bin .sub .f64 4602678819172646912 (F.bin .sub .f64 (F.bin .sub .f64 x0 (F.ofInt .f64 (F.toInt .f64 IntKind.i64 x0))) 4602678819172646912)) 4618760256179416344) (F.bin .mul .f64 (F.bin .mul .f64 (F.bin .sub .f64 4602678819172646912 (F.bin .sub .f64 (F.bin .sub .f64 x0 (F.ofInt .f64 (F.toInt .f64 IntKind.i64 x0))) 4602678819172646912)) 4618760256179416344) (F.bin .mul .f64 (F.bin .sub .f64 4602678819172646912 (F.bin .sub .f64 (F.bin .sub .f64 x0 (F.ofInt .f64 (F.toInt .f64 IntKind.i64 x0))) 4602678819172646912)) 4618760256179416344)) 9 4607182418800017408 8) else Prod.fst (Pure.spec_l01SineWide_L0 F true (F.bin .mul .f64 (F.bin .sub .f64 (F.bin .sub .f64 x0 (F.ofInt .f64 (F.toInt .f64 IntKind.i64 x0))) 4602678819172646912) 4618760256179416344) (F.bin .mul .f64 (F.bin .mul .f64 (F.bin .sub .f64 (F.bin .sub .f64 x0 (F.ofInt .f64 (F.toInt .f64 IntKind.i64 x0))) 4602678819172646912) 4618760256179416344) (F.bin .mul .f64 (F.bin .sub .f64 (F.bin .sub .f64 x0 (F.ofInt .f64 (F.toInt .f64 IntKind.i64 x0))) 4602678819172646912) 4618760256179416344)) 9 4607182418800017408 8) else bif F.cmp .gtr .f64 (F.bin .sub .f64 x0 (F.ofInt .f64 (F.toInt .f64 IntKind.i64 x0))) 4598175219545276416 then Prod.fst (Pure.spec_l01SineWide_L0 F false (F.bin .mul .f64 (F.bin .sub .f64 4602678819172646912 (F.bin .sub .f64 x0 (F.ofInt .f64 (F.toInt .f64 IntKind.i64 x0)))) 4618760256179416344) (F.bin .mul .f64 (F.bin .mul .f64 (F.bin .sub .f64 4602678819172646912 (F.bin .sub .f64 x0 (F.ofInt .f64 (F.toInt .f64 IntKind.i64 x0)))) 4618760256179416344) (F.bin .mul .f64 (F.bin .sub .f64 4602678819172646912 (F.bin .sub .f64 x0 (F.ofInt .f64 (F.toInt .f64 IntKind.i64 x0)))) 4618760256179416344)) 9 4607182418800017408 8) else Prod.fst (Pure.spec_l01SineWide_L0 F false (F.bin .mul .f64 (F.bin .sub .f64 x0 (F.ofInt .f64 (F.toInt .f64 IntKind.i64 x0))) 4618760256179416344) (F.bin .mul .f64 (F.bin .mul .f64 (F.bin .sub .f64 x0 (F.ofInt .f64 (F.toInt .f64 IntKind.i64 x0))) 4618760256179416344) (F.bin .mul .f64 (F.bin .sub .f64 x0 (F.ofInt .f64 (F.toInt .f64 IntKind.i64 x0))) 4618760256179416344)) 9 4607182418800017408 8) else false
def c_spec_l01SineWide (F : FOps) : Con
  | [V.at (A.fl .f64 x0)], [] => some (Pure.spec_l01SineWide_ok F x0, ⟨V.at (A.fl .f64 (Pure.spec_l01SineWide F x0)), none, []⟩)
  | _, _ => none
theorem e_spec_l01SineWide (F : FOps) (x0 : Int) : Pure.spec_l01SineWide_ok F x0 = true → evFn (cxS F tyl [(96, c_math_NaN F)] [] [(0, S_spec_l01SineWide_L0 F)] 0) Try.f94 false [V.at (A.fl .f64 x0)] [] = some ⟨V.at (A.fl .f64 (Pure.spec_l01SineWide F x0)), none, []⟩ := by
  have h0 : evFn (cxS F tyl [(96, c_math_NaN F)] [] [(0, S_spec_l01SineWide_L0 F)] 0) Try.f94 false [V.at (A.fl .f64 x0)] [] = bif F.cmp .neq .f64 (F.bin .sub .f64 x0 x0) 0 then some ⟨V.at (A.fl .f64 (F.ofBits .f64 9221120237041090561)), none, []⟩ else bif F.cmp .geq .f64 x0 4841369599423283200 then some ⟨V.at (A.fl .f64 0), none, []⟩ else bif F.cmp .leq .f64 x0 14064741636278059008 then some ⟨V.at (A.fl .f64 0), none, []⟩ else bif F.toIntOk .f64 IntKind.i64 x0 then bif F.cmp .lss .f64 (F.bin .sub .f64 x0 (F.ofInt .f64 (F.toInt .f64 IntKind.i64 x0))) 0 then bif F.cmp .geq .f64 (F.bin .add .f64 (F.bin .sub .f64 x0 (F.ofInt .f64 (F.toInt .f64 IntKind.i64 x0))) 4607182418800017408) 4602678819172646912 then bif F.cmp .gtr .f64 (F.bin .sub .f64 (F.bin .add .f64 (F.bin .sub .f64 x0 (F.ofInt .f64 (F.toInt .f64 IntKind.i64 x0))) 4607182418800017408) 4602678819172646912) 4598175219545276416 then bif Prod.fst (Pure.spec_l01SineWide_L0 F (F.cmp .geq .f64 (F.bin .add .f64 (F.bin .sub .f64 x0 (F.ofInt .f64 (F.toInt .f64 IntKind.i64 x0))) 4607182418800017408) 4602678819172646912) (F.bin .mul .f64 (F.bin .sub .f64 4602678819172646912 (F.bin .sub .f64 (F.bin .add .f64 (F.bin .sub .f64 x0 (F.ofInt .f64 (F.toInt .f64 IntKind.i64 x0))) 4607182418800017408) 4602678819172646912)) 4618760256179416344) (F.bin .mul .f64 (F.bin .mul .f64 (F.bin .sub .f64 4602678819172646912 (F.bin .sub .f64 (F.bin .add .f64 (F.bin .sub .f64 x0 (F.ofInt .f64 (F.toInt .f64 IntKind.i64 x0))) 4607182418800017408) 4602678819172646912)) 4618760256179416344) (F.bin .mul .f64 (F.bin .sub .f64 4602678819172646912 (F.bin .sub .f64 (F.bin .add .f64 (F.bin .sub .f64 x0 (F.ofInt .f64 (F.toInt .f64 IntKind.i64 x0))) 4607182418800017408) 4602678819172646912)) 4618760256179416344)) 9 4607182418800017408 8) then bif F.cmp .geq .f64 (F.bin .add .f64 (F.bin .sub .f64 x0 (F.ofInt .f64 (F.toInt .f64 IntKind.i64 x0))) 4607182418800017408) 4602678819172646912 then some ⟨V.at (A.fl .f64 (F.neg .f64 (F.bin .mul .f64 (F.bin .mul .f64 (F.bin .sub .f64 4602678819172646912 (F.bin .sub .f64 (F.bin .add .f64 (F.bin .sub .f64 x0 (F.ofInt .f64 (F.toInt .f64 IntKind.i64 x0))) 4607182418800017408) 4602678819172646912)) 4618760256179416344) (Prod.snd (Pure.spec_l01SineWide_L0 F (F.cmp .geq .f64 (F.bin .add .f64 (F.bin .sub .f64 x0 (F.ofInt .f64 (F.toInt .f64 IntKind.i64 x0))) 4607182418800017408) 4602678819172646912) (F.bin .mul .f64 (F.bin .sub .f64 4602678819172646912 (F.bin .sub .f64 (F.bin .add .f64 (F.bin .sub .f64 x0 (F.ofInt .f64 (F.toInt .f64 IntKind.i64 x0))) 4607182418800017408) 4602678819172646912)) 4618760256179416344) (F.bin .mul .f64 (F.bin .mul .f64 (F.bin .sub .f64 4602678819172646912 (F.bin .sub .f64 (F.bin .add .f64 (F.bin .sub .f64 x0 (F.ofInt .f64 (F.toInt .f64 IntKind.i64 x0))) 4607182418800017408) 4602678819172646912)) 4618760256179416344) (F.bin .mul .f64 (F.bin .sub .f64 4602678819172646912 (F.bin .sub .f64 (F.bin .add .f64 (F.bin .sub .f64 x0 (F.ofInt .f64 (F.toInt .f64 IntKind.i64 x0))) 4607182418800017408) 4602678819172646912)) 4618760256179416344)) 9 4607182418800017408 8))))), none, []⟩ else some ⟨V.at (A.fl .f64 (F.bin .mul .f64 (F.bin .mul .f64 (F.bin .sub .f64 4602678819172646912 (F.bin .sub .f64 (F.bin .add .f64 (F.bin .sub .f64 x0 (F.ofInt .f64 (F.toInt .f64 IntKind.i64 x0))) 4607182418800017408) 4602678819172646912)) 4618760256179416344) (Prod.snd (Pure.spec_l01SineWide_L0 F (F.cmp .geq .f64 (F.bin .add .f64 (F.bin .sub .f64 x0 (F.ofInt .f64 (F.toInt .f64 IntKind.i64 x0))) 4607182418800017408) 4602678819172646912) (F.bin .mul .f64 (F.bin .sub .f64 4602678819172646912 (F.bin .sub .f64 (F.bin .add .f64 (F.bin .sub .f64 x0 (F.ofInt .f64 (F.toInt .f64 IntKind.i64 x0))) 4607182418800017408) 4602678819172646912)) 4618760256179416344) (F.bin .mul .f64 (F.bin .mul .f64 (F.bin .sub .f64 4602678819172646912 (F.bin .sub .f64 (F.bin .add .f64 (F.bin .sub .f64 x0 (F.ofInt .f64 (F.toInt .f64 IntKind.i64 x0))) 4607182418800017408) 4602678819172646912)) 4618760256179416344) (F.bin .mul .f64 (F.bin .sub .f64 4602678819172646912 (F.bin .sub .f64 (F.bin .add .f64 (F.bin .sub .f64 x0 (F.ofInt .f64 (F.toInt .f64 IntKind.i64 x0))) 4607182418800017408) 4602678819172646912)) 4618760256179416344)) 9 4607182418800017408 8)))), none, []⟩ else none else bif Prod.fst (Pure.spec_l01SineWide_L0 F (F.cmp .geq .f64 (F.bin .add .f64 (F.bin .sub .f64 x0 (F.ofInt .f64 (F.toInt .f64 IntKind.i64 x0))) 4607182418800017408) 4602678819172646912) (F.bin .mul .f64 (F.bin .sub .f64 (F.bin .add .f64 (F.bin .sub .f64 x0 (F.ofInt .f64 (F.toInt .f64 IntKind.i64 x0))) 4607182418800017408) 4602678819172646912) 4618760256179416344) (F.bin .mul .f64 (F.bin .mul .f64 (F.bin .sub .f64 (F.bin .add .f64 (F.bin .sub .f64 x0 (F.ofInt .f64 (F.toInt .f64 IntKind.i64 x0))) 4607182418800017408) 4602678819172646912) 4618760256179416344) (F.bin .mul .f64 (F.bin .sub .f64 (F.bin .add .f64 (F.bin .sub .f64 x0 (F.ofInt .f64 (F.toInt .f64 IntKind.i64 x0))) 4607182418800017408) 4602678819172646912) 4618760256179416344)) 9 4607182418800017408 8) then bif F.cmp .geq .f64 (F.bin .add .f64 (F.bin .sub .f64 x0 (F.ofInt .f64 (F.toInt .f64 IntKind.i64 x0))) 4607182418800017408) 4602678819172646912 then some ⟨V.at (A.fl .f64 (F.neg .f64 (F.bin .mul .f64 (F.bin .mul .f64 (F.bin .sub .f64 (F.bin .add .f64 (F.bin .sub .f64 x0 (F.ofInt .f64 (F.toInt .f64 IntKind.i64 x0))) 4607182418800017408) 4602678819172646912) 4618760256179416344) (Prod.snd (Pure.spec_l01SineWide_L0 F (F.cmp .geq .f64 (F.bin .add .f64 (F.bin .sub .f64 x0 (F.ofInt .f64 (F.toInt .f64 IntKind.i64 x0))) 4607182418800017408) 4602678819172646912) (F.bin .mul .f64 (F.bin .sub .f64 (F.bin .add .f64 (F.bin .sub .f64 x0 (F.ofInt .f64 (F.toInt .f64 IntKind.i64 x0))) 4607182418800017408) 4602678819172646912) 4618760256179416344) (F.bin .mul .f64 (F.bin .mul .f64 (F.bin .sub .f64 (F.bin .add .f64 (F.bin .sub .f64 x0 (F.ofInt .f64 (F.toInt .f64 IntKind.i64 x0))) 4607182418800017408) 4602678819172646912) 4618760256179416344) (F.bin .mul .f64 (F.bin .sub .f64 (F.bin .add .f64 (F.bin .sub .f64 x0 (F.ofInt .f64 (F.toInt .f64 IntKind.i64 x0))) 4607182418800017408) 4602678819172646912) 4618760256179416344)) 9 4607182418800017408 8))))), none, []⟩ else some ⟨V.at (A.fl .f64 (F.bin .mul .f64 (F.bin .mul .f64 (F.bin .sub .f64 (F.bin .add .f64 (F.bin .sub .f64 x0 (F.ofInt .f64 (F.toInt .f64 IntKind.i64 x0))) 4607182418800017408) 4602678819172646912) 4618760256179416344) (Prod.snd (Pure.spec_l01SineWide_L0 F (F.cmp .geq .f64 (F.bin .add .f64 (F.bin .sub .f64 x0 (F.ofInt .f64 (F.toInt .f64 IntKind.i64 x0))) 4607182418800017408) 4602678819172646912) (F.bin .mul .f64 (F.bin .sub .f64 (F.bin .add .f64 (F.bin .sub .f64 x0 (F.ofInt .f64 (F.toInt .f64 IntKind.i64 x0))) 4607182418800017408) 4602678819172646912) 4618760256179416344) (F.bin .mul .f64 (F.bin .mul .f64 (F.bin .sub .f64 (F.bin .add .f64 (F.bin .sub .f64 x0 (F.ofInt .f64 (F.toInt .f64 IntKind.i64 x0))) 4607182418800017408) 4602678819172646912) 4618760256179416344) (F.bin .mul .f64 (F.bin .sub .f64 (F.bin .add .f64 (F.bin .sub .f64 x0 (F.ofInt .f64 (F.toInt .f64 IntKind.i64 x0))) 4607182418800017408) 4602678819172646912) 4618760256179416344)) 9 4607182418800017408 8)))), none, []⟩ else none else bif F.cmp .gtr .f64 (F.bin .add .f64 (F.bin .sub .f64 x0 (F.ofInt .f64 (F.toInt .f64 IntKind.i64 x0))) 4607182418800017408) 4598175219545276416 then bif Prod.fst (Pure.spec_l01SineWide_L0 F (F.cmp .geq .f64 (F.bin .add .f64 (F.bin .sub .f64 x0 (F.ofInt .f64 (F.toInt .f64 IntKind.i64 x0))) 4607182418800017408) 4602678819172646912) (F.bin .mul .f64 (F.bin .sub .f64 4602678819172646912 (F.bin .add .f64 (F.bin .sub .f64 x0 (F.ofInt .f64 (F.toInt .f64 IntKind.i64 x0))) 4607182418800017408)) 4618760256179416344) (F.bin .mul .f64 (F.bin .mul .f64 (F.bin .sub .f64 4602678819172646912 (F.bin .add .f64 (F.bin .sub .f64 x0 (F.ofInt .f64 (F.toInt .f64 IntKind.i64 x0))) 4607182418800017408)) 4618760256179416344) (F.bin .mul .f64 (F.bin .sub .f64 4602678819172646912 (F.bin .add .f64 (F.bin .sub .f64 x0 (F.ofInt .f64 (F.toInt .f64 IntKind.i64 x0))) 4607182418800017408)) 4618760256179416344)) 9 4607182418800017408 8) then bif F.cmp .geq .f64 (F.bin .add .f64 (F.bin .sub .f64 x0 (F.ofInt .f64 (F.toInt .f64 IntKind.i64 x0))) 4607182418800017408) 4602678819172646912 then some ⟨V.at (A.fl .f64 (F.neg .f64 (F.bin .mul .f64 (F.bin .mul .f64 (F.bin .sub .f64 4602678819172646912 (F.bin .add .f64 (F.bin .sub .f64 x0 (F.ofInt .f64 (F.toInt .f64 IntKind.i64 x0))) 4607182418800017408)) 4618760256179416344) (Prod.snd (Pure.spec_l01SineWide_L0 F (F.cmp .geq .f64 (F.bin .add .f64 (F.bin .sub .f64 x0 (F.ofInt .f64 (F.toInt .f64 IntKind.i64 x0))) 4607182418800017408) 4602678819172646912) (F.bin .mul .f64 (F.bin .sub .f64 4602678819172646912 (F.bin .add .f64 (F.bin .sub .f64 x0 (F.ofInt .f64 (F.toInt .f64 IntKind.i64 x0))) 4607182418800017408)) 4618760256179416344) (F.bin .mul .f64 (F.bin .mul .f64 (F.bin .sub .f64 4602678819172646912 (F.bin .add .f64 (F.bin .sub .f64 x0 (F.ofInt .f64 (F.toInt .f64 IntKind.i64 x0))) 4607182418800017408)) 4618760256179416344) (F.bin .mul .f64 (F.bin .sub .f64 4602678819172646912 (F.bin .add .f64 (F.bin .sub .f64 x0 (F.ofInt .f64 (F.toInt .f64 IntKind.i64 x0))) 4607182418800017408)) 4618760256179416344)) 9 4607182418800017408 8))))), none, []⟩ else some ⟨V.at (A.fl .f64 (F.bin .mul .f64 (F.bin .mul .f64 (F.bin .sub .f64 4602678819172646912 (F.bin .add .f64 (F.bin .sub .f64 x0 (F.ofInt .f64 (F.toInt .f64 IntKind.i64 x0))) 4607182418800017408)) 4618760256179416344) (Prod.snd (Pure.spec_l01SineWide_L0 F (F.cmp .geq .f64 (F.bin .add .f64 (F.bin .sub .f64 x0 (F.ofInt .f64 (F.toInt .f64 IntKind.i64 x0))) 4607182418800017408) 4602678819172646912) (F.bin .mul .f64 (F.bin .sub .f64 4602678819172646912 (F.bin .add .f64 (F.bin .sub .f64 x0 (F.ofInt .f64 (F.toInt .f64 IntKind.i64 x0))) 4607182418800017408)) 4618760256179416344) (F.bin .mul .f64 (F.bin .mul .f64 (F.bin .sub .f64 4602678819172646912 (F.bin .add .f64 (F.bin .sub .f64 x0 (F.ofInt .f64 (F.toInt .f64 IntKind.i64 x0))) 4607182418800017408)) 4618760256179416344) (F.bin .mul .f64 (F.bin .sub .f64 4602678819172646912 (F.bin .add .f64 (F.bin .sub .f64 x0 (F.ofInt .f64 (F.toInt .f64 IntKind.i64 x0))) 4607182418800017408)) 4618760256179416344)) 9 4607182418800017408 8)))), none, []⟩ else none else bif Prod.fst (Pure.spec_l01SineWide_L0 F (F.cmp .geq .f64 (F.bin .add .f64 (F.bin .sub .f64 x0 (F.ofInt .f64 (F.toInt .f64 IntKind.i64 x0))) 4607182418800017408) 4602678819172646912) (F.bin .mul .f64 (F.bin .add .f64 (F.bin .sub .f64 x0 (F.ofInt .f64 (F.toInt .f64 IntKind.i64 x0))) 4607182418800017408) 4618760256179416344) (F.bin .mul .f64 (F.bin .mul .f64 (F.bin .add .f64 (F.bin .sub .f64 x0 (F.ofInt .f64 (F.toInt .f64 IntKind.i64 x0))) 4607182418800017408) 4618760256179416344) (F.bin .mul .f64 (F.bin .add .f64 (F.bin .sub .f64 x0 (F.ofInt .f64 (F.toInt .f64 IntKind.i64 x0))) 4607182418800017408) 4618760256179416344)) 9 4607182418800017408 8) then bif F.cmp .geq .f64 (F.bin .add .f64 (F.bin .sub .f64 x0 (F.ofInt .f64 (F.toInt .f64 IntKind.i64 x0))) 4607182418800017408) 4602678819172646912 then some ⟨V.at (A.fl .f64 (F.neg .f64 (F.bin .mul .f64 (F.bin .mul .f64 (F.bin .add .f64 (F.bin .sub .f64 x0 (F.ofInt .f64 (F.toInt .f64 IntKind.i64 x0))) 4607182418800017408) 4618760256179416344) (Prod.snd (Pure.spec_l01SineWide_L0 F (F.cmp .geq .f64 (F.bin .add .f64 (F.bin .sub .f64 x0 (F.ofInt .f64 (F.toInt .f64 IntKind.i64 x0))) 4607182418800017408) 4602678819172646912) (F.bin .mul .f64 (F.bin .add .f64 (F.bin .sub .f64 x0 (F.ofInt .f64 (F.toInt .f64 IntKind.i64 x0))) 4607182418800017408) 4618760256179416344) (F.bin .mul .f64 (F.bin .mul .f64 (F.bin .add .f64 (F.bin .sub .f64 x0 (F.ofInt .f64 (F.toInt .f64 IntKind.i64 x0))) 4607182418800017408) 4618760256179416344) (F.bin .mul .f64 (F.bin .add .f64 (F.bin .sub .f64 x0 (F.ofInt .f64 (F.toInt .f64 IntKind.i64 x0))) 4607182418800017408) 4618760256179416344)) 9 4607182418800017408 8))))), none, []⟩ else some ⟨V.at (A.fl .f64 (F.bin .mul .f64 (F.bin .mul .f64 (F.bin .add .f64 (F.bin .sub .f64 x0 (F.ofInt .f64 (F.toInt .f64 IntKind.i64 x0))) 4607182418800017408) 4618760256179416344) (Prod.snd (Pure.spec_l01SineWide_L0 F (F.cmp .geq .f64 (F.bin .add .f64 (F.bin .sub .f64 x0 (F.ofInt .f64 (F.toInt .f64 IntKind.i64 x0))) 4607182418800017408) 4602678819172646912) (F.bin .mul .f64 (F.bin .add .f64 (F.bin .sub .f64 x0 (F.ofInt .f64 (F.toInt .f64 IntKind.i64 x0))) 4607182418800017408) 4618760256179416344) (F.bin .mul .f64 (F.bin .mul .f64 (F.bin .add .f64 (F.bin .sub .f64 x0 (F.ofInt .f64 (F.toInt .f64 IntKind.i64 x0))) 4607182418800017408) 4618760256179416344) (F.bin .mul .f64 (F.bin .add .f64 (F.bin .sub .f64 x0 (F.ofInt .f64 (F.toInt .f64 IntKind.i64 x0))) 4607182418800017408) 4618760256179416344)) 9 4607182418800017408 8)))), none, []⟩ else none else bif F.cmp .geq .f64 (F.bin .sub .f64 x0 (F.ofInt .f64 (F.toInt .f64 IntKind.i64 x0))) 4602678819172646912 then bif F.cmp .gtr .f64 (F.bin .sub .f64 (F.bin .sub .f64 x0 (F.ofInt .f64 (F.toInt .f64 IntKind.i64 x0))) 4602678819172646912) 4598175219545276416 then bif Prod.fst (Pure.spec_l01SineWide_L0 F (F.cmp .geq .f64 (F.bin .sub .f64 x0 (F.ofInt .f64 (F.toInt .f64 IntKind.i64 x0))) 4602678819172646912) (F.bin .mul .f64 (F.bin .sub .f64 4602678819172646912 (F.bin .sub .f64 (F.bin .sub .f64 x0 (F.ofInt .f64 (F.toInt .f64 IntKind.i64 x0))) 4602678819172646912)) 4618760256179416344) (F.bin .mul .f64 (F.bin .mul .f64 (F.bin .sub .f64 4602678819172646912 (F.bin .sub .f64 (F.bin .sub .f64 x0 (F.ofInt .f64 (F.toInt .f64 IntKind.i64 x0))) 4602678819172646912)) 4618760256179416344) (F.bin .mul .f64 (F.bin .sub .f64 4602678819172646912 (F.bin .sub .f64 (F.bin .sub .f64 x0 (F.ofInt .f64 (F.toInt .f64 IntKind.i64 x0))) 4602678819172646912)) 4618760256179416344)) 9 4607182418800017408 8) then bif F.cmp .geq .f64 (F.bin .sub .f64 x0 (F.ofInt .f64 (F.toInt .f64 IntKind.i64 x0))) 4602678819172646912 then some ⟨V.at (A.fl .f64 (F.neg .f64 (F.bin .mul .f64 (F.bin .mul .f64 (F.bin .sub .f64 4602678819172646912 (F.bin .sub .f64 (F.bin .sub .f64 x0 (F.ofInt .f64 (F.toInt .f64 IntKind.i64 x0))) 4602678819172646912)) 4618760256179416344) (Prod.snd (Pure.spec_l01SineWide_L0 F (F.cmp .geq .f64 (F.bin .sub .f64 x0 (F.ofInt .f64 (F.toInt .f64 IntKind.i64 x0))) 4602678819172646912) (F.bin .mul .f64 (F.bin .sub .f64 4602678819172646912 (F.bin .sub .f64 (F.bin .sub .f64 x0 (F.ofInt .f64 (F.toInt .f64 IntKind.i64 x0))) 4602678819172646912)) 4618760256179416344) (F.bin .mul .f64 (F.bin .mul .f64 (F.bin .sub .f64 4602678819172646912 (F.bin .sub .f64 (F.bin .sub .f64 x0 (F.ofInt .f64 (F.toInt .f64 IntKind.i64 x0))) 4602678819172646912)) 4618760256179416344) (F.bin .mul .f64 (F.bin .sub .f64 4602678819172646912 (F.bin .sub .f64 (F.bin .sub .f64 x0 (F.ofInt .f64 (F.toInt .f64 IntKind.i64 x0))) 4602678819172646912)) 4618760256179416344)) 9 4607182418800017408 8))))), none, []⟩ else some ⟨V.at (A.fl .f64 (F.bin .mul .f64 (F.bin .mul .f64 (F.bin .sub .f64 4602678819172646912 (F.bin .sub .f64 (F.bin .sub .f64 x0 (F.ofInt .f64 (F.toInt .f64 IntKind.i64 x0))) 4602678819172646912)) 4618760256179416344) (Prod.snd (Pure.spec_l01SineWide_L0 F (F.cmp .geq .f64 (F.bin .sub .f64 x0 (F.ofInt .f64 (F.toInt .f64 IntKind.i64 x0))) 4602678819172646912) (F.bin .mul .f64 (F.bin .sub .f64 4602678819172646912 (F.bin .sub .f64 (F.bin .sub .f64 x0 (F.ofInt .f64 (F.toInt .f64 IntKind.i64 x0))) 4602678819172646912)) 4618760256179416344) (F.bin .mul .f64 (F.bin .mul .f64 (F.bin .sub .f64 4602678819172646912 (F.bin .sub .f64 (F.bin .sub .f64 x0 (F.ofInt .f64 (F.toInt .f64 IntKind.i64 x0))) 4602678819172646912)) 4618760256179416344) (F.bin .mul .f64 (F.bin .sub .f64 4602678819172646912 (F.bin .sub .f64 (F.bin .sub .f64 x0 (F.ofInt .f64 (F.toInt .f64 IntKind.i64 x0))) 4602678819172646912)) 4618760256179416344)) 9 4607182418800017408 8)))), none, []⟩ else none else bif Prod.fst (Pure.spec_l01SineWide_L0 F (F.cmp .geq .f64 (F.bin .sub .f64 x0 (F.ofInt .f64 (F.toInt .f64 IntKind.i64 x0))) 4602678819172646912) (F.bin .mul .f64 (F.bin .sub .f64 (F.bin .sub .f64 x0 (F.ofInt .f64 (F.toInt .f64 IntKind.i64 x0))) 4602678819172646912) 4618760256179416344) (F.bin .mul .f64 (F.bin .mul .f64 (F.bin .sub .f64 (F.bin .sub .f64 x0 (F.ofInt .f64 (F.toInt .f64 IntKind.i64 x0))) 4602678819172646912) 4618760256179416344) (F.bin .mul .f64 (F.bin .sub .f64 (F.bin .sub .f64 x0 (F.ofInt .f64 (F.toInt .f64 IntKind.i64 x0))) 4602678819172646912) 4618760256179416344)) 9 4607182418800017408 8) then bif F.cmp .geq .f64 (F.bin .sub .f64 x0 (F.ofInt .f64 (F.toInt .f64 IntKind.i64 x0))) 4602678819172646912 then some ⟨V.at (A.fl .f64 (F.neg .f64 (F.bin .mul .f64 (F.bin .mul .f64 (F.bin .sub .f64 (F.bin .sub .f64 x0 (F.ofInt .f64 (F.toInt .f64 IntKind.i64 x0))) 4602678819172646912) 4618760256179416344) (Prod.snd (Pure.spec_l01SineWide_L0 F (F.cmp .geq .f64 (F.bin .sub .f64 x0 (F.ofInt .f64 (F.toInt .f64 IntKind.i64 x0))) 4602678819172646912) (F.bin .mul .f64 (F.bin .sub .f64 (F.bin .sub .f64 x0 (F.ofInt .f64 (F.toInt .f64 IntKind.i64 x0))) 4602678819172646912) 4618760256179416344) (F.bin .mul .f64 (F.bin .mul .f64 (F.bin .sub .f64 (F.bin .sub .f64 x0 (F.ofInt .f64 (F.toInt .f64 IntKind.i64 x0))) 4602678819172646912) 4618760256179416344) (F.bin .mul .f64 (F.bin .sub .f64 (F.bin .sub .f64 x0 (F.ofInt .f64 (F.toInt .f64 IntKind.i64 x0))) 4602678819172646912) 4618760256179416344)) 9 4607182418800017408 8))))), none, []⟩ else some ⟨V.at (A.fl .f64 (F.bin .mul .f64 (F.bin .mul .f64 (F.bin .sub .f64 (F.bin .sub .f64 x0 (F.ofInt .f64 (F.toInt .f64 IntKind.i64 x0))) 4602678819172646912) 4618760256179416344) (Prod.snd (Pure.spec_l01SineWide_L0 F (F.cmp .geq .f64 (F.bin .sub .f64 x0 (F.ofInt .f64 (F.toInt .f64 IntKind.i64 x0))) 4602678819172646912) (F.bin .mul .f64 (F.bin .sub .f64 (F.bin .sub .f64 x0 (F.ofInt .f64 (F.toInt .f64 IntKind.i64 x0))) 4602678819172646912) 4618760256179416344) (F.bin .mul .f64 (F.bin .mul .f64 (F.bin .sub .f64 (F.bin .sub .f64 x0 (F.ofInt .f64 (F.toInt .f64 IntKind.i64 x0))) 4602678819172646912) 4618760256179416344) (F.bin .mul .f64 (F.bin .sub .f64 (F.bin .sub .f64 x0 (F.ofInt .f64 (F.toInt .f64 IntKind.i64 x0))) 4602678819172646912) 4618760256179416344)) 9 4607182418800017408 8)))), none, []⟩ else none else bif F.cmp .gtr .f64 (F.bin .sub .f64 x0 (F.ofInt .f64 (F.toInt .f64 IntKind.i64 x0))) 4598175219545276416 then bif Prod.fst (Pure.spec_l01SineWide_L0 F (F.cmp .geq .f64 (F.bin .sub .f64 x0 (F.ofInt .f64 (F.toInt .f64 IntKind.i64 x0))) 4602678819172646912) (F.bin .mul .f64 (F.bin .sub .f64 4602678819172646912 (F.bin .sub .f64 x0 (F.ofInt .f64 (F.toInt .f64 IntKind.i64 x0)))) 4618760256179416344) (F.bin .mul .f64 (F.bin .mul .f64 (F.bin .sub .f64 4602678819172646912 (F.bin .sub .f64 x0 (F.ofInt .f64 (F.toInt .f64 IntKind.i64 x0)))) 4618760256179416344) (F.bin .mul .f64 (F.bin .sub .f64 4602678819172646912 (F.bin .sub .f64 x0 (F.ofInt .f64 (F.toInt .f64 IntKind.i64 x0)))) 4618760256179416344)) 9 4607182418800017408 8) then bif F.cmp .geq .f64 (F.bin .sub .f64 x0 (F.ofInt .f64 (F.toInt .f64 IntKind.i64 x0))) 4602678819172646912 then some ⟨V.at (A.fl .f64 (F.neg .f64 (F.bin .mul .f64 (F.bin .mul .f64 (F.bin .sub .f64 4602678819172646912 (F.bin .sub .f64 x0 (F.ofInt .f64 (F.toInt .f64 IntKind.i64 x0)))) 4618760256179416344) (Prod.snd (Pure.spec_l01SineWide_L0 F (F.cmp .geq .f64 (F.bin .sub .f64 x0 (F.ofInt .f64 (F.toInt .f64 IntKind.i64 x0))) 4602678819172646912) (F.bin .mul .f64 (F.bin .sub .f64 4602678819172646912 (F.bin .sub .f64 x0 (F.ofInt .f64 (F.toInt .f64 IntKind.i64 x0)))) 4618760256179416344) (F.bin .mul .f64 (F.bin .mul .f64 (F.bin .sub .f64 4602678819172646912 (F.bin .sub .f64 x0 (F.ofInt .f64 (F.toInt .f64 IntKind.i64 x0)))) 4618760256179416344) (F.bin .mul .f64 (F.bin .sub .f64 4602678819172646912 (F.bin .sub .f64 x0 (F.ofInt .f64 (F.toInt .f64 IntKind.i64 x0)))) 4618760256179416344)) 9 4607182418800017408 8))))), none, []⟩ else some ⟨V.at (A.fl .f64 (F.bin .mul .f64 (F.bin .mul .f64 (F.bin .sub .f64 4602678819172646912 (F.bin .sub .f64 x0 (F.ofInt .f64 (F.toInt .f64 IntKind.i64 x0)))) 4618760256179416344) (Prod.snd (Pure.spec_l01SineWide_L0 F (F.cmp .geq .f64 (F.bin .sub .f64 x0 (F.ofInt .f64 (F.toInt .f64 IntKind.i64 x0))) 4602678819172646912) (F.bin .mul .f64 (F.bin .sub .f64 4602678819172646912 (F.bin .sub .f64 x0 (F.ofInt .f64 (F.toInt .f64 IntKind.i64 x0)))) 4618760256179416344) (F.bin .mul .f64 (F.bin .mul .f64 (F.bin .sub .f64 4602678819172646912 (F.bin .sub .f64 x0 (F.ofInt .f64 (F.toInt .f64 IntKind.i64 x0)))) 4618760256179416344) (F.bin .mul .f64 (F.bin .sub .f64 4602678819172646912 (F.bin .sub .f64 x0 (F.ofInt .f64 (F.toInt .f64 IntKind.i64 x0)))) 4618760256179416344)) 9 4607182418800017408 8)))), none, []⟩ else none else bif Prod.fst (Pure.spec_l01SineWide_L0 F (F.cmp .geq .f64 (F.bin .sub .f64 x0 (F.ofInt .f64 (F.toInt .f64 IntKind.i64 x0))) 4602678819172646912) (F.bin .mul .f64 (F.bin .sub .f64 x0 (F.ofInt .f64 (F.toInt .f64 IntKind.i64 x0))) 4618760256179416344) (F.bin .mul .f64 (F.bin .mul .f64 (F.bin .sub .f64 x0 (F.ofInt .f64 (F.toInt .f64 IntKind.i64 x0))) 4618760256179416344) (F.bin .mul .f64 (F.bin .sub .f64 x0 (F.ofInt .f64 (F.toInt .f64 IntKind.i64 x0))) 4618760256179416344)) 9 4607182418800017408 8) then bif F.cmp .geq .f64 (F.bin .sub .f64 x0 (F.ofInt .f64 (F.toInt .f64 IntKind.i64 x0))) 4602678819172646912 then some ⟨V.at (A.fl .f64 (F.neg .f64 (F.bin .mul .f64 (F.bin .mul .f64 (F.bin .sub .f64 x0 (F.ofInt .f64 (F.toInt .f64 IntKind.i64 x0))) 4618760256179416344) (Prod.snd (Pure.spec_l01SineWide_L0 F (F.cmp .geq .f64 (F.bin .sub .f64 x0 (F.ofInt .f64 (F.toInt .f64 IntKind.i64 x0))) 4602678819172646912) (F.bin .mul .f64 (F.bin .sub .f64 x0 (F.ofInt .f64 (F.toInt .f64 IntKind.i64 x0))) 4618760256179416344) (F.bin .mul .f64 (F.bin .mul .f64 (F.bin .sub .f64 x0 (F.ofInt .f64 (F.toInt .f64 IntKind.i64 x0))) 4618760256179416344) (F.bin .mul .f64 (F.bin .sub .f64 x0 (F.ofInt .f64 (F.toInt .f64 IntKind.i64 x0))) 4618760256179416344)) 9 4607182418800017408 8))))), none, []⟩ else some ⟨V.at (A.fl .f64 (F.bin .mul .f64 (F.bin .mul .f64 (F.bin .sub .f64 x0 (F.ofInt .f64 (F.toInt .f64 IntKind.i64 x0))) 4618760256179416344) (Prod.snd (Pure.spec_l01SineWide_L0 F (F.cmp .geq .f64 (F.bin .sub .f64 x0 (F.ofInt .f64 (F.toInt .f64 IntKind.i64 x0))) 4602678819172646912) (F.bin .mul .f64 (F.bin .sub .f64 x0 (F.ofInt .f64 (F.toInt .f64 IntKind.i64 x0))) 4618760256179416344) (F.bin .mul .f64 (F.bin .mul .f64 (F.bin .sub .f64 x0 (F.ofInt .f64 (F.toInt .f64 IntKind.i64 x0))) 4618760256179416344) (F.bin .mul .f64 (F.bin .sub .f64 x0 (F.ofInt .f64 (F.toInt .f64 IntKind.i64 x0))) 4618760256179416344)) 9 4607182418800017408 8)))), none, []⟩ else none else none := by kernel_rfl
  rw [h0]
  unfold Pure.spec_l01SineWide Pure.spec_l01SineWide_ok
  cases (F.cmp .neq .f64 (F.bin .sub .f64 x0 x0) 0) with
  | true =>
    intro _; rfl
  | false =>
    cases (F.cmp .geq .f64 x0 4841369599423283200) with
    | true =>
      intro _; rfl
    | false =>
      cases (F.cmp .leq .f64 x0 14064741636278059008) with
      | true =>
        intro _; rfl
      | false =>
        cases (F.toIntOk .f64 IntKind.i64 x0) with
        | true =>
          cases (F.cmp .lss .f64 (F.bin .sub .f64 x0 (F.ofInt .f64 (F.toInt .f64 IntKind.i64 x0))) 0) with
          | true =>
            cases (F.cmp .geq .f64 (F.bin .add .f64 (F.bin .sub .f64 x0 (F.ofInt .f64 (F.toInt .f64 IntKind.i64 x0))) 4607182418800017408) 4602678819172646912) with
            | true =>
              cases (F.cmp .gtr .f64 (F.bin .sub .f64 (F.bin .add .f64 (F.bin .sub .f64 x0 (F.ofInt .f64 (F.toInt .f64 IntKind.i64 x0))) 4607182418800017408) 4602678819172646912) 4598175219545276416) with
              | true =>
                cases (Prod.fst (Pure.spec_l01SineWide_L0 F true (F.bin .mul .f64 (F.bin .sub .f64 4602678819172646912 (F.bin .sub .f64 (F.bin .add .f64 (F.bin .sub .f64 x0 (F.ofInt .f64 (F.toInt .f64 IntKind.i64 x0))) 4607182418800017408) 4602678819172646912)) 4618760256179416344) (F.bin .mul .f64 (F.bin .mul .f64 (F.bin .sub .f64 4602678819172646912 (F.bin .sub .f64 (F.bin .add .f64 (F.bin .sub .f64 x0 (F.ofInt .f64 (F.toInt .f64 IntKind.i64 x0))) 4607182418800017408) 4602678819172646912)) 4618760256179416344) (F.bin .mul .f64 (F.bin .sub .f64 4602678819172646912 (F.bin .sub .f64 (F.bin .add .f64 (F.bin .sub .f64 x0 (F.ofInt .f64 (F.toInt .f64 IntKind.i64 x0))) 4607182418800017408) 4602678819172646912)) 4618760256179416344)) 9 4607182418800017408 8)) with
                | true =>
                  intro _; rfl
                | false =>
                  intro h; exact absurd h Bool.false_ne_true
              | false =>
                cases (Prod.fst (Pure.spec_l01SineWide_L0 F true (F.bin .mul .f64 (F.bin .sub .f64 (F.bin .add .f64 (F.bin .sub .f64 x0 (F.ofInt .f64 (F.toInt .f64 IntKind.i64 x0))) 4607182418800017408) 4602678819172646912) 4618760256179416344) (F.bin .mul .f64 (F.bin .mul .f64 (F.bin .sub .f64 (F.bin .add .f64 (F.bin .sub .f64 x0 (F.ofInt .f64 (F.toInt .f64 IntKind.i64 x0))) 4607182418800017408) 4602678819172646912) 4618760256179416344) (F.bin .mul .f64 (F.bin .sub .f64 (F.bin .add .f64 (F.bin .sub .f64 x0 (F.ofInt .f64 (F.toInt .f64 IntKind.i64 x0))) 4607182418800017408) 4602678819172646912) 4618760256179416344)) 9 4607182418800017408 8)) with
                | true =>
                  intro _; rfl
                | false =>
                  intro h; exact absurd h Bool.false_ne_true
            | false =>
              cases (F.cmp .gtr .f64 (F.bin .add .f64 (F.bin .sub .f64 x0 (F.ofInt .f64 (F.toInt .f64 IntKind.i64 x0))) 4607182418800017408) 4598175219545276416) with
              | true =>
                cases (Prod.fst (Pure.spec_l01SineWide_L0 F false (F.bin .mul .f64 (F.bin .sub .f64 4602678819172646912 (F.bin .add .f64 (F.bin .sub .f64 x0 (F.ofInt .f64 (F.toInt .f64 IntKind.i64 x0))) 4607182418800017408)) 4618760256179416344) (F.bin .mul .f64 (F.bin .mul .f64 (F.bin .sub .f64 4602678819172646912 (F.bin .add .f64 (F.bin .sub .f64 x0 (F.ofInt .f64 (F.toInt .f64 IntKind.i64 x0))) 4607182418800017408)) 4618760256179416344) (F.bin .mul .f64 (F.bin .sub .f64 4602678819172646912 (F.bin .add .f64 (F.bin .sub .f64 x0 (F.ofInt .f64 (F.toInt .f64 IntKind.i64 x0))) 4607182418800017408)) 4618760256179416344)) 9 4607182418800017408 8)) with
                | true =>
                  intro _; rfl
                | false =>
                  intro h; exact absurd h Bool.false_ne_true
              | false =>
                cases (Prod.fst (Pure.spec_l01SineWide_L0 F false (F.bin .mul .f64 (F.bin .add .f64 (F.bin .sub .f64 x0 (F.ofInt .f64 (F.toInt .f64 IntKind.i64 x0))) 4607182418800017408) 4618760256179416344) (F.bin .mul .f64 (F.bin .mul .f64 (F.bin .add .f64 (F.bin .sub .f64 x0 (F.ofInt .f64 (F.toInt .f64 IntKind.i64 x0))) 4607182418800017408) 4618760256179416344) (F.bin .mul .f64 (F.bin .add .f64 (F.bin .sub .f64 x0 (F.ofInt .f64 (F.toInt .f64 IntKind.i64 x0))) 4607182418800017408) 4618760256179416344)) 9 4607182418800017408 8)) with
                | true =>
                  intro _; rfl
                | false =>
                  intro h; exact absurd h Bool.false_ne_true
          | false =>
            cases (F.cmp .geq .f64 (F.bin .sub .f64 x0 (F.ofInt .f64 (F.toInt .f64 IntKind.i64 x0))) 4602678819172646912) with
            | true =>
              cases (F.cmp .gtr .f64 (F.bin .sub .f64 (F.bin .sub .f64 x0 (F.ofInt .f64 (F.toInt .f64 IntKind.i64 x0))) 4602678819172646912) 4598175219545276416) with
              | true =>
                cases (Prod.fst (Pure.spec_l01SineWide_L0 F true (F.bin .mul .f64 (F.bin .sub .f64 4602678819172646912 (F.bin .sub .f64 (F.bin .sub .f64 x0 (F.ofInt .f64 (F.toInt .f64 IntKind.i64 x0))) 4602678819172646912)) 4618760256179416344) (F.bin .mul .f64 (F.bin .mul .f64 (F.bin .sub .f64 4602678819172646912 (F.bin .sub .f64 (F.bin .sub .f64 x0 (F.ofInt .f64 (F.toInt .f64 IntKind.i64 x0))) 4602678819172646912)) 4618760256179416344) (F.bin .mul .f64 (F.bin .sub .f64 4602678819172646912 (F.bin .sub .f64 (F.bin .sub .f64 x0 (F.ofInt .f64 (F.toInt .f64 IntKind.i64 x0))) 4602678819172646912)) 4618760256179416344)) 9 4607182418800017408 8)) with
                | true =>
                  intro _; rfl
                | false =>
                  intro h; exact absurd h Bool.false_ne_true
              | false =>
                cases (Prod.fst (Pure.spec_l01SineWide_L0 F true (F.bin .mul .f64 (F.bin .sub .f64 (F.bin .sub .f64 x0 (F.ofInt .f64 (F.toInt .f64 IntKind.i64 x0))) 4602678819172646912) 4618760256179416344) (F.bin .mul .f64 (F.bin .mul .f64 (F.bin .sub .f64 (F.bin .sub .f64 x0 (F.ofInt .f64 (F.toInt .f64 IntKind.i64 x0))) 4602678819172646912) 4618760256179416344) (F.bin .mul .f64 (F.bin .sub .f64 (F.bin .sub .f64 x0 (F.ofInt .f64 (F.toInt .f64 IntKind.i64 x0))) 4602678819172646912) 4618760256179416344)) 9 4607182418800017408 8)) with
                | true =>
                  intro _; rfl
                | false =>
                  intro h; exact absurd h Bool.false_ne_true
            | false =>
              cases (F.cmp .gtr .f64 (F.bin .sub .f64 x0 (F.ofInt .f64 (F.toInt .f64 IntKind.i64 x0))) 4598175219545276416) with
              | true =>
                cases (Prod.fst (Pure.spec_l01SineWide_L0 F false (F.bin .mul .f64 (F.bin .sub .f64 4602678819172646912 (F.bin .sub .f64 x0 (F.ofInt .f64 (F.toInt .f64 IntKind.i64 x0)))) 4618760256179416344) (F.bin .mul .f64 (F.bin .mul .f64 (F.bin .sub .f64 4602678819172646912 (F.bin .sub .f64 x0 (F.ofInt .f64 (F.toInt .f64 IntKind.i64 x0)))) 4618760256179416344) (F.bin .mul .f64 (F.bin .sub .f64 4602678819172646912 (F.bin .sub .f64 x0 (F.ofInt .f64 (F.toInt .f64 IntKind.i64 x0)))) 4618760256179416344)) 9 4607182418800017408 8)) with
                | true =>
                  intro _; rfl
                | false =>
                  intro h; exact absurd h Bool.false_ne_true
              | false =>
                cases (Prod.fst (Pure.spec_l01SineWide_L0 F false (F.bin .mul .f64 (F.bin .sub .f64 x0 (F.ofInt .f64 (F.toInt .f64 IntKind.i64 x0))) 4618760256179416344) (F.bin .mul .f64 (F.bin .mul .f64 (F.bin .sub .f64 x0 (F.ofInt .f64 (F.toInt .f64 IntKind.i64 x0))) 4618760256179416344) (F.bin .mul .f64 (F.bin .sub .f64 x0 (F.ofInt .f64 (F.toInt .f64 IntKind.i64 x0))) 4618760256179416344)) 9 4607182418800017408 8)) with
                | true =>
                  intro _; rfl
                | false =>
                  intro h; exact absurd h Bool.false_ne_true
        | false =>
          intro h; exact absurd h Bool.false_ne_true
theorem ok_spec_l01SineWide : CallOK Try.prog 94 (c_spec_l01SineWide real) := by
  refine callOK_of fun args h ret hc => ?_
  unfold c_spec_l01SineWide at hc
  split at hc
  · rename_i x0
    obtain ⟨hok, rfl⟩ := some_ret hc
    exact holds_ev prog_ok (allOK_cons ok_math_NaN allOK_nil) Try.func94 rfl rfl (smL_cons (body := .loop (loopB 0 (codeOf Try.f94))) (by kernel_rfl) t_spec_l01SineWide_L0 smL_nil) rfl (e_spec_l01SineWide real x0 hok)
  · cases hc
def Pure.spec_l01Narrow (F : FOps) (x0 : Int) : Int := F.conv .f64 .f32 x0
def Pure.spec_l01Narrow_ok (F : FOps) (x0 : Int) : Bool := F.convOk .f64 .f32 x0
def c_spec_l01Narrow (F : FOps) : Con
  | [V.at (A.fl .f64 x0)], [] => some (Pure.spec_l01Narrow_ok F x0, ⟨V.at (A.fl .f32 (Pure.spec_l01Narrow F x0)), none, []⟩)
  | _, _ => none
theorem e_spec_l01Narrow (F : FOps) (x0 : Int) : Pure.spec_l01Narrow_ok F x0 = true → evFn (cxS F tyl [] [] [] 0) Try.f88 false [V.at (A.fl .f64 x0)] [] = some ⟨V.at (A.fl .f32 (Pure.spec_l01Narrow F x0)), none, []⟩ := by
  have h0 : evFn (cxS F tyl [] [] [] 0) Try.f88 false [V.at (A.fl .f64 x0)] [] = bif F.convOk .f64 .f32 x0 then some ⟨V.at (A.fl .f32 (F.conv .f64 .f32 x0)), none, []⟩ else none := by kernel_rfl
  rw [h0]
  unfold Pure.spec_l01Narrow Pure.spec_l01Narrow_ok
  cases (F.convOk .f64 .f32 x0) with
  | true =>
    intro _; rfl
  | false =>
    intro h; exact absurd h Bool.false_ne_true
theorem ok_spec_l01Narrow : CallOK Try.prog 88 (c_spec_l01Narrow real) := by
  refine callOK_of fun args h ret hc => ?_
  unfold c_spec_l01Narrow at hc
  split at hc
  · rename_i x0
    obtain ⟨hok, rfl⟩ := some_ret hc
    exact holds_ev prog_ok allOK_nil Try.func88 rfl rfl smL_nil rfl (e_spec_l01Narrow real x0 hok)
  · cases hc
def Pure.spec_l01Sine (F : FOps) (x0 : Int) : Int := Pure.spec_l01Narrow F (Pure.spec_l01SineWide F (F.conv .f32 .f64 x0))
def Pure.spec_l01Sine_ok (F : FOps) (x0 : Int) : Bool := bif F.convOk .f32 .f64 x0 then bif Pure.spec_l01SineWide_ok F (F.conv .f32 .f64 x0) then Pure.spec_l01Narrow_ok F (Pure.spec_l01SineWide F (F.conv .f32 .f64 x0)) else false else false
def c_spec_l01Sine (F : FOps) : Con
  | [V.at (A.fl .f32 x0)], [] => some (Pure.spec_l01Sine_ok F x0, ⟨V.at (A.fl .f32 (Pure.spec_l01Sine F x0)), none, []⟩)
  | _, _ => none
theorem e_spec_l01Sine (F : FOps) (x0 : Int) : Pure.spec_l01Sine_ok F x0 = true → evFn (cxS F tyl [(94, c_spec_l01SineWide F), (88, c_spec_l01Narrow F)] [] [] 0) Try.f62 false [V.at (A.fl .f32 x0)] [] = some ⟨V.at (A.fl .f32 (Pure.spec_l01Sine F x0)), none, []⟩ := by
  have h0 : evFn (cxS F tyl [(94, c_spec_l01SineWide F), (88, c_spec_l01Narrow F)] [] [] 0) Try.f62 false [V.at (A.fl .f32 x0)] [] = bif F.convOk .f32 .f64 x0 then bif Pure.spec_l01SineWide_ok F (F.conv .f32 .f64 x0) then bif Pure.spec_l01Narrow_ok F (Pure.spec_l01SineWide F (F.conv .f32 .f64 x0)) then some ⟨V.at (A.fl .f32 (Pure.spec_l01Narrow F (Pure.spec_l01SineWide F (F.conv .f32 .f64 x0)))), none, []⟩ else none else none else none := by kernel_rfl
  rw [h0]
  unfold Pure.spec_l01Sine Pure.spec_l01Sine_ok
  cases (F.convOk .f32 .f64 x0) with
  | true =>
    cases (Pure.spec_l01SineWide_ok F (F.conv .f32 .f64 x0)) with
    | true =>
      cases (Pure.spec_l01Narrow_ok F (Pure.spec_l01SineWide F (F.conv .f32 .f64 x0))) with
      | true =>
        intro _; rfl
      | false =>
        intro h; exact absurd h Bool.false_ne_true
    | false =>
      intro h; exact absurd h Bool.false_ne_true
  | false =>
    intro h; exact absurd h Bool.false_ne_true
theorem ok_spec_l01Sine : CallOK Try.prog 62 (c_spec_l01Sine real) := by
  refine callOK_of fun args h ret hc => ?_
  unfold c_spec_l01Sine at hc
  split at hc
  · rename_i x0
    obtain ⟨hok, rfl⟩ := some_ret hc
    exact holds_ev prog_ok (allOK_cons ok_spec_l01SineWide (allOK_cons ok_spec_l01Narrow allOK_nil)) Try.func62 rfl rfl smL_nil rfl (e_spec_l01Sine real x0 hok)
  · cases hc
def c_math_Float64bits (_ : FOps) : Con
  | [V.at (A.fl .f64 x)], [] => some (true, ⟨V.at (A.raw .f64 x), none, []⟩)
  | _, _ => none
theorem ok_math_Float64bits : CallOK Try.prog 106 (c_math_Float64bits real) := by
  refine callOK_of fun args h ret hc => ?_
  unfold c_math_Float64bits at hc
  split at hc
  · rename_i x
    obtain ⟨_, rfl⟩ := some_ret hc
    exact ext_bits64 Try.func106 rfl rfl (by kernel_rfl) (by kernel_rfl) x
  · cases hc
def c_math_Abs (F : FOps) : Con
  | [V.at (A.fl .f64 x0)], [] => some (true, ⟨V.at (A.fl .f64 (F.abs .f64 x0)), none, []⟩)
  | _, _ => none
theorem e_math_Abs (F : FOps) (x0 : Int) : evFn (cxS F tyl [(106, c_math_Float64bits F), (105, c_math_Float64frombits F)] [] [] 0) Try.f97 false [V.at (A.fl .f64 x0)] [] = some ⟨V.at (A.fl .f64 (F.abs .f64 x0)), none, []⟩ := by
  kernel_rfl
theorem ok_math_Abs : CallOK Try.prog 97 (c_math_Abs real) := by
  refine callOK_of fun args h ret hc => ?_
  unfold c_math_Abs at hc
  split at hc
  · rename_i x0
    obtain ⟨_, rfl⟩ := some_ret hc
    exact holds_ev prog_ok (allOK_cons ok_math_Float64bits (allOK_cons ok_math_Float64frombits allOK_nil)) Try.func97 rfl rfl smL_nil rfl (e_math_Abs real x0)
  · cases hc
def c_math_archTrunc (F : FOps) : Con
  | [V.at (A.fl .f64 x)], [] => some (true, ⟨V.at (A.fl .f64 (F.integral .zero x)), none, []⟩)
  | _, _ => none
theorem ok_math_archTrunc : CallOK Try.prog 107 (c_math_archTrunc real) := by
  refine callOK_of fun args h ret hc => ?_
  unfold c_math_archTrunc at hc
  split at hc
  · rename_i x
    obtain ⟨_, rfl⟩ := some_ret hc
    exact ext_integral (nm := "math.archTrunc") Try.func107 rfl rfl (by kernel_rfl) (by kernel_rfl) x
  · cases hc
def c_math_Trunc (F : FOps) : Con
  | [V.at (A.fl .f64 x0)], [] => some (true, ⟨V.at (A.fl .f64 (F.integral Ieee.Toward.zero x0)), none, []⟩)
  | _, _ => none
theorem e_math_Trunc (F : FOps) (x0 : Int) : evFn (cxS F tyl [(107, c_math_archTrunc F)] [] [] 0) Try.f98 false [V.at (A.fl .f64 x0)] [] = some ⟨V.at (A.fl .f64 (F.integral Ieee.Toward.zero x0)), none, []⟩ := by
  kernel_rfl
theorem ok_math_Trunc : CallOK Try.prog 98 (c_math_Trunc real) := by
  refine callOK_of fun args h ret hc => ?_
  unfold c_math_Trunc at hc
  split at hc
  · rename_i x0
    obtain ⟨_, rfl⟩ := some_ret hc
    exact holds_ev prog_ok (allOK_cons ok_math_archTrunc allOK_nil) Try.func98 rfl rfl smL_nil rfl (e_math_Trunc real x0)
  · cases hc
def Pure.impl_SineTurns_L1 (F : FOps) (y0 : Bool) (y1 y2 : Int) : Nat → Int → Int → (Bool × Int)
  | 0, _, _ => (false, 0)
  | n + 1, y3, y4 => bif (decide (y4 ≥ 1)) then (Pure.impl_SineTurns_L1 F y0 y1 y2 n (F.bin .sub .f64 4607182418800017408 (F.bin .quo .f64 (F.bin .mul .f64 y2 y3) (F.ofInt .f64 (IntKind.wrap .i64 ((IntKind.wrap .i64 (2 * y4)) * (IntKind.wrap .i64 ((IntKind.wrap .i64 (2 * y4)) + 1))))))) (IntKind.wrap .i64 (y4 - 1))) else ((true, y3))
def R_impl_SineTurns_L1 (y0 : Bool) (y1 : Int) (r : (Bool × Int)) : Bool × Ends := ((r).1, (.one Ex.normal [V.at (A.bool y0), V.at (A.fl .f64 y1), V.at (A.fl .f64 (r).2)] []))
def S_impl_SineTurns_L1 (F : FOps) : Sm := ⟨[5, 6, 7, 8, 9], [4, 46, 46, 46, 3], [5, 6, 8], fun vals hp => match vals, hp with
  | [V.at (A.bool y0), V.at (A.fl .f64 y1), V.at (A.fl .f64 y2), V.at (A.fl .f64 y3), V.at (A.int .i64 y4)], [] => some (R_impl_SineTurns_L1 y0 y1 (Pure.impl_SineTurns_L1 F y0 y1 y2 (y4 - 1 + 2).toNat y3 y4))
  | _, _ => none⟩
theorem l_impl_SineTurns_L1 (F : FOps) (y0 : Bool) (y1 y2 : Int) : ∀ (fuel : Nat) (y3 y4 : Int), (Pure.impl_SineTurns_L1 F y0 y1 y2 fuel y3 y4).1 = true → loopOf (cxS F tyl [(95, c_impl_IsFinite F), (96, c_math_NaN F), (97, c_math_Abs F), (98, c_math_Trunc F)] [] [] 0) 0 72 1 [5, 6, 7, 8, 9] [4, 46, 46, 46, 3] [5, 6, 8] (loopB 1 (codeOf Try.f63)) fuel [V.at (A.bool y0), V.at (A.fl .f64 y1), V.at (A.fl .f64 y2), V.at (A.fl .f64 y3), V.at (A.int .i64 y4)] [] = resOf (R_impl_SineTurns_L1 y0 y1 (Pure.impl_SineTurns_L1 F y0 y1 y2 fuel y3 y4)) := by
  intro fuel
  induction fuel with
  | zero => intro y3 y4 h; exact absurd h Bool.false_ne_true
  | succ n ih =>
    intro y3 y4
    have h0 : roundOf (cxS F tyl [(95, c_impl_IsFinite F), (96, c_math_NaN F), (97, c_math_Abs F), (98, c_math_Trunc F)] [] [] 0) 0 72 1 [5, 6, 7, 8, 9] [4, 46, 46, 46, 3] [5, 6, 8] (loopB 1 (codeOf Try.f63)) [V.at (A.bool y0), V.at (A.fl .f64 y1), V.at (A.fl .f64 y2), V.at (A.fl .f64 y3), V.at (A.int .i64 y4)] [] = (bif decide (y4 ≥ 1) then some (true, (Ex.normal, ([V.at (A.bool y0), V.at (A.fl .f64 y1), V.at (A.fl .f64 y2), V.at (A.fl .f64 (F.bin .sub .f64 4607182418800017408 (F.bin .quo .f64 (F.bin .mul .f64 y2 y3) (F.ofInt .f64 (IntKind.wrap .i64 ((IntKind.wrap .i64 (2 * y4)) * (IntKind.wrap .i64 ((IntKind.wrap .i64 (2 * y4)) + 1)))))))), V.at (A.int .i64 (IntKind.wrap .i64 (y4 - 1)))], []))) else some (false, (Ex.normal, ([V.at (A.bool y0), V.at (A.fl .f64 y1), V.at (A.fl .f64 y3)], [])))) := by kernel_rfl
    unfold loopOf
    rw [h0]
    unfold Pure.impl_SineTurns_L1
    cases (decide (y4 ≥ 1)) with
    | true =>
      exact ih _ _
    | false =>
      intro _; rfl
theorem t_impl_SineTurns_L1 : SmTo Try.prog 0 72 (S_impl_SineTurns_L1 real) 1 (.loop (loopB 1 (codeOf Try.f63))) := by
  refine smTo_ev (cl := [(95, c_impl_IsFinite real), (96, c_math_NaN real), (97, c_math_Abs real), (98, c_math_Trunc real)]) (ef := []) (sm := []) (un := 0) prog_ok (allOK_cons ok_impl_IsFinite (allOK_cons ok_math_NaN (allOK_cons ok_math_Abs (allOK_cons ok_math_Trunc allOK_nil)))) smL_nil ?_
  intro vals hp q r h hq
  unfold S_impl_SineTurns_L1 at h
  dsimp only at h
  split at h
  · rename_i y0 y1 y2 y3 y4
    obtain rfl := Option.some.inj h
    have h1 := hq
    unfold resOf at h1
    rw [chk_some] at h1
    exact ⟨_, (l_impl_SineTurns_L1 real y0 y1 y2 _ y3 y4 h1.1).trans hq⟩
  · cases h
def Pure.s1_f63 (F : FOps) (x0 : Int) : Int := F.bin .add .f64 (F.bin .sub .f64 (F.conv .f32 .f64 x0) (F.integral Ieee.Toward.zero (F.conv .f32 .f64 x0))) 4607182418800017408
def Pure.s2_f63 (F : FOps) (x0 : Int) : Int := F.bin .sub .f64 (Pure.s1_f63 F x0) 4602678819172646912
def Pure.s3_f63 (F : FOps) (x0 : Int) : Int := F.bin .mul .f64 (F.bin .sub .f64 4602678819172646912 (Pure.s2_f63 F x0)) 4618760256179416344
def Pure.s4_f63 (F : FOps) (x0 : Int) : Int := F.bin .mul .f64 (Pure.s3_f63 F x0) (Prod.snd (Pure.impl_SineTurns_L1 F (F.cmp .geq .f64 (Pure.s1_f63 F x0) 4602678819172646912) (Pure.s3_f63 F x0) (F.bin .mul .f64 (Pure.s3_f63 F x0) (Pure.s3_f63 F x0)) 9 4607182418800017408 8))
def Pure.s5_f63 (F : FOps) (x0 : Int) : Int := F.neg .f64 (Pure.s4_f63 F x0)
def Pure.s6_f63 (F : FOps) (x0 : Int) : Int := F.bin .mul .f64 (Pure.s2_f63 F x0) 4618760256179416344
def Pure.s7_f63 (F : FOps) (x0 : Int) : Int := F.bin .mul .f64 (Pure.s6_f63 F x0) (Prod.snd (Pure.impl_SineTurns_L1 F (F.cmp .geq .f64 (Pure.s1_f63 F x0) 4602678819172646912) (Pure.s6_f63 F x0) (F.bin .mul .f64 (Pure.s6_f63 F x0) (Pure.s6_f63 F x0)) 9 4607182418800017408 8))
def Pure.s8_f63 (F : FOps) (x0 : Int) : Int := F.neg .f64 (Pure.s7_f63 F x0)
def Pure.s9_f63 (F : FOps) (x0 : Int) : Int := F.bin .mul .f64 (F.bin .sub .f64 4602678819172646912 (Pure.s1_f63 F x0)) 4618760256179416344
def Pure.s10_f63 (F : FOps) (x0 : Int) : Int := F.bin .mul .f64 (Pure.s9_f63 F x0) (Prod.snd (Pure.impl_SineTurns_L1 F (F.cmp .geq .f64 (Pure.s1_f63 F x0) 4602678819172646912) (Pure.s9_f63 F x0) (F.bin .mul .f64 (Pure.s9_f63 F x0) (Pure.s9_f63 F x0)) 9 4607182418800017408 8))
def Pure.s11_f63 (F : FOps) (x0 : Int) : Int := F.neg .f64 (Pure.s10_f63 F x0)
def Pure.s12_f63 (F : FOps) (x0 : Int) : Int := F.bin .mul .f64 (Pure.s1_f63 F x0) 4618760256179416344
def Pure.s13_f63 (F : FOps) (x0 : Int) : Int := F.bin .mul .f64 (Pure.s12_f63 F x0) (Prod.snd (Pure.impl_SineTurns_L1 F (F.cmp .geq .f64 (Pure.s1_f63 F x0) 4602678819172646912) (Pure.s12_f63 F x0) (F.bin .mul .f64 (Pure.s12_f63 F x0) (Pure.s12_f63 F x0)) 9 4607182418800017408 8))
def Pure.s14_f63 (F : FOps) (x0 : Int) : Int := F.neg .f64 (Pure.s13_f63 F x0)
def Pure.s15_f63 (F : FOps) (x0 : Int) : Int := F.bin .sub .f64 (F.bin .sub .f64 (F.conv .f32 .f64 x0) (F.integral Ieee.Toward.zero (F.conv .f32 .f64 x0))) 4602678819172646912
def Pure.s16_f63 (F : FOps) (x0 : Int) : Int := F.bin .mul .f64 (F.bin .sub .f64 4602678819172646912 (Pure.s15_f63 F x0)) 4618760256179416344
def Pure.s17_f63 (F : FOps) (x0 : Int) : Int := F.bin .mul .f64 (Pure.s16_f63 F x0) (Prod.snd (Pure.impl_SineTurns_L1 F (F.cmp .geq .f64 (F.bin .sub .f64 (F.conv .f32 .f64 x0) (F.integral Ieee.Toward.zero (F.conv .f32 .f64 x0))) 4602678819172646912) (Pure.s16_f63 F x0) (F.bin .mul .f64 (Pure.s16_f63 F x0) (Pure.s16_f63 F x0)) 9 4607182418800017408 8))
def Pure.s18_f63 (F : FOps) (x0 : Int) : Int := F.neg .f64 (Pure.s17_f63 F x0)
def Pure.s19_f63 (F : FOps) (x0 : Int) : Int := F.bin .mul .f64 (Pure.s15_f63 F x0) 4618760256179416344
def Pure.s20_f63 (F : FOps) (x0 : Int) : Int := F.bin .mul .f64 (Pure.s19_f63 F x0) (Prod.snd (Pure.impl_SineTurns_L1 F (F.cmp .geq .f64 (F.bin .sub .f64 (F.conv .f32 .f64 x0) (F.integral Ieee.Toward.zero (F.conv .f32 .f64 x0))) 4602678819172646912) (Pure.s19_f63 F x0) (F.bin .mul .f64 (Pure.s19_f63 F x0) (Pure.s19_f63 F x0)) 9 4607182418800017408 8))
def Pure.s21_f63 (F : FOps) (x0 : Int) : Int := F.neg .f64 (Pure.s20_f63 F x0)
def Pure.s22_f63 (F : FOps) (x0 : Int) : Int := F.bin .mul .f64 (F.bin .sub .f64 4602678819172646912 (F.bin .sub .f64 (F.conv .f32 .f64 x0) (F.integral Ieee.Toward.zero (F.conv .f32 .f64 x0)))) 4618760256179416344
def Pure.s23_f63 (F : FOps) (x0 : Int) : Int := F.bin .mul .f64 (Pure.s22_f63 F x0) (Prod.snd (Pure.impl_SineTurns_L1 F (F.cmp .geq .f64 (F.bin .sub .f64 (F.conv .f32 .f64 x0) (F.integral Ieee.Toward.zero (F.conv .f32 .f64 x0))) 4602678819172646912) (Pure.s22_f63 F x0) (F.bin .mul .f64 (Pure.s22_f63 F x0) (Pure.s22_f63 F x0)) 9 4607182418800017408 8))
def Pure.s24_f63 (F : FOps) (x0 : Int) : Int := F.neg .f64 (Pure.s23_f63 F x0)
def Pure.s25_f63 (F : FOps) (x0 : Int) : Int := F.bin .mul .f64 (F.bin .sub .f64 (F.conv .f32 .f64 x0) (F.integral Ieee.Toward.zero (F.conv .f32 .f64 x0))) 4618760256179416344
def Pure.s26_f63 (F : FOps) (x0 : Int) : Int := F.bin .mul .f64 (Pure.s25_f63 F x0) (Prod.snd (Pure.impl_SineTurns_L1 F (F.cmp .geq .f64 (F.bin .sub .f64 (F.conv .f32 .f64 x0) (F.integral Ieee.Toward.zero (F.conv .f32 .f64 x0))) 4602678819172646912) (Pure.s25_f63 F x0) (F.bin .mul .f64 (Pure.s25_f63 F x0) (Pure.s25_f63 F x0)) 9 4607182418800017408 8))
def Pure.s27_f63 (F : FOps) (x0 : Int) : Int := F.neg .f64 (Pure.s26_f63 F x0)
def Pure.s28_f63 (F : FOps) (x0 : Int) : Int := F.bin .mul .f64 (F.bin .sub .f64 4602678819172646912 (F.bin .sub .f64 (F.bin .add .f64 (F.conv .f32 .f64 x0) 4607182418800017408) 4602678819172646912)) 4618760256179416344
def Pure.s29_f63 (F : FOps) (x0 : Int) : Int := F.bin .mul .f64 (Pure.s28_f63 F x0) (Prod.snd (Pure.impl_SineTurns_L1 F (F.cmp .geq .f64 (F.bin .add .f64 (F.conv .f32 .f64 x0) 4607182418800017408) 4602678819172646912) (Pure.s28_f63 F x0) (F.bin .mul .f64 (Pure.s28_f63 F x0) (Pure.s28_f63 F x0)) 9 4607182418800017408 8))
def Pure.s30_f63 (F : FOps) (x0 : Int) : Int := F.neg .f64 (Pure.s29_f63 F x0)
def Pure.s31_f63 (F : FOps) (x0 : Int) : Int := F.bin .mul .f64 (F.bin .mul .f64 (F.bin .sub .f64 (F.bin .add .f64 (F.conv .f32 .f64 x0) 4607182418800017408) 4602678819172646912) 4618760256179416344) (Prod.snd (Pure.impl_SineTurns_L1 F (F.cmp .geq .f64 (F.bin .add .f64 (F.conv .f32 .f64 x0) 4607182418800017408) 4602678819172646912) (F.bin .mul .f64 (F.bin .sub .f64 (F.bin .add .f64 (F.conv .f32 .f64 x0) 4607182418800017408) 4602678819172646912) 4618760256179416344) (F.bin .mul .f64 (F.bin .mul .f64 (F.bin .sub .f64 (F.bin .add .f64 (F.conv .f32 .f64 x0) 4607182418800017408) 4602678819172646912) 4618760256179416344) (F.bin .mul .f64 (F.bin .sub .f64 (F.bin .add .f64 (F.conv .f32 .f64 x0) 4607182418800017408) 4602678819172646912) 4618760256179416344)) 9 4607182418800017408 8))
def Pure.s32_f63 (F : FOps) (x0 : Int) : Int := F.neg .f64 (Pure.s31_f63 F x0)
def Pure.s33_f63 (F : FOps) (x0 : Int) : Int := F.bin .mul .f64 (F.bin .mul .f64 (F.bin .sub .f64 4602678819172646912 (F.bin .add .f64 (F.conv .f32 .f64 x0) 4607182418800017408)) 4618760256179416344) (Prod.snd (Pure.impl_SineTurns_L1 F (F.cmp .geq .f64 (F.bin .add .f64 (F.conv .f32 .f64 x0) 4607182418800017408) 4602678819172646912) (F.bin .mul .f64 (F.bin .sub .f64 4602678819172646912 (F.bin .add .f64 (F.conv .f32 .f64 x0) 4607182418800017408)) 4618760256179416344) (F.bin .mul .f64 (F.bin .mul .f64 (F.bin .sub .f64 4602678819172646912 (F.bin .add .f64 (F.conv .f32 .f64 x0) 4607182418800017408)) 4618760256179416344) (F.bin .mul .f64 (F.bin .sub .f64 4602678819172646912 (F.bin .add .f64 (F.conv .f32 .f64 x0) 4607182418800017408)) 4618760256179416344)) 9 4607182418800017408 8))
def Pure.s34_f63 (F : FOps) (x0 : Int) : Int := F.neg .f64 (Pure.s33_f63 F x0)
def Pure.s35_f63 (F : FOps) (x0 : Int) : Int := F.bin .mul .f64 (F.bin .mul .f64 (F.bin .add .f64 (F.conv .f32 .f64 x0) 4607182418800017408) 4618760256179416344) (Prod.snd (Pure.impl_SineTurns_L1 F (F.cmp .geq .f64 (F.bin .add .f64 (F.conv .f32 .f64 x0) 4607182418800017408) 4602678819172646912) (F.bin .mul .f64 (F.bin .add .f64 (F.conv .f32 .f64 x0) 4607182418800017408) 4618760256179416344) (F.bin .mul .f64 (F.bin .mul .f64 (F.bin .add .f64 (F.conv .f32 .f64 x0) 4607182418800017408) 4618760256179416344) (F.bin .mul .f64 (F.bin .add .f64 (F.conv .f32 .f64 x0) 4607182418800017408) 4618760256179416344)) 9 4607182418800017408 8))
def Pure.s36_f63 (F : FOps) (x0 : Int) : Int := F.neg .f64 (Pure.s35_f63 F x0)
def Pure.s37_f63 (F : FOps) (x0 : Int) : Int := F.bin .mul .f64 (F.bin .mul .f64 (F.bin .sub .f64 4602678819172646912 (F.bin .sub .f64 (F.conv .f32 .f64 x0) 4602678819172646912)) 4618760256179416344) (Prod.snd (Pure.impl_SineTurns_L1 F (F.cmp .geq .f64 (F.conv .f32 .f64 x0) 4602678819172646912) (F.bin .mul .f64 (F.bin .sub .f64 4602678819172646912 (F.bin .sub .f64 (F.conv .f32 .f64 x0) 4602678819172646912)) 4618760256179416344) (F.bin .mul .f64 (F.bin .mul .f64 (F.bin .sub .f64 4602678819172646912 (F.bin .sub .f64 (F.conv .f32 .f64 x0) 4602678819172646912)) 4618760256179416344) (F.bin .mul .f64 (F.bin .sub .f64 4602678819172646912 (F.bin .sub .f64 (F.conv .f32 .f64 x0) 4602678819172646912)) 4618760256179416344)) 9 4607182418800017408 8))
def Pure.s38_f63 (F : FOps) (x0 : Int) : Int := F.neg .f64 (Pure.s37_f63 F x0)
def Pure.s39_f63 (F : FOps) (x0 : Int) : Int := F.bin .mul .f64 (F.bin .mul .f64 (F.bin .sub .f64 (F.conv .f32 .f64 x0) 4602678819172646912) 4618760256179416344) (Prod.snd (Pure.impl_SineTurns_L1 F (F.cmp .geq .f64 (F.conv .f32 .f64 x0) 4602678819172646912) (F.bin .mul .f64 (F.bin .sub .f64 (F.conv .f32 .f64 x0) 4602678819172646912) 4618760256179416344) (F.bin .mul .f64 (F.bin .mul .f64 (F.bin .sub .f64 (F.conv .f32 .f64 x0) 4602678819172646912) 4618760256179416344) (F.bin .mul .f64 (F.bin .sub .f64 (F.conv .f32 .f64 x0) 4602678819172646912) 4618760256179416344)) 9 4607182418800017408 8))
def Pure.s40_f63 (F : FOps) (x0 : Int) : Int := F.neg .f64 (Pure.s39_f63 F x0)
def Pure.s41_f63 (F : FOps) (x0 : Int) : Int := F.bin .mul .f64 (F.bin .mul .f64 (F.bin .sub .f64 4602678819172646912 (F.conv .f32 .f64 x0)) 4618760256179416344) (Prod.snd (Pure.impl_SineTurns_L1 F (F.cmp .geq .f64 (F.conv .f32 .f64 x0) 4602678819172646912) (F.bin .mul .f64 (F.bin .sub .f64 4602678819172646912 (F.conv .f32 .f64 x0)) 4618760256179416344) (F.bin .mul .f64 (F.bin .mul .f64 (F.bin .sub .f64 4602678819172646912 (F.conv .f32 .f64 x0)) 4618760256179416344) (F.bin .mul .f64 (F.bin .sub .f64 4602678819172646912 (F.conv .f32 .f64 x0)) 4618760256179416344)) 9 4607182418800017408 8))
def Pure.s42_f63 (F : FOps) (x0 : Int) : Int := F.neg .f64 (Pure.s41_f63 F x0)
def Pure.s43_f63 (F : FOps) (x0 : Int) : Int := F.bin .mul .f64 (F.bin .mul .f64 (F.conv .f32 .f64 x0) 4618760256179416344) (Prod.snd (Pure.impl_SineTurns_L1 F (F.cmp .geq .f64 (F.conv .f32 .f64 x0) 4602678819172646912) (F.bin .mul .f64 (F.conv .f32 .f64 x0) 4618760256179416344) (F.bin .mul .f64 (F.bin .mul .f64 (F.conv .f32 .f64 x0) 4618760256179416344) (F.bin .mul .f64 (F.conv .f32 .f64 x0) 4618760256179416344)) 9 4607182418800017408 8))
def Pure.s44_f63 (F : FOps) (x0 : Int) : Int := F.neg .f64 (Pure.s43_f63 F x0)
def Pure.impl_SineTurns (F : FOps) (x0 : Int) : Int := bif Pure.impl_IsFinite F x0 then bif F.cmp .geq .f64 (F.abs .f64 (F.conv .f32 .f64 x0)) 4841369599423283200 then 0 else bif F.cmp .neq .f64 (F.integral Ieee.Toward.zero (F.conv .f32 .f64 x0)) 0 then bif F.cmp .lss .f64 (F.bin .sub .f64 (F.conv .f32 .f64 x0) (F.integral Ieee.Toward.zero (F.conv .f32 .f64 x0))) 0 then bif F.cmp .geq .f64 (Pure.s1_f63 F x0) 4602678819172646912 then bif F.cmp .gtr .f64 (Pure.s2_f63 F x0) 4598175219545276416 then F.conv .f64 .f32 (Pure.s5_f63 F x0) else F.conv .f64 .f32 (Pure.s8_f63 F x0) else bif F.cmp .gtr .f64 (Pure.s1_f63 F x0) 4598175219545276416 then F.conv .f64 .f32 (Pure.s10_f63 F x0) else F.conv .f64 .f32 (Pure.s13_f63 F x0) else bif F.cmp .geq .f64 (F.bin .sub .f64 (F.conv .f32 .f64 x0) (F.integral Ieee.Toward.zero (F.conv .f32 .f64 x0))) 4602678819172646912 then bif F.cmp .gtr .f64 (Pure.s15_f63 F x0) 4598175219545276416 then F.conv .f64 .f32 (Pure.s18_f63 F x0) else F.conv .f64 .f32 (Pure.s21_f63 F x0) else bif F.cmp .gtr .f64 (F.bin .sub .f64 (F.conv .f32 .f64 x0) (F.integral Ieee.Toward.zero (F.conv .f32 .f64 x0))) 4598175219545276416 then F.conv .f64 .f32 (Pure.s23_f63 F x0) else F.conv .f64 .f32 (Pure.s26_f63 F x0) else bif F.cmp .lss .f64 (F.conv .f32 .f64 x0) 0 then bif F.cmp .geq .f64 (F.bin .add .f64 (F.conv .f32 .f64 x0) 4607182418800017408) 4602678819172646912 then bif F.cmp .gtr .f64 (F.bin .sub .f64 (F.bin .add .f64 (F.conv .f32 .f64 x0) 4607182418800017408) 4602678819172646912) 4598175219545276416 then F.conv .f64 .f32 (Pure.s30_f63 F x0) else F.conv .f64 .f32 (Pure.s32_f63 F x0) else bif F.cmp .gtr .f64 (F.bin .add .f64 (F.conv .f32 .f64 x0) 4607182418800017408) 4598175219545276416 then F.conv .f64 .f32 (Pure.s33_f63 F x0) else F.conv .f64 .f32 (Pure.s35_f63 F x0) else bif F.cmp .geq .f64 (F.conv .f32 .f64 x0) 4602678819172646912 then bif F.cmp .gtr .f64 (F.bin .sub .f64 (F.conv .f32 .f64 x0) 4602678819172646912) 4598175219545276416 then F.conv .f64 .f32 (Pure.s38_f63 F x0) else F.conv .f64 .f32 (Pure.s40_f63 F x0) else bif F.cmp .gtr .f64 (F.conv .f32 .f64 x0) 4598175219545276416 then F.conv .f64 .f32 (Pure.s41_f63 F x0) else F.conv .f64 .f32 (Pure.s43_f63 F x0) else F.conv .f64 .f32 (F.ofBits .f64 9221120237041090561)
def Pure.impl_SineTurns_ok (F : FOps) (x0 : Int) : Bool := bif F.convOk .f32 .f64 x0 then bif Pure.impl_IsFinite F x0 then bif F.cmp .geq .f64 (F.abs .f64 (F.conv .f32 .f64 x0)) 4841369599423283200 then true else bif F.cmp .neq .f64 (F.integral Ieee.Toward.zero (F.conv .f32 .f64 x0)) 0 then bif F.cmp .lss .f64 (F.bin .sub .f64 (F.conv .f32 .f64 x0) (F.integral Ieee.Toward.zero (F.conv .f32 .f64 x0))) 0 then bif F.cmp .geq .f64 (Pure.s1_f63 F x0) 4602678819172646912 then bif F.cmp .gtr .f64 (Pure.s2_f63 F x0) 4598175219545276416 then bif Prod.fst (Pure.impl_SineTurns_L1 F true (Pure.s3_f63 F x0) (F.bin .mul .f64 (Pure.s3_f63 F x0) (Pure.s3_f63 F x0)) 9 4607182418800017408 8) then F.convOk .f64 .f32 (Pure.s5_f63 F x0) else false else bif Prod.fst (Pure.impl_SineTurns_L1 F true (Pure.s6_f63 F x0) (F.bin .mul .f64 (Pure.s6_f63 F x0) (Pure.s6_f63 F x0)) 9 4607182418800017408 8) then F.convOk .f64 .f32 (Pure.s8_f63 F x0) else false else bif F.cmp .gtr .f64 (Pure.s1_f63 F x0) 4598175219545276416 then bif Prod.fst (Pure.impl_SineTurns_L1 F false (Pure.s9_f63 F x0) (F.bin .mul .f64 (Pure.s9_f63 F x0) (Pure.s9_f63 F x0)) 9 4607182418800017408 8) then F.convOk .f64 .f32 (Pure.s10_f63 F x0) else false else bif Prod.fst (Pure.impl_SineTurns_L1 F false (Pure.s12_f63 F x0) (F.bin .mul .f64 (Pure.s12_f63 F x0) (Pure.s12_f63 F x0)) 9 4607182418800017408 8) then F.convOk .f64 .f32 (Pure.s13_f63 F x0) else false else bif F.cmp .geq .f64 (F.bin .sub .f64 (F.conv .f32 .f64 x0) (F.integral Ieee.Toward.zero (F.conv .f32 .f64 x0))) 4602678819172646912 then bif F.cmp .gtr .f64 (Pure.s15_f63 F x0) 4598175219545276416 then bif Prod.fst (Pure.impl_SineTurns_L1 F true (Pure.s16_f63 F x0) (F.bin .mul .f64 (Pure.s16_f63 F x0) (Pure.s16_f63 F x0)) 9 4607182418800017408 8) then F.convOk .f64 .f32 (Pure.s18_f63 F x0) else false else bif Prod.fst (Pure.impl_SineTurns_L1 F true (Pure.s19_f63 F x0) (F.bin .mul .f64 (Pure.s19_f63 F x0) (Pure.s19_f63 F x0)) 9 4607182418800017408 8) then F.convOk .f64 .f32 (Pure.s21_f63 F x0) else false else bif F.cmp .gtr .f64 (F.bin .sub .f64 (F.conv .f32 .f64 x0) (F.integral Ieee.Toward.zero (F.conv .f32 .f64 x0))) 4598175219545276416 then bif Prod.fst (Pure.impl_SineTurns_L1 F false (Pure.s22_f63 F x0) (F.bin .mul .f64 (Pure.s22_f63 F x0) (Pure.s22_f63 F x0)) 9 4607182418800017408 8) then F.convOk .f64 .f32 (Pure.s23_f63 F x0) else false else bif Prod.fst (Pure.impl_SineTurns_L1 F false (Pure.s25_f63 F x0) (F.bin .mul .f64 (Pure.s25_f63 F x0) (Pure.s25_f63 F x0)) 9 4607182418800017408 8) then F.convOk .f64 .f32 (Pure.s26_f63 F x0) else false else bif F.cmp .lss .f64 (F.conv .f32 .f64 x0) 0 then bif F.cmp .geq .f64 (F.bin .add .f64 (F.conv .f32 .f64 x0) 4607182418800017408) 4602678819172646912 then bif F.cmp .gtr .f64 (F.bin .sub .f64 (F.bin .add .f64 (F.conv .f32 .f64 x0) 4607182418800017408) 4602678819172646912) 4598175219545276416 then bif Prod.fst (Pure.impl_SineTurns_L1 F true (Pure.s28_f63 F x0) (F.bin .mul .f64 (Pure.s28_f63 F x0) (Pure.s28_f63 F x0)) 9 4607182418800017408 8) then F.convOk .f64 .f32 (Pure.s30_f63 F x0) else false else bif Prod.fst (Pure.impl_SineTurns_L1 F true (F.bin .mul .f64 (F.bin .sub .f64 (F.bin .add .f64 (F.conv .f32 .f64 x0) 4607182418800017408) 4602678819172646912) 4618760256179416344) (F.bin .mul .f64 (F.bin .mul .f64 (F.bin .sub .f64 (F.bin .add .f64 (F.conv .f32 .f64 x0) 4607182418800017408) 4602678819172646912) 4618760256179416344) (F.bin .mul .f64 (F.bin .sub .f64 (F.bin .add .f64 (F.conv .f32 .f64 x0) 4607182418800017408) 4602678819172646912) 4618760256179416344)) 9 4607182418800017408 8) then F.convOk .f64 .f32 (Pure.s32_f63 F x0) else false else bif F.cmp .gtr .f64 (F.bin .add .f64 (F.conv .f32 .f64 x0) 4607182418800017408) 4598175219545276416 then bif Prod.fst (Pure.impl_SineTurns_L1 F false (F.bin .mul .f64 (F.bin .sub .f64 4602678819172646912 (F.bin .add .f64 (F.conv .f32 .f64 x0) 4607182418800017408)) 4618760256179416344) (F.bin .mul .f64 (F.bin .mul .f64 (F.bin .sub .f64 4602678819172646912 (F.bin .add .f64 (F.conv .f32 .f64 x0) 4607182418800017408)) 4618760256179416344) (F.bin .mul .f64 (F.bin .sub .f64 4602678819172646912 (F.bin .add .f64 (F.conv .f32 .f64 x0) 4607182418800017408)) 4618760256179416344)) 9 4607182418800017408 8) then F.convOk .f64 .f32 (Pure.s33_f63 F x0) else false else bif Prod.fst (Pure.impl_SineTurns_L1 F false (F.bin .mul .f64 (F.bin .add .f64 (F.conv .f32 .f64 x0) 4607182418800017408) 4618760256179416344) (F.bin .mul .f64 (F.bin .mul .f64 (F.bin .add .f64 (F.conv .f32 .f64 x0) 4607182418800017408) 4618760256179416344) (F.bin .mul .f64 (F.bin .add .f64 (F.conv .f32 .f64 x0) 4607182418800017408) 4618760256179416344)) 9 4607182418800017408 8) then F.convOk .f64 .f32 (Pure.s35_f63 F x0) else false else bif F.cmp .geq .f64 (F.conv .f32 .f64 x0) 4602678819172646912 then bif F.cmp .gtr .f64 (F.bin .sub .f64 (F.conv .f32 .f64 x0) 4602678819172646912) 4598175219545276416 then bif Prod.fst (Pure.impl_SineTurns_L1 F true (F.bin .mul .f64 (F.bin .sub .f64 4602678819172646912 (F.bin .sub .f64 (F.conv .f32 .f64 x0) 4602678819172646912)) 4618760256179416344) (F.bin .mul .f64 (F.bin .mul .f64 (F.bin .sub .f64 4602678819172646912 (F.bin .sub .f64 (F.conv .f32 .f64 x0) 4602678819172646912)) 4618760256179416344) (F.bin .mul .f64 (F.bin .sub .f64 4602678819172646912 (F.bin .sub .f64 (F.conv .f32 .f64 x0) 4602678819172646912)) 4618760256179416344)) 9 4607182418800017408 8) then F.convOk .f64 .f32 (Pure.s38_f63 F x0) else false else bif Prod.fst (Pure.impl_SineTurns_L1 F true (F.bin .mul .f64 (F.bin .sub .f64 (F.conv .f32 .f64 x0) 4602678819172646912) 4618760256179416344) (F.bin .mul .f64 (F.bin .mul .f64 (F.bin .sub .f64 (F.conv .f32 .f64 x0) 4602678819172646912) 4618760256179416344) (F.bin .mul .f64 (F.bin .sub .f64 (F.conv .f32 .f64 x0) 4602678819172646912) 4618760256179416344)) 9 4607182418800017408 8) then F.convOk .f64 .f32 (Pure.s40_f63 F x0) else false else bif F.cmp .gtr .f64 (F.conv .f32 .f64 x0) 4598175219545276416 then bif Prod.fst (Pure.impl_SineTurns_L1 F false (F.bin .mul .f64 (F.bin .sub .f64 4602678819172646912 (F.conv .f32 .f64 x0)) 4618760256179416344) (F.bin .mul .f64 (F.bin .mul .f64 (F.bin .sub .f64 4602678819172646912 (F.conv .f32 .f64 x0)) 4618760256179416344) (F.bin .mul .f64 (F.bin .sub .f64 4602678819172646912 (F.conv .f32 .f64 x0)) 4618760256179416344)) 9 4607182418800017408 8) then F.convOk .f64 .f32 (Pure.s41_f63 F x0) else false else bif Prod.fst (Pure.impl_SineTurns_L1 F false (F.bin .mul .f64 (F.conv .f32 .f64 x0) 4618760256179416344) (F.bin .mul .f64 (F.bin .mul .f64 (F.conv .f32 .f64 x0) 4618760256179416344) (F.bin .mul .f64 (F.conv .f32 .f64 x0) 4618760256179416344)) 9 4607182418800017408 8) then F.convOk .f64 .f32 (Pure.s43_f63 F x0) else false else F.convOk .f64 .f32 (F.ofBits .f64 9221120237041090561) else false
def c_impl_SineTurns (F : FOps) : Con
  | [V.at (A.fl .f32 x0)], [] => some (Pure.impl_SineTurns_ok F x0, ⟨V.at (A.fl .f32 (Pure.impl_SineTurns F x0)), none, []⟩)
  | _, _ => none
theorem e_impl_SineTurns (F : FOps) (x0 : Int) : Pure.impl_SineTurns_ok F x0 = true → evFn (cxS F tyl [(95, c_impl_IsFinite F), (96, c_math_NaN F), (97, c_math_Abs F), (98, c_math_Trunc F)] [] [(1, S_impl_SineTurns_L1 F)] 0) Try.f63 false [V.at (A.fl .f32 x0)] [] = some ⟨V.at (A.fl .f32 (Pure.impl_SineTurns F x0)), none, []⟩ := by
  have h0 : evFn (cxS F tyl [(95, c_impl_IsFinite F), (96, c_math_NaN F), (97, c_math_Abs F), (98, c_math_Trunc F)] [] [(1, S_impl_SineTurns_L1 F)] 0) Try.f63 false [V.at (A.fl .f32 x0)] [] = bif F.convOk .f32 .f64 x0 then bif Bool.not (Pure.impl_IsFinite F x0) then bif F.convOk .f64 .f32 (F.ofBits .f64 9221120237041090561) then some ⟨V.at (A.fl .f32 (F.conv .f64 .f32 (F.ofBits .f64 9221120237041090561))), none, []⟩ else none else bif F.cmp .geq .f64 (F.abs .f64 (F.conv .f32 .f64 x0)) 4841369599423283200 then some ⟨V.at (A.fl .f32 0), none, []⟩ else bif F.cmp .neq .f64 (F.integral Ieee.Toward.zero (F.conv .f32 .f64 x0)) 0 then bif F.cmp .lss .f64 (F.bin .sub .f64 (F.conv .f32 .f64 x0) (F.integral Ieee.Toward.zero (F.conv .f32 .f64 x0))) 0 then bif F.cmp .geq .f64 (Pure.s1_f63 F x0) 4602678819172646912 then bif F.cmp .gtr .f64 (Pure.s2_f63 F x0) 4598175219545276416 then bif Prod.fst (Pure.impl_SineTurns_L1 F (F.cmp .geq .f64 (Pure.s1_f63 F x0) 4602678819172646912) (Pure.s3_f63 F x0) (F.bin .mul .f64 (Pure.s3_f63 F x0) (Pure.s3_f63 F x0)) 9 4607182418800017408 8) then bif F.cmp .geq .f64 (Pure.s1_f63 F x0) 4602678819172646912 then bif F.convOk .f64 .f32 (Pure.s5_f63 F x0) then some ⟨V.at (A.fl .f32 (F.conv .f64 .f32 (Pure.s5_f63 F x0))), none, []⟩ else none else bif F.convOk .f64 .f32 (Pure.s4_f63 F x0) then some ⟨V.at (A.fl .f32 (F.conv .f64 .f32 (Pure.s4_f63 F x0))), none, []⟩ else none else none else bif Prod.fst (Pure.impl_SineTurns_L1 F (F.cmp .geq .f64 (Pure.s1_f63 F x0) 4602678819172646912) (Pure.s6_f63 F x0) (F.bin .mul .f64 (Pure.s6_f63 F x0) (Pure.s6_f63 F x0)) 9 4607182418800017408 8) then bif F.cmp .geq .f64 (Pure.s1_f63 F x0) 4602678819172646912 then bif F.convOk .f64 .f32 (Pure.s8_f63 F x0) then some ⟨V.at (A.fl .f32 (F.conv .f64 .f32 (Pure.s8_f63 F x0))), none, []⟩ else none else bif F.convOk .f64 .f32 (Pure.s7_f63 F x0) then some ⟨V.at (A.fl .f32 (F.conv .f64 .f32 (Pure.s7_f63 F x0))), none, []⟩ else none else none else bif F.cmp .gtr .f64 (Pure.s1_f63 F x0) 4598175219545276416 then bif Prod.fst (Pure.impl_SineTurns_L1 F (F.cmp .geq .f64 (Pure.s1_f63 F x0) 4602678819172646912) (Pure.s9_f63 F x0) (F.bin .mul .f64 (Pure.s9_f63 F x0) (Pure.s9_f63 F x0)) 9 4607182418800017408 8) then bif F.cmp .geq .f64 (Pure.s1_f63 F x0) 4602678819172646912 then bif F.convOk .f64 .f32 (Pure.s11_f63 F x0) then some ⟨V.at (A.fl .f32 (F.conv .f64 .f32 (Pure.s11_f63 F x0))), none, []⟩ else none else bif F.convOk .f64 .f32 (Pure.s10_f63 F x0) then some ⟨V.at (A.fl .f32 (F.conv .f64 .f32 (Pure.s10_f63 F x0))), none, []⟩ else none else none else bif Prod.fst (Pure.impl_SineTurns_L1 F (F.cmp .geq .f64 (Pure.s1_f63 F x0) 4602678819172646912) (Pure.s12_f63 F x0) (F.bin .mul .f64 (Pure.s12_f63 F x0) (Pure.s12_f63 F x0)) 9 4607182418800017408 8) then bif F.cmp .geq .f64 (Pure.s1_f63 F x0) 4602678819172646912 then bif F.convOk .f64 .f32 (Pure.s14_f63 F x0) then some ⟨V.at (A.fl .f32 (F.conv .f64 .f32 (Pure.s14_f63 F x0))), none, []⟩ else none else bif F.convOk .f64 .f32 (Pure.s13_f63 F x0) then some ⟨V.at (A.fl .f32 (F.conv .f64 .f32 (Pure.s13_f63 F x0))), none, []⟩ else none else none else bif F.cmp .geq .f64 (F.bin .sub .f64 (F.conv .f32 .f64 x0) (F.integral Ieee.Toward.zero (F.conv .f32 .f64 x0))) 4602678819172646912 then bif F.cmp .gtr .f64 (Pure.s15_f63 F x0) 4598175219545276416 then bif Prod.fst (Pure.impl_SineTurns_L1 F (F.cmp .geq .f64 (F.bin .sub .f64 (F.conv .f32 .f64 x0) (F.integral Ieee.Toward.zero (F.conv .f32 .f64 x0))) 4602678819172646912) (Pure.s16_f63 F x0) (F.bin .mul .f64 (Pure.s16_f63 F x0) (Pure.s16_f63 F x0)) 9 4607182418800017408 8) then bif F.cmp .geq .f64 (F.bin .sub .f64 (F.conv .f32 .f64 x0) (F.integral Ieee.Toward.zero (F.conv .f32 .f64 x0))) 4602678819172646912 then bif F.convOk .f64 .f32 (Pure.s18_f63 F x0) then some ⟨V.at (A.fl .f32 (F.conv .f64 .f32 (Pure.s18_f63 F x0))), none, []⟩ else none else bif F.convOk .f64 .f32 (Pure.s17_f63 F x0) then some ⟨V.at (A.fl .f32 (F.conv .f64 .f32 (Pure.s17_f63 F x0))), none, []⟩ else none else none else bif Prod.fst (Pure.impl_SineTurns_L1 F (F.cmp .geq .f64 (F.bin .sub .f64 (F.conv .f32 .f64 x0) (F.integral Ieee.Toward.zero (F.conv .f32 .f64 x0))) 4602678819172646912) (Pure.s19_f63 F x0) (F.bin .mul .f64 (Pure.s19_f63 F x0) (Pure.s19_f63 F x0)) 9 4607182418800017408 8) then bif F.cmp .geq .f64 (F.bin .sub .f64 (F.conv .f32 .f64 x0) (F.integral Ieee.Toward.zero (F.conv .f32 .f64 x0))) 4602678819172646912 then bif F.convOk .f64 .f32 (Pure.s21_f63 F x0) then some ⟨V.at (A.fl .f32 (F.conv .f64 .f32 (Pure.s21_f63 F x0))), none, []⟩ else none else bif F.convOk .f64 .f32 (Pure.s20_f63 F x0) then some ⟨V.at (A.fl .f32 (F.conv .f64 .f32 (Pure.s20_f63 F x0))), none, []⟩ else none else none else bif F.cmp .gtr .f64 (F.bin .sub .f64 (F.conv .f32 .f64 x0) (F.integral Ieee.Toward.zero (F.conv .f32 .f64 x0))) 4598175219545276416 then bif Prod.fst (Pure.impl_SineTurns_L1 F (F.cmp .geq .f64 (F.bin .sub .f64 (F.conv .f32 .f64 x0) (F.integral Ieee.Toward.zero (F.conv .f32 .f64 x0))) 4602678819172646912) (Pure.s22_f63 F x0) (F.bin .mul .f64 (Pure.s22_f63 F x0) (Pure.s22_f63 F x0)) 9 4607182418800017408 8) then bif F.cmp .geq .f64 (F.bin .sub .f64 (F.conv .f32 .f64 x0) (F.integral Ieee.Toward.zero (F.conv .f32 .f64 x0))) 4602678819172646912 then bif F.convOk .f64 .f32 (Pure.s24_f63 F x0) then some ⟨V.at (A.fl .f32 (F.conv .f64 .f32 (Pure.s24_f63 F x0))), none, []⟩ else none else bif F.convOk .f64 .f32 (Pure.s23_f63 F x0) then some ⟨V.at (A.fl .f32 (F.conv .f64 .f32 (Pure.s23_f63 F x0))), none, []⟩ else none else none else bif Prod.fst (Pure.impl_SineTurns_L1 F (F.cmp .geq .f64 (F.bin .sub .f64 (F.conv .f32 .f64 x0) (F.integral Ieee.Toward.zero (F.conv .f32 .f64 x0))) 4602678819172646912) (Pure.s25_f63 F x0) (F.bin .mul .f64 (Pure.s25_f63 F x0) (Pure.s25_f63 F x0)) 9 4607182418800017408 8) then bif F.cmp .geq .f64 (F.bin .sub .f64 (F.conv .f32 .f64 x0) (F.integral Ieee.Toward.zero (F.conv .f32 .f64 x0))) 4602678819172646912 then bif F.convOk .f64 .f32 (Pure.s27_f63 F x0) then some ⟨V.at (A.fl .f32 (F.conv .f64 .f32 (Pure.s27_f63 F x0))), none, []⟩ else none else bif F.convOk .f64 .f32 (Pure.s26_f63 F x0) then some ⟨V.at (A.fl .f32 (F.conv .f64 .f32 (Pure.s26_f63 F x0))), none, []⟩ else none else none else bif F.cmp .lss .f64 (F.conv .f32 .f64 x0) 0 then bif F.cmp .geq .f64 (F.bin .add .f64 (F.conv .f32 .f64 x0) 4607182418800017408) 4602678819172646912 then bif F.cmp .gtr .f64 (F.bin .sub .f64 (F.bin .add .f64 (F.conv .f32 .f64 x0) 4607182418800017408) 4602678819172646912) 4598175219545276416 then bif Prod.fst (Pure.impl_SineTurns_L1 F (F.cmp .geq .f64 (F.bin .add .f64 (F.conv .f32 .f64 x0) 4607182418800017408) 4602678819172646912) (Pure.s28_f63 F x0) (F.bin .mul .f64 (Pure.s28_f63 F x0) (Pure.s28_f63 F x0)) 9 4607182418800017408 8) then bif F.cmp .geq .f64 (F.bin .add .f64 (F.conv .f32 .f64 x0) 4607182418800017408) 4602678819172646912 then bif F.convOk .f64 .f32 (Pure.s30_f63 F x0) then some ⟨V.at (A.fl .f32 (F.conv .f64 .f32 (Pure.s30_f63 F x0))), none, []⟩ else none else bif F.convOk .f64 .f32 (Pure.s29_f63 F x0) then some ⟨V.at (A.fl .f32 (F.conv .f64 .f32 (Pure.s29_f63 F x0))), none, []⟩ else none else none else bif Prod.fst (Pure.impl_SineTurns_L1 F (F.cmp .geq .f64 (F.bin .add .f64 (F.conv .f32 .f64 x0) 4607182418800017408) 4602678819172646912) (F.bin .mul .f64 (F.bin .sub .f64 (F.bin .add .f64 (F.conv .f32 .f64 x0) 4607182418800017408) 4602678819172646912) 4618760256179416344) (F.bin .mul .f64 (F.bin .mul .f64 (F.bin .sub .f64 (F.bin .add .f64 (F.conv .f32 .f64 x0) 4607182418800017408) 4602678819172646912) 4618760256179416344) (F.bin .mul .f64 (F.bin .sub .f64 (F.bin .add .f64 (F.conv .f32 .f64 x0) 4607182418800017408) 4602678819172646912) 4618760256179416344)) 9 4607182418800017408 8) then bif F.cmp .geq .f64 (F.bin .add .f64 (F.conv .f32 .f64 x0) 4607182418800017408) 4602678819172646912 then bif F.convOk .f64 .f32 (Pure.s32_f63 F x0) then some ⟨V.at (A.fl .f32 (F.conv .f64 .f32 (Pure.s32_f63 F x0))), none, []⟩ else none else bif F.convOk .f64 .f32 (Pure.s31_f63 F x0) then some ⟨V.at (A.fl .f32 (F.conv .f64 .f32 (Pure.s31_f63 F x0))), none, []⟩ else none else none else bif F.cmp .gtr .f64 (F.bin .add .f64 (F.conv .f32 .f64 x0) 4607182418800017408) 4598175219545276416 then bif Prod.fst (Pure.impl_SineTurns_L1 F (F.cmp .geq .f64 (F.bin .add .f64 (F.conv .f32 .f64 x0) 4607182418800017408) 4602678819172646912) (F.bin .mul .f64 (F.bin .sub .f64 4602678819172646912 (F.bin .add .f64 (F.conv .f32 .f64 x0) 4607182418800017408)) 4618760256179416344) (F.bin .mul .f64 (F.bin .mul .f64 (F.bin .sub .f64 4602678819172646912 (F.bin .add .f64 (F.conv .f32 .f64 x0) 4607182418800017408)) 4618760256179416344) (F.bin .mul .f64 (F.bin .sub .f64 4602678819172646912 (F.bin .add .f64 (F.conv .f32 .f64 x0) 4607182418800017408)) 4618760256179416344)) 9 4607182418800017408 8) then bif F.cmp .geq .f64 (F.bin .add .f64 (F.conv .f32 .f64 x0) 4607182418800017408) 4602678819172646912 then bif F.convOk .f64 .f32 (Pure.s34_f63 F x0) then some ⟨V.at (A.fl .f32 (F.conv .f64 .f32 (Pure.s34_f63 F x0))), none, []⟩ else none else bif F.convOk .f64 .f32 (Pure.s33_f63 F x0) then some ⟨V.at (A.fl .f32 (F.conv .f64 .f32 (Pure.s33_f63 F x0))), none, []⟩ else none else none else bif Prod.fst (Pure.impl_SineTurns_L1 F (F.cmp .geq .f64 (F.bin .add .f64 (F.conv .f32 .f64 x0) 4607182418800017408) 4602678819172646912) (F.bin .mul .f64 (F.bin .add .f64 (F.conv .f32 .f64 x0) 4607182418800017408) 4618760256179416344) (F.bin .mul .f64 (F.bin .mul .f64 (F.bin .add .f64 (F.conv .f32 .f64 x0) 4607182418800017408) 4618760256179416344) (F.bin .mul .f64 (F.bin .add .f64 (F.conv .f32 .f64 x0) 4607182418800017408) 4618760256179416344)) 9 4607182418800017408 8) then bif F.cmp .geq .f64 (F.bin .add .f64 (F.conv .f32 .f64 x0) 4607182418800017408) 4602678819172646912 then bif F.convOk .f64 .f32 (Pure.s36_f63 F x0) then some ⟨V.at (A.fl .f32 (F.conv .f64 .f32 (Pure.s36_f63 F x0))), none, []⟩ else none else bif F.convOk .f64 .f32 (Pure.s35_f63 F x0) then some ⟨V.at (A.fl .f32 (F.conv .f64 .f32 (Pure.s35_f63 F x0))), none, []⟩ else none else none else bif F.cmp .geq .f64 (F.conv .f32 .f64 x0) 4602678819172646912 then bif F.cmp .gtr .f64 (F.bin .sub .f64 (F.conv .f32 .f64 x0) 4602678819172646912) 4598175219545276416 then bif Prod.fst (Pure.impl_SineTurns_L1 F (F.cmp .geq .f64 (F.conv .f32 .f64 x0) 4602678819172646912) (F.bin .mul .f64 (F.bin .sub .f64 4602678819172646912 (F.bin .sub .f64 (F.conv .f32 .f64 x0) 4602678819172646912)) 4618760256179416344) (F.bin .mul .f64 (F.bin .mul .f64 (F.bin .sub .f64 4602678819172646912 (F.bin .sub .f64 (F.conv .f32 .f64 x0) 4602678819172646912)) 4618760256179416344) (F.bin .mul .f64 (F.bin .sub .f64 4602678819172646912 (F.bin .sub .f64 (F.conv .f32 .f64 x0) 4602678819172646912)) 4618760256179416344)) 9 4607182418800017408 8) then bif F.cmp .geq .f64 (F.conv .f32 .f64 x0) 4602678819172646912 then bif F.convOk .f64 .f32 (Pure.s38_f63 F x0) then some ⟨V.at (A.fl .f32 (F.conv .f64 .f32 (Pure.s38_f63 F x0))), none, []⟩ else none else bif F.convOk .f64 .f32 (Pure.s37_f63 F x0) then some ⟨V.at (A.fl .f32 (F.conv .f64 .f32 (Pure.s37_f63 F x0))), none, []⟩ else none else none else bif Prod.fst (Pure.impl_SineTurns_L1 F (F.cmp .geq .f64 (F.conv .f32 .f64 x0) 4602678819172646912) (F.bin .mul .f64 (F.bin .sub .f64 (F.conv .f32 .f64 x0) 4602678819172646912) 4618760256179416344) (F.bin .mul .f64 (F.bin .mul .f64 (F.bin .sub .f64 (F.conv .f32 .f64 x0) 4602678819172646912) 4618760256179416344) (F.bin .mul .f64 (F.bin .sub .f64 (F.conv .f32 .f64 x0) 4602678819172646912) 4618760256179416344)) 9 4607182418800017408 8) then bif F.cmp .geq .f64 (F.conv .f32 .f64 x0) 4602678819172646912 then bif F.convOk .f64 .f32 (Pure.s40_f63 F x0) then some ⟨V.at (A.fl .f32 (F.conv .f64 .f32 (Pure.s40_f63 F x0))), none, []⟩ else none else bif F.convOk .f64 .f32 (Pure.s39_f63 F x0) then some ⟨V.at (A.fl .f32 (F.conv .f64 .f32 (Pure.s39_f63 F x0))), none, []⟩ else none else none else bif F.cmp .gtr .f64 (F.conv .f32 .f64 x0) 4598175219545276416 then bif Prod.fst (Pure.impl_SineTurns_L1 F (F.cmp .geq .f64 (F.conv .f32 .f64 x0) 4602678819172646912) (F.bin .mul .f64 (F.bin .sub .f64 4602678819172646912 (F.conv .f32 .f64 x0)) 4618760256179416344) (F.bin .mul .f64 (F.bin .mul .f64 (F.bin .sub .f64 4602678819172646912 (F.conv .f32 .f64 x0)) 4618760256179416344) (F.bin .mul .f64 (F.bin .sub .f64 4602678819172646912 (F.conv .f32 .f64 x0)) 4618760256179416344)) 9 4607182418800017408 8) then bif F.cmp .geq .f64 (F.conv .f32 .f64 x0) 4602678819172646912 then bif F.convOk .f64 .f32 (Pure.s42_f63 F x0) then some ⟨V.at (A.fl .f32 (F.conv .f64 .f32 (Pure.s42_f63 F x0))), none, []⟩ else none else bif F.convOk .f64 .f32 (Pure.s41_f63 F x0) then some ⟨V.at (A.fl .f32 (F.conv .f64 .f32 (Pure.s41_f63 F x0))), none, []⟩ else none else none else bif Prod.fst (Pure.impl_SineTurns_L1 F (F.cmp .geq .f64 (F.conv .f32 .f64 x0) 4602678819172646912) (F.bin .mul .f64 (F.conv .f32 .f64 x0) 4618760256179416344) (F.bin .mul .f64 (F.bin .mul .f64 (F.conv .f32 .f64 x0) 4618760256179416344) (F.bin .mul .f64 (F.conv .f32 .f64 x0) 4618760256179416344)) 9 4607182418800017408 8) then bif F.cmp .geq .f64 (F.conv .f32 .f64 x0) 4602678819172646912 then bif F.convOk .f64 .f32 (Pure.s44_f63 F x0) then some ⟨V.at (A.fl .f32 (F.conv .f64 .f32 (Pure.s44_f63 F x0))), none, []⟩ else none else bif F.convOk .f64 .f32 (Pure.s43_f63 F x0) then some ⟨V.at (A.fl .f32 (F.conv .f64 .f32 (Pure.s43_f63 F x0))), none, []⟩ else none else none else none := by kernel_rfl
  rw [h0]
  unfold Pure.impl_SineTurns Pure.impl_SineTurns_ok
  cases (F.convOk .f32 .f64 x0) with
  | true =>
    cases (Pure.impl_IsFinite F x0) with
    | true =>
      cases (F.cmp .geq .f64 (F.abs .f64 (F.conv .f32 .f64 x0)) 4841369599423283200) with
      | true =>
        intro _; rfl
      | false =>
        cases (F.cmp .neq .f64 (F.integral Ieee.Toward.zero (F.conv .f32 .f64 x0)) 0) with
        | true =>
          cases (F.cmp .lss .f64 (F.bin .sub .f64 (F.conv .f32 .f64 x0) (F.integral Ieee.Toward.zero (F.conv .f32 .f64 x0))) 0) with
          | true =>
            cases (F.cmp .geq .f64 (Pure.s1_f63 F x0) 4602678819172646912) with
            | true =>
              cases (F.cmp .gtr .f64 (Pure.s2_f63 F x0) 4598175219545276416) with
              | true =>
                cases (Prod.fst (Pure.impl_SineTurns_L1 F true (Pure.s3_f63 F x0) (F.bin .mul .f64 (Pure.s3_f63 F x0) (Pure.s3_f63 F x0)) 9 4607182418800017408 8)) with
                | true =>
                  cases (F.convOk .f64 .f32 (Pure.s5_f63 F x0)) with
                  | true =>
                    intro _; rfl
                  | false =>
                    intro h; exact absurd h Bool.false_ne_true
                | false =>
                  intro h; exact absurd h Bool.false_ne_true
              | false =>
                cases (Prod.fst (Pure.impl_SineTurns_L1 F true (Pure.s6_f63 F x0) (F.bin .mul .f64 (Pure.s6_f63 F x0) (Pure.s6_f63 F x0)) 9 4607182418800017408 8)) with
                | true =>
                  cases (F.convOk .f64 .f32 (Pure.s8_f63 F x0)) with
                  | true =>
                    intro _; rfl
                  | false =>
                    intro h; exact absurd h Bool.false_ne_true
                | false =>
                  intro h; exact absurd h Bool.false_ne_true
            | false =>
              cases (F.cmp .gtr .f64 (Pure.s1_f63 F x0) 4598175219545276416) with
              | true =>
                cases (Prod.fst (Pure.impl_SineTurns_L1 F false (Pure.s9_f63 F x0) (F.bin .mul .f64 (Pure.s9_f63 F x0) (Pure.s9_f63 F x0)) 9 4607182418800017408 8)) with
                | true =>
                  cases (F.convOk .f64 .f32 (Pure.s10_f63 F x0)) with
                  | true =>
                    intro _; rfl
                  | false =>
                    intro h; exact absurd h Bool.false_ne_true
                | false =>
                  intro h; exact absurd h Bool.false_ne_true
              | false =>
                cases (Prod.fst (Pure.impl_SineTurns_L1 F false (Pure.s12_f63 F x0) (F.bin .mul .f64 (Pure.s12_f63 F x0) (Pure.s12_f63 F x0)) 9 4607182418800017408 8)) with
                | true =>
                  cases (F.convOk .f64 .f32 (Pure.s13_f63 F x0)) with
                  | true =>
                    intro _; rfl
                  | false =>
                    intro h; exact absurd h Bool.false_ne_true
                | false =>
                  intro h; exact absurd h Bool.false_ne_true
          | false =>
            cases (F.cmp .geq .f64 (F.bin .sub .f64 (F.conv .f32 .f64 x0) (F.integral Ieee.Toward.zero (F.conv .f32 .f64 x0))) 4602678819172646912) with
            | true =>
              cases (F.cmp .gtr .f64 (Pure.s15_f63 F x0) 4598175219545276416) with
              | true =>
                cases (Prod.fst (Pure.impl_SineTurns_L1 F true (Pure.s16_f63 F x0) (F.bin .mul .f64 (Pure.s16_f63 F x0) (Pure.s16_f63 F x0)) 9 4607182418800017408 8)) with
                | true =>
                  cases (F.convOk .f64 .f32 (Pure.s18_f63 F x0)) with
                  | true =>
                    intro _; rfl
                  | false =>
                    intro h; exact absurd h Bool.false_ne_true
                | false =>
                  intro h; exact absurd h Bool.false_ne_true
              | false =>
                cases (Prod.fst (Pure.impl_SineTurns_L1 F true (Pure.s19_f63 F x0) (F.bin .mul .f64 (Pure.s19_f63 F x0) (Pure.s19_f63 F x0)) 9 4607182418800017408 8)) with
                | true =>
                  cases (F.convOk .f64 .f32 (Pure.s21_f63 F x0)) with
                  | true =>
                    intro _; rfl
                  | false =>
                    intro h; exact absurd h Bool.false_ne_true
                | false =>
                  intro h; exact absurd h Bool.false_ne_true
            | false =>
              cases (F.cmp .gtr .f64 (F.bin .sub .f64 (F.conv .f32 .f64 x0) (F.integral Ieee.Toward.zero (F.conv .f32 .f64 x0))) 4598175219545276416) with
              | true =>
                cases (Prod.fst (Pure.impl_SineTurns_L1 F false (Pure.s22_f63 F x0) (F.bin .mul .f64 (Pure.s22_f63 F x0) (Pure.s22_f63 F x0)) 9 4607182418800017408 8)) with
                | true =>
                  cases (F.convOk .f64 .f32 (Pure.s23_f63 F x0)) with
                  | true =>
                    intro _; rfl
                  | false =>
                    intro h; exact absurd h Bool.false_ne_true
                | false =>
                  intro h; exact absurd h Bool.false_ne_true
              | false =>
                cases (Prod.fst (Pure.impl_SineTurns_L1 F false (Pure.s25_f63 F x0) (F.bin .mul .f64 (Pure.s25_f63 F x0) (Pure.s25_f63 F x0)) 9 4607182418800017408 8)) with
                | true =>
                  cases (F.convOk .f64 .f32 (Pure.s26_f63 F x0)) with
                  | true =>
                    intro _; rfl
                  | false =>
                    intro h; exact absurd h Bool.false_ne_true
                | false =>
                  intro h; exact absurd h Bool.false_ne_true
        | false =>
          cases (F.cmp .lss .f64 (F.conv .f32 .f64 x0) 0) with
          | true =>
            cases (F.cmp .geq .f64 (F.bin .add .f64 (F.conv .f32 .f64 x0) 4607182418800017408) 4602678819172646912) with
            | true =>
              cases (F.cmp .gtr .f64 (F.bin .sub .f64 (F.bin .add .f64 (F.conv .f32 .f64 x0) 4607182418800017408) 4602678819172646912) 4598175219545276416) with
              | true =>
                cases (Prod.fst (Pure.impl_SineTurns_L1 F true (Pure.s28_f63 F x0) (F.bin .mul .f64 (Pure.s28_f63 F x0) (Pure.s28_f63 F x0)) 9 4607182418800017408 8)) with
                | true =>
                  cases (F.convOk .f64 .f32 (Pure.s30_f63 F x0)) with
                  | true =>
                    intro _; rfl
                  | false =>
                    intro h; exact absurd h Bool.false_ne_true
                | false =>
                  intro h; exact absurd h Bool.false_ne_true
              | false =>
                cases (Prod.fst (Pure.impl_SineTurns_L1 F true (F.bin .mul .f64 (F.bin .sub .f64 (F.bin .add .f64 (F.conv .f32 .f64 x0) 4607182418800017408) 4602678819172646912) 4618760256179416344) (F.bin .mul .f64 (F.bin .mul .f64 (F.bin .sub .f64 (F.bin .add .f64 (F.conv .f32 .f64 x0) 4607182418800017408) 4602678819172646912) 4618760256179416344) (F.bin .mul .f64 (F.bin .sub .f64 (F.bin .add .f64 (F.conv .f32 .f64 x0) 4607182418800017408) 4602678819172646912) 4618760256179416344)) 9 4607182418800017408 8)) with
                | true =>
                  cases (F.convOk .f64 .f32 (Pure.s32_f63 F x0)) with
                  | true =>
                    intro _; rfl
                  | false =>
                    intro h; exact absurd h Bool.false_ne_true
                | false =>
                  intro h; exact absurd h Bool.false_ne_true
            | false =>
              cases (F.cmp .gtr .f64 (F.bin .add .f64 (F.conv .f32 .f64 x0) 4607182418800017408) 4598175219545276416) with
              | true =>
                cases (Prod.fst (Pure.impl_SineTurns_L1 F false (F.bin .mul .f64 (F.bin .sub .f64 4602678819172646912 (F.bin .add .f64 (F.conv .f32 .f64 x0) 4607182418800017408)) 4618760256179416344) (F.bin .mul .f64 (F.bin .mul .f64 (F.bin .sub .f64 4602678819172646912 (F.bin .add .f64 (F.conv .f32 .f64 x0) 4607182418800017408)) 4618760256179416344) (F.bin .mul .f64 (F.bin .sub .f64 4602678819172646912 (F.bin .add .f64 (F.conv .f32 .f64 x0) 4607182418800017408)) 4618760256179416344)) 9 4607182418800017408 8)) with
                | true =>
                  cases (F.convOk .f64 .f32 (Pure.s33_f63 F x0)) with
                  | true =>
                    intro _; rfl
                  | false =>
                    intro h; exact absurd h Bool.false_ne_true
                | false =>
                  intro h; exact absurd h Bool.false_ne_true
              | false =>
                cases (Prod.fst (Pure.impl_SineTurns_L1 F false (F.bin .mul .f64 (F.bin .add .f64 (F.conv .f32 .f64 x0) 4607182418800017408) 4618760256179416344) (F.bin .mul .f64 (F.bin .mul .f64 (F.bin .add .f64 (F.conv .f32 .f64 x0) 4607182418800017408) 4618760256179416344) (F.bin .mul .f64 (F.bin .add .f64 (F.conv .f32 .f64 x0) 4607182418800017408) 4618760256179416344)) 9 4607182418800017408 8)) with
                | true =>
                  cases (F.convOk .f64 .f32 (Pure.s35_f63 F x0)) with
                  | true =>
                    intro _; rfl
                  | false =>
                    intro h; exact absurd h Bool.false_ne_true
                | false =>
                  intro h; exact absurd h Bool.false_ne_true
          | false =>
            cases (F.cmp .geq .f64 (F.conv .f32 .f64 x0) 4602678819172646912) with
            | true =>
              cases (F.cmp .gtr .f64 (F.bin .sub .f64 (F.conv .f32 .f64 x0) 4602678819172646912) 4598175219545276416) with
              | true =>
                cases (Prod.fst (Pure.impl_SineTurns_L1 F true (F.bin .mul .f64 (F.bin .sub .f64 4602678819172646912 (F.bin .sub .f64 (F.conv .f32 .f64 x0) 4602678819172646912)) 4618760256179416344) (F.bin .mul .f64 (F.bin .mul .f64 (F.bin .sub .f64 4602678819172646912 (F.bin .sub .f64 (F.conv .f32 .f64 x0) 4602678819172646912)) 4618760256179416344) (F.bin .mul .f64 (F.bin .sub .f64 4602678819172646912 (F.bin .sub .f64 (F.conv .f32 .f64 x0) 4602678819172646912)) 4618760256179416344)) 9 4607182418800017408 8)) with
                | true =>
                  cases (F.convOk .f64 .f32 (Pure.s38_f63 F x0)) with
                  | true =>
                    intro _; rfl
                  | false =>
                    intro h; exact absurd h Bool.false_ne_true
                | false =>
                  intro h; exact absurd h Bool.false_ne_true
              | false =>
                cases (Prod.fst (Pure.impl_SineTurns_L1 F true (F.bin .mul .f64 (F.bin .sub .f64 (F.conv .f32 .f64 x0) 4602678819172646912) 4618760256179416344) (F.bin .mul .f64 (F.bin .mul .f64 (F.bin .sub .f64 (F.conv .f32 .f64 x0) 4602678819172646912) 4618760256179416344) (F.bin .mul .f64 (F.bin .sub .f64 (F.conv .f32 .f64 x0) 4602678819172646912) 4618760256179416344)) 9 4607182418800017408 8)) with
                | true =>
                  cases (F.convOk .f64 .f32 (Pure.s40_f63 F x0)) with
                  | true =>
                    intro _; rfl
                  | false =>
                    intro h; exact absurd h Bool.false_ne_true
                | false =>
                  intro h; exact absurd h Bool.false_ne_true
            | false =>
              cases (F.cmp .gtr .f64 (F.conv .f32 .f64 x0) 4598175219545276416) with
              | true =>
                cases (Prod.fst (Pure.impl_SineTurns_L1 F false (F.bin .mul .f64 (F.bin .sub .f64 4602678819172646912 (F.conv .f32 .f64 x0)) 4618760256179416344) (F.bin .mul .f64 (F.bin .mul .f64 (F.bin .sub .f64 4602678819172646912 (F.conv .f32 .f64 x0)) 4618760256179416344) (F.bin .mul .f64 (F.bin .sub .f64 4602678819172646912 (F.conv .f32 .f64 x0)) 4618760256179416344)) 9 4607182418800017408 8)) with
                | true =>
                  cases (F.convOk .f64 .f32 (Pure.s41_f63 F x0)) with
                  | true =>
                    intro _; rfl
                  | false =>
                    intro h; exact absurd h Bool.false_ne_true
                | false =>
                  intro h; exact absurd h Bool.false_ne_true
              | false =>
                cases (Prod.fst (Pure.impl_SineTurns_L1 F false (F.bin .mul .f64 (F.conv .f32 .f64 x0) 4618760256179416344) (F.bin .mul .f64 (F.bin .mul .f64 (F.conv .f32 .f64 x0) 4618760256179416344) (F.bin .mul .f64 (F.conv .f32 .f64 x0) 4618760256179416344)) 9 4607182418800017408 8)) with
                | true =>
                  cases (F.convOk .f64 .f32 (Pure.s43_f63 F x0)) with
                  | true =>
                    intro _; rfl
                  | false =>
                    intro h; exact absurd h Bool.false_ne_true
                | false =>
                  intro h; exact absurd h Bool.false_ne_true
    | false =>
      cases (F.convOk .f64 .f32 (F.ofBits .f64 9221120237041090561)) with
      | true =>
        intro _; rfl
      | false =>
        intro h; exact absurd h Bool.false_ne_true
  | false =>
    intro h; exact absurd h Bool.false_ne_true
theorem ok_impl_SineTurns : CallOK Try.prog 63 (c_impl_SineTurns real) := by
  refine callOK_of fun args h ret hc => ?_
  unfold c_impl_SineTurns at hc
  split at hc
  · rename_i x0
    obtain ⟨hok, rfl⟩ := some_ret hc
    exact holds_ev prog_ok (allOK_cons ok_impl_IsFinite (allOK_cons ok_math_NaN (allOK_cons ok_math_Abs (allOK_cons ok_math_Trunc allOK_nil)))) Try.func63 rfl rfl (smL_cons (body := .loop (loopB 1 (codeOf Try.f63))) (by kernel_rfl) t_impl_SineTurns_L1 smL_nil) rfl (e_impl_SineTurns real x0 hok)
  · cases hc
end Go.Fx
