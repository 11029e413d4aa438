import Derived.Test.YtmcfcijddhgphaaXr4b
import Derived.KernelRfl
namespace Go.Fx
open Go.Proofs
set_option maxRecDepth 100000
def c_math_Float64bits (_ : FOps) : Con
  | [V.at (A.fl .f64 x)], [] => some (true, ⟨V.at (A.raw .f64 x), none, []⟩)
  | _, _ => none
theorem ok_math_Float64bits : CallOK Try.prog 133 (c_math_Float64bits real) := by
  refine callOK_of fun args h ret hc => ?_
  unfold c_math_Float64bits at hc
  split at hc
  · rename_i x
    obtain ⟨_, rfl⟩ := some_ret hc
    exact ext_bits64 Try.func133 rfl rfl (by kernel_rfl) (by kernel_rfl) x
  · cases hc
def c_math_Abs (F : FOps) : Con
  | [V.at (A.fl .f64 x0)], [] => some (true, ⟨V.at (A.fl .f64 (F.abs .f64 x0)), none, []⟩)
  | _, _ => none
theorem e_math_Abs (F : FOps) (x0 : Int) : evFn (cxS F tyl [(133, c_math_Float64bits F), (130, c_math_Float64frombits F)] [] [] 0) Try.f127 false [V.at (A.fl .f64 x0)] [] = some ⟨V.at (A.fl .f64 (F.abs .f64 x0)), none, []⟩ := by
  kernel_rfl
theorem ok_math_Abs : CallOK Try.prog 127 (c_math_Abs real) := by
  refine callOK_of fun args h ret hc => ?_
  unfold c_math_Abs at hc
  split at hc
  · rename_i x0
    obtain ⟨_, rfl⟩ := some_ret hc
    exact holds_ev prog_ok (allOK_cons ok_math_Float64bits (allOK_cons ok_math_Float64frombits allOK_nil)) Try.func127 rfl rfl smL_nil rfl (e_math_Abs real x0)
  · cases hc
def c_math_archTrunc (F : FOps) : Con
  | [V.at (A.fl .f64 x)], [] => some (true, ⟨V.at (A.fl .f64 (F.integral .zero x)), none, []⟩)
  | _, _ => none
theorem ok_math_archTrunc : CallOK Try.prog 134 (c_math_archTrunc real) := by
  refine callOK_of fun args h ret hc => ?_
  unfold c_math_archTrunc at hc
  split at hc
  · rename_i x
    obtain ⟨_, rfl⟩ := some_ret hc
    exact ext_integral (nm := "math.archTrunc") Try.func134 rfl rfl (by kernel_rfl) (by kernel_rfl) x
  · cases hc
def c_math_Trunc (F : FOps) : Con
  | [V.at (A.fl .f64 x0)], [] => some (true, ⟨V.at (A.fl .f64 (F.integral Ieee.Toward.zero x0)), none, []⟩)
  | _, _ => none
theorem e_math_Trunc (F : FOps) (x0 : Int) : evFn (cxS F tyl [(134, c_math_archTrunc F)] [] [] 0) Try.f128 false [V.at (A.fl .f64 x0)] [] = some ⟨V.at (A.fl .f64 (F.integral Ieee.Toward.zero x0)), none, []⟩ := by
  kernel_rfl
theorem ok_math_Trunc : CallOK Try.prog 128 (c_math_Trunc real) := by
  refine callOK_of fun args h ret hc => ?_
  unfold c_math_Trunc at hc
  split at hc
  · rename_i x0
    obtain ⟨_, rfl⟩ := some_ret hc
    exact holds_ev prog_ok (allOK_cons ok_math_archTrunc allOK_nil) Try.func128 rfl rfl smL_nil rfl (e_math_Trunc real x0)
  · cases hc
def Pure.impl_SineTurns_L1 (F : FOps) (y0 : Bool) (y1 y2 : Int) : Nat → Int → Int → (Bool × Int)
  | 0, _, _ => (false, 0)
  | n + 1, y3, y4 => bif (decide (y4 ≥ 1)) then (Pure.impl_SineTurns_L1 F y0 y1 y2 n (F.bin .sub .f64 4607182418800017408 (F.bin .quo .f64 (F.bin .mul .f64 y2 y3) (F.ofInt .f64 (IntKind.wrap .i64 ((IntKind.wrap .i64 (2 * y4)) * (IntKind.wrap .i64 ((IntKind.wrap .i64 (2 * y4)) + 1))))))) (IntKind.wrap .i64 (y4 - 1))) else ((true, y3))
def R_impl_SineTurns_L1 (y0 : Bool) (y1 : Int) (r : (Bool × Int)) : Bool × Ends := ((r).1, (.one Ex.normal [V.at (A.bool y0), V.at (A.fl .f64 y1), V.at (A.fl .f64 (r).2)] []))
def S_impl_SineTurns_L1 (F : FOps) : Sm := ⟨[5, 6, 7, 8, 9], [4, 29, 29, 29, 3], [5, 6, 8], fun vals hp => match vals, hp with
  | [V.at (A.bool y0), V.at (A.fl .f64 y1), V.at (A.fl .f64 y2), V.at (A.fl .f64 y3), V.at (A.int .i64 y4)], [] => some (R_impl_SineTurns_L1 y0 y1 (Pure.impl_SineTurns_L1 F y0 y1 y2 (y4 - 1 + 2).toNat y3 y4))
  | _, _ => none⟩
theorem l_impl_SineTurns_L1 (F : FOps) (y0 : Bool) (y1 y2 : Int) : ∀ (fuel : Nat) (y3 y4 : Int), (Pure.impl_SineTurns_L1 F y0 y1 y2 fuel y3 y4).1 = true → loopOf (cxS F tyl [(47, c_impl_IsFinite F), (120, c_math_NaN F), (127, c_math_Abs F), (128, c_math_Trunc F)] [] [] 0) 0 72 1 [5, 6, 7, 8, 9] [4, 29, 29, 29, 3] [5, 6, 8] (loopB 1 (codeOf Try.f115)) fuel [V.at (A.bool y0), V.at (A.fl .f64 y1), V.at (A.fl .f64 y2), V.at (A.fl .f64 y3), V.at (A.int .i64 y4)] [] = resOf (R_impl_SineTurns_L1 y0 y1 (Pure.impl_SineTurns_L1 F y0 y1 y2 fuel y3 y4)) := by
  intro fuel
  induction fuel with
  | zero => intro y3 y4 h; exact absurd h Bool.false_ne_true
  | succ n ih =>
    intro y3 y4
    have h0 : roundOf (cxS F tyl [(47, c_impl_IsFinite F), (120, c_math_NaN F), (127, c_math_Abs F), (128, c_math_Trunc F)] [] [] 0) 0 72 1 [5, 6, 7, 8, 9] [4, 29, 29, 29, 3] [5, 6, 8] (loopB 1 (codeOf Try.f115)) [V.at (A.bool y0), V.at (A.fl .f64 y1), V.at (A.fl .f64 y2), V.at (A.fl .f64 y3), V.at (A.int .i64 y4)] [] = (bif decide (y4 ≥ 1) then some (true, (Ex.normal, ([V.at (A.bool y0), V.at (A.fl .f64 y1), V.at (A.fl .f64 y2), V.at (A.fl .f64 (F.bin .sub .f64 4607182418800017408 (F.bin .quo .f64 (F.bin .mul .f64 y2 y3) (F.ofInt .f64 (IntKind.wrap .i64 ((IntKind.wrap .i64 (2 * y4)) * (IntKind.wrap .i64 ((IntKind.wrap .i64 (2 * y4)) + 1)))))))), V.at (A.int .i64 (IntKind.wrap .i64 (y4 - 1)))], []))) else some (false, (Ex.normal, ([V.at (A.bool y0), V.at (A.fl .f64 y1), V.at (A.fl .f64 y3)], [])))) := by kernel_rfl
    unfold loopOf
    rw [h0]
    unfold Pure.impl_SineTurns_L1
    cases (decide (y4 ≥ 1)) with
    | true =>
      exact ih _ _
    | false =>
      intro _; rfl
theorem t_impl_SineTurns_L1 : SmTo Try.prog 0 72 (S_impl_SineTurns_L1 real) 1 (.loop (loopB 1 (codeOf Try.f115))) := by
  refine smTo_ev (cl := [(47, c_impl_IsFinite real), (120, c_math_NaN real), (127, c_math_Abs real), (128, c_math_Trunc real)]) (ef := []) (sm := []) (un := 0) prog_ok (allOK_cons ok_impl_IsFinite (allOK_cons ok_math_NaN (allOK_cons ok_math_Abs (allOK_cons ok_math_Trunc allOK_nil)))) smL_nil ?_
  intro vals hp q r h hq
  unfold S_impl_SineTurns_L1 at h
  dsimp only at h
  split at h
  · rename_i y0 y1 y2 y3 y4
    obtain rfl := Option.some.inj h
    have h1 := hq
    unfold resOf at h1
    rw [chk_some] at h1
    exact ⟨_, (l_impl_SineTurns_L1 real y0 y1 y2 _ y3 y4 h1.1).trans hq⟩
  · cases h
def Pure.s1_f115 (F : FOps) (x0 : Int) : Int := F.bin .add .f64 (F.bin .sub .f64 (F.conv .f32 .f64 x0) (F.integral Ieee.Toward.zero (F.conv .f32 .f64 x0))) 4607182418800017408
def Pure.s2_f115 (F : FOps) (x0 : Int) : Int := F.bin .sub .f64 (Pure.s1_f115 F x0) 4602678819172646912
def Pure.s3_f115 (F : FOps) (x0 : Int) : Int := F.bin .mul .f64 (F.bin .sub .f64 4602678819172646912 (Pure.s2_f115 F x0)) 4618760256179416344
def Pure.s4_f115 (F : FOps) (x0 : Int) : Int := F.bin .mul .f64 (Pure.s3_f115 F x0) (Prod.snd (Pure.impl_SineTurns_L1 F (F.cmp .geq .f64 (Pure.s1_f115 F x0) 4602678819172646912) (Pure.s3_f115 F x0) (F.bin .mul .f64 (Pure.s3_f115 F x0) (Pure.s3_f115 F x0)) 9 4607182418800017408 8))
def Pure.s5_f115 (F : FOps) (x0 : Int) : Int := F.neg .f64 (Pure.s4_f115 F x0)
def Pure.s6_f115 (F : FOps) (x0 : Int) : Int := F.bin .mul .f64 (Pure.s2_f115 F x0) 4618760256179416344
def Pure.s7_f115 (F : FOps) (x0 : Int) : Int := F.bin .mul .f64 (Pure.s6_f115 F x0) (Prod.snd (Pure.impl_SineTurns_L1 F (F.cmp .geq .f64 (Pure.s1_f115 F x0) 4602678819172646912) (Pure.s6_f115 F x0) (F.bin .mul .f64 (Pure.s6_f115 F x0) (Pure.s6_f115 F x0)) 9 4607182418800017408 8))
def Pure.s8_f115 (F : FOps) (x0 : Int) : Int := F.neg .f64 (Pure.s7_f115 F x0)
def Pure.s9_f115 (F : FOps) (x0 : Int) : Int := F.bin .mul .f64 (F.bin .sub .f64 4602678819172646912 (Pure.s1_f115 F x0)) 4618760256179416344
def Pure.s10_f115 (F : FOps) (x0 : Int) : Int := F.bin .mul .f64 (Pure.s9_f115 F x0) (Prod.snd (Pure.impl_SineTurns_L1 F (F.cmp .geq .f64 (Pure.s1_f115 F x0) 4602678819172646912) (Pure.s9_f115 F x0) (F.bin .mul .f64 (Pure.s9_f115 F x0) (Pure.s9_f115 F x0)) 9 4607182418800017408 8))
def Pure.s11_f115 (F : FOps) (x0 : Int) : Int := F.neg .f64 (Pure.s10_f115 F x0)
def Pure.s12_f115 (F : FOps) (x0 : Int) : Int := F.bin .mul .f64 (Pure.s1_f115 F x0) 4618760256179416344
def Pure.s13_f115 (F : FOps) (x0 : Int) : Int := F.bin .mul .f64 (Pure.s12_f115 F x0) (Prod.snd (Pure.impl_SineTurns_L1 F (F.cmp .geq .f64 (Pure.s1_f115 F x0) 4602678819172646912) (Pure.s12_f115 F x0) (F.bin .mul .f64 (Pure.s12_f115 F x0) (Pure.s12_f115 F x0)) 9 4607182418800017408 8))
def Pure.s14_f115 (F : FOps) (x0 : Int) : Int := F.neg .f64 (Pure.s13_f115 F x0)
def Pure.s15_f115 (F : FOps) (x0 : Int) : Int := F.bin .sub .f64 (F.bin .sub .f64 (F.conv .f32 .f64 x0) (F.integral Ieee.Toward.zero (F.conv .f32 .f64 x0))) 4602678819172646912
def Pure.s16_f115 (F : FOps) (x0 : Int) : Int := F.bin .mul .f64 (F.bin .sub .f64 4602678819172646912 (Pure.s15_f115 F x0)) 4618760256179416344
def Pure.s17_f115 (F : FOps) (x0 : Int) : Int := F.bin .mul .f64 (Pure.s16_f115 F x0) (Prod.snd (Pure.impl_SineTurns_L1 F (F.cmp .geq .f64 (F.bin .sub .f64 (F.conv .f32 .f64 x0) (F.integral Ieee.Toward.zero (F.conv .f32 .f64 x0))) 4602678819172646912) (Pure.s16_f115 F x0) (F.bin .mul .f64 (Pure.s16_f115 F x0) (Pure.s16_f115 F x0)) 9 4607182418800017408 8))
def Pure.s18_f115 (F : FOps) (x0 : Int) : Int := F.neg .f64 (Pure.s17_f115 F x0)
def Pure.s19_f115 (F : FOps) (x0 : Int) : Int := F.bin .mul .f64 (Pure.s15_f115 F x0) 4618760256179416344
def Pure.s20_f115 (F : FOps) (x0 : Int) : Int := F.bin .mul .f64 (Pure.s19_f115 F x0) (Prod.snd (Pure.impl_SineTurns_L1 F (F.cmp .geq .f64 (F.bin .sub .f64 (F.conv .f32 .f64 x0) (F.integral Ieee.Toward.zero (F.conv .f32 .f64 x0))) 4602678819172646912) (Pure.s19_f115 F x0) (F.bin .mul .f64 (Pure.s19_f115 F x0) (Pure.s19_f115 F x0)) 9 4607182418800017408 8))
def Pure.s21_f115 (F : FOps) (x0 : Int) : Int := F.neg .f64 (Pure.s20_f115 F x0)
def Pure.s22_f115 (F : FOps) (x0 : Int) : Int := F.bin .mul .f64 (F.bin .sub .f64 4602678819172646912 (F.bin .sub .f64 (F.conv .f32 .f64 x0) (F.integral Ieee.Toward.zero (F.conv .f32 .f64 x0)))) 4618760256179416344
def Pure.s23_f115 (F : FOps) (x0 : Int) : Int := F.bin .mul .f64 (Pure.s22_f115 F x0) (Prod.snd (Pure.impl_SineTurns_L1 F (F.cmp .geq .f64 (F.bin .sub .f64 (F.conv .f32 .f64 x0) (F.integral Ieee.Toward.zero (F.conv .f32 .f64 x0))) 4602678819172646912) (Pure.s22_f115 F x0) (F.bin .mul .f64 (Pure.s22_f115 F x0) (Pure.s22_f115 F x0)) 9 4607182418800017408 8))
def Pure.s24_f115 (F : FOps) (x0 : Int) : Int := F.neg .f64 (Pure.s23_f115 F x0)
def Pure.s25_f115 (F : FOps) (x0 : Int) : Int := F.bin .mul .f64 (F.bin .sub .f64 (F.conv .f32 .f64 x0) (F.integral Ieee.Toward.zero (F.conv .f32 .f64 x0))) 4618760256179416344
def Pure.s26_f115 (F : FOps) (x0 : Int) : Int := F.bin .mul .f64 (Pure.s25_f115 F x0) (Prod.snd (Pure.impl_SineTurns_L1 F (F.cmp .geq .f64 (F.bin .sub .f64 (F.conv .f32 .f64 x0) (F.integral Ieee.Toward.zero (F.conv .f32 .f64 x0))) 4602678819172646912) (Pure.s25_f115 F x0) (F.bin .mul .f64 (Pure.s25_f115 F x0) (Pure.s25_f115 F x0)) 9 4607182418800017408 8))
def Pure.s27_f115 (F : FOps) (x0 : Int) : Int := F.neg .f64 (Pure.s26_f115 F x0)
def Pure.s28_f115 (F : FOps) (x0 : Int) : Int := F.bin .mul .f64 (F.bin .sub .f64 4602678819172646912 (F.bin .sub .f64 (F.bin .add .f64 (F.conv .f32 .f64 x0) 4607182418800017408) 4602678819172646912)) 4618760256179416344
def Pure.s29_f115 (F : FOps) (x0 : Int) : Int := F.bin .mul .f64 (Pure.s28_f115 F x0) (Prod.snd (Pure.impl_SineTurns_L1 F (F.cmp .geq .f64 (F.bin .add .f64 (F.conv .f32 .f64 x0) 4607182418800017408) 4602678819172646912) (Pure.s28_f115 F x0) (F.bin .mul .f64 (Pure.s28_f115 F x0) (Pure.s28_f115 F x0)) 9 4607182418800017408 8))
def Pure.s30_f115 (F : FOps) (x0 : Int) : Int := F.neg .f64 (Pure.s29_f115 F x0)
def Pure.s31_f115 (F : FOps) (x0 : Int) : Int := F.bin .mul .f64 (F.bin .mul .f64 (F.bin .sub .f64 (F.bin .add .f64 (F.conv .f32 .f64 x0) 4607182418800017408) 4602678819172646912) 4618760256179416344) (Prod.snd (Pure.impl_SineTurns_L1 F (F.cmp .geq .f64 (F.bin .add .f64 (F.conv .f32 .f64 x0) 4607182418800017408) 4602678819172646912) (F.bin .mul .f64 (F.bin .sub .f64 (F.bin .add .f64 (F.conv .f32 .f64 x0) 4607182418800017408) 4602678819172646912) 4618760256179416344) (F.bin .mul .f64 (F.bin .mul .f64 (F.bin .sub .f64 (F.bin .add .f64 (F.conv .f32 .f64 x0) 4607182418800017408) 4602678819172646912) 4618760256179416344) (F.bin .mul .f64 (F.bin .sub .f64 (F.bin .add .f64 (F.conv .f32 .f64 x0) 4607182418800017408) 4602678819172646912) 4618760256179416344)) 9 4607182418800017408 8))
def Pure.s32_f115 (F : FOps) (x0 : Int) : Int := F.neg .f64 (Pure.s31_f115 F x0)
def Pure.s33_f115 (F : FOps) (x0 : Int) : Int := F.bin .mul .f64 (F.bin .mul .f64 (F.bin .sub .f64 4602678819172646912 (F.bin .add .f64 (F.conv .f32 .f64 x0) 4607182418800017408)) 4618760256179416344) (Prod.snd (Pure.impl_SineTurns_L1 F (F.cmp .geq .f64 (F.bin .add .f64 (F.conv .f32 .f64 x0) 4607182418800017408) 4602678819172646912) (F.bin .mul .f64 (F.bin .sub .f64 4602678819172646912 (F.bin .add .f64 (F.conv .f32 .f64 x0) 4607182418800017408)) 4618760256179416344) (F.bin .mul .f64 (F.bin .mul .f64 (F.bin .sub .f64 4602678819172646912 (F.bin .add .f64 (F.conv .f32 .f64 x0) 4607182418800017408)) 4618760256179416344) (F.bin .mul .f64 (F.bin .sub .f64 4602678819172646912 (F.bin .add .f64 (F.conv .f32 .f64 x0) 4607182418800017408)) 4618760256179416344)) 9 4607182418800017408 8))
def Pure.s34_f115 (F : FOps) (x0 : Int) : Int := F.neg .f64 (Pure.s33_f115 F x0)
def Pure.s35_f115 (F : FOps) (x0 : Int) : Int := F.bin .mul .f64 (F.bin .mul .f64 (F.bin .add .f64 (F.conv .f32 .f64 x0) 4607182418800017408) 4618760256179416344) (Prod.snd (Pure.impl_SineTurns_L1 F (F.cmp .geq .f64 (F.bin .add .f64 (F.conv .f32 .f64 x0) 4607182418800017408) 4602678819172646912) (F.bin .mul .f64 (F.bin .add .f64 (F.conv .f32 .f64 x0) 4607182418800017408) 4618760256179416344) (F.bin .mul .f64 (F.bin .mul .f64 (F.bin .add .f64 (F.conv .f32 .f64 x0) 4607182418800017408) 4618760256179416344) (F.bin .mul .f64 (F.bin .add .f64 (F.conv .f32 .f64 x0) 4607182418800017408) 4618760256179416344)) 9 4607182418800017408 8))
def Pure.s36_f115 (F : FOps) (x0 : Int) : Int := F.neg .f64 (Pure.s35_f115 F x0)
def Pure.s37_f115 (F : FOps) (x0 : Int) : Int := F.bin .mul .f64 (F.bin .mul .f64 (F.bin .sub .f64 4602678819172646912 (F.bin .sub .f64 (F.conv .f32 .f64 x0) 4602678819172646912)) 4618760256179416344) (Prod.snd (Pure.impl_SineTurns_L1 F (F.cmp .geq .f64 (F.conv .f32 .f64 x0) 4602678819172646912) (F.bin .mul .f64 (F.bin .sub .f64 4602678819172646912 (F.bin .sub .f64 (F.conv .f32 .f64 x0) 4602678819172646912)) 4618760256179416344) (F.bin .mul .f64 (F.bin .mul .f64 (F.bin .sub .f64 4602678819172646912 (F.bin .sub .f64 (F.conv .f32 .f64 x0) 4602678819172646912)) 4618760256179416344) (F.bin .mul .f64 (F.bin .sub .f64 4602678819172646912 (F.bin .sub .f64 (F.conv .f32 .f64 x0) 4602678819172646912)) 4618760256179416344)) 9 4607182418800017408 8))
def Pure.s38_f115 (F : FOps) (x0 : Int) : Int := F.neg .f64 (Pure.s37_f115 F x0)
def Pure.s39_f115 (F : FOps) (x0 : Int) : Int := F.bin .mul .f64 (F.bin .mul .f64 (F.bin .sub .f64 (F.conv .f32 .f64 x0) 4602678819172646912) 4618760256179416344) (Prod.snd (Pure.impl_SineTurns_L1 F (F.cmp .geq .f64 (F.conv .f32 .f64 x0) 4602678819172646912) (F.bin .mul .f64 (F.bin .sub .f64 (F.conv .f32 .f64 x0) 4602678819172646912) 4618760256179416344) (F.bin .mul .f64 (F.bin .mul .f64 (F.bin .sub .f64 (F.conv .f32 .f64 x0) 4602678819172646912) 4618760256179416344) (F.bin .mul .f64 (F.bin .sub .f64 (F.conv .f32 .f64 x0) 4602678819172646912) 4618760256179416344)) 9 4607182418800017408 8))
def Pure.s40_f115 (F : FOps) (x0 : Int) : Int := F.neg .f64 (Pure.s39_f115 F x0)
def Pure.s41_f115 (F : FOps) (x0 : Int) : Int := F.bin .mul .f64 (F.bin .mul .f64 (F.bin .sub .f64 4602678819172646912 (F.conv .f32 .f64 x0)) 4618760256179416344) (Prod.snd (Pure.impl_SineTurns_L1 F (F.cmp .geq .f64 (F.conv .f32 .f64 x0) 4602678819172646912) (F.bin .mul .f64 (F.bin .sub .f64 4602678819172646912 (F.conv .f32 .f64 x0)) 4618760256179416344) (F.bin .mul .f64 (F.bin .mul .f64 (F.bin .sub .f64 4602678819172646912 (F.conv .f32 .f64 x0)) 4618760256179416344) (F.bin .mul .f64 (F.bin .sub .f64 4602678819172646912 (F.conv .f32 .f64 x0)) 4618760256179416344)) 9 4607182418800017408 8))
def Pure.s42_f115 (F : FOps) (x0 : Int) : Int := F.neg .f64 (Pure.s41_f115 F x0)
def Pure.s43_f115 (F : FOps) (x0 : Int) : Int := F.bin .mul .f64 (F.bin .mul .f64 (F.conv .f32 .f64 x0) 4618760256179416344) (Prod.snd (Pure.impl_SineTurns_L1 F (F.cmp .geq .f64 (F.conv .f32 .f64 x0) 4602678819172646912) (F.bin .mul .f64 (F.conv .f32 .f64 x0) 4618760256179416344) (F.bin .mul .f64 (F.bin .mul .f64 (F.conv .f32 .f64 x0) 4618760256179416344) (F.bin .mul .f64 (F.conv .f32 .f64 x0) 4618760256179416344)) 9 4607182418800017408 8))
def Pure.s44_f115 (F : FOps) (x0 : Int) : Int := F.neg .f64 (Pure.s43_f115 F x0)
def Pure.impl_SineTurns (F : FOps) (x0 : Int) : Int := bif Pure.impl_IsFinite F x0 then bif F.cmp .geq .f64 (F.abs .f64 (F.conv .f32 .f64 x0)) 4841369599423283200 then 0 else bif F.cmp .neq .f64 (F.integral Ieee.Toward.zero (F.conv .f32 .f64 x0)) 0 then bif F.cmp .lss .f64 (F.bin .sub .f64 (F.conv .f32 .f64 x0) (F.integral Ieee.Toward.zero (F.conv .f32 .f64 x0))) 0 then bif F.cmp .geq .f64 (Pure.s1_f115 F x0) 4602678819172646912 then bif F.cmp .gtr .f64 (Pure.s2_f115 F x0) 4598175219545276416 then F.conv .f64 .f32 (Pure.s5_f115 F x0) else F.conv .f64 .f32 (Pure.s8_f115 F x0) else bif F.cmp .gtr .f64 (Pure.s1_f115 F x0) 4598175219545276416 then F.conv .f64 .f32 (Pure.s10_f115 F x0) else F.conv .f64 .f32 (Pure.s13_f115 F x0) else bif F.cmp .geq .f64 (F.bin .sub .f64 (F.conv .f32 .f64 x0) (F.integral Ieee.Toward.zero (F.conv .f32 .f64 x0))) 4602678819172646912 then bif F.cmp .gtr .f64 (Pure.s15_f115 F x0) 4598175219545276416 then F.conv .f64 .f32 (Pure.s18_f115 F x0) else F.conv .f64 .f32 (Pure.s21_f115 F x0) else bif F.cmp .gtr .f64 (F.bin .sub .f64 (F.conv .f32 .f64 x0) (F.integral Ieee.Toward.zero (F.conv .f32 .f64 x0))) 4598175219545276416 then F.conv .f64 .f32 (Pure.s23_f115 F x0) else F.conv .f64 .f32 (Pure.s26_f115 F x0) else bif F.cmp .lss .f64 (F.conv .f32 .f64 x0) 0 then bif F.cmp .geq .f64 (F.bin .add .f64 (F.conv .f32 .f64 x0) 4607182418800017408) 4602678819172646912 then bif F.cmp .gtr .f64 (F.bin .sub .f64 (F.bin .add .f64 (F.conv .f32 .f64 x0) 4607182418800017408) 4602678819172646912) 4598175219545276416 then F.conv .f64 .f32 (Pure.s30_f115 F x0) else F.conv .f64 .f32 (Pure.s32_f115 F x0) else bif F.cmp .gtr .f64 (F.bin .add .f64 (F.conv .f32 .f64 x0) 4607182418800017408) 4598175219545276416 then F.conv .f64 .f32 (Pure.s33_f115 F x0) else F.conv .f64 .f32 (Pure.s35_f115 F x0) else bif F.cmp .geq .f64 (F.conv .f32 .f64 x0) 4602678819172646912 then bif F.cmp .gtr .f64 (F.bin .sub .f64 (F.conv .f32 .f64 x0) 4602678819172646912) 4598175219545276416 then F.conv .f64 .f32 (Pure.s38_f115 F x0) else F.conv .f64 .f32 (Pure.s40_f115 F x0) else bif F.cmp .gtr .f64 (F.conv .f32 .f64 x0) 4598175219545276416 then F.conv .f64 .f32 (Pure.s41_f115 F x0) else F.conv .f64 .f32 (Pure.s43_f115 F x0) else F.conv .f64 .f32 (F.ofBits .f64 9221120237041090561)
def Pure.impl_SineTurns_ok (F : FOps) (x0 : Int) : Bool := bif F.convOk .f32 .f64 x0 then bif Pure.impl_IsFinite F x0 then bif F.cmp .geq .f64 (F.abs .f64 (F.conv .f32 .f64 x0)) 4841369599423283200 then true else bif F.cmp .neq .f64 (F.integral Ieee.Toward.zero (F.conv .f32 .f64 x0)) 0 then bif F.cmp .lss .f64 (F.bin .sub .f64 (F.conv .f32 .f64 x0) (F.integral Ieee.Toward.zero (F.conv .f32 .f64 x0))) 0 then bif F.cmp .geq .f64 (Pure.s1_f115 F x0) 4602678819172646912 then bif F.cmp .gtr .f64 (Pure.s2_f115 F x0) 4598175219545276416 then bif Prod.fst (Pure.impl_SineTurns_L1 F true (Pure.s3_f115 F x0) (F.bin .mul .f64 (Pure.s3_f115 F x0) (Pure.s3_f115 F x0)) 9 4607182418800017408 8) then F.convOk .f64 .f32 (Pure.s5_f115 F x0) else false else bif Prod.fst (Pure.impl_SineTurns_L1 F true (Pure.s6_f115 F x0) (F.bin .mul .f64 (Pure.s6_f115 F x0) (Pure.s6_f115 F x0)) 9 4607182418800017408 8) then F.convOk .f64 .f32 (Pure.s8_f115 F x0) else false else bif F.cmp .gtr .f64 (Pure.s1_f115 F x0) 4598175219545276416 then bif Prod.fst (Pure.impl_SineTurns_L1 F false (Pure.s9_f115 F x0) (F.bin .mul .f64 (Pure.s9_f115 F x0) (Pure.s9_f115 F x0)) 9 4607182418800017408 8) then F.convOk .f64 .f32 (Pure.s10_f115 F x0) else false else bif Prod.fst (Pure.impl_SineTurns_L1 F false (Pure.s12_f115 F x0) (F.bin .mul .f64 (Pure.s12_f115 F x0) (Pure.s12_f115 F x0)) 9 4607182418800017408 8) then F.convOk .f64 .f32 (Pure.s13_f115 F x0) else false else bif F.cmp .geq .f64 (F.bin .sub .f64 (F.conv .f32 .f64 x0) (F.integral Ieee.Toward.zero (F.conv .f32 .f64 x0))) 4602678819172646912 then bif F.cmp .gtr .f64 (Pure.s15_f115 F x0) 4598175219545276416 then bif Prod.fst (Pure.impl_SineTurns_L1 F true (Pure.s16_f115 F x0) (F.bin .mul .f64 (Pure.s16_f115 F x0) (Pure.s16_f115 F x0)) 9 4607182418800017408 8) then F.convOk .f64 .f32 (Pure.s18_f115 F x0) else false else bif Prod.fst (Pure.impl_SineTurns_L1 F true (Pure.s19_f115 F x0) (F.bin .mul .f64 (Pure.s19_f115 F x0) (Pure.s19_f115 F x0)) 9 4607182418800017408 8) then F.convOk .f64 .f32 (Pure.s21_f115 F x0) else false else bif F.cmp .gtr .f64 (F.bin .sub .f64 (F.conv .f32 .f64 x0) (F.integral Ieee.Toward.zero (F.conv .f32 .f64 x0))) 4598175219545276416 then bif Prod.fst (Pure.impl_SineTurns_L1 F false (Pure.s22_f115 F x0) (F.bin .mul .f64 (Pure.s22_f115 F x0) (Pure.s22_f115 F x0)) 9 4607182418800017408 8) then F.convOk .f64 .f32 (Pure.s23_f115 F x0) else false else bif Prod.fst (Pure.impl_SineTurns_L1 F false (Pure.s25_f115 F x0) (F.bin .mul .f64 (Pure.s25_f115 F x0) (Pure.s25_f115 F x0)) 9 4607182418800017408 8) then F.convOk .f64 .f32 (Pure.s26_f115 F x0) else false else bif F.cmp .lss .f64 (F.conv .f32 .f64 x0) 0 then bif F.cmp .geq .f64 (F.bin .add .f64 (F.conv .f32 .f64 x0) 4607182418800017408) 4602678819172646912 then bif F.cmp .gtr .f64 (F.bin .sub .f64 (F.bin .add .f64 (F.conv .f32 .f64 x0) 4607182418800017408) 4602678819172646912) 4598175219545276416 then bif Prod.fst (Pure.impl_SineTurns_L1 F true (Pure.s28_f115 F x0) (F.bin .mul .f64 (Pure.s28_f115 F x0) (Pure.s28_f115 F x0)) 9 4607182418800017408 8) then F.convOk .f64 .f32 (Pure.s30_f115 F x0) else false else bif Prod.fst (Pure.impl_SineTurns_L1 F true (F.bin .mul .f64 (F.bin .sub .f64 (F.bin .add .f64 (F.conv .f32 .f64 x0) 4607182418800017408) 4602678819172646912) 4618760256179416344) (F.bin .mul .f64 (F.bin .mul .f64 (F.bin .sub .f64 (F.bin .add .f64 (F.conv .f32 .f64 x0) 4607182418800017408) 4602678819172646912) 4618760256179416344) (F.bin .mul .f64 (F.bin .sub .f64 (F.bin .add .f64 (F.conv .f32 .f64 x0) 4607182418800017408) 4602678819172646912) 4618760256179416344)) 9 4607182418800017408 8) then F.convOk .f64 .f32 (Pure.s32_f115 F x0) else false else bif F.cmp .gtr .f64 (F.bin .add .f64 (F.conv .f32 .f64 x0) 4607182418800017408) 4598175219545276416 then bif Prod.fst (Pure.impl_SineTurns_L1 F false (F.bin .mul .f64 (F.bin .sub .f64 4602678819172646912 (F.bin .add .f64 (F.conv .f32 .f64 x0) 4607182418800017408)) 4618760256179416344) (F.bin .mul .f64 (F.bin .mul .f64 (F.bin .sub .f64 4602678819172646912 (F.bin .add .f64 (F.conv .f32 .f64 x0) 4607182418800017408)) 4618760256179416344) (F.bin .mul .f64 (F.bin .sub .f64 4602678819172646912 (F.bin .add .f64 (F.conv .f32 .f64 x0) 4607182418800017408)) 4618760256179416344)) 9 4607182418800017408 8) then F.convOk .f64 .f32 (Pure.s33_f115 F x0) else false else bif Prod.fst (Pure.impl_SineTurns_L1 F false (F.bin .mul .f64 (F.bin .add .f64 (F.conv .f32 .f64 x0) 4607182418800017408) 4618760256179416344) (F.bin .mul .f64 (F.bin .mul .f64 (F.bin .add .f64 (F.conv .f32 .f64 x0) 4607182418800017408) 4618760256179416344) (F.bin .mul .f64 (F.bin .add .f64 (F.conv .f32 .f64 x0) 4607182418800017408) 4618760256179416344)) 9 4607182418800017408 8) then F.convOk .f64 .f32 (Pure.s35_f115 F x0) else false else bif F.cmp .geq .f64 (F.conv .f32 .f64 x0) 4602678819172646912 then bif F.cmp .gtr .f64 (F.bin .sub .f64 (F.conv .f32 .f64 x0) 4602678819172646912) 4598175219545276416 then bif Prod.fst (Pure.impl_SineTurns_L1 F true (F.bin .mul .f64 (F.bin .sub .f64 4602678819172646912 (F.bin .sub .f64 (F.conv .f32 .f64 x0) 4602678819172646912)) 4618760256179416344) (F.bin .mul .f64 (F.bin .mul .f64 (F.bin .sub .f64 4602678819172646912 (F.bin .sub .f64 (F.conv .f32 .f64 x0) 4602678819172646912)) 4618760256179416344) (F.bin .mul .f64 (F.bin .sub .f64 4602678819172646912 (F.bin .sub .f64 (F.conv .f32 .f64 x0) 4602678819172646912)) 4618760256179416344)) 9 4607182418800017408 8) then F.convOk .f64 .f32 (Pure.s38_f115 F x0) else false else bif Prod.fst (Pure.impl_SineTurns_L1 F true (F.bin .mul .f64 (F.bin .sub .f64 (F.conv .f32 .f64 x0) 4602678819172646912) 4618760256179416344) (F.bin .mul .f64 (F.bin .mul .f64 (F.bin .sub .f64 (F.conv .f32 .f64 x0) 4602678819172646912) 4618760256179416344) (F.bin .mul .f64 (F.bin .sub .f64 (F.conv .f32 .f64 x0) 4602678819172646912) 4618760256179416344)) 9 4607182418800017408 8) then F.convOk .f64 .f32 (Pure.s40_f115 F x0) else false else bif F.cmp .gtr .f64 (F.conv .f32 .f64 x0) 4598175219545276416 then bif Prod.fst (Pure.impl_SineTurns_L1 F false (F.bin .mul .f64 (F.bin .sub .f64 4602678819172646912 (F.conv .f32 .f64 x0)) 4618760256179416344) (F.bin .mul .f64 (F.bin .mul .f64 (F.bin .sub .f64 4602678819172646912 (F.conv .f32 .f64 x0)) 4618760256179416344) (F.bin .mul .f64 (F.bin .sub .f64 4602678819172646912 (F.conv .f32 .f64 x0)) 4618760256179416344)) 9 4607182418800017408 8) then F.convOk .f64 .f32 (Pure.s41_f115 F x0) else false else bif Prod.fst (Pure.impl_SineTurns_L1 F false (F.bin .mul .f64 (F.conv .f32 .f64 x0) 4618760256179416344) (F.bin .mul .f64 (F.bin .mul .f64 (F.conv .f32 .f64 x0) 4618760256179416344) (F.bin .mul .f64 (F.conv .f32 .f64 x0) 4618760256179416344)) 9 4607182418800017408 8) then F.convOk .f64 .f32 (Pure.s43_f115 F x0) else false else F.convOk .f64 .f32 (F.ofBits .f64 9221120237041090561) else false
def c_impl_SineTurns (F : FOps) : Con
  | [V.at (A.fl .f32 x0)], [] => some (Pure.impl_SineTurns_ok F x0, ⟨V.at (A.fl .f32 (Pure.impl_SineTurns F x0)), none, []⟩)
  | _, _ => none
theorem e_impl_SineTurns (F : FOps) (x0 : Int) : Pure.impl_SineTurns_ok F x0 = true → evFn (cxS F tyl [(47, c_impl_IsFinite F), (120, c_math_NaN F), (127, c_math_Abs F), (128, c_math_Trunc F)] [] [(1, S_impl_SineTurns_L1 F)] 0) Try.f115 false [V.at (A.fl .f32 x0)] [] = some ⟨V.at (A.fl .f32 (Pure.impl_SineTurns F x0)), none, []⟩ := by
  have h0 : evFn (cxS F tyl [(47, c_impl_IsFinite F), (120, c_math_NaN F), (127, c_math_Abs F), (128, c_math_Trunc F)] [] [(1, S_impl_SineTurns_L1 F)] 0) Try.f115 false [V.at (A.fl .f32 x0)] [] = bif F.convOk .f32 .f64 x0 then bif Bool.not (Pure.impl_IsFinite F x0) then bif F.convOk .f64 .f32 (F.ofBits .f64 9221120237041090561) then some ⟨V.at (A.fl .f32 (F.conv .f64 .f32 (F.ofBits .f64 9221120237041090561))), none, []⟩ else none else bif F.cmp .geq .f64 (F.abs .f64 (F.conv .f32 .f64 x0)) 4841369599423283200 then some ⟨V.at (A.fl .f32 0), none, []⟩ else bif F.cmp .neq .f64 (F.integral Ieee.Toward.zero (F.conv .f32 .f64 x0)) 0 then bif F.cmp .lss .f64 (F.bin .sub .f64 (F.conv .f32 .f64 x0) (F.integral Ieee.Toward.zero (F.conv .f32 .f64 x0))) 0 then bif F.cmp .geq .f64 (Pure.s1_f115 F x0) 4602678819172646912 then bif F.cmp .gtr .f64 (Pure.s2_f115 F x0) 4598175219545276416 then bif Prod.fst (Pure.impl_SineTurns_L1 F (F.cmp .geq .f64 (Pure.s1_f115 F x0) 4602678819172646912) (Pure.s3_f115 F x0) (F.bin .mul .f64 (Pure.s3_f115 F x0) (Pure.s3_f115 F x0)) 9 4607182418800017408 8) then bif F.cmp .geq .f64 (Pure.s1_f115 F x0) 4602678819172646912 then bif F.convOk .f64 .f32 (Pure.s5_f115 F x0) then some ⟨V.at (A.fl .f32 (F.conv .f64 .f32 (Pure.s5_f115 F x0))), none, []⟩ else none else bif F.convOk .f64 .f32 (Pure.s4_f115 F x0) then some ⟨V.at (A.fl .f32 (F.conv .f64 .f32 (Pure.s4_f115 F x0))), none, []⟩ else none else none else bif Prod.fst (Pure.impl_SineTurns_L1 F (F.cmp .geq .f64 (Pure.s1_f115 F x0) 4602678819172646912) (Pure.s6_f115 F x0) (F.bin .mul .f64 (Pure.s6_f115 F x0) (Pure.s6_f115 F x0)) 9 4607182418800017408 8) then bif F.cmp .geq .f64 (Pure.s1_f115 F x0) 4602678819172646912 then bif F.convOk .f64 .f32 (Pure.s8_f115 F x0) then some ⟨V.at (A.fl .f32 (F.conv .f64 .f32 (Pure.s8_f115 F x0))), none, []⟩ else none else bif F.convOk .f64 .f32 (Pure.s7_f115 F x0) then some ⟨V.at (A.fl .f32 (F.conv .f64 .f32 (Pure.s7_f115 F x0))), none, []⟩ else none else none else bif F.cmp .gtr .f64 (Pure.s1_f115 F x0) 4598175219545276416 then bif Prod.fst (Pure.impl_SineTurns_L1 F (F.cmp .geq .f64 (Pure.s1_f115 F x0) 4602678819172646912) (Pure.s9_f115 F x0) (F.bin .mul .f64 (Pure.s9_f115 F x0) (Pure.s9_f115 F x0)) 9 4607182418800017408 8) then bif F.cmp .geq .f64 (Pure.s1_f115 F x0) 4602678819172646912 then bif F.convOk .f64 .f32 (Pure.s11_f115 F x0) then some ⟨V.at (A.fl .f32 (F.conv .f64 .f32 (Pure.s11_f115 F x0))), none, []⟩ else none else bif F.convOk .f64 .f32 (Pure.s10_f115 F x0) then some ⟨V.at (A.fl .f32 (F.conv .f64 .f32 (Pure.s10_f115 F x0))), none, []⟩ else none else none else bif Prod.fst (Pure.impl_SineTurns_L1 F (F.cmp .geq .f64 (Pure.s1_f115 F x0) 4602678819172646912) (Pure.s12_f115 F x0) (F.bin .mul .f64 (Pure.s12_f115 F x0) (Pure.s12_f115 F x0)) 9 4607182418800017408 8) then bif F.cmp .geq .f64 (Pure.s1_f115 F x0) 4602678819172646912 then bif F.convOk .f64 .f32 (Pure.s14_f115 F x0) then some ⟨V.at (A.fl .f32 (F.conv .f64 .f32 (Pure.s14_f115 F x0))), none, []⟩ else none else bif F.convOk .f64 .f32 (Pure.s13_f115 F x0) then some ⟨V.at (A.fl .f32 (F.conv .f64 .f32 (Pure.s13_f115 F x0))), none, []⟩ else none else none else bif F.cmp .geq .f64 (F.bin .sub .f64 (F.conv .f32 .f64 x0) (F.integral Ieee.Toward.zero (F.conv .f32 .f64 x0))) 4602678819172646912 then bif F.cmp .gtr .f64 (Pure.s15_f115 F x0) 4598175219545276416 then bif Prod.fst (Pure.impl_SineTurns_L1 F (F.cmp .geq .f64 (F.bin .sub .f64 (F.conv .f32 .f64 x0) (F.integral Ieee.Toward.zero (F.conv .f32 .f64 x0))) 4602678819172646912) (Pure.s16_f115 F x0) (F.bin .mul .f64 (Pure.s16_f115 F x0) (Pure.s16_f115 F x0)) 9 4607182418800017408 8) then bif F.cmp .geq .f64 (F.bin .sub .f64 (F.conv .f32 .f64 x0) (F.integral Ieee.Toward.zero (F.conv .f32 .f64 x0))) 4602678819172646912 then bif F.convOk .f64 .f32 (Pure.s18_f115 F x0) then some ⟨V.at (A.fl .f32 (F.conv .f64 .f32 (Pure.s18_f115 F x0))), none, []⟩ else none else bif F.convOk .f64 .f32 (Pure.s17_f115 F x0) then some ⟨V.at (A.fl .f32 (F.conv .f64 .f32 (Pure.s17_f115 F x0))), none, []⟩ else none else none else bif Prod.fst (Pure.impl_SineTurns_L1 F (F.cmp .geq .f64 (F.bin .sub .f64 (F.conv .f32 .f64 x0) (F.integral Ieee.Toward.zero (F.conv .f32 .f64 x0))) 4602678819172646912) (Pure.s19_f115 F x0) (F.bin .mul .f64 (Pure.s19_f115 F x0) (Pure.s19_f115 F x0)) 9 4607182418800017408 8) then bif F.cmp .geq .f64 (F.bin .sub .f64 (F.conv .f32 .f64 x0) (F.integral Ieee.Toward.zero (F.conv .f32 .f64 x0))) 4602678819172646912 then bif F.convOk .f64 .f32 (Pure.s21_f115 F x0) then some ⟨V.at (A.fl .f32 (F.conv .f64 .f32 (Pure.s21_f115 F x0))), none, []⟩ else none else bif F.convOk .f64 .f32 (Pure.s20_f115 F x0) then some ⟨V.at (A.fl .f32 (F.conv .f64 .f32 (Pure.s20_f115 F x0))), none, []⟩ else none else none else bif F.cmp .gtr .f64 (F.bin .sub .f64 (F.conv .f32 .f64 x0) (F.integral Ieee.Toward.zero (F.conv .f32 .f64 x0))) 4598175219545276416 then bif Prod.fst (Pure.impl_SineTurns_L1 F (F.cmp .geq .f64 (F.bin .sub .f64 (F.conv .f32 .f64 x0) (F.integral Ieee.Toward.zero (F.conv .f32 .f64 x0))) 4602678819172646912) (Pure.s22_f115 F x0) (F.bin .mul .f64 (Pure.s22_f115 F x0) (Pure.s22_f115 F x0)) 9 4607182418800017408 8) then bif F.cmp .geq .f64 (F.bin .sub .f64 (F.conv .f32 .f64 x0) (F.integral Ieee.Toward.zero (F.conv .f32 .f64 x0))) 4602678819172646912 then bif F.convOk .f64 .f32 (Pure.s24_f115 F x0) then some ⟨V.at (A.fl .f32 (F.conv .f64 .f32 (Pure.s24_f115 F x0))), none, []⟩ else none else bif F.convOk .f64 .f32 (Pure.s23_f115 F x0) then some ⟨V.at (A.fl .f32 (F.conv .f64 .f32 (Pure.s23_f115 F x0))), none, []⟩ else none else none else bif Prod.fst (Pure.impl_SineTurns_L1 F (F.cmp .geq .f64 (F.bin .sub .f64 (F.conv .f32 .f64 x0) (F.integral Ieee.Toward.zero (F.conv .f32 .f64 x0))) 4602678819172646912) (Pure.s25_f115 F x0) (F.bin .mul .f64 (Pure.s25_f115 F x0) (Pure.s25_f115 F x0)) 9 4607182418800017408 8) then bif F.cmp .geq .f64 (F.bin .sub .f64 (F.conv .f32 .f64 x0) (F.integral Ieee.Toward.zero (F.conv .f32 .f64 x0))) 4602678819172646912 then bif F.convOk .f64 .f32 (Pure.s27_f115 F x0) then some ⟨V.at (A.fl .f32 (F.conv .f64 .f32 (Pure.s27_f115 F x0))), none, []⟩ else none else bif F.convOk .f64 .f32 (Pure.s26_f115 F x0) then some ⟨V.at (A.fl .f32 (F.conv .f64 .f32 (Pure.s26_f115 F x0))), none, []⟩ else none else none else bif F.cmp .lss .f64 (F.conv .f32 .f64 x0) 0 then bif F.cmp .geq .f64 (F.bin .add .f64 (F.conv .f32 .f64 x0) 4607182418800017408) 4602678819172646912 then bif F.cmp .gtr .f64 (F.bin .sub .f64 (F.bin .add .f64 (F.conv .f32 .f64 x0) 4607182418800017408) 4602678819172646912) 4598175219545276416 then bif Prod.fst (Pure.impl_SineTurns_L1 F (F.cmp .geq .f64 (F.bin .add .f64 (F.conv .f32 .f64 x0) 4607182418800017408) 4602678819172646912) (Pure.s28_f115 F x0) (F.bin .mul .f64 (Pure.s28_f115 F x0) (Pure.s28_f115 F x0)) 9 4607182418800017408 8) then bif F.cmp .geq .f64 (F.bin .add .f64 (F.conv .f32 .f64 x0) 4607182418800017408) 4602678819172646912 then bif F.convOk .f64 .f32 (Pure.s30_f115 F x0) then some ⟨V.at (A.fl .f32 (F.conv .f64 .f32 (Pure.s30_f115 F x0))), none, []⟩ else none else bif F.convOk .f64 .f32 (Pure.s29_f115 F x0) then some ⟨V.at (A.fl .f32 (F.conv .f64 .f32 (Pure.s29_f115 F x0))), none, []⟩ else none else none else bif Prod.fst (Pure.impl_SineTurns_L1 F (F.cmp .geq .f64 (F.bin .add .f64 (F.conv .f32 .f64 x0) 4607182418800017408) 4602678819172646912) (F.bin .mul .f64 (F.bin .sub .f64 (F.bin .add .f64 (F.conv .f32 .f64 x0) 4607182418800017408) 4602678819172646912) 4618760256179416344) (F.bin .mul .f64 (F.bin .mul .f64 (F.bin .sub .f64 (F.bin .add .f64 (F.conv .f32 .f64 x0) 4607182418800017408) 4602678819172646912) 4618760256179416344) (F.bin .mul .f64 (F.bin .sub .f64 (F.bin .add .f64 (F.conv .f32 .f64 x0) 4607182418800017408) 4602678819172646912) 4618760256179416344)) 9 4607182418800017408 8) then bif F.cmp .geq .f64 (F.bin .add .f64 (F.conv .f32 .f64 x0) 4607182418800017408) 4602678819172646912 then bif F.convOk .f64 .f32 (Pure.s32_f115 F x0) then some ⟨V.at (A.fl .f32 (F.conv .f64 .f32 (Pure.s32_f115 F x0))), none, []⟩ else none else bif F.convOk .f64 .f32 (Pure.s31_f115 F x0) then some ⟨V.at (A.fl .f32 (F.conv .f64 .f32 (Pure.s31_f115 F x0))), none, []⟩ else none else none else bif F.cmp .gtr .f64 (F.bin .add .f64 (F.conv .f32 .f64 x0) 4607182418800017408) 4598175219545276416 then bif Prod.fst (Pure.impl_SineTurns_L1 F (F.cmp .geq .f64 (F.bin .add .f64 (F.conv .f32 .f64 x0) 4607182418800017408) 4602678819172646912) (F.bin .mul .f64 (F.bin .sub .f64 4602678819172646912 (F.bin .add .f64 (F.conv .f32 .f64 x0) 4607182418800017408)) 4618760256179416344) (F.bin .mul .f64 (F.bin .mul .f64 (F.bin .sub .f64 4602678819172646912 (F.bin .add .f64 (F.conv .f32 .f64 x0) 4607182418800017408)) 4618760256179416344) (F.bin .mul .f64 (F.bin .sub .f64 4602678819172646912 (F.bin .add .f64 (F.conv .f32 .f64 x0) 4607182418800017408)) 4618760256179416344)) 9 4607182418800017408 8) then bif F.cmp .geq .f64 (F.bin .add .f64 (F.conv .f32 .f64 x0) 4607182418800017408) 4602678819172646912 then bif F.convOk .f64 .f32 (Pure.s34_f115 F x0) then some ⟨V.at (A.fl .f32 (F.conv .f64 .f32 (Pure.s34_f115 F x0))), none, []⟩ else none else bif F.convOk .f64 .f32 (Pure.s33_f115 F x0) then some ⟨V.at (A.fl .f32 (F.conv .f64 .f32 (Pure.s33_f115 F x0))), none, []⟩ else none else none else bif Prod.fst (Pure.impl_SineTurns_L1 F (F.cmp .geq .f64 (F.bin .add .f64 (F.conv .f32 .f64 x0) 4607182418800017408) 4602678819172646912) (F.bin .mul .f64 (F.bin .add .f64 (F.conv .f32 .f64 x0) 4607182418800017408) 4618760256179416344) (F.bin .mul .f64 (F.bin .mul .f64 (F.bin .add .f64 (F.conv .f32 .f64 x0) 4607182418800017408) 4618760256179416344) (F.bin .mul .f64 (F.bin .add .f64 (F.conv .f32 .f64 x0) 4607182418800017408) 4618760256179416344)) 9 4607182418800017408 8) then bif F.cmp .geq .f64 (F.bin .add .f64 (F.conv .f32 .f64 x0) 4607182418800017408) 4602678819172646912 then bif F.convOk .f64 .f32 (Pure.s36_f115 F x0) then some ⟨V.at (A.fl .f32 (F.conv .f64 .f32 (Pure.s36_f115 F x0))), none, []⟩ else none else bif F.convOk .f64 .f32 (Pure.s35_f115 F x0) then some ⟨V.at (A.fl .f32 (F.conv .f64 .f32 (Pure.s35_f115 F x0))), none, []⟩ else none else none else bif F.cmp .geq .f64 (F.conv .f32 .f64 x0) 4602678819172646912 then bif F.cmp .gtr .f64 (F.bin .sub .f64 (F.conv .f32 .f64 x0) 4602678819172646912) 4598175219545276416 then bif Prod.fst (Pure.impl_SineTurns_L1 F (F.cmp .geq .f64 (F.conv .f32 .f64 x0) 4602678819172646912) (F.bin .mul .f64 (F.bin .sub .f64 4602678819172646912 (F.bin .sub .f64 (F.conv .f32 .f64 x0) 4602678819172646912)) 4618760256179416344) (F.bin .mul .f64 (F.bin .mul .f64 (F.bin .sub .f64 4602678819172646912 (F.bin .sub .f64 (F.conv .f32 .f64 x0) 4602678819172646912)) 4618760256179416344) (F.bin .mul .f64 (F.bin .sub .f64 4602678819172646912 (F.bin .sub .f64 (F.conv .f32 .f64 x0) 4602678819172646912)) 4618760256179416344)) 9 4607182418800017408 8) then bif F.cmp .geq .f64 (F.conv .f32 .f64 x0) 4602678819172646912 then bif F.convOk .f64 .f32 (Pure.s38_f115 F x0) then some ⟨V.at (A.fl .f32 (F.conv .f64 .f32 (Pure.s38_f115 F x0))), none, []⟩ else none else bif F.convOk .f64 .f32 (Pure.s37_f115 F x0) then some ⟨V.at (A.fl .f32 (F.conv .f64 .f32 (Pure.s37_f115 F x0))), none, []⟩ else none else none else bif Prod.fst (Pure.impl_SineTurns_L1 F (F.cmp .geq .f64 (F.conv .f32 .f64 x0) 4602678819172646912) (F.bin .mul .f64 (F.bin .sub .f64 (F.conv .f32 .f64 x0) 4602678819172646912) 4618760256179416344) (F.bin .mul .f64 (F.bin .mul .f64 (F.bin .sub .f64 (F.conv .f32 .f64 x0) 4602678819172646912) 4618760256179416344) (F.bin .mul .f64 (F.bin .sub .f64 (F.conv .f32 .f64 x0) 4602678819172646912) 4618760256179416344)) 9 4607182418800017408 8) then bif F.cmp .geq .f64 (F.conv .f32 .f64 x0) 4602678819172646912 then bif F.convOk .f64 .f32 (Pure.s40_f115 F x0) then some ⟨V.at (A.fl .f32 (F.conv .f64 .f32 (Pure.s40_f115 F x0))), none, []⟩ else none else bif F.convOk .f64 .f32 (Pure.s39_f115 F x0) then some ⟨V.at (A.fl .f32 (F.conv .f64 .f32 (Pure.s39_f115 F x0))), none, []⟩ else none else none else bif F.cmp .gtr .f64 (F.conv .f32 .f64 x0) 4598175219545276416 then bif Prod.fst (Pure.impl_SineTurns_L1 F (F.cmp .geq .f64 (F.conv .f32 .f64 x0) 4602678819172646912) (F.bin .mul .f64 (F.bin .sub .f64 4602678819172646912 (F.conv .f32 .f64 x0)) 4618760256179416344) (F.bin .mul .f64 (F.bin .mul .f64 (F.bin .sub .f64 4602678819172646912 (F.conv .f32 .f64 x0)) 4618760256179416344) (F.bin .mul .f64 (F.bin .sub .f64 4602678819172646912 (F.conv .f32 .f64 x0)) 4618760256179416344)) 9 4607182418800017408 8) then bif F.cmp .geq .f64 (F.conv .f32 .f64 x0) 4602678819172646912 then bif F.convOk .f64 .f32 (Pure.s42_f115 F x0) then some ⟨V.at (A.fl .f32 (F.conv .f64 .f32 (Pure.s42_f115 F x0))), none, []⟩ else none else bif F.convOk .f64 .f32 (Pure.s41_f115 F x0) then some ⟨V.at (A.fl .f32 (F.conv .f64 .f32 (Pure.s41_f115 F x0))), none, []⟩ else none else none else bif Prod.fst (Pure.impl_SineTurns_L1 F (F.cmp .geq .f64 (F.conv .f32 .f64 x0) 4602678819172646912) (F.bin .mul .f64 (F.conv .f32 .f64 x0) 4618760256179416344) (F.bin .mul .f64 (F.bin .mul .f64 (F.conv .f32 .f64 x0) 4618760256179416344) (F.bin .mul .f64 (F.conv .f32 .f64 x0) 4618760256179416344)) 9 4607182418800017408 8) then bif F.cmp .geq .f64 (F.conv .f32 .f64 x0) 4602678819172646912 then bif F.convOk .f64 .f32 (Pure.s44_f115 F x0) then some ⟨V.at (A.fl .f32 (F.conv .f64 .f32 (Pure.s44_f115 F x0))), none, []⟩ else none else bif F.convOk .f64 .f32 (Pure.s43_f115 F x0) then some ⟨V.at (A.fl .f32 (F.conv .f64 .f32 (Pure.s43_f115 F x0))), none, []⟩ else none else none else none := by kernel_rfl
  rw [h0]
  unfold Pure.impl_SineTurns Pure.impl_SineTurns_ok
  cases (F.convOk .f32 .f64 x0) with
  | true =>
    cases (Pure.impl_IsFinite F x0) with
    | true =>
      cases (F.cmp .geq .f64 (F.abs .f64 (F.conv .f32 .f64 x0)) 4841369599423283200) with
      | true =>
        intro _; rfl
      | false =>
        cases (F.cmp .neq .f64 (F.integral Ieee.Toward.zero (F.conv .f32 .f64 x0)) 0) with
        | true =>
          cases (F.cmp .lss .f64 (F.bin .sub .f64 (F.conv .f32 .f64 x0) (F.integral Ieee.Toward.zero (F.conv .f32 .f64 x0))) 0) with
          | true =>
            cases (F.cmp .geq .f64 (Pure.s1_f115 F x0) 4602678819172646912) with
            | true =>
              cases (F.cmp .gtr .f64 (Pure.s2_f115 F x0) 4598175219545276416) with
              | true =>
                cases (Prod.fst (Pure.impl_SineTurns_L1 F true (Pure.s3_f115 F x0) (F.bin .mul .f64 (Pure.s3_f115 F x0) (Pure.s3_f115 F x0)) 9 4607182418800017408 8)) with
                | true =>
                  cases (F.convOk .f64 .f32 (Pure.s5_f115 F x0)) with
                  | true =>
                    intro _; rfl
                  | false =>
                    intro h; exact absurd h Bool.false_ne_true
                | false =>
                  intro h; exact absurd h Bool.false_ne_true
              | false =>
                cases (Prod.fst (Pure.impl_SineTurns_L1 F true (Pure.s6_f115 F x0) (F.bin .mul .f64 (Pure.s6_f115 F x0) (Pure.s6_f115 F x0)) 9 4607182418800017408 8)) with
                | true =>
                  cases (F.convOk .f64 .f32 (Pure.s8_f115 F x0)) with
                  | true =>
                    intro _; rfl
                  | false =>
                    intro h; exact absurd h Bool.false_ne_true
                | false =>
                  intro h; exact absurd h Bool.false_ne_true
            | false =>
              cases (F.cmp .gtr .f64 (Pure.s1_f115 F x0) 4598175219545276416) with
              | true =>
                cases (Prod.fst (Pure.impl_SineTurns_L1 F false (Pure.s9_f115 F x0) (F.bin .mul .f64 (Pure.s9_f115 F x0) (Pure.s9_f115 F x0)) 9 4607182418800017408 8)) with
                | true =>
                  cases (F.convOk .f64 .f32 (Pure.s10_f115 F x0)) with
                  | true =>
                    intro _; rfl
                  | false =>
                    intro h; exact absurd h Bool.false_ne_true
                | false =>
                  intro h; exact absurd h Bool.false_ne_true
              | false =>
                cases (Prod.fst (Pure.impl_SineTurns_L1 F false (Pure.s12_f115 F x0) (F.bin .mul .f64 (Pure.s12_f115 F x0) (Pure.s12_f115 F x0)) 9 4607182418800017408 8)) with
                | true =>
                  cases (F.convOk .f64 .f32 (Pure.s13_f115 F x0)) with
                  | true =>
                    intro _; rfl
                  | false =>
                    intro h; exact absurd h Bool.false_ne_true
                | false =>
                  intro h; exact absurd h Bool.false_ne_true
          | false =>
            cases (F.cmp .geq .f64 (F.bin .sub .f64 (F.conv .f32 .f64 x0) (F.integral Ieee.Toward.zero (F.conv .f32 .f64 x0))) 4602678819172646912) with
            | true =>
              cases (F.cmp .gtr .f64 (Pure.s15_f115 F x0) 4598175219545276416) with
              | true =>
                cases (Prod.fst (Pure.impl_SineTurns_L1 F true (Pure.s16_f115 F x0) (F.bin .mul .f64 (Pure.s16_f115 F x0) (Pure.s16_f115 F x0)) 9 4607182418800017408 8)) with
                | true =>
                  cases (F.convOk .f64 .f32 (Pure.s18_f115 F x0)) with
                  | true =>
                    intro _; rfl
                  | false =>
                    intro h; exact absurd h Bool.false_ne_true
                | false =>
                  intro h; exact absurd h Bool.false_ne_true
              | false =>
                cases (Prod.fst (Pure.impl_SineTurns_L1 F true (Pure.s19_f115 F x0) (F.bin .mul .f64 (Pure.s19_f115 F x0) (Pure.s19_f115 F x0)) 9 4607182418800017408 8)) with
                | true =>
                  cases (F.convOk .f64 .f32 (Pure.s21_f115 F x0)) with
                  | true =>
                    intro _; rfl
                  | false =>
                    intro h; exact absurd h Bool.false_ne_true
                | false =>
                  intro h; exact absurd h Bool.false_ne_true
            | false =>
              cases (F.cmp .gtr .f64 (F.bin .sub .f64 (F.conv .f32 .f64 x0) (F.integral Ieee.Toward.zero (F.conv .f32 .f64 x0))) 4598175219545276416) with
              | true =>
                cases (Prod.fst (Pure.impl_SineTurns_L1 F false (Pure.s22_f115 F x0) (F.bin .mul .f64 (Pure.s22_f115 F x0) (Pure.s22_f115 F x0)) 9 4607182418800017408 8)) with
                | true =>
                  cases (F.convOk .f64 .f32 (Pure.s23_f115 F x0)) with
                  | true =>
                    intro _; rfl
                  | false =>
                    intro h; exact absurd h Bool.false_ne_true
                | false =>
                  intro h; exact absurd h Bool.false_ne_true
              | false =>
                cases (Prod.fst (Pure.impl_SineTurns_L1 F false (Pure.s25_f115 F x0) (F.bin .mul .f64 (Pure.s25_f115 F x0) (Pure.s25_f115 F x0)) 9 4607182418800017408 8)) with
                | true =>
                  cases (F.convOk .f64 .f32 (Pure.s26_f115 F x0)) with
                  | true =>
                    intro _; rfl
                  | false =>
                    intro h; exact absurd h Bool.false_ne_true
                | false =>
                  intro h; exact absurd h Bool.false_ne_true
        | false =>
          cases (F.cmp .lss .f64 (F.conv .f32 .f64 x0) 0) with
          | true =>
            cases (F.cmp .geq .f64 (F.bin .add .f64 (F.conv .f32 .f64 x0) 4607182418800017408) 4602678819172646912) with
            | true =>
              cases (F.cmp .gtr .f64 (F.bin .sub .f64 (F.bin .add .f64 (F.conv .f32 .f64 x0) 4607182418800017408) 4602678819172646912) 4598175219545276416) with
              | true =>
                cases (Prod.fst (Pure.impl_SineTurns_L1 F true (Pure.s28_f115 F x0) (F.bin .mul .f64 (Pure.s28_f115 F x0) (Pure.s28_f115 F x0)) 9 4607182418800017408 8)) with
                | true =>
                  cases (F.convOk .f64 .f32 (Pure.s30_f115 F x0)) with
                  | true =>
                    intro _; rfl
                  | false =>
                    intro h; exact absurd h Bool.false_ne_true
                | false =>
                  intro h; exact absurd h Bool.false_ne_true
              | false =>
                cases (Prod.fst (Pure.impl_SineTurns_L1 F true (F.bin .mul .f64 (F.bin .sub .f64 (F.bin .add .f64 (F.conv .f32 .f64 x0) 4607182418800017408) 4602678819172646912) 4618760256179416344) (F.bin .mul .f64 (F.bin .mul .f64 (F.bin .sub .f64 (F.bin .add .f64 (F.conv .f32 .f64 x0) 4607182418800017408) 4602678819172646912) 4618760256179416344) (F.bin .mul .f64 (F.bin .sub .f64 (F.bin .add .f64 (F.conv .f32 .f64 x0) 4607182418800017408) 4602678819172646912) 4618760256179416344)) 9 4607182418800017408 8)) with
                | true =>
                  cases (F.convOk .f64 .f32 (Pure.s32_f115 F x0)) with
                  | true =>
                    intro _; rfl
                  | false =>
                    intro h; exact absurd h Bool.false_ne_true
                | false =>
                  intro h; exact absurd h Bool.false_ne_true
            | false =>
              cases (F.cmp .gtr .f64 (F.bin .add .f64 (F.conv .f32 .f64 x0) 4607182418800017408) 4598175219545276416) with
              | true =>
                cases (Prod.fst (Pure.impl_SineTurns_L1 F false (F.bin .mul .f64 (F.bin .sub .f64 4602678819172646912 (F.bin .add .f64 (F.conv .f32 .f64 x0) 4607182418800017408)) 4618760256179416344) (F.bin .mul .f64 (F.bin .mul .f64 (F.bin .sub .f64 4602678819172646912 (F.bin .add .f64 (F.conv .f32 .f64 x0) 4607182418800017408)) 4618760256179416344) (F.bin .mul .f64 (F.bin .sub .f64 4602678819172646912 (F.bin .add .f64 (F.conv .f32 .f64 x0) 4607182418800017408)) 4618760256179416344)) 9 4607182418800017408 8)) with
                | true =>
                  cases (F.convOk .f64 .f32 (Pure.s33_f115 F x0)) with
                  | true =>
                    intro _; rfl
                  | false =>
                    intro h; exact absurd h Bool.false_ne_true
                | false =>
                  intro h; exact absurd h Bool.false_ne_true
              | false =>
                cases (Prod.fst (Pure.impl_SineTurns_L1 F false (F.bin .mul .f64 (F.bin .add .f64 (F.conv .f32 .f64 x0) 4607182418800017408) 4618760256179416344) (F.bin .mul .f64 (F.bin .mul .f64 (F.bin .add .f64 (F.conv .f32 .f64 x0) 4607182418800017408) 4618760256179416344) (F.bin .mul .f64 (F.bin .add .f64 (F.conv .f32 .f64 x0) 4607182418800017408) 4618760256179416344)) 9 4607182418800017408 8)) with
                | true =>
                  cases (F.convOk .f64 .f32 (Pure.s35_f115 F x0)) with
                  | true =>
                    intro _; rfl
                  | false =>
                    intro h; exact absurd h Bool.false_ne_true
                | false =>
                  intro h; exact absurd h Bool.false_ne_true
          | false =>
            cases (F.cmp .geq .f64 (F.conv .f32 .f64 x0) 4602678819172646912) with
            | true =>
              cases (F.cmp .gtr .f64 (F.bin .sub .f64 (F.conv .f32 .f64 x0) 4602678819172646912) 4598175219545276416) with
              | true =>
                cases (Prod.fst (Pure.impl_SineTurns_L1 F true (F.bin .mul .f64 (F.bin .sub .f64 4602678819172646912 (F.bin .sub .f64 (F.conv .f32 .f64 x0) 4602678819172646912)) 4618760256179416344) (F.bin .mul .f64 (F.bin .mul .f64 (F.bin .sub .f64 4602678819172646912 (F.bin .sub .f64 (F.conv .f32 .f64 x0) 4602678819172646912)) 4618760256179416344) (F.bin .mul .f64 (F.bin .sub .f64 4602678819172646912 (F.bin .sub .f64 (F.conv .f32 .f64 x0) 4602678819172646912)) 4618760256179416344)) 9 4607182418800017408 8)) with
                | true =>
                  cases (F.convOk .f64 .f32 (Pure.s38_f115 F x0)) with
                  | true =>
                    intro _; rfl
                  | false =>
                    intro h; exact absurd h Bool.false_ne_true
                | false =>
                  intro h; exact absurd h Bool.false_ne_true
              | false =>
                cases (Prod.fst (Pure.impl_SineTurns_L1 F true (F.bin .mul .f64 (F.bin .sub .f64 (F.conv .f32 .f64 x0) 4602678819172646912) 4618760256179416344) (F.bin .mul .f64 (F.bin .mul .f64 (F.bin .sub .f64 (F.conv .f32 .f64 x0) 4602678819172646912) 4618760256179416344) (F.bin .mul .f64 (F.bin .sub .f64 (F.conv .f32 .f64 x0) 4602678819172646912) 4618760256179416344)) 9 4607182418800017408 8)) with
                | true =>
                  cases (F.convOk .f64 .f32 (Pure.s40_f115 F x0)) with
                  | true =>
                    intro _; rfl
                  | false =>
                    intro h; exact absurd h Bool.false_ne_true
                | false =>
                  intro h; exact absurd h Bool.false_ne_true
            | false =>
              cases (F.cmp .gtr .f64 (F.conv .f32 .f64 x0) 4598175219545276416) with
              | true =>
                cases (Prod.fst (Pure.impl_SineTurns_L1 F false (F.bin .mul .f64 (F.bin .sub .f64 4602678819172646912 (F.conv .f32 .f64 x0)) 4618760256179416344) (F.bin .mul .f64 (F.bin .mul .f64 (F.bin .sub .f64 4602678819172646912 (F.conv .f32 .f64 x0)) 4618760256179416344) (F.bin .mul .f64 (F.bin .sub .f64 4602678819172646912 (F.conv .f32 .f64 x0)) 4618760256179416344)) 9 4607182418800017408 8)) with
                | true =>
                  cases (F.convOk .f64 .f32 (Pure.s41_f115 F x0)) with
                  | true =>
                    intro _; rfl
                  | false =>
                    intro h; exact absurd h Bool.false_ne_true
                | false =>
                  intro h; exact absurd h Bool.false_ne_true
              | false =>
                cases (Prod.fst (Pure.impl_SineTurns_L1 F false (F.bin .mul .f64 (F.conv .f32 .f64 x0) 4618760256179416344) (F.bin .mul .f64 (F.bin .mul .f64 (F.conv .f32 .f64 x0) 4618760256179416344) (F.bin .mul .f64 (F.conv .f32 .f64 x0) 4618760256179416344)) 9 4607182418800017408 8)) with
                | true =>
                  cases (F.convOk .f64 .f32 (Pure.s43_f115 F x0)) with
                  | true =>
                    intro _; rfl
                  | false =>
                    intro h; exact absurd h Bool.false_ne_true
                | false =>
                  intro h; exact absurd h Bool.false_ne_true
    | false =>
      cases (F.convOk .f64 .f32 (F.ofBits .f64 9221120237041090561)) with
      | true =>
        intro _; rfl
      | false =>
        intro h; exact absurd h Bool.false_ne_true
  | false =>
    intro h; exact absurd h Bool.false_ne_true
theorem ok_impl_SineTurns : CallOK Try.prog 115 (c_impl_SineTurns real) := by
  refine callOK_of fun args h ret hc => ?_
  unfold c_impl_SineTurns at hc
  split at hc
  · rename_i x0
    obtain ⟨hok, rfl⟩ := some_ret hc
    exact holds_ev prog_ok (allOK_cons ok_impl_IsFinite (allOK_cons ok_math_NaN (allOK_cons ok_math_Abs (allOK_cons ok_math_Trunc allOK_nil)))) Try.func115 rfl rfl (smL_cons (body := .loop (loopB 1 (codeOf Try.f115))) (by kernel_rfl) t_impl_SineTurns_L1 smL_nil) rfl (e_impl_SineTurns real x0 hok)
  · cases hc
end Go.Fx
