import Derived.Test.YtnlfpamdcohiiaaXr3s
import Derived.Test.YtnlfpamdcohiiaaXSin
namespace Go.Fx

theorem spec_sinL (b : Bool) (z u : Int) : ∀ (n : Nat) (p k : Int), Pure.spec_l01SineWide_L0 real b z u n p k = sinLoop u n p k := by
  intro n
  induction n with
  | zero => intro p k; rfl
  | succ n ih => intro p k; unfold Pure.spec_l01SineWide_L0 sinLoop; rw [ih]
theorem impl_sinL (b : Bool) (z u : Int) : ∀ (n : Nat) (p k : Int), Pure.impl_SineTurns_L1 real b z u n p k = sinLoop u n p k := by
  intro n
  induction n with
  | zero => intro p k; rfl
  | succ n ih => intro p k; unfold Pure.impl_SineTurns_L1 sinLoop; rw [ih]

theorem spec_sine_tail (y : Int) : Pure.spec_l01SineWide real y = bif real.cmp .neq .f64 (real.bin .sub .f64 y y) 0 then real.ofBits .f64 9221120237041090561 else bif real.cmp .geq .f64 y 4841369599423283200 then 0 else bif real.cmp .leq .f64 y 14064741636278059008 then 0 else sinPick sinOut (frac y) := by
  unfold Pure.spec_l01SineWide
  simp only [spec_sinL]
  rfl
theorem spec_sine_ok (y : Int) : Pure.spec_l01SineWide_ok real y = bif real.cmp .neq .f64 (real.bin .sub .f64 y y) 0 then true else bif real.cmp .geq .f64 y 4841369599423283200 then true else bif real.cmp .leq .f64 y 14064741636278059008 then true else bif real.toIntOk .f64 .i64 y then sinPick (fun _ m => (sinL m).1) (frac y) else false := by
  unfold Pure.spec_l01SineWide_ok
  simp only [spec_sinL]
  rfl
theorem impl_sine_tail (x : Int) : Pure.impl_SineTurns real x = bif Pure.impl_IsFinite real x then bif real.cmp .geq .f64 (real.abs .f64 (real.conv .f32 .f64 x)) 4841369599423283200 then 0 else
    bif real.cmp .neq .f64 (real.integral .zero (real.conv .f32 .f64 x)) 0 then sinPick (fun t m => real.conv .f64 .f32 (sinOut t m)) (real.bin .sub .f64 (real.conv .f32 .f64 x) (real.integral .zero (real.conv .f32 .f64 x))) else sinPick (fun t m => real.conv .f64 .f32 (sinOut t m)) (real.conv .f32 .f64 x)
    else real.conv .f64 .f32 (real.ofBits .f64 9221120237041090561) := by
  unfold Pure.impl_SineTurns
  simp only [Pure.s1_f63, Pure.s2_f63, Pure.s3_f63, Pure.s4_f63, Pure.s5_f63, Pure.s6_f63, Pure.s7_f63, Pure.s8_f63, Pure.s9_f63, Pure.s10_f63, Pure.s11_f63, Pure.s12_f63, Pure.s13_f63, Pure.s14_f63, Pure.s15_f63, Pure.s16_f63, Pure.s17_f63, Pure.s18_f63, Pure.s19_f63, Pure.s20_f63, Pure.s21_f63, Pure.s22_f63, Pure.s23_f63, Pure.s24_f63, Pure.s25_f63, Pure.s26_f63, Pure.s27_f63, Pure.s28_f63, Pure.s29_f63, Pure.s30_f63, Pure.s31_f63, Pure.s32_f63, Pure.s33_f63, Pure.s34_f63, Pure.s35_f63, Pure.s36_f63, Pure.s37_f63, Pure.s38_f63, Pure.s39_f63, Pure.s40_f63, Pure.s41_f63, Pure.s42_f63, Pure.s43_f63, Pure.s44_f63, impl_sinL]
  rfl
theorem impl_sine_ok (x : Int) : Pure.impl_SineTurns_ok real x = bif real.convOk .f32 .f64 x then bif Pure.impl_IsFinite real x then bif real.cmp .geq .f64 (real.abs .f64 (real.conv .f32 .f64 x)) 4841369599423283200 then true else
    bif real.cmp .neq .f64 (real.integral .zero (real.conv .f32 .f64 x)) 0 then sinPick (fun t m => bif (sinL m).1 then real.convOk .f64 .f32 (sinOut t m) else false) (real.bin .sub .f64 (real.conv .f32 .f64 x) (real.integral .zero (real.conv .f32 .f64 x))) else sinPick (fun t m => bif (sinL m).1 then real.convOk .f64 .f32 (sinOut t m) else false) (real.conv .f32 .f64 x)
    else real.convOk .f64 .f32 (real.ofBits .f64 9221120237041090561) else false := by
  unfold Pure.impl_SineTurns_ok
  simp only [impl_sinL]
  rfl

theorem sine_is {x : Int} (h : OkF .f32 x) : Pure.impl_SineTurns_ok real x = true ∧ Pure.spec_l01Sine_ok real x = true ∧ Pure.spec_l01Sine real x = Pure.impl_SineTurns real x ∧
    (Fin .f32 x → Le .f32 4 (Pure.impl_SineTurns real x)) := by
  have en : real.convOk .f64 .f32 (real.ofBits .f64 9221120237041090561) = true := by decide +kernel
  unfold Pure.spec_l01Sine Pure.spec_l01Sine_ok Pure.spec_l01Narrow Pure.spec_l01Narrow_ok
  rw [spec_sine_tail, spec_sine_ok, impl_sine_tail, impl_sine_ok, convOk_up, en]
  by_cases hf : Fin .f32 x
  · have hif : Pure.impl_IsFinite real x = true := (isfin_iff h).2 hf
    obtain ⟨c1, _⟩ := conv_up hf
    rw [hif, fin_up_sub c1]
    generalize real.conv .f32 .f64 x = y at *
    obtain ⟨g1, g2, g3⟩ := great_iff c1
    rw [g1, g2, g3]
    have ff := frac_facts c1
    generalize 2 ^ 52 * unit .f64 = B at *
    have z0 : real.convOk .f64 .f32 0 = true ∧ real.conv .f64 .f32 0 = 0 := by decide +kernel
    have zl : Le .f32 4 0 := Le.const (by decide +kernel)
    by_cases hg : B ≤ (fv .f64 y).natAbs
    · rw [decide_eq_true hg]
      by_cases hp : (B : Int) ≤ fv .f64 y
      · rw [decide_eq_true hp]; exact ⟨rfl, z0.1, z0.2, fun _ => zl⟩
      · rw [decide_eq_false hp, decide_eq_true (by omega)]; exact ⟨rfl, z0.1, z0.2, fun _ => zl⟩
    · rw [decide_eq_false hg, decide_eq_false (by omega), decide_eq_false (by omega)]
      obtain ⟨f1, f2, f3, f4⟩ := ff (by omega)
      have k1 : sinPick (fun _ m => (sinL m).1) (frac y) = true := sinPick_ind (Q := fun b => b = true) f2 fun t m hm => (sinOut_le (t := t) hm).1
      have k2 : sinPick (fun t m => bif (sinL m).1 then real.convOk .f64 .f32 (sinOut t m) else false) (frac y) = true := sinPick_ind (Q := fun b => b = true) f2 fun t m hm => by
        obtain ⟨h1, h2⟩ := sinOut_le (t := t) hm
        rw [h1, (h2.down (by omega)).2]; rfl
      have k3 := sinPick_map (real.conv .f64 .f32) sinOut (frac y)
      have k4 : Le .f64 4 (sinPick sinOut (frac y)) := sinPick_ind (Q := fun b => Le .f64 4 b) f2 fun t m hm => (sinOut_le (t := t) hm).2
      have k5 := k4.down (by omega)
      rw [f1, k1]
      simp only [cond_true, cond_false]
      rw [k5.2]
      cases hw : real.cmp .neq .f64 (real.integral .zero y) 0 with
      | true => rw [f3 hw, k2, k3]; exact ⟨rfl, rfl, rfl, fun _ => k5.1⟩
      | false =>
        have e := f4 hw
        have k2' : sinPick (fun t m => bif (sinL m).1 then real.convOk .f64 .f32 (sinOut t m) else false) y = true := by rw [e]; exact k2
        have k3' : sinPick (fun t m => real.conv .f64 .f32 (sinOut t m)) y = real.conv .f64 .f32 (sinPick sinOut (frac y)) := by
          rw [← k3]; exact congrArg _ e
        rw [k2', k3']; exact ⟨rfl, rfl, rfl, fun _ => k5.1⟩
  · have hif : Pure.impl_IsFinite real x = false := by
      cases hh : Pure.impl_IsFinite real x with
      | false => rfl
      | true => exact absurd ((isfin_iff h).1 hh) hf
    rw [hif, notfin_up h hf]
    exact ⟨rfl, en, rfl, fun h1 => absurd h1 hf⟩
end Go.Fx
