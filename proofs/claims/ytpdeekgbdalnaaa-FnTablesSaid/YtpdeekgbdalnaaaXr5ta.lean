import Derived.Test.YtpdeekgbdalnaaaXr5o
import Derived.Test.YtpdeekgbdalnaaaXSin3
import Derived.Test.YtpdeekgbdalnaaaF3
/- Tables: numbers of falls and of tables, and how near they come. -/
namespace Go.Fx
open Ieee
set_option exponentiation.threshold 5000
theorem okF_of {x : Int} (h : Fin .f32 x) : OkF .f32 x := by
  refine ⟨x.toNat, ?_, ?_⟩
  · rw [cf_of_num h.toNum.notNaN]; have := h.nonneg; omega
  · have := h.word
    have h2 : FloatKind.f32.format.signWeight = 2147483648 := by decide
    simp [FloatKind.has]; omega
theorem isFin {x : Int} (h : Fin .f32 x) : Pure.impl_IsFinite real x = true := (isfin_iff (okF_of h)).2 h

theorem index_finite (xs : List (List Int)) (hl : xs.length < 4611686018427387904) : ∀ (n : Nat) (i : Nat), i ≤ xs.length → xs.length - i < n →
    (Pure.slices_IndexFunc_float32_float32_finite_L0 real xs.length xs n i).1 = true ∧
    (Pure.slices_IndexFunc_float32_float32_finite_L0 real xs.length xs n i).2.1 = ((xs.drop i).any fun r => Pure.impl_finite_c1 real (r.getD 0 0)) ∧
    0 ≤ (Pure.slices_IndexFunc_float32_float32_finite_L0 real xs.length xs n i).2.2 := by
  intro n
  induction n with
  | zero => intro i _ h; omega
  | succ n ih =>
    intro i hi hn
    unfold Pure.slices_IndexFunc_float32_float32_finite_L0
    have e0 : decide (0 ≤ (i : Int)) = true := by simp
    rcases Nat.lt_or_ge i xs.length with h | h
    · have e1 : decide ((i : Int) < (xs.length : Int)) = true := by simp; exact h
      have e2 : Decidable.decide ((i : Int) < Int.ofNat xs.length) = true := e1
      rw [e1, e0, e2]
      simp only [cond_true, Int.toNat_natCast]
      have hd : xs.drop i = xs[i] :: xs.drop (i + 1) := List.drop_eq_getElem_cons h
      rw [hd]
      simp only [List.any_cons]
      rw [getD_some h]
      cases Pure.impl_finite_c1 real (xs[i].getD 0 0) with
      | true => simp
      | false =>
        simp only [cond_false, Bool.false_or]
        rw [wrap64 (by omega) (by omega)]
        have := ih (i + 1) (by omega) (by omega)
        simpa using this
    · have e1 : decide ((i : Int) < (xs.length : Int)) = false := by simp; exact h
      rw [e1]
      have : xs.drop i = [] := List.drop_eq_nil_of_le h
      simp [this]

theorem impl_finite_eq (xs : List (List Int)) (hl : xs.length < 4611686018427387904) : Pure.impl_finite_ok real xs = true ∧ Pure.impl_finite real xs = xs.all fun r => Pure.impl_IsFinite real (r.getD 0 0) := by
  obtain ⟨h1, h2, h3⟩ := index_finite xs hl (xs.length + 1) 0 (Nat.zero_le _) (by omega)
  unfold Pure.impl_finite_ok Pure.impl_finite Pure.slices_ContainsFunc_float32_float32_finite_ok Pure.slices_ContainsFunc_float32_float32_finite Pure.slices_IndexFunc_float32_float32_finite_ok Pure.slices_IndexFunc_float32_float32_finite
  refine ⟨h1, ?_⟩
  have e : xs.all (fun r => Pure.impl_IsFinite real (r.getD 0 0)) = !((xs.drop 0).any fun r => Pure.impl_finite_c1 real (r.getD 0 0)) := by
    unfold Pure.impl_finite_c1
    rw [List.drop_zero, List.all_eq_not_any_not]
    have e2 : ∀ b : Bool, (bif b then false else true) = !b := fun b => by cases b <;> rfl
    simp only [e2]
  rw [e, ← h2]
  change (bif decide ((bif (Pure.slices_IndexFunc_float32_float32_finite_L0 real xs.length xs (xs.length + 1) 0).2.1 then (Pure.slices_IndexFunc_float32_float32_finite_L0 real xs.length xs (xs.length + 1) 0).2.2 else -1) ≥ 0) then false else true) = _
  change 0 ≤ (Pure.slices_IndexFunc_float32_float32_finite_L0 real xs.length xs (xs.length + 1) 0).2.2 at h3
  generalize (Pure.slices_IndexFunc_float32_float32_finite_L0 real xs.length xs (xs.length + 1) ((0 : Nat) : Int)) = r at *
  change (bif decide ((bif r.2.1 then r.2.2 else -1) ≥ 0) then false else true) = _
  cases hr : r.2.1 with
  | true => simp only [cond_true]; rw [decide_eq_true h3]; rfl
  | false => rfl


theorem mx_num {k : FloatKind} {x y : Int} (hx : Num k x) (hy : Num k y) : (real.mx k x y = x ∧ fv k y ≤ fv k x) ∨ (real.mx k x y = y ∧ fv k x ≤ fv k y) := by
  show (rMx k x y = x ∧ fv k y ≤ fv k x) ∨ (rMx k x y = y ∧ fv k x ≤ fv k y)
  unfold rMx
  rw [order_num hx hy]
  rcases Int.lt_trichotomy (fv k x) (fv k y) with h | h | h
  · rw [ordOf_lt h]; exact .inr ⟨rfl, by omega⟩
  · rw [ordOf_eq h]
    by_cases hg : (k.decode x.toNat).neg = true
    · exact .inr ⟨by simp only; rw [if_pos hg], by omega⟩
    · exact .inl ⟨by simp only; rw [if_neg hg], by omega⟩
  · rw [ordOf_gt h]; exact .inl ⟨rfl, by omega⟩


theorem impl_sinL (b : Bool) (z u : Int) : ∀ (n : Nat) (p k : Int), Pure.impl_SineTurns_L1 real b z u n p k = sinLoop u n p k := by
  intro n
  induction n with
  | zero => intro p k; rfl
  | succ n ih => intro p k; unfold Pure.impl_SineTurns_L1 sinLoop; rw [ih]
theorem impl_sine_tail (x : Int) : Pure.impl_SineTurns real x = bif Pure.impl_IsFinite real x then bif real.cmp .geq .f64 (real.abs .f64 (real.conv .f32 .f64 x)) 4841369599423283200 then 0 else
    bif real.cmp .neq .f64 (real.integral .zero (real.conv .f32 .f64 x)) 0 then sinPick (fun t m => real.conv .f64 .f32 (sinOut t m)) (real.bin .sub .f64 (real.conv .f32 .f64 x) (real.integral .zero (real.conv .f32 .f64 x))) else sinPick (fun t m => real.conv .f64 .f32 (sinOut t m)) (real.conv .f32 .f64 x)
    else real.conv .f64 .f32 (real.ofBits .f64 9221120237041090561) := by
  unfold Pure.impl_SineTurns
  simp only [Pure.s1_f64, Pure.s2_f64, Pure.s3_f64, Pure.s4_f64, Pure.s5_f64, Pure.s6_f64, Pure.s7_f64, Pure.s8_f64, Pure.s9_f64, Pure.s10_f64, Pure.s11_f64, Pure.s12_f64, Pure.s13_f64, Pure.s14_f64, Pure.s15_f64, Pure.s16_f64, Pure.s17_f64, Pure.s18_f64, Pure.s19_f64, Pure.s20_f64, Pure.s21_f64, Pure.s22_f64, Pure.s23_f64, Pure.s24_f64, Pure.s25_f64, Pure.s26_f64, Pure.s27_f64, Pure.s28_f64, Pure.s29_f64, Pure.s30_f64, Pure.s31_f64, Pure.s32_f64, Pure.s33_f64, Pure.s34_f64, Pure.s35_f64, Pure.s36_f64, Pure.s37_f64, Pure.s38_f64, Pure.s39_f64, Pure.s40_f64, Pure.s41_f64, Pure.s42_f64, Pure.s43_f64, Pure.s44_f64, impl_sinL]
  rfl
theorem impl_sine_ok (x : Int) : Pure.impl_SineTurns_ok real x = bif real.convOk .f32 .f64 x then bif Pure.impl_IsFinite real x then bif real.cmp .geq .f64 (real.abs .f64 (real.conv .f32 .f64 x)) 4841369599423283200 then true else
    bif real.cmp .neq .f64 (real.integral .zero (real.conv .f32 .f64 x)) 0 then sinPick (fun t m => bif (sinL m).1 then real.convOk .f64 .f32 (sinOut t m) else false) (real.bin .sub .f64 (real.conv .f32 .f64 x) (real.integral .zero (real.conv .f32 .f64 x))) else sinPick (fun t m => bif (sinL m).1 then real.convOk .f64 .f32 (sinOut t m) else false) (real.conv .f32 .f64 x)
    else real.convOk .f64 .f32 (real.ofBits .f64 9221120237041090561) else false := by
  unfold Pure.impl_SineTurns_ok
  simp only [Pure.s1_f64, Pure.s2_f64, Pure.s3_f64, Pure.s4_f64, Pure.s5_f64, Pure.s6_f64, Pure.s7_f64, Pure.s8_f64, Pure.s9_f64, Pure.s10_f64, Pure.s11_f64, Pure.s12_f64, Pure.s13_f64, Pure.s14_f64, Pure.s15_f64, Pure.s16_f64, Pure.s17_f64, Pure.s18_f64, Pure.s19_f64, Pure.s20_f64, Pure.s21_f64, Pure.s22_f64, Pure.s23_f64, Pure.s24_f64, Pure.s25_f64, Pure.s26_f64, Pure.s27_f64, Pure.s28_f64, Pure.s29_f64, Pure.s30_f64, Pure.s31_f64, Pure.s32_f64, Pure.s33_f64, Pure.s34_f64, Pure.s35_f64, Pure.s36_f64, Pure.s37_f64, Pure.s38_f64, Pure.s39_f64, Pure.s40_f64, Pure.s41_f64, Pure.s42_f64, Pure.s43_f64, Pure.s44_f64, impl_sinL]
  rfl

theorem sine_val {w : Int} (hw : Fin .f32 w) (h0 : 0 ≤ fv .f32 w) (h1 : fv .f32 w ≤ 2 ^ 156) : Pure.impl_SineTurns_ok real w = true ∧ Pure.impl_SineTurns real w = sineV w := by
  obtain ⟨c1, c2⟩ := conv_up hw
  have hG := gU_pos
  have e925 : ((2 ^ 925 : Nat) : Int) = gU := by unfold gU; rfl
  rw [e925] at c2
  rw [impl_sine_tail, impl_sine_ok, convOk_up, isFin hw]
  unfold sineV
  have hlt : (fv .f64 (real.conv .f32 .f64 w)).natAbs < 2 ^ 52 * unit .f64 := by
    rw [c2, unit_g, Int.natAbs_mul, Int.natAbs_natCast, ← Nat.mul_assoc]
    exact Nat.mul_lt_mul_of_pos_right (by omega) hG
  generalize real.conv .f32 .f64 w = y at *
  obtain ⟨g1, _, _⟩ := great_iff c1
  obtain ⟨f1, f2, f3, f4⟩ := frac_facts c1 hlt
  rw [g1, decide_eq_false (Nat.not_le.2 hlt)]
  have k2 : sinPick (fun t m => bif (sinL m).1 then real.convOk .f64 .f32 (sinOut t m) else false) (frac y) = true := sinPick_ind (Q := fun b => b = true) f2 fun t m hm => by
    obtain ⟨h1, h2⟩ := sinOut_le (t := t) hm
    rw [h1, (h2.down (by omega)).2]; rfl
  have k3 := sinPick_map (real.conv .f64 .f32) sinOut (frac y)
  simp only [cond_true, cond_false]
  cases hw : real.cmp .neq .f64 (real.integral .zero y) 0 with
  | true => rw [f3 hw, k2, k3]; exact ⟨rfl, rfl⟩
  | false =>
    have e := f4 hw
    have k2' : sinPick (fun t m => bif (sinL m).1 then real.convOk .f64 .f32 (sinOut t m) else false) y = true := by rw [e]; exact k2
    have k3' : sinPick (fun t m => real.conv .f64 .f32 (sinOut t m)) y = real.conv .f64 .f32 (sinPick sinOut (frac y)) := by
      rw [← k3]; exact congrArg _ e
    rw [k2', k3']; exact ⟨rfl, rfl⟩
end Go.Fx
