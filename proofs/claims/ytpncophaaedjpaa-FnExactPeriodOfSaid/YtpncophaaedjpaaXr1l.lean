import Derived.Test.YtpncophaaedjpaaXr1b
import Derived.Test.YtpncophaaedjpaaF3
namespace Go.Fx

theorem sameFloat_refl (c : Int) : Pure.laws_sameFloat real c c = true := by
  unfold Pure.laws_sameFloat
  rw [eql_eq_not_neq, eql_eq_not_neq]
  cases real.cmp .neq .f64 c c with
  | true => rfl
  | false => simp

/-- Whether all of a list's numbers are finite. -/
theorem index_finite (xs : List (List Int)) (hl : xs.length < 4611686018427387904) : ∀ (n : Nat) (i : Nat), i ≤ xs.length → xs.length - i < n →
    (Pure.slices_IndexFunc_float32_float32_finite_L0 real xs.length xs n i).1 = true ∧
    (Pure.slices_IndexFunc_float32_float32_finite_L0 real xs.length xs n i).2.1 = ((xs.drop i).any fun r => Pure.impl_finite_1 real (r.getD 0 0)) ∧
    0 ≤ (Pure.slices_IndexFunc_float32_float32_finite_L0 real xs.length xs n i).2.2 := by
  intro n
  induction n with
  | zero => intro i _ h; omega
  | succ n ih =>
    intro i hi hn
    unfold Pure.slices_IndexFunc_float32_float32_finite_L0
    have e0 : decide (0 ≤ (i : Int)) = true := by simp
    rcases Nat.lt_or_ge i xs.length with h | h
    · have e1 : decide ((i : Int) < (xs.length : Int)) = true := by simp; exact h
      have e2 : Decidable.decide ((i : Int) < Int.ofNat xs.length) = true := e1
      rw [e1, e0, e2]
      simp only [cond_true, Int.toNat_natCast]
      have hd : xs.drop i = xs[i] :: xs.drop (i + 1) := List.drop_eq_getElem_cons h
      rw [hd]
      simp only [List.any_cons]
      rw [getD_some h]
      cases Pure.impl_finite_1 real (xs[i].getD 0 0) with
      | true => simp
      | false =>
        simp only [cond_false, Bool.false_or]
        rw [wrap64 (by omega) (by omega)]
        have := ih (i + 1) (by omega) (by omega)
        simpa using this
    · have e1 : decide ((i : Int) < (xs.length : Int)) = false := by simp; exact h
      rw [e1]
      have : xs.drop i = [] := List.drop_eq_nil_of_le h
      simp [this]

theorem impl_finite_eq (xs : List (List Int)) (hl : xs.length < 4611686018427387904) : Pure.impl_finite_ok real xs = true ∧ Pure.impl_finite real xs = xs.all fun r => Pure.impl_IsFinite real (r.getD 0 0) := by
  obtain ⟨h1, h2, h3⟩ := index_finite xs hl (xs.length + 1) 0 (Nat.zero_le _) (by omega)
  unfold Pure.impl_finite_ok Pure.impl_finite Pure.slices_ContainsFunc_float32_float32_finite_ok Pure.slices_ContainsFunc_float32_float32_finite Pure.slices_IndexFunc_float32_float32_finite_ok Pure.slices_IndexFunc_float32_float32_finite
  refine ⟨h1, ?_⟩
  have e : xs.all (fun r => Pure.impl_IsFinite real (r.getD 0 0)) = !((xs.drop 0).any fun r => Pure.impl_finite_1 real (r.getD 0 0)) := by
    unfold Pure.impl_finite_1
    rw [List.drop_zero, List.all_eq_not_any_not]
    have e2 : ∀ b : Bool, (bif b then false else true) = !b := fun b => by cases b <;> rfl
    simp only [e2]
  rw [e, ← h2]
  change (bif decide ((bif (Pure.slices_IndexFunc_float32_float32_finite_L0 real xs.length xs (xs.length + 1) 0).2.1 then (Pure.slices_IndexFunc_float32_float32_finite_L0 real xs.length xs (xs.length + 1) 0).2.2 else -1) ≥ 0) then false else true) = _
  change 0 ≤ (Pure.slices_IndexFunc_float32_float32_finite_L0 real xs.length xs (xs.length + 1) 0).2.2 at h3
  generalize (Pure.slices_IndexFunc_float32_float32_finite_L0 real xs.length xs (xs.length + 1) ((0 : Nat) : Int)) = r at *
  change (bif decide ((bif r.2.1 then r.2.2 else -1) ≥ 0) then false else true) = _
  cases hr : r.2.1 with
  | true => simp only [cond_true]; rw [decide_eq_true h3]; rfl
  | false => rfl

theorem law_FnExactGrowNext (x0 x1 : Int) (_ : OkF .f32 x0) (_ : OkF .f32 x1) : Pure.laws_FnExactGrowNext_ok real x0 x1 = true ∧ Pure.laws_FnExactGrowNext real x0 x1 = true := by
  have hf := impl_finite_eq [[x0], [x1]] (by simp)
  have hi : Pure.impl_GrowNext real x0 x1 = Pure.spec_GrowNext real x0 x1 ∧ Pure.impl_GrowNext_1 real x0 x1 = Pure.spec_GrowNext_1 real x0 x1 := by
    unfold Pure.impl_GrowNext Pure.spec_GrowNext Pure.impl_GrowNext_1 Pure.spec_GrowNext_1
    rw [hf.2]
    simp only [List.all_cons, List.all_nil, List.getD_cons_zero, Bool.and_true]
    have e : ∀ x, Pure.spec_l01Finite real x = Pure.impl_IsFinite real x := fun x => rfl
    simp only [e]
    cases Pure.impl_IsFinite real x0 <;> cases Pure.impl_IsFinite real x1 <;> exact ⟨rfl, rfl⟩
  unfold Pure.laws_FnExactGrowNext_ok Pure.laws_FnExactGrowNext Pure.impl_GrowNext_ok
  rw [hf.1, convOk_up, convOk_up, hi.1, hi.2, sameFloat_refl]
  simp

theorem const_zero32 : Fin .f32 0 ∧ fv .f32 0 = 0 := ⟨⟨by decide, by decide +kernel, by decide +kernel⟩, by decide +kernel⟩

theorem okF_num {k : FloatKind} {x : Int} (h : OkF k x) (hn : isNaNb k x.toNat = false) : Num k x := by
  obtain ⟨b, rfl, hb⟩ := h
  rw [Int.toNat_natCast, isNaNb_cf] at hn
  rw [cf_of_num hn]
  refine ⟨by omega, ?_, ?_⟩
  · rw [Int.toNat_natCast]
    cases k
    · simp [FloatKind.has] at hb
      have : FloatKind.f32.format.signWeight = 2147483648 := by decide
      omega
    · simp [FloatKind.has] at hb
      have : FloatKind.f64.format.signWeight = 9223372036854775808 := by decide
      omega
  · have := isNaNb_rg k (b : Int)
    rw [Int.toNat_natCast, hn] at this
    simpa using this.symm

/-- What is taken from itself is nothing of finite numbers alone. -/
theorem finite_iff {x : Int} (h : OkF .f32 x) : Pure.impl_IsFinite real x = true ↔ Fin .f32 x := by
  unfold Pure.impl_IsFinite
  cases hn : isNaNb .f32 x.toNat with
  | true =>
    have hs : real.bin .sub .f32 x x = (nanOf .f32 : Nat) := by
      show rBin .sub .f32 x x = _
      unfold rBin
      rw [floatBits_nan_left hn]; rfl
    rw [hs]
    have hc : real.cmp .eql .f32 (nanOf .f32 : Nat) 0 = false := by decide +kernel
    rw [hc]
    constructor
    · intro h; cases h
    · intro hf
      have := hf.toNum.notNaN
      rw [hn] at this; cases this
  | false =>
    have hnum := okF_num h hn
    constructor
    · intro hc
      rcases Nat.lt_or_ge (rg .f32 x) FloatKind.f32.format.infRung with h1 | h1
      · exact ⟨hnum.nonneg, hnum.word, h1⟩
      · exfalso
        have e := Nat.le_antisymm hnum.num h1
        have hr := read_inf e (binade_le_inf .f32)
        have hs : real.bin .sub .f32 x x = (nanOf .f32 : Nat) := by
          show rBin .sub .f32 x x = _
          unfold rBin floatBits Ieee.Format.sub
          simp only [hr, Ieee.Datum.opposite, Ieee.Datum.sum]
          cases ng .f32 x <;> rfl
        rw [hs] at hc
        have hc2 : real.cmp .eql .f32 (nanOf .f32 : Nat) 0 = false := by decide +kernel
        rw [hc2] at hc; cases hc
    · intro hf
      obtain ⟨z1, z2⟩ := const_zero32
      obtain ⟨r1, r2⟩ := (sub_rounds hf hf).exact (has_zero .f32) (by omega)
      rw [cmp_eql r1.toNum z1.toNum, r2, z2]; rfl

theorem law_FnExactWrapKick (x0 : Int) (h0 : OkF .f32 x0) : Pure.laws_FnExactWrapKick_ok real x0 = true ∧ Pure.laws_FnExactWrapKick real x0 = true := by
  have e : Pure.spec_l01Finite real x0 = Pure.impl_IsFinite real x0 := rfl
  have hi : Pure.impl_WrapKick real x0 = Pure.spec_WrapKick real x0 := by
    unfold Pure.impl_WrapKick Pure.spec_WrapKick Pure.spec_l07Kick Pure.spec_l01Narrow
    rw [e]
  have hok : Pure.impl_WrapKick_ok real x0 = true ∧ Pure.spec_WrapKick_ok real x0 = true := by
    unfold Pure.impl_WrapKick_ok Pure.spec_WrapKick_ok Pure.spec_l07Kick_ok Pure.spec_l01Narrow_ok
    rw [e, convOk_up]
    cases hf : Pure.impl_IsFinite real x0 with
    | false => exact ⟨rfl, rfl⟩
    | true =>
      have hfin := (finite_iff h0).1 hf
      obtain ⟨b, hb, _, _, g1, g2, g3⟩ := wrap_fin hfin
      have hd := down_rounds g1
      obtain ⟨k1, _⟩ := hd.within hb.neg hb (by rw [Int.neg_mul]; exact g2) g3
      have := convOk_down g1 k1
      simp only [cond_true, this, and_self]
  unfold Pure.laws_FnExactWrapKick_ok Pure.laws_FnExactWrapKick
  rw [hok.1, hok.2, convOk_up, convOk_up, hi, sameFloat_refl, e]
  simp
end Go.Fx
