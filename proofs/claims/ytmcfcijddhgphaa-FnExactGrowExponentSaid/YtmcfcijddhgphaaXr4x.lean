import Derived.Test.YtmcfcijddhgphaaXr4w
namespace Go.Fx
/-- The numbers of a growth. -/
def gro (r x : Int) : Nat → Int
  | 0 => x
  | k + 1 => Pure.spec_l07Grow real (gro r x k) r
def grow (r x : Int) (n : Nat) : List (List Int) := (List.range n).map fun k => [gro r x k]
def gfin (r x : Int) (k : Nat) : Bool := Pure.impl_IsFinite real (gro r x k)

theorem grow_len (r x : Int) (n : Nat) : (grow r x n).length = n := by simp [grow]
theorem grow_get (r x : Int) {n i : Nat} (h : i < n) : (grow r x n).getD i [] = [gro r x i] := by
  unfold grow
  rw [getD_some (by simpa using h)]
  simp
theorem grow_succ (r x : Int) (n : Nat) : grow r x (n + 1) = grow r x n ++ [[gro r x n]] := by
  unfold grow
  rw [List.range_succ, List.map_append]; rfl

theorem grow_all (r x : Int) {i m : Nat} (h : i < m) (hi : gfin r x i = false) : (List.range m).all (gfin r x) = false := by
  rw [Bool.eq_false_iff]
  intro hall
  rw [List.all_eq_true] at hall
  have := hall i (by simpa using h)
  rw [hi] at this; cases this

theorem growNext_eq (x r : Int) (hx : Pure.impl_IsFinite real x = true) (hr : Pure.impl_IsFinite real r = true) : Pure.impl_GrowNext_ok real x r = true ∧ Pure.impl_GrowNext_1 real x r = Pure.impl_IsFinite real (Pure.spec_l07Grow real x r) ∧
    (Pure.impl_IsFinite real (Pure.spec_l07Grow real x r) = true → Pure.impl_GrowNext real x r = Pure.spec_l07Grow real x r) := by
  have hf := impl_finite_eq [[x], [r]] (by simp)
  have h2 : Pure.impl_finite real [[x], [r]] = true := by rw [hf.2]; simp [hx, hr]
  unfold Pure.impl_GrowNext_ok Pure.impl_GrowNext_1 Pure.impl_GrowNext Pure.impl_toldNumber
  rw [h2]
  refine ⟨hf.1, rfl, fun h => ?_⟩
  unfold Pure.spec_l07Grow at h ⊢
  simp only [cond_true, h]

theorem growOrbit_loop (r x sk : Int) (m : Nat) (hm : m < 1000) (hr : Pure.impl_IsFinite real r = true) : ∀ (n i : Nat), i ≤ m → m - i < n → (∀ k, k ≤ i → gfin r x k = true) →
    (Pure.impl_GrowOrbit_L0 real r sk m n i (grow r x (i + 1))).1 = true ∧ (Pure.impl_GrowOrbit_L0 real r sk m n i (grow r x (i + 1))).2.1 = !(List.range (m + 1)).all (gfin r x) ∧
    ((List.range (m + 1)).all (gfin r x) = true → (Pure.impl_GrowOrbit_L0 real r sk m n i (grow r x (i + 1))).2.2.1 = grow r x (m + 1)) := by
  intro n
  induction n with
  | zero => intro i _ h; omega
  | succ n ih =>
    intro i hi hn hfin
    unfold Pure.impl_GrowOrbit_L0
    have hlen : Int.ofNat (grow r x (i + 1)).length = ((i : Int) + 1) := by rw [grow_len]; rfl
    have hw : IntKind.wrap .i64 (Int.ofNat (grow r x (i + 1)).length - 1) = i := by rw [hlen, Int.add_sub_cancel]; exact wrap64 (by omega) (by omega)
    rw [hw, hlen]
    rcases Nat.lt_or_ge i m with h | h
    · have e1 : decide ((i : Int) < (m : Int)) = true := by simp; exact h
      have e2 : decide (0 ≤ (i : Int)) = true := by simp
      have e3 : decide ((i : Int) < (i : Int) + 1) = true := by simp; omega
      have e4 : decide ((grow r x (i + 1)).length.succ ≤ 1073741824) = true := by rw [grow_len]; simp; omega
      have e5 : ((grow r x (i + 1)).getD (i : Int).toNat []).getD 0 0 = gro r x i := by rw [Int.toNat_natCast, grow_get r x (by omega)]; rfl
      rw [e1, e2, e3, e4, e5]
      obtain ⟨g1, g2, g3⟩ := growNext_eq (gro r x i) r (hfin i (Nat.le_refl _)) hr
      rw [g1, g2]
      cases hf : Pure.impl_IsFinite real (Pure.spec_l07Grow real (gro r x i) r) with
      | false =>
        have ha := grow_all r x (i := i + 1) (m := m + 1) (by omega) hf
        rw [ha]
        exact ⟨rfl, rfl, fun h => by cases h⟩
      | true =>
        simp only [cond_true]
        rw [g3 hf, wrap64 (by omega) (by omega)]
        have hs : grow r x (i + 1) ++ [[Pure.spec_l07Grow real (gro r x i) r]] = grow r x (i + 1 + 1) := by rw [grow_succ r x (i + 1)]; rfl
        rw [hs]
        exact ih (i + 1) (by omega) (by omega) fun k hk => by
          rcases Nat.lt_or_ge k (i + 1) with h1 | h1
          · exact hfin k (by omega)
          · have : k = i + 1 := by omega
            subst this; exact hf
    · have e1 : decide ((i : Int) < (m : Int)) = false := by simp; exact h
      rw [e1]
      have him : i = m := by omega
      subst him
      have ha : (List.range (i + 1)).all (gfin r x) = true := by
        rw [List.all_eq_true]; intro k hk; exact hfin k (by have := List.mem_range.1 hk; omega)
      rw [ha]
      exact ⟨rfl, rfl, fun _ => rfl⟩

theorem growth_loop (r x : Int) (sk cn N : Nat) (hN : N = sk + cn) (hlt : N < 1000) : ∀ (n k : Nat), 1 ≤ k → k ≤ N → N - k < n → (∀ j, j < k → gfin r x j = true) →
    (Pure.spec_l07Growth_L0 real r sk cn n (gro r x (k - 1)) k ((grow r x k).drop sk)).1 = true ∧ (Pure.spec_l07Growth_L0 real r sk cn n (gro r x (k - 1)) k ((grow r x k).drop sk)).2.1 = !(List.range N).all (gfin r x) ∧
    ((List.range N).all (gfin r x) = true → (Pure.spec_l07Growth_L0 real r sk cn n (gro r x (k - 1)) k ((grow r x k).drop sk)).2.2.1 = (grow r x N).drop sk) := by
  intro n
  induction n with
  | zero => intro k _ _ h; omega
  | succ n ih =>
    intro k hk0 hk hn hfin
    unfold Pure.spec_l07Growth_L0
    have hw : IntKind.wrap .i64 ((sk : Int) + cn) = N := by rw [wrap64 (by omega) (by omega)]; omega
    rw [hw]
    rcases Nat.lt_or_ge k N with h | h
    · have e1 : decide ((k : Int) < (N : Int)) = true := by simp; exact h
      have e2 : decide ((k : Int) > 0) = true := by simp; omega
      have e4 : decide (((grow r x k).drop sk).length.succ ≤ 1073741824) = true := by rw [List.length_drop, grow_len]; simp; omega
      have e5 : Pure.spec_l07Grow real (gro r x (k - 1)) r = gro r x k := by
        obtain ⟨k', rfl⟩ : ∃ k', k = k' + 1 := ⟨k - 1, by omega⟩
        rfl
      have e6 : Pure.spec_l01Finite real (gro r x k) = gfin r x k := rfl
      rw [e1, e2, e4, e5, e6]
      cases hf : gfin r x k with
      | false =>
        have ha := grow_all r x h hf
        rw [ha]
        exact ⟨rfl, rfl, fun h => by cases h⟩
      | true =>
        have hfin' : ∀ j, j < k + 1 → gfin r x j = true := fun j hj => by
          rcases Nat.lt_or_ge j k with h1 | h1
          · exact hfin j h1
          · have : j = k := by omega
            subst this; exact hf
        simp only [cond_true]
        rw [wrap64 (by omega) (by omega)]
        have := ih (k + 1) (by omega) (by omega) (by omega) hfin'
        rw [Nat.add_sub_cancel] at this
        rcases Nat.lt_or_ge k sk with h1 | h1
        · have e3 : decide ((k : Int) ≥ (sk : Int)) = false := by simp; exact h1
          rw [e3]
          have hd : (grow r x (k + 1)).drop sk = (grow r x k).drop sk := by
            rw [List.drop_eq_nil_of_le (by rw [grow_len]; omega), List.drop_eq_nil_of_le (by rw [grow_len]; omega)]
          rw [hd] at this
          exact this
        · have e3 : decide ((k : Int) ≥ (sk : Int)) = true := by simp; exact h1
          rw [e3]
          have hd : (grow r x (k + 1)).drop sk = (grow r x k).drop sk ++ [[gro r x k]] := by
            rw [grow_succ, List.drop_append_of_le_length (by rw [grow_len]; exact h1)]
          rw [hd] at this
          exact this
    · have e1 : decide ((k : Int) < (N : Int)) = false := by simp; exact h
      rw [e1]
      have hkN : k = N := by omega
      subst hkN
      have ha : (List.range k).all (gfin r x) = true := by
        rw [List.all_eq_true]; intro j hj; exact hfin j (List.mem_range.1 hj)
      rw [ha]
      exact ⟨rfl, rfl, fun _ => rfl⟩

/-- What both functions tell. -/
def GrowIs (x0 x1 x2 x3 : Int) : Prop := ∃ b l, Pure.spec_l07Growth_ok real x0 x1 x2 x3 = true ∧ Pure.impl_GrowOrbit_ok real x0 x1 x2 x3 = true ∧
  Pure.spec_l07Growth real x0 x1 x2 x3 = b ∧ Pure.impl_GrowOrbit real x0 x1 x2 x3 = b ∧ Pure.spec_l07Growth_1 real x0 x1 x2 x3 = l ∧ Pure.impl_GrowOrbit_1 real x0 x1 x2 x3 = l ∧ l.length ≤ 128 ∧
  (b = true → l.length = x3.toNat ∧ 1 ≤ x3 ∧ x3 ≤ 128 ∧ ∃ (a c : Nat), l = (grow x1 x0 a).drop c ∧ ∀ k, k < a → gfin x1 x0 k = true)

theorem grow_is (x0 x1 x2 x3 : Int) : GrowIs x0 x1 x2 x3 := by
  unfold GrowIs
  have hf := impl_finite_eq [[x0], [x1]] (by simp)
  simp only [List.all_cons, List.all_nil, List.getD_cons_zero, Bool.and_true] at hf
  unfold Pure.spec_l07Growth_ok Pure.impl_GrowOrbit_ok Pure.spec_l07Growth Pure.impl_GrowOrbit Pure.spec_l07Growth_1 Pure.impl_GrowOrbit_1
  have ef : ∀ x, Pure.spec_l01Finite real x = Pure.impl_IsFinite real x := fun x => rfl
  have ei : ∀ a b c, Pure.spec_l00In real a b c = Pure.impl_in real a b c := fun a b c => rfl
  rw [hf.1, hf.2]
  simp only [ef, ei]
  cases h0 : Pure.impl_IsFinite real x0 with
  | false => exact ⟨false, [], by simp⟩
  | true =>
    cases h1 : Pure.impl_IsFinite real x1 with
    | false => exact ⟨false, [], by simp⟩
    | true =>
      cases h2 : Pure.impl_in real x2 0 128 with
      | false => exact ⟨false, [], by simp⟩
      | true =>
        cases h3 : Pure.impl_in real x3 1 128 with
        | false => exact ⟨false, [], by simp⟩
        | true =>
          have b2 : 0 ≤ x2 ∧ x2 ≤ 128 := by unfold Pure.impl_in at h2; cases h : decide (x2 ≥ 0) <;> rw [h] at h2 <;> simp at h h2; omega
          have b3 : 1 ≤ x3 ∧ x3 ≤ 128 := by unfold Pure.impl_in at h3; cases h : decide (x3 ≥ 1) <;> rw [h] at h3 <;> simp at h h3; omega
          obtain ⟨sk, rfl⟩ : ∃ sk : Nat, x2 = sk := ⟨x2.toNat, by omega⟩
          obtain ⟨cn, rfl⟩ : ∃ cn : Nat, x3 = cn := ⟨x3.toNat, by omega⟩
          have w1 : IntKind.wrap .i64 ((sk : Int) + cn) = ((sk + cn : Nat) : Int) := by rw [wrap64 (by omega) (by omega)]; omega
          have w2 : IntKind.wrap .i64 (((sk + cn : Nat) : Int) - 1) = ((sk + cn - 1 : Nat) : Int) := by rw [wrap64 (by omega) (by omega)]; omega
          rw [w1, w2]
          have hfin0 : ∀ k, k ≤ 0 → gfin x1 x0 k = true := fun k hk => by
            have : k = 0 := by omega
            subst this; exact h0
          obtain ⟨p1, p2, p3⟩ := growOrbit_loop x1 x0 sk (sk + cn - 1) (by omega) h1 ((((sk + cn - 1 : Nat) : Int) - 0 + 1).toNat) 0 (by omega) (by omega) hfin0
          have hN : sk + cn - 1 + 1 = sk + cn := by omega
          rw [hN] at p2 p3
          have hg1 : grow x1 x0 (0 + 1) = [[x0]] := rfl
          rw [hg1] at p1 p2 p3
          have hz : ((0 : Nat) : Int) = 0 := rfl
          rw [hz] at p1 p2 p3
          -- the first round of the other loop
          have hspec : (Pure.spec_l07Growth_L0 real x1 sk cn ((((sk + cn : Nat) : Int) - 0 + 1).toNat) x0 0 []).1 = true ∧ (Pure.spec_l07Growth_L0 real x1 sk cn ((((sk + cn : Nat) : Int) - 0 + 1).toNat) x0 0 []).2.1 = !(List.range (sk + cn)).all (gfin x1 x0) ∧
              ((List.range (sk + cn)).all (gfin x1 x0) = true → (Pure.spec_l07Growth_L0 real x1 sk cn ((((sk + cn : Nat) : Int) - 0 + 1).toNat) x0 0 []).2.2.1 = (grow x1 x0 (sk + cn)).drop sk) := by
            have hfu : (((sk + cn : Nat) : Int) - 0 + 1).toNat = (sk + cn) + 1 := by omega
            rw [hfu]
            have hl := growth_loop x1 x0 sk cn (sk + cn) rfl (by omega) (sk + cn) 1 (by omega) (by omega) (by omega) (fun j hj => hfin0 j (by omega))
            unfold Pure.spec_l07Growth_L0
            have e1 : decide ((0 : Int) < ((sk + cn : Nat) : Int)) = true := by simp; omega
            have e2 : decide ((0 : Int) > 0) = false := rfl
            have e6 : Pure.spec_l01Finite real x0 = true := h0
            have e4 : decide (([] : List (List Int)).length.succ ≤ 1073741824) = true := rfl
            have e7 : IntKind.wrap .i64 (0 + 1) = ((1 : Nat) : Int) := rfl
            rw [w1, e1, e2, e6, e4, e7]
            simp only [cond_true, cond_false]
            rcases Nat.eq_zero_or_pos sk with hs | hs
            · subst hs
              have e3 : decide ((0 : Int) ≥ ((0 : Nat) : Int)) = true := rfl
              rw [e3]
              exact hl
            · have e3 : decide ((0 : Int) ≥ (sk : Int)) = false := by simp; omega
              rw [e3]
              have : (grow x1 x0 1).drop sk = [] := List.drop_eq_nil_of_le (by rw [grow_len]; omega)
              rw [this] at hl
              exact hl
          obtain ⟨q1, q2, q3⟩ := hspec
          change (Pure.impl_GrowOrbit_L0 real x1 (sk : Int) ((sk + cn - 1 : Nat) : Int) ((((sk + cn - 1 : Nat) : Int) - 0 + 1).toNat) 0 [[x0]]).1 = true at p1
          generalize Pure.impl_GrowOrbit_L0 real x1 (sk : Int) ((sk + cn - 1 : Nat) : Int) ((((sk + cn - 1 : Nat) : Int) - 0 + 1).toNat) 0 [[x0]] = A at *
          generalize Pure.spec_l07Growth_L0 real x1 sk cn ((((sk + cn : Nat) : Int) - 0 + 1).toNat) x0 0 [] = B at *
          obtain ⟨a1, a2, a3, a4⟩ := A
          obtain ⟨b1, b2', b3', b4⟩ := B
          simp only at p1 p2 p3 q1 q2 q3
          subst p1; subst p2; subst q1; subst q2
          cases hall : (List.range (sk + cn)).all (gfin x1 x0) with
          | false => exact ⟨false, [], by simp⟩
          | true =>
            have r1 := p3 hall
            have r2 := q3 hall
            subst r1; subst r2
            refine ⟨true, (grow x1 x0 (sk + cn)).drop sk, by simp, ?_, by simp, by simp, by simp, ?_, by rw [List.length_drop, grow_len]; omega, fun _ => ⟨by rw [List.length_drop, grow_len]; omega, by omega, by omega, _, _, rfl, fun k hk => ?_⟩⟩
            · have e1 : decide ((0 : Int) ≤ (sk : Int)) = true := by simp
              have e2 : decide ((sk : Int) ≤ Int.ofNat (grow x1 x0 (sk + cn)).length) = true := by rw [grow_len]; simp; omega
              simp only [Bool.not_true, cond_true, cond_false, e1, e2]
              simp only [Int.toNat_natCast, List.length_take, List.length_drop, grow_len]
              simp; omega
            · simp only [Bool.not_true, cond_true, cond_false, Int.toNat_natCast]
              exact List.take_of_length_le (by rw [List.length_drop]; exact Nat.le_refl _)
            · rw [List.all_eq_true] at hall; exact hall k (by simpa using hk)
theorem Num.okF {k : FloatKind} {x : Int} (h : Num k x) : OkF k x := by
  refine ⟨x.toNat, ?_, ?_⟩
  · rw [cf_of_num h.notNaN]; have := h.nonneg; omega
  · have := h.word
    cases k
    · have h2 : FloatKind.f32.format.signWeight = 2147483648 := by decide
      simp [FloatKind.has]; omega
    · have h2 : FloatKind.f64.format.signWeight = 9223372036854775808 := by decide
      simp [FloatKind.has]; omega

theorem zero_words {d : Int} (h : Num .f32 d) (h0 : fv .f32 d = 0) : d = 0 ∨ d = 2147483648 := by
  have := h.eq_word
  rw [fv_zero_iff.1 h0] at this
  cases hg : ng .f32 d with
  | false => rw [hg] at this; exact .inl this
  | true => rw [hg] at this; exact .inr this


theorem log_arg {x : Int} (h : OkF .f32 x) : OkF .f32 (real.abs .f32 x) ∧ (real.cmp .lss .f32 x 0 = true → OkF .f32 (real.neg .f32 x) ∧ real.neg .f32 x = real.abs .f32 x) ∧ (real.cmp .lss .f32 x 0 = false → Pure.impl_LogNumber real x = Pure.impl_LogNumber real (real.abs .f32 x)) := by
  cases hn : isNaNb .f32 x.toNat with
  | true =>
    have e := h.nan hn
    have ea : real.abs .f32 x = x := by subst e; decide +kernel
    rw [ea]
    refine ⟨h, fun hc => ?_, fun _ => rfl⟩
    obtain ⟨hd, _⟩ := cmp_num (.inl rfl) h f32_zero.1.okF hc
    rw [hd.notNaN] at hn; cases hn
  | false =>
    have hd := okF_num h hn
    obtain ⟨a1, a2⟩ := abs_num hd
    obtain ⟨n1, n2, _⟩ := neg_num hd
    refine ⟨a1.okF, fun hc => ⟨n1.okF, ?_⟩, fun hc => ?_⟩
    · rw [cmp_lss hd f32_zero.1.toNum, f32_zero.2, decide_eq_true_eq] at hc
      exact n1.fv_inj a1 (by rw [n2, a2]; omega) (by rw [n2]; omega)
    · rw [cmp_lss hd f32_zero.1.toNum, f32_zero.2, decide_eq_false_iff_not] at hc
      by_cases h0 : fv .f32 x = 0
      · rcases zero_words hd h0 with rfl | rfl <;> decide +kernel
      · rw [a1.fv_inj hd (by rw [a2]; omega) (by rw [a2]; omega)]

theorem expo_loop (r n : Int) (l : List (List Int)) (hl : l.length < 1000000) : ∀ (m i f : Nat), i + m = l.length → m < f → ∀ s, Pure.spec_GrowExponent_L0 real r n l.length l f s i = Pure.impl_GrowExponent_L0 real r n l.length l f s i ∧ (Pure.impl_GrowExponent_L0 real r n l.length l f s i).1 = true := by
  intro m
  induction m with
  | zero =>
    intro i f hi hf s
    obtain ⟨f, rfl⟩ : ∃ g, f = g + 1 := ⟨f - 1, by omega⟩
    unfold Pure.spec_GrowExponent_L0 Pure.impl_GrowExponent_L0
    rw [dec_ge' (show l.length ≤ i by omega)]
    exact ⟨rfl, rfl⟩
  | succ m ih =>
    intro i f hi hf s
    obtain ⟨f, rfl⟩ : ∃ g, f = g + 1 := ⟨f - 1, by omega⟩
    have h : i < l.length := by omega
    unfold Pure.spec_GrowExponent_L0 Pure.impl_GrowExponent_L0
    rw [dec_lt h, dec_lt' h, dec_nn, Int.toNat_natCast, wrap_succ (by omega)]
    have hx : OkF .f32 (real.bin .mul .f32 r (real.bin .sub .f32 1065353216 (real.bin .mul .f32 1073741824 ((l.getD i []).getD 0 0)))) := bin_ok _ _ _ _
    generalize real.bin .mul .f32 r (real.bin .sub .f32 1065353216 (real.bin .mul .f32 1073741824 ((l.getD i []).getD 0 0))) = x at *
    obtain ⟨g1, g2, g3⟩ := log_arg hx
    obtain ⟨_, _, q3⟩ := log_is g1
    rw [q3]
    simp only [cond_true]
    cases hc : real.cmp .lss .f32 x 0 with
    | true =>
      obtain ⟨k1, k2⟩ := g2 hc
      obtain ⟨p1, p2, _⟩ := log_is k1
      rw [p1, p2, k2]
      exact ih (i + 1) f (by omega) (by omega) _
    | false =>
      obtain ⟨p1, p2, _⟩ := log_is hx
      rw [p1, p2, g3 hc]
      exact ih (i + 1) f (by omega) (by omega) _

theorem law_FnExactGrowExponent (x0 x1 x2 x3 : Int) (_ : OkF .f32 x0) (_ : OkF .f32 x1) (_ : IntKind.i64.has x2) (_ : IntKind.i64.has x3) : Pure.laws_FnExactGrowExponent_ok real x0 x1 x2 x3 = true ∧ Pure.laws_FnExactGrowExponent real x0 x1 x2 x3 = true := by
  have hi : Pure.spec_GrowExponent_ok real x0 x1 x2 x3 = true ∧ Pure.impl_GrowExponent_ok real x0 x1 x2 x3 = true ∧ Pure.spec_GrowExponent real x0 x1 x2 x3 = Pure.impl_GrowExponent real x0 x1 x2 x3 ∧ Pure.spec_GrowExponent_1 real x0 x1 x2 x3 = Pure.impl_GrowExponent_1 real x0 x1 x2 x3 := by
    obtain ⟨b, l, g1, g2, g3, g4, g5, g6, g7, _⟩ := grow_is x0 x1 x2 x3
    unfold Pure.spec_GrowExponent_ok Pure.impl_GrowExponent_ok Pure.spec_GrowExponent Pure.impl_GrowExponent Pure.spec_GrowExponent_1 Pure.impl_GrowExponent_1
    rw [g1, g2, g3, g4, g5, g6]
    cases b with
    | false => simp only [cond_false, cond_true, and_self]
    | true =>
      obtain ⟨k1, k2⟩ := expo_loop x1 x3 l (by omega) l.length 0 (Nat.succ (l.length + 0)) (by omega) (by omega) 0
      change Pure.spec_GrowExponent_L0 real x1 x3 (Int.ofNat l.length) l (Nat.succ (l.length + 0)) 0 0 = Pure.impl_GrowExponent_L0 real x1 x3 (Int.ofNat l.length) l (Nat.succ (l.length + 0)) 0 0 at k1
      change (Pure.impl_GrowExponent_L0 real x1 x3 (Int.ofNat l.length) l (Nat.succ (l.length + 0)) 0 0).1 = true at k2
      rw [k1, k2]
      generalize Pure.impl_GrowExponent_L0 real x1 x3 (Int.ofNat l.length) l (Nat.succ (l.length + 0)) 0 0 = r
      simp only [cond_true]
      generalize real.bin .quo .f32 r.2 (real.ofInt .f32 x3) = q
      refine ⟨trivial, trivial, ?_, ?_⟩ <;> rfl
  obtain ⟨i1, i2, i3, i4⟩ := hi
  unfold Pure.laws_FnExactGrowExponent_ok Pure.laws_FnExactGrowExponent
  rw [i1, i2, i3, i4, convOk_up, sameFloat_refl]
  simp
end Go.Fx
