import Derived.Test.YtpdeekgbdalnaaaXr5y
import Derived.Test.YtpdeekgbdalnaaaXr5g
import Derived.Test.YtpdeekgbdalnaaaXFin
namespace Go.Fx
theorem Num.okF {k : FloatKind} {x : Int} (h : Num k x) : OkF k x := by
  refine ⟨x.toNat, ?_, ?_⟩
  · rw [cf_of_num h.notNaN]; have := h.nonneg; omega
  · have := h.word
    cases k
    · have h2 : FloatKind.f32.format.signWeight = 2147483648 := by decide
      simp [FloatKind.has]; omega
    · have h2 : FloatKind.f64.format.signWeight = 9223372036854775808 := by decide
      simp [FloatKind.has]; omega

/-- The size of a number, as it is told by both. -/
theorem apart_pos {d : Int} (h : OkF .f32 d) (hc : real.cmp .leq .f32 d 0 = false) : Pure.impl_IsFinite real (real.abs .f32 d) = Pure.impl_IsFinite real d ∧ (Pure.impl_IsFinite real d = true → real.abs .f32 d = d) := by
  cases hn : isNaNb .f32 d.toNat with
  | true =>
    have e := h.nan hn
    subst e
    refine ⟨by decide +kernel, fun hf => ?_⟩
    exact absurd ((isfin_iff h).1 hf) (notfin_nan .f32)
  | false =>
    have hd := okF_num h hn
    obtain ⟨a1, a2⟩ := abs_num hd
    rw [cmp_leq hd f32_zero.1.toNum, f32_zero.2, decide_eq_false_iff_not] at hc
    have e : real.abs .f32 d = d := a1.fv_inj hd (by rw [a2]; omega) (by rw [a2]; omega)
    rw [e]
    exact ⟨rfl, fun _ => rfl⟩

theorem zero_words {d : Int} (h : Num .f32 d) (h0 : fv .f32 d = 0) : d = 0 ∨ d = 2147483648 := by
  have := h.eq_word
  rw [fv_zero_iff.1 h0] at this
  cases hg : ng .f32 d with
  | false => rw [hg] at this; exact .inl this
  | true => rw [hg] at this; exact .inr this

theorem apart_neg {d : Int} (h : OkF .f32 d) (hc : real.cmp .leq .f32 d 0 = true) : Pure.impl_IsFinite real (real.abs .f32 d) = Pure.impl_IsFinite real (real.bin .sub .f32 0 d) ∧
    (Pure.impl_IsFinite real (real.bin .sub .f32 0 d) = true → real.abs .f32 d = real.bin .sub .f32 0 d) := by
  obtain ⟨hd, _⟩ := cmp_num (.inr (.inl rfl)) h f32_zero.1.okF hc
  obtain ⟨a1, a2⟩ := abs_num hd
  rw [cmp_leq hd f32_zero.1.toNum, f32_zero.2, decide_eq_true_eq] at hc
  by_cases hf : Fin .f32 d
  · have hs := sub_rounds f32_zero.1 hf
    rw [f32_zero.2] at hs
    obtain ⟨s1, s2⟩ := hs.exact (a := - fv .f32 d) (Has.neg ⟨d, hf, rfl⟩) (by omega)
    have e : real.abs .f32 d = real.bin .sub .f32 0 d := by
      by_cases h0 : fv .f32 d = 0
      · rcases zero_words hd h0 with rfl | rfl <;> decide +kernel
      · exact a1.fv_inj s1.toNum (by rw [a2, s2]; omega) (by rw [a2]; omega)
    rw [e]
    exact ⟨rfl, fun _ => rfl⟩
  · have h1 : Pure.impl_IsFinite real (real.bin .sub .f32 0 d) = false := isFinite_false (bin_ok _ _ _ _) (fun hq => hf (fin_sub f32_zero.1.okF h hq).2)
    have h2 : Pure.impl_IsFinite real (real.abs .f32 d) = false := isFinite_false a1.okF (fun hq => hf (by
      rw [a1.fin_iff] at hq
      rw [hd.fin_iff]
      rw [a2] at hq
      omega))
    rw [h1, h2]
    exact ⟨rfl, fun hq => absurd hq Bool.false_ne_true⟩

def dl : List (List Int) → List (List Int) → List (List Int)
  | a :: A, b :: B => [real.abs .f32 (real.bin .sub .f32 (a.getD 0 0) (b.getD 0 0))] :: dl A B
  | _, _ => []

theorem dl_nil (B : List (List Int)) : dl [] B = [] := by cases B <;> rfl

theorem dl_len : ∀ (A B : List (List Int)), A.length = B.length → (dl A B).length = A.length
  | [], B, _ => by rw [dl_nil]
  | a :: A, [], h => by simp at h
  | a :: A, b :: B, h => by unfold dl; simp only [List.length_cons]; rw [dl_len A B (by simpa using h)]

theorem dl_one : ∀ (A B : List (List Int)) (j : Nat), j < (dl A B).length → ((dl A B).getD j []).length = 1
  | [], B, j, h => by rw [dl_nil] at h; exact absurd h (Nat.not_lt_zero _)
  | a :: A, [], j, h => absurd h (Nat.not_lt_zero _)
  | a :: A, b :: B, 0, h => rfl
  | a :: A, b :: B, j + 1, h => by
    unfold dl at h ⊢
    rw [List.getD_cons_succ]
    exact dl_one A B j (by simpa using h)

theorem impl_apart (A B : List (List Int)) (hl : A.length < 1000000) (hAB : A.length = B.length) : ∀ (m i f : Nat), i + m = A.length → m < f → ∀ (acc : List (List Int)), acc.length = i →
    Pure.impl_SwingsApart_L0 real A.length B A f i acc = (true, acc ++ dl (A.drop i) (B.drop i)) := by
  intro m
  induction m with
  | zero =>
    intro i f hi hf acc ha
    obtain ⟨f, rfl⟩ : ∃ g, f = g + 1 := ⟨f - 1, by omega⟩
    unfold Pure.impl_SwingsApart_L0
    rw [dec_ge' (show A.length ≤ i by omega), List.drop_eq_nil_of_le (by omega), dl_nil]
    simp
  | succ m ih =>
    intro i f hi hf acc ha
    obtain ⟨f, rfl⟩ : ∃ g, f = g + 1 := ⟨f - 1, by omega⟩
    unfold Pure.impl_SwingsApart_L0
    have e1 : decide (Nat.succ acc.length ≤ 1073741824) = true := by simp; omega
    have h : i < A.length := by omega
    have h2 : i < B.length := by omega
    rw [dec_lt' h, dec_nn, dec_lt h, dec_lt h2, e1, wrap_succ (by omega), Int.toNat_natCast, getD_some h, getD_some h2]
    simp only [cond_true]
    rw [ih (i + 1) f (by omega) (by omega) _ (by simp; omega), List.drop_eq_getElem_cons h, List.drop_eq_getElem_cons h2]
    conv => rhs; unfold dl
    rw [List.append_assoc]
    rfl

theorem spec_apart (A B : List (List Int)) (hl : A.length < 1000000) (hAB : A.length = B.length) : ∀ (m i f : Nat), i + m = A.length → m < f → ∀ (acc : List (List Int)), acc.length = i →
    (Pure.spec_SwingsApart_L0 real A B f i acc).1 = true ∧
    (match (dl (A.drop i) (B.drop i)).all (fun r => Pure.impl_IsFinite real (r.getD 0 0)) with
      | true => Pure.spec_SwingsApart_L0 real A B f i acc = (true, false, acc ++ dl (A.drop i) (B.drop i), [])
      | false => (Pure.spec_SwingsApart_L0 real A B f i acc).2.1 = true) := by
  intro m
  induction m with
  | zero =>
    intro i f hi hf acc ha
    obtain ⟨f, rfl⟩ : ∃ g, f = g + 1 := ⟨f - 1, by omega⟩
    unfold Pure.spec_SwingsApart_L0
    rw [dec_ge (show A.length ≤ i by omega), List.drop_eq_nil_of_le (by omega), dl_nil]
    simp
  | succ m ih =>
    intro i f hi hf acc ha
    obtain ⟨f, rfl⟩ : ∃ g, f = g + 1 := ⟨f - 1, by omega⟩
    unfold Pure.spec_SwingsApart_L0
    have e1 : decide (Nat.succ acc.length ≤ 1073741824) = true := by simp; omega
    have h : i < A.length := by omega
    have h2 : i < B.length := by omega
    rw [dec_nn, dec_lt h, dec_lt h2, e1, wrap_succ (by omega), Int.toNat_natCast, getD_some h, getD_some h2, List.drop_eq_getElem_cons h, List.drop_eq_getElem_cons h2]
    simp only [cond_true, fin_is]
    have hd : OkF .f32 (real.bin .sub .f32 (A[i].getD 0 0) (B[i].getD 0 0)) := bin_ok _ _ _ _
    have ed : dl (A[i] :: A.drop (i + 1)) (B[i] :: B.drop (i + 1)) = [real.abs .f32 (real.bin .sub .f32 (A[i].getD 0 0) (B[i].getD 0 0))] :: dl (A.drop (i + 1)) (B.drop (i + 1)) := rfl
    rw [ed, List.all_cons, List.getD_cons_zero]
    generalize real.bin .sub .f32 (A[i].getD 0 0) (B[i].getD 0 0) = d at *
    cases hc : real.cmp .leq .f32 d 0 with
    | true =>
      obtain ⟨f1, f2⟩ := apart_neg hd hc
      rw [f1]
      simp only [cond_true]
      cases hq : Pure.impl_IsFinite real (real.bin .sub .f32 0 d) with
      | false => exact ⟨rfl, rfl⟩
      | true =>
        rw [f2 hq]
        simp only [cond_true, Bool.true_and]
        have := ih (i + 1) f (by omega) (by omega) (acc ++ [[real.bin .sub .f32 0 d]]) (by simp; omega)
        refine ⟨this.1, ?_⟩
        have h3 := this.2
        revert h3
        cases (dl (A.drop (i + 1)) (B.drop (i + 1))).all (fun r => Pure.impl_IsFinite real (r.getD 0 0)) with
        | false => exact id
        | true => intro h3; refine h3.trans ?_; rw [List.append_assoc]; rfl
    | false =>
      obtain ⟨f1, f2⟩ := apart_pos hd hc
      rw [f1]
      simp only [cond_false]
      cases hq : Pure.impl_IsFinite real d with
      | false => exact ⟨rfl, rfl⟩
      | true =>
        rw [f2 hq]
        simp only [cond_true, Bool.true_and]
        have := ih (i + 1) f (by omega) (by omega) (acc ++ [[d]]) (by simp; omega)
        refine ⟨this.1, ?_⟩
        have h3 := this.2
        revert h3
        cases (dl (A.drop (i + 1)) (B.drop (i + 1))).all (fun r => Pure.impl_IsFinite real (r.getD 0 0)) with
        | false => exact id
        | true => intro h3; refine h3.trans ?_; rw [List.append_assoc]; rfl

theorem toldNumbers_is (xs : List (List Int)) (hl : xs.length < 4611686018427387904) : Pure.impl_toldNumbers_way real xs = (xs.all fun r => Pure.impl_IsFinite real (r.getD 0 0)) ∧ Pure.impl_toldNumbers_okA real xs = true ∧ Pure.impl_toldNumbers_okB real xs = true := by
  obtain ⟨h1, h2⟩ := impl_finite_eq xs hl
  unfold Pure.impl_toldNumbers_way Pure.impl_toldNumbers_okA Pure.impl_toldNumbers_okB
  exact ⟨h2, h1, h1⟩


theorem apart_is (x0 x1 x2 x3 x4 x6 x7 x9 x10 x11 x12 : Int) {x5 x8 : Int} (h5 : OkF .f32 x5) (h8 : OkF .f32 x8) : Pure.spec_SwingsApart_ok real x0 x1 x2 x3 x4 x5 x6 x7 x8 x9 x10 x11 x12 = true ∧ Pure.impl_SwingsApart_ok real x0 x1 x2 x3 x4 x5 x6 x7 x8 x9 x10 x11 x12 = true ∧
    Pure.spec_SwingsApart real x0 x1 x2 x3 x4 x5 x6 x7 x8 x9 x10 x11 x12 = Pure.impl_SwingsApart real x0 x1 x2 x3 x4 x5 x6 x7 x8 x9 x10 x11 x12 ∧ Pure.spec_SwingsApart_1 real x0 x1 x2 x3 x4 x5 x6 x7 x8 x9 x10 x11 x12 = Pure.impl_SwingsApart_1 real x0 x1 x2 x3 x4 x5 x6 x7 x8 x9 x10 x11 x12 ∧
    (Pure.impl_SwingsApart_1 real x0 x1 x2 x3 x4 x5 x6 x7 x8 x9 x10 x11 x12).length < 1000000 ∧ (∀ j, j < (Pure.impl_SwingsApart_1 real x0 x1 x2 x3 x4 x5 x6 x7 x8 x9 x10 x11 x12).length → ((Pure.impl_SwingsApart_1 real x0 x1 x2 x3 x4 x5 x6 x7 x8 x9 x10 x11 x12).getD j []).length = 1) := by
  obtain ⟨i1, i2, _, _, _, i6, i7, i8⟩ := runSwing_is x0 x1 x2 x3 x4 x6 x7 x11 x12 h5
  obtain ⟨k1, k2, _, _, _, k6, k7, k8⟩ := runSwing_is x0 x1 x2 x3 x4 x9 x10 x11 x12 h8
  unfold Pure.spec_SwingsApart_ok Pure.impl_SwingsApart_ok Pure.spec_SwingsApart Pure.impl_SwingsApart Pure.spec_SwingsApart_1 Pure.impl_SwingsApart_1
  rw [i1, i2, i6, i7, k1, k2, k6, k7]
  cases hr : (bif (Pure.spec_l02Both real x0 x1 x2 x3 x4 x5 x6 x7 && Pure.spec_l02Tick real x11) && Pure.impl_in real x12 0 256 then runT x0 x1 x2 x3 x4 x11 x12.toNat x5 x6 x7 else none) with
  | none =>
    rw [hr] at i8
    have q3 := i8.1
    rw [q3]
    exact ⟨rfl, rfl, rfl, rfl, by simp, fun j hj => absurd hj (Nat.not_lt_zero _)⟩
  | some la =>
    rw [hr] at i8
    have q3 := i8.1
    have q4 := i8.2
    rw [q3, q4]
    cases hs : (bif (Pure.spec_l02Both real x0 x1 x2 x3 x4 x8 x9 x10 && Pure.spec_l02Tick real x11) && Pure.impl_in real x12 0 256 then runT x0 x1 x2 x3 x4 x11 x12.toNat x8 x9 x10 else none) with
    | none =>
      rw [hs] at k8
      have p3 := k8.1
      rw [p3]
      exact ⟨rfl, rfl, rfl, rfl, by simp, fun j hj => absurd hj (Nat.not_lt_zero _)⟩
    | some lb =>
      rw [hs] at k8
      have p3 := k8.1
      have p4 := k8.2
      rw [p3, p4]
      have hla : la.length = x12.toNat ∧ x12 ≤ 256 := by
        cases hc : (Pure.spec_l02Both real x0 x1 x2 x3 x4 x5 x6 x7 && Pure.spec_l02Tick real x11) && Pure.impl_in real x12 0 256 with
        | false => rw [hc] at hr; cases hr
        | true =>
          rw [hc] at hr
          simp only [Bool.and_eq_true] at hc
          exact ⟨runT_len _ _ _ _ _ hr, (in_iff.1 hc.2).2⟩
      have hlb : lb.length = x12.toNat := by
        cases hc : (Pure.spec_l02Both real x0 x1 x2 x3 x4 x8 x9 x10 && Pure.spec_l02Tick real x11) && Pure.impl_in real x12 0 256 with
        | false => rw [hc] at hs; cases hs
        | true => rw [hc] at hs; exact runT_len _ _ _ _ _ hs
      have hn : (heads la).length < 1000000 := by rw [heads_len]; omega
      have he : (heads la).length = (heads lb).length := by rw [heads_len, heads_len]; omega
      have ht := impl_apart (heads la) (heads lb) hn he (heads la).length 0 (Nat.succ ((heads la).length + 0)) (by omega) (by omega) [] rfl
      obtain ⟨u1, u2⟩ := spec_apart (heads la) (heads lb) hn he (heads la).length 0 (Nat.succ ((heads la).length + 0)) (by omega) (by omega) [] rfl
      change Pure.impl_SwingsApart_L0 real (Int.ofNat (heads la).length) (heads lb) (heads la) (Nat.succ ((heads la).length + 0)) 0 [] = (true, dl (heads la) (heads lb)) at ht
      have dlen := dl_len (heads la) (heads lb) he
      obtain ⟨t1, t2, t3⟩ := toldNumbers_is (dl (heads la) (heads lb)) (by omega)
      rw [ht]
      simp only [cond_true]
      rw [t1, t2, t3]
      change (Pure.spec_SwingsApart_L0 real (heads la) (heads lb) (Nat.succ ((heads la).length + 0)) 0 []).1 = true at u1
      rw [u1]
      rw [List.drop_zero, List.drop_zero] at u2
      cases hall : (dl (heads la) (heads lb)).all (fun r => Pure.impl_IsFinite real (r.getD 0 0)) with
      | true =>
        rw [hall] at u2
        change Pure.spec_SwingsApart_L0 real (heads la) (heads lb) (Nat.succ ((heads la).length + 0)) 0 [] = (true, false, dl (heads la) (heads lb), []) at u2
        rw [u2]
        exact ⟨rfl, rfl, rfl, rfl, by simp only [cond_true]; omega, dl_one _ _⟩
      | false =>
        rw [hall] at u2
        change (Pure.spec_SwingsApart_L0 real (heads la) (heads lb) (Nat.succ ((heads la).length + 0)) 0 []).2.1 = true at u2
        rw [u2]
        exact ⟨rfl, rfl, rfl, rfl, by simp, fun j hj => absurd hj (Nat.not_lt_zero _)⟩

theorem law_FnExactSwingsApart (x0 x1 x2 x3 x4 x5 x6 x7 x8 x9 x10 x11 x12 : Int) (_ : OkF .f32 x0) (_ : OkF .f32 x1) (_ : OkF .f32 x2) (_ : OkF .f32 x3) (_ : OkF .f32 x4) (h5 : OkF .f32 x5) (_ : OkF .f32 x6) (_ : OkF .f32 x7) (h8 : OkF .f32 x8) (_ : OkF .f32 x9) (_ : OkF .f32 x10) (_ : OkF .f32 x11) (_ : IntKind.i64.has x12) :
    Pure.laws_FnExactSwingsApart_ok real x0 x1 x2 x3 x4 x5 x6 x7 x8 x9 x10 x11 x12 = true ∧ Pure.laws_FnExactSwingsApart real x0 x1 x2 x3 x4 x5 x6 x7 x8 x9 x10 x11 x12 = true := by
  obtain ⟨i1, i2, i3, i4, i5, i6⟩ := apart_is x0 x1 x2 x3 x4 x6 x7 x9 x10 x11 x12 h5 h8
  obtain ⟨e3, e4⟩ := eqFloat32S_refl (Pure.impl_SwingsApart_1 real x0 x1 x2 x3 x4 x5 x6 x7 x8 x9 x10 x11 x12) (by omega)
  obtain ⟨m1, m2, m3⟩ := markFloat32S_eq (Pure.impl_SwingsApart_1 real x0 x1 x2 x3 x4 x5 x6 x7 x8 x9 x10 x11 x12) (by omega) i6
  obtain ⟨d1, d2⟩ := heldFloat32S_eq (Pure.impl_SwingsApart_1 real x0 x1 x2 x3 x4 x5 x6 x7 x8 x9 x10 x11 x12).length (by omega)
  unfold Pure.laws_FnExactSwingsApart_ok Pure.laws_FnExactSwingsApart
  rw [i1, i2, i3, i4, e3, e4, m1, m2, m3, d1, d2]
  have q1 : decide (1 + 1 * ((Pure.impl_SwingsApart_1 real x0 x1 x2 x3 x4 x5 x6 x7 x8 x9 x10 x11 x12).length : Int) < 0) = false := by rw [decide_eq_false_iff_not]; omega
  rw [q1]
  simp
end Go.Fx
