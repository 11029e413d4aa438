import Derived.Test.YtpdeekgbdalnaaaXr5y
import Derived.Test.YtpdeekgbdalnaaaXr5g
import Derived.Test.YtpdeekgbdalnaaaXFin
namespace Go.Fx
theorem width_loop (xs : List (List Int)) (hl : xs.length < 1000000) (hx : ∀ r ∈ xs, Fin .f32 (r.getD 0 0)) : ∀ (m i f1 f2 : Nat), i + m = xs.length → m < f1 → m < f2 → ∀ w, Fin .f32 w → 0 ≤ fv .f32 w →
    Pure.spec_l02Width_L0 real xs f1 w i = Pure.impl_width_L0 real xs.length xs f2 w i ∧ (Pure.impl_width_L0 real xs.length xs f2 w i).1 = true := by
  intro m
  induction m with
  | zero =>
    intro i f1 f2 hi h1 h2 w _ _
    obtain ⟨f1, rfl⟩ : ∃ g, f1 = g + 1 := ⟨f1 - 1, by omega⟩
    obtain ⟨f2, rfl⟩ : ∃ g, f2 = g + 1 := ⟨f2 - 1, by omega⟩
    unfold Pure.spec_l02Width_L0 Pure.impl_width_L0
    rw [dec_ge (show xs.length ≤ i by omega), dec_ge' (show xs.length ≤ i by omega)]
    exact ⟨rfl, rfl⟩
  | succ m ih =>
    intro i f1 f2 hi h1 h2 w hw hw0
    obtain ⟨f1, rfl⟩ : ∃ g, f1 = g + 1 := ⟨f1 - 1, by omega⟩
    obtain ⟨f2, rfl⟩ : ∃ g, f2 = g + 1 := ⟨f2 - 1, by omega⟩
    have h : i < xs.length := by omega
    unfold Pure.spec_l02Width_L0 Pure.impl_width_L0
    rw [dec_lt h, dec_lt' h, dec_nn, Int.toNat_natCast, wrap_succ (by omega), getD_some h]
    have hxf : Fin .f32 (xs[i].getD 0 0) := hx _ (List.getElem_mem h)
    generalize xs[i].getD 0 0 = x at *
    obtain ⟨n1, n2⟩ := neg_fin hxf
    obtain ⟨a1, a2⟩ := abs_num hxf.toNum
    rw [cmp_gtr hxf.toNum hw.toNum, cmp_gtr n1.toNum hw.toNum, cmp_gtr n1.toNum hxf.toNum, cmp_gtr a1 hw.toNum, n2, a2]
    simp only [cond_true]
    by_cases c1 : fv .f32 w < fv .f32 x
    · have e : real.abs .f32 x = x := a1.fv_inj hxf.toNum (by rw [a2]; omega) (by rw [a2]; omega)
      rw [e, decide_eq_true c1, decide_eq_false (show ¬ fv .f32 x < -fv .f32 x by omega), decide_eq_true (show fv .f32 w < ((fv .f32 x).natAbs : Int) by omega)]
      exact ih (i + 1) f1 f2 (by omega) (by omega) (by omega) x hxf (by omega)
    · rw [decide_eq_false c1]
      by_cases c2 : fv .f32 w < -fv .f32 x
      · have e : real.abs .f32 x = real.neg .f32 x := a1.fv_inj n1.toNum (by rw [a2, n2]; omega) (by rw [a2]; omega)
        rw [e, decide_eq_true c2, decide_eq_true (show fv .f32 w < ((fv .f32 x).natAbs : Int) by omega)]
        exact ih (i + 1) f1 f2 (by omega) (by omega) (by omega) _ n1 (by rw [n2]; omega)
      · rw [decide_eq_false c2, decide_eq_false (show ¬ fv .f32 w < ((fv .f32 x).natAbs : Int) by omega)]
        exact ih (i + 1) f1 f2 (by omega) (by omega) (by omega) w hw hw0

theorem width_is (xs : List (List Int)) (hl : xs.length < 1000000) (hx : ∀ r ∈ xs, Fin .f32 (r.getD 0 0)) : Pure.spec_l02Width_ok real xs = true ∧ Pure.impl_width_ok real xs = true ∧ Pure.spec_l02Width real xs = Pure.impl_width real xs := by
  obtain ⟨h1, h2⟩ := width_loop xs hl hx xs.length 0 (Nat.succ (xs.length + 0)) (Nat.succ (xs.length + 0)) (by omega) (by omega) (by omega) 0 f32_zero.1 (by rw [f32_zero.2]; omega)
  change Pure.spec_l02Width_L0 real xs (Nat.succ (xs.length + 0)) 0 0 = Pure.impl_width_L0 real (Int.ofNat xs.length) xs (Nat.succ (xs.length + 0)) 0 0 at h1
  change (Pure.impl_width_L0 real (Int.ofNat xs.length) xs (Nat.succ (xs.length + 0)) 0 0).1 = true at h2
  unfold Pure.spec_l02Width_ok Pure.impl_width_ok Pure.spec_l02Width Pure.impl_width
  rw [h1]
  exact ⟨h2, h2, rfl⟩

theorem heads_fin {l : List (List Int)} (h : ∀ r ∈ l, Fin .f32 (r.getD 0 0) ∧ r = [r.getD 0 0, r.getD 1 0, r.getD 2 0]) : ∀ r ∈ heads l, Fin .f32 (r.getD 0 0) := by
  intro r hr
  unfold heads at hr
  rw [List.mem_map] at hr
  obtain ⟨q, h1, rfl⟩ := hr
  exact (h q h1).1

theorem in_false {a b c : Int} (h : ¬ (b ≤ a ∧ a ≤ c)) : Pure.impl_in real a b c = false := by
  cases hc : Pure.impl_in real a b c with
  | false => rfl
  | true => exact absurd (in_iff.1 hc) h

theorem response_is (x0 x1 x2 x3 x4 x6 x7 x8 x9 x10 : Int) {x5 : Int} (h5 : OkF .f32 x5) : Pure.spec_ResponseOf_ok real x0 x1 x2 x3 x4 x5 x6 x7 x8 x9 x10 = true ∧ Pure.impl_ResponseOf_ok real x0 x1 x2 x3 x4 x5 x6 x7 x8 x9 x10 = true ∧
    Pure.spec_ResponseOf real x0 x1 x2 x3 x4 x5 x6 x7 x8 x9 x10 = Pure.impl_ResponseOf real x0 x1 x2 x3 x4 x5 x6 x7 x8 x9 x10 ∧ Pure.spec_ResponseOf_1 real x0 x1 x2 x3 x4 x5 x6 x7 x8 x9 x10 = Pure.impl_ResponseOf_1 real x0 x1 x2 x3 x4 x5 x6 x7 x8 x9 x10 := by
  have hin : ∀ a b c, Pure.spec_l00In real a b c = Pure.impl_in real a b c := fun _ _ _ => rfl
  unfold Pure.spec_ResponseOf_ok Pure.impl_ResponseOf_ok Pure.spec_ResponseOf Pure.impl_ResponseOf Pure.spec_ResponseOf_1 Pure.impl_ResponseOf_1 Pure.spec_l02Can
  simp only [hin]
  cases h9 : Pure.impl_in real x9 0 256 with
  | false => cases Pure.spec_l02Both real x0 x1 x2 x3 x4 x5 x6 x7 <;> cases Pure.spec_l02Tick real x8 <;> exact ⟨rfl, rfl, rfl, rfl⟩
  | true =>
    obtain ⟨a1, a2⟩ := in_iff.1 h9
    have w1 : IntKind.wrap .i64 (256 - x9) = 256 - x9 := wrap64 (by omega) (by omega)
    rw [w1]
    by_cases h10 : 0 ≤ x10 ∧ x10 ≤ 256 - x9
    · obtain ⟨b1, b2⟩ := h10
      have w2 : IntKind.wrap .i64 (x9 + x10) = x9 + x10 := wrap64 (by omega) (by omega)
      have g1 : Pure.impl_in real x10 0 256 = true := in_iff.2 ⟨b1, by omega⟩
      have g2 : Pure.impl_in real x10 0 (256 - x9) = true := in_iff.2 ⟨b1, b2⟩
      have g3 : Pure.impl_in real (x9 + x10) 0 256 = true := in_iff.2 ⟨by omega, by omega⟩
      have g4 : decide (x9 + x10 ≤ 256) = true := decide_eq_true (by omega)
      obtain ⟨i1, i2, i3, i4, i5, i6, i7, i8⟩ := runSwing_is x0 x1 x2 x3 x4 x6 x7 x8 (x9 + x10) h5
      rw [g3] at i8
      unfold Pure.spec_l02Response_ok Pure.spec_l02Response Pure.spec_l02Response_1
      rw [w2, g1, g2, g4, i2]
      simp only [cond_true]
      cases hc : Pure.spec_l02Both real x0 x1 x2 x3 x4 x5 x6 x7 && Pure.spec_l02Tick real x8 with
      | false =>
        rw [hc] at i8
        rw [i8.1]
        revert hc
        cases Pure.spec_l02Both real x0 x1 x2 x3 x4 x5 x6 x7 <;> cases Pure.spec_l02Tick real x8 <;> intro hc <;> first | exact ⟨rfl, rfl, rfl, rfl⟩ | cases hc
      | true =>
        rw [hc] at i8
        rw [Bool.and_eq_true] at hc
        rw [hc.1, hc.2]
        obtain ⟨o1, _, o3⟩ := run_is (x0 := x0) (x1 := x1) (x2 := x2) (x3 := x3) (x4 := x4) (tick := x8) (n := x9 + x10) (by omega) (by omega) x6 x7 h5
        rw [o1]
        cases hr : runT x0 x1 x2 x3 x4 x8 (x9 + x10).toNat x5 x6 x7 with
        | none =>
          rw [hr] at o3 i8
          rw [o3.1, i8.1]
          exact ⟨rfl, rfl, rfl, rfl⟩
        | some l =>
          rw [hr] at o3 i8
          have hl := runT_len _ _ _ _ _ hr
          have hf := heads_fin (runT_fin _ _ _ _ _ hr)
          have e1 : decide (0 ≤ x9) = true := decide_eq_true a1
          have e2 : decide (x9 ≤ Int.ofNat (heads l).length) = true := decide_eq_true (by rw [heads_len]; show x9 ≤ (l.length : Int); omega)
          have q4 : Pure.impl_RunSwing_4 real x0 x1 x2 x3 x4 x5 x6 x7 x8 (x9 + x10) = heads l := i8.2
          have q3 : Pure.impl_RunSwing_3 real x0 x1 x2 x3 x4 x5 x6 x7 x8 (x9 + x10) = true := i8.1
          rw [o3.1, o3.2.2.2.2.2.1, q3, q4, e1, e2]
          obtain ⟨z1, z2, z3⟩ := width_is (List.take ((heads l).length - x9.toNat) (List.drop x9.toNat (heads l))) (by simp [heads_len]; omega) (fun r hr => hf r (List.mem_of_mem_drop (List.mem_of_mem_take hr)))
          simp only [cond_true]
          exact ⟨z1, z2, z3, trivial⟩
    · have g2 : Pure.impl_in real x10 0 (256 - x9) = false := in_false h10
      rw [g2]
      have key : (bif Pure.impl_in real x10 0 256 then decide (IntKind.wrap .i64 (x9 + x10) ≤ 256) else false) = false := by
        cases hc : Pure.impl_in real x10 0 256 with
        | false => rfl
        | true =>
          obtain ⟨b1, b2⟩ := in_iff.1 hc
          rw [wrap64 (by omega) (by omega)]
          simp only [cond_true]
          exact decide_eq_false (by omega)
      simp only [cond_true, key]
      cases Pure.spec_l02Both real x0 x1 x2 x3 x4 x5 x6 x7 <;> cases Pure.spec_l02Tick real x8 <;> exact ⟨rfl, rfl, rfl, rfl⟩

theorem law_FnExactResponseOf (x0 x1 x2 x3 x4 x5 x6 x7 x8 x9 x10 : Int) (_ : OkF .f32 x0) (_ : OkF .f32 x1) (_ : OkF .f32 x2) (_ : OkF .f32 x3) (_ : OkF .f32 x4) (h5 : OkF .f32 x5) (_ : OkF .f32 x6) (_ : OkF .f32 x7) (_ : OkF .f32 x8) (_ : IntKind.i64.has x9) (_ : IntKind.i64.has x10) :
    Pure.laws_FnExactResponseOf_ok real x0 x1 x2 x3 x4 x5 x6 x7 x8 x9 x10 = true ∧ Pure.laws_FnExactResponseOf real x0 x1 x2 x3 x4 x5 x6 x7 x8 x9 x10 = true := by
  obtain ⟨i1, i2, i3, i4⟩ := response_is x0 x1 x2 x3 x4 x6 x7 x8 x9 x10 h5
  unfold Pure.laws_FnExactResponseOf_ok Pure.laws_FnExactResponseOf
  rw [i1, i2, i3, i4, convOk_up, sameFloat_refl]
  simp

theorem Num.okF {k : FloatKind} {x : Int} (h : Num k x) : OkF k x := by
  refine ⟨x.toNat, ?_, ?_⟩
  · rw [cf_of_num h.notNaN]; have := h.nonneg; omega
  · have := h.word
    cases k
    · have h2 : FloatKind.f32.format.signWeight = 2147483648 := by decide
      simp [FloatKind.has]; omega
    · have h2 : FloatKind.f64.format.signWeight = 9223372036854775808 := by decide
      simp [FloatKind.has]; omega

end Go.Fx
