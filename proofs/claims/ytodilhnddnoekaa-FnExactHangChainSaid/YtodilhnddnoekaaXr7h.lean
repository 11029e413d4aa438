import Derived.Test.YtodilhnddnoekaaXr7y
namespace Go.Fx
set_option maxRecDepth 100000
theorem hangChain_is (x0 x1 x2 x3 : List (List Int)) (x4 x5 x6 x7 x8 : Int) (h7 : OkF .f32 x7) (h0 : x0.length ≤ 1048576) (h1 : x1.length ≤ 1048576) (h2 : x2.length ≤ 1048576) (h3 : x3.length ≤ 1048576) (w0 : FRows x0) (w1 : FRows x1) (w2 : Wide 1 x2) (w3 : Wide 3 x3) :
    Pure.spec_HangChain_ok real x0 x1 x2 x3 x4 x5 x6 x7 x8 = true ∧ Pure.impl_HangChain_ok real x0 x1 x2 x3 x4 x5 x6 x7 x8 = true ∧
    Pure.impl_changedChain_hang real x0 x1 x2 x3 x4 x5 x6 x8 0 x7 = Pure.spec_HangChain_1 real x0 x1 x2 x3 x4 x5 x6 x7 x8 ∧
    Pure.impl_HangChain real x0 x1 x2 x3 x4 x5 x6 x7 x8 = Pure.spec_HangChain real x0 x1 x2 x3 x4 x5 x6 x7 x8 ∧
    ∃ p q r s : List (List Int), Pure.impl_HangChain_1 real x0 x1 x2 x3 x4 x5 x6 x7 x8 = p ∧ Pure.impl_HangChain_2 real x0 x1 x2 x3 x4 x5 x6 x7 x8 = q ∧ Pure.impl_HangChain_3 real x0 x1 x2 x3 x4 x5 x6 x7 x8 = r ∧ Pure.impl_HangChain_4 real x0 x1 x2 x3 x4 x5 x6 x7 x8 = s ∧
      Pure.spec_HangChain_2 real x0 x1 x2 x3 x4 x5 x6 x7 x8 = p ∧ Pure.spec_HangChain_3 real x0 x1 x2 x3 x4 x5 x6 x7 x8 = q ∧ Pure.spec_HangChain_4 real x0 x1 x2 x3 x4 x5 x6 x7 x8 = r ∧ Pure.spec_HangChain_5 real x0 x1 x2 x3 x4 x5 x6 x7 x8 = s ∧
      p.length ≤ 2000000 ∧ q.length ≤ 2000000 ∧ r.length ≤ 2000000 ∧ s.length ≤ 2000000 ∧ Wide 3 p ∧ Wide 3 q ∧ Wide 1 r ∧ Wide 3 s := by
  have v := impl_valid x0 x1 x2 x3 (by omega) (by omega) (by omega) (by omega)
  have nil : ([] : List (List Int)).length ≤ 2000000 := by simp
  unfold Pure.impl_HangChain Pure.impl_HangChain_1 Pure.impl_HangChain_2 Pure.impl_HangChain_3 Pure.impl_HangChain_4 Pure.impl_HangChain_ok
    Pure.spec_HangChain_ok Pure.spec_HangChain Pure.spec_HangChain_1 Pure.spec_HangChain_2 Pure.spec_HangChain_3 Pure.spec_HangChain_4 Pure.spec_HangChain_5
    Pure.impl_changedChain_hang Pure.impl_changedChain_hang_1 Pure.impl_changedChain_hang_2 Pure.impl_changedChain_hang_3 Pure.impl_changedChain_hang_4 Pure.impl_changedChain_hang_5 Pure.impl_changedChain_hang_ok
    Pure.impl_HangChain_c1 Pure.impl_HangChain_c1_1 Pure.impl_HangChain_c1_2 Pure.impl_HangChain_c1_3 Pure.impl_HangChain_c1_ok Pure.impl_toldChain_way Pure.impl_toldChain_okA Pure.impl_toldChain_okB
  rw [(spec_valid x0 x1 x2 x3).1, valid_is x0 x1 x2 x3 (by omega) (by omega) (by omega) (by omega), v.1, vfin_is, in_is, (finv_is x4 x5 x6).2]
  cases hv : Pure.impl_ValidChain real x0 x1 x2 x3 with
  | false => exact ⟨rfl, rfl, rfl, rfl, [], [], [], [], rfl, rfl, rfl, rfl, rfl, rfl, rfl, rfl, nil, nil, nil, nil, wide_nil _, wide_nil _, wide_nil _, wide_nil _⟩
  | true =>
    have hg := v.2.1 hv
    rw [clone_ok hg]
    have hown : Pure.spec_l03Own_ok real x0 x1 x2 x3 = true := clone_ok hg
    rw [hown]
    cases ha : Pure.impl_finiteVector real x4 x5 x6 with
    | false => exact ⟨rfl, rfl, rfl, rfl, [], [], [], [], rfl, rfl, rfl, rfl, rfl, rfl, rfl, rfl, nil, nil, nil, nil, wide_nil _, wide_nil _, wide_nil _, wide_nil _⟩
    | true =>
      cases hi : Pure.impl_in real x8 1 64 with
      | false => exact ⟨rfl, rfl, rfl, rfl, [], [], [], [], rfl, rfl, rfl, rfl, rfl, rfl, rfl, rfl, nil, nil, nil, nil, wide_nil _, wide_nil _, wide_nil _, wide_nil _⟩
      | true =>
        have hR := in_iff.1 hi
        obtain ⟨S, rfl⟩ : ∃ S : Nat, x8 = S := ⟨x8.toNat, by omega⟩
        have e1 : ((S : Int) - 0 + 1).toNat = S + 1 := by omega
        have e2 : ((S : Int) - 1 + 2).toNat = S + 1 := by omega
        rw [e1, e2]
        have hl := hang_loop x4 x5 x6 x7 h7 S (by omega) x2 x3 x0 x1 x2 x3 S 0 (S + 1) (S + 1) x0 x1 (by omega) (by omega) (by omega) hg w0 w1
        have z1 : ((0 : Nat) : Int) + 1 = 1 := rfl
        have z0 : ((0 : Nat) : Int) = 0 := rfl
        rw [z1, z0] at hl
        rcases hl with ⟨a, b, c, e, f, g, h, i1, i2⟩ | ⟨M, P, Q, i1, gg, fp, fq, i2⟩
        · rw [i1, i2]
          exact ⟨rfl, rfl, rfl, rfl, [], [], [], [], rfl, rfl, rfl, rfl, rfl, rfl, rfl, rfl, nil, nil, nil, nil, wide_nil _, wide_nil _, wide_nil _, wide_nil _⟩
        · have hs := gg.small
          have v2 := impl_valid P Q x2 x3 (by omega) (by omega) (by omega) (by omega)
          have v3 := v2.2.2 gg
          rcases i2 with ⟨hM, i2⟩ | i2
          · subst hM
            rw [i1, i2]
            simp only [cond_true, cond_false, v2.1, v3, true_and]
            exact ⟨P, Q, x2, x3, rfl, rfl, rfl, rfl, rfl, rfl, rfl, rfl, by omega, by omega, by omega, by omega, fp.wide, fq.wide, w2, w3⟩
          · rw [i1, i2]
            simp only [cond_true, cond_false, v2.1, v3, true_and]
            exact ⟨P, Q, x2, x3, rfl, rfl, rfl, rfl, rfl, rfl, rfl, rfl, by omega, by omega, by omega, by omega, fp.wide, fq.wide, w2, w3⟩

theorem law_FnExactHangChain (x0 x1 x2 x3 : List (List Int)) (x4 x5 x6 x7 x8 : Int) (h0 : RowsOK B3 x0) (h1 : RowsOK B3 x1) (h2 : RowsOK B1 x2) (h3 : RowsOK BR x3) (_ : OkF .f32 x4) (_ : OkF .f32 x5) (_ : OkF .f32 x6) (h7 : OkF .f32 x7) (_ : IntKind.i64.has x8) :
    Pure.laws_FnExactHangChain_ok real x0 x1 x2 x3 x4 x5 x6 x7 x8 = true ∧ Pure.laws_FnExactHangChain real x0 x1 x2 x3 x4 x5 x6 x7 x8 = true := by
  unfold Pure.laws_FnExactHangChain_ok Pure.laws_FnExactHangChain
  cases hs : decide (Pure.laws_szChain real x0 x1 x2 x3 1048576 < 0) with
  | true => exact ⟨rfl, rfl⟩
  | false =>
    have hl := szChain_small x0 x1 x2 x3 h0.len h1.len h2.len h3.len hs
    obtain ⟨t0, t1, t2, t3, t4⟩ := toChain_is h0 h1 h2 h3 hl
    rw [t0, t1, t2, t3, t4]
    obtain ⟨i1, i2, i3, i4, p, q, r, s, e1, e2, e3, e4, e5, e6, e7, e8, n0, n1, n2, n3, v0, v1, v2, v3⟩ := hangChain_is x0 x1 x2 x3 x4 x5 x6 x7 x8 h7 hl.1 hl.2.1 hl.2.2.1 hl.2.2.2 h0.frows h1.frows h2.wide h3.wide
    rw [i1, i2, i3, i4, e1, e2, e3, e4, e5, e6, e7, e8]
    obtain ⟨a1, a2⟩ := eqChain_refl p q r s (by omega) (by omega) (by omega) (by omega)
    obtain ⟨b1, b2⟩ := eqChain_refl x0 x1 x2 x3 (by omega) (by omega) (by omega) (by omega)
    obtain ⟨c1, K, hK, c2, _, _⟩ := chain_marks x0 x1 x2 x3 (by omega) (by omega) (by omega) (by omega) h0.wide h1.wide h2.wide h3.wide
    obtain ⟨d1, J, hJ, d2, d3, d4⟩ := chain_marks p q r s n0 n1 n2 n3 v0 v1 v2 v3
    have nn : ∀ n : Nat, decide ((n : Int) < 0) = false := fun n => by rw [decide_eq_false_iff_not]; omega
    rw [a1, a2, b1, b2, c1, c2, d1, d2, d3, d4, nn, nn]
    simp
end Go.Fx
