import Derived.Test.YtodilhnddnoekaaXr7x
import Derived.Test.YtodilhnddnoekaaXr7e
namespace Go.Fx
set_option maxRecDepth 100000

theorem energy_L0 (y0 : Int) (p q r s : List (List Int)) (a b c : Int) (N : Nat) (hN : N < 1000) (h1 : p.length = N) (h2 : q.length = N) (h3 : r.length = N) : ∀ (n i : Nat) (z : Int), i ≤ N → N - i < n →
    Pure.spec_l03Energy_L0 real y0 (Int.ofNat N) p q r s a b c n z i = Pure.impl_Chain_energy_L0 real y0 (Int.ofNat N) p q r s a b c n z i ∧ (Pure.impl_Chain_energy_L0 real y0 (Int.ofNat N) p q r s a b c n z i).1 = true := by
  intro n
  induction n with
  | zero => intro i z _ h; omega
  | succ n ih =>
    intro i z hi hn
    unfold Pure.spec_l03Energy_L0 Pure.impl_Chain_energy_L0
    rcases Nat.lt_or_ge i N with h | h
    · rw [dec_lt h, dec_nn, dec_lt (show i < p.length by omega), dec_lt (show i < q.length by omega), dec_lt (show i < r.length by omega), wrap_succ (by omega)]
      simp only [cond_true]
      exact ih (i + 1) _ (by omega) (by omega)
    · rw [dec_ge h]
      exact ⟨rfl, rfl⟩

theorem energy_is (p q r s : List (List Int)) (a b c t : Int) (hN : p.length < 1000) (h2 : q.length = p.length) (h3 : r.length = p.length) :
    Pure.spec_l03Energy real p q r s a b c t = Pure.impl_Chain_energy real p q r s a b c t ∧ Pure.spec_l03Energy_ok real p q r s a b c t = true ∧ Pure.impl_Chain_energy_ok real p q r s a b c t = true := by
  obtain ⟨e1, e2⟩ := energy_L0 t p q r s a b c p.length hN rfl h2 h3 (p.length + 1) 0 0 (by omega) (by omega)
  unfold Pure.spec_l03Energy Pure.impl_Chain_energy Pure.spec_l03Energy_ok Pure.impl_Chain_energy_ok
  have es : Nat.succ (p.length + 0) = p.length + 1 := rfl
  have zz : ((0 : Nat) : Int) = 0 := rfl
  rw [zz] at e1 e2
  rw [es, e1]
  exact ⟨rfl, e2, e2⟩

theorem run_loop (a b c keep tick : Int) (R : Nat) (hR : R ≤ 20) (S : Nat) (hS : S ≤ 64) (x2 x3 z0 z1 z2 z3 : List (List Int)) :
    ∀ (d k n1 n2 : Nat) (p q l : List (List Int)), k + d = S → d < n1 → d < n2 → Good p q x2 x3 → FRows p → FRows q → l.length = k → Wide 1 l →
    (∃ P Q L P' Q' R' S' L', Pure.impl_RunChain_c1_L0 real S a b c keep tick R S x2 x3 n1 k p q l = (true, true, [], [], [], P, Q, L) ∧
      Pure.spec_RunChain_L0 real keep tick R z0 z1 z2 z3 a b c n2 d l p q x2 x3 = (true, true, [], [], [], [], [], L', P', Q', R', S')) ∨
    (∃ P Q L, Pure.impl_RunChain_c1_L0 real S a b c keep tick R S x2 x3 n1 k p q l = (true, false, P, Q, L, [], [], []) ∧ Good P Q x2 x3 ∧ FRows P ∧ FRows Q ∧ Wide 1 L ∧ L.length = S ∧
      Pure.spec_RunChain_L0 real keep tick R z0 z1 z2 z3 a b c n2 d l p q x2 x3 = (true, false, L, P, Q, x2, x3, [], [], [], [], [])) := by
  intro d
  induction d with
  | zero =>
    intro k n1 n2 p q l hk h1 h2 hg hp hq hl hw
    obtain ⟨n1, rfl⟩ : ∃ k, n1 = k + 1 := ⟨n1 - 1, by omega⟩
    obtain ⟨n2, rfl⟩ : ∃ k, n2 = k + 1 := ⟨n2 - 1, by omega⟩
    right
    refine ⟨p, q, l, ?_, hg, hp, hq, hw, by omega, ?_⟩
    · unfold Pure.impl_RunChain_c1_L0
      rw [decide_eq_false (show ¬ ((k : Int) < (S : Int)) by omega)]
      rfl
    · unfold Pure.spec_RunChain_L0
      rw [decide_eq_false (show ¬ (((0 : Nat) : Int) > 0) by omega)]
      rfl
  | succ d ih =>
    intro k n1 n2 p q l hk h1 h2 hg hp hq hl hw
    obtain ⟨n1, rfl⟩ : ∃ k, n1 = k + 1 := ⟨n1 - 1, by omega⟩
    obtain ⟨n2, rfl⟩ : ∃ k, n2 = k + 1 := ⟨n2 - 1, by omega⟩
    unfold Pure.impl_RunChain_c1_L0 Pure.spec_RunChain_L0
    rw [decide_eq_true (show ((k : Int) < (S : Int)) by omega), decide_eq_true (show (((d + 1 : Nat) : Int) > 0) by omega)]
    obtain ⟨s1, s2, s3⟩ := step_is p q x2 x3 a b c keep tick R hR hg hp hq
    rw [s1, s2]
    have w1 : IntKind.wrap .i64 ((k : Int) + 1) = ((k + 1 : Nat) : Int) := by rw [wrap64 (by omega) (by omega)]; omega
    have w2 : IntKind.wrap .i64 (((d + 1 : Nat) : Int) - 1) = (d : Int) := by rw [wrap64 (by omega) (by omega)]; omega
    rcases s3 with ⟨t1, t2, t3, t4, t5, t6⟩ | ⟨t1, t2, t3, t4, t5, t6, t7, t8, t9⟩
    · rw [t1, t2]
      exact .inl ⟨_, _, _, _, _, _, _, _, rfl, rfl⟩
    · rw [t1, t2, t3, t4, t5, t6, w1, w2]
      generalize Pure.impl_Chain_step_1 real p q x2 x3 a b c keep tick R = P at *
      generalize Pure.impl_Chain_fly_1 real p q x2 x3 a b c keep tick = Q at *
      have hsm := t7.small
      obtain ⟨e1, e2, e3⟩ := energy_is P Q x2 x3 a b c tick (by omega) t7.2.1 t7.2.2.1
      rw [e1, e2, e3, decide_eq_true (show Nat.succ l.length ≤ 1073741824 by omega)]
      simp only [cond_true]
      exact ih (k + 1) n1 n2 P Q _ (by omega) (by omega) (by omega) t7 t8 t9 (by simp [hl]) fun j hj => by
        rw [List.length_append] at hj
        simp only [List.length_cons, List.length_nil] at hj
        rw [List.getD_eq_getElem?_getD]
        by_cases hjl : j < l.length
        · rw [List.getElem?_append_left hjl, ← List.getD_eq_getElem?_getD]; exact hw j hjl
        · have : j = l.length := by omega
          subst this
          rw [List.getElem?_append_right (Nat.le_refl _)]
          simp

theorem runChain_is (x0 x1 x2 x3 : List (List Int)) (x4 x5 x6 x7 x8 x9 x10 : Int) (h0 : x0.length ≤ 1048576) (h1 : x1.length ≤ 1048576) (h2 : x2.length ≤ 1048576) (h3 : x3.length ≤ 1048576) (w0 : FRows x0) (w1 : FRows x1) (w2 : Wide 1 x2) (w3 : Wide 3 x3) :
    Pure.spec_RunChain_ok real x0 x1 x2 x3 x4 x5 x6 x7 x8 x9 x10 = true ∧ Pure.impl_RunChain_ok real x0 x1 x2 x3 x4 x5 x6 x7 x8 x9 x10 = true ∧
    Pure.impl_changedChain_run real x0 x1 x2 x3 x4 x5 x6 x7 x8 x9 x10 = Pure.spec_RunChain real x0 x1 x2 x3 x4 x5 x6 x7 x8 x9 x10 ∧
    ∃ p q r s l : List (List Int), Pure.impl_RunChain real x0 x1 x2 x3 x4 x5 x6 x7 x8 x9 x10 = p ∧ Pure.impl_RunChain_1 real x0 x1 x2 x3 x4 x5 x6 x7 x8 x9 x10 = q ∧ Pure.impl_RunChain_2 real x0 x1 x2 x3 x4 x5 x6 x7 x8 x9 x10 = r ∧ Pure.impl_RunChain_3 real x0 x1 x2 x3 x4 x5 x6 x7 x8 x9 x10 = s ∧ Pure.impl_RunChain_4 real x0 x1 x2 x3 x4 x5 x6 x7 x8 x9 x10 = l ∧
      Pure.spec_RunChain_1 real x0 x1 x2 x3 x4 x5 x6 x7 x8 x9 x10 = p ∧ Pure.spec_RunChain_2 real x0 x1 x2 x3 x4 x5 x6 x7 x8 x9 x10 = q ∧ Pure.spec_RunChain_3 real x0 x1 x2 x3 x4 x5 x6 x7 x8 x9 x10 = r ∧ Pure.spec_RunChain_4 real x0 x1 x2 x3 x4 x5 x6 x7 x8 x9 x10 = s ∧ Pure.spec_RunChain_5 real x0 x1 x2 x3 x4 x5 x6 x7 x8 x9 x10 = l ∧
      p.length ≤ 2000000 ∧ q.length ≤ 2000000 ∧ r.length ≤ 2000000 ∧ s.length ≤ 2000000 ∧ l.length ≤ 1000 ∧ Wide 3 p ∧ Wide 3 q ∧ Wide 1 r ∧ Wide 3 s ∧ Wide 1 l := by
  have v := impl_valid x0 x1 x2 x3 (by omega) (by omega) (by omega) (by omega)
  have nil : ([] : List (List Int)).length ≤ 2000000 := by simp
  have nil2 : ([] : List (List Int)).length ≤ 1000 := by simp
  unfold Pure.impl_RunChain Pure.impl_RunChain_1 Pure.impl_RunChain_2 Pure.impl_RunChain_3 Pure.impl_RunChain_4 Pure.impl_RunChain_ok
    Pure.spec_RunChain_ok Pure.spec_RunChain Pure.spec_RunChain_1 Pure.spec_RunChain_2 Pure.spec_RunChain_3 Pure.spec_RunChain_4 Pure.spec_RunChain_5
    Pure.impl_changedChain_run Pure.impl_changedChain_run_1 Pure.impl_changedChain_run_2 Pure.impl_changedChain_run_3 Pure.impl_changedChain_run_4 Pure.impl_changedChain_run_5 Pure.impl_changedChain_run_ok
    Pure.impl_RunChain_c1 Pure.impl_RunChain_c1_1 Pure.impl_RunChain_c1_2 Pure.impl_RunChain_c1_3 Pure.impl_RunChain_c1_ok Pure.impl_toldChain_way Pure.impl_toldChain_okA Pure.impl_toldChain_okB Pure.impl_flyOk_ok
  rw [(spec_valid x0 x1 x2 x3).1, valid_is x0 x1 x2 x3 (by omega) (by omega) (by omega) (by omega), v.1, air_is, in_is, in_is, (finv_is x4 x5 x6).2]
  cases hv : Pure.impl_ValidChain real x0 x1 x2 x3 with
  | false => exact ⟨rfl, rfl, rfl, [], [], [], [], [], rfl, rfl, rfl, rfl, rfl, rfl, rfl, rfl, rfl, rfl, nil, nil, nil, nil, nil2, wide_nil _, wide_nil _, wide_nil _, wide_nil _, wide_nil _⟩
  | true =>
    have hg := v.2.1 hv
    rw [clone_ok hg]
    have hown : Pure.spec_l03Own_ok real x0 x1 x2 x3 = true := clone_ok hg
    rw [hown]
    cases ha : Pure.impl_flyOk real x4 x5 x6 x7 x8 with
    | false => exact ⟨rfl, rfl, rfl, [], [], [], [], [], rfl, rfl, rfl, rfl, rfl, rfl, rfl, rfl, rfl, rfl, nil, nil, nil, nil, nil2, wide_nil _, wide_nil _, wide_nil _, wide_nil _, wide_nil _⟩
    | true =>
      cases hi : Pure.impl_in real x9 0 20 with
      | false => exact ⟨rfl, rfl, rfl, [], [], [], [], [], rfl, rfl, rfl, rfl, rfl, rfl, rfl, rfl, rfl, rfl, nil, nil, nil, nil, nil2, wide_nil _, wide_nil _, wide_nil _, wide_nil _, wide_nil _⟩
      | true =>
        cases hj : Pure.impl_in real x10 0 64 with
        | false => exact ⟨rfl, rfl, rfl, [], [], [], [], [], rfl, rfl, rfl, rfl, rfl, rfl, rfl, rfl, rfl, rfl, nil, nil, nil, nil, nil2, wide_nil _, wide_nil _, wide_nil _, wide_nil _, wide_nil _⟩
        | true =>
          have hR := in_iff.1 hi
          have hS := in_iff.1 hj
          obtain ⟨R, rfl⟩ : ∃ R : Nat, x9 = R := ⟨x9.toNat, by omega⟩
          obtain ⟨S, rfl⟩ : ∃ S : Nat, x10 = S := ⟨x10.toNat, by omega⟩
          have e1 : ((S : Int) - 0 + 1).toNat = S + 1 := by omega
          rw [e1]
          have hl := run_loop x4 x5 x6 x7 x8 R (by omega) S (by omega) x2 x3 x0 x1 x2 x3 S 0 (S + 1) (S + 1) x0 x1 [] (by omega) (by omega) (by omega) hg w0 w1 rfl (wide_nil _)
          have z0 : ((0 : Nat) : Int) = 0 := rfl
          rw [z0] at hl
          rcases hl with ⟨P, Q, L, P', Q', R', S', L', i1, i2⟩ | ⟨P, Q, L, i1, gg, fp, fq, fl, hL, i2⟩
          · rw [i1, i2]
            exact ⟨rfl, rfl, rfl, [], [], [], [], [], rfl, rfl, rfl, rfl, rfl, rfl, rfl, rfl, rfl, rfl, nil, nil, nil, nil, nil2, wide_nil _, wide_nil _, wide_nil _, wide_nil _, wide_nil _⟩
          · have hs := gg.small
            have v2 := impl_valid P Q x2 x3 (by omega) (by omega) (by omega) (by omega)
            have v3 := v2.2.2 gg
            rw [i1, i2]
            simp only [cond_true, cond_false, v2.1, v3, true_and]
            exact ⟨P, Q, x2, x3, L, rfl, rfl, rfl, rfl, rfl, rfl, rfl, rfl, rfl, rfl, by omega, by omega, by omega, by omega, by omega, fp.wide, fq.wide, w2, w3, fl⟩

theorem law_FnExactRunChain (x0 x1 x2 x3 : List (List Int)) (x4 x5 x6 x7 x8 x9 x10 : Int) (h0 : RowsOK B3 x0) (h1 : RowsOK B3 x1) (h2 : RowsOK B1 x2) (h3 : RowsOK BR x3) (_ : OkF .f32 x4) (_ : OkF .f32 x5) (_ : OkF .f32 x6) (_ : OkF .f32 x7) (_ : OkF .f32 x8) (_ : IntKind.i64.has x9) (_ : IntKind.i64.has x10) :
    Pure.laws_FnExactRunChain_ok real x0 x1 x2 x3 x4 x5 x6 x7 x8 x9 x10 = true ∧ Pure.laws_FnExactRunChain real x0 x1 x2 x3 x4 x5 x6 x7 x8 x9 x10 = true := by
  unfold Pure.laws_FnExactRunChain_ok Pure.laws_FnExactRunChain
  cases hs : decide (Pure.laws_szChain real x0 x1 x2 x3 1048576 < 0) with
  | true => exact ⟨rfl, rfl⟩
  | false =>
    have hl := szChain_small x0 x1 x2 x3 h0.len h1.len h2.len h3.len hs
    obtain ⟨t0, t1, t2, t3, t4⟩ := toChain_is h0 h1 h2 h3 hl
    rw [t0, t1, t2, t3, t4]
    obtain ⟨i1, i2, i3, p, q, r, s, l, e1, e2, e3, e4, e5, e6, e7, e8, e9, e10, n0, n1, n2, n3, n4, v0, v1, v2, v3, v4⟩ := runChain_is x0 x1 x2 x3 x4 x5 x6 x7 x8 x9 x10 hl.1 hl.2.1 hl.2.2.1 hl.2.2.2 h0.frows h1.frows h2.wide h3.wide
    rw [i1, i2, i3, e1, e2, e3, e4, e5, e6, e7, e8, e9, e10]
    obtain ⟨a1, a2⟩ := eqChain_refl p q r s (by omega) (by omega) (by omega) (by omega)
    obtain ⟨b1, b2⟩ := eqChain_refl x0 x1 x2 x3 (by omega) (by omega) (by omega) (by omega)
    obtain ⟨c1, K, hK, c2, _, _⟩ := chain_marks x0 x1 x2 x3 (by omega) (by omega) (by omega) (by omega) h0.wide h1.wide h2.wide h3.wide
    obtain ⟨d1, J, hJ, d2, d3, d4⟩ := chain_marks p q r s n0 n1 n2 n3 v0 v1 v2 v3
    obtain ⟨f1, f2⟩ := eqFloat32S_refl l (by omega)
    obtain ⟨m1, m2, m3⟩ := markFloat32S_eq J hJ l (by omega) v4
    obtain ⟨g1, g2⟩ := heldFloat32S_eq J hJ l.length (by omega)
    have nn : ∀ n : Nat, decide ((n : Int) < 0) = false := fun n => by rw [decide_eq_false_iff_not]; omega
    rw [a1, a2, b1, b2, c1, c2, d1, d2, d3, d4, f1, f2, m1, m2, m3, g1, g2, nn, nn, nn]
    simp
end Go.Fx
