import Derived.Test.YtpgpjkkncghbhaaXr2t
namespace Go.Fx
set_option maxRecDepth 100000
theorem even_loop (g m : Int) (a b : Int) (z : List (List Int)) (N : Nat) (hN : N ≤ 16) : ∀ (n i : Nat) (l : List (List Int)), i ≤ N → N - i < n → l.length = i → (∀ j, j < l.length → (l.getD j []).length = 3) →
    Pure.spec_EvenRow_L0 real N g m a b z n i l = Pure.impl_EvenRow_L0 real g m N a b z n i l ∧ (Pure.impl_EvenRow_L0 real g m N a b z n i l).1 = true ∧ (Pure.impl_EvenRow_L0 real g m N a b z n i l).2.length = N ∧
    (∀ j, j < (Pure.impl_EvenRow_L0 real g m N a b z n i l).2.length → ((Pure.impl_EvenRow_L0 real g m N a b z n i l).2.getD j []).length = 3) := by
  intro n
  induction n with
  | zero => intro i l _ h; omega
  | succ n ih =>
    intro i l hi hn hl hw
    unfold Pure.spec_EvenRow_L0 Pure.impl_EvenRow_L0
    by_cases h : i < N
    · rw [decide_eq_true (show (i : Int) < (N : Int) by omega), decide_eq_true (show Nat.succ l.length ≤ 1073741824 by omega), wrap_succ (by omega)]
      simp only [cond_true]
      refine ih (i + 1) _ (by omega) (by omega) (by simp [hl]) fun j hj => ?_
      rw [List.length_append] at hj
      simp only [List.length_cons, List.length_nil] at hj
      rw [List.getD_eq_getElem?_getD]
      by_cases hjl : j < l.length
      · rw [List.getElem?_append_left hjl, ← List.getD_eq_getElem?_getD]; exact hw j hjl
      · have : j = l.length := by omega
        subst this
        rw [List.getElem?_append_right (Nat.le_refl _)]
        simp
    · rw [decide_eq_false (show ¬ (i : Int) < (N : Int) by omega)]
      exact ⟨rfl, rfl, by simp only [cond_false]; omega, hw⟩

theorem law_FnExactEvenRow (x0 x1 x2 x3 : Int) (_ : IntKind.i64.has x0) (_ : OkF .f32 x1) (_ : OkF .f32 x2) (_ : OkF .f32 x3) : Pure.laws_FnExactEvenRow_ok real x0 x1 x2 x3 = true ∧ Pure.laws_FnExactEvenRow real x0 x1 x2 x3 = true := by
  have hi : ∃ l q, l.length ≤ 1048576 ∧ (∀ j, j < l.length → (l.getD j []).length = 3) ∧ Pure.impl_EvenRow_2 real x0 x1 x2 x3 = l ∧ Pure.impl_EvenRow real x0 x1 x2 x3 = q ∧ Pure.impl_EvenRow_1 real x0 x1 x2 x3 = Pure.spec_EvenRow_1 real x0 x1 x2 x3 ∧
      Pure.spec_EvenRow real x0 x1 x2 x3 = q ∧ Pure.spec_EvenRow_2 real x0 x1 x2 x3 = l ∧ Pure.impl_EvenRow_ok real x0 x1 x2 x3 = true ∧ Pure.spec_EvenRow_ok real x0 x1 x2 x3 = true := by
    unfold Pure.impl_EvenRow_2 Pure.impl_EvenRow Pure.impl_EvenRow_1 Pure.spec_EvenRow Pure.spec_EvenRow_1 Pure.spec_EvenRow_2 Pure.impl_EvenRow_ok Pure.spec_EvenRow_ok Pure.spec_l06Give_way Pure.spec_l06Give_okA Pure.spec_l06Give_okB
    have ei : Pure.spec_l00In real x0 2 16 = Pure.impl_in real x0 2 16 := rfl
    rw [ei]
    cases hb : Pure.impl_in real x0 2 16 with
    | false => exact ⟨[], 0, by simp, by simp, rfl, rfl, rfl, rfl, rfl, rfl, rfl⟩
    | true =>
      have hn : 2 ≤ x0 ∧ x0 ≤ 16 := by
        unfold Pure.impl_in at hb
        simp only [Bool.cond_false_right, Bool.and_eq_true, decide_eq_true_eq, ge_iff_le] at hb
        omega
      obtain ⟨N, rfl⟩ : ∃ N : Nat, x0 = N := ⟨x0.toNat, by omega⟩
      have ef : ((N : Int) - 0 + 1).toNat = N + 1 := by omega
      rw [ef]
      obtain ⟨e1, e2, e3, e4⟩ := even_loop x1 x2 0 x3 [] N (by omega) (N + 1) 0 [] (by omega) (by omega) rfl (by simp)
      have z0 : ((0 : Nat) : Int) = 0 := rfl
      rw [z0] at e1 e2 e3 e4
      rw [e1, e2]
      generalize (Pure.impl_EvenRow_L0 real x1 x2 N 0 x3 [] (N + 1) 0 []).2 = l at *
      obtain ⟨w1, w2, w3, _⟩ := valid_is l x3 (by omega)
      rw [w1, w2, w3]
      cases hv : Pure.impl_ValidRow real l x3 with
      | false => exact ⟨[], 0, by simp, by simp, rfl, rfl, rfl, rfl, rfl, rfl, rfl⟩
      | true => exact ⟨l, x3, by omega, e4, rfl, rfl, rfl, rfl, rfl, rfl, rfl⟩
  obtain ⟨l, q, hll, hl3, i1, i2, i3, i4, i5, i6, i7⟩ := hi
  obtain ⟨q1, q2⟩ := eqRow_refl l q (by omega)
  obtain ⟨m1, m2, m3⟩ := mark3_eq l (by omega) hl3
  obtain ⟨d1, d2⟩ := held3_eq l.length (by omega)
  unfold Pure.laws_FnExactEvenRow_ok Pure.laws_FnExactEvenRow Pure.laws_markRow_ok Pure.laws_heldRow Pure.laws_heldRow_ok
  rw [i1, i2, i3, i4, i5, i6, i7, q1, q2, m1, m2, m3, d1, d2]
  have nn : decide ((1 : Int) + 3 * (l.length : Int) < 0) = false := by simp; omega
  rw [nn]
  simp only [cond_true, cond_false]
  simp [nn]
end Go.Fx
