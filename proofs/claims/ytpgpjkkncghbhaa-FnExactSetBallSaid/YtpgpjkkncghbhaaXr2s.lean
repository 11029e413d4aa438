import Derived.Test.YtpgpjkkncghbhaaXr2f
import Derived.Test.YtpgpjkkncghbhaaXr2n
namespace Go.Fx

theorem law_FnExactSetBall (x0 : List (List Int)) (x1 x2 x3 x4 x5 : Int) (h0 : RowsOK B3 x0) (_ : OkF .f32 x1) (_ : IntKind.i64.has x2) (_ : OkF .f32 x3) (_ : OkF .f32 x4) (_ : OkF .f32 x5) : Pure.laws_FnExactSetBall_ok real x0 x1 x2 x3 x4 x5 = true ∧ Pure.laws_FnExactSetBall real x0 x1 x2 x3 x4 x5 = true := by
  unfold Pure.laws_FnExactSetBall_ok Pure.laws_FnExactSetBall
  cases hs : decide (Pure.laws_szRow real x0 x1 1048576 < 0) with
  | true => exact ⟨rfl, rfl⟩
  | false =>
    have hl := sz_small h0.len hs
    obtain ⟨t1, t2⟩ := toBalls_eq h0 hl
    obtain ⟨v1, v2, v3, _⟩ := valid_is x0 x1 (by omega)
    obtain ⟨e1, e2⟩ := eqRow_refl x0 x1 (by omega)
    obtain ⟨w1, w2, w3, _⟩ := valid_is (x0.set x2.toNat [x3, x4, x5]) x1 (by simp; omega)
    have d0 : decide (x0.length ≤ 1073741824) = true := by simp; omega
    have ei : ∀ a b c, Pure.spec_l00In real a b c = Pure.impl_in real a b c := fun a b c => rfl
    have hw : IntKind.wrap .i64 (Int.ofNat x0.length - 1) = Int.ofNat x0.length - 1 := wrap64 (by simp; omega) (by simp; omega)
    have hi : ∃ l q, l.length ≤ 1048576 ∧ (∀ j, j < l.length → (l.getD j []).length = 3) ∧ Pure.impl_changedRow_set_2 real x0 x1 x2 x3 x4 x5 = l ∧ Pure.impl_changedRow_set real x0 x1 x2 x3 x4 x5 = q ∧ Pure.impl_changedRow_set_1 real x0 x1 x2 x3 x4 x5 = Pure.spec_SetBall_1 real x0 x1 x2 x3 x4 x5 ∧
        Pure.spec_SetBall real x0 x1 x2 x3 x4 x5 = q ∧ Pure.spec_SetBall_2 real x0 x1 x2 x3 x4 x5 = l ∧ Pure.impl_SetBall_ok real x0 x1 x2 x3 x4 x5 = true ∧ Pure.spec_SetBall_ok real x0 x1 x2 x3 x4 x5 = true := by
      unfold Pure.impl_changedRow_set_2 Pure.impl_changedRow_set Pure.impl_changedRow_set_1 Pure.impl_SetBall_ok Pure.impl_changedRow_set_ok Pure.spec_SetBall Pure.spec_SetBall_1 Pure.spec_SetBall_2 Pure.spec_SetBall_ok Pure.impl_SetBall_c1 Pure.impl_SetBall_c1_1 Pure.impl_SetBall_c1_ok Pure.spec_l06Own_ok Pure.spec_l06Give_way Pure.spec_l06Give_okA Pure.spec_l06Give_okB
      rw [v1, v2, v3, d0, ei, hw]
      cases hb : Pure.impl_ValidRow real x0 x1
      · exact ⟨[], 0, by simp, by simp, rfl, rfl, rfl, rfl, rfl, rfl, rfl⟩
      · cases hn : Pure.impl_in real x2 0 (Int.ofNat x0.length - 1)
        · exact ⟨[], 0, by simp, by simp, rfl, rfl, rfl, rfl, rfl, rfl, rfl⟩
        · have hn2 : 0 ≤ x2 ∧ x2 < Int.ofNat x0.length := by
            unfold Pure.impl_in at hn
            simp only [Bool.cond_false_right, Bool.and_eq_true, decide_eq_true_eq, ge_iff_le] at hn
            omega
          simp only [cond_true]
          rw [decide_eq_true hn2.1, decide_eq_true hn2.2, w1, w2, w3]
          cases hb2 : Pure.impl_ValidRow real (x0.set x2.toNat [x3, x4, x5]) x1
          · exact ⟨[], 0, by simp, by simp, rfl, rfl, rfl, rfl, rfl, rfl, rfl⟩
          · refine ⟨x0.set x2.toNat [x3, x4, x5], x1, by simpa using hl, fun j hj => ?_, rfl, rfl, rfl, rfl, rfl, rfl, rfl⟩
            rw [List.length_set] at hj
            rw [List.getD_eq_getElem?_getD, List.getElem?_set]
            by_cases hij : x2.toNat = j
            · rw [if_pos hij, if_pos (by omega)]; rfl
            · rw [if_neg hij, ← List.getD_eq_getElem?_getD]; exact rows3 h0 j hj
    obtain ⟨l, q, hll, hl3, i1, i2, i3, i4, i5, i6, i7⟩ := hi
    obtain ⟨q1, q2⟩ := eqRow_refl l q (by omega)
    obtain ⟨c1, c2, c3, c4, c5, c6⟩ := changed_end (x1 := x1) h0 hl hll hl3
    unfold Pure.laws_toRow_ok Pure.laws_markRow_ok
    rw [t1, t2, i1, i2, i3, i4, i5, i6, i7, q1, q2, e1, e2, c1, c2, c3, c4, c5, c6]
    have d1 : decide ((1 : Int) + 3 * (x0.length : Int) < 0) = false := by simp; omega
    have d2 : decide ((1 : Int) + 3 * (l.length : Int) < 0) = false := by simp; omega
    rw [d1, d2]
    simp
end Go.Fx
