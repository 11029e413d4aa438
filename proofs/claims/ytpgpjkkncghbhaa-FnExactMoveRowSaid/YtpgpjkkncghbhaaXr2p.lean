import Derived.Test.YtpgpjkkncghbhaaXr2e
import Derived.Test.YtpgpjkkncghbhaaXr2n
namespace Go.Fx

/-! ### the row moved on -/
def moveRow (p : Int) (r : List Int) : List Int := setFrom r 0 [real.bin .add .f32 (r.getD 0 0) (real.bin .mul .f32 p (r.getD 1 0))]

theorem move_loops (xs : List (List Int)) (k p : Int) (hl : xs.length < 1000000000) :
    Pure.impl_each_c1_move_L0 real (Int.ofNat xs.length) k p (xs.length + 1) 0 xs = (true, xs.map (moveRow p)) ∧ Pure.spec_l06Move_L0 real p k xs 0 k (xs.length + 1) 0 xs = (true, xs.map (moveRow p)) := by
  obtain ⟨h1, _⟩ := iter_up xs.length (fun i (a : List (List Int)) => a.set i (moveRow p (a.getD i [])))
    (fun n i a => (Pure.impl_each_c1_move_L0 real (Int.ofNat xs.length) k p n i a, Pure.spec_l06Move_L0 real p k xs 0 k n i a)) (fun a => ((true, a), (true, a))) (fun _ a => a.length = xs.length)
    (fun n i a h hI => by
      refine ⟨?_, by simp [hI]⟩
      conv => lhs; unfold Pure.impl_each_c1_move_L0 Pure.spec_l06Move_L0
      rw [hI, dec_lt h, dec_nn, Int.toNat_natCast, wrap_succ (by omega)]; rfl) (fun n a hI => by
      conv => lhs; unfold Pure.impl_each_c1_move_L0 Pure.spec_l06Move_L0
      rw [hI, dec_ge (Nat.le_refl _)]; rfl) (xs.length + 1) 0 xs (by omega) (by omega) rfl
  rw [upFold_set (moveRow p) xs _ 0 xs rfl (by omega) rfl (fun j hj => by omega) (fun _ _ _ => rfl)] at h1
  simp only [Prod.mk.injEq] at h1
  exact h1

theorem moveRow3 {p : Int} {r : List Int} (h : r.length = 3) : moveRow p r = [real.bin .add .f32 (r.getD 0 0) (real.bin .mul .f32 p (r.getD 1 0)), r.getD 1 0, r.getD 2 0] := by
  match r, h with
  | [a, b, c], _ => rfl

theorem law_FnExactMoveRow (x0 : List (List Int)) (x1 x2 : Int) (h0 : RowsOK B3 x0) (_ : OkF .f32 x1) (_ : OkF .f32 x2) : Pure.laws_FnExactMoveRow_ok real x0 x1 x2 = true ∧ Pure.laws_FnExactMoveRow real x0 x1 x2 = true := by
  unfold Pure.laws_FnExactMoveRow_ok Pure.laws_FnExactMoveRow
  cases hs : decide (Pure.laws_szRow real x0 x1 1048576 < 0) with
  | true => exact ⟨rfl, rfl⟩
  | false =>
    have hl := sz_small h0.len hs
    obtain ⟨t1, t2⟩ := toBalls_eq h0 hl
    obtain ⟨v1, v2, v3, _⟩ := valid_is x0 x1 (by omega)
    obtain ⟨e1, e2⟩ := eqRow_refl x0 x1 (by omega)
    obtain ⟨m1, m2⟩ := move_loops x0 x1 x2 (by omega)
    obtain ⟨w1, w2, w3, _⟩ := valid_is (x0.map (moveRow x2)) x1 (by simp; omega)
    have d0 : decide (x0.length ≤ 1073741824) = true := by simp; omega
    have hi : ∃ l q, l.length ≤ 1048576 ∧ (∀ j, j < l.length → (l.getD j []).length = 3) ∧ Pure.impl_MoveRow_2 real x0 x1 x2 = l ∧ Pure.impl_MoveRow real x0 x1 x2 = q ∧ Pure.impl_MoveRow_1 real x0 x1 x2 = Pure.spec_MoveRow_1 real x0 x1 x2 ∧
        Pure.spec_MoveRow real x0 x1 x2 = q ∧ Pure.spec_MoveRow_2 real x0 x1 x2 = l ∧ Pure.impl_MoveRow_ok real x0 x1 x2 = true ∧ Pure.spec_MoveRow_ok real x0 x1 x2 = true := by
      unfold Pure.impl_MoveRow_2 Pure.impl_MoveRow Pure.impl_MoveRow_1 Pure.impl_MoveRow_ok Pure.impl_changedRow_move_2 Pure.impl_changedRow_move Pure.impl_changedRow_move_1 Pure.impl_each_move_ok Pure.impl_changedRow_move_ok Pure.spec_MoveRow Pure.spec_MoveRow_1 Pure.spec_MoveRow_2 Pure.spec_MoveRow_ok Pure.spec_l06Move Pure.spec_l06Move_ok Pure.impl_each_c1_move Pure.impl_each_c1_move_ok Pure.spec_l06Own_ok Pure.spec_l06Give_way Pure.spec_l06Give_okA Pure.spec_l06Give_okB
      have e0 : Nat.succ (x0.length + 0) = x0.length + 1 := rfl
      have ef : Pure.spec_l01Finite real x2 = Pure.impl_IsFinite real x2 := rfl
      rw [e0, v1, v2, v3, m1, m2, w1, w2, w3, d0, ef]
      cases hb : Pure.impl_ValidRow real x0 x1 <;> cases Pure.impl_IsFinite real x2
      · exact ⟨[], 0, by simp, by simp, rfl, rfl, rfl, rfl, rfl, rfl, rfl⟩
      · exact ⟨[], 0, by simp, by simp, rfl, rfl, rfl, rfl, rfl, rfl, rfl⟩
      · exact ⟨[], 0, by simp, by simp, rfl, rfl, rfl, rfl, rfl, rfl, rfl⟩
      · cases hb2 : Pure.impl_ValidRow real (x0.map (moveRow x2)) x1
        · exact ⟨[], 0, by simp, by simp, rfl, rfl, rfl, rfl, rfl, rfl, rfl⟩
        · refine ⟨x0.map (moveRow x2), x1, by simpa using hl, fun j hj => ?_, rfl, rfl, rfl, rfl, rfl, rfl, rfl⟩
          rw [List.length_map] at hj
          rw [map_getD hj, moveRow3 (rows3 h0 j hj)]; rfl
    obtain ⟨l, q, hll, hl3, i1, i2, i3, i4, i5, i6, i7⟩ := hi
    obtain ⟨q1, q2⟩ := eqRow_refl l q (by omega)
    obtain ⟨c1, c2, c3, c4, c5, c6⟩ := changed_end (x1 := x1) h0 hl hll hl3
    unfold Pure.laws_toRow_ok Pure.laws_markRow_ok
    rw [t1, t2, i1, i2, i3, i4, i5, i6, i7, q1, q2, e1, e2, c1, c2, c3, c4, c5, c6]
    have d1 : decide ((1 : Int) + 3 * (x0.length : Int) < 0) = false := by simp; omega
    have d2 : decide ((1 : Int) + 3 * (l.length : Int) < 0) = false := by simp; omega
    rw [d1, d2]
    simp
end Go.Fx
