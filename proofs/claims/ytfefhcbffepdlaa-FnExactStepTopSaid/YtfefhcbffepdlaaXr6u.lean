import Derived.Test.YtfefhcbffepdlaaXr6c
import Derived.Test.YtfefhcbffepdlaaXRoot2
import Derived.Test.YtfefhcbffepdlaaXWrap
namespace Go.Fx
theorem sameFloat_refl (c : Int) : Pure.laws_sameFloat real c c = true := by
  unfold Pure.laws_sameFloat
  rw [eql_eq_not_neq, eql_eq_not_neq]
  cases real.cmp .neq .f64 c c with
  | true => rfl
  | false => simp

theorem isFin {x : Int} (h : Fin .f32 x) : Pure.impl_IsFinite real x = true := (isfin_iff h.okF).2 h
theorem fin_is (x : Int) : Pure.spec_l01Finite real x = Pure.impl_IsFinite real x := rfl
theorem fin_of {x : Int} (h : OkF .f32 x) (hf : Pure.impl_IsFinite real x = true) : Fin .f32 x := (isfin_iff h).1 hf

/-- Whether all of a list's numbers are finite. -/
theorem index_finite (xs : List (List Int)) (hl : xs.length < 4611686018427387904) : ∀ (n : Nat) (i : Nat), i ≤ xs.length → xs.length - i < n →
    (Pure.slices_IndexFunc_float32_float32_finite_L0 real xs.length xs n i).1 = true ∧
    (Pure.slices_IndexFunc_float32_float32_finite_L0 real xs.length xs n i).2.1 = ((xs.drop i).any fun r => Pure.impl_finite_c1 real (r.getD 0 0)) ∧
    0 ≤ (Pure.slices_IndexFunc_float32_float32_finite_L0 real xs.length xs n i).2.2 := by
  intro n
  induction n with
  | zero => intro i _ h; omega
  | succ n ih =>
    intro i hi hn
    unfold Pure.slices_IndexFunc_float32_float32_finite_L0
    have e0 : decide (0 ≤ (i : Int)) = true := by simp
    rcases Nat.lt_or_ge i xs.length with h | h
    · have e1 : decide ((i : Int) < (xs.length : Int)) = true := by simp; exact h
      have e2 : Decidable.decide ((i : Int) < Int.ofNat xs.length) = true := e1
      rw [e1, e0, e2]
      simp only [cond_true, Int.toNat_natCast]
      have hd : xs.drop i = xs[i] :: xs.drop (i + 1) := List.drop_eq_getElem_cons h
      rw [hd]
      simp only [List.any_cons]
      rw [getD_some h]
      cases Pure.impl_finite_c1 real (xs[i].getD 0 0) with
      | true => simp
      | false =>
        simp only [cond_false, Bool.false_or]
        rw [wrap64 (by omega) (by omega)]
        have := ih (i + 1) (by omega) (by omega)
        simpa using this
    · have e1 : decide ((i : Int) < (xs.length : Int)) = false := by simp; exact h
      rw [e1]
      have : xs.drop i = [] := List.drop_eq_nil_of_le h
      simp [this]

theorem impl_finite_eq (xs : List (List Int)) (hl : xs.length < 4611686018427387904) : Pure.impl_finite_ok real xs = true ∧ Pure.impl_finite real xs = xs.all fun r => Pure.impl_IsFinite real (r.getD 0 0) := by
  obtain ⟨h1, h2, h3⟩ := index_finite xs hl (xs.length + 1) 0 (Nat.zero_le _) (by omega)
  unfold Pure.impl_finite_ok Pure.impl_finite Pure.slices_ContainsFunc_float32_float32_finite_ok Pure.slices_ContainsFunc_float32_float32_finite Pure.slices_IndexFunc_float32_float32_finite_ok Pure.slices_IndexFunc_float32_float32_finite
  refine ⟨h1, ?_⟩
  have e : xs.all (fun r => Pure.impl_IsFinite real (r.getD 0 0)) = !((xs.drop 0).any fun r => Pure.impl_finite_c1 real (r.getD 0 0)) := by
    unfold Pure.impl_finite_c1
    rw [List.drop_zero, List.all_eq_not_any_not]
    have e2 : ∀ b : Bool, (bif b then false else true) = !b := fun b => by cases b <;> rfl
    simp only [e2]
  rw [e, ← h2]
  change (bif decide ((bif (Pure.slices_IndexFunc_float32_float32_finite_L0 real xs.length xs (xs.length + 1) 0).2.1 then (Pure.slices_IndexFunc_float32_float32_finite_L0 real xs.length xs (xs.length + 1) 0).2.2 else -1) ≥ 0) then false else true) = _
  change 0 ≤ (Pure.slices_IndexFunc_float32_float32_finite_L0 real xs.length xs (xs.length + 1) 0).2.2 at h3
  generalize (Pure.slices_IndexFunc_float32_float32_finite_L0 real xs.length xs (xs.length + 1) ((0 : Nat) : Int)) = r at *
  change (bif decide ((bif r.2.1 then r.2.2 else -1) ≥ 0) then false else true) = _
  cases hr : r.2.1 with
  | true => simp only [cond_true]; rw [decide_eq_true h3]; rfl
  | false => rfl


/-! ### tables -/
end Go.Fx
