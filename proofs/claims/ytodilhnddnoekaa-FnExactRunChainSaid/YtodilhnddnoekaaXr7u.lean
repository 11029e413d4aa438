import Derived.Test.YtodilhnddnoekaaXr7b
import Derived.Test.YtodilhnddnoekaaXRoot2
import Derived.Test.YtodilhnddnoekaaF4
namespace Go.Fx
theorem fin_is (x : Int) : Pure.spec_l01Finite real x = Pure.impl_IsFinite real x := rfl
theorem getD_set_self {α : Type} {l : List α} {i : Nat} {a d : α} (h : i < l.length) : (l.set i a).getD i d = a := by
  rw [List.getD_eq_getElem?_getD, List.getElem?_set, if_pos rfl, if_pos h]; rfl

theorem index_finite (xs : List (List Int)) (hl : xs.length < 4611686018427387904) : ∀ (n : Nat) (i : Nat), i ≤ xs.length → xs.length - i < n →
    (Pure.slices_IndexFunc_float32_float32_finite_L0 real xs.length xs n i).1 = true ∧
    (Pure.slices_IndexFunc_float32_float32_finite_L0 real xs.length xs n i).2.1 = ((xs.drop i).any fun r => Pure.impl_finite_c1 real (r.getD 0 0)) ∧
    0 ≤ (Pure.slices_IndexFunc_float32_float32_finite_L0 real xs.length xs n i).2.2 := by
  intro n
  induction n with
  | zero => intro i _ h; omega
  | succ n ih =>
    intro i hi hn
    unfold Pure.slices_IndexFunc_float32_float32_finite_L0
    have e0 : decide (0 ≤ (i : Int)) = true := by simp
    rcases Nat.lt_or_ge i xs.length with h | h
    · have e1 : decide ((i : Int) < (xs.length : Int)) = true := by simp; exact h
      have e2 : Decidable.decide ((i : Int) < Int.ofNat xs.length) = true := e1
      rw [e1, e0, e2]
      simp only [cond_true, Int.toNat_natCast]
      have hd : xs.drop i = xs[i] :: xs.drop (i + 1) := List.drop_eq_getElem_cons h
      rw [hd]
      simp only [List.any_cons]
      rw [getD_some h]
      cases Pure.impl_finite_c1 real (xs[i].getD 0 0) with
      | true => simp
      | false =>
        simp only [cond_false, Bool.false_or]
        rw [wrap64 (by omega) (by omega)]
        have := ih (i + 1) (by omega) (by omega)
        simpa using this
    · have e1 : decide ((i : Int) < (xs.length : Int)) = false := by simp; exact h
      rw [e1]
      have : xs.drop i = [] := List.drop_eq_nil_of_le h
      simp [this]

theorem impl_finite_eq (xs : List (List Int)) (hl : xs.length < 4611686018427387904) : Pure.impl_finite_ok real xs = true ∧ Pure.impl_finite real xs = xs.all fun r => Pure.impl_IsFinite real (r.getD 0 0) := by
  obtain ⟨h1, h2, h3⟩ := index_finite xs hl (xs.length + 1) 0 (Nat.zero_le _) (by omega)
  unfold Pure.impl_finite_ok Pure.impl_finite Pure.slices_ContainsFunc_float32_float32_finite_ok Pure.slices_ContainsFunc_float32_float32_finite Pure.slices_IndexFunc_float32_float32_finite_ok Pure.slices_IndexFunc_float32_float32_finite
  refine ⟨h1, ?_⟩
  have e : xs.all (fun r => Pure.impl_IsFinite real (r.getD 0 0)) = !((xs.drop 0).any fun r => Pure.impl_finite_c1 real (r.getD 0 0)) := by
    unfold Pure.impl_finite_c1
    rw [List.drop_zero, List.all_eq_not_any_not]
    have e2 : ∀ b : Bool, (bif b then false else true) = !b := fun b => by cases b <;> rfl
    simp only [e2]
  rw [e, ← h2]
  change (bif decide ((bif (Pure.slices_IndexFunc_float32_float32_finite_L0 real xs.length xs (xs.length + 1) 0).2.1 then (Pure.slices_IndexFunc_float32_float32_finite_L0 real xs.length xs (xs.length + 1) 0).2.2 else -1) ≥ 0) then false else true) = _
  change 0 ≤ (Pure.slices_IndexFunc_float32_float32_finite_L0 real xs.length xs (xs.length + 1) 0).2.2 at h3
  generalize (Pure.slices_IndexFunc_float32_float32_finite_L0 real xs.length xs (xs.length + 1) ((0 : Nat) : Int)) = r at *
  change (bif decide ((bif r.2.1 then r.2.2 else -1) ≥ 0) then false else true) = _
  cases hr : r.2.1 with
  | true => simp only [cond_true]; rw [decide_eq_true h3]; rfl
  | false => rfl


theorem in_iff {a b c : Int} : Pure.impl_in real a b c = true ↔ b ≤ a ∧ a ≤ c := by
  unfold Pure.impl_in
  simp only [Bool.cond_false_right, Bool.and_eq_true, decide_eq_true_eq, ge_iff_le]


theorem finv_is (a b c : Int) : Pure.impl_finiteVector real a b c = (Pure.impl_IsFinite real a && Pure.impl_IsFinite real b && Pure.impl_IsFinite real c) ∧ Pure.impl_finiteVector_ok real a b c = true := by
  obtain ⟨f1, f2⟩ := impl_finite_eq [[a], [b], [c]] (by simp)
  unfold Pure.impl_finiteVector Pure.impl_finiteVector_ok
  refine ⟨?_, f1⟩
  rw [f2]
  simp only [List.all_cons, List.all_nil, List.getD_cons_zero, Bool.and_true, Bool.and_assoc]

theorem vfin_is (a b c : Int) : Pure.spec_l01VFinite real a b c = Pure.impl_finiteVector real a b c := by
  rw [(finv_is a b c).1]
  unfold Pure.spec_l01VFinite
  simp only [fin_is]
  cases Pure.impl_IsFinite real a <;> cases Pure.impl_IsFinite real b <;> rfl

theorem badv_ok (a b c : Int) : Pure.impl_badVector_ok real a b c = true := (finv_is a b c).2

theorem index_bad (xs : List (List Int)) (hl : xs.length < 4611686018427387904) : ∀ (n : Nat) (i : Nat), i ≤ xs.length → xs.length - i < n →
    (Pure.slices_IndexFunc_impl_Vector_impl_Vector_bad_L0 real xs.length xs n i).1 = true ∧
    (Pure.slices_IndexFunc_impl_Vector_impl_Vector_bad_L0 real xs.length xs n i).2.1 = ((xs.drop i).any fun r => Pure.impl_badVector real (r.getD 0 0) (r.getD 1 0) (r.getD 2 0)) ∧
    0 ≤ (Pure.slices_IndexFunc_impl_Vector_impl_Vector_bad_L0 real xs.length xs n i).2.2 := by
  intro n
  induction n with
  | zero => intro i _ h; omega
  | succ n ih =>
    intro i hi hn
    unfold Pure.slices_IndexFunc_impl_Vector_impl_Vector_bad_L0
    rcases Nat.lt_or_ge i xs.length with h | h
    · have hd : xs.drop i = xs[i] :: xs.drop (i + 1) := List.drop_eq_getElem_cons h
      rw [dec_lt' h, dec_nn, dec_lt h, Int.toNat_natCast, wrap_succ (by omega), getD_some h, hd, badv_ok]
      simp only [cond_true, List.any_cons]
      have := ih (i + 1) (by omega) (by omega)
      generalize hP : (Pure.impl_badVector real (xs[i].getD 0 0) (xs[i].getD 1 0) (xs[i].getD 2 0)) = q at *
      cases q with
      | true => simp
      | false => simp only [cond_false, Bool.false_or]; exact this
    · rw [dec_ge' h, List.drop_eq_nil_of_le h]
      simp

theorem contains_bad (xs : List (List Int)) (hl : xs.length < 4611686018427387904) : Pure.slices_ContainsFunc_impl_Vector_impl_Vector_bad_ok real xs = true ∧ Pure.slices_ContainsFunc_impl_Vector_impl_Vector_bad real xs = xs.any fun r => Pure.impl_badVector real (r.getD 0 0) (r.getD 1 0) (r.getD 2 0) := by
  obtain ⟨h1, h2, h3⟩ := index_bad xs hl (xs.length + 1) 0 (Nat.zero_le _) (by omega)
  unfold Pure.slices_ContainsFunc_impl_Vector_impl_Vector_bad_ok Pure.slices_ContainsFunc_impl_Vector_impl_Vector_bad Pure.slices_IndexFunc_impl_Vector_impl_Vector_bad_ok Pure.slices_IndexFunc_impl_Vector_impl_Vector_bad
  refine ⟨h1, ?_⟩
  rw [List.drop_zero] at h2
  rw [← h2]
  change 0 ≤ (Pure.slices_IndexFunc_impl_Vector_impl_Vector_bad_L0 real xs.length xs (xs.length + 1) 0).2.2 at h3
  change decide ((bif (Pure.slices_IndexFunc_impl_Vector_impl_Vector_bad_L0 real xs.length xs (xs.length + 1) 0).2.1 then (Pure.slices_IndexFunc_impl_Vector_impl_Vector_bad_L0 real xs.length xs (xs.length + 1) 0).2.2 else -1) ≥ 0) = (Pure.slices_IndexFunc_impl_Vector_impl_Vector_bad_L0 real xs.length xs (xs.length + 1) ((0 : Nat) : Int)).2.1
  generalize Pure.slices_IndexFunc_impl_Vector_impl_Vector_bad_L0 real xs.length xs (xs.length + 1) ((0 : Nat) : Int) = r at *
  change decide ((bif r.2.1 then r.2.2 else -1) ≥ 0) = r.2.1
  cases hr : r.2.1 with
  | true => simp only [cond_true]; exact decide_eq_true h3
  | false => rfl

theorem index_level (xs : List (List Int)) (hl : xs.length < 4611686018427387904) : ∀ (n : Nat) (i : Nat), i ≤ xs.length → xs.length - i < n →
    (Pure.slices_IndexFunc_float32_float32_level_L0 real xs.length xs n i).1 = true ∧
    (Pure.slices_IndexFunc_float32_float32_level_L0 real xs.length xs n i).2.1 = ((xs.drop i).any fun r => Pure.impl_badLevel real (r.getD 0 0)) ∧
    0 ≤ (Pure.slices_IndexFunc_float32_float32_level_L0 real xs.length xs n i).2.2 := by
  intro n
  induction n with
  | zero => intro i _ h; omega
  | succ n ih =>
    intro i hi hn
    unfold Pure.slices_IndexFunc_float32_float32_level_L0
    rcases Nat.lt_or_ge i xs.length with h | h
    · have hd : xs.drop i = xs[i] :: xs.drop (i + 1) := List.drop_eq_getElem_cons h
      rw [dec_lt' h, dec_nn, dec_lt h, Int.toNat_natCast, wrap_succ (by omega), getD_some h, hd]
      simp only [cond_true, List.any_cons]
      have := ih (i + 1) (by omega) (by omega)
      generalize hP : (Pure.impl_badLevel real (xs[i].getD 0 0)) = q at *
      cases q with
      | true => simp
      | false => simp only [cond_false, Bool.false_or]; exact this
    · rw [dec_ge' h, List.drop_eq_nil_of_le h]
      simp

theorem contains_level (xs : List (List Int)) (hl : xs.length < 4611686018427387904) : Pure.slices_ContainsFunc_float32_float32_level_ok real xs = true ∧ Pure.slices_ContainsFunc_float32_float32_level real xs = xs.any fun r => Pure.impl_badLevel real (r.getD 0 0) := by
  obtain ⟨h1, h2, h3⟩ := index_level xs hl (xs.length + 1) 0 (Nat.zero_le _) (by omega)
  unfold Pure.slices_ContainsFunc_float32_float32_level_ok Pure.slices_ContainsFunc_float32_float32_level Pure.slices_IndexFunc_float32_float32_level_ok Pure.slices_IndexFunc_float32_float32_level
  refine ⟨h1, ?_⟩
  rw [List.drop_zero] at h2
  rw [← h2]
  change 0 ≤ (Pure.slices_IndexFunc_float32_float32_level_L0 real xs.length xs (xs.length + 1) 0).2.2 at h3
  change decide ((bif (Pure.slices_IndexFunc_float32_float32_level_L0 real xs.length xs (xs.length + 1) 0).2.1 then (Pure.slices_IndexFunc_float32_float32_level_L0 real xs.length xs (xs.length + 1) 0).2.2 else -1) ≥ 0) = (Pure.slices_IndexFunc_float32_float32_level_L0 real xs.length xs (xs.length + 1) ((0 : Nat) : Int)).2.1
  generalize Pure.slices_IndexFunc_float32_float32_level_L0 real xs.length xs (xs.length + 1) ((0 : Nat) : Int) = r at *
  change decide ((bif r.2.1 then r.2.2 else -1) ≥ 0) = r.2.1
  cases hr : r.2.1 with
  | true => simp only [cond_true]; exact decide_eq_true h3
  | false => rfl

theorem index_rod (y3 y4 y5 : List (List Int)) (xs : List (List Int)) (hl : xs.length < 4611686018427387904) : ∀ (n : Nat) (i : Nat), i ≤ xs.length → xs.length - i < n →
    (Pure.slices_IndexFunc_impl_Rod_impl_Rod_rod_L0 real xs.length xs y3 y4 y5 n i).1 = true ∧
    (Pure.slices_IndexFunc_impl_Rod_impl_Rod_rod_L0 real xs.length xs y3 y4 y5 n i).2.1 = ((xs.drop i).any fun r => Pure.impl_ValidChain_c1 real (r.getD 0 0) (r.getD 1 0) (r.getD 2 0) y3 y4 y5 xs) ∧
    0 ≤ (Pure.slices_IndexFunc_impl_Rod_impl_Rod_rod_L0 real xs.length xs y3 y4 y5 n i).2.2 := by
  intro n
  induction n with
  | zero => intro i _ h; omega
  | succ n ih =>
    intro i hi hn
    unfold Pure.slices_IndexFunc_impl_Rod_impl_Rod_rod_L0
    rcases Nat.lt_or_ge i xs.length with h | h
    · have hd : xs.drop i = xs[i] :: xs.drop (i + 1) := List.drop_eq_getElem_cons h
      rw [dec_lt' h, dec_nn, dec_lt h, Int.toNat_natCast, wrap_succ (by omega), getD_some h, hd]
      simp only [cond_true, List.any_cons]
      have := ih (i + 1) (by omega) (by omega)
      generalize hP : (Pure.impl_ValidChain_c1 real (xs[i].getD 0 0) (xs[i].getD 1 0) (xs[i].getD 2 0) y3 y4 y5 xs) = q at *
      cases q with
      | true => simp
      | false => simp only [cond_false, Bool.false_or]; exact this
    · rw [dec_ge' h, List.drop_eq_nil_of_le h]
      simp

theorem contains_rod (y3 y4 y5 : List (List Int)) (xs : List (List Int)) (hl : xs.length < 4611686018427387904) : Pure.slices_ContainsFunc_impl_Rod_impl_Rod_rod_ok real xs y3 y4 y5 = true ∧ Pure.slices_ContainsFunc_impl_Rod_impl_Rod_rod real xs y3 y4 y5 = xs.any fun r => Pure.impl_ValidChain_c1 real (r.getD 0 0) (r.getD 1 0) (r.getD 2 0) y3 y4 y5 xs := by
  obtain ⟨h1, h2, h3⟩ := index_rod y3 y4 y5 xs hl (xs.length + 1) 0 (Nat.zero_le _) (by omega)
  unfold Pure.slices_ContainsFunc_impl_Rod_impl_Rod_rod_ok Pure.slices_ContainsFunc_impl_Rod_impl_Rod_rod Pure.slices_IndexFunc_impl_Rod_impl_Rod_rod_ok Pure.slices_IndexFunc_impl_Rod_impl_Rod_rod
  refine ⟨h1, ?_⟩
  rw [List.drop_zero] at h2
  rw [← h2]
  change 0 ≤ (Pure.slices_IndexFunc_impl_Rod_impl_Rod_rod_L0 real xs.length xs y3 y4 y5 (xs.length + 1) 0).2.2 at h3
  change decide ((bif (Pure.slices_IndexFunc_impl_Rod_impl_Rod_rod_L0 real xs.length xs y3 y4 y5 (xs.length + 1) 0).2.1 then (Pure.slices_IndexFunc_impl_Rod_impl_Rod_rod_L0 real xs.length xs y3 y4 y5 (xs.length + 1) 0).2.2 else -1) ≥ 0) = (Pure.slices_IndexFunc_impl_Rod_impl_Rod_rod_L0 real xs.length xs y3 y4 y5 (xs.length + 1) ((0 : Nat) : Int)).2.1
  generalize Pure.slices_IndexFunc_impl_Rod_impl_Rod_rod_L0 real xs.length xs y3 y4 y5 (xs.length + 1) ((0 : Nat) : Int) = r at *
  change decide ((bif r.2.1 then r.2.2 else -1) ≥ 0) = r.2.1
  cases hr : r.2.1 with
  | true => simp only [cond_true]; exact decide_eq_true h3
  | false => rfl


theorem upAll_true {n : Nat} {p : Nat → Bool} : upAll n p 0 = true ↔ ∀ j, j < n → p j = true := by
  unfold upAll
  rw [List.all_eq_true]
  constructor
  · intro h j hj; exact h j (by rw [List.mem_range'_1]; omega)
  · intro h j hj; rw [List.mem_range'_1] at hj; exact h j (by omega)

theorem all_get {xs : List (List Int)} {p : List Int → Bool} : xs.all p = true ↔ ∀ j, j < xs.length → p (xs.getD j []) = true := by
  rw [List.all_eq_true]
  constructor
  · intro h j hj; rw [getD_some hj]; exact h _ (List.getElem_mem hj)
  · intro h r hr
    obtain ⟨j, hj, rfl⟩ := List.getElem_of_mem hr
    have := h j hj
    rwa [getD_some hj] at this

def vGood (r : List Int) : Bool := Pure.impl_finiteVector real (r.getD 0 0) (r.getD 1 0) (r.getD 2 0)
def lGood (r : List Int) : Bool := Pure.impl_levelOk real (r.getD 0 0)
def rGood (n : Nat) (r : List Int) : Bool := Pure.impl_in real (r.getD 0 0) 0 (IntKind.wrap .i64 ((n : Int) - 1)) && Pure.impl_in real (r.getD 1 0) 0 (IntKind.wrap .i64 ((n : Int) - 1)) && (r.getD 0 0 != r.getD 1 0) && Pure.impl_levelOk real (r.getD 2 0)

def Good (x0 x1 x2 x3 : List (List Int)) : Prop := x0.length ≤ 24 ∧ x1.length = x0.length ∧ x2.length = x0.length ∧ x3.length ≤ 40 ∧ x0.all vGood = true ∧ x1.all vGood = true ∧ x2.all lGood = true ∧ x3.all (rGood x0.length) = true

theorem not_any {xs : List (List Int)} {p q : List Int → Bool} (h : ∀ r, p r = !q r) : xs.any p = !xs.all q := by
  rw [List.all_eq_not_any_not, Bool.not_not]
  congr 1
  funext r
  exact h r

theorem impl_valid (x0 x1 x2 x3 : List (List Int)) (h0 : x0.length < 4611686018427387904) (h1 : x1.length < 4611686018427387904) (h2 : x2.length < 4611686018427387904) (h3 : x3.length < 4611686018427387904) :
    Pure.impl_ValidChain_ok real x0 x1 x2 x3 = true ∧ (Pure.impl_ValidChain real x0 x1 x2 x3 = true ↔ Good x0 x1 x2 x3) := by
  obtain ⟨a1, a2⟩ := contains_bad x0 h0
  obtain ⟨b1, b2⟩ := contains_bad x1 h1
  obtain ⟨c1, c2⟩ := contains_level x2 h2
  obtain ⟨d1, d2⟩ := contains_rod x0 x1 x2 x3 h3
  have hv : ∀ r : List Int, Pure.impl_badVector real (r.getD 0 0) (r.getD 1 0) (r.getD 2 0) = !vGood r := fun r => by
    unfold Pure.impl_badVector vGood; cases Pure.impl_finiteVector real (r.getD 0 0) (r.getD 1 0) (r.getD 2 0) <;> rfl
  have hw : ∀ r : List Int, Pure.impl_badLevel real (r.getD 0 0) = !lGood r := fun r => by
    unfold Pure.impl_badLevel lGood; cases Pure.impl_levelOk real (r.getD 0 0) <;> rfl
  have hz : ∀ r : List Int, Pure.impl_ValidChain_c1 real (r.getD 0 0) (r.getD 1 0) (r.getD 2 0) x0 x1 x2 x3 = !rGood x0.length r := fun r => by
    have e : Int.ofNat x0.length = (x0.length : Int) := rfl
    unfold Pure.impl_ValidChain_c1 Pure.impl_Chain_rodOk rGood
    rw [e]
    cases Pure.impl_in real (r.getD 0 0) 0 (IntKind.wrap .i64 ((x0.length : Int) - 1)) <;> cases Pure.impl_in real (r.getD 1 0) 0 (IntKind.wrap .i64 ((x0.length : Int) - 1)) <;> cases (r.getD 0 0 != r.getD 1 0) <;> cases Pure.impl_levelOk real (r.getD 2 0) <;> rfl
  rw [not_any hv] at a2 b2
  rw [not_any hw] at c2
  rw [not_any hz] at d2
  unfold Pure.impl_ValidChain_ok Pure.impl_ValidChain Good
  rw [a1, a2, b1, b2, c1, c2, d1, d2]
  have n0 : ∀ l : List (List Int), Int.ofNat l.length = (l.length : Int) := fun _ => rfl
  simp only [n0]
  by_cases g0 : x0.length ≤ 24
  · rw [decide_eq_false (show ¬ (x0.length : Int) > 24 by omega)]
    by_cases g1 : x1.length = x0.length
    · rw [show ((x1.length : Int) != (x0.length : Int)) = false by simp [g1]]
      by_cases g2 : x2.length = x0.length
      · rw [show ((x2.length : Int) != (x0.length : Int)) = false by simp [g2]]
        by_cases g3 : x3.length ≤ 40
        · rw [decide_eq_false (show ¬ (x3.length : Int) > 40 by omega)]
          cases x0.all vGood <;> cases x1.all vGood <;> cases x2.all lGood <;> cases x3.all (rGood x0.length) <;> simp [g0, g1, g2, g3]
        · rw [decide_eq_true (show (x3.length : Int) > 40 by omega)]
          exact ⟨rfl, ⟨fun h => absurd h Bool.false_ne_true, fun h => absurd h.2.2.2.1 g3⟩⟩
      · rw [show ((x2.length : Int) != (x0.length : Int)) = true by simp; omega]
        exact ⟨rfl, ⟨fun h => absurd h Bool.false_ne_true, fun h => absurd h.2.2.1 g2⟩⟩
    · rw [show ((x1.length : Int) != (x0.length : Int)) = true by simp; omega]
      exact ⟨rfl, ⟨fun h => absurd h Bool.false_ne_true, fun h => absurd h.2.1 g1⟩⟩
  · rw [decide_eq_true (show (x0.length : Int) > 24 by omega)]
    exact ⟨rfl, ⟨fun h => absurd h Bool.false_ne_true, fun h => absurd h.1 g0⟩⟩

theorem spec_L0 (x0 x1 x2 x3 : List (List Int)) (k : Int) (h0 : x0.length < 1000) (h1 : x1.length = x0.length) (h2 : x2.length = x0.length) :
    Pure.spec_l03Is_L0 real k x0.length x0 x1 x2 x3 (Nat.succ (x0.length + 0)) 0 = (true, !(x0.all vGood && x1.all vGood && x2.all lGood)) := by
  have key := iter_all x0.length (fun j => vGood (x0.getD j []) && vGood (x1.getD j []) && lGood (x2.getD j [])) (fun n i => Pure.spec_l03Is_L0 real k x0.length x0 x1 x2 x3 n i) (true, false) (true, true) (fun n i h => by
      conv => lhs; unfold Pure.spec_l03Is_L0
      rw [dec_lt' h, dec_nn, dec_lt h, dec_lt (show i < x1.length by omega), dec_lt (show i < x2.length by omega), Int.toNat_natCast, wrap_succ (by omega), vfin_is, vfin_is]
      change _ = bif (vGood (x0.getD i []) && vGood (x1.getD i []) && lGood (x2.getD i [])) then _ else _
      have ev : ∀ r : List Int, Pure.impl_finiteVector real (r.getD 0 0) (r.getD 1 0) (r.getD 2 0) = vGood r := fun _ => rfl
      have el : ∀ r : List Int, Pure.spec_l03Least real (r.getD 0 0) = lGood r := fun _ => rfl
      rw [ev, ev, el]
      cases vGood (x0.getD i []) <;> cases vGood (x1.getD i []) <;> cases lGood (x2.getD i []) <;> rfl) (fun n => by
      conv => lhs; unfold Pure.spec_l03Is_L0
      rw [dec_ge' (Nat.le_refl _)]; rfl) (x0.length + 1) 0 (by omega) (by omega)
  change Pure.spec_l03Is_L0 real k x0.length x0 x1 x2 x3 (x0.length + 1) 0 = _ at key
  change Pure.spec_l03Is_L0 real k x0.length x0 x1 x2 x3 (x0.length + 1) 0 = _
  rw [key]
  have e : upAll x0.length (fun j => vGood (x0.getD j []) && vGood (x1.getD j []) && lGood (x2.getD j [])) 0 = (x0.all vGood && x1.all vGood && x2.all lGood) := by
    rw [Bool.eq_iff_iff, upAll_true]
    simp only [Bool.and_eq_true, all_get]
    rw [h1, h2]
    exact ⟨fun h => ⟨⟨fun j hj => (h j hj).1.1, fun j hj => (h j hj).1.2⟩, fun j hj => (h j hj).2⟩, fun h j hj => ⟨⟨h.1.1 j hj, h.1.2 j hj⟩, h.2 j hj⟩⟩
  rw [e]
  cases (x0.all vGood && x1.all vGood && x2.all lGood) <;> rfl

theorem spec_L2 (x0 x1 x2 x3 : List (List Int)) (h3 : x3.length < 1000) :
    Pure.spec_l03Is_L2 real x0.length x3.length x0 x1 x2 x3 (Nat.succ (x3.length + 0)) 0 = (true, !(x3.all (rGood x0.length))) := by
  have key := iter_all x3.length (fun j => rGood x0.length (x3.getD j [])) (fun n i => Pure.spec_l03Is_L2 real x0.length x3.length x0 x1 x2 x3 n i) (true, false) (true, true) (fun n i h => by
      conv => lhs; unfold Pure.spec_l03Is_L2
      rw [dec_lt' h, dec_nn, dec_lt h, Int.toNat_natCast, wrap_succ (by omega)]
      have ei : ∀ a b c, Pure.spec_l00In real a b c = Pure.impl_in real a b c := fun _ _ _ => rfl
      have el : ∀ a, Pure.spec_l03Least real a = Pure.impl_levelOk real a := fun _ => rfl
      simp only [ei, el]
      change _ = bif (rGood x0.length (x3.getD i [])) then _ else _
      unfold rGood bne
      cases Pure.impl_in real ((x3.getD i []).getD 0 0) 0 (IntKind.wrap .i64 ((x0.length : Int) - 1)) <;> cases Pure.impl_in real ((x3.getD i []).getD 1 0) 0 (IntKind.wrap .i64 ((x0.length : Int) - 1)) <;> cases ((x3.getD i []).getD 0 0 == (x3.getD i []).getD 1 0) <;> cases Pure.impl_levelOk real ((x3.getD i []).getD 2 0) <;> rfl) (fun n => by
      conv => lhs; unfold Pure.spec_l03Is_L2
      rw [dec_ge' (Nat.le_refl _)]; rfl) (x3.length + 1) 0 (by omega) (by omega)
  change Pure.spec_l03Is_L2 real x0.length x3.length x0 x1 x2 x3 (x3.length + 1) 0 = _ at key
  change Pure.spec_l03Is_L2 real x0.length x3.length x0 x1 x2 x3 (x3.length + 1) 0 = _
  rw [key]
  have e : upAll x3.length (fun j => rGood x0.length (x3.getD j [])) 0 = x3.all (rGood x0.length) := by
    rw [Bool.eq_iff_iff, upAll_true, all_get]
  rw [e]
  cases x3.all (rGood x0.length) <;> rfl

theorem spec_valid (x0 x1 x2 x3 : List (List Int)) : Pure.spec_l03Is_ok real x0 x1 x2 x3 = true ∧ (Pure.spec_l03Is real x0 x1 x2 x3 = true ↔ Good x0 x1 x2 x3) := by
  unfold Pure.spec_l03Is_ok Pure.spec_l03Is Good
  have n0 : ∀ l : List (List Int), Int.ofNat l.length = (l.length : Int) := fun _ => rfl
  simp only [n0]
  by_cases g0 : x0.length ≤ 24
  · rw [decide_eq_false (show ¬ (x0.length : Int) > 24 by omega)]
    by_cases g1 : x1.length = x0.length
    · rw [show ((x1.length : Int) != (x0.length : Int)) = false by simp [g1]]
      by_cases g2 : x2.length = x0.length
      · rw [show ((x2.length : Int) != (x0.length : Int)) = false by simp [g2]]
        by_cases g3 : x3.length ≤ 40
        · rw [decide_eq_false (show ¬ (x3.length : Int) > 40 by omega), spec_L0 x0 x1 x2 x3 _ (by omega) g1 g2, spec_L2 x0 x1 x2 x3 (by omega)]
          cases x0.all vGood <;> cases x1.all vGood <;> cases x2.all lGood <;> cases x3.all (rGood x0.length) <;> simp [g0, g1, g2, g3]
        · rw [decide_eq_true (show (x3.length : Int) > 40 by omega)]
          exact ⟨rfl, ⟨fun h => absurd h Bool.false_ne_true, fun h => absurd h.2.2.2.1 g3⟩⟩
      · rw [show ((x2.length : Int) != (x0.length : Int)) = true by simp; omega]
        exact ⟨rfl, ⟨fun h => absurd h Bool.false_ne_true, fun h => absurd h.2.2.1 g2⟩⟩
    · rw [show ((x1.length : Int) != (x0.length : Int)) = true by simp; omega]
      exact ⟨rfl, ⟨fun h => absurd h Bool.false_ne_true, fun h => absurd h.2.1 g1⟩⟩
  · rw [decide_eq_true (show (x0.length : Int) > 24 by omega)]
    exact ⟨rfl, ⟨fun h => absurd h Bool.false_ne_true, fun h => absurd h.1 g0⟩⟩

theorem valid_is (x0 x1 x2 x3 : List (List Int)) (h0 : x0.length < 4611686018427387904) (h1 : x1.length < 4611686018427387904) (h2 : x2.length < 4611686018427387904) (h3 : x3.length < 4611686018427387904) :
    Pure.spec_l03Is real x0 x1 x2 x3 = Pure.impl_ValidChain real x0 x1 x2 x3 := by
  rw [Bool.eq_iff_iff, (spec_valid x0 x1 x2 x3).2, (impl_valid x0 x1 x2 x3 h0 h1 h2 h3).2]
end Go.Fx
