import Derived.Test.YtnlfpamdcohiiaaXr3d
import Derived.Test.YtnlfpamdcohiiaaXr3u
namespace Go.Fx
theorem getD_set_self {α : Type} {l : List α} {i : Nat} {a d : α} (h : i < l.length) : (l.set i a).getD i d = a := by
  rw [List.getD_eq_getElem?_getD, List.getElem?_set, if_pos rfl, if_pos h]; rfl

/-- Whether all of a list's numbers are finite. -/
theorem index_finite (xs : List (List Int)) (hl : xs.length < 4611686018427387904) : ∀ (n : Nat) (i : Nat), i ≤ xs.length → xs.length - i < n →
    (Pure.slices_IndexFunc_float32_float32_finite_L0 real xs.length xs n i).1 = true ∧
    (Pure.slices_IndexFunc_float32_float32_finite_L0 real xs.length xs n i).2.1 = ((xs.drop i).any fun r => Pure.impl_finite_c1 real (r.getD 0 0)) ∧
    0 ≤ (Pure.slices_IndexFunc_float32_float32_finite_L0 real xs.length xs n i).2.2 := by
  intro n
  induction n with
  | zero => intro i _ h; omega
  | succ n ih =>
    intro i hi hn
    unfold Pure.slices_IndexFunc_float32_float32_finite_L0
    have e0 : decide (0 ≤ (i : Int)) = true := by simp
    rcases Nat.lt_or_ge i xs.length with h | h
    · have e1 : decide ((i : Int) < (xs.length : Int)) = true := by simp; exact h
      have e2 : Decidable.decide ((i : Int) < Int.ofNat xs.length) = true := e1
      rw [e1, e0, e2]
      simp only [cond_true, Int.toNat_natCast]
      have hd : xs.drop i = xs[i] :: xs.drop (i + 1) := List.drop_eq_getElem_cons h
      rw [hd]
      simp only [List.any_cons]
      rw [getD_some h]
      cases Pure.impl_finite_c1 real (xs[i].getD 0 0) with
      | true => simp
      | false =>
        simp only [cond_false, Bool.false_or]
        rw [wrap64 (by omega) (by omega)]
        have := ih (i + 1) (by omega) (by omega)
        simpa using this
    · have e1 : decide ((i : Int) < (xs.length : Int)) = false := by simp; exact h
      rw [e1]
      have : xs.drop i = [] := List.drop_eq_nil_of_le h
      simp [this]

theorem impl_finite_eq (xs : List (List Int)) (hl : xs.length < 4611686018427387904) : Pure.impl_finite_ok real xs = true ∧ Pure.impl_finite real xs = xs.all fun r => Pure.impl_IsFinite real (r.getD 0 0) := by
  obtain ⟨h1, h2, h3⟩ := index_finite xs hl (xs.length + 1) 0 (Nat.zero_le _) (by omega)
  unfold Pure.impl_finite_ok Pure.impl_finite Pure.slices_ContainsFunc_float32_float32_finite_ok Pure.slices_ContainsFunc_float32_float32_finite Pure.slices_IndexFunc_float32_float32_finite_ok Pure.slices_IndexFunc_float32_float32_finite
  refine ⟨h1, ?_⟩
  have e : xs.all (fun r => Pure.impl_IsFinite real (r.getD 0 0)) = !((xs.drop 0).any fun r => Pure.impl_finite_c1 real (r.getD 0 0)) := by
    unfold Pure.impl_finite_c1
    rw [List.drop_zero, List.all_eq_not_any_not]
    have e2 : ∀ b : Bool, (bif b then false else true) = !b := fun b => by cases b <;> rfl
    simp only [e2]
  rw [e, ← h2]
  change (bif decide ((bif (Pure.slices_IndexFunc_float32_float32_finite_L0 real xs.length xs (xs.length + 1) 0).2.1 then (Pure.slices_IndexFunc_float32_float32_finite_L0 real xs.length xs (xs.length + 1) 0).2.2 else -1) ≥ 0) then false else true) = _
  change 0 ≤ (Pure.slices_IndexFunc_float32_float32_finite_L0 real xs.length xs (xs.length + 1) 0).2.2 at h3
  generalize (Pure.slices_IndexFunc_float32_float32_finite_L0 real xs.length xs (xs.length + 1) ((0 : Nat) : Int)) = r at *
  change (bif decide ((bif r.2.1 then r.2.2 else -1) ≥ 0) then false else true) = _
  cases hr : r.2.1 with
  | true => simp only [cond_true]; rw [decide_eq_true h3]; rfl
  | false => rfl

/-- The marks of rows of 1. -/
def marks1 (n : Nat) : List (List Int) := (List.range n).map fun (i : Nat) => [real.ofInt .f32 (1 + 1 * i)]

theorem marks1_get {n i : Nat} (h : i < n) : (marks1 n).getD i [] = [real.ofInt .f32 (1 + 1 * i)] := by
  rw [getD_some (by simp [marks1]; exact h)]; simp [marks1]

theorem eqFloat32S_refl (xs : List (List Int)) (hl : xs.length < 4611686018427387904) : Pure.laws_eqFloat32S_ok real xs xs = true ∧ Pure.laws_eqFloat32S real xs xs = true := by
  have key := iter_all xs.length (fun _ => true) (fun n i => Pure.laws_eqFloat32S_L0 real xs xs n i) (true, false) (false, false) (fun n i h => by
      conv => lhs; unfold Pure.laws_eqFloat32S_L0
      rw [dec_lt h, dec_nn, convOk_up, sameFloat_refl, wrap_succ (by omega)]; rfl) (fun n => by
      conv => lhs; unfold Pure.laws_eqFloat32S_L0
      rw [dec_ge (Nat.le_refl _)]; rfl) (xs.length + 1) 0 (by omega) (by omega)
  have hu : upAll xs.length (fun _ => true) 0 = true := by unfold upAll; rw [List.all_eq_true]; intro _ _; rfl
  rw [hu] at key
  unfold Pure.laws_eqFloat32S_ok Pure.laws_eqFloat32S
  have e : ((Int.ofNat xs.length != Int.ofNat xs.length)) = false := by simp
  rw [e]
  change (Pure.laws_eqFloat32S_L0 real xs xs (xs.length + 1) 0).1 = true ∧ (bif (Pure.laws_eqFloat32S_L0 real xs xs (xs.length + 1) 0).2 then false else true) = true
  change Pure.laws_eqFloat32S_L0 real xs xs (xs.length + 1) 0 = _ at key
  rw [key]; exact ⟨rfl, rfl⟩

theorem markFloat32S_loop : ∀ (n : Nat) (i : Nat) (xs : List (List Int)), i ≤ xs.length → xs.length - i < n → xs.length < 1000000000 → (∀ j, j < xs.length → (xs.getD j []).length = 1) →
    (∀ j, j < i → xs.getD j [] = [real.ofInt .f32 (1 + 1 * j)]) →
    Pure.laws_markFloat32S_L0 real n (1 + 1 * i) i xs = (true, 1 + 1 * (xs.length : Int), marks1 xs.length) := by
  intro n
  induction n with
  | zero => intro i xs _ h; omega
  | succ n ih =>
    intro i xs hi hn hb h3 hx
    unfold Pure.laws_markFloat32S_L0
    rcases Nat.lt_or_ge i xs.length with h | h
    · rw [dec_lt h, dec_nn, Int.toNat_natCast]
      rw [wrap_succ (by omega)]
      have w1 : IntKind.wrap .i64 (1 + 1 * (i : Int) + 1) = 1 + 1 * ((i + 1 : Nat) : Int) := by rw [wrap64 (by omega) (by omega)]; omega
      rw [w1]
      simp only [cond_true]
      have := ih (i + 1) (xs.set i [real.ofInt .f32 (1 + 1 * i)]) (by simp; omega) (by simp; omega) (by simpa using hb) (fun j hj => by
        rw [List.length_set] at hj
        rw [List.getD_eq_getElem?_getD, List.getElem?_set]
        by_cases hij : i = j
        · subst hij; simp [h]
        · rw [if_neg hij, ← List.getD_eq_getElem?_getD]; exact h3 j hj) (fun j hj => by
        rw [List.getD_eq_getElem?_getD, List.getElem?_set]
        by_cases hij : i = j
        · subst hij; simp [h]
        · rw [if_neg hij, ← List.getD_eq_getElem?_getD]; exact hx j (by omega))
      rw [List.length_set] at this
      exact this
    · rw [dec_ge h]
      have hil : i = xs.length := by omega
      subst hil
      have : xs = marks1 xs.length := by
        apply List.ext_getElem
        · simp [marks1]
        · intro j h1 h2
          have := hx j h1
          rw [getD_some h1] at this
          rw [this]; simp [marks1]
      simp only [cond_false]
      rw [← this]

theorem markFloat32S_eq (xs : List (List Int)) (hl : xs.length < 1000000000) (h3 : ∀ j, j < xs.length → (xs.getD j []).length = 1) : Pure.laws_markFloat32S_ok real xs 1 = true ∧ Pure.laws_markFloat32S real xs 1 = 1 + 1 * (xs.length : Int) ∧ Pure.laws_markFloat32S_1 real xs 1 = marks1 xs.length := by
  have := markFloat32S_loop (xs.length + 1) 0 xs (by omega) (by omega) hl h3 (fun j hj => by omega)
  have e : (1 : Int) + 1 * ((0 : Nat) : Int) = 1 := rfl
  rw [e] at this
  unfold Pure.laws_markFloat32S_ok Pure.laws_markFloat32S Pure.laws_markFloat32S_1
  change (Pure.laws_markFloat32S_L0 real (xs.length + 1) 1 0 xs).1 = true ∧ (Pure.laws_markFloat32S_L0 real (xs.length + 1) 1 0 xs).2.1 = _ ∧ (Pure.laws_markFloat32S_L0 real (xs.length + 1) 1 0 xs).2.2 = _
  change Pure.laws_markFloat32S_L0 real (xs.length + 1) 1 0 xs = _ at this
  rw [this]; exact ⟨rfl, rfl, rfl⟩

theorem heldFloat32S_eq (m : Nat) (hm : m < 1000000000) : Pure.laws_heldFloat32S_ok real (marks1 m) 1 = true ∧ Pure.laws_heldFloat32S real (marks1 m) 1 = 1 + 1 * (m : Int) := by
  have hlen : (marks1 m).length = m := by simp [marks1]
  have key : ∀ (n i : Nat), i ≤ m → m - i < n → (Pure.laws_heldFloat32S_L0 real (marks1 m) n (1 + 1 * (i : Int)) i).1 = true ∧ (Pure.laws_heldFloat32S_L0 real (marks1 m) n (1 + 1 * (i : Int)) i).2.1 = false ∧ (Pure.laws_heldFloat32S_L0 real (marks1 m) n (1 + 1 * (i : Int)) i).2.2.1 = 1 + 1 * (m : Int) := by
    intro n
    induction n with
    | zero => intro i _ h; omega
    | succ n ih =>
      intro i hi hn
      unfold Pure.laws_heldFloat32S_L0
      rcases Nat.lt_or_ge i m with h | h
      · rw [dec_lt (show i < (marks1 m).length by omega), dec_nn, Int.toNat_natCast, marks1_get h, wrap_succ (by omega)]
        have w1 : IntKind.wrap .i64 (1 + 1 * (i : Int) + 1) = 1 + 1 * ((i + 1 : Nat) : Int) := by rw [wrap64 (by omega) (by omega)]; omega
        have e0 : ∀ a : Int, List.getD [a] 0 0 = a := fun _ => rfl
        rw [w1, e0, ofInt_notNaN]
        simp only [cond_true, cond_false]
        exact ih (i + 1) (by omega) (by omega)
      · rw [dec_ge (show (marks1 m).length ≤ i by omega)]
        have : i = m := by omega
        subst this
        exact ⟨rfl, rfl, rfl⟩
  obtain ⟨h1, h2, h3⟩ := key (m + 1) 0 (by omega) (by omega)
  unfold Pure.laws_heldFloat32S_ok Pure.laws_heldFloat32S
  rw [hlen]
  change (Pure.laws_heldFloat32S_L0 real (marks1 m) (m + 1) 1 0).1 = true ∧ (bif (Pure.laws_heldFloat32S_L0 real (marks1 m) (m + 1) 1 0).2.1 then -1 else (Pure.laws_heldFloat32S_L0 real (marks1 m) (m + 1) 1 0).2.2.1) = _
  change (Pure.laws_heldFloat32S_L0 real (marks1 m) (m + 1) 1 0).1 = true at h1
  change (Pure.laws_heldFloat32S_L0 real (marks1 m) (m + 1) 1 0).2.1 = false at h2
  change (Pure.laws_heldFloat32S_L0 real (marks1 m) (m + 1) 1 0).2.2.1 = _ at h3
  rw [h1, h2, h3]; exact ⟨rfl, rfl⟩

end Go.Fx
