import Derived.Test.YtnlfpamdcohiiaaXr3g
import Derived.Test.YtnlfpamdcohiiaaXr3w
namespace Go.Fx
/-- The marks of rows of 2. -/
def marks2 (n : Nat) : List (List Int) := (List.range n).map fun (i : Nat) => [real.ofInt .f32 (1 + 2 * i), real.ofInt .f32 (2 + 2 * i)]

theorem marks2_get {n i : Nat} (h : i < n) : (marks2 n).getD i [] = [real.ofInt .f32 (1 + 2 * i), real.ofInt .f32 (2 + 2 * i)] := by
  rw [getD_some (by simp [marks2]; exact h)]; simp [marks2]

theorem set2 {ys : List (List Int)} {i : Nat} {a b : Int} (h : i < ys.length) (h3 : (ys.getD i []).length = 2) :
    List.set (List.set ys i (setFrom (List.getD ys i []) 0 [a])) i (setFrom (List.getD (List.set ys i (setFrom (List.getD ys i []) 0 [a])) i []) 1 [b]) = ys.set i [a, b] := by
  have e0 : ∀ (l : List (List Int)) (r : List Int), i < l.length → List.getD (List.set l i r) i [] = r := fun l r h => getD_set_self h
  rw [e0 ys _ h]
  rw [List.set_set]
  congr 1
  revert h3
  generalize ys.getD i [] = r
  intro h3
  match r, h3 with
  | [p0, p1], _ => rfl

theorem eqStateS_refl (xs : List (List Int)) (hl : xs.length < 4611686018427387904) : Pure.laws_eqStateS_ok real xs xs = true ∧ Pure.laws_eqStateS real xs xs = true := by
  have key := iter_all xs.length (fun _ => true) (fun n i => Pure.laws_eqStateS_L0 real xs xs n i) (true, false) (false, false) (fun n i h => by
      conv => lhs; unfold Pure.laws_eqStateS_L0
      rw [dec_lt h, dec_nn, (eqState_refl _ _).1, (eqState_refl _ _).2, wrap_succ (by omega)]; rfl) (fun n => by
      conv => lhs; unfold Pure.laws_eqStateS_L0
      rw [dec_ge (Nat.le_refl _)]; rfl) (xs.length + 1) 0 (by omega) (by omega)
  have hu : upAll xs.length (fun _ => true) 0 = true := by unfold upAll; rw [List.all_eq_true]; intro _ _; rfl
  rw [hu] at key
  unfold Pure.laws_eqStateS_ok Pure.laws_eqStateS
  have e : ((Int.ofNat xs.length != Int.ofNat xs.length)) = false := by simp
  rw [e]
  change (Pure.laws_eqStateS_L0 real xs xs (xs.length + 1) 0).1 = true ∧ (bif (Pure.laws_eqStateS_L0 real xs xs (xs.length + 1) 0).2 then false else true) = true
  change Pure.laws_eqStateS_L0 real xs xs (xs.length + 1) 0 = _ at key
  rw [key]; exact ⟨rfl, rfl⟩

theorem markStateS_loop : ∀ (n : Nat) (i : Nat) (xs : List (List Int)), i ≤ xs.length → xs.length - i < n → xs.length < 1000000000 → (∀ j, j < xs.length → (xs.getD j []).length = 2) →
    (∀ j, j < i → xs.getD j [] = [real.ofInt .f32 (1 + 2 * j), real.ofInt .f32 (2 + 2 * j)]) →
    Pure.laws_markStateS_L0 real n (1 + 2 * i) i xs = (true, 1 + 2 * (xs.length : Int), marks2 xs.length) := by
  intro n
  induction n with
  | zero => intro i xs _ h; omega
  | succ n ih =>
    intro i xs hi hn hb h3 hx
    unfold Pure.laws_markStateS_L0
    rcases Nat.lt_or_ge i xs.length with h | h
    · rw [dec_lt h, dec_nn, Int.toNat_natCast]
      simp only [List.length_set]
      rw [dec_lt h, wrap_succ (by omega), set2 h (h3 i h)]
      have w1 : IntKind.wrap .i64 (1 + 2 * (i : Int) + 1) = 2 + 2 * (i : Int) := by rw [wrap64 (by omega) (by omega)]; omega
      have w2 : IntKind.wrap .i64 (2 + 2 * (i : Int) + 1) = 1 + 2 * ((i + 1 : Nat) : Int) := by rw [wrap64 (by omega) (by omega)]; omega
      rw [w1, w2]
      simp only [cond_true]
      have := ih (i + 1) (xs.set i [real.ofInt .f32 (1 + 2 * i), real.ofInt .f32 (2 + 2 * i)]) (by simp; omega) (by simp; omega) (by simpa using hb) (fun j hj => by
        rw [List.length_set] at hj
        rw [List.getD_eq_getElem?_getD, List.getElem?_set]
        by_cases hij : i = j
        · subst hij; simp [h]
        · rw [if_neg hij, ← List.getD_eq_getElem?_getD]; exact h3 j hj) (fun j hj => by
        rw [List.getD_eq_getElem?_getD, List.getElem?_set]
        by_cases hij : i = j
        · subst hij; simp [h]
        · rw [if_neg hij, ← List.getD_eq_getElem?_getD]; exact hx j (by omega))
      rw [List.length_set] at this
      exact this
    · rw [dec_ge h]
      have hil : i = xs.length := by omega
      subst hil
      have : xs = marks2 xs.length := by
        apply List.ext_getElem
        · simp [marks2]
        · intro j h1 h2
          have := hx j h1
          rw [getD_some h1] at this
          rw [this]; simp [marks2]
      simp only [cond_false]
      rw [← this]

theorem markStateS_eq (xs : List (List Int)) (hl : xs.length < 1000000000) (h3 : ∀ j, j < xs.length → (xs.getD j []).length = 2) : Pure.laws_markStateS_ok real xs 1 = true ∧ Pure.laws_markStateS real xs 1 = 1 + 2 * (xs.length : Int) ∧ Pure.laws_markStateS_1 real xs 1 = marks2 xs.length := by
  have := markStateS_loop (xs.length + 1) 0 xs (by omega) (by omega) hl h3 (fun j hj => by omega)
  have e : (1 : Int) + 2 * ((0 : Nat) : Int) = 1 := rfl
  rw [e] at this
  unfold Pure.laws_markStateS_ok Pure.laws_markStateS Pure.laws_markStateS_1
  change (Pure.laws_markStateS_L0 real (xs.length + 1) 1 0 xs).1 = true ∧ (Pure.laws_markStateS_L0 real (xs.length + 1) 1 0 xs).2.1 = _ ∧ (Pure.laws_markStateS_L0 real (xs.length + 1) 1 0 xs).2.2 = _
  change Pure.laws_markStateS_L0 real (xs.length + 1) 1 0 xs = _ at this
  rw [this]; exact ⟨rfl, rfl, rfl⟩

theorem heldStateS_eq (m : Nat) (hm : m < 1000000000) : Pure.laws_heldStateS_ok real (marks2 m) 1 = true ∧ Pure.laws_heldStateS real (marks2 m) 1 = 1 + 2 * (m : Int) := by
  have hlen : (marks2 m).length = m := by simp [marks2]
  have key : ∀ (n i : Nat), i ≤ m → m - i < n → (Pure.laws_heldStateS_L0 real (marks2 m) n (1 + 2 * (i : Int)) i).1 = true ∧ (Pure.laws_heldStateS_L0 real (marks2 m) n (1 + 2 * (i : Int)) i).2.1 = false ∧ (Pure.laws_heldStateS_L0 real (marks2 m) n (1 + 2 * (i : Int)) i).2.2.1 = 1 + 2 * (m : Int) := by
    intro n
    induction n with
    | zero => intro i _ h; omega
    | succ n ih =>
      intro i hi hn
      unfold Pure.laws_heldStateS_L0
      rcases Nat.lt_or_ge i m with h | h
      · rw [dec_lt (show i < (marks2 m).length by omega), dec_nn, Int.toNat_natCast, marks2_get h, wrap_succ (by omega)]
        have w1 : IntKind.wrap .i64 (1 + 2 * (i : Int) + 1) = 2 + 2 * (i : Int) := by rw [wrap64 (by omega) (by omega)]; omega
        have w2 : IntKind.wrap .i64 (2 + 2 * (i : Int) + 1) = 1 + 2 * ((i + 1 : Nat) : Int) := by rw [wrap64 (by omega) (by omega)]; omega
        have e0 : ∀ a b : Int, List.getD [a, b] 0 0 = a := fun _ _ => rfl
        have e1 : ∀ a b : Int, List.getD [a, b] 1 0 = b := fun _ _ => rfl
        rw [w1, w2, e0, e1, ofInt_notNaN, ofInt_notNaN]
        simp only [cond_true, cond_false]
        exact ih (i + 1) (by omega) (by omega)
      · rw [dec_ge (show (marks2 m).length ≤ i by omega)]
        have : i = m := by omega
        subst this
        exact ⟨rfl, rfl, rfl⟩
  obtain ⟨h1, h2, h3⟩ := key (m + 1) 0 (by omega) (by omega)
  unfold Pure.laws_heldStateS_ok Pure.laws_heldStateS
  rw [hlen]
  change (Pure.laws_heldStateS_L0 real (marks2 m) (m + 1) 1 0).1 = true ∧ (bif (Pure.laws_heldStateS_L0 real (marks2 m) (m + 1) 1 0).2.1 then -1 else (Pure.laws_heldStateS_L0 real (marks2 m) (m + 1) 1 0).2.2.1) = _
  change (Pure.laws_heldStateS_L0 real (marks2 m) (m + 1) 1 0).1 = true at h1
  change (Pure.laws_heldStateS_L0 real (marks2 m) (m + 1) 1 0).2.1 = false at h2
  change (Pure.laws_heldStateS_L0 real (marks2 m) (m + 1) 1 0).2.2.1 = _ at h3
  rw [h1, h2, h3]; exact ⟨rfl, rfl⟩

end Go.Fx
