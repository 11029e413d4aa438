import Derived.Test.YtpgpjkkncghbhaaXr2k
import Derived.Test.YtpgpjkkncghbhaaF3
import Derived.Test.YtpgpjkkncghbhaaF4
namespace Go.Fx
set_option maxRecDepth 100000
theorem sameFloat_refl (c : Int) : Pure.laws_sameFloat real c c = true := by
  unfold Pure.laws_sameFloat
  rw [eql_eq_not_neq, eql_eq_not_neq]
  cases real.cmp .neq .f64 c c with
  | true => rfl
  | false => simp

theorem index_finite (xs : List (List Int)) (hl : xs.length < 4611686018427387904) : ∀ (n : Nat) (i : Nat), i ≤ xs.length → xs.length - i < n →
    (Pure.slices_IndexFunc_float32_float32_finite_L0 real xs.length xs n i).1 = true ∧
    (Pure.slices_IndexFunc_float32_float32_finite_L0 real xs.length xs n i).2.1 = ((xs.drop i).any fun r => Pure.impl_finite_c1 real (r.getD 0 0)) ∧
    0 ≤ (Pure.slices_IndexFunc_float32_float32_finite_L0 real xs.length xs n i).2.2 := by
  intro n
  induction n with
  | zero => intro i _ h; omega
  | succ n ih =>
    intro i hi hn
    unfold Pure.slices_IndexFunc_float32_float32_finite_L0
    have e0 : decide (0 ≤ (i : Int)) = true := by simp
    rcases Nat.lt_or_ge i xs.length with h | h
    · have e1 : decide ((i : Int) < (xs.length : Int)) = true := by simp; exact h
      have e2 : Decidable.decide ((i : Int) < Int.ofNat xs.length) = true := e1
      rw [e1, e0, e2]
      simp only [cond_true, Int.toNat_natCast]
      have hd : xs.drop i = xs[i] :: xs.drop (i + 1) := List.drop_eq_getElem_cons h
      rw [hd]
      simp only [List.any_cons]
      rw [getD_some h]
      cases Pure.impl_finite_c1 real (xs[i].getD 0 0) with
      | true => simp
      | false =>
        simp only [cond_false, Bool.false_or]
        rw [wrap64 (by omega) (by omega)]
        have := ih (i + 1) (by omega) (by omega)
        simpa using this
    · have e1 : decide ((i : Int) < (xs.length : Int)) = false := by simp; exact h
      rw [e1]
      have : xs.drop i = [] := List.drop_eq_nil_of_le h
      simp [this]

theorem impl_finite_eq (xs : List (List Int)) (hl : xs.length < 4611686018427387904) : Pure.impl_finite_ok real xs = true ∧ Pure.impl_finite real xs = xs.all fun r => Pure.impl_IsFinite real (r.getD 0 0) := by
  obtain ⟨h1, h2, h3⟩ := index_finite xs hl (xs.length + 1) 0 (Nat.zero_le _) (by omega)
  unfold Pure.impl_finite_ok Pure.impl_finite Pure.slices_ContainsFunc_float32_float32_finite_ok Pure.slices_ContainsFunc_float32_float32_finite Pure.slices_IndexFunc_float32_float32_finite_ok Pure.slices_IndexFunc_float32_float32_finite
  refine ⟨h1, ?_⟩
  have e : xs.all (fun r => Pure.impl_IsFinite real (r.getD 0 0)) = !((xs.drop 0).any fun r => Pure.impl_finite_c1 real (r.getD 0 0)) := by
    unfold Pure.impl_finite_c1
    rw [List.drop_zero, List.all_eq_not_any_not]
    have e2 : ∀ b : Bool, (bif b then false else true) = !b := fun b => by cases b <;> rfl
    simp only [e2]
  rw [e, ← h2]
  change (bif decide ((bif (Pure.slices_IndexFunc_float32_float32_finite_L0 real xs.length xs (xs.length + 1) 0).2.1 then (Pure.slices_IndexFunc_float32_float32_finite_L0 real xs.length xs (xs.length + 1) 0).2.2 else -1) ≥ 0) then false else true) = _
  change 0 ≤ (Pure.slices_IndexFunc_float32_float32_finite_L0 real xs.length xs (xs.length + 1) 0).2.2 at h3
  generalize (Pure.slices_IndexFunc_float32_float32_finite_L0 real xs.length xs (xs.length + 1) ((0 : Nat) : Int)) = r at *
  change (bif decide ((bif r.2.1 then r.2.2 else -1) ≥ 0) then false else true) = _
  cases hr : r.2.1 with
  | true => simp only [cond_true]; rw [decide_eq_true h3]; rfl
  | false => rfl

abbrev B3 : List K := [.f .f32, .f .f32, .f .f32]

theorem row3 {r : List Int} (h : r.length = 3) : [r.getD 0 0, r.getD 1 0, r.getD 2 0] = r := by
  match r, h with
  | [a, b, c], _ => rfl

theorem eqBall_refl (a b c : Int) : Pure.laws_eqBall_ok real a b c a b c = true ∧ Pure.laws_eqBall real a b c a b c = true := by
  unfold Pure.laws_eqBall_ok Pure.laws_eqBall
  simp only [convOk_up, sameFloat_refl, cond_true, and_self]

theorem eqBalls_refl (xs : List (List Int)) (hl : xs.length < 4611686018427387904) : Pure.laws_eqBallS_ok real xs xs = true ∧ Pure.laws_eqBallS real xs xs = true := by
  have key := iter_all xs.length (fun _ => true) (fun n i => Pure.laws_eqBallS_L0 real xs xs n i) (true, false) (false, false) (fun n i h => by
      conv => lhs; unfold Pure.laws_eqBallS_L0
      rw [dec_lt h, dec_nn, (eqBall_refl _ _ _).1, (eqBall_refl _ _ _).2, wrap_succ (by omega)]; rfl) (fun n => by
      conv => lhs; unfold Pure.laws_eqBallS_L0
      rw [dec_ge (Nat.le_refl _)]; rfl) (xs.length + 1) 0 (by omega) (by omega)
  have ht : upAll xs.length (fun _ => true) 0 = true := by unfold upAll; simp
  rw [ht] at key
  unfold Pure.laws_eqBallS_ok Pure.laws_eqBallS
  have e : ((Int.ofNat xs.length != Int.ofNat xs.length)) = false := by simp
  rw [e]
  change (Pure.laws_eqBallS_L0 real xs xs (xs.length + 1) 0).1 = true ∧ (bif (Pure.laws_eqBallS_L0 real xs xs (xs.length + 1) 0).2 then false else true) = true
  change Pure.laws_eqBallS_L0 real xs xs (xs.length + 1) 0 = _ at key
  rw [key]; exact ⟨rfl, rfl⟩

theorem eqRow_refl (xs : List (List Int)) (k : Int) (hl : xs.length < 4611686018427387904) : Pure.laws_eqRow_ok real xs k xs k = true ∧ Pure.laws_eqRow real xs k xs k = true := by
  unfold Pure.laws_eqRow_ok Pure.laws_eqRow
  simp only [(eqBalls_refl xs hl).1, (eqBalls_refl xs hl).2, convOk_up, sameFloat_refl, cond_true, and_self]

def ballOk (xs : List (List Int)) (i : Nat) : Bool :=
  Pure.spec_l06Ball_e real i xs && !(decide (0 < i) && real.cmp .lss .f32 ((xs.getD i []).getD 0 0) ((xs.getD (i - 1) []).getD 0 0))

theorem valid_loop (xs : List (List Int)) (k : Int) (hl : xs.length < 4611686018427387904) : ∀ (n i : Nat), i ≤ xs.length → xs.length - i < n → Pure.impl_ValidRow_L0 real (Int.ofNat xs.length) xs k n i = bif upAll xs.length (ballOk xs) i then (true, false) else (true, true) :=
  iter_all xs.length (ballOk xs) (fun n i => Pure.impl_ValidRow_L0 real (Int.ofNat xs.length) xs k n i) (true, false) (true, true) (fun n i h => by
    conv => lhs; unfold Pure.impl_ValidRow_L0
    obtain ⟨f1, f2⟩ := impl_finite_eq [[(xs.getD i []).getD 0 0], [(xs.getD i []).getD 1 0]] (by simp)
    simp only [List.all_cons, List.all_nil, List.getD_cons_zero, Bool.and_true] at f2
    rw [dec_lt h, dec_nn, Int.toNat_natCast, f1, f2, wrap_succ (by omega)]
    unfold ballOk Pure.spec_l06Ball_e Pure.spec_l02Above Pure.impl_lengthOk
    have ef : ∀ x, Pure.spec_l01Finite real x = Pure.impl_IsFinite real x := fun x => rfl
    simp only [ef, cond_true]
    cases Pure.impl_IsFinite real ((xs.getD i []).getD 0 0) <;> cases Pure.impl_IsFinite real ((xs.getD i []).getD 1 0) <;> try rfl
    cases Pure.impl_IsFinite real ((xs.getD i []).getD 2 0) <;> try rfl
    cases real.cmp .gtr .f32 ((xs.getD i []).getD 2 0) 0 <;> try rfl
    simp only [cond_true, Bool.and_self, Bool.true_and]
    rcases Nat.eq_zero_or_pos i with h0 | h0
    · subst h0
      have e1 : decide (((0 : Nat) : Int) > 0) = false := rfl
      rw [e1]; rfl
    · have e1 : decide ((i : Int) > 0) = true := by simp; omega
      have e2 : IntKind.wrap .i64 ((i : Int) - 1) = ((i - 1 : Nat) : Int) := by rw [wrap64 (by omega) (by omega)]; omega
      have e3 : decide (0 < i) = true := by simp; exact h0
      rw [e1, e2, dec_nn, dec_lt (show i - 1 < xs.length by omega), Int.toNat_natCast, e3]
      simp only [cond_true, Bool.true_and]
      cases real.cmp .lss .f32 ((xs.getD i []).getD 0 0) ((xs.getD (i - 1) []).getD 0 0) <;> rfl) (fun n => by
    conv => lhs; unfold Pure.impl_ValidRow_L0
    rw [dec_ge (Nat.le_refl _)]; rfl)

theorem is_loop (xs : List (List Int)) (k : Int) (hl : xs.length < 4611686018427387904) : ∀ (n i : Nat), i ≤ xs.length → xs.length - i < n → Pure.spec_l06Is_L0 real k xs n i = bif upAll xs.length (ballOk xs) i then (true, false) else (true, true) :=
  iter_all xs.length (ballOk xs) (fun n i => Pure.spec_l06Is_L0 real k xs n i) (true, false) (true, true) (fun n i h => by
    conv => lhs; unfold Pure.spec_l06Is_L0
    rw [dec_lt h, dec_nn, Int.toNat_natCast, wrap_succ (by omega)]
    unfold ballOk
    simp only [cond_true]
    cases Pure.spec_l06Ball_e real i xs <;> try rfl
    simp only [cond_true, Bool.true_and]
    rcases Nat.eq_zero_or_pos i with h0 | h0
    · subst h0
      have e1 : decide (((0 : Nat) : Int) > 0) = false := rfl
      rw [e1]; rfl
    · have e1 : decide ((i : Int) > 0) = true := by simp; omega
      have e2 : IntKind.wrap .i64 ((i : Int) - 1) = ((i - 1 : Nat) : Int) := by rw [wrap64 (by omega) (by omega)]; omega
      have e3 : decide (0 < i) = true := by simp; exact h0
      rw [e1, e2, dec_nn, dec_lt (show i - 1 < xs.length by omega), Int.toNat_natCast, e3]
      simp only [cond_true, Bool.true_and]
      cases real.cmp .lss .f32 ((xs.getD i []).getD 0 0) ((xs.getD (i - 1) []).getD 0 0) <;> rfl) (fun n => by
    conv => lhs; unfold Pure.spec_l06Is_L0
    rw [dec_ge (Nat.le_refl _)]; rfl)

theorem valid_is (xs : List (List Int)) (k : Int) (hl : xs.length < 4611686018427387904) : Pure.impl_ValidRow_ok real xs k = true ∧ Pure.spec_l06Is_ok real xs k = true ∧ Pure.spec_l06Is real xs k = Pure.impl_ValidRow real xs k ∧
    (Pure.impl_ValidRow real xs k = true → 2 ≤ xs.length ∧ xs.length ≤ 16) := by
  have h1 := valid_loop xs k hl (xs.length + 1) 0 (by omega) (by omega)
  have h2 := is_loop xs k hl (xs.length + 1) 0 (by omega) (by omega)
  unfold Pure.impl_ValidRow_ok Pure.spec_l06Is_ok Pure.spec_l06Is Pure.impl_ValidRow
  change Pure.impl_ValidRow_L0 real (Int.ofNat xs.length) xs k (xs.length + 1) 0 = _ at h1
  change Pure.spec_l06Is_L0 real k xs (xs.length + 1) 0 = _ at h2
  have e0 : Nat.succ (xs.length + 0) = xs.length + 1 := rfl
  rw [e0, h1, h2]
  have es : Pure.spec_l06Share real k = Pure.impl_shareOk real k := rfl
  rw [es]
  have ei : Pure.impl_in real (Int.ofNat xs.length) 2 16 = (decide (2 ≤ xs.length) && decide (xs.length ≤ 16)) := by
    unfold Pure.impl_in
    have a1 : decide (Int.ofNat xs.length ≥ 2) = decide (2 ≤ xs.length) := by congr 1; simp; omega
    have a2 : decide (Int.ofNat xs.length ≤ 16) = decide (xs.length ≤ 16) := by congr 1; simp; omega
    rw [a1, a2]
    cases decide (2 ≤ xs.length) <;> rfl
  have a3 : decide (Int.ofNat xs.length < 2) = !decide (2 ≤ xs.length) := by
    rw [← decide_not]; congr 1; simp; omega
  have a4 : decide (Int.ofNat xs.length > 16) = !decide (xs.length ≤ 16) := by
    rw [← decide_not]; congr 1; simp; omega
  rw [ei, a3, a4]
  cases b1 : decide (2 ≤ xs.length) <;> cases b2 : decide (xs.length ≤ 16) <;> cases upAll xs.length (ballOk xs) 0 <;> cases Pure.impl_shareOk real k <;> simp_all

theorem getD_set_self {ys : List (List Int)} {i : Nat} {v : List Int} (h : i < ys.length) : (ys.set i v).getD i [] = v := by
  rw [List.getD_eq_getElem?_getD, List.getElem?_set_self h]; rfl

theorem set3 {ys : List (List Int)} {i : Nat} {a b c : Int} (h : i < ys.length) (h3 : (ys.getD i []).length = 3) :
    List.set (List.set (List.set ys i (setFrom (ys.getD i []) 0 [a])) i (setFrom (List.getD (List.set ys i (setFrom (ys.getD i []) 0 [a])) i []) 1 [b])) i
      (setFrom (List.getD (List.set (List.set ys i (setFrom (ys.getD i []) 0 [a])) i (setFrom (List.getD (List.set ys i (setFrom (ys.getD i []) 0 [a])) i []) 1 [b])) i []) 2 [c]) = ys.set i [a, b, c] := by
  have e1 : List.getD (List.set ys i (setFrom (ys.getD i []) 0 [a])) i [] = setFrom (ys.getD i []) 0 [a] := getD_set_self h
  rw [e1]
  have e2 : List.getD (List.set (List.set ys i (setFrom (ys.getD i []) 0 [a])) i (setFrom (setFrom (ys.getD i []) 0 [a]) 1 [b])) i [] = setFrom (setFrom (ys.getD i []) 0 [a]) 1 [b] := getD_set_self (by rw [List.length_set]; exact h)
  rw [e2, List.set_set, List.set_set]
  congr 1
  revert h3
  generalize ys.getD i [] = r
  intro h3
  match r, h3 with
  | [p, q, s], _ => rfl

def marks3 (n : Nat) : List (List Int) := (List.range n).map fun (i : Nat) => [real.ofInt .f32 (1 + 3 * i), real.ofInt .f32 (2 + 3 * i), real.ofInt .f32 (3 + 3 * i)]

theorem marks3_get {n i : Nat} (h : i < n) : (marks3 n).getD i [] = [real.ofInt .f32 (1 + 3 * i), real.ofInt .f32 (2 + 3 * i), real.ofInt .f32 (3 + 3 * i)] := by
  rw [getD_some (by simp [marks3]; exact h)]; simp [marks3]

theorem mark3_loop : ∀ (n : Nat) (i : Nat) (xs : List (List Int)), i ≤ xs.length → xs.length - i < n → xs.length < 1000000000 → (∀ j, j < xs.length → (xs.getD j []).length = 3) →
    (∀ j, j < i → xs.getD j [] = [real.ofInt .f32 (1 + 3 * j), real.ofInt .f32 (2 + 3 * j), real.ofInt .f32 (3 + 3 * j)]) →
    Pure.laws_markBallS_L0 real n (1 + 3 * i) i xs = (true, 1 + 3 * (xs.length : Int), marks3 xs.length) := by
  intro n
  induction n with
  | zero => intro i xs _ h; omega
  | succ n ih =>
    intro i xs hi hn hb h3 hx
    unfold Pure.laws_markBallS_L0
    rcases Nat.lt_or_ge i xs.length with h | h
    · rw [dec_lt h, dec_nn, Int.toNat_natCast]
      simp only [List.length_set]
      rw [dec_lt h, wrap_succ (by omega), set3 h (h3 i h)]
      have w1 : IntKind.wrap .i64 (1 + 3 * (i : Int) + 1) = 2 + 3 * (i : Int) := by rw [wrap64 (by omega) (by omega)]; omega
      have w2 : IntKind.wrap .i64 (2 + 3 * (i : Int) + 1) = 3 + 3 * (i : Int) := by rw [wrap64 (by omega) (by omega)]; omega
      have w3 : IntKind.wrap .i64 (3 + 3 * (i : Int) + 1) = 1 + 3 * ((i + 1 : Nat) : Int) := by rw [wrap64 (by omega) (by omega)]; omega
      rw [w1, w2, w3]
      simp only [cond_true]
      have := ih (i + 1) (xs.set i [real.ofInt .f32 (1 + 3 * i), real.ofInt .f32 (2 + 3 * i), real.ofInt .f32 (3 + 3 * i)]) (by simp; omega) (by simp; omega) (by simpa using hb) (fun j hj => by
        rw [List.length_set] at hj
        rw [List.getD_eq_getElem?_getD, List.getElem?_set]
        by_cases hij : i = j
        · subst hij; simp [h]
        · rw [if_neg hij, ← List.getD_eq_getElem?_getD]; exact h3 j hj) (fun j hj => by
        rw [List.getD_eq_getElem?_getD, List.getElem?_set]
        by_cases hij : i = j
        · subst hij; simp [h]
        · rw [if_neg hij, ← List.getD_eq_getElem?_getD]; exact hx j (by omega))
      rw [List.length_set] at this
      exact this
    · rw [dec_ge h]
      have hil : i = xs.length := by omega
      subst hil
      have : xs = marks3 xs.length := by
        apply List.ext_getElem
        · simp [marks3]
        · intro j h1 h2
          have := hx j h1
          rw [getD_some h1] at this
          rw [this]; simp [marks3]
      simp only [cond_false]
      rw [← this]

theorem mark3_eq (xs : List (List Int)) (hl : xs.length < 1000000000) (h3 : ∀ j, j < xs.length → (xs.getD j []).length = 3) : Pure.laws_markBallS_ok real xs 1 = true ∧ Pure.laws_markBallS real xs 1 = 1 + 3 * (xs.length : Int) ∧ Pure.laws_markBallS_1 real xs 1 = marks3 xs.length := by
  have := mark3_loop (xs.length + 1) 0 xs (by omega) (by omega) hl h3 (fun j hj => by omega)
  have e : (1 : Int) + 3 * ((0 : Nat) : Int) = 1 := rfl
  rw [e] at this
  unfold Pure.laws_markBallS_ok Pure.laws_markBallS Pure.laws_markBallS_1
  change (Pure.laws_markBallS_L0 real (xs.length + 1) 1 0 xs).1 = true ∧ (Pure.laws_markBallS_L0 real (xs.length + 1) 1 0 xs).2.1 = _ ∧ (Pure.laws_markBallS_L0 real (xs.length + 1) 1 0 xs).2.2 = _
  change Pure.laws_markBallS_L0 real (xs.length + 1) 1 0 xs = _ at this
  rw [this]; exact ⟨rfl, rfl, rfl⟩

theorem rows3 {xs : List (List Int)} (h : RowsOK B3 xs) : ∀ j, j < xs.length → (xs.getD j []).length = 3 := fun j hj => by
  rw [getD_some hj]; exact (h.row _ (List.getElem_mem hj)).1

theorem held3_eq (m : Nat) (hm : m < 1000000000) : Pure.laws_heldBallS_ok real (marks3 m) 1 = true ∧ Pure.laws_heldBallS real (marks3 m) 1 = 1 + 3 * (m : Int) := by
  have hlen : (marks3 m).length = m := by simp [marks3]
  have key : ∀ (n i : Nat), i ≤ m → m - i < n → (Pure.laws_heldBallS_L0 real (marks3 m) n (1 + 3 * (i : Int)) i).1 = true ∧ (Pure.laws_heldBallS_L0 real (marks3 m) n (1 + 3 * (i : Int)) i).2.1 = false ∧ (Pure.laws_heldBallS_L0 real (marks3 m) n (1 + 3 * (i : Int)) i).2.2.1 = 1 + 3 * (m : Int) := by
    intro n
    induction n with
    | zero => intro i _ h; omega
    | succ n ih =>
      intro i hi hn
      unfold Pure.laws_heldBallS_L0
      rcases Nat.lt_or_ge i m with h | h
      · have w1 : IntKind.wrap .i64 (1 + 3 * (i : Int) + 1) = 2 + 3 * (i : Int) := by rw [wrap64 (by omega) (by omega)]; omega
        have w2 : IntKind.wrap .i64 (2 + 3 * (i : Int) + 1) = 3 + 3 * (i : Int) := by rw [wrap64 (by omega) (by omega)]; omega
        have w3 : IntKind.wrap .i64 (3 + 3 * (i : Int) + 1) = 1 + 3 * ((i + 1 : Nat) : Int) := by rw [wrap64 (by omega) (by omega)]; omega
        rw [dec_lt (show i < (marks3 m).length by omega), dec_nn, Int.toNat_natCast, marks3_get h, w1, w2, w3, wrap_succ (by omega)]
        have e0 : ∀ a b c : Int, List.getD [a, b, c] 0 0 = a := fun _ _ _ => rfl
        have e1 : ∀ a b c : Int, List.getD [a, b, c] 1 0 = b := fun _ _ _ => rfl
        have e2 : ∀ a b c : Int, List.getD [a, b, c] 2 0 = c := fun _ _ _ => rfl
        rw [e0, e1, e2, ofInt_notNaN, ofInt_notNaN, ofInt_notNaN]
        simp only [cond_true, cond_false]
        exact ih (i + 1) (by omega) (by omega)
      · rw [dec_ge (show (marks3 m).length ≤ i by omega)]
        have : i = m := by omega
        subst this
        exact ⟨rfl, rfl, rfl⟩
  obtain ⟨h1, h2, h3⟩ := key (m + 1) 0 (by omega) (by omega)
  unfold Pure.laws_heldBallS_ok Pure.laws_heldBallS
  rw [hlen]
  change (Pure.laws_heldBallS_L0 real (marks3 m) (m + 1) 1 0).1 = true ∧ (bif (Pure.laws_heldBallS_L0 real (marks3 m) (m + 1) 1 0).2.1 then -1 else (Pure.laws_heldBallS_L0 real (marks3 m) (m + 1) 1 0).2.2.1) = _
  change (Pure.laws_heldBallS_L0 real (marks3 m) (m + 1) 1 0).1 = true at h1
  change (Pure.laws_heldBallS_L0 real (marks3 m) (m + 1) 1 0).2.1 = false at h2
  change (Pure.laws_heldBallS_L0 real (marks3 m) (m + 1) 1 0).2.2.1 = _ at h3
  rw [h1, h2, h3]; exact ⟨rfl, rfl⟩

set_option maxRecDepth 100000
theorem sz_small {x0 : List (List Int)} {x1 : Int} (hl : x0.length ≤ 9223372036854775807) (h : decide (Pure.laws_szRow real x0 x1 1048576 < 0) = false) : x0.length ≤ 1048576 := by
  unfold Pure.laws_szRow Pure.laws_szBallS at h
  have hw : IntKind.wrap .i64 (1048576 - Int.ofNat x0.length) = 1048576 - Int.ofNat x0.length := wrap64 (by simp; omega) (by simp; omega)
  rw [hw] at h
  cases hd : decide ((1048576 : Int) - Int.ofNat x0.length < 0) with
  | true => rw [hd] at h; simp at h
  | false => simp at hd; omega

theorem toBalls_eq {xs : List (List Int)} (h : RowsOK B3 xs) (hl : xs.length ≤ 1048576) : Pure.laws_toBallS_ok real xs = true ∧ Pure.laws_toBallS real xs = xs := by
  have key : ∀ (n i : Nat) (ys : List (List Int)), i ≤ xs.length → xs.length - i < n → ys.length = xs.length → (∀ j, j < i → ys.getD j [] = xs.getD j []) → Pure.laws_toBallS_L0 real xs n i ys = (true, xs) := by
    intro n
    induction n with
    | zero => intro i ys _ h; omega
    | succ n ih =>
      intro i ys hi hn hy hj
      unfold Pure.laws_toBallS_L0
      rcases Nat.lt_or_ge i xs.length with h1 | h1
      · rw [dec_lt h1, dec_nn, dec_lt (show i < ys.length by omega), wrap_succ (by omega), Int.toNat_natCast]
        simp only [cond_true]
        have hr : (xs.getD i []).length = 3 := by rw [getD_some h1]; exact (h.row _ (List.getElem_mem h1)).1
        rw [row3 hr]
        refine ih (i + 1) _ (by omega) (by omega) (by simp; omega) fun j hj' => ?_
        rw [List.getD_eq_getElem?_getD, List.getElem?_set]
        by_cases hij : i = j
        · subst hij; simp [hy, h1]
        · rw [if_neg hij, ← List.getD_eq_getElem?_getD]; exact hj j (by omega)
      · rw [dec_ge h1]
        have : ys = xs := by
          apply List.ext_getElem hy
          intro j h2 h3
          have := hj j (by omega)
          rwa [getD_some h2, getD_some h3] at this
        rw [this]; rfl
  unfold Pure.laws_toBallS_ok Pure.laws_toBallS
  have e1 : ((Int.ofNat xs.length == Int.ofNat xs.length)) = true := by simp
  have e2 : decide (Int.ofNat xs.length ≤ 1073741824) = true := by simp; omega
  rw [e1, e2]
  have := key (xs.length + 1) 0 (List.replicate xs.length [0, 0, 0]) (by omega) (by omega) (by simp) (fun j hj => by omega)
  change (Pure.laws_toBallS_L0 real xs (xs.length + 1) 0 (List.replicate xs.length [0, 0, 0])).1 = true ∧ (Pure.laws_toBallS_L0 real xs (xs.length + 1) 0 (List.replicate xs.length [0, 0, 0])).2 = xs
  change Pure.laws_toBallS_L0 real xs (xs.length + 1) 0 (List.replicate xs.length [0, 0, 0]) = _ at this
  rw [this]; exact ⟨rfl, rfl⟩

theorem changed_end {x0 : List (List Int)} {x1 : Int} (h0 : RowsOK B3 x0) (hl : x0.length ≤ 1048576) {l : List (List Int)} (hl2 : l.length ≤ 1048576) (hr3 : ∀ j, j < l.length → (l.getD j []).length = 3) :
    Pure.laws_markBallS_ok real x0 1 = true ∧ Pure.laws_markBallS real x0 1 = 1 + 3 * (x0.length : Int) ∧ Pure.laws_markBallS_ok real l 1 = true ∧ Pure.laws_markBallS real l 1 = 1 + 3 * (l.length : Int) ∧
    (∀ k, Pure.laws_heldRow_ok real (Pure.laws_markBallS_1 real l 1) k 1 = true) ∧ (∀ k, Pure.laws_heldRow real (Pure.laws_markBallS_1 real l 1) k 1 = 1 + 3 * (l.length : Int)) := by
  obtain ⟨k1, k2, _⟩ := mark3_eq x0 (by omega) (rows3 h0)
  obtain ⟨r1, r2, r3⟩ := mark3_eq l (by omega) hr3
  obtain ⟨u1, u2⟩ := held3_eq l.length (by omega)
  refine ⟨k1, k2, r1, r2, fun k => ?_, fun k => ?_⟩
  · unfold Pure.laws_heldRow_ok; rw [r3]; exact u1
  · unfold Pure.laws_heldRow
    rw [r3, u2]
    have : decide ((1 : Int) + 3 * (l.length : Int) < 0) = false := by simp; omega
    rw [this]; rfl

theorem set_len3 {xs : List (List Int)} {i : Nat} {r : List Int} (h : ∀ j, j < xs.length → (xs.getD j []).length = 3) (hr : r.length = 3) : ∀ j, j < (xs.set i r).length → ((xs.set i r).getD j []).length = 3 := by
  intro j hj
  rw [List.length_set] at hj
  rw [List.getD_eq_getElem?_getD, List.getElem?_set]
  by_cases hij : i = j
  · rw [if_pos hij, if_pos (by omega)]; exact hr
  · rw [if_neg hij, ← List.getD_eq_getElem?_getD]; exact h j hj

theorem meet_facts {xs : List (List Int)} {k i : Int} (h : ∀ j, j < xs.length → (xs.getD j []).length = 3) (h0 : 0 ≤ i) (h1 : i + 1 < xs.length) (hl : xs.length ≤ 1048576) :
    Pure.spec_l06Meet real xs k i = Pure.impl_Row_meet real xs k i ∧ Pure.impl_Row_meet_ok real xs k i = true ∧ Pure.spec_l06Meet_ok real xs k i = true ∧
    (Pure.impl_Row_meet real xs k i).length = xs.length ∧ ∀ j, j < (Pure.impl_Row_meet real xs k i).length → ((Pure.impl_Row_meet real xs k i).getD j []).length = 3 := by
  have hw : IntKind.wrap .i64 (i + 1) = i + 1 := wrap64 (by omega) (by omega)
  refine ⟨rfl, ?_, ?_, ?_, ?_⟩
  · unfold Pure.impl_Row_meet_ok
    rw [hw]
    simp; omega
  · unfold Pure.spec_l06Meet_ok Pure.spec_l06Own_ok
    rw [hw]
    simp; omega
  · unfold Pure.impl_Row_meet
    rw [List.length_set, List.length_set]
  · unfold Pure.impl_Row_meet
    rw [hw]
    generalize FOps.bin real BinOp.quo FloatKind.f32 _ _ = q
    have h2 := set_len3 (i := i.toNat) (r := setFrom (xs.getD i.toNat []) 1 [q]) h (by rw [setFrom_length]; exact h _ (by omega))
    exact set_len3 h2 (by rw [setFrom_length]; exact h2 _ (by rw [List.length_set]; omega))

theorem law_FnExactMeetBalls (x0 : List (List Int)) (x1 x2 : Int) (h0 : RowsOK B3 x0) (_ : OkF .f32 x1) (_ : IntKind.i64.has x2) : Pure.laws_FnExactMeetBalls_ok real x0 x1 x2 = true ∧ Pure.laws_FnExactMeetBalls real x0 x1 x2 = true := by
  unfold Pure.laws_FnExactMeetBalls_ok Pure.laws_FnExactMeetBalls
  cases hs : decide (Pure.laws_szRow real x0 x1 1048576 < 0) with
  | true => exact ⟨rfl, rfl⟩
  | false =>
    have hl := sz_small h0.len hs
    obtain ⟨t1, t2⟩ := toBalls_eq h0 hl
    obtain ⟨v1, v2, v3, _⟩ := valid_is x0 x1 (by omega)
    obtain ⟨e1, e2⟩ := eqRow_refl x0 x1 (by omega)
    have d0 : decide (x0.length ≤ 1073741824) = true := by simp; omega
    have ei : ∀ a b c, Pure.spec_l00In real a b c = Pure.impl_in real a b c := fun a b c => rfl
    have hw : IntKind.wrap .i64 (Int.ofNat x0.length - 2) = Int.ofNat x0.length - 2 := wrap64 (by simp; omega) (by simp; omega)
    have hi : ∃ l q, l.length ≤ 1048576 ∧ (∀ j, j < l.length → (l.getD j []).length = 3) ∧ Pure.impl_changedRow_meet_2 real x0 x1 x2 = l ∧ Pure.impl_changedRow_meet real x0 x1 x2 = q ∧ Pure.impl_changedRow_meet_1 real x0 x1 x2 = Pure.spec_MeetBalls_1 real x0 x1 x2 ∧
        Pure.spec_MeetBalls real x0 x1 x2 = q ∧ Pure.spec_MeetBalls_2 real x0 x1 x2 = l ∧ Pure.impl_MeetBalls_ok real x0 x1 x2 = true ∧ Pure.spec_MeetBalls_ok real x0 x1 x2 = true := by
      unfold Pure.impl_changedRow_meet_2 Pure.impl_changedRow_meet Pure.impl_changedRow_meet_1 Pure.impl_MeetBalls_ok Pure.impl_changedRow_meet_ok Pure.spec_MeetBalls Pure.spec_MeetBalls_1 Pure.spec_MeetBalls_2 Pure.spec_MeetBalls_ok Pure.impl_MeetBalls_c1 Pure.impl_MeetBalls_c1_1 Pure.impl_MeetBalls_c1_ok Pure.spec_l06Give_way Pure.spec_l06Give_okA Pure.spec_l06Give_okB
      rw [v1, v2, v3, d0, ei, hw]
      cases hb : Pure.impl_ValidRow real x0 x1
      · exact ⟨[], 0, by simp, by simp, rfl, rfl, rfl, rfl, rfl, rfl, rfl⟩
      · cases hn : Pure.impl_in real x2 0 (Int.ofNat x0.length - 2)
        · exact ⟨[], 0, by simp, by simp, rfl, rfl, rfl, rfl, rfl, rfl, rfl⟩
        · have hn2 : 0 ≤ x2 ∧ x2 + 1 < (x0.length : Int) := by
            unfold Pure.impl_in at hn
            simp only [Bool.cond_false_right, Bool.and_eq_true, decide_eq_true_eq, ge_iff_le, Int.ofNat_eq_natCast] at hn
            omega
          obtain ⟨m1, m2, m3, m4, m5⟩ := meet_facts (k := x1) (rows3 h0) hn2.1 hn2.2 hl
          simp only [cond_true]
          rw [m1, m2, m3]
          generalize Pure.impl_Row_meet real x0 x1 x2 = M at m4 m5
          obtain ⟨w1, w2, w3, _⟩ := valid_is M x1 (by omega)
          rw [w1, w2, w3]
          cases hb2 : Pure.impl_ValidRow real M x1
          · exact ⟨[], 0, by simp, by simp, rfl, rfl, rfl, rfl, rfl, rfl, rfl⟩
          · exact ⟨M, x1, by omega, m5, rfl, rfl, rfl, rfl, rfl, rfl, rfl⟩
    obtain ⟨l, q, hll, hl3, i1, i2, i3, i4, i5, i6, i7⟩ := hi
    obtain ⟨q1, q2⟩ := eqRow_refl l q (by omega)
    obtain ⟨c1, c2, c3, c4, c5, c6⟩ := changed_end (x1 := x1) h0 hl hll hl3
    unfold Pure.laws_toRow_ok Pure.laws_markRow_ok
    rw [t1, t2, i1, i2, i3, i4, i5, i6, i7, q1, q2, e1, e2, c1, c2, c3, c4, c5, c6]
    have d1 : decide ((1 : Int) + 3 * (x0.length : Int) < 0) = false := by simp; omega
    have d2 : decide ((1 : Int) + 3 * (l.length : Int) < 0) = false := by simp; omega
    rw [d1, d2]
    simp
end Go.Fx
