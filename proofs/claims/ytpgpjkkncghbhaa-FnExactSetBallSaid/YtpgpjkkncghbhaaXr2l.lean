import Derived.Test.YtpgpjkkncghbhaaXr2b
import Derived.Test.YtpgpjkkncghbhaaF3
import Derived.Test.YtpgpjkkncghbhaaF4
namespace Go.Fx

theorem sameFloat_refl (c : Int) : Pure.laws_sameFloat real c c = true := by
  unfold Pure.laws_sameFloat
  rw [eql_eq_not_neq, eql_eq_not_neq]
  cases real.cmp .neq .f64 c c with
  | true => rfl
  | false => simp

/-- Whether all of a list's numbers are finite. -/
theorem index_finite (xs : List (List Int)) (hl : xs.length < 4611686018427387904) : ∀ (n : Nat) (i : Nat), i ≤ xs.length → xs.length - i < n →
    (Pure.slices_IndexFunc_float32_float32_finite_L0 real xs.length xs n i).1 = true ∧
    (Pure.slices_IndexFunc_float32_float32_finite_L0 real xs.length xs n i).2.1 = ((xs.drop i).any fun r => Pure.impl_finite_c1 real (r.getD 0 0)) ∧
    0 ≤ (Pure.slices_IndexFunc_float32_float32_finite_L0 real xs.length xs n i).2.2 := by
  intro n
  induction n with
  | zero => intro i _ h; omega
  | succ n ih =>
    intro i hi hn
    unfold Pure.slices_IndexFunc_float32_float32_finite_L0
    have e0 : decide (0 ≤ (i : Int)) = true := by simp
    rcases Nat.lt_or_ge i xs.length with h | h
    · have e1 : decide ((i : Int) < (xs.length : Int)) = true := by simp; exact h
      have e2 : Decidable.decide ((i : Int) < Int.ofNat xs.length) = true := e1
      rw [e1, e0, e2]
      simp only [cond_true, Int.toNat_natCast]
      have hd : xs.drop i = xs[i] :: xs.drop (i + 1) := List.drop_eq_getElem_cons h
      rw [hd]
      simp only [List.any_cons]
      rw [getD_some h]
      cases Pure.impl_finite_c1 real (xs[i].getD 0 0) with
      | true => simp
      | false =>
        simp only [cond_false, Bool.false_or]
        rw [wrap64 (by omega) (by omega)]
        have := ih (i + 1) (by omega) (by omega)
        simpa using this
    · have e1 : decide ((i : Int) < (xs.length : Int)) = false := by simp; exact h
      rw [e1]
      have : xs.drop i = [] := List.drop_eq_nil_of_le h
      simp [this]

theorem impl_finite_eq (xs : List (List Int)) (hl : xs.length < 4611686018427387904) : Pure.impl_finite_ok real xs = true ∧ Pure.impl_finite real xs = xs.all fun r => Pure.impl_IsFinite real (r.getD 0 0) := by
  obtain ⟨h1, h2, h3⟩ := index_finite xs hl (xs.length + 1) 0 (Nat.zero_le _) (by omega)
  unfold Pure.impl_finite_ok Pure.impl_finite Pure.slices_ContainsFunc_float32_float32_finite_ok Pure.slices_ContainsFunc_float32_float32_finite Pure.slices_IndexFunc_float32_float32_finite_ok Pure.slices_IndexFunc_float32_float32_finite
  refine ⟨h1, ?_⟩
  have e : xs.all (fun r => Pure.impl_IsFinite real (r.getD 0 0)) = !((xs.drop 0).any fun r => Pure.impl_finite_c1 real (r.getD 0 0)) := by
    unfold Pure.impl_finite_c1
    rw [List.drop_zero, List.all_eq_not_any_not]
    have e2 : ∀ b : Bool, (bif b then false else true) = !b := fun b => by cases b <;> rfl
    simp only [e2]
  rw [e, ← h2]
  change (bif decide ((bif (Pure.slices_IndexFunc_float32_float32_finite_L0 real xs.length xs (xs.length + 1) 0).2.1 then (Pure.slices_IndexFunc_float32_float32_finite_L0 real xs.length xs (xs.length + 1) 0).2.2 else -1) ≥ 0) then false else true) = _
  change 0 ≤ (Pure.slices_IndexFunc_float32_float32_finite_L0 real xs.length xs (xs.length + 1) 0).2.2 at h3
  generalize (Pure.slices_IndexFunc_float32_float32_finite_L0 real xs.length xs (xs.length + 1) ((0 : Nat) : Int)) = r at *
  change (bif decide ((bif r.2.1 then r.2.2 else -1) ≥ 0) then false else true) = _
  cases hr : r.2.1 with
  | true => simp only [cond_true]; rw [decide_eq_true h3]; rfl
  | false => rfl

/-! ### rows of balls -/
abbrev B3 : List K := [.f .f32, .f .f32, .f .f32]

theorem sz_small {x0 : List (List Int)} {x1 : Int} (hl : x0.length ≤ 9223372036854775807) (h : decide (Pure.laws_szRow real x0 x1 1048576 < 0) = false) : x0.length ≤ 1048576 := by
  unfold Pure.laws_szRow Pure.laws_szBallS at h
  have hw : IntKind.wrap .i64 (1048576 - Int.ofNat x0.length) = 1048576 - Int.ofNat x0.length := wrap64 (by simp; omega) (by simp; omega)
  rw [hw] at h
  cases hd : decide ((1048576 : Int) - Int.ofNat x0.length < 0) with
  | true => rw [hd] at h; simp at h
  | false => simp at hd; omega

theorem row3 {r : List Int} (h : r.length = 3) : [r.getD 0 0, r.getD 1 0, r.getD 2 0] = r := by
  match r, h with
  | [a, b, c], _ => rfl

theorem toBalls_eq {xs : List (List Int)} (h : RowsOK B3 xs) (hl : xs.length ≤ 1048576) : Pure.laws_toBallS_ok real xs = true ∧ Pure.laws_toBallS real xs = xs := by
  have key : ∀ (n i : Nat) (ys : List (List Int)), i ≤ xs.length → xs.length - i < n → ys.length = xs.length → (∀ j, j < i → ys.getD j [] = xs.getD j []) → Pure.laws_toBallS_L0 real xs n i ys = (true, xs) := by
    intro n
    induction n with
    | zero => intro i ys _ h; omega
    | succ n ih =>
      intro i ys hi hn hy hj
      unfold Pure.laws_toBallS_L0
      rcases Nat.lt_or_ge i xs.length with h1 | h1
      · rw [dec_lt h1, dec_nn, dec_lt (show i < ys.length by omega), wrap_succ (by omega), Int.toNat_natCast]
        simp only [cond_true]
        have hr : (xs.getD i []).length = 3 := by rw [getD_some h1]; exact (h.row _ (List.getElem_mem h1)).1
        rw [row3 hr]
        refine ih (i + 1) _ (by omega) (by omega) (by simp; omega) fun j hj' => ?_
        rw [List.getD_eq_getElem?_getD, List.getElem?_set]
        by_cases hij : i = j
        · subst hij; simp [hy, h1]
        · rw [if_neg hij, ← List.getD_eq_getElem?_getD]; exact hj j (by omega)
      · rw [dec_ge h1]
        have : ys = xs := by
          apply List.ext_getElem hy
          intro j h2 h3
          have := hj j (by omega)
          rwa [getD_some h2, getD_some h3] at this
        rw [this]; rfl
  unfold Pure.laws_toBallS_ok Pure.laws_toBallS
  have e1 : ((Int.ofNat xs.length == Int.ofNat xs.length)) = true := by simp
  have e2 : decide (Int.ofNat xs.length ≤ 1073741824) = true := by simp; omega
  rw [e1, e2]
  have := key (xs.length + 1) 0 (List.replicate xs.length [0, 0, 0]) (by omega) (by omega) (by simp) (fun j hj => by omega)
  change (Pure.laws_toBallS_L0 real xs (xs.length + 1) 0 (List.replicate xs.length [0, 0, 0])).1 = true ∧ (Pure.laws_toBallS_L0 real xs (xs.length + 1) 0 (List.replicate xs.length [0, 0, 0])).2 = xs
  change Pure.laws_toBallS_L0 real xs (xs.length + 1) 0 (List.replicate xs.length [0, 0, 0]) = _ at this
  rw [this]; exact ⟨rfl, rfl⟩

theorem eqBall_refl (a b c : Int) : Pure.laws_eqBall_ok real a b c a b c = true ∧ Pure.laws_eqBall real a b c a b c = true := by
  unfold Pure.laws_eqBall_ok Pure.laws_eqBall
  simp only [convOk_up, sameFloat_refl, cond_true, and_self]

theorem eqBalls_refl (xs : List (List Int)) (hl : xs.length < 4611686018427387904) : Pure.laws_eqBallS_ok real xs xs = true ∧ Pure.laws_eqBallS real xs xs = true := by
  have key := iter_all xs.length (fun _ => true) (fun n i => Pure.laws_eqBallS_L0 real xs xs n i) (true, false) (false, false) (fun n i h => by
      conv => lhs; unfold Pure.laws_eqBallS_L0
      rw [dec_lt h, dec_nn, (eqBall_refl _ _ _).1, (eqBall_refl _ _ _).2, wrap_succ (by omega)]; rfl) (fun n => by
      conv => lhs; unfold Pure.laws_eqBallS_L0
      rw [dec_ge (Nat.le_refl _)]; rfl) (xs.length + 1) 0 (by omega) (by omega)
  have ht : upAll xs.length (fun _ => true) 0 = true := by unfold upAll; simp
  rw [ht] at key
  unfold Pure.laws_eqBallS_ok Pure.laws_eqBallS
  have e : ((Int.ofNat xs.length != Int.ofNat xs.length)) = false := by simp
  rw [e]
  change (Pure.laws_eqBallS_L0 real xs xs (xs.length + 1) 0).1 = true ∧ (bif (Pure.laws_eqBallS_L0 real xs xs (xs.length + 1) 0).2 then false else true) = true
  change Pure.laws_eqBallS_L0 real xs xs (xs.length + 1) 0 = _ at key
  rw [key]; exact ⟨rfl, rfl⟩

theorem eqRow_refl (xs : List (List Int)) (k : Int) (hl : xs.length < 4611686018427387904) : Pure.laws_eqRow_ok real xs k xs k = true ∧ Pure.laws_eqRow real xs k xs k = true := by
  unfold Pure.laws_eqRow_ok Pure.laws_eqRow
  simp only [(eqBalls_refl xs hl).1, (eqBalls_refl xs hl).2, convOk_up, sameFloat_refl, cond_true, and_self]

/-- Is this ball a right one, and not before the one before it? -/
def ballOk (xs : List (List Int)) (i : Nat) : Bool :=
  Pure.spec_l06Ball_e real i xs && !(decide (0 < i) && real.cmp .lss .f32 ((xs.getD i []).getD 0 0) ((xs.getD (i - 1) []).getD 0 0))

theorem valid_loop (xs : List (List Int)) (k : Int) (hl : xs.length < 4611686018427387904) : ∀ (n i : Nat), i ≤ xs.length → xs.length - i < n → Pure.impl_ValidRow_L0 real (Int.ofNat xs.length) xs k n i = bif upAll xs.length (ballOk xs) i then (true, false) else (true, true) :=
  iter_all xs.length (ballOk xs) (fun n i => Pure.impl_ValidRow_L0 real (Int.ofNat xs.length) xs k n i) (true, false) (true, true) (fun n i h => by
    conv => lhs; unfold Pure.impl_ValidRow_L0
    obtain ⟨f1, f2⟩ := impl_finite_eq [[(xs.getD i []).getD 0 0], [(xs.getD i []).getD 1 0]] (by simp)
    simp only [List.all_cons, List.all_nil, List.getD_cons_zero, Bool.and_true] at f2
    rw [dec_lt h, dec_nn, Int.toNat_natCast, f1, f2, wrap_succ (by omega)]
    unfold ballOk Pure.spec_l06Ball_e Pure.spec_l02Above Pure.impl_lengthOk
    have ef : ∀ x, Pure.spec_l01Finite real x = Pure.impl_IsFinite real x := fun x => rfl
    simp only [ef, cond_true]
    cases Pure.impl_IsFinite real ((xs.getD i []).getD 0 0) <;> cases Pure.impl_IsFinite real ((xs.getD i []).getD 1 0) <;> try rfl
    cases Pure.impl_IsFinite real ((xs.getD i []).getD 2 0) <;> try rfl
    cases real.cmp .gtr .f32 ((xs.getD i []).getD 2 0) 0 <;> try rfl
    simp only [cond_true, Bool.and_self, Bool.true_and]
    rcases Nat.eq_zero_or_pos i with h0 | h0
    · subst h0
      have e1 : decide (((0 : Nat) : Int) > 0) = false := rfl
      rw [e1]; rfl
    · have e1 : decide ((i : Int) > 0) = true := by simp; omega
      have e2 : IntKind.wrap .i64 ((i : Int) - 1) = ((i - 1 : Nat) : Int) := by rw [wrap64 (by omega) (by omega)]; omega
      have e3 : decide (0 < i) = true := by simp; exact h0
      rw [e1, e2, dec_nn, dec_lt (show i - 1 < xs.length by omega), Int.toNat_natCast, e3]
      simp only [cond_true, Bool.true_and]
      cases real.cmp .lss .f32 ((xs.getD i []).getD 0 0) ((xs.getD (i - 1) []).getD 0 0) <;> rfl) (fun n => by
    conv => lhs; unfold Pure.impl_ValidRow_L0
    rw [dec_ge (Nat.le_refl _)]; rfl)

theorem is_loop (xs : List (List Int)) (k : Int) (hl : xs.length < 4611686018427387904) : ∀ (n i : Nat), i ≤ xs.length → xs.length - i < n → Pure.spec_l06Is_L0 real k xs n i = bif upAll xs.length (ballOk xs) i then (true, false) else (true, true) :=
  iter_all xs.length (ballOk xs) (fun n i => Pure.spec_l06Is_L0 real k xs n i) (true, false) (true, true) (fun n i h => by
    conv => lhs; unfold Pure.spec_l06Is_L0
    rw [dec_lt h, dec_nn, Int.toNat_natCast, wrap_succ (by omega)]
    unfold ballOk
    simp only [cond_true]
    cases Pure.spec_l06Ball_e real i xs <;> try rfl
    simp only [cond_true, Bool.true_and]
    rcases Nat.eq_zero_or_pos i with h0 | h0
    · subst h0
      have e1 : decide (((0 : Nat) : Int) > 0) = false := rfl
      rw [e1]; rfl
    · have e1 : decide ((i : Int) > 0) = true := by simp; omega
      have e2 : IntKind.wrap .i64 ((i : Int) - 1) = ((i - 1 : Nat) : Int) := by rw [wrap64 (by omega) (by omega)]; omega
      have e3 : decide (0 < i) = true := by simp; exact h0
      rw [e1, e2, dec_nn, dec_lt (show i - 1 < xs.length by omega), Int.toNat_natCast, e3]
      simp only [cond_true, Bool.true_and]
      cases real.cmp .lss .f32 ((xs.getD i []).getD 0 0) ((xs.getD (i - 1) []).getD 0 0) <;> rfl) (fun n => by
    conv => lhs; unfold Pure.spec_l06Is_L0
    rw [dec_ge (Nat.le_refl _)]; rfl)

/-- Both ways to tell whether a row is right. -/
theorem valid_is (xs : List (List Int)) (k : Int) (hl : xs.length < 4611686018427387904) : Pure.impl_ValidRow_ok real xs k = true ∧ Pure.spec_l06Is_ok real xs k = true ∧ Pure.spec_l06Is real xs k = Pure.impl_ValidRow real xs k ∧
    (Pure.impl_ValidRow real xs k = true → 2 ≤ xs.length ∧ xs.length ≤ 16) := by
  have h1 := valid_loop xs k hl (xs.length + 1) 0 (by omega) (by omega)
  have h2 := is_loop xs k hl (xs.length + 1) 0 (by omega) (by omega)
  unfold Pure.impl_ValidRow_ok Pure.spec_l06Is_ok Pure.spec_l06Is Pure.impl_ValidRow
  change Pure.impl_ValidRow_L0 real (Int.ofNat xs.length) xs k (xs.length + 1) 0 = _ at h1
  change Pure.spec_l06Is_L0 real k xs (xs.length + 1) 0 = _ at h2
  have e0 : Nat.succ (xs.length + 0) = xs.length + 1 := rfl
  rw [e0, h1, h2]
  have es : Pure.spec_l06Share real k = Pure.impl_shareOk real k := rfl
  rw [es]
  have ei : Pure.impl_in real (Int.ofNat xs.length) 2 16 = (decide (2 ≤ xs.length) && decide (xs.length ≤ 16)) := by
    unfold Pure.impl_in
    have a1 : decide (Int.ofNat xs.length ≥ 2) = decide (2 ≤ xs.length) := by congr 1; simp; omega
    have a2 : decide (Int.ofNat xs.length ≤ 16) = decide (xs.length ≤ 16) := by congr 1; simp; omega
    rw [a1, a2]
    cases decide (2 ≤ xs.length) <;> rfl
  have a3 : decide (Int.ofNat xs.length < 2) = !decide (2 ≤ xs.length) := by
    rw [← decide_not]; congr 1; simp; omega
  have a4 : decide (Int.ofNat xs.length > 16) = !decide (xs.length ≤ 16) := by
    rw [← decide_not]; congr 1; simp; omega
  rw [ei, a3, a4]
  cases b1 : decide (2 ≤ xs.length) <;> cases b2 : decide (xs.length ≤ 16) <;> cases upAll xs.length (ballOk xs) 0 <;> cases Pure.impl_shareOk real k <;> simp_all

/-- Both sums of a row. -/
theorem mom_loops (xs : List (List Int)) (k : Int) (hl : xs.length < 4611686018427387904) : ∃ s, Pure.impl_Row_summed_mom_L0 real (Int.ofNat xs.length) k xs (xs.length + 1) 0 0 = (true, s) ∧ Pure.spec_MomentumOfRow_L0 real xs k (xs.length + 1) 0 0 = (true, s) := by
  obtain ⟨h1, _⟩ := iter_up xs.length (fun i a => real.bin .add .f32 a (real.bin .mul .f32 ((xs.getD i []).getD 2 0) ((xs.getD i []).getD 1 0))) (fun n i a => Pure.impl_Row_summed_mom_L0 real (Int.ofNat xs.length) k xs n a i) (fun a => (true, a)) (fun _ _ => True)
    (fun n i a h _ => by
      refine ⟨?_, trivial⟩
      conv => lhs; unfold Pure.impl_Row_summed_mom_L0
      rw [dec_lt h, dec_nn, Int.toNat_natCast, wrap_succ (by omega)]; rfl) (fun n a _ => by
      conv => lhs; unfold Pure.impl_Row_summed_mom_L0
      rw [dec_ge (Nat.le_refl _)]; rfl) (xs.length + 1) 0 (0 : Int) (by omega) (by omega) trivial
  obtain ⟨h2, _⟩ := iter_up xs.length (fun i a => real.bin .add .f32 a (real.bin .mul .f32 ((xs.getD i []).getD 2 0) ((xs.getD i []).getD 1 0))) (fun n i a => Pure.spec_MomentumOfRow_L0 real xs k n a i) (fun a => (true, a)) (fun _ _ => True)
    (fun n i a h _ => by
      refine ⟨?_, trivial⟩
      conv => lhs; unfold Pure.spec_MomentumOfRow_L0
      rw [dec_lt h, dec_nn, Int.toNat_natCast, wrap_succ (by omega)]; rfl) (fun n a _ => by
      conv => lhs; unfold Pure.spec_MomentumOfRow_L0
      rw [dec_ge (Nat.le_refl _)]; rfl) (xs.length + 1) 0 (0 : Int) (by omega) (by omega) trivial
  exact ⟨_, h1, h2⟩

theorem law_FnExactMomentumOfRow (x0 : List (List Int)) (x1 : Int) (h0 : RowsOK B3 x0) (_ : OkF .f32 x1) : Pure.laws_FnExactMomentumOfRow_ok real x0 x1 = true ∧ Pure.laws_FnExactMomentumOfRow real x0 x1 = true := by
  unfold Pure.laws_FnExactMomentumOfRow_ok Pure.laws_FnExactMomentumOfRow
  cases hs : decide (Pure.laws_szRow real x0 x1 1048576 < 0) with
  | true => exact ⟨rfl, rfl⟩
  | false =>
    have hl := sz_small h0.len hs
    obtain ⟨t1, t2⟩ := toBalls_eq h0 hl
    obtain ⟨v1, v2, v3, _⟩ := valid_is x0 x1 (by omega)
    obtain ⟨e1, e2⟩ := eqRow_refl x0 x1 (by omega)
    obtain ⟨s, m1, m2⟩ := mom_loops x0 x1 (by omega)
    have hi : Pure.impl_MomentumOfRow real x0 x1 = Pure.spec_MomentumOfRow real x0 x1 ∧ Pure.impl_MomentumOfRow_1 real x0 x1 = Pure.spec_MomentumOfRow_1 real x0 x1 ∧ Pure.impl_MomentumOfRow_ok real x0 x1 = true ∧ Pure.spec_MomentumOfRow_ok real x0 x1 = true := by
      unfold Pure.impl_MomentumOfRow Pure.spec_MomentumOfRow Pure.impl_MomentumOfRow_1 Pure.spec_MomentumOfRow_1 Pure.impl_MomentumOfRow_ok Pure.spec_MomentumOfRow_ok Pure.impl_Row_summed_mom Pure.impl_Row_summed_mom_ok
      have e0 : Nat.succ (x0.length + 0) = x0.length + 1 := rfl
      rw [e0, v1, v2, v3, m1, m2]
      cases Pure.impl_ValidRow real x0 x1 <;> exact ⟨rfl, rfl, rfl, rfl⟩
    unfold Pure.laws_toRow_ok
    rw [t1, t2, hi.1, hi.2.1, hi.2.2.1, hi.2.2.2, convOk_up, sameFloat_refl, e1, e2]
    simp
end Go.Fx
