import Derived.Test.YtpgpjkkncghbhaaXr2c
import Derived.Test.YtpgpjkkncghbhaaXr2l
namespace Go.Fx

theorem getD_set_self {ys : List (List Int)} {i : Nat} {v : List Int} (h : i < ys.length) : (ys.set i v).getD i [] = v := by
  rw [List.getD_eq_getElem?_getD, List.getElem?_set_self h]; rfl

theorem set3 {ys : List (List Int)} {i : Nat} {a b c : Int} (h : i < ys.length) (h3 : (ys.getD i []).length = 3) :
    List.set (List.set (List.set ys i (setFrom (ys.getD i []) 0 [a])) i (setFrom (List.getD (List.set ys i (setFrom (ys.getD i []) 0 [a])) i []) 1 [b])) i
      (setFrom (List.getD (List.set (List.set ys i (setFrom (ys.getD i []) 0 [a])) i (setFrom (List.getD (List.set ys i (setFrom (ys.getD i []) 0 [a])) i []) 1 [b])) i []) 2 [c]) = ys.set i [a, b, c] := by
  have e1 : List.getD (List.set ys i (setFrom (ys.getD i []) 0 [a])) i [] = setFrom (ys.getD i []) 0 [a] := getD_set_self h
  rw [e1]
  have e2 : List.getD (List.set (List.set ys i (setFrom (ys.getD i []) 0 [a])) i (setFrom (setFrom (ys.getD i []) 0 [a]) 1 [b])) i [] = setFrom (setFrom (ys.getD i []) 0 [a]) 1 [b] := getD_set_self (by rw [List.length_set]; exact h)
  rw [e2, List.set_set, List.set_set]
  congr 1
  revert h3
  generalize ys.getD i [] = r
  intro h3
  match r, h3 with
  | [p, q, s], _ => rfl

/-- The marks of rows of three. -/
def marks3 (n : Nat) : List (List Int) := (List.range n).map fun (i : Nat) => [real.ofInt .f32 (1 + 3 * i), real.ofInt .f32 (2 + 3 * i), real.ofInt .f32 (3 + 3 * i)]

theorem marks3_get {n i : Nat} (h : i < n) : (marks3 n).getD i [] = [real.ofInt .f32 (1 + 3 * i), real.ofInt .f32 (2 + 3 * i), real.ofInt .f32 (3 + 3 * i)] := by
  rw [getD_some (by simp [marks3]; exact h)]; simp [marks3]

theorem mark3_loop : ∀ (n : Nat) (i : Nat) (xs : List (List Int)), i ≤ xs.length → xs.length - i < n → xs.length < 1000000000 → (∀ j, j < xs.length → (xs.getD j []).length = 3) →
    (∀ j, j < i → xs.getD j [] = [real.ofInt .f32 (1 + 3 * j), real.ofInt .f32 (2 + 3 * j), real.ofInt .f32 (3 + 3 * j)]) →
    Pure.laws_markBallS_L0 real n (1 + 3 * i) i xs = (true, 1 + 3 * (xs.length : Int), marks3 xs.length) := by
  intro n
  induction n with
  | zero => intro i xs _ h; omega
  | succ n ih =>
    intro i xs hi hn hb h3 hx
    unfold Pure.laws_markBallS_L0
    rcases Nat.lt_or_ge i xs.length with h | h
    · rw [dec_lt h, dec_nn, Int.toNat_natCast]
      simp only [List.length_set]
      rw [dec_lt h, wrap_succ (by omega), set3 h (h3 i h)]
      have w1 : IntKind.wrap .i64 (1 + 3 * (i : Int) + 1) = 2 + 3 * (i : Int) := by rw [wrap64 (by omega) (by omega)]; omega
      have w2 : IntKind.wrap .i64 (2 + 3 * (i : Int) + 1) = 3 + 3 * (i : Int) := by rw [wrap64 (by omega) (by omega)]; omega
      have w3 : IntKind.wrap .i64 (3 + 3 * (i : Int) + 1) = 1 + 3 * ((i + 1 : Nat) : Int) := by rw [wrap64 (by omega) (by omega)]; omega
      rw [w1, w2, w3]
      simp only [cond_true]
      have := ih (i + 1) (xs.set i [real.ofInt .f32 (1 + 3 * i), real.ofInt .f32 (2 + 3 * i), real.ofInt .f32 (3 + 3 * i)]) (by simp; omega) (by simp; omega) (by simpa using hb) (fun j hj => by
        rw [List.length_set] at hj
        rw [List.getD_eq_getElem?_getD, List.getElem?_set]
        by_cases hij : i = j
        · subst hij; simp [h]
        · rw [if_neg hij, ← List.getD_eq_getElem?_getD]; exact h3 j hj) (fun j hj => by
        rw [List.getD_eq_getElem?_getD, List.getElem?_set]
        by_cases hij : i = j
        · subst hij; simp [h]
        · rw [if_neg hij, ← List.getD_eq_getElem?_getD]; exact hx j (by omega))
      rw [List.length_set] at this
      exact this
    · rw [dec_ge h]
      have hil : i = xs.length := by omega
      subst hil
      have : xs = marks3 xs.length := by
        apply List.ext_getElem
        · simp [marks3]
        · intro j h1 h2
          have := hx j h1
          rw [getD_some h1] at this
          rw [this]; simp [marks3]
      simp only [cond_false]
      rw [← this]

theorem mark3_eq (xs : List (List Int)) (hl : xs.length < 1000000000) (h3 : ∀ j, j < xs.length → (xs.getD j []).length = 3) : Pure.laws_markBallS_ok real xs 1 = true ∧ Pure.laws_markBallS real xs 1 = 1 + 3 * (xs.length : Int) ∧ Pure.laws_markBallS_1 real xs 1 = marks3 xs.length := by
  have := mark3_loop (xs.length + 1) 0 xs (by omega) (by omega) hl h3 (fun j hj => by omega)
  have e : (1 : Int) + 3 * ((0 : Nat) : Int) = 1 := rfl
  rw [e] at this
  unfold Pure.laws_markBallS_ok Pure.laws_markBallS Pure.laws_markBallS_1
  change (Pure.laws_markBallS_L0 real (xs.length + 1) 1 0 xs).1 = true ∧ (Pure.laws_markBallS_L0 real (xs.length + 1) 1 0 xs).2.1 = _ ∧ (Pure.laws_markBallS_L0 real (xs.length + 1) 1 0 xs).2.2 = _
  change Pure.laws_markBallS_L0 real (xs.length + 1) 1 0 xs = _ at this
  rw [this]; exact ⟨rfl, rfl, rfl⟩

theorem rows3 {xs : List (List Int)} (h : RowsOK B3 xs) : ∀ j, j < xs.length → (xs.getD j []).length = 3 := fun j hj => by
  rw [getD_some hj]; exact (h.row _ (List.getElem_mem hj)).1

/-! ### lists of numbers -/
theorem eqF32_refl (xs : List (List Int)) (hl : xs.length < 4611686018427387904) : Pure.laws_eqFloat32S_ok real xs xs = true ∧ Pure.laws_eqFloat32S real xs xs = true := by
  have key := iter_all xs.length (fun _ => true) (fun n i => Pure.laws_eqFloat32S_L0 real xs xs n i) (true, false) (false, false) (fun n i h => by
      conv => lhs; unfold Pure.laws_eqFloat32S_L0
      rw [dec_lt h, dec_nn, convOk_up, sameFloat_refl, wrap_succ (by omega)]; rfl) (fun n => by
      conv => lhs; unfold Pure.laws_eqFloat32S_L0
      rw [dec_ge (Nat.le_refl _)]; rfl) (xs.length + 1) 0 (by omega) (by omega)
  have ht : upAll xs.length (fun _ => true) 0 = true := by unfold upAll; simp
  rw [ht] at key
  unfold Pure.laws_eqFloat32S_ok Pure.laws_eqFloat32S
  have e : ((Int.ofNat xs.length != Int.ofNat xs.length)) = false := by simp
  rw [e]
  change (Pure.laws_eqFloat32S_L0 real xs xs (xs.length + 1) 0).1 = true ∧ (bif (Pure.laws_eqFloat32S_L0 real xs xs (xs.length + 1) 0).2 then false else true) = true
  change Pure.laws_eqFloat32S_L0 real xs xs (xs.length + 1) 0 = _ at key
  rw [key]; exact ⟨rfl, rfl⟩

theorem mark_loop (a : Int) (ha : 0 ≤ a) : ∀ (n : Nat) (i : Nat) (xs : List (List Int)), i ≤ xs.length → xs.length - i < n → a + xs.length < 4611686018427387904 → (∀ j, j < i → xs.getD j [] = [real.ofInt .f32 (a + j)]) →
    Pure.laws_markFloat32S_L0 real n (a + i) i xs = (true, a + xs.length, marks .f32 a xs.length) := by
  intro n
  induction n with
  | zero => intro i xs _ h; omega
  | succ n ih =>
    intro i xs hi hn hb hx
    unfold Pure.laws_markFloat32S_L0
    rcases Nat.lt_or_ge i xs.length with h | h
    · rw [dec_lt h, dec_nn, wrap64 (n := (i : Int) + 1) (by omega) (by omega), wrap64 (n := a + i + 1) (by omega) (by omega), Int.toNat_natCast]
      simp only [cond_true]
      have := ih (i + 1) (xs.set i [real.ofInt .f32 (a + i)]) (by simp; omega) (by simp; omega) (by simpa using hb) (fun j hj => by
        rw [List.getD_eq_getElem?_getD, List.getElem?_set]
        by_cases hij : i = j
        · subst hij; simp [h]
        · rw [if_neg hij, ← List.getD_eq_getElem?_getD]; exact hx j (by omega))
      rw [List.length_set] at this
      rw [show a + ((i : Nat) : Int) + 1 = a + ((i + 1 : Nat) : Int) by omega]
      exact this
    · rw [dec_ge h]
      have hil : i = xs.length := by omega
      subst hil
      have : xs = marks .f32 a xs.length := by
        unfold marks
        apply List.ext_getElem
        · simp
        · intro j h1 h2
          have := hx j h1
          rw [getD_some h1] at this
          simp [this]
      simp only [cond_false]
      rw [← this]

theorem mark_eq (xs : List (List Int)) (hl : xs.length < 1000000000) : Pure.laws_markFloat32S_ok real xs 1 = true ∧ Pure.laws_markFloat32S real xs 1 = 1 + xs.length ∧ Pure.laws_markFloat32S_1 real xs 1 = marks .f32 1 xs.length := by
  have := mark_loop 1 (by omega) (xs.length + 1) 0 xs (by omega) (by omega) (by omega) (fun j hj => by omega)
  have e : (1 : Int) + ((0 : Nat) : Int) = 1 := rfl
  rw [e] at this
  unfold Pure.laws_markFloat32S_ok Pure.laws_markFloat32S Pure.laws_markFloat32S_1
  change (Pure.laws_markFloat32S_L0 real (xs.length + 1) 1 0 xs).1 = true ∧ (Pure.laws_markFloat32S_L0 real (xs.length + 1) 1 0 xs).2.1 = _ ∧ (Pure.laws_markFloat32S_L0 real (xs.length + 1) 1 0 xs).2.2 = _
  change Pure.laws_markFloat32S_L0 real (xs.length + 1) 1 0 xs = _ at this
  rw [this]; exact ⟨rfl, rfl, rfl⟩

theorem held_eq (m : Nat) (hm : m < 1000000000) : Pure.laws_heldFloat32S_ok real (marks .f32 1 m) 1 = true ∧ Pure.laws_heldFloat32S real (marks .f32 1 m) 1 = 1 + m := by
  have hlen : (marks .f32 1 m).length = m := by simp [marks]
  have key : ∀ (n i : Nat), i ≤ m → m - i < n → (Pure.laws_heldFloat32S_L0 real (marks .f32 1 m) n (1 + (i : Int)) i).1 = true ∧ (Pure.laws_heldFloat32S_L0 real (marks .f32 1 m) n (1 + (i : Int)) i).2.1 = false ∧ (Pure.laws_heldFloat32S_L0 real (marks .f32 1 m) n (1 + (i : Int)) i).2.2.1 = 1 + m := by
    intro n
    induction n with
    | zero => intro i _ h; omega
    | succ n ih =>
      intro i hi hn
      unfold Pure.laws_heldFloat32S_L0
      rcases Nat.lt_or_ge i m with h | h
      · have e3 : ((marks .f32 1 m).getD (i : Int).toNat []).getD 0 0 = real.ofInt .f32 (1 + i) := by
          rw [Int.toNat_natCast, marks_get h]; rfl
        rw [dec_lt (show i < (marks .f32 1 m).length by omega), dec_nn, e3, ofInt_notNaN, wrap64 (n := (i : Int) + 1) (by omega) (by omega), wrap64 (n := 1 + (i : Int) + 1) (by omega) (by omega)]
        simp only [cond_true, cond_false]
        rw [show (1 : Int) + i + 1 = 1 + ((i + 1 : Nat) : Int) by omega]
        exact ih (i + 1) (by omega) (by omega)
      · rw [dec_ge (show (marks .f32 1 m).length ≤ i by omega)]
        have : i = m := by omega
        subst this
        exact ⟨rfl, rfl, rfl⟩
  obtain ⟨h1, h2, h3⟩ := key (m + 1) 0 (by omega) (by omega)
  unfold Pure.laws_heldFloat32S_ok Pure.laws_heldFloat32S
  rw [hlen]
  change (Pure.laws_heldFloat32S_L0 real (marks .f32 1 m) (m + 1) 1 0).1 = true ∧ (bif (Pure.laws_heldFloat32S_L0 real (marks .f32 1 m) (m + 1) 1 0).2.1 then -1 else (Pure.laws_heldFloat32S_L0 real (marks .f32 1 m) (m + 1) 1 0).2.2.1) = _
  change (Pure.laws_heldFloat32S_L0 real (marks .f32 1 m) (m + 1) 1 0).1 = true at h1
  change (Pure.laws_heldFloat32S_L0 real (marks .f32 1 m) (m + 1) 1 0).2.1 = false at h2
  change (Pure.laws_heldFloat32S_L0 real (marks .f32 1 m) (m + 1) 1 0).2.2.1 = _ at h3
  rw [h1, h2, h3]; exact ⟨rfl, rfl⟩

/-! ### the centre -/
theorem cen_loops (xs : List (List Int)) (k : Int) (hl : xs.length < 4611686018427387904) : ∃ s t, Pure.impl_Row_summed_cen1_L0 real (Int.ofNat xs.length) k xs (xs.length + 1) 0 0 = (true, s) ∧ Pure.impl_Row_summed_cen2_L0 real (Int.ofNat xs.length) k xs (xs.length + 1) 0 0 = (true, t) ∧ Pure.spec_CentreOfRow_L0 real xs k (xs.length + 1) 0 0 0 = (true, s, t) := by
  obtain ⟨h1, _⟩ := iter_up xs.length (fun i (a : Int × Int) => (real.bin .add .f32 a.1 (real.bin .mul .f32 ((xs.getD i []).getD 2 0) ((xs.getD i []).getD 0 0)), real.bin .add .f32 a.2 ((xs.getD i []).getD 2 0)))
    (fun n i a => (Pure.impl_Row_summed_cen1_L0 real (Int.ofNat xs.length) k xs n a.1 i, Pure.impl_Row_summed_cen2_L0 real (Int.ofNat xs.length) k xs n a.2 i, Pure.spec_CentreOfRow_L0 real xs k n a.1 a.2 i)) (fun a => ((true, a.1), (true, a.2), (true, a.1, a.2))) (fun _ _ => True)
    (fun n i a h _ => by
      refine ⟨?_, trivial⟩
      conv => lhs; unfold Pure.impl_Row_summed_cen1_L0 Pure.impl_Row_summed_cen2_L0 Pure.spec_CentreOfRow_L0
      rw [dec_lt h, dec_nn, Int.toNat_natCast, wrap_succ (by omega)]; rfl) (fun n a _ => by
      conv => lhs; unfold Pure.impl_Row_summed_cen1_L0 Pure.impl_Row_summed_cen2_L0 Pure.spec_CentreOfRow_L0
      rw [dec_ge (Nat.le_refl _)]; rfl) (xs.length + 1) 0 ((0, 0) : Int × Int) (by omega) (by omega) trivial
  generalize upFold xs.length _ 0 ((0, 0) : Int × Int) = q at h1
  simp only [Prod.mk.injEq] at h1
  exact ⟨q.1, q.2, h1.1, h1.2.1, h1.2.2⟩

theorem law_FnExactCentreOfRow (x0 : List (List Int)) (x1 : Int) (h0 : RowsOK B3 x0) (_ : OkF .f32 x1) : Pure.laws_FnExactCentreOfRow_ok real x0 x1 = true ∧ Pure.laws_FnExactCentreOfRow real x0 x1 = true := by
  unfold Pure.laws_FnExactCentreOfRow_ok Pure.laws_FnExactCentreOfRow
  cases hs : decide (Pure.laws_szRow real x0 x1 1048576 < 0) with
  | true => exact ⟨rfl, rfl⟩
  | false =>
    have hl := sz_small h0.len hs
    obtain ⟨t1, t2⟩ := toBalls_eq h0 hl
    obtain ⟨v1, v2, v3, _⟩ := valid_is x0 x1 (by omega)
    obtain ⟨e1, e2⟩ := eqRow_refl x0 x1 (by omega)
    obtain ⟨s, t, m1, m2, m3⟩ := cen_loops x0 x1 (by omega)
    have hi : Pure.impl_CentreOfRow real x0 x1 = Pure.spec_CentreOfRow real x0 x1 ∧ Pure.impl_CentreOfRow_1 real x0 x1 = Pure.spec_CentreOfRow_1 real x0 x1 ∧ Pure.impl_CentreOfRow_ok real x0 x1 = true ∧ Pure.spec_CentreOfRow_ok real x0 x1 = true := by
      unfold Pure.impl_CentreOfRow Pure.spec_CentreOfRow Pure.impl_CentreOfRow_1 Pure.spec_CentreOfRow_1 Pure.impl_CentreOfRow_ok Pure.spec_CentreOfRow_ok Pure.impl_Row_summed_cen1 Pure.impl_Row_summed_cen1_ok Pure.impl_Row_summed_cen2 Pure.impl_Row_summed_cen2_ok
      have e0 : Nat.succ (x0.length + 0) = x0.length + 1 := rfl
      rw [e0, v1, v2, v3, m1, m2, m3]
      cases Pure.impl_ValidRow real x0 x1 <;> exact ⟨rfl, rfl, rfl, rfl⟩
    unfold Pure.laws_toRow_ok
    rw [t1, t2, hi.1, hi.2.1, hi.2.2.1, hi.2.2.2, convOk_up, sameFloat_refl, e1, e2]
    simp

/-! ### the speeds -/
theorem speed_loops (xs : List (List Int)) (k : Int) (hl : xs.length ≤ 1048576) : ∃ s, s.length = xs.length ∧ Pure.impl_SpeedsOfRow_L0 real (Int.ofNat xs.length) xs (xs.length + 1) 0 [] = (true, s) ∧ Pure.spec_SpeedsOfRow_L0 real xs k (xs.length + 1) 0 [] = (true, s) := by
  obtain ⟨h1, h2⟩ := iter_up xs.length (fun i (a : List (List Int)) => a ++ [[(xs.getD i []).getD 1 0]])
    (fun n i a => (Pure.impl_SpeedsOfRow_L0 real (Int.ofNat xs.length) xs n i a, Pure.spec_SpeedsOfRow_L0 real xs k n i a)) (fun a => ((true, a), (true, a))) (fun i a => a.length = i)
    (fun n i a h hI => by
      refine ⟨?_, by simp [hI]⟩
      conv => lhs; unfold Pure.impl_SpeedsOfRow_L0 Pure.spec_SpeedsOfRow_L0
      have e4 : decide (a.length.succ ≤ 1073741824) = true := by simp; omega
      rw [dec_lt h, dec_nn, Int.toNat_natCast, wrap_succ (by omega), e4]; rfl) (fun n a _ => by
      conv => lhs; unfold Pure.impl_SpeedsOfRow_L0 Pure.spec_SpeedsOfRow_L0
      rw [dec_ge (Nat.le_refl _)]; rfl) (xs.length + 1) 0 [] (by omega) (by omega) rfl
  generalize upFold xs.length _ 0 [] = q at h1 h2
  simp only [Prod.mk.injEq] at h1
  exact ⟨q, h2, h1.1, h1.2⟩

theorem law_FnExactSpeedsOfRow (x0 : List (List Int)) (x1 : Int) (h0 : RowsOK B3 x0) (_ : OkF .f32 x1) : Pure.laws_FnExactSpeedsOfRow_ok real x0 x1 = true ∧ Pure.laws_FnExactSpeedsOfRow real x0 x1 = true := by
  unfold Pure.laws_FnExactSpeedsOfRow_ok Pure.laws_FnExactSpeedsOfRow
  cases hs : decide (Pure.laws_szRow real x0 x1 1048576 < 0) with
  | true => exact ⟨rfl, rfl⟩
  | false =>
    have hl := sz_small h0.len hs
    obtain ⟨t1, t2⟩ := toBalls_eq h0 hl
    obtain ⟨v1, v2, v3, _⟩ := valid_is x0 x1 (by omega)
    obtain ⟨e1, e2⟩ := eqRow_refl x0 x1 (by omega)
    obtain ⟨s, hsl, m1, m2⟩ := speed_loops x0 x1 hl
    obtain ⟨k1, k2, k3⟩ := mark3_eq x0 (by omega) (rows3 h0)
    have hi : ∃ l, l.length ≤ 1048576 ∧ Pure.impl_SpeedsOfRow real x0 x1 = l ∧ Pure.spec_SpeedsOfRow real x0 x1 = l ∧ Pure.impl_SpeedsOfRow_ok real x0 x1 = true ∧ Pure.spec_SpeedsOfRow_ok real x0 x1 = true := by
      unfold Pure.impl_SpeedsOfRow Pure.spec_SpeedsOfRow Pure.impl_SpeedsOfRow_ok Pure.spec_SpeedsOfRow_ok
      have e0 : Nat.succ (x0.length + 0) = x0.length + 1 := rfl
      rw [e0, v1, v2, v3, m1, m2]
      cases Pure.impl_ValidRow real x0 x1
      · exact ⟨[], by simp, rfl, rfl, rfl, rfl⟩
      · exact ⟨s, by omega, rfl, rfl, rfl, rfl⟩
    obtain ⟨l, hll, i1, i2, i3, i4⟩ := hi
    obtain ⟨q1, q2⟩ := eqF32_refl l (by omega)
    obtain ⟨r1, r2, r3⟩ := mark_eq l (by omega)
    obtain ⟨u1, u2⟩ := held_eq l.length (by omega)
    unfold Pure.laws_toRow_ok Pure.laws_markRow_ok
    rw [t1, t2, i1, i2, i3, i4, q1, q2, v3, e1, e2, k1, k2, r1, r2, r3, u1, u2]
    have d1 : decide ((1 : Int) + 3 * (x0.length : Int) < 0) = false := by simp; omega
    have d2 : decide ((1 : Int) + l.length < 0) = false := by simp; omega
    rw [d1, d2]
    simp
end Go.Fx
