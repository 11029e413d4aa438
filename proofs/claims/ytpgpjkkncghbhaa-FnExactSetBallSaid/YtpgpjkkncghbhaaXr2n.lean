import Derived.Test.YtpgpjkkncghbhaaXr2d
import Derived.Test.YtpgpjkkncghbhaaXr2m
namespace Go.Fx

theorem Num.okF {k : FloatKind} {x : Int} (h : Num k x) : OkF k x := by
  refine ⟨x.toNat, ?_, ?_⟩
  · rw [cf_of_num h.notNaN]; have := h.nonneg; omega
  · have := h.word
    cases k
    · have h2 : FloatKind.f32.format.signWeight = 2147483648 := by decide
      simp [FloatKind.has]; omega
    · have h2 : FloatKind.f64.format.signWeight = 9223372036854775808 := by decide
      simp [FloatKind.has]; omega

theorem isfin_neg {x : Int} (hx : OkF .f32 x) (h : real.cmp .eql .f32 (real.bin .sub .f32 x x) 0 = true) : real.cmp .eql .f32 (real.bin .sub .f32 (real.neg .f32 x) (real.neg .f32 x)) 0 = true := by
  have h1 := (isfin_iff hx).1 h
  have h2 := (neg_fin h1).1
  exact (isfin_iff h2.toNum.okF).2 h2

/-- A change of each row in turn. -/
theorem upFold_set (g : List Int → List Int) (xs : List (List Int)) : ∀ (m i : Nat) (ys : List (List Int)), xs.length - i = m → i ≤ xs.length → ys.length = xs.length →
    (∀ j, j < i → ys.getD j [] = g (xs.getD j [])) → (∀ j, i ≤ j → j < xs.length → ys.getD j [] = xs.getD j []) →
    upFold xs.length (fun i (a : List (List Int)) => a.set i (g (a.getD i []))) i ys = xs.map g := by
  intro m
  induction m with
  | zero =>
    intro i ys hm hi hy h1 _
    have : i = xs.length := by omega
    subst this
    rw [upFold_end]
    apply List.ext_getElem (by simp [hy])
    intro j h2 h3
    have := h1 j (by omega)
    rw [getD_some h2, getD_some (by omega)] at this
    rw [this]; simp
  | succ m ih =>
    intro i ys hm hi hy h1 h2
    rw [upFold_step (by omega)]
    refine ih (i + 1) _ (by omega) (by omega) (by simp [hy]) (fun j hj => ?_) (fun j hj hl => ?_)
    · rw [List.getD_eq_getElem?_getD, List.getElem?_set]
      by_cases hij : i = j
      · subst hij
        rw [if_pos rfl, if_pos (by omega)]
        simp only [Option.getD_some]
        rw [h2 i (by omega) (by omega)]
      · rw [if_neg hij, ← List.getD_eq_getElem?_getD]; exact h1 j (by omega)
    · rw [List.getD_eq_getElem?_getD, List.getElem?_set, if_neg (by omega), ← List.getD_eq_getElem?_getD]; exact h2 j (by omega) hl

theorem map_getD {xs : List (List Int)} {g : List Int → List Int} {j : Nat} (h : j < xs.length) : (xs.map g).getD j [] = g (xs.getD j []) := by
  rw [getD_some (by simpa using h), getD_some h, List.getElem_map]

theorem valid_eq (xs : List (List Int)) (k : Int) (hl : xs.length < 4611686018427387904) : Pure.impl_ValidRow real xs k = (upAll xs.length (ballOk xs) 0 && (Pure.impl_in real (Int.ofNat xs.length) 2 16 && Pure.impl_shareOk real k)) := by
  have h1 := valid_loop xs k hl (xs.length + 1) 0 (by omega) (by omega)
  unfold Pure.impl_ValidRow
  change Pure.impl_ValidRow_L0 real (Int.ofNat xs.length) xs k (xs.length + 1) 0 = _ at h1
  have e0 : Nat.succ (xs.length + 0) = xs.length + 1 := rfl
  rw [e0, h1]
  cases upAll xs.length (ballOk xs) 0 <;> cases Pure.impl_in real (Int.ofNat xs.length) 2 16 <;> cases Pure.impl_shareOk real k <;> rfl

theorem upAll_mono {len : Nat} {p q : Nat → Bool} (h : ∀ j, j < len → p j = true → q j = true) (hp : upAll len p 0 = true) : upAll len q 0 = true := by
  unfold upAll at *
  rw [List.all_eq_true] at *
  intro j hj
  have := hj
  rw [List.mem_range'_1] at this
  exact h j (by omega) (hp j hj)

/-- A row stays sound when its speeds stay finite and nothing else changes. -/
theorem valid_map (xs : List (List Int)) (k : Int) (g : List Int → List Int) (hl : xs.length < 4611686018427387904)
    (h0 : ∀ j, j < xs.length → (g (xs.getD j [])).getD 0 0 = (xs.getD j []).getD 0 0) (h2 : ∀ j, j < xs.length → (g (xs.getD j [])).getD 2 0 = (xs.getD j []).getD 2 0)
    (h1 : ∀ j, j < xs.length → Pure.spec_l01Finite real ((xs.getD j []).getD 1 0) = true → Pure.spec_l01Finite real ((g (xs.getD j [])).getD 1 0) = true)
    (hv : Pure.impl_ValidRow real xs k = true) : Pure.impl_ValidRow real (xs.map g) k = true := by
  rw [valid_eq xs k hl] at hv
  rw [valid_eq _ k (by simpa using hl), List.length_map]
  rw [Bool.and_eq_true] at hv ⊢
  refine ⟨upAll_mono (fun j hj hb => ?_) hv.1, hv.2⟩
  unfold ballOk Pure.spec_l06Ball_e at *
  rw [map_getD hj, h0 j hj, h2 j hj]
  have hc : (decide (0 < j) && real.cmp .lss .f32 ((xs.getD j []).getD 0 0) (((xs.map g).getD (j - 1) []).getD 0 0)) = (decide (0 < j) && real.cmp .lss .f32 ((xs.getD j []).getD 0 0) ((xs.getD (j - 1) []).getD 0 0)) := by
    rw [map_getD (by omega), h0 (j - 1) (by omega)]
  rw [hc]
  rw [Bool.and_eq_true] at hb ⊢
  refine ⟨?_, hb.2⟩
  have hb1 := hb.1
  revert hb1
  have := h1 j hj
  revert this
  cases Pure.spec_l01Finite real ((xs.getD j []).getD 0 0) with
  | false => intro _ h; cases h
  | true =>
    cases Pure.spec_l01Finite real ((xs.getD j []).getD 1 0) with
    | false => intro _ h; cases h
    | true => intro h; rw [h rfl]; exact id

theorem held3_eq (m : Nat) (hm : m < 1000000000) : Pure.laws_heldBallS_ok real (marks3 m) 1 = true ∧ Pure.laws_heldBallS real (marks3 m) 1 = 1 + 3 * (m : Int) := by
  have hlen : (marks3 m).length = m := by simp [marks3]
  have key : ∀ (n i : Nat), i ≤ m → m - i < n → (Pure.laws_heldBallS_L0 real (marks3 m) n (1 + 3 * (i : Int)) i).1 = true ∧ (Pure.laws_heldBallS_L0 real (marks3 m) n (1 + 3 * (i : Int)) i).2.1 = false ∧ (Pure.laws_heldBallS_L0 real (marks3 m) n (1 + 3 * (i : Int)) i).2.2.1 = 1 + 3 * (m : Int) := by
    intro n
    induction n with
    | zero => intro i _ h; omega
    | succ n ih =>
      intro i hi hn
      unfold Pure.laws_heldBallS_L0
      rcases Nat.lt_or_ge i m with h | h
      · have w1 : IntKind.wrap .i64 (1 + 3 * (i : Int) + 1) = 2 + 3 * (i : Int) := by rw [wrap64 (by omega) (by omega)]; omega
        have w2 : IntKind.wrap .i64 (2 + 3 * (i : Int) + 1) = 3 + 3 * (i : Int) := by rw [wrap64 (by omega) (by omega)]; omega
        have w3 : IntKind.wrap .i64 (3 + 3 * (i : Int) + 1) = 1 + 3 * ((i + 1 : Nat) : Int) := by rw [wrap64 (by omega) (by omega)]; omega
        rw [dec_lt (show i < (marks3 m).length by omega), dec_nn, Int.toNat_natCast, marks3_get h, w1, w2, w3, wrap_succ (by omega)]
        have e0 : ∀ a b c : Int, List.getD [a, b, c] 0 0 = a := fun _ _ _ => rfl
        have e1 : ∀ a b c : Int, List.getD [a, b, c] 1 0 = b := fun _ _ _ => rfl
        have e2 : ∀ a b c : Int, List.getD [a, b, c] 2 0 = c := fun _ _ _ => rfl
        rw [e0, e1, e2, ofInt_notNaN, ofInt_notNaN, ofInt_notNaN]
        simp only [cond_true, cond_false]
        exact ih (i + 1) (by omega) (by omega)
      · rw [dec_ge (show (marks3 m).length ≤ i by omega)]
        have : i = m := by omega
        subst this
        exact ⟨rfl, rfl, rfl⟩
  obtain ⟨h1, h2, h3⟩ := key (m + 1) 0 (by omega) (by omega)
  unfold Pure.laws_heldBallS_ok Pure.laws_heldBallS
  rw [hlen]
  change (Pure.laws_heldBallS_L0 real (marks3 m) (m + 1) 1 0).1 = true ∧ (bif (Pure.laws_heldBallS_L0 real (marks3 m) (m + 1) 1 0).2.1 then -1 else (Pure.laws_heldBallS_L0 real (marks3 m) (m + 1) 1 0).2.2.1) = _
  change (Pure.laws_heldBallS_L0 real (marks3 m) (m + 1) 1 0).1 = true at h1
  change (Pure.laws_heldBallS_L0 real (marks3 m) (m + 1) 1 0).2.1 = false at h2
  change (Pure.laws_heldBallS_L0 real (marks3 m) (m + 1) 1 0).2.2.1 = _ at h3
  rw [h1, h2, h3]; exact ⟨rfl, rfl⟩

/-! ### the speeds turned back -/
def backRow (r : List Int) : List Int := setFrom r 1 [real.neg .f32 (r.getD 1 0)]

theorem back_loops (xs : List (List Int)) (k : Int) (hl : xs.length < 1000000000) :
    Pure.impl_each_c1_back_L0 real (Int.ofNat xs.length) k (xs.length + 1) 0 xs = (true, xs.map backRow) ∧ Pure.spec_BackRow_L0 real xs 0 k (xs.length + 1) 0 xs = (true, xs.map backRow) := by
  obtain ⟨h1, _⟩ := iter_up xs.length (fun i (a : List (List Int)) => a.set i (backRow (a.getD i [])))
    (fun n i a => (Pure.impl_each_c1_back_L0 real (Int.ofNat xs.length) k n i a, Pure.spec_BackRow_L0 real xs 0 k n i a)) (fun a => ((true, a), (true, a))) (fun _ a => a.length = xs.length)
    (fun n i a h hI => by
      refine ⟨?_, by simp [hI]⟩
      conv => lhs; unfold Pure.impl_each_c1_back_L0 Pure.spec_BackRow_L0
      rw [hI, dec_lt h, dec_nn, Int.toNat_natCast, wrap_succ (by omega)]; rfl) (fun n a hI => by
      conv => lhs; unfold Pure.impl_each_c1_back_L0 Pure.spec_BackRow_L0
      rw [hI, dec_ge (Nat.le_refl _)]; rfl) (xs.length + 1) 0 xs (by omega) (by omega) rfl
  rw [upFold_set backRow xs _ 0 xs rfl (by omega) rfl (fun j hj => by omega) (fun _ _ _ => rfl)] at h1
  simp only [Prod.mk.injEq] at h1
  exact h1

theorem backRow3 {r : List Int} (h : r.length = 3) : backRow r = [r.getD 0 0, real.neg .f32 (r.getD 1 0), r.getD 2 0] := by
  match r, h with
  | [a, b, c], _ => rfl

theorem RowsOK.ok1 {xs : List (List Int)} (h : RowsOK B3 xs) {j o : Nat} (hj : j < xs.length) (ho : o < 3) : OkF .f32 ((xs.getD j []).getD o 0) := by
  rw [getD_some hj]
  have := (h.row _ (List.getElem_mem hj)).2 o (.f .f32) (by match o, ho with | 0, _ => rfl | 1, _ => rfl | 2, _ => rfl)
  exact this

/-- What each of the laws of changed rows asks last. -/
theorem changed_end {x0 : List (List Int)} {x1 : Int} (h0 : RowsOK B3 x0) (hl : x0.length ≤ 1048576) {l : List (List Int)} (hl2 : l.length ≤ 1048576) (hr3 : ∀ j, j < l.length → (l.getD j []).length = 3) :
    Pure.laws_markBallS_ok real x0 1 = true ∧ Pure.laws_markBallS real x0 1 = 1 + 3 * (x0.length : Int) ∧ Pure.laws_markBallS_ok real l 1 = true ∧ Pure.laws_markBallS real l 1 = 1 + 3 * (l.length : Int) ∧
    (∀ k, Pure.laws_heldRow_ok real (Pure.laws_markBallS_1 real l 1) k 1 = true) ∧ (∀ k, Pure.laws_heldRow real (Pure.laws_markBallS_1 real l 1) k 1 = 1 + 3 * (l.length : Int)) := by
  obtain ⟨k1, k2, _⟩ := mark3_eq x0 (by omega) (rows3 h0)
  obtain ⟨r1, r2, r3⟩ := mark3_eq l (by omega) hr3
  obtain ⟨u1, u2⟩ := held3_eq l.length (by omega)
  refine ⟨k1, k2, r1, r2, fun k => ?_, fun k => ?_⟩
  · unfold Pure.laws_heldRow_ok; rw [r3]; exact u1
  · unfold Pure.laws_heldRow
    rw [r3, u2]
    have : decide ((1 : Int) + 3 * (l.length : Int) < 0) = false := by simp; omega
    rw [this]; rfl

theorem law_FnExactBackRow (x0 : List (List Int)) (x1 : Int) (h0 : RowsOK B3 x0) (_ : OkF .f32 x1) : Pure.laws_FnExactBackRow_ok real x0 x1 = true ∧ Pure.laws_FnExactBackRow real x0 x1 = true := by
  unfold Pure.laws_FnExactBackRow_ok Pure.laws_FnExactBackRow
  cases hs : decide (Pure.laws_szRow real x0 x1 1048576 < 0) with
  | true => exact ⟨rfl, rfl⟩
  | false =>
    have hl := sz_small h0.len hs
    obtain ⟨t1, t2⟩ := toBalls_eq h0 hl
    obtain ⟨v1, v2, v3, _⟩ := valid_is x0 x1 (by omega)
    obtain ⟨e1, e2⟩ := eqRow_refl x0 x1 (by omega)
    obtain ⟨m1, m2⟩ := back_loops x0 x1 (by omega)
    obtain ⟨w1, _, _, _⟩ := valid_is (x0.map backRow) x1 (by simp; omega)
    have d0 : decide (x0.length ≤ 1073741824) = true := by simp; omega
    have hv : Pure.impl_ValidRow real x0 x1 = true → Pure.impl_ValidRow real (x0.map backRow) x1 = true := valid_map x0 x1 backRow (by omega)
      (fun j hj => by rw [backRow3 (rows3 h0 j hj)]; rfl) (fun j hj => by rw [backRow3 (rows3 h0 j hj)]; rfl) (fun j hj h => by
        rw [backRow3 (rows3 h0 j hj)]; exact isfin_neg (h0.ok1 hj (by omega)) h)
    have hi : ∃ l q, l.length ≤ 1048576 ∧ (∀ j, j < l.length → (l.getD j []).length = 3) ∧ Pure.impl_changedRow_back_2 real x0 x1 = l ∧ Pure.impl_changedRow_back real x0 x1 = q ∧ Pure.impl_changedRow_back_1 real x0 x1 = Pure.spec_l06Is real x0 x1 ∧
        Pure.spec_BackRow real x0 x1 = q ∧ Pure.spec_BackRow_1 real x0 x1 = l ∧ Pure.impl_BackRow_ok real x0 x1 = true ∧ Pure.spec_BackRow_ok real x0 x1 = true := by
      unfold Pure.impl_changedRow_back_2 Pure.impl_changedRow_back Pure.impl_changedRow_back_1 Pure.impl_BackRow_ok Pure.impl_each_back_ok Pure.impl_changedRow_back_ok Pure.spec_BackRow Pure.spec_BackRow_1 Pure.spec_BackRow_ok Pure.impl_each_c1_back Pure.impl_each_c1_back_ok Pure.spec_l06Own_ok
      have e0 : Nat.succ (x0.length + 0) = x0.length + 1 := rfl
      rw [e0, v1, v2, v3, m1, m2, w1, d0]
      cases hb : Pure.impl_ValidRow real x0 x1
      · exact ⟨[], 0, by simp, by simp, rfl, rfl, rfl, rfl, rfl, rfl, rfl⟩
      · rw [hv hb]
        refine ⟨x0.map backRow, x1, by simpa using hl, fun j hj => ?_, rfl, rfl, rfl, rfl, rfl, rfl, rfl⟩
        rw [List.length_map] at hj
        rw [map_getD hj, backRow3 (rows3 h0 j hj)]; rfl
    obtain ⟨l, q, hll, hl3, i1, i2, i3, i4, i5, i6, i7⟩ := hi
    obtain ⟨q1, q2⟩ := eqRow_refl l q (by omega)
    obtain ⟨c1, c2, c3, c4, c5, c6⟩ := changed_end (x1 := x1) h0 hl hll hl3
    unfold Pure.laws_toRow_ok Pure.laws_markRow_ok
    rw [t1, t2, i1, i2, i3, i4, i5, i6, i7, q1, q2, e1, e2, c1, c2, c3, c4, c5, c6]
    have d1 : decide ((1 : Int) + 3 * (x0.length : Int) < 0) = false := by simp; omega
    have d2 : decide ((1 : Int) + 3 * (l.length : Int) < 0) = false := by simp; omega
    rw [d1, d2]
    simp
end Go.Fx
