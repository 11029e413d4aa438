import Derived.Test.YtmcfcijddhgphaaXr4g1
namespace Go.Fx
set_option maxRecDepth 100000
abbrev BU : List K := [.i .u8]
theorem index_finite (xs : List (List Int)) (hl : xs.length < 4611686018427387904) : ∀ (n : Nat) (i : Nat), i ≤ xs.length → xs.length - i < n →
    (Pure.slices_IndexFunc_float32_float32_finite_L0 real xs.length xs n i).1 = true ∧
    (Pure.slices_IndexFunc_float32_float32_finite_L0 real xs.length xs n i).2.1 = ((xs.drop i).any fun r => Pure.impl_finite_c1 real (r.getD 0 0)) ∧
    0 ≤ (Pure.slices_IndexFunc_float32_float32_finite_L0 real xs.length xs n i).2.2 := by
  intro n
  induction n with
  | zero => intro i _ h; omega
  | succ n ih =>
    intro i hi hn
    unfold Pure.slices_IndexFunc_float32_float32_finite_L0
    have e0 : decide (0 ≤ (i : Int)) = true := by simp
    rcases Nat.lt_or_ge i xs.length with h | h
    · have e1 : decide ((i : Int) < (xs.length : Int)) = true := by simp; exact h
      have e2 : Decidable.decide ((i : Int) < Int.ofNat xs.length) = true := e1
      rw [e1, e0, e2]
      simp only [cond_true, Int.toNat_natCast]
      have hd : xs.drop i = xs[i] :: xs.drop (i + 1) := List.drop_eq_getElem_cons h
      rw [hd]
      simp only [List.any_cons]
      rw [getD_some h]
      cases Pure.impl_finite_c1 real (xs[i].getD 0 0) with
      | true => simp
      | false =>
        simp only [cond_false, Bool.false_or]
        rw [wrap64 (by omega) (by omega)]
        have := ih (i + 1) (by omega) (by omega)
        simpa using this
    · have e1 : decide ((i : Int) < (xs.length : Int)) = false := by simp; exact h
      rw [e1]
      have : xs.drop i = [] := List.drop_eq_nil_of_le h
      simp [this]

theorem impl_finite_eq (xs : List (List Int)) (hl : xs.length < 4611686018427387904) : Pure.impl_finite_ok real xs = true ∧ Pure.impl_finite real xs = xs.all fun r => Pure.impl_IsFinite real (r.getD 0 0) := by
  obtain ⟨h1, h2, h3⟩ := index_finite xs hl (xs.length + 1) 0 (Nat.zero_le _) (by omega)
  unfold Pure.impl_finite_ok Pure.impl_finite Pure.slices_ContainsFunc_float32_float32_finite_ok Pure.slices_ContainsFunc_float32_float32_finite Pure.slices_IndexFunc_float32_float32_finite_ok Pure.slices_IndexFunc_float32_float32_finite
  refine ⟨h1, ?_⟩
  have e : xs.all (fun r => Pure.impl_IsFinite real (r.getD 0 0)) = !((xs.drop 0).any fun r => Pure.impl_finite_c1 real (r.getD 0 0)) := by
    unfold Pure.impl_finite_c1
    rw [List.drop_zero, List.all_eq_not_any_not]
    have e2 : ∀ b : Bool, (bif b then false else true) = !b := fun b => by cases b <;> rfl
    simp only [e2]
  rw [e, ← h2]
  change (bif decide ((bif (Pure.slices_IndexFunc_float32_float32_finite_L0 real xs.length xs (xs.length + 1) 0).2.1 then (Pure.slices_IndexFunc_float32_float32_finite_L0 real xs.length xs (xs.length + 1) 0).2.2 else -1) ≥ 0) then false else true) = _
  change 0 ≤ (Pure.slices_IndexFunc_float32_float32_finite_L0 real xs.length xs (xs.length + 1) 0).2.2 at h3
  generalize (Pure.slices_IndexFunc_float32_float32_finite_L0 real xs.length xs (xs.length + 1) ((0 : Nat) : Int)) = r at *
  change (bif decide ((bif r.2.1 then r.2.2 else -1) ≥ 0) then false else true) = _
  cases hr : r.2.1 with
  | true => simp only [cond_true]; rw [decide_eq_true h3]; rfl
  | false => rfl

theorem finite_two {a b : Int} (ha : Pure.impl_IsFinite real a = true) (hb : Pure.impl_IsFinite real b = true) : Pure.impl_finite real [[a], [b]] = true ∧ Pure.impl_finite_ok real [[a], [b]] = true := by
  obtain ⟨f1, f2⟩ := impl_finite_eq [[a], [b]] (by simp)
  refine ⟨?_, f1⟩
  rw [f2]
  simp only [List.all_cons, List.all_nil, List.getD_cons_zero, ha, hb, Bool.and_self]

theorem b10At_is {xs : List (List Int)} (h : RowsOK BU xs) (k n : Nat) (hk : k < 3) (h2 : 2 ≤ n) (hn : n ≤ 33) : ∃ i : Nat, i < n ∧ Pure.laws_b10At real xs k n = i ∧ Pure.laws_b10At_ok real xs k n = true := by
  unfold Pure.laws_b10At Pure.laws_b10At_ok
  rw [decide_eq_false (show ¬ ((n : Int) ≤ 1) by omega), show ((n : Int) == 0) = false by simp; omega, decide_eq_true (show (0 : Int) ≤ (k : Int) by omega)]
  by_cases hl : k < xs.length
  · rw [decide_eq_true (show (k : Int) < Int.ofNat xs.length by show (k : Int) < (xs.length : Int); omega), Int.toNat_natCast, getD_some hl]
    obtain ⟨g1, g2⟩ : IntKind.u8.has (xs[k].getD 0 0) := (h.row _ (List.getElem_mem hl)).2 0 _ rfl
    have m0 : IntKind.u8.min = 0 := rfl
    have m1 : IntKind.u8.max = 255 := by decide
    rw [m0] at g1
    rw [m1] at g2
    simp only [cond_true, cond_false]
    rw [wrap64 (by omega) (by omega)]
    have e1 : (xs[k].getD 0 0).tmod n = xs[k].getD 0 0 % n := Int.tmod_eq_emod_of_nonneg g1
    rw [e1]
    have b1 := Int.emod_nonneg (xs[k].getD 0 0) (show (n : Int) ≠ 0 by omega)
    have b2 := Int.emod_lt_of_pos (xs[k].getD 0 0) (show (0 : Int) < n by omega)
    exact ⟨(xs[k].getD 0 0 % n).toNat, by omega, by omega, by first | rfl | trivial⟩
  · rw [decide_eq_false (show ¬ (k : Int) < Int.ofNat xs.length by show ¬ (k : Int) < (xs.length : Int); omega)]
    simp only [cond_false]
    rw [wrap64 (n := (k : Int) * 37) (by omega) (by omega), wrap64 (by omega) (by omega)]
    have e1 : ((k : Int) * 37 + 11).tmod n = ((k : Int) * 37 + 11) % n := Int.tmod_eq_emod_of_nonneg (by omega)
    rw [e1]
    have b1 := Int.emod_nonneg ((k : Int) * 37 + 11) (show (n : Int) ≠ 0 by omega)
    have b2 := Int.emod_lt_of_pos ((k : Int) * 37 + 11) (show (0 : Int) < n by omega)
    exact ⟨(((k : Int) * 37 + 11) % n).toNat, by omega, by omega, by first | rfl | trivial⟩

def orb (r x : Int) (n : Nat) : List (List Int) := (List.range n).map fun m => [itG r m x]
theorem orb_len (r x : Int) (n : Nat) : (orb r x n).length = n := by simp [orb]
theorem orb_get {r x : Int} {n m : Nat} (h : m < n) : (orb r x n).getD m [] = [itG r m x] := by
  rw [getD_some (by rw [orb_len]; exact h)]; simp [orb]
theorem orb_succ (r x : Int) (n : Nat) : orb r x n ++ [[itG r n x]] = orb r x (n + 1) := by
  unfold orb; rw [List.range_succ, List.map_append]; rfl

theorem next_is {r o : Int} (hr : Pure.impl_IsFinite real r = true) (ho : Pure.impl_IsFinite real o = true) (hs : Pure.impl_IsFinite real (stepG r o) = true) :
    Pure.impl_GrowNext_ok real o r = true ∧ Pure.impl_GrowNext_1 real o r = true ∧ Pure.impl_GrowNext real o r = stepG r o := by
  obtain ⟨f1, f2⟩ := finite_two ho hr
  unfold Pure.impl_GrowNext_ok Pure.impl_GrowNext_1 Pure.impl_GrowNext Pure.impl_toldNumber
  rw [f1, f2]
  refine ⟨rfl, hs, ?_⟩
  show (bif Pure.impl_IsFinite real (stepG r o) then stepG r o else 0) = stepG r o
  rw [hs]; rfl

theorem orbit_loop {r x : Int} (y1 : Int) (hr : Pure.impl_IsFinite real r = true) (S : Nat) (hS : S ≤ 300) (hf : ∀ m, m ≤ S → Pure.impl_IsFinite real (itG r m x) = true) : ∀ (d k n : Nat), k + d = S → d < n →
    Pure.impl_GrowOrbit_L0 real r y1 S n k (orb r x (k + 1)) = (true, false, orb r x (S + 1), []) := by
  intro d
  induction d with
  | zero =>
    intro k n hk hn
    obtain ⟨n, rfl⟩ : ∃ m, n = m + 1 := ⟨n - 1, by omega⟩
    obtain rfl : k = S := by omega
    unfold Pure.impl_GrowOrbit_L0
    rw [decide_eq_false (show ¬ (k : Int) < (k : Int) by omega)]
    rfl
  | succ d ih =>
    intro k n hk hn
    obtain ⟨n, rfl⟩ : ∃ m, n = m + 1 := ⟨n - 1, by omega⟩
    unfold Pure.impl_GrowOrbit_L0
    have w1 : IntKind.wrap .i64 (Int.ofNat (orb r x (k + 1)).length - 1) = (k : Int) := by
      rw [orb_len, wrap64 (by show -9223372036854775808 ≤ ((k + 1 : Nat) : Int) - 1; omega) (by show ((k + 1 : Nat) : Int) - 1 < 9223372036854775808; omega)]
      show ((k + 1 : Nat) : Int) - 1 = k
      omega
    obtain ⟨g1, g2, g3⟩ := next_is hr (hf k (by omega)) (by rw [← itG_last]; exact hf (k + 1) (by omega))
    rw [w1, Int.toNat_natCast, orb_get (Nat.lt_succ_self k), orb_len, wrap_succ (by omega)]
    have e0 : List.getD [itG r k x] 0 0 = itG r k x := rfl
    rw [e0, g1, g2, g3, decide_eq_true (show (k : Int) < (S : Int) by omega), dec_nn, decide_eq_true (show (k : Int) < Int.ofNat (k + 1) by show (k : Int) < ((k + 1 : Nat) : Int); omega), decide_eq_true (show Nat.succ (k + 1) ≤ 1073741824 by omega), ← itG_last, orb_succ]
    simp only [cond_true]
    exact ih (k + 1) n (by omega) (by omega)

theorem orbit_is {r x : Int} (hr : Pure.impl_IsFinite real r = true) (s c : Nat) (hs : s ≤ 128) (hc : 1 ≤ c) (hc2 : c ≤ 128) (hf : ∀ m, m < s + c → Pure.impl_IsFinite real (itG r m x) = true) :
    Pure.impl_GrowOrbit real x r s c = true ∧ Pure.impl_GrowOrbit_ok real x r s c = true ∧ (Pure.impl_GrowOrbit_1 real x r s c).length = c ∧ ∀ j, j < c → (Pure.impl_GrowOrbit_1 real x r s c).getD j [] = [itG r (s + j) x] := by
  obtain ⟨f1, f2⟩ := finite_two (hf 0 (by omega)) hr
  have f1' : Pure.impl_finite real [[x], [r]] = true := f1
  have f2' : Pure.impl_finite_ok real [[x], [r]] = true := f2
  have i1 : Pure.impl_in real (s : Int) 0 128 = true := by unfold Pure.impl_in; simp; omega
  have i2 : Pure.impl_in real (c : Int) 1 128 = true := by unfold Pure.impl_in; simp; omega
  have w1 : IntKind.wrap .i64 (IntKind.wrap .i64 ((s : Int) + c) - 1) = ((s + c - 1 : Nat) : Int) := by rw [wrap64 (n := (s : Int) + c) (by omega) (by omega), wrap64 (by omega) (by omega)]; omega
  have w2 : (((s + c - 1 : Nat) : Int) - 0 + 1).toNat = s + c := by omega
  have hl := orbit_loop (x := x) s hr (s + c - 1) (by omega) (fun m hm => hf m (by omega)) (s + c - 1) 0 (s + c) (by omega) (by omega)
  have e0 : orb r x (0 + 1) = [[x]] := rfl
  have e1 : s + c - 1 + 1 = s + c := by omega
  have z0 : ((0 : Nat) : Int) = 0 := rfl
  rw [e0, e1, z0] at hl
  unfold Pure.impl_GrowOrbit Pure.impl_GrowOrbit_ok Pure.impl_GrowOrbit_1
  rw [f1', f2', i1, i2, w1, w2, hl, Int.toNat_natCast]
  simp only [cond_true, cond_false, orb_len]
  have hlen : (List.take (s + c - s) (List.drop s (orb r x (s + c)))).length = c := by rw [List.length_take, List.length_drop, orb_len]; omega
  refine ⟨trivial, ?_, hlen, fun j hj => ?_⟩
  · rw [hlen, decide_eq_true (show (0 : Int) ≤ (s : Int) by omega), decide_eq_true (show (s : Int) ≤ Int.ofNat (s + c) by show (s : Int) ≤ ((s + c : Nat) : Int); omega), decide_eq_true (show c ≤ 1073741824 by omega)]
    rfl
  · rw [List.getD_eq_getElem?_getD, List.getElem?_take, if_pos (by omega), List.getElem?_drop, ← List.getD_eq_getElem?_getD, orb_get (by omega)]

theorem goodA_is {o : Int} (h : goodA o = true) : Pure.impl_IsFinite real o = true ∧ real.cmp .lss .f32 o 3129152111 = false ∧ real.cmp .gtr .f32 o 1065361605 = false := by
  unfold goodA at h
  simp only [Bool.and_eq_true, Bool.not_eq_true'] at h
  exact ⟨h.1.1, h.1.2, h.2⟩

theorem same_refl (z : Int) : Pure.spec_l01Same real z z = true := by unfold Pure.spec_l01Same; simp

theorem law_loop {r x : Int} (y0 : Int) (y4 y5 l : List (List Int)) (hr : Pure.impl_IsFinite real r = true) (s c : Nat) (hc2 : c ≤ 128) (hf : ∀ m, m < s + c → goodA (itG r m x) = true) (hl : l.length = c) (hg : ∀ j, j < c → l.getD j [] = [itG r (s + j) x]) :
    ∀ (d k n : Nat), k + d = c → d < n → Pure.laws_FnGrowth_L0 real y0 r (Int.ofNat c) y4 y5 l n k = (true, false) := by
  intro d
  induction d with
  | zero =>
    intro k n hk hn
    obtain ⟨n, rfl⟩ : ∃ m, n = m + 1 := ⟨n - 1, by omega⟩
    unfold Pure.laws_FnGrowth_L0
    rw [dec_ge (show c ≤ k by omega)]
    rfl
  | succ d ih =>
    intro k n hk hn
    obtain ⟨n, rfl⟩ : ∃ m, n = m + 1 := ⟨n - 1, by omega⟩
    have hk' : k < c := by omega
    obtain ⟨a1, a2, a3⟩ := goodA_is (hf (s + k) (by omega))
    have e0 : ∀ z : Int, List.getD [z] 0 0 = z := fun _ => rfl
    unfold Pure.laws_FnGrowth_L0
    rw [dec_lt hk', dec_nn, dec_lt (show k < l.length by omega), Int.toNat_natCast, hg k hk', e0, a2, a3, wrap_succ (by omega)]
    simp only [cond_true, cond_false]
    have hih := ih (k + 1) n (by omega) (by omega)
    rcases Nat.eq_zero_or_pos k with h0 | h0
    · subst h0
      have : (((0 : Nat) : Int) == 0) = true := rfl
      rw [this]
      exact hih
    · have q0 : ((k : Int) == 0) = false := by simp; omega
      have w1 : IntKind.wrap .i64 ((k : Int) - 1) = ((k - 1 : Nat) : Int) := by rw [wrap64 (by omega) (by omega)]; omega
      have el : itG r (s + k) x = stepG r (itG r (s + (k - 1)) x) := by rw [← itG_last]; congr 1; omega
      obtain ⟨b1, _, _⟩ := goodA_is (hf (s + (k - 1)) (by omega))
      obtain ⟨g1, g2, g3⟩ := next_is hr b1 (by rw [← el]; exact a1)
      rw [q0, w1, dec_nn, dec_lt (show k - 1 < l.length by omega), Int.toNat_natCast, hg (k - 1) (by omega), e0, g1, g2, g3, ← el, same_refl]
      simp only [cond_true, cond_false]
      exact hih
end Go.Fx
