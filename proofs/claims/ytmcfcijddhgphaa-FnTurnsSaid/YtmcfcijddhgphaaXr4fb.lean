import Derived.Test.YtmcfcijddhgphaaXr4fa
namespace Go.Fx
set_option maxRecDepth 100000
abbrev BU : List K := [.i .u8]

theorem b10At_is {xs : List (List Int)} (h : RowsOK BU xs) : ∃ i : Nat, i < 257 ∧ Pure.laws_b10At real xs 0 257 = i ∧ Pure.laws_b10At_ok real xs 0 257 = true := by
  unfold Pure.laws_b10At Pure.laws_b10At_ok
  have e1 : decide ((257 : Int) ≤ 1) = false := rfl
  rw [e1]
  by_cases hl : 0 < xs.length
  · have e2 : decide ((0 : Int) < Int.ofNat xs.length) = true := decide_eq_true (by show (0 : Int) < (xs.length : Int); omega)
    rw [e2]
    have hr := (h.row _ (List.getElem_mem hl)).2 0 _ rfl
    have hg : xs.getD (0 : Int).toNat [] = xs[0] := getD_some hl
    rw [hg]
    obtain ⟨g1, g2⟩ : IntKind.u8.has (xs[0].getD 0 0) := hr
    have m0 : IntKind.u8.min = 0 := rfl
    have m1 : IntKind.u8.max = 255 := by decide
    rw [m0] at g1
    rw [m1] at g2
    simp only [cond_true, cond_false]
    rw [wrap64 (by omega) (by omega)]
    refine ⟨(xs[0].getD 0 0).toNat, by omega, ?_, rfl⟩
    rw [Int.tmod_eq_of_lt g1 (by omega)]
    omega
  · have e2 : decide ((0 : Int) < Int.ofNat xs.length) = false := decide_eq_false (by show ¬ (0 : Int) < (xs.length : Int); omega)
    rw [e2]
    simp only [cond_false]
    exact ⟨11, by omega, by decide +kernel, rfl⟩

theorem q_fin {n : Int} (h1 : -320 ≤ n) (h2 : n ≤ 320) : Pure.impl_IsFinite real (q n) = true := (one_is h1 h2).2.1

theorem finite_two {a b : Int} (ha : Pure.impl_IsFinite real a = true) (hb : Pure.impl_IsFinite real b = true) : Pure.impl_finite real [[a], [b]] = true ∧ Pure.impl_finite_ok real [[a], [b]] = true := by
  obtain ⟨f1, f2⟩ := impl_finite_eq [[a], [b]] (by simp)
  refine ⟨?_, f1⟩
  rw [f2]
  simp only [List.all_cons, List.all_nil, List.getD_cons_zero, ha, hb, Bool.and_self]

theorem q_sub {c e : Int} (hc : 0 ≤ c ∧ c < 64) (he : 0 ≤ e ∧ e < 64) : real.bin .sub .f32 (q e) (q c) = q (e - c) := by
  by_cases h : e - c = 0
  · have hec : e = c := by omega
    subst hec
    have := all_range zero_sub (j := e.toNat) (by omega)
    rw [show ((e.toNat : Nat) : Int) = e by omega, decide_eq_true_eq] at this
    rw [this, h]
  · exact ((one_is (n := e) (by omega) (by omega)).1.sub (one_is (n := c) (by omega) (by omega)).1 (by omega) (by omega)).inj (one_is (by omega) (by omega)).1 h

theorem q_add {n k : Int} (hn : -128 ≤ n ∧ n ≤ 128) (hk : -31 ≤ k ∧ k ≤ 32) : real.bin .add .f32 (q n) (q k) = q (n + k) := by
  by_cases h : n + k = 0
  · have := all_range zero_add (j := (k + 31).toNat) (by omega)
    rw [show (((k + 31).toNat : Nat) : Int) = k + 31 by omega, decide_eq_true_eq] at this
    rw [show (31 : Int) - (k + 31) = n by omega, show k + 31 - 31 = k by omega] at this
    rw [this, h]
  · exact ((one_is (n := n) (by omega) (by omega)).1.add (one_is (n := k) (by omega) (by omega)).1 (by omega) (by omega)).inj (one_is (by omega) (by omega)).1 h

theorem apart_q {n m : Int} (hn : -128 ≤ n ∧ n ≤ 128) (hm : -128 ≤ m ∧ m ≤ 128) : Pure.impl_TurnsApart real (q n) (q m) = q (nrm (m % 64 - n % 64)) ∧ Pure.impl_TurnsApart_1 real (q n) (q m) = true ∧ Pure.impl_TurnsApart_ok real (q n) (q m) = true := by
  obtain ⟨f1, f2⟩ := finite_two (q_fin (n := n) (by omega) (by omega)) (q_fin (n := m) (by omega) (by omega))
  obtain ⟨_, _, n3, n4⟩ := one_is (n := n) (by omega) (by omega)
  obtain ⟨_, _, m3, m4⟩ := one_is (n := m) (by omega) (by omega)
  unfold Pure.impl_TurnsApart Pure.impl_TurnsApart_1 Pure.impl_TurnsApart_ok Pure.impl_apart_ok Pure.impl_wrapped_ok
  rw [f1, f2, n3, m3]
  refine ⟨?_, rfl, rfl⟩
  show Hq (real.bin .sub .f32 (Pure.impl_WrapTurn real (q m)) (Pure.impl_WrapTurn real (q n))) = _
  rw [n4, m4, q_sub (by omega) (by omega)]
  have := two_at (k := m % 64 - n % 64) (by omega) (by omega)
  unfold twoB at this
  simp only [Bool.and_eq_true, decide_eq_true_eq] at this
  exact this.1.1.1

theorem nrm_range {k : Int} (h : -64 < k ∧ k < 64) : -31 ≤ nrm k ∧ nrm k ≤ 32 := by
  unfold nrm
  split
  · omega
  · split <;> omega
theorem nrm_mod (k : Int) : nrm k % 64 = k % 64 := by
  unfold nrm
  split
  · omega
  · split <;> omega

theorem law_FnTurns (x0 x1 : List (List Int)) (h0 : RowsOK BU x0) (h1 : RowsOK BU x1) : Pure.laws_FnTurns_ok real x0 x1 = true ∧ Pure.laws_FnTurns real x0 x1 = true := by
  unfold Pure.laws_FnTurns_ok Pure.laws_FnTurns
  cases Pure.laws_b10Long real x0 x1 with
  | true => exact ⟨rfl, rfl⟩
  | false =>
    obtain ⟨i, hi, ei, oi⟩ := b10At_is h0
    obtain ⟨j, hj, ej, oj⟩ := b10At_is h1
    rw [ei, ej, oi, oj, wrap64 (n := (i : Int) - 128) (by omega) (by omega), wrap64 (n := (j : Int) - 128) (by omega) (by omega)]
    have qi : real.bin .quo .f32 (real.ofInt .f32 ((i : Int) - 128)) 1115684864 = q ((i : Int) - 128) := rfl
    have qj : real.bin .quo .f32 (real.ofInt .f32 ((j : Int) - 128)) 1115684864 = q ((j : Int) - 128) := rfl
    rw [qi, qj]
    have hkick := all_range kick1 hi
    generalize hn : (i : Int) - 128 = n at *
    generalize hm : (j : Int) - 128 = m at *
    have bn : -128 ≤ n ∧ n ≤ 128 := by omega
    have bm : -128 ≤ m ∧ m ≤ 128 := by omega
    obtain ⟨_, a2, a3, a4⟩ := one_is (n := n) (by omega) (by omega)
    obtain ⟨_, b2, b3, b4⟩ := one_is (n := m) (by omega) (by omega)
    obtain ⟨c1, c2, c3⟩ := apart_q bn bm
    obtain ⟨d1, d2, d3⟩ := apart_q bm bn
    have e3 : real.bin .add .f32 (q n) 1077936128 = q (n + 192) :=
      ((one_is (n := n) (by omega) (by omega)).1.add E_three (by omega) (by omega)).inj (one_is (by omega) (by omega)).1 (by omega)
    obtain ⟨_, t2, t3, t4⟩ := one_is (n := n + 192) (by omega) (by omega)
    have hk := nrm_range (k := m % 64 - n % 64) (by omega)
    have hs := q_add bn hk
    obtain ⟨_, s2, s3, s4⟩ := one_is (n := n + nrm (m % 64 - n % 64)) (by omega) (by omega)
    have mod1 : (n + 192) % 64 = n % 64 := by omega
    have mod2 : (n + nrm (m % 64 - n % 64)) % 64 = m % 64 := by
      have := nrm_mod (m % 64 - n % 64)
      omega
    rw [mod1] at t4
    rw [mod2] at s4
    have hl := all_range low1 (j := (n % 64).toNat) (by omega)
    rw [show (((n % 64).toNat : Nat) : Int) = n % 64 by omega] at hl
    have hl2 := all_range low1 (j := (m % 64).toNat) (by omega)
    rw [show (((m % 64).toNat : Nat) : Int) = m % 64 by omega] at hl2
    unfold lowB at hl hl2
    simp only [Bool.and_eq_true, Bool.not_eq_true'] at hl hl2
    unfold kickB at hkick
    simp only [Bool.and_eq_true, Bool.not_eq_true'] at hkick
    obtain ⟨⟨⟨⟨k1, k2⟩, k3⟩, k4⟩, k5⟩ := hkick
    have htwo := two_at (k := m % 64 - n % 64) (by omega) (by omega)
    unfold twoB at htwo
    rw [show -(m % 64 - n % 64) = n % 64 - m % 64 by omega] at htwo
    simp only [Bool.and_eq_true, Bool.not_eq_true', decide_eq_true_eq] at htwo
    obtain ⟨⟨⟨_, w2⟩, w3⟩, w4⟩ := htwo
    rw [c1, c2, c3, d1, d2, d3, e3, hs]
    rw [a2, a3, a4, b2, b3, b4, t2, t3, t4, s2, s3, s4, hl.1.1, hl.1.2, hl.2, hl2.2, k1, k2, k3, k4, k5, w2, w3, convOk_up, convOk_up]
    cases hp : real.cmp .neq .f32 (q (nrm (m % 64 - n % 64))) 1056964608 with
    | true =>
      rw [hp] at w4
      simp only [cond_true, Bool.and_eq_true, Bool.not_eq_true'] at w4
      rw [w4.1, w4.2]
      exact ⟨rfl, rfl⟩
    | false =>
      rw [hp] at w4
      simp only [cond_false, Bool.not_eq_true'] at w4
      rw [w4]
      cases real.cmp .eql .f32 (q (nrm (m % 64 - n % 64))) 1056964608 <;> exact ⟨rfl, rfl⟩
end Go.Fx
