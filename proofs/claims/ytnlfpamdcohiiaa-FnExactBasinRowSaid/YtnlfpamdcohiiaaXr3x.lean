import Derived.Test.YtnlfpamdcohiiaaXr3w2
import Derived.Test.YtnlfpamdcohiiaaXr3v
namespace Go.Fx

/-! ### rests -/
def dst (s q : Int) : Nat → Int → Int → Int × Int
  | 0, t, k => (t, k)
  | n + 1, t, k => dst s q n (Pure.impl_State_damped real t k s q) (Pure.impl_State_damped_1 real t k s q)

theorem dst_ok {s q : Int} (hs : Le .f32 2 s) (hq : Le .f32 0 q) : ∀ (n : Nat) (t k : Int), Turn t → Le .f32 0 k → Turn (dst s q n t k).1 ∧ Le .f32 0 (dst s q n t k).2 := by
  intro n
  induction n with
  | zero => intro t k ht hk; exact ⟨ht, hk⟩
  | succ n ih =>
    intro t k ht hk
    obtain ⟨_, _, _, _, d5, d6⟩ := damp_is ht hk hs hq
    exact ih _ _ d5 d6

theorem spec_rest {s q p : Int} (hs : Le .f32 2 s) (hq : Le .f32 0 q) : ∀ (n fuel : Nat) (t k : Int), n < fuel → n < 1000000 → Turn t → Le .f32 0 k → Pure.spec_l07Rest_L0 real s q p fuel n t k = (true, dst s q n t k) := by
  intro n
  induction n with
  | zero =>
    intro fuel t k hf _ _ _
    match fuel, hf with
    | fuel + 1, _ => rfl
  | succ n ih =>
    intro fuel t k hf hn ht hk
    match fuel, hf with
    | fuel + 1, hf =>
      obtain ⟨d1, _, d3, d4, d5, d6⟩ := damp_is ht hk hs hq
      unfold Pure.spec_l07Rest_L0
      have e1 : decide (((n + 1 : Nat) : Int) > 0) = true := by simp
      rw [e1, d1, d3, d4, wrap64 (n := ((n + 1 : Nat) : Int) - 1) (by omega) (by omega), show ((n + 1 : Nat) : Int) - 1 = (n : Int) by omega]
      simp only [cond_true]
      exact ih fuel _ _ (by omega) (by omega) d5 d6

theorem impl_rest {s q p : Int} (hs : Le .f32 2 s) (hq : Le .f32 0 q) (N : Nat) (hN : N < 1000000) : ∀ (n i fuel : Nat) (t k : Int), i + n = N → n < fuel → Turn t → Le .f32 0 k → Pure.impl_State_rest_L0 real s q p N fuel i t k = (true, dst s q n t k) := by
  intro n
  induction n with
  | zero =>
    intro i fuel t k hi hf _ _
    match fuel, hf with
    | fuel + 1, _ =>
      unfold Pure.impl_State_rest_L0
      have e1 : decide ((i : Int) < (N : Int)) = false := by simp; omega
      rw [e1]; rfl
  | succ n ih =>
    intro i fuel t k hi hf ht hk
    match fuel, hf with
    | fuel + 1, hf =>
      obtain ⟨_, d2, _, _, d5, d6⟩ := damp_is ht hk hs hq
      unfold Pure.impl_State_rest_L0
      have e1 : decide ((i : Int) < (N : Int)) = true := by simp; omega
      rw [e1, d2, wrap_succ (by omega)]
      simp only [cond_true]
      exact ih (i + 1) fuel _ _ (by omega) (by omega) d5 d6

theorem in_iff {a b c : Int} : Pure.impl_in real a b c = true ↔ b ≤ a ∧ a ≤ c := by
  unfold Pure.impl_in
  simp only [Bool.cond_false_right, Bool.and_eq_true, decide_eq_true_eq, ge_iff_le]

theorem rest_is {t k s q n p : Int} (ht : Turn t) (hk : Le .f32 0 k) (hs : Le .f32 2 s) (hq : Le .f32 0 q) (hn : 0 ≤ n ∧ n ≤ 128) (hp : 1 ≤ p ∧ p ≤ 16) :
    Pure.spec_l07Rest_ok real t k s q n p = true ∧ Pure.impl_State_rest_ok real t k s q n p = true ∧ Pure.spec_l07Rest real t k s q n p = Pure.impl_State_rest real t k s q n p := by
  obtain ⟨N, rfl⟩ : ∃ N : Nat, n = N := ⟨n.toNat, by omega⟩
  obtain ⟨m, rfl⟩ : ∃ m : Nat, p = m := ⟨p.toNat, by omega⟩
  have h1 := spec_rest (p := (m : Int)) hs hq N (((N : Int) - 0 + 1).toNat) t k (by omega) (by omega) ht hk
  have h2 := impl_rest (p := (m : Int)) hs hq N (by omega) N 0 (((N : Int) - 0 + 1).toNat) t k (by omega) (by omega) ht hk
  obtain ⟨d1, _⟩ := dst_ok hs hq N t k ht hk
  have hb : FloatKind.f32.format.binade = 8388608 := by decide
  obtain ⟨o1, o2⟩ := ofInt_fv (k := .f32) (n := (m : Int)) (by rw [hb]; omega)
  have hup := unit_pos .f32
  have hx : Fin .f32 (real.bin .mul .f32 (real.ofInt .f32 m) (dst s q N t k).1) ∧ 0 ≤ fv .f32 (real.bin .mul .f32 (real.ofInt .f32 m) (dst s q N t k).1) ∧ fv .f32 (real.bin .mul .f32 (real.ofInt .f32 m) (dst s q N t k).1) ≤ m * (unit .f32 : Int) := by
    have := d1.ge; have := d1.lt
    refine (mul_rounds o1 d1.fin).within (has_zero .f32) ⟨_, o1, o2⟩ ?_ ?_
    · rw [Int.zero_mul, o2]; exact Int.mul_nonneg (Int.mul_nonneg (by omega) (by omega)) d1.ge
    · rw [o2]; exact Int.mul_le_mul_of_nonneg_left (by omega) (Int.mul_nonneg (by omega) (by omega))
  obtain ⟨x1, x2, x3⟩ := hx
  have hm : (m : Int) * (unit .f32 : Int) ≤ 1000000 * (unit .f32 : Int) := Int.mul_le_mul_of_nonneg_right (by omega) (by omega)
  obtain ⟨f1, f2, f3, _⟩ := floor_int x1 x2 (by omega)
  have h2' : Pure.impl_State_rest_L0 real s q (m : Int) (N : Int) (((N : Int) - 0 + 1).toNat) 0 t k = (true, dst s q N t k) := h2
  unfold Pure.spec_l07Rest_ok Pure.impl_State_rest_ok Pure.spec_l07Rest Pure.impl_State_rest Pure.impl_box Pure.impl_box_ok Pure.spec_l00Min
  rw [h1, h2', convOk_up]
  simp only [f1, f2, f3, cond_true]
  exact ⟨trivial, trivial, trivial⟩

theorem can_is (a b c d : Int) : Pure.spec_l07Can real a b c d = Pure.impl_restOk real a b c d := rfl
theorem restOk_is {a b c d : Int} (ha : OkF .f32 a) (hb : OkF .f32 b) (h : Pure.impl_restOk real a b c d = true) : Le .f32 2 a ∧ Le .f32 0 b ∧ (0 ≤ c ∧ c ≤ 128) ∧ (1 ≤ d ∧ d ≤ 16) := by
  unfold Pure.impl_restOk at h
  simp only [Bool.cond_false_right, Bool.and_eq_true] at h
  exact ⟨sizeOk_le ha h.1, keepOk_le hb h.2.1, in_iff.1 h.2.2.1, in_iff.1 h.2.2.2⟩

theorem law_FnExactRestOf (x0 x1 x2 x3 x4 x5 : Int) (h0 : OkF .f32 x0) (h1 : OkF .f32 x1) (h2 : OkF .f32 x2) (h3 : OkF .f32 x3) (_ : IntKind.i64.has x4) (_ : IntKind.i64.has x5) : Pure.laws_FnExactRestOf_ok real x0 x1 x2 x3 x4 x5 = true ∧ Pure.laws_FnExactRestOf real x0 x1 x2 x3 x4 x5 = true := by
  have hi : Pure.spec_RestOf_ok real x0 x1 x2 x3 x4 x5 = true ∧ Pure.impl_RestOf_ok real x0 x1 x2 x3 x4 x5 = true ∧ Pure.spec_RestOf real x0 x1 x2 x3 x4 x5 = Pure.impl_RestOf real x0 x1 x2 x3 x4 x5 ∧ Pure.spec_RestOf_1 real x0 x1 x2 x3 x4 x5 = Pure.impl_RestOf_1 real x0 x1 x2 x3 x4 x5 := by
    unfold Pure.spec_RestOf_ok Pure.impl_RestOf_ok Pure.spec_RestOf Pure.impl_RestOf Pure.spec_RestOf_1 Pure.impl_RestOf_1
    rw [valid_is, can_is]
    cases hv : Pure.impl_ValidState real x0 x1 with
    | false => exact ⟨rfl, rfl, rfl, rfl⟩
    | true =>
      cases hz : Pure.impl_restOk real x2 x3 x4 x5 with
      | false => exact ⟨rfl, rfl, rfl, rfl⟩
      | true =>
        obtain ⟨v1, v2⟩ := valid_ok h0 h1 hv
        obtain ⟨r1, r2, r3, r4⟩ := restOk_is h2 h3 hz
        obtain ⟨m1, m2, m3⟩ := rest_is v1 v2 r1 r2 r3 r4
        rw [m1, m2, m3]
        exact ⟨rfl, rfl, rfl, rfl⟩
  obtain ⟨i1, i2, i3, i4⟩ := hi
  unfold Pure.laws_FnExactRestOf_ok Pure.laws_FnExactRestOf
  rw [i1, i2, i3, i4]
  simp

/-! ### slopes -/
theorem slopes_is {t k s : Int} (ht : Turn t) (hs : Le .f32 2 s) : Pure.spec_l07Slopes_ok real t k s = true ∧ Pure.impl_State_slopes_ok real t k s = true ∧
    Pure.spec_l07Slopes real t k s = [[Pure.impl_State_slopes real t k s], [1065353216], [Pure.impl_State_slopes_1 real t k s], [1065353216]] ∧ Le .f32 10 (Pure.impl_State_slopes real t k s) ∧ Le .f32 9 (Pure.impl_State_slopes_1 real t k s) := by
  have hq : Le .f32 0 1048576000 := Le.const (by decide +kernel)
  have h1 : Le .f32 0 1065353216 := Le.const (by decide +kernel)
  have hw : Le .f32 3 1086918619 := Le.const (by decide +kernel)
  have a1 : Le .f32 1 (real.bin .add .f32 t 1048576000) := Le.add ht.le hq (by omega) (le127 (by omega))
  obtain ⟨s1, s2, s3, s4⟩ := sine_is a1.1.okF
  have a2 : Le .f32 5 (real.bin .mul .f32 s 1086918619) := Le.mul hs hw (by omega) (le127 (by omega))
  have a3 : Le .f32 9 (real.bin .mul .f32 (real.bin .mul .f32 s 1086918619) (Pure.impl_SineTurns real (real.bin .add .f32 t 1048576000))) := Le.mul a2 (s4 a1.1) (by omega) (le127 (by omega))
  have a4 : Le .f32 10 (real.bin .add .f32 1065353216 (real.bin .mul .f32 (real.bin .mul .f32 s 1086918619) (Pure.impl_SineTurns real (real.bin .add .f32 t 1048576000)))) := Le.add (h1.mono (show 0 ≤ 9 by omega)) a3 (by omega) (le127 (by omega))
  unfold Pure.spec_l07Slopes_ok Pure.impl_State_slopes_ok Pure.spec_l07Slopes Pure.impl_State_slopes Pure.impl_State_slopes_1
  rw [s1, s2, s3]
  exact ⟨rfl, rfl, rfl, a4, a3⟩

theorem toldNumbers_is (xs : List (List Int)) (hl : xs.length < 4611686018427387904) : Pure.impl_toldNumbers_way real xs = (xs.all fun r => Pure.impl_IsFinite real (r.getD 0 0)) ∧ Pure.impl_toldNumbers_okA real xs = true ∧ Pure.impl_toldNumbers_okB real xs = true := by
  obtain ⟨h1, h2⟩ := impl_finite_eq xs hl
  unfold Pure.impl_toldNumbers_way Pure.impl_toldNumbers_okA Pure.impl_toldNumbers_okB
  exact ⟨h2, h1, h1⟩

theorem law_FnExactSlopesOf (x0 x1 x2 : Int) (h0 : OkF .f32 x0) (h1 : OkF .f32 x1) (h2 : OkF .f32 x2) : Pure.laws_FnExactSlopesOf_ok real x0 x1 x2 = true ∧ Pure.laws_FnExactSlopesOf real x0 x1 x2 = true := by
  have hi : ∃ l, l.length ≤ 4 ∧ (∀ j, j < l.length → (l.getD j []).length = 1) ∧ Pure.spec_SlopesOf_ok real x0 x1 x2 = true ∧ Pure.impl_SlopesOf_ok real x0 x1 x2 = true ∧ Pure.spec_SlopesOf_1 real x0 x1 x2 = l ∧ Pure.impl_SlopesOf_1 real x0 x1 x2 = l ∧ Pure.spec_SlopesOf real x0 x1 x2 = Pure.impl_SlopesOf real x0 x1 x2 := by
    have es : Pure.spec_l07Size real x2 = Pure.impl_sizeOk real x2 := rfl
    unfold Pure.spec_SlopesOf_ok Pure.impl_SlopesOf_ok Pure.spec_SlopesOf Pure.impl_SlopesOf Pure.spec_SlopesOf_1 Pure.impl_SlopesOf_1 Pure.impl_stateOk
    rw [valid_is, es]
    cases hv : Pure.impl_ValidState real x0 x1 with
    | false => exact ⟨[], by simp, by simp, rfl, rfl, rfl, rfl, rfl⟩
    | true =>
      cases hz : Pure.impl_sizeOk real x2 with
      | false => exact ⟨[], by simp, by simp, rfl, rfl, rfl, rfl, rfl⟩
      | true =>
        obtain ⟨v1, v2⟩ := valid_ok h0 h1 hv
        obtain ⟨m1, m2, m3, m4, m5⟩ := slopes_is (k := x1) v1 (sizeOk_le h2 hz)
        obtain ⟨t1, t2, t3⟩ := toldNumbers_is [[Pure.impl_State_slopes real x0 x1 x2], [1065353216], [Pure.impl_State_slopes_1 real x0 x1 x2], [1065353216]] (by simp)
        have hone : Pure.impl_IsFinite real 1065353216 = true := isFin f32_one.1
        have t4 : ([[Pure.impl_State_slopes real x0 x1 x2], [1065353216], [Pure.impl_State_slopes_1 real x0 x1 x2], [1065353216]].all fun r => Pure.impl_IsFinite real (r.getD 0 0)) = true := by
          simp only [List.all_cons, List.all_nil, List.getD_cons_zero, isFin m4.1, isFin m5.1, hone, Bool.and_true]
        rw [t1, t2, m1, m2, m3, t4]
        refine ⟨[[Pure.impl_State_slopes real x0 x1 x2], [1065353216], [Pure.impl_State_slopes_1 real x0 x1 x2], [1065353216]], by simp, fun j hj => ?_, rfl, rfl, rfl, rfl, rfl⟩
        match j, hj with
        | 0, _ => rfl
        | 1, _ => rfl
        | 2, _ => rfl
        | 3, _ => rfl
        | j + 4, hj => exact absurd hj (by show ¬ j + 4 < 4; omega)
  obtain ⟨l, hl, hl1, i1, i2, i3, i4, i5⟩ := hi
  obtain ⟨e1, e2⟩ := eqFloat32S_refl l (by omega)
  obtain ⟨k1, k2, k3⟩ := markFloat32S_eq l (by omega) hl1
  obtain ⟨g1, g2⟩ := heldFloat32S_eq l.length (by omega)
  unfold Pure.laws_FnExactSlopesOf_ok Pure.laws_FnExactSlopesOf
  rw [i1, i2, i3, i4, i5, e1, e2, k1, k2, k3, g1, g2]
  have d1 : decide ((1 : Int) + 1 * (l.length : Int) < 0) = false := by simp; omega
  rw [d1]
  simp

/-! ### orbits -/
def orb (s : Int) : Nat → Int → Int → List (List Int)
  | 0, _, _ => []
  | n + 1, t, k => [Pure.impl_State_damped real t k s 1065353216, Pure.impl_State_damped_1 real t k s 1065353216] :: orb s n (Pure.impl_State_damped real t k s 1065353216) (Pure.impl_State_damped_1 real t k s 1065353216)

theorem orb_len (s : Int) : ∀ (n : Nat) (t k : Int), (orb s n t k).length = n
  | 0, _, _ => rfl
  | n + 1, t, k => by simp [orb, orb_len s n]

theorem orb_row (s : Int) : ∀ (n : Nat) (t k : Int) (r : List Int), r ∈ orb s n t k → r.length = 2
  | 0, _, _, r, h => by simp [orb] at h
  | n + 1, t, k, r, h => by
    simp only [orb, List.mem_cons] at h
    rcases h with rfl | h
    · rfl
    · exact orb_row s n _ _ r h

theorem spec_orbit {s : Int} (hs : Le .f32 2 s) : ∀ (n fuel : Nat) (t k : Int) (acc : List (List Int)), n < fuel → n + acc.length < 1000000 → Turn t → Le .f32 0 k → Pure.spec_l07Orbit_L0 real s fuel n t k acc = (true, acc ++ orb s n t k) := by
  intro n
  induction n with
  | zero =>
    intro fuel t k acc hf _ _ _
    match fuel, hf with
    | fuel + 1, _ => unfold Pure.spec_l07Orbit_L0; simp [orb]
  | succ n ih =>
    intro fuel t k acc hf hn ht hk
    match fuel, hf with
    | fuel + 1, hf =>
      obtain ⟨d1, _, d3, d4, d5, d6⟩ := map_is ht hk hs
      unfold Pure.spec_l07Orbit_L0
      have e1 : decide (((n + 1 : Nat) : Int) > 0) = true := by simp
      have e2 : decide (acc.length.succ ≤ 1073741824) = true := by simp; omega
      rw [e1, d1, d3, d4, e2, wrap64 (n := ((n + 1 : Nat) : Int) - 1) (by omega) (by omega), show ((n + 1 : Nat) : Int) - 1 = (n : Int) by omega]
      simp only [cond_true]
      rw [ih fuel _ _ _ (by omega) (by simp; omega) d5 d6]
      simp [orb]

theorem impl_orbit {s : Int} (hs : Le .f32 2 s) (N : Nat) (hN : N < 1000000) : ∀ (n i fuel : Nat) (t k : Int) (acc : List (List Int)), i + n = N → n < fuel → n + acc.length < 1000000 → Turn t → Le .f32 0 k → Pure.impl_State_orbit_L0 real s N fuel i t k acc = (true, acc ++ orb s n t k) := by
  intro n
  induction n with
  | zero =>
    intro i fuel t k acc hi hf _ _ _
    match fuel, hf with
    | fuel + 1, _ =>
      unfold Pure.impl_State_orbit_L0
      have e1 : decide ((i : Int) < (N : Int)) = false := by simp; omega
      rw [e1]; simp [orb]
  | succ n ih =>
    intro i fuel t k acc hi hf hn ht hk
    match fuel, hf with
    | fuel + 1, hf =>
      obtain ⟨_, d2, _, _, d5, d6⟩ := map_is ht hk hs
      unfold Pure.impl_State_orbit_L0
      have e1 : decide ((i : Int) < (N : Int)) = true := by simp; omega
      have e2 : decide (acc.length.succ ≤ 1073741824) = true := by simp; omega
      rw [e1, d2, e2, wrap_succ (by omega)]
      simp only [cond_true]
      rw [ih (i + 1) fuel _ _ _ (by omega) (by omega) (by simp; omega) d5 d6]
      simp [orb]

/-- A state and what the map makes of it. -/
def orbit (t k s : Int) (n : Nat) : List (List Int) := [t, k] :: orb s n t k

theorem orbit_len (t k s : Int) (n : Nat) : (orbit t k s n).length = n + 1 := by simp [orbit, orb_len]

theorem orbit_is {t k s : Int} {n : Nat} (ht : Turn t) (hk : Le .f32 0 k) (hs : Le .f32 2 s) (hn : n ≤ 128) :
    Pure.spec_l07Orbit_ok real t k s n = true ∧ Pure.impl_State_orbit_ok real t k s n = true ∧ Pure.spec_l07Orbit real t k s n = orbit t k s n ∧ Pure.impl_State_orbit real t k s n = orbit t k s n := by
  have h1 := spec_orbit hs n (((n : Int) - 0 + 1).toNat) t k [[t, k]] (by omega) (by simp; omega) ht hk
  have h2 : Pure.impl_State_orbit_L0 real s (n : Int) (((n : Int) - 0 + 1).toNat) 0 t k [[t, k]] = _ := impl_orbit hs n (by omega) n 0 (((n : Int) - 0 + 1).toNat) t k [[t, k]] (by omega) (by omega) (by simp; omega) ht hk
  unfold Pure.spec_l07Orbit_ok Pure.impl_State_orbit_ok Pure.spec_l07Orbit Pure.impl_State_orbit
  rw [h1, h2]
  exact ⟨rfl, rfl, rfl, rfl⟩

theorem law_FnExactOrbitOf (x0 x1 x2 x3 : Int) (h0 : OkF .f32 x0) (h1 : OkF .f32 x1) (h2 : OkF .f32 x2) (_ : IntKind.i64.has x3) : Pure.laws_FnExactOrbitOf_ok real x0 x1 x2 x3 = true ∧ Pure.laws_FnExactOrbitOf real x0 x1 x2 x3 = true := by
  have hi : ∃ l, l.length ≤ 129 ∧ (∀ j, j < l.length → (l.getD j []).length = 2) ∧ Pure.spec_OrbitOf_ok real x0 x1 x2 x3 = true ∧ Pure.impl_OrbitOf_ok real x0 x1 x2 x3 = true ∧ Pure.spec_OrbitOf_1 real x0 x1 x2 x3 = l ∧ Pure.impl_OrbitOf_1 real x0 x1 x2 x3 = l ∧ Pure.spec_OrbitOf real x0 x1 x2 x3 = Pure.impl_OrbitOf real x0 x1 x2 x3 := by
    have es : Pure.spec_l07Size real x2 = Pure.impl_sizeOk real x2 := rfl
    have ei : ∀ a b c, Pure.spec_l00In real a b c = Pure.impl_in real a b c := fun a b c => rfl
    unfold Pure.spec_OrbitOf_ok Pure.impl_OrbitOf_ok Pure.spec_OrbitOf Pure.impl_OrbitOf Pure.spec_OrbitOf_1 Pure.impl_OrbitOf_1 Pure.impl_stateOk
    rw [valid_is, es, ei]
    cases hv : Pure.impl_ValidState real x0 x1 with
    | false => exact ⟨[], by simp, by simp, rfl, rfl, rfl, rfl, rfl⟩
    | true =>
      cases hz : Pure.impl_sizeOk real x2 with
      | false => exact ⟨[], by simp, by simp, rfl, rfl, rfl, rfl, rfl⟩
      | true =>
        cases hc : Pure.impl_in real x3 0 128 with
        | false => exact ⟨[], by simp, by simp, rfl, rfl, rfl, rfl, rfl⟩
        | true =>
          obtain ⟨v1, v2⟩ := valid_ok h0 h1 hv
          have hc := in_iff.1 hc
          obtain ⟨n, rfl⟩ : ∃ n : Nat, x3 = n := ⟨x3.toNat, by omega⟩
          obtain ⟨m1, m2, m3, m4⟩ := orbit_is v1 v2 (sizeOk_le h2 hz) (n := n) (by omega)
          rw [m1, m2, m3, m4]
          refine ⟨orbit x0 x1 x2 n, by rw [orbit_len]; omega, fun j hj => ?_, rfl, rfl, rfl, rfl, rfl⟩
          rw [getD_some hj]
          have := List.getElem_mem hj
          unfold orbit at this
          rcases List.mem_cons.1 this with h | h
          · have e : (orbit x0 x1 x2 n)[j] = [x0, x1] := h
            rw [e]; rfl
          · exact orb_row _ _ _ _ _ h
  obtain ⟨l, hl, hl1, i1, i2, i3, i4, i5⟩ := hi
  obtain ⟨e1, e2⟩ := eqStateS_refl l (by omega)
  obtain ⟨k1, k2, k3⟩ := markStateS_eq l (by omega) hl1
  obtain ⟨g1, g2⟩ := heldStateS_eq l.length (by omega)
  unfold Pure.laws_FnExactOrbitOf_ok Pure.laws_FnExactOrbitOf
  rw [i1, i2, i3, i4, i5, e1, e2, k1, k2, k3, g1, g2]
  have d1 : decide ((1 : Int) + 2 * (l.length : Int) < 0) = false := by simp; omega
  rw [d1]
  simp
end Go.Fx
