import Derived.Test.YtmcfcijddhgphaaXr4t
import Derived.Test.YtmcfcijddhgphaaXr4h
import Derived.Test.YtmcfcijddhgphaaXWrap
import Derived.Test.YtmcfcijddhgphaaXRoot
namespace Go.Fx
theorem sameFloat_refl (c : Int) : Pure.laws_sameFloat real c c = true := by
  unfold Pure.laws_sameFloat
  rw [eql_eq_not_neq, eql_eq_not_neq]
  cases real.cmp .neq .f64 c c with
  | true => rfl
  | false => simp

theorem isFin {x : Int} (h : Fin .f32 x) : Pure.impl_IsFinite real x = true := (isfin_iff h.okF).2 h

theorem wrap_is {x : Int} (h : Fin .f32 x) : Pure.spec_l05Wrap real x = Pure.impl_WrapTurn real x ∧ Pure.spec_l05Wrap_ok real x = true ∧ Pure.impl_wrapped_ok real x = true ∧ Turn (Pure.impl_WrapTurn real x) := by
  obtain ⟨h1, h2⟩ := turn_wrap h
  obtain ⟨g1, _⟩ := turnW_is h
  unfold Pure.spec_l05Wrap Pure.impl_WrapTurn Pure.spec_l05Wrap_ok Pure.impl_wrapped_ok Pure.impl_WrapTurn_ok Pure.spec_l01Narrow Pure.spec_l01Narrow_ok
  rw [isFin h, convOk_up]
  exact ⟨h1, g1, g1, h2⟩

theorem kick_is {x : Int} (h : Le .f32 22 x) : Pure.spec_l07Kick real x = Pure.impl_WrapKick real x ∧ Pure.spec_l07Kick_ok real x = true ∧ Pure.impl_kicked_ok real x = true ∧ Le .f32 0 (Pure.impl_WrapKick real x) := by
  have h2 := kick_wrap h
  obtain ⟨g1, _⟩ := kickW_is h
  unfold Pure.spec_l07Kick Pure.impl_WrapKick Pure.spec_l07Kick_ok Pure.impl_kicked_ok Pure.impl_WrapKick_ok Pure.spec_l01Narrow Pure.spec_l01Narrow_ok
  rw [isFin h.1, convOk_up]
  exact ⟨rfl, g1, g1, h2⟩

theorem valid_is (x y : Int) : Pure.spec_l07Is real x y = Pure.impl_ValidState real x y := rfl
theorem valid_ok {x y : Int} (hx : OkF .f32 x) (hy : OkF .f32 y) (h : Pure.impl_ValidState real x y = true) : Turn x ∧ Le .f32 0 y := by
  unfold Pure.impl_ValidState at h
  simp only [Bool.cond_false_right, Bool.and_eq_true] at h
  exact state_ok hx hy h.1 h.2.1 h.2.2.1 h.2.2.2
theorem sizeOk_le {x : Int} (hx : OkF .f32 x) (h : Pure.impl_sizeOk real x = true) : Le .f32 2 x := by
  unfold Pure.impl_sizeOk at h
  simp only [Bool.cond_false_right, Bool.and_eq_true] at h
  exact size_ok hx h.1 h.2
theorem le127 {e : Nat} (h : e ≤ 127) : e ≤ top .f32 := h

theorem map_is {t k s : Int} (ht : Turn t) (hk : Le .f32 0 k) (hs : Le .f32 2 s) :
    Pure.spec_l07Map_ok real t k s = true ∧ Pure.impl_State_mapped_ok real t k s = true ∧ Pure.spec_l07Map real t k s = Pure.impl_State_damped real t k s 1065353216 ∧ Pure.spec_l07Map_1 real t k s = Pure.impl_State_damped_1 real t k s 1065353216 ∧
    Turn (Pure.impl_State_damped real t k s 1065353216) ∧ Le .f32 0 (Pure.impl_State_damped_1 real t k s 1065353216) := by
  obtain ⟨s1, s2, s3, s4⟩ := sine_is ht.fin.okF
  have s4 := s4 ht.fin
  have a1 : Le .f32 6 (real.bin .mul .f32 s (Pure.impl_SineTurns real t)) := Le.mul hs s4 (by omega) (le127 (by omega))
  have a3 : Le .f32 22 (real.bin .add .f32 k (real.bin .mul .f32 s (Pure.impl_SineTurns real t))) := Le.add (hk.mono (show 0 ≤ 6 by omega)) a1 (by omega) (le127 (by omega))
  obtain ⟨k1, k2, k3, k4⟩ := kick_is a3
  have a4 : Le .f32 1 (real.bin .add .f32 t (Pure.impl_WrapKick real (real.bin .add .f32 k (real.bin .mul .f32 s (Pure.impl_SineTurns real t))))) := Le.add ht.le k4 (by omega) (le127 (by omega))
  obtain ⟨w1, w2, w3, w4⟩ := wrap_is a4.1
  unfold Pure.spec_l07Map_ok Pure.impl_State_mapped_ok Pure.impl_State_damped_ok Pure.spec_l07Map Pure.impl_State_damped Pure.spec_l07Map_1 Pure.impl_State_damped_1
  rw [one_mul32 hk.1, s1, s2, s3, k1, k2, k3, w1, w2, w3]
  exact ⟨rfl, rfl, rfl, rfl, w4, k4⟩

theorem index_finite (xs : List (List Int)) (hl : xs.length < 4611686018427387904) : ∀ (n : Nat) (i : Nat), i ≤ xs.length → xs.length - i < n →
    (Pure.slices_IndexFunc_float32_float32_finite_L0 real xs.length xs n i).1 = true ∧
    (Pure.slices_IndexFunc_float32_float32_finite_L0 real xs.length xs n i).2.1 = ((xs.drop i).any fun r => Pure.impl_finite_c1 real (r.getD 0 0)) ∧
    0 ≤ (Pure.slices_IndexFunc_float32_float32_finite_L0 real xs.length xs n i).2.2 := by
  intro n
  induction n with
  | zero => intro i _ h; omega
  | succ n ih =>
    intro i hi hn
    unfold Pure.slices_IndexFunc_float32_float32_finite_L0
    have e0 : decide (0 ≤ (i : Int)) = true := by simp
    rcases Nat.lt_or_ge i xs.length with h | h
    · have e1 : decide ((i : Int) < (xs.length : Int)) = true := by simp; exact h
      have e2 : Decidable.decide ((i : Int) < Int.ofNat xs.length) = true := e1
      rw [e1, e0, e2]
      simp only [cond_true, Int.toNat_natCast]
      have hd : xs.drop i = xs[i] :: xs.drop (i + 1) := List.drop_eq_getElem_cons h
      rw [hd]
      simp only [List.any_cons]
      rw [getD_some h]
      cases Pure.impl_finite_c1 real (xs[i].getD 0 0) with
      | true => simp
      | false =>
        simp only [cond_false, Bool.false_or]
        rw [wrap64 (by omega) (by omega)]
        have := ih (i + 1) (by omega) (by omega)
        simpa using this
    · have e1 : decide ((i : Int) < (xs.length : Int)) = false := by simp; exact h
      rw [e1]
      have : xs.drop i = [] := List.drop_eq_nil_of_le h
      simp [this]

theorem impl_finite_eq (xs : List (List Int)) (hl : xs.length < 4611686018427387904) : Pure.impl_finite_ok real xs = true ∧ Pure.impl_finite real xs = xs.all fun r => Pure.impl_IsFinite real (r.getD 0 0) := by
  obtain ⟨h1, h2, h3⟩ := index_finite xs hl (xs.length + 1) 0 (Nat.zero_le _) (by omega)
  unfold Pure.impl_finite_ok Pure.impl_finite Pure.slices_ContainsFunc_float32_float32_finite_ok Pure.slices_ContainsFunc_float32_float32_finite Pure.slices_IndexFunc_float32_float32_finite_ok Pure.slices_IndexFunc_float32_float32_finite
  refine ⟨h1, ?_⟩
  have e : xs.all (fun r => Pure.impl_IsFinite real (r.getD 0 0)) = !((xs.drop 0).any fun r => Pure.impl_finite_c1 real (r.getD 0 0)) := by
    unfold Pure.impl_finite_c1
    rw [List.drop_zero, List.all_eq_not_any_not]
    have e2 : ∀ b : Bool, (bif b then false else true) = !b := fun b => by cases b <;> rfl
    simp only [e2]
  rw [e, ← h2]
  change (bif decide ((bif (Pure.slices_IndexFunc_float32_float32_finite_L0 real xs.length xs (xs.length + 1) 0).2.1 then (Pure.slices_IndexFunc_float32_float32_finite_L0 real xs.length xs (xs.length + 1) 0).2.2 else -1) ≥ 0) then false else true) = _
  change 0 ≤ (Pure.slices_IndexFunc_float32_float32_finite_L0 real xs.length xs (xs.length + 1) 0).2.2 at h3
  generalize (Pure.slices_IndexFunc_float32_float32_finite_L0 real xs.length xs (xs.length + 1) ((0 : Nat) : Int)) = r at *
  change (bif decide ((bif r.2.1 then r.2.2 else -1) ≥ 0) then false else true) = _
  cases hr : r.2.1 with
  | true => simp only [cond_true]; rw [decide_eq_true h3]; rfl
  | false => rfl

theorem in_iff {a b c : Int} : Pure.impl_in real a b c = true ↔ b ≤ a ∧ a ≤ c := by
  unfold Pure.impl_in
  simp only [Bool.cond_false_right, Bool.and_eq_true, decide_eq_true_eq, ge_iff_le]

theorem slopes_is {t k s : Int} (ht : Turn t) (hs : Le .f32 2 s) : Pure.spec_l07Slopes_ok real t k s = true ∧ Pure.impl_State_slopes_ok real t k s = true ∧
    Pure.spec_l07Slopes real t k s = [[Pure.impl_State_slopes real t k s], [1065353216], [Pure.impl_State_slopes_1 real t k s], [1065353216]] ∧ Le .f32 10 (Pure.impl_State_slopes real t k s) ∧ Le .f32 9 (Pure.impl_State_slopes_1 real t k s) := by
  have hq : Le .f32 0 1048576000 := Le.const (by decide +kernel)
  have h1 : Le .f32 0 1065353216 := Le.const (by decide +kernel)
  have hw : Le .f32 3 1086918619 := Le.const (by decide +kernel)
  have a1 : Le .f32 1 (real.bin .add .f32 t 1048576000) := Le.add ht.le hq (by omega) (le127 (by omega))
  obtain ⟨s1, s2, s3, s4⟩ := sine_is a1.1.okF
  have a2 : Le .f32 5 (real.bin .mul .f32 s 1086918619) := Le.mul hs hw (by omega) (le127 (by omega))
  have a3 : Le .f32 9 (real.bin .mul .f32 (real.bin .mul .f32 s 1086918619) (Pure.impl_SineTurns real (real.bin .add .f32 t 1048576000))) := Le.mul a2 (s4 a1.1) (by omega) (le127 (by omega))
  have a4 : Le .f32 10 (real.bin .add .f32 1065353216 (real.bin .mul .f32 (real.bin .mul .f32 s 1086918619) (Pure.impl_SineTurns real (real.bin .add .f32 t 1048576000)))) := Le.add (h1.mono (show 0 ≤ 9 by omega)) a3 (by omega) (le127 (by omega))
  unfold Pure.spec_l07Slopes_ok Pure.impl_State_slopes_ok Pure.spec_l07Slopes Pure.impl_State_slopes Pure.impl_State_slopes_1
  rw [s1, s2, s3]
  exact ⟨rfl, rfl, rfl, a4, a3⟩

def orb (s : Int) : Nat → Int → Int → List (List Int)
  | 0, _, _ => []
  | n + 1, t, k => [Pure.impl_State_damped real t k s 1065353216, Pure.impl_State_damped_1 real t k s 1065353216] :: orb s n (Pure.impl_State_damped real t k s 1065353216) (Pure.impl_State_damped_1 real t k s 1065353216)

theorem orb_len (s : Int) : ∀ (n : Nat) (t k : Int), (orb s n t k).length = n
  | 0, _, _ => rfl
  | n + 1, t, k => by simp [orb, orb_len s n]

theorem spec_orbit {s : Int} (hs : Le .f32 2 s) : ∀ (n fuel : Nat) (t k : Int) (acc : List (List Int)), n < fuel → n + acc.length < 1000000 → Turn t → Le .f32 0 k → Pure.spec_l07Orbit_L0 real s fuel n t k acc = (true, acc ++ orb s n t k) := by
  intro n
  induction n with
  | zero =>
    intro fuel t k acc hf _ _ _
    match fuel, hf with
    | fuel + 1, _ => unfold Pure.spec_l07Orbit_L0; simp [orb]
  | succ n ih =>
    intro fuel t k acc hf hn ht hk
    match fuel, hf with
    | fuel + 1, hf =>
      obtain ⟨d1, _, d3, d4, d5, d6⟩ := map_is ht hk hs
      unfold Pure.spec_l07Orbit_L0
      have e1 : decide (((n + 1 : Nat) : Int) > 0) = true := by simp
      have e2 : decide (acc.length.succ ≤ 1073741824) = true := by simp; omega
      rw [e1, d1, d3, d4, e2, wrap64 (n := ((n + 1 : Nat) : Int) - 1) (by omega) (by omega), show ((n + 1 : Nat) : Int) - 1 = (n : Int) by omega]
      simp only [cond_true]
      rw [ih fuel _ _ _ (by omega) (by simp; omega) d5 d6]
      simp [orb]

def orbit (t k s : Int) (n : Nat) : List (List Int) := [t, k] :: orb s n t k

theorem orbit_len (t k s : Int) (n : Nat) : (orbit t k s n).length = n + 1 := by simp [orbit, orb_len]

theorem spec_orbit_is {t k s : Int} {n : Nat} (ht : Turn t) (hk : Le .f32 0 k) (hs : Le .f32 2 s) (hn : n ≤ 128) : Pure.spec_l07Orbit_ok real t k s n = true ∧ Pure.spec_l07Orbit real t k s n = orbit t k s n := by
  have h1 := spec_orbit hs n (((n : Int) - 0 + 1).toNat) t k [[t, k]] (by omega) (by simp; omega) ht hk
  unfold Pure.spec_l07Orbit_ok Pure.spec_l07Orbit
  rw [h1]
  exact ⟨rfl, rfl⟩

def al (s : Int) : Nat → Int → Int → Int → Int → Int → Int → Int × Int × Int × Int
  | 0, _, _, a, b, c, d => (a, b, c, d)
  | n + 1, t, k, a, b, c, d => al s n (Pure.impl_State_damped real t k s 1065353216) (Pure.impl_State_damped_1 real t k s 1065353216)
      (real.bin .add .f32 (real.bin .mul .f32 (Pure.impl_State_slopes real t k s) a) (real.bin .mul .f32 1065353216 c))
      (real.bin .add .f32 (real.bin .mul .f32 (Pure.impl_State_slopes real t k s) b) (real.bin .mul .f32 1065353216 d))
      (real.bin .add .f32 (real.bin .mul .f32 (Pure.impl_State_slopes_1 real t k s) a) (real.bin .mul .f32 1065353216 c))
      (real.bin .add .f32 (real.bin .mul .f32 (Pure.impl_State_slopes_1 real t k s) b) (real.bin .mul .f32 1065353216 d))

theorem times_is (a b c d e f g h : Int) : Pure.impl_slopes_times_ok real a b c d e f g h = true ∧ Pure.impl_slopes_times real a b c d e f g h = real.bin .add .f32 (real.bin .mul .f32 a e) (real.bin .mul .f32 b g) ∧ Pure.impl_slopes_times_1 real a b c d e f g h = real.bin .add .f32 (real.bin .mul .f32 a f) (real.bin .mul .f32 b h) ∧
    Pure.impl_slopes_times_2 real a b c d e f g h = real.bin .add .f32 (real.bin .mul .f32 c e) (real.bin .mul .f32 d g) ∧ Pure.impl_slopes_times_3 real a b c d e f g h = real.bin .add .f32 (real.bin .mul .f32 c f) (real.bin .mul .f32 d h) := by
  refine ⟨by kernel_rfl, by kernel_rfl, by kernel_rfl, by kernel_rfl, by kernel_rfl⟩

theorem impl_along {s : Int} (hs : Le .f32 2 s) (N : Nat) (hN : N < 1000000) : ∀ (n i fuel : Nat) (t k a b c d : Int), i + n = N → n < fuel → Turn t → Le .f32 0 k → Pure.impl_State_along_L0 real s N 0 0 0 0 fuel i t k a b c d = (true, al s n t k a b c d) := by
  intro n
  induction n with
  | zero =>
    intro i fuel t k a b c d hi hf _ _
    match fuel, hf with
    | fuel + 1, _ =>
      unfold Pure.impl_State_along_L0
      rw [dec_ge' (show N ≤ i by omega)]; rfl
  | succ n ih =>
    intro i fuel t k a b c d hi hf ht hk
    match fuel, hf with
    | fuel + 1, hf =>
      obtain ⟨_, d2, _, _, d5, d6⟩ := map_is ht hk hs
      obtain ⟨_, m2, _, _, _⟩ := slopes_is (k := k) ht hs
      obtain ⟨q1, q2, q3, q4, q5⟩ := times_is (Pure.impl_State_slopes real t k s) 1065353216 (Pure.impl_State_slopes_1 real t k s) 1065353216 (List.getD [a] 0 0) (List.getD [b] 0 0) (List.getD [c] 0 0) (List.getD [d] 0 0)
      unfold Pure.impl_State_along_L0
      rw [dec_lt' (show i < N by omega), d2, m2, q1, q2, q3, q4, q5, wrap_succ (by omega)]
      exact ih (i + 1) fuel _ _ _ _ _ _ (by omega) (by omega) d5 d6

theorem spec_along {s : Int} (hs : Le .f32 2 s) (N : Nat) (hN : N < 1000000) (xs : List (List Int)) (hx : xs.length = N + 1) : ∀ (n i fuel : Nat) (t k a b c d : Int), i + n = N → n < fuel → xs.drop i = [t, k] :: orb s n t k → Turn t → Le .f32 0 k →
    Pure.spec_l07Along_L0 real s N xs fuel i [[a], [b], [c], [d]] = (true, [[(al s n t k a b c d).1], [(al s n t k a b c d).2.1], [(al s n t k a b c d).2.2.1], [(al s n t k a b c d).2.2.2]]) := by
  intro n
  induction n with
  | zero =>
    intro i fuel t k a b c d hi hf _ _ _
    match fuel, hf with
    | fuel + 1, _ =>
      unfold Pure.spec_l07Along_L0
      rw [dec_ge' (show N ≤ i by omega)]; rfl
  | succ n ih =>
    intro i fuel t k a b c d hi hf hd ht hk
    match fuel, hf with
    | fuel + 1, hf =>
      obtain ⟨_, d2, _, _, d5, d6⟩ := map_is ht hk hs
      obtain ⟨m1, m2, m3, _, _⟩ := slopes_is (k := k) ht hs
      have hget : xs.getD i [] = [t, k] := by
        have h1 : (xs.drop i)[0]? = some [t, k] := by rw [hd]; rfl
        rw [List.getElem?_drop, Nat.add_zero] at h1
        rw [List.getD_eq_getElem?_getD, h1]; rfl
      have hdrop : xs.drop (i + 1) = orb s (n + 1) t k := by
        have h1 : (xs.drop i).drop 1 = orb s (n + 1) t k := by rw [hd]; rfl
        rwa [List.drop_drop] at h1
      unfold Pure.spec_l07Along_L0
      rw [dec_lt' (show i < N by omega), dec_nn, dec_lt (show i < xs.length by omega), Int.toNat_natCast, hget]
      have g0 : List.getD [t, k] 0 0 = t := rfl
      have g1 : List.getD [t, k] 1 0 = k := rfl
      rw [g0, g1, m1, m3, wrap_succ (by omega)]
      exact ih (i + 1) fuel _ _ _ _ _ _ (by omega) (by omega) hdrop d5 d6

theorem along_is {t k s : Int} {n : Nat} (ht : Turn t) (hk : Le .f32 0 k) (hs : Le .f32 2 s) (hn : n ≤ 128) : ∃ a b c d, Pure.spec_l07Along_ok real t k s n = true ∧ Pure.impl_State_along_ok real t k s n = true ∧ Pure.spec_l07Along real t k s n = [[a], [b], [c], [d]] ∧
    Pure.impl_State_along real t k s n = a ∧ Pure.impl_State_along_1 real t k s n = b ∧ Pure.impl_State_along_2 real t k s n = c ∧ Pure.impl_State_along_3 real t k s n = d := by
  obtain ⟨o1, o2⟩ := spec_orbit_is ht hk hs hn
  have h1 := spec_along hs n (by omega) (orbit t k s n) (orbit_len t k s n) n 0 (((n : Int) - 0 + 1).toNat) t k 1065353216 0 0 1065353216 (by omega) (by omega) rfl ht hk
  have h2 := impl_along hs n (by omega) n 0 (((n : Int) - 0 + 1).toNat) t k 1065353216 0 0 1065353216 (by omega) (by omega) ht hk
  have h1' : Pure.spec_l07Along_L0 real s (n : Int) (orbit t k s n) (((n : Int) - 0 + 1).toNat) 0 [[1065353216], [0], [0], [1065353216]] = _ := h1
  have h2' : Pure.impl_State_along_L0 real s (n : Int) 0 0 0 0 (((n : Int) - 0 + 1).toNat) 0 t k 1065353216 0 0 1065353216 = _ := h2
  unfold Pure.spec_l07Along_ok Pure.impl_State_along_ok Pure.spec_l07Along Pure.impl_State_along Pure.impl_State_along_1 Pure.impl_State_along_2 Pure.impl_State_along_3
  rw [o1, o2, h1', h2']
  exact ⟨_, _, _, _, rfl, rfl, rfl, rfl, rfl, rfl, rfl⟩

end Go.Fx
