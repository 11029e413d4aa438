import Derived.Test.YtnlfpamdcohiiaaXr3k
import Derived.Test.YtnlfpamdcohiiaaXr3t
import Derived.Test.YtnlfpamdcohiiaaXWrap
import Derived.Test.YtnlfpamdcohiiaaF3
/- Boxes of an orbit. -/
namespace Go.Fx
set_option exponentiation.threshold 5000
theorem isFin {x : Int} (h : Fin .f32 x) : Pure.impl_IsFinite real x = true := (isfin_iff h.okF).2 h
theorem le127 {e : Nat} (h : e ≤ 127) : e ≤ top .f32 := h

theorem wrap_is {x : Int} (h : Fin .f32 x) : Pure.spec_l05Wrap real x = Pure.impl_WrapTurn real x ∧ Pure.spec_l05Wrap_ok real x = true ∧ Pure.impl_wrapped_ok real x = true ∧ Turn (Pure.impl_WrapTurn real x) := by
  obtain ⟨h1, h2⟩ := turn_wrap h
  obtain ⟨g1, _⟩ := turnW_is h
  unfold Pure.spec_l05Wrap Pure.impl_WrapTurn Pure.spec_l05Wrap_ok Pure.impl_wrapped_ok Pure.impl_WrapTurn_ok Pure.spec_l01Narrow Pure.spec_l01Narrow_ok
  rw [isFin h, convOk_up]
  exact ⟨h1, g1, g1, h2⟩

theorem coarse {x : Int} (hb : 2 ^ 147 ≤ (fv .f32 x).natAbs) : ∃ m : Int, fv .f32 x = m * ((2 ^ 124 : Nat) : Int) := by
  have ha : (fv .f32 x).natAbs = rv FloatKind.f32.format (rg .f32 x) := by unfold fv; exact sg_abs _ _
  rw [ha] at hb
  obtain ⟨d, k, e1, _, _, e4, _⟩ := rv_succ FloatKind.f32.format (rg .f32 x)
  have hbin : FloatKind.f32.format.binade = 2 ^ 23 := by decide
  rw [hbin] at e4
  have hd : 124 ≤ d := by
    rcases Nat.lt_or_ge d 124 with h | h
    · exfalso
      have h1 : k * 2 ^ d ≤ (2 ^ 24 - 1) * 2 ^ 123 := Nat.mul_le_mul (by omega) (Nat.pow_le_pow_right (by omega) (by omega))
      rw [e1] at hb
      omega
    · exact h
  refine ⟨sg (ng .f32 x) (k * 2 ^ (d - 124)), ?_⟩
  unfold fv
  rw [← sg_mul, e1, Nat.mul_assoc, two_mul_two]
  congr 3; omega

structure Kk (k : Int) : Prop where
  fin : Fin .f32 k
  ge : -(2 ^ 148) ≤ fv .f32 k
  le : fv .f32 k ≤ 2 ^ 148
theorem Kk.le0 {k : Int} (h : Kk k) : Le .f32 0 k := ⟨h.fin, by have := h.ge; have := h.le; rw [unit32]; omega⟩

theorem kickW_ge {x : Int} (h : Le .f32 22 x) : -(2 ^ 148) ≤ fv .f32 (kickW x) := by
  obtain ⟨_, hw⟩ := kickW_is h
  have hx2 := h.2
  obtain ⟨c1, c2⟩ := conv_up h.1
  have hfin := hw.1
  unfold kickW at *
  rw [unit32] at hx2
  generalize hG : ((2 ^ 925 : Nat) : Int) = G at c2
  have hG0 : 0 < G := by rw [← hG]; have := Nat.two_pow_pos 925; omega
  have hU : (unit .f64 : Int) = 2 ^ 149 * G := by rw [unit64, hG]; congr 1
  generalize real.conv .f32 .f64 x = y at *
  obtain ⟨a1, a2⟩ := k_half
  have hh : fv .f64 4602678819172646912 = 2 ^ 148 * G := by
    have h4 := unit_qt
    rw [hU] at h4
    omega
  have hr := add_rounds c1 a1
  rw [hh] at hr
  have hqt : (qt : Int) = 2 ^ 147 * G := by have h4 := unit_qt; rw [hU] at h4; omega
  have key : ∃ r1 : Fin .f64 (real.bin .add .f64 y 4602678819172646912), fv .f64 (real.integral .down (real.bin .add .f64 y 4602678819172646912)) ≤ fv .f64 y + 2 ^ 148 * G := by
    by_cases hsm : (fv .f32 x).natAbs < 2 ^ 147
    · -- near nothing
      have b1 : 2 ^ 147 * G ≤ fv .f64 y + 2 ^ 148 * G ∧ fv .f64 y + 2 ^ 148 * G ≤ 3 * (2 ^ 147 * G) := by
        have e1 : -(2 ^ 147) ≤ fv .f32 x := by omega
        have e2 : fv .f32 x ≤ 2 ^ 147 := by omega
        have m1 := Int.mul_le_mul_of_nonneg_right e1 (Int.le_of_lt hG0)
        have m2 := Int.mul_le_mul_of_nonneg_right e2 (Int.le_of_lt hG0)
        rw [Int.neg_mul] at m1
        rw [c2]
        omega
      have hq1 := has_qt (n := 1) (by decide)
      have hq3 := has_qt (n := 3) (by decide)
      rw [hqt] at hq1 hq3
      obtain ⟨r1, r2, r3⟩ := hr.within hq1 hq3 (by omega) (by omega)
      refine ⟨r1, ?_⟩
      obtain ⟨f1, f2⟩ := floor_fv r1
      rw [f2, hU]
      have : fv .f64 (real.bin .add .f64 y 4602678819172646912) / (2 ^ 149 * G) = 0 := Int.ediv_eq_zero_of_lt (by omega) (by omega)
      rw [this, Int.zero_mul]
      omega
    · obtain ⟨m, hm⟩ := coarse (x := x) (by omega)
      have hm2 : m.natAbs ≤ 2 ^ 48 := by omega
      have hs : fv .f64 y + 2 ^ 148 * G = (m + 2 ^ 24) * ((2 ^ (124 + 925) : Nat) : Int) := by
        rw [c2, hm, ← two_mul_two, Int.natCast_mul, hG, show ((2 ^ 124 : Nat) : Int) = 2 ^ 124 by decide +kernel, Int.add_mul, ← Int.mul_assoc]
        have : (2 : Int) ^ 24 * (2 ^ 124 * G) = 2 ^ 148 * G := by omega
        rw [this]
      have hhas := has_int (m + 2 ^ 24) (124 + 925) 50 (by omega) (by omega) (by omega)
      obtain ⟨r1, r2⟩ := hr.exact hhas (by rw [hs]; omega)
      refine ⟨r1, ?_⟩
      obtain ⟨f1, f2⟩ := floor_fv r1
      rw [f2, r2, ← hs]
      have hUp : (0 : Int) < unit .f64 := by have := unit_pos .f64; omega
      exact Int.ediv_mul_le _ (by omega)
  obtain ⟨r1, hfl⟩ := key
  obtain ⟨f1, _⟩ := floor_fv r1
  have hs := sub_rounds c1 f1
  have hnh : Has .f64 (-(2 ^ 148 * G)) := by
    have := has_qt (n := -2) (by decide)
    rw [hqt] at this
    have e : (-2 : Int) * (2 ^ 147 * G) = -(2 ^ 148 * G) := by omega
    rwa [e] at this
  obtain ⟨z, z1, z2⟩ := hnh
  have hge := hs.ge z z1.toNum (by rw [z2]; omega)
  rw [z2] at hge
  -- down to the narrow kind
  have sfin : Fin .f64 (real.bin .sub .f64 y (real.integral .down (real.bin .add .f64 y 4602678819172646912))) := by
    have ly : Le .f64 22 y := ⟨c1, by
      have e5 : ((unit .f64 : Nat) : Int).natAbs = unit .f64 := Int.natAbs_natCast _
      rw [← e5, hU, c2, Int.natAbs_mul, Int.natAbs_mul, ← Nat.mul_assoc]
      exact Nat.mul_le_mul_right _ hx2⟩
    have lh : Le .f64 22 4602678819172646912 := le_half.mono (by omega)
    have lr := Le.add (e := 23) ly lh (by omega) (by decide)
    obtain ⟨g1, g2⟩ := floor_fv r1
    have hUp : (0 : Int) < unit .f64 := by have := unit_pos .f64; omega
    obtain ⟨q1, q2⟩ := floor_parts (fv .f64 (real.bin .add .f64 y 4602678819172646912)) (unit .f64) hUp
    rw [← g2] at q1 q2
    have lF : Le .f64 24 (real.integral .down (real.bin .add .f64 y 4602678819172646912)) := ⟨g1, by
      have := lr.2
      generalize unit .f64 = U at *
      omega⟩
    exact (Le.sub (e := 25) (ly.mono (by omega)) lF (by omega) (by decide)).1
  have hd := down_rounds sfin
  have hgd := hd.ge 3204448256 f32_mhalf.1.toNum (by
    rw [hG]
    have e := f32_mhalf.2
    rw [unit32] at e
    have e2 : fv .f32 3204448256 = -(2 ^ 148) := by omega
    rw [e2, Int.neg_mul]; exact hge)
  have e := f32_mhalf.2
  rw [unit32] at e
  omega
theorem kick_K {x : Int} (h : Le .f32 22 x) : Kk (bif real.cmp .geq .f32 (kickW x) 1056964608 then 3204448256 else bif real.cmp .eql .f32 (kickW x) 0 then 0 else kickW x) := by
  have hk := (kickW_is h).2.1
  have hg := kickW_ge h
  obtain ⟨a1, a2⟩ := f32_half
  obtain ⟨b1, b2⟩ := f32_mhalf
  obtain ⟨z1, z2⟩ := f32_zero
  rw [unit32] at a2 b2
  refine cond_ind2 (fun _ => ⟨b1, by omega, by omega⟩) (fun hc => cond_ind ⟨z1, by rw [z2]; decide +kernel, by rw [z2]; decide +kernel⟩ ⟨hk, hg, ?_⟩)
  rw [cmp_geq hk.toNum a1.toNum] at hc
  have := of_decide_eq_false hc
  omega

theorem kick_is {x : Int} (h : Le .f32 22 x) : Pure.spec_l07Kick real x = Pure.impl_WrapKick real x ∧ Pure.spec_l07Kick_ok real x = true ∧ Pure.impl_kicked_ok real x = true ∧ Kk (Pure.impl_WrapKick real x) := by
  have h2 := kick_K h
  obtain ⟨g1, _⟩ := kickW_is h
  unfold Pure.spec_l07Kick Pure.impl_WrapKick Pure.spec_l07Kick_ok Pure.impl_kicked_ok Pure.impl_WrapKick_ok Pure.spec_l01Narrow Pure.spec_l01Narrow_ok
  rw [isFin h.1, convOk_up]
  exact ⟨rfl, g1, g1, h2⟩

theorem valid_is (x y : Int) : Pure.spec_l07Is real x y = Pure.impl_ValidState real x y := rfl
theorem valid_ok {x y : Int} (hx : OkF .f32 x) (hy : OkF .f32 y) (h : Pure.impl_ValidState real x y = true) : Turn x ∧ Kk y := by
  unfold Pure.impl_ValidState at h
  simp only [Bool.cond_false_right, Bool.and_eq_true] at h
  obtain ⟨h1, h2⟩ := state_ok hx hy h.1 h.2.1 h.2.2.1 h.2.2.2
  obtain ⟨a1, a2⟩ := f32_half
  obtain ⟨b1, b2⟩ := f32_mhalf
  rw [unit32] at a2 b2
  have g1 := h.2.2.1
  have g2 := h.2.2.2
  rw [cmp_geq h2.1.toNum b1.toNum] at g1
  rw [cmp_lss h2.1.toNum a1.toNum] at g2
  have g1 := of_decide_eq_true g1
  have g2 := of_decide_eq_true g2
  exact ⟨h1, h2.1, by omega, by omega⟩
theorem sizeOk_le {x : Int} (hx : OkF .f32 x) (h : Pure.impl_sizeOk real x = true) : Le .f32 2 x := by
  unfold Pure.impl_sizeOk at h
  simp only [Bool.cond_false_right, Bool.and_eq_true] at h
  exact size_ok hx h.1 h.2

theorem map_is {t k s : Int} (ht : Turn t) (hk : Kk k) (hs : Le .f32 2 s) :
    Pure.spec_l07Map_ok real t k s = true ∧ Pure.impl_State_mapped_ok real t k s = true ∧ Pure.spec_l07Map real t k s = Pure.impl_State_damped real t k s 1065353216 ∧ Pure.spec_l07Map_1 real t k s = Pure.impl_State_damped_1 real t k s 1065353216 ∧
    Turn (Pure.impl_State_damped real t k s 1065353216) ∧ Kk (Pure.impl_State_damped_1 real t k s 1065353216) := by
  obtain ⟨s1, s2, s3, s4⟩ := sine_is ht.fin.okF
  have s4 := s4 ht.fin
  have a1 : Le .f32 6 (real.bin .mul .f32 s (Pure.impl_SineTurns real t)) := Le.mul hs s4 (by omega) (le127 (by omega))
  have a3 : Le .f32 22 (real.bin .add .f32 k (real.bin .mul .f32 s (Pure.impl_SineTurns real t))) := Le.add (hk.le0.mono (show 0 ≤ 6 by omega)) a1 (by omega) (le127 (by omega))
  obtain ⟨k1, k2, k3, k4⟩ := kick_is a3
  have a4 : Le .f32 1 (real.bin .add .f32 t (Pure.impl_WrapKick real (real.bin .add .f32 k (real.bin .mul .f32 s (Pure.impl_SineTurns real t))))) := Le.add ht.le k4.le0 (by omega) (le127 (by omega))
  obtain ⟨w1, w2, w3, w4⟩ := wrap_is a4.1
  unfold Pure.spec_l07Map_ok Pure.impl_State_mapped_ok Pure.impl_State_damped_ok Pure.spec_l07Map Pure.impl_State_damped Pure.spec_l07Map_1 Pure.impl_State_damped_1
  rw [one_mul32 hk.fin, s1, s2, s3, k1, k2, k3, w1, w2, w3]
  exact ⟨rfl, rfl, rfl, rfl, w4, k4⟩

def orb (s : Int) : Nat → Int → Int → List (List Int)
  | 0, _, _ => []
  | n + 1, t, k => [Pure.impl_State_damped real t k s 1065353216, Pure.impl_State_damped_1 real t k s 1065353216] :: orb s n (Pure.impl_State_damped real t k s 1065353216) (Pure.impl_State_damped_1 real t k s 1065353216)

theorem orb_len (s : Int) : ∀ (n : Nat) (t k : Int), (orb s n t k).length = n
  | 0, _, _ => rfl
  | n + 1, t, k => by simp [orb, orb_len s n]

theorem spec_orbit {s : Int} (hs : Le .f32 2 s) : ∀ (n fuel : Nat) (t k : Int) (acc : List (List Int)), n < fuel → n + acc.length < 1000000 → Turn t → Kk k → Pure.spec_l07Orbit_L0 real s fuel n t k acc = (true, acc ++ orb s n t k) := by
  intro n
  induction n with
  | zero =>
    intro fuel t k acc hf _ _ _
    match fuel, hf with
    | fuel + 1, _ => unfold Pure.spec_l07Orbit_L0; simp [orb]
  | succ n ih =>
    intro fuel t k acc hf hn ht hk
    match fuel, hf with
    | fuel + 1, hf =>
      obtain ⟨d1, _, d3, d4, d5, d6⟩ := map_is ht hk hs
      unfold Pure.spec_l07Orbit_L0
      have e1 : decide (((n + 1 : Nat) : Int) > 0) = true := by simp
      have e2 : decide (acc.length.succ ≤ 1073741824) = true := by simp; omega
      rw [e1, d1, d3, d4, e2, wrap64 (n := ((n + 1 : Nat) : Int) - 1) (by omega) (by omega), show ((n + 1 : Nat) : Int) - 1 = (n : Int) by omega]
      simp only [cond_true]
      rw [ih fuel _ _ _ (by omega) (by simp; omega) d5 d6]
      simp [orb]

theorem impl_orbit {s : Int} (hs : Le .f32 2 s) (N : Nat) (hN : N < 1000000) : ∀ (n i fuel : Nat) (t k : Int) (acc : List (List Int)), i + n = N → n < fuel → n + acc.length < 1000000 → Turn t → Kk k → Pure.impl_State_orbit_L0 real s N fuel i t k acc = (true, acc ++ orb s n t k) := by
  intro n
  induction n with
  | zero =>
    intro i fuel t k acc hi hf _ _ _
    match fuel, hf with
    | fuel + 1, _ =>
      unfold Pure.impl_State_orbit_L0
      have e1 : decide ((i : Int) < (N : Int)) = false := by simp; omega
      rw [e1]; simp [orb]
  | succ n ih =>
    intro i fuel t k acc hi hf hn ht hk
    match fuel, hf with
    | fuel + 1, hf =>
      obtain ⟨_, d2, _, _, d5, d6⟩ := map_is ht hk hs
      unfold Pure.impl_State_orbit_L0
      have e1 : decide ((i : Int) < (N : Int)) = true := by simp; omega
      have e2 : decide (acc.length.succ ≤ 1073741824) = true := by simp; omega
      rw [e1, d2, e2, wrap_succ (by omega)]
      simp only [cond_true]
      rw [ih (i + 1) fuel _ _ _ (by omega) (by omega) (by simp; omega) d5 d6]
      simp [orb]

def orbit (t k s : Int) (n : Nat) : List (List Int) := [t, k] :: orb s n t k

theorem orbit_len (t k s : Int) (n : Nat) : (orbit t k s n).length = n + 1 := by simp [orbit, orb_len]

theorem orbit_is {t k s : Int} {n : Nat} (ht : Turn t) (hk : Kk k) (hs : Le .f32 2 s) (hn : n ≤ 128) :
    Pure.spec_l07Orbit_ok real t k s n = true ∧ Pure.impl_State_orbit_ok real t k s n = true ∧ Pure.spec_l07Orbit real t k s n = orbit t k s n ∧ Pure.impl_State_orbit real t k s n = orbit t k s n := by
  have h1 := spec_orbit hs n (((n : Int) - 0 + 1).toNat) t k [[t, k]] (by omega) (by simp; omega) ht hk
  have h2 : Pure.impl_State_orbit_L0 real s (n : Int) (((n : Int) - 0 + 1).toNat) 0 t k [[t, k]] = _ := impl_orbit hs n (by omega) n 0 (((n : Int) - 0 + 1).toNat) t k [[t, k]] (by omega) (by omega) (by simp; omega) ht hk
  unfold Pure.spec_l07Orbit_ok Pure.impl_State_orbit_ok Pure.spec_l07Orbit Pure.impl_State_orbit
  rw [h1, h2]
  exact ⟨rfl, rfl, rfl, rfl⟩


theorem orb_ok {s : Int} (hs : Le .f32 2 s) : ∀ (n : Nat) (t k : Int), Turn t → Kk k → ∀ r ∈ orb s n t k, Turn (r.getD 0 0) ∧ Kk (r.getD 1 0)
  | 0, _, _, _, _, r, h => by simp [orb] at h
  | n + 1, t, k, ht, hk, r, h => by
    obtain ⟨_, _, _, _, d5, d6⟩ := map_is ht hk hs
    simp only [orb, List.mem_cons] at h
    rcases h with rfl | h
    · exact ⟨d5, d6⟩
    · exact orb_ok hs n _ _ d5 d6 r h
theorem orbit_ok {t k s : Int} {n : Nat} (ht : Turn t) (hk : Kk k) (hs : Le .f32 2 s) : ∀ r ∈ orbit t k s n, Turn (r.getD 0 0) ∧ Kk (r.getD 1 0) := by
  intro r h
  simp only [orbit, List.mem_cons] at h
  rcases h with rfl | h
  · exact ⟨ht, hk⟩
  · exact orb_ok hs n t k ht hk r h

theorem box_is {m : Nat} (h1 : 1 ≤ m) (h2 : m ≤ 32) {v : Int} (hv : Fin .f32 v) (h0 : 0 ≤ fv .f32 v) (hl : fv .f32 v ≤ unit .f32) :
    Pure.impl_box_ok real m v = true ∧ real.toIntOk .f32 .i64 (real.bin .mul .f32 (real.ofInt .f32 m) v) = true ∧
    Pure.spec_l00Min real (IntKind.wrap .i64 ((m : Int) - 1)) (real.toInt .f32 .i64 (real.bin .mul .f32 (real.ofInt .f32 m) v)) = Pure.impl_box real m v ∧
    0 ≤ Pure.impl_box real m v ∧ Pure.impl_box real m v < m := by
  have hb : FloatKind.f32.format.binade = 8388608 := by decide
  obtain ⟨o1, o2⟩ := ofInt_fv (k := .f32) (n := (m : Int)) (by rw [hb]; omega)
  have hup := unit_pos .f32
  have hx : Fin .f32 (real.bin .mul .f32 (real.ofInt .f32 m) v) ∧ 0 ≤ fv .f32 (real.bin .mul .f32 (real.ofInt .f32 m) v) ∧ fv .f32 (real.bin .mul .f32 (real.ofInt .f32 m) v) ≤ m * (unit .f32 : Int) := by
    refine (mul_rounds o1 hv).within (has_zero .f32) ⟨_, o1, o2⟩ ?_ ?_
    · rw [Int.zero_mul, o2]; exact Int.mul_nonneg (Int.mul_nonneg (by omega) (by omega)) h0
    · rw [o2]; exact Int.mul_le_mul_of_nonneg_left (by omega) (Int.mul_nonneg (by omega) (by omega))
  obtain ⟨x1, x2, x3⟩ := hx
  have hm : (m : Int) * (unit .f32 : Int) ≤ 1000000 * (unit .f32 : Int) := Int.mul_le_mul_of_nonneg_right (by omega) (by omega)
  obtain ⟨f1, f2, f3, f4⟩ := floor_int x1 x2 (by omega)
  have hn : 0 ≤ real.toInt .f32 .i64 (real.bin .mul .f32 (real.ofInt .f32 m) v) := by
    rw [f4]; exact Int.ediv_nonneg x2 (by omega)
  have hw : IntKind.wrap .i64 ((m : Int) - 1) = (m : Int) - 1 := wrap64 (by omega) (by omega)
  unfold Pure.impl_box Pure.impl_box_ok Pure.spec_l00Min
  rw [convOk_up]
  simp only [f1, f2, f3, cond_true, hw]
  refine ⟨trivial, trivial, trivial, ?_, ?_⟩
  · cases hd : decide ((m : Int) - 1 < real.toInt .f32 .i64 (real.bin .mul .f32 (real.ofInt .f32 m) v)) with
    | true => simp only [cond_true]; omega
    | false => exact hn
  · cases hd : decide ((m : Int) - 1 < real.toInt .f32 .i64 (real.bin .mul .f32 (real.ofInt .f32 m) v)) with
    | true => simp only [cond_true]; omega
    | false =>
      simp only [cond_false]
      have := of_decide_eq_false hd
      omega

theorem half_up {k : Int} (hk : Kk k) : Fin .f32 (real.bin .add .f32 k 1056964608) ∧ 0 ≤ fv .f32 (real.bin .add .f32 k 1056964608) ∧ fv .f32 (real.bin .add .f32 k 1056964608) ≤ unit .f32 := by
  obtain ⟨a1, a2⟩ := f32_half
  obtain ⟨b1, b2⟩ := f32_one
  have hge := hk.ge
  have hle := hk.le
  have e : fv .f32 1056964608 = 2 ^ 148 := by rw [unit32] at a2; omega
  refine (add_rounds hk.fin a1).within (has_zero .f32) ⟨_, b1, b2⟩ ?_ ?_
  · rw [e]; omega
  · rw [e, unit32]; omega

def Marks (m : Nat) (ys zs : List (List Int)) : Prop :=
  zs.length = m * m ∧ ∀ a b : Nat, a < m → b < m → ((((zs.getD (a + m * b) []).getD 0 0 == 0) = true) ↔ hasKey ys a b = false)

theorem idx_inj {m a b c d : Nat} (ha : a < m) (hc : c < m) (h : a + m * b = c + m * d) : a = c ∧ b = d := by
  have h1 : (a + m * b) % m = a := by rw [Nat.add_mul_mod_self_left, Nat.mod_eq_of_lt ha]
  have h2 : (c + m * d) % m = c := by rw [Nat.add_mul_mod_self_left, Nat.mod_eq_of_lt hc]
  have e : a = c := by rw [← h1, ← h2, h]
  subst e
  have hm : 0 < m := by omega
  exact ⟨rfl, Nat.eq_of_mul_eq_mul_left hm (by omega)⟩

theorem idx_lt2 {m a b : Nat} (ha : a < m) (hb : b < m) : a + m * b < m * m := by
  have : m * b + m ≤ m * m := by rw [← Nat.mul_succ]; exact Nat.mul_le_mul_left _ hb
  omega

theorem has_snoc {ys : List (List Int)} {a b c d : Int} : hasKey (ys ++ [[c, d]]) a b = (hasKey ys a b || (c == a && d == b)) := by
  unfold hasKey
  rw [List.any_append]
  congr 1
  simp

theorem getD_setD {zs : List (List Int)} {i j : Nat} {r : List Int} (hi : i < zs.length) : (zs.set i r).getD j [] = if i = j then r else zs.getD j [] := by
  rw [List.getD_eq_getElem?_getD, List.getElem?_set]
  by_cases h : i = j
  · rw [if_pos h, if_pos hi, if_pos h]; rfl
  · rw [if_neg h, if_neg h, ← List.getD_eq_getElem?_getD]

theorem box_loops (xs : List (List Int)) (m : Nat) (h1 : 1 ≤ m) (h2 : m ≤ 32) (hl : xs.length < 1000000) (hx : ∀ r ∈ xs, Turn (r.getD 0 0) ∧ Kk (r.getD 1 0)) : ∀ (n i f1 f2 : Nat) (ys zs : List (List Int)), i + n = xs.length → n < f1 → n < f2 → ys.length ≤ i → Marks m ys zs →
    ∃ ws : List (List Int), ws.length ≤ xs.length ∧ Pure.impl_BoxesOf_L0 real m xs.length xs f1 i ys = (true, ws) ∧ Pure.spec_BoxesOf_L0 real m xs.length xs f2 ys.length i zs = (true, (ws.length : Int)) := by
  intro n
  induction n with
  | zero =>
    intro i f1 f2 ys zs hi hf1 hf2 hy _
    match f1, f2, hf1, hf2 with
    | f1 + 1, f2 + 1, _, _ =>
      refine ⟨ys, by omega, ?_, ?_⟩
      · unfold Pure.impl_BoxesOf_L0
        rw [decide_eq_false (by omega)]; rfl
      · unfold Pure.spec_BoxesOf_L0
        rw [decide_eq_false (by omega)]; rfl
  | succ n ih =>
    intro i f1 f2 ys zs hi hf1 hf2 hy hM
    match f1, f2, hf1, hf2 with
    | f1 + 1, f2 + 1, hf1, hf2 =>
      have hlt : i < xs.length := by omega
      obtain ⟨ht, hk⟩ := hx _ (List.getElem_mem hlt)
      have hg : xs.getD (Int.toNat (i : Int)) [] = xs[i] := by rw [Int.toNat_natCast]; exact getD_some hlt
      obtain ⟨p1, p2, p3, p4, p5⟩ := box_is h1 h2 ht.fin ht.ge (Int.le_of_lt ht.lt)
      obtain ⟨u1, u2, u3⟩ := half_up hk
      obtain ⟨q1, q2, q3, q4, q5⟩ := box_is h1 h2 u1 u2 u3
      unfold Pure.impl_BoxesOf_L0 Pure.spec_BoxesOf_L0
      rw [hg]
      have d1 : decide ((i : Int) < (xs.length : Int)) = true := decide_eq_true (by omega)
      have d2 : decide ((i : Int) < Int.ofNat xs.length) = true := decide_eq_true (by show (i : Int) < (xs.length : Int); omega)
      have d3 : decide (0 ≤ (i : Int)) = true := decide_eq_true (by omega)
      rw [d1, d2, d3, p1, p2, p3, q1, q2, q3, wrap_succ (by omega)]
      obtain ⟨a, ha⟩ : ∃ a : Nat, Pure.impl_box real m (xs[i].getD 0 0) = a := ⟨_, (Int.toNat_of_nonneg p4).symm⟩
      obtain ⟨b, hb⟩ : ∃ b : Nat, Pure.impl_box real m (real.bin .add .f32 (xs[i].getD 1 0) 1056964608) = b := ⟨_, (Int.toNat_of_nonneg q4).symm⟩
      rw [ha] at p5
      rw [hb] at q5
      rw [ha, hb]
      have ha2 : a < m := by omega
      have hb2 : b < m := by omega
      have hmb : m * b ≤ 32 * 32 := Nat.mul_le_mul h2 (by omega)
      have hx1 : IntKind.wrap .i64 ((m : Int) * (b : Int)) = ((m * b : Nat) : Int) := by rw [← Int.natCast_mul, wrap64 (by omega) (by omega)]
      have hx2 : IntKind.wrap .i64 ((a : Int) + ((m * b : Nat) : Int)) = ((a + m * b : Nat) : Int) := by rw [wrap64 (by omega) (by omega)]; omega
      have hlen := hM.1
      have hil := idx_lt2 ha2 hb2
      have c1 : decide (0 ≤ ((a + m * b : Nat) : Int)) = true := decide_eq_true (by omega)
      have c2 : decide (((a + m * b : Nat) : Int) < Int.ofNat zs.length) = true := decide_eq_true (by rw [hlen]; show ((a + m * b : Nat) : Int) < ((m * m : Nat) : Int); omega)
      have c3 : (Bool.and (decide ((-9223372036854775808 : Int) ≤ (a : Int))) (decide ((a : Int) ≤ 9223372036854775807))) = true := by
        rw [decide_eq_true (show (-9223372036854775808 : Int) ≤ (a : Int) by omega), decide_eq_true (show (a : Int) ≤ 9223372036854775807 by omega)]; rfl
      have c4 : (Bool.and (decide ((-9223372036854775808 : Int) ≤ (b : Int))) (decide ((b : Int) ≤ 9223372036854775807))) = true := by
        rw [decide_eq_true (show (-9223372036854775808 : Int) ≤ (b : Int) by omega), decide_eq_true (show (b : Int) ≤ 9223372036854775807 by omega)]; rfl
      rw [hx1, hx2, c1, c2, c3, c4, Int.toNat_natCast]
      simp only [cond_true]
      have hmark := hM.2 a b ha2 hb2
      cases hh : hasKey ys (a : Int) (b : Int) with
      | true =>
        have e0 : ((zs.getD (a + m * b) []).getD 0 0 == 0) = false := by
          cases hq : ((zs.getD (a + m * b) []).getD 0 0 == 0) with
          | false => rfl
          | true => rw [hmark.1 hq] at hh; cases hh
        rw [e0]
        simp only [cond_true, cond_false]
        exact ih (i + 1) f1 f2 ys zs (by omega) (by omega) (by omega) (by omega) hM
      | false =>
        rw [hmark.2 hh]
        simp only [cond_true, cond_false]
        have hM2 : Marks m (ys ++ [[(a : Int), (b : Int)]]) (zs.set (a + m * b) [1]) := by
          refine ⟨by rw [List.length_set]; exact hlen, fun c d hc hd => ?_⟩
          rw [has_snoc, getD_setD (by omega)]
          by_cases he : a + m * b = c + m * d
          · obtain ⟨rfl, rfl⟩ := idx_inj ha2 hc he
            rw [if_pos rfl]
            simp
          · rw [if_neg he]
            have hne : ((a : Int) == (c : Int) && (b : Int) == (d : Int)) = false := by
              cases hq : ((a : Int) == (c : Int) && (b : Int) == (d : Int)) with
              | false => rfl
              | true =>
                exfalso
                simp only [Bool.and_eq_true, beq_iff_eq] at hq
                have e1 : a = c := by omega
                have e2 : b = d := by omega
                rw [e1, e2] at he
                exact he rfl
            rw [hne, Bool.or_false]
            exact hM.2 c d hc hd
        have hw : IntKind.wrap .i64 ((ys.length : Int) + 1) = (((ys ++ [[(a : Int), (b : Int)]]).length : Nat) : Int) := by
          rw [wrap64 (by omega) (by omega)]; simp
        rw [hw]
        exact ih (i + 1) f1 f2 _ _ (by omega) (by omega) (by omega) (by simp; omega) hM2

theorem in_iff {a b c : Int} : Pure.impl_in real a b c = true ↔ b ≤ a ∧ a ≤ c := by
  unfold Pure.impl_in
  simp only [Bool.cond_false_right, Bool.and_eq_true, decide_eq_true_eq, ge_iff_le]

theorem law_FnExactBoxesOf (x0 x1 x2 x3 x4 : Int) (h0 : OkF .f32 x0) (h1 : OkF .f32 x1) (h2 : OkF .f32 x2) (_ : IntKind.i64.has x3) (_ : IntKind.i64.has x4) : Pure.laws_FnExactBoxesOf_ok real x0 x1 x2 x3 x4 = true ∧ Pure.laws_FnExactBoxesOf real x0 x1 x2 x3 x4 = true := by
  have hi : Pure.spec_BoxesOf_ok real x0 x1 x2 x3 x4 = true ∧ Pure.impl_BoxesOf_ok real x0 x1 x2 x3 x4 = true ∧ Pure.impl_BoxesOf real x0 x1 x2 x3 x4 = Pure.spec_BoxesOf real x0 x1 x2 x3 x4 ∧ Pure.impl_BoxesOf_1 real x0 x1 x2 x3 x4 = Pure.spec_BoxesOf_1 real x0 x1 x2 x3 x4 := by
    have es : Pure.spec_l07Size real x2 = Pure.impl_sizeOk real x2 := rfl
    have ei : ∀ a b c, Pure.spec_l00In real a b c = Pure.impl_in real a b c := fun a b c => rfl
    unfold Pure.spec_BoxesOf_ok Pure.impl_BoxesOf_ok Pure.spec_BoxesOf Pure.impl_BoxesOf Pure.spec_BoxesOf_1 Pure.impl_BoxesOf_1 Pure.impl_stateOk
    rw [valid_is, es, ei, ei]
    cases hv : Pure.impl_ValidState real x0 x1 with
    | false => exact ⟨rfl, rfl, rfl, rfl⟩
    | true =>
      cases hs : Pure.impl_sizeOk real x2 with
      | false => exact ⟨rfl, rfl, rfl, rfl⟩
      | true =>
        cases hc : Pure.impl_in real x3 0 128 with
        | false => exact ⟨rfl, rfl, rfl, rfl⟩
        | true =>
          cases hm : Pure.impl_in real x4 1 32 with
          | false => exact ⟨rfl, rfl, rfl, rfl⟩
          | true =>
            obtain ⟨c1, c2⟩ := in_iff.1 hc
            obtain ⟨m1, m2⟩ := in_iff.1 hm
            obtain ⟨n, rfl⟩ : ∃ n : Nat, x3 = n := ⟨x3.toNat, by omega⟩
            obtain ⟨m, rfl⟩ : ∃ m : Nat, x4 = m := ⟨x4.toNat, by omega⟩
            obtain ⟨ht, hk⟩ := valid_ok h0 h1 hv
            have hsz := sizeOk_le h2 hs
            obtain ⟨o1, o2, o3, o4⟩ := orbit_is (n := n) ht hk hsz (by omega)
            have hx := orbit_ok (n := n) ht hk hsz
            have hl := orbit_len x0 x1 x2 n
            have hmm : m * m ≤ 32 * 32 := Nat.mul_le_mul (by omega) (by omega)
            have hw : IntKind.wrap .i64 ((m : Int) * (m : Int)) = ((m * m : Nat) : Int) := by rw [← Int.natCast_mul, wrap64 (by omega) (by omega)]
            rw [o1, o2, o3, o4, hw]
            generalize orbit x0 x1 x2 n = xs at *
            have hM : Marks m [] (List.replicate (m * m) [0]) := by
              refine ⟨by simp, fun a b ha hb => ?_⟩
              have e : (List.replicate (m * m) [(0 : Int)]).getD (a + m * b) [] = [0] := by
                rw [List.getD_eq_getElem?_getD, List.getElem?_replicate, if_pos (idx_lt2 ha hb)]; rfl
              rw [e]
              simp [hasKey]
            obtain ⟨ws, w1, w2, w3⟩ := box_loops xs m (by omega) (by omega) (by omega) hx xs.length 0 (xs.length + 1) (xs.length + 1) [] _ (by omega) (by omega) (by omega) (by simp) hM
            have w2 : Pure.impl_BoxesOf_L0 real (m : Int) (Int.ofNat xs.length) xs (Nat.succ (xs.length + 0)) 0 [] = (true, ws) := w2
            have w3 : Pure.spec_BoxesOf_L0 real (m : Int) (Int.ofNat xs.length) xs (Nat.succ (xs.length + 0)) 0 0 (List.replicate (m * m) [0]) = (true, (ws.length : Int)) := w3
            rw [Int.toNat_natCast, w2, w3]
            have d1 : decide (0 ≤ ((m * m : Nat) : Int)) = true := decide_eq_true (by omega)
            have d2 : decide (((m * m : Nat) : Int) ≤ 1073741824) = true := decide_eq_true (by omega)
            have d3 : (((m * m : Nat) : Int) == ((m * m : Nat) : Int)) = true := by simp
            rw [d1, d2, d3]
            exact ⟨rfl, rfl, rfl, rfl⟩
  obtain ⟨i1, i2, i3, i4⟩ := hi
  unfold Pure.laws_FnExactBoxesOf_ok Pure.laws_FnExactBoxesOf
  rw [i1, i2, i3, i4]
  simp
end Go.Fx
