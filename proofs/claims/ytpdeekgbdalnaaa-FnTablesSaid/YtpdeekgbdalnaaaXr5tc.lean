import Derived.Test.YtpdeekgbdalnaaaXr5tb
import Derived.Test.YtpdeekgbdalnaaaF3
/- Where a fall hits its table. -/
namespace Go.Fx
open Ieee
set_option exponentiation.threshold 5000
section
variable {S R K P A V T x x' : Int} (D : Draw S R K P A V T)
include D
theorem gA_nr (hx : Tm x) (hx' : Tm x') (h : Nr .f32 (2 ^ 132) x x') : Nr .f32 (2 ^ 139) (gA A V P x) (gA A V P x') := by
  obtain ⟨m1, m2, q1, q2, _⟩ := gA_parts D hx
  obtain ⟨m1', m2', q1', q2', _⟩ := gA_parts D hx'
  have n1 := (mul_nr32 130 (2 ^ 133) hx.bd D.vb hx'.bd D.vb (by decide +kernel) (by omega) h (Nr.refl _ _) (by decide +kernel)).mono (show 2 ^ 133 + 2 * 2 ^ 130 ≤ 2 ^ 133 + 2 ^ 131 by decide +kernel)
  have n2 := (add_nr32 131 D.ab m1 D.ab m1' (by decide +kernel) (by omega) (Nr.refl _ _) n1).mono (show 0 + (2 ^ 133 + 2 ^ 131) + 2 * 2 ^ 131 ≤ 2 ^ 134 by decide +kernel)
  have n3 := (mul_nr32 130 (2 ^ 133) D.qb hx.bd D.qb hx'.bd (by decide +kernel) (by omega) (Nr.refl _ _) h (by decide +kernel)).mono (show 2 ^ 133 + 2 * 2 ^ 130 ≤ 2 ^ 133 + 2 ^ 131 by decide +kernel)
  have n4 := (mul_nr32 134 (2 ^ 138 + 2 ^ 135) q1 hx.bd q1' hx'.bd (by decide +kernel) (by omega) n3 h (by decide +kernel)).mono (show 2 ^ 138 + 2 ^ 135 + 2 * 2 ^ 134 ≤ 2 ^ 138 + 2 ^ 136 by decide +kernel)
  exact (sub_nr32 135 m2 q2 m2' q2' (by decide +kernel) (by omega) n2 n4).mono (by decide +kernel)

theorem hA_nr (hx : Tm x) (hx' : Tm x') (h : Nr .f32 (2 ^ 132) x x') : Nr .f32 (2 ^ 140 + 2 ^ 125) (hA S R (gT T x)) (hA S R (gT T x')) := by
  obtain ⟨u1, u2⟩ := gT_bd D hx
  obtain ⟨u1', u2'⟩ := gT_bd D hx'
  have n1 := (add_nr32 130 D.tb hx.bd D.tb hx'.bd (by decide +kernel) (by omega) (Nr.refl _ _) h).mono (show 0 + 2 ^ 132 + 2 * 2 ^ 130 ≤ 2 ^ 132 + 2 ^ 131 by decide +kernel)
  have n2 := (mul_nr32 131 (2 ^ 133 + 2 ^ 132) D.rb u1 D.rb u1' (by decide +kernel) (by omega) (Nr.refl _ _) n1 (by decide +kernel)).mono (show 2 ^ 133 + 2 ^ 132 + 2 * 2 ^ 131 ≤ 2 ^ 134 by decide +kernel)
  obtain ⟨a1, a2⟩ := arg_bd D u1 u2
  obtain ⟨b1, b2⟩ := arg_bd D u1' u2'
  have n3 := sineV_nr a1.1 a2 (by have := a1.2; omega) b1.1 b2 (by have := b1.2; omega) n2
  exact (mul_nr32 124 (2 ^ 140) D.sb (hA_bd D u1 u2).2.2.2 D.sb (hA_bd D u1' u2').2.2.2 (by decide +kernel) (by omega) (Nr.refl _ _) n3 (by decide +kernel)).mono (by decide +kernel)

theorem above_0 (hx : Tm x) (h0 : fv .f32 x = 0) : fv .f32 (hA S R (gT T x)) ≤ fv .f32 (gA A V P x) := by
  have xb : Bd .f32 0 x := ⟨hx.fin, by rw [h0]; exact Nat.le_refl _⟩
  obtain ⟨u1, u2⟩ := gT_bd D hx
  have hh := (hA_bd D u1 u2).1.2
  obtain ⟨m1, m2⟩ := mul32 0 xb D.vb (by decide +kernel) (by omega)
  have m1' := m1.mono (show 2 ^ 0 * 2 ^ 24 ≤ 2 ^ 24 by decide +kernel)
  obtain ⟨s1, s2⟩ := add32 127 D.ab m1' (by decide +kernel) (by omega)
  obtain ⟨q1, q2⟩ := mul32 0 D.qb xb (by decide +kernel) (by omega)
  have q1' := q1.mono (show 2 ^ 0 * 2 ^ 24 ≤ 2 ^ 24 by decide +kernel)
  obtain ⟨r1, r2⟩ := mul32 0 q1' xb (by decide +kernel) (by omega)
  obtain ⟨g1, g2⟩ := sub32 128 s1 r1 (by decide +kernel) (by omega)
  have := D.a0
  have b1 := m1.2
  have b2 := r1.2
  unfold gA
  omega

theorem below_16 (hx : Tm x) (h0 : fv .f32 x = 2 ^ 153) : fv .f32 (gA A V P x) < fv .f32 (hA S R (gT T x)) := by
  obtain ⟨u1, u2⟩ := gT_bd D hx
  have hh := (hA_bd D u1 u2).1.2
  obtain ⟨m1, m2⟩ := mul32 130 hx.bd D.vb (by decide +kernel) (by omega)
  have m1' := m1.mono (show 2 ^ 130 * 2 ^ 24 ≤ 2 ^ 154 by decide +kernel)
  obtain ⟨s1, s2⟩ := add32 131 D.ab m1' (by decide +kernel) (by omega)
  have s1' := s1.mono (show 2 ^ 131 * 2 ^ 24 ≤ 2 ^ 155 by decide +kernel)
  obtain ⟨q1, q2⟩ := mul32 130 D.qb hx.bd (by decide +kernel) (by omega)
  have q1' := q1.mono (show 2 ^ 130 * 2 ^ 24 ≤ 2 ^ 154 by decide +kernel)
  obtain ⟨r1, r2⟩ := mul32 134 q1' hx.bd (by decide +kernel) (by omega)
  have r1' := r1.mono (show 2 ^ 134 * 2 ^ 24 ≤ 2 ^ 158 by decide +kernel)
  obtain ⟨g1, g2⟩ := sub32 135 s1' r1' (by decide +kernel) (by omega)
  have a1 := D.a1
  have p0 := D.p0
  have e0 := D.q0
  have v1 := D.v1
  rw [h0] at m2 q2 r2
  unfold gA
  omega

structure Br (S R P A V T lo hi : Int) (W : Nat) : Prop where
  tl : Tm lo
  th : Tm hi
  w : Nr .f32 W lo hi
  above : fv .f32 (hA S R (gT T lo)) ≤ fv .f32 (gA A V P lo)
  below : fv .f32 (gA A V P hi) < fv .f32 (hA S R (gT T hi))

omit D in
theorem mid_is {lo hi : Int} (h1 : Tm lo) (h2 : Tm hi) : Tm (real.bin .quo .f32 (real.bin .add .f32 lo hi) 1073741824) ∧ (2 * fv .f32 (real.bin .quo .f32 (real.bin .add .f32 lo hi) 1073741824) - (fv .f32 lo + fv .f32 hi)).natAbs ≤ 2 ^ 131 := by
  rw [half_quo]
  obtain ⟨a1, a2⟩ := add32 130 h1.bd h2.bd (by decide +kernel) (by omega)
  have a3 := add_nonneg h1.fin h2.fin h1.ge h2.ge
  obtain ⟨k1, k2⟩ : Fin .f32 1056964608 ∧ fv .f32 1056964608 = 2 ^ 148 := ⟨⟨by decide, by decide +kernel, by decide +kernel⟩, by decide +kernel⟩
  obtain ⟨l1, l2⟩ : Has .f32 (2 ^ 154 : Int) ∧ Has .f32 (2 ^ 153 : Int) := ⟨⟨1107296256, ⟨by decide, by decide +kernel, by decide +kernel⟩, by decide +kernel⟩, ⟨1098907648, ⟨by decide, by decide +kernel, by decide +kernel⟩, by decide +kernel⟩⟩
  have hz : Has .f32 (0 : Int) := ⟨0, (fin_zero .f32).1, (fin_zero .f32).2⟩
  have s1 := (add_rounds h1.fin h2.fin).within hz l1 (by have := h1.ge; have := h2.ge; omega) (by have := h1.le; have := h2.le; omega)
  generalize real.bin .add .f32 lo hi = s at *
  have kb : Bd .f32 (2 ^ 148) 1056964608 := ⟨k1, by rw [k2]; decide +kernel⟩
  obtain ⟨m1, m2⟩ := mul32 129 kb a1 (by decide +kernel) (by omega)
  have m3 := (mul_rounds k1 s1.1).within hz l2 (by rw [k2, unit32]; omega) (by rw [k2, unit32]; omega)
  rw [k2] at m2
  exact ⟨⟨m3.1, m3.2.1, m3.2.2⟩, by omega⟩

theorem halve (n : Nat) : ∀ (i lo hi : Int) (fuel W : Nat), i = 20 - (n : Int) → n ≤ 20 → n < fuel → W ≤ 2 ^ (n + 125) + 2 ^ 131 → Br S R P A V T lo hi W →
    ∃ lo' hi', Pure.impl_NextHit_L2 real S R K P A V T fuel lo hi i = (true, false, lo', 0) ∧ Br S R P A V T lo' hi' (2 ^ 132) := by
  induction n with
  | zero =>
    intro i lo hi fuel W hi0 _ hf hW hb
    match fuel, hf with
    | fuel + 1, _ =>
      refine ⟨lo, hi, ?_, ⟨hb.tl, hb.th, hb.w.mono (by omega), hb.above, hb.below⟩⟩
      unfold Pure.impl_NextHit_L2
      rw [decide_eq_false (by omega)]; rfl
  | succ n ih =>
    intro i lo hi fuel W hi0 hn hf hW hb
    match fuel, hf with
    | fuel + 1, hf =>
      unfold Pure.impl_NextHit_L2
      rw [decide_eq_true (show i < 20 by omega)]
      obtain ⟨m1, m2⟩ := mid_is hb.tl hb.th
      generalize real.bin .quo .f32 (real.bin .add .f32 lo hi) 1073741824 = x at *
      obtain ⟨u1, u2, u3⟩ := under_is D m1
      rw [u1, u2, u3, wrap64 (n := i + 1) (by omega) (by omega)]
      have hw := hb.w
      have hp : 2 ^ (n + 1 + 125) = 2 * 2 ^ (n + 125) := by rw [show n + 1 + 125 = (n + 125) + 1 by omega, Nat.pow_succ]; omega
      rw [hp] at hW
      simp only [cond_true]
      by_cases hc : fv .f32 (gA A V P x) < fv .f32 (hA S R (gT T x))
      · rw [decide_eq_true hc]
        simp only [cond_true]
        refine ih (i + 1) lo x fuel (2 ^ (n + 125) + 2 ^ 131) (by omega) (by omega) (by omega) (Nat.le_refl _) ⟨hb.tl, m1, ?_, hb.above, hc⟩
        unfold Nr at *
        generalize 2 ^ (n + 125) = Z at *
        omega
      · rw [decide_eq_false hc]
        simp only [cond_false]
        refine ih (i + 1) x hi fuel (2 ^ (n + 125) + 2 ^ 131) (by omega) (by omega) (by omega) (Nat.le_refl _) ⟨m1, hb.th, ?_, by omega, hb.below⟩
        unfold Nr at *
        generalize 2 ^ (n + 125) = Z at *
        omega

omit D in
theorem tick_is {k : Int} (h0 : 0 ≤ k) (h1 : k ≤ 256) : Tm (real.bin .mul .f32 (real.ofInt .f32 k) 1031798784) ∧ fv .f32 (real.bin .mul .f32 (real.ofInt .f32 k) 1031798784) = k * 2 ^ 145 := by
  obtain ⟨c1, c2⟩ := ofInt_fv (k := .f32) (n := k) (by rw [bin32]; omega)
  obtain ⟨k1, k2⟩ : Fin .f32 1031798784 ∧ fv .f32 1031798784 = 2 ^ 145 := ⟨⟨by decide, by decide +kernel, by decide +kernel⟩, by decide +kernel⟩
  rw [unit32] at c2
  have hg := has_grid (k := .f32) (q := k) (d := 145) (by rw [bin32]; omega) (by rw [bin32, big32]; decide +kernel)
  have hg' : Has .f32 (k * 2 ^ 145) := by
    have e : ((2 ^ 145 : Nat) : Int) = 2 ^ 145 := by decide +kernel
    rw [e] at hg; exact hg
  obtain ⟨r1, r2⟩ := (mul_rounds c1 k1).exact hg' (by
    rw [c2, k2, unit32, show ((2 ^ 149 : Nat) : Int) = 2 ^ 149 by decide +kernel]
    omega)
  exact ⟨⟨r1, by rw [r2]; omega, by rw [r2]; omega⟩, r2⟩

theorem search (m : Nat) : ∀ (k : Int) (fuel : Nat), k = 256 - (m : Int) → 0 < m → m ≤ 256 → m < fuel → fv .f32 (hA S R (gT T (real.bin .mul .f32 (real.ofInt .f32 k) 1031798784))) ≤ fv .f32 (gA A V P (real.bin .mul .f32 (real.ofInt .f32 k) 1031798784)) →
    ∃ j : Int, k < j ∧ j ≤ 256 ∧ Pure.impl_NextHit_L0 real 1031798784 256 S R K P A V T fuel k false = (true, false, j, true, 0, false) ∧
      fv .f32 (hA S R (gT T (real.bin .mul .f32 (real.ofInt .f32 (j - 1)) 1031798784))) ≤ fv .f32 (gA A V P (real.bin .mul .f32 (real.ofInt .f32 (j - 1)) 1031798784)) ∧
      fv .f32 (gA A V P (real.bin .mul .f32 (real.ofInt .f32 j) 1031798784)) < fv .f32 (hA S R (gT T (real.bin .mul .f32 (real.ofInt .f32 j) 1031798784))) := by
  induction m with
  | zero => intro _ _ _ h; omega
  | succ m ih =>
    intro k fuel hk _ hm hf habove
    match fuel, hf with
    | fuel + 1, hf =>
      unfold Pure.impl_NextHit_L0
      rw [decide_eq_true (show k < 256 by omega), wrap64 (n := k + 1) (by omega) (by omega)]
      obtain ⟨t1, t2⟩ := tick_is (k := k + 1) (by omega) (by omega)
      obtain ⟨u1, u2, u3⟩ := under_is D t1
      rw [u1, u2, u3]
      simp only [cond_true, cond_false]
      by_cases hc : fv .f32 (gA A V P (real.bin .mul .f32 (real.ofInt .f32 (k + 1)) 1031798784)) < fv .f32 (hA S R (gT T (real.bin .mul .f32 (real.ofInt .f32 (k + 1)) 1031798784)))
      · refine ⟨k + 1, by omega, by omega, ?_, by rw [show k + 1 - 1 = k by omega]; exact habove, hc⟩
        rw [decide_eq_true hc]
        match fuel, hf with
        | fuel + 1, _ =>
          unfold Pure.impl_NextHit_L0
          by_cases hl : k + 1 < 256
          · rw [decide_eq_true hl]; rfl
          · rw [decide_eq_false hl]; rfl
      · have hm0 : 0 < m := by
          rcases Nat.eq_zero_or_pos m with h0 | h0
          · exfalso
            apply hc
            refine below_16 D t1 ?_
            rw [t2, show k + 1 = 256 by omega]; decide +kernel
          · exact h0
        rw [decide_eq_false hc]
        obtain ⟨j, j1, j2, j3, j4, j5⟩ := ih (k + 1) fuel (by omega) hm0 (by omega) (by omega) (by omega)
        exact ⟨j, by omega, j2, j3, j4, j5⟩

theorem hit_found : ∃ lo hi, Pure.impl_NextHit_ok real S R K P A V T 1031798784 256 = true ∧ Pure.impl_NextHit_1 real S R K P A V T 1031798784 256 = true ∧ Pure.impl_NextHit real S R K P A V T 1031798784 256 = lo ∧ Br S R P A V T lo hi (2 ^ 132) := by
  obtain ⟨f1, f2⟩ := fall_gen D D.a D.v D.t
  have tk : Pure.impl_lengthOk real 1031798784 = true := by decide +kernel
  have ink : Pure.impl_in real 256 1 256 = true := by decide +kernel
  obtain ⟨z1, z2⟩ := tick_is (k := 0) (by omega) (by omega)
  obtain ⟨j, j1, j2, j3, j4, j5⟩ := search D 256 0 257 (by omega) (by omega) (by omega) (by omega) (above_0 D z1 (by rw [z2]; omega))
  obtain ⟨a1, a2⟩ := tick_is (k := j - 1) (by omega) (by omega)
  obtain ⟨b1, b2⟩ := tick_is (k := j) (by omega) (by omega)
  obtain ⟨lo, hi, l1, l2⟩ := halve D 20 0 _ _ 21 (2 ^ 145) (by omega) (by omega) (by omega) (by decide +kernel) ⟨a1, b1, by unfold Nr; rw [a2, b2]; omega, j4, j5⟩
  refine ⟨lo, hi, ?_, ?_, ?_, l2⟩
  · unfold Pure.impl_NextHit_ok
    have e : Int.toNat ((256 : Int) - 0 + 1) = 257 := by decide
    rw [f1, f2, tk, ink, e, j3]
    simp only [cond_true, cond_false]
    rw [wrap64 (n := j - 1) (by omega) (by omega), l1]
  · unfold Pure.impl_NextHit_1
    have e : Int.toNat ((256 : Int) - 0 + 1) = 257 := by decide
    rw [f2, tk, ink, e, j3]
    simp only [cond_true, cond_false]
    rw [wrap64 (n := j - 1) (by omega) (by omega), l1]; rfl
  · unfold Pure.impl_NextHit
    have e : Int.toNat ((256 : Int) - 0 + 1) = 257 := by decide
    rw [f2, tk, ink, e, j3]
    simp only [cond_true, cond_false]
    rw [wrap64 (n := j - 1) (by omega) (by omega), l1]; rfl

theorem hit_near {lo hi : Int} (h : Br S R P A V T lo hi (2 ^ 132)) : Nr .f32 (2 ^ 141) (gA A V P lo) (hA S R (gT T lo)) := by
  have n1 := gA_nr D h.tl h.th h.w
  have n2 := hA_nr D h.tl h.th h.w
  have := h.above
  have := h.below
  unfold Nr at *
  omega
end
end Go.Fx
