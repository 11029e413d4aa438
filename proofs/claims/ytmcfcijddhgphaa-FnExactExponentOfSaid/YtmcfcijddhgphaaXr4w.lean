import Derived.Test.YtmcfcijddhgphaaXr4u
import Derived.Test.YtmcfcijddhgphaaXr4i
import Derived.Test.YtmcfcijddhgphaaXRoot2
import Derived.Test.YtmcfcijddhgphaaXr4k
import Derived.Test.YtmcfcijddhgphaaXDbl
import Derived.Test.YtmcfcijddhgphaaXFin
namespace Go.Fx
theorem isInf_is (x : Int) : Pure.math_IsInf real x 1 = real.cmp .gtr .f64 x 9218868437227405311 := rfl

theorem spec_L5 (a b c : Int) : ∀ (n : Nat) (s k : Int), Pure.spec_l01LogWide_L5 real a b c n s k = Pure.impl_logOf_L5 real 0 0 c n s k := by
  intro n
  induction n with
  | zero => intro s k; rfl
  | succ n ih =>
    intro s k
    unfold Pure.spec_l01LogWide_L5 Pure.impl_logOf_L5
    rw [ih]

theorem impl_L5 (a b c : Int) : ∀ (n : Nat) (s k : Int), Pure.impl_logOf_L5 real a b c n s k = Pure.impl_logOf_L5 real 0 0 c n s k := by
  intro n
  induction n with
  | zero => intro s k; rfl
  | succ n ih =>
    intro s k
    unfold Pure.impl_logOf_L5
    rw [ih]

/-- What both loops come to. -/
def Mid (z j : Int) : Prop := Fin .f64 z ∧ 3 * (unit .f64 : Int) ≤ 4 * fv .f64 z ∧ 2 * fv .f64 z < 3 * (unit .f64 : Int) ∧ j.natAbs ≤ 1000

theorem lss_34 {y : Int} (h : Fin .f64 y) : real.cmp .lss .f64 y 4604930618986332160 = decide (4 * fv .f64 y < 3 * (unit .f64 : Int)) := by
  rw [cmp_lss h.toNum k_three4.1.toNum]
  have hc := k_three4.2
  generalize fv .f64 4604930618986332160 = c at *
  exact decide_eq_decide.2 (by constructor <;> intro _ <;> omega)

theorem geq_32 {y : Int} (h : Fin .f64 y) : real.cmp .geq .f64 y 4609434218613702656 = decide (3 * (unit .f64 : Int) ≤ 2 * fv .f64 y) := by
  rw [cmp_geq h.toNum k_three2.1.toNum]
  have hc := k_three2.2
  generalize fv .f64 4609434218613702656 = c at *
  exact decide_eq_decide.2 (by constructor <;> intro _ <;> omega)

theorem up_loops : ∀ (m f1 f2 : Nat) (y i : Int), Fin .f64 y → 0 < fv .f64 y → 2 * fv .f64 y < 3 * (unit .f64 : Int) → (unit .f64 : Int) ≤ fv .f64 y * (2 ^ m : Nat) → m < f1 → m < f2 → -800 + m ≤ i → i ≤ 0 →
    ∃ z j, Pure.spec_l01LogWide_L3 real f1 y i = (true, z, j) ∧ Pure.impl_logOf_L1 real f2 y (real.ofInt .f64 i) = (true, z, real.ofInt .f64 j) ∧ Mid z j := by
  intro m
  induction m with
  | zero =>
    intro f1 f2 y i h h0 hlt hm h1 h2 hi1 hi2
    obtain ⟨f1, rfl⟩ : ∃ g, f1 = g + 1 := ⟨f1 - 1, by omega⟩
    obtain ⟨f2, rfl⟩ : ∃ g, f2 = g + 1 := ⟨f2 - 1, by omega⟩
    have hs : ¬ 4 * fv .f64 y < 3 * (unit .f64 : Int) := by simp at hm; omega
    unfold Pure.spec_l01LogWide_L3 Pure.impl_logOf_L1
    rw [lss_34 h, decide_eq_false hs]
    exact ⟨y, i, rfl, rfl, h, by omega, hlt, by omega⟩
  | succ m ih =>
    intro f1 f2 y i h h0 hlt hm h1 h2 hi1 hi2
    obtain ⟨f1, rfl⟩ : ∃ g, f1 = g + 1 := ⟨f1 - 1, by omega⟩
    obtain ⟨f2, rfl⟩ : ∃ g, f2 = g + 1 := ⟨f2 - 1, by omega⟩
    unfold Pure.spec_l01LogWide_L3 Pure.impl_logOf_L1
    by_cases hs : 4 * fv .f64 y < 3 * (unit .f64 : Int)
    · obtain ⟨d1, d2⟩ := dbl h (by omega) (by omega)
      rw [lss_34 h, decide_eq_true hs, cnt_down (by omega) hi2, wrap64 (by omega) (by omega)]
      simp only [cond_true]
      refine ih f1 f2 _ (i - 1) d1 (by rw [d2]; omega) (by rw [d2]; omega) ?_ (by omega) (by omega) (by omega) (by omega)
      rw [d2]
      have e : 2 * fv .f64 y * ((2 ^ m : Nat) : Int) = fv .f64 y * ((2 ^ (m + 1) : Nat) : Int) := by
        rw [Nat.pow_succ]; push_cast; rw [Int.mul_comm 2, Int.mul_assoc, Int.mul_comm 2]
      rw [e]; exact hm
    · rw [lss_34 h, decide_eq_false hs]
      exact ⟨y, i, rfl, rfl, h, by omega, hlt, by omega⟩

theorem down_loops : ∀ (m f1 f2 : Nat) (y i : Int), Fin .f64 y → 3 * (unit .f64 : Int) ≤ 4 * fv .f64 y → fv .f64 y ≤ ((2 ^ m * unit .f64 : Nat) : Int) → m < f1 → m < f2 → m ≤ 200 → 0 ≤ i → i + m ≤ 800 →
    ∃ z j, Pure.spec_l01LogWide_L1 real f1 y i = (true, z, j) ∧ Pure.impl_logOf_L3 real f2 y (real.ofInt .f64 i) = (true, z, real.ofInt .f64 j) ∧ Mid z j := by
  intro m
  induction m with
  | zero =>
    intro f1 f2 y i h h0 hm h1 h2 hm2 hi1 hi2
    obtain ⟨f1, rfl⟩ : ∃ g, f1 = g + 1 := ⟨f1 - 1, by omega⟩
    obtain ⟨f2, rfl⟩ : ∃ g, f2 = g + 1 := ⟨f2 - 1, by omega⟩
    have hup := unit_pos .f64
    have hs : ¬ 3 * (unit .f64 : Int) ≤ 2 * fv .f64 y := by rw [Nat.pow_zero, Nat.one_mul] at hm; omega
    unfold Pure.spec_l01LogWide_L1 Pure.impl_logOf_L3
    rw [geq_32 h, decide_eq_false hs]
    exact ⟨y, i, rfl, rfl, h, h0, by omega, by omega⟩
  | succ m ih =>
    intro f1 f2 y i h h0 hm h1 h2 hm2 hi1 hi2
    obtain ⟨f1, rfl⟩ : ∃ g, f1 = g + 1 := ⟨f1 - 1, by omega⟩
    obtain ⟨f2, rfl⟩ : ∃ g, f2 = g + 1 := ⟨f2 - 1, by omega⟩
    unfold Pure.spec_l01LogWide_L1 Pure.impl_logOf_L3
    by_cases hs : 3 * (unit .f64 : Int) ≤ 2 * fv .f64 y
    · obtain ⟨d1, d2, d3⟩ := hlv h hs hm (by omega)
      rw [geq_32 h, decide_eq_true hs, cnt_up hi1 (by omega), wrap64 (by omega) (by omega)]
      simp only [cond_true]
      exact ih f1 f2 _ (i + 1) d1 d2 d3 (by omega) (by omega) (by omega) (by omega) (by omega)
    · rw [geq_32 h, decide_eq_false hs]
      exact ⟨y, i, rfl, rfl, h, h0, by omega, by omega⟩

theorem mid_loops {y : Int} (h : Fin .f64 y) (h0 : 0 < fv .f64 y) (hlo : (unit .f64 : Int) ≤ fv .f64 y * (2 ^ 149 : Nat)) (hhi : fv .f64 y ≤ ((2 ^ 128 * unit .f64 : Nat) : Int)) :
    ∃ y1 e1 w c z j, Pure.spec_l01LogWide_L1 real 3000 y 0 = (true, y1, e1) ∧ Pure.spec_l01LogWide_L3 real 3000 y1 e1 = (true, z, j) ∧ Pure.impl_logOf_L1 real 3000 y 0 = (true, w, c) ∧ Pure.impl_logOf_L3 real 3000 w c = (true, z, real.ofInt .f64 j) ∧ Mid z j := by
  by_cases hs : 3 * (unit .f64 : Int) ≤ 2 * fv .f64 y
  · obtain ⟨z, j, g1, g2, g3⟩ := down_loops 128 3000 3000 y 0 h (by omega) hhi (by omega) (by omega) (by omega) (by omega) (by omega)
    refine ⟨z, j, y, 0, z, j, g1, ?_, ?_, by rw [← cnt_zero]; exact g2, g3⟩
    · have e : Pure.spec_l01LogWide_L3 real (2999 + 1) z j = (true, z, j) := by
        unfold Pure.spec_l01LogWide_L3
        have := g3.2.1
        rw [lss_34 g3.1, decide_eq_false (by omega)]; rfl
      exact e
    · have e : Pure.impl_logOf_L1 real (2999 + 1) y 0 = (true, y, 0) := by
        unfold Pure.impl_logOf_L1
        rw [lss_34 h, decide_eq_false (by omega)]; rfl
      exact e
  · obtain ⟨z, j, g1, g2, g3⟩ := up_loops 149 3000 3000 y 0 h h0 (by omega) hlo (by omega) (by omega) (by omega) (by omega)
    refine ⟨y, 0, z, real.ofInt .f64 j, z, j, ?_, g1, by rw [← cnt_zero]; exact g2, ?_, g3⟩
    · have e : Pure.spec_l01LogWide_L1 real (2999 + 1) y 0 = (true, y, 0) := by
        unfold Pure.spec_l01LogWide_L1
        rw [geq_32 h, decide_eq_false hs]; rfl
      exact e
    · have e : Pure.impl_logOf_L3 real (2999 + 1) z (real.ofInt .f64 j) = (true, z, real.ofInt .f64 j) := by
        unfold Pure.impl_logOf_L3
        have := g3.2.2.1
        rw [geq_32 g3.1, decide_eq_false (by omega)]; rfl
      exact e

theorem quo_small {x y : Int} {e : Nat} (hx : Le .f64 e x) (hy : Fin .f64 y) (h1 : (unit .f64 : Int) ≤ fv .f64 y) (he : e + 1 ≤ 1000) : Le .f64 (e + 1) (real.bin .quo .f64 x y) := by
  have hup := unit_pos .f64
  obtain ⟨q1, q2, q3⟩ := quo_bound hx.1 hy (by omega) (has_two (k := .f64) (e := e + 1) he) (by omega) (by
    have hxl := hx.2
    have e1 : ((2 ^ (e + 1) * unit .f64 : Nat) : Int) = 2 * ((2 ^ e * unit .f64 : Nat) : Int) := by rw [Nat.pow_succ, Nat.mul_comm (2 ^ e) 2, Nat.mul_assoc]; push_cast; rfl
    rw [e1]
    generalize ((2 ^ e * unit .f64 : Nat)) = B at *
    have ha : ((fv .f64 y).natAbs : Int) = fv .f64 y := by omega
    rw [ha]
    have s1 : ((fv .f64 x).natAbs : Int) * unit .f64 ≤ (B : Int) * unit .f64 := Int.mul_le_mul_of_nonneg_right (by omega) (by omega)
    have s2 : (B : Int) * unit .f64 ≤ (B : Int) * fv .f64 y := Int.mul_le_mul_of_nonneg_left h1 (by omega)
    rw [Int.mul_assoc, Int.mul_assoc]
    omega)
  exact ⟨q1, by omega⟩

theorem l5_le {c : Int} (hc : Le .f64 6 c) : ∀ (m n : Nat) (s k : Int), k = 2 * (m : Int) - 1 → m ≤ 13 → m < n → Le .f64 (7 * (13 - m) + 1) s → (Pure.impl_logOf_L5 real 0 0 c n s k).1 = true ∧ Le .f64 92 (Pure.impl_logOf_L5 real 0 0 c n s k).2 := by
  intro m
  induction m with
  | zero =>
    intro n s k hk hm hn hs
    obtain ⟨n, rfl⟩ : ∃ g, n = g + 1 := ⟨n - 1, by omega⟩
    unfold Pure.impl_logOf_L5
    rw [decide_eq_false (by omega)]
    exact ⟨rfl, hs⟩
  | succ m ih =>
    intro n s k hk hm hn hs
    obtain ⟨n, rfl⟩ : ∃ g, n = g + 1 := ⟨n - 1, by omega⟩
    unfold Pure.impl_logOf_L5
    rw [decide_eq_true (by omega), wrap64 (by omega) (by omega)]
    simp only [cond_true]
    obtain ⟨f1, f2⟩ := cnt_fin (i := k) (by omega)
    have hup := unit_pos .f64
    have hk1 : (unit .f64 : Int) ≤ fv .f64 (real.ofInt .f64 k) := by
      rw [f2]
      have := Int.mul_le_mul_of_nonneg_right (show (1 : Int) ≤ k by omega) (show (0 : Int) ≤ unit .f64 by omega)
      omega
    have q1 : Le .f64 1 (real.bin .quo .f64 4607182418800017408 (real.ofInt .f64 k)) := quo_small (e := 0) le_one f1 hk1 (by omega)
    have hcs : Le .f64 (6 + (7 * (13 - (m + 1)) + 1)) (real.bin .mul .f64 c s) := Le.mul hc hs (Nat.le_refl _) (show _ ≤ 1000 by omega)
    have hsum : Le .f64 (7 * (13 - m) + 1) (real.bin .add .f64 (real.bin .quo .f64 4607182418800017408 (real.ofInt .f64 k)) (real.bin .mul .f64 c s)) :=
      Le.add (q1.mono (by omega)) hcs (by omega) (show _ ≤ 1000 by omega)
    exact ih n _ (k - 2) (by omega) (by omega) (by omega) hsum

/-- The logarithm of a number above nothing. -/
theorem log_pos {x : Int} (hf : Fin .f32 x) (hx0 : 0 < fv .f32 x) : Pure.spec_l01LogWide real (real.conv .f32 .f64 x) = Pure.impl_logOf real (real.conv .f32 .f64 x) ∧ Pure.spec_l01LogWide_ok real (real.conv .f32 .f64 x) = true ∧ Pure.impl_logOf_ok real (real.conv .f32 .f64 x) = true ∧
    Le .f64 97 (Pure.impl_logOf real (real.conv .f32 .f64 x)) := by
  have hy0 : 0 < fv .f64 (real.conv .f32 .f64 x) := by
    rw [(conv_up hf).2]; exact Int.mul_pos hx0 (by omega)
  obtain ⟨u1, u2⟩ := conv_up hf
  have hle := (Le.up (Le.ofFin32 hf)).2
  have hlow : 0 < fv .f64 (real.conv .f32 .f64 x) → (unit .f64 : Int) ≤ fv .f64 (real.conv .f32 .f64 x) * (2 ^ 149 : Nat) := by
    intro hp
    rw [u2] at hp ⊢
    have hx1 : 1 ≤ fv .f32 x := by
      rcases Int.lt_or_le 0 (fv .f32 x) with h1 | h1
      · omega
      · have := Int.mul_le_mul_of_nonneg_right h1 (show (0 : Int) ≤ (2 ^ 925 : Nat) by omega)
        omega
    rw [unit64, Int.mul_assoc, Int.mul_comm ((2 ^ 149 : Nat) : Int)]
    have := Int.mul_le_mul_of_nonneg_right hx1 (show (0 : Int) ≤ ((2 ^ 925 : Nat) : Int) * ((2 ^ 149 : Nat) : Int) from Int.mul_nonneg (by omega) (by omega))
    rw [Int.one_mul] at this
    exact this
  generalize real.conv .f32 .f64 x = y at *
  obtain ⟨z1, z2⟩ := fin_zero .f64
  have hmax : Fin .f64 9218868437227405311 ∧ ((2 ^ 128 * unit .f64 : Nat) : Int) ≤ fv .f64 9218868437227405311 := ⟨⟨by decide, by decide +kernel, by decide +kernel⟩, by decide +kernel⟩
  have c1 : real.cmp .neq .f64 y y = false := by rw [cmp_neq u1.toNum u1.toNum]; simp
  have c4 : real.cmp .gtr .f64 y 9218868437227405311 = false := by rw [cmp_gtr u1.toNum hmax.1.toNum]; exact decide_eq_false (by have := hmax.2; omega)
  unfold Pure.spec_l01LogWide Pure.spec_l01LogWide_ok Pure.impl_logOf Pure.impl_logOf_ok
  rw [isInf_is, c1, c4, cmp_lss u1.toNum z1.toNum, cmp_eql u1.toNum z1.toNum, z2]
  simp only [cond_false]
  rw [decide_eq_false (show ¬ fv .f64 y < 0 by omega), decide_eq_false (show ¬ fv .f64 y = 0 by omega)]
  simp only [cond_false]
  obtain ⟨y1, e1, w, c, z, j, g1, g2, g3, g4, g5⟩ := mid_loops u1 (by omega) (hlow (by omega)) (by omega)
  simp only [g1, g2, g3, g4, cond_true]
  rw [spec_L5, impl_L5 (real.ofInt .f64 j)]
  obtain ⟨m1, m2, m3, m4⟩ := g5
  have hup := unit_pos .f64
  have hz : Le .f64 1 z := ⟨m1, by rw [Nat.pow_one]; omega⟩
  have hsub : Le .f64 2 (real.bin .sub .f64 z 4607182418800017408) := Le.sub hz (le_one.mono (by omega)) (by omega) (show _ ≤ 1000 by omega)
  have hadd : Le .f64 2 (real.bin .add .f64 z 4607182418800017408) := Le.add hz (le_one.mono (by omega)) (by omega) (show _ ≤ 1000 by omega)
  have hden : (unit .f64 : Int) ≤ fv .f64 (real.bin .add .f64 z 4607182418800017408) := by
    have hr := add_rounds m1 k_one64.1
    rw [k_one64.2] at hr
    have hb := has_cnt (i := 4) (by omega)
    have ha := has_cnt (i := 1) (by omega)
    rw [Int.one_mul] at ha
    exact (hr.within ha hb (by omega) (by omega)).2.1
  have hq : Le .f64 3 (real.bin .quo .f64 (real.bin .sub .f64 z 4607182418800017408) (real.bin .add .f64 z 4607182418800017408)) := quo_small hsub hadd.1 hden (by omega)
  generalize real.bin .quo .f64 (real.bin .sub .f64 z 4607182418800017408) (real.bin .add .f64 z 4607182418800017408) = q at *
  have hq2 : Le .f64 6 (real.bin .mul .f64 q q) := Le.mul hq hq (by omega) (show _ ≤ 1000 by omega)
  have h0 : Le .f64 (7 * (13 - 13) + 1) 0 := ⟨z1, by rw [z2]; simp⟩
  obtain ⟨l1, l2⟩ := l5_le hq2 13 26 0 25 (by omega) (by omega) (by omega) h0
  generalize Pure.impl_logOf_L5 real 0 0 (real.bin .mul .f64 q q) 26 0 25 = r at *
  have h2 : Le .f64 1 4611686018427387904 := Le.const (by decide +kernel)
  have hln : Le .f64 0 4604418534313441775 := Le.const (by decide +kernel)
  have hc : Le .f64 10 (real.ofInt .f64 j) := by
    obtain ⟨f1, f2⟩ := cnt_fin (i := j) (by omega)
    refine ⟨f1, ?_⟩
    rw [f2, Int.natAbs_mul]
    exact Nat.mul_le_mul (by omega) (by simp)
  have t1 : Le .f64 95 (real.bin .mul .f64 q r.2) := Le.mul hq l2 (by omega) (show _ ≤ 1000 by omega)
  have t2 : Le .f64 96 (real.bin .mul .f64 4611686018427387904 (real.bin .mul .f64 q r.2)) := Le.mul h2 t1 (by omega) (show _ ≤ 1000 by omega)
  have t3 : Le .f64 96 (real.bin .mul .f64 (real.ofInt .f64 j) 4604418534313441775) := Le.mul hc hln (by omega) (show _ ≤ 1000 by omega)
  have t4 : Le .f64 97 (real.bin .add .f64 (real.bin .mul .f64 4611686018427387904 (real.bin .mul .f64 q r.2)) (real.bin .mul .f64 (real.ofInt .f64 j) 4604418534313441775)) := Le.add t2 t3 (by omega) (show _ ≤ 1000 by omega)
  rw [l1]
  exact ⟨rfl, rfl, rfl, t4⟩

/-- The logarithm of a number. -/
theorem log_wide {x : Int} (h : OkF .f32 x) : Pure.spec_l01LogWide real (real.conv .f32 .f64 x) = Pure.impl_logOf real (real.conv .f32 .f64 x) ∧ Pure.spec_l01LogWide_ok real (real.conv .f32 .f64 x) = true ∧ Pure.impl_logOf_ok real (real.conv .f32 .f64 x) = true ∧
    real.convOk .f64 .f32 (Pure.impl_logOf real (real.conv .f32 .f64 x)) = true := by
  by_cases hf : Fin .f32 x
  · rcases Int.lt_or_le 0 (fv .f32 x) with hp | hp
    · obtain ⟨a1, a2, a3, a4⟩ := log_pos hf hp
      exact ⟨a1, a2, a3, (Le.down a4 (by omega)).2⟩
    · obtain ⟨u1, u2⟩ := conv_up hf
      have hy : fv .f64 (real.conv .f32 .f64 x) ≤ 0 := by
        rw [u2]
        have := Int.mul_le_mul_of_nonneg_right hp (show (0 : Int) ≤ (2 ^ 925 : Nat) by omega)
        omega
      generalize real.conv .f32 .f64 x = y at *
      obtain ⟨z1, z2⟩ := fin_zero .f64
      have c1 : real.cmp .neq .f64 y y = false := by rw [cmp_neq u1.toNum u1.toNum]; simp
      unfold Pure.spec_l01LogWide Pure.spec_l01LogWide_ok Pure.impl_logOf Pure.impl_logOf_ok
      rw [c1, cmp_lss u1.toNum z1.toNum, cmp_eql u1.toNum z1.toNum, z2]
      simp only [cond_false]
      by_cases hn : fv .f64 y < 0
      · rw [decide_eq_true hn]; exact ⟨rfl, rfl, rfl, by simp only [cond_true]; decide +kernel⟩
      · rw [decide_eq_false hn, decide_eq_true (show fv .f64 y = 0 by omega)]; exact ⟨rfl, rfl, rfl, by simp only [cond_true, cond_false]; decide +kernel⟩
  · cases hn : isNaNb .f32 x.toNat with
    | true =>
      have := h.nan hn
      subst this
      decide +kernel
    | false =>
      have hnum := okF_num h hn
      have he : rg .f32 x = FloatKind.f32.format.infRung := by
        rcases Nat.lt_or_ge (rg .f32 x) FloatKind.f32.format.infRung with h1 | h1
        · exact absurd ⟨hnum.nonneg, hnum.word, h1⟩ hf
        · exact Nat.le_antisymm hnum.num h1
      rw [hnum.eq_word, he]
      cases ng .f32 x <;> decide +kernel

theorem log_is {x : Int} (h : OkF .f32 x) : Pure.spec_l01Log real x = Pure.impl_LogNumber real x ∧ Pure.spec_l01Log_ok real x = true ∧ Pure.impl_LogNumber_ok real x = true := by
  obtain ⟨l1, l2, l3, l4⟩ := log_wide h
  unfold Pure.spec_l01Log Pure.impl_LogNumber Pure.spec_l01Log_ok Pure.impl_LogNumber_ok Pure.spec_l01Narrow Pure.spec_l01Narrow_ok
  rw [l1, l2, l3, l4, convOk_up]
  exact ⟨rfl, rfl, rfl⟩
end Go.Fx
