import Derived.Test.YtnlfpamdcohiiaaF3
/- The sine of some turns. -/
namespace Go.Fx
open Ieee

def sinLoop (u : Int) : Nat → Int → Int → Bool × Int
  | 0, _, _ => (false, 0)
  | n + 1, p, k => bif decide (k ≥ 1) then sinLoop u n (real.bin .sub .f64 4607182418800017408 (real.bin .quo .f64 (real.bin .mul .f64 u p) (real.ofInt .f64 (IntKind.wrap .i64 ((IntKind.wrap .i64 (2 * k)) * (IntKind.wrap .i64 ((IntKind.wrap .i64 (2 * k)) + 1))))))) (IntKind.wrap .i64 (k - 1)) else (true, p)

theorem le_one : Le .f64 0 4607182418800017408 := Le.const (by decide +kernel)
theorem le_half : Le .f64 0 4602678819172646912 := Le.const (by decide +kernel)
theorem le_tau : Le .f64 3 4618760256179416344 := Le.const (by decide +kernel)

theorem sin_round {u p : Int} {k : Nat} (hu : Le .f64 2 u) (hp : Le .f64 1 p) (hk0 : 1 ≤ k) (hk : k ≤ 8) (n : Nat) : ∃ q, sinLoop u (n + 1) p k = sinLoop u n q ((k - 1 : Nat) : Int) ∧ Le .f64 3 q ∧ (2 ≤ k → Le .f64 1 q) := by
  obtain ⟨k, rfl⟩ : ∃ j, k = j + 1 := ⟨k - 1, by omega⟩
  conv => enter [1, q, 1, 1]; unfold sinLoop
  have e1 : decide (((k + 1 : Nat) : Int) ≥ 1) = true := by simp; omega
  have w1 : IntKind.wrap .i64 (2 * ((k + 1 : Nat) : Int)) = 2 * ((k + 1 : Nat) : Int) := wrap64 (by omega) (by omega)
  have w2 : IntKind.wrap .i64 (2 * ((k + 1 : Nat) : Int) + 1) = 2 * ((k + 1 : Nat) : Int) + 1 := wrap64 (by omega) (by omega)
  have hm : ∃ m : Nat, 2 * ((k + 1 : Nat) : Int) * (2 * ((k + 1 : Nat) : Int) + 1) = m ∧ 6 ≤ m ∧ m ≤ 272 ∧ (1 ≤ k → 20 ≤ m) := by
    refine ⟨2 * (k + 1) * (2 * (k + 1) + 1), by push_cast; rfl, ?_, ?_, fun h1 => ?_⟩
    · have : 2 * 3 ≤ 2 * (k + 1) * (2 * (k + 1) + 1) := Nat.mul_le_mul (by omega) (by omega)
      omega
    · have : 2 * (k + 1) * (2 * (k + 1) + 1) ≤ 16 * 17 := Nat.mul_le_mul (by omega) (by omega)
      omega
    · have : 4 * 5 ≤ 2 * (k + 1) * (2 * (k + 1) + 1) := Nat.mul_le_mul (by omega) (by omega)
      omega
  obtain ⟨m, hm, hm1, hm2, hm3⟩ := hm
  rw [e1, w1, w2, hm, wrap64 (n := (m : Int)) (by omega) (by omega), wrap64 (n := ((k + 1 : Nat) : Int) - 1) (by omega) (by omega), show ((k + 1 : Nat) : Int) - 1 = (k : Int) by omega]
  simp only [cond_true]
  obtain ⟨c1, c2⟩ := ofInt_fv (k := .f64) (n := (m : Int)) (by
    have : FloatKind.f64.format.binade = 4503599627370496 := by decide
    rw [this]; omega)
  have h1 : Le .f64 3 (real.bin .mul .f64 u p) := Le.mul hu hp (by omega) (by decide)
  refine ⟨_, rfl, ?_, fun h2 => ?_⟩
  · have h2 : Le .f64 2 (real.bin .quo .f64 (real.bin .mul .f64 u p) (real.ofInt .f64 m)) := Le.quo (b := 1) h1 c1 (by
      rw [c2, Int.natAbs_mul]; exact Nat.mul_le_mul (by omega) (by simp)) (by omega) (by decide)
    exact Le.sub (le_one.mono (by omega)) h2 (by omega) (by decide)
  · have := hm3 (by omega)
    have h2 : Le .f64 0 (real.bin .quo .f64 (real.bin .mul .f64 u p) (real.ofInt .f64 m)) := Le.quo (b := 3) h1 c1 (by
      rw [c2, Int.natAbs_mul]; exact Nat.mul_le_mul (by omega) (by simp)) (by omega) (by decide)
    exact Le.sub le_one h2 (by omega) (by decide)

theorem sinLoop_le {u : Int} (hu : Le .f64 2 u) : ∀ (k n : Nat) (p : Int), k < n → k ≤ 8 → Le .f64 1 p → (sinLoop u n p k).1 = true ∧ Le .f64 3 (sinLoop u n p k).2 := by
  intro k
  induction k with
  | zero =>
    intro n p hn _ hp
    match n, hn with
    | n + 1, _ => exact ⟨rfl, hp.mono (by omega)⟩
  | succ k ih =>
    intro n p hn hk hp
    match n, hn with
    | n + 1, hn =>
      obtain ⟨q, e, h3, h1⟩ := sin_round hu hp (k := k + 1) (by omega) hk n
      rw [e, show k + 1 - 1 = k by omega]
      rcases Nat.eq_zero_or_pos k with h0 | h0
      · subst h0
        match n, hn with
        | n + 1, _ => exact ⟨rfl, h3⟩
      · exact ih n q (by omega) (by omega) (h1 (by omega))

structure Small (m : Int) : Prop where
  fin : Fin .f64 m
  ge : 0 ≤ fv .f64 m
  le : 4 * fv .f64 m ≤ unit .f64

def qt : Nat := 2 ^ 1072
theorem unit_qt : (unit .f64 : Int) = 4 * (qt : Int) := by decide +kernel
theorem qt_pos : 0 < qt := by unfold qt; exact Nat.two_pow_pos 1072
theorem has_int (n : Int) (d e : Nat) (h : n.natAbs ≤ 2 ^ e) (he : e ≤ 53) (hd : d ≤ 2000) : Has .f64 (n * ((2 ^ d : Nat) : Int)) := by
  have hb : FloatKind.f64.format.binade = 2 ^ 52 := by decide
  have h53 : (2 : Nat) ^ e ≤ 2 ^ 53 := Nat.pow_le_pow_right (by omega) he
  have h54 : (2 : Nat) ^ 53 = 2 * 2 ^ 52 := by decide
  have := Has.digits (k := .f64) (decide (n < 0)) (m := n.natAbs) (d := d) (by rw [hb]; omega) (by
    rw [big64]
    refine Nat.lt_of_le_of_lt (Nat.mul_le_mul_right _ h) ?_
    rw [two_mul_two]; exact pw_lt (e + d) 2098 (by omega))
  generalize (2 : Nat) ^ d = q at *
  have e : sg (decide (n < 0)) (n.natAbs * q) = n * (q : Int) := by
    rcases Int.lt_or_le n 0 with h0 | h0
    · rw [decide_eq_true h0]; simp only [sg, cond_true]
      have : (n.natAbs : Int) = -n := by omega
      rw [Int.natCast_mul, this, Int.neg_mul, Int.neg_neg]
    · rw [decide_eq_false (by omega)]; simp only [sg, cond_false]
      have : (n.natAbs : Int) = n := by omega
      rw [Int.natCast_mul, this]
  rwa [e] at this
theorem has_qt {n : Int} (h : n.natAbs ≤ 2 ^ 53) : Has .f64 (n * qt) := by
  unfold qt; exact has_int n 1072 53 h (by omega) (by omega)
theorem k_one : Fin .f64 4607182418800017408 ∧ fv .f64 4607182418800017408 = 4 * (qt : Int) := ⟨⟨by decide, by decide +kernel, by decide +kernel⟩, by decide +kernel⟩
theorem k_half : Fin .f64 4602678819172646912 ∧ fv .f64 4602678819172646912 = 2 * (qt : Int) := ⟨⟨by decide, by decide +kernel, by decide +kernel⟩, by decide +kernel⟩
theorem k_quarter : Fin .f64 4598175219545276416 ∧ fv .f64 4598175219545276416 = 1 * (qt : Int) := ⟨⟨by decide, by decide +kernel, by decide +kernel⟩, by decide +kernel⟩

theorem fin_zero (k : FloatKind) : Fin k 0 ∧ fv k 0 = 0 := by cases k <;> exact ⟨⟨by decide, by decide +kernel, by decide +kernel⟩, by decide +kernel⟩

def sinPick {α : Type} (P : Bool → Int → α) (f : Int) : α :=
  bif real.cmp .lss .f64 f 0 then
    bif real.cmp .geq .f64 (real.bin .add .f64 f 4607182418800017408) 4602678819172646912 then
      bif real.cmp .gtr .f64 (real.bin .sub .f64 (real.bin .add .f64 f 4607182418800017408) 4602678819172646912) 4598175219545276416 then P true (real.bin .sub .f64 4602678819172646912 (real.bin .sub .f64 (real.bin .add .f64 f 4607182418800017408) 4602678819172646912))
      else P true (real.bin .sub .f64 (real.bin .add .f64 f 4607182418800017408) 4602678819172646912)
    else bif real.cmp .gtr .f64 (real.bin .add .f64 f 4607182418800017408) 4598175219545276416 then P false (real.bin .sub .f64 4602678819172646912 (real.bin .add .f64 f 4607182418800017408))
      else P false (real.bin .add .f64 f 4607182418800017408)
  else
    bif real.cmp .geq .f64 f 4602678819172646912 then
      bif real.cmp .gtr .f64 (real.bin .sub .f64 f 4602678819172646912) 4598175219545276416 then P true (real.bin .sub .f64 4602678819172646912 (real.bin .sub .f64 f 4602678819172646912))
      else P true (real.bin .sub .f64 f 4602678819172646912)
    else bif real.cmp .gtr .f64 f 4598175219545276416 then P false (real.bin .sub .f64 4602678819172646912 f)
      else P false f

theorem cond_ind {α : Type} {Q : α → Prop} {c : Bool} {a b : α} (h1 : Q a) (h2 : Q b) : Q (bif c then a else b) := by cases c <;> assumption

theorem cond_ind2 {α : Type} {Q : α → Prop} {c : Bool} {a b : α} (h1 : c = true → Q a) (h2 : c = false → Q b) : Q (bif c then a else b) := by
  cases hc : c
  · exact h2 hc
  · exact h1 hc

theorem sin_quarter {α : Type} {P : Bool → Int → α} {Q : α → Prop} {h : Int} {t : Bool} (h1 : Fin .f64 h) (h2 : 0 ≤ fv .f64 h) (h3 : fv .f64 h ≤ 2 * (qt : Int)) (hQ : ∀ m, Small m → Q (P t m)) :
    Q (bif real.cmp .gtr .f64 h 4598175219545276416 then P t (real.bin .sub .f64 4602678819172646912 h) else P t h) := by
  obtain ⟨a1, a2⟩ := k_half
  obtain ⟨b1, b2⟩ := k_quarter
  have hu := unit_qt
  rw [cmp_gtr h1.toNum b1.toNum, b2]
  refine cond_ind2 (fun hc => hQ _ ?_) (fun hc => hQ _ ⟨h1, h2, ?_⟩)
  · have hc := of_decide_eq_true hc
    obtain ⟨s1, s2, s3⟩ := (sub_rounds a1 h1).within (has_qt (n := 0) (by decide)) (has_qt (n := 1) (by decide)) (by omega) (by omega)
    exact ⟨s1, by omega, by omega⟩
  · have hc := of_decide_eq_false hc
    omega

theorem sin_half {α : Type} {P : Bool → Int → α} {Q : α → Prop} {g : Int} (h1 : Fin .f64 g) (h2 : 0 ≤ fv .f64 g) (h3 : fv .f64 g ≤ 4 * (qt : Int)) (hQ : ∀ t m, Small m → Q (P t m)) :
    Q (bif real.cmp .geq .f64 g 4602678819172646912 then bif real.cmp .gtr .f64 (real.bin .sub .f64 g 4602678819172646912) 4598175219545276416 then P true (real.bin .sub .f64 4602678819172646912 (real.bin .sub .f64 g 4602678819172646912)) else P true (real.bin .sub .f64 g 4602678819172646912)
      else bif real.cmp .gtr .f64 g 4598175219545276416 then P false (real.bin .sub .f64 4602678819172646912 g) else P false g) := by
  obtain ⟨a1, a2⟩ := k_half
  rw [cmp_geq h1.toNum a1.toNum, a2]
  refine cond_ind2 (fun hc => ?_) (fun hc => ?_)
  · have hc := of_decide_eq_true hc
    obtain ⟨s1, s2, s3⟩ := (sub_rounds h1 a1).within (has_qt (n := 0) (by decide)) (has_qt (n := 2) (by decide)) (by omega) (by omega)
    exact sin_quarter s1 (by omega) (by omega) (hQ _)
  · have hc := of_decide_eq_false hc
    exact sin_quarter h1 h2 (by omega) (hQ _)

theorem sinPick_ind {α : Type} {P : Bool → Int → α} {Q : α → Prop} {f : Int} (hf : Le .f64 0 f) (h : ∀ t m, Small m → Q (P t m)) : Q (sinPick P f) := by
  obtain ⟨o1, o2⟩ := k_one
  obtain ⟨z1, z2⟩ := fin_zero .f64
  have hu := unit_qt
  obtain ⟨f1, f2⟩ := hf
  rw [Nat.pow_zero, Nat.one_mul] at f2
  unfold sinPick
  rw [cmp_lss f1.toNum z1.toNum, z2]
  refine cond_ind2 (fun hc => ?_) (fun hc => ?_)
  · have hc := of_decide_eq_true hc
    obtain ⟨s1, s2, s3⟩ := (add_rounds f1 o1).within (has_qt (n := 0) (by decide)) (has_qt (n := 4) (by decide)) (by omega) (by omega)
    exact sin_half s1 (by omega) (by omega) h
  · have hc := of_decide_eq_false hc
    exact sin_half f1 (by omega) (by omega) h

theorem sinPick_map {α β : Type} (g : α → β) (P : Bool → Int → α) (f : Int) : sinPick (fun t m => g (P t m)) f = g (sinPick P f) := by
  have hc : ∀ (c : Bool) (a b : α), (bif c then g a else g b) = g (bif c then a else b) := fun c a b => by cases c <;> rfl
  unfold sinPick
  simp only [hc]

def sinU (m : Int) : Int := real.bin .mul .f64 (real.bin .mul .f64 m 4618760256179416344) (real.bin .mul .f64 m 4618760256179416344)
def sinL (m : Int) : Bool × Int := sinLoop (sinU m) 9 4607182418800017408 8
def sinOut (t : Bool) (m : Int) : Int :=
  bif t then real.neg .f64 (real.bin .mul .f64 (real.bin .mul .f64 m 4618760256179416344) (sinL m).2) else real.bin .mul .f64 (real.bin .mul .f64 m 4618760256179416344) (sinL m).2

theorem sinZ_le {m : Int} (hm : Small m) : Le .f64 1 (real.bin .mul .f64 m 4618760256179416344) := by
  obtain ⟨t1, t2⟩ := le_tau
  refine Le.of_rounds (mul_rounds hm.fin t1) (by decide) ?_
  rw [Int.natAbs_mul]
  have h1 : 4 * (fv .f64 m).natAbs ≤ unit .f64 := by have := hm.ge; have := hm.le; omega
  have h2 := Nat.mul_le_mul h1 t2
  generalize unit .f64 = U at *
  have e1 : 4 * (fv .f64 m).natAbs * (fv .f64 4618760256179416344).natAbs = 4 * ((fv .f64 m).natAbs * (fv .f64 4618760256179416344).natAbs) := Nat.mul_assoc _ _ _
  have e2 : U * (2 ^ 3 * U) = 4 * (2 ^ 1 * U * U) := by rw [show (2 : Nat) ^ 3 = 4 * 2 ^ 1 by rfl]; ac_rfl
  omega

theorem sinOut_le {t : Bool} {m : Int} (hm : Small m) : (sinL m).1 = true ∧ Le .f64 4 (sinOut t m) := by
  have h1 := sinZ_le hm
  have h2 : Le .f64 2 (sinU m) := Le.mul h1 h1 (by omega) (by decide)
  obtain ⟨h3, h4⟩ := sinLoop_le h2 8 9 _ (by omega) (by omega) (le_one.mono (by omega))
  refine ⟨h3, ?_⟩
  have h5 : Le .f64 4 (real.bin .mul .f64 (real.bin .mul .f64 m 4618760256179416344) (sinL m).2) := Le.mul h1 h4 (by omega) (by decide)
  unfold sinOut
  exact cond_ind h5.neg h5

theorem sub_zero {y : Int} (hy : Fin .f64 y) : real.bin .sub .f64 y 0 = y := by
  obtain ⟨z1, z2⟩ := fin_zero .f64
  obtain ⟨h1, h2⟩ := (sub_rounds hy z1).exact ⟨y, hy, rfl⟩ (by rw [z2]; omega)
  by_cases h0 : fv .f64 y = 0
  · have hr := fv_zero_iff.1 h0
    rcases hg : ng .f64 y with _ | _
    · have : y = 0 := by
        rw [hy.toNum.eq_word, hg, hr]; decide +kernel
      subst this; decide +kernel
    · have : y = 9223372036854775808 := by
        rw [hy.toNum.eq_word, hg, hr]; decide +kernel
      subst this; decide +kernel
  · exact h1.toNum.fv_inj hy.toNum h2 (by rw [h2]; exact h0)

def frac (y : Int) : Int := real.bin .sub .f64 y (real.ofInt .f64 (real.toInt .f64 .i64 y))

theorem tdiv_parts (a u : Int) (hu : 0 < u) : (a - a.tdiv u * u).natAbs < u.natAbs ∧ (a.tdiv u * u).natAbs ≤ a.natAbs := by
  have h := Int.tmod_add_mul_tdiv a u
  have h1 : (a.tmod u).natAbs < u.natAbs := by
    rw [Int.natAbs_tmod]; exact Nat.mod_lt _ (by omega)
  have h2 : (a.tdiv u * u).natAbs ≤ a.natAbs := by
    rw [Int.natAbs_mul, Int.natAbs_tdiv]; exact Nat.div_mul_le_self _ _
  rw [Int.mul_comm] at h
  exact ⟨by have : a - a.tdiv u * u = a.tmod u := by omega
            rw [this]; exact h1, h2⟩

theorem frac_facts {y : Int} (hy : Fin .f64 y) (h : (fv .f64 y).natAbs < 2 ^ 52 * unit .f64) : real.toIntOk .f64 .i64 y = true ∧ Le .f64 0 (frac y) ∧
    (real.cmp .neq .f64 (real.integral .zero y) 0 = true → real.bin .sub .f64 y (real.integral .zero y) = frac y) ∧ (real.cmp .neq .f64 (real.integral .zero y) 0 = false → y = frac y) := by
  have hu := unit_pos .f64
  obtain ⟨p1, p2⟩ := tdiv_parts (fv .f64 y) (unit .f64) (by omega)
  have hT : ((fv .f64 y).tdiv (unit .f64)).natAbs < 2 ^ 52 := by
    rw [Int.natAbs_mul, Int.natAbs_natCast] at p2
    exact Nat.lt_of_mul_lt_mul_right (Nat.lt_of_le_of_lt p2 h)
  have e52 : (2 : Nat) ^ 52 = 4503599627370496 := by decide
  rw [e52] at hT
  obtain ⟨t1, t2⟩ := toInt_ok hy .i64 (by show (-9223372036854775808 : Int) ≤ _; omega) (by show _ ≤ (9223372036854775807 : Int); omega)
  obtain ⟨i1, i2⟩ := trunc_fv hy
  have hb : FloatKind.f64.format.binade = 4503599627370496 := by decide
  obtain ⟨o1, o2⟩ := ofInt_fv (k := .f64) (n := (fv .f64 y).tdiv (unit .f64)) (by rw [hb]; omega)
  obtain ⟨z1, z2⟩ := fin_zero .f64
  refine ⟨t1, ?_, ?_, ?_⟩
  · unfold frac
    rw [t2]
    refine Le.of_rounds (sub_rounds hy o1) (by decide) ?_
    rw [o2, Nat.mul_one, Nat.pow_zero, Nat.one_mul]
    rw [Int.natAbs_natCast] at p1
    omega
  · intro hn
    unfold frac
    rw [t2]
    congr 1
    rw [cmp_neq i1.toNum z1.toNum, z2] at hn
    have hn2 : fv .f64 (real.integral .zero y) ≠ 0 := by
      intro h0; rw [h0] at hn; simp at hn
    exact i1.toNum.fv_inj o1.toNum (by rw [i2, o2]) hn2
  · intro hn
    unfold frac
    rw [t2]
    rw [cmp_neq i1.toNum z1.toNum, z2] at hn
    have hn2 : fv .f64 (real.integral .zero y) = 0 := by
      by_cases h0 : fv .f64 (real.integral .zero y) = 0
      · exact h0
      · rw [decide_eq_false h0] at hn; cases hn
    rw [i2] at hn2
    have hq : (fv .f64 y).tdiv (unit .f64) = 0 := by
      rcases Int.mul_eq_zero.1 hn2 with h0 | h0
      · exact h0
      · omega
    rw [hq]
    have e0 : real.ofInt .f64 0 = 0 := by decide +kernel
    rw [e0, sub_zero hy]

theorem p52 : Fin .f64 4841369599423283200 ∧ fv .f64 4841369599423283200 = ((2 ^ 52 * unit .f64 : Nat) : Int) := ⟨⟨by decide, by decide +kernel, by decide +kernel⟩, by decide +kernel⟩
theorem m52 : Fin .f64 14064741636278059008 ∧ fv .f64 14064741636278059008 = -((2 ^ 52 * unit .f64 : Nat) : Int) := ⟨⟨by decide, by decide +kernel, by decide +kernel⟩, by decide +kernel⟩

theorem great_iff {y : Int} (hy : Fin .f64 y) : real.cmp .geq .f64 (real.abs .f64 y) 4841369599423283200 = decide (2 ^ 52 * unit .f64 ≤ (fv .f64 y).natAbs) ∧
    real.cmp .geq .f64 y 4841369599423283200 = decide (((2 ^ 52 * unit .f64 : Nat) : Int) ≤ fv .f64 y) ∧ real.cmp .leq .f64 y 14064741636278059008 = decide (fv .f64 y ≤ -((2 ^ 52 * unit .f64 : Nat) : Int)) := by
  obtain ⟨a1, a2⟩ := abs_num hy.toNum
  obtain ⟨p1, p2⟩ := p52
  obtain ⟨m1, m2⟩ := m52
  rw [cmp_geq a1 p1.toNum, cmp_geq hy.toNum p1.toNum, cmp_leq hy.toNum m1.toNum, a2, p2, m2]
  refine ⟨?_, rfl, rfl⟩
  exact decide_eq_decide.2 Int.ofNat_le

theorem notfin_up {x : Int} (h : OkF .f32 x) (hf : ¬ Fin .f32 x) : real.cmp .neq .f64 (real.bin .sub .f64 (real.conv .f32 .f64 x) (real.conv .f32 .f64 x)) 0 = true := by
  cases hn : isNaNb .f32 x.toNat with
  | true =>
    have := h.nan hn
    subst this
    decide +kernel
  | false =>
    have hnum := okF_num h hn
    have he : rg .f32 x = FloatKind.f32.format.infRung := by
      rcases Nat.lt_or_ge (rg .f32 x) FloatKind.f32.format.infRung with h1 | h1
      · exact absurd ⟨hnum.nonneg, hnum.word, h1⟩ hf
      · exact Nat.le_antisymm hnum.num h1
    rw [hnum.eq_word, he]
    cases ng .f32 x <;> decide +kernel

theorem fin_up_sub {y : Int} (hy : Fin .f64 y) : real.cmp .neq .f64 (real.bin .sub .f64 y y) 0 = false := by
  obtain ⟨z1, z2⟩ := fin_zero .f64
  obtain ⟨r1, r2⟩ := (sub_rounds hy hy).exact (has_zero .f64) (by omega)
  rw [cmp_neq r1.toNum z1.toNum, r2, z2]; rfl
end Go.Fx
