import Derived.Test.YtnlfpamdcohiiaaXSin
/- Turns and kicks wrapped. -/
namespace Go.Fx
open Ieee

theorem Fin.okF {k : FloatKind} {x : Int} (h : Fin k x) : OkF k x := by
  have h := h.toNum
  refine ⟨x.toNat, ?_, ?_⟩
  · rw [cf_of_num h.notNaN]; have := h.nonneg; omega
  · have := h.word
    cases k
    · have h2 : FloatKind.f32.format.signWeight = 2147483648 := by decide
      simp [FloatKind.has]; omega
    · have h2 : FloatKind.f64.format.signWeight = 9223372036854775808 := by decide
      simp [FloatKind.has]; omega

def turnW (x : Int) : Int := real.conv .f64 .f32 (real.bin .sub .f64 (real.conv .f32 .f64 x) (real.integral .down (real.conv .f32 .f64 x)))
def kickW (x : Int) : Int := real.conv .f64 .f32 (real.bin .sub .f64 (real.conv .f32 .f64 x) (real.integral .down (real.bin .add .f64 (real.conv .f32 .f64 x) 4602678819172646912)))

theorem unit_both : (unit .f64 : Int) = (unit .f32 : Int) * (2 ^ 925 : Nat) := by
  have h : unit .f64 = unit .f32 * 2 ^ 925 := by rw [unit32, unit64', pw_eq 149 925 1074 rfl]
  rw [h, Int.natCast_mul]

theorem has_unit32 : Has .f32 (unit .f32) := ⟨1065353216, ⟨by decide, by decide +kernel, by decide +kernel⟩, by decide +kernel⟩

theorem floor_parts (a u : Int) (hu : 0 < u) : 0 ≤ a - a / u * u ∧ a - a / u * u < u := by
  have h1 := Int.ediv_mul_le a (show u ≠ 0 by omega)
  have h2 := Int.lt_ediv_add_one_mul_self a hu
  rw [Int.add_mul, Int.one_mul] at h2
  omega

theorem turnW_is {x : Int} (h : Fin .f32 x) : real.convOk .f64 .f32 (real.bin .sub .f64 (real.conv .f32 .f64 x) (real.integral .down (real.conv .f32 .f64 x))) = true ∧
    Fin .f32 (turnW x) ∧ 0 ≤ fv .f32 (turnW x) ∧ fv .f32 (turnW x) ≤ unit .f32 := by
  obtain ⟨c1, _⟩ := conv_up h
  unfold turnW
  generalize real.conv .f32 .f64 x = y at *
  obtain ⟨f1, f2⟩ := floor_fv c1
  have hup : (0 : Int) < unit .f64 := by have := unit_pos .f64; omega
  obtain ⟨p1, p2⟩ := floor_parts (fv .f64 y) (unit .f64) hup
  obtain ⟨s1, s2, s3⟩ := (sub_rounds c1 f1).within (has_zero .f64) has_one (by omega) (by omega)
  have hd := down_rounds s1
  have hub := unit_both
  obtain ⟨d1, d2, d3⟩ := hd.within (has_zero .f32) has_unit32 (by omega) (by omega)
  exact ⟨convOk_down s1 d1, d1, d2, d3⟩

theorem kickW_is {x : Int} (h : Le .f32 22 x) : real.convOk .f64 .f32 (real.bin .sub .f64 (real.conv .f32 .f64 x) (real.integral .down (real.bin .add .f64 (real.conv .f32 .f64 x) 4602678819172646912))) = true ∧
    Le .f32 0 (kickW x) := by
  obtain ⟨c1, c2⟩ := h.up
  unfold kickW
  generalize real.conv .f32 .f64 x = y at *
  obtain ⟨a1, a2⟩ := k_half
  have hq := qt_pos
  have hu := unit_qt
  have hu2 : unit .f64 = 4 * qt := by omega
  have hr := add_rounds c1 a1
  rw [a2] at hr
  obtain ⟨p1, p2⟩ := floor_parts (fv .f64 y + 2 * (qt : Int)) qt (by omega)
  have hn : ((fv .f64 y + 2 * (qt : Int)) / qt).natAbs ≤ 2 ^ 25 := by
    rw [hu2] at c2
    have b1 : -((2 : Int) ^ 25 * qt) ≤ fv .f64 y + 2 * (qt : Int) := by omega
    have b2 : fv .f64 y + 2 * (qt : Int) ≤ (2 : Int) ^ 25 * qt := by omega
    have g1 := Int.ediv_le_ediv (show (0 : Int) < qt by omega) b2
    have g2 := Int.ediv_le_ediv (show (0 : Int) < qt by omega) b1
    rw [Int.mul_ediv_cancel _ (by omega)] at g1
    rw [← Int.neg_mul, Int.mul_ediv_cancel _ (by omega)] at g2
    omega
  generalize hN : (fv .f64 y + 2 * (qt : Int)) / qt = n at *
  obtain ⟨r1, r2, r3⟩ := hr.within (has_qt (n := n) (by omega)) (has_qt (n := n + 1) (by omega)) (by omega) (by rw [Int.add_mul]; omega)
  rw [Int.add_mul, Int.one_mul] at r3
  generalize real.bin .add .f64 y 4602678819172646912 = r at *
  obtain ⟨f1, f2⟩ := floor_fv r1
  obtain ⟨q1, q2⟩ := floor_parts (fv .f64 r) (unit .f64) (by omega)
  rw [← f2] at q1 q2
  have hl : Le .f64 0 (real.bin .sub .f64 y (real.integral .down r)) := Le.of_rounds (sub_rounds c1 f1) (by decide) (by
    rw [Nat.pow_zero, Nat.one_mul, Nat.mul_one]; omega)
  have hd := hl.down (by omega)
  exact ⟨hd.2, hd.1⟩

theorem one_mul32 {x : Int} (hx : Fin .f32 x) : real.bin .mul .f32 1065353216 x = x := by
  have h1 : Fin .f32 1065353216 ∧ fv .f32 1065353216 = unit .f32 := ⟨⟨by decide, by decide +kernel, by decide +kernel⟩, by decide +kernel⟩
  obtain ⟨g1, g2⟩ := (mul_rounds h1.1 hx).exact ⟨x, hx, rfl⟩ (by rw [h1.2, Int.mul_comm])
  by_cases h0 : fv .f32 x = 0
  · have hr := fv_zero_iff.1 h0
    rcases hg : ng .f32 x with _ | _
    · have : x = 0 := by rw [hx.toNum.eq_word, hg, hr]; decide +kernel
      subst this; decide +kernel
    · have : x = 2147483648 := by rw [hx.toNum.eq_word, hg, hr]; decide +kernel
      subst this; decide +kernel
  · exact g1.toNum.fv_inj hx.toNum g2 (by rw [g2]; exact h0)

theorem cmp_num {op : BinOp} {k : FloatKind} {x y : Int} (hop : op = .lss ∨ op = .leq ∨ op = .gtr ∨ op = .geq ∨ op = .eql) (hx : OkF k x) (hy : OkF k y) (h : real.cmp op k x y = true) : Num k x ∧ Num k y := by
  have nx : isNaNb k x.toNat = false := by
    cases hn : isNaNb k x.toNat with
    | false => rfl
    | true =>
      have : real.cmp op k x y = cmpOf op none := by show cmpOf op (k.format.order x.toNat y.toNat) = _; rw [order_nan_left hn]
      rw [this] at h
      rcases hop with rfl | rfl | rfl | rfl | rfl <;> cases h
  have ny : isNaNb k y.toNat = false := by
    cases hn : isNaNb k y.toNat with
    | false => rfl
    | true =>
      have : real.cmp op k x y = cmpOf op none := by show cmpOf op (k.format.order x.toNat y.toNat) = _; rw [order_nan_right hn]
      rw [this] at h
      rcases hop with rfl | rfl | rfl | rfl | rfl <;> cases h
  exact ⟨okF_num hx nx, okF_num hy ny⟩

theorem between {k : FloatKind} {x a b : Int} (hx : Num k x) (ha : Fin k a) (hb : Fin k b) (h1 : fv k a ≤ fv k x) (h2 : fv k x ≤ fv k b) : Fin k x := by
  have g1 := ha.toNum.fin_iff.1 ha
  have g2 := hb.toNum.fin_iff.1 hb
  exact hx.fin_iff.2 ⟨by omega, by omega⟩

structure Turn (t : Int) : Prop where
  fin : Fin .f32 t
  ge : 0 ≤ fv .f32 t
  lt : fv .f32 t < unit .f32

theorem Turn.le {t : Int} (h : Turn t) : Le .f32 0 t := ⟨h.fin, by have := h.ge; have := h.lt; rw [Nat.pow_zero, Nat.one_mul]; omega⟩

theorem f32_one : Fin .f32 1065353216 ∧ fv .f32 1065353216 = unit .f32 := ⟨⟨by decide, by decide +kernel, by decide +kernel⟩, by decide +kernel⟩
theorem f32_zero : Fin .f32 0 ∧ fv .f32 0 = 0 := fin_zero .f32
theorem f32_mhalf : Fin .f32 3204448256 ∧ 2 * fv .f32 3204448256 = -(unit .f32 : Int) := ⟨⟨by decide, by decide +kernel, by decide +kernel⟩, by decide +kernel⟩
theorem f32_half : Fin .f32 1056964608 ∧ 2 * fv .f32 1056964608 = (unit .f32 : Int) := ⟨⟨by decide, by decide +kernel, by decide +kernel⟩, by decide +kernel⟩

theorem state_ok {x y : Int} (hx : OkF .f32 x) (hy : OkF .f32 y) (h1 : real.cmp .geq .f32 x 0 = true) (h2 : real.cmp .lss .f32 x 1065353216 = true) (h3 : real.cmp .geq .f32 y 3204448256 = true) (h4 : real.cmp .lss .f32 y 1056964608 = true) : Turn x ∧ Le .f32 0 y := by
  obtain ⟨o1, o2⟩ := f32_one
  obtain ⟨z1, z2⟩ := f32_zero
  obtain ⟨m1, m2⟩ := f32_mhalf
  obtain ⟨p1, p2⟩ := f32_half
  have nx := (cmp_num (by simp) hx z1.okF h1).1
  have ny := (cmp_num (by simp) hy m1.okF h3).1
  rw [cmp_geq nx z1.toNum, z2] at h1
  rw [cmp_lss nx o1.toNum, o2] at h2
  rw [cmp_geq ny m1.toNum] at h3
  rw [cmp_lss ny p1.toNum] at h4
  have h1 := of_decide_eq_true h1
  have h2 := of_decide_eq_true h2
  have h3 := of_decide_eq_true h3
  have h4 := of_decide_eq_true h4
  have fx : Fin .f32 x := between nx z1 o1 (by omega) (by omega)
  have fy : Fin .f32 y := between ny m1 p1 (by omega) (by omega)
  exact ⟨⟨fx, h1, h2⟩, fy, by rw [Nat.pow_zero, Nat.one_mul]; omega⟩

theorem f32_four : Fin .f32 1082130432 ∧ fv .f32 1082130432 = 4 * (unit .f32 : Int) := ⟨⟨by decide, by decide +kernel, by decide +kernel⟩, by decide +kernel⟩
theorem f32_mfour : Fin .f32 3229614080 ∧ fv .f32 3229614080 = -(4 * (unit .f32 : Int)) := ⟨⟨by decide, by decide +kernel, by decide +kernel⟩, by decide +kernel⟩

theorem size_ok {x : Int} (hx : OkF .f32 x) (h1 : real.cmp .geq .f32 x 3229614080 = true) (h2 : real.cmp .leq .f32 x 1082130432 = true) : Le .f32 2 x := by
  obtain ⟨o1, o2⟩ := f32_four
  obtain ⟨z1, z2⟩ := f32_mfour
  have nx := (cmp_num (by simp) hx z1.okF h1).1
  rw [cmp_geq nx z1.toNum, z2] at h1
  rw [cmp_leq nx o1.toNum, o2] at h2
  have h1 := of_decide_eq_true h1
  have h2 := of_decide_eq_true h2
  exact ⟨between nx z1 o1 (by omega) (by omega), by rw [show (2 : Nat) ^ 2 = 4 by rfl]; omega⟩

theorem turn_wrap {x : Int} (h : Fin .f32 x) : (bif real.cmp .eql .f32 (turnW x) 0 then 0 else bif real.cmp .geq .f32 (turnW x) 1065353216 then 0 else turnW x) = (bif real.cmp .eql .f32 (turnW x) 1065353216 then 0 else bif real.cmp .eql .f32 (turnW x) 0 then 0 else turnW x) ∧
    Turn (bif real.cmp .eql .f32 (turnW x) 1065353216 then 0 else bif real.cmp .eql .f32 (turnW x) 0 then 0 else turnW x) := by
  obtain ⟨o1, o2⟩ := f32_one
  obtain ⟨z1, z2⟩ := f32_zero
  obtain ⟨_, w1, w2, w3⟩ := turnW_is h
  have hup := unit_pos .f32
  have tz : Turn 0 := ⟨z1, by rw [z2]; omega, by rw [z2]; omega⟩
  generalize turnW x = w at *
  rw [cmp_eql w1.toNum z1.toNum, cmp_geq w1.toNum o1.toNum, cmp_eql w1.toNum o1.toNum, z2, o2]
  by_cases h0 : fv .f32 w = 0
  · rw [decide_eq_true h0, decide_eq_false (show ¬ (unit .f32 : Int) ≤ fv .f32 w by omega), decide_eq_false (show ¬ fv .f32 w = unit .f32 by omega)]; exact ⟨rfl, tz⟩
  · by_cases h1 : fv .f32 w = unit .f32
    · rw [decide_eq_false h0, decide_eq_true h1, decide_eq_true (show (unit .f32 : Int) ≤ fv .f32 w by omega)]; exact ⟨rfl, tz⟩
    · rw [decide_eq_false h0, decide_eq_false h1, decide_eq_false (show ¬ (unit .f32 : Int) ≤ fv .f32 w by omega)]; exact ⟨rfl, w1, w2, by show fv .f32 w < _; omega⟩

theorem floor_int {x : Int} (hx : Fin .f32 x) (h0 : 0 ≤ fv .f32 x) (h1 : fv .f32 x ≤ 1000000 * (unit .f32 : Int)) :
    real.toIntOk .f32 .i64 x = true ∧ real.toIntOk .f64 .i64 (real.integral .down (real.conv .f32 .f64 x)) = true ∧ real.toInt .f64 .i64 (real.integral .down (real.conv .f32 .f64 x)) = real.toInt .f32 .i64 x ∧
    real.toInt .f32 .i64 x = fv .f32 x / unit .f32 := by
  have hu : (0 : Int) < unit .f32 := by have := unit_pos .f32; omega
  have hc : (0 : Int) < ((2 ^ 925 : Nat) : Int) := by have := Nat.two_pow_pos 925; omega
  obtain ⟨c1, c2⟩ := conv_up hx
  obtain ⟨f1, f2⟩ := floor_fv c1
  have hq0 : 0 ≤ fv .f32 x / unit .f32 := Int.ediv_nonneg h0 (by omega)
  have hq1 : fv .f32 x / unit .f32 ≤ 1000000 := by
    have := Int.ediv_le_ediv hu h1
    rwa [Int.mul_ediv_cancel _ (by omega)] at this
  have e1 : fv .f64 (real.conv .f32 .f64 x) / unit .f64 = fv .f32 x / unit .f32 := by
    rw [c2, unit_both]
    exact Int.mul_ediv_mul_of_pos_left _ _ hc
  have e2 : (fv .f32 x).tdiv (unit .f32) = fv .f32 x / unit .f32 := Int.tdiv_eq_ediv_of_nonneg h0
  have e3 : (fv .f64 (real.integral .down (real.conv .f32 .f64 x))).tdiv (unit .f64) = fv .f32 x / unit .f32 := by
    rw [f2, e1]
    have hu64 : (unit .f64 : Int) ≠ 0 := by have := unit_pos .f64; omega
    exact Int.mul_tdiv_cancel _ hu64
  obtain ⟨t1, t2⟩ := toInt_ok hx .i64 (by rw [e2]; show (-9223372036854775808 : Int) ≤ _; omega) (by rw [e2]; show _ ≤ (9223372036854775807 : Int); omega)
  obtain ⟨u1, u2⟩ := toInt_ok f1 .i64 (by rw [e3]; show (-9223372036854775808 : Int) ≤ _; omega) (by rw [e3]; show _ ≤ (9223372036854775807 : Int); omega)
  exact ⟨t1, u1, by rw [u2, t2, e2, e3], by rw [t2, e2]⟩
end Go.Fx
