import Derived.Test.YtpdeekgbdalnaaaXr5e
import Derived.Test.YtpdeekgbdalnaaaXr5c
import Derived.Test.YtpdeekgbdalnaaaXr5u
import Derived.Test.YtpdeekgbdalnaaaXFin
namespace Go.Fx

theorem pend_is (x0 x1 x2 x3 x4 : Int) : Pure.spec_l02Is real x0 x1 x2 x3 x4 = Pure.impl_ValidPendulum real x0 x1 x2 x3 x4 ∧ Pure.impl_ValidPendulum_ok real x0 x1 x2 x3 x4 = true := by
  obtain ⟨f1, f2⟩ := impl_finite_eq [[x0], [x1], [x2], [x3], [x4]] (by simp)
  unfold Pure.spec_l02Is Pure.impl_ValidPendulum Pure.impl_ValidPendulum_ok Pure.impl_Pendulum_numbers Pure.spec_l02Above Pure.spec_l02Least
  refine ⟨?_, f1⟩
  rw [f2]
  simp only [fin_is, List.all_cons, List.all_nil, List.getD_cons_zero, Bool.and_true]
  generalize real.cmp .gtr .f32 x0 0 = c0
  generalize real.cmp .geq .f32 x1 0 = c1
  generalize real.cmp .geq .f32 x2 0 = c2
  cases Pure.impl_IsFinite real x0 <;> cases Pure.impl_IsFinite real x1 <;> cases Pure.impl_IsFinite real x2 <;> cases Pure.impl_IsFinite real x3 <;> cases Pure.impl_IsFinite real x4 <;> cases c0 <;> cases c1 <;> cases c2 <;> rfl

theorem swing_is (a b c : Int) : Pure.impl_ValidSwing real a b c = Pure.spec_l02Swing real a b c ∧ Pure.impl_ValidSwing_ok real a b c = true := by
  obtain ⟨f1, f2⟩ := impl_finite_eq [[a], [b], [c]] (by simp)
  unfold Pure.impl_ValidSwing Pure.spec_l02Swing Pure.impl_ValidSwing_ok Pure.impl_Swing_numbers
  refine ⟨?_, f1⟩
  rw [f2, fin_is, fin_is, fin_is]
  simp only [List.all_cons, List.all_nil, List.getD_cons_zero, Bool.and_true]
  cases Pure.impl_IsFinite real a <;> cases Pure.impl_IsFinite real b <;> rfl

theorem swing_parts {a b c : Int} (h : Pure.spec_l02Swing real a b c = true) : Pure.impl_IsFinite real a = true ∧ Pure.impl_IsFinite real b = true ∧ Pure.impl_IsFinite real c = true := by
  unfold Pure.spec_l02Swing at h
  simp only [Bool.cond_false_right, Bool.and_eq_true, fin_is] at h
  exact h

theorem force_is {x5 : Int} (h5 : OkF .f32 x5) (x0 x1 x2 x3 x4 x6 x7 : Int) : Pure.impl_Pendulum_force real x0 x1 x2 x3 x4 x5 x6 x7 = Pure.spec_l02Force real x0 x1 x2 x3 x4 x5 x6 x7 ∧ Pure.impl_Pendulum_force_ok real x0 x1 x2 x3 x4 x5 x6 x7 = true ∧ Pure.spec_l02Force_ok real x0 x1 x2 x3 x4 x5 x6 x7 = true := by
  obtain ⟨s1, s2, s3, _⟩ := sine_is h5
  obtain ⟨r1, r2, r3, _⟩ := sine_is (bin_ok .mul .f32 x4 x7)
  unfold Pure.impl_Pendulum_force Pure.spec_l02Force Pure.impl_Pendulum_force_ok Pure.spec_l02Force_ok Pure.impl_Pendulum_pull Pure.spec_l02Pull Pure.impl_Pendulum_drive Pure.spec_l02Drive Pure.impl_Pendulum_pull_ok Pure.spec_l02Pull_ok Pure.impl_Pendulum_drive_ok Pure.spec_l02Drive_ok
  rw [s1, s2, s3, r1, r2, r3]
  exact ⟨rfl, rfl, rfl⟩

theorem step_is {x5 : Int} (h5 : OkF .f32 x5) (x0 x1 x2 x3 x4 x6 x7 x8 : Int) : Pure.spec_l02Step_ok real x0 x1 x2 x3 x4 x5 x6 x7 x8 = true ∧ Pure.impl_Pendulum_step_ok real x0 x1 x2 x3 x4 x5 x6 x7 x8 = true ∧
    Pure.impl_Pendulum_step_3 real x0 x1 x2 x3 x4 x5 x6 x7 x8 = Pure.spec_l02Swing real (Pure.spec_l02Step real x0 x1 x2 x3 x4 x5 x6 x7 x8) (Pure.spec_l02Step_1 real x0 x1 x2 x3 x4 x5 x6 x7 x8) (Pure.spec_l02Step_2 real x0 x1 x2 x3 x4 x5 x6 x7 x8) ∧
    (Pure.impl_Pendulum_step_3 real x0 x1 x2 x3 x4 x5 x6 x7 x8 = true → Pure.impl_Pendulum_step real x0 x1 x2 x3 x4 x5 x6 x7 x8 = Pure.spec_l02Step real x0 x1 x2 x3 x4 x5 x6 x7 x8 ∧ Pure.impl_Pendulum_step_1 real x0 x1 x2 x3 x4 x5 x6 x7 x8 = Pure.spec_l02Step_1 real x0 x1 x2 x3 x4 x5 x6 x7 x8 ∧ Pure.impl_Pendulum_step_2 real x0 x1 x2 x3 x4 x5 x6 x7 x8 = Pure.spec_l02Step_2 real x0 x1 x2 x3 x4 x5 x6 x7 x8) := by
  obtain ⟨f1, f2, f3⟩ := force_is h5 x0 x1 x2 x3 x4 x6 x7
  unfold Pure.spec_l02Step_ok Pure.impl_Pendulum_step_ok Pure.impl_Pendulum_step_3 Pure.impl_Pendulum_step Pure.impl_Pendulum_step_1 Pure.impl_Pendulum_step_2 Pure.spec_l02Step Pure.spec_l02Step_1 Pure.spec_l02Step_2
  simp only [half_quo]
  rw [f1, f2, f3]
  generalize Pure.spec_l02Force real x0 x1 x2 x3 x4 x5 x6 x7 = A
  have hv := bin_ok .add .f32 x6 (real.bin .mul .f32 (real.bin .mul .f32 1056964608 x8) A)
  generalize real.bin .add .f32 x6 (real.bin .mul .f32 (real.bin .mul .f32 1056964608 x8) A) = v at *
  have hT := bin_ok .add .f32 x5 (real.bin .mul .f32 x8 v)
  generalize real.bin .add .f32 x5 (real.bin .mul .f32 x8 v) = T at *
  generalize real.bin .add .f32 x7 x8 = M
  obtain ⟨g1, g2, g3⟩ := force_is hT x0 x1 x2 x3 x4 v M
  rw [g1, g2, g3]
  generalize Pure.spec_l02Force real x0 x1 x2 x3 x4 T v M = B
  obtain ⟨a1, a2⟩ := swing_is T v M
  obtain ⟨b1, b2⟩ := swing_is T (real.bin .add .f32 v (real.bin .mul .f32 (real.bin .mul .f32 1056964608 x8) B)) M
  rw [a1, a2, b1, b2]
  cases hs : Pure.spec_l02Swing real T v M with
  | true => exact ⟨rfl, rfl, rfl, fun _ => ⟨rfl, rfl, rfl⟩⟩
  | false =>
    have : Pure.spec_l02Swing real T (real.bin .add .f32 v (real.bin .mul .f32 (real.bin .mul .f32 1056964608 x8) B)) M = false := by
      cases hh : Pure.spec_l02Swing real T (real.bin .add .f32 v (real.bin .mul .f32 (real.bin .mul .f32 1056964608 x8) B)) M with
      | false => rfl
      | true =>
        obtain ⟨p1, p2, p3⟩ := swing_parts hh
        have p4 := (fin_add hv (bin_ok _ _ _ _) (fin_of (bin_ok _ _ _ _) p2)).1
        unfold Pure.spec_l02Swing at hs
        rw [fin_is, fin_is, fin_is, p1, isFin p4, p3] at hs
        cases hs
    rw [this]
    exact ⟨rfl, rfl, rfl, fun h => by cases h⟩

theorem swingOk_is (x0 x1 x2 x3 x4 x5 x6 x7 x8 : Int) : Pure.impl_swingOk real x0 x1 x2 x3 x4 x5 x6 x7 x8 = (Pure.spec_l02Both real x0 x1 x2 x3 x4 x5 x6 x7 && Pure.spec_l02Tick real x8) ∧ Pure.impl_swingOk_ok real x0 x1 x2 x3 x4 x5 x6 x7 x8 = true := by
  obtain ⟨p1, p2⟩ := pend_is x0 x1 x2 x3 x4
  obtain ⟨q1, q2⟩ := swing_is x5 x6 x7
  have et : Pure.impl_tickOk real x8 = Pure.spec_l02Tick real x8 := rfl
  unfold Pure.impl_swingOk Pure.impl_swingOk_ok Pure.spec_l02Both
  rw [← p1, p2, q1, q2, et]
  cases Pure.spec_l02Is real x0 x1 x2 x3 x4 <;> cases Pure.spec_l02Swing real x5 x6 x7 <;> exact ⟨rfl, rfl⟩

theorem eqSwing_refl (a b c : Int) : Pure.laws_eqSwing_ok real a b c a b c = true ∧ Pure.laws_eqSwing real a b c a b c = true := by
  unfold Pure.laws_eqSwing_ok Pure.laws_eqSwing
  simp only [convOk_up, sameFloat_refl, cond_true, and_self]

end Go.Fx
