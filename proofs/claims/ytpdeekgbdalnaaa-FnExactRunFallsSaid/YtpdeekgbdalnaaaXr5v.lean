import Derived.Test.YtpdeekgbdalnaaaXr5d
import Derived.Test.YtpdeekgbdalnaaaXr5u
import Derived.Test.YtpdeekgbdalnaaaXFin
namespace Go.Fx

theorem fall_is (a b c : Int) : Pure.spec_l06Fall real a b c = Pure.impl_finite real [[a], [b], [c]] ∧ Pure.impl_finite_ok real [[a], [b], [c]] = true := by
  obtain ⟨f1, f2⟩ := impl_finite_eq [[a], [b], [c]] (by simp)
  refine ⟨?_, f1⟩
  unfold Pure.spec_l06Fall
  rw [f2, fin_is, fin_is, fin_is]
  simp only [List.all_cons, List.all_nil, List.getD_cons_zero, Bool.and_true]
  cases Pure.impl_IsFinite real a <;> cases Pure.impl_IsFinite real b <;> rfl

theorem both_is (x0 x1 x2 x3 x4 x5 x6 : Int) : Pure.spec_l06Both real x0 x1 x2 x3 x4 x5 x6 = Pure.impl_fallOk real x0 x1 x2 x3 x4 x5 x6 ∧ Pure.impl_fallOk_ok real x0 x1 x2 x3 x4 x5 x6 = true := by
  obtain ⟨t1, t2⟩ := table_is x0 x1 x2 x3
  obtain ⟨g1, g2⟩ := fall_is x4 x5 x6
  unfold Pure.spec_l06Both Pure.impl_fallOk Pure.impl_fallOk_ok
  rw [t1, t2, g1, g2]
  cases Pure.impl_ValidTable real x0 x1 x2 x3 <;> exact ⟨rfl, rfl⟩

theorem both_parts {x0 x1 x2 x3 x4 x5 x6 : Int} (h : Pure.impl_fallOk real x0 x1 x2 x3 x4 x5 x6 = true) : Pure.impl_ValidTable real x0 x1 x2 x3 = true ∧ Pure.impl_IsFinite real x4 = true ∧ Pure.impl_IsFinite real x5 = true ∧ Pure.impl_IsFinite real x6 = true := by
  obtain ⟨_, f2⟩ := impl_finite_eq [[x4], [x5], [x6]] (by simp)
  unfold Pure.impl_fallOk at h
  simp only [Bool.cond_false_right, Bool.and_eq_true, f2, List.all_cons, List.all_nil, List.getD_cons_zero, Bool.and_true] at h
  exact ⟨h.1, h.2.1, h.2.2.1, h.2.2.2⟩

theorem isFinite_false {x : Int} (h : OkF .f32 x) (hf : ¬ Fin .f32 x) : Pure.impl_IsFinite real x = false := by
  cases hh : Pure.impl_IsFinite real x with
  | false => rfl
  | true => exact absurd (fin_of h hh) hf

theorem hit_is (x0 x1 x2 x3 x4 x5 x6 : Int) : Pure.spec_HitFall_ok real x0 x1 x2 x3 x4 x5 x6 = true ∧ Pure.impl_HitFall_ok real x0 x1 x2 x3 x4 x5 x6 = true ∧ Pure.spec_HitFall real x0 x1 x2 x3 x4 x5 x6 = Pure.impl_HitFall real x0 x1 x2 x3 x4 x5 x6 ∧
    Pure.spec_HitFall_1 real x0 x1 x2 x3 x4 x5 x6 = Pure.impl_HitFall_1 real x0 x1 x2 x3 x4 x5 x6 ∧ Pure.spec_HitFall_2 real x0 x1 x2 x3 x4 x5 x6 = Pure.impl_HitFall_2 real x0 x1 x2 x3 x4 x5 x6 ∧ Pure.spec_HitFall_3 real x0 x1 x2 x3 x4 x5 x6 = Pure.impl_HitFall_3 real x0 x1 x2 x3 x4 x5 x6 := by
  obtain ⟨b1, b2⟩ := both_is x0 x1 x2 x3 x4 x5 x6
  obtain ⟨a1, a2, _, _⟩ := tableAt_is x0 x1 x2 x3 x6
  obtain ⟨c1, c2, _, _⟩ := tableSpeed_is x0 x1 x2 x3 x6
  obtain ⟨s1, s2, s3, _⟩ := sine_is (bin_ok .mul .f32 x1 x6)
  obtain ⟨r1, r2, r3, _⟩ := sine_is (bin_ok .add .f32 (real.bin .mul .f32 x1 x6) 1048576000)
  have hfast : Pure.spec_l06Fast real x0 x1 x2 x3 x6 = real.bin .mul .f32 (real.bin .mul .f32 (real.bin .mul .f32 1086918619 x1) x0) (Pure.impl_SineTurns real (real.bin .add .f32 (real.bin .mul .f32 x1 x6) 1048576000)) := by
    unfold Pure.spec_l06Fast; rw [r3]
  have hhigh : Pure.spec_l06High real x0 x1 x2 x3 x6 = real.bin .mul .f32 x0 (Pure.impl_SineTurns real (real.bin .mul .f32 x1 x6)) := by
    unfold Pure.spec_l06High; rw [s3]
  unfold Pure.spec_HitFall_ok Pure.impl_HitFall_ok Pure.spec_HitFall Pure.impl_HitFall Pure.spec_HitFall_1 Pure.impl_HitFall_1 Pure.spec_HitFall_2 Pure.impl_HitFall_2 Pure.spec_HitFall_3 Pure.impl_HitFall_3 Pure.spec_l06Bounce_ok Pure.spec_l06Bounce Pure.spec_l06Fast_ok Pure.spec_l06High_ok
  rw [b1, b2, a2, c2, s2, r2]
  cases hb : Pure.impl_fallOk real x0 x1 x2 x3 x4 x5 x6 with
  | false => exact ⟨rfl, rfl, rfl, rfl, rfl, rfl⟩
  | true =>
    obtain ⟨p1, _, _, p4⟩ := both_parts hb
    unfold Pure.impl_TableAt Pure.impl_TableAt_1 Pure.impl_TableSpeed Pure.impl_TableSpeed_1 Pure.impl_toldNumber Pure.spec_l06Fall
    rw [p1, hfast, hhigh, fin_is, fin_is, fin_is, p4]
    simp only [cond_true]
    have hV := bin_ok .mul .f32 (real.bin .mul .f32 (real.bin .mul .f32 1086918619 x1) x0) (Pure.impl_SineTurns real (real.bin .add .f32 (real.bin .mul .f32 x1 x6) 1048576000))
    generalize real.bin .mul .f32 x0 (Pure.impl_SineTurns real (real.bin .mul .f32 x1 x6)) = H at *
    generalize real.bin .mul .f32 (real.bin .mul .f32 (real.bin .mul .f32 1086918619 x1) x0) (Pure.impl_SineTurns real (real.bin .add .f32 (real.bin .mul .f32 x1 x6) 1048576000)) = V at *
    cases hH : Pure.impl_IsFinite real H with
    | false => (refine ⟨?_, ?_, ?_, ?_, ?_, ?_⟩ <;> first | rfl | trivial)
    | true =>
      cases hVf : Pure.impl_IsFinite real V with
      | true =>
        simp only [cond_true]
        cases Pure.impl_IsFinite real (real.bin .add .f32 V (real.bin .mul .f32 x2 (real.bin .sub .f32 V x5))) <;> (refine ⟨?_, ?_, ?_, ?_, ?_, ?_⟩ <;> first | rfl | trivial)
      | false =>
        have : Pure.impl_IsFinite real (real.bin .add .f32 V (real.bin .mul .f32 x2 (real.bin .sub .f32 V x5))) = false := isFinite_false (bin_ok _ _ _ _) fun h => by
          have h2 := (fin_add hV (bin_ok _ _ _ _) h).1
          rw [isFin h2] at hVf; cases hVf
        rw [this]
        (refine ⟨?_, ?_, ?_, ?_, ?_, ?_⟩ <;> first | rfl | trivial)

theorem eqFall_refl (a b c : Int) : Pure.laws_eqFall_ok real a b c a b c = true ∧ Pure.laws_eqFall real a b c a b c = true := by
  unfold Pure.laws_eqFall_ok Pure.laws_eqFall
  simp only [convOk_up, sameFloat_refl, cond_true, and_self]

end Go.Fx
