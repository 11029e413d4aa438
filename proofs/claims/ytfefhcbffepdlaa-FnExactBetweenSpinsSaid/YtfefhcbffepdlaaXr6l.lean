import Derived.Test.YtfefhcbffepdlaaXr6u
import Derived.Test.YtfefhcbffepdlaaXr6d
namespace Go.Fx
theorem spin_is (a b c d : Int) : Pure.spec_l04Spin real a b c d = Pure.impl_IsSpin real a b c d ∧ Pure.impl_IsSpin_ok real a b c d = true := by
  obtain ⟨f1, f2⟩ := impl_finite_eq [[a], [b], [c], [d]] (by simp)
  unfold Pure.spec_l04Spin Pure.impl_IsSpin Pure.impl_IsSpin_ok Pure.impl_Spin_numbers
  refine ⟨?_, f1⟩
  rw [f2, fin_is, fin_is, fin_is, fin_is]
  simp only [List.all_cons, List.all_nil, List.getD_cons_zero, Bool.and_true]
  cases Pure.impl_IsFinite real a <;> cases Pure.impl_IsFinite real b <;> cases Pure.impl_IsFinite real c <;> rfl

theorem size_is (a b c d : Int) : Pure.spec_l04Size real a b c d = Pure.impl_SizeOfSpin real a b c d ∧ Pure.spec_l04Size_ok real a b c d = true ∧ Pure.impl_SizeOfSpin_ok real a b c d = true := by
  have h := root_ok (bin_ok .add .f32 (real.bin .add .f32 (real.bin .add .f32 (real.bin .mul .f32 a a) (real.bin .mul .f32 b b)) (real.bin .mul .f32 c c)) (real.bin .mul .f32 d d))
  unfold Pure.spec_l04Size_ok Pure.impl_SizeOfSpin_ok Pure.spec_l01Sqrt_ok Pure.impl_RootNumber_ok Pure.spec_l01Narrow_ok Pure.impl_products
  rw [convOk_up, h]
  exact ⟨rfl, rfl, rfl⟩

theorem norm_is (a b c d : Int) : Pure.spec_l04Norm_ok real a b c d = true ∧ Pure.impl_NormSpin_ok real a b c d = true ∧ Pure.spec_l04Norm real a b c d = Pure.impl_NormSpin real a b c d ∧ Pure.spec_l04Norm_1 real a b c d = Pure.impl_NormSpin_1 real a b c d ∧
    Pure.spec_l04Norm_2 real a b c d = Pure.impl_NormSpin_2 real a b c d ∧ Pure.spec_l04Norm_3 real a b c d = Pure.impl_NormSpin_3 real a b c d ∧ Pure.spec_l04Norm_4 real a b c d = Pure.impl_NormSpin_4 real a b c d := by
  obtain ⟨s1, s2, s3⟩ := size_is a b c d
  obtain ⟨p1, p2⟩ := spin_is a b c d
  obtain ⟨q1, q2⟩ := spin_is (real.bin .quo .f32 a (Pure.impl_SizeOfSpin real a b c d)) (real.bin .quo .f32 b (Pure.impl_SizeOfSpin real a b c d)) (real.bin .quo .f32 c (Pure.impl_SizeOfSpin real a b c d)) (real.bin .quo .f32 d (Pure.impl_SizeOfSpin real a b c d))
  unfold Pure.spec_l04Norm_ok Pure.impl_NormSpin_ok Pure.spec_l04Norm Pure.spec_l04Norm_1 Pure.spec_l04Norm_2 Pure.spec_l04Norm_3 Pure.spec_l04Norm_4 Pure.impl_NormSpin Pure.impl_NormSpin_1 Pure.impl_NormSpin_2 Pure.impl_NormSpin_3 Pure.impl_NormSpin_4
    Pure.impl_toldSpin Pure.impl_toldSpin_1 Pure.impl_toldSpin_2 Pure.impl_toldSpin_3 Pure.impl_toldSpin_ok
  rw [s1, s2, s3, p1, p2, q1, q2]
  cases Pure.impl_IsSpin real a b c d <;> exact ⟨rfl, rfl, rfl, rfl, rfl, rfl, rfl⟩

theorem eqSpin_refl (a b c d : Int) : Pure.laws_eqSpin_ok real a b c d a b c d = true ∧ Pure.laws_eqSpin real a b c d a b c d = true := by
  unfold Pure.laws_eqSpin_ok Pure.laws_eqSpin
  simp only [convOk_up, sameFloat_refl, cond_true, and_self]

theorem between_is (x0 x1 x2 x3 x4 x5 x6 x7 x8 : Int) : Pure.spec_BetweenSpins_ok real x0 x1 x2 x3 x4 x5 x6 x7 x8 = true ∧ Pure.impl_BetweenSpins_ok real x0 x1 x2 x3 x4 x5 x6 x7 x8 = true ∧ Pure.spec_BetweenSpins real x0 x1 x2 x3 x4 x5 x6 x7 x8 = Pure.impl_BetweenSpins real x0 x1 x2 x3 x4 x5 x6 x7 x8 ∧
    Pure.spec_BetweenSpins_1 real x0 x1 x2 x3 x4 x5 x6 x7 x8 = Pure.impl_BetweenSpins_1 real x0 x1 x2 x3 x4 x5 x6 x7 x8 ∧ Pure.spec_BetweenSpins_2 real x0 x1 x2 x3 x4 x5 x6 x7 x8 = Pure.impl_BetweenSpins_2 real x0 x1 x2 x3 x4 x5 x6 x7 x8 ∧
    Pure.spec_BetweenSpins_3 real x0 x1 x2 x3 x4 x5 x6 x7 x8 = Pure.impl_BetweenSpins_3 real x0 x1 x2 x3 x4 x5 x6 x7 x8 ∧ Pure.spec_BetweenSpins_4 real x0 x1 x2 x3 x4 x5 x6 x7 x8 = Pure.impl_BetweenSpins_4 real x0 x1 x2 x3 x4 x5 x6 x7 x8 := by
  obtain ⟨p1, p2⟩ := spin_is x0 x1 x2 x3
  obtain ⟨q1, q2⟩ := spin_is x4 x5 x6 x7
  have hp : real.bin .add .f32 (real.bin .add .f32 (real.bin .add .f32 (real.bin .mul .f32 x0 x4) (real.bin .mul .f32 x1 x5)) (real.bin .mul .f32 x2 x6)) (real.bin .mul .f32 x3 x7) = Pure.impl_products real x0 x1 x2 x3 x4 x5 x6 x7 := rfl
  have n := fun a b c d => norm_is a b c d
  unfold Pure.spec_BetweenSpins_ok Pure.impl_BetweenSpins_ok Pure.spec_BetweenSpins Pure.impl_BetweenSpins Pure.spec_BetweenSpins_1 Pure.impl_BetweenSpins_1 Pure.spec_BetweenSpins_2 Pure.impl_BetweenSpins_2 Pure.spec_BetweenSpins_3 Pure.impl_BetweenSpins_3 Pure.spec_BetweenSpins_4 Pure.impl_BetweenSpins_4
  rw [p1, p2, q1, q2, hp, fin_is]
  cases Pure.impl_IsSpin real x0 x1 x2 x3 with
  | false => exact ⟨rfl, rfl, rfl, rfl, rfl, rfl, rfl⟩
  | true =>
    cases Pure.impl_IsSpin real x4 x5 x6 x7 with
    | false => exact ⟨rfl, rfl, rfl, rfl, rfl, rfl, rfl⟩
    | true =>
      cases Pure.impl_IsFinite real x8 with
      | false => exact ⟨rfl, rfl, rfl, rfl, rfl, rfl, rfl⟩
      | true =>
        cases real.cmp .lss .f32 (Pure.impl_products real x0 x1 x2 x3 x4 x5 x6 x7) 0 <;> exact n _ _ _ _

theorem law_FnExactBetweenSpins (x0 x1 x2 x3 x4 x5 x6 x7 x8 : Int) (_ : OkF .f32 x0) (_ : OkF .f32 x1) (_ : OkF .f32 x2) (_ : OkF .f32 x3) (_ : OkF .f32 x4) (_ : OkF .f32 x5) (_ : OkF .f32 x6) (_ : OkF .f32 x7) (_ : OkF .f32 x8) :
    Pure.laws_FnExactBetweenSpins_ok real x0 x1 x2 x3 x4 x5 x6 x7 x8 = true ∧ Pure.laws_FnExactBetweenSpins real x0 x1 x2 x3 x4 x5 x6 x7 x8 = true := by
  obtain ⟨i1, i2, i3, i4, i5, i6, i7⟩ := between_is x0 x1 x2 x3 x4 x5 x6 x7 x8
  obtain ⟨e1, e2⟩ := eqSpin_refl (Pure.impl_BetweenSpins real x0 x1 x2 x3 x4 x5 x6 x7 x8) (Pure.impl_BetweenSpins_1 real x0 x1 x2 x3 x4 x5 x6 x7 x8) (Pure.impl_BetweenSpins_2 real x0 x1 x2 x3 x4 x5 x6 x7 x8) (Pure.impl_BetweenSpins_3 real x0 x1 x2 x3 x4 x5 x6 x7 x8)
  unfold Pure.laws_FnExactBetweenSpins_ok Pure.laws_FnExactBetweenSpins
  rw [i1, i2, i3, i4, i5, i6, i7, e1, e2]
  simp
end Go.Fx
