import Derived.Test.YtfefhcbffepdlaaXr6u
import Derived.Test.YtfefhcbffepdlaaXr6c
namespace Go.Fx
theorem spin_is (a b c d : Int) : Pure.spec_l04Spin real a b c d = Pure.impl_IsSpin real a b c d ∧ Pure.impl_IsSpin_ok real a b c d = true := by
  obtain ⟨f1, f2⟩ := impl_finite_eq [[a], [b], [c], [d]] (by simp)
  unfold Pure.spec_l04Spin Pure.impl_IsSpin Pure.impl_IsSpin_ok Pure.impl_Spin_numbers
  refine ⟨?_, f1⟩
  rw [f2, fin_is, fin_is, fin_is, fin_is]
  simp only [List.all_cons, List.all_nil, List.getD_cons_zero, Bool.and_true]
  cases Pure.impl_IsFinite real a <;> cases Pure.impl_IsFinite real b <;> cases Pure.impl_IsFinite real c <;> rfl

theorem size_is (a b c d : Int) : Pure.spec_l04Size real a b c d = Pure.impl_SizeOfSpin real a b c d ∧ Pure.spec_l04Size_ok real a b c d = true ∧ Pure.impl_SizeOfSpin_ok real a b c d = true := by
  have h := root_ok (bin_ok .add .f32 (real.bin .add .f32 (real.bin .add .f32 (real.bin .mul .f32 a a) (real.bin .mul .f32 b b)) (real.bin .mul .f32 c c)) (real.bin .mul .f32 d d))
  unfold Pure.spec_l04Size_ok Pure.impl_SizeOfSpin_ok Pure.spec_l01Sqrt_ok Pure.impl_RootNumber_ok Pure.spec_l01Narrow_ok Pure.impl_products
  rw [convOk_up, h]
  exact ⟨rfl, rfl, rfl⟩

theorem norm_is (a b c d : Int) : Pure.spec_l04Norm_ok real a b c d = true ∧ Pure.impl_NormSpin_ok real a b c d = true ∧ Pure.spec_l04Norm real a b c d = Pure.impl_NormSpin real a b c d ∧ Pure.spec_l04Norm_1 real a b c d = Pure.impl_NormSpin_1 real a b c d ∧
    Pure.spec_l04Norm_2 real a b c d = Pure.impl_NormSpin_2 real a b c d ∧ Pure.spec_l04Norm_3 real a b c d = Pure.impl_NormSpin_3 real a b c d ∧ Pure.spec_l04Norm_4 real a b c d = Pure.impl_NormSpin_4 real a b c d := by
  obtain ⟨s1, s2, s3⟩ := size_is a b c d
  obtain ⟨p1, p2⟩ := spin_is a b c d
  obtain ⟨q1, q2⟩ := spin_is (real.bin .quo .f32 a (Pure.impl_SizeOfSpin real a b c d)) (real.bin .quo .f32 b (Pure.impl_SizeOfSpin real a b c d)) (real.bin .quo .f32 c (Pure.impl_SizeOfSpin real a b c d)) (real.bin .quo .f32 d (Pure.impl_SizeOfSpin real a b c d))
  unfold Pure.spec_l04Norm_ok Pure.impl_NormSpin_ok Pure.spec_l04Norm Pure.spec_l04Norm_1 Pure.spec_l04Norm_2 Pure.spec_l04Norm_3 Pure.spec_l04Norm_4 Pure.impl_NormSpin Pure.impl_NormSpin_1 Pure.impl_NormSpin_2 Pure.impl_NormSpin_3 Pure.impl_NormSpin_4
    Pure.impl_toldSpin Pure.impl_toldSpin_1 Pure.impl_toldSpin_2 Pure.impl_toldSpin_3 Pure.impl_toldSpin_ok
  rw [s1, s2, s3, p1, p2, q1, q2]
  cases Pure.impl_IsSpin real a b c d <;> exact ⟨rfl, rfl, rfl, rfl, rfl, rfl, rfl⟩

theorem eqSpin_refl (a b c d : Int) : Pure.laws_eqSpin_ok real a b c d a b c d = true ∧ Pure.laws_eqSpin real a b c d a b c d = true := by
  unfold Pure.laws_eqSpin_ok Pure.laws_eqSpin
  simp only [convOk_up, sameFloat_refl, cond_true, and_self]

end Go.Fx
