import Derived.Test.YtnlfpamdcohiiaaXr3c
import Derived.Test.YtnlfpamdcohiiaaXr3u
namespace Go.Fx

theorem law_FnExactMirrorState (x0 x1 : Int) (h0 : OkF .f32 x0) (h1 : OkF .f32 x1) : Pure.laws_FnExactMirrorState_ok real x0 x1 = true ∧ Pure.laws_FnExactMirrorState real x0 x1 = true := by
  have hi : Pure.spec_MirrorState_ok real x0 x1 = true ∧ Pure.impl_MirrorState_ok real x0 x1 = true ∧ Pure.spec_MirrorState real x0 x1 = Pure.impl_MirrorState real x0 x1 ∧ Pure.spec_MirrorState_1 real x0 x1 = Pure.impl_MirrorState_1 real x0 x1 := by
    unfold Pure.spec_MirrorState_ok Pure.impl_MirrorState_ok Pure.spec_MirrorState Pure.impl_MirrorState Pure.spec_MirrorState_1 Pure.impl_MirrorState_1
    rw [valid_is]
    cases hv : Pure.impl_ValidState real x0 x1 with
    | false => exact ⟨rfl, rfl, rfl, rfl⟩
    | true =>
      obtain ⟨v1, v2⟩ := valid_ok h0 h1 hv
      obtain ⟨w1, w2, w3, _⟩ := wrap_is (neg_fin v1.fin).1
      obtain ⟨k1, k2, k3, _⟩ := kick_is (v2.neg.mono (show 0 ≤ 22 by omega))
      rw [w1, w2, w3, k1, k2, k3]
      exact ⟨rfl, rfl, rfl, rfl⟩
  obtain ⟨i1, i2, i3, i4⟩ := hi
  obtain ⟨e1, e2⟩ := eqState_refl (Pure.impl_MirrorState real x0 x1) (Pure.impl_MirrorState_1 real x0 x1)
  unfold Pure.laws_FnExactMirrorState_ok Pure.laws_FnExactMirrorState
  rw [i1, i2, i3, i4, e1, e2, valid_is]
  simp

theorem law_FnExactMapState (x0 x1 x2 : Int) (h0 : OkF .f32 x0) (h1 : OkF .f32 x1) (h2 : OkF .f32 x2) : Pure.laws_FnExactMapState_ok real x0 x1 x2 = true ∧ Pure.laws_FnExactMapState real x0 x1 x2 = true := by
  have hi : Pure.spec_MapState_ok real x0 x1 x2 = true ∧ Pure.impl_MapState_ok real x0 x1 x2 = true ∧ Pure.spec_MapState real x0 x1 x2 = Pure.impl_MapState real x0 x1 x2 ∧ Pure.spec_MapState_1 real x0 x1 x2 = Pure.impl_MapState_1 real x0 x1 x2 ∧ Pure.spec_MapState_2 real x0 x1 x2 = Pure.impl_stateOk real x0 x1 x2 := by
    have es : Pure.spec_l07Size real x2 = Pure.impl_sizeOk real x2 := rfl
    unfold Pure.spec_MapState_ok Pure.impl_MapState_ok Pure.spec_MapState Pure.impl_MapState Pure.spec_MapState_1 Pure.impl_MapState_1 Pure.spec_MapState_2 Pure.impl_stateOk
    rw [valid_is, es]
    cases hv : Pure.impl_ValidState real x0 x1 with
    | false => exact ⟨rfl, rfl, rfl, rfl, rfl⟩
    | true =>
      cases hz : Pure.impl_sizeOk real x2 with
      | false => exact ⟨rfl, rfl, rfl, rfl, rfl⟩
      | true =>
        obtain ⟨v1, v2⟩ := valid_ok h0 h1 hv
        obtain ⟨m1, m2, m3, m4, _⟩ := map_is v1 v2 (sizeOk_le h2 hz)
        rw [m1, m2, m3, m4]
        exact ⟨rfl, rfl, rfl, rfl, rfl⟩
  obtain ⟨i1, i2, i3, i4, i5⟩ := hi
  obtain ⟨e1, e2⟩ := eqState_refl (Pure.impl_MapState real x0 x1 x2) (Pure.impl_MapState_1 real x0 x1 x2)
  unfold Pure.laws_FnExactMapState_ok Pure.laws_FnExactMapState
  rw [i1, i2, i3, i4, i5, e1, e2]
  simp

theorem law_FnExactBackState (x0 x1 x2 : Int) (h0 : OkF .f32 x0) (h1 : OkF .f32 x1) (h2 : OkF .f32 x2) : Pure.laws_FnExactBackState_ok real x0 x1 x2 = true ∧ Pure.laws_FnExactBackState real x0 x1 x2 = true := by
  have hi : Pure.spec_BackState_ok real x0 x1 x2 = true ∧ Pure.impl_BackState_ok real x0 x1 x2 = true ∧ Pure.spec_BackState real x0 x1 x2 = Pure.impl_BackState real x0 x1 x2 ∧ Pure.spec_BackState_1 real x0 x1 x2 = Pure.impl_BackState_1 real x0 x1 x2 ∧ Pure.spec_BackState_2 real x0 x1 x2 = Pure.impl_stateOk real x0 x1 x2 := by
    have es : Pure.spec_l07Size real x2 = Pure.impl_sizeOk real x2 := rfl
    unfold Pure.spec_BackState_ok Pure.impl_BackState_ok Pure.spec_BackState Pure.impl_BackState Pure.spec_BackState_1 Pure.impl_BackState_1 Pure.spec_BackState_2 Pure.impl_stateOk
    rw [valid_is, es]
    cases hv : Pure.impl_ValidState real x0 x1 with
    | false => exact ⟨rfl, rfl, rfl, rfl, rfl⟩
    | true =>
      cases hz : Pure.impl_sizeOk real x2 with
      | false => exact ⟨rfl, rfl, rfl, rfl, rfl⟩
      | true =>
        obtain ⟨v1, v2⟩ := valid_ok h0 h1 hv
        have a1 : Le .f32 1 (real.bin .sub .f32 x0 x1) := Le.sub v1.le v2 (by omega) (le127 (by omega))
        obtain ⟨w1, w2, w3, w4⟩ := wrap_is a1.1
        obtain ⟨s1, s2, s3, s4⟩ := sine_is w4.fin.okF
        have a2 : Le .f32 6 (real.bin .mul .f32 x2 (Pure.impl_SineTurns real (Pure.impl_WrapTurn real (real.bin .sub .f32 x0 x1)))) := Le.mul (sizeOk_le h2 hz) (s4 w4.fin) (by omega) (le127 (by omega))
        have a3 : Le .f32 22 (real.bin .sub .f32 x1 (real.bin .mul .f32 x2 (Pure.impl_SineTurns real (Pure.impl_WrapTurn real (real.bin .sub .f32 x0 x1))))) := Le.sub (v2.mono (show 0 ≤ 6 by omega)) a2 (by omega) (le127 (by omega))
        obtain ⟨k1, k2, k3, _⟩ := kick_is a3
        rw [w1, w2, w3, s1, s2, s3, k1, k2, k3]
        exact ⟨rfl, rfl, rfl, rfl, rfl⟩
  obtain ⟨i1, i2, i3, i4, i5⟩ := hi
  obtain ⟨e1, e2⟩ := eqState_refl (Pure.impl_BackState real x0 x1 x2) (Pure.impl_BackState_1 real x0 x1 x2)
  unfold Pure.laws_FnExactBackState_ok Pure.laws_FnExactBackState
  rw [i1, i2, i3, i4, i5, e1, e2]
  simp

theorem law_FnExactDampState (x0 x1 x2 x3 : Int) (h0 : OkF .f32 x0) (h1 : OkF .f32 x1) (h2 : OkF .f32 x2) (h3 : OkF .f32 x3) : Pure.laws_FnExactDampState_ok real x0 x1 x2 x3 = true ∧ Pure.laws_FnExactDampState real x0 x1 x2 x3 = true := by
  have hi : Pure.spec_DampState_ok real x0 x1 x2 x3 = true ∧ Pure.impl_DampState_ok real x0 x1 x2 x3 = true ∧ Pure.spec_DampState real x0 x1 x2 x3 = Pure.impl_DampState real x0 x1 x2 x3 ∧ Pure.spec_DampState_1 real x0 x1 x2 x3 = Pure.impl_DampState_1 real x0 x1 x2 x3 ∧ Pure.spec_DampState_2 real x0 x1 x2 x3 = Pure.impl_DampState_2 real x0 x1 x2 x3 := by
    have es : Pure.spec_l07Size real x2 = Pure.impl_sizeOk real x2 := rfl
    have ek : Pure.spec_l07Keep real x3 = Pure.impl_shareOk real x3 := rfl
    unfold Pure.spec_DampState_ok Pure.impl_DampState_ok Pure.spec_DampState Pure.impl_DampState Pure.spec_DampState_1 Pure.impl_DampState_1 Pure.spec_DampState_2 Pure.impl_DampState_2 Pure.impl_stateOk
    rw [valid_is, es, ek]
    cases hv : Pure.impl_ValidState real x0 x1 with
    | false => exact ⟨rfl, rfl, rfl, rfl, rfl⟩
    | true =>
      cases hz : Pure.impl_sizeOk real x2 with
      | false => exact ⟨rfl, rfl, rfl, rfl, rfl⟩
      | true =>
        cases hk : Pure.impl_shareOk real x3 with
        | false => exact ⟨rfl, rfl, rfl, rfl, rfl⟩
        | true =>
          obtain ⟨v1, v2⟩ := valid_ok h0 h1 hv
          obtain ⟨m1, m2, m3, m4, _⟩ := damp_is v1 v2 (sizeOk_le h2 hz) (keepOk_le h3 hk)
          rw [m1, m2, m3, m4]
          exact ⟨rfl, rfl, rfl, rfl, rfl⟩
  obtain ⟨i1, i2, i3, i4, i5⟩ := hi
  obtain ⟨e1, e2⟩ := eqState_refl (Pure.impl_DampState real x0 x1 x2 x3) (Pure.impl_DampState_1 real x0 x1 x2 x3)
  unfold Pure.laws_FnExactDampState_ok Pure.laws_FnExactDampState
  rw [i1, i2, i3, i4, i5, e1, e2]
  simp
end Go.Fx
