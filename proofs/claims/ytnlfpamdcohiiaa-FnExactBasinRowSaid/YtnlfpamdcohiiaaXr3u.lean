import Derived.Test.YtnlfpamdcohiiaaXr3c
import Derived.Test.YtnlfpamdcohiiaaXr3t
import Derived.Test.YtnlfpamdcohiiaaXWrap
namespace Go.Fx

theorem sameFloat_refl (c : Int) : Pure.laws_sameFloat real c c = true := by
  unfold Pure.laws_sameFloat
  rw [eql_eq_not_neq, eql_eq_not_neq]
  cases real.cmp .neq .f64 c c with
  | true => rfl
  | false => simp

theorem eqState_refl (a b : Int) : Pure.laws_eqState_ok real a b a b = true ∧ Pure.laws_eqState real a b a b = true := by
  unfold Pure.laws_eqState_ok Pure.laws_eqState
  rw [convOk_up, convOk_up, sameFloat_refl, sameFloat_refl]
  exact ⟨rfl, rfl⟩

theorem isFin {x : Int} (h : Fin .f32 x) : Pure.impl_IsFinite real x = true := (isfin_iff h.okF).2 h

theorem wrap_is {x : Int} (h : Fin .f32 x) : Pure.spec_l05Wrap real x = Pure.impl_WrapTurn real x ∧ Pure.spec_l05Wrap_ok real x = true ∧ Pure.impl_wrapped_ok real x = true ∧ Turn (Pure.impl_WrapTurn real x) := by
  obtain ⟨h1, h2⟩ := turn_wrap h
  obtain ⟨g1, _⟩ := turnW_is h
  unfold Pure.spec_l05Wrap Pure.impl_WrapTurn Pure.spec_l05Wrap_ok Pure.impl_wrapped_ok Pure.impl_WrapTurn_ok Pure.spec_l01Narrow Pure.spec_l01Narrow_ok
  rw [isFin h, convOk_up]
  exact ⟨h1, g1, g1, h2⟩

theorem kick_is {x : Int} (h : Le .f32 22 x) : Pure.spec_l07Kick real x = Pure.impl_WrapKick real x ∧ Pure.spec_l07Kick_ok real x = true ∧ Pure.impl_kicked_ok real x = true ∧ Le .f32 0 (Pure.impl_WrapKick real x) := by
  have h2 := kick_wrap h
  obtain ⟨g1, _⟩ := kickW_is h
  unfold Pure.spec_l07Kick Pure.impl_WrapKick Pure.spec_l07Kick_ok Pure.impl_kicked_ok Pure.impl_WrapKick_ok Pure.spec_l01Narrow Pure.spec_l01Narrow_ok
  rw [isFin h.1, convOk_up]
  exact ⟨rfl, g1, g1, h2⟩

theorem valid_is (x y : Int) : Pure.spec_l07Is real x y = Pure.impl_ValidState real x y := rfl
theorem valid_ok {x y : Int} (hx : OkF .f32 x) (hy : OkF .f32 y) (h : Pure.impl_ValidState real x y = true) : Turn x ∧ Le .f32 0 y := by
  unfold Pure.impl_ValidState at h
  simp only [Bool.cond_false_right, Bool.and_eq_true] at h
  exact state_ok hx hy h.1 h.2.1 h.2.2.1 h.2.2.2
theorem sizeOk_le {x : Int} (hx : OkF .f32 x) (h : Pure.impl_sizeOk real x = true) : Le .f32 2 x := by
  unfold Pure.impl_sizeOk at h
  simp only [Bool.cond_false_right, Bool.and_eq_true] at h
  exact size_ok hx h.1 h.2
theorem keepOk_le {x : Int} (hx : OkF .f32 x) (h : Pure.impl_shareOk real x = true) : Le .f32 0 x := by
  unfold Pure.impl_shareOk at h
  simp only [Bool.cond_false_right, Bool.and_eq_true] at h
  exact (share_ok hx h.1 h.2).1

theorem le127 {e : Nat} (h : e ≤ 127) : e ≤ top .f32 := h

theorem damp_is {t k s q : Int} (ht : Turn t) (hk : Le .f32 0 k) (hs : Le .f32 2 s) (hq : Le .f32 0 q) :
    Pure.spec_l07Damp_ok real t k s q = true ∧ Pure.impl_State_damped_ok real t k s q = true ∧ Pure.spec_l07Damp real t k s q = Pure.impl_State_damped real t k s q ∧ Pure.spec_l07Damp_1 real t k s q = Pure.impl_State_damped_1 real t k s q ∧
    Turn (Pure.impl_State_damped real t k s q) ∧ Le .f32 0 (Pure.impl_State_damped_1 real t k s q) := by
  obtain ⟨s1, s2, s3, s4⟩ := sine_is ht.fin.okF
  have s4 := s4 ht.fin
  have a1 : Le .f32 6 (real.bin .mul .f32 s (Pure.impl_SineTurns real t)) := Le.mul hs s4 (by omega) (le127 (by omega))
  have a2 : Le .f32 6 (real.bin .mul .f32 q k) := Le.mul hq hk (by omega) (le127 (by omega))
  have a3 : Le .f32 22 (real.bin .add .f32 (real.bin .mul .f32 q k) (real.bin .mul .f32 s (Pure.impl_SineTurns real t))) := Le.add a2 a1 (by omega) (le127 (by omega))
  obtain ⟨k1, k2, k3, k4⟩ := kick_is a3
  have a4 : Le .f32 1 (real.bin .add .f32 t (Pure.impl_WrapKick real (real.bin .add .f32 (real.bin .mul .f32 q k) (real.bin .mul .f32 s (Pure.impl_SineTurns real t))))) := Le.add ht.le k4 (by omega) (le127 (by omega))
  obtain ⟨w1, w2, w3, w4⟩ := wrap_is a4.1
  unfold Pure.spec_l07Damp_ok Pure.impl_State_damped_ok Pure.spec_l07Damp Pure.impl_State_damped Pure.spec_l07Damp_1 Pure.impl_State_damped_1
  rw [s1, s2, s3, k1, k2, k3, w1, w2, w3]
  exact ⟨rfl, rfl, rfl, rfl, w4, k4⟩

theorem map_is {t k s : Int} (ht : Turn t) (hk : Le .f32 0 k) (hs : Le .f32 2 s) :
    Pure.spec_l07Map_ok real t k s = true ∧ Pure.impl_State_mapped_ok real t k s = true ∧ Pure.spec_l07Map real t k s = Pure.impl_State_damped real t k s 1065353216 ∧ Pure.spec_l07Map_1 real t k s = Pure.impl_State_damped_1 real t k s 1065353216 ∧
    Turn (Pure.impl_State_damped real t k s 1065353216) ∧ Le .f32 0 (Pure.impl_State_damped_1 real t k s 1065353216) := by
  have h1 : Le .f32 0 1065353216 := Le.const (by decide +kernel)
  obtain ⟨d1, d2, d3, d4, d5, d6⟩ := damp_is ht hk hs h1
  have e1 : Pure.spec_l07Map_ok real t k s = Pure.spec_l07Damp_ok real t k s 1065353216 := by
    unfold Pure.spec_l07Map_ok Pure.spec_l07Damp_ok; rw [one_mul32 hk.1]
  have e2 : Pure.spec_l07Map real t k s = Pure.spec_l07Damp real t k s 1065353216 := by
    unfold Pure.spec_l07Map Pure.spec_l07Damp; rw [one_mul32 hk.1]
  have e3 : Pure.spec_l07Map_1 real t k s = Pure.spec_l07Damp_1 real t k s 1065353216 := by
    unfold Pure.spec_l07Map_1 Pure.spec_l07Damp_1; rw [one_mul32 hk.1]
  rw [e1, e2, e3]
  exact ⟨d1, d2, d3, d4, d5, d6⟩
end Go.Fx
