import Derived.Test.YtmcfcijddhgphaaXr4v
import Derived.Test.YtmcfcijddhgphaaXr4j
import Derived.Test.YtmcfcijddhgphaaXNear2
namespace Go.Fx

theorem kick_all {x : Int} (h : Fin .f32 x) : Pure.spec_l07Kick real x = Pure.impl_WrapKick real x ∧ Pure.spec_l07Kick_ok real x = true ∧ Pure.impl_kicked_ok real x = true ∧ Le .f32 0 (Pure.impl_WrapKick real x) := by
  have h2 := kick_wrap_all h
  obtain ⟨g1, _⟩ := kickW_all h
  unfold Pure.spec_l07Kick Pure.impl_WrapKick Pure.spec_l07Kick_ok Pure.impl_kicked_ok Pure.impl_WrapKick_ok Pure.spec_l01Narrow Pure.spec_l01Narrow_ok
  rw [isFin h, convOk_up]
  exact ⟨rfl, g1, g1, h2⟩

def eN (a b c d : Int) : Int := real.bin .sub .f32 (real.bin .mul .f32 (real.bin .sub .f32 a 1065353216) (real.bin .sub .f32 d 1065353216)) (real.bin .mul .f32 b c)
def xN (a b c d p q : Int) : Int := real.bin .quo .f32 (real.bin .sub .f32 (real.bin .mul .f32 (real.bin .sub .f32 d 1065353216) p) (real.bin .mul .f32 b q)) (eN a b c d)
def yN (a b c d p q : Int) : Int := real.bin .quo .f32 (real.bin .sub .f32 (real.bin .mul .f32 (real.bin .sub .f32 a 1065353216) q) (real.bin .mul .f32 c p)) (eN a b c d)

theorem finite2 (x y : Int) : Pure.impl_finite_ok real [[x], [y]] = true ∧ Pure.impl_finite real [[x], [y]] = (Pure.impl_IsFinite real x && Pure.impl_IsFinite real y) := by
  obtain ⟨h1, h2⟩ := impl_finite_eq [[x], [y]] (show 2 < 4611686018427387904 by decide)
  exact ⟨h1, by rw [h2]; simp⟩

theorem find_step {s : Int} (hs : Le .f32 2 s) (N : Nat) (hN : N ≤ 128) {t k : Int} (ht : Turn t) (hk : Le .f32 0 k) : ∃ a b c d p q,
    (∀ (f : Nat) (n : Int), 0 < n → Pure.spec_FindReturn_L0 real s N 0 0 (f + 1) n t k =
      bif real.cmp .eql .f32 (eN a b c d) 0 then (true, t, k) else bif Pure.impl_IsFinite real (eN a b c d) then bif Pure.impl_IsFinite real (xN a b c d p q) then bif Pure.impl_IsFinite real (yN a b c d p q) then
        bif Pure.spec_l05Wrap_ok real (real.bin .sub .f32 t (xN a b c d p q)) then bif Pure.spec_l07Kick_ok real (real.bin .sub .f32 k (yN a b c d p q)) then
        Pure.spec_FindReturn_L0 real s N 0 0 f (IntKind.wrap .i64 (n - 1)) (Pure.spec_l05Wrap real (real.bin .sub .f32 t (xN a b c d p q))) (Pure.spec_l07Kick real (real.bin .sub .f32 k (yN a b c d p q)))
        else (false, 0, 0) else (false, 0, 0) else (true, t, k) else (true, t, k) else (true, t, k)) ∧
    Pure.impl_State_nearer_ok real t k s N = (bif real.cmp .eql .f32 (eN a b c d) 0 then true else bif Pure.impl_IsFinite real (eN a b c d) then bif Pure.impl_IsFinite real (xN a b c d p q) && Pure.impl_IsFinite real (yN a b c d p q) then bif Pure.impl_wrapped_ok real (real.bin .sub .f32 t (xN a b c d p q)) then Pure.impl_kicked_ok real (real.bin .sub .f32 k (yN a b c d p q)) else false else true else true) ∧
    Pure.impl_State_nearer_2 real t k s N = (bif real.cmp .eql .f32 (eN a b c d) 0 then false else bif Pure.impl_IsFinite real (eN a b c d) then Pure.impl_IsFinite real (xN a b c d p q) && Pure.impl_IsFinite real (yN a b c d p q) else false) ∧
    Pure.impl_State_nearer real t k s N = (bif real.cmp .eql .f32 (eN a b c d) 0 then t else bif Pure.impl_IsFinite real (eN a b c d) then bif Pure.impl_IsFinite real (xN a b c d p q) && Pure.impl_IsFinite real (yN a b c d p q) then Pure.impl_WrapTurn real (real.bin .sub .f32 t (xN a b c d p q)) else t else t) ∧
    Pure.impl_State_nearer_1 real t k s N = (bif real.cmp .eql .f32 (eN a b c d) 0 then k else bif Pure.impl_IsFinite real (eN a b c d) then bif Pure.impl_IsFinite real (xN a b c d p q) && Pure.impl_IsFinite real (yN a b c d p q) then Pure.impl_WrapKick real (real.bin .sub .f32 k (yN a b c d p q)) else k else k) := by
  obtain ⟨a, b, c, d, l1, l2, l3, l4, l5, l6, l7⟩ := along_is ht hk hs hN
  obtain ⟨o1, o2⟩ := spec_orbit_is ht hk hs hN
  obtain ⟨o3, o4⟩ := impl_orbit_is ht hk hs hN
  have hlen := orbit_len t k s N
  have hg := orbit_good ht hk hs (n := N)
  have hlt : N < (orbit t k s N).length := by omega
  obtain ⟨g1, g2⟩ := hg _ (List.getElem_mem hlt)
  obtain ⟨p1, p2, p3⟩ := apart_is ht.fin g1.fin
  obtain ⟨q1, q2, q3⟩ := apart_is hk.1 g2.1
  refine ⟨a, b, c, d, Pure.impl_apart real t ((orbit t k s N)[N].getD 0 0), Pure.impl_apart real k ((orbit t k s N)[N].getD 1 0), fun f n hn => ?_, ?_, ?_, ?_, ?_⟩
  · conv => lhs; unfold Pure.spec_FindReturn_L0
    have e0 : decide (n > 0) = true := by simp; omega
    rw [e0, o1, o2, dec_nn, dec_lt hlt, Int.toNat_natCast, getD_some hlt, p1, p3, q1, q3, l1, l3]
    rfl
  · unfold Pure.impl_State_nearer_ok
    obtain ⟨f1, f2⟩ := finite2 (xN a b c d (Pure.impl_apart real t ((orbit t k s N)[N].getD 0 0)) (Pure.impl_apart real k ((orbit t k s N)[N].getD 1 0))) (yN a b c d (Pure.impl_apart real t ((orbit t k s N)[N].getD 0 0)) (Pure.impl_apart real k ((orbit t k s N)[N].getD 1 0)))
    rw [o3, l2, o4, dec_nn, dec_lt hlt, Int.toNat_natCast, getD_some hlt, p2, q2, l4, l5, l6, l7]
    simp only [cond_true]
    unfold xN yN eN at f1 f2 ⊢
    have e1 : ∀ z : Int, List.getD [z] 0 0 = z := fun _ => rfl
    simp only [e1]
    rw [f1, f2]
    rfl
  · unfold Pure.impl_State_nearer_2
    obtain ⟨f1, f2⟩ := finite2 (xN a b c d (Pure.impl_apart real t ((orbit t k s N)[N].getD 0 0)) (Pure.impl_apart real k ((orbit t k s N)[N].getD 1 0))) (yN a b c d (Pure.impl_apart real t ((orbit t k s N)[N].getD 0 0)) (Pure.impl_apart real k ((orbit t k s N)[N].getD 1 0)))
    rw [o4, Int.toNat_natCast, getD_some hlt, l4, l5, l6, l7]
    unfold xN yN eN at f1 f2 ⊢
    have e1 : ∀ z : Int, List.getD [z] 0 0 = z := fun _ => rfl
    simp only [e1]
    rw [f2]
  · unfold Pure.impl_State_nearer
    obtain ⟨f1, f2⟩ := finite2 (xN a b c d (Pure.impl_apart real t ((orbit t k s N)[N].getD 0 0)) (Pure.impl_apart real k ((orbit t k s N)[N].getD 1 0))) (yN a b c d (Pure.impl_apart real t ((orbit t k s N)[N].getD 0 0)) (Pure.impl_apart real k ((orbit t k s N)[N].getD 1 0)))
    rw [o4, Int.toNat_natCast, getD_some hlt, l4, l5, l6, l7]
    unfold xN yN eN at f1 f2 ⊢
    have e1 : ∀ z : Int, List.getD [z] 0 0 = z := fun _ => rfl
    simp only [e1]
    rw [f2]
  · unfold Pure.impl_State_nearer_1
    obtain ⟨f1, f2⟩ := finite2 (xN a b c d (Pure.impl_apart real t ((orbit t k s N)[N].getD 0 0)) (Pure.impl_apart real k ((orbit t k s N)[N].getD 1 0))) (yN a b c d (Pure.impl_apart real t ((orbit t k s N)[N].getD 0 0)) (Pure.impl_apart real k ((orbit t k s N)[N].getD 1 0)))
    rw [o4, Int.toNat_natCast, getD_some hlt, l4, l5, l6, l7]
    unfold xN yN eN at f1 f2 ⊢
    have e1 : ∀ z : Int, List.getD [z] 0 0 = z := fun _ => rfl
    simp only [e1]
    rw [f2]

theorem find_loop {s : Int} (hs : Le .f32 2 s) (N : Nat) (hN : N ≤ 128) (R : Nat) (hR : R < 1000) : ∀ (n i f1 f2 : Nat) (t k : Int), i + n = R → n < f1 → n < f2 → Turn t → Le .f32 0 k →
    ∃ u v, Pure.spec_FindReturn_L0 real s N 0 0 f1 n t k = (true, u, v) ∧ Pure.impl_FindReturn_L0 real s N R 0 0 f2 i t k = (true, u, v) ∧ Turn u ∧ Le .f32 0 v := by
  intro n
  induction n with
  | zero =>
    intro i f1 f2 t k hi h1 h2 ht hk
    obtain ⟨f1, rfl⟩ : ∃ g, f1 = g + 1 := ⟨f1 - 1, by omega⟩
    obtain ⟨f2, rfl⟩ : ∃ g, f2 = g + 1 := ⟨f2 - 1, by omega⟩
    refine ⟨t, k, ?_, ?_, ht, hk⟩
    · unfold Pure.spec_FindReturn_L0
      rfl
    · unfold Pure.impl_FindReturn_L0
      have e1 : decide ((i : Int) < (R : Int)) = false := by simp; omega
      rw [e1]; rfl
  | succ n ih =>
    intro i f1 f2 t k hi h1 h2 ht hk
    obtain ⟨f1, rfl⟩ : ∃ g, f1 = g + 1 := ⟨f1 - 1, by omega⟩
    obtain ⟨f2, rfl⟩ : ∃ g, f2 = g + 1 := ⟨f2 - 1, by omega⟩
    obtain ⟨a, b, c, d, p, q, g1, g2, g3, g4, g5⟩ := find_step hs N hN ht hk
    rw [g1 f1 _ (by omega)]
    unfold Pure.impl_FindReturn_L0
    have e1 : decide ((i : Int) < (R : Int)) = true := by simp; omega
    rw [e1, g2, g3, g4, g5]
    cases real.cmp .eql .f32 (eN a b c d) 0 with
    | true => exact ⟨t, k, rfl, rfl, ht, hk⟩
    | false =>
      cases Pure.impl_IsFinite real (eN a b c d) with
      | false => exact ⟨t, k, rfl, rfl, ht, hk⟩
      | true =>
        cases hx : Pure.impl_IsFinite real (xN a b c d p q) with
        | false => exact ⟨t, k, rfl, rfl, ht, hk⟩
        | true =>
          cases hy : Pure.impl_IsFinite real (yN a b c d p q) with
          | false => exact ⟨t, k, rfl, rfl, ht, hk⟩
          | true =>
            have fx : Fin .f32 (xN a b c d p q) := (isfin_iff (bin_ok _ _ _ _)).1 hx
            have fy : Fin .f32 (yN a b c d p q) := (isfin_iff (bin_ok _ _ _ _)).1 hy
            obtain ⟨w1, w2, w3, w4⟩ := wrap_is (sub_fin ht.le (by omega) fx)
            obtain ⟨k1, k2, k3, k4⟩ := kick_all (sub_fin hk (by omega) fy)
            rw [w1, w2, w3, k1, k2, k3, wrap_succ (by omega)]
            have e2 : IntKind.wrap .i64 (((n + 1 : Nat) : Int) - 1) = (n : Int) := by
              rw [wrap64 (by omega) (by omega)]; omega
            rw [e2]
            exact ih (i + 1) f1 f2 _ _ (by omega) (by omega) (by omega) w4 k4

theorem find_is (x0 x1 x2 x3 x4 : Int) (h0 : OkF .f32 x0) (h1 : OkF .f32 x1) (h2 : OkF .f32 x2) : Pure.spec_FindReturn_ok real x0 x1 x2 x3 x4 = true ∧ Pure.impl_FindReturn_ok real x0 x1 x2 x3 x4 = true ∧
    Pure.spec_FindReturn real x0 x1 x2 x3 x4 = Pure.impl_FindReturn real x0 x1 x2 x3 x4 ∧ Pure.spec_FindReturn_1 real x0 x1 x2 x3 x4 = Pure.impl_FindReturn_1 real x0 x1 x2 x3 x4 ∧ Pure.spec_FindReturn_2 real x0 x1 x2 x3 x4 = Pure.impl_FindReturn_2 real x0 x1 x2 x3 x4 ∧
    Pure.spec_FindReturn_3 real x0 x1 x2 x3 x4 = Pure.impl_FindReturn_3 real x0 x1 x2 x3 x4 := by
  have es : Pure.spec_l07Size real x2 = Pure.impl_sizeOk real x2 := rfl
  have ei : ∀ a b c, Pure.spec_l00In real a b c = Pure.impl_in real a b c := fun a b c => rfl
  unfold Pure.spec_FindReturn_ok Pure.impl_FindReturn_ok Pure.spec_FindReturn Pure.impl_FindReturn Pure.spec_FindReturn_1 Pure.impl_FindReturn_1 Pure.spec_FindReturn_2 Pure.impl_FindReturn_2 Pure.spec_FindReturn_3 Pure.impl_FindReturn_3 Pure.impl_stateOk
  rw [valid_is, es, ei, ei]
  cases hv : Pure.impl_ValidState real x0 x1 with
  | false => exact ⟨rfl, rfl, rfl, rfl, rfl, rfl⟩
  | true =>
    cases hz : Pure.impl_sizeOk real x2 with
    | false => exact ⟨rfl, rfl, rfl, rfl, rfl, rfl⟩
    | true =>
      cases hc : Pure.impl_in real x3 1 16 with
      | false => exact ⟨rfl, rfl, rfl, rfl, rfl, rfl⟩
      | true =>
        cases hd : Pure.impl_in real x4 0 20 with
        | false => exact ⟨rfl, rfl, rfl, rfl, rfl, rfl⟩
        | true =>
          obtain ⟨v1, v2⟩ := valid_ok h0 h1 hv
          have hc := in_iff.1 hc
          have hd := in_iff.1 hd
          obtain ⟨n, rfl⟩ : ∃ n : Nat, x3 = n := ⟨x3.toNat, by omega⟩
          obtain ⟨R, rfl⟩ : ∃ n : Nat, x4 = n := ⟨x4.toNat, by omega⟩
          have hs := sizeOk_le h2 hz
          obtain ⟨u, v, L1, L2, tu, lv⟩ := find_loop hs n (by omega) R (by omega) R 0 (((R : Int) - 0) + 1).toNat (((R : Int) - 0) + 1).toNat x0 x1 (by omega) (by omega) (by omega) v1 v2
          have L2' : Pure.impl_FindReturn_L0 real x2 n R 0 0 (((R : Int) - 0) + 1).toNat 0 x0 x1 = _ := L2
          obtain ⟨m1, m2⟩ := spec_orbit_is tu lv hs (n := n) (by omega)
          obtain ⟨m3, m4⟩ := impl_orbit_is tu lv hs (n := n) (by omega)
          have hlen := orbit_len u v x2 n
          have hg := orbit_good tu lv hs (n := n)
          have hlt : n < (orbit u v x2 n).length := by omega
          obtain ⟨g1, g2⟩ := hg _ (List.getElem_mem hlt)
          obtain ⟨q1, q2, q3⟩ := far_is tu.fin lv.1 g1.fin g2.1
          rw [L1, L2']
          simp only [cond_true]
          rw [m1, m2, m3, m4, dec_nn, dec_lt hlt, Int.toNat_natCast, getD_some hlt, q1, q2, q3]
          simp

theorem law_FnExactFindReturn (x0 x1 x2 x3 x4 : Int) (h0 : OkF .f32 x0) (h1 : OkF .f32 x1) (h2 : OkF .f32 x2) (_ : IntKind.i64.has x3) (_ : IntKind.i64.has x4) : Pure.laws_FnExactFindReturn_ok real x0 x1 x2 x3 x4 = true ∧ Pure.laws_FnExactFindReturn real x0 x1 x2 x3 x4 = true := by
  obtain ⟨i1, i2, i3, i4, i5, i6⟩ := find_is x0 x1 x2 x3 x4 h0 h1 h2
  unfold Pure.laws_FnExactFindReturn_ok Pure.laws_FnExactFindReturn Pure.laws_eqState_ok Pure.laws_eqState
  rw [i1, i2, i3, i4, i5, i6, convOk_up, sameFloat_refl, sameFloat_refl, sameFloat_refl, convOk_up, convOk_up]
  simp
end Go.Fx
