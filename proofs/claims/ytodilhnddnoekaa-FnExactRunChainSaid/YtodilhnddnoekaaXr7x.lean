import Derived.Test.YtodilhnddnoekaaXr7w
import Derived.Test.YtodilhnddnoekaaF4
namespace Go.Fx
set_option maxRecDepth 100000

theorem eqChain_refl (p q r s : List (List Int)) (h0 : p.length < 4611686018427387904) (h1 : q.length < 4611686018427387904) (h2 : r.length < 4611686018427387904) (h3 : s.length < 4611686018427387904) :
    Pure.laws_eqChain_ok real p q r s p q r s = true ∧ Pure.laws_eqChain real p q r s p q r s = true := by
  unfold Pure.laws_eqChain_ok Pure.laws_eqChain
  rw [(eqVectorS_refl p h0).1, (eqVectorS_refl p h0).2, (eqVectorS_refl q h1).1, (eqVectorS_refl q h1).2, (eqFloat32S_refl r h2).1, (eqFloat32S_refl r h2).2, (eqRodS_refl s h3).1, (eqRodS_refl s h3).2]
  exact ⟨rfl, rfl⟩

theorem chain_marks (p q r s : List (List Int)) (h0 : p.length ≤ 2000000) (h1 : q.length ≤ 2000000) (h2 : r.length ≤ 2000000) (h3 : s.length ≤ 2000000) (w0 : Wide 3 p) (w1 : Wide 3 q) (w2 : Wide 1 r) (w3 : Wide 3 s) :
    Pure.laws_markChain_ok real p q r s 1 = true ∧ ∃ K : Nat, K < 1000000000 ∧ Pure.laws_markChain real p q r s 1 = K ∧
      Pure.laws_heldChain real (Pure.laws_markVectorS_1 real p 1) (Pure.laws_markChain_1 real p q r s 1) (Pure.laws_markChain_2 real p q r s 1) (Pure.laws_markChain_3 real p q r s 1) 1 = K ∧
      Pure.laws_heldChain_ok real (Pure.laws_markVectorS_1 real p 1) (Pure.laws_markChain_1 real p q r s 1) (Pure.laws_markChain_2 real p q r s 1) (Pure.laws_markChain_3 real p q r s 1) 1 = true := by
  obtain ⟨a1, a2, a3⟩ := markVectorS_eq 1 (by omega) p (by omega) w0
  obtain ⟨b1, b2, b3⟩ := markVectorS_eq (1 + 3 * p.length) (by omega) q (by omega) w1
  obtain ⟨c1, c2, c3⟩ := markFloat32S_eq (1 + 3 * p.length + 3 * q.length) (by omega) r (by omega) w2
  obtain ⟨d1, d2, d3⟩ := markRodS_eq (1 + 3 * p.length + 3 * q.length + 1 * r.length) (by omega) s (by omega) w3
  obtain ⟨e1, e2⟩ := heldVectorS_eq 1 (by omega) p.length (by omega)
  obtain ⟨f1, f2⟩ := heldVectorS_eq (1 + 3 * p.length) (by omega) q.length (by omega)
  obtain ⟨g1, g2⟩ := heldFloat32S_eq (1 + 3 * p.length + 3 * q.length) (by omega) r.length (by omega)
  obtain ⟨k1, k2⟩ := heldRodS_eq (1 + 3 * p.length + 3 * q.length + 1 * r.length) (by omega) s.length (by omega)
  have one : ((1 : Nat) : Int) = 1 := rfl
  rw [one] at a1 a2 a3 e1 e2
  have nn : ∀ n : Nat, decide ((n : Int) < 0) = false := fun n => by rw [decide_eq_false_iff_not]; omega
  unfold Pure.laws_markChain_ok Pure.laws_markChain Pure.laws_markChain_1 Pure.laws_markChain_2 Pure.laws_markChain_3 Pure.laws_heldChain Pure.laws_heldChain_ok
  rw [a1, a2, a3, b1, b2, b3, c1, c2, c3, d1, d2, d3, e1, e2, f1, f2, g1, g2, k1, k2, nn, nn, nn, nn]
  exact ⟨rfl, _, by omega, rfl, rfl, rfl⟩

theorem szVector (l : List (List Int)) (n : Nat) (hn : n ≤ 1048576) (hl : l.length ≤ 9223372036854775807) : (l.length ≤ n → Pure.laws_szVectorS real l n = ((n - l.length : Nat) : Int)) ∧ (¬ l.length ≤ n → Pure.laws_szVectorS real l n = -1) := by
  unfold Pure.laws_szVectorS
  have n0 : Int.ofNat l.length = (l.length : Int) := rfl
  rw [n0, wrap64 (by omega) (by omega)]
  constructor
  · intro h
    rw [decide_eq_false (by omega)]
    simp only [cond_false]
    omega
  · intro h
    rw [decide_eq_true (by omega)]
    rfl

theorem szFloat32 (l : List (List Int)) (n : Nat) (hn : n ≤ 1048576) (hl : l.length ≤ 9223372036854775807) : (l.length ≤ n → Pure.laws_szFloat32S real l n = ((n - l.length : Nat) : Int)) ∧ (¬ l.length ≤ n → Pure.laws_szFloat32S real l n = -1) := by
  unfold Pure.laws_szFloat32S
  have n0 : Int.ofNat l.length = (l.length : Int) := rfl
  rw [n0, wrap64 (by omega) (by omega)]
  constructor
  · intro h
    rw [decide_eq_false (by omega)]
    simp only [cond_false]
    omega
  · intro h
    rw [decide_eq_true (by omega)]
    rfl

theorem szRod (l : List (List Int)) (n : Nat) (hn : n ≤ 1048576) (hl : l.length ≤ 9223372036854775807) : (l.length ≤ n → Pure.laws_szRodS real l n = ((n - l.length : Nat) : Int)) ∧ (¬ l.length ≤ n → Pure.laws_szRodS real l n = -1) := by
  unfold Pure.laws_szRodS
  have n0 : Int.ofNat l.length = (l.length : Int) := rfl
  rw [n0, wrap64 (by omega) (by omega)]
  constructor
  · intro h
    rw [decide_eq_false (by omega)]
    simp only [cond_false]
    omega
  · intro h
    rw [decide_eq_true (by omega)]
    rfl

theorem szChain_small (x0 x1 x2 x3 : List (List Int)) (h0 : x0.length ≤ 9223372036854775807) (h1 : x1.length ≤ 9223372036854775807) (h2 : x2.length ≤ 9223372036854775807) (h3 : x3.length ≤ 9223372036854775807)
    (h : decide (Pure.laws_szChain real x0 x1 x2 x3 1048576 < 0) = false) : x0.length ≤ 1048576 ∧ x1.length ≤ 1048576 ∧ x2.length ≤ 1048576 ∧ x3.length ≤ 1048576 := by
  have big : ((1048576 : Nat) : Int) = 1048576 := rfl
  have nn : ∀ n : Nat, decide ((n : Int) < 0) = false := fun n => by rw [decide_eq_false_iff_not]; omega
  have mn : decide ((-1 : Int) < 0) = true := rfl
  unfold Pure.laws_szChain at h
  by_cases a0 : x0.length ≤ 1048576
  · have e0 := (szVector x0 1048576 (by omega) h0).1 a0
    rw [big] at e0
    simp only [e0, nn, cond_false] at h
    by_cases a1 : x1.length ≤ 1048576 - x0.length
    · have e1 := (szVector x1 (1048576 - x0.length) (by omega) h1).1 a1
      simp only [e1, nn, cond_false] at h
      by_cases a2 : x2.length ≤ 1048576 - x0.length - x1.length
      · have e2 := (szFloat32 x2 (1048576 - x0.length - x1.length) (by omega) h2).1 a2
        simp only [e2, nn, cond_false] at h
        by_cases a3 : x3.length ≤ 1048576 - x0.length - x1.length - x2.length
        · omega
        · have e3 := (szRod x3 (1048576 - x0.length - x1.length - x2.length) (by omega) h3).2 a3
          simp only [e3, mn, cond_true] at h
          cases h
      · have e2 := (szFloat32 x2 (1048576 - x0.length - x1.length) (by omega) h2).2 a2
        simp only [e2, mn, cond_true] at h
        cases h
    · have e1 := (szVector x1 (1048576 - x0.length) (by omega) h1).2 a1
      simp only [e1, mn, cond_true] at h
      cases h
  · have e0 := (szVector x0 1048576 (by omega) h0).2 a0
    rw [big] at e0
    simp only [e0, mn, cond_true] at h
    cases h

theorem toChain_is {x0 x1 x2 x3 : List (List Int)} (h0 : RowsOK B3 x0) (h1 : RowsOK B3 x1) (h2 : RowsOK B1 x2) (h3 : RowsOK BR x3) (hl : x0.length ≤ 1048576 ∧ x1.length ≤ 1048576 ∧ x2.length ≤ 1048576 ∧ x3.length ≤ 1048576) :
    Pure.laws_toChain_ok real x0 x1 x2 x3 = true ∧ Pure.laws_toVectorS real x0 = x0 ∧ Pure.laws_toVectorS real x1 = x1 ∧ Pure.laws_toFloat32S real x2 = x2 ∧ Pure.laws_toRodS real x3 = x3 := by
  unfold Pure.laws_toChain_ok
  rw [(toVectorS_eq h0 hl.1).1, (toVectorS_eq h1 hl.2.1).1, (toFloat32S_eq h2 hl.2.2.1).1, (toRodS_eq h3 hl.2.2.2).1]
  exact ⟨rfl, (toVectorS_eq h0 hl.1).2, (toVectorS_eq h1 hl.2.1).2, (toFloat32S_eq h2 hl.2.2.1).2, (toRodS_eq h3 hl.2.2.2).2⟩

theorem RowsOK.wide {ks : List K} {xs : List (List Int)} (h : RowsOK ks xs) : Wide ks.length xs := fun j hj => by
  rw [getD_some hj]; exact (h.row _ (List.getElem_mem hj)).1

theorem RowsOK.frows {xs : List (List Int)} (h : RowsOK B3 xs) : FRows xs := fun j hj => by
  rw [getD_some hj]
  have := h.row _ (List.getElem_mem hj)
  exact ⟨this.1, this.2 0 _ rfl, this.2 1 _ rfl, this.2 2 _ rfl⟩

theorem wide_nil (m : Nat) : Wide m [] := fun j hj => by simp at hj

theorem clone_ok {x0 x1 x2 x3 : List (List Int)} (h : Good x0 x1 x2 x3) : Pure.impl_cloneChain_ok real x0 x1 x2 x3 = true := by
  have h0 := h.1
  have h1 := h.2.1
  have h2 := h.2.2.1
  have h3 := h.2.2.2.1
  unfold Pure.impl_cloneChain_ok
  rw [decide_eq_true (show x0.length ≤ 1073741824 by omega), decide_eq_true (show x1.length ≤ 1073741824 by omega), decide_eq_true (show x2.length ≤ 1073741824 by omega), decide_eq_true (show x3.length ≤ 1073741824 by omega)]
  rfl

theorem Good.small {x0 x1 x2 x3 : List (List Int)} (h : Good x0 x1 x2 x3) : x0.length ≤ 24 ∧ x1.length ≤ 24 ∧ x2.length ≤ 24 ∧ x3.length ≤ 40 := by
  have h0 := h.1
  have h1 := h.2.1
  have h2 := h.2.2.1
  have h3 := h.2.2.2.1
  omega

end Go.Fx
