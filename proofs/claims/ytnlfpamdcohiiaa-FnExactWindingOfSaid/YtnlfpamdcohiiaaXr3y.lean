import Derived.Test.YtnlfpamdcohiiaaXr3x
namespace Go.Fx

theorem winding_loops (xs : List (List Int)) (c : Int) (L : Nat) (hL : xs.length = L + 1) (hb : L < 1000000) : ∀ (m i f1 f2 : Nat) (s : Int), i + m = L → m < f1 → m < f2 →
    ∃ v, Pure.spec_WindingOf_L0 real c xs f1 s ((i + 1 : Nat) : Int) = (true, v) ∧ Pure.impl_WindingOf_L0 real c 1 L (L : Int) xs f2 s (i : Int) = (true, v) := by
  intro m
  induction m with
  | zero =>
    intro i f1 f2 s hi h1 h2
    match f1, f2, h1, h2 with
    | f1 + 1, f2 + 1, _, _ =>
      refine ⟨s, ?_, ?_⟩
      · unfold Pure.spec_WindingOf_L0; rw [dec_ge (show xs.length ≤ i + 1 by omega)]; rfl
      · unfold Pure.impl_WindingOf_L0; rw [dec_ge' (show L ≤ i by omega)]; rfl
  | succ m ih =>
    intro i f1 f2 s hi h1 h2
    match f1, f2, h1, h2 with
    | f1 + 1, f2 + 1, h1, h2 =>
      obtain ⟨v, e1, e2⟩ := ih (i + 1) f1 f2 (real.bin .add .f32 s ((xs.getD (i + 1) []).getD 1 0)) (by omega) (by omega) (by omega)
      refine ⟨v, ?_, ?_⟩
      · unfold Pure.spec_WindingOf_L0
        rw [dec_lt (show i + 1 < xs.length by omega), dec_nn, Int.toNat_natCast, wrap_succ (by omega)]
        exact e1
      · unfold Pure.impl_WindingOf_L0
        rw [dec_lt' (show i < L by omega), dec_nn, Int.toNat_natCast, wrap_succ (by omega), Nat.add_comm 1 i]
        have : decide ((i : Int) < Int.ofNat L) = true := dec_lt' (show i < L by omega)
        rw [this]
        exact e2

theorem law_FnExactWindingOf (x0 x1 x2 x3 : Int) (h0 : OkF .f32 x0) (h1 : OkF .f32 x1) (h2 : OkF .f32 x2) (_ : IntKind.i64.has x3) : Pure.laws_FnExactWindingOf_ok real x0 x1 x2 x3 = true ∧ Pure.laws_FnExactWindingOf real x0 x1 x2 x3 = true := by
  have hi : Pure.spec_WindingOf_ok real x0 x1 x2 x3 = true ∧ Pure.impl_WindingOf_ok real x0 x1 x2 x3 = true ∧ Pure.spec_WindingOf real x0 x1 x2 x3 = Pure.impl_WindingOf real x0 x1 x2 x3 ∧ Pure.spec_WindingOf_1 real x0 x1 x2 x3 = Pure.impl_WindingOf_1 real x0 x1 x2 x3 := by
    have es : Pure.spec_l07Size real x2 = Pure.impl_sizeOk real x2 := rfl
    have ei : ∀ a b c, Pure.spec_l00In real a b c = Pure.impl_in real a b c := fun a b c => rfl
    unfold Pure.spec_WindingOf_ok Pure.impl_WindingOf_ok Pure.spec_WindingOf Pure.impl_WindingOf Pure.spec_WindingOf_1 Pure.impl_WindingOf_1 Pure.impl_stateOk
    rw [valid_is, es, ei]
    cases hv : Pure.impl_ValidState real x0 x1 with
    | false => exact ⟨rfl, rfl, rfl, rfl⟩
    | true =>
      cases hz : Pure.impl_sizeOk real x2 with
      | false => exact ⟨rfl, rfl, rfl, rfl⟩
      | true =>
        cases hc : Pure.impl_in real x3 1 128 with
        | false => exact ⟨rfl, rfl, rfl, rfl⟩
        | true =>
          obtain ⟨v1, v2⟩ := valid_ok h0 h1 hv
          have hc := in_iff.1 hc
          obtain ⟨n, rfl⟩ : ∃ n : Nat, x3 = n := ⟨x3.toNat, by omega⟩
          obtain ⟨m1, m2, m3, m4⟩ := orbit_is v1 v2 (sizeOk_le h2 hz) (n := n) (by omega)
          have hl := orbit_len x0 x1 x2 n
          obtain ⟨v, e1, e2⟩ := winding_loops (orbit x0 x1 x2 n) n n hl (by omega) n 0 ((Int.ofNat (orbit x0 x1 x2 n).length - 1 + 1).toNat) (n + 1) 0 (by omega) (by rw [hl]; simp) (by omega)
          have e2' : Pure.impl_WindingOf_L0 real (n : Int) 1 ((orbit x0 x1 x2 n).length - 1) (Int.ofNat ((orbit x0 x1 x2 n).length - 1)) (orbit x0 x1 x2 n) (Nat.succ ((orbit x0 x1 x2 n).length - 1 + 0)) 0 0 = (true, v) := by
            rw [hl]; exact e2
          have e1' : Pure.spec_WindingOf_L0 real (n : Int) (orbit x0 x1 x2 n) ((Int.ofNat (orbit x0 x1 x2 n).length - 1 + 1).toNat) 0 1 = (true, v) := e1
          have d1 : decide (1 ≤ Int.ofNat (orbit x0 x1 x2 n).length) = true := by rw [hl]; simp; omega
          rw [m1, m2, m3, m4, e1', e2', d1]
          exact ⟨rfl, rfl, rfl, rfl⟩
  obtain ⟨i1, i2, i3, i4⟩ := hi
  unfold Pure.laws_FnExactWindingOf_ok Pure.laws_FnExactWindingOf
  rw [i1, i2, i3, i4, convOk_up, sameFloat_refl]
  simp
end Go.Fx
