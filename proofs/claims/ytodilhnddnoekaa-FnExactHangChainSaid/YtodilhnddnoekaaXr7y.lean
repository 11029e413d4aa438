import Derived.Test.YtodilhnddnoekaaXr7x
import Derived.Test.YtodilhnddnoekaaXr7d
import Derived.Test.YtodilhnddnoekaaXLong
namespace Go.Fx
open Ieee
set_option maxRecDepth 100000
theorem mx_num {k : FloatKind} {x y : Int} (hx : Num k x) (hy : Num k y) : (real.mx k x y = x ∧ fv k y ≤ fv k x) ∨ (real.mx k x y = y ∧ fv k x ≤ fv k y) := by
  show (rMx k x y = x ∧ fv k y ≤ fv k x) ∨ (rMx k x y = y ∧ fv k x ≤ fv k y)
  unfold rMx
  rw [order_num hx hy]
  rcases Int.lt_trichotomy (fv k x) (fv k y) with h | h | h
  · rw [ordOf_lt h]; exact .inr ⟨rfl, by omega⟩
  · rw [ordOf_eq h]
    by_cases hg : (k.decode x.toNat).neg = true
    · exact .inr ⟨by simp only; rw [if_pos hg], by omega⟩
    · exact .inl ⟨by simp only; rw [if_neg hg], by omega⟩
  · rw [ordOf_gt h]; exact .inl ⟨rfl, by omega⟩

theorem leq_same {a b c : Int} (ha : Num .f32 a) (hb : Num .f32 b) (h : fv .f32 a = fv .f32 b) (hc : OkF .f32 c) : real.cmp .leq .f32 a c = real.cmp .leq .f32 b c := by
  cases hn : isNaNb .f32 c.toNat with
  | true =>
    show rCmp .leq .f32 a c = rCmp .leq .f32 b c
    unfold rCmp
    rw [order_nan_right hn, order_nan_right hn]
  | false => rw [cmp_leq ha (okF_num hc hn), cmp_leq hb (okF_num hc hn), h]

theorem long_num {a b c d e f : Int} (ha : Fin .f32 a) (hb : Fin .f32 b) (hc : Fin .f32 c) (hd : Fin .f32 d) (he : Fin .f32 e) (hf : Fin .f32 f) :
    Num .f32 (Pure.impl_LongOf real (Pure.impl_LessVectors real a b c d e f) (Pure.impl_LessVectors_1 real a b c d e f) (Pure.impl_LessVectors_2 real a b c d e f)) :=
  nn_root (nn_add (nn_add (nn_sq (sub_num ha hd)) (nn_sq (sub_num hb he))) (nn_sq (sub_num hc hf)))

def way (r s : List Int) : Int := Pure.impl_LongOf real (Pure.impl_LessVectors real (r.getD 0 0) (r.getD 1 0) (r.getD 2 0) (s.getD 0 0) (s.getD 1 0) (s.getD 2 0)) (Pure.impl_LessVectors_1 real (r.getD 0 0) (r.getD 1 0) (r.getD 2 0) (s.getD 0 0) (s.getD 1 0) (s.getD 2 0)) (Pure.impl_LessVectors_2 real (r.getD 0 0) (r.getD 1 0) (r.getD 2 0) (s.getD 0 0) (s.getD 1 0) (s.getD 2 0))

theorem row_fin {p : List (List Int)} (h : FRows p) (hg : p.all vGood = true) {j : Nat} (hj : j < p.length) : Fin .f32 ((p.getD j []).getD 0 0) ∧ Fin .f32 ((p.getD j []).getD 1 0) ∧ Fin .f32 ((p.getD j []).getD 2 0) := by
  have h1 := all_get.1 hg j hj
  have h2 := h j hj
  unfold vGood at h1
  rw [(finv_is _ _ _).1, Bool.and_eq_true, Bool.and_eq_true] at h1
  exact ⟨fin_of h2.2.1 h1.1.1, fin_of h2.2.2.1 h1.1.2, fin_of h2.2.2.2 h1.2⟩

theorem way_num {p q : List (List Int)} (hp : FRows p) (hq : FRows q) (gp : p.all vGood = true) (gq : q.all vGood = true) {j : Nat} (h1 : j < p.length) (h2 : j < q.length) : Num .f32 (way (p.getD j []) (q.getD j [])) := by
  obtain ⟨a1, a2, a3⟩ := row_fin hp gp h1
  obtain ⟨b1, b2, b3⟩ := row_fin hq gq h2
  exact long_num a1 a2 a3 b1 b2 b3

theorem fast_is (k1 k2 k3 k4 k5 k6 : Int) (p q r s : List (List Int)) (N : Nat) (hN : N < 1000) (h1 : p.length = N) (h2 : q.length = N) (hp : FRows p) (hq : FRows q) (gp : p.all vGood = true) (gq : q.all vGood = true) :
    ∀ (n i : Nat) (a b : Int), i ≤ N → N - i < n → Num .f32 a → Num .f32 b → fv .f32 a = fv .f32 b →
    (Pure.impl_HangChain_c1_L2 real (Int.ofNat N) k1 k2 k3 k4 k5 k6 p q r s n a i).1 = true ∧ (Pure.spec_l03Fastest_L0 real (Int.ofNat N) p q r s n b i).1 = true ∧
    Num .f32 (Pure.impl_HangChain_c1_L2 real (Int.ofNat N) k1 k2 k3 k4 k5 k6 p q r s n a i).2 ∧ Num .f32 (Pure.spec_l03Fastest_L0 real (Int.ofNat N) p q r s n b i).2 ∧
    fv .f32 (Pure.impl_HangChain_c1_L2 real (Int.ofNat N) k1 k2 k3 k4 k5 k6 p q r s n a i).2 = fv .f32 (Pure.spec_l03Fastest_L0 real (Int.ofNat N) p q r s n b i).2 := by
  intro n
  induction n with
  | zero => intro i a b _ h; omega
  | succ n ih =>
    intro i a b hi hn na nb he
    unfold Pure.impl_HangChain_c1_L2 Pure.spec_l03Fastest_L0
    rcases Nat.lt_or_ge i N with h | h
    · have hw := way_num hp hq gp gq (j := i) (by omega) (by omega)
      rw [dec_lt h, dec_nn, dec_lt (show i < p.length by omega), dec_lt (show i < q.length by omega), wrap_succ (by omega), Int.toNat_natCast, long_ok, spec_long_ok]
      simp only [cond_true]
      change (Pure.impl_HangChain_c1_L2 real (Int.ofNat N) k1 k2 k3 k4 k5 k6 p q r s n (real.mx .f32 a (way (p.getD i []) (q.getD i []))) ((i + 1 : Nat) : Int)).1 = true ∧
        (bif real.cmp .gtr .f32 (way (p.getD i []) (q.getD i [])) b then Pure.spec_l03Fastest_L0 real (Int.ofNat N) p q r s n (way (p.getD i []) (q.getD i [])) ((i + 1 : Nat) : Int) else Pure.spec_l03Fastest_L0 real (Int.ofNat N) p q r s n b ((i + 1 : Nat) : Int)).1 = true ∧
        Num .f32 (Pure.impl_HangChain_c1_L2 real (Int.ofNat N) k1 k2 k3 k4 k5 k6 p q r s n (real.mx .f32 a (way (p.getD i []) (q.getD i []))) ((i + 1 : Nat) : Int)).2 ∧
        Num .f32 (bif real.cmp .gtr .f32 (way (p.getD i []) (q.getD i [])) b then Pure.spec_l03Fastest_L0 real (Int.ofNat N) p q r s n (way (p.getD i []) (q.getD i [])) ((i + 1 : Nat) : Int) else Pure.spec_l03Fastest_L0 real (Int.ofNat N) p q r s n b ((i + 1 : Nat) : Int)).2 ∧
        fv .f32 (Pure.impl_HangChain_c1_L2 real (Int.ofNat N) k1 k2 k3 k4 k5 k6 p q r s n (real.mx .f32 a (way (p.getD i []) (q.getD i []))) ((i + 1 : Nat) : Int)).2 =
        fv .f32 (bif real.cmp .gtr .f32 (way (p.getD i []) (q.getD i [])) b then Pure.spec_l03Fastest_L0 real (Int.ofNat N) p q r s n (way (p.getD i []) (q.getD i [])) ((i + 1 : Nat) : Int) else Pure.spec_l03Fastest_L0 real (Int.ofNat N) p q r s n b ((i + 1 : Nat) : Int)).2
      generalize way (p.getD i []) (q.getD i []) = x at *
      rw [cmp_gtr hw nb]
      have hm := mx_num na hw
      by_cases hx : fv .f32 b < fv .f32 x
      · rw [decide_eq_true hx]
        simp only [cond_true]
        have hmn : Num .f32 (real.mx .f32 a x) ∧ fv .f32 (real.mx .f32 a x) = fv .f32 x := by
          rcases hm with ⟨e, h3⟩ | ⟨e, h3⟩
          · omega
          · rw [e]; exact ⟨hw, rfl⟩
        exact ih (i + 1) _ _ (by omega) (by omega) hmn.1 hw hmn.2
      · rw [decide_eq_false hx]
        simp only [cond_false]
        have hmn : Num .f32 (real.mx .f32 a x) ∧ fv .f32 (real.mx .f32 a x) = fv .f32 b := by
          rcases hm with ⟨e, h3⟩ | ⟨e, h3⟩
          · rw [e]; exact ⟨na, he⟩
          · rw [e]; exact ⟨hw, by omega⟩
        exact ih (i + 1) _ _ (by omega) (by omega) hmn.1 nb hmn.2
    · rw [dec_ge h]
      exact ⟨rfl, rfl, na, nb, he⟩

theorem zero_num : Num .f32 0 := ⟨by decide, by decide +kernel, by decide +kernel⟩

theorem hang_loop (y0 y1 y2 near : Int) (hnear : OkF .f32 near) (S : Nat) (hS : S ≤ 64) (x2 x3 z0 z1 z2 z3 : List (List Int)) :
    ∀ (d m n1 n2 : Nat) (p q : List (List Int)), m + d = S → d < n1 → d < n2 → Good p q x2 x3 → FRows p → FRows q →
    (∃ a b c e f g h, Pure.impl_HangChain_c1_L0 real y0 y1 y2 S near x2 x3 n1 m p q = (true, true, 0, [], [], a, b, c) ∧
      Pure.spec_HangChain_L0 real near S z0 z1 z2 z3 y0 y1 y2 n2 ((m : Int) + 1) p q x2 x3 = (true, true, true, [], [], [], [], 0, [], [], [], [], e, f, g, h)) ∨
    (∃ (M : Nat) (P Q : List (List Int)), Pure.impl_HangChain_c1_L0 real y0 y1 y2 S near x2 x3 n1 m p q = (true, false, (M : Int), P, Q, 0, [], []) ∧ Good P Q x2 x3 ∧ FRows P ∧ FRows Q ∧
      ((M = S ∧ Pure.spec_HangChain_L0 real near S z0 z1 z2 z3 y0 y1 y2 n2 ((m : Int) + 1) p q x2 x3 = (true, false, false, P, Q, x2, x3, 0, [], [], [], [], [], [], [], [])) ∨
        Pure.spec_HangChain_L0 real near S z0 z1 z2 z3 y0 y1 y2 n2 ((m : Int) + 1) p q x2 x3 = (true, true, false, [], [], [], [], (M : Int), P, Q, x2, x3, [], [], [], []))) := by
  intro d
  induction d with
  | zero =>
    intro m n1 n2 p q hm h1 h2 hg hp hq
    obtain ⟨n1, rfl⟩ : ∃ k, n1 = k + 1 := ⟨n1 - 1, by omega⟩
    obtain ⟨n2, rfl⟩ : ∃ k, n2 = k + 1 := ⟨n2 - 1, by omega⟩
    right
    refine ⟨m, p, q, ?_, hg, hp, hq, .inl ⟨by omega, ?_⟩⟩
    · unfold Pure.impl_HangChain_c1_L0
      rw [decide_eq_false (show ¬ ((m : Int) < (S : Int)) by omega)]
      rfl
    · unfold Pure.spec_HangChain_L0
      rw [decide_eq_false (show ¬ ((m : Int) + 1 ≤ (S : Int)) by omega)]
      rfl
  | succ d ih =>
    intro m n1 n2 p q hm h1 h2 hg hp hq
    obtain ⟨n1, rfl⟩ : ∃ k, n1 = k + 1 := ⟨n1 - 1, by omega⟩
    obtain ⟨n2, rfl⟩ : ∃ k, n2 = k + 1 := ⟨n2 - 1, by omega⟩
    unfold Pure.impl_HangChain_c1_L0 Pure.spec_HangChain_L0
    rw [decide_eq_true (show ((m : Int) < (S : Int)) by omega), decide_eq_true (show ((m : Int) + 1 ≤ (S : Int)) by omega)]
    obtain ⟨s1, s2, s3⟩ := step_is p q x2 x3 y0 y1 y2 1056964608 1048576000 10 (by omega) hg hp hq
    have ten : ((10 : Nat) : Int) = 10 := rfl
    rw [ten] at s1 s2 s3
    rw [s1, s2]
    have w1 : IntKind.wrap .i64 ((m : Int) + 1) = ((m + 1 : Nat) : Int) := by rw [wrap64 (by omega) (by omega)]; omega
    have w2 : IntKind.wrap .i64 ((m : Int) + 1 + 1) = ((m + 1 : Nat) : Int) + 1 := by rw [wrap64 (by omega) (by omega)]; omega
    rcases s3 with ⟨t1, t2, t3, t4, t5, t6⟩ | ⟨t1, t2, t3, t4, t5, t6, t7, t8, t9⟩
    · rw [t1, t2]
      exact .inl ⟨_, _, _, _, _, _, _, rfl, rfl⟩
    · rw [t1, t2, t3, t4, t5, t6, w1, w2]
      generalize Pure.impl_Chain_step_1 real p q x2 x3 y0 y1 y2 1056964608 1048576000 10 = P at *
      generalize Pure.impl_Chain_fly_1 real p q x2 x3 y0 y1 y2 1056964608 1048576000 = Q at *
      have hsm := t7.small
      obtain ⟨f1, f2, f3, f4, f5⟩ := fast_is y0 y1 y2 S ((m + 1 : Nat) : Int) near P Q x2 x3 P.length (by omega) rfl t7.2.1 t8 t9 t7.2.2.2.2.1 t7.2.2.2.2.2.1 (P.length + 1) 0 0 0 (by omega) (by omega) zero_num zero_num rfl
      have zz : ((0 : Nat) : Int) = 0 := rfl
      rw [zz] at f1 f2 f3 f4 f5
      unfold Pure.spec_l03Fastest_ok Pure.spec_l03Fastest
      have es : Nat.succ (P.length + 0) = P.length + 1 := rfl
      rw [es, f1, f2, leq_same f3 f4 f5 hnear]
      simp only [cond_true]
      cases real.cmp .leq .f32 (Pure.spec_l03Fastest_L0 real (Int.ofNat P.length) P Q x2 x3 (P.length + 1) 0 0).2 near with
      | true =>
        simp only [cond_true]
        exact .inr ⟨m + 1, P, Q, rfl, t7, t8, t9, .inr rfl⟩
      | false =>
        simp only [cond_false]
        exact ih (m + 1) n1 n2 P Q (by omega) (by omega) (by omega) t7 t8 t9
end Go.Fx
