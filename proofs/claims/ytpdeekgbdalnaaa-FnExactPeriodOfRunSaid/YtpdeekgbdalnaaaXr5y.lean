import Derived.Test.YtpdeekgbdalnaaaXr5x
import Derived.Test.YtpdeekgbdalnaaaXr5w
import Derived.Test.YtpdeekgbdalnaaaXr5f
namespace Go.Fx
/-- A pendulum's run: the swings after each of n ticks, if all are numbers. -/
def runT (x0 x1 x2 x3 x4 tick : Int) : Nat → Int → Int → Int → Option (List (List Int))
  | 0, _, _, _ => some []
  | n + 1, a, b, c => bif Pure.spec_l02Swing real (Pure.spec_l02Step real x0 x1 x2 x3 x4 a b c tick) (Pure.spec_l02Step_1 real x0 x1 x2 x3 x4 a b c tick) (Pure.spec_l02Step_2 real x0 x1 x2 x3 x4 a b c tick)
      then (runT x0 x1 x2 x3 x4 tick n (Pure.spec_l02Step real x0 x1 x2 x3 x4 a b c tick) (Pure.spec_l02Step_1 real x0 x1 x2 x3 x4 a b c tick) (Pure.spec_l02Step_2 real x0 x1 x2 x3 x4 a b c tick)).map
        ([Pure.spec_l02Step real x0 x1 x2 x3 x4 a b c tick, Pure.spec_l02Step_1 real x0 x1 x2 x3 x4 a b c tick, Pure.spec_l02Step_2 real x0 x1 x2 x3 x4 a b c tick] :: ·) else none

/-- The last swing of a run, or the first. -/
def endT : List (List Int) → Int × Int × Int → Int × Int × Int
  | [], s => s
  | r :: l, _ => endT l (r.getD 0 0, r.getD 1 0, r.getD 2 0)

def heads (l : List (List Int)) : List (List Int) := l.map fun r => [r.getD 0 0]

theorem runT_len {x0 x1 x2 x3 x4 tick : Int} : ∀ (n : Nat) (a b c : Int) (l : List (List Int)), runT x0 x1 x2 x3 x4 tick n a b c = some l → l.length = n := by
  intro n
  induction n with
  | zero => intro a b c l h; unfold runT at h; cases h; rfl
  | succ n ih =>
    intro a b c l h
    unfold runT at h
    cases hs : Pure.spec_l02Swing real (Pure.spec_l02Step real x0 x1 x2 x3 x4 a b c tick) (Pure.spec_l02Step_1 real x0 x1 x2 x3 x4 a b c tick) (Pure.spec_l02Step_2 real x0 x1 x2 x3 x4 a b c tick) with
    | false => rw [hs] at h; cases h
    | true =>
      rw [hs] at h
      simp only [cond_true] at h
      rw [Option.map_eq_some_iff] at h
      obtain ⟨l', h1, rfl⟩ := h
      rw [List.length_cons, ih _ _ _ _ h1]

theorem spec_run {x0 x1 x2 x3 x4 tick : Int} (y : Int) (N : Nat) (hN : N < 1000000) : ∀ (m k f : Nat), k + m = N → m < f → ∀ (a b c : Int) (acc : List (List Int)), OkF .f32 a → acc.length = k →
    (Pure.spec_l02Run_L0 real tick N x0 x1 x2 x3 x4 y y y f k a b c acc).1 = true ∧
    (match runT x0 x1 x2 x3 x4 tick m a b c with
      | none => (Pure.spec_l02Run_L0 real tick N x0 x1 x2 x3 x4 y y y f k a b c acc).2.1 = true
      | some l => Pure.spec_l02Run_L0 real tick N x0 x1 x2 x3 x4 y y y f k a b c acc = (true, false, (endT l (a, b, c)).1, (endT l (a, b, c)).2.1, (endT l (a, b, c)).2.2, acc ++ heads l, 0, 0, 0, [])) := by
  intro m
  induction m with
  | zero =>
    intro k f hk hf a b c acc ha hl
    obtain ⟨f, rfl⟩ : ∃ g, f = g + 1 := ⟨f - 1, by omega⟩
    unfold Pure.spec_l02Run_L0
    rw [dec_ge' (show N ≤ k by omega)]
    unfold runT endT heads
    simp
  | succ m ih =>
    intro k f hk hf a b c acc ha hl
    obtain ⟨f, rfl⟩ : ∃ g, f = g + 1 := ⟨f - 1, by omega⟩
    unfold Pure.spec_l02Run_L0
    rw [dec_lt' (show k < N by omega), (step_is ha x0 x1 x2 x3 x4 b c tick).1]
    unfold runT
    cases hs : Pure.spec_l02Swing real (Pure.spec_l02Step real x0 x1 x2 x3 x4 a b c tick) (Pure.spec_l02Step_1 real x0 x1 x2 x3 x4 a b c tick) (Pure.spec_l02Step_2 real x0 x1 x2 x3 x4 a b c tick) with
    | false => exact ⟨rfl, rfl⟩
    | true =>
      have e1 : decide (Nat.succ acc.length ≤ 1073741824) = true := by simp; omega
      rw [e1, wrap_succ (by omega)]
      simp only [cond_true]
      have := ih (k + 1) f (by omega) (by omega) (Pure.spec_l02Step real x0 x1 x2 x3 x4 a b c tick) (Pure.spec_l02Step_1 real x0 x1 x2 x3 x4 a b c tick) (Pure.spec_l02Step_2 real x0 x1 x2 x3 x4 a b c tick) (acc ++ [[Pure.spec_l02Step real x0 x1 x2 x3 x4 a b c tick]]) (bin_ok _ _ _ _) (by simp; omega)
      refine ⟨this.1, ?_⟩
      have h2 := this.2
      cases hr : runT x0 x1 x2 x3 x4 tick m (Pure.spec_l02Step real x0 x1 x2 x3 x4 a b c tick) (Pure.spec_l02Step_1 real x0 x1 x2 x3 x4 a b c tick) (Pure.spec_l02Step_2 real x0 x1 x2 x3 x4 a b c tick) with
      | none => rw [hr] at h2; exact h2
      | some l =>
        rw [hr] at h2
        simp only [Option.map_some]
        refine h2.trans ?_
        unfold heads
        rw [List.append_assoc]
        rfl

theorem impl_run {x0 x1 x2 x3 x4 tick : Int} (N : Nat) (hN : N < 1000000) : ∀ (m k f : Nat), k + m = N → m < f → ∀ (a b c : Int) (acc : List (List Int)), OkF .f32 a → acc.length = k →
    (Pure.impl_Pendulum_run_L0 real tick N x0 x1 x2 x3 x4 f k a b c acc).1 = true ∧
    (match runT x0 x1 x2 x3 x4 tick m a b c with
      | none => (Pure.impl_Pendulum_run_L0 real tick N x0 x1 x2 x3 x4 f k a b c acc).2.1 = true
      | some l => Pure.impl_Pendulum_run_L0 real tick N x0 x1 x2 x3 x4 f k a b c acc = (true, false, acc ++ l, [])) := by
  intro m
  induction m with
  | zero =>
    intro k f hk hf a b c acc ha hl
    obtain ⟨f, rfl⟩ : ∃ g, f = g + 1 := ⟨f - 1, by omega⟩
    unfold Pure.impl_Pendulum_run_L0
    rw [dec_ge' (show N ≤ k by omega)]
    unfold runT
    simp
  | succ m ih =>
    intro k f hk hf a b c acc ha hl
    obtain ⟨f, rfl⟩ : ∃ g, f = g + 1 := ⟨f - 1, by omega⟩
    obtain ⟨s1, s2, s3, s4⟩ := step_is ha x0 x1 x2 x3 x4 b c tick
    unfold Pure.impl_Pendulum_run_L0
    rw [dec_lt' (show k < N by omega), s2]
    unfold runT
    cases hs : Pure.spec_l02Swing real (Pure.spec_l02Step real x0 x1 x2 x3 x4 a b c tick) (Pure.spec_l02Step_1 real x0 x1 x2 x3 x4 a b c tick) (Pure.spec_l02Step_2 real x0 x1 x2 x3 x4 a b c tick) with
    | false => rw [s3, hs]; exact ⟨rfl, rfl⟩
    | true =>
      obtain ⟨g1, g2, g3⟩ := s4 (s3.trans hs)
      have e1 : decide (Nat.succ acc.length ≤ 1073741824) = true := by simp; omega
      rw [s3, hs, e1, wrap_succ (by omega), g1, g2, g3]
      simp only [cond_true]
      have := ih (k + 1) f (by omega) (by omega) (Pure.spec_l02Step real x0 x1 x2 x3 x4 a b c tick) (Pure.spec_l02Step_1 real x0 x1 x2 x3 x4 a b c tick) (Pure.spec_l02Step_2 real x0 x1 x2 x3 x4 a b c tick) (acc ++ [[Pure.spec_l02Step real x0 x1 x2 x3 x4 a b c tick, Pure.spec_l02Step_1 real x0 x1 x2 x3 x4 a b c tick, Pure.spec_l02Step_2 real x0 x1 x2 x3 x4 a b c tick]]) (bin_ok _ _ _ _) (by simp; omega)
      refine ⟨this.1, ?_⟩
      have h2 := this.2
      cases hr : runT x0 x1 x2 x3 x4 tick m (Pure.spec_l02Step real x0 x1 x2 x3 x4 a b c tick) (Pure.spec_l02Step_1 real x0 x1 x2 x3 x4 a b c tick) (Pure.spec_l02Step_2 real x0 x1 x2 x3 x4 a b c tick) with
      | none => rw [hr] at h2; exact h2
      | some l =>
        rw [hr] at h2
        simp only [Option.map_some]
        refine h2.trans ?_
        rw [List.append_assoc]
        rfl

theorem run_is {x0 x1 x2 x3 x4 tick n : Int} (h0 : 0 ≤ n) (hn : n ≤ 256) {a : Int} (b c : Int) (ha : OkF .f32 a) :
    Pure.spec_l02Run_ok real x0 x1 x2 x3 x4 a b c tick n = true ∧ Pure.impl_Pendulum_run_ok real x0 x1 x2 x3 x4 a b c tick n = true ∧
    (match runT x0 x1 x2 x3 x4 tick n.toNat a b c with
      | none => Pure.spec_l02Run_3 real x0 x1 x2 x3 x4 a b c tick n = false ∧ Pure.impl_Pendulum_run real x0 x1 x2 x3 x4 a b c tick n = false ∧ Pure.spec_l02Run real x0 x1 x2 x3 x4 a b c tick n = 0 ∧ Pure.spec_l02Run_1 real x0 x1 x2 x3 x4 a b c tick n = 0 ∧ Pure.spec_l02Run_2 real x0 x1 x2 x3 x4 a b c tick n = 0 ∧ Pure.spec_l02Run_4 real x0 x1 x2 x3 x4 a b c tick n = []
      | some l => Pure.spec_l02Run_3 real x0 x1 x2 x3 x4 a b c tick n = true ∧ Pure.impl_Pendulum_run real x0 x1 x2 x3 x4 a b c tick n = true ∧ Pure.spec_l02Run real x0 x1 x2 x3 x4 a b c tick n = (endT l (a, b, c)).1 ∧ Pure.spec_l02Run_1 real x0 x1 x2 x3 x4 a b c tick n = (endT l (a, b, c)).2.1 ∧
          Pure.spec_l02Run_2 real x0 x1 x2 x3 x4 a b c tick n = (endT l (a, b, c)).2.2 ∧ Pure.spec_l02Run_4 real x0 x1 x2 x3 x4 a b c tick n = heads l ∧ Pure.impl_Pendulum_run_1 real x0 x1 x2 x3 x4 a b c tick n = l) := by
  obtain ⟨N, rfl⟩ := Int.eq_ofNat_of_zero_le h0
  obtain ⟨s1, s2⟩ := spec_run (x0 := x0) (x1 := x1) (x2 := x2) (x3 := x3) (x4 := x4) (tick := tick) 0 N (by omega) N 0 (((N : Int) - 0) + 1).toNat (by omega) (by omega) a b c [] ha rfl
  obtain ⟨i1, i2⟩ := impl_run (x0 := x0) (x1 := x1) (x2 := x2) (x3 := x3) (x4 := x4) (tick := tick) N (by omega) N 0 (((N : Int) - 0) + 1).toNat (by omega) (by omega) a b c [] ha rfl
  unfold Pure.spec_l02Run_ok Pure.impl_Pendulum_run_ok Pure.spec_l02Run_3 Pure.impl_Pendulum_run Pure.spec_l02Run Pure.spec_l02Run_1 Pure.spec_l02Run_2 Pure.spec_l02Run_4 Pure.impl_Pendulum_run_1
  refine ⟨s1, i1, ?_⟩
  rw [Int.toNat_natCast]
  change (Pure.spec_l02Run_L0 real tick N x0 x1 x2 x3 x4 0 0 0 (((N : Int) - 0) + 1).toNat 0 a b c []).1 = true at s1
  change (Pure.impl_Pendulum_run_L0 real tick N x0 x1 x2 x3 x4 (((N : Int) - 0) + 1).toNat 0 a b c []).1 = true at i1
  cases hr : runT x0 x1 x2 x3 x4 tick N a b c with
  | none =>
    rw [hr] at s2 i2
    change (Pure.spec_l02Run_L0 real tick N x0 x1 x2 x3 x4 0 0 0 (((N : Int) - 0) + 1).toNat 0 a b c []).2.1 = true at s2
    change (Pure.impl_Pendulum_run_L0 real tick N x0 x1 x2 x3 x4 (((N : Int) - 0) + 1).toNat 0 a b c []).2.1 = true at i2
    simp only [s2, i2, cond_true, and_self]
  | some l =>
    rw [hr] at s2 i2
    change Pure.spec_l02Run_L0 real tick N x0 x1 x2 x3 x4 0 0 0 (((N : Int) - 0) + 1).toNat 0 a b c [] = _ at s2
    change Pure.impl_Pendulum_run_L0 real tick N x0 x1 x2 x3 x4 (((N : Int) - 0) + 1).toNat 0 a b c [] = _ at i2
    simp only [s2, i2, cond_false, List.nil_append, and_self]

theorem turns_loop (l : List (List Int)) (hl : l.length < 1000000) (p q r : Int) : ∀ (m i f : Nat), i + m = l.length → m < f → ∀ (a b c : Int) (acc : List (List Int)), acc.length = i →
    Pure.impl_RunSwing_L0 real l.length p q r l f i a b c acc = (true, (endT (l.drop i) (a, b, c)).1, (endT (l.drop i) (a, b, c)).2.1, (endT (l.drop i) (a, b, c)).2.2, acc ++ heads (l.drop i)) := by
  intro m
  induction m with
  | zero =>
    intro i f hi hf a b c acc ha
    obtain ⟨f, rfl⟩ : ∃ g, f = g + 1 := ⟨f - 1, by omega⟩
    unfold Pure.impl_RunSwing_L0
    rw [dec_ge' (show l.length ≤ i by omega), List.drop_eq_nil_of_le (by omega)]
    unfold endT heads
    simp
  | succ m ih =>
    intro i f hi hf a b c acc ha
    obtain ⟨f, rfl⟩ : ∃ g, f = g + 1 := ⟨f - 1, by omega⟩
    unfold Pure.impl_RunSwing_L0
    have e1 : decide (Nat.succ acc.length ≤ 1073741824) = true := by simp; omega
    have h : i < l.length := by omega
    rw [dec_lt' h, dec_nn, dec_lt h, e1, wrap_succ (by omega), Int.toNat_natCast, getD_some h]
    simp only [cond_true]
    rw [ih (i + 1) f (by omega) (by omega) _ _ _ _ (by simp; omega), List.drop_eq_getElem_cons h]
    conv => rhs; unfold endT
    unfold heads
    rw [List.append_assoc]
    rfl

theorem runSwing_is (x0 x1 x2 x3 x4 x6 x7 x8 x9 : Int) {x5 : Int} (h5 : OkF .f32 x5) : Pure.spec_RunSwing_ok real x0 x1 x2 x3 x4 x5 x6 x7 x8 x9 = true ∧ Pure.impl_RunSwing_ok real x0 x1 x2 x3 x4 x5 x6 x7 x8 x9 = true ∧
    Pure.spec_RunSwing real x0 x1 x2 x3 x4 x5 x6 x7 x8 x9 = Pure.impl_RunSwing real x0 x1 x2 x3 x4 x5 x6 x7 x8 x9 ∧ Pure.spec_RunSwing_1 real x0 x1 x2 x3 x4 x5 x6 x7 x8 x9 = Pure.impl_RunSwing_1 real x0 x1 x2 x3 x4 x5 x6 x7 x8 x9 ∧
    Pure.spec_RunSwing_2 real x0 x1 x2 x3 x4 x5 x6 x7 x8 x9 = Pure.impl_RunSwing_2 real x0 x1 x2 x3 x4 x5 x6 x7 x8 x9 ∧ Pure.spec_RunSwing_3 real x0 x1 x2 x3 x4 x5 x6 x7 x8 x9 = Pure.impl_RunSwing_3 real x0 x1 x2 x3 x4 x5 x6 x7 x8 x9 ∧
    Pure.spec_RunSwing_4 real x0 x1 x2 x3 x4 x5 x6 x7 x8 x9 = Pure.impl_RunSwing_4 real x0 x1 x2 x3 x4 x5 x6 x7 x8 x9 ∧
    (match (bif (Pure.spec_l02Both real x0 x1 x2 x3 x4 x5 x6 x7 && Pure.spec_l02Tick real x8) && Pure.impl_in real x9 0 256 then runT x0 x1 x2 x3 x4 x8 x9.toNat x5 x6 x7 else none) with
      | none => Pure.impl_RunSwing_3 real x0 x1 x2 x3 x4 x5 x6 x7 x8 x9 = false ∧ Pure.impl_RunSwing_4 real x0 x1 x2 x3 x4 x5 x6 x7 x8 x9 = []
      | some l => Pure.impl_RunSwing_3 real x0 x1 x2 x3 x4 x5 x6 x7 x8 x9 = true ∧ Pure.impl_RunSwing_4 real x0 x1 x2 x3 x4 x5 x6 x7 x8 x9 = heads l) := by
  obtain ⟨w1, w2⟩ := swingOk_is x0 x1 x2 x3 x4 x5 x6 x7 x8
  have hin : Pure.spec_l00In real x9 0 256 = Pure.impl_in real x9 0 256 := rfl
  unfold Pure.spec_RunSwing_ok Pure.impl_RunSwing_ok Pure.spec_RunSwing Pure.impl_RunSwing Pure.spec_RunSwing_1 Pure.impl_RunSwing_1 Pure.spec_RunSwing_2 Pure.impl_RunSwing_2 Pure.spec_RunSwing_3 Pure.impl_RunSwing_3 Pure.spec_RunSwing_4 Pure.impl_RunSwing_4
  rw [w1, w2, hin]
  cases Pure.spec_l02Both real x0 x1 x2 x3 x4 x5 x6 x7 with
  | false => exact ⟨rfl, rfl, rfl, rfl, rfl, rfl, rfl, rfl, rfl⟩
  | true =>
    cases Pure.spec_l02Tick real x8 with
    | false => exact ⟨rfl, rfl, rfl, rfl, rfl, rfl, rfl, rfl, rfl⟩
    | true =>
      cases hi : Pure.impl_in real x9 0 256 with
      | false => exact ⟨rfl, rfl, rfl, rfl, rfl, rfl, rfl, rfl, rfl⟩
      | true =>
        obtain ⟨r1, r2⟩ := in_iff.1 hi
        obtain ⟨o1, o2, o3⟩ := run_is (x0 := x0) (x1 := x1) (x2 := x2) (x3 := x3) (x4 := x4) (tick := x8) r1 r2 x6 x7 h5
        rw [o1, o2]
        simp only [cond_true, Bool.and_self]
        cases hr : runT x0 x1 x2 x3 x4 x8 x9.toNat x5 x6 x7 with
        | none =>
          rw [hr] at o3
          obtain ⟨p1, p2, p3, p4, p5, p6⟩ := o3
          rw [p1, p2, p3, p4, p5, p6]
          simp only [cond_false, and_self]
        | some l =>
          rw [hr] at o3
          obtain ⟨p1, p2, p3, p4, p5, p6, p7⟩ := o3
          have hl := runT_len _ _ _ _ _ hr
          have ht := turns_loop l (by omega) 0 0 0 l.length 0 (Nat.succ (l.length + 0)) (by omega) (by omega) x5 x6 x7 [] rfl
          change Pure.impl_RunSwing_L0 real (Int.ofNat l.length) 0 0 0 l (Nat.succ (l.length + 0)) 0 x5 x6 x7 [] = _ at ht
          rw [p1, p2, p3, p4, p5, p6, p7]
          simp only [cond_true, ht, List.drop_zero, List.nil_append, and_self]

theorem heads_len (l : List (List Int)) : (heads l).length = l.length := by unfold heads; simp
end Go.Fx
