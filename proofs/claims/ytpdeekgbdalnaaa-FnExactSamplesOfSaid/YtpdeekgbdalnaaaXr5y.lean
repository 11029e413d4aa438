import Derived.Test.YtpdeekgbdalnaaaXr5x
import Derived.Test.YtpdeekgbdalnaaaXr5w
import Derived.Test.YtpdeekgbdalnaaaXr5f
namespace Go.Fx
/-- A pendulum's run: the swings after each of n ticks, if all are numbers. -/
def runT (x0 x1 x2 x3 x4 tick : Int) : Nat → Int → Int → Int → Option (List (List Int))
  | 0, _, _, _ => some []
  | n + 1, a, b, c => bif Pure.spec_l02Swing real (Pure.spec_l02Step real x0 x1 x2 x3 x4 a b c tick) (Pure.spec_l02Step_1 real x0 x1 x2 x3 x4 a b c tick) (Pure.spec_l02Step_2 real x0 x1 x2 x3 x4 a b c tick)
      then (runT x0 x1 x2 x3 x4 tick n (Pure.spec_l02Step real x0 x1 x2 x3 x4 a b c tick) (Pure.spec_l02Step_1 real x0 x1 x2 x3 x4 a b c tick) (Pure.spec_l02Step_2 real x0 x1 x2 x3 x4 a b c tick)).map
        ([Pure.spec_l02Step real x0 x1 x2 x3 x4 a b c tick, Pure.spec_l02Step_1 real x0 x1 x2 x3 x4 a b c tick, Pure.spec_l02Step_2 real x0 x1 x2 x3 x4 a b c tick] :: ·) else none

/-- The last swing of a run, or the first. -/
def endT : List (List Int) → Int × Int × Int → Int × Int × Int
  | [], s => s
  | r :: l, _ => endT l (r.getD 0 0, r.getD 1 0, r.getD 2 0)

def heads (l : List (List Int)) : List (List Int) := l.map fun r => [r.getD 0 0]

theorem runT_len {x0 x1 x2 x3 x4 tick : Int} : ∀ (n : Nat) (a b c : Int) (l : List (List Int)), runT x0 x1 x2 x3 x4 tick n a b c = some l → l.length = n := by
  intro n
  induction n with
  | zero => intro a b c l h; unfold runT at h; cases h; rfl
  | succ n ih =>
    intro a b c l h
    unfold runT at h
    cases hs : Pure.spec_l02Swing real (Pure.spec_l02Step real x0 x1 x2 x3 x4 a b c tick) (Pure.spec_l02Step_1 real x0 x1 x2 x3 x4 a b c tick) (Pure.spec_l02Step_2 real x0 x1 x2 x3 x4 a b c tick) with
    | false => rw [hs] at h; cases h
    | true =>
      rw [hs] at h
      simp only [cond_true] at h
      rw [Option.map_eq_some_iff] at h
      obtain ⟨l', h1, rfl⟩ := h
      rw [List.length_cons, ih _ _ _ _ h1]

theorem runT_fin {x0 x1 x2 x3 x4 tick : Int} : ∀ (n : Nat) (a b c : Int) (l : List (List Int)), runT x0 x1 x2 x3 x4 tick n a b c = some l → ∀ r ∈ l, Fin .f32 (r.getD 0 0) ∧ r = [r.getD 0 0, r.getD 1 0, r.getD 2 0] := by
  intro n
  induction n with
  | zero => intro a b c l h; unfold runT at h; cases h; intro r hr; cases hr
  | succ n ih =>
    intro a b c l h
    unfold runT at h
    cases hs : Pure.spec_l02Swing real (Pure.spec_l02Step real x0 x1 x2 x3 x4 a b c tick) (Pure.spec_l02Step_1 real x0 x1 x2 x3 x4 a b c tick) (Pure.spec_l02Step_2 real x0 x1 x2 x3 x4 a b c tick) with
    | false => rw [hs] at h; cases h
    | true =>
      rw [hs] at h
      simp only [cond_true] at h
      rw [Option.map_eq_some_iff] at h
      obtain ⟨l', h1, rfl⟩ := h
      intro r hr
      rcases List.mem_cons.1 hr with rfl | hr
      · exact ⟨fin_of (bin_ok _ _ _ _) (swing_parts hs).1, rfl⟩
      · exact ih _ _ _ _ h1 r hr

theorem runT_add {x0 x1 x2 x3 x4 tick : Int} (m : Nat) : ∀ (n : Nat) (a b c : Int), runT x0 x1 x2 x3 x4 tick (n + m) a b c =
    (runT x0 x1 x2 x3 x4 tick n a b c).bind fun l => (runT x0 x1 x2 x3 x4 tick m (endT l (a, b, c)).1 (endT l (a, b, c)).2.1 (endT l (a, b, c)).2.2).map (l ++ ·) := by
  intro n
  induction n with
  | zero =>
    intro a b c
    rw [Nat.zero_add]
    change runT x0 x1 x2 x3 x4 tick m a b c = (runT x0 x1 x2 x3 x4 tick m a b c).map ([] ++ ·)
    cases runT x0 x1 x2 x3 x4 tick m a b c <;> rfl
  | succ n ih =>
    intro a b c
    rw [show n + 1 + m = (n + m) + 1 by omega]
    conv => lhs; unfold runT
    conv => rhs; arg 1; unfold runT
    cases hs : Pure.spec_l02Swing real (Pure.spec_l02Step real x0 x1 x2 x3 x4 a b c tick) (Pure.spec_l02Step_1 real x0 x1 x2 x3 x4 a b c tick) (Pure.spec_l02Step_2 real x0 x1 x2 x3 x4 a b c tick) with
    | false => rfl
    | true =>
      simp only [cond_true]
      rw [ih]
      cases runT x0 x1 x2 x3 x4 tick n (Pure.spec_l02Step real x0 x1 x2 x3 x4 a b c tick) (Pure.spec_l02Step_1 real x0 x1 x2 x3 x4 a b c tick) (Pure.spec_l02Step_2 real x0 x1 x2 x3 x4 a b c tick) with
      | none => rfl
      | some l =>
        simp only [Option.bind_some, Option.map_some]
        conv => rhs; unfold endT
        simp only [Option.map_map]
        rfl

theorem spec_run {x0 x1 x2 x3 x4 tick : Int} (y : Int) (N : Nat) (hN : N < 1000000) : ∀ (m k f : Nat), k + m = N → m < f → ∀ (a b c : Int) (acc : List (List Int)), OkF .f32 a → acc.length = k →
    (Pure.spec_l02Run_L0 real tick N x0 x1 x2 x3 x4 y y y f k a b c acc).1 = true ∧
    (match runT x0 x1 x2 x3 x4 tick m a b c with
      | none => (Pure.spec_l02Run_L0 real tick N x0 x1 x2 x3 x4 y y y f k a b c acc).2.1 = true
      | some l => Pure.spec_l02Run_L0 real tick N x0 x1 x2 x3 x4 y y y f k a b c acc = (true, false, (endT l (a, b, c)).1, (endT l (a, b, c)).2.1, (endT l (a, b, c)).2.2, acc ++ heads l, 0, 0, 0, [])) := by
  intro m
  induction m with
  | zero =>
    intro k f hk hf a b c acc ha hl
    obtain ⟨f, rfl⟩ : ∃ g, f = g + 1 := ⟨f - 1, by omega⟩
    unfold Pure.spec_l02Run_L0
    rw [dec_ge' (show N ≤ k by omega)]
    unfold runT endT heads
    simp
  | succ m ih =>
    intro k f hk hf a b c acc ha hl
    obtain ⟨f, rfl⟩ : ∃ g, f = g + 1 := ⟨f - 1, by omega⟩
    unfold Pure.spec_l02Run_L0
    rw [dec_lt' (show k < N by omega), (step_is ha x0 x1 x2 x3 x4 b c tick).1]
    unfold runT
    cases hs : Pure.spec_l02Swing real (Pure.spec_l02Step real x0 x1 x2 x3 x4 a b c tick) (Pure.spec_l02Step_1 real x0 x1 x2 x3 x4 a b c tick) (Pure.spec_l02Step_2 real x0 x1 x2 x3 x4 a b c tick) with
    | false => exact ⟨rfl, rfl⟩
    | true =>
      have e1 : decide (Nat.succ acc.length ≤ 1073741824) = true := by simp; omega
      rw [e1, wrap_succ (by omega)]
      simp only [cond_true]
      have := ih (k + 1) f (by omega) (by omega) (Pure.spec_l02Step real x0 x1 x2 x3 x4 a b c tick) (Pure.spec_l02Step_1 real x0 x1 x2 x3 x4 a b c tick) (Pure.spec_l02Step_2 real x0 x1 x2 x3 x4 a b c tick) (acc ++ [[Pure.spec_l02Step real x0 x1 x2 x3 x4 a b c tick]]) (bin_ok _ _ _ _) (by simp; omega)
      refine ⟨this.1, ?_⟩
      have h2 := this.2
      cases hr : runT x0 x1 x2 x3 x4 tick m (Pure.spec_l02Step real x0 x1 x2 x3 x4 a b c tick) (Pure.spec_l02Step_1 real x0 x1 x2 x3 x4 a b c tick) (Pure.spec_l02Step_2 real x0 x1 x2 x3 x4 a b c tick) with
      | none => rw [hr] at h2; exact h2
      | some l =>
        rw [hr] at h2
        simp only [Option.map_some]
        refine h2.trans ?_
        unfold heads
        rw [List.append_assoc]
        rfl

theorem impl_run {x0 x1 x2 x3 x4 tick : Int} (N : Nat) (hN : N < 1000000) : ∀ (m k f : Nat), k + m = N → m < f → ∀ (a b c : Int) (acc : List (List Int)), OkF .f32 a → acc.length = k →
    (Pure.impl_Pendulum_run_L0 real tick N x0 x1 x2 x3 x4 f k a b c acc).1 = true ∧
    (match runT x0 x1 x2 x3 x4 tick m a b c with
      | none => (Pure.impl_Pendulum_run_L0 real tick N x0 x1 x2 x3 x4 f k a b c acc).2.1 = true
      | some l => Pure.impl_Pendulum_run_L0 real tick N x0 x1 x2 x3 x4 f k a b c acc = (true, false, acc ++ l, [])) := by
  intro m
  induction m with
  | zero =>
    intro k f hk hf a b c acc ha hl
    obtain ⟨f, rfl⟩ : ∃ g, f = g + 1 := ⟨f - 1, by omega⟩
    unfold Pure.impl_Pendulum_run_L0
    rw [dec_ge' (show N ≤ k by omega)]
    unfold runT
    simp
  | succ m ih =>
    intro k f hk hf a b c acc ha hl
    obtain ⟨f, rfl⟩ : ∃ g, f = g + 1 := ⟨f - 1, by omega⟩
    obtain ⟨s1, s2, s3, s4⟩ := step_is ha x0 x1 x2 x3 x4 b c tick
    unfold Pure.impl_Pendulum_run_L0
    rw [dec_lt' (show k < N by omega), s2]
    unfold runT
    cases hs : Pure.spec_l02Swing real (Pure.spec_l02Step real x0 x1 x2 x3 x4 a b c tick) (Pure.spec_l02Step_1 real x0 x1 x2 x3 x4 a b c tick) (Pure.spec_l02Step_2 real x0 x1 x2 x3 x4 a b c tick) with
    | false => rw [s3, hs]; exact ⟨rfl, rfl⟩
    | true =>
      obtain ⟨g1, g2, g3⟩ := s4 (s3.trans hs)
      have e1 : decide (Nat.succ acc.length ≤ 1073741824) = true := by simp; omega
      rw [s3, hs, e1, wrap_succ (by omega), g1, g2, g3]
      simp only [cond_true]
      have := ih (k + 1) f (by omega) (by omega) (Pure.spec_l02Step real x0 x1 x2 x3 x4 a b c tick) (Pure.spec_l02Step_1 real x0 x1 x2 x3 x4 a b c tick) (Pure.spec_l02Step_2 real x0 x1 x2 x3 x4 a b c tick) (acc ++ [[Pure.spec_l02Step real x0 x1 x2 x3 x4 a b c tick, Pure.spec_l02Step_1 real x0 x1 x2 x3 x4 a b c tick, Pure.spec_l02Step_2 real x0 x1 x2 x3 x4 a b c tick]]) (bin_ok _ _ _ _) (by simp; omega)
      refine ⟨this.1, ?_⟩
      have h2 := this.2
      cases hr : runT x0 x1 x2 x3 x4 tick m (Pure.spec_l02Step real x0 x1 x2 x3 x4 a b c tick) (Pure.spec_l02Step_1 real x0 x1 x2 x3 x4 a b c tick) (Pure.spec_l02Step_2 real x0 x1 x2 x3 x4 a b c tick) with
      | none => rw [hr] at h2; exact h2
      | some l =>
        rw [hr] at h2
        simp only [Option.map_some]
        refine h2.trans ?_
        rw [List.append_assoc]
        rfl

theorem run_is {x0 x1 x2 x3 x4 tick n : Int} (h0 : 0 ≤ n) (hn : n ≤ 256) {a : Int} (b c : Int) (ha : OkF .f32 a) :
    Pure.spec_l02Run_ok real x0 x1 x2 x3 x4 a b c tick n = true ∧ Pure.impl_Pendulum_run_ok real x0 x1 x2 x3 x4 a b c tick n = true ∧
    (match runT x0 x1 x2 x3 x4 tick n.toNat a b c with
      | none => Pure.spec_l02Run_3 real x0 x1 x2 x3 x4 a b c tick n = false ∧ Pure.impl_Pendulum_run real x0 x1 x2 x3 x4 a b c tick n = false ∧ Pure.spec_l02Run real x0 x1 x2 x3 x4 a b c tick n = 0 ∧ Pure.spec_l02Run_1 real x0 x1 x2 x3 x4 a b c tick n = 0 ∧ Pure.spec_l02Run_2 real x0 x1 x2 x3 x4 a b c tick n = 0 ∧ Pure.spec_l02Run_4 real x0 x1 x2 x3 x4 a b c tick n = []
      | some l => Pure.spec_l02Run_3 real x0 x1 x2 x3 x4 a b c tick n = true ∧ Pure.impl_Pendulum_run real x0 x1 x2 x3 x4 a b c tick n = true ∧ Pure.spec_l02Run real x0 x1 x2 x3 x4 a b c tick n = (endT l (a, b, c)).1 ∧ Pure.spec_l02Run_1 real x0 x1 x2 x3 x4 a b c tick n = (endT l (a, b, c)).2.1 ∧
          Pure.spec_l02Run_2 real x0 x1 x2 x3 x4 a b c tick n = (endT l (a, b, c)).2.2 ∧ Pure.spec_l02Run_4 real x0 x1 x2 x3 x4 a b c tick n = heads l ∧ Pure.impl_Pendulum_run_1 real x0 x1 x2 x3 x4 a b c tick n = l) := by
  obtain ⟨N, rfl⟩ := Int.eq_ofNat_of_zero_le h0
  obtain ⟨s1, s2⟩ := spec_run (x0 := x0) (x1 := x1) (x2 := x2) (x3 := x3) (x4 := x4) (tick := tick) 0 N (by omega) N 0 (((N : Int) - 0) + 1).toNat (by omega) (by omega) a b c [] ha rfl
  obtain ⟨i1, i2⟩ := impl_run (x0 := x0) (x1 := x1) (x2 := x2) (x3 := x3) (x4 := x4) (tick := tick) N (by omega) N 0 (((N : Int) - 0) + 1).toNat (by omega) (by omega) a b c [] ha rfl
  unfold Pure.spec_l02Run_ok Pure.impl_Pendulum_run_ok Pure.spec_l02Run_3 Pure.impl_Pendulum_run Pure.spec_l02Run Pure.spec_l02Run_1 Pure.spec_l02Run_2 Pure.spec_l02Run_4 Pure.impl_Pendulum_run_1
  refine ⟨s1, i1, ?_⟩
  rw [Int.toNat_natCast]
  change (Pure.spec_l02Run_L0 real tick N x0 x1 x2 x3 x4 0 0 0 (((N : Int) - 0) + 1).toNat 0 a b c []).1 = true at s1
  change (Pure.impl_Pendulum_run_L0 real tick N x0 x1 x2 x3 x4 (((N : Int) - 0) + 1).toNat 0 a b c []).1 = true at i1
  cases hr : runT x0 x1 x2 x3 x4 tick N a b c with
  | none =>
    rw [hr] at s2 i2
    change (Pure.spec_l02Run_L0 real tick N x0 x1 x2 x3 x4 0 0 0 (((N : Int) - 0) + 1).toNat 0 a b c []).2.1 = true at s2
    change (Pure.impl_Pendulum_run_L0 real tick N x0 x1 x2 x3 x4 (((N : Int) - 0) + 1).toNat 0 a b c []).2.1 = true at i2
    simp only [s2, i2, cond_true, and_self]
  | some l =>
    rw [hr] at s2 i2
    change Pure.spec_l02Run_L0 real tick N x0 x1 x2 x3 x4 0 0 0 (((N : Int) - 0) + 1).toNat 0 a b c [] = _ at s2
    change Pure.impl_Pendulum_run_L0 real tick N x0 x1 x2 x3 x4 (((N : Int) - 0) + 1).toNat 0 a b c [] = _ at i2
    simp only [s2, i2, cond_false, List.nil_append, and_self]

end Go.Fx
