import Derived.Test.YtfefhcbffepdlaaXr6t
import Derived.Test.YtfefhcbffepdlaaXr6u
import Derived.Test.YtfefhcbffepdlaaXr6e
namespace Go.Fx
theorem in_iff {a b c : Int} : Pure.impl_in real a b c = true ↔ b ≤ a ∧ a ≤ c := by
  unfold Pure.impl_in
  simp only [Bool.cond_false_right, Bool.and_eq_true, decide_eq_true_eq, ge_iff_le]

theorem pend_is (x0 x1 x2 x3 x4 : Int) : Pure.spec_l02Is real x0 x1 x2 x3 x4 = Pure.impl_ValidPendulum real x0 x1 x2 x3 x4 ∧ Pure.impl_ValidPendulum_ok real x0 x1 x2 x3 x4 = true := by
  obtain ⟨f1, f2⟩ := impl_finite_eq [[x0], [x1], [x2], [x3], [x4]] (by simp)
  unfold Pure.spec_l02Is Pure.impl_ValidPendulum Pure.impl_ValidPendulum_ok Pure.impl_Pendulum_numbers Pure.spec_l02Above Pure.spec_l02Least
  refine ⟨?_, f1⟩
  rw [f2]
  simp only [fin_is, List.all_cons, List.all_nil, List.getD_cons_zero, Bool.and_true]
  generalize real.cmp .gtr .f32 x0 0 = c0
  generalize real.cmp .geq .f32 x1 0 = c1
  generalize real.cmp .geq .f32 x2 0 = c2
  cases Pure.impl_IsFinite real x0 <;> cases Pure.impl_IsFinite real x1 <;> cases Pure.impl_IsFinite real x2 <;> cases Pure.impl_IsFinite real x3 <;> cases Pure.impl_IsFinite real x4 <;> cases c0 <;> cases c1 <;> cases c2 <;> rfl

theorem swing_is (a b c : Int) : Pure.impl_ValidSwing real a b c = Pure.spec_l02Swing real a b c ∧ Pure.impl_ValidSwing_ok real a b c = true := by
  obtain ⟨f1, f2⟩ := impl_finite_eq [[a], [b], [c]] (by simp)
  unfold Pure.impl_ValidSwing Pure.spec_l02Swing Pure.impl_ValidSwing_ok Pure.impl_Swing_numbers
  refine ⟨?_, f1⟩
  rw [f2, fin_is, fin_is, fin_is]
  simp only [List.all_cons, List.all_nil, List.getD_cons_zero, Bool.and_true]
  cases Pure.impl_IsFinite real a <;> cases Pure.impl_IsFinite real b <;> rfl

theorem swing_parts {a b c : Int} (h : Pure.spec_l02Swing real a b c = true) : Pure.impl_IsFinite real a = true ∧ Pure.impl_IsFinite real b = true ∧ Pure.impl_IsFinite real c = true := by
  unfold Pure.spec_l02Swing at h
  simp only [Bool.cond_false_right, Bool.and_eq_true, fin_is] at h
  exact h

theorem force_is {x5 : Int} (h5 : OkF .f32 x5) (x0 x1 x2 x3 x4 x6 x7 : Int) : Pure.impl_Pendulum_force real x0 x1 x2 x3 x4 x5 x6 x7 = Pure.spec_l02Force real x0 x1 x2 x3 x4 x5 x6 x7 ∧ Pure.impl_Pendulum_force_ok real x0 x1 x2 x3 x4 x5 x6 x7 = true ∧ Pure.spec_l02Force_ok real x0 x1 x2 x3 x4 x5 x6 x7 = true := by
  obtain ⟨s1, s2, s3, _⟩ := sine_is h5
  obtain ⟨r1, r2, r3, _⟩ := sine_is (bin_ok .mul .f32 x4 x7)
  unfold Pure.impl_Pendulum_force Pure.spec_l02Force Pure.impl_Pendulum_force_ok Pure.spec_l02Force_ok Pure.impl_Pendulum_pull Pure.spec_l02Pull Pure.impl_Pendulum_drive Pure.spec_l02Drive Pure.impl_Pendulum_pull_ok Pure.spec_l02Pull_ok Pure.impl_Pendulum_drive_ok Pure.spec_l02Drive_ok
  rw [s1, s2, s3, r1, r2, r3]
  exact ⟨rfl, rfl, rfl⟩

theorem step_is {x5 : Int} (h5 : OkF .f32 x5) (x0 x1 x2 x3 x4 x6 x7 x8 : Int) : Pure.spec_l02Step_ok real x0 x1 x2 x3 x4 x5 x6 x7 x8 = true ∧ Pure.impl_Pendulum_step_ok real x0 x1 x2 x3 x4 x5 x6 x7 x8 = true ∧
    Pure.impl_Pendulum_step_3 real x0 x1 x2 x3 x4 x5 x6 x7 x8 = Pure.spec_l02Swing real (Pure.spec_l02Step real x0 x1 x2 x3 x4 x5 x6 x7 x8) (Pure.spec_l02Step_1 real x0 x1 x2 x3 x4 x5 x6 x7 x8) (Pure.spec_l02Step_2 real x0 x1 x2 x3 x4 x5 x6 x7 x8) ∧
    (Pure.impl_Pendulum_step_3 real x0 x1 x2 x3 x4 x5 x6 x7 x8 = true → Pure.impl_Pendulum_step real x0 x1 x2 x3 x4 x5 x6 x7 x8 = Pure.spec_l02Step real x0 x1 x2 x3 x4 x5 x6 x7 x8 ∧ Pure.impl_Pendulum_step_1 real x0 x1 x2 x3 x4 x5 x6 x7 x8 = Pure.spec_l02Step_1 real x0 x1 x2 x3 x4 x5 x6 x7 x8 ∧ Pure.impl_Pendulum_step_2 real x0 x1 x2 x3 x4 x5 x6 x7 x8 = Pure.spec_l02Step_2 real x0 x1 x2 x3 x4 x5 x6 x7 x8) := by
  obtain ⟨f1, f2, f3⟩ := force_is h5 x0 x1 x2 x3 x4 x6 x7
  unfold Pure.spec_l02Step_ok Pure.impl_Pendulum_step_ok Pure.impl_Pendulum_step_3 Pure.impl_Pendulum_step Pure.impl_Pendulum_step_1 Pure.impl_Pendulum_step_2 Pure.spec_l02Step Pure.spec_l02Step_1 Pure.spec_l02Step_2
  simp only [half_quo]
  rw [f1, f2, f3]
  generalize Pure.spec_l02Force real x0 x1 x2 x3 x4 x5 x6 x7 = A
  have hv := bin_ok .add .f32 x6 (real.bin .mul .f32 (real.bin .mul .f32 1056964608 x8) A)
  generalize real.bin .add .f32 x6 (real.bin .mul .f32 (real.bin .mul .f32 1056964608 x8) A) = v at *
  have hT := bin_ok .add .f32 x5 (real.bin .mul .f32 x8 v)
  generalize real.bin .add .f32 x5 (real.bin .mul .f32 x8 v) = T at *
  generalize real.bin .add .f32 x7 x8 = M
  obtain ⟨g1, g2, g3⟩ := force_is hT x0 x1 x2 x3 x4 v M
  rw [g1, g2, g3]
  generalize Pure.spec_l02Force real x0 x1 x2 x3 x4 T v M = B
  obtain ⟨a1, a2⟩ := swing_is T v M
  obtain ⟨b1, b2⟩ := swing_is T (real.bin .add .f32 v (real.bin .mul .f32 (real.bin .mul .f32 1056964608 x8) B)) M
  rw [a1, a2, b1, b2]
  cases hs : Pure.spec_l02Swing real T v M with
  | true => exact ⟨rfl, rfl, rfl, fun _ => ⟨rfl, rfl, rfl⟩⟩
  | false =>
    have : Pure.spec_l02Swing real T (real.bin .add .f32 v (real.bin .mul .f32 (real.bin .mul .f32 1056964608 x8) B)) M = false := by
      cases hh : Pure.spec_l02Swing real T (real.bin .add .f32 v (real.bin .mul .f32 (real.bin .mul .f32 1056964608 x8) B)) M with
      | false => rfl
      | true =>
        obtain ⟨p1, p2, p3⟩ := swing_parts hh
        have p4 := (fin_add hv (bin_ok _ _ _ _) (fin_of (bin_ok _ _ _ _) p2)).1
        unfold Pure.spec_l02Swing at hs
        rw [fin_is, fin_is, fin_is, p1, isFin p4, p3] at hs
        cases hs
    rw [this]
    exact ⟨rfl, rfl, rfl, fun h => by cases h⟩

theorem swingOk_is (x0 x1 x2 x3 x4 x5 x6 x7 x8 : Int) : Pure.impl_swingOk real x0 x1 x2 x3 x4 x5 x6 x7 x8 = (Pure.spec_l02Both real x0 x1 x2 x3 x4 x5 x6 x7 && Pure.spec_l02Tick real x8) ∧ Pure.impl_swingOk_ok real x0 x1 x2 x3 x4 x5 x6 x7 x8 = true := by
  obtain ⟨p1, p2⟩ := pend_is x0 x1 x2 x3 x4
  obtain ⟨q1, q2⟩ := swing_is x5 x6 x7
  have et : Pure.impl_tickOk real x8 = Pure.spec_l02Tick real x8 := rfl
  unfold Pure.impl_swingOk Pure.impl_swingOk_ok Pure.spec_l02Both
  rw [← p1, p2, q1, q2, et]
  cases Pure.spec_l02Is real x0 x1 x2 x3 x4 <;> cases Pure.spec_l02Swing real x5 x6 x7 <;> exact ⟨rfl, rfl⟩

/-- A pendulum's run: the swings after each of n ticks, if all are numbers. -/
def runT (x0 x1 x2 x3 x4 tick : Int) : Nat → Int → Int → Int → Option (List (List Int))
  | 0, _, _, _ => some []
  | n + 1, a, b, c => bif Pure.spec_l02Swing real (Pure.spec_l02Step real x0 x1 x2 x3 x4 a b c tick) (Pure.spec_l02Step_1 real x0 x1 x2 x3 x4 a b c tick) (Pure.spec_l02Step_2 real x0 x1 x2 x3 x4 a b c tick)
      then (runT x0 x1 x2 x3 x4 tick n (Pure.spec_l02Step real x0 x1 x2 x3 x4 a b c tick) (Pure.spec_l02Step_1 real x0 x1 x2 x3 x4 a b c tick) (Pure.spec_l02Step_2 real x0 x1 x2 x3 x4 a b c tick)).map
        ([Pure.spec_l02Step real x0 x1 x2 x3 x4 a b c tick, Pure.spec_l02Step_1 real x0 x1 x2 x3 x4 a b c tick, Pure.spec_l02Step_2 real x0 x1 x2 x3 x4 a b c tick] :: ·) else none

/-- The last swing of a run, or the first. -/
def endT : List (List Int) → Int × Int × Int → Int × Int × Int
  | [], s => s
  | r :: l, _ => endT l (r.getD 0 0, r.getD 1 0, r.getD 2 0)

def heads (l : List (List Int)) : List (List Int) := l.map fun r => [r.getD 0 0]

theorem runT_len {x0 x1 x2 x3 x4 tick : Int} : ∀ (n : Nat) (a b c : Int) (l : List (List Int)), runT x0 x1 x2 x3 x4 tick n a b c = some l → l.length = n := by
  intro n
  induction n with
  | zero => intro a b c l h; unfold runT at h; cases h; rfl
  | succ n ih =>
    intro a b c l h
    unfold runT at h
    cases hs : Pure.spec_l02Swing real (Pure.spec_l02Step real x0 x1 x2 x3 x4 a b c tick) (Pure.spec_l02Step_1 real x0 x1 x2 x3 x4 a b c tick) (Pure.spec_l02Step_2 real x0 x1 x2 x3 x4 a b c tick) with
    | false => rw [hs] at h; cases h
    | true =>
      rw [hs] at h
      simp only [cond_true] at h
      rw [Option.map_eq_some_iff] at h
      obtain ⟨l', h1, rfl⟩ := h
      rw [List.length_cons, ih _ _ _ _ h1]

theorem runT_fin {x0 x1 x2 x3 x4 tick : Int} : ∀ (n : Nat) (a b c : Int) (l : List (List Int)), runT x0 x1 x2 x3 x4 tick n a b c = some l → ∀ r ∈ l, Fin .f32 (r.getD 0 0) ∧ r = [r.getD 0 0, r.getD 1 0, r.getD 2 0] := by
  intro n
  induction n with
  | zero => intro a b c l h; unfold runT at h; cases h; intro r hr; cases hr
  | succ n ih =>
    intro a b c l h
    unfold runT at h
    cases hs : Pure.spec_l02Swing real (Pure.spec_l02Step real x0 x1 x2 x3 x4 a b c tick) (Pure.spec_l02Step_1 real x0 x1 x2 x3 x4 a b c tick) (Pure.spec_l02Step_2 real x0 x1 x2 x3 x4 a b c tick) with
    | false => rw [hs] at h; cases h
    | true =>
      rw [hs] at h
      simp only [cond_true] at h
      rw [Option.map_eq_some_iff] at h
      obtain ⟨l', h1, rfl⟩ := h
      intro r hr
      rcases List.mem_cons.1 hr with rfl | hr
      · exact ⟨fin_of (bin_ok _ _ _ _) (swing_parts hs).1, rfl⟩
      · exact ih _ _ _ _ h1 r hr

theorem spec_run {x0 x1 x2 x3 x4 tick : Int} (y : Int) (N : Nat) (hN : N < 1000000) : ∀ (m k f : Nat), k + m = N → m < f → ∀ (a b c : Int) (acc : List (List Int)), OkF .f32 a → acc.length = k →
    (Pure.spec_l02Run_L0 real tick N x0 x1 x2 x3 x4 y y y f k a b c acc).1 = true ∧
    (match runT x0 x1 x2 x3 x4 tick m a b c with
      | none => (Pure.spec_l02Run_L0 real tick N x0 x1 x2 x3 x4 y y y f k a b c acc).2.1 = true
      | some l => Pure.spec_l02Run_L0 real tick N x0 x1 x2 x3 x4 y y y f k a b c acc = (true, false, (endT l (a, b, c)).1, (endT l (a, b, c)).2.1, (endT l (a, b, c)).2.2, acc ++ heads l, 0, 0, 0, [])) := by
  intro m
  induction m with
  | zero =>
    intro k f hk hf a b c acc ha hl
    obtain ⟨f, rfl⟩ : ∃ g, f = g + 1 := ⟨f - 1, by omega⟩
    unfold Pure.spec_l02Run_L0
    rw [dec_ge' (show N ≤ k by omega)]
    unfold runT endT heads
    simp
  | succ m ih =>
    intro k f hk hf a b c acc ha hl
    obtain ⟨f, rfl⟩ : ∃ g, f = g + 1 := ⟨f - 1, by omega⟩
    unfold Pure.spec_l02Run_L0
    rw [dec_lt' (show k < N by omega), (step_is ha x0 x1 x2 x3 x4 b c tick).1]
    unfold runT
    cases hs : Pure.spec_l02Swing real (Pure.spec_l02Step real x0 x1 x2 x3 x4 a b c tick) (Pure.spec_l02Step_1 real x0 x1 x2 x3 x4 a b c tick) (Pure.spec_l02Step_2 real x0 x1 x2 x3 x4 a b c tick) with
    | false => exact ⟨rfl, rfl⟩
    | true =>
      have e1 : decide (Nat.succ acc.length ≤ 1073741824) = true := by simp; omega
      rw [e1, wrap_succ (by omega)]
      simp only [cond_true]
      have := ih (k + 1) f (by omega) (by omega) (Pure.spec_l02Step real x0 x1 x2 x3 x4 a b c tick) (Pure.spec_l02Step_1 real x0 x1 x2 x3 x4 a b c tick) (Pure.spec_l02Step_2 real x0 x1 x2 x3 x4 a b c tick) (acc ++ [[Pure.spec_l02Step real x0 x1 x2 x3 x4 a b c tick]]) (bin_ok _ _ _ _) (by simp; omega)
      refine ⟨this.1, ?_⟩
      have h2 := this.2
      cases hr : runT x0 x1 x2 x3 x4 tick m (Pure.spec_l02Step real x0 x1 x2 x3 x4 a b c tick) (Pure.spec_l02Step_1 real x0 x1 x2 x3 x4 a b c tick) (Pure.spec_l02Step_2 real x0 x1 x2 x3 x4 a b c tick) with
      | none => rw [hr] at h2; exact h2
      | some l =>
        rw [hr] at h2
        simp only [Option.map_some]
        refine h2.trans ?_
        unfold heads
        rw [List.append_assoc]
        rfl

theorem impl_run {x0 x1 x2 x3 x4 tick : Int} (N : Nat) (hN : N < 1000000) : ∀ (m k f : Nat), k + m = N → m < f → ∀ (a b c : Int) (acc : List (List Int)), OkF .f32 a → acc.length = k →
    (Pure.impl_Pendulum_run_L0 real tick N x0 x1 x2 x3 x4 f k a b c acc).1 = true ∧
    (match runT x0 x1 x2 x3 x4 tick m a b c with
      | none => (Pure.impl_Pendulum_run_L0 real tick N x0 x1 x2 x3 x4 f k a b c acc).2.1 = true
      | some l => Pure.impl_Pendulum_run_L0 real tick N x0 x1 x2 x3 x4 f k a b c acc = (true, false, acc ++ l, [])) := by
  intro m
  induction m with
  | zero =>
    intro k f hk hf a b c acc ha hl
    obtain ⟨f, rfl⟩ : ∃ g, f = g + 1 := ⟨f - 1, by omega⟩
    unfold Pure.impl_Pendulum_run_L0
    rw [dec_ge' (show N ≤ k by omega)]
    unfold runT
    simp
  | succ m ih =>
    intro k f hk hf a b c acc ha hl
    obtain ⟨f, rfl⟩ : ∃ g, f = g + 1 := ⟨f - 1, by omega⟩
    obtain ⟨s1, s2, s3, s4⟩ := step_is ha x0 x1 x2 x3 x4 b c tick
    unfold Pure.impl_Pendulum_run_L0
    rw [dec_lt' (show k < N by omega), s2]
    unfold runT
    cases hs : Pure.spec_l02Swing real (Pure.spec_l02Step real x0 x1 x2 x3 x4 a b c tick) (Pure.spec_l02Step_1 real x0 x1 x2 x3 x4 a b c tick) (Pure.spec_l02Step_2 real x0 x1 x2 x3 x4 a b c tick) with
    | false => rw [s3, hs]; exact ⟨rfl, rfl⟩
    | true =>
      obtain ⟨g1, g2, g3⟩ := s4 (s3.trans hs)
      have e1 : decide (Nat.succ acc.length ≤ 1073741824) = true := by simp; omega
      rw [s3, hs, e1, wrap_succ (by omega), g1, g2, g3]
      simp only [cond_true]
      have := ih (k + 1) f (by omega) (by omega) (Pure.spec_l02Step real x0 x1 x2 x3 x4 a b c tick) (Pure.spec_l02Step_1 real x0 x1 x2 x3 x4 a b c tick) (Pure.spec_l02Step_2 real x0 x1 x2 x3 x4 a b c tick) (acc ++ [[Pure.spec_l02Step real x0 x1 x2 x3 x4 a b c tick, Pure.spec_l02Step_1 real x0 x1 x2 x3 x4 a b c tick, Pure.spec_l02Step_2 real x0 x1 x2 x3 x4 a b c tick]]) (bin_ok _ _ _ _) (by simp; omega)
      refine ⟨this.1, ?_⟩
      have h2 := this.2
      cases hr : runT x0 x1 x2 x3 x4 tick m (Pure.spec_l02Step real x0 x1 x2 x3 x4 a b c tick) (Pure.spec_l02Step_1 real x0 x1 x2 x3 x4 a b c tick) (Pure.spec_l02Step_2 real x0 x1 x2 x3 x4 a b c tick) with
      | none => rw [hr] at h2; exact h2
      | some l =>
        rw [hr] at h2
        simp only [Option.map_some]
        refine h2.trans ?_
        rw [List.append_assoc]
        rfl

theorem run_is {x0 x1 x2 x3 x4 tick n : Int} (h0 : 0 ≤ n) (hn : n ≤ 256) {a : Int} (b c : Int) (ha : OkF .f32 a) :
    Pure.spec_l02Run_ok real x0 x1 x2 x3 x4 a b c tick n = true ∧ Pure.impl_Pendulum_run_ok real x0 x1 x2 x3 x4 a b c tick n = true ∧
    (match runT x0 x1 x2 x3 x4 tick n.toNat a b c with
      | none => Pure.spec_l02Run_3 real x0 x1 x2 x3 x4 a b c tick n = false ∧ Pure.impl_Pendulum_run real x0 x1 x2 x3 x4 a b c tick n = false ∧ Pure.spec_l02Run real x0 x1 x2 x3 x4 a b c tick n = 0 ∧ Pure.spec_l02Run_1 real x0 x1 x2 x3 x4 a b c tick n = 0 ∧ Pure.spec_l02Run_2 real x0 x1 x2 x3 x4 a b c tick n = 0 ∧ Pure.spec_l02Run_4 real x0 x1 x2 x3 x4 a b c tick n = []
      | some l => Pure.spec_l02Run_3 real x0 x1 x2 x3 x4 a b c tick n = true ∧ Pure.impl_Pendulum_run real x0 x1 x2 x3 x4 a b c tick n = true ∧ Pure.spec_l02Run real x0 x1 x2 x3 x4 a b c tick n = (endT l (a, b, c)).1 ∧ Pure.spec_l02Run_1 real x0 x1 x2 x3 x4 a b c tick n = (endT l (a, b, c)).2.1 ∧
          Pure.spec_l02Run_2 real x0 x1 x2 x3 x4 a b c tick n = (endT l (a, b, c)).2.2 ∧ Pure.spec_l02Run_4 real x0 x1 x2 x3 x4 a b c tick n = heads l ∧ Pure.impl_Pendulum_run_1 real x0 x1 x2 x3 x4 a b c tick n = l) := by
  obtain ⟨N, rfl⟩ := Int.eq_ofNat_of_zero_le h0
  obtain ⟨s1, s2⟩ := spec_run (x0 := x0) (x1 := x1) (x2 := x2) (x3 := x3) (x4 := x4) (tick := tick) 0 N (by omega) N 0 (((N : Int) - 0) + 1).toNat (by omega) (by omega) a b c [] ha rfl
  obtain ⟨i1, i2⟩ := impl_run (x0 := x0) (x1 := x1) (x2 := x2) (x3 := x3) (x4 := x4) (tick := tick) N (by omega) N 0 (((N : Int) - 0) + 1).toNat (by omega) (by omega) a b c [] ha rfl
  unfold Pure.spec_l02Run_ok Pure.impl_Pendulum_run_ok Pure.spec_l02Run_3 Pure.impl_Pendulum_run Pure.spec_l02Run Pure.spec_l02Run_1 Pure.spec_l02Run_2 Pure.spec_l02Run_4 Pure.impl_Pendulum_run_1
  refine ⟨s1, i1, ?_⟩
  rw [Int.toNat_natCast]
  change (Pure.spec_l02Run_L0 real tick N x0 x1 x2 x3 x4 0 0 0 (((N : Int) - 0) + 1).toNat 0 a b c []).1 = true at s1
  change (Pure.impl_Pendulum_run_L0 real tick N x0 x1 x2 x3 x4 (((N : Int) - 0) + 1).toNat 0 a b c []).1 = true at i1
  cases hr : runT x0 x1 x2 x3 x4 tick N a b c with
  | none =>
    rw [hr] at s2 i2
    change (Pure.spec_l02Run_L0 real tick N x0 x1 x2 x3 x4 0 0 0 (((N : Int) - 0) + 1).toNat 0 a b c []).2.1 = true at s2
    change (Pure.impl_Pendulum_run_L0 real tick N x0 x1 x2 x3 x4 (((N : Int) - 0) + 1).toNat 0 a b c []).2.1 = true at i2
    simp only [s2, i2, cond_true, and_self]
  | some l =>
    rw [hr] at s2 i2
    change Pure.spec_l02Run_L0 real tick N x0 x1 x2 x3 x4 0 0 0 (((N : Int) - 0) + 1).toNat 0 a b c [] = _ at s2
    change Pure.impl_Pendulum_run_L0 real tick N x0 x1 x2 x3 x4 (((N : Int) - 0) + 1).toNat 0 a b c [] = _ at i2
    simp only [s2, i2, cond_false, List.nil_append, and_self]

theorem turns_loop (l : List (List Int)) (hl : l.length < 1000000) (p q r : Int) : ∀ (m i f : Nat), i + m = l.length → m < f → ∀ (a b c : Int) (acc : List (List Int)), acc.length = i →
    Pure.impl_RunSwing_L0 real l.length p q r l f i a b c acc = (true, (endT (l.drop i) (a, b, c)).1, (endT (l.drop i) (a, b, c)).2.1, (endT (l.drop i) (a, b, c)).2.2, acc ++ heads (l.drop i)) := by
  intro m
  induction m with
  | zero =>
    intro i f hi hf a b c acc ha
    obtain ⟨f, rfl⟩ : ∃ g, f = g + 1 := ⟨f - 1, by omega⟩
    unfold Pure.impl_RunSwing_L0
    rw [dec_ge' (show l.length ≤ i by omega), List.drop_eq_nil_of_le (by omega)]
    unfold endT heads
    simp
  | succ m ih =>
    intro i f hi hf a b c acc ha
    obtain ⟨f, rfl⟩ : ∃ g, f = g + 1 := ⟨f - 1, by omega⟩
    unfold Pure.impl_RunSwing_L0
    have e1 : decide (Nat.succ acc.length ≤ 1073741824) = true := by simp; omega
    have h : i < l.length := by omega
    rw [dec_lt' h, dec_nn, dec_lt h, e1, wrap_succ (by omega), Int.toNat_natCast, getD_some h]
    simp only [cond_true]
    rw [ih (i + 1) f (by omega) (by omega) _ _ _ _ (by simp; omega), List.drop_eq_getElem_cons h]
    conv => rhs; unfold endT
    unfold heads
    rw [List.append_assoc]
    rfl

def Pure.spec_RunSwing (F : FOps) (x0 : Int) (x1 : Int) (x2 : Int) (x3 : Int) (x4 : Int) (x5 : Int) (x6 : Int) (x7 : Int) (x8 : Int) (x9 : Int) : Int := bif Pure.spec_l02Both F x0 x1 x2 x3 x4 x5 x6 x7 then bif Pure.spec_l02Tick F x8 then bif Pure.spec_l00In F x9 0 256 then Pure.spec_l02Run F x0 x1 x2 x3 x4 x5 x6 x7 x8 x9 else 0 else 0 else 0
def Pure.spec_RunSwing_1 (F : FOps) (x0 : Int) (x1 : Int) (x2 : Int) (x3 : Int) (x4 : Int) (x5 : Int) (x6 : Int) (x7 : Int) (x8 : Int) (x9 : Int) : Int := bif Pure.spec_l02Both F x0 x1 x2 x3 x4 x5 x6 x7 then bif Pure.spec_l02Tick F x8 then bif Pure.spec_l00In F x9 0 256 then Pure.spec_l02Run_1 F x0 x1 x2 x3 x4 x5 x6 x7 x8 x9 else 0 else 0 else 0
def Pure.spec_RunSwing_2 (F : FOps) (x0 : Int) (x1 : Int) (x2 : Int) (x3 : Int) (x4 : Int) (x5 : Int) (x6 : Int) (x7 : Int) (x8 : Int) (x9 : Int) : Int := bif Pure.spec_l02Both F x0 x1 x2 x3 x4 x5 x6 x7 then bif Pure.spec_l02Tick F x8 then bif Pure.spec_l00In F x9 0 256 then Pure.spec_l02Run_2 F x0 x1 x2 x3 x4 x5 x6 x7 x8 x9 else 0 else 0 else 0
def Pure.spec_RunSwing_3 (F : FOps) (x0 : Int) (x1 : Int) (x2 : Int) (x3 : Int) (x4 : Int) (x5 : Int) (x6 : Int) (x7 : Int) (x8 : Int) (x9 : Int) : Bool := bif Pure.spec_l02Both F x0 x1 x2 x3 x4 x5 x6 x7 then bif Pure.spec_l02Tick F x8 then bif Pure.spec_l00In F x9 0 256 then Pure.spec_l02Run_3 F x0 x1 x2 x3 x4 x5 x6 x7 x8 x9 else false else false else false
def Pure.spec_RunSwing_4 (F : FOps) (x0 : Int) (x1 : Int) (x2 : Int) (x3 : Int) (x4 : Int) (x5 : Int) (x6 : Int) (x7 : Int) (x8 : Int) (x9 : Int) : List (List Int) := bif Pure.spec_l02Both F x0 x1 x2 x3 x4 x5 x6 x7 then bif Pure.spec_l02Tick F x8 then bif Pure.spec_l00In F x9 0 256 then Pure.spec_l02Run_4 F x0 x1 x2 x3 x4 x5 x6 x7 x8 x9 else [] else [] else []
def Pure.spec_RunSwing_ok (F : FOps) (x0 : Int) (x1 : Int) (x2 : Int) (x3 : Int) (x4 : Int) (x5 : Int) (x6 : Int) (x7 : Int) (x8 : Int) (x9 : Int) : Bool := bif Pure.spec_l02Both F x0 x1 x2 x3 x4 x5 x6 x7 then bif Pure.spec_l02Tick F x8 then bif Pure.spec_l00In F x9 0 256 then Pure.spec_l02Run_ok F x0 x1 x2 x3 x4 x5 x6 x7 x8 x9 else true else true else true
def Pure.spec_ResponseOf (F : FOps) (x0 : Int) (x1 : Int) (x2 : Int) (x3 : Int) (x4 : Int) (x5 : Int) (x6 : Int) (x7 : Int) (x8 : Int) (x9 : Int) (x10 : Int) : Int := bif Pure.spec_l02Can F x0 x1 x2 x3 x4 x5 x6 x7 x8 x9 x10 then Pure.spec_l02Response F x0 x1 x2 x3 x4 x5 x6 x7 x8 x9 x10 else 0
def Pure.spec_ResponseOf_1 (F : FOps) (x0 : Int) (x1 : Int) (x2 : Int) (x3 : Int) (x4 : Int) (x5 : Int) (x6 : Int) (x7 : Int) (x8 : Int) (x9 : Int) (x10 : Int) : Bool := bif Pure.spec_l02Can F x0 x1 x2 x3 x4 x5 x6 x7 x8 x9 x10 then Pure.spec_l02Response_1 F x0 x1 x2 x3 x4 x5 x6 x7 x8 x9 x10 else false
def Pure.spec_ResponseOf_ok (F : FOps) (x0 : Int) (x1 : Int) (x2 : Int) (x3 : Int) (x4 : Int) (x5 : Int) (x6 : Int) (x7 : Int) (x8 : Int) (x9 : Int) (x10 : Int) : Bool := bif Pure.spec_l02Can F x0 x1 x2 x3 x4 x5 x6 x7 x8 x9 x10 then Pure.spec_l02Response_ok F x0 x1 x2 x3 x4 x5 x6 x7 x8 x9 x10 else true
theorem runSwing_is (x0 x1 x2 x3 x4 x6 x7 x8 x9 : Int) {x5 : Int} (h5 : OkF .f32 x5) : Pure.spec_RunSwing_ok real x0 x1 x2 x3 x4 x5 x6 x7 x8 x9 = true ∧ Pure.impl_RunSwing_ok real x0 x1 x2 x3 x4 x5 x6 x7 x8 x9 = true ∧
    Pure.spec_RunSwing real x0 x1 x2 x3 x4 x5 x6 x7 x8 x9 = Pure.impl_RunSwing real x0 x1 x2 x3 x4 x5 x6 x7 x8 x9 ∧ Pure.spec_RunSwing_1 real x0 x1 x2 x3 x4 x5 x6 x7 x8 x9 = Pure.impl_RunSwing_1 real x0 x1 x2 x3 x4 x5 x6 x7 x8 x9 ∧
    Pure.spec_RunSwing_2 real x0 x1 x2 x3 x4 x5 x6 x7 x8 x9 = Pure.impl_RunSwing_2 real x0 x1 x2 x3 x4 x5 x6 x7 x8 x9 ∧ Pure.spec_RunSwing_3 real x0 x1 x2 x3 x4 x5 x6 x7 x8 x9 = Pure.impl_RunSwing_3 real x0 x1 x2 x3 x4 x5 x6 x7 x8 x9 ∧
    Pure.spec_RunSwing_4 real x0 x1 x2 x3 x4 x5 x6 x7 x8 x9 = Pure.impl_RunSwing_4 real x0 x1 x2 x3 x4 x5 x6 x7 x8 x9 ∧
    (match (bif (Pure.spec_l02Both real x0 x1 x2 x3 x4 x5 x6 x7 && Pure.spec_l02Tick real x8) && Pure.impl_in real x9 0 256 then runT x0 x1 x2 x3 x4 x8 x9.toNat x5 x6 x7 else none) with
      | none => Pure.impl_RunSwing_3 real x0 x1 x2 x3 x4 x5 x6 x7 x8 x9 = false ∧ Pure.impl_RunSwing_4 real x0 x1 x2 x3 x4 x5 x6 x7 x8 x9 = []
      | some l => Pure.impl_RunSwing_3 real x0 x1 x2 x3 x4 x5 x6 x7 x8 x9 = true ∧ Pure.impl_RunSwing_4 real x0 x1 x2 x3 x4 x5 x6 x7 x8 x9 = heads l) := by
  obtain ⟨w1, w2⟩ := swingOk_is x0 x1 x2 x3 x4 x5 x6 x7 x8
  have hin : Pure.spec_l00In real x9 0 256 = Pure.impl_in real x9 0 256 := rfl
  unfold Pure.spec_RunSwing_ok Pure.impl_RunSwing_ok Pure.spec_RunSwing Pure.impl_RunSwing Pure.spec_RunSwing_1 Pure.impl_RunSwing_1 Pure.spec_RunSwing_2 Pure.impl_RunSwing_2 Pure.spec_RunSwing_3 Pure.impl_RunSwing_3 Pure.spec_RunSwing_4 Pure.impl_RunSwing_4
  rw [w1, w2, hin]
  cases Pure.spec_l02Both real x0 x1 x2 x3 x4 x5 x6 x7 with
  | false => exact ⟨rfl, rfl, rfl, rfl, rfl, rfl, rfl, rfl, rfl⟩
  | true =>
    cases Pure.spec_l02Tick real x8 with
    | false => exact ⟨rfl, rfl, rfl, rfl, rfl, rfl, rfl, rfl, rfl⟩
    | true =>
      cases hi : Pure.impl_in real x9 0 256 with
      | false => exact ⟨rfl, rfl, rfl, rfl, rfl, rfl, rfl, rfl, rfl⟩
      | true =>
        obtain ⟨r1, r2⟩ := in_iff.1 hi
        obtain ⟨o1, o2, o3⟩ := run_is (x0 := x0) (x1 := x1) (x2 := x2) (x3 := x3) (x4 := x4) (tick := x8) r1 r2 x6 x7 h5
        rw [o1, o2]
        simp only [cond_true, Bool.and_self]
        cases hr : runT x0 x1 x2 x3 x4 x8 x9.toNat x5 x6 x7 with
        | none =>
          rw [hr] at o3
          obtain ⟨p1, p2, p3, p4, p5, p6⟩ := o3
          rw [p1, p2, p3, p4, p5, p6]
          simp only [cond_false, and_self]
        | some l =>
          rw [hr] at o3
          obtain ⟨p1, p2, p3, p4, p5, p6, p7⟩ := o3
          have hl := runT_len _ _ _ _ _ hr
          have ht := turns_loop l (by omega) 0 0 0 l.length 0 (Nat.succ (l.length + 0)) (by omega) (by omega) x5 x6 x7 [] rfl
          change Pure.impl_RunSwing_L0 real (Int.ofNat l.length) 0 0 0 l (Nat.succ (l.length + 0)) 0 x5 x6 x7 [] = _ at ht
          rw [p1, p2, p3, p4, p5, p6, p7]
          simp only [cond_true, ht, List.drop_zero, List.nil_append, and_self]

theorem heads_len (l : List (List Int)) : (heads l).length = l.length := by unfold heads; simp
theorem width_loop (xs : List (List Int)) (hl : xs.length < 1000000) (hx : ∀ r ∈ xs, Fin .f32 (r.getD 0 0)) : ∀ (m i f1 f2 : Nat), i + m = xs.length → m < f1 → m < f2 → ∀ w, Fin .f32 w → 0 ≤ fv .f32 w →
    Pure.spec_l02Width_L0 real xs f1 w i = Pure.impl_width_L0 real xs.length xs f2 w i ∧ (Pure.impl_width_L0 real xs.length xs f2 w i).1 = true := by
  intro m
  induction m with
  | zero =>
    intro i f1 f2 hi h1 h2 w _ _
    obtain ⟨f1, rfl⟩ : ∃ g, f1 = g + 1 := ⟨f1 - 1, by omega⟩
    obtain ⟨f2, rfl⟩ : ∃ g, f2 = g + 1 := ⟨f2 - 1, by omega⟩
    unfold Pure.spec_l02Width_L0 Pure.impl_width_L0
    rw [dec_ge (show xs.length ≤ i by omega), dec_ge' (show xs.length ≤ i by omega)]
    exact ⟨rfl, rfl⟩
  | succ m ih =>
    intro i f1 f2 hi h1 h2 w hw hw0
    obtain ⟨f1, rfl⟩ : ∃ g, f1 = g + 1 := ⟨f1 - 1, by omega⟩
    obtain ⟨f2, rfl⟩ : ∃ g, f2 = g + 1 := ⟨f2 - 1, by omega⟩
    have h : i < xs.length := by omega
    unfold Pure.spec_l02Width_L0 Pure.impl_width_L0
    rw [dec_lt h, dec_lt' h, dec_nn, Int.toNat_natCast, wrap_succ (by omega), getD_some h]
    have hxf : Fin .f32 (xs[i].getD 0 0) := hx _ (List.getElem_mem h)
    generalize xs[i].getD 0 0 = x at *
    obtain ⟨n1, n2⟩ := neg_fin hxf
    obtain ⟨a1, a2⟩ := abs_num hxf.toNum
    rw [cmp_gtr hxf.toNum hw.toNum, cmp_gtr n1.toNum hw.toNum, cmp_gtr n1.toNum hxf.toNum, cmp_gtr a1 hw.toNum, n2, a2]
    simp only [cond_true]
    by_cases c1 : fv .f32 w < fv .f32 x
    · have e : real.abs .f32 x = x := a1.fv_inj hxf.toNum (by rw [a2]; omega) (by rw [a2]; omega)
      rw [e, decide_eq_true c1, decide_eq_false (show ¬ fv .f32 x < -fv .f32 x by omega), decide_eq_true (show fv .f32 w < ((fv .f32 x).natAbs : Int) by omega)]
      exact ih (i + 1) f1 f2 (by omega) (by omega) (by omega) x hxf (by omega)
    · rw [decide_eq_false c1]
      by_cases c2 : fv .f32 w < -fv .f32 x
      · have e : real.abs .f32 x = real.neg .f32 x := a1.fv_inj n1.toNum (by rw [a2, n2]; omega) (by rw [a2]; omega)
        rw [e, decide_eq_true c2, decide_eq_true (show fv .f32 w < ((fv .f32 x).natAbs : Int) by omega)]
        exact ih (i + 1) f1 f2 (by omega) (by omega) (by omega) _ n1 (by rw [n2]; omega)
      · rw [decide_eq_false c2, decide_eq_false (show ¬ fv .f32 w < ((fv .f32 x).natAbs : Int) by omega)]
        exact ih (i + 1) f1 f2 (by omega) (by omega) (by omega) w hw hw0

theorem width_is (xs : List (List Int)) (hl : xs.length < 1000000) (hx : ∀ r ∈ xs, Fin .f32 (r.getD 0 0)) : Pure.spec_l02Width_ok real xs = true ∧ Pure.impl_width_ok real xs = true ∧ Pure.spec_l02Width real xs = Pure.impl_width real xs := by
  obtain ⟨h1, h2⟩ := width_loop xs hl hx xs.length 0 (Nat.succ (xs.length + 0)) (Nat.succ (xs.length + 0)) (by omega) (by omega) (by omega) 0 f32_zero.1 (by rw [f32_zero.2]; omega)
  change Pure.spec_l02Width_L0 real xs (Nat.succ (xs.length + 0)) 0 0 = Pure.impl_width_L0 real (Int.ofNat xs.length) xs (Nat.succ (xs.length + 0)) 0 0 at h1
  change (Pure.impl_width_L0 real (Int.ofNat xs.length) xs (Nat.succ (xs.length + 0)) 0 0).1 = true at h2
  unfold Pure.spec_l02Width_ok Pure.impl_width_ok Pure.spec_l02Width Pure.impl_width
  rw [h1]
  exact ⟨h2, h2, rfl⟩

theorem heads_fin {l : List (List Int)} (h : ∀ r ∈ l, Fin .f32 (r.getD 0 0) ∧ r = [r.getD 0 0, r.getD 1 0, r.getD 2 0]) : ∀ r ∈ heads l, Fin .f32 (r.getD 0 0) := by
  intro r hr
  unfold heads at hr
  rw [List.mem_map] at hr
  obtain ⟨q, h1, rfl⟩ := hr
  exact (h q h1).1

theorem in_false {a b c : Int} (h : ¬ (b ≤ a ∧ a ≤ c)) : Pure.impl_in real a b c = false := by
  cases hc : Pure.impl_in real a b c with
  | false => rfl
  | true => exact absurd (in_iff.1 hc) h

theorem response_is (x0 x1 x2 x3 x4 x6 x7 x8 x9 x10 : Int) {x5 : Int} (h5 : OkF .f32 x5) : Pure.spec_ResponseOf_ok real x0 x1 x2 x3 x4 x5 x6 x7 x8 x9 x10 = true ∧ Pure.impl_ResponseOf_ok real x0 x1 x2 x3 x4 x5 x6 x7 x8 x9 x10 = true ∧
    Pure.spec_ResponseOf real x0 x1 x2 x3 x4 x5 x6 x7 x8 x9 x10 = Pure.impl_ResponseOf real x0 x1 x2 x3 x4 x5 x6 x7 x8 x9 x10 ∧ Pure.spec_ResponseOf_1 real x0 x1 x2 x3 x4 x5 x6 x7 x8 x9 x10 = Pure.impl_ResponseOf_1 real x0 x1 x2 x3 x4 x5 x6 x7 x8 x9 x10 := by
  have hin : ∀ a b c, Pure.spec_l00In real a b c = Pure.impl_in real a b c := fun _ _ _ => rfl
  unfold Pure.spec_ResponseOf_ok Pure.impl_ResponseOf_ok Pure.spec_ResponseOf Pure.impl_ResponseOf Pure.spec_ResponseOf_1 Pure.impl_ResponseOf_1 Pure.spec_l02Can
  simp only [hin]
  cases h9 : Pure.impl_in real x9 0 256 with
  | false => cases Pure.spec_l02Both real x0 x1 x2 x3 x4 x5 x6 x7 <;> cases Pure.spec_l02Tick real x8 <;> exact ⟨rfl, rfl, rfl, rfl⟩
  | true =>
    obtain ⟨a1, a2⟩ := in_iff.1 h9
    have w1 : IntKind.wrap .i64 (256 - x9) = 256 - x9 := wrap64 (by omega) (by omega)
    rw [w1]
    by_cases h10 : 0 ≤ x10 ∧ x10 ≤ 256 - x9
    · obtain ⟨b1, b2⟩ := h10
      have w2 : IntKind.wrap .i64 (x9 + x10) = x9 + x10 := wrap64 (by omega) (by omega)
      have g1 : Pure.impl_in real x10 0 256 = true := in_iff.2 ⟨b1, by omega⟩
      have g2 : Pure.impl_in real x10 0 (256 - x9) = true := in_iff.2 ⟨b1, b2⟩
      have g3 : Pure.impl_in real (x9 + x10) 0 256 = true := in_iff.2 ⟨by omega, by omega⟩
      have g4 : decide (x9 + x10 ≤ 256) = true := decide_eq_true (by omega)
      obtain ⟨i1, i2, i3, i4, i5, i6, i7, i8⟩ := runSwing_is x0 x1 x2 x3 x4 x6 x7 x8 (x9 + x10) h5
      rw [g3] at i8
      unfold Pure.spec_l02Response_ok Pure.spec_l02Response Pure.spec_l02Response_1
      rw [w2, g1, g2, g4, i2]
      simp only [cond_true]
      cases hc : Pure.spec_l02Both real x0 x1 x2 x3 x4 x5 x6 x7 && Pure.spec_l02Tick real x8 with
      | false =>
        rw [hc] at i8
        rw [i8.1]
        revert hc
        cases Pure.spec_l02Both real x0 x1 x2 x3 x4 x5 x6 x7 <;> cases Pure.spec_l02Tick real x8 <;> intro hc <;> first | exact ⟨rfl, rfl, rfl, rfl⟩ | cases hc
      | true =>
        rw [hc] at i8
        rw [Bool.and_eq_true] at hc
        rw [hc.1, hc.2]
        obtain ⟨o1, _, o3⟩ := run_is (x0 := x0) (x1 := x1) (x2 := x2) (x3 := x3) (x4 := x4) (tick := x8) (n := x9 + x10) (by omega) (by omega) x6 x7 h5
        rw [o1]
        cases hr : runT x0 x1 x2 x3 x4 x8 (x9 + x10).toNat x5 x6 x7 with
        | none =>
          rw [hr] at o3 i8
          rw [o3.1, i8.1]
          exact ⟨rfl, rfl, rfl, rfl⟩
        | some l =>
          rw [hr] at o3 i8
          have hl := runT_len _ _ _ _ _ hr
          have hf := heads_fin (runT_fin _ _ _ _ _ hr)
          have e1 : decide (0 ≤ x9) = true := decide_eq_true a1
          have e2 : decide (x9 ≤ Int.ofNat (heads l).length) = true := decide_eq_true (by rw [heads_len]; show x9 ≤ (l.length : Int); omega)
          have q4 : Pure.impl_RunSwing_4 real x0 x1 x2 x3 x4 x5 x6 x7 x8 (x9 + x10) = heads l := i8.2
          have q3 : Pure.impl_RunSwing_3 real x0 x1 x2 x3 x4 x5 x6 x7 x8 (x9 + x10) = true := i8.1
          rw [o3.1, o3.2.2.2.2.2.1, q3, q4, e1, e2]
          obtain ⟨z1, z2, z3⟩ := width_is (List.take ((heads l).length - x9.toNat) (List.drop x9.toNat (heads l))) (by simp [heads_len]; omega) (fun r hr => hf r (List.mem_of_mem_drop (List.mem_of_mem_take hr)))
          simp only [cond_true]
          exact ⟨z1, z2, z3, trivial⟩
    · have g2 : Pure.impl_in real x10 0 (256 - x9) = false := in_false h10
      rw [g2]
      have key : (bif Pure.impl_in real x10 0 256 then decide (IntKind.wrap .i64 (x9 + x10) ≤ 256) else false) = false := by
        cases hc : Pure.impl_in real x10 0 256 with
        | false => rfl
        | true =>
          obtain ⟨b1, b2⟩ := in_iff.1 hc
          rw [wrap64 (by omega) (by omega)]
          simp only [cond_true]
          exact decide_eq_false (by omega)
      simp only [cond_true, key]
      cases Pure.spec_l02Both real x0 x1 x2 x3 x4 x5 x6 x7 <;> cases Pure.spec_l02Tick real x8 <;> exact ⟨rfl, rfl, rfl, rfl⟩

end Go.Fx
