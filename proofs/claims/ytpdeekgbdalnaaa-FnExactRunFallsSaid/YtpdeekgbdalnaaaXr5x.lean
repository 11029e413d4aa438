import Derived.Test.YtpdeekgbdalnaaaXr5n
import Derived.Test.YtpdeekgbdalnaaaXr5v
namespace Go.Fx

theorem in_iff {a b c : Int} : Pure.impl_in real a b c = true ↔ b ≤ a ∧ a ≤ c := by
  unfold Pure.impl_in
  simp only [Bool.cond_false_right, Bool.and_eq_true, decide_eq_true_eq, ge_iff_le]

theorem fly_is {x0 x1 x2 x3 x4 x5 x6 t : Int} (hb : Pure.impl_fallOk real x0 x1 x2 x3 x4 x5 x6 = true) (h6 : OkF .f32 x6) (ht : OkF .f32 t) :
    Pure.impl_FlyFall_ok real x0 x1 x2 x3 x4 x5 x6 t = true ∧ Pure.impl_FlyFall_3 real x0 x1 x2 x3 x4 x5 x6 t = Pure.spec_l06Fall real (Pure.spec_l06Fly real x0 x1 x2 x3 x4 x5 x6 t) (Pure.spec_l06Fly_1 real x0 x1 x2 x3 x4 x5 x6 t) (Pure.spec_l06Fly_2 real x0 x1 x2 x3 x4 x5 x6 t) ∧
    (Pure.impl_FlyFall_3 real x0 x1 x2 x3 x4 x5 x6 t = true → Pure.impl_FlyFall real x0 x1 x2 x3 x4 x5 x6 t = Pure.spec_l06Fly real x0 x1 x2 x3 x4 x5 x6 t ∧ Pure.impl_FlyFall_1 real x0 x1 x2 x3 x4 x5 x6 t = Pure.spec_l06Fly_1 real x0 x1 x2 x3 x4 x5 x6 t ∧ Pure.impl_FlyFall_2 real x0 x1 x2 x3 x4 x5 x6 t = Pure.spec_l06Fly_2 real x0 x1 x2 x3 x4 x5 x6 t) := by
  obtain ⟨_, b2⟩ := both_is x0 x1 x2 x3 x4 x5 x6
  unfold Pure.impl_FlyFall_ok Pure.impl_FlyFall_3 Pure.impl_FlyFall Pure.impl_FlyFall_1 Pure.impl_FlyFall_2
  simp only [half_quo]
  rw [hb, b2]
  have e0 : real.bin .sub .f32 (real.bin .add .f32 x4 (real.bin .mul .f32 t x5)) (real.bin .mul .f32 (real.bin .mul .f32 (real.bin .mul .f32 1056964608 x3) t) t) = Pure.spec_l06Fly real x0 x1 x2 x3 x4 x5 x6 t := rfl
  have e1 : real.bin .sub .f32 x5 (real.bin .mul .f32 x3 t) = Pure.spec_l06Fly_1 real x0 x1 x2 x3 x4 x5 x6 t := rfl
  have e2 : real.bin .add .f32 x6 t = Pure.spec_l06Fly_2 real x0 x1 x2 x3 x4 x5 x6 t := rfl
  rw [e0, e1, e2]
  obtain ⟨g1, g2⟩ := fall_is (Pure.spec_l06Fly real x0 x1 x2 x3 x4 x5 x6 t) (Pure.spec_l06Fly_1 real x0 x1 x2 x3 x4 x5 x6 t) (Pure.spec_l06Fly_2 real x0 x1 x2 x3 x4 x5 x6 t)
  rw [g2, ← g1]
  cases hf : Pure.impl_IsFinite real t with
  | true =>
    simp only [cond_true]
    refine ⟨trivial, trivial, fun h => ?_⟩
    rw [h]; exact ⟨rfl, rfl, rfl⟩
  | false =>
    have : Pure.spec_l06Fall real (Pure.spec_l06Fly real x0 x1 x2 x3 x4 x5 x6 t) (Pure.spec_l06Fly_1 real x0 x1 x2 x3 x4 x5 x6 t) (Pure.spec_l06Fly_2 real x0 x1 x2 x3 x4 x5 x6 t) = false := by
      have h2 : Pure.impl_IsFinite real (Pure.spec_l06Fly_2 real x0 x1 x2 x3 x4 x5 x6 t) = false := isFinite_false (bin_ok _ _ _ _) fun h => by
        have := (fin_add h6 ht h).2
        rw [isFin this] at hf; cases hf
      unfold Pure.spec_l06Fall
      rw [fin_is, fin_is, fin_is, h2]
      cases Pure.impl_IsFinite real (Pure.spec_l06Fly real x0 x1 x2 x3 x4 x5 x6 t) <;> cases Pure.impl_IsFinite real (Pure.spec_l06Fly_1 real x0 x1 x2 x3 x4 x5 x6 t) <;> rfl
    rw [this]
    exact ⟨rfl, rfl, fun h => by cases h⟩

theorem fall_parts {a b c : Int} (h : Pure.spec_l06Fall real a b c = true) : Pure.impl_IsFinite real a = true ∧ Pure.impl_IsFinite real b = true ∧ Pure.impl_IsFinite real c = true := by
  unfold Pure.spec_l06Fall at h
  simp only [Bool.cond_false_right, Bool.and_eq_true, fin_is] at h
  exact h

theorem under_is {x0 x1 x2 x3 x4 x5 x6 t : Int} (hb : Pure.impl_fallOk real x0 x1 x2 x3 x4 x5 x6 = true) (h6 : OkF .f32 x6) (ht : OkF .f32 t) :
    Pure.impl_under_ok real x0 x1 x2 x3 x4 x5 x6 t = true ∧ Pure.spec_l06Under_ok real x0 x1 x2 x3 x4 x5 x6 t = true ∧ Pure.impl_under_1 real x0 x1 x2 x3 x4 x5 x6 t = Pure.spec_l06Under_1 real x0 x1 x2 x3 x4 x5 x6 t ∧
    (Pure.spec_l06Under_1 real x0 x1 x2 x3 x4 x5 x6 t = true → Pure.impl_under real x0 x1 x2 x3 x4 x5 x6 t = Pure.spec_l06Under real x0 x1 x2 x3 x4 x5 x6 t) := by
  obtain ⟨f1, f2, f3⟩ := fly_is hb h6 ht
  obtain ⟨a1, a2, _, _⟩ := tableAt_is x0 x1 x2 x3 (Pure.impl_FlyFall_2 real x0 x1 x2 x3 x4 x5 x6 t)
  obtain ⟨p1, _, _, _⟩ := both_parts hb
  obtain ⟨s1, s2, s3, _⟩ := sine_is (bin_ok .mul .f32 x1 (Pure.spec_l06Fly_2 real x0 x1 x2 x3 x4 x5 x6 t))
  unfold Pure.impl_under_ok Pure.spec_l06Under_ok Pure.impl_under_1 Pure.spec_l06Under_1 Pure.impl_under Pure.spec_l06Under Pure.spec_l06High_ok
  rw [f1, a2, s2]
  refine ⟨rfl, rfl, ?_, ?_⟩
  · cases hf : Pure.impl_FlyFall_3 real x0 x1 x2 x3 x4 x5 x6 t with
    | false => rw [hf] at f2; rw [← f2]; rfl
    | true =>
      rw [hf] at f2
      obtain ⟨_, _, e3⟩ := f3 hf
      obtain ⟨_, _, q3⟩ := fall_parts f2.symm
      rw [← f2, e3]
      unfold Pure.impl_TableAt_1 Pure.spec_l06High
      rw [p1, q3, s3, fin_is]
      rfl
  · intro h
    cases hf : Pure.impl_FlyFall_3 real x0 x1 x2 x3 x4 x5 x6 t with
    | false => rw [hf] at f2; rw [← f2] at h; cases h
    | true =>
      rw [hf] at f2
      obtain ⟨e1, _, e3⟩ := f3 hf
      obtain ⟨_, _, q3⟩ := fall_parts f2.symm
      rw [← f2] at h
      simp only [cond_true] at h
      unfold Pure.spec_l06High at h ⊢
      rw [s3] at h ⊢
      rw [e1, e3]
      unfold Pure.impl_TableAt Pure.impl_toldNumber
      rw [fin_is] at h
      rw [p1, q3, h]
      rfl

/-! ### halving -/
theorem halve_is {x0 x1 x2 x3 x4 x5 x6 : Int} (hb : Pure.impl_fallOk real x0 x1 x2 x3 x4 x5 x6 = true) (h6 : OkF .f32 x6) : ∀ (fuel : Nat) (lo hi i : Int), Pure.spec_l06Hit_L2 real x0 x1 x2 x3 x4 x5 x6 fuel hi lo i = Pure.impl_NextHit_L2 real x0 x1 x2 x3 x4 x5 x6 fuel lo hi i := by
  intro fuel
  induction fuel with
  | zero => intro lo hi i; rfl
  | succ n ih =>
    intro lo hi i
    unfold Pure.spec_l06Hit_L2 Pure.impl_NextHit_L2
    rw [half_quo]
    obtain ⟨u1, u2, u3, u4⟩ := under_is (t := real.bin .mul .f32 1056964608 (real.bin .add .f32 lo hi)) hb h6 (bin_ok _ _ _ _)
    rw [u1, u2, u3]
    cases hu : Pure.spec_l06Under_1 real x0 x1 x2 x3 x4 x5 x6 (real.bin .mul .f32 1056964608 (real.bin .add .f32 lo hi)) with
    | false => rfl
    | true =>
      rw [u4 hu, ih, ih]

theorem halve_ends {x0 x1 x2 x3 x4 x5 x6 : Int} (hb : Pure.impl_fallOk real x0 x1 x2 x3 x4 x5 x6 = true) (h6 : OkF .f32 x6) : ∀ (m fuel : Nat) (lo hi : Int) (i : Nat), i + m = 20 → m < fuel → (Pure.impl_NextHit_L2 real x0 x1 x2 x3 x4 x5 x6 fuel lo hi i).1 = true := by
  intro m
  induction m with
  | zero =>
    intro fuel lo hi i hi0 hf
    match fuel, hf with
    | fuel + 1, _ =>
      unfold Pure.impl_NextHit_L2
      have e1 : decide ((i : Int) < 20) = false := by simp; omega
      rw [e1]; rfl
  | succ m ih =>
    intro fuel lo hi i hi0 hf
    match fuel, hf with
    | fuel + 1, hf =>
      unfold Pure.impl_NextHit_L2
      have e1 : decide ((i : Int) < 20) = true := by simp; omega
      rw [half_quo]
      obtain ⟨u1, u2, u3, u4⟩ := under_is (t := real.bin .mul .f32 1056964608 (real.bin .add .f32 lo hi)) hb h6 (bin_ok _ _ _ _)
      rw [e1, u1, wrap_succ (by omega)]
      have r1 := fun lo hi => ih fuel lo hi (i + 1) (by omega) (by omega)
      cases Pure.impl_under_1 real x0 x1 x2 x3 x4 x5 x6 (real.bin .mul .f32 1056964608 (real.bin .add .f32 lo hi)) with
      | false => rfl
      | true =>
        cases Pure.impl_under real x0 x1 x2 x3 x4 x5 x6 (real.bin .mul .f32 1056964608 (real.bin .add .f32 lo hi)) with
        | false => exact r1 _ _
        | true => exact r1 _ _

/-- What a search comes to. -/
def Hit (x0 x1 x2 x3 x4 x5 x6 tick : Int) (N : Nat) (s : Bool × Bool × Int × Bool) (p : Bool × Bool × Int × Bool × Int × Bool) : Prop :=
  (s = (true, true, 0, false) ∧ p.1 = true ∧ p.2.1 = true) ∨
  (∃ k : Nat, 1 ≤ k ∧ k ≤ N ∧ p.1 = true ∧ p.2.1 = false ∧ p.2.2.1 = k ∧ p.2.2.2.1 = true ∧
    s = (true, true, (bif (Pure.impl_NextHit_L2 real x0 x1 x2 x3 x4 x5 x6 21 (real.bin .mul .f32 (real.ofInt .f32 ((k : Int) - 1)) tick) (real.bin .mul .f32 (real.ofInt .f32 k) tick) 0).2.1 then 0 else (Pure.impl_NextHit_L2 real x0 x1 x2 x3 x4 x5 x6 21 (real.bin .mul .f32 (real.ofInt .f32 ((k : Int) - 1)) tick) (real.bin .mul .f32 (real.ofInt .f32 k) tick) 0).2.2.1), !(Pure.impl_NextHit_L2 real x0 x1 x2 x3 x4 x5 x6 21 (real.bin .mul .f32 (real.ofInt .f32 ((k : Int) - 1)) tick) (real.bin .mul .f32 (real.ofInt .f32 k) tick) 0).2.1)) ∨
  (s = (true, false, 0, false) ∧ p.1 = true ∧ p.2.1 = false ∧ p.2.2.2.1 = false)

theorem hit_loops {x0 x1 x2 x3 x4 x5 x6 tick : Int} (hb : Pure.impl_fallOk real x0 x1 x2 x3 x4 x5 x6 = true) (h6 : OkF .f32 x6) (N : Nat) (hN : N < 1000000) : ∀ (m j f1 f2 : Nat), j + m = N → m < f1 → m < f2 →
    Hit x0 x1 x2 x3 x4 x5 x6 tick N (Pure.spec_l06Hit_L0 real tick N x0 x1 x2 x3 x4 x5 x6 f1 ((j + 1 : Nat) : Int)) (Pure.impl_NextHit_L0 real tick N x0 x1 x2 x3 x4 x5 x6 f2 j false) := by
  intro m
  induction m with
  | zero =>
    intro j f1 f2 hj h1 h2
    match f1, f2, h1, h2 with
    | f1 + 1, f2 + 1, _, _ =>
      refine .inr (.inr ?_)
      unfold Pure.spec_l06Hit_L0 Pure.impl_NextHit_L0
      have e1 : decide (((j + 1 : Nat) : Int) ≤ (N : Int)) = false := by simp; omega
      rw [e1, dec_ge' (show N ≤ j by omega)]
      exact ⟨rfl, rfl, rfl, rfl⟩
  | succ m ih =>
    intro j f1 f2 hj h1 h2
    match f1, f2, h1, h2 with
    | f1 + 1, f2 + 1, h1, h2 =>
      unfold Pure.spec_l06Hit_L0 Pure.impl_NextHit_L0
      have e1 : decide (((j + 1 : Nat) : Int) ≤ (N : Int)) = true := by simp; omega
      rw [e1, dec_lt' (show j < N by omega), wrap_succ (show j < 4611686018427387904 by omega)]
      obtain ⟨u1, u2, u3, u4⟩ := under_is (t := real.bin .mul .f32 (real.ofInt .f32 ((j + 1 : Nat) : Int)) tick) hb h6 (bin_ok _ _ _ _)
      rw [u1, u2, u3]
      simp only [cond_true, cond_false]
      cases hu : Pure.spec_l06Under_1 real x0 x1 x2 x3 x4 x5 x6 (real.bin .mul .f32 (real.ofInt .f32 ((j + 1 : Nat) : Int)) tick) with
      | false => exact .inl ⟨rfl, rfl, rfl⟩
      | true =>
        rw [u4 hu]
        simp only [cond_true]
        cases hh : Pure.spec_l06Under real x0 x1 x2 x3 x4 x5 x6 (real.bin .mul .f32 (real.ofInt .f32 ((j + 1 : Nat) : Int)) tick) with
        | false =>
          simp only [cond_false]
          rw [wrap_succ (show j + 1 < 4611686018427387904 by omega)]
          exact ih (j + 1) f1 f2 (by omega) (by omega) (by omega)
        | true =>
          refine .inr (.inl ⟨j + 1, by omega, by omega, ?_⟩)
          simp only [cond_true]
          have hend := halve_ends hb h6 20 21 (real.bin .mul .f32 (real.ofInt .f32 (((j + 1 : Nat) : Int) - 1)) tick) (real.bin .mul .f32 (real.ofInt .f32 ((j + 1 : Nat) : Int)) tick) 0 (by omega) (by omega)
          rw [wrap64 (n := ((j + 1 : Nat) : Int) - 1) (by omega) (by omega), halve_is hb h6]
          have hend' : (Pure.impl_NextHit_L2 real x0 x1 x2 x3 x4 x5 x6 21 (real.bin .mul .f32 (real.ofInt .f32 (((j + 1 : Nat) : Int) - 1)) tick) (real.bin .mul .f32 (real.ofInt .f32 ((j + 1 : Nat) : Int)) tick) 0).1 = true := hend
          rw [hend']
          have hp : ∀ (q : Bool × Bool × Int × Bool × Int × Bool), q = (true, false, ((j + 1 : Nat) : Int), true, 0, false) → q.1 = true ∧ q.2.1 = false ∧ q.2.2.1 = ((j + 1 : Nat) : Int) ∧ q.2.2.2.1 = true := fun q hq => by rw [hq]; exact ⟨rfl, rfl, rfl, rfl⟩
          have hq : Pure.impl_NextHit_L0 real tick N x0 x1 x2 x3 x4 x5 x6 f2 ((j + 1 : Nat) : Int) true = (true, false, ((j + 1 : Nat) : Int), true, 0, false) := by
            match f2, h2 with
            | f2 + 1, _ =>
              unfold Pure.impl_NextHit_L0
              cases decide (((j + 1 : Nat) : Int) < (N : Int)) <;> rfl
          obtain ⟨p1, p2, p3, p4⟩ := hp _ hq
          refine ⟨p1, p2, p3, p4, ?_⟩
          generalize Pure.impl_NextHit_L2 real x0 x1 x2 x3 x4 x5 x6 21 (real.bin .mul .f32 (real.ofInt .f32 (((j + 1 : Nat) : Int) - 1)) tick) (real.bin .mul .f32 (real.ofInt .f32 ((j + 1 : Nat) : Int)) tick) 0 = r
          cases r.2.1 <;> rfl

end Go.Fx
