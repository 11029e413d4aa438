import Derived.Test.YtpdeekgbdalnaaaXr5p
import Derived.Test.YtpdeekgbdalnaaaXr5h
namespace Go.Fx
def Rises (xs : List (List Int)) (l : List (List Int)) : Prop := ∀ r ∈ l, ∃ j : Nat, 1 ≤ j ∧ j < xs.length ∧ r = [(j : Int)]

theorem rises_loop (xs : List (List Int)) (hl : xs.length < 1000000) : ∀ (m i f1 f2 : Nat), xs.length ≤ i + m → 1 ≤ i → i ≤ 1000000 → m < f1 → m < f2 → ∀ acc : List (List Int), acc.length ≤ i → Rises xs acc →
    Pure.spec_l02Rises_L0 real xs f1 i acc = Pure.impl_rises_L0 real xs f2 i acc ∧ (Pure.impl_rises_L0 real xs f2 i acc).1 = true ∧ Rises xs (Pure.impl_rises_L0 real xs f2 i acc).2 := by
  have stop : ∀ (i f1 f2 : Nat) (acc : List (List Int)), xs.length ≤ i → 0 < f1 → 0 < f2 → Rises xs acc →
      Pure.spec_l02Rises_L0 real xs f1 i acc = Pure.impl_rises_L0 real xs f2 i acc ∧ (Pure.impl_rises_L0 real xs f2 i acc).1 = true ∧ Rises xs (Pure.impl_rises_L0 real xs f2 i acc).2 := by
    intro i f1 f2 acc h h1 h2 ha
    obtain ⟨f1, rfl⟩ : ∃ g, f1 = g + 1 := ⟨f1 - 1, by omega⟩
    obtain ⟨f2, rfl⟩ : ∃ g, f2 = g + 1 := ⟨f2 - 1, by omega⟩
    unfold Pure.spec_l02Rises_L0 Pure.impl_rises_L0
    rw [dec_ge h]
    exact ⟨rfl, rfl, ha⟩
  intro m
  induction m with
  | zero => intro i f1 f2 h _ _ h1 h2 acc _ ha; exact stop i f1 f2 acc h h1 h2 ha
  | succ m ih =>
    intro i f1 f2 h hi hi2 h1 h2 acc hacc ha
    rcases Nat.lt_or_ge i xs.length with hlt | hge
    · obtain ⟨f1, rfl⟩ : ∃ g, f1 = g + 1 := ⟨f1 - 1, by omega⟩
      obtain ⟨f2, rfl⟩ : ∃ g, f2 = g + 1 := ⟨f2 - 1, by omega⟩
      have hp : i - 1 < xs.length := by omega
      have w : IntKind.wrap .i64 ((i : Int) - 1) = ((i - 1 : Nat) : Int) := by rw [wrap64 (by omega) (by omega)]; omega
      have e1 : decide (Nat.succ acc.length ≤ 1073741824) = true := by simp; omega
      unfold Pure.spec_l02Rises_L0 Pure.impl_rises_L0
      rw [w, dec_lt hlt, dec_lt hp, dec_nn, dec_nn, e1, Int.toNat_natCast, Int.toNat_natCast, wrap_succ (by omega)]
      simp only [cond_true]
      have go := ih (i + 1) f1 f2 (by omega) (by omega) (by omega) (by omega) (by omega) acc (by omega) ha
      have go2 := ih (i + 1) f1 f2 (by omega) (by omega) (by omega) (by omega) (by omega) (acc ++ [[(i : Int)]]) (by simp; omega) (fun r hr => by
        rcases List.mem_append.1 hr with hr | hr
        · exact ha r hr
        · rw [List.mem_singleton] at hr; exact ⟨i, hi, hlt, hr⟩)
      cases real.cmp .lss .f32 ((xs.getD (i - 1) []).getD 0 0) 0 <;> cases real.cmp .geq .f32 ((xs.getD i []).getD 0 0) 0
      · exact go
      · exact go
      · exact go
      · exact go2
    · exact stop i f1 f2 acc hge (by omega) (by omega) ha

theorem rises_is (xs : List (List Int)) (hl : xs.length < 1000000) : Pure.spec_l02Rises_ok real xs = true ∧ Pure.impl_rises_ok real xs = true ∧ Pure.spec_l02Rises real xs = Pure.impl_rises real xs ∧ Rises xs (Pure.impl_rises real xs) := by
  have hf : (((xs.length : Int) - 1) + 2).toNat = xs.length + 1 := by omega
  obtain ⟨h1, h2, h3⟩ := rises_loop xs hl xs.length 1 (((xs.length : Int) - 1) + 2).toNat (((xs.length : Int) - 1) + 2).toNat (by omega) (by omega) (by omega) (by omega) (by omega) [] (by simp) (fun r hr => by cases hr)
  unfold Pure.spec_l02Rises_ok Pure.impl_rises_ok Pure.spec_l02Rises Pure.impl_rises
  change Pure.spec_l02Rises_L0 real xs (Int.toNat (((Int.ofNat xs.length) - 1) + 2)) 1 [] = Pure.impl_rises_L0 real xs (Int.toNat (((Int.ofNat xs.length) - 1) + 2)) 1 [] at h1
  change (Pure.impl_rises_L0 real xs (Int.toNat (((Int.ofNat xs.length) - 1) + 2)) 1 []).1 = true at h2
  rw [h1]
  exact ⟨h2, h2, rfl, h3⟩

theorem rise_ok (xs : List (List Int)) (hl : xs.length < 1000000) {j : Nat} (h1 : 1 ≤ j) (h2 : j < xs.length) (t : Int) : Pure.spec_l02Rise_ok real xs j t = true ∧ Pure.impl_PeriodOfRun_c1_ok real j xs t = true := by
  have w : IntKind.wrap .i64 ((j : Int) - 1) = ((j - 1 : Nat) : Int) := by rw [wrap64 (by omega) (by omega)]; omega
  unfold Pure.spec_l02Rise_ok Pure.impl_PeriodOfRun_c1_ok
  rw [w, dec_nn, dec_nn, dec_lt h2, dec_lt (show j - 1 < xs.length by omega)]
  exact ⟨rfl, rfl⟩

theorem run_len (x0 x1 x2 x3 x4 x6 x7 x8 x9 : Int) {x5 : Int} (h5 : OkF .f32 x5) : (Pure.impl_RunSwing_4 real x0 x1 x2 x3 x4 x5 x6 x7 x8 x9).length < 1000000 := by
  obtain ⟨_, _, _, _, _, _, _, i8⟩ := runSwing_is x0 x1 x2 x3 x4 x6 x7 x8 x9 h5
  cases hr : (bif (Pure.spec_l02Both real x0 x1 x2 x3 x4 x5 x6 x7 && Pure.spec_l02Tick real x8) && Pure.impl_in real x9 0 256 then runT x0 x1 x2 x3 x4 x8 x9.toNat x5 x6 x7 else none) with
  | none =>
    rw [hr] at i8
    rw [i8.2]; simp
  | some l =>
    rw [hr] at i8
    rw [i8.2, heads_len]
    cases hc : (Pure.spec_l02Both real x0 x1 x2 x3 x4 x5 x6 x7 && Pure.spec_l02Tick real x8) && Pure.impl_in real x9 0 256 with
    | false => rw [hc] at hr; cases hr
    | true =>
      rw [hc] at hr
      have h1 := runT_len _ _ _ _ _ hr
      simp only [Bool.and_eq_true] at hc
      obtain ⟨r1, r2⟩ := in_iff.1 hc.2
      omega

theorem period_is (x0 x1 x2 x3 x4 x6 x7 x8 x9 : Int) {x5 : Int} (h5 : OkF .f32 x5) : Pure.spec_PeriodOfRun_ok real x0 x1 x2 x3 x4 x5 x6 x7 x8 x9 = true ∧ Pure.impl_PeriodOfRun_ok real x0 x1 x2 x3 x4 x5 x6 x7 x8 x9 = true ∧
    Pure.spec_PeriodOfRun real x0 x1 x2 x3 x4 x5 x6 x7 x8 x9 = Pure.impl_PeriodOfRun real x0 x1 x2 x3 x4 x5 x6 x7 x8 x9 ∧ Pure.spec_PeriodOfRun_1 real x0 x1 x2 x3 x4 x5 x6 x7 x8 x9 = Pure.impl_PeriodOfRun_1 real x0 x1 x2 x3 x4 x5 x6 x7 x8 x9 := by
  obtain ⟨i1, i2, _, _, _, i6, i7, _⟩ := runSwing_is x0 x1 x2 x3 x4 x6 x7 x8 x9 h5
  have hl := run_len x0 x1 x2 x3 x4 x6 x7 x8 x9 h5
  unfold Pure.spec_PeriodOfRun_ok Pure.impl_PeriodOfRun_ok Pure.spec_PeriodOfRun Pure.impl_PeriodOfRun Pure.spec_PeriodOfRun_1 Pure.impl_PeriodOfRun_1
  rw [i1, i2, i6, i7]
  generalize Pure.impl_RunSwing_4 real x0 x1 x2 x3 x4 x5 x6 x7 x8 x9 = xs at *
  obtain ⟨r1, r2, r3, r4⟩ := rises_is xs hl
  rw [r1, r2, r3]
  generalize Pure.impl_rises real xs = rs at *
  cases Pure.impl_RunSwing_3 real x0 x1 x2 x3 x4 x5 x6 x7 x8 x9 with
  | false => exact ⟨rfl, rfl, rfl, rfl⟩
  | true =>
    by_cases h2 : rs.length < 2
    · have e : decide (Int.ofNat rs.length < 2) = true := decide_eq_true (by show (rs.length : Int) < 2; omega)
      rw [e]
      exact ⟨rfl, rfl, rfl, rfl⟩
    · have e : decide (Int.ofNat rs.length < 2) = false := decide_eq_false (by show ¬ (rs.length : Int) < 2; omega)
      have e0 : decide (0 < Int.ofNat rs.length) = true := decide_eq_true (by show 0 < (rs.length : Int); omega)
      have e1 : decide (1 < Int.ofNat rs.length) = true := decide_eq_true (by show 1 < (rs.length : Int); omega)
      have g0 : rs.getD 0 [] = rs[0] := getD_some (by omega)
      have g1 : rs.getD 1 [] = rs[1] := getD_some (by omega)
      obtain ⟨a, a1, a2, a3⟩ := r4 rs[0] (List.getElem_mem _)
      obtain ⟨b, b1, b2, b3⟩ := r4 rs[1] (List.getElem_mem _)
      rw [e, e0, e1, g0, g1, a3, b3]
      have z : ∀ q : Nat, List.getD [(q : Int)] 0 0 = q := fun _ => rfl
      rw [z, z, (rise_ok xs hl a1 a2 x8).1, (rise_ok xs hl a1 a2 x8).2, (rise_ok xs hl b1 b2 x8).1, (rise_ok xs hl b1 b2 x8).2]
      exact ⟨rfl, rfl, rfl, rfl⟩

theorem law_FnExactPeriodOfRun (x0 x1 x2 x3 x4 x5 x6 x7 x8 x9 : Int) (_ : OkF .f32 x0) (_ : OkF .f32 x1) (_ : OkF .f32 x2) (_ : OkF .f32 x3) (_ : OkF .f32 x4) (h5 : OkF .f32 x5) (_ : OkF .f32 x6) (_ : OkF .f32 x7) (_ : OkF .f32 x8) (_ : IntKind.i64.has x9) :
    Pure.laws_FnExactPeriodOfRun_ok real x0 x1 x2 x3 x4 x5 x6 x7 x8 x9 = true ∧ Pure.laws_FnExactPeriodOfRun real x0 x1 x2 x3 x4 x5 x6 x7 x8 x9 = true := by
  obtain ⟨i1, i2, i3, i4⟩ := period_is x0 x1 x2 x3 x4 x6 x7 x8 x9 h5
  unfold Pure.laws_FnExactPeriodOfRun_ok Pure.laws_FnExactPeriodOfRun
  rw [i1, i2, i3, i4, convOk_up, sameFloat_refl]
  simp
end Go.Fx
