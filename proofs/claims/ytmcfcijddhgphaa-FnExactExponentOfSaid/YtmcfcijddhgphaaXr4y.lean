import Derived.Test.YtmcfcijddhgphaaXr4x
import Derived.Test.YtmcfcijddhgphaaXr4l
namespace Go.Fx
open Ieee
theorem conv_down_ok (y : Int) : OkF .f32 (real.conv .f64 .f32 y) := by
  show OkF .f32 (rConv .f64 .f32 y)
  unfold rConv FloatKind.decode
  rw [if_neg (by decide)]
  have hn : OkF .f32 (nanOf .f32 : Nat) := ⟨nanOf .f32, by rw [cf_of_nan (isNaNb_nanOf .f32)], by show _ < _; decide⟩
  cases hr : FloatKind.f64.format.read y.toNat with
  | nan s t => exact hn
  | infinity s =>
    have : Num .f32 ((FloatKind.f32.format.word s FloatKind.f32.format.infRung : Nat) : Int) := word_num (Nat.le_refl _)
    exact this.okF
  | number s m e =>
    have : Num .f32 ((FloatKind.f32.format.nearest s m e : Nat) : Int) := by rw [nearest_rung]; exact word_num (rung_le_inf _ _ _)
    exact this.okF

theorem root_is (x : Int) (h : OkF .f32 x) : Pure.spec_l01Sqrt real x = Pure.impl_RootNumber real x ∧ Pure.spec_l01Sqrt_ok real x = true ∧ Pure.impl_RootNumber_ok real x = true ∧ OkF .f32 (Pure.impl_RootNumber real x) := by
  have hr := root_ok h
  unfold Pure.spec_l01Sqrt Pure.impl_RootNumber Pure.spec_l01Sqrt_ok Pure.impl_RootNumber_ok Pure.spec_l01Narrow Pure.spec_l01Narrow_ok
  rw [convOk_up, hr]
  exact ⟨rfl, rfl, rfl, conv_down_ok _⟩

theorem log_small {x : Int} (hf : Fin .f32 x) (hx0 : 0 < fv .f32 x) : Le .f32 97 (Pure.impl_LogNumber real x) := by
  obtain ⟨_, _, _, h⟩ := log_pos hf hx0
  unfold Pure.impl_LogNumber
  exact (Le.down h (by omega)).1

theorem sum_small {s l : Int} {i : Nat} (hs : Fin .f32 s) (hb : (fv .f32 s).natAbs ≤ i * 2 ^ 246) (hl : Le .f32 97 l) (hi : i ≤ 1000) : Fin .f32 (real.bin .add .f32 s l) ∧ (fv .f32 (real.bin .add .f32 s l)).natAbs ≤ (i + 1) * 2 ^ 246 := by
  have hr := add_rounds hs hl.1
  have hl2 := hl.2
  have e : 2 ^ 97 * unit .f32 = 2 ^ 246 := by rw [unit32, pw_eq 97 149 246 rfl]
  rw [e] at hl2
  have hbin : FloatKind.f32.format.binade = 8388608 := by decide
  have hbig : (i + 1) * 2 ^ 246 < big .f32 := by
    rw [big32]
    have h1 : (i + 1) * 2 ^ 246 ≤ 2 ^ 10 * 2 ^ 246 := Nat.mul_le_mul_right _ (by omega)
    have h2 : 2 ^ 10 * 2 ^ 246 = 2 ^ 256 := pw_eq 10 246 256 rfl
    have h3 := pw_lt 256 277 (by omega)
    omega
  have hh : Has .f32 (sg false ((i + 1) * 2 ^ 246)) := Has.digits (k := .f32) false (m := i + 1) (d := 246) (by omega) hbig
  have hh2 : Has .f32 (((i + 1) * 2 ^ 246 : Nat) : Int) := hh
  generalize hB : 2 ^ 246 = B at *
  have e3 : (i + 1) * B = i * B + B := by rw [Nat.add_mul, Nat.one_mul]
  rw [e3] at hh2 ⊢
  obtain ⟨w1, w2, w3⟩ := hr.within hh2.neg hh2 (by omega) (by omega)
  exact ⟨w1, by omega⟩

theorem length_is (x : Int) : Pure.impl_lengthOk real x = (real.cmp .gtr .f32 x 0 && Pure.spec_l01Finite real x) := by
  have e : Pure.spec_l01Finite real x = Pure.impl_IsFinite real x := rfl
  unfold Pure.impl_lengthOk
  rw [e]
  cases Pure.impl_IsFinite real x <;> cases real.cmp .gtr .f32 x 0 <;> rfl

theorem expof_loop {s : Int} (hs : Le .f32 2 s) (N : Nat) (hN : N ≤ 128) (xs : List (List Int)) (hx : xs.length = N + 1) (d : Int) : ∀ (n i f1 f2 : Nat) (t k u v a : Int), i + n = N → n < f1 → n < f2 → xs.drop i = [t, k] :: orb s n t k → Turn t → Le .f32 0 k → Fin .f32 a → (fv .f32 a).natAbs ≤ i * 2 ^ 246 →
    Pure.spec_ExponentOf_L0 real s N xs f1 u v a i = Pure.impl_ExponentOf_L0 real s d N f2 u v a i t k ∧ (Pure.impl_ExponentOf_L0 real s d N f2 u v a i t k).1 = true ∧
    ((Pure.impl_ExponentOf_L0 real s d N f2 u v a i t k).2.1 = false → Fin .f32 (Pure.impl_ExponentOf_L0 real s d N f2 u v a i t k).2.2.1 ∧ (fv .f32 (Pure.impl_ExponentOf_L0 real s d N f2 u v a i t k).2.2.1).natAbs ≤ N * 2 ^ 246) := by
  intro n
  induction n with
  | zero =>
    intro i f1 f2 t k u v a hi h1 h2 hd ht hk ha hb
    obtain ⟨f1, rfl⟩ : ∃ g, f1 = g + 1 := ⟨f1 - 1, by omega⟩
    obtain ⟨f2, rfl⟩ : ∃ g, f2 = g + 1 := ⟨f2 - 1, by omega⟩
    unfold Pure.spec_ExponentOf_L0 Pure.impl_ExponentOf_L0
    rw [dec_ge' (show N ≤ i by omega)]
    have e : i = N := by omega
    subst e
    exact ⟨rfl, rfl, fun _ => ⟨ha, hb⟩⟩
  | succ n ih =>
    intro i f1 f2 t k u v a hi h1 h2 hd ht hk ha hb
    obtain ⟨f1, rfl⟩ : ∃ g, f1 = g + 1 := ⟨f1 - 1, by omega⟩
    obtain ⟨f2, rfl⟩ : ∃ g, f2 = g + 1 := ⟨f2 - 1, by omega⟩
    have h : i < xs.length := by omega
    have hrow : xs.getD i [] = [t, k] := by
      rw [getD_some h]
      have := List.drop_eq_getElem_cons h
      rw [hd] at this
      exact (List.cons.inj this).1.symm
    have hnext : xs.drop (i + 1) = orb s (n + 1) t k := by
      have := List.drop_eq_getElem_cons h
      rw [hd] at this
      exact (List.cons.inj this).2.symm
    obtain ⟨q1, q2, q3, _, _⟩ := slopes_is (k := k) ht hs
    obtain ⟨_, d2, _, _, d5, d6⟩ := map_is ht hk hs
    unfold Pure.spec_ExponentOf_L0 Pure.impl_ExponentOf_L0
    rw [dec_lt h, dec_lt' (show i < N by omega), dec_nn, Int.toNat_natCast, hrow, wrap_succ (by omega)]
    have g0 : List.getD [t, k] 0 0 = t := rfl
    have g1 : List.getD [t, k] 1 0 = k := rfl
    have z0 : ∀ b c e f : Int, List.getD (List.getD [[b], [c], [e], [f]] 0 []) 0 0 = b := fun _ _ _ _ => rfl
    have z1 : ∀ b c e f : Int, List.getD (List.getD [[b], [c], [e], [f]] 1 []) 0 0 = c := fun _ _ _ _ => rfl
    have z2 : ∀ b c e f : Int, List.getD (List.getD [[b], [c], [e], [f]] 2 []) 0 0 = e := fun _ _ _ _ => rfl
    have z3 : ∀ b c e f : Int, List.getD (List.getD [[b], [c], [e], [f]] 3 []) 0 0 = f := fun _ _ _ _ => rfl
    have y0 : ∀ b : Int, List.getD [b] 0 0 = b := fun _ => rfl
    have l4 : ∀ b c e f : Int, Int.ofNat (List.length [[b], [c], [e], [f]]) = 4 := fun _ _ _ _ => rfl
    simp only [g0, g1, q1, q2, q3, d2, z0, z1, z2, z3, y0, l4]
    have hX : OkF .f32 (real.bin .add .f32 (real.bin .mul .f32 (real.bin .add .f32 (real.bin .mul .f32 (Pure.impl_State_slopes real t k s) u) (real.bin .mul .f32 1065353216 v)) (real.bin .add .f32 (real.bin .mul .f32 (Pure.impl_State_slopes real t k s) u) (real.bin .mul .f32 1065353216 v))) (real.bin .mul .f32 (real.bin .add .f32 (real.bin .mul .f32 (Pure.impl_State_slopes_1 real t k s) u) (real.bin .mul .f32 1065353216 v)) (real.bin .add .f32 (real.bin .mul .f32 (Pure.impl_State_slopes_1 real t k s) u) (real.bin .mul .f32 1065353216 v)))) := bin_ok _ _ _ _
    generalize real.bin .add .f32 (real.bin .mul .f32 (Pure.impl_State_slopes_1 real t k s) u) (real.bin .mul .f32 1065353216 v) = p1 at *
    generalize real.bin .add .f32 (real.bin .mul .f32 (Pure.impl_State_slopes real t k s) u) (real.bin .mul .f32 1065353216 v) = p0 at *
    generalize real.bin .add .f32 (real.bin .mul .f32 p0 p0) (real.bin .mul .f32 p1 p1) = X at *
    obtain ⟨r1, r2, r3, r4⟩ := root_is X hX
    rw [r1, r2, r3]
    generalize Pure.impl_RootNumber real X = w at *
    obtain ⟨o1, o2, o3⟩ := log_is r4
    rw [o1, o2, o3, length_is]
    have dd0 : decide ((0 : Int) < 4) = true := rfl
    have dd1 : decide ((1 : Int) < 4) = true := rfl
    have dd2 : decide ((2 : Int) < 4) = true := rfl
    have dd3 : decide ((3 : Int) < 4) = true := rfl
    rw [dd0, dd1, dd2, dd3]
    simp only [cond_true]
    cases hc : real.cmp .gtr .f32 w 0 with
    | false => exact ⟨rfl, rfl, fun h => absurd h.symm Bool.false_ne_true⟩
    | true =>
      cases hw : Pure.spec_l01Finite real w with
      | false => exact ⟨rfl, rfl, fun h => absurd h.symm Bool.false_ne_true⟩
      | true =>
        simp only [cond_true, Bool.and_self]
        have fw : Fin .f32 w := (isfin_iff r4).1 hw
        have hw0 : 0 < fv .f32 w := by rw [cmp_gtr fw.toNum f32_zero.1.toNum, f32_zero.2, decide_eq_true_eq] at hc; exact hc
        obtain ⟨s1, s2⟩ := sum_small ha hb (log_small fw hw0) (by omega)
        refine ih (i + 1) f1 f2 _ _ _ _ _ (by omega) (by omega) (by omega) ?_ d5 d6 s1 s2
        rw [hnext]; rfl

theorem quo_small32 {x y : Int} {e : Nat} (hx : Le .f32 e x) (hy : Fin .f32 y) (h1 : (unit .f32 : Int) ≤ fv .f32 y) (he : e + 1 ≤ 127) : Fin .f32 (real.bin .quo .f32 x y) := by
  have hup := unit_pos .f32
  refine (quo_bound hx.1 hy (by omega) (has_two (k := .f32) (e := e + 1) he) (by omega) ?_).1
  have hxl := hx.2
  have e1 : ((2 ^ (e + 1) * unit .f32 : Nat) : Int) = 2 * ((2 ^ e * unit .f32 : Nat) : Int) := by rw [Nat.pow_succ, Nat.mul_comm (2 ^ e) 2, Nat.mul_assoc]; push_cast; rfl
  rw [e1]
  generalize ((2 ^ e * unit .f32 : Nat)) = B at *
  have ha : ((fv .f32 y).natAbs : Int) = fv .f32 y := by omega
  rw [ha]
  have s1 : ((fv .f32 x).natAbs : Int) * unit .f32 ≤ (B : Int) * unit .f32 := Int.mul_le_mul_of_nonneg_right (by omega) (by omega)
  have s2 : (B : Int) * unit .f32 ≤ (B : Int) * fv .f32 y := Int.mul_le_mul_of_nonneg_left h1 (by omega)
  rw [Int.mul_assoc, Int.mul_assoc]
  omega

theorem mean_fin {a : Int} {n : Nat} (ha : Fin .f32 a) (hb : (fv .f32 a).natAbs ≤ n * 2 ^ 246) (h1 : 1 ≤ n) (h2 : n ≤ 128) : Fin .f32 (real.bin .quo .f32 a (real.ofInt .f32 (n : Int))) := by
  have hbin : FloatKind.f32.format.binade = 8388608 := by decide
  obtain ⟨f1, f2⟩ := ofInt_fv (k := .f32) (n := (n : Int)) (by rw [hbin]; omega)
  have hup := unit_pos .f32
  have hle : Le .f32 104 a := by
    refine ⟨ha, Nat.le_trans hb ?_⟩
    rw [unit32, pw_eq 104 149 253 rfl]
    have h3 : n * 2 ^ 246 ≤ 2 ^ 7 * 2 ^ 246 := Nat.mul_le_mul_right _ (by omega)
    have h4 : 2 ^ 7 * 2 ^ 246 = 2 ^ 253 := pw_eq 7 246 253 rfl
    omega
  refine quo_small32 hle f1 ?_ (by omega)
  rw [f2]
  have := Int.mul_le_mul_of_nonneg_right (show (1 : Int) ≤ (n : Int) by omega) (show (0 : Int) ≤ unit .f32 by omega)
  omega

theorem exponent_is (x0 x1 x2 x3 : Int) (h0 : OkF .f32 x0) (h1 : OkF .f32 x1) (h2 : OkF .f32 x2) : Pure.spec_ExponentOf_ok real x0 x1 x2 x3 = true ∧ Pure.impl_ExponentOf_ok real x0 x1 x2 x3 = true ∧
    Pure.spec_ExponentOf real x0 x1 x2 x3 = Pure.impl_ExponentOf real x0 x1 x2 x3 ∧ Pure.spec_ExponentOf_1 real x0 x1 x2 x3 = Pure.impl_ExponentOf_1 real x0 x1 x2 x3 := by
  have es : Pure.spec_l07Size real x2 = Pure.impl_sizeOk real x2 := rfl
  have ei : ∀ a b c, Pure.spec_l00In real a b c = Pure.impl_in real a b c := fun a b c => rfl
  unfold Pure.spec_ExponentOf_ok Pure.impl_ExponentOf_ok Pure.spec_ExponentOf Pure.impl_ExponentOf Pure.spec_ExponentOf_1 Pure.impl_ExponentOf_1 Pure.impl_stateOk
  rw [valid_is, es, ei]
  cases hv : Pure.impl_ValidState real x0 x1 with
  | false => simp only [cond_false, and_self]
  | true =>
    cases hz : Pure.impl_sizeOk real x2 with
    | false => simp only [cond_true, cond_false, and_self]
    | true =>
      cases hc : Pure.impl_in real x3 1 128 with
      | false => simp only [cond_true, cond_false, and_self]
      | true =>
        obtain ⟨v1, v2⟩ := valid_ok h0 h1 hv
        have hc := in_iff.1 hc
        obtain ⟨n, rfl⟩ : ∃ n : Nat, x3 = n := ⟨x3.toNat, by omega⟩
        obtain ⟨m1, m2⟩ := spec_orbit_is v1 v2 (sizeOk_le h2 hz) (n := n) (by omega)
        have hlen := orbit_len x0 x1 x2 n
        obtain ⟨k1, k2, k3⟩ := expof_loop (sizeOk_le h2 hz) n (by omega) (orbit x0 x1 x2 n) hlen n n 0 (Int.toNat (((n : Int) - 0) + 1)) (Int.toNat (((n : Int) - 0) + 1)) x0 x1 1065353216 0 0 (by omega) (by omega) (by omega) rfl v1 v2 f32_zero.1 (by rw [f32_zero.2]; simp)
        have e00 : ((0 : Nat) : Int) = 0 := rfl
        rw [e00] at k1 k2 k3
        rw [m1, m2, k1]
        generalize Pure.impl_ExponentOf_L0 real x2 n n (Int.toNat (((n : Int) - 0) + 1)) 1065353216 0 0 0 x0 x1 = r at *
        rw [k2]
        simp only [cond_true]
        cases hr : r.2.1 with
        | true => simp only [cond_true, and_self]
        | false =>
          obtain ⟨a1, a2⟩ := k3 hr
          have hq := isFin (mean_fin a1 a2 (by omega) (by omega))
          unfold Pure.impl_toldNumber
          rw [hq]
          simp only [cond_true, cond_false, and_self]

theorem law_FnExactExponentOf (x0 x1 x2 x3 : Int) (h0 : OkF .f32 x0) (h1 : OkF .f32 x1) (h2 : OkF .f32 x2) (_ : IntKind.i64.has x3) : Pure.laws_FnExactExponentOf_ok real x0 x1 x2 x3 = true ∧ Pure.laws_FnExactExponentOf real x0 x1 x2 x3 = true := by
  obtain ⟨i1, i2, i3, i4⟩ := exponent_is x0 x1 x2 x3 h0 h1 h2
  unfold Pure.laws_FnExactExponentOf_ok Pure.laws_FnExactExponentOf
  rw [i1, i2, i3, i4, convOk_up, sameFloat_refl]
  simp
end Go.Fx
