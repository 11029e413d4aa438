import Derived.Test.YtpdeekgbdalnaaaXSin2
/- The sine of some turns: near turns, near sines. -/
namespace Go.Fx
open Ieee
set_option exponentiation.threshold 5000

theorem cond_t {α : Type} {c : Bool} {a b : α} (h : c = true) : (bif c then a else b) = a := by rw [h]; rfl
theorem cond_f {α : Type} {c : Bool} {a b : α} (h : c = false) : (bif c then a else b) = b := by rw [h]; rfl

def Tri (t : Bool) (m f : Int) : Prop :=
  (t = false ∧ f ≤ (2 ^ 148 * gU : Nat) ∧ (m = f ∨ (m - ((2 ^ 148 * gU : Nat) - f)).natAbs ≤ 2 ^ 98 * gU)) ∨
  (t = true ∧ ((2 ^ 148 * gU : Nat) : Int) ≤ f ∧ ((m - (f - (2 ^ 148 * gU : Nat))).natAbs ≤ 2 ^ 98 * gU ∨ (m - ((2 ^ 149 * gU : Nat) - f)).natAbs ≤ 2 ^ 98 * gU))

theorem half_g : Fin .f64 4602678819172646912 ∧ fv .f64 4602678819172646912 = (2 ^ 148 * gU : Nat) := by
  refine ⟨k_half.1, ?_⟩
  have := k_half.2
  rw [qt_g] at this
  omega
theorem quarter_g : Fin .f64 4598175219545276416 ∧ fv .f64 4598175219545276416 = (2 ^ 147 * gU : Nat) := by
  refine ⟨k_quarter.1, ?_⟩
  have := k_quarter.2
  rw [qt_g] at this
  omega

theorem pick_spec {F : Int} (hF : Fin .f64 F) (h0 : 0 ≤ fv .f64 F) (h1 : fv .f64 F ≤ (2 ^ 149 * gU : Nat)) :
    ∃ t m, (∀ {α : Type} (P : Bool → Int → α), sinPick P F = P t m) ∧ Small m ∧ Tri t (fv .f64 m) (fv .f64 F) := by
  obtain ⟨a1, a2⟩ := half_g
  obtain ⟨b1, b2⟩ := quarter_g
  obtain ⟨z1, z2⟩ := fin_zero .f64
  have hG := gU_pos
  have c0 : real.cmp .lss .f64 F 0 = false := by rw [cmp_lss hF.toNum z1.toNum, z2]; exact decide_eq_false (by omega)
  have ab : Bd .f64 (2 ^ 148 * gU) 4602678819172646912 := ⟨a1, by rw [a2]; omega⟩
  have small_of : ∀ {m : Int}, Fin .f64 m → 0 ≤ fv .f64 m → fv .f64 m ≤ (2 ^ 147 * gU : Nat) → Small m := fun h1 h2 h3 => ⟨h1, h2, by rw [unit_g]; omega⟩
  have hq : Has .f64 ((2 ^ 147 * gU : Nat) : Int) := ⟨_, b1, b2⟩
  have hh : Has .f64 ((2 ^ 148 * gU : Nat) : Int) := ⟨_, a1, a2⟩
  have hz : Has .f64 (0 : Int) := ⟨0, z1, z2⟩
  by_cases hc : ((2 ^ 148 * gU : Nat) : Int) ≤ fv .f64 F
  · have c1 : real.cmp .geq .f64 F 4602678819172646912 = true := by rw [cmp_geq hF.toNum a1.toNum, a2]; exact decide_eq_true hc
    obtain ⟨g1, g2, g3⟩ := (sub_rounds hF a1).within hz hh (by rw [a2]; omega) (by rw [a2]; omega)
    have g4 := (sub64 (j := 1) (B := 2 ^ 149) (C := 2 ^ 148) ⟨hF, by omega⟩ ab (by decide +kernel) (by omega)).2
    rw [a2] at g4
    have e0 : ∀ {α : Type} (P : Bool → Int → α), sinPick P F = bif real.cmp .gtr .f64 (real.bin .sub .f64 F 4602678819172646912) 4598175219545276416 then P true (real.bin .sub .f64 4602678819172646912 (real.bin .sub .f64 F 4602678819172646912)) else P true (real.bin .sub .f64 F 4602678819172646912) := fun P => by
      unfold sinPick
      rw [cond_f c0, cond_t c1]
    generalize real.bin .sub .f64 F 4602678819172646912 = g at *
    by_cases hc2 : ((2 ^ 147 * gU : Nat) : Int) < fv .f64 g
    · have c2 : real.cmp .gtr .f64 g 4598175219545276416 = true := by rw [cmp_gtr g1.toNum b1.toNum, b2]; exact decide_eq_true hc2
      obtain ⟨s1, s2, s3⟩ := (sub_rounds a1 g1).within hz hq (by rw [a2]; omega) (by rw [a2]; omega)
      have s4 := (sub64 (j := 1) (B := 2 ^ 148) (C := 2 ^ 148) ab ⟨g1, by omega⟩ (by decide +kernel) (by omega)).2
      rw [a2] at s4
      refine ⟨true, _, fun P => by rw [e0, cond_t c2], small_of s1 s2 s3, .inr ⟨rfl, hc, .inr ?_⟩⟩
      omega
    · have c2 : real.cmp .gtr .f64 g 4598175219545276416 = false := by rw [cmp_gtr g1.toNum b1.toNum, b2]; exact decide_eq_false hc2
      refine ⟨true, g, fun P => by rw [e0, cond_f c2], small_of g1 g2 (by omega), .inr ⟨rfl, hc, .inl ?_⟩⟩
      omega
  · have c1 : real.cmp .geq .f64 F 4602678819172646912 = false := by rw [cmp_geq hF.toNum a1.toNum, a2]; exact decide_eq_false hc
    have e0 : ∀ {α : Type} (P : Bool → Int → α), sinPick P F = bif real.cmp .gtr .f64 F 4598175219545276416 then P false (real.bin .sub .f64 4602678819172646912 F) else P false F := fun P => by
      unfold sinPick
      rw [cond_f c0, cond_f c1]
    by_cases hc2 : ((2 ^ 147 * gU : Nat) : Int) < fv .f64 F
    · have c2 : real.cmp .gtr .f64 F 4598175219545276416 = true := by rw [cmp_gtr hF.toNum b1.toNum, b2]; exact decide_eq_true hc2
      obtain ⟨s1, s2, s3⟩ := (sub_rounds a1 hF).within hz hq (by rw [a2]; omega) (by rw [a2]; omega)
      have s4 := (sub64 (j := 1) (B := 2 ^ 148) (C := 2 ^ 148) ab ⟨hF, by omega⟩ (by decide +kernel) (by omega)).2
      rw [a2] at s4
      refine ⟨false, _, fun P => by rw [e0, cond_t c2], small_of s1 s2 s3, .inl ⟨rfl, by omega, .inr ?_⟩⟩
      omega
    · have c2 : real.cmp .gtr .f64 F 4598175219545276416 = false := by rw [cmp_gtr hF.toNum b1.toNum, b2]; exact decide_eq_false hc2
      exact ⟨false, F, fun P => by rw [e0, cond_f c2], small_of hF h0 (by omega), .inl ⟨rfl, by omega, .inl rfl⟩⟩

theorem tri_near {t t' : Bool} {m m' f f' k : Int} (hk : k = -1 ∨ k = 0 ∨ k = 1) (hf : 0 ≤ f ∧ f ≤ (2 ^ 149 * gU : Nat)) (hf' : 0 ≤ f' ∧ f' ≤ (2 ^ 149 * gU : Nat)) (hm : 0 ≤ m ∧ m ≤ (2 ^ 147 * gU : Nat)) (hm' : 0 ≤ m' ∧ m' ≤ (2 ^ 147 * gU : Nat))
    (hn : (f - f' + k * (2 ^ 149 * gU : Nat)).natAbs ≤ (2 ^ 134 + 2 ^ 98) * gU) (h : Tri t m f) (h' : Tri t' m' f') :
    (t = t' ∧ (m - m').natAbs ≤ 2 ^ 136 * gU) ∨ (t ≠ t' ∧ m ≤ (2 ^ 136 * gU : Nat) ∧ m' ≤ (2 ^ 136 * gU : Nat)) := by
  have hG := gU_pos
  unfold Tri at h h'
  rcases hk with rfl | rfl | rfl <;>
  rcases h with ⟨rfl, h1, h2⟩ | ⟨rfl, h1, h2⟩ <;> rcases h' with ⟨rfl, h3, h4⟩ | ⟨rfl, h3, h4⟩ <;>
  first
  | (left; refine ⟨rfl, ?_⟩; omega)
  | (right; refine ⟨by simp, ?_, ?_⟩ <;> omega)

theorem frac_near {w : Int} (hw : Fin .f32 w) (h0 : 0 ≤ fv .f32 w) (h1 : fv .f32 w ≤ 2 ^ 156) : Fin .f64 (frac (real.conv .f32 .f64 w)) ∧ 0 ≤ fv .f64 (frac (real.conv .f32 .f64 w)) ∧ fv .f64 (frac (real.conv .f32 .f64 w)) ≤ (2 ^ 149 * gU : Nat) ∧
    ∃ q : Int, 0 ≤ fv .f32 w - q * 2 ^ 149 ∧ fv .f32 w - q * 2 ^ 149 < 2 ^ 149 ∧ (fv .f64 (frac (real.conv .f32 .f64 w)) - (fv .f32 w - q * 2 ^ 149) * gU).natAbs ≤ 2 ^ 96 * gU := by
  have hG := gU_pos
  obtain ⟨y1, y2⟩ := conv_up hw
  have e925 : ((2 ^ 925 : Nat) : Int) = gU := by unfold gU; rfl
  rw [e925] at y2
  have hq0 : (fv .f64 (real.conv .f32 .f64 w)).tdiv (unit .f64) = fv .f32 w / 2 ^ 149 := by
    rw [y2, unit_g, Int.natCast_mul, Int.tdiv_eq_ediv_of_nonneg (Int.mul_nonneg h0 (by omega))]
    rw [show ((2 ^ 149 : Nat) : Int) = 2 ^ 149 by decide +kernel]
    exact Int.mul_ediv_mul_of_pos_left _ _ (by omega)
  have hdm := Int.mul_ediv_add_emod (fv .f32 w) (2 ^ 149)
  have hm0 := Int.emod_nonneg (fv .f32 w) (show (2 ^ 149 : Int) ≠ 0 by decide +kernel)
  have hm1 := Int.emod_lt_of_pos (fv .f32 w) (show (0 : Int) < 2 ^ 149 by decide +kernel)
  generalize fv .f32 w % 2 ^ 149 = r at *
  generalize hq : fv .f32 w / 2 ^ 149 = q at *
  have hq1 : 0 ≤ q := by omega
  have hq2 : q ≤ 128 := by omega
  obtain ⟨t1, t2⟩ := toInt_ok y1 .i64 (by rw [hq0]; show (-9223372036854775808 : Int) ≤ _; omega) (by rw [hq0]; show _ ≤ (9223372036854775807 : Int); omega)
  obtain ⟨o1, o2⟩ := ofInt_fv (k := .f64) (n := q) (by rw [bin64]; omega)
  rw [unit_g] at o2
  have hs : fv .f64 (real.conv .f32 .f64 w) - fv .f64 (real.ofInt .f64 q) = r * (gU : Int) := by
    rw [y2, o2]
    have e1 : q * ((2 ^ 149 * gU : Nat) : Int) = 2 ^ 149 * q * (gU : Int) := by
      rw [Int.natCast_mul, ← Int.mul_assoc, Int.mul_comm q]
      rw [show ((2 ^ 149 : Nat) : Int) = 2 ^ 149 by decide +kernel]
    rw [e1, ← Int.sub_mul]; congr 1; omega
  unfold frac
  rw [t2, hq0]
  have hr1 : 0 ≤ r * (gU : Int) := Int.mul_nonneg hm0 (by omega)
  have hr2 : r * (gU : Int) ≤ ((2 ^ 149 * gU : Nat) : Int) := by
    rw [Int.natCast_mul, show ((2 ^ 149 : Nat) : Int) = 2 ^ 149 by decide +kernel]
    exact Int.mul_le_mul_of_nonneg_right (by omega) (by omega)
  have hR := sub_rounds y1 o1
  rw [hs] at hR
  obtain ⟨f1, f2, f3⟩ := hR.within ⟨0, (fin_zero .f64).1, (fin_zero .f64).2⟩ ⟨_, one_g.1, one_g.2⟩ (by omega) (by omega)
  have herr := hR.err (d := 1021) (by omega) (by
    have := reach64 0
    unfold reachG at this
    rw [Nat.add_zero] at this
    rw [this]; omega) (reach64_ok (j := 0) (by omega))
  have h4 := herr.2.1
  have h5 := ep_g 0
  rw [Nat.add_zero] at h5
  rw [h5, Int.natCast_one, Int.mul_one, Nat.mul_one] at h4
  refine ⟨f1, f2, f3, q, by omega, by omega, ?_⟩
  have e6 : fv .f32 w - q * 2 ^ 149 = r := by omega
  rw [e6]; omega

def sineV (w : Int) : Int := real.conv .f64 .f32 (sinPick sinOut (frac (real.conv .f32 .f64 w)))

theorem sinOut_eq (t : Bool) (m : Int) : sinOut t m = bif t then real.neg .f64 (sinY m) else sinY m := rfl

theorem down_g {y : Int} (hy : Bd .f64 (2 ^ 1 * 2 ^ 149 * gU) y) : Fin .f32 (real.conv .f64 .f32 y) ∧ (fv .f32 (real.conv .f64 .f32 y) * (gU : Int) - fv .f64 y).natAbs ≤ 2 ^ 126 * gU := by
  have hG := gU_pos
  have hd := down_rounds hy.1
  have e925 : 2 ^ 925 = gU := by unfold gU; rfl
  rw [e925] at hd
  have := hd.err (d := 126) hG (by rw [bin32]; have := hy.2; omega) (by rw [bin32, big32]; decide +kernel)
  exact ⟨this.1, this.2.1⟩

theorem sineV_parts {w : Int} (hw : Fin .f32 w) (h0 : 0 ≤ fv .f32 w) (h1 : fv .f32 w ≤ 2 ^ 156) : ∃ t m, Small m ∧ sineV w = real.conv .f64 .f32 (sinOut t m) ∧ Tri t (fv .f64 m) (fv .f64 (frac (real.conv .f32 .f64 w))) ∧
    Bd .f64 (2 ^ 1 * 2 ^ 149 * gU) (sinOut t m) ∧ fv .f64 (sinOut t m) = (bif t then - fv .f64 (sinY m) else fv .f64 (sinY m)) := by
  obtain ⟨f1, f2, f3, _⟩ := frac_near hw h0 h1
  obtain ⟨t, m, hp, hm, ht⟩ := pick_spec f1 f2 f3
  obtain ⟨y1, _, _⟩ := sinY_facts hm
  refine ⟨t, m, hm, by unfold sineV; rw [hp], ht, ?_, ?_⟩
  · rw [sinOut_eq]
    cases t with
    | false => exact y1
    | true => exact ⟨(neg_fin y1.1).1, by have := (neg_fin y1.1).2; simp only [cond_true]; rw [this, Int.natAbs_neg]; exact y1.2⟩
  · rw [sinOut_eq]
    cases t with
    | false => rfl
    | true => exact (neg_fin y1.1).2

theorem sineV_bound {w : Int} (hw : Fin .f32 w) (h0 : 0 ≤ fv .f32 w) (h1 : fv .f32 w ≤ 2 ^ 156) : Bd .f32 (29 * 2 ^ 145) (sineV w) := by
  obtain ⟨t, m, hm, he, _, hb, hv⟩ := sineV_parts hw h0 h1
  obtain ⟨_, y2, y3⟩ := sinY_facts hm
  obtain ⟨d1, d2⟩ := down_g hb
  rw [he]
  refine ⟨d1, ?_⟩
  have hG := gU_pos
  have hv2 : (fv .f64 (sinOut t m)).natAbs ≤ 28 * 2 ^ 145 * gU := by rw [hv]; cases t <;> simp only [cond_true, cond_false] <;> omega
  have e : (fv .f32 (real.conv .f64 .f32 (sinOut t m)) * (gU : Int)).natAbs ≤ 29 * 2 ^ 145 * gU := by omega
  rw [Int.natAbs_mul, Int.natAbs_natCast] at e
  exact Nat.le_of_mul_le_mul_right e hG

theorem sineV_nr {w w' : Int} (hw : Fin .f32 w) (h0 : 0 ≤ fv .f32 w) (h1 : fv .f32 w ≤ 2 ^ 156) (hw' : Fin .f32 w') (h0' : 0 ≤ fv .f32 w') (h1' : fv .f32 w' ≤ 2 ^ 156) (hn : Nr .f32 (2 ^ 134) w w') : Nr .f32 (2 ^ 142) (sineV w) (sineV w') := by
  obtain ⟨t, m, hm, he, htri, hb, hv⟩ := sineV_parts hw h0 h1
  obtain ⟨t', m', hm', he', htri', hb', hv'⟩ := sineV_parts hw' h0' h1'
  obtain ⟨f1, f2, f3, q, r1, r2, r3⟩ := frac_near hw h0 h1
  obtain ⟨f1', f2', f3', q', r1', r2', r3'⟩ := frac_near hw' h0' h1'
  have hG := gU_pos
  unfold Nr at hn ⊢
  -- the turns between
  have hk : q - q' = -1 ∨ q - q' = 0 ∨ q - q' = 1 := by omega
  have hk2 : (fv .f64 (frac (real.conv .f32 .f64 w)) - fv .f64 (frac (real.conv .f32 .f64 w')) + (q - q') * (2 ^ 149 * gU : Nat)).natAbs ≤ (2 ^ 134 + 2 ^ 98) * gU := by
    have e1 : (q - q') * ((2 ^ 149 * gU : Nat) : Int) = ((fv .f32 w - fv .f32 w') - ((fv .f32 w - q * 2 ^ 149) - (fv .f32 w' - q' * 2 ^ 149))) * (gU : Int) := by
      rw [Int.natCast_mul, ← Int.mul_assoc, show ((2 ^ 149 : Nat) : Int) = 2 ^ 149 by decide +kernel]
      congr 1
      rw [Int.sub_mul]; omega
    rw [e1]
    have e2 : ((fv .f32 w - fv .f32 w') * (gU : Int)).natAbs ≤ 2 ^ 134 * gU := by
      rw [Int.natAbs_mul, Int.natAbs_natCast]; exact Nat.mul_le_mul_right _ hn
    rw [Int.sub_mul, Int.sub_mul (fv .f32 w - q * 2 ^ 149)]
    omega
  have hms : 0 ≤ fv .f64 m ∧ fv .f64 m ≤ (2 ^ 147 * gU : Nat) := ⟨hm.ge, by have := hm.le; rw [unit_g] at this; omega⟩
  have hms' : 0 ≤ fv .f64 m' ∧ fv .f64 m' ≤ (2 ^ 147 * gU : Nat) := ⟨hm'.ge, by have := hm'.le; rw [unit_g] at this; omega⟩
  have hnear := tri_near hk ⟨f2, f3⟩ ⟨f2', f3'⟩ hms hms' hk2 htri htri'
  obtain ⟨d1, d2⟩ := down_g hb
  obtain ⟨d1', d2'⟩ := down_g hb'
  have hy : (fv .f64 (sinOut t m) - fv .f64 (sinOut t' m')).natAbs ≤ 70 * 2 ^ 135 * gU := by
    rw [hv, hv']
    rcases hnear with ⟨rfl, h2⟩ | ⟨h2, h3, h4⟩
    · have := sinY_nr hm hm' h2
      unfold Nr at this
      cases t <;> simp only [cond_true, cond_false] <;> omega
    · have a1 := sinY_small hm h3
      have a2 := sinY_small hm' h4
      have a3 := (sinY_facts hm).2.2
      have a4 := (sinY_facts hm').2.2
      cases t <;> cases t' <;> simp only [cond_true, cond_false] <;> first | (exact absurd rfl h2) | omega
  rw [he, he']
  have e : ((fv .f32 (real.conv .f64 .f32 (sinOut t m)) - fv .f32 (real.conv .f64 .f32 (sinOut t' m'))) * (gU : Int)).natAbs ≤ 2 ^ 142 * gU := by
    rw [Int.sub_mul]; omega
  rw [Int.natAbs_mul, Int.natAbs_natCast] at e
  exact Nat.le_of_mul_le_mul_right e hG
end Go.Fx
