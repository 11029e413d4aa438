import Derived.Test.YtmcfcijddhgphaaXNear
/- Kicks of all finite numbers. -/
namespace Go.Fx
open Ieee

theorem kickW_mid {x : Int} (h : Le .f32 50 x) : real.convOk .f64 .f32 (real.bin .sub .f64 (real.conv .f32 .f64 x) (real.integral .down (real.bin .add .f64 (real.conv .f32 .f64 x) 4602678819172646912))) = true ∧
    Le .f32 0 (kickW x) := by
  obtain ⟨c1, c2⟩ := h.up
  unfold kickW
  generalize real.conv .f32 .f64 x = y at *
  obtain ⟨a1, a2⟩ := k_half
  have hq := qt_pos
  have hu := unit_qt
  have hu2 : unit .f64 = 4 * qt := by omega
  have hr := add_rounds c1 a1
  rw [a2] at hr
  obtain ⟨p1, p2⟩ := floor_parts (fv .f64 y + 2 * (qt : Int)) qt (by omega)
  have hn : ((fv .f64 y + 2 * (qt : Int)) / qt).natAbs ≤ 2 ^ 52 + 2 := by
    rw [hu2] at c2
    have b1 : -(((2 : Int) ^ 52 + 2) * qt) ≤ fv .f64 y + 2 * (qt : Int) := by omega
    have b2 : fv .f64 y + 2 * (qt : Int) ≤ ((2 : Int) ^ 52 + 2) * qt := by omega
    have g1 := Int.ediv_le_ediv (show (0 : Int) < qt by omega) b2
    have g2 := Int.ediv_le_ediv (show (0 : Int) < qt by omega) b1
    rw [Int.mul_ediv_cancel _ (by omega)] at g1
    rw [← Int.neg_mul, Int.mul_ediv_cancel _ (by omega)] at g2
    omega
  generalize hN : (fv .f64 y + 2 * (qt : Int)) / qt = n at *
  obtain ⟨r1, r2, r3⟩ := hr.within (has_qt (n := n) (by omega)) (has_qt (n := n + 1) (by omega)) (by omega) (by rw [Int.add_mul]; omega)
  rw [Int.add_mul, Int.one_mul] at r3
  generalize real.bin .add .f64 y 4602678819172646912 = r at *
  obtain ⟨f1, f2⟩ := floor_fv r1
  obtain ⟨q1, q2⟩ := floor_parts (fv .f64 r) (unit .f64) (by omega)
  rw [← f2] at q1 q2
  have hl : Le .f64 0 (real.bin .sub .f64 y (real.integral .down r)) := Le.of_rounds (sub_rounds c1 f1) (by decide) (by
    rw [Nat.pow_zero, Nat.one_mul, Nat.mul_one]; omega)
  have hd := hl.down (by omega)
  exact ⟨hd.2, hd.1⟩

theorem whole32 {x : Int} (hb : 2 ^ 50 * unit .f32 < (fv .f32 x).natAbs) : ∃ m : Int, fv .f32 x = m * unit .f32 := by
  have ha : (fv .f32 x).natAbs = rv FloatKind.f32.format (rg .f32 x) := by unfold fv; exact sg_abs _ _
  rw [ha] at hb
  obtain ⟨d, k, e1, _, _, e4, _⟩ := rv_succ FloatKind.f32.format (rg .f32 x)
  have hbin : FloatKind.f32.format.binade = 2 ^ 23 := by decide
  rw [hbin] at e4
  have hd : 149 ≤ d := by
    rcases Nat.lt_or_ge d 149 with h | h
    · exfalso
      have h1 : k * 2 ^ d ≤ 2 ^ 24 * 2 ^ 149 := Nat.mul_le_mul (by omega) (Nat.pow_le_pow_right (by omega) (by omega))
      rw [e1, unit32] at hb
      rw [two_mul_two] at h1 hb
      have : (2 : Nat) ^ (24 + 149) ≤ 2 ^ (50 + 149) := Nat.pow_le_pow_right (by omega) (by omega)
      omega
    · exact h
  refine ⟨sg (ng .f32 x) (k * 2 ^ (d - 149)), ?_⟩
  unfold fv
  rw [← sg_mul, e1, unit32, Nat.mul_assoc, two_mul_two]
  congr 3; omega

theorem whole_up {x m : Int} (hx : Fin .f32 x) (h : fv .f32 x = m * unit .f32) : fv .f64 (real.conv .f32 .f64 x) = m * unit .f64 := by
  rw [(conv_up hx).2, h, unit_both, Int.mul_assoc]

theorem add_half_great {y : Int} (hy : Fin .f64 y) (hb : (0 ≤ fv .f64 y ∧ 2 ^ 53 * unit .f64 ≤ (fv .f64 y).natAbs) ∨ (fv .f64 y ≤ 0 ∧ 2 ^ 53 * unit .f64 < (fv .f64 y).natAbs)) :
    Fin .f64 (real.bin .add .f64 y 4602678819172646912) ∧ fv .f64 (real.bin .add .f64 y 4602678819172646912) = fv .f64 y := by
  have hr := add_rounds hy fin_half
  have hn := add_near hy fin_half
  have hh := fv_half
  have hup := unit_pos .f64
  have hnum := hr.num
  have hge := hr.ge y hy.toNum (by omega)
  have hle0 := hr.le 0 (fin_zero .f64).1.toNum
  rw [(fin_zero .f64).2] at hle0
  generalize real.bin .add .f64 y 4602678819172646912 = r at *
  have ha : (fv .f64 y).natAbs = rv FloatKind.f64.format (rg .f64 y) := by unfold fv; exact sg_abs _ _
  have hra : (fv .f64 r).natAbs = rv FloatKind.f64.format (rg .f64 r) := by unfold fv; exact sg_abs _ _
  have hbin : FloatKind.f64.format.binade = 2 ^ 52 := by decide
  have key : fv .f64 r = fv .f64 y := by
    rcases hb with ⟨h0, h1⟩ | ⟨h0, h1⟩
    · obtain ⟨d, k, e1, e2, _, e4, _⟩ := rv_succ FloatKind.f64.format (rg .f64 y)
      rw [hbin] at e4
      have hd : unit .f64 < 2 ^ d := by
        rw [ha, e1] at h1
        rcases Nat.lt_or_ge (unit .f64) (2 ^ d) with h | h
        · exact h
        · exfalso
          have g1 : k * 2 ^ d ≤ k * unit .f64 := Nat.mul_le_mul_left _ h
          have g2 : k * unit .f64 < 2 ^ 53 * unit .f64 := Nat.mul_lt_mul_of_pos_right (by omega) hup
          omega
      have h2 := hn.near (rg .f64 y) (Nat.le_of_lt hy.fin) (by
        rw [e2, Nat.add_mul, Nat.one_mul, ← e1, ← ha]
        omega)
      have h3 := rv_mono FloatKind.f64.format h2
      omega
    · obtain ⟨b, hb⟩ : ∃ b, rg .f64 y = b + 1 := ⟨rg .f64 y - 1, by
        rcases Nat.eq_zero_or_pos (rg .f64 y) with h | h
        · rw [ha, h, rv_zero] at h1; omega
        · omega⟩
      obtain ⟨d, k, e1, e2, _, e4, _⟩ := rv_succ FloatKind.f64.format b
      rw [hbin] at e4
      rw [hb] at ha
      have hd : unit .f64 < 2 ^ d := by
        rw [ha, e2] at h1
        rcases Nat.lt_or_ge (unit .f64) (2 ^ d) with h | h
        · exact h
        · exfalso
          have g1 : (k + 1) * 2 ^ d ≤ (k + 1) * unit .f64 := Nat.mul_le_mul_left _ h
          have g2 : (k + 1) * unit .f64 ≤ 2 ^ 53 * unit .f64 := Nat.mul_le_mul_right _ (by omega)
          omega
      have hf := hy.fin
      have h2 := hn.far b (by omega) (by
        have : rv FloatKind.f64.format b + 2 ^ d = rv FloatKind.f64.format (b + 1) := by rw [e1, e2, Nat.add_mul, Nat.one_mul]
        omega)
      have h3 := rv_mono FloatKind.f64.format h2
      have := hle0 (by omega)
      omega
  exact ⟨hnum.fin_iff.2 (by rw [key]; exact hy.toNum.fin_iff.1 hy), key⟩

theorem kickW_all {x : Int} (h : Fin .f32 x) : real.convOk .f64 .f32 (real.bin .sub .f64 (real.conv .f32 .f64 x) (real.integral .down (real.bin .add .f64 (real.conv .f32 .f64 x) 4602678819172646912))) = true ∧
    Le .f32 0 (kickW x) := by
  rcases Nat.lt_or_ge (2 ^ 50 * unit .f32) (fv .f32 x).natAbs with hb | hb
  · obtain ⟨m, hm⟩ := whole32 hb
    obtain ⟨c1, _⟩ := conv_up h
    have c2 := whole_up h hm
    have hu32 := unit_pos .f32
    -- whole numbers of 32 bits below 2 ^ 53 stay away from it
    have hgap : m < 2 ^ 53 → m + 1 ≤ 2 ^ 53 := fun h => by omega
    unfold kickW
    have hup := unit_pos .f64
    suffices hs : ∃ r, real.bin .add .f64 (real.conv .f32 .f64 x) 4602678819172646912 = r ∧ Fin .f64 r ∧ m * unit .f64 ≤ fv .f64 r ∧ fv .f64 r ≤ (m + 1) * unit .f64 by
      obtain ⟨r, e, r1, r2, r3⟩ := hs
      rw [e]
      generalize real.conv .f32 .f64 x = y at *
      obtain ⟨f1, f2⟩ := floor_fv r1
      have q1 : m ≤ fv .f64 r / unit .f64 := (Int.le_ediv_iff_mul_le (by omega)).2 r2
      have q2 : fv .f64 r / unit .f64 ≤ m + 1 := by
        have := Int.ediv_le_ediv (show (0 : Int) < unit .f64 by omega) r3
        rwa [Int.mul_ediv_cancel _ (by omega)] at this
      have hl : Le .f64 0 (real.bin .sub .f64 y (real.integral .down r)) := Le.of_rounds (sub_rounds c1 f1) (by decide) (by
        rw [Nat.pow_zero, Nat.one_mul, Nat.mul_one, f2, c2, ← Int.sub_mul]
        rcases (show fv .f64 r / unit .f64 = m ∨ fv .f64 r / unit .f64 = m + 1 by omega) with e | e
        · rw [e]; simp
        · rw [e, show m - (m + 1) = -1 by omega]; omega)
      have hd := hl.down (by omega)
      exact ⟨hd.2, hd.1⟩
    refine ⟨_, rfl, ?_⟩
    by_cases hg : -(2 ^ 53) ≤ m ∧ m < 2 ^ 53
    · have hu : (unit .f64 : Int) = ((2 ^ 1074 : Nat) : Int) := by rw [unit64']
      have h1 : Has .f64 (m * unit .f64) := by rw [hu]; exact has_int m 1074 53 (by omega) (by omega) (by omega)
      have h2 : Has .f64 ((m + 1) * unit .f64) := by rw [hu]; exact has_int (m + 1) 1074 53 (by omega) (by omega) (by omega)
      have hh := fv_half
      refine (add_rounds c1 fin_half).within h1 h2 ?_ ?_
      · rw [c2]; omega
      · rw [c2, Int.add_mul]; omega
    · have hA : (fv .f64 (real.conv .f32 .f64 x)).natAbs = m.natAbs * unit .f64 := by rw [c2, Int.natAbs_mul, Int.natAbs_natCast]
      obtain ⟨r1, r2⟩ := add_half_great c1 (by
        rcases Int.lt_or_le m 0 with hm0 | hm0
        · right
          refine ⟨?_, ?_⟩
          · rw [c2]; exact Int.mul_nonpos_of_nonpos_of_nonneg (by omega) (by omega)
          · rw [hA]; exact Nat.mul_lt_mul_of_pos_right (by omega) hup
        · left
          refine ⟨?_, ?_⟩
          · rw [c2]; exact Int.mul_nonneg hm0 (by omega)
          · rw [hA]; exact Nat.mul_le_mul_right _ (by omega))
      refine ⟨r1, ?_, ?_⟩
      · rw [r2, c2]; exact Int.le_refl _
      · rw [r2, c2, Int.add_mul]; omega
  · exact kickW_mid ⟨h, hb⟩

theorem kick_wrap_all {x : Int} (h : Fin .f32 x) : Le .f32 0 (bif real.cmp .geq .f32 (kickW x) 1056964608 then 3204448256 else bif real.cmp .eql .f32 (kickW x) 0 then 0 else kickW x) :=
  cond_ind (Le.const (by decide +kernel)) (cond_ind (Le.const (by decide +kernel)) (kickW_all h).2)
end Go.Fx
