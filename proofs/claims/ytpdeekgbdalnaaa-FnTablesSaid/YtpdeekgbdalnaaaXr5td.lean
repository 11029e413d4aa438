import Derived.Test.YtpdeekgbdalnaaaXr5te
import Derived.Test.YtpdeekgbdalnaaaF4
/- The law of tables. -/
namespace Go.Fx
open Ieee
set_option exponentiation.threshold 5000
set_option maxRecDepth 100000
abbrev BU : List K := [.i .u8]

theorem r8At_is {xs : List (List Int)} (h : RowsOK BU xs) (k n : Nat) (h2 : 2 ≤ n) : ∃ i : Nat, i < n ∧ Pure.laws_r8At real xs k n = i ∧ Pure.laws_r8At_ok real xs k n = true := by
  unfold Pure.laws_r8At Pure.laws_r8At_ok
  rw [decide_eq_false (show ¬ ((n : Int) ≤ 1) by omega), show ((n : Int) == 0) = false by simp; omega, decide_eq_true (show (0 : Int) ≤ (k : Int) by omega)]
  by_cases hl : k < xs.length
  · rw [decide_eq_false (show ¬ (k : Int) ≥ Int.ofNat xs.length by show ¬ (k : Int) ≥ (xs.length : Int); omega), decide_eq_true (show (k : Int) < Int.ofNat xs.length by show (k : Int) < (xs.length : Int); omega), Int.toNat_natCast, getD_some hl]
    obtain ⟨g1, g2⟩ : IntKind.u8.has (xs[k].getD 0 0) := (h.row _ (List.getElem_mem hl)).2 0 _ rfl
    have m0 : IntKind.u8.min = 0 := rfl
    have m1 : IntKind.u8.max = 255 := by decide
    rw [m0] at g1
    rw [m1] at g2
    simp only [cond_true, cond_false]
    rw [wrap64 (by omega) (by omega)]
    have e1 : (xs[k].getD 0 0).tmod n = xs[k].getD 0 0 % n := Int.tmod_eq_emod_of_nonneg g1
    rw [e1]
    have b1 := Int.emod_nonneg (xs[k].getD 0 0) (show (n : Int) ≠ 0 by omega)
    have b2 := Int.emod_lt_of_pos (xs[k].getD 0 0) (show (0 : Int) < n by omega)
    exact ⟨(xs[k].getD 0 0 % n).toNat, by omega, by omega, by first | rfl | trivial⟩
  · rw [decide_eq_true (show (k : Int) ≥ Int.ofNat xs.length by show (k : Int) ≥ (xs.length : Int); omega)]
    exact ⟨0, by omega, rfl, rfl⟩

theorem gap_le {a b : Int} {B C D j : Nat} (ha : Bd .f64 (B * gU) a) (hb : Bd .f64 (C * gU) b) (hs : B + C ≤ 2 ^ j * 2 ^ 149) (hj : j ≤ 900) (h : (fv .f64 a - fv .f64 b).natAbs ≤ D * gU) :
    Num .f64 (gap64 a b) ∧ fv .f64 (gap64 a b) ≤ ((D + 2 ^ j * 2 ^ 96) * gU : Nat) := by
  obtain ⟨s1, s2⟩ := sub64 ha hb hs hj
  obtain ⟨t1, t2⟩ := sub64 hb ha (by omega) hj
  unfold gap64
  rw [Nat.add_mul]
  rcases mx_num s1.1.toNum t1.1.toNum with ⟨e, _⟩ | ⟨e, _⟩ <;> rw [e]
  · exact ⟨s1.1.toNum, by omega⟩
  · exact ⟨t1.1.toNum, by omega⟩

theorem up_bd {x : Int} {B : Nat} (h : Bd .f32 B x) : Bd .f64 (B * gU) (real.conv .f32 .f64 x) ∧ fv .f64 (real.conv .f32 .f64 x) = fv .f32 x * gU := by
  obtain ⟨c1, c2⟩ := conv_up h.1
  have e925 : ((2 ^ 925 : Nat) : Int) = gU := by unfold gU; rfl
  rw [e925] at c2
  exact ⟨⟨c1, by rw [c2, Int.natAbs_mul, Int.natAbs_natCast]; exact Nat.mul_le_mul_right _ h.2⟩, c2⟩

def vS (S R u : Int) : Int := real.bin .mul .f32 (real.bin .mul .f32 (real.bin .mul .f32 1086918619 R) S) (sineV (real.bin .add .f32 (real.bin .mul .f32 R u) 1048576000))
def hS (K v s : Int) : Int := real.bin .add .f32 v (real.bin .mul .f32 K (real.bin .sub .f32 v s))

section
variable {S R K P A V T : Int} (D : Draw S R K P A V T)
include D
theorem vS_bd {u : Int} (hu : Bd .f32 (2 ^ 154) u) (h0 : 0 ≤ fv .f32 u) : Bd .f32 (2 ^ 152) (vS S R u) ∧ Pure.impl_TableSpeed_ok real S R K P u = true ∧ Pure.impl_TableSpeed_1 real S R K P u = true ∧ Pure.impl_TableSpeed real S R K P u = vS S R u := by
  obtain ⟨a1, a2⟩ := arg_bd D hu h0
  obtain ⟨q1, q2⟩ : Fin .f32 1048576000 ∧ fv .f32 1048576000 = 2 ^ 147 := ⟨⟨by decide, by decide +kernel, by decide +kernel⟩, by decide +kernel⟩
  have qb : Bd .f32 (2 ^ 147) 1048576000 := ⟨q1, by rw [q2]; decide +kernel⟩
  have w1 := (add32 132 a1 qb (by decide +kernel) (by omega)).1
  have w2 := add_nonneg a1.1 q1 a2 (by rw [q2]; decide +kernel)
  have w3 : fv .f32 (real.bin .add .f32 (real.bin .mul .f32 R u) 1048576000) ≤ 2 ^ 156 := by have := w1.2; omega
  obtain ⟨v1, v2⟩ := sine_val w1.1 w2 w3
  have sb := sineV_bound w1.1 w2 w3
  have tb : Bd .f32 (2 ^ 152) 1086918619 := ⟨⟨by decide, by decide +kernel, by decide +kernel⟩, by decide +kernel⟩
  have m1 := (mul32 129 tb D.rb (by decide +kernel) (by omega)).1.mono (show 2 ^ 129 * 2 ^ 24 ≤ 2 ^ 153 by decide +kernel)
  have m2 := (mul32 127 m1 D.sb (by decide +kernel) (by omega)).1.mono (show 2 ^ 127 * 2 ^ 24 ≤ 2 ^ 151 by decide +kernel)
  have m3 := (mul32 128 m2 sb (by decide +kernel) (by omega)).1.mono (show 2 ^ 128 * 2 ^ 24 ≤ 2 ^ 152 by decide +kernel)
  obtain ⟨y1, y2⟩ := valid_is D
  refine ⟨m3, ?_, ?_, ?_⟩
  · unfold Pure.impl_TableSpeed_ok
    rw [y1, y2, isFin hu.1, v1]; rfl
  · unfold Pure.impl_TableSpeed_1
    rw [y2, isFin hu.1, v2, isFin m3.1]; rfl
  · unfold Pure.impl_TableSpeed Pure.impl_toldNumber vS
    rw [y2, isFin hu.1, v2, isFin m3.1]; rfl

theorem hS_bd {v s : Int} (hv : Bd .f32 (2 ^ 152) v) (hs : Bd .f32 (2 ^ 156) s) : Bd .f32 (2 ^ 158) (hS K v s) ∧
    ∃ Z : Int, Z = fv .f32 K * (fv .f32 v - fv .f32 s) ∧ ((fv .f32 (hS K v s) - fv .f32 v) * 2 ^ 149 - Z).natAbs ≤ 2 ^ 135 * 2 ^ 149 := by
  obtain ⟨e1, e2⟩ := sub32 133 hv hs (by decide +kernel) (by omega)
  have e1' := e1.mono (show 2 ^ 133 * 2 ^ 24 ≤ 2 ^ 157 by decide +kernel)
  obtain ⟨k1, k2⟩ := mul32 133 D.kb e1' (by decide +kernel) (by omega)
  have k1' := k1.mono (show 2 ^ 133 * 2 ^ 24 ≤ 2 ^ 157 by decide +kernel)
  obtain ⟨h1, h2⟩ := add32 134 hv k1' (by decide +kernel) (by omega)
  refine ⟨h1.mono (show 2 ^ 134 * 2 ^ 24 ≤ 2 ^ 158 by decide +kernel), _, rfl, ?_⟩
  have hk : (fv .f32 K * (fv .f32 (real.bin .sub .f32 v s) - (fv .f32 v - fv .f32 s))).natAbs ≤ 2 ^ 149 * 2 ^ 133 := by rw [Int.natAbs_mul]; exact Nat.mul_le_mul D.kb.2 e2
  rw [Int.mul_sub] at hk
  unfold hS
  generalize fv .f32 K * (fv .f32 v - fv .f32 s) = Z at *
  generalize fv .f32 K * fv .f32 (real.bin .sub .f32 v s) = Z2 at *
  omega

theorem hit_is {a s u : Int} (ha : Fin .f32 a) (hs : Bd .f32 (2 ^ 156) s) (hu : Bd .f32 (2 ^ 154) u) (h0 : 0 ≤ fv .f32 u) : Pure.impl_HitFall_ok real S R K P a s u = true ∧ Pure.impl_HitFall_3 real S R K P a s u = true ∧
    Pure.impl_HitFall real S R K P a s u = hA S R u ∧ Pure.impl_HitFall_1 real S R K P a s u = hS K (vS S R u) s ∧ Pure.impl_HitFall_2 real S R K P a s u = u := by
  obtain ⟨t1, t2, t3⟩ := table_is D hu h0
  obtain ⟨v1, v2, v3, v4⟩ := vS_bd D hu h0
  obtain ⟨f1, f2⟩ := fall_gen D ha hs.1 hu.1
  have hb := (hS_bd D v1 hs).1
  unfold Pure.impl_HitFall_ok Pure.impl_HitFall_3 Pure.impl_HitFall Pure.impl_HitFall_1 Pure.impl_HitFall_2
  rw [t1, t2, t3, v2, v3, v4, f1, f2]
  unfold hS at *
  rw [isFin hb.1]
  exact ⟨rfl, rfl, rfl, rfl, rfl⟩

omit D in
theorem unit_twice (h v z g m : Int) : (h * g - v * g) * (m * g) - z * g * g = ((h - v) * m - z) * g * g := by
  have e : ∀ x y : Int, x * g * (y * g) = x * y * g * g := fun x y => by
    rw [Int.mul_assoc, Int.mul_left_comm g y g, ← Int.mul_assoc, ← Int.mul_assoc]
  rw [← Int.sub_mul, e, ← Int.sub_mul, ← Int.sub_mul]

theorem back_gap {v s : Int} (hv : Bd .f32 (2 ^ 152) v) (hs : Bd .f32 (2 ^ 156) s) :
    Num .f64 (gap64 (real.bin .sub .f64 (real.conv .f32 .f64 (hS K v s)) (real.conv .f32 .f64 v)) (real.bin .mul .f64 (real.conv .f32 .f64 K) (real.bin .sub .f64 (real.conv .f32 .f64 v) (real.conv .f32 .f64 s)))) ∧
    fv .f64 (gap64 (real.bin .sub .f64 (real.conv .f32 .f64 (hS K v s)) (real.conv .f32 .f64 v)) (real.bin .mul .f64 (real.conv .f32 .f64 K) (real.bin .sub .f64 (real.conv .f32 .f64 v) (real.conv .f32 .f64 s)))) ≤ (2 ^ 138 * gU : Nat) := by
  obtain ⟨h1, Z, hZ, h2⟩ := hS_bd D hv hs
  obtain ⟨p1, p2⟩ := up_bd h1
  obtain ⟨q1, q2⟩ := up_bd hv
  obtain ⟨r1, r2⟩ := up_bd hs
  obtain ⟨k1, k2⟩ := up_bd D.kb
  have hG := gU_pos
  generalize real.conv .f32 .f64 (hS K v s) = a at *
  generalize real.conv .f32 .f64 v = b at *
  generalize real.conv .f32 .f64 s = c at *
  generalize real.conv .f32 .f64 K = k at *
  obtain ⟨x1, x2⟩ := sub64 (j := 10) p1 q1 (by decide +kernel) (by omega)
  obtain ⟨y1, y2⟩ := sub64 (j := 8) q1 r1 (by decide +kernel) (by omega)
  obtain ⟨z1, z2⟩ := mul64 (j := 8) k1 y1 (by decide +kernel) (by omega)
  have hm : (fv .f64 k * (fv .f64 (real.bin .sub .f64 b c) - (fv .f64 b - fv .f64 c))).natAbs ≤ 2 ^ 149 * gU * (2 ^ 8 * 2 ^ 96 * gU) := by rw [Int.natAbs_mul]; exact Nat.mul_le_mul k1.2 y2
  have e1 : fv .f64 k * (fv .f64 b - fv .f64 c) = Z * gU * gU := by
    rw [k2, q2, r2, hZ, ← Int.sub_mul]
    have : ∀ x y g : Int, x * g * (y * g) = x * y * g * g := fun x y g => by
      rw [Int.mul_assoc, Int.mul_left_comm g y g, ← Int.mul_assoc, ← Int.mul_assoc]
    exact this _ _ _
  rw [Int.mul_sub, e1] at hm
  -- all over one unit
  have key : (fv .f64 (real.bin .sub .f64 a b) - fv .f64 (real.bin .mul .f64 k (real.bin .sub .f64 b c))).natAbs ≤ 2 ^ 137 * gU := by
    have e2 : ((fv .f64 (real.bin .sub .f64 a b) - fv .f64 (real.bin .mul .f64 k (real.bin .sub .f64 b c))) * ((2 ^ 149 * gU : Nat) : Int)).natAbs ≤ 2 ^ 137 * gU * (2 ^ 149 * gU) := by
      have g1 : ((fv .f64 (real.bin .sub .f64 a b) - (fv .f64 a - fv .f64 b)) * ((2 ^ 149 * gU : Nat) : Int)).natAbs ≤ 2 ^ 10 * 2 ^ 96 * gU * (2 ^ 149 * gU) := by
        rw [Int.natAbs_mul, Int.natAbs_natCast]; exact Nat.mul_le_mul_right _ x2
      have g2 : ((fv .f64 a - fv .f64 b) * ((2 ^ 149 * gU : Nat) : Int) - Z * gU * gU).natAbs ≤ 2 ^ 135 * gU * (2 ^ 149 * gU) := by
        have e3 : (fv .f64 a - fv .f64 b) * ((2 ^ 149 * gU : Nat) : Int) - Z * gU * gU = ((fv .f32 (hS K v s) - fv .f32 v) * 2 ^ 149 - Z) * (gU : Int) * gU := by
          rw [p2, q2, Int.natCast_mul, show ((2 ^ 149 : Nat) : Int) = 2 ^ 149 by decide +kernel]
          exact unit_twice _ _ _ _ _
        rw [e3, Int.natAbs_mul, Int.natAbs_mul, Int.natAbs_natCast]
        have := Nat.mul_le_mul_right gU (Nat.mul_le_mul_right gU h2)
        refine Nat.le_trans this (Nat.le_of_eq ?_)
        rw [Nat.mul_assoc (2 ^ 135) (2 ^ 149) gU, Nat.mul_assoc, Nat.mul_comm (2 ^ 149 * gU) gU, ← Nat.mul_assoc]
      rw [Int.sub_mul] at g1 ⊢
      have n1 : 2 ^ 10 * 2 ^ 96 * gU * (2 ^ 149 * gU) = 2 ^ 106 * (gU * (2 ^ 149 * gU)) := by rw [show 2 ^ 10 * 2 ^ 96 = 2 ^ 106 by decide +kernel, Nat.mul_assoc]
      have n2 : 2 ^ 8 * 2 ^ 96 * gU * (2 ^ 149 * gU) = 2 ^ 104 * (gU * (2 ^ 149 * gU)) := by rw [show 2 ^ 8 * 2 ^ 96 = 2 ^ 104 by decide +kernel, Nat.mul_assoc]
      have n3 : 2 ^ 149 * gU * (2 ^ 8 * 2 ^ 96 * gU) = 2 ^ 104 * (gU * (2 ^ 149 * gU)) := by rw [Nat.mul_comm, n2]
      have n4 : 2 ^ 135 * gU * (2 ^ 149 * gU) = 2 ^ 135 * (gU * (2 ^ 149 * gU)) := Nat.mul_assoc _ _ _
      have n5 : 2 ^ 137 * gU * (2 ^ 149 * gU) = 2 ^ 137 * (gU * (2 ^ 149 * gU)) := Nat.mul_assoc _ _ _
      rw [n1] at g1
      rw [n2] at z2
      rw [n3] at hm
      rw [n4] at g2
      rw [n5]
      generalize gU * (2 ^ 149 * gU) = W at *
      generalize fv .f64 (real.bin .sub .f64 a b) * ((2 ^ 149 * gU : Nat) : Int) = X1 at *
      generalize (fv .f64 a - fv .f64 b) * ((2 ^ 149 * gU : Nat) : Int) = X2 at *
      generalize fv .f64 (real.bin .mul .f64 k (real.bin .sub .f64 b c)) * ((2 ^ 149 * gU : Nat) : Int) = X3 at *
      generalize fv .f64 k * fv .f64 (real.bin .sub .f64 b c) = X4 at *
      generalize Z * (gU : Int) * gU = X5 at *
      omega
    rw [Int.natAbs_mul, Int.natAbs_natCast] at e2
    exact Nat.le_of_mul_le_mul_right e2 (by omega)
  obtain ⟨n1, n2⟩ := gap_le (j := 11) x1 z1 (by decide +kernel) (by omega) key
  exact ⟨n1, by omega⟩

omit D in
theorem eql_same {k : FloatKind} {x : Int} (h : Fin k x) : real.cmp .eql k x x = true := by rw [cmp_eql h.toNum h.toNum]; simp
omit D in
theorem neq_same {k : FloatKind} {x : Int} (h : Fin k x) : real.cmp .neq k x x = false := by rw [cmp_neq h.toNum h.toNum]; simp

theorem run_is {lo hi : Int} (n1 : Pure.impl_NextHit_ok real S R K P A V T 1031798784 256 = true) (n2 : Pure.impl_NextHit_1 real S R K P A V T 1031798784 256 = true) (n3 : Pure.impl_NextHit real S R K P A V T 1031798784 256 = lo) (B : Br S R P A V T lo hi (2 ^ 132)) :
    Pure.impl_RunFalls_ok real S R K P A V T 1031798784 256 1 = true ∧ Pure.impl_RunFalls real S R K P A V T 1031798784 256 1 = true ∧
    Pure.impl_RunFalls_1 real S R K P A V T 1031798784 256 1 = [[hA S R (gT T lo), hS K (vS S R (gT T lo)) (gS V P lo), gT T lo]] := by
  obtain ⟨y1, y2⟩ := fall_gen D D.a D.v D.t
  obtain ⟨f1, f2, f3, f4, f5⟩ := fly_is D B.tl
  obtain ⟨u1, u2⟩ := gT_bd D B.tl
  obtain ⟨h1, h2, h3, h4, h5⟩ := hit_is D (gA_parts D B.tl).2.2.2.2.1 (gS_bd D B.tl) u1 u2
  have e : Int.toNat ((1 : Int) - 0 + 1) = 2 := by decide
  have ink : Pure.impl_in real 1 1 32 = true := by decide +kernel
  have d0 : decide ((0 : Int) < 1) = true := rfl
  have L : Pure.impl_RunFalls_L0 real 1031798784 256 1 S R K P 2 0 A V T [] = (true, false, [[hA S R (gT T lo), hS K (vS S R (gT T lo)) (gS V P lo), gT T lo]], []) := by
    unfold Pure.impl_RunFalls_L0
    rw [n1, n2, n3, f1, f2, f3, f4, f5, h1, h2, h3, h4, h5, d0]
    rfl
  unfold Pure.impl_RunFalls_ok Pure.impl_RunFalls Pure.impl_RunFalls_1
  rw [y1, y2, ink, e, L]
  exact ⟨rfl, rfl, rfl⟩
end

set_option maxHeartbeats 4000000 in
theorem law_FnTables (x0 x1 : List (List Int)) (h0 : RowsOK BU x0) (h1 : RowsOK BU x1) : Pure.laws_FnTables_ok real x0 x1 = true ∧ Pure.laws_FnTables real x0 x1 = true := by
  unfold Pure.laws_FnTables_ok Pure.laws_FnTables
  cases Pure.laws_r8Long real x0 x1 with
  | true => exact ⟨rfl, rfl⟩
  | false =>
    obtain ⟨a, ha, ea, oa⟩ := r8At_is h0 0 9 (by omega)
    obtain ⟨b, hb, eb, ob⟩ := r8At_is h0 1 9 (by omega)
    obtain ⟨c, hc, ec, oc⟩ := r8At_is h0 2 5 (by omega)
    obtain ⟨d, hd, ed, od⟩ := r8At_is h0 3 8 (by omega)
    obtain ⟨e, he, ee, oe⟩ := r8At_is h1 0 13 (by omega)
    obtain ⟨f, hf, ef, of⟩ := r8At_is h1 1 17 (by omega)
    obtain ⟨g, hg, eg, og⟩ := r8At_is h1 2 9 (by omega)
    have ea : Pure.laws_r8At real x0 0 9 = a := ea
    have eb : Pure.laws_r8At real x0 1 9 = b := eb
    have ec : Pure.laws_r8At real x0 2 5 = c := ec
    have ed : Pure.laws_r8At real x0 3 8 = d := ed
    have ee : Pure.laws_r8At real x1 0 13 = e := ee
    have ef : Pure.laws_r8At real x1 1 17 = f := ef
    have eg : Pure.laws_r8At real x1 2 9 = g := eg
    have oa : Pure.laws_r8At_ok real x0 0 9 = true := oa
    have ob : Pure.laws_r8At_ok real x0 1 9 = true := ob
    have oc : Pure.laws_r8At_ok real x0 2 5 = true := oc
    have od : Pure.laws_r8At_ok real x0 3 8 = true := od
    have oe : Pure.laws_r8At_ok real x1 0 13 = true := oe
    have of : Pure.laws_r8At_ok real x1 1 17 = true := of
    have og : Pure.laws_r8At_ok real x1 2 9 = true := og
    simp only [Pure.s45_f5, Pure.s46_f5, Pure.s47_f5, Pure.s48_f5, Pure.s49_f5, Pure.s50_f5, Pure.s51_f5, Pure.s52_f5, Pure.s53_f5, Pure.s54_f5, Pure.s55_f5, Pure.s56_f5, Pure.s57_f5, Pure.s58_f5, Pure.s59_f5, Pure.s60_f5, Pure.s61_f5]
    rw [oa, ob, oc, od, oe, of, og, ea, eb, ec, ed, ee, ef, eg]
    clear oa ob oc od oe of og ea eb ec ed ee ef eg
    have D := draw_is ha hb hc hd he hf hg
    have tf := all_range (all_range (all_range tF hd) he) hf
    have tt := all_range tT hg
    rw [show FOps.bin real BinOp.quo FloatKind.f32 (FOps.ofInt real FloatKind.f32 (a : Int)) 1107296256 = wS a from rfl,
      show FOps.bin real BinOp.quo FloatKind.f32 (FOps.ofInt real FloatKind.f32 (b : Int)) 1082130432 = wR b from rfl,
      show FOps.bin real BinOp.quo FloatKind.f32 (FOps.ofInt real FloatKind.f32 (IntKind.wrap IntKind.i64 (1 + (d : Int)))) 1073741824 = wP d from rfl,
      show FOps.bin real BinOp.quo FloatKind.f32 (FOps.ofInt real FloatKind.f32 (IntKind.wrap IntKind.i64 (4 + (e : Int)))) 1090519040 = wA e from rfl,
      show FOps.bin real BinOp.quo FloatKind.f32 (FOps.ofInt real FloatKind.f32 (IntKind.wrap IntKind.i64 ((f : Int) - 8))) 1082130432 = wV f from rfl,
      show FOps.bin real BinOp.quo FloatKind.f32 (FOps.ofInt real FloatKind.f32 (g : Int)) 1090519040 = wT g from rfl]
    try rw [show FOps.bin real BinOp.quo FloatKind.f32 (FOps.ofInt real FloatKind.f32 (c : Int)) 1082130432 = wR c from rfl]
    generalize wS a = S at *
    generalize wR b = R at *
    generalize wR c = K at *
    generalize wP d = P at *
    generalize wA e = A at *
    generalize wV f = V at *
    generalize wT g = T at *
    clear ha hb hc hd he hf hg
    obtain ⟨lo, hi, n1, n2, n3, B⟩ := hit_found D
    obtain ⟨r1, r2, r3⟩ := run_is D n1 n2 n3 B
    rw [n1, n2, n3, r1, r2, r3]
    obtain ⟨f1, f2, f3, f4, f5⟩ := fly_is D B.tl
    rw [f1, f2, f3, f4, f5]
    obtain ⟨u1, u2⟩ := gT_bd D B.tl
    obtain ⟨t1, t2, t3⟩ := table_is D u1 u2
    obtain ⟨v1, v2, v3, v4⟩ := vS_bd D u1 u2
    have sb := gS_bd D B.tl
    obtain ⟨i1, i2, i3, i4, i5⟩ := hit_is D (gA_parts D B.tl).2.2.2.2.1 sb u1 u2
    obtain ⟨va1, va2⟩ := valid_is D
    have hab := (hA_bd D u1 u2).1
    have gab := (gA_parts D B.tl).2.2.2.2
    have hsb := (hS_bd D v1 sb).1
    rw [t1, t2, t3, v2, v3, v4, i1, i2, i3, i4, i5, va1, va2]
    -- the time is not below nothing
    have z0 : real.cmp .lss .f32 lo 0 = false := by
      rw [cmp_lss B.tl.fin.toNum (fin_zero .f32).1.toNum, (fin_zero .f32).2]; exact decide_eq_false (by have := B.tl.ge; omega)
    rw [z0]
    have g0 : ∀ (p q r : Int), List.getD (List.getD [[p, q, r]] 0 []) 0 0 = p := fun _ _ _ => rfl
    have g1 : ∀ (p q r : Int), List.getD (List.getD [[p, q, r]] 0 []) 1 0 = q := fun _ _ _ => rfl
    have g2 : ∀ (p q r : Int), List.getD (List.getD [[p, q, r]] 0 []) 2 0 = r := fun _ _ _ => rfl
    have g3 : ∀ (p q r : Int), ((Int.ofNat (List.length [[p, q, r]])) != 1) = false := fun _ _ _ => rfl
    have g4 : ∀ (p q r : Int), decide (0 < (Int.ofNat (List.length [[p, q, r]]))) = true := fun _ _ _ => rfl
    rw [g0, g1, g2, g3, g4, eql_same hab.1, eql_same hsb.1, eql_same u1.1, neq_same hab.1, neq_same u1.1]
    -- where it hits
    have hn := hit_near D B
    obtain ⟨p1, p2⟩ := up_bd gab
    obtain ⟨q1, q2⟩ := up_bd hab
    have c1 : real.cmp .gtr .f64 (Pure.laws_r8Gap real (real.conv .f32 .f64 (gA A V P lo)) (real.conv .f32 .f64 (hA S R (gT T lo)))) 4576918229304087675 = false := by
      obtain ⟨k1, k2⟩ := gap_le (j := 11) (D := 2 ^ 141) p1 q1 (by decide +kernel) (by omega) (by
        rw [p2, q2, ← Int.sub_mul, Int.natAbs_mul, Int.natAbs_natCast]; exact Nat.mul_le_mul_right _ hn)
      obtain ⟨w1, w2⟩ : Fin .f64 4576918229304087675 ∧ ((2 ^ 142 * gU : Nat) : Int) ≤ fv .f64 4576918229304087675 := ⟨⟨by decide, by decide +kernel, by decide +kernel⟩, by unfold gU; decide +kernel⟩
      change real.cmp .gtr .f64 (gap64 _ _) _ = false
      rw [cmp_gtr k1 w1.toNum]
      exact decide_eq_false (by omega)
    have c2 : real.cmp .gtr .f64 (Pure.laws_r8Gap real (real.bin .sub .f64 (real.conv .f32 .f64 (hS K (vS S R (gT T lo)) (gS V P lo))) (real.conv .f32 .f64 (vS S R (gT T lo)))) (real.bin .mul .f64 (real.conv .f32 .f64 K) (real.bin .sub .f64 (real.conv .f32 .f64 (vS S R (gT T lo))) (real.conv .f32 .f64 (gS V P lo))))) 4562254508917369340 = false := by
      obtain ⟨k1, k2⟩ := back_gap D v1 sb
      obtain ⟨w1, w2⟩ : Fin .f64 4562254508917369340 ∧ ((2 ^ 138 * gU : Nat) : Int) ≤ fv .f64 4562254508917369340 := ⟨⟨by decide, by decide +kernel, by decide +kernel⟩, by unfold gU; decide +kernel⟩
      change real.cmp .gtr .f64 (gap64 _ _) _ = false
      rw [cmp_gtr k1 w1.toNum]
      exact decide_eq_false (by omega)
    rw [c1, c2]
    -- three quarters
    unfold okT at tt
    unfold okF3 at tf
    simp only [Bool.and_eq_true] at tt tf
    obtain ⟨⟨⟨⟨_, tt1⟩, tt2⟩, tt3⟩, tt4⟩ := tt
    obtain ⟨⟨⟨⟨⟨⟨⟨tf1, tf2⟩, tf3⟩, tf4⟩, tf5⟩, tf6⟩, tf7⟩, tf8⟩ := tf
    have qf : Fin .f32 qtr := finB_is (by decide +kernel)
    have lf : Fin .f32 hlf := finB_is (by decide +kernel)
    have wf : Fin .f32 tqr := finB_is (by decide +kernel)
    obtain ⟨a1, a2, a3, a4, a5⟩ := fly_gen D D.a D.v D.t qf (finB_is tf1) (finB_is tf2) (finB_is tt1)
    obtain ⟨b1, b2, b3, b4, b5⟩ := fly_gen D (finB_is tf1) (finB_is tf2) (finB_is tt1) lf (finB_is tf3) (finB_is tf4) (finB_is tt2)
    obtain ⟨d1, d2, d3, d4, d5⟩ := fly_gen D D.a D.v D.t wf (finB_is tf5) (finB_is tf6) (finB_is tt3)
    have eq1 : (1048576000 : Int) = qtr := rfl
    have eq2 : (1056964608 : Int) = hlf := rfl
    have eq3 : (1061158912 : Int) = tqr := rfl
    rw [eq1, eq2, eq3, a1, a2, a3, a4, a5, b1, b2, b3, b4, b5, d1, d2, d3, d4, d5]
    unfold gap64 at tf7 tf8
    unfold Pure.laws_r8Gap
    simp only [convOk_up, cond_true, cond_false]
    rw [tf7, tf8, tt4]
    exact ⟨rfl, rfl⟩
end Go.Fx
