import Derived.Test.YtmcfcijddhgphaaXr4bb
namespace Go.Fx
set_option maxRecDepth 100000

theorem at_h {xs : List (List Int)} (h : RowsOK BU xs) {n : Nat} (h1 : 1 ≤ n) (hn : n ≤ 33) : ∃ i : Nat, i < n ∧ Pure.laws_b10At real xs 3 n = i ∧ Pure.laws_b10At_ok real xs 3 n = true := by
  rcases Nat.eq_or_lt_of_le h1 with e | e
  · subst e
    refine ⟨0, by omega, ?_, ?_⟩
    · unfold Pure.laws_b10At; rfl
    · unfold Pure.laws_b10At_ok; rfl
  · exact b10At_is h 3 n (by omega) e hn

set_option maxHeartbeats 2000000 in
theorem law_FnBasins (x0 x1 : List (List Int)) (h0 : RowsOK BU x0) (h1 : RowsOK BU x1) : Pure.laws_FnBasins_ok real x0 x1 = true ∧ Pure.laws_FnBasins real x0 x1 = true := by
  unfold Pure.laws_FnBasins_ok Pure.laws_FnBasins
  cases Pure.laws_b10Long real x0 x1 with
  | true => exact ⟨rfl, rfl⟩
  | false =>
    obtain ⟨a, ha, ea, oa⟩ := b10At_is h0 0 6 (by omega) (by omega) (by omega)
    obtain ⟨b, hb, eb, ob⟩ := b10At_is h0 1 6 (by omega) (by omega) (by omega)
    obtain ⟨c, hc, ec, oc⟩ := b10At_is h0 2 17 (by omega) (by omega) (by omega)
    obtain ⟨d, hd, ed, od⟩ := b10At_is h0 3 9 (by omega) (by omega) (by omega)
    obtain ⟨e, he, ee, oe⟩ := b10At_is h1 0 8 (by omega) (by omega) (by omega)
    obtain ⟨f, hf, ef, of⟩ := b10At_is h1 1 8 (by omega) (by omega) (by omega)
    obtain ⟨g, hg, eg, og⟩ := b10At_is h1 2 8 (by omega) (by omega) (by omega)
    obtain ⟨y, hy, ey, oy⟩ := at_h h1 (n := b + 1) (by omega) (by omega)
    have z0 : ((0 : Nat) : Int) = 0 := rfl
    have z1 : ((1 : Nat) : Int) = 1 := rfl
    have z2 : ((2 : Nat) : Int) = 2 := rfl
    have z3 : ((3 : Nat) : Int) = 3 := rfl
    have n6 : ((6 : Nat) : Int) = 6 := rfl
    have n17 : ((17 : Nat) : Int) = 17 := rfl
    have n9 : ((9 : Nat) : Int) = 9 := rfl
    have n8 : ((8 : Nat) : Int) = 8 := rfl
    rw [z0, n6] at ea oa
    rw [z1, n6] at eb ob
    rw [z2, n17] at ec oc
    rw [z3, n9] at ed od
    rw [z0, n8] at ee oe
    rw [z1, n8] at ef of
    rw [z2, n8] at eg og
    have wa : IntKind.wrap .i64 (1 + (a : Int)) = ((a + 1 : Nat) : Int) := by rw [wrap64 (by omega) (by omega)]; omega
    have wb : IntKind.wrap .i64 (1 + (b : Int)) = ((b + 1 : Nat) : Int) := by rw [wrap64 (by omega) (by omega)]; omega
    have wc : IntKind.wrap .i64 ((c : Int) - 8) = (c : Int) - 8 := wrap64 (by omega) (by omega)
    have we : IntKind.wrap .i64 (1 + (e : Int)) = ((e + 1 : Nat) : Int) := by rw [wrap64 (by omega) (by omega)]; omega
    have wf : IntKind.wrap .i64 (1 + (f : Int)) = ((f + 1 : Nat) : Int) := by rw [wrap64 (by omega) (by omega)]; omega
    have wg : IntKind.wrap .i64 (1 + (g : Int)) = ((g + 1 : Nat) : Int) := by rw [wrap64 (by omega) (by omega)]; omega
    rw [ea, eb, ec, ed, ee, ef, eg, oa, ob, oc, od, oe, of, og, wa, wb, wc, we, wf, wg, ey, oy]
    have es : real.bin .quo .f32 (real.ofInt .f32 ((c : Int) - 8)) 1098907648 = szB c := rfl
    have ek : real.bin .quo .f32 (real.ofInt .f32 (d : Int)) 1090519040 = kpB d := rfl
    rw [es, ek]
    obtain ⟨s1, s2⟩ := szB_is hc
    obtain ⟨q1, q2⟩ := kpB_is hd
    have qz : Le .f32 0 0 ∧ Pure.impl_shareOk real 0 = true := ⟨Le.const (by decide +kernel), by decide +kernel⟩
    generalize szB c = s at *
    generalize kpB d = q at *
    obtain ⟨w, hw⟩ : ∃ w, w = a + 1 := ⟨_, rfl⟩
    obtain ⟨h, hh⟩ : ∃ h, h = b + 1 := ⟨_, rfl⟩
    rw [← hw, ← hh]
    rw [← hh] at hy
    have hp : 1 ≤ ((f + 1 : Nat) : Int) ∧ ((f + 1 : Nat) : Int) ≤ 16 := by omega
    have hn : 0 ≤ (e : Int) ∧ (e : Int) ≤ 128 := by omega
    have hn1 : 0 ≤ ((e + 1 : Nat) : Int) ∧ ((e + 1 : Nat) : Int) ≤ 128 := by omega
    have hr := restOk_of s2 q2 hn hp
    have hrz := restOk_of s2 qz.2 hn1 hp
    have w32 : 1 ≤ w ∧ w ≤ 32 := by omega
    have h32 : 1 ≤ h ∧ h ≤ 32 := by omega
    obtain ⟨b1, b2, b3⟩ := of_is w32 h32 s1 q1 hr hn hp
    obtain ⟨c1, c2, c3⟩ := shared_is (w := (w : Int)) (h := (h : Int)) (s := s) (q := q) (n := (e : Int)) (p := ((f + 1 : Nat) : Int)) (k := ((g + 1 : Nat) : Int)) (by omega)
    obtain ⟨d1, d2, d3⟩ := brow_is hy w32 h32 s1 q1 hr hn hp
    obtain ⟨f1, f2, f3⟩ := of_is w32 h32 s1 qz.1 hrz hn1 hp
    rw [c1, c2, c3, b1, b2, b3, d1, d2, d3, f1, f2, f3]
    have hyw : y * w ≤ 6 * 6 := Nat.mul_le_mul (by omega) (by omega)
    have hhw : h * w ≤ 6 * 6 := Nat.mul_le_mul (by omega) (by omega)
    have hyh : y * w + w ≤ h * w := by
      have := Nat.mul_le_mul_right w (show y + 1 ≤ h by omega)
      rwa [Nat.add_mul, Nat.one_mul] at this
    have m1 : IntKind.wrap .i64 ((y : Int) * (w : Int)) = ((y * w : Nat) : Int) := by rw [← Int.natCast_mul, wrap64 (by omega) (by omega)]
    have m2 : IntKind.wrap .i64 (((y * w : Nat) : Int) + (w : Int)) = ((y * w + w : Nat) : Int) := by rw [← Int.natCast_add, wrap64 (by omega) (by omega)]
    have m3 : IntKind.wrap .i64 ((w : Int) * (h : Int)) = ((h * w : Nat) : Int) := by rw [Int.mul_comm, ← Int.natCast_mul, wrap64 (by omega) (by omega)]
    rw [m1, m2, m3]
    have lB := basR_len w h s q (e : Int) ((f + 1 : Nat) : Int) h 0
    have lZ := basR_len w h s 0 ((e + 1 : Nat) : Int) ((f + 1 : Nat) : Int) h 0
    have lR := rowK_len w h s q (e : Int) ((f + 1 : Nat) : Int) y
    have hsl := basR_slice (w := w) (h := h) (s := s) (q := q) (n := (e : Int)) (p := ((f + 1 : Nat) : Int)) h 0 y hy
    rw [Nat.zero_add] at hsl
    obtain ⟨i1, i2⟩ := ints_refl (basR w h s q (e : Int) ((f + 1 : Nat) : Int) h 0) (by omega)
    obtain ⟨j1, j2⟩ := ints_refl (rowK w h s q (e : Int) ((f + 1 : Nat) : Int) y) (by omega)
    have t1 : ((y * w + w : Nat) : Int).toNat - ((y * w : Nat) : Int).toNat = w := by rw [Int.toNat_natCast, Int.toNat_natCast]; omega
    rw [t1, Int.toNat_natCast, hsl, i1, i2, j1, j2]
    have kf := kick_of hy (show h ≤ 32 by omega)
    have kfin : Pure.impl_IsFinite real (real.bin .sub .f32 (real.bin .quo .f32 (real.ofInt .f32 (y : Nat)) (real.ofInt .f32 (h : Nat))) 1056964608) = true := isFin kf.1
    obtain ⟨_, _, k3, _⟩ := kick_is kf
    have k3' : Pure.impl_WrapKick_ok real (real.bin .sub .f32 (real.bin .quo .f32 (real.ofInt .f32 (y : Nat)) (real.ofInt .f32 (h : Nat))) 1056964608) = true := k3
    have ekk : Pure.impl_WrapKick real (real.bin .sub .f32 (real.bin .quo .f32 (real.ofInt .f32 (y : Nat)) (real.ofInt .f32 (h : Nat))) 1056964608) = kickY h y := rfl
    rw [kfin, k3', ekk]
    have r1 := rests_loop (w := w) (h := h) (y := y) (x0 := x0) (x1 := x1) (by omega) (by omega) hy s1 q1 hr hn hp w 0 (Nat.succ ((rowK w h s q (e : Int) ((f + 1 : Nat) : Int) y).length + 0)) (by omega) (by omega)
    have r2 := drag_loop (w := w) (h := h) (x0 := x0) (x1 := x1) (n := e) (by omega) (by omega) s1 (by omega) hp (h * w) 0 (Nat.succ ((basR w h s 0 ((e + 1 : Nat) : Int) ((f + 1 : Nat) : Int) h 0).length + 0)) (by omega) (by omega)
    have il : Int.ofNat (rowK w h s q (e : Int) ((f + 1 : Nat) : Int) y).length = (w : Int) := by rw [lR]; rfl
    have ib : Int.ofNat (basR w h s q (e : Int) ((f + 1 : Nat) : Int) h 0).length = ((h * w : Nat) : Int) := by rw [lB]; rfl
    have iz : Int.ofNat (basR w h s 0 ((e + 1 : Nat) : Int) ((f + 1 : Nat) : Int) h 0).length = ((h * w : Nat) : Int) := by rw [lZ]; rfl
    rw [z0] at r1 r2
    rw [il, ib, iz, r1, r2]
    have e1 : (((h * w : Nat) : Int) != ((h * w : Nat) : Int)) = false := by simp
    have e2 : decide (0 ≤ ((y * w : Nat) : Int)) = true := by simp; omega
    have e3 : decide (((y * w : Nat) : Int) ≤ ((y * w + w : Nat) : Int)) = true := decide_eq_true (by omega)
    have e4 : decide (((y * w + w : Nat) : Int) ≤ ((h * w : Nat) : Int)) = true := decide_eq_true (by omega)
    rw [e1, e2, e3, e4]
    exact ⟨rfl, rfl⟩
end Go.Fx
