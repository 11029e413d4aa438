import Derived.Test.YtpdeekgbdalnaaaXr5ta
/- Falls and tables of the drawn sizes. -/
namespace Go.Fx
open Ieee
set_option exponentiation.threshold 5000

theorem reach32 (d : Nat) : reachG .f32 d = 2 ^ d * 2 ^ 24 := by
  unfold reachG; rw [bin32, show (2 : Nat) * 2 ^ 23 = 2 ^ 24 by decide, Nat.mul_comm]
theorem reach32_ok {d : Nat} (h : d ≤ 250) : reachG .f32 d < big .f32 := by rw [reach32, big32, two_mul_two]; exact pw_lt _ _ (by omega)
section
variable {x y x' y' : Int} {B C d e f t : Nat}
theorem add32 (d : Nat) (hx : Bd .f32 B x) (hy : Bd .f32 C y) (hs : B + C ≤ 2 ^ d * 2 ^ 24) (hd : d ≤ 250) : Bd .f32 (2 ^ d * 2 ^ 24) (real.bin .add .f32 x y) ∧ (fv .f32 (real.bin .add .f32 x y) - (fv .f32 x + fv .f32 y)).natAbs ≤ 2 ^ d := by
  have := add_err (d := d) hx hy (by rw [reach32]; exact hs) (reach32_ok hd)
  rwa [reach32] at this
theorem sub32 (d : Nat) (hx : Bd .f32 B x) (hy : Bd .f32 C y) (hs : B + C ≤ 2 ^ d * 2 ^ 24) (hd : d ≤ 250) : Bd .f32 (2 ^ d * 2 ^ 24) (real.bin .sub .f32 x y) ∧ (fv .f32 (real.bin .sub .f32 x y) - (fv .f32 x - fv .f32 y)).natAbs ≤ 2 ^ d := by
  have := sub_err (d := d) hx hy (by rw [reach32]; exact hs) (reach32_ok hd)
  rwa [reach32] at this
theorem mul32 (d : Nat) (hx : Bd .f32 B x) (hy : Bd .f32 C y) (hs : B * C ≤ 2 ^ d * 2 ^ 24 * 2 ^ 149) (hd : d ≤ 250) : Bd .f32 (2 ^ d * 2 ^ 24) (real.bin .mul .f32 x y) ∧ (fv .f32 (real.bin .mul .f32 x y) * 2 ^ 149 - fv .f32 x * fv .f32 y).natAbs ≤ 2 ^ d * 2 ^ 149 := by
  have := mul_err (d := d) hx hy (by rw [reach32, unit32]; exact hs) (reach32_ok hd)
  rw [reach32, unit32] at this
  exact this
theorem add_nr32 (d : Nat) (hx : Bd .f32 B x) (hy : Bd .f32 C y) (hx' : Bd .f32 B x') (hy' : Bd .f32 C y') (hs : B + C ≤ 2 ^ d * 2 ^ 24) (hd : d ≤ 250) (h1 : Nr .f32 e x x') (h2 : Nr .f32 f y y') : Nr .f32 (e + f + 2 * 2 ^ d) (real.bin .add .f32 x y) (real.bin .add .f32 x' y') :=
  add_nr hx hy hx' hy' (by rw [reach32]; exact hs) (reach32_ok hd) h1 h2
theorem sub_nr32 (d : Nat) (hx : Bd .f32 B x) (hy : Bd .f32 C y) (hx' : Bd .f32 B x') (hy' : Bd .f32 C y') (hs : B + C ≤ 2 ^ d * 2 ^ 24) (hd : d ≤ 250) (h1 : Nr .f32 e x x') (h2 : Nr .f32 f y y') : Nr .f32 (e + f + 2 * 2 ^ d) (real.bin .sub .f32 x y) (real.bin .sub .f32 x' y') :=
  sub_nr hx hy hx' hy' (by rw [reach32]; exact hs) (reach32_ok hd) h1 h2
theorem mul_nr32 (d t : Nat) (hx : Bd .f32 B x) (hy : Bd .f32 C y) (hx' : Bd .f32 B x') (hy' : Bd .f32 C y') (hs : B * C ≤ 2 ^ d * 2 ^ 24 * 2 ^ 149) (hd : d ≤ 250) (h1 : Nr .f32 e x x') (h2 : Nr .f32 f y y') (ht : B * f + C * e ≤ t * 2 ^ 149) : Nr .f32 (t + 2 * 2 ^ d) (real.bin .mul .f32 x y) (real.bin .mul .f32 x' y') :=
  mul_nr hx hy hx' hy' (by rw [reach32, unit32]; exact hs) (reach32_ok hd) h1 h2 (by rw [unit32]; exact ht)
end
theorem add_nonneg {k : FloatKind} {x y : Int} (hx : Fin k x) (hy : Fin k y) (h0 : 0 ≤ fv k x) (h1 : 0 ≤ fv k y) : 0 ≤ fv k (real.bin .add k x y) := by
  obtain ⟨z1, z2⟩ := fin_zero k
  have := (add_rounds hx hy).ge 0 z1.toNum (by rw [z2]; omega)
  rw [z2] at this; exact this

structure Draw (S R K P A V T : Int) : Prop where
  s : Fin .f32 S
  s0 : 0 ≤ fv .f32 S
  s1 : fv .f32 S ≤ 2 ^ 147
  r : Fin .f32 R
  r0 : 0 ≤ fv .f32 R
  r1 : fv .f32 R ≤ 2 ^ 150
  k : Fin .f32 K
  k0 : 0 ≤ fv .f32 K
  k1 : fv .f32 K ≤ 2 ^ 149
  p : Fin .f32 P
  p0 : 2 ^ 148 ≤ fv .f32 P
  p1 : fv .f32 P ≤ 2 ^ 151
  q : Fin .f32 (real.bin .quo .f32 P 1073741824)
  q0 : 2 * fv .f32 (real.bin .quo .f32 P 1073741824) = fv .f32 P
  a : Fin .f32 A
  a0 : 2 ^ 148 ≤ fv .f32 A
  a1 : fv .f32 A ≤ 2 ^ 150
  v : Fin .f32 V
  v1 : (fv .f32 V).natAbs ≤ 2 ^ 150
  t : Fin .f32 T
  t0 : 0 ≤ fv .f32 T
  t1 : fv .f32 T ≤ 2 ^ 149

structure Tm (x : Int) : Prop where
  fin : Fin .f32 x
  ge : 0 ≤ fv .f32 x
  le : fv .f32 x ≤ 2 ^ 153
theorem Tm.bd {x : Int} (h : Tm x) : Bd .f32 (2 ^ 153) x := ⟨h.fin, by have := h.ge; have := h.le; omega⟩

def gA (A V P x : Int) : Int := real.bin .sub .f32 (real.bin .add .f32 A (real.bin .mul .f32 x V)) (real.bin .mul .f32 (real.bin .mul .f32 (real.bin .quo .f32 P 1073741824) x) x)
def gS (V P x : Int) : Int := real.bin .sub .f32 V (real.bin .mul .f32 P x)
def gT (T x : Int) : Int := real.bin .add .f32 T x
def hA (S R u : Int) : Int := real.bin .mul .f32 S (sineV (real.bin .mul .f32 R u))

section
variable {S R K P A V T x x' : Int} (D : Draw S R K P A V T)
include D
theorem Draw.sb : Bd .f32 (2 ^ 147) S := ⟨D.s, by have := D.s0; have := D.s1; omega⟩
theorem Draw.rb : Bd .f32 (2 ^ 150) R := ⟨D.r, by have := D.r0; have := D.r1; omega⟩
theorem Draw.kb : Bd .f32 (2 ^ 149) K := ⟨D.k, by have := D.k0; have := D.k1; omega⟩
theorem Draw.pb : Bd .f32 (2 ^ 151) P := ⟨D.p, by have := D.p0; have := D.p1; omega⟩
theorem Draw.qb : Bd .f32 (2 ^ 150) (real.bin .quo .f32 P 1073741824) := ⟨D.q, by have := D.q0; have := D.p0; have := D.p1; omega⟩
theorem Draw.ab : Bd .f32 (2 ^ 150) A := ⟨D.a, by have := D.a0; have := D.a1; omega⟩
theorem Draw.vb : Bd .f32 (2 ^ 150) V := ⟨D.v, D.v1⟩
theorem Draw.tb : Bd .f32 (2 ^ 149) T := ⟨D.t, by have := D.t0; have := D.t1; omega⟩

theorem gA_parts (hx : Tm x) : Bd .f32 (2 ^ 154) (real.bin .mul .f32 x V) ∧ Bd .f32 (2 ^ 155) (real.bin .add .f32 A (real.bin .mul .f32 x V)) ∧ Bd .f32 (2 ^ 154) (real.bin .mul .f32 (real.bin .quo .f32 P 1073741824) x) ∧
    Bd .f32 (2 ^ 158) (real.bin .mul .f32 (real.bin .mul .f32 (real.bin .quo .f32 P 1073741824) x) x) ∧ Bd .f32 (2 ^ 159) (gA A V P x) := by
  have m1 := (mul32 130 hx.bd D.vb (by decide +kernel) (by omega)).1
  have m1' := m1.mono (show 2 ^ 130 * 2 ^ 24 ≤ 2 ^ 154 by decide +kernel)
  have m2 := (add32 131 D.ab m1' (by decide +kernel) (by omega)).1.mono (show 2 ^ 131 * 2 ^ 24 ≤ 2 ^ 155 by decide +kernel)
  have q1 := (mul32 130 D.qb hx.bd (by decide +kernel) (by omega)).1.mono (show 2 ^ 130 * 2 ^ 24 ≤ 2 ^ 154 by decide +kernel)
  have q2 := (mul32 134 q1 hx.bd (by decide +kernel) (by omega)).1.mono (show 2 ^ 134 * 2 ^ 24 ≤ 2 ^ 158 by decide +kernel)
  exact ⟨m1', m2, q1, q2, (sub32 135 m2 q2 (by decide +kernel) (by omega)).1.mono (show 2 ^ 135 * 2 ^ 24 ≤ 2 ^ 159 by decide +kernel)⟩

theorem gS_bd (hx : Tm x) : Bd .f32 (2 ^ 156) (gS V P x) := by
  have m1 := (mul32 131 D.pb hx.bd (by decide +kernel) (by omega)).1.mono (show 2 ^ 131 * 2 ^ 24 ≤ 2 ^ 155 by decide +kernel)
  exact (sub32 132 D.vb m1 (by decide +kernel) (by omega)).1.mono (show 2 ^ 132 * 2 ^ 24 ≤ 2 ^ 156 by decide +kernel)

theorem gT_bd (hx : Tm x) : Bd .f32 (2 ^ 154) (gT T x) ∧ 0 ≤ fv .f32 (gT T x) :=
  ⟨(add32 130 D.tb hx.bd (by decide +kernel) (by omega)).1.mono (show 2 ^ 130 * 2 ^ 24 ≤ 2 ^ 154 by decide +kernel), add_nonneg D.t hx.fin D.t0 hx.ge⟩

theorem arg_bd {u : Int} (hu : Bd .f32 (2 ^ 154) u) (h0 : 0 ≤ fv .f32 u) : Bd .f32 (2 ^ 155) (real.bin .mul .f32 R u) ∧ 0 ≤ fv .f32 (real.bin .mul .f32 R u) :=
  ⟨(mul32 131 D.rb hu (by decide +kernel) (by omega)).1.mono (show 2 ^ 131 * 2 ^ 24 ≤ 2 ^ 155 by decide +kernel), mul_nonneg D.r hu.1 D.r0 h0⟩

theorem hA_bd {u : Int} (hu : Bd .f32 (2 ^ 154) u) (h0 : 0 ≤ fv .f32 u) : Bd .f32 (30 * 2 ^ 143) (hA S R u) ∧ Pure.impl_SineTurns_ok real (real.bin .mul .f32 R u) = true ∧ Pure.impl_SineTurns real (real.bin .mul .f32 R u) = sineV (real.bin .mul .f32 R u) ∧ Bd .f32 (29 * 2 ^ 145) (sineV (real.bin .mul .f32 R u)) := by
  obtain ⟨a1, a2⟩ := arg_bd D hu h0
  have a3 : fv .f32 (real.bin .mul .f32 R u) ≤ 2 ^ 156 := by have := a1.2; omega
  obtain ⟨v1, v2⟩ := sine_val a1.1 a2 a3
  have sb := sineV_bound a1.1 a2 a3
  refine ⟨?_, v1, v2, sb⟩
  obtain ⟨h1, h2⟩ := mul32 124 D.sb sb (by decide +kernel) (by omega)
  refine ⟨h1.1, ?_⟩
  have hp : (fv .f32 S * fv .f32 (sineV (real.bin .mul .f32 R u))).natAbs ≤ 2 ^ 147 * (29 * 2 ^ 145) := by rw [Int.natAbs_mul]; exact Nat.mul_le_mul D.sb.2 sb.2
  unfold hA
  omega

omit D in
theorem finite1 {a b : Int} (ha : Fin .f32 a) (hb : Fin .f32 b) : Pure.impl_finite_ok real [[a], [b]] = true ∧ Pure.impl_finite real [[a], [b]] = true := by
  obtain ⟨f1, f2⟩ := impl_finite_eq [[a], [b]] (by simp)
  refine ⟨f1, ?_⟩
  rw [f2]
  simp only [List.all_cons, List.all_nil, List.getD_cons_zero, isFin ha, isFin hb, Bool.and_self]
omit D in
theorem finite3 {a b c : Int} (ha : Fin .f32 a) (hb : Fin .f32 b) (hc : Fin .f32 c) : Pure.impl_finite_ok real [[a], [b], [c]] = true ∧ Pure.impl_finite real [[a], [b], [c]] = true := by
  obtain ⟨f1, f2⟩ := impl_finite_eq [[a], [b], [c]] (by simp)
  refine ⟨f1, ?_⟩
  rw [f2]
  simp only [List.all_cons, List.all_nil, List.getD_cons_zero, isFin ha, isFin hb, isFin hc, Bool.and_self]

theorem valid_is : Pure.impl_ValidTable_ok real S R K P = true ∧ Pure.impl_ValidTable real S R K P = true := by
  obtain ⟨f1, f2⟩ := finite1 D.s D.r
  obtain ⟨o1, o2⟩ : Fin .f32 1065353216 ∧ fv .f32 1065353216 = 2 ^ 149 := ⟨⟨by decide, by decide +kernel, by decide +kernel⟩, by decide +kernel⟩
  obtain ⟨z1, z2⟩ := fin_zero .f32
  have c1 : Pure.impl_shareOk real K = true := by
    unfold Pure.impl_shareOk
    rw [cmp_geq D.k.toNum z1.toNum, cmp_leq D.k.toNum o1.toNum, z2, o2, decide_eq_true D.k0, decide_eq_true D.k1]; rfl
  have c2 : Pure.impl_lengthOk real P = true := by
    unfold Pure.impl_lengthOk
    rw [isFin D.p, cmp_gtr D.p.toNum z1.toNum, z2, decide_eq_true (by have := D.p0; omega)]; rfl
  unfold Pure.impl_ValidTable_ok Pure.impl_ValidTable
  rw [f1, f2, c1, c2]
  exact ⟨rfl, rfl⟩

theorem fall_gen {a v t : Int} (ha : Fin .f32 a) (hv : Fin .f32 v) (ht : Fin .f32 t) : Pure.impl_fallOk_ok real S R K P a v t = true ∧ Pure.impl_fallOk real S R K P a v t = true := by
  obtain ⟨v1, v2⟩ := valid_is D
  obtain ⟨f1, f2⟩ := finite3 ha hv ht
  unfold Pure.impl_fallOk_ok Pure.impl_fallOk
  rw [v1, v2, f1, f2]
  exact ⟨rfl, rfl⟩

theorem fly_gen {a v t x : Int} (ha : Fin .f32 a) (hv : Fin .f32 v) (ht : Fin .f32 t) (hx : Fin .f32 x) (h1 : Fin .f32 (gA a v P x)) (h2 : Fin .f32 (gS v P x)) (h3 : Fin .f32 (gT t x)) :
    Pure.impl_FlyFall_ok real S R K P a v t x = true ∧ Pure.impl_FlyFall_3 real S R K P a v t x = true ∧ Pure.impl_FlyFall real S R K P a v t x = gA a v P x ∧ Pure.impl_FlyFall_1 real S R K P a v t x = gS v P x ∧ Pure.impl_FlyFall_2 real S R K P a v t x = gT t x := by
  obtain ⟨f1, f2⟩ := fall_gen D ha hv ht
  obtain ⟨g1, g2⟩ := finite3 h1 h2 h3
  unfold gA gS gT at *
  unfold Pure.impl_FlyFall_ok Pure.impl_FlyFall_3 Pure.impl_FlyFall Pure.impl_FlyFall_1 Pure.impl_FlyFall_2
  rw [f1, f2, isFin hx, g1, g2]
  exact ⟨rfl, rfl, rfl, rfl, rfl⟩

theorem fly_is (hx : Tm x) : Pure.impl_FlyFall_ok real S R K P A V T x = true ∧ Pure.impl_FlyFall_3 real S R K P A V T x = true ∧ Pure.impl_FlyFall real S R K P A V T x = gA A V P x ∧ Pure.impl_FlyFall_1 real S R K P A V T x = gS V P x ∧ Pure.impl_FlyFall_2 real S R K P A V T x = gT T x :=
  fly_gen D D.a D.v D.t hx.fin (gA_parts D hx).2.2.2.2.1 (gS_bd D hx).1 (gT_bd D hx).1.1

theorem table_is {u : Int} (hu : Bd .f32 (2 ^ 154) u) (h0 : 0 ≤ fv .f32 u) : Pure.impl_TableAt_ok real S R K P u = true ∧ Pure.impl_TableAt_1 real S R K P u = true ∧ Pure.impl_TableAt real S R K P u = hA S R u := by
  obtain ⟨v1, v2⟩ := valid_is D
  obtain ⟨h1, h2, h3, _⟩ := hA_bd D hu h0
  unfold Pure.impl_TableAt_ok Pure.impl_TableAt_1 Pure.impl_TableAt Pure.impl_toldNumber
  rw [v1, v2, isFin hu.1, h2, h3]
  unfold hA at *
  rw [isFin h1.1]
  exact ⟨rfl, rfl, rfl⟩

theorem under_is (hx : Tm x) : Pure.impl_under_ok real S R K P A V T x = true ∧ Pure.impl_under_1 real S R K P A V T x = true ∧ Pure.impl_under real S R K P A V T x = decide (fv .f32 (gA A V P x) < fv .f32 (hA S R (gT T x))) := by
  obtain ⟨f1, f2, f3, f4, f5⟩ := fly_is D hx
  obtain ⟨u1, u2⟩ := gT_bd D hx
  obtain ⟨t1, t2, t3⟩ := table_is D u1 u2
  unfold Pure.impl_under_ok Pure.impl_under_1 Pure.impl_under
  rw [f1, f2, f3, f5, t1, t2, t3]
  refine ⟨rfl, rfl, cmp_lss (gA_parts D hx).2.2.2.2.1.toNum (hA_bd D u1 u2).1.1.toNum⟩
end
end Go.Fx
