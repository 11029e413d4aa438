import Derived.Test.YtfefhcbffepdlaaXr6g
import Derived.Test.YtfefhcbffepdlaaF3
import Derived.Test.YtfefhcbffepdlaaXWrap
namespace Go.Fx
def Wh (x n : Int) : Prop := Fin .f32 x ∧ fv .f32 x = n * unit .f32
theorem Wh.ofInt {n : Int} (h : n.natAbs ≤ 16777216) : Wh (real.ofInt .f32 n) n := by
  have hb : FloatKind.f32.format.binade = 8388608 := by decide
  exact ofInt_fv (k := .f32) (n := n) (by rw [hb]; omega)
theorem has_wh {n : Int} (h : n.natAbs ≤ 16777216) : Has .f32 (n * unit .f32) := ⟨_, (Wh.ofInt h).1, (Wh.ofInt h).2⟩
theorem Wh.add {x y a b : Int} (hx : Wh x a) (hy : Wh y b) (h : (a + b).natAbs ≤ 16777216) : Wh (real.bin .add .f32 x y) (a + b) :=
  (add_rounds hx.1 hy.1).exact (has_wh h) (by rw [hx.2, hy.2, Int.add_mul]; simp)
theorem Wh.sub {x y a b : Int} (hx : Wh x a) (hy : Wh y b) (h : (a - b).natAbs ≤ 16777216) : Wh (real.bin .sub .f32 x y) (a - b) :=
  (sub_rounds hx.1 hy.1).exact (has_wh h) (by rw [hx.2, hy.2, Int.sub_mul]; simp)
theorem Wh.mul {x y a b : Int} (hx : Wh x a) (hy : Wh y b) (h : (a * b).natAbs ≤ 16777216) : Wh (real.bin .mul .f32 x y) (a * b) :=
  (mul_rounds hx.1 hy.1).exact (has_wh h) (by rw [hx.2, hy.2]; simp only [Int.mul_assoc, Int.mul_left_comm, Int.mul_comm])
theorem Wh.neg {x a : Int} (hx : Wh x a) : Wh (real.neg .f32 x) (-a) := by
  obtain ⟨h1, h2⟩ := neg_fin hx.1
  exact ⟨h1, by rw [h2, hx.2, Int.neg_mul]⟩
theorem unit_ne : (unit .f32 : Int) ≠ 0 := by have := unit_pos .f32; omega
theorem Wh.inj {x a b : Int} (h : Wh x a) (h2 : Wh x b) : a = b := by
  have e := h.2
  rw [h2.2] at e
  exact (Int.eq_of_mul_eq_mul_right unit_ne e).symm
theorem Wh.eql {x y a b : Int} (hx : Wh x a) (hy : Wh y b) (h : a = b) : real.cmp .eql .f32 x y = true := by
  rw [cmp_eql hx.1.toNum hy.1.toNum, hx.2, hy.2, h]; simp
theorem Wh.neq {x y a b : Int} (hx : Wh x a) (hy : Wh y b) (h : a = b) : real.cmp .neq .f32 x y = false := by
  rw [cmp_neq hx.1.toNum hy.1.toNum, hx.2, hy.2, h]; simp
theorem Wh.ne0 {x a : Int} (hx : Wh x a) (h : a ≠ 0) : real.cmp .neq .f32 x 0 = true := by
  obtain ⟨z1, z2⟩ := f32_zero
  rw [cmp_neq hx.1.toNum z1.toNum, hx.2, z2]
  have : a * (unit .f32 : Int) ≠ 0 := Int.mul_ne_zero h unit_ne
  simp [this]
theorem Wh.zero : Wh 0 0 := ⟨f32_zero.1, by rw [f32_zero.2]; simp⟩
theorem Wh.one : Wh 1065353216 1 := ⟨f32_one.1, by rw [f32_one.2]; simp⟩
theorem Wh.mone : Wh 3212836864 (-1) := ⟨⟨by decide, by decide +kernel, by decide +kernel⟩, by decide +kernel⟩
theorem Wh.word {x a : Int} (hx : Wh x a) (h0 : a ≠ 0) (h : a.natAbs ≤ 16777216) : x = real.ofInt .f32 a := by
  have h2 := Wh.ofInt h
  refine hx.1.toNum.fv_inj h2.1.toNum (by rw [hx.2, h2.2]) ?_
  rw [hx.2]; exact Int.mul_ne_zero h0 unit_ne

structure Q where
  w : Int
  x : Int
  y : Int
  z : Int
def Q.mul (a b : Q) : Q := ⟨a.w * b.w - a.x * b.x - a.y * b.y - a.z * b.z, a.w * b.x + a.x * b.w + a.y * b.z - a.z * b.y, a.w * b.y - a.x * b.z + a.y * b.w + a.z * b.x, a.w * b.z + a.x * b.y - a.y * b.x + a.z * b.w⟩
def Q.conj (a : Q) : Q := ⟨a.w, -a.x, -a.y, -a.z⟩
def Q.n (a : Q) : Int := a.w * a.w + a.x * a.x + a.y * a.y + a.z * a.z
theorem Q.ext' {a b : Q} (h0 : a.w = b.w) (h1 : a.x = b.x) (h2 : a.y = b.y) (h3 : a.z = b.z) : a = b := by
  cases a; cases b; simp_all
theorem Q.assoc (a b c : Q) : (a.mul b).mul c = a.mul (b.mul c) := by
  obtain ⟨a0, a1, a2, a3⟩ := a
  obtain ⟨b0, b1, b2, b3⟩ := b
  obtain ⟨c0, c1, c2, c3⟩ := c
  apply Q.ext' <;> simp only [Q.mul, Int.mul_add, Int.mul_sub, Int.add_mul, Int.sub_mul, Int.mul_assoc] <;> omega
theorem Q.conj_mul (a b : Q) : (a.mul b).conj = b.conj.mul a.conj := by
  obtain ⟨a0, a1, a2, a3⟩ := a
  obtain ⟨b0, b1, b2, b3⟩ := b
  apply Q.ext' <;> simp only [Q.mul, Q.conj, Int.mul_neg, Int.neg_mul, Int.neg_neg, Int.mul_comm b0, Int.mul_comm b1, Int.mul_comm b2, Int.mul_comm b3] <;> omega
theorem Q.mul_conj (a : Q) : a.mul a.conj = ⟨a.n, 0, 0, 0⟩ := by
  obtain ⟨a0, a1, a2, a3⟩ := a
  apply Q.ext' <;> simp only [Q.mul, Q.conj, Q.n, Int.mul_neg]
  · omega
  · rw [Int.mul_comm a1 a0, Int.mul_comm a3 a2]; omega
  · rw [Int.mul_comm a2 a0, Int.mul_comm a3 a1]; omega
  · rw [Int.mul_comm a3 a0, Int.mul_comm a2 a1]; omega
theorem Q.n_mul (a b : Q) : (a.mul b).n = a.n * b.n := by
  have h1 := Q.mul_conj (a.mul b)
  have h2 : (a.mul b).mul (a.mul b).conj = a.mul ((Q.mk b.n 0 0 0).mul a.conj) := by
    rw [Q.conj_mul, Q.assoc, ← Q.assoc b, Q.mul_conj]
  rw [h2] at h1
  have h3 := congrArg Q.w h1
  have h4 : (a.mul ((Q.mk b.n 0 0 0).mul a.conj)).w = a.n * b.n := by
    generalize b.n = s
    obtain ⟨a0, a1, a2, a3⟩ := a
    simp only [Q.mul, Q.conj, Q.n, Int.zero_mul, Int.mul_neg, Int.sub_zero, Int.add_zero, Int.zero_sub, Int.zero_add, Int.neg_zero, Int.add_mul]
    have e : ∀ u : Int, u * (s * u) = u * u * s := fun u => by rw [Int.mul_comm s u, Int.mul_assoc]
    rw [e, e, e, e]; omega
  rw [h4] at h3
  exact h3.symm

structure WQ (x0 x1 x2 x3 : Int) (q : Q) (B : Nat) : Prop where
  h0 : Wh x0 q.w
  h1 : Wh x1 q.x
  h2 : Wh x2 q.y
  h3 : Wh x3 q.z
  b0 : q.w.natAbs ≤ B
  b1 : q.x.natAbs ≤ B
  b2 : q.y.natAbs ≤ B
  b3 : q.z.natAbs ≤ B

theorem abs_mul {a b : Int} {B C : Nat} (ha : a.natAbs ≤ B) (hb : b.natAbs ≤ C) : (a * b).natAbs ≤ B * C := by
  rw [Int.natAbs_mul]; exact Nat.mul_le_mul ha hb

def Sgn (s t : Int) : Prop := Wh s t ∧ (t = 1 ∨ t = -1)
theorem sgn_one : Sgn 1065353216 1 := ⟨Wh.one, .inl rfl⟩
theorem sgn_mone : Sgn 3212836864 (-1) := ⟨Wh.mone, .inr rfl⟩
theorem Sgn.mul {s t p u : Int} (h : Sgn s t) (hp : Wh p u) (hu : u.natAbs ≤ 16777216) : Wh (real.bin .mul .f32 s p) (t * u) ∧ (t * u).natAbs = u.natAbs := by
  have e : (t * u).natAbs = u.natAbs := by rcases h.2 with rfl | rfl <;> simp
  exact ⟨h.1.mul hp (by rw [e]; exact hu), e⟩

theorem signed_is {x0 x1 x2 x3 x4 x5 x6 x7 s0 s1 s2 a0 a1 a2 a3 b0 b1 b2 b3 t0 t1 t2 n : Int} {B C : Nat} (h0 : Wh x0 a0) (h1 : Wh x1 a1) (h2 : Wh x2 a2) (h3 : Wh x3 a3) (h4 : Wh x4 b0) (h5 : Wh x5 b1) (h6 : Wh x6 b2) (h7 : Wh x7 b3)
    (g0 : Sgn s0 t0) (g1 : Sgn s1 t1) (g2 : Sgn s2 t2) (m0 : a0.natAbs ≤ B) (m1 : a1.natAbs ≤ B) (m2 : a2.natAbs ≤ B) (m3 : a3.natAbs ≤ B) (m4 : b0.natAbs ≤ C) (m5 : b1.natAbs ≤ C) (m6 : b2.natAbs ≤ C) (m7 : b3.natAbs ≤ C)
    (hBC : 4 * (B * C) ≤ 16777216) (hn : n = a0 * b0 + t0 * (a1 * b1) + t1 * (a2 * b2) + t2 * (a3 * b3)) :
    Wh (Pure.impl_signed real x0 x1 x2 x3 x4 x5 x6 x7 s0 s1 s2) n ∧ n.natAbs ≤ 4 * (B * C) := by
  have p0 := abs_mul m0 m4
  have p1 := abs_mul m1 m5
  have p2 := abs_mul m2 m6
  have p3 := abs_mul m3 m7
  have w0 := h0.mul h4 (by omega)
  have w1 := h1.mul h5 (by omega)
  have w2 := h2.mul h6 (by omega)
  have w3 := h3.mul h7 (by omega)
  obtain ⟨v1, e1⟩ := g0.mul w1 (by omega)
  obtain ⟨v2, e2⟩ := g1.mul w2 (by omega)
  obtain ⟨v3, e3⟩ := g2.mul w3 (by omega)
  subst hn
  generalize a0 * b0 = r0 at *
  generalize t0 * (a1 * b1) = r1 at *
  generalize t1 * (a2 * b2) = r2 at *
  generalize t2 * (a3 * b3) = r3 at *
  have u1 := w0.add v1 (by omega)
  have u2 := u1.add v2 (by omega)
  have u3 := u2.add v3 (by omega)
  exact ⟨u3, by omega⟩

theorem times_is {x0 x1 x2 x3 y0 y1 y2 y3 : Int} {a b : Q} {B C : Nat} (hx : WQ x0 x1 x2 x3 a B) (hy : WQ y0 y1 y2 y3 b C) (hBC : 4 * (B * C) ≤ 16777216) :
    WQ (Pure.impl_signed real x0 x1 x2 x3 y0 y1 y2 y3 3212836864 3212836864 3212836864) (Pure.impl_signed real x0 x1 x2 x3 y1 y0 y3 y2 1065353216 1065353216 3212836864) (Pure.impl_signed real x0 x1 x2 x3 y2 y3 y0 y1 3212836864 1065353216 1065353216) (Pure.impl_signed real x0 x1 x2 x3 y3 y2 y1 y0 1065353216 3212836864 1065353216) (a.mul b) (4 * (B * C)) := by
  obtain ⟨w1, w2⟩ := signed_is (n := (a.mul b).w) hx.h0 hx.h1 hx.h2 hx.h3 hy.h0 hy.h1 hy.h2 hy.h3 sgn_mone sgn_mone sgn_mone hx.b0 hx.b1 hx.b2 hx.b3 hy.b0 hy.b1 hy.b2 hy.b3 hBC (by simp only [Q.mul, Int.neg_mul, Int.one_mul]; omega)
  obtain ⟨v1, v2⟩ := signed_is (n := (a.mul b).x) hx.h0 hx.h1 hx.h2 hx.h3 hy.h1 hy.h0 hy.h3 hy.h2 sgn_one sgn_one sgn_mone hx.b0 hx.b1 hx.b2 hx.b3 hy.b1 hy.b0 hy.b3 hy.b2 hBC (by simp only [Q.mul, Int.neg_mul, Int.one_mul]; omega)
  obtain ⟨u1, u2⟩ := signed_is (n := (a.mul b).y) hx.h0 hx.h1 hx.h2 hx.h3 hy.h2 hy.h3 hy.h0 hy.h1 sgn_mone sgn_one sgn_one hx.b0 hx.b1 hx.b2 hx.b3 hy.b2 hy.b3 hy.b0 hy.b1 hBC (by simp only [Q.mul, Int.neg_mul, Int.one_mul]; omega)
  obtain ⟨t1, t2⟩ := signed_is (n := (a.mul b).z) hx.h0 hx.h1 hx.h2 hx.h3 hy.h3 hy.h2 hy.h1 hy.h0 sgn_one sgn_mone sgn_one hx.b0 hx.b1 hx.b2 hx.b3 hy.b3 hy.b2 hy.b1 hy.b0 hBC (by simp only [Q.mul, Int.neg_mul, Int.one_mul]; omega)
  exact ⟨w1, v1, u1, t1, w2, v2, u2, t2⟩

theorem back_is {x0 x1 x2 x3 : Int} {a : Q} {B : Nat} (h : WQ x0 x1 x2 x3 a B) : WQ x0 (real.neg .f32 x1) (real.neg .f32 x2) (real.neg .f32 x3) a.conj B :=
  ⟨h.h0, h.h1.neg, h.h2.neg, h.h3.neg, h.b0, by show (-a.x).natAbs ≤ B; rw [Int.natAbs_neg]; exact h.b1, by show (-a.y).natAbs ≤ B; rw [Int.natAbs_neg]; exact h.b2, by show (-a.z).natAbs ≤ B; rw [Int.natAbs_neg]; exact h.b3⟩

theorem prods_is {x0 x1 x2 x3 : Int} {a : Q} {B : Nat} (h : WQ x0 x1 x2 x3 a B) (hB : 4 * (B * B) ≤ 16777216) : Wh (Pure.impl_products real x0 x1 x2 x3 x0 x1 x2 x3) a.n ∧ a.n.natAbs ≤ 4 * (B * B) := by
  have p0 := abs_mul h.b0 h.b0
  have p1 := abs_mul h.b1 h.b1
  have p2 := abs_mul h.b2 h.b2
  have p3 := abs_mul h.b3 h.b3
  have w0 := h.h0.mul h.h0 (by omega)
  have w1 := h.h1.mul h.h1 (by omega)
  have w2 := h.h2.mul h.h2 (by omega)
  have w3 := h.h3.mul h.h3 (by omega)
  unfold Pure.impl_products Q.n
  generalize a.w * a.w = r0 at *
  generalize a.x * a.x = r1 at *
  generalize a.y * a.y = r2 at *
  generalize a.z * a.z = r3 at *
  exact ⟨((w0.add w1 (by omega)).add w2 (by omega)).add w3 (by omega), by omega⟩

theorem Q.n_pos {a : Q} (h : a.w ≠ 0 ∨ a.x ≠ 0 ∨ a.y ≠ 0 ∨ a.z ≠ 0) : 0 < a.n := by
  have sq : ∀ u : Int, 0 ≤ u * u := fun u => by rcases Int.le_total 0 u with h | h; exact Int.mul_nonneg h h; exact Int.mul_nonneg_of_nonpos_of_nonpos h h
  have sp : ∀ u : Int, u ≠ 0 → 0 < u * u := fun u hu => by
    have := sq u
    have : u * u ≠ 0 := Int.mul_ne_zero hu hu
    omega
  unfold Q.n
  have s0 := sq a.w; have s1 := sq a.x; have s2 := sq a.y; have s3 := sq a.z
  rcases h with h | h | h | h <;> have := sp _ h <;> omega
end Go.Fx
