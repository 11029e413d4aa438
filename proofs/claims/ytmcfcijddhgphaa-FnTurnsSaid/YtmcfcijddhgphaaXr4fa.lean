import Derived.Test.YtmcfcijddhgphaaXr4m
import Derived.Test.YtmcfcijddhgphaaF3
import Derived.Test.YtmcfcijddhgphaaF4
namespace Go.Fx
set_option maxRecDepth 100000
theorem index_finite (xs : List (List Int)) (hl : xs.length < 4611686018427387904) : ∀ (n : Nat) (i : Nat), i ≤ xs.length → xs.length - i < n →
    (Pure.slices_IndexFunc_float32_float32_finite_L0 real xs.length xs n i).1 = true ∧
    (Pure.slices_IndexFunc_float32_float32_finite_L0 real xs.length xs n i).2.1 = ((xs.drop i).any fun r => Pure.impl_finite_c1 real (r.getD 0 0)) ∧
    0 ≤ (Pure.slices_IndexFunc_float32_float32_finite_L0 real xs.length xs n i).2.2 := by
  intro n
  induction n with
  | zero => intro i _ h; omega
  | succ n ih =>
    intro i hi hn
    unfold Pure.slices_IndexFunc_float32_float32_finite_L0
    have e0 : decide (0 ≤ (i : Int)) = true := by simp
    rcases Nat.lt_or_ge i xs.length with h | h
    · have e1 : decide ((i : Int) < (xs.length : Int)) = true := by simp; exact h
      have e2 : Decidable.decide ((i : Int) < Int.ofNat xs.length) = true := e1
      rw [e1, e0, e2]
      simp only [cond_true, Int.toNat_natCast]
      have hd : xs.drop i = xs[i] :: xs.drop (i + 1) := List.drop_eq_getElem_cons h
      rw [hd]
      simp only [List.any_cons]
      rw [getD_some h]
      cases Pure.impl_finite_c1 real (xs[i].getD 0 0) with
      | true => simp
      | false =>
        simp only [cond_false, Bool.false_or]
        rw [wrap64 (by omega) (by omega)]
        have := ih (i + 1) (by omega) (by omega)
        simpa using this
    · have e1 : decide ((i : Int) < (xs.length : Int)) = false := by simp; exact h
      rw [e1]
      have : xs.drop i = [] := List.drop_eq_nil_of_le h
      simp [this]

theorem impl_finite_eq (xs : List (List Int)) (hl : xs.length < 4611686018427387904) : Pure.impl_finite_ok real xs = true ∧ Pure.impl_finite real xs = xs.all fun r => Pure.impl_IsFinite real (r.getD 0 0) := by
  obtain ⟨h1, h2, h3⟩ := index_finite xs hl (xs.length + 1) 0 (Nat.zero_le _) (by omega)
  unfold Pure.impl_finite_ok Pure.impl_finite Pure.slices_ContainsFunc_float32_float32_finite_ok Pure.slices_ContainsFunc_float32_float32_finite Pure.slices_IndexFunc_float32_float32_finite_ok Pure.slices_IndexFunc_float32_float32_finite
  refine ⟨h1, ?_⟩
  have e : xs.all (fun r => Pure.impl_IsFinite real (r.getD 0 0)) = !((xs.drop 0).any fun r => Pure.impl_finite_c1 real (r.getD 0 0)) := by
    unfold Pure.impl_finite_c1
    rw [List.drop_zero, List.all_eq_not_any_not]
    have e2 : ∀ b : Bool, (bif b then false else true) = !b := fun b => by cases b <;> rfl
    simp only [e2]
  rw [e, ← h2]
  change (bif decide ((bif (Pure.slices_IndexFunc_float32_float32_finite_L0 real xs.length xs (xs.length + 1) 0).2.1 then (Pure.slices_IndexFunc_float32_float32_finite_L0 real xs.length xs (xs.length + 1) 0).2.2 else -1) ≥ 0) then false else true) = _
  change 0 ≤ (Pure.slices_IndexFunc_float32_float32_finite_L0 real xs.length xs (xs.length + 1) 0).2.2 at h3
  generalize (Pure.slices_IndexFunc_float32_float32_finite_L0 real xs.length xs (xs.length + 1) ((0 : Nat) : Int)) = r at *
  change (bif decide ((bif r.2.1 then r.2.2 else -1) ≥ 0) then false else true) = _
  cases hr : r.2.1 with
  | true => simp only [cond_true]; rw [decide_eq_true h3]; rfl
  | false => rfl

def q (n : Int) : Int := real.bin .quo .f32 (real.ofInt .f32 n) 1115684864
def E (n x : Int) : Prop := Fin .f32 x ∧ fv .f32 x = n * (2 ^ 143 : Nat)
def Hq (x : Int) : Int := bif real.cmp .gtr .f32 x 1056964608 then real.bin .sub .f32 x 1065353216 else bif real.cmp .leq .f32 x 3204448256 then real.bin .add .f32 x 1065353216 else x
def nrm (k : Int) : Int := if k > 32 then k - 64 else if k ≤ -32 then k + 64 else k

def finB (x : Int) : Bool := decide (0 ≤ x) && decide (x.toNat < 2 * FloatKind.f32.format.signWeight) && decide (rg .f32 x < FloatKind.f32.format.infRung)
theorem finB_fin {x : Int} (h : finB x = true) : Fin .f32 x := by
  unfold finB at h
  simp only [Bool.and_eq_true, decide_eq_true_eq] at h
  exact ⟨h.1.1, h.1.2, h.2⟩
def oneB (n : Int) : Bool := finB (q n) && decide (fv .f32 (q n) = n * (2 ^ 143 : Nat)) && Pure.impl_IsFinite real (q n) && Pure.impl_WrapTurn_ok real (q n) && decide (Pure.impl_WrapTurn real (q n) = q (n % 64))
theorem one1 : (List.range 320).all (fun j => oneB ((j : Int) - 320)) = true := by decide +kernel
theorem one2 : (List.range 321).all (fun j => oneB (j : Int)) = true := by decide +kernel
theorem all_range {n : Nat} {p : Nat → Bool} (h : (List.range n).all p = true) {j : Nat} (hj : j < n) : p j = true := by
  rw [List.all_eq_true] at h
  exact h j (List.mem_range.2 hj)
theorem one_at {n : Int} (h1 : -320 ≤ n) (h2 : n ≤ 320) : oneB n = true := by
  by_cases h : n < 0
  · have := all_range one1 (j := (n + 320).toNat) (by omega)
    have e : (((n + 320).toNat : Nat) : Int) - 320 = n := by omega
    rw [e] at this
    exact this
  · have := all_range one2 (j := n.toNat) (by omega)
    have e : ((n.toNat : Nat) : Int) = n := by omega
    rw [e] at this
    exact this
theorem one_is {n : Int} (h1 : -320 ≤ n) (h2 : n ≤ 320) : E n (q n) ∧ Pure.impl_IsFinite real (q n) = true ∧ Pure.impl_WrapTurn_ok real (q n) = true ∧ Pure.impl_WrapTurn real (q n) = q (n % 64) := by
  have h := one_at h1 h2
  unfold oneB at h
  simp only [Bool.and_eq_true, decide_eq_true_eq] at h
  exact ⟨⟨finB_fin h.1.1.1.1, h.1.1.1.2⟩, h.1.1.2, h.1.2, h.2⟩

theorem E.has {n : Int} (h1 : -320 ≤ n) (h2 : n ≤ 320) : Has .f32 (n * (2 ^ 143 : Nat)) := ⟨q n, (one_is h1 h2).1.1, (one_is h1 h2).1.2⟩
theorem E.add {n m x y : Int} (hx : E n x) (hy : E m y) (h1 : -320 ≤ n + m) (h2 : n + m ≤ 320) : E (n + m) (real.bin .add .f32 x y) := by
  have := (add_rounds hx.1 hy.1).exact (E.has h1 h2) (by rw [hx.2, hy.2, Int.add_mul, show ((1 : Nat) : Int) = 1 from rfl, Int.mul_one])
  exact this
theorem E.sub {n m x y : Int} (hx : E n x) (hy : E m y) (h1 : -320 ≤ n - m) (h2 : n - m ≤ 320) : E (n - m) (real.bin .sub .f32 x y) := by
  have := (sub_rounds hx.1 hy.1).exact (E.has h1 h2) (by rw [hx.2, hy.2, Int.sub_mul, show ((1 : Nat) : Int) = 1 from rfl, Int.mul_one])
  exact this
theorem E.inj {n x y : Int} (hx : E n x) (hy : E n y) (h : n ≠ 0) : x = y := by
  refine hx.1.toNum.fv_inj hy.1.toNum (by rw [hx.2, hy.2]) ?_
  rw [hx.2]
  have : (0 : Int) < (2 ^ 143 : Nat) := by decide
  exact Int.mul_ne_zero h (by omega)
theorem E_three : E 192 1077936128 := ⟨⟨by decide, by decide +kernel, by decide +kernel⟩, by decide +kernel⟩

theorem zero_add : (List.range 64).all (fun j => decide (real.bin .add .f32 (q (31 - (j : Int))) (q ((j : Int) - 31)) = q 0)) = true := by decide +kernel
theorem zero_sub : (List.range 64).all (fun j => decide (real.bin .sub .f32 (q (j : Int)) (q (j : Int)) = q 0)) = true := by decide +kernel

def twoB (k : Int) : Bool := decide (Hq (q k) = q (nrm k)) && !real.cmp .leq .f32 (q (nrm k)) 3204448256 && !real.cmp .gtr .f32 (q (nrm k)) 1056964608 &&
  (bif real.cmp .neq .f32 (q (nrm k)) 1056964608 then !real.cmp .neq .f32 (q (nrm k)) (real.neg .f32 (q (nrm (-k)))) && !real.cmp .eql .f32 (q (nrm k)) 1056964608 else !real.cmp .neq .f32 (q (nrm (-k))) 1056964608)
theorem two1 : (List.range 127).all (fun j => twoB ((j : Int) - 63)) = true := by decide +kernel
theorem two_at {k : Int} (h1 : -63 ≤ k) (h2 : k ≤ 63) : twoB k = true := by
  have := all_range two1 (j := (k + 63).toNat) (by omega)
  have e : (((k + 63).toNat : Nat) : Int) - 63 = k := by omega
  rw [e] at this
  exact this

def lowB (c : Int) : Bool := !real.cmp .lss .f32 (q c) 0 && !real.cmp .geq .f32 (q c) 1065353216 && !real.cmp .neq .f32 (q c) (q c)
theorem low1 : (List.range 64).all (fun j => lowB (j : Int)) = true := by decide +kernel

def kickB (n : Int) : Bool := Pure.impl_WrapKick_ok real (q n) && !real.cmp .lss .f32 (Pure.impl_WrapKick real (q n)) 3204448256 && !real.cmp .geq .f32 (Pure.impl_WrapKick real (q n)) 1056964608 &&
  real.cmp .eql .f64 (real.bin .sub .f64 (real.conv .f32 .f64 (q n)) (real.conv .f32 .f64 (Pure.impl_WrapKick real (q n)))) (real.ofInt .f64 (real.toInt .f64 .i64 (real.bin .sub .f64 (real.conv .f32 .f64 (q n)) (real.conv .f32 .f64 (Pure.impl_WrapKick real (q n)))))) &&
  real.toIntOk .f64 .i64 (real.bin .sub .f64 (real.conv .f32 .f64 (q n)) (real.conv .f32 .f64 (Pure.impl_WrapKick real (q n))))
theorem kick1 : (List.range 257).all (fun j => kickB ((j : Int) - 128)) = true := by decide +kernel
end Go.Fx
