/- Floats by canonical bits: every NaN is one value. Each operation of the model on floats gives, whatever the tape
answers, a float whose canonical bits are a plain function of the operands' canonical bits. -/
import Derived.Laws.FloatArith
import Derived.Deep.Draws
namespace Go.Fx

/-- The one NaN of a format. -/
def nanOf : FloatKind → Nat
  | .f32 => 2143289344
  | .f64 => 9221120237041090561

def isNaNb (k : FloatKind) (b : Nat) : Bool := (k.format.read b).isNaN

/-- Canonical bits. -/
def cf (k : FloatKind) (b : Nat) : Nat := if isNaNb k b then nanOf k else b

theorem isNaNb_nanOf (k : FloatKind) : isNaNb k (nanOf k) = true := by cases k <;> decide +kernel

theorem isNaNb_cf (k : FloatKind) (b : Nat) : isNaNb k (cf k b) = isNaNb k b := by
  unfold cf
  by_cases h : isNaNb k b = true
  · rw [if_pos h, isNaNb_nanOf, h]
  · rw [if_neg h]

theorem cf_of_nan {k : FloatKind} {b : Nat} (h : isNaNb k b = true) : cf k b = nanOf k := by unfold cf; rw [if_pos h]
theorem cf_of_num {k : FloatKind} {b : Nat} (h : isNaNb k b = false) : cf k b = b := by unfold cf; rw [if_neg (by simp [h])]
theorem cf_cf (k : FloatKind) (b : Nat) : cf k (cf k b) = cf k b := by
  by_cases h : isNaNb k b = true
  · rw [cf_of_nan h, cf_of_nan (isNaNb_nanOf k)]
  · have h' : isNaNb k b = false := by simpa using h
    rw [cf_of_num h', cf_of_num h']

/-! ### what is read of what is written -/
theorem infRung_pos (k : FloatKind) : k.format.infRung < k.format.signWeight := k.format.infRung_lt

theorem read_word_notNaN (k : FloatKind) (neg : Bool) (r : Nat) (h : r ≤ k.format.infRung) :
    (k.format.read (k.format.word neg r)).isNaN = false := by
  have hs := infRung_pos k
  have hm : k.format.word neg r % k.format.signWeight = r := by
    unfold Ieee.Format.word
    split
    · rw [Nat.add_mod_left, Nat.mod_eq_of_lt (by omega)]
    · exact Nat.mod_eq_of_lt (by omega)
  unfold Ieee.Format.read
  simp only [hm]
  split
  · rfl
  · split
    · rfl
    · split
      · rfl
      · omega

theorem nearest_notNaN (k : FloatKind) (neg : Bool) (m : Nat) (p : Int) : isNaNb k (k.format.nearest neg m p) = false := by
  unfold isNaNb Ieee.Format.nearest
  split
  · exact read_word_notNaN k neg 0 (Nat.zero_le _)
  · exact read_word_notNaN k neg _ (Nat.min_le_right ..)

theorem write_notNaN (k : FloatKind) (d : Ieee.Datum) (h : d.isNaN = false) : isNaNb k (k.format.write d) = false := by
  cases d with
  | number s m e => exact nearest_notNaN k s m e
  | infinity s => exact read_word_notNaN k s _ (Nat.le_refl _)
  | nan s t => simp [Ieee.Datum.isNaN] at h

theorem sum_notNaN {a b d : Ieee.Datum} (h : a.sum b = some d) : d.isNaN = false := by
  cases a <;> cases b <;> simp [Ieee.Datum.sum] at h
  · subst h; rfl
  · subst h; rfl
  · subst h; rfl
  · obtain ⟨_, rfl⟩ := h; rfl

theorem product_notNaN {a b d : Ieee.Datum} (h : a.product b = some d) : d.isNaN = false := by
  cases a <;> cases b <;> simp [Ieee.Datum.product] at h
  · subst h; rfl
  · obtain ⟨_, rfl⟩ := h; rfl
  · obtain ⟨_, rfl⟩ := h; rfl
  · subst h; rfl

theorem quotient_notNaN {n : Nat} {a b d : Ieee.Datum} (h : a.quotient n b = some d) : d.isNaN = false := by
  cases a <;> cases b <;> simp [Ieee.Datum.quotient] at h
  · split at h
    · split at h
      · cases h
      · cases h; rfl
    · cases h; rfl
  · subst h; rfl
  · subst h; rfl

theorem root_notNaN {n : Nat} {a d : Ieee.Datum} (h : a.root n = some d) : d.isNaN = false := by
  cases a <;> simp [Ieee.Datum.root] at h
  · split at h
    · cases h; rfl
    · split at h
      · cases h
      · cases h; rfl
  · obtain ⟨_, rfl⟩ := h; rfl

theorem floatBits_notNaN {op : BinOp} {k : FloatKind} {x y r : Nat} (h : floatBits op k x y = some r) : isNaNb k r = false := by
  unfold floatBits at h
  split at h
  · unfold Ieee.Format.add at h
    cases hs : (k.format.read x).sum (k.format.read y) with
    | none => simp [hs] at h
    | some d => simp [hs] at h; subst h; exact write_notNaN k d (sum_notNaN hs)
  · unfold Ieee.Format.sub at h
    cases hs : (k.format.read x).sum (k.format.read y).opposite with
    | none => simp [hs] at h
    | some d => simp [hs] at h; subst h; exact write_notNaN k d (sum_notNaN hs)
  · unfold Ieee.Format.mul at h
    cases hs : (k.format.read x).product (k.format.read y) with
    | none => simp [hs] at h
    | some d => simp [hs] at h; subst h; exact write_notNaN k d (product_notNaN hs)
  · unfold Ieee.Format.div at h
    cases hs : (k.format.read x).quotient (k.format.fractionBits + 2) (k.format.read y) with
    | none => simp [hs] at h
    | some d => simp [hs] at h; subst h; exact write_notNaN k d (quotient_notNaN hs)
  · cases h

/-! ### operands that are NaNs -/
theorem read_nan {k : FloatKind} {b : Nat} (h : isNaNb k b = true) : ∃ s t, k.format.read b = .nan s t := by
  unfold isNaNb at h
  cases hr : k.format.read b <;> simp [hr, Ieee.Datum.isNaN] at h
  exact ⟨_, _, rfl⟩

theorem floatBits_nan_left {op : BinOp} {k : FloatKind} {x y : Nat} (h : isNaNb k x = true) : floatBits op k x y = none := by
  obtain ⟨s, t, hr⟩ := read_nan h
  unfold floatBits
  split <;> simp [Ieee.Format.add, Ieee.Format.sub, Ieee.Format.mul, Ieee.Format.div, hr, Ieee.Datum.sum, Ieee.Datum.product, Ieee.Datum.quotient]

theorem floatBits_nan_right {op : BinOp} {k : FloatKind} {x y : Nat} (h : isNaNb k y = true) : floatBits op k x y = none := by
  obtain ⟨s, t, hr⟩ := read_nan h
  unfold floatBits
  split <;> simp [Ieee.Format.add, Ieee.Format.sub, Ieee.Format.mul, Ieee.Format.div, hr, Ieee.Datum.opposite] <;>
    cases k.format.read x <;> simp [Ieee.Datum.sum, Ieee.Datum.product, Ieee.Datum.quotient]

theorem floatBits_cf (op : BinOp) (k : FloatKind) (x y : Nat) : floatBits op k (cf k x) (cf k y) = floatBits op k x y := by
  by_cases hx : isNaNb k x = true
  · rw [floatBits_nan_left hx, floatBits_nan_left (by rw [isNaNb_cf, hx])]
  · have hx' : isNaNb k x = false := by simpa using hx
    by_cases hy : isNaNb k y = true
    · rw [floatBits_nan_right hy, floatBits_nan_right (by rw [isNaNb_cf, hy])]
    · have hy' : isNaNb k y = false := by simpa using hy
      rw [cf_of_num hx', cf_of_num hy']

theorem order_nan_left {k : FloatKind} {x y : Nat} (h : isNaNb k x = true) : k.format.order x y = none := by
  obtain ⟨s, t, hr⟩ := read_nan h
  simp [Ieee.Format.order, hr, Ieee.Datum.order]
theorem order_nan_right {k : FloatKind} {x y : Nat} (h : isNaNb k y = true) : k.format.order x y = none := by
  obtain ⟨s, t, hr⟩ := read_nan h
  unfold Ieee.Format.order
  rw [hr]
  cases k.format.read x <;> simp [Ieee.Datum.order]
theorem order_cf (k : FloatKind) (x y : Nat) : k.format.order (cf k x) (cf k y) = k.format.order x y := by
  by_cases hx : isNaNb k x = true
  · rw [order_nan_left hx, order_nan_left (by rw [isNaNb_cf, hx])]
  · have hx' : isNaNb k x = false := by simpa using hx
    by_cases hy : isNaNb k y = true
    · rw [order_nan_right hy, order_nan_right (by rw [isNaNb_cf, hy])]
    · have hy' : isNaNb k y = false := by simpa using hy
      rw [cf_of_num hx', cf_of_num hy']

/-! ### the operations, over whole numbers: canonical bits -/
/-- The operations on floats that the program's functions are told with. -/
structure FOps where
  bin : BinOp → FloatKind → Int → Int → Int
  cmp : BinOp → FloatKind → Int → Int → Bool
  neg : FloatKind → Int → Int
  ofInt : FloatKind → Int → Int
  toInt : FloatKind → IntKind → Int → Int
  toIntOk : FloatKind → IntKind → Int → Bool
  conv : FloatKind → FloatKind → Int → Int
  convOk : FloatKind → FloatKind → Int → Bool
  isNaN : FloatKind → Int → Bool
  ofBits : FloatKind → Int → Int
  abs : FloatKind → Int → Int
  integral : Ieee.Toward → Int → Int
  sqrt : Int → Int
  mx : FloatKind → Int → Int → Int
  mn : FloatKind → Int → Int → Int

def rBin (op : BinOp) (k : FloatKind) (x y : Int) : Int := ((floatBits op k x.toNat y.toNat).getD (nanOf k) : Nat)

def cmpOf (op : BinOp) (c : Option Ordering) : Bool :=
  match op with
  | .eql => c == some .eq
  | .neq => c != some .eq
  | .lss => c == some .lt
  | .leq => c == some .lt || c == some .eq
  | .gtr => c == some .gt
  | .geq => c == some .gt || c == some .eq
  | _ => false
def rCmp (op : BinOp) (k : FloatKind) (x y : Int) : Bool := cmpOf op (k.format.order x.toNat y.toNat)

def rNeg (k : FloatKind) (x : Int) : Int := (cf k (Op.negFloat k x.toNat) : Nat)

def rConv (s d : FloatKind) (x : Int) : Int :=
  if s = d then x else
  match s.decode x.toNat with
  | .nan _ _ => (nanOf d : Nat)
  | e => (d.encode e : Nat)
def rConvOk (s d : FloatKind) (x : Int) : Bool :=
  if s = d then true else
  match s.decode x.toNat with
  | .number g m e => !(d.decode (d.encode (.number g m e))).isInfinity
  | _ => true

def rToIntOk (s : FloatKind) (d : IntKind) (x : Int) : Bool := (floatToIntVal s x.toNat d).isSome
def rToInt (s : FloatKind) (d : IntKind) (x : Int) : Int := (floatToIntVal s x.toNat d).getD 0

/-- What the sign bit adds. -/
def rAbs (k : FloatKind) (x : Int) : Int := (cf k (x.toNat % k.format.signWeight) : Nat)

def rIntegral (way : Ieee.Toward) (x : Int) : Int :=
  match FloatKind.f64.decode x.toNat with
  | .nan _ _ => (nanOf .f64 : Nat)
  | d => (FloatKind.f64.encode (d.integral way) : Nat)

def rSqrt (x : Int) : Int := ((FloatKind.f64.format.sqrt x.toNat).getD (nanOf .f64) : Nat)

def rMn (k : FloatKind) (x y : Int) : Int :=
  match k.format.order x.toNat y.toNat with
  | none => (nanOf k : Nat)
  | some .lt => x
  | some .gt => y
  | some .eq => if (k.decode x.toNat).neg then x else y
def rMx (k : FloatKind) (x y : Int) : Int :=
  match k.format.order x.toNat y.toNat with
  | none => (nanOf k : Nat)
  | some .lt => y
  | some .gt => x
  | some .eq => if (k.decode x.toNat).neg then y else x

/-- The real operations. -/
def real : FOps where
  bin := rBin
  cmp := rCmp
  neg := rNeg
  ofInt k n := (k.nearest n : Nat)
  toInt := rToInt
  toIntOk := rToIntOk
  conv := rConv
  convOk := rConvOk
  isNaN k x := isNaNb k x.toNat
  ofBits k n := (cf k n.toNat : Nat)
  abs := rAbs
  integral := rIntegral
  sqrt := rSqrt
  mx := rMx
  mn := rMn

/-! ### what the model's operations give -/
section
variable {P : Program}

theorem run_choose (q : Question) (w : World) (h : q.forced = false) : (choose q).run P w = .ok (q.cut (w.tape w.drawn q)) w.drew := by
  simp only [choose, Sem.run, h, Bool.false_eq_true, if_false]
  rfl

theorem isNaNb_at32 (u v : Nat) (_hu : u < 2) (hv : v < 8388607) : isNaNb .f32 (u * 2147483648 + 2139095041 + v) = true := by
  have e1 : FloatKind.f32.format.signWeight = 2147483648 := by decide
  have e2 : FloatKind.f32.format.infRung = 2139095040 := by decide
  have e3 : FloatKind.f32.format.binade = 8388608 := by decide
  have hm : (u * 2147483648 + 2139095041 + v) % 2147483648 = 2139095041 + v := by omega
  unfold isNaNb Ieee.Format.read
  simp only [e1, e2, e3, hm]
  rw [if_neg (by omega), if_neg (by omega), if_neg (by omega)]
  rfl

theorem isNaNb_at64 (u v : Nat) (_hu : u < 2) (hv : v < 4503599627370495) : isNaNb .f64 (u * 9223372036854775808 + 9218868437227405313 + v) = true := by
  have e1 : FloatKind.f64.format.signWeight = 9223372036854775808 := by decide
  have e2 : FloatKind.f64.format.infRung = 9218868437227405312 := by decide
  have e3 : FloatKind.f64.format.binade = 4503599627370496 := by decide
  have hm : (u * 9223372036854775808 + 9218868437227405313 + v) % 9223372036854775808 = 9218868437227405313 + v := by omega
  unfold isNaNb Ieee.Format.read
  simp only [e1, e2, e3, hm]
  rw [if_neg (by omega), if_neg (by omega), if_neg (by omega)]
  rfl

theorem cut_nanBits (k : FloatKind) (x y t : Nat) : isNaNb k ((Question.nanBits k x y).cut t) = true := by
  cases k
  · have h : (Question.nanBits .f32 x y).cut t = (t % 2) * 2147483648 + 2139095041 + (t / 2) % 8388607 := by
      have h0 : (Question.nanBits .f32 x y).cut t = (t % 2) * 2 ^ 31 + 0x7f800000 + 1 + (t / 2) % (2 ^ 23 - 1) := rfl
      exact h0.trans (by omega)
    rw [h]
    exact isNaNb_at32 _ _ (Nat.mod_lt _ (by omega)) (Nat.mod_lt _ (by omega))
  · have h : (Question.nanBits .f64 x y).cut t = (t % 2) * 9223372036854775808 + 9218868437227405313 + (t / 2) % 4503599627370495 := by
      have h0 : (Question.nanBits .f64 x y).cut t = (t % 2) * 2 ^ 63 + 0x7ff0000000000000 + 1 + (t / 2) % (2 ^ 52 - 1) := rfl
      exact h0.trans (by omega)
    rw [h]
    exact isNaNb_at64 _ _ (Nat.mod_lt _ (by omega)) (Nat.mod_lt _ (by omega))

theorem cut_nanConv (k : FloatKind) (x t : Nat) : isNaNb k ((Question.nanConv k x).cut t) = true := by
  have := cut_nanBits k 0 0 t
  cases k <;> exact this
theorem cut_nanMinMax (k : FloatKind) (m : Bool) (x y t : Nat) : isNaNb k ((Question.nanMinMax k m x y).cut t) = true := by
  have := cut_nanBits k 0 0 t
  cases k <;> exact this

def isArith : BinOp → Bool
  | .add | .sub | .mul | .quo => true
  | _ => false
def isCmp : BinOp → Bool
  | .eql | .neq | .lss | .leq | .gtr | .geq => true
  | _ => false

theorem run_arith (op : BinOp) (t : TypeId) (k : FloatKind) (x y : Nat) (w : World) (ha : isArith op = true) :
    ∃ r n, (binOp op t (.float k x) (.float k y)).run P w = .ok (.float k r) (w.drewN n) ∧ (cf k r : Int) = rBin op k (cf k x) (cf k y) := by
  unfold rBin
  simp only [Int.toNat_natCast, floatBits_cf]
  cases h : floatBits op k x y with
  | some r => exact ⟨r, 0, run_float_arith w op t k x y r h, by rw [cf_of_num (floatBits_notNaN h)]; rfl⟩
  | none =>
    refine ⟨(Question.nanBits k x y).cut (w.tape w.drawn (.nanBits k x y)), 1, ?_, by rw [cf_of_nan (cut_nanBits ..)]; rfl⟩
    have hc := run_choose (P := P) (.nanBits k x y) w rfl
    unfold floatBits at h
    cases op <;> simp [isArith] at ha <;> simp only at h <;> simp [binOp, Op.floatArith, h, hc, World.drew_is_drewN]

theorem run_cmp (op : BinOp) (t : TypeId) (k : FloatKind) (x y : Nat) (w : World) (ha : isCmp op = true) :
    (binOp op t (.float k x) (.float k y)).run P w = .ok (.bool (rCmp op k (cf k x) (cf k y))) w := by
  unfold rCmp
  simp only [Int.toNat_natCast, order_cf]
  cases op <;> simp [isCmp] at ha <;> simp [binOp, Op.floatCmp, cmpOf]

theorem negFloat_nan (k : FloatKind) (b : Nat) : isNaNb k (Op.negFloat k b) = isNaNb k b := by
  unfold isNaNb Ieee.Format.read Op.negFloat Ieee.Format.signWeight
  have h : ∀ e, (b ^^^ 2 ^ e) % 2 ^ e = b % 2 ^ e := by
    intro e
    apply Nat.eq_of_testBit_eq
    intro i
    simp only [Nat.testBit_mod_two_pow, Nat.testBit_xor, Nat.testBit_two_pow]
    by_cases hi : i < e
    · simp [hi, show ¬ e = i by omega]
    · simp [hi]
  simp only [h]
  split
  · rfl
  · split
    · rfl
    · split <;> rfl

theorem run_neg (k : FloatKind) (b : Nat) (w : World) :
    ∃ r, (Op.unary .neg (.float k b)).run P w = .ok (.float k r) w ∧ (cf k r : Int) = rNeg k (cf k b) := by
  refine ⟨Op.negFloat k b, rfl, ?_⟩
  unfold rNeg
  simp only [Int.toNat_natCast]
  by_cases h : isNaNb k b = true
  · rw [cf_of_nan (by rw [negFloat_nan, h]), cf_of_nan (by rw [negFloat_nan, isNaNb_cf, h])]
  · rw [cf_of_num (b := b) (by simpa using h)]
end
end Go.Fx
