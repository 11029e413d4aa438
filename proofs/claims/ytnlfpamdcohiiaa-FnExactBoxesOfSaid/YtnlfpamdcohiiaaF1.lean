/- What the other texts of this claim stand on: an evaluator of loaded code, and floats. -/
import Derived.Laws.FloatArith
import Derived.Deep.Draws
import GoSem.Core.Machine
import Derived.Calls
import Derived.Orders
import Derived.Laws.Append
import Derived.Laws.AppendOwn
import Derived.Laws.Entries
import Derived.Laws.Cells
import Derived.Laws.CopyRow
import Derived.Laws.MakeOwn
import Derived.WideKeyArr
import Derived.MapKept
import Derived.Laws.Tables
import Derived.Laws.BitsAllLaws
import Derived.Laws.StructEq
/- Floats by canonical bits: every NaN is one value. Each operation of the model on floats gives, whatever the tape
answers, a float whose canonical bits are a plain function of the operands' canonical bits. -/
namespace Go.Fx

def nanOf : FloatKind → Nat
  | .f32 => 2143289344
  | .f64 => 9221120237041090561

def isNaNb (k : FloatKind) (b : Nat) : Bool := (k.format.read b).isNaN

def cf (k : FloatKind) (b : Nat) : Nat := if isNaNb k b then nanOf k else b

theorem isNaNb_nanOf (k : FloatKind) : isNaNb k (nanOf k) = true := by cases k <;> decide +kernel

theorem isNaNb_cf (k : FloatKind) (b : Nat) : isNaNb k (cf k b) = isNaNb k b := by
  unfold cf
  by_cases h : isNaNb k b = true
  · rw [if_pos h, isNaNb_nanOf, h]
  · rw [if_neg h]

theorem cf_of_nan {k : FloatKind} {b : Nat} (h : isNaNb k b = true) : cf k b = nanOf k := by unfold cf; rw [if_pos h]
theorem cf_of_num {k : FloatKind} {b : Nat} (h : isNaNb k b = false) : cf k b = b := by unfold cf; rw [if_neg (by simp [h])]
theorem infRung_pos (k : FloatKind) : k.format.infRung < k.format.signWeight := k.format.infRung_lt

theorem read_word_notNaN (k : FloatKind) (neg : Bool) (r : Nat) (h : r ≤ k.format.infRung) :
    (k.format.read (k.format.word neg r)).isNaN = false := by
  have hs := infRung_pos k
  have hm : k.format.word neg r % k.format.signWeight = r := by
    unfold Ieee.Format.word
    split
    · rw [Nat.add_mod_left, Nat.mod_eq_of_lt (by omega)]
    · exact Nat.mod_eq_of_lt (by omega)
  unfold Ieee.Format.read
  simp only [hm]
  split
  · rfl
  · split
    · rfl
    · split
      · rfl
      · omega

theorem nearest_notNaN (k : FloatKind) (neg : Bool) (m : Nat) (p : Int) : isNaNb k (k.format.nearest neg m p) = false := by
  unfold isNaNb Ieee.Format.nearest
  split
  · exact read_word_notNaN k neg 0 (Nat.zero_le _)
  · exact read_word_notNaN k neg _ (Nat.min_le_right ..)

theorem write_notNaN (k : FloatKind) (d : Ieee.Datum) (h : d.isNaN = false) : isNaNb k (k.format.write d) = false := by
  cases d with
  | number s m e => exact nearest_notNaN k s m e
  | infinity s => exact read_word_notNaN k s _ (Nat.le_refl _)
  | nan s t => simp [Ieee.Datum.isNaN] at h

theorem sum_notNaN {a b d : Ieee.Datum} (h : a.sum b = some d) : d.isNaN = false := by
  cases a <;> cases b <;> simp [Ieee.Datum.sum] at h
  · subst h; rfl
  · subst h; rfl
  · subst h; rfl
  · obtain ⟨_, rfl⟩ := h; rfl

theorem product_notNaN {a b d : Ieee.Datum} (h : a.product b = some d) : d.isNaN = false := by
  cases a <;> cases b <;> simp [Ieee.Datum.product] at h
  · subst h; rfl
  · obtain ⟨_, rfl⟩ := h; rfl
  · obtain ⟨_, rfl⟩ := h; rfl
  · subst h; rfl

theorem quotient_notNaN {n : Nat} {a b d : Ieee.Datum} (h : a.quotient n b = some d) : d.isNaN = false := by
  cases a <;> cases b <;> simp [Ieee.Datum.quotient] at h
  · split at h
    · split at h
      · cases h
      · cases h; rfl
    · cases h; rfl
  · subst h; rfl
  · subst h; rfl

theorem floatBits_notNaN {op : BinOp} {k : FloatKind} {x y r : Nat} (h : floatBits op k x y = some r) : isNaNb k r = false := by
  unfold floatBits at h
  split at h
  · unfold Ieee.Format.add at h
    cases hs : (k.format.read x).sum (k.format.read y) with
    | none => simp [hs] at h
    | some d => simp [hs] at h; subst h; exact write_notNaN k d (sum_notNaN hs)
  · unfold Ieee.Format.sub at h
    cases hs : (k.format.read x).sum (k.format.read y).opposite with
    | none => simp [hs] at h
    | some d => simp [hs] at h; subst h; exact write_notNaN k d (sum_notNaN hs)
  · unfold Ieee.Format.mul at h
    cases hs : (k.format.read x).product (k.format.read y) with
    | none => simp [hs] at h
    | some d => simp [hs] at h; subst h; exact write_notNaN k d (product_notNaN hs)
  · unfold Ieee.Format.div at h
    cases hs : (k.format.read x).quotient (k.format.fractionBits + 2) (k.format.read y) with
    | none => simp [hs] at h
    | some d => simp [hs] at h; subst h; exact write_notNaN k d (quotient_notNaN hs)
  · cases h

theorem read_nan {k : FloatKind} {b : Nat} (h : isNaNb k b = true) : ∃ s t, k.format.read b = .nan s t := by
  unfold isNaNb at h
  cases hr : k.format.read b <;> simp [hr, Ieee.Datum.isNaN] at h
  exact ⟨_, _, rfl⟩

theorem floatBits_nan_left {op : BinOp} {k : FloatKind} {x y : Nat} (h : isNaNb k x = true) : floatBits op k x y = none := by
  obtain ⟨s, t, hr⟩ := read_nan h
  unfold floatBits
  split <;> simp [Ieee.Format.add, Ieee.Format.sub, Ieee.Format.mul, Ieee.Format.div, hr, Ieee.Datum.sum, Ieee.Datum.product, Ieee.Datum.quotient]

theorem floatBits_nan_right {op : BinOp} {k : FloatKind} {x y : Nat} (h : isNaNb k y = true) : floatBits op k x y = none := by
  obtain ⟨s, t, hr⟩ := read_nan h
  unfold floatBits
  split <;> simp [Ieee.Format.add, Ieee.Format.sub, Ieee.Format.mul, Ieee.Format.div, hr, Ieee.Datum.opposite] <;>
    cases k.format.read x <;> simp [Ieee.Datum.sum, Ieee.Datum.product, Ieee.Datum.quotient]

theorem floatBits_cf (op : BinOp) (k : FloatKind) (x y : Nat) : floatBits op k (cf k x) (cf k y) = floatBits op k x y := by
  by_cases hx : isNaNb k x = true
  · rw [floatBits_nan_left hx, floatBits_nan_left (by rw [isNaNb_cf, hx])]
  · have hx' : isNaNb k x = false := by simpa using hx
    by_cases hy : isNaNb k y = true
    · rw [floatBits_nan_right hy, floatBits_nan_right (by rw [isNaNb_cf, hy])]
    · have hy' : isNaNb k y = false := by simpa using hy
      rw [cf_of_num hx', cf_of_num hy']

theorem order_nan_left {k : FloatKind} {x y : Nat} (h : isNaNb k x = true) : k.format.order x y = none := by
  obtain ⟨s, t, hr⟩ := read_nan h
  simp [Ieee.Format.order, hr, Ieee.Datum.order]
theorem order_nan_right {k : FloatKind} {x y : Nat} (h : isNaNb k y = true) : k.format.order x y = none := by
  obtain ⟨s, t, hr⟩ := read_nan h
  unfold Ieee.Format.order
  rw [hr]
  cases k.format.read x <;> simp [Ieee.Datum.order]
theorem order_cf (k : FloatKind) (x y : Nat) : k.format.order (cf k x) (cf k y) = k.format.order x y := by
  by_cases hx : isNaNb k x = true
  · rw [order_nan_left hx, order_nan_left (by rw [isNaNb_cf, hx])]
  · have hx' : isNaNb k x = false := by simpa using hx
    by_cases hy : isNaNb k y = true
    · rw [order_nan_right hy, order_nan_right (by rw [isNaNb_cf, hy])]
    · have hy' : isNaNb k y = false := by simpa using hy
      rw [cf_of_num hx', cf_of_num hy']

structure FOps where
  bin : BinOp → FloatKind → Int → Int → Int
  cmp : BinOp → FloatKind → Int → Int → Bool
  neg : FloatKind → Int → Int
  ofInt : FloatKind → Int → Int
  toInt : FloatKind → IntKind → Int → Int
  toIntOk : FloatKind → IntKind → Int → Bool
  conv : FloatKind → FloatKind → Int → Int
  convOk : FloatKind → FloatKind → Int → Bool
  isNaN : FloatKind → Int → Bool
  ofBits : FloatKind → Int → Int
  abs : FloatKind → Int → Int
  integral : Ieee.Toward → Int → Int
  sqrt : Int → Int
  mx : FloatKind → Int → Int → Int
  mn : FloatKind → Int → Int → Int

def rBin (op : BinOp) (k : FloatKind) (x y : Int) : Int := ((floatBits op k x.toNat y.toNat).getD (nanOf k) : Nat)

def cmpOf (op : BinOp) (c : Option Ordering) : Bool :=
  match op with
  | .eql => c == some .eq
  | .neq => c != some .eq
  | .lss => c == some .lt
  | .leq => c == some .lt || c == some .eq
  | .gtr => c == some .gt
  | .geq => c == some .gt || c == some .eq
  | _ => false
def rCmp (op : BinOp) (k : FloatKind) (x y : Int) : Bool := cmpOf op (k.format.order x.toNat y.toNat)

def rNeg (k : FloatKind) (x : Int) : Int := (cf k (Op.negFloat k x.toNat) : Nat)

def rConv (s d : FloatKind) (x : Int) : Int :=
  if s = d then x else
  match s.decode x.toNat with
  | .nan _ _ => (nanOf d : Nat)
  | e => (d.encode e : Nat)
def rConvOk (s d : FloatKind) (x : Int) : Bool :=
  if s = d then true else
  match s.decode x.toNat with
  | .number g m e => !(d.decode (d.encode (.number g m e))).isInfinity
  | _ => true

def rToIntOk (s : FloatKind) (d : IntKind) (x : Int) : Bool := (floatToIntVal s x.toNat d).isSome
def rToInt (s : FloatKind) (d : IntKind) (x : Int) : Int := (floatToIntVal s x.toNat d).getD 0

def rAbs (k : FloatKind) (x : Int) : Int := (cf k (x.toNat % k.format.signWeight) : Nat)

def rIntegral (way : Ieee.Toward) (x : Int) : Int :=
  match FloatKind.f64.decode x.toNat with
  | .nan _ _ => (nanOf .f64 : Nat)
  | d => (FloatKind.f64.encode (d.integral way) : Nat)

def rSqrt (x : Int) : Int := ((FloatKind.f64.format.sqrt x.toNat).getD (nanOf .f64) : Nat)

def rMn (k : FloatKind) (x y : Int) : Int :=
  match k.format.order x.toNat y.toNat with
  | none => (nanOf k : Nat)
  | some .lt => x
  | some .gt => y
  | some .eq => if (k.decode x.toNat).neg then x else y
def rMx (k : FloatKind) (x y : Int) : Int :=
  match k.format.order x.toNat y.toNat with
  | none => (nanOf k : Nat)
  | some .lt => y
  | some .gt => x
  | some .eq => if (k.decode x.toNat).neg then y else x

def real : FOps where
  bin := rBin
  cmp := rCmp
  neg := rNeg
  ofInt k n := (k.nearest n : Nat)
  toInt := rToInt
  toIntOk := rToIntOk
  conv := rConv
  convOk := rConvOk
  isNaN k x := isNaNb k x.toNat
  ofBits k n := (cf k n.toNat : Nat)
  abs := rAbs
  integral := rIntegral
  sqrt := rSqrt
  mx := rMx
  mn := rMn

section
variable {P : Program}

theorem run_choose (q : Question) (w : World) (h : q.forced = false) : (choose q).run P w = .ok (q.cut (w.tape w.drawn q)) w.drew := by
  simp only [choose, Sem.run, h, Bool.false_eq_true, if_false]
  rfl

theorem isNaNb_at32 (u v : Nat) (_hu : u < 2) (hv : v < 8388607) : isNaNb .f32 (u * 2147483648 + 2139095041 + v) = true := by
  have e1 : FloatKind.f32.format.signWeight = 2147483648 := by decide
  have e2 : FloatKind.f32.format.infRung = 2139095040 := by decide
  have e3 : FloatKind.f32.format.binade = 8388608 := by decide
  have hm : (u * 2147483648 + 2139095041 + v) % 2147483648 = 2139095041 + v := by omega
  unfold isNaNb Ieee.Format.read
  simp only [e1, e2, e3, hm]
  rw [if_neg (by omega), if_neg (by omega), if_neg (by omega)]
  rfl

theorem isNaNb_at64 (u v : Nat) (_hu : u < 2) (hv : v < 4503599627370495) : isNaNb .f64 (u * 9223372036854775808 + 9218868437227405313 + v) = true := by
  have e1 : FloatKind.f64.format.signWeight = 9223372036854775808 := by decide
  have e2 : FloatKind.f64.format.infRung = 9218868437227405312 := by decide
  have e3 : FloatKind.f64.format.binade = 4503599627370496 := by decide
  have hm : (u * 9223372036854775808 + 9218868437227405313 + v) % 9223372036854775808 = 9218868437227405313 + v := by omega
  unfold isNaNb Ieee.Format.read
  simp only [e1, e2, e3, hm]
  rw [if_neg (by omega), if_neg (by omega), if_neg (by omega)]
  rfl

theorem cut_nanBits (k : FloatKind) (x y t : Nat) : isNaNb k ((Question.nanBits k x y).cut t) = true := by
  cases k
  · have h : (Question.nanBits .f32 x y).cut t = (t % 2) * 2147483648 + 2139095041 + (t / 2) % 8388607 := by
      have h0 : (Question.nanBits .f32 x y).cut t = (t % 2) * 2 ^ 31 + 0x7f800000 + 1 + (t / 2) % (2 ^ 23 - 1) := rfl
      exact h0.trans (by omega)
    rw [h]
    exact isNaNb_at32 _ _ (Nat.mod_lt _ (by omega)) (Nat.mod_lt _ (by omega))
  · have h : (Question.nanBits .f64 x y).cut t = (t % 2) * 9223372036854775808 + 9218868437227405313 + (t / 2) % 4503599627370495 := by
      have h0 : (Question.nanBits .f64 x y).cut t = (t % 2) * 2 ^ 63 + 0x7ff0000000000000 + 1 + (t / 2) % (2 ^ 52 - 1) := rfl
      exact h0.trans (by omega)
    rw [h]
    exact isNaNb_at64 _ _ (Nat.mod_lt _ (by omega)) (Nat.mod_lt _ (by omega))

theorem cut_nanConv (k : FloatKind) (x t : Nat) : isNaNb k ((Question.nanConv k x).cut t) = true := by
  have := cut_nanBits k 0 0 t
  cases k <;> exact this
theorem cut_nanMinMax (k : FloatKind) (m : Bool) (x y t : Nat) : isNaNb k ((Question.nanMinMax k m x y).cut t) = true := by
  have := cut_nanBits k 0 0 t
  cases k <;> exact this

def isArith : BinOp → Bool
  | .add | .sub | .mul | .quo => true
  | _ => false
def isCmp : BinOp → Bool
  | .eql | .neq | .lss | .leq | .gtr | .geq => true
  | _ => false

theorem run_arith (op : BinOp) (t : TypeId) (k : FloatKind) (x y : Nat) (w : World) (ha : isArith op = true) :
    ∃ r n, (binOp op t (.float k x) (.float k y)).run P w = .ok (.float k r) (w.drewN n) ∧ (cf k r : Int) = rBin op k (cf k x) (cf k y) := by
  unfold rBin
  simp only [Int.toNat_natCast, floatBits_cf]
  cases h : floatBits op k x y with
  | some r => exact ⟨r, 0, run_float_arith w op t k x y r h, by rw [cf_of_num (floatBits_notNaN h)]; rfl⟩
  | none =>
    refine ⟨(Question.nanBits k x y).cut (w.tape w.drawn (.nanBits k x y)), 1, ?_, by rw [cf_of_nan (cut_nanBits ..)]; rfl⟩
    have hc := run_choose (P := P) (.nanBits k x y) w rfl
    unfold floatBits at h
    cases op <;> simp [isArith] at ha <;> simp only at h <;> simp [binOp, Op.floatArith, h, hc, World.drew_is_drewN]

theorem run_cmp (op : BinOp) (t : TypeId) (k : FloatKind) (x y : Nat) (w : World) (ha : isCmp op = true) :
    (binOp op t (.float k x) (.float k y)).run P w = .ok (.bool (rCmp op k (cf k x) (cf k y))) w := by
  unfold rCmp
  simp only [Int.toNat_natCast, order_cf]
  cases op <;> simp [isCmp] at ha <;> simp [binOp, Op.floatCmp, cmpOf]

theorem negFloat_nan (k : FloatKind) (b : Nat) : isNaNb k (Op.negFloat k b) = isNaNb k b := by
  unfold isNaNb Ieee.Format.read Op.negFloat Ieee.Format.signWeight
  have h : ∀ e, (b ^^^ 2 ^ e) % 2 ^ e = b % 2 ^ e := by
    intro e
    apply Nat.eq_of_testBit_eq
    intro i
    simp only [Nat.testBit_mod_two_pow, Nat.testBit_xor, Nat.testBit_two_pow]
    by_cases hi : i < e
    · simp [hi, show ¬ e = i by omega]
    · simp [hi]
  simp only [h]
  split
  · rfl
  · split
    · rfl
    · split <;> rfl

theorem run_neg (k : FloatKind) (b : Nat) (w : World) :
    ∃ r, (Op.unary .neg (.float k b)).run P w = .ok (.float k r) w ∧ (cf k r : Int) = rNeg k (cf k b) := by
  refine ⟨Op.negFloat k b, rfl, ?_⟩
  unfold rNeg
  simp only [Int.toNat_natCast]
  by_cases h : isNaNb k b = true
  · rw [cf_of_nan (by rw [negFloat_nan, h]), cf_of_nan (by rw [negFloat_nan, isNaNb_cf, h])]
  · rw [cf_of_num (b := b) (by simpa using h)]
end
end Go.Fx

/- The abstract interpreter: values with canonical floats, objects in place of blocks, one order for every region. -/
namespace Go.Fx

inductive K where
  | f (k : FloatKind)
  | i (k : IntKind)
  | b
  deriving DecidableEq

inductive A where
  | undef
  | void
  | bool (b : Bool)
  | int (k : IntKind) (n : Int)
  | fl (k : FloatKind) (x : Int)
  | raw (k : FloatKind) (x : Int)
  | ptr (id e o : Nat)
  | sl (id : Nat)
  | sub (id st len : Nat) (cap : Option Nat)
  | bs (id n : Nat)
  | mp (id : Nat)
  | nil
  | fn (f : FuncId) (caps : List (Nat × Nat × Nat))

inductive V where
  | at (a : A)
  | agg (as : List A)
  | tup (xs : List (Bool × List A))

inductive OC where
  | dead
  | box (cs : List A)
  | rows (ks : List K) (xs : List (List Int))
  | mp (kd : IntKind) (keys : List (List Int))

structure Ob where
  own : Bool
  c : OC

inductive D where
  | sc (k : K)
  | st (fs : List (Nat × Nat))
  | ar (n e : Nat)
  | sl (e : Nat)
  | mp (k : Nat) (kd : IntKind)
  | oth

structure TI where
  size : Nat
  bytes : Nat
  d : D
  ks : Option (List K)
  lks : List (Option (List K))
  zero : List A

structure Ret where
  r : V
  upd : Option (List Ob)
  news : List Ob

inductive Ex where
  | normal
  | exit (id : Nat)
  | ret

structure St where
  sl : List V
  hp : List Ob

inductive Ends where
  | one (e : Ex) (vs : List V) (hp : List Ob)
  | two (b : Bool) (x y : Ends)

def Ends.get : Ends → Ex × List V × List Ob
  | .one e vs hp => (e, vs, hp)
  | .two b x y => match b with
    | true => y.get
    | false => x.get

def Ends.to {β : Type} (k : Ex → List V → List Ob → β) : Ends → β
  | .one e vs hp => k e vs hp
  | .two b x y => match b with
    | true => y.to k
    | false => x.to k

theorem Ends.to_get {β : Type} (k : Ex → List V → List Ob → β) : ∀ q : Ends, q.to k = k q.get.1 q.get.2.1 q.get.2.2
  | .one _ _ _ => rfl
  | .two b x y => by cases b with
    | true => exact Ends.to_get k y
    | false => exact Ends.to_get k x

structure Sm where
  live : List Nat
  tys : List Nat
  out : List Nat
  fn : List V → List Ob → Option (Bool × Ends)

structure Cx where
  F : FOps
  ty : Nat → Option TI
  call : FuncId → List V → List Ob → Option (Bool × Ret)
  eff : FuncId → Bool
  sm : Nat → Option Sm
  un : Nat
  two : FuncId → List V → List Ob → Option (Bool × (Bool × Ret) × (Bool × Ret))

def chk {α : Type} (b : Bool) (x : Option α) : Option α :=
  match b with
  | true => x
  | false => none

def conA : Value → A
  | .bool b => .bool b
  | .int k n => .int k n
  | .float k b => match isNaNb k b with | true => .undef | false => .fl k b
  | .slice none 0 0 => .nil
  | _ => .undef

def conV : Value → V
  | .agg cs => .agg (cs.toList.map conA)
  | v => .at (conA v)

def evA (sl : List V) : Operand → V
  | .tmp t => sl.getD t (.at .void)
  | .const v => conV v
  | .func f => .at (.fn f [])
  | .global _ => .at .undef

def A.known : A → Bool
  | .undef => false
  | .void => false
  | _ => true

def allKnown : List A → Bool
  | [] => true
  | a :: t => match a.known with
    | true => allKnown t
    | false => false

def V.cells : V → Option (List A)
  | .at a => match a.known with
    | true => some [a]
    | false => none
  | .agg as => match allKnown as with
    | true => some as
    | false => none
  | .tup _ => none

def ofT : Bool × List A → V
  | (true, as) => .agg as
  | (false, [a]) => .at a
  | _ => .at .undef

def ofK : K → Int → A
  | .f k, n => .fl k n
  | .i k, n => .int k n
  | .b, n => .bool (n != 0)

def rowA : List K → Nat → List Int → List A
  | [], _, _ => []
  | k :: t, j, r => ofK k (r.getD j 0) :: rowA t (j + 1) r

def aInt : A → Option (K × Int)
  | .fl k x => some (.f k, x)
  | .int k n => some (.i k, n)
  | .bool b => some (.b, match b with | true => 1 | false => 0)
  | _ => none

def aInts : List K → List A → Option (List Int)
  | [], [] => some []
  | k :: ks, a :: as =>
    match aInt a with
    | some (k', n) =>
      match decide (k = k'), aInts ks as with
      | true, some t => some (n :: t)
      | _, _ => none
    | none => none
  | _, _ => none

def setFrom : List Int → Nat → List Int → List Int
  | r, _, [] => r
  | r, o, n :: t => setFrom (r.set o n) (o + 1) t

def setFromA : List A → Nat → List A → List A
  | r, _, [] => r
  | r, o, n :: t => setFromA (r.set o n) (o + 1) t

def arAll (k0 : K) : List (List Int) → List A
  | [] => []
  | r :: t => ofK k0 (r.getD 0 0) :: arAll k0 t

def arLoad (ks : List K) (xs : List (List Int)) (e o n : Nat) : Option V :=
  match ks, e, o with
  | [k0], 0, 0 => match Nat.beq xs.length n with
    | true => some (.agg (arAll k0 xs))
    | false => none
  | _, _, _ => none

def ones : List Int → List (List Int)
  | [] => []
  | n :: t => [n] :: ones t

def arStore (ks : List K) (xs : List (List Int)) (e o : Nat) (cells : List A) : Option Ob :=
  match ks, e, o with
  | [k0], 0, 0 => match Nat.beq xs.length cells.length, aInts (List.replicate cells.length k0) cells with
    | true, some ns => some ⟨true, .rows [k0] (ones ns)⟩
    | _, _ => none
  | _, _, _ => none

def loadOb (ob : Ob) (e o n : Nat) (agg : Bool) : Option V :=
  match ob.c with
  | .box cs =>
    match agg with
    | true => match Nat.beq ((cs.drop o).take n).length n with
      | true => some (.agg ((cs.drop o).take n))
      | false => none
    | false => match cs[o]? with
      | some a => some (.at a)
      | none => none
  | .rows ks xs =>
    match agg with
    | true => match Nat.beq (((rowA ks 0 (xs.getD e [])).drop o).take n).length n with
      | true => some (.agg (((rowA ks 0 (xs.getD e [])).drop o).take n))
      | false => arLoad ks xs e o n
    | false => match (rowA ks 0 (xs.getD e []))[o]? with
      | some a => some (.at a)
      | none => none
  | .dead => none
  | .mp _ _ => none

def storeOb (ob : Ob) (e o : Nat) (cells : List A) : Option Ob :=
  match ob.own, Nat.blt 0 cells.length with
  | true, true =>
    match ob.c with
    | .box cs =>
      match Nat.ble (o + cells.length) cs.length with
      | true => some ⟨true, .box (setFromA cs o cells)⟩
      | false => none
    | .rows ks xs =>
      match aInts ((ks.drop o).take cells.length) cells with
      | some ns =>
        match Nat.beq ns.length ks.length with
        | true => some ⟨true, .rows ks (xs.set e ns)⟩
        | false => some ⟨true, .rows ks (xs.set e (setFrom (xs.getD e []) o ns))⟩
      | none => arStore ks xs e o cells
    | .dead => none
    | .mp _ _ => none
  | _, _ => none

def resOf (q : Bool × Ends) : Option (Ex × List V × List Ob) := chk q.1 (some q.2.get)

def A.ids : A → List Nat
  | .ptr id _ _ => [id]
  | .sl id => [id]
  | .sub id _ _ _ => [id]
  | .bs id _ => [id]
  | .mp id => [id]
  | .fn _ caps => caps.map (·.1)
  | _ => []

def V.ids : V → List Nat
  | .at a => a.ids
  | .agg as => as.flatMap A.ids
  | .tup xs => xs.flatMap fun x => x.2.flatMap A.ids

def hasId (i : Nat) : List Nat → Bool
  | [] => false
  | j :: t => match Nat.beq i j with
    | true => true
    | false => hasId i t

def addIds : List Nat → List Nat → List Nat
  | acc, [] => acc
  | acc, i :: t => match hasId i acc with
    | true => addIds acc t
    | false => addIds (acc ++ [i]) t

def obIds (hp : List Ob) (i : Nat) : List Nat :=
  match hp[i]? with
  | some ⟨_, .box cs⟩ => cs.flatMap A.ids
  | _ => []

def reach : Nat → List Nat → List Ob → List Nat
  | 0, acc, _ => acc
  | n + 1, acc, hp => reach n (addIds acc (acc.flatMap (obIds hp))) hp

def idx (i : Nat) : List Nat → Option Nat
  | [] => none
  | j :: t => match Nat.beq i j with
    | true => some 0
    | false => match idx i t with
      | some n => some (n + 1)
      | none => none

def renCaps (m : Nat → Option Nat) : List (Nat × Nat × Nat) → Option (List (Nat × Nat × Nat))
  | [] => some []
  | (i, e, o) :: t =>
    match m i, renCaps m t with
    | some j, some t' => some ((j, e, o) :: t')
    | _, _ => none

def A.ren (m : Nat → Option Nat) : A → A
  | .ptr id e o => match m id with | some j => .ptr j e o | none => .undef
  | .sl id => match m id with | some j => .sl j | none => .undef
  | .sub id st n c => match m id with | some j => .sub j st n c | none => .undef
  | .bs id n => match m id with | some j => .bs j n | none => .undef
  | .mp id => match m id with | some j => .mp j | none => .undef
  | .fn f caps => match renCaps m caps with | some c => .fn f c | none => .undef
  | a => a

def V.ren (m : Nat → Option Nat) : V → V
  | .at a => .at (a.ren m)
  | .agg as => .agg (as.map (A.ren m))
  | .tup xs => .tup (xs.map fun x => (x.1, x.2.map (A.ren m)))

def Ob.ren (m : Nat → Option Nat) (ob : Ob) : Ob :=
  match ob.c with
  | .box cs => ⟨ob.own, .box (cs.map (A.ren m))⟩
  | _ => ob

def pick (hp : List Ob) (m : Nat → Option Nat) (ro : Bool) : List Nat → List Ob
  | [] => []
  | i :: t =>
    (match hp[i]? with
      | some ob => (match ro with | true => { ob.ren m with own := false } | false => ob.ren m)
      | none => ⟨false, .dead⟩) :: pick hp m ro t

def viewA (hp : List Ob) (lk : Option (List K)) (a : A) : A × List Ob :=
  match a with
  | .nil => match lk with
    | some ks => (.sl hp.length, hp ++ [⟨true, .rows ks []⟩])
    | none => (a, hp)
  | .sub id st len _ => match hp[id]? with
    | some ⟨_, .rows ks xs⟩ => (.sl hp.length, hp ++ [⟨false, .rows ks ((xs.drop st).take len)⟩])
    | _ => (.undef, hp)
  | a => (a, hp)

def viewAs (hp : List Ob) : List (Option (List K)) → List A → List A × List Ob
  | lk :: lks, a :: as =>
    match viewA hp lk a with
    | (a', hp') => match viewAs hp' lks as with
      | (as', hp'') => (a' :: as', hp'')
  | [], a :: as =>
    match viewA hp none a with
    | (a', hp') => match viewAs hp' [] as with
      | (as', hp'') => (a' :: as', hp'')
  | _, [] => ([], hp)

def lksOf (ty : Nat → Option TI) (t : Nat) : List (Option (List K)) :=
  match ty t with
  | some i => i.lks
  | none => []

def viewV (ty : Nat → Option TI) (hp : List Ob) (t : Nat) : V → V × List Ob
  | .at a => match viewAs hp (lksOf ty t) [a] with
    | ([a'], hp') => (.at a', hp')
    | (_, hp') => (.at .undef, hp')
  | .agg as => match viewAs hp (lksOf ty t) as with
    | (as', hp') => (.agg as', hp')
  | .tup xs => (.tup xs, hp)

def viewVs (ty : Nat → Option TI) (hp : List Ob) : List Nat → List V → List V × List Ob
  | t :: ts, v :: vs =>
    match viewV ty hp t v with
    | (v', hp') => match viewVs ty hp' ts vs with
      | (vs', hp'') => (v' :: vs', hp'')
  | [], v :: vs =>
    match viewVs ty hp [] vs with
    | (vs', hp'') => (v :: vs', hp'')
  | _, [] => ([], hp)

def isSub : A → Bool
  | .sub _ _ _ _ => true
  | _ => false

def anySub : List V → Bool
  | [] => false
  | .at a :: t => isSub a || anySub t
  | .agg as :: t => as.any isSub || anySub t
  | .tup _ :: t => anySub t

def backId (ids : List Nat) (n0 : Nat) (j : Nat) : Option Nat :=
  match Nat.blt j ids.length with
  | true => match ids[j]? with
    | some i => match Nat.blt i n0 with
      | true => some i
      | false => none
    | none => none
  | false => some (n0 + (j - ids.length))

def backObs (hp : List Ob) (m : Nat → Option Nat) : List Nat → List Ob → List Ob
  | i :: ids, ob :: obs => backObs (hp.set i (ob.ren m)) m ids obs
  | _, _ => hp

def sameLive : List Ob → List Ob → Bool
  | [], [] => true
  | a :: as, b :: bs => match b.c with
    | .dead => match a.c with
      | .dead => sameLive as bs
      | _ => false
    | _ => sameLive as bs
  | _, _ => false

def callF {α : Type} (cx : Cx) (f : FuncId) (tys : List Nat) (args : List V) (hp : List Ob) (k : V → List Ob → Option α) (e : V → List Ob → Option α) : Option α :=
  match viewVs cx.ty hp tys args with
  | (args1, hpT) =>
    match reach 3 (addIds [] (args1.flatMap V.ids)) hpT with
    | ids =>
      match cx.eff f with
      | false =>
        match cx.two f (args1.map (V.ren fun i => idx i ids)) (pick hpT (fun i => idx i ids) true ids) with
        | some (b, (ok1, ⟨r1, u1, news1⟩), (ok2, ⟨r2, u2, news2⟩)) =>
          match b with
          | true => (match u1 with
            | none => chk ok1 (k (r1.ren (backId ids hp.length)) (news1.map (Ob.ren (backId ids hp.length))))
            | some _ => none)
          | false => (match u2 with
            | none => chk ok2 (k (r2.ren (backId ids hp.length)) (news2.map (Ob.ren (backId ids hp.length))))
            | some _ => none)
        | none =>
          match cx.call f (args1.map (V.ren fun i => idx i ids)) (pick hpT (fun i => idx i ids) true ids) with
          | some (ok, ⟨r, none, news⟩) => chk ok (k (r.ren (backId ids hp.length)) (news.map (Ob.ren (backId ids hp.length))))
          | _ => none
      | true =>
        match anySub args with
        | true => none
        | false =>
          match cx.call f (args1.map (V.ren fun i => idx i ids)) (pick hpT (fun i => idx i ids) false ids) with
          | some (ok, ⟨r, some upd, news⟩) =>
            chk ok (chk (sameLive (pick hpT (fun i => idx i ids) false ids) upd) (e (r.ren (backId ids hp.length)) (backObs hp (backId ids hp.length) ids upd ++ news.map (Ob.ren (backId ids hp.length)))))
          | _ => none

def rawKind : FloatKind → IntKind
  | .f32 => .u32
  | .f64 => .u64

def bAnd (k : FloatKind) : Int := match k with | .f32 => 2147483648 | .f64 => 9223372036854775808

def intBin {α : Type} (op : BinOp) (k : IntKind) (a b : Int) (c : A → Option α) : Option α :=
  match op with
  | .add => c (.int k (k.wrap (a + b)))
  | .sub => c (.int k (k.wrap (a - b)))
  | .mul => c (.int k (k.wrap (a * b)))
  | .quo => chk (!(b == 0)) (c (.int k (k.wrap (a.tdiv b))))
  | .rem => chk (!(b == 0)) (c (.int k (a.tmod b)))
  | .eql => c (.bool (a == b))
  | .neq => c (.bool (a != b))
  | .lss => c (.bool (decide (a < b)))
  | .leq => c (.bool (decide (a ≤ b)))
  | .gtr => c (.bool (decide (a > b)))
  | .geq => c (.bool (decide (a ≥ b)))
  | _ => none

def num (F : FOps) (k : FloatKind) (a : Int) : Bool :=
  match F.cmp .neq k a a with
  | true => false
  | false => true

def binA {α : Type} (F : FOps) (tb : Bool) (op : BinOp) (x y : A) (c : A → Option α) : Option α :=
  match x, y with
  | .int k a, .int k' b => chk (decide (k = k')) (intBin op k a b c)
  | .fl k a, .fl k' b =>
    chk (decide (k = k')) (
      match isArith op with
      | true => c (.fl k (F.bin op k a b))
      | false => chk (isCmp op) (c (.bool (F.cmp op k a b))))
  | .bool a, .bool b => match tb, op with
    | true, .eql => c (.bool (a == b))
    | true, .neq => c (.bool (!(a == b)))
    | _, _ => none
  | .raw k a, .int kk m => match op with
    | .andNot => chk (decide (kk = rawKind k)) (chk (m == bAnd k) (c (.raw k (F.abs k a))))
    | _ => none
  | .raw k a, .raw k' b => match op with
    | .eql => chk (decide (k = k')) (chk (num F k a) (chk (num F k' b) (c (.bool (a == b)))))
    | _ => none
  | _, _ => none

def tyOf (ty : Nat → Option TI) (t : Nat) : Option D := match ty t with | some i => some i.d | none => none

def convA {α : Type} (F : FOps) (src dst : Option D) (x : A) (c : A → Option α) : Option α :=
  match src, dst, x with
  | some (.sc _), some (.sc (.i k)), .int _ n => c (.int k (k.wrap n))
  | some (.sc _), some (.sc (.f k)), .int _ n => c (.fl k (F.ofInt k n))
  | some (.sc _), some (.sc (.i k)), .fl s x => chk (F.toIntOk s k x) (c (.int k (F.toInt s k x)))
  | some (.sc _), some (.sc (.f k)), .fl s x => chk (F.convOk s k x) (c (.fl k (F.conv s k x)))
  | some (.sc _), some (.sc (.i k)), .raw s x => chk (num F s x) (c (.int k (k.wrap x)))
  | _, _, _ => none

def unA {α : Type} (F : FOps) (op : UnOp) (x : A) (c : A → Option α) : Option α :=
  match op, x with
  | .not, .bool b => c (.bool (!b))
  | .neg, .fl k x => c (.fl k (F.neg k x))
  | .neg, .int k n => c (.int k (k.wrap (0 - n)))
  | _, _ => none

def fillA (place : Nat → Option (Nat × Nat)) : List A → List (Nat × V) → Option (List A)
  | cs, [] => some cs
  | cs, (i, v) :: rest =>
    match place i, v.cells with
    | some (off, size), some as =>
      match Nat.beq as.length size, Nat.ble (off + size) cs.length with
      | true, true => fillA place (setFromA cs off as) rest
      | _, _ => none
    | _, _ => none

def newBox (ty : Nat → Option TI) (t : Nat) (cells : List A) : Ob :=
  match tyOf ty t with
  | some (.ar (n + 1) e) => match tyOf ty e with
    | some (.sc k) => match aInts (List.replicate (n + 1) k) cells with
      | some ns => ⟨true, .rows [k] (ns.map fun n => [n])⟩
      | none => ⟨true, .box cells⟩
    | _ => ⟨true, .box cells⟩
  | _ => ⟨true, .box cells⟩

def chunk : Nat → Nat → List Int → List (List Int)
  | _, 0, _ => []
  | s, n + 1, l => l.take s :: chunk s n (l.drop s)

def obLen (hp : List Ob) (id : Nat) : Nat :=
  match hp[id]? with
  | some ⟨_, .rows _ xs⟩ => xs.length
  | _ => 0

def obKs (hp : List Ob) (id : Nat) : Option (List K) :=
  match hp[id]? with
  | some ⟨_, .rows ks _⟩ => some ks
  | _ => none

def slRows (hp : List Ob) : A → Option (List (List Int))
  | .nil => some []
  | .sl id => match hp[id]? with
    | some ⟨_, .rows _ xs⟩ => some xs
    | _ => none
  | .sub id st len _ => match hp[id]? with
    | some ⟨_, .rows _ xs⟩ => some ((xs.drop st).take len)
    | _ => none
  | _ => none

def ksFit (hp : List Ob) (ks : List K) : A → Bool
  | .sl id => match obKs hp id with
    | some k' => decide (k' = ks)
    | none => false
  | .sub id _ _ _ => match obKs hp id with
    | some k' => decide (k' = ks)
    | none => false
  | _ => true

def capsOf (sl : List V) : List Operand → Option (List (Nat × Nat × Nat))
  | [] => some []
  | x :: t => match evA sl x, capsOf sl t with
    | .at (.ptr i el off), some r => some ((i, el, off) :: r)
    | _, _ => none

def flatSt (ty : Nat → Option TI) : Nat → List (Nat × Nat) → List K → Bool
  | _, [], [] => true
  | j, (off, ft) :: fs, kd :: ks => Nat.beq off j && (match ty ft with | some fi => (match fi.d with | .sc k' => decide (k' = kd) | _ => false) | none => false) && flatSt ty (j + 1) fs ks
  | _, _, _ => false

def eqK (F : FOps) : K → A → A → Option Bool
  | .f k, .fl k1 a, .fl k2 b => chk (decide (k1 = k)) (chk (decide (k2 = k)) (some (F.cmp .eql k a b)))
  | .i k, .int k1 a, .int k2 b => chk (decide (k1 = k)) (chk (decide (k2 = k)) (some (a == b)))
  | .b, .bool a, .bool b => some (a == b)
  | _, _, _ => none

def eqAs (F : FOps) : List K → List A → List A → Option Bool
  | [], [], [] => some true
  | k :: ks, a :: as, b :: bs => match eqK F k a b, eqAs F ks as bs with
    | some x, some y => some (bif x then y else false)
    | _, _ => none
  | _, _, _ => none

def hasKey (keys : List (List Int)) (a b : Int) : Bool := keys.any fun r => r == [a, b]
def mapPut (keys : List (List Int)) (a b : Int) : List (List Int) := bif hasKey keys a b then keys else keys ++ [[a, b]]

def calm {α : Type} (cx : Cx) (o : Oper) (sl : List V) (hp : List Ob) (k : V → List Ob → Option α) (e : V → List Ob → Option α) : Option α :=
  match o.op with
  | .move x => k (evA sl x) []
  | .assign x => k (evA sl x) []
  | .alloc t => match cx.ty t with
    | some i => k (.at (.ptr hp.length 0 0)) [newBox cx.ty t i.zero]
    | none => none
  | .box t x => match cx.ty t, (evA sl x).cells with
    | some i, some cs => match Nat.beq cs.length i.size with
      | true => k (.at (.ptr hp.length 0 0)) [newBox cx.ty t cs]
      | false => none
    | _, _ => none
  | .build t parts => match cx.ty t with
    | some i =>
      match i.d with
      | .st fs => match fillA (fun j => match fs[j]? with | some (off, ft) => (match cx.ty ft with | some fi => some (off, fi.size) | none => none) | none => none) i.zero (parts.toList.map fun p => (p.1, evA sl p.2)) with
        | some cs => k (.agg cs) []
        | none => none
      | .ar _ et => match cx.ty et with
        | some ei => match fillA (fun j => some (j * ei.size, ei.size)) i.zero (parts.toList.map fun p => (p.1, evA sl p.2)) with
          | some cs => k (.agg cs) []
          | none => none
        | none => none
      | _ => none
    | none => none
  | .buildSlice t len parts => match tyOf cx.ty t with
    | some (.sl et) => match cx.ty et with
      | some ei => match ei.ks with
        | some ks => match len, parts.size with
          | 0, 0 => k (.at .nil) []
          | 0, _ => none
          | _, _ => match Nat.ble (len * ei.size) 16777216, Nat.blt 0 ei.size, fillA (fun j => some (j * ei.size, ei.size)) ((List.replicate len ei.zero).flatten) (parts.toList.map fun p => (p.1, evA sl p.2)) with
            | true, true, some cs => match aInts ((List.replicate len ks).flatten) cs with
              | some ns => k (.at (.sl hp.length)) [⟨true, .rows ks (chunk ei.size len ns)⟩]
              | none => none
            | _, _, _ => none
        | none => match ei.d with
          | .sl _ => chk (Nat.blt 0 len) (chk (Nat.ble len 1000) (chk (Nat.beq ei.size 1) (match fillA (fun j => some (j * ei.size, ei.size)) ((List.replicate len ei.zero).flatten) (parts.toList.map fun p => (p.1, evA sl p.2)) with
            | some cs => k (.at (.bs hp.length len)) [⟨true, .box cs⟩]
            | none => none)))
          | _ => none
      | none => none
    | _ => none
  | .load t x => match evA sl x, cx.ty t with
    | .at (.ptr id el off), some i => match hp[id]? with
      | some ob => match loadOb ob el off i.size (match i.d with | .st _ => true | .ar _ _ => true | _ => false) with
        | some v => k v []
        | none => none
      | none => none
    | _, _ => none
  | .nilCheck x => match evA sl x with
    | .at (.ptr id el off) => k (.at (.ptr id el off)) []
    | _ => none
  | .binOp op t x y _ => match evA sl x, evA sl y with
    | .at a, .at b => binA cx.F (match tyOf cx.ty t with | some (.sc .b) => true | _ => false) op a b fun r => k (.at r) []
    | .agg as, .agg bs => match cx.ty t with
      | some i => match i.d, i.ks with
        | .st fs, some ks => chk (flatSt cx.ty 0 fs ks) (match eqAs cx.F ks as bs with
          | some e => match op with
            | .eql => k (.at (.bool e)) []
            | .neq => k (.at (.bool (!e))) []
            | _ => none
          | none => none)
        | _, _ => none
      | none => none
    | _, _ => none
  | .unOp op _ x => match evA sl x with
    | .at a => unA cx.F op a fun r => k (.at r) []
    | _ => none
  | .convert src dst x => match evA sl x with
    | .at a => convA cx.F (tyOf cx.ty src) (tyOf cx.ty dst) a fun r => k (.at r) []
    | _ => none
  | .fieldAddr s x f => match tyOf cx.ty s, evA sl x with
    | some (.st fs), .at (.ptr id el off) => match fs[f]? with
      | some (d, _) => k (.at (.ptr id el (off + d))) []
      | none => none
    | _, _ => none
  | .field s x f => match tyOf cx.ty s, evA sl x with
    | some (.st fs), .agg as => match fs[f]? with
      | some (d, ft) => match cx.ty ft with
        | some i => match i.d with
          | .st _ => k (.agg ((as.drop d).take i.size)) []
          | .ar _ _ => k (.agg ((as.drop d).take i.size)) []
          | _ => match as[d]? with
            | some a => k (.at a) []
            | none => none
        | none => none
      | none => none
    | _, _ => none
  | .indexAddr t x ix => match tyOf cx.ty t, evA sl x, evA sl ix with
    | some (.sl et), .at (.sl id), .at (.int _ n) => match cx.ty et, obKs hp id with
      | some ei, some ks => chk (Nat.beq ks.length ei.size) (chk (decide (0 ≤ n)) (chk (decide (n < (obLen hp id : Int))) (k (.at (.ptr id n.toNat 0)) [])))
      | _, _ => none
    | some (.sl et), .at (.sub id st len _), .at (.int _ n) => match cx.ty et, obKs hp id with
      | some ei, some ks => chk (Nat.beq ks.length ei.size) (chk (decide (0 ≤ n)) (chk (decide (n < (len : Int))) (k (.at (.ptr id (st + n.toNat) 0)) [])))
      | _, _ => none
    | some (.sl et), .at (.bs id len), .at (.int _ n) => match cx.ty et with
      | some ei => chk (Nat.beq ei.size 1) (chk (decide (0 ≤ n)) (chk (decide (n < (len : Int))) (k (.at (.ptr id 0 n.toNat)) [])))
      | none => none
    | some (.ar len et), .at (.ptr id 0 0), .at (.int _ n) => match obKs hp id, cx.ty et with
      | some [_], some ei => chk (Nat.beq ei.size 1) (chk (decide (0 ≤ n)) (chk (decide (n < (obLen hp id : Int))) (chk (Nat.beq (obLen hp id) len) (k (.at (.ptr id n.toNat 0)) []))))
      | _, _ => none
    | _, _, _ => none
  | .index t x ix => match tyOf cx.ty t, evA sl x, evA sl ix with
    | some (.ar len et), .agg as, .at (.int _ n) => match cx.ty et with
      | some ei => match ei.d with
        | .sc _ => chk (Nat.beq ei.size 1) (chk (decide (0 ≤ n)) (chk (decide (n < (len : Int))) (match as[n.toNat]? with
          | some a => k (.at a) []
          | none => none)))
        | _ => none
      | none => none
    | _, _, _ => none
  | .slice t x lo hi mx => match tyOf cx.ty t with
    | some (.sl et) => match cx.ty et, evA sl x, lo, hi, mx with
      | some _, .at .nil, none, some h, some m => match evA sl h, evA sl m with
        | .at (.int _ 0), .at (.int _ 0) => k (.at .nil) []
        | _, _ => none
      | some _, .at .nil, none, some h, none => match evA sl h with
        | .at (.int _ 0) => k (.at .nil) []
        | _ => none
      | some _, .at (.sl _), none, some h, some m => match evA sl h, evA sl m with
        | .at (.int _ 0), .at (.int _ 0) => k (.at .nil) []
        | _, _ => none
      | some ei, .at (.sl id), lo, hi, none => match obKs hp id with
        | some ks => chk (Nat.beq ks.length ei.size) (match lo, hi with
          | some l, none => match evA sl l with
            | .at (.int _ l) => chk (decide (0 ≤ l)) (chk (decide (l ≤ (obLen hp id : Int))) (k (.at (.sub id l.toNat (obLen hp id - l.toNat) none)) []))
            | _ => none
          | none, some h => match evA sl h with
            | .at (.int _ h) => chk (decide (0 ≤ h)) (chk (decide (h ≤ (obLen hp id : Int))) (k (.at (.sub id 0 (h.toNat - 0) none)) []))
            | _ => none
          | some l, some h => match evA sl l, evA sl h with
            | .at (.int _ l), .at (.int _ h) => chk (decide (0 ≤ l)) (chk (decide (l ≤ h)) (chk (decide (h ≤ (obLen hp id : Int))) (k (.at (.sub id l.toNat (h.toNat - l.toNat) none)) [])))
            | _, _ => none
          | none, none => k (.at (.sub id 0 (obLen hp id - 0) none)) [])
        | none => none
      | _, _, _, _, _ => none
    | some (.ar len et) => match cx.ty et, evA sl x, lo, hi, mx with
      | some _, .at (.ptr id 0 0), none, none, none => match hp[id]? with
        | some ⟨true, .rows [_] xs⟩ => chk (Nat.beq xs.length len) (chk (Nat.ble len 1073741824) (k (.at (.sl id)) []))
        | _ => none
      | _, _, _, _, _ => none
    | _ => none
  | .extract t ix => match evA sl t with
    | .tup xs => match xs[ix]? with
      | some x => k (ofT x) []
      | none => none
    | _ => none
  | .makeMap t none => match tyOf cx.ty t with
    | some (.mp _ kd) => k (.at (.mp hp.length)) [⟨true, .mp kd []⟩]
    | _ => none
  | .makeFunc (.func f) first caps => match first.size with
    | 0 => match capsOf sl caps.toList with
      | some cs => k (.at (.fn f cs)) []
      | none => none
    | _ => none
  | .makeSlice t len cap => match tyOf cx.ty t, evA sl len, evA sl cap with
    | some (.sl et), .at (.int _ n), .at (.int _ c) => match cx.ty et with
      | some ei => match ei.ks, aInts (ei.ks.getD []) ei.zero with
        | some ks, some z =>
          chk (decide (0 ≤ n)) (chk (n == c) (chk (decide (n ≤ 1073741824)) (chk (Nat.ble ei.bytes 1024) (chk (Nat.blt 0 ei.size) (
            k (.at (.sl hp.length)) [⟨true, .rows ks (List.replicate n.toNat z)⟩])))))
        | _, _ => none
      | none => none
    | _, _, _ => none
  | .call ⟨.builtin .len, args, tys⟩ => match args.toList, tys.toList with
    | [x], [t] => match tyOf cx.ty t, evA sl x with
      | some (.sl _), .at .nil => k (.at (.int .i64 (0 : Nat))) []
      | some (.sl _), .at (.sl id) => match hp[id]? with
        | some ⟨_, .rows _ xs⟩ => k (.at (.int .i64 xs.length)) []
        | _ => none
      | some (.sl _), .at (.sub _ _ len _) => k (.at (.int .i64 len)) []
      | some (.sl _), .at (.bs _ len) => k (.at (.int .i64 len)) []
      | some (.mp _ _), .at (.mp id) => match hp[id]? with
        | some ⟨_, .mp _ keys⟩ => k (.at (.int .i64 keys.length)) []
        | _ => none
      | _, _ => none
    | _, _ => none
  | .call ⟨.builtin .cap, args, tys⟩ => match args.toList, tys.toList with
    | [x], [t] => match tyOf cx.ty t, evA sl x with
      | some (.sl _), .at .nil => k (.at (.int .i64 (0 : Nat))) []
      | _, _ => none
    | _, _ => none
  | .call ⟨.builtin .min, args, _⟩ => match args.toList with
    | [x, y] => match evA sl x, evA sl y with
      | .at (.int j a), .at (.int j' b) => chk (decide (j = j')) (k (.at (.int j (match decide (b < a) with | true => b | false => a))) [])
      | _, _ => none
    | _ => none
  | .call ⟨.builtin .max, args, _⟩ => match args.toList with
    | [x, y] => match evA sl x, evA sl y with
      | .at (.fl j a), .at (.fl j' b) => chk (decide (j = j')) (k (.at (.fl j (cx.F.mx j a b))) [])
      | _, _ => none
    | _ => none
  | .call ⟨.builtin .append, args, tys⟩ => match args.toList, tys.toList with
    | [x, y], [t, t'] => match Nat.beq t t' with
      | true => (match tyOf cx.ty t, evA sl x, evA sl y with
        | some (.sl et), .at .nil, .at y => match cx.ty et, slRows hp y with
          | some ei, some ys => match ei.ks with
            | some ks => chk (ksFit hp ks y) (chk (decide (ys.length ≤ 1073741824)) (chk (Nat.ble ei.bytes 1024) (k (.at (.sl hp.length)) [⟨true, .rows ks ys⟩])))
            | none => none
          | _, _ => none
        | _, _, _ => none)
      | false => (match tyOf cx.ty t, tyOf cx.ty t', evA sl x, evA sl y with
        | some (.sl et), some (.sc (.i kn)), .at .nil, .at (.int kn' n) => match cx.ty et with
          | some ei => match ei.ks, aInts (ei.ks.getD []) ei.zero with
            | some ks, some z => chk (decide (kn = kn')) (chk (decide (0 < n)) (chk (decide (n ≤ 1073741824)) (chk (Nat.ble ei.bytes 1024) (chk (Nat.blt 0 ei.size) (k (.at (.sl hp.length)) [⟨true, .rows ks (List.replicate n.toNat z)⟩])))))
            | _, _ => none
          | none => none
        | _, _, _, _ => none)
    | _, _ => none
  | .call ⟨.value x, args, tys⟩ => match evA sl x with
    | .at (.fn f caps) => callF cx f tys.toList (args.toList.map (evA sl) ++ caps.map fun p => .at (.ptr p.1 p.2.1 p.2.2)) hp k e
    | _ => none
  | _ => none
end Go.Fx

/- The abstract interpreter, second part: effects, regions, code, functions. -/
namespace Go.Fx

def put (sl : List V) (d : Option Nat) (v : V) : List V :=
  match d with
  | some d => sl.set d v
  | none => sl

def A.kill (i : Nat) (a : A) : A :=
  match hasId i a.ids with
  | true => .undef
  | false => a

def V.kill (i : Nat) : V → V
  | .at a => .at (a.kill i)
  | .agg as => .agg (as.map (A.kill i))
  | .tup xs => .tup (xs.map fun x => (x.1, x.2.map (A.kill i)))

def Ob.kill (i : Nat) (ob : Ob) : Ob :=
  match ob.c with
  | .box cs => ⟨ob.own, .box (cs.map (A.kill i))⟩
  | _ => ob

def effOp {α : Type} (cx : Cx) (n0 : Nat) (o : Oper) (st : St) (k : St → Option α) : Option α :=
  match o.op with
  | .store t x y => match evA st.sl x, (evA st.sl y).cells, cx.ty t with
    | .at (.ptr id el off), some cs, some i => match Nat.beq cs.length i.size, st.hp[id]? with
      | true, some ob => match storeOb ob el off cs with
        | some ob' => k ⟨put st.sl o.dst (.at .void), st.hp.set id ob'⟩
        | none => none
      | _, _ => none
    | _, _, _ => none
  | .call ⟨.builtin .append, args, tys⟩ => match args.toList, tys.toList with
    | [x, y], [t, t'] => chk (Nat.beq t t') (match tyOf cx.ty t, evA st.sl x, evA st.sl y with
      | some (.sl et), .at (.sl id), .at y => match cx.ty et, slRows st.hp y, st.hp[id]? with
        | some ei, some ys, some ⟨true, .rows ks xs⟩ => match ei.ks with
          | some ks' =>
            chk (decide (ks' = ks)) (chk (ksFit st.hp ks y) (chk (decide (xs.length + ys.length ≤ 1073741824)) (chk (Nat.ble ei.bytes 1024) (chk (Nat.blt 0 ei.size) (
              match Nat.blt id n0 with
              | false => k ⟨put (st.sl.map (V.kill id)) o.dst (.at (.sl id)), (st.hp.map (Ob.kill id)).set id ⟨true, .rows ks (xs ++ ys)⟩⟩
              | true => k ⟨put (st.sl.map (V.kill id)) o.dst (.at (.sl st.hp.length)), (st.hp.map (Ob.kill id)).set id ⟨true, .dead⟩ ++ [⟨true, .rows ks (xs ++ ys)⟩]⟩)))))
          | none => none
        | _, _, _ => none
      | _, _, _ => none)
    | _, _ => none
  | .mapUpdate t m x y => match tyOf cx.ty t, evA st.sl m, evA st.sl x, evA st.sl y with
    | some (.mp _ kd), .at (.mp id), .agg [.int k1 a, .int k2 b], .at (.bool true) => match st.hp[id]? with
      | some ⟨true, .mp kd' keys⟩ => chk (decide (kd' = kd)) (chk (decide (k1 = kd)) (chk (decide (k2 = kd)) (chk (decide (kd.min ≤ a) && decide (a ≤ kd.max)) (chk (decide (kd.min ≤ b) && decide (b ≤ kd.max))
          (k ⟨put st.sl o.dst (.at .void), st.hp.set id ⟨true, .mp kd (mapPut keys a b)⟩⟩)))))
      | _ => none
    | _, _, _, _ => none
  | .slice t x none (some h) none => match tyOf cx.ty t, evA st.sl x, evA st.sl h with
    | some (.sl et), .at (.sl id), .at (.int _ 0) => match cx.ty et, st.hp[id]? with
      | some ei, some ⟨true, .rows ks _⟩ => chk (Nat.ble n0 id) (chk (Nat.beq ks.length ei.size) (k ⟨put (st.sl.map (V.kill id)) o.dst (.at (.sl id)), (st.hp.map (Ob.kill id)).set id ⟨true, .rows ks []⟩⟩))
      | _, _ => none
    | _, _, _ => none
  | _ => none

def cutB (cx : Cx) (n0 : Nat) (o : Oper) (st : St) : Bool :=
  match Nat.beq cx.un 77 with
  | false => false
  | true => match o.op with
    | .slice _ x none (some h) none => match evA st.sl x, evA st.sl h with
      | .at (.sl id), .at (.int _ 0) => Nat.ble n0 id
      | _, _ => false
    | _ => false

def bindsB (e : Edge) : Bool :=
  match e.ground with
  | .textOnly _ => false
  | .gcOnly _ => false
  | _ => true

def edgeMask (masks : List Nat) : List Edge → Nat
  | [] => 0
  | e :: t => match bindsB e with
    | true => ((1 <<< e.on) ||| masks.getD e.on 0) ||| edgeMask masks t
    | false => edgeMask masks t

def maskGo : List Nat → List Oper → List Nat
  | acc, [] => acc
  | acc, o :: r => maskGo (acc ++ [edgeMask acc o.after.toList]) r

def masks (ops : Array Oper) : List Nat := maskGo [] ops.toList

def bef (ms : List Nat) (i j : Nat) : Bool := (ms.getD j 0).testBit i

def tmpOf : Operand → List Nat
  | .tmp t => [t]
  | _ => []

def gslot (all : Array Oper) (j : Nat) : Option Nat :=
  match all[j]? with
  | some o => o.dst
  | none => none

def reads (all : Array Oper) (o : Oper) : List Nat :=
  o.op.operands.toList.flatMap tmpOf ++ (match o.guard with | some (j, _) => (gslot all j).toList | none => [])

def dstIn (d : Option Nat) (l : List Nat) : Bool :=
  match d with
  | some d => hasId d l
  | none => false

def apartB (all : Array Oper) (a b : Oper) : Bool :=
  (match a.dst, b.dst with | some x, some y => !Nat.beq x y | _, _ => true) && !dstIn a.dst (reads all b) && !dstIn b.dst (reads all a)

def edgeOk (i : Nat) (e : Edge) : Bool :=
  match bindsB e with
  | true => Nat.blt e.on i
  | false => true

def pairsOk (ms : List Nat) (all : Array Oper) : Nat → List Oper → Bool
  | _, [] => true
  | j, o :: r =>
    o.after.toList.all (edgeOk j) &&
    ((List.range j).all fun i => bef ms i j || (match all[i]? with | some a => apartB all a o | none => false)) &&
    pairsOk ms all (j + 1) r

def drawOk (all : Array Oper) : Bool := pairsOk (masks all) all 0 all.toList

def lateOp (o : Oper) : Bool :=
  (match o.op with | .move _ => true | .assign _ => true | .extract _ _ => true | .load _ _ => true | .pick _ _ _ => true | .nilCheck _ => true | .fieldAddr _ _ _ => true | .indexAddr _ _ _ => true | .unOp .neg _ _ => true | _ => false) && o.guard.isNone

def tidOf (o : Oper) (sl : List V) : Option Nat :=
  match o.op with
  | .store _ x _ => match evA sl x with
    | .at (.ptr id _ _) => some id
    | _ => none
  | .call ⟨.builtin .append, args, _⟩ => match args.toList with
    | x :: _ => match evA sl x with
      | .at (.sl id) => some id
      | _ => none
    | [] => none
  | _ => none

def beside (o : Oper) (sl : List V) (t id el off : Nat) : Bool :=
  match o.op with
  | .store t' x y => match evA sl x, evA sl y with
    | .at (.ptr id' el' off'), .at _ => Nat.beq t t' && Nat.beq id id' && Nat.beq el el' && !Nat.beq off off'
    | _, _ => false
  | _ => false

def awayB (o : Oper) (sl : List V) (oj : Oper) : Bool :=
  match oj.op with
  | .load t x => match tidOf o sl, evA sl x with
    | some tt, .at (.ptr id el off) => !Nat.beq id tt || beside o sl t id el off
    | _, _ => false
  | _ => true

def lateB (all : Array Oper) (j : Nat) : Bool :=
  match all[j]? with
  | some o => lateOp o && (List.range all.size).all fun i => match all[i]? with
    | some o' => (Nat.beq i j || (match o.dst, o'.dst with | some x, some y => !Nat.beq x y | _, _ => true)) && (Nat.blt j i || !dstIn o.dst (reads all o'))
    | none => true
  | none => false

def noSel (all : Array Oper) : Bool := all.toList.all fun o => match o.op with | .select _ _ => false | _ => true

def barrier (all : Array Oper) (i : Nat) (o : Oper) (sl : List V) : Bool :=
  ((List.range all.size).all fun j => match Nat.beq i j with
    | true => true
    | false => match Nat.blt j i with
      | true => bef (masks all) j i
      | false => bef (masks all) i j) ||
  (noSel all && (List.range all.size).all fun j => match Nat.beq i j with
    | true => true
    | false => match Nat.blt j i with
      | true => bef (masks all) j i || (lateB all j && (match all[j]? with | some oj => awayB o sl oj | none => false))
      | false => bef (masks all) i j)

def stepOp {α : Type} (cx : Cx) (n0 : Nat) (bar : Bool) (o : Oper) (st : St) (k : St → Option α) : Option α :=
  match o.op with
  | .store _ _ _ => chk bar (effOp cx n0 o st k)
  | .mapUpdate _ _ _ _ => chk bar (effOp cx n0 o st k)
  | .pick c a b => match evA st.sl c with
    | .at (.bool t) => match t with
      | true => k ⟨put st.sl o.dst (evA st.sl a), st.hp⟩
      | false => k ⟨put st.sl o.dst (evA st.sl b), st.hp⟩
    | _ => none
  | .call ⟨.builtin .append, args, _⟩ => match args.toList with
    | x :: _ => match evA st.sl x with
      | .at .nil => calm cx o st.sl st.hp (fun v news => k ⟨put st.sl o.dst v, st.hp ++ news⟩) (fun _ _ => none)
      | _ => chk bar (effOp cx n0 o st k)
    | [] => none
  | .slice _ _ _ _ _ => match cutB cx n0 o st with
    | true => chk bar (effOp cx n0 o st k)
    | false => calm cx o st.sl st.hp (fun v news => k ⟨put st.sl o.dst v, st.hp ++ news⟩)
      (fun v hp' => chk bar (k ⟨put st.sl o.dst v, hp'⟩))
  | _ => calm cx o st.sl st.hp (fun v news => k ⟨put st.sl o.dst v, st.hp ++ news⟩)
      (fun v hp' => chk bar (k ⟨put st.sl o.dst v, hp'⟩))

def evOps {α : Type} (cx : Cx) (n0 : Nat) (all : Array Oper) (dr : Bool) : Nat → List Oper → St → (St → Option α) → Option α
  | _, [], st, k => k st
  | i, o :: r, st, k =>
    match o.guard with
    | none => stepOp cx n0 (match dr with | true => barrier all i o st.sl | false => true) o st fun st' => evOps cx n0 all dr (i + 1) r st' k
    | some (j, want) => match gslot all j with
      | some d => match st.sl.getD d (.at .void) with
        | .at (.bool t) => match t with
          | true => match want with
            | true => stepOp cx n0 (match dr with | true => barrier all i o st.sl | false => true) o ⟨st.sl.set d (.at (.bool true)), st.hp⟩ fun st' => evOps cx n0 all dr (i + 1) r st' k
            | false => evOps cx n0 all dr (i + 1) r ⟨put (st.sl.set d (.at (.bool true))) o.dst (.at .void), st.hp⟩ k
          | false => match want with
            | false => stepOp cx n0 (match dr with | true => barrier all i o st.sl | false => true) o ⟨st.sl.set d (.at (.bool false)), st.hp⟩ fun st' => evOps cx n0 all dr (i + 1) r st' k
            | true => evOps cx n0 all dr (i + 1) r ⟨put (st.sl.set d (.at (.bool false))) o.dst (.at .void), st.hp⟩ k
        | .at .void => evOps cx n0 all dr (i + 1) r ⟨put st.sl o.dst (.at .void), st.hp⟩ k
        | _ => none
      | none => none

def isStore (o : Oper) : Bool :=
  match o.op with
  | .store _ _ _ => true
  | _ => false

def freeOp (o : Oper) : Bool :=
  match o.op with
  | .move _ => true
  | .assign _ => true
  | .nilCheck _ => true
  | .binOp _ _ _ _ _ => true
  | .unOp _ _ _ => true
  | .convert _ _ _ => true
  | .fieldAddr _ _ _ => true
  | .extract _ _ => true
  | _ => false

def loadSc (ty : Nat → Option TI) (o : Oper) : Bool :=
  match o.op with
  | .load t _ => match tyOf ty t with
    | some (.sc _) => true
    | _ => false
  | _ => false

def mixLoad (all : Array Oper) (i j : Nat) (o oj : Oper) (sl : List V) : Bool :=
  match oj.op, o.op with
  | .load _ x, .store _ sx sy => match evA sl x, evA sl sx, evA sl sy with
    | .at (.ptr id _ off), .at (.ptr id' _ off'), .at _ => (!Nat.beq id id' || !Nat.beq off off') && ((List.range i).all fun m => Nat.blt m j || (match all[m]? with | some om => !dstIn om.dst (reads all oj) | none => true))
    | _, _, _ => false
  | _, _ => false

def mixBar (all : Array Oper) (i : Nat) (o : Oper) (sl : List V) : Bool :=
  (List.range all.size).all fun j => match Nat.beq i j with
    | true => true
    | false => match Nat.blt j i with
      | true => bef (masks all) j i || (match all[j]? with | some oj => freeOp oj || mixLoad all i j o oj sl | none => false)
      | false => bef (masks all) i j

def mixB (all : Array Oper) : Bool :=
  (all.toList.all fun o => o.guard.isNone && (freeOp o || isStore o || (match o.op with | .load _ _ => true | _ => false))) &&
  ((List.range all.size).any fun i => (match all[i]? with | some o => isStore o | none => false) && (List.range i).any fun j => !bef (masks all) j i && !lateB all j)

def evMix {α : Type} (cx : Cx) (n0 : Nat) (all : Array Oper) : Nat → List Oper → St → (St → Option α) → Option α
  | _, [], st, k => k st
  | i, o :: r, st, k =>
    match isStore o with
    | true => chk (mixBar all i o st.sl) (effOp cx n0 o st fun st' => evMix cx n0 all (i + 1) r st' k)
    | false => chk (o.guard.isNone && (freeOp o || loadSc cx.ty o)) (calm cx o st.sl st.hp (fun v _ => evMix cx n0 all (i + 1) r ⟨put st.sl o.dst v, st.hp⟩ k) (fun _ _ => none))

def canon (n0 : Nat) (vals : List V) (hp : List Ob) : List V × List Ob :=
  match reach 3 (addIds (List.range n0) (vals.flatMap V.ids)) hp with
  | ids => (vals.map (V.ren fun i => idx i ids), pick hp (fun i => idx i ids) false ids)

def nilA (hp : List Ob) (lk : Option (List K)) (a : A) : A × List Ob :=
  match a with
  | .nil => match lk with
    | some ks => (.sl hp.length, hp ++ [⟨true, .rows ks []⟩])
    | none => (a, hp)
  | a => (a, hp)

def nilAs (hp : List Ob) : List (Option (List K)) → List A → List A × List Ob
  | lk :: lks, a :: as =>
    match nilA hp lk a with
    | (a', hp') => match nilAs hp' lks as with
      | (as', hp'') => (a' :: as', hp'')
  | [], as => (as, hp)
  | _, [] => ([], hp)

def nilV (ty : Nat → Option TI) (hp : List Ob) (t : Nat) : V → V × List Ob
  | .at a => match nilAs hp (lksOf ty t) [a] with
    | ([a'], hp') => (.at a', hp')
    | (_, hp') => (.at .undef, hp')
  | .agg as => match nilAs hp (lksOf ty t) as with
    | (as', hp') => (.agg as', hp')
  | .tup xs => (.tup xs, hp)

def nilVs (ty : Nat → Option TI) (hp : List Ob) : List Nat → List V → List V × List Ob
  | t :: ts, v :: vs =>
    match nilV ty hp t v with
    | (v', hp') => match nilVs ty hp' ts vs with
      | (vs', hp'') => (v' :: vs', hp'')
  | [], vs => (vs, hp)
  | _, [] => ([], hp)

def nilBox (ty : Nat → Option TI) (t : Nat) (hp : List Ob) (id : Nat) : List Ob :=
  match hp[id]? with
  | some ⟨true, .box cs⟩ => match Nat.beq cs.length (lksOf ty t).length with
    | true => match nilAs hp (lksOf ty t) cs with
      | (cs', hp') => hp'.set id ⟨true, .box cs'⟩
    | false => hp
  | _ => hp

def nilBoxes (ty : Nat → Option TI) (t : Nat) : List Nat → List Ob → List Ob
  | [], hp => hp
  | id :: ids, hp => nilBoxes ty t ids (nilBox ty t hp id)

def nilTys (ty : Nat → Option TI) : List Nat → List Ob → List Ob
  | [], hp => hp
  | t :: ts, hp => nilTys ty ts (nilBoxes ty t (List.range hp.length) hp)

def canonV (ty : Nat → Option TI) (n0 : Nat) (tys : List Nat) (vals : List V) (hp : List Ob) : List V × List Ob :=
  match nilVs ty hp tys vals with
  | (vs, hpT) => canon n0 vs (nilTys ty (tys.drop vals.length) hpT)

def setAll : List V → List Nat → List V → List V
  | sl, i :: is, v :: vs => setAll (sl.set i v) is vs
  | sl, _, _ => sl

def framed (n : Nat) (live : List Nat) (vals : List V) : List V := setAll (List.replicate n (.at .undef)) live vals

def evLoop {α : Type} (body : St → (Ex → St → Option α) → Option α) : Nat → St → (Ex → St → Option α) → Option α
  | 0, _, _ => none
  | n + 1, st, k => body st fun e st' => match e with
    | .normal => evLoop body n st' k
    | e => k e st'

def inBlock {α : Type} (id : Nat) (k : Ex → St → Option α) : Ex → St → Option α
  | .exit id', st => match Nat.beq id' id with
    | true => k .normal st
    | false => k (.exit id') st
  | e, st => k e st

def evC {α : Type} (cx : Cx) (n0 : Nat) : Code → St → (Ex → St → Option α) → Option α
  | .skip, st, k => k .normal st
  | .region _ ops draw, st, k => match draw with
    | true => chk (drawOk ops) (match mixB ops with
      | true => evMix cx n0 ops 0 ops.toList st (k .normal)
      | false => evOps cx n0 ops true 0 ops.toList st (k .normal))
    | false => evOps cx n0 ops false 0 ops.toList st (k .normal)
  | .seq a b, st, k => evC cx n0 a st fun e st' => match e with
    | .normal => evC cx n0 b st' k
    | e => k e st'
  | .cond c x y, st, k => match evA st.sl c with
    | .at (.bool t) => match t with
      | true => evC cx n0 x st k
      | false => evC cx n0 y st k
    | _ => none
  | .block id body, st, k => match cx.sm id with
    | some s => match canonV cx.ty n0 s.tys (s.live.map fun i => st.sl.getD i (.at .void)) st.hp with
      | (vals, hp) => match s.fn vals hp with
        | some (ok, q) => chk ok (q.to fun e vals' hp' => k e ⟨framed st.sl.length s.out vals', hp'⟩)
        | none => none
    | none => evC cx n0 body st (inBlock id k)
  | .loop body, st, k => evLoop (evC cx n0 body) cx.un st k
  | .exit id, st, k => k (.exit id) st
  | .ret, st, k => k .ret st
  | _, _, _ => none

def roundOf (cx : Cx) (n0 n id : Nat) (live tys out : List Nat) (body : Code) (vals : List V) (hp : List Ob) : Option (Bool × Ex × List V × List Ob) :=
  evC cx n0 body ⟨framed n live vals, hp⟩ fun e st => match e with
    | .normal => match canonV cx.ty n0 tys (live.map fun i => st.sl.getD i (.at .void)) st.hp with
      | (vs, h) => some (true, .normal, vs, h)
    | .exit j => match canon n0 (out.map fun i => st.sl.getD i (.at .void)) st.hp with
      | (vs, h) => match Nat.beq j id with
        | true => some (false, .normal, vs, h)
        | false => some (false, .exit j, vs, h)
    | .ret => match canon n0 (out.map fun i => st.sl.getD i (.at .void)) st.hp with
      | (vs, h) => some (false, .ret, vs, h)

def loopOf (cx : Cx) (n0 n id : Nat) (live tys out : List Nat) (body : Code) : Nat → List V → List Ob → Option (Ex × List V × List Ob)
  | 0, _, _ => none
  | fuel + 1, vals, hp => match roundOf cx n0 n id live tys out body vals hp with
    | some (true, _, vs, h) => loopOf cx n0 n id live tys out body fuel vs h
    | some (false, e, vs, h) => some (e, vs, h)
    | none => none

def toT : V → Bool × List A
  | .at a => (false, [a])
  | .agg as => (true, as)
  | .tup _ => (false, [.undef])

def resV (ty : Nat → Option TI) (st : St) : List ResultVar → Option (List V)
  | [] => some []
  | .tmp t :: r => match resV ty st r with
    | some vs => some (st.sl.getD t (.at .void) :: vs)
    | none => none
  | .cell a t :: r => match st.sl.getD a (.at .void), ty t, resV ty st r with
    | .at (.ptr id el off), some i, some vs => match st.hp[id]? with
      | some ob => match loadOb ob el off i.size (match i.d with | .st _ => true | .ar _ _ => true | _ => false) with
        | some v => some (v :: vs)
        | none => none
      | none => none
    | _, _, _ => none

def wrapV : List V → V
  | [v] => v
  | vs => .tup (vs.map toT)

def updOf (eff : Bool) (n0 : Nat) (h : List Ob) : Option (List Ob) :=
  match eff with
  | true => some (h.take n0)
  | false => none

def nilEnd (cx : Cx) (hp : List Ob) : List Ob :=
  match cx.un / 1000 with
  | 0 => hp
  | t + 1 => nilBoxes cx.ty (t + 1) (List.range hp.length) hp

def finish (cx : Cx) (fn : Func) (eff : Bool) (n0 : Nat) (st : St) : Option Ret :=
  match resV cx.ty st fn.results.toList with
  | none => none
  | some vs =>
    chk (!anySub vs) <|
    match viewVs cx.ty st.hp fn.resultTypes.toList vs with
    | (vs1, hpV) =>
      match nilEnd cx hpV with
      | hpT =>
      match reach 3 (addIds (List.range n0) (vs1.flatMap V.ids)) hpT with
      | ids =>
        match vs1.map (V.ren fun i => idx i ids), pick hpT (fun i => idx i ids) false ids with
        | vs2, h2 =>
          some {
            r := wrapV vs2
            upd := updOf eff n0 h2
            news := h2.drop n0 }

def initSt (fn : Func) (args : List V) (h : List Ob) : St :=
  ⟨args ++ List.replicate (fn.ntmps - args.length) (.at .void), h⟩

def evFn (cx : Cx) (fn : Func) (eff : Bool) (args : List V) (h : List Ob) : Option Ret :=
  match fn.body with
  | some c => evC cx h.length c (initSt fn args h) fun e st => match e with
    | .normal => finish cx fn eff h.length st
    | .ret => finish cx fn eff h.length st
    | .exit _ => none
  | none => none
end Go.Fx

/- What the abstract values and objects stand for in a world. -/
namespace Go.Fx

def F2 {α β : Type} (R : α → β → Prop) : List α → List β → Prop
  | [], [] => True
  | a :: as, b :: bs => R a b ∧ F2 R as bs
  | _, _ => False

theorem F2.imp {α β : Type} {R R' : α → β → Prop} (h : ∀ a b, R a b → R' a b) : ∀ {as : List α} {bs : List β}, F2 R as bs → F2 R' as bs
  | [], [], _ => trivial
  | _ :: _, _ :: _, ⟨h1, h2⟩ => ⟨h _ _ h1, F2.imp h h2⟩
  | [], _ :: _, h => h.elim
  | _ :: _, [], h => h.elim

theorem F2.length {α β : Type} {R : α → β → Prop} : ∀ {as : List α} {bs : List β}, F2 R as bs → as.length = bs.length
  | [], [], _ => rfl
  | _ :: _, _ :: _, ⟨_, h2⟩ => by simp [F2.length h2]
  | [], _ :: _, h => h.elim
  | _ :: _, [], h => h.elim

theorem F2.get {α β : Type} {R : α → β → Prop} : ∀ {as : List α} {bs : List β}, F2 R as bs → ∀ (i : Nat) (a : α), as[i]? = some a → ∃ b, bs[i]? = some b ∧ R a b
  | [], [], _, i, a, h => by simp at h
  | x :: as, y :: bs, ⟨h1, h2⟩, 0, a, h => by simp at h; subst h; exact ⟨y, by simp, h1⟩
  | x :: as, y :: bs, ⟨h1, h2⟩, i + 1, a, h => by simp at h; obtain ⟨b, hb, hr⟩ := F2.get h2 i a h; exact ⟨b, by simpa using hb, hr⟩
  | [], _ :: _, h, _, _, _ => h.elim
  | _ :: _, [], h, _, _, _ => h.elim

theorem F2.of_get {α β : Type} {R : α → β → Prop} : ∀ {as : List α} {bs : List β}, as.length = bs.length → (∀ (i : Nat) a b, as[i]? = some a → bs[i]? = some b → R a b) → F2 R as bs
  | [], [], _, _ => trivial
  | x :: as, y :: bs, hl, h => ⟨h 0 x y (by simp) (by simp), F2.of_get (by simpa using hl) fun i a b ha hb => h (i + 1) a b (by simpa using ha) (by simpa using hb)⟩
  | [], _ :: _, hl, _ => by simp at hl
  | _ :: _, [], hl, _ => by simp at hl

theorem F2.set {α β : Type} {R : α → β → Prop} {a : α} {b : β} (h : R a b) : ∀ {as : List α} {bs : List β} (i : Nat), F2 R as bs → F2 R (as.set i a) (bs.set i b)
  | [], [], _, _ => trivial
  | _ :: _, _ :: _, 0, ⟨_, h2⟩ => ⟨h, h2⟩
  | _ :: _, _ :: _, i + 1, ⟨h1, h2⟩ => ⟨h1, F2.set h i h2⟩
  | [], _ :: _, _, h => h.elim
  | _ :: _, [], _, h => h.elim

theorem F2.map_left {α β γ : Type} {R : α → β → Prop} {R' : γ → β → Prop} {f : α → γ} (h : ∀ a b, R a b → R' (f a) b) : ∀ {as : List α} {bs : List β}, F2 R as bs → F2 R' (as.map f) bs
  | [], [], _ => trivial
  | _ :: _, _ :: _, ⟨h1, h2⟩ => ⟨h _ _ h1, F2.map_left h h2⟩
  | [], _ :: _, h => h.elim
  | _ :: _, [], h => h.elim

theorem F2.append {α β : Type} {R : α → β → Prop} : ∀ {as : List α} {bs : List β} {as' : List α} {bs' : List β}, F2 R as bs → F2 R as' bs' → F2 R (as ++ as') (bs ++ bs')
  | [], [], _, _, _, h => h
  | _ :: _, _ :: _, _, _, ⟨h1, h2⟩, h => ⟨h1, F2.append h2 h⟩
  | [], _ :: _, _, _, h, _ => h.elim
  | _ :: _, [], _, _, h, _ => h.elim

theorem F2.replicate {α β : Type} {R : α → β → Prop} {a : α} {b : β} (h : R a b) : ∀ n, F2 R (List.replicate n a) (List.replicate n b)
  | 0 => trivial
  | n + 1 => ⟨h, F2.replicate h n⟩

theorem F2.drop {α β : Type} {R : α → β → Prop} : ∀ (n : Nat) {as : List α} {bs : List β}, F2 R as bs → F2 R (as.drop n) (bs.drop n)
  | 0, _, _, h => h
  | _ + 1, [], [], _ => trivial
  | n + 1, _ :: _, _ :: _, ⟨_, h2⟩ => F2.drop n h2
  | _ + 1, [], _ :: _, h => h.elim
  | _ + 1, _ :: _, [], h => h.elim

theorem F2.take {α β : Type} {R : α → β → Prop} : ∀ (n : Nat) {as : List α} {bs : List β}, F2 R as bs → F2 R (as.take n) (bs.take n)
  | 0, _, _, _ => by simp [F2]
  | _ + 1, [], [], _ => trivial
  | n + 1, _ :: _, _ :: _, ⟨h1, h2⟩ => ⟨h1, F2.take n h2⟩
  | _ + 1, [], _ :: _, h => h.elim
  | _ + 1, _ :: _, [], h => h.elim

inductive Pl where
  | off
  | empty
  | on (b base room : Nat)

inductive Shp where
  | no
  | box
  | rows (ks : List K) (n : Nat)
  | mp

def shpOb (ob : Ob) : Shp :=
  match ob.c with
  | .dead => .no
  | .box _ => .box
  | .rows ks xs => .rows ks xs.length
  | .mp _ _ => .mp

def shp (hp : List Ob) (id : Nat) : Shp :=
  match hp[id]? with
  | some ob => shpOb ob
  | none => .no

def offs : Shp → Nat → Nat
  | .rows ks _, e => e * ks.length
  | _, _ => 0

def inB : Shp → Nat → Prop
  | .rows _ n, e => e < n
  | .box, e => e = 0
  | .no, _ => False
  | .mp, _ => False

def PR (ι : Nat → Pl) (S : Nat → Shp) (id e o : Nat) (c : Value) : Prop :=
  ∃ b base room, ι id = .on b base room ∧ c = .pointer (some ⟨b, base + offs (S id) e + o, none⟩) ∧ inB (S id) e

def AR (ι : Nat → Pl) (S : Nat → Shp) : A → Value → Prop
  | .undef, _ => True
  | .void, c => c = undef
  | .bool b, c => c = .bool b
  | .int k n, c => c = .int k n
  | .fl k x, c => ∃ b, c = .float k b ∧ x = (cf k b : Nat)
  | .raw k x, c => ∃ b : Nat, c = .int (rawKind k) b ∧ x = (cf k b : Nat)
  | .ptr id e o, c => PR ι S id e o c
  | .sl id, c => ∃ ks n, S id = .rows ks n ∧
      ((ι id = .empty ∧ n = 0 ∧ ∃ a, c = .slice a 0 0) ∨
       ∃ b base room cap, ι id = .on b base room ∧ c = .slice (some ⟨b, base, none⟩) n cap ∧ n ≤ cap ∧ cap * ks.length ≤ room ∧ cap ≤ maxLen)
  | .sub id st len cap, c => ∃ ks n, S id = .rows ks n ∧ st + len ≤ n ∧ ∃ a cp, c = .slice a len cp ∧ (∀ m, cap = some m → cp = m) ∧ cp ≤ maxLen ∧ len ≤ cp ∧
      (cp = 0 ∨ ∃ b base room, ι id = .on b base room ∧ a = some ⟨b, base + st * ks.length, none⟩ ∧ (st + cp) * ks.length ≤ room)
  | .bs id n, c => S id = .box ∧ ∃ b base room, ι id = .on b base room ∧ c = .slice (some ⟨b, base, none⟩) n n
  | .mp id, c => S id = .mp ∧ ∃ b, ι id = .on b 0 0 ∧ c = .map (some b)
  | .nil, c => ∃ a, c = .slice a 0 0
  | .fn f caps, c => ∃ cs, c = .func (.func f) #[] cs ∧ F2 (fun p c => PR ι S p.1 p.2.1 p.2.2 c) caps cs.toList

def TR (ι : Nat → Pl) (S : Nat → Shp) : Bool × List A → Value → Prop
  | (true, as), c => ∃ cs, c = .agg cs ∧ F2 (AR ι S) as cs.toList
  | (false, [a]), c => AR ι S a c
  | (false, _), _ => False

def VR (ι : Nat → Pl) (S : Nat → Shp) : V → Value → Prop
  | .at a, c => AR ι S a c
  | .agg as, c => ∃ cs, c = .agg cs ∧ F2 (AR ι S) as cs.toList
  | .tup xs, c => ∃ cs, c = .tuple cs ∧ F2 (TR ι S) xs cs.toList

def KR : K → Int → Value → Prop
  | .f k, n, c => ∃ b, c = .float k b ∧ n = (cf k b : Nat)
  | .i k, n, c => c = .int k n
  | .b, n, c => ∃ b : Bool, c = .bool b ∧ n = (match b with | true => 1 | false => 0)

def RowsR (blk : Array Value) (base : Nat) (ks : List K) (xs : List (List Int)) : Prop :=
  ∀ e row, xs[e]? = some row → row.length = ks.length ∧ ∀ o kd, ks[o]? = some kd → ∃ c, blk[base + e * ks.length + o]? = some c ∧ KR kd (row.getD o 0) c

def MapR (kd : IntKind) (keys : List (List Int)) (es : Array MapEntry) : Prop :=
  F2 (fun (r : List Int) (e : MapEntry) => ∃ a b : Int, r = [a, b] ∧ e.key = .agg #[.int kd a, .int kd b] ∧ (kd.min ≤ a ∧ a ≤ kd.max) ∧ (kd.min ≤ b ∧ b ≤ kd.max)) keys es.toList

def ObR (ι : Nat → Pl) (S : Nat → Shp) (w : World) (id : Nat) (ob : Ob) : Prop :=
  match ob.c with
  | .dead => True
  | .box cs => ∃ b base room blk ty fz, ι id = .on b base room ∧ w.heap[b]? = some (.cells blk ty fz) ∧ base + room ≤ blk.size ∧ cs.length ≤ room ∧
      (ob.own = true → fz = (0, 0)) ∧ ∀ j a, cs[j]? = some a → ∃ c, blk[base + j]? = some c ∧ AR ι S a c
  | .rows ks xs => (ι id = .empty ∧ xs = []) ∨
      ∃ b base room blk ty fz, ι id = .on b base room ∧ w.heap[b]? = some (.cells blk ty fz) ∧ base + room ≤ blk.size ∧
        (ob.own = true → fz = (0, 0) ∧ base = 0 ∧ blk.size = room) ∧ RowsR blk base ks xs
  | .mp kd keys => ∃ b es clock, ι id = .on b 0 0 ∧ w.heap[b]? = some (.map es clock) ∧ MapR kd keys es

def HR (ι : Nat → Pl) (hp : List Ob) (w : World) : Prop :=
  ∀ id ob, hp[id]? = some ob → ι id ≠ .off → ObR ι (shp hp) w id ob

def Ob.live (ob : Ob) : Prop := shpOb ob ≠ .no

def INJ (ι : Nat → Pl) (hp : List Ob) : Prop :=
  ∀ i j oi oj b base room b' base' room', hp[i]? = some oi → hp[j]? = some oj → i ≠ j → oi.own = true → oi.live → oj.live →
    ι i = .on b base room → ι j = .on b' base' room' → b ≠ b'

theorem PR.ext {ι ι' : Nat → Pl} {S S' : Nat → Shp} (h : ∀ id, S id ≠ .no → ι' id = ι id ∧ S' id = S id) {id e o : Nat} {c : Value} (hp : PR ι S id e o c) : PR ι' S' id e o c := by
  obtain ⟨b, base, room, h1, h2, h3⟩ := hp
  have hn : S id ≠ .no := by intro hh; rw [hh] at h3; exact h3
  obtain ⟨e1, e2⟩ := h id hn
  exact ⟨b, base, room, e1 ▸ h1, by rw [e2]; exact h2, by rw [e2]; exact h3⟩

theorem AR.ext {ι ι' : Nat → Pl} {S S' : Nat → Shp} (h : ∀ id, S id ≠ .no → ι' id = ι id ∧ S' id = S id) {a : A} {c : Value} (ha : AR ι S a c) : AR ι' S' a c := by
  cases a with
  | undef => trivial
  | void => exact ha
  | bool b => exact ha
  | int k n => exact ha
  | fl k x => exact ha
  | raw k x => exact ha
  | ptr id e o => exact PR.ext h ha
  | sl id =>
    obtain ⟨ks, n, h1, h2⟩ := ha
    obtain ⟨e1, e2⟩ := h id (by rw [h1]; simp)
    refine ⟨ks, n, by rw [e2]; exact h1, ?_⟩
    rw [e1]; exact h2
  | sub id st len cap =>
    obtain ⟨ks, n, h1, h2⟩ := ha
    obtain ⟨e1, e2⟩ := h id (by rw [h1]; simp)
    refine ⟨ks, n, by rw [e2]; exact h1, ?_⟩
    rw [e1]; exact h2
  | bs id n =>
    obtain ⟨h1, h2⟩ := ha
    obtain ⟨e1, e2⟩ := h id (by rw [h1]; simp)
    refine ⟨by rw [e2]; exact h1, ?_⟩
    rw [e1]; exact h2
  | mp id =>
    obtain ⟨h1, h2⟩ := ha
    obtain ⟨e1, e2⟩ := h id (by rw [h1]; simp)
    refine ⟨by rw [e2]; exact h1, ?_⟩
    rw [e1]; exact h2
  | nil => exact ha
  | fn f caps =>
    obtain ⟨cs, h1, h2⟩ := ha
    exact ⟨cs, h1, h2.imp fun _ _ hp => PR.ext h hp⟩

theorem TR.of {ι ι' : Nat → Pl} {S S' : Nat → Shp} (h : ∀ a c, AR ι S a c → AR ι' S' a c) {x : Bool × List A} {c : Value} (hx : TR ι S x c) : TR ι' S' x c := by
  obtain ⟨f, as⟩ := x
  cases f with
  | true => obtain ⟨cs, h1, h2⟩ := hx; exact ⟨cs, h1, h2.imp h⟩
  | false =>
    match as, hx with
    | [a], hx => exact h _ _ hx
    | [], hx => exact hx.elim
    | _ :: _ :: _, hx => exact hx.elim

theorem VR.of {ι ι' : Nat → Pl} {S S' : Nat → Shp} (h : ∀ a c, AR ι S a c → AR ι' S' a c) {v : V} {c : Value} (hv : VR ι S v c) : VR ι' S' v c := by
  cases v with
  | «at» a => exact h _ _ hv
  | agg as => obtain ⟨cs, h1, h2⟩ := hv; exact ⟨cs, h1, h2.imp h⟩
  | tup xs => obtain ⟨cs, h1, h2⟩ := hv; exact ⟨cs, h1, h2.imp fun _ _ => TR.of h⟩

theorem VR.ext {ι ι' : Nat → Pl} {S S' : Nat → Shp} (h : ∀ id, S id ≠ .no → ι' id = ι id ∧ S' id = S id) {v : V} {c : Value} (hv : VR ι S v c) : VR ι' S' v c :=
  VR.of (fun _ _ => AR.ext h) hv

theorem PR.ren {ι ι' : Nat → Pl} {S S' : Nat → Shp} {m : Nat → Option Nat} (h : ∀ id j, m id = some j → S id ≠ .no → ι' j = ι id ∧ S' j = S id) {id j e o : Nat} {c : Value}
    (hm : m id = some j) (hp : PR ι S id e o c) : PR ι' S' j e o c := by
  obtain ⟨b, base, room, h1, h2, h3⟩ := hp
  have hn : S id ≠ .no := by intro hh; rw [hh] at h3; exact h3
  obtain ⟨e1, e2⟩ := h id j hm hn
  exact ⟨b, base, room, e1 ▸ h1, by rw [e2]; exact h2, by rw [e2]; exact h3⟩

theorem caps_ren {ι ι' : Nat → Pl} {S S' : Nat → Shp} {m : Nat → Option Nat} (h : ∀ id j, m id = some j → S id ≠ .no → ι' j = ι id ∧ S' j = S id) :
    ∀ {caps caps' : List (Nat × Nat × Nat)} {cs : List Value}, renCaps m caps = some caps' → F2 (fun p c => PR ι S p.1 p.2.1 p.2.2 c) caps cs →
      F2 (fun p c => PR ι' S' p.1 p.2.1 p.2.2 c) caps' cs
  | [], caps', [], hr, _ => by simp [renCaps] at hr; subst hr; trivial
  | (i, e, o) :: t, caps', c :: cs, hr, ⟨h1, h2⟩ => by
    simp only [renCaps] at hr
    cases hm : m i with
    | none => simp [hm] at hr
    | some j =>
      cases ht : renCaps m t with
      | none => simp [hm, ht] at hr
      | some t' =>
        simp [hm, ht] at hr
        subst hr
        exact ⟨PR.ren h hm h1, caps_ren h ht h2⟩
  | [], _, _ :: _, _, h => h.elim
  | _ :: _, _, [], _, h => h.elim

theorem AR.ren {ι ι' : Nat → Pl} {S S' : Nat → Shp} {m : Nat → Option Nat} (h : ∀ id j, m id = some j → S id ≠ .no → ι' j = ι id ∧ S' j = S id) {a : A} {c : Value}
    (ha : AR ι S a c) : AR ι' S' (a.ren m) c := by
  cases a with
  | undef => trivial
  | void => exact ha
  | bool b => exact ha
  | int k n => exact ha
  | fl k x => exact ha
  | raw k x => exact ha
  | ptr id e o =>
    simp only [A.ren]
    cases hm : m id with
    | none => trivial
    | some j => exact PR.ren h hm ha
  | sl id =>
    simp only [A.ren]
    cases hm : m id with
    | none => trivial
    | some j =>
      obtain ⟨ks, n, h1, h2⟩ := ha
      obtain ⟨e1, e2⟩ := h id j hm (by rw [h1]; simp)
      refine ⟨ks, n, by rw [e2]; exact h1, ?_⟩
      rw [e1]; exact h2
  | sub id st len cap =>
    simp only [A.ren]
    cases hm : m id with
    | none => trivial
    | some j =>
      obtain ⟨ks, n, h1, h2⟩ := ha
      obtain ⟨e1, e2⟩ := h id j hm (by rw [h1]; simp)
      refine ⟨ks, n, by rw [e2]; exact h1, ?_⟩
      rw [e1]; exact h2
  | bs id n =>
    simp only [A.ren]
    cases hm : m id with
    | none => trivial
    | some j =>
      obtain ⟨h1, h2⟩ := ha
      obtain ⟨e1, e2⟩ := h id j hm (by rw [h1]; simp)
      refine ⟨by rw [e2]; exact h1, ?_⟩
      rw [e1]; exact h2
  | mp id =>
    simp only [A.ren]
    cases hm : m id with
    | none => trivial
    | some j =>
      obtain ⟨h1, h2⟩ := ha
      obtain ⟨e1, e2⟩ := h id j hm (by rw [h1]; simp)
      refine ⟨by rw [e2]; exact h1, ?_⟩
      rw [e1]; exact h2
  | nil => exact ha
  | fn f caps =>
    simp only [A.ren]
    obtain ⟨cs, h1, h2⟩ := ha
    cases hr : renCaps m caps with
    | none => trivial
    | some caps' => exact ⟨cs, h1, caps_ren h hr h2⟩

theorem VR.ren {ι ι' : Nat → Pl} {S S' : Nat → Shp} {m : Nat → Option Nat} (h : ∀ id j, m id = some j → S id ≠ .no → ι' j = ι id ∧ S' j = S id) {v : V} {c : Value}
    (hv : VR ι S v c) : VR ι' S' (v.ren m) c := by
  cases v with
  | «at» a => exact AR.ren h hv
  | agg as =>
    obtain ⟨cs, h1, h2⟩ := hv
    exact ⟨cs, h1, F2.map_left (f := A.ren m) (fun _ _ hab => AR.ren h hab) h2⟩
  | tup xs =>
    obtain ⟨cs, h1, h2⟩ := hv
    refine ⟨cs, h1, F2.map_left (fun x c hx => ?_) h2⟩
    obtain ⟨f, as⟩ := x
    cases f with
    | true => obtain ⟨cs, h1, h2⟩ := hx; exact ⟨cs, h1, F2.map_left (f := A.ren m) (fun _ _ hab => AR.ren h hab) h2⟩
    | false =>
      match as, hx with
      | [a], hx => exact AR.ren h hx
      | [], hx => exact hx.elim
      | _ :: _ :: _, hx => exact hx.elim

theorem hasId_iff (i : Nat) : ∀ l : List Nat, hasId i l = true ↔ i ∈ l
  | [] => by simp [hasId]
  | j :: t => by
    simp only [hasId]
    by_cases h : i = j
    · subst h; simp
    · have : Nat.beq i j = false := by cases hb : Nat.beq i j with | false => rfl | true => exact absurd (Nat.eq_of_beq_eq_true hb) h
      simp [this, hasId_iff i t, h]

theorem F2.caps_mem {ι ι' : Nat → Pl} {S S' : Nat → Shp} {i : Nat} (h : ∀ id, id ≠ i → S id ≠ .no → ι' id = ι id ∧ S' id = S id) :
    ∀ {caps : List (Nat × Nat × Nat)} {cs : List Value}, ¬ i ∈ caps.map (·.1) → F2 (fun p c => PR ι S p.1 p.2.1 p.2.2 c) caps cs → F2 (fun p c => PR ι' S' p.1 p.2.1 p.2.2 c) caps cs
  | [], [], _, _ => trivial
  | (j, e, o) :: t, c :: cs, hn, ⟨h1, h2⟩ => by
    simp at hn
    refine ⟨?_, F2.caps_mem h (by simpa using hn.2) h2⟩
    obtain ⟨b, base, room, p1, p2, p3⟩ := h1
    have hne : S j ≠ .no := by intro hh; simp only at p3; rw [hh] at p3; exact p3
    obtain ⟨e1, e2⟩ := h j (fun e => hn.1 e.symm) hne
    exact ⟨b, base, room, e1 ▸ p1, by rw [e2]; exact p2, by rw [e2]; exact p3⟩
  | [], _ :: _, _, h => h.elim
  | _ :: _, [], _, h => h.elim

theorem AR.kill {ι ι' : Nat → Pl} {S S' : Nat → Shp} {i : Nat} (h : ∀ id, id ≠ i → S id ≠ .no → ι' id = ι id ∧ S' id = S id) {a : A} {c : Value}
    (ha : AR ι S a c) : AR ι' S' (a.kill i) c := by
  unfold A.kill
  cases hh : hasId i a.ids with
  | true => trivial
  | false =>
    have hn : ¬ i ∈ a.ids := fun hm => by rw [(hasId_iff i a.ids).2 hm] at hh; cases hh
    cases a with
    | undef => trivial
    | void => exact ha
    | bool b => exact ha
    | int k n => exact ha
    | fl k x => exact ha
    | raw k x => exact ha
    | ptr id e o =>
      simp [A.ids] at hn
      obtain ⟨b, base, room, p1, p2, p3⟩ := ha
      have hne : S id ≠ .no := by intro hh; rw [hh] at p3; exact p3
      obtain ⟨e1, e2⟩ := h id (fun e => hn e.symm) hne
      exact ⟨b, base, room, e1 ▸ p1, by rw [e2]; exact p2, by rw [e2]; exact p3⟩
    | sl id =>
      simp [A.ids] at hn
      obtain ⟨ks, n, h1, h2⟩ := ha
      obtain ⟨e1, e2⟩ := h id (fun e => hn e.symm) (by rw [h1]; simp)
      refine ⟨ks, n, by rw [e2]; exact h1, ?_⟩
      rw [e1]; exact h2
    | sub id st len cap =>
      simp [A.ids] at hn
      obtain ⟨ks, n, h1, h2⟩ := ha
      obtain ⟨e1, e2⟩ := h id (fun e => hn e.symm) (by rw [h1]; simp)
      refine ⟨ks, n, by rw [e2]; exact h1, ?_⟩
      rw [e1]; exact h2
    | bs id n =>
      simp [A.ids] at hn
      obtain ⟨h1, h2⟩ := ha
      obtain ⟨e1, e2⟩ := h id (fun e => hn e.symm) (by rw [h1]; simp)
      refine ⟨by rw [e2]; exact h1, ?_⟩
      rw [e1]; exact h2
    | mp id =>
      simp [A.ids] at hn
      obtain ⟨h1, h2⟩ := ha
      obtain ⟨e1, e2⟩ := h id (fun e => hn e.symm) (by rw [h1]; simp)
      refine ⟨by rw [e2]; exact h1, ?_⟩
      rw [e1]; exact h2
    | nil => exact ha
    | fn f caps =>
      obtain ⟨cs, h1, h2⟩ := ha
      exact ⟨cs, h1, F2.caps_mem h hn h2⟩

theorem VR.kill {ι ι' : Nat → Pl} {S S' : Nat → Shp} {i : Nat} (h : ∀ id, id ≠ i → S id ≠ .no → ι' id = ι id ∧ S' id = S id) {v : V} {c : Value}
    (hv : VR ι S v c) : VR ι' S' (v.kill i) c := by
  cases v with
  | «at» a => exact AR.kill h hv
  | agg as =>
    obtain ⟨cs, h1, h2⟩ := hv
    exact ⟨cs, h1, F2.map_left (f := A.kill i) (fun _ _ hab => AR.kill h hab) h2⟩
  | tup xs =>
    obtain ⟨cs, h1, h2⟩ := hv
    refine ⟨cs, h1, F2.map_left (fun x c hx => ?_) h2⟩
    obtain ⟨f, as⟩ := x
    cases f with
    | true => obtain ⟨cs, h1, h2⟩ := hx; exact ⟨cs, h1, F2.map_left (f := A.kill i) (fun _ _ hab => AR.kill h hab) h2⟩
    | false =>
      match as, hx with
      | [a], hx => exact AR.kill h hx
      | [], hx => exact hx.elim
      | _ :: _ :: _, hx => exact hx.elim

theorem ofK_AR {ι : Nat → Pl} {S : Nat → Shp} {kd : K} {n : Int} {c : Value} (h : KR kd n c) : AR ι S (ofK kd n) c := by
  cases kd with
  | f k => exact h
  | i k => exact h
  | b => obtain ⟨b, rfl, rfl⟩ := h; cases b <;> rfl

theorem aInt_KR {ι : Nat → Pl} {S : Nat → Shp} {a : A} {kd : K} {n : Int} {c : Value} (h : aInt a = some (kd, n)) (ha : AR ι S a c) : KR kd n c := by
  cases a <;> simp [aInt] at h
  case bool b => obtain ⟨rfl, rfl⟩ := h; exact ⟨b, ha, rfl⟩
  case int k m => obtain ⟨rfl, rfl⟩ := h; exact ha
  case fl k x => obtain ⟨rfl, rfl⟩ := h; exact ha

theorem aInts_KR {ι : Nat → Pl} {S : Nat → Shp} : ∀ {ks : List K} {as : List A} {ns : List Int} {cs : List Value}, aInts ks as = some ns → F2 (AR ι S) as cs →
    ns.length = ks.length ∧ cs.length = ks.length ∧ ∀ o kd, ks[o]? = some kd → ∃ c, cs[o]? = some c ∧ KR kd (ns.getD o 0) c
  | [], [], ns, [], h, _ => by simp [aInts] at h; subst h; simp
  | k :: ks, a :: as, ns, c :: cs, h, ⟨h1, h2⟩ => by
    simp only [aInts] at h
    cases ha : aInt a with
    | none => simp [ha] at h
    | some p =>
      obtain ⟨k', n⟩ := p
      simp only [ha] at h
      by_cases hk : k = k'
      · subst hk
        cases ht : aInts ks as with
        | none => simp [ht] at h
        | some t =>
          simp [ht] at h
          subst h
          obtain ⟨l1, l2, l3⟩ := aInts_KR ht h2
          refine ⟨by simp [l1], by simp [l2], fun o kd ho => ?_⟩
          cases o with
          | zero => simp at ho; subst ho; exact ⟨c, by simp, by simpa using aInt_KR ha h1⟩
          | succ o => simp at ho; obtain ⟨d, hd, hr⟩ := l3 o kd ho; exact ⟨d, by simpa using hd, by simpa using hr⟩
      · simp [hk] at h
  | [], _ :: _, _, _, h, _ => by simp [aInts] at h
  | _ :: _, [], _, _, h, _ => by simp [aInts] at h
  | [], [], _, _ :: _, _, h => h.elim
  | _ :: _, _ :: _, _, [], _, h => h.elim

theorem rowA_length : ∀ (ks : List K) (j : Nat) (r : List Int), (rowA ks j r).length = ks.length
  | [], _, _ => rfl
  | _ :: t, j, r => by simp [rowA, rowA_length t (j + 1) r]

theorem rowA_get : ∀ (ks : List K) (j : Nat) (r : List Int) (o : Nat) (kd : K), ks[o]? = some kd → (rowA ks j r)[o]? = some (ofK kd (r.getD (j + o) 0))
  | [], _, _, _, _, h => by simp at h
  | k :: t, j, r, 0, kd, h => by simp at h; subst h; simp [rowA]
  | k :: t, j, r, o + 1, kd, h => by
    simp at h
    have := rowA_get t (j + 1) r o kd h
    simp only [rowA, List.getElem?_cons_succ, this]
    rw [show j + 1 + o = j + (o + 1) by omega]

#print axioms VR.kill
end Go.Fx

/- Each calm operation does what the abstract interpreter says. -/
namespace Go.Fx

structure WX (w w' : World) : Prop where
  os : w'.os = w.os
  tape : w'.tape = w.tape
  output : w'.output = w.output
  size : w.heap.size ≤ w'.heap.size
  block : ∀ k, k < w.heap.size → w'.heap[k]? = w.heap[k]?

theorem WX.refl (w : World) : WX w w := ⟨rfl, rfl, rfl, Nat.le_refl _, fun _ _ => rfl⟩
theorem WX.drewN (w : World) (n : Nat) : WX w (w.drewN n) := ⟨rfl, rfl, rfl, Nat.le_refl _, fun _ _ => rfl⟩
theorem WX.alloc (w : World) (o : Obj) : WX w (w.alloc o) :=
  ⟨rfl, rfl, rfl, by simp, fun k hk => by show (w.heap.push o)[k]? = _; rw [Array.getElem?_push, if_neg (by omega)]⟩
theorem WX.trans {a b c : World} (h : WX a b) (k : WX b c) : WX a c :=
  ⟨k.os.trans h.os, k.tape.trans h.tape, k.output.trans h.output, Nat.le_trans h.size k.size, fun i hi => (k.block i (Nat.lt_of_lt_of_le hi h.size)).trans (h.block i hi)⟩

theorem lt_of_heap {w : World} {b : Nat} {o : Obj} (h : w.heap[b]? = some o) : b < w.heap.size := (Array.getElem?_eq_some_iff.1 h).1

theorem ObR.ext {ι ι' : Nat → Pl} {S S' : Nat → Shp} {w w' : World} {id : Nat} {ob : Ob} (hs : ∀ id, S id ≠ .no → ι' id = ι id ∧ S' id = S id) (hid : ι' id = ι id)
    (hw : ∀ b base room, ι id = .on b base room → b < w.heap.size → w'.heap[b]? = w.heap[b]?) (h : ObR ι S w id ob) : ObR ι' S' w' id ob := by
  obtain ⟨own, c⟩ := ob
  cases c with
  | dead => trivial
  | box cs =>
    obtain ⟨b, base, room, blk, ty, fz, h1, h2, h3, h4, h5, h6⟩ := h
    exact ⟨b, base, room, blk, ty, fz, hid ▸ h1, by rw [hw b base room h1 (lt_of_heap h2)]; exact h2, h3, h4, h5, fun j a ha => let ⟨c, e1, e2⟩ := h6 j a ha; ⟨c, e1, AR.ext hs e2⟩⟩
  | rows ks xs =>
    rcases h with ⟨h1, h2⟩ | ⟨b, base, room, blk, ty, fz, h1, h2, h3, h4, h5⟩
    · exact .inl ⟨hid ▸ h1, h2⟩
    · exact .inr ⟨b, base, room, blk, ty, fz, hid ▸ h1, by rw [hw b base room h1 (lt_of_heap h2)]; exact h2, h3, h4, h5⟩
  | mp kd keys =>
    obtain ⟨b, es, clock, h1, h2, h3⟩ := h
    exact ⟨b, es, clock, hid ▸ h1, by rw [hw b 0 0 h1 (lt_of_heap h2)]; exact h2, h3⟩

theorem HR.wx {ι : Nat → Pl} {hp : List Ob} {w w' : World} (h : HR ι hp w) (hw : WX w w') : HR ι hp w' :=
  fun id ob hi ho => (h id ob hi ho).ext (fun _ _ => ⟨rfl, rfl⟩) rfl fun _ _ _ _ hb => hw.block _ hb

def AR0 (a : A) (c : Value) : Prop := ∀ ι S, AR ι S a c

def DR (P : Program) (t : TypeId) : D → Prop
  | .sc (.f k) => P.underlying t = some (.float k)
  | .sc (.i k) => P.underlying t = some (.int k)
  | .sc .b => P.underlying t = some .bool
  | .st fs => ∃ fields : Array Field, P.underlying t = some (.struct fields) ∧ fields.toList.map (fun f => (f.offset, f.type)) = fs ∧
      ∀ f ∈ fields.toList, ∃ i, P.info? f.type = some i ∧ i.size ≠ 0
  | .ar n e => P.underlying t = some (.array n e)
  | .sl e => P.underlying t = some (.slice e)
  | .mp k kd => (∃ e, P.underlying t = some (.map k e)) ∧ (∃ m, P.types.size = m + 1) ∧ ∃ e, WideMaps.ArrKey P k e 2 ∧ P.underlying e = some (.int kd)
  | .oth => ∃ d, P.underlying t = some d ∧ (∀ f, d ≠ .struct f) ∧ ∀ n e, d ≠ .array n e

def EqF (P : Program) (t : TypeId) : Prop := P.stoodInHeld t = false ∧ P.eqGuardType P.depth t = false ∧ ∀ fields, P.underlying t = some (.struct fields) → ∀ f ∈ fields.toList, f.name ≠ "_"

structure TIOK (P : Program) (t : TypeId) (i : TI) : Prop where
  info : ∃ inf z, P.info? t = some inf ∧ inf.size = i.size ∧ inf.bytes = i.bytes ∧ inf.zero = some z ∧ F2 AR0 i.zero z.cells.toList
  d : DR P t i.d
  ks : ∀ ks, i.ks = some ks → ks.length = i.size
  zl : i.zero.length = i.size
  eq : ∀ fs ks, i.d = .st fs → i.ks = some ks → EqF P t

def TyOK (P : Program) (ty : Nat → Option TI) : Prop := ∀ t i, ty t = some i → TIOK P t i

def aggD : D → Bool
  | .st _ => true
  | .ar _ _ => true
  | _ => false

theorem run_isAgg {P : Program} {t : TypeId} {d : D} (h : DR P t d) (w : World) : (isAgg t).run P w = .ok (aggD d) w := by
  cases d with
  | sc k => cases k <;> (have h' := run_underlying h w; simp [isAgg, h', aggD])
  | st fs => obtain ⟨f, h1, _⟩ := h; have h' := run_underlying h1 w; simp [isAgg, h', aggD]
  | ar n e => have h' := run_underlying h w; simp [isAgg, h', aggD]
  | sl e => have h' := run_underlying h w; simp [isAgg, h', aggD]
  | mp k kd => obtain ⟨⟨e, h1⟩, _⟩ := h; have h' := run_underlying h1 w; simp [isAgg, h', aggD]
  | oth =>
    obtain ⟨d, h1, h2, h3⟩ := h
    have h' := run_underlying h1 w
    cases d <;> first | exact absurd rfl (h2 _) | exact absurd rfl (h3 _ _) | simp [isAgg, h', aggD]

theorem run_sizeOf {P : Program} {t : TypeId} {inf : TypeInfo} (h : P.info? t = some inf) (w : World) : (sizeOf t).run P w = .ok inf.size w := by
  simp [sizeOf, typeInfo, h]
theorem run_zeroValue {P : Program} {t : TypeId} {inf : TypeInfo} {z : Value} (h : P.info? t = some inf) (hz : inf.zero = some z) (w : World) : (zeroValue t).run P w = .ok z w := by
  simp [zeroValue, typeInfo, h, hz]

structure Grow (ι ι' : Nat → Pl) (hp news : List Ob) (w w' : World) : Prop where
  agree : ∀ id, id < hp.length → ι' id = ι id
  wx : WX w w'
  fresh : ∀ (i : Nat) (oi : Ob) (b base room : Nat), hp.length ≤ i → (hp ++ news)[i]? = some oi → oi.live → ι' i = .on b base room → w.heap.size ≤ b
  inj : ∀ (i j : Nat) (oi oj : Ob) (b base room b' base' room' : Nat), hp.length ≤ i → hp.length ≤ j → i ≠ j → (hp ++ news)[i]? = some oi → (hp ++ news)[j]? = some oj → oi.own = true → oi.live → oj.live →
    ι' i = .on b base room → ι' j = .on b' base' room' → b ≠ b'

def OpsR (ι : Nat → Pl) (S : Nat → Shp) (o : Oper) (sl : List V) (a : Act) : Prop := ∀ x, x ∈ o.op.operands → VR ι S (evA sl x) (a.eval x)

def CalmOp (P : Program) (o : Oper) (sl : List V) (hp : List Ob) (v : V) (news : List Ob) : Prop :=
  ∀ (ι : Nat → Pl) (a : Act) (w : World), OpsR ι (shp hp) o sl a → HR ι hp w →
    ∀ (K : Act → World → Prop) (Q : Exit → Act → World → Prop),
      (∀ ι' c w', Grow ι ι' hp news w w' → VR ι' (shp (hp ++ news)) v c → HR ι' (hp ++ news) w' → K (a.put o.dst c) w') → o.wp P a w K Q

theorem shp_append_lt {hp news : List Ob} {id : Nat} (h : id < hp.length) : shp (hp ++ news) id = shp hp id := by
  unfold shp; rw [List.getElem?_append_left h]

theorem shp_lt {hp : List Ob} {id : Nat} (h : shp hp id ≠ .no) : id < hp.length := by
  unfold shp at h
  rcases Nat.lt_or_ge id hp.length with h' | h'
  · exact h'
  · rw [List.getElem?_eq_none h'] at h; exact absurd rfl h

theorem Grow.none {ι : Nat → Pl} {hp : List Ob} {w w' : World} (h : WX w w') : Grow ι ι hp [] w w' := by
  refine ⟨fun _ _ => rfl, h, fun i oi b base room hi hg => ?_, fun i j oi oj b base room b' base' room' hi hj hij hg => ?_⟩
  · rw [List.append_nil, List.getElem?_eq_none hi] at hg; cases hg
  · rw [List.append_nil, List.getElem?_eq_none hi] at hg; cases hg

theorem calm_value {P : Program} {o : Oper} {sl : List V} {hp : List Ob} {v : V}
    (h : ∀ (ι : Nat → Pl) (a : Act) (w : World), OpsR ι (shp hp) o sl a → HR ι hp w → ∃ c n, (execOp a.eval o).run P w = .ok (.value c) (w.drewN n) ∧ VR ι (shp hp) v c) : CalmOp P o sl hp v [] := by
  intro ι a w hops hhr K Q hK
  obtain ⟨c, n, hr, hv⟩ := h ι a w hops hhr
  unfold Oper.wp
  rw [hr, Oper.upon_value]
  refine hK ι c _ (Grow.none (WX.drewN w n)) ?_ ?_
  · rw [List.append_nil]; exact hv
  · rw [List.append_nil]; exact hhr.wx (WX.drewN w n)

theorem calm_wx {P : Program} {o : Oper} {sl : List V} {hp : List Ob} {v : V}
    (h : ∀ (ι : Nat → Pl) (a : Act) (w : World), OpsR ι (shp hp) o sl a → HR ι hp w → ∃ c w', (execOp a.eval o).run P w = .ok (.value c) w' ∧ WX w w' ∧ VR ι (shp hp) v c) : CalmOp P o sl hp v [] := by
  intro ι a w hops hhr K Q hK
  obtain ⟨c, w', hr, hx, hv⟩ := h ι a w hops hhr
  unfold Oper.wp
  rw [hr, Oper.upon_value]
  refine hK ι c _ (Grow.none hx) ?_ ?_
  · rw [List.append_nil]; exact hv
  · rw [List.append_nil]; exact hhr.wx hx

theorem calm_new {P : Program} {o : Oper} {sl : List V} {hp : List Ob} {v : V} {ob : Ob}
    (h : ∀ (ι : Nat → Pl) (a : Act) (w : World), OpsR ι (shp hp) o sl a → HR ι hp w → ∃ c w' pl, (execOp a.eval o).run P w = .ok (.value c) w' ∧ WX w w' ∧
      (∀ b base room, pl = .on b base room → w.heap.size ≤ b) ∧
      (∀ ι', (∀ id, id < hp.length → ι' id = ι id) → ι' hp.length = pl → VR ι' (shp (hp ++ [ob])) v c ∧ ObR ι' (shp (hp ++ [ob])) w' hp.length ob)) : CalmOp P o sl hp v [ob] := by
  intro ι a w hops hhr K Q hK
  obtain ⟨c, w', pl, hr, hx, hpl, hv⟩ := h ι a w hops hhr
  unfold Oper.wp
  rw [hr, Oper.upon_value]
  have hag : ∀ id, id < hp.length → (fun id => if id = hp.length then pl else ι id) id = ι id := fun id hid => by simp [Nat.ne_of_lt hid]
  obtain ⟨h1, h2⟩ := hv (fun id => if id = hp.length then pl else ι id) hag (by simp)
  have hlt : ∀ i oi, (hp ++ [ob])[i]? = some oi → i ≤ hp.length := fun i oi hg => by
    rcases Nat.lt_or_ge i (hp ++ [ob]).length with h' | h'
    · simp at h'; omega
    · rw [List.getElem?_eq_none h'] at hg; cases hg
  refine hK _ c _ ⟨hag, hx, ?_, ?_⟩ h1 ?_
  · intro i oi b base room' hi hg hl ho
    have hlen := hlt i oi hg
    have : i = hp.length := by omega
    subst this
    simp at ho
    exact hpl _ _ _ ho
  · intro i j oi oj b base room b' base' room' hi hj hij hg hg'
    have hli := hlt i oi hg
    have hlj := hlt j oj hg'
    omega
  · intro id ob' hi ho
    rcases Nat.lt_or_ge id hp.length with hid | hid
    · rw [List.getElem?_append_left hid] at hi
      have ho' : ι id ≠ .off := by simpa [Nat.ne_of_lt hid] using ho
      refine (hhr id ob' hi ho').ext (fun id' hn => ?_) (hag id hid) (fun b _ _ _ hb => hx.block b hb)
      have hl := shp_lt hn
      exact ⟨hag id' hl, shp_append_lt hl⟩
    · have hlen := hlt id ob' hi
      have : id = hp.length := by omega
      subst this
      simp at hi
      subst hi
      exact h2

theorem heap_alloc_at (w : World) (o : Obj) : (w.alloc o).heap[w.heap.size]? = some o := by show (w.heap.push _)[w.heap.size]? = _; simp

theorem conA_AR (ι : Nat → Pl) (S : Nat → Shp) (c : Value) : AR ι S (conA c) c := by
  unfold conA
  split
  · exact rfl
  · exact rfl
  · rename_i k b
    cases h : isNaNb k b with
    | true => trivial
    | false => exact ⟨b, rfl, by rw [cf_of_num h]⟩
  · exact ⟨none, rfl⟩
  · trivial

theorem F2.map_self {α β : Type} {R : α → β → Prop} {f : β → α} (h : ∀ b, R (f b) b) : ∀ l : List β, F2 R (l.map f) l
  | [] => trivial
  | b :: l => ⟨h b, F2.map_self h l⟩

theorem conV_VR (ι : Nat → Pl) (S : Nat → Shp) (c : Value) : VR ι S (conV c) c := by
  unfold conV
  split
  · rename_i cs; exact ⟨cs, rfl, F2.map_self (conA_AR ι S) _⟩
  · exact conA_AR ι S c

theorem evA_VR {ι : Nat → Pl} {S : Nat → Shp} {sl : List V} {a : Act} (h : F2 (VR ι S) sl a.tmps.toList) (x : Operand) : VR ι S (evA sl x) (a.eval x) := by
  cases x with
  | tmp t =>
    simp only [evA, Act.eval]
    cases hs : sl[t]? with
    | some v =>
      obtain ⟨c, hc, hr⟩ := h.get t v hs
      rw [List.getD_eq_getElem?_getD, hs]
      rw [Array.getD_eq_getD_getElem?, ← Array.getElem?_toList, hc]
      exact hr
    | none =>
      have hl := h.length
      have : a.tmps.toList[t]? = none := by
        rw [List.getElem?_eq_none_iff] at hs ⊢
        omega
      rw [List.getD_eq_getElem?_getD, hs]
      rw [Array.getD_eq_getD_getElem?, ← Array.getElem?_toList, this]
      exact rfl
  | const v => exact conV_VR ι S v
  | global g => trivial
  | func f => exact ⟨#[], rfl, trivial⟩

theorem AR.one {ι : Nat → Pl} {S : Nat → Shp} {a : A} {c : Value} (hk : a.known = true) (h : AR ι S a c) : c.oneCell' = true ∧ c.cells = #[c] := by
  cases a with
  | undef => cases hk
  | void => cases hk
  | bool b => obtain rfl := h; exact ⟨rfl, rfl⟩
  | int k n => obtain rfl := h; exact ⟨rfl, rfl⟩
  | fl k x => obtain ⟨b, rfl, _⟩ := h; exact ⟨rfl, rfl⟩
  | raw k x => obtain ⟨b, rfl, _⟩ := h; exact ⟨rfl, rfl⟩
  | ptr id e o => obtain ⟨b, base, room, _, rfl, _⟩ := h; exact ⟨rfl, rfl⟩
  | sl id =>
    obtain ⟨ks, n, _, ⟨_, _, a, rfl⟩ | ⟨b, base, room, cap, _, rfl, _⟩⟩ := h
    · exact ⟨rfl, rfl⟩
    · exact ⟨rfl, rfl⟩
  | sub id st len cap => obtain ⟨ks, n, _, _, a, cp, rfl, _⟩ := h; exact ⟨rfl, rfl⟩
  | bs id n => obtain ⟨_, b, base, room, _, rfl⟩ := h; exact ⟨rfl, rfl⟩
  | mp id => obtain ⟨_, b, _, rfl⟩ := h; exact ⟨rfl, rfl⟩
  | nil => obtain ⟨a, rfl⟩ := h; exact ⟨rfl, rfl⟩
  | fn f caps => obtain ⟨cs, rfl, _⟩ := h; exact ⟨rfl, rfl⟩

theorem allKnown_mem : ∀ {as : List A}, allKnown as = true → ∀ a ∈ as, a.known = true
  | [], _, a, h => by cases h
  | b :: t, hk, a, h => by
    simp only [allKnown] at hk
    cases hb : b.known with
    | false => simp [hb] at hk
    | true =>
      simp [hb] at hk
      cases h with
      | head => exact hb
      | tail _ h => exact allKnown_mem hk a h

theorem F2.mem_right {α β : Type} {R : α → β → Prop} : ∀ {as : List α} {bs : List β}, F2 R as bs → ∀ b ∈ bs, ∃ a ∈ as, R a b
  | [], [], _, b, h => by cases h
  | x :: as, y :: bs, ⟨h1, h2⟩, b, h => by
    cases h with
    | head => exact ⟨x, by simp, h1⟩
    | tail _ h => obtain ⟨a, ha, hr⟩ := F2.mem_right h2 b h; exact ⟨a, by simp [ha], hr⟩
  | [], _ :: _, h, _, _ => h.elim
  | _ :: _, [], h, _, _ => h.elim

theorem V.cells_F2 {ι : Nat → Pl} {S : Nat → Shp} {v : V} {c : Value} {as : List A} (hc : v.cells = some as) (hv : VR ι S v c) :
    F2 (AR ι S) as c.cells.toList ∧ (∀ u ∈ c.cells.toList, u.oneCell' = true) := by
  cases v with
  | «at» a =>
    simp only [V.cells] at hc
    cases hk : a.known with
    | false => simp [hk] at hc
    | true =>
      simp [hk] at hc
      subst hc
      obtain ⟨h1, h2⟩ := AR.one hk hv
      rw [h2]
      exact ⟨⟨hv, trivial⟩, by simpa using h1⟩
  | agg bs =>
    simp only [V.cells] at hc
    cases hk : allKnown bs with
    | false => simp [hk] at hc
    | true =>
      simp [hk] at hc
      subst hc
      obtain ⟨cs, rfl, h⟩ := hv
      refine ⟨h, fun u hu => ?_⟩
      obtain ⟨a, ha, hr⟩ := h.mem_right u hu
      exact (AR.one (allKnown_mem hk a ha) hr).1
  | tup xs => simp [V.cells] at hc
end Go.Fx

/- Calm operations, one kind after another. -/
namespace Go.Fx

variable {P : Program} {ty : Nat → Option TI} {sl : List V} {hp : List Ob}

theorem calm_move {o : Oper} {x : Operand} (ho : o.op = .move x ∨ o.op = .assign x) : CalmOp P o sl hp (evA sl x) [] := by
  refine calm_value fun ι a w hops _ => ⟨a.eval x, 0, ?_, ?_⟩
  · rcases ho with ho | ho <;> simp [execOp, ho, World.drewN_zero]
  · apply hops; rcases ho with ho | ho <;> simp [ho, Op.operands]

theorem intBin_sound {α : Type} {op : BinOp} {k : IntKind} {a b : Int} {c : A → Option α} {r : α} (h : intBin op k a b c = some r) :
    ∃ x, c x = some r ∧ ∀ (t : TypeId) (w : World), ∃ v, (binOp op t (.int k a) (.int k b)).run P w = .ok v w ∧ ∀ ι S, AR ι S x v := by
  cases op <;> simp only [intBin] at h
  case add => exact ⟨_, h, fun t w => ⟨.int k (k.wrap (a + b)), by simp [binOp, Op.intArith], fun _ _ => rfl⟩⟩
  case sub => exact ⟨_, h, fun t w => ⟨.int k (k.wrap (a - b)), by simp [binOp, Op.intArith], fun _ _ => rfl⟩⟩
  case mul => exact ⟨_, h, fun t w => ⟨.int k (k.wrap (a * b)), by simp [binOp, Op.intArith], fun _ _ => rfl⟩⟩
  case quo =>
    cases hb : (b == 0) with
    | true => simp [chk, hb] at h
    | false =>
      have hb' : b ≠ 0 := by simpa using hb
      simp only [chk, hb, Bool.not_false] at h
      exact ⟨_, h, fun t w => ⟨.int k (k.wrap (a.tdiv b)), by simp [binOp, Op.intDiv, hb'], fun _ _ => rfl⟩⟩
  case rem =>
    cases hb : (b == 0) with
    | true => simp [chk, hb] at h
    | false =>
      have hb' : b ≠ 0 := by simpa using hb
      simp only [chk, hb, Bool.not_false] at h
      exact ⟨_, h, fun t w => ⟨.int k (a.tmod b), by simp [binOp, Op.intDiv, hb'], fun _ _ => rfl⟩⟩
  case eql => exact ⟨_, h, fun t w => ⟨.bool (a == b), by simp [binOp, Op.intCmp], fun _ _ => rfl⟩⟩
  case neq => exact ⟨_, h, fun t w => ⟨.bool (a != b), by simp [binOp, Op.intCmp], fun _ _ => rfl⟩⟩
  case lss => exact ⟨_, h, fun t w => ⟨.bool (decide (a < b)), by simp [binOp, Op.intCmp], fun _ _ => rfl⟩⟩
  case leq => exact ⟨_, h, fun t w => ⟨.bool (decide (a ≤ b)), by simp [binOp, Op.intCmp], fun _ _ => rfl⟩⟩
  case gtr => exact ⟨_, h, fun t w => ⟨.bool (decide (a > b)), by simp [binOp, Op.intCmp], fun _ _ => rfl⟩⟩
  case geq => exact ⟨_, h, fun t w => ⟨.bool (decide (a ≥ b)), by simp [binOp, Op.intCmp], fun _ _ => rfl⟩⟩
  all_goals cases h

theorem run_bool_equal (t : TypeId) (a b : Bool) (w : World) (hb : P.underlying t = some .bool) : (Op.equal t (.bool a) (.bool b)).run P w = .ok (a == b) w := by
  have h := run_underlying hb w
  rw [show Op.equal t (.bool a) (.bool b) = Op.equalIn (9999 + 1) t (.bool a) (.bool b) from rfl, Op.equalIn]
  simp [h]
theorem run_bool_eql (t : TypeId) (a b : Bool) (w : World) (hb : P.underlying t = some .bool) : (binOp .eql t (.bool a) (.bool b)).run P w = .ok (.bool (a == b)) w := by
  have h := run_bool_equal t a b w hb
  show (Op.equal t (.bool a) (.bool b) >>= fun r => pure (Value.bool r) : Sem Value).run P w = _
  simp [h]
theorem run_bool_neq (t : TypeId) (a b : Bool) (w : World) (hb : P.underlying t = some .bool) : (binOp .neq t (.bool a) (.bool b)).run P w = .ok (.bool (!(a == b))) w := by
  have h := run_bool_equal t a b w hb
  show (Op.equal t (.bool a) (.bool b) >>= fun r => pure (Value.bool (!r)) : Sem Value).run P w = _
  simp [h]

theorem bits_mod (k : FloatKind) (b : Nat) (m : Int) : bits .andNot (rawKind k) b m = bits .andNot (rawKind k) (b % 2 ^ k.format.width : Nat) m := by
  cases k
  · have e2 : (2 : Nat) ^ FloatKind.f32.format.width = 4294967296 := by decide
    rw [e2]
    show IntKind.u32.wrap ((BitVec.ofInt 32 (b : Int) &&& ~~~BitVec.ofInt 32 m).toNat : Int) = IntKind.u32.wrap ((BitVec.ofInt 32 ((b % 4294967296 : Nat) : Int) &&& ~~~BitVec.ofInt 32 m).toNat : Int)
    have : BitVec.ofInt 32 (b : Int) = BitVec.ofInt 32 ((b % 4294967296 : Nat) : Int) := by
      rw [BitVec.ofInt_natCast, BitVec.ofInt_natCast]
      apply BitVec.eq_of_toNat_eq
      simp
    rw [this]
  · have e2 : (2 : Nat) ^ FloatKind.f64.format.width = 18446744073709551616 := by decide
    rw [e2]
    show IntKind.u64.wrap ((BitVec.ofInt 64 (b : Int) &&& ~~~BitVec.ofInt 64 m).toNat : Int) = IntKind.u64.wrap ((BitVec.ofInt 64 ((b % 18446744073709551616 : Nat) : Int) &&& ~~~BitVec.ofInt 64 m).toNat : Int)
    have : BitVec.ofInt 64 (b : Int) = BitVec.ofInt 64 ((b % 18446744073709551616 : Nat) : Int) := by
      rw [BitVec.ofInt_natCast, BitVec.ofInt_natCast]
      apply BitVec.eq_of_toNat_eq
      simp
    rw [this]

theorem raw_abs0 (k : FloatKind) (b : Nat) (hb : b < 2 ^ k.format.width) :
    bits .andNot (rawKind k) b (bAnd k) = ((b % k.format.signWeight : Nat) : Int) := by
  cases k
  · have e1 : FloatKind.f32.format.signWeight = 2147483648 := by decide
    have e2 : (2 : Nat) ^ FloatKind.f32.format.width = 4294967296 := by decide
    rw [e1]
    rw [e2] at hb
    have h := u32_andNot_nat b 2147483648 hb (by omega)
    refine h.trans ?_
    rw [show (4294967295 - 2147483648 : Nat) = 2 ^ 31 - 1 from by decide, Nat.and_two_pow_sub_one_eq_mod]
  · have e1 : FloatKind.f64.format.signWeight = 9223372036854775808 := by decide
    have e2 : (2 : Nat) ^ FloatKind.f64.format.width = 18446744073709551616 := by decide
    rw [e1]
    rw [e2] at hb
    have h := u64_andNot_nat b 9223372036854775808 hb (by omega)
    refine h.trans ?_
    rw [show (18446744073709551615 - 9223372036854775808 : Nat) = 2 ^ 63 - 1 from by decide, Nat.and_two_pow_sub_one_eq_mod]

theorem raw_abs (k : FloatKind) (b : Nat) : bits .andNot (rawKind k) b (bAnd k) = ((b % k.format.signWeight : Nat) : Int) := by
  rw [bits_mod, raw_abs0 k _ (Nat.mod_lt _ (Nat.two_pow_pos _))]
  congr 1
  cases k
  · show b % 2 ^ 32 % 2147483648 = b % 2147483648
    omega
  · show b % 2 ^ 64 % 9223372036854775808 = b % 9223372036854775808
    omega

theorem isNaNb_mod (k : FloatKind) (b : Nat) : isNaNb k (b % k.format.signWeight) = isNaNb k b := by
  unfold isNaNb Ieee.Format.read
  simp only [Nat.mod_mod]
  split
  · rfl
  · split
    · rfl
    · split <;> rfl

theorem nanOf_lt (k : FloatKind) : nanOf k < k.format.signWeight := by cases k <;> decide

theorem rAbs_cf (k : FloatKind) (b : Nat) : rAbs k (cf k b : Nat) = (cf k (b % k.format.signWeight) : Nat) := by
  unfold rAbs
  simp only [Int.toNat_natCast]
  by_cases h : isNaNb k b = true
  · rw [cf_of_nan h, cf_of_nan (b := b % _) (by rw [isNaNb_mod, h]), Nat.mod_eq_of_lt (nanOf_lt k), cf_of_nan (isNaNb_nanOf k)]
  · rw [cf_of_num (b := b) (by simpa using h)]

theorem num_real {k : FloatKind} {b : Nat} (h : num real k (cf k b : Nat) = true) : isNaNb k b = false := by
  cases hn : isNaNb k b with
  | false => rfl
  | true =>
    have : real.cmp .neq k (cf k b : Nat) (cf k b : Nat) = true := by
      show rCmp .neq k _ _ = true
      unfold rCmp
      rw [Int.toNat_natCast, order_cf, order_nan_left hn]
      rfl
    unfold num at h
    rw [this] at h
    cases h

theorem binA_sound {α : Type} {tb : Bool} {op : BinOp} {x y : A} {c : A → Option α} {r : α} {t : TypeId} (hty : tb = true → P.underlying t = some .bool)
    (h : binA real tb op x y c = some r) :
    ∃ z, c z = some r ∧ ∀ (ι : Nat → Pl) (S : Nat → Shp) (u v : Value) (X Y : Operand) (w : World), AR ι S x u → AR ι S y v → ∃ q n, ((do eqGuard op t X Y u v; binOp op t u v) : Sem Value).run P w = .ok q (w.drewN n) ∧ AR ι S z q := by
  unfold binA at h
  split at h
  · rename_i k a k' b
    by_cases hk : k = k'
    · subst hk
      simp only [decide_true, chk] at h
      obtain ⟨z, hz, hr⟩ := intBin_sound (P := P) h
      refine ⟨z, hz, fun ι S u v X Y w hu hv => ?_⟩
      obtain rfl := hu; obtain rfl := hv
      obtain ⟨q, hq, ha⟩ := hr t w
      exact ⟨q, 0, by rw [eqGuard_at_int, World.drewN_zero]; simpa using hq, ha ι S⟩
    · simp [hk, chk] at h
  · rename_i k a k' b
    by_cases hk : k = k'
    · subst hk
      simp only [decide_true, chk] at h
      cases ha : isArith op with
      | true =>
        simp only [ha] at h
        refine ⟨_, h, fun ι S u v X Y w hu hv => ?_⟩
        obtain ⟨p, rfl, rfl⟩ := hu
        obtain ⟨q, rfl, rfl⟩ := hv
        obtain ⟨s, n, hs, hc⟩ := run_arith (P := P) op t k p q w ha
        exact ⟨_, n, by rw [eqGuard_at_float]; simpa using hs, s, rfl, hc.symm⟩
      | false =>
        simp only [ha] at h
        cases hcm : isCmp op with
        | false => simp [hcm] at h
        | true =>
          simp only [hcm] at h
          refine ⟨_, h, fun ι S u v X Y w hu hv => ?_⟩
          obtain ⟨p, rfl, rfl⟩ := hu
          obtain ⟨q, rfl, rfl⟩ := hv
          have hs := run_cmp (P := P) op t k p q w hcm
          exact ⟨.bool (rCmp op k (cf k p : Nat) (cf k q : Nat)), 0, by rw [eqGuard_at_float, World.drewN_zero]; simpa using hs, rfl⟩
    · simp [hk, chk] at h
  · rename_i a b
    split at h
    · have hb := hty rfl
      refine ⟨_, h, fun ι S u v X Y w hu hv => ?_⟩
      obtain rfl := hu; obtain rfl := hv
      exact ⟨_, 0, by rw [eqGuard_at_bool, World.drewN_zero]; simpa using run_bool_eql t a b w hb, rfl⟩
    · have hb := hty rfl
      refine ⟨_, h, fun ι S u v X Y w hu hv => ?_⟩
      obtain rfl := hu; obtain rfl := hv
      exact ⟨_, 0, by rw [eqGuard_at_bool, World.drewN_zero]; simpa using run_bool_neq t a b w hb, rfl⟩
    · cases h
  · rename_i k a kk m
    split at h
    · by_cases hkk : kk = rawKind k
      · subst hkk
        by_cases hm : m = bAnd k
        · subst hm
          simp only [BEq.rfl, chk, decide_true] at h
          refine ⟨_, h, fun ι S u v X Y w hu hv => ?_⟩
          obtain ⟨p, rfl, rfl⟩ := hu
          obtain rfl := hv
          refine ⟨.int (rawKind k) ((p % k.format.signWeight : Nat) : Int), 0, ?_, p % k.format.signWeight, rfl, rAbs_cf k p⟩
          rw [eqGuard_at_int, World.drewN_zero]
          have := raw_abs k p
          simp [binOp, intBits_andNot, this]
        · have : (m == bAnd k) = false := by simpa using hm
          simp [this, chk] at h
      · simp [hkk, chk] at h
    · cases h
  · rename_i k a k' b
    split at h
    · by_cases hk : k = k'
      · subst hk
        cases h1 : num real k a with
        | false => simp [h1, chk] at h
        | true =>
          cases h2 : num real k b with
          | false => simp [h1, h2, chk] at h
          | true =>
            simp only [h1, h2, chk, decide_true] at h
            refine ⟨_, h, fun ι S u v X Y w hu hv => ?_⟩
            obtain ⟨p, rfl, rfl⟩ := hu
            obtain ⟨q, rfl, rfl⟩ := hv
            have h1 := num_real h1
            have h2 := num_real h2
            refine ⟨.bool ((p : Int) == (q : Int)), 0, ?_, ?_⟩
            · rw [eqGuard_at_int, World.drewN_zero]
              simp [binOp, Op.intCmp]
            · rw [cf_of_num h1, cf_of_num h2]; rfl
      · simp [hk, chk] at h
    · cases h
  · cases h

theorem floatToIntVal_cf (s : FloatKind) (b : Nat) (d : IntKind) : floatToIntVal s (cf s b) d = floatToIntVal s b d := by
  by_cases h : isNaNb s b = true
  · obtain ⟨g, t, hr⟩ := read_nan h
    obtain ⟨g', t', hr'⟩ := read_nan (b := cf s b) (by rw [isNaNb_cf, h])
    unfold floatToIntVal
    simp only [FloatKind.decode, hr, hr']
    rfl
  · rw [cf_of_num (by simpa using h)]

theorem run_float_float {P : Program} (src dst : TypeId) (s k : FloatKind) (b : Nat) (w : World) (hs : (P.underlying src).isSome = true) (hd : P.underlying dst = some (.float k))
    (hok : rConvOk s k (cf s b : Nat) = true) :
    ∃ r n, (convert src dst (.float s b)).run P w = .ok (.float k r) (w.drewN n) ∧ (cf k r : Int) = rConv s k (cf s b : Nat) := by
  obtain ⟨u, hs'⟩ := Option.isSome_iff_exists.1 hs
  have e1 := run_underlying hs' w
  have e2 := run_underlying hd w
  by_cases hsk : s = k
  · subst hsk
    refine ⟨b, 0, ?_, by simp [rConv]⟩
    rw [World.drewN_zero]
    cases u <;> simp [convert, e1, e2, Conv.floatToFloat]
  · cases hn : isNaNb s b with
    | true =>
      obtain ⟨g, t, hr⟩ := read_nan hn
      obtain ⟨g', t', hr'⟩ := read_nan (b := cf s b) (by rw [isNaNb_cf, hn])
      have hc := run_choose (P := P) (.nanConv k b) w rfl
      refine ⟨(Question.nanConv k b).cut (w.tape w.drawn (.nanConv k b)), 1, ?_, ?_⟩
      · cases u <;> simp [convert, e1, e2, Conv.floatToFloat, hsk, FloatKind.decode, hr, hc, World.drew_is_drewN]
      · rw [cf_of_nan (cut_nanConv ..)]
        simp [rConv, hsk, FloatKind.decode, hr']
    | false =>
      rw [cf_of_num hn] at hok ⊢
      simp only [rConvOk, rConv, hsk, if_false, Int.toNat_natCast] at hok ⊢
      cases hd' : s.decode b with
      | nan g t => simp [isNaNb, FloatKind.decode] at hn hd'; rw [hd'] at hn; cases hn
      | infinity g =>
        simp only
        refine ⟨k.encode (.infinity g), 0, ?_, by rw [show k.encode _ = k.format.write _ from rfl, cf_of_num (write_notNaN k _ rfl)]⟩
        rw [World.drewN_zero]
        cases u <;> simp [convert, e1, e2, Conv.floatToFloat, hsk, hd']
      | number g m e =>
        simp only [hd'] at hok ⊢
        refine ⟨k.encode (.number g m e), 0, ?_, by rw [show k.encode _ = k.format.write _ from rfl, cf_of_num (write_notNaN k _ rfl)]⟩
        have hok' : (k.decode (k.encode (.number g m e))).isInfinity = false := by simpa using hok
        rw [World.drewN_zero]
        cases u <;> simp [convert, e1, e2, Conv.floatToFloat, hsk, hd', hok']

theorem convA_sound {α : Type} {src dst : TypeId} {x : A} {c : A → Option α} {r : α} (hT : TyOK P ty) (h : convA real (tyOf ty src) (tyOf ty dst) x c = some r) :
    ∃ z, c z = some r ∧ ∀ (ι : Nat → Pl) (S : Nat → Shp) (u : Value) (w : World), AR ι S x u → ∃ q n, (convert src dst u).run P w = .ok q (w.drewN n) ∧ AR ι S z q := by
  have hd : ∀ t d, tyOf ty t = some d → DR P t d := by
    intro t d h
    unfold tyOf at h
    cases hi : ty t with
    | none => simp [hi] at h
    | some i => simp [hi] at h; subst h; exact (hT t i hi).d
  have hsc : ∀ t k, tyOf ty t = some (.sc k) → (P.underlying t).isSome = true := by
    intro t k h
    have := hd t _ h
    cases k <;> (simp only [DR] at this; simp [this])
  have hi : ∀ t k, tyOf ty t = some (.sc (.i k)) → P.underlying t = some (.int k) := fun t k h => hd t _ h
  have hf : ∀ t k, tyOf ty t = some (.sc (.f k)) → P.underlying t = some (.float k) := fun t k h => hd t _ h
  generalize hsr : tyOf ty src = ds at h
  generalize hds : tyOf ty dst = dd at h
  unfold convA at h
  split at h
  · rename_i k n
    refine ⟨_, h, fun ι S u w hu => ?_⟩
    obtain rfl := hu
    refine ⟨_, 0, ?_, rfl⟩
    rw [World.drewN_zero]
    obtain ⟨u, hu⟩ := Option.isSome_iff_exists.1 (hsc _ _ hsr)
    have e1 := run_underlying hu w
    have e2 := run_underlying (hi _ _ hds) w
    simp [convert, e1, e2, Conv.intToInt]
  · rename_i kk k kq n
    refine ⟨_, h, fun ι S u w hu => ?_⟩
    obtain rfl := hu
    refine ⟨.float k (floatOfInt k n), 0, ?_, floatOfInt k n, rfl, ?_⟩
    · rw [World.drewN_zero]
      exact run_convert_int_float w _ _ _ _ _ (hsc _ _ hsr) (hf _ _ hds)
    · unfold floatOfInt FloatKind.nearest FloatKind.encode
      rw [cf_of_num (write_notNaN k _ rfl)]; rfl
  · rename_i k s x
    cases ho : real.toIntOk s k x with
    | false => simp [ho, chk] at h
    | true =>
      simp only [ho, chk] at h
      refine ⟨_, h, fun ι S u w hu => ?_⟩
      obtain ⟨b, rfl, rfl⟩ := hu
      simp only [real, rToIntOk, Int.toNat_natCast, floatToIntVal_cf] at ho
      obtain ⟨n, hn⟩ := Option.isSome_iff_exists.1 ho
      refine ⟨.int k n, 0, ?_, ?_⟩
      · rw [World.drewN_zero]
        exact run_convert_float_int w _ _ s k b n (hsc _ _ hsr) (hi _ _ hds) hn
      · simp [AR, real, rToInt, floatToIntVal_cf, hn]
  · rename_i k s x
    cases ho : real.convOk s k x with
    | false => simp [ho, chk] at h
    | true =>
      simp only [ho, chk] at h
      refine ⟨_, h, fun ι S u w hu => ?_⟩
      obtain ⟨b, rfl, rfl⟩ := hu
      obtain ⟨q, n, hr, hc⟩ := run_float_float (P := P) src dst s k b w (hsc _ _ hsr) (hf _ _ hds) ho
      exact ⟨_, n, hr, q, rfl, hc.symm⟩
  · rename_i k s x
    cases ho : num real s x with
    | false => simp [ho, chk] at h
    | true =>
      simp only [ho, chk] at h
      refine ⟨_, h, fun ι S u w hu => ?_⟩
      obtain ⟨b, rfl, rfl⟩ := hu
      have ho := num_real ho
      refine ⟨.int k (k.wrap b), 0, ?_, ?_⟩
      · rw [World.drewN_zero]
        obtain ⟨u, hu⟩ := Option.isSome_iff_exists.1 (hsc _ _ hsr)
        have e1 := run_underlying hu w
        have e2 := run_underlying (hi _ _ hds) w
        simp [convert, e1, e2, Conv.intToInt]
      · rw [cf_of_num ho]; rfl
  · cases h

theorem unA_sound {α : Type} {op : UnOp} {x : A} {c : A → Option α} {r : α} (h : unA real op x c = some r) :
    ∃ z, c z = some r ∧ ∀ (ι : Nat → Pl) (S : Nat → Shp) (u : Value) (w : World), AR ι S x u → ∃ q, (Op.unary op u).run P w = .ok q w ∧ AR ι S z q := by
  unfold unA at h
  split at h
  · refine ⟨_, h, fun ι S u w hu => ?_⟩
    obtain rfl := hu
    exact ⟨_, rfl, rfl⟩
  · refine ⟨_, h, fun ι S u w hu => ?_⟩
    obtain ⟨b, rfl, rfl⟩ := hu
    obtain ⟨q, hr, hc⟩ := run_neg (P := P) _ b w
    exact ⟨_, hr, q, rfl, hc.symm⟩
  · refine ⟨_, h, fun ι S u w hu => ?_⟩
    obtain rfl := hu
    exact ⟨_, by simp [Op.unary, Op.intArith], rfl⟩
  · cases h

theorem Addr.add_at (b o n : Nat) : Addr.add ⟨b, o, none⟩ n = ⟨b, o + n, none⟩ := by
  unfold Addr.add; split <;> simp_all

theorem cell_at {w : World} {b o : Nat} {blk : Array Value} {t : TypeId} {fz : Nat × Nat} (h : w.heap[b]? = some (.cells blk t fz)) : w.cell? ⟨b, o, none⟩ = blk[o]? := cell_of_row w b o blk t fz h

theorem run_loadVar {P : Program} {t : TypeId} {inf : TypeInfo} {d : D} (hi : P.info? t = some inf) (hd : DR P t d) (w : World) (b o : Nat) (cs : List Value)
    (hl : cs.length = inf.size) (hc : ∀ j v, cs[j]? = some v → w.cell? ⟨b, o + j, none⟩ = some v) (h1 : aggD d = false → ∃ v, cs[0]? = some v) :
    (loadVar t ⟨b, o, none⟩).run P w = .ok (match aggD d with | true => .agg cs.toArray | false => cs.getD 0 undef) w := by
  have ha := run_isAgg hd w
  have hs := run_sizeOf hi w
  cases hag : aggD d with
  | true =>
    have hr := run_loadCells_list (P := P) (w := w) ⟨b, o, none⟩ cs (fun j v hj => by rw [Addr.add_at]; exact hc j v hj)
    rw [hl] at hr
    simp [loadVar, ha, hag, hs, hr]
  | false =>
    obtain ⟨v, hv⟩ := h1 hag
    have := hc 0 v hv
    simp only [Nat.add_zero] at this
    simp [loadVar, ha, hag, this, List.getD_eq_getElem?_getD, hv]
end Go.Fx

/- Calm operations on memory. -/
namespace Go.Fx
variable {P : Program} {ty : Nat → Option TI} {sl : List V} {hp : List Ob}

theorem list_of (R : Nat → Value → Prop) : ∀ n, (∀ j, j < n → ∃ c, R j c) → ∃ cs : List Value, cs.length = n ∧ ∀ j c, cs[j]? = some c → R j c
  | 0, _ => ⟨[], rfl, by simp⟩
  | n + 1, h => by
    obtain ⟨cs, h1, h2⟩ := list_of R n (fun j hj => h j (by omega))
    obtain ⟨c, hc⟩ := h n (by omega)
    refine ⟨cs ++ [c], by simp [h1], fun j d hd => ?_⟩
    rcases Nat.lt_trichotomy j n with hj | hj | hj
    · rw [List.getElem?_append_left (by omega)] at hd; exact h2 j d hd
    · subst hj
      rw [List.getElem?_append_right (by omega), h1] at hd
      simp at hd; subst hd; exact hc
    · rw [List.getElem?_append_right (by omega)] at hd
      rw [List.getElem?_eq_none (by simp; omega)] at hd; cases hd

theorem take_drop_get {α : Type} (l : List α) (o n j : Nat) : ((l.drop o).take n)[j]? = if j < n then l[o + j]? else none := by
  rw [List.getElem?_take]
  split
  · rw [List.getElem?_drop]
  · rfl

def obCells (ob : Ob) (e : Nat) : List A :=
  match ob.c with
  | .box cs => cs
  | .rows ks xs => rowA ks 0 (xs.getD e [])
  | .dead => []
  | .mp _ _ => []

theorem ob_cells {ι : Nat → Pl} {S : Nat → Shp} {w : World} {id e : Nat} {ob : Ob} (h : ObR ι S w id ob) (hs : S id = shpOb ob) {b base room : Nat} (hι : ι id = .on b base room) (hin : inB (S id) e) :
    ∀ j a, (obCells ob e)[j]? = some a → ∃ c, w.cell? ⟨b, base + offs (S id) e + j, none⟩ = some c ∧ AR ι S a c := by
  obtain ⟨own, c⟩ := ob
  intro j a ha
  cases c with
  | dead => simp [obCells] at ha
  | mp kd keys => simp [obCells] at ha
  | box cs =>
    obtain ⟨b', base', room', blk, t, fz, h1, h2, h3, h4, h5, h6⟩ := h
    rw [hι] at h1; cases h1
    obtain ⟨c, e1, e2⟩ := h6 j a ha
    refine ⟨c, ?_, e2⟩
    rw [hs]
    simp only [shpOb, offs, Nat.add_zero]
    rw [cell_at h2]; exact e1
  | rows ks xs =>
    rcases h with ⟨h1, _⟩ | ⟨b', base', room', blk, t, fz, h1, h2, h3, h4, h5⟩
    · rw [hι] at h1; cases h1
    · rw [hι] at h1; cases h1
      rw [hs] at hin
      simp only [shpOb, inB] at hin
      have hrow : xs[e]? = some xs[e] := List.getElem?_eq_getElem hin
      have hgd : xs.getD e [] = xs[e] := by rw [List.getD_eq_getElem?_getD, hrow]; rfl
      obtain ⟨hl, hcells⟩ := h5 e xs[e] hrow
      simp only [obCells, hgd] at ha
      have hj : j < ks.length := by
        rcases Nat.lt_or_ge j ks.length with h' | h'
        · exact h'
        · rw [List.getElem?_eq_none (by rw [rowA_length]; omega)] at ha; cases ha
      have hk : ks[j]? = some ks[j] := List.getElem?_eq_getElem hj
      obtain ⟨c, e1, e2⟩ := hcells j ks[j] hk
      rw [rowA_get ks 0 xs[e] j ks[j] hk] at ha
      simp only [Nat.zero_add, Option.some.injEq] at ha
      subst ha
      refine ⟨c, ?_, ofK_AR e2⟩
      rw [hs]
      simp only [shpOb, offs]
      rw [cell_at h2]; exact e1

theorem arAll_length (k0 : K) : ∀ xs, (arAll k0 xs).length = xs.length
  | [] => rfl
  | _ :: t => by simp [arAll, arAll_length k0 t]

theorem arAll_get (k0 : K) : ∀ (xs : List (List Int)) (j : Nat) (a : A), (arAll k0 xs)[j]? = some a → ∃ r, xs[j]? = some r ∧ a = ofK k0 (r.getD 0 0)
  | [], j, a, h => by simp [arAll] at h
  | r :: t, 0, a, h => by simp [arAll] at h; exact ⟨r, rfl, by simp [h]⟩
  | r :: t, j + 1, a, h => by simp only [arAll, List.getElem?_cons_succ] at h ⊢; exact arAll_get k0 t j a h

theorem arLoad_eq {ks : List K} {xs : List (List Int)} {e o n : Nat} {v : V} (h : arLoad ks xs e o n = some v) : ∃ k0, ks = [k0] ∧ e = 0 ∧ o = 0 ∧ xs.length = n ∧ v = .agg (arAll k0 xs) := by
  unfold arLoad at h
  split at h
  · rename_i k0
    cases hb : Nat.beq xs.length n with
    | true => simp only [hb, Option.some.injEq] at h; exact ⟨k0, rfl, rfl, rfl, Nat.eq_of_beq_eq_true hb, h.symm⟩
    | false => simp only [hb] at h; cases h
  · cases h

theorem loadOb_eq (ob : Ob) (e o n : Nat) (agg : Bool) {v : V} (h : loadOb ob e o n agg = some v) :
    (agg = true ∧ v = .agg (((obCells ob e).drop o).take n) ∧ (((obCells ob e).drop o).take n).length = n) ∨ (agg = false ∧ ∃ a, v = .at a ∧ (obCells ob e)[o]? = some a) ∨
    (agg = true ∧ ∃ k0 xs, ob.c = .rows [k0] xs ∧ e = 0 ∧ o = 0 ∧ xs.length = n ∧ v = .agg (arAll k0 xs)) := by
  obtain ⟨own, c⟩ := ob
  cases c with
  | dead => simp [loadOb] at h
  | mp kd keys => simp [loadOb] at h
  | box cs =>
    simp only [loadOb] at h
    cases agg with
    | true =>
      cases hb : Nat.beq ((cs.drop o).take n).length n with
      | true => simp only [hb, Option.some.injEq] at h; exact .inl ⟨rfl, h.symm, Nat.eq_of_beq_eq_true hb⟩
      | false => simp only [hb] at h; cases h
    | false =>
      cases hb : cs[o]? with
      | some a => simp [hb] at h; exact .inr (.inl ⟨rfl, a, h.symm, hb⟩)
      | none => simp [hb] at h
  | rows ks xs =>
    simp only [loadOb] at h
    cases agg with
    | true =>
      cases hb : Nat.beq (((rowA ks 0 (xs.getD e [])).drop o).take n).length n with
      | true => simp only [hb, Option.some.injEq] at h; exact .inl ⟨rfl, h.symm, Nat.eq_of_beq_eq_true hb⟩
      | false =>
        simp only [hb] at h
        obtain ⟨k0, rfl, rfl, rfl, h4, h5⟩ := arLoad_eq h
        exact .inr (.inr ⟨rfl, k0, xs, rfl, rfl, rfl, h4, h5⟩)
    | false =>
      cases hb : (rowA ks 0 (xs.getD e []))[o]? with
      | some a => simp only [hb, Option.some.injEq] at h; exact .inr (.inl ⟨rfl, a, h.symm, hb⟩)
      | none => simp only [hb] at h; cases h

theorem shp_of {hp : List Ob} {id : Nat} {ob : Ob} (h : hp[id]? = some ob) : shp hp id = shpOb ob := by unfold shp; rw [h]

theorem load_sound {t : TypeId} {i : TI} (hT : TIOK P t i) {ι : Nat → Pl} {S : Nat → Shp} {w : World} {id e o : Nat} {ob : Ob} {v : V} {c : Value} (hob : ObR ι S w id ob) (hs : S id = shpOb ob)
    (hp : PR ι S id e o c) (hl : loadOb ob e o i.size (aggD i.d) = some v) : ∃ q, (Instr.loadAt t c).run P w = .ok q w ∧ VR ι S v q := by
  obtain ⟨b, base, room, hι, rfl, hin⟩ := hp
  obtain ⟨inf, z, hi, hsz, _⟩ := hT.info
  have hcell := ob_cells hob hs hι hin
  rcases loadOb_eq ob e o i.size (aggD i.d) hl with ⟨hag, rfl, hlen⟩ | ⟨hag, a, rfl, ha⟩ | ⟨hag, k0, xs, hoc, rfl, rfl, hlen, rfl⟩
  · obtain ⟨cs, hcs, hrel⟩ := list_of (fun j c => ∃ a, (((obCells ob e).drop o).take i.size)[j]? = some a ∧ w.cell? ⟨b, base + offs (S id) e + (o + j), none⟩ = some c ∧ AR ι S a c) i.size (fun j hj => by
      have hj' : j < (((obCells ob e).drop o).take i.size).length := by omega
      have hg : (((obCells ob e).drop o).take i.size)[j]? = some (((obCells ob e).drop o).take i.size)[j] := List.getElem?_eq_getElem hj'
      have hg2 := hg
      rw [take_drop_get, if_pos hj] at hg2
      obtain ⟨c, e1, e2⟩ := hcell (o + j) _ hg2
      exact ⟨c, _, hg, e1, e2⟩)
    have hr := run_loadVar (P := P) hi hT.d w b (base + offs (S id) e + o) cs (by omega) (fun j v hj => by
      obtain ⟨a, _, h2, _⟩ := hrel j v hj
      rw [show base + offs (S id) e + o + j = base + offs (S id) e + (o + j) by omega]; exact h2) (fun h => by rw [hag] at h; cases h)
    rw [hag] at hr
    refine ⟨.agg cs.toArray, by simpa [Instr.loadAt, Instr.sureAddr] using hr, cs.toArray, rfl, F2.of_get (by simp [hcs, hlen]) fun j a c ha hc => ?_⟩
    obtain ⟨a', h1, _, h3⟩ := hrel j c (by simpa using hc)
    rw [h1] at ha; cases ha; exact h3
  · obtain ⟨c, e1, e2⟩ := hcell o a ha
    refine ⟨c, ?_, e2⟩
    have h1 := run_isAgg hT.d w
    rw [hag] at h1
    simp [Instr.loadAt, Instr.sureAddr, loadVar, h1, e1]
  · have hcell1 : ∀ j a, (arAll k0 xs)[j]? = some a → ∃ c, w.cell? ⟨b, base + j, none⟩ = some c ∧ AR ι S a c := by
      intro j a ha
      obtain ⟨r, hr, rfl⟩ := arAll_get k0 xs j a ha
      unfold ObR at hob
      rw [hoc] at hob
      rcases hob with ⟨h1, _⟩ | ⟨b', base', room', blk, t, fz, h1, h2, h3, h4, h5⟩
      · rw [hι] at h1; cases h1
      · rw [hι] at h1; cases h1
        obtain ⟨_, hc⟩ := h5 j r hr
        obtain ⟨c, e1, e2⟩ := hc 0 k0 rfl
        refine ⟨c, ?_, ofK_AR e2⟩
        rw [cell_at h2]
        rw [show base + j * [k0].length + 0 = base + j by simp] at e1
        exact e1
    have hoff0 : offs (S id) 0 = 0 := by
      rw [hs]; unfold shpOb; rw [hoc]; simp [offs]
    obtain ⟨cs, hcs, hrel⟩ := list_of (fun j c => ∃ a, (arAll k0 xs)[j]? = some a ∧ w.cell? ⟨b, base + j, none⟩ = some c ∧ AR ι S a c) i.size (fun j hj => by
      have hj' : j < (arAll k0 xs).length := by rw [arAll_length]; omega
      have hg : (arAll k0 xs)[j]? = some (arAll k0 xs)[j] := List.getElem?_eq_getElem hj'
      obtain ⟨c, e1, e2⟩ := hcell1 j _ hg
      exact ⟨c, _, hg, e1, e2⟩)
    have hr := run_loadVar (P := P) hi hT.d w b (base + offs (S id) 0 + 0) cs (by omega) (fun j v hj => by
      obtain ⟨a, _, h2, _⟩ := hrel j v hj
      rw [hoff0, show base + 0 + 0 + j = base + j by omega]; exact h2) (fun h => by rw [hag] at h; cases h)
    rw [hag] at hr
    refine ⟨.agg cs.toArray, by simpa [Instr.loadAt, Instr.sureAddr] using hr, cs.toArray, rfl, F2.of_get (by simp [hcs, hlen, arAll_length]) fun j a c ha hc => ?_⟩
    obtain ⟨a', h1, _, h3⟩ := hrel j c (by simpa using hc)
    rw [h1] at ha; cases ha; exact h3

theorem newBox_ok {t : TypeId} {cells : List A} {blk : Array Value} (ι : Nat → Pl) (S : Nat → Shp) (id : Nat) {w : World} {b : Nat} (hcells : F2 (AR ι S) cells blk.toList) (ho : ι id = .on b 0 blk.size)
    (tt : TypeId) (hw : w.heap[b]? = some (.cells blk tt (0, 0))) (hS : S id = shpOb (newBox ty t cells)) :
    ObR ι S w id (newBox ty t cells) ∧ inB (S id) 0 ∧ offs (S id) 0 = 0 := by
  have hbox : ObR ι S w id ⟨true, .box cells⟩ := by
    refine ⟨b, 0, blk.size, blk, tt, (0, 0), ho, hw, by omega, ?_, fun _ => rfl, fun j a ha => ?_⟩
    · have := hcells.length; simp at this; omega
    · obtain ⟨c, h1, h2⟩ := hcells.get j a ha
      exact ⟨c, by simpa using h1, h2⟩
  rw [hS]
  unfold newBox
  split
  · rename_i n e _
    split
    · rename_i k _
      split
      · rename_i ns hns
        obtain ⟨h1, h2, h3⟩ := aInts_KR hns hcells
        simp only [List.length_replicate] at h1 h2
        refine ⟨.inr ⟨b, 0, blk.size, blk, tt, (0, 0), ho, hw, by omega, fun _ => ⟨rfl, rfl, rfl⟩, fun e row he => ?_⟩, ?_, ?_⟩
        · simp only [List.getElem?_map] at he
          cases hne : ns[e]? with
          | none => simp [hne] at he
          | some m =>
            simp [hne] at he
            subst he
            refine ⟨rfl, fun o kd ho => ?_⟩
            cases o with
            | zero =>
              simp at ho
              subst ho
              have hen : e < n + 1 := by
                have := (List.getElem?_eq_some_iff.1 hne).1
                omega
              obtain ⟨c, e1, e2⟩ := h3 e k (by rw [List.getElem?_replicate]; simp [hen])
              refine ⟨c, by simpa using e1, ?_⟩
              rw [List.getD_eq_getElem?_getD, hne] at e2
              simpa using e2
            | succ o => simp at ho
        · simp only [shpOb, inB, List.length_map]; omega
        · simp [shpOb, offs]
      · exact ⟨hbox, rfl, rfl⟩
    · exact ⟨hbox, rfl, rfl⟩
  · exact ⟨hbox, rfl, rfl⟩

theorem F2.AR0 {ι : Nat → Pl} {S : Nat → Shp} {as : List A} {cs : List Value} (h : F2 AR0 as cs) : F2 (AR ι S) as cs := h.imp fun _ _ h => h ι S

theorem shp_new {hp : List Ob} {ob : Ob} : shp (hp ++ [ob]) hp.length = shpOb ob := by unfold shp; simp

theorem calm_alloc {o : Oper} {t : TypeId} {i : TI} (hT : TIOK P t i) (ho : o.op = .alloc t) : CalmOp P o sl hp (.at (.ptr hp.length 0 0)) [newBox ty t i.zero] := by
  obtain ⟨inf, z, hi, _, _, hz, hcells⟩ := hT.info
  refine calm_new fun ι a w hops hhr => ⟨.pointer (some ⟨w.heap.size, 0, none⟩), w.alloc (.cells z.cells t), .on w.heap.size 0 z.cells.size, ?_, WX.alloc w _, ?_, fun ι' hag hon => ?_⟩
  · have hzr := run_zeroValue hi hz w
    simp [execOp, ho, Instr.alloc, hzr, newVar, newRow]
  · intro b base room h; cases h; exact Nat.le_refl _
  · obtain ⟨h1, h2, h3⟩ := newBox_ok (ty := ty) (t := t) ι' (shp (hp ++ [newBox ty t i.zero])) hp.length hcells.AR0 hon t (heap_alloc_at w _) shp_new
    exact ⟨⟨_, _, _, hon, by rw [h3], h2⟩, h1⟩

theorem calm_box {o : Oper} {t : TypeId} {x : Operand} {cs : List A} (ho : o.op = .box t x) (hc : (evA sl x).cells = some cs) : CalmOp P o sl hp (.at (.ptr hp.length 0 0)) [newBox ty t cs] := by
  refine calm_new fun ι a w hops hhr => ?_
  have hv := hops x (by simp [ho, Op.operands])
  obtain ⟨hcells, _⟩ := V.cells_F2 hc hv
  refine ⟨.pointer (some ⟨w.heap.size, 0, none⟩), w.alloc (.cells (a.eval x).cells t), .on w.heap.size 0 (a.eval x).cells.size, ?_, WX.alloc w _, ?_, fun ι' hag hon => ?_⟩
  · simp [execOp, ho, Instr.box, newVar, newRow]
  · intro b base room h; cases h; exact Nat.le_refl _
  · have hcells' : F2 (AR ι' (shp (hp ++ [newBox ty t cs]))) cs (a.eval x).cells.toList := hcells.imp fun _ _ h => h.ext fun id hn => ⟨hag id (shp_lt hn), shp_append_lt (shp_lt hn)⟩
    obtain ⟨h1, h2, h3⟩ := newBox_ok (ty := ty) (t := t) ι' (shp (hp ++ [newBox ty t cs])) hp.length hcells' hon t (heap_alloc_at w _) shp_new
    exact ⟨⟨_, _, _, hon, by rw [h3], h2⟩, h1⟩
end Go.Fx

/- Calm operations: composite values and slices. -/
namespace Go.Fx
variable {P : Program} {ty : Nat → Option TI} {sl : List V} {hp : List Ob}

def setFromL : List Value → Nat → List Value → List Value
  | r, _, [] => r
  | r, o, n :: t => setFromL (r.set o n) (o + 1) t

theorem setFrom_F2 {R : A → Value → Prop} : ∀ {as : List A} {vs : List Value} {cs : List A} {blk : List Value} (o : Nat), F2 R as vs → F2 R cs blk → F2 R (setFromA cs o as) (setFromL blk o vs)
  | [], [], _, _, _, _, h => h
  | _ :: _, _ :: _, _, _, o, ⟨h1, h2⟩, h => setFrom_F2 (o + 1) h2 (h.set h1 o)
  | [], _ :: _, _, _, _, h, _ => h.elim
  | _ :: _, [], _, _, _, h, _ => h.elim

theorem foldl_set (off : Nat) : ∀ (vs : List Value) (k : Nat) (blk : Array Value),
    ((vs.zipIdx k).foldl (fun (cs : Array Value) (p : Value × Nat) => cs.setIfInBounds (off + p.2) p.1) blk).toList = setFromL blk.toList (off + k) vs
  | [], k, blk => by simp [setFromL]
  | v :: vs, k, blk => by
    simp only [List.zipIdx_cons, List.foldl_cons]
    rw [foldl_set off vs (k + 1)]
    simp [setFromL, Nat.add_assoc]

theorem fill_sound {ι : Nat → Pl} {S : Nat → Shp} {pa pc : Nat → Option (Nat × Nat)} (hp : ∀ i p, pa i = some p → pc i = some p) :
    ∀ {ps : List (Nat × V)} {qs : List (Nat × Value)} {cs cs' : List A} {blk : Array Value}, F2 (fun p q => p.1 = q.1 ∧ VR ι S p.2 q.2) ps qs → F2 (AR ι S) cs blk.toList → fillA pa cs ps = some cs' →
      ∃ blk', Instr.fill pc blk qs = some blk' ∧ F2 (AR ι S) cs' blk'.toList
  | [], [], cs, cs', blk, _, hc, hf => by simp [fillA] at hf; subst hf; exact ⟨blk, rfl, hc⟩
  | (i, v) :: ps, (j, c) :: qs, cs, cs', blk, ⟨⟨h0, h1⟩, h2⟩, hc, hf => by
    simp only at h0
    subst h0
    simp only [fillA] at hf
    cases hpi : pa i with
    | none => simp [hpi] at hf
    | some p =>
      obtain ⟨off, size⟩ := p
      cases hvc : v.cells with
      | none => simp [hpi, hvc] at hf
      | some as =>
        simp only [hpi, hvc] at hf
        obtain ⟨hcells, _⟩ := V.cells_F2 hvc h1
        have hl := hcells.length
        cases hb1 : Nat.beq as.length size with
        | false => simp only [hb1] at hf; cases hf
        | true =>
          cases hb2 : Nat.ble (off + size) cs.length with
          | false => simp only [hb1, hb2] at hf; cases hf
          | true =>
            simp only [hb1, hb2] at hf
            have e1 := Nat.eq_of_beq_eq_true hb1
            have e2 := Nat.le_of_ble_eq_true hb2
            have hlc := hc.length
            simp only [Array.length_toList] at hl hlc
            have hset := setFrom_F2 off hcells hc
            have hfold := foldl_set off c.cells.toList 0 blk
            rw [Nat.add_zero] at hfold
            rw [← hfold] at hset
            obtain ⟨blk', hb, hr⟩ := fill_sound hp h2 hset hf
            refine ⟨blk', ?_, hr⟩
            simp only [Instr.fill, hp i _ hpi]
            have c1 : c.cells.size = size := by omega
            have c2 : ¬ off + c.cells.size > blk.size := by omega
            simp only [c1, ne_eq, not_true_eq_false, decide_false, Bool.false_or, decide_eq_true_eq]
            rw [if_neg (by omega)]
            have : (c.cells.zipIdx.foldl (fun cs (x : Value × Nat) => match x with | (c, j) => cs.setIfInBounds (off + j) c) blk) = (c.cells.toList.zipIdx 0).foldl (fun (cs : Array Value) (p : Value × Nat) => cs.setIfInBounds (off + p.2) p.1) blk := by
              rw [← Array.foldl_toList, Array.toList_zipIdx]
            rw [this]
            exact hb
  | [], _ :: _, _, _, _, h, _, _ => h.elim
  | _ :: _, [], _, _, _, h, _, _ => h.elim

theorem parts_F2 {ι : Nat → Pl} {S : Nat → Shp} {a : Act} : ∀ (ps : List (Nat × Operand)), (∀ p ∈ ps, VR ι S (evA sl p.2) (a.eval p.2)) →
    F2 (fun p q => p.1 = q.1 ∧ VR ι S p.2 q.2) (ps.map fun p => (p.1, evA sl p.2)) (ps.map fun p => (p.1, a.eval p.2))
  | [], _ => trivial
  | p :: ps, h => ⟨⟨rfl, h p (by simp)⟩, parts_F2 ps fun q hq => h q (by simp [hq])⟩

theorem run_mapM_places (fields : List Field) (w : World) (h : ∀ f ∈ fields, ∃ i, P.info? f.type = some i) :
    (fields.mapM fun f => do pure (f.offset, ← sizeOf f.type) : Sem (List (Nat × Nat))).run P w = .ok (fields.map fun f => (f.offset, P.cellsOf f.type)) w := by
  induction fields with
  | nil => rfl
  | cons f fs ih =>
    obtain ⟨i, hi⟩ := h f (by simp)
    have e1 := run_sizeOf hi w
    have e2 := ih fun g hg => h g (by simp [hg])
    simp only [List.mapM_cons, Sem.run_bind, e1, Result.andThen_ok, e2, Sem.run_pure, List.map_cons, Program.cellsOf, hi, Option.map_some, Option.getD_some]

theorem calm_build {o : Oper} {t : TypeId} {parts : Array (Nat × Operand)} {i : TI} {cs : List A} (hT : TyOK P ty) (ho : o.op = .build t parts) (hi : ty t = some i)
    (h : (match i.d with
      | .st fs => fillA (fun j => match fs[j]? with | some (off, ft) => (match ty ft with | some fi => some (off, fi.size) | none => none) | none => none) i.zero (parts.toList.map fun p => (p.1, evA sl p.2))
      | .ar _ et => match ty et with
        | some ei => fillA (fun j => some (j * ei.size, ei.size)) i.zero (parts.toList.map fun p => (p.1, evA sl p.2))
        | none => none
      | _ => none) = some cs) : CalmOp P o sl hp (.agg cs) [] := by
  have hTi := hT t i hi
  obtain ⟨inf, z, hinf, hsz, _, hz, hcells⟩ := hTi.info
  refine calm_value fun ι a w hops hhr => ?_
  have hparts : F2 (fun p q => p.1 = q.1 ∧ VR ι (shp hp) p.2 q.2) (parts.toList.map fun p => (p.1, evA sl p.2)) (parts.toList.map fun p => (p.1, a.eval p.2)) :=
    parts_F2 parts.toList fun p hp => hops p.2 (by simp [ho, Op.operands]; exact ⟨p.1, by simpa using hp⟩)
  have hzr := run_zeroValue hinf hz w
  have hmap : (parts.map fun (p : Nat × Operand) => (p.1, a.eval p.2)).toList = parts.toList.map fun p => (p.1, a.eval p.2) := by simp
  cases hd : i.d with
  | st fs =>
    simp only [hd] at h
    have hdr := hTi.d
    rw [hd] at hdr
    obtain ⟨fields, hu, hfs, hfi⟩ := hdr
    obtain ⟨blk', hb, hr⟩ := fill_sound (pc := fun j => (fields.toList.map fun f => (f.offset, P.cellsOf f.type))[j]?) (fun j p hj => by
      cases hg : fs[j]? with
      | none => simp [hg] at hj
      | some q =>
        obtain ⟨off, ft⟩ := q
        simp only [hg] at hj
        cases ht : ty ft with
        | none => simp [ht] at hj
        | some fi =>
          simp [ht] at hj
          subst hj
          rw [← hfs, List.getElem?_map] at hg
          cases hf : fields.toList[j]? with
          | none => simp [hf] at hg
          | some f =>
            simp [hf] at hg
            obtain ⟨g1, g2⟩ := hg
            obtain ⟨inf', z', hi', hs', _⟩ := (hT ft fi ht).info
            rw [List.getElem?_map, hf]
            simp [g1, Program.cellsOf, g2, hi', hs']) hparts hcells.AR0 h
    refine ⟨.agg blk', 0, ?_, blk', rfl, hr⟩
    have e1 := run_underlying hu w
    have e2 := run_mapM_places (P := P) fields.toList w (fun f hf => let ⟨i, h1, _⟩ := hfi f hf; ⟨i, h1⟩)
    have e3 : (fields.mapM fun f => do pure (f.offset, ← sizeOf f.type) : Sem (Array (Nat × Nat))).run P w = .ok (fields.toList.map fun f => (f.offset, P.cellsOf f.type)).toArray w := by
      rw [Array.mapM_eq_mapM_toList, ← bind_pure_comp]
      simp only [Sem.run_bind, e2, Result.andThen_ok, Sem.run_pure]
    rw [World.drewN_zero]
    simp only [execOp, ho]
    have hb' : Instr.fill (fun j => (fields.toList.map fun f => (f.offset, P.cellsOf f.type)).toArray[j]?) z.cells (parts.map fun (p : Nat × Operand) => (p.1, a.eval p.2)).toList = some blk' := by
      rw [hmap]; simpa using hb
    simp only [Instr.build, Sem.run_bind, hzr, Result.andThen_ok, e1, e3, hb']
    rfl
  | ar n et =>
    simp only [hd] at h
    have hdr := hTi.d
    rw [hd] at hdr
    cases hte : ty et with
    | none => simp [hte] at h
    | some ei =>
      simp only [hte] at h
      obtain ⟨inf', z', hi', hs', _⟩ := (hT et ei hte).info
      obtain ⟨blk', hb, hr⟩ := fill_sound (pc := fun j => some (j * ei.size, ei.size)) (fun j p hj => hj) hparts hcells.AR0 h
      refine ⟨.agg blk', 0, ?_, blk', rfl, hr⟩
      have e1 := run_underlying hdr w
      have e2 := run_sizeOf hi' w
      rw [World.drewN_zero]
      simp only [execOp, ho]
      have hb' : Instr.fill (fun j => some (j * inf'.size, inf'.size)) z.cells (parts.map fun (p : Nat × Operand) => (p.1, a.eval p.2)).toList = some blk' := by
        rw [hmap, hs']; exact hb
      simp only [Instr.build, Sem.run_bind, hzr, Result.andThen_ok, e1, e2, hb']
      rfl
  | sc k => simp [hd] at h
  | sl e => simp [hd] at h
  | mp k kd => simp [hd] at h
  | oth => simp [hd] at h
end Go.Fx

/- Calm operations: slices made anew. -/
namespace Go.Fx
variable {P : Program} {ty : Nat → Option TI} {sl : List V} {hp : List Ob}

theorem flatten_rep {α : Type} (l : List α) (hl : 0 < l.length) : ∀ (n i : Nat), i < n * l.length → ((List.replicate n l).flatten)[i]? = l[i % l.length]?
  | 0, i, h => by simp at h
  | n + 1, i, h => by
    rw [List.replicate_succ, List.flatten_cons]
    by_cases hi : i < l.length
    · rw [List.getElem?_append_left hi, Nat.mod_eq_of_lt hi]
    · have h2 : i - l.length < n * l.length := by rw [Nat.succ_mul] at h; omega
      rw [List.getElem?_append_right (Nat.le_of_not_lt hi), flatten_rep l hl n (i - l.length) h2, ← Nat.mod_eq_sub_mod (Nat.le_of_not_lt hi)]

theorem flatten_rep_length {α : Type} (l : List α) (n : Nat) : ((List.replicate n l).flatten).length = n * l.length := by simp

theorem zeros_F2 {ι : Nat → Pl} {S : Nat → Shp} {zero : List A} {z : Array Value} (h : F2 (AR ι S) zero z.toList) (n : Nat) (hs : 0 < z.size) :
    F2 (AR ι S) ((List.replicate n zero).flatten) ((Array.range (n * z.size)).map (z[· % z.size]!)).toList := by
  have hl := h.length
  simp only [Array.length_toList] at hl
  refine F2.of_get (by simp [hl]) fun i a c ha hc => ?_
  have hi : i < n * z.size := by
    have := (List.getElem?_eq_some_iff.1 ha).1
    rw [flatten_rep_length, hl] at this
    exact this
  rw [flatten_rep zero (by omega) n i (by rw [hl]; exact hi), hl] at ha
  obtain ⟨c', hc', hr⟩ := h.get _ _ ha
  have hm : i % z.size < z.size := Nat.mod_lt _ hs
  simp [hi] at hc
  have : z.toList[i % z.size]? = some z[i % z.size]! := by simp [hm]
  rw [this] at hc'
  cases hc'
  rw [← hc]
  exact hr

theorem chunk_get (s : Nat) : ∀ (n : Nat) (l : List Int) (e : Nat), e < n → (chunk s n l)[e]? = some ((l.drop (e * s)).take s)
  | 0, _, _, h => by omega
  | n + 1, l, 0, _ => by simp [chunk]
  | n + 1, l, e + 1, h => by
    simp only [chunk, List.getElem?_cons_succ]
    rw [chunk_get s n (l.drop s) e (by omega), List.drop_drop, show s + e * s = (e + 1) * s by rw [Nat.add_mul]; omega]

theorem chunk_length (s : Nat) : ∀ (n : Nat) (l : List Int), (chunk s n l).length = n
  | 0, _ => rfl
  | n + 1, l => by simp [chunk, chunk_length s n]

theorem idx_lt {e o n s : Nat} (he : e < n) (ho : o < s) : e * s + o < n * s := by
  have : (e + 1) * s ≤ n * s := Nat.mul_le_mul_right s he
  rw [Nat.add_mul] at this
  omega

theorem rows_chunk {blk : Array Value} {ks : List K} {n : Nat} {ns : List Int} (hks : 0 < ks.length) (hl : ns.length = n * ks.length)
    (h : ∀ o kd, ((List.replicate n ks).flatten)[o]? = some kd → ∃ c, blk.toList[o]? = some c ∧ KR kd (ns.getD o 0) c) : RowsR blk 0 ks (chunk ks.length n ns) := by
  intro e row he
  have hen : e < n := by
    have := (List.getElem?_eq_some_iff.1 he).1
    rwa [chunk_length] at this
  rw [chunk_get _ _ _ _ hen] at he
  cases he
  have hlt : (e + 1) * ks.length ≤ n * ks.length := Nat.mul_le_mul_right _ hen
  rw [Nat.add_mul] at hlt
  refine ⟨by simp [hl]; omega, fun o kd ho => ?_⟩
  have hos : o < ks.length := (List.getElem?_eq_some_iff.1 ho).1
  have hidx := idx_lt hen hos
  have hmod : (e * ks.length + o) % ks.length = o := by
    rw [Nat.add_comm, Nat.add_mul_mod_self_right, Nat.mod_eq_of_lt hos]
  obtain ⟨c, h1, h2⟩ := h (e * ks.length + o) kd (by rw [flatten_rep ks hks n _ hidx, hmod]; exact ho)
  refine ⟨c, by simpa using h1, ?_⟩
  have : ((ns.drop (e * ks.length)).take ks.length).getD o 0 = ns.getD (e * ks.length + o) 0 := by
    rw [List.getD_eq_getElem?_getD, List.getD_eq_getElem?_getD, take_drop_get, if_pos hos]
  rw [this]
  exact h2

theorem calm_buildSlice0 {o : Oper} {t et : TypeId} {parts : Array (Nat × Operand)} {ei : TI} (hT : TyOK P ty) (ho : o.op = .buildSlice t 0 parts) (ht : tyOf ty t = some (.sl et)) (he : ty et = some ei) (hp0 : parts.size = 0) :
    CalmOp P o sl hp (.at .nil) [] := by
  have hd : DR P t (.sl et) := by
    unfold tyOf at ht
    cases hi : ty t with
    | none => simp [hi] at ht
    | some i => simp [hi] at ht; rw [← ht]; exact (hT t i hi).d
  obtain ⟨inf, z, hinf, hsz, _, hz, hcells⟩ := (hT et ei he).info
  refine calm_wx fun ι a w hops hhr => ⟨.slice (some ⟨w.heap.size, 0, none⟩) 0 0, w.alloc (.cells #[] et), ?_, WX.alloc w _, ⟨_, rfl⟩⟩
  have e1 := run_underlying hd w
  have e2 := run_sizeOf hinf w
  have hps : parts = #[] := Array.eq_empty_of_size_eq_zero hp0
  simp [execOp, ho, Instr.buildSlice, e1, e2, hps, Instr.fill, newRow]
  rw [show Array.range 0 = #[] from rfl, Array.map_empty]

theorem calm_buildSlice {o : Oper} {t et : TypeId} {len : Nat} {parts : Array (Nat × Operand)} {ei : TI} {ks : List K} {cs : List A} {ns : List Int} (hT : TyOK P ty) (ho : o.op = .buildSlice t len parts)
    (ht : tyOf ty t = some (.sl et)) (he : ty et = some ei) (hks : ei.ks = some ks) (hlen : 0 < len) (hsz0 : 0 < ei.size) (hcap : len * ei.size ≤ 16777216)
    (hf : fillA (fun j => some (j * ei.size, ei.size)) ((List.replicate len ei.zero).flatten) (parts.toList.map fun p => (p.1, evA sl p.2)) = some cs)
    (hns : aInts ((List.replicate len ks).flatten) cs = some ns) :
    CalmOp P o sl hp (.at (.sl hp.length)) [⟨true, .rows ks (chunk ei.size len ns)⟩] := by
  have hd : DR P t (.sl et) := by
    unfold tyOf at ht
    cases hi : ty t with
    | none => simp [hi] at ht
    | some i => simp [hi] at ht; rw [← ht]; exact (hT t i hi).d
  have hTe := hT et ei he
  obtain ⟨inf, z, hinf, hsz, _, hz, hcells⟩ := hTe.info
  have hkl := hTe.ks ks hks
  refine calm_new fun ι a w hops hhr => ?_
  have hparts : F2 (fun p q => p.1 = q.1 ∧ VR ι (shp hp) p.2 q.2) (parts.toList.map fun p => (p.1, evA sl p.2)) (parts.toList.map fun p => (p.1, a.eval p.2)) :=
    parts_F2 parts.toList fun p hp => hops p.2 (by simp [ho, Op.operands]; exact ⟨p.1, by simpa using hp⟩)
  have hzl : z.cells.size = ei.size := by
    have h1 := hcells.length; have h2 := hTe.zl; simp at h1; omega
  have hz2 := zeros_F2 (ι := ι) (S := shp hp) hcells.AR0 len (by omega)
  obtain ⟨blk, hb, hr⟩ := fill_sound (pc := fun j => some (j * ei.size, ei.size)) (fun j p hj => hj) hparts hz2 hf
  obtain ⟨l1, l2, l3⟩ := aInts_KR hns hr
  simp only [flatten_rep_length] at l1 l2
  have hbs : blk.size = len * ei.size := by rw [← hkl, ← l2]; simp
  refine ⟨.slice (some ⟨w.heap.size, 0, none⟩) len len, w.alloc (.cells blk et), .on w.heap.size 0 blk.size, ?_, WX.alloc w _, ?_, fun ι' hag hon => ⟨?_, ?_⟩⟩
  · have e1 := run_underlying hd w
    have e2 := run_sizeOf hinf w
    have e3 := run_zeroValue hinf hz w
    have hmap : (parts.map fun (p : Nat × Operand) => (p.1, a.eval p.2)).toList = parts.toList.map fun p => (p.1, a.eval p.2) := by simp
    have n1 : ¬ (len * inf.size > 2 ^ 24) := by rw [hsz]; omega
    have n2 : ¬ (len * inf.size = 0) := by
      rw [hsz]
      exact Nat.ne_of_gt (Nat.mul_pos hlen hsz0)
    have hb' : Instr.fill (fun i => some (i * inf.size, inf.size)) ((Array.range (len * inf.size)).map (z.cells[· % z.cells.size]!)) (parts.map fun (p : Nat × Operand) => (p.1, a.eval p.2)).toList = some blk := by
      rw [hmap, hsz]
      rw [← hzl] at hb ⊢
      exact hb
    simp only [execOp, ho, Instr.buildSlice, Sem.run_bind, e1, Result.andThen_ok, e2, if_neg n1, if_neg n2, e3, Sem.run_pure, hb']
    simp [newRow]
  · intro b base room h; cases h; exact Nat.le_refl _
  · refine ⟨ks, len, ?_, .inr ⟨_, _, _, len, hon, rfl, Nat.le_refl _, ?_, ?_⟩⟩
    · rw [shp_new]; simp [shpOb, chunk_length]
    · rw [hbs, hkl]; exact Nat.le_refl _
    · have := Nat.le_mul_of_pos_right len hsz0
      unfold maxLen; omega
  · refine .inr ⟨_, _, _, blk, et, (0, 0), hon, heap_alloc_at w _, by omega, fun _ => ⟨rfl, rfl, rfl⟩, ?_⟩
    have := rows_chunk (blk := blk) (ks := ks) (n := len) (ns := ns) (by omega) l1 l3
    rw [hkl] at this
    exact this

theorem calm_buildSliceB {o : Oper} {t et : TypeId} {len : Nat} {parts : Array (Nat × Operand)} {ei : TI} {cs : List A} (hT : TyOK P ty) (ho : o.op = .buildSlice t len parts)
    (ht : tyOf ty t = some (.sl et)) (he : ty et = some ei) (hlen : 0 < len) (hsz1 : ei.size = 1) (hcap : len ≤ 1000)
    (hf : fillA (fun j => some (j * ei.size, ei.size)) ((List.replicate len ei.zero).flatten) (parts.toList.map fun p => (p.1, evA sl p.2)) = some cs) :
    CalmOp P o sl hp (.at (.bs hp.length len)) [⟨true, .box cs⟩] := by
  have hd : DR P t (.sl et) := by
    unfold tyOf at ht
    cases hi : ty t with
    | none => simp [hi] at ht
    | some i => simp [hi] at ht; rw [← ht]; exact (hT t i hi).d
  have hTe := hT et ei he
  obtain ⟨inf, z, hinf, hsz, _, hz, hcells⟩ := hTe.info
  refine calm_new fun ι a w hops hhr => ?_
  have hparts : F2 (fun p q => p.1 = q.1 ∧ VR ι (shp hp) p.2 q.2) (parts.toList.map fun p => (p.1, evA sl p.2)) (parts.toList.map fun p => (p.1, a.eval p.2)) :=
    parts_F2 parts.toList fun p hp => hops p.2 (by simp [ho, Op.operands]; exact ⟨p.1, by simpa using hp⟩)
  have hzl : z.cells.size = ei.size := by
    have h1 := hcells.length; have h2 := hTe.zl; simp at h1; omega
  have hz2 := zeros_F2 (ι := ι) (S := shp hp) hcells.AR0 len (by omega)
  obtain ⟨blk, hb, hr⟩ := fill_sound (pc := fun j => some (j * ei.size, ei.size)) (fun j p hj => hj) hparts hz2 hf
  refine ⟨.slice (some ⟨w.heap.size, 0, none⟩) len len, w.alloc (.cells blk et), .on w.heap.size 0 blk.size, ?_, WX.alloc w _, ?_, fun ι' hag hon => ⟨?_, ?_⟩⟩
  · have e1 := run_underlying hd w
    have e2 := run_sizeOf hinf w
    have e3 := run_zeroValue hinf hz w
    have hmap : (parts.map fun (p : Nat × Operand) => (p.1, a.eval p.2)).toList = parts.toList.map fun p => (p.1, a.eval p.2) := by simp
    have n1 : ¬ (len * inf.size > 2 ^ 24) := by rw [hsz, hsz1]; omega
    have n2 : ¬ (len * inf.size = 0) := by rw [hsz, hsz1]; omega
    have hb' : Instr.fill (fun i => some (i * inf.size, inf.size)) ((Array.range (len * inf.size)).map (z.cells[· % z.cells.size]!)) (parts.map fun (p : Nat × Operand) => (p.1, a.eval p.2)).toList = some blk := by
      rw [hmap, hsz]
      rw [← hzl] at hb ⊢
      exact hb
    simp only [execOp, ho, Instr.buildSlice, Sem.run_bind, e1, Result.andThen_ok, e2, if_neg n1, if_neg n2, e3, Sem.run_pure, hb']
    simp [newRow]
  · intro b base room h; cases h; exact Nat.le_refl _
  · exact ⟨by rw [shp_new]; rfl, _, _, _, hon, rfl⟩
  · have hl := hr.length
    simp only [Array.length_toList] at hl
    refine ⟨_, _, _, blk, et, (0, 0), hon, heap_alloc_at w _, by omega, by omega, fun _ => rfl, fun j x hx => ?_⟩
    obtain ⟨c, g1, g2⟩ := hr.get j x hx
    exact ⟨c, by simpa using g1, g2.ext fun id hn => ⟨hag id (shp_lt hn), shp_append_lt (shp_lt hn)⟩⟩
end Go.Fx

/- Calm operations: make, append to nothing, addresses, parts, lengths. -/
namespace Go.Fx
variable {P : Program} {ty : Nat → Option TI} {sl : List V} {hp : List Ob}

theorem tyOf_DR (hT : TyOK P ty) {t : TypeId} {d : D} (h : tyOf ty t = some d) : DR P t d := by
  unfold tyOf at h
  cases hi : ty t with
  | none => simp [hi] at h
  | some i => simp [hi] at h; rw [← h]; exact (hT t i hi).d

theorem getD_rep (n : Nat) (z : List Int) {e : Nat} (h : e < n) : (List.replicate n z)[e]? = some z := by rw [List.getElem?_replicate]; simp [h]

theorem calm_makeSlice {o : Oper} {t et : TypeId} {x y : Operand} {ei : TI} {ks : List K} {z : List Int} {kx ky : IntKind} {n : Int} (hT : TyOK P ty) (ho : o.op = .makeSlice t x y)
    (ht : tyOf ty t = some (.sl et)) (he : ty et = some ei) (hks : ei.ks = some ks) (hz : aInts ks ei.zero = some z) (hx : evA sl x = .at (.int kx n)) (hy : evA sl y = .at (.int ky n))
    (h0 : 0 ≤ n) (hn : n ≤ 1073741824) (hb : ei.bytes ≤ 1024) (_hs : 0 < ei.size) :
    CalmOp P o sl hp (.at (.sl hp.length)) [⟨true, .rows ks (List.replicate n.toNat z)⟩] := by
  have hd := tyOf_DR hT ht
  have hTe := hT et ei he
  obtain ⟨inf, zv, hinf, hsz, hby, hzv, hcells⟩ := hTe.info
  have hkl := hTe.ks ks hks
  refine calm_new fun ι a w hops hhr => ?_
  have hvx := hops x (by simp [ho, Op.operands])
  have hvy := hops y (by simp [ho, Op.operands])
  rw [hx] at hvx; rw [hy] at hvy
  have ex : a.eval x = .int kx n := hvx
  have ey : a.eval y = .int ky n := hvy
  have hr := run_make (P := P) w t et inf zv hd hinf hzv kx ky n n h0 (Int.le_refl _) (by
    rw [hby]
    have : (ei.bytes : Int) * n ≤ 1024 * 1073741824 := Int.mul_le_mul (by omega) hn h0 (by omega)
    omega) (by omega)
  obtain ⟨l1, l2, l3⟩ := aInts_KR (ι := ι) (S := shp hp) hz hcells.AR0
  have hzl : zv.cells.size = ei.size := by have h1 := hcells.length; have h2 := hTe.zl; simp at h1; omega
  have hbs : (madeCells zv.cells (n.toNat * inf.size)).size = n.toNat * ei.size := by rw [size_madeCells, hsz]
  refine ⟨.slice (some ⟨w.heap.size, 0, none⟩) n.toNat n.toNat, _, .on w.heap.size 0 (n.toNat * ei.size), by simp [execOp, ho, ex, ey, hr]; rfl, WX.alloc w _, ?_, fun ι' hag hon => ⟨?_, ?_⟩⟩
  · intro b base room h; cases h; exact Nat.le_refl _
  · refine ⟨ks, n.toNat, ?_, .inr ⟨_, _, _, n.toNat, hon, rfl, Nat.le_refl _, ?_, ?_⟩⟩
    · rw [shp_new]; simp [shpOb]
    · rw [hkl]; exact Nat.le_refl _
    · unfold maxLen; omega
  · refine .inr ⟨_, _, _, _, et, (0, 0), hon, heap_alloc_at w _, by omega, fun _ => ⟨rfl, rfl, hbs⟩, ?_⟩
    intro e row hrow
    have hen : e < n.toNat := by have := (List.getElem?_eq_some_iff.1 hrow).1; simpa using this
    rw [getD_rep _ _ hen] at hrow
    cases hrow
    refine ⟨l1, fun o kd hok => ?_⟩
    have hos : o < ks.length := (List.getElem?_eq_some_iff.1 hok).1
    obtain ⟨c, h1, h2⟩ := l3 o kd hok
    refine ⟨c, ?_, h2⟩
    have hidx := idx_lt hen hos
    have hmod : (e * ks.length + o) % ei.size = o := by rw [← hkl, Nat.add_comm, Nat.add_mul_mod_self_right, Nat.mod_eq_of_lt hos]
    have hlt : 0 + e * ks.length + o < n.toNat * inf.size := by rw [hsz, ← hkl]; omega
    have ho2 : o < zv.cells.size := by omega
    unfold madeCells
    simp only [Array.getElem?_map, Array.getElem?_range, hlt]
    simp only [Nat.zero_add, if_true, Option.map_some, hzl, hmod]
    simp at h1
    rw [← h1]
    simp [ho2]

theorem run_append_empty (w : World) (t tyy e : TypeId) (i : TypeInfo) (z : Value) (ht : P.underlying t = some (.slice e)) (hi : P.info? e = some i) (hz : i.zero = some z) (base : Option Addr)
    (a : Addr) (n c : Nat) (news : List Value) (hl : news.length = n * i.size) (hnews : ∀ j v, news[j]? = some v → w.cell? (a.add j) = some v)
    (h0 : 0 < n) (h63 : (n : Int) ≤ 9223372036854775807) (hfit : Builtin.nextslicecap n 0 * i.bytes ≤ 281474976710656) :
    (Builtin.append_ #[t, t] tyy #[.slice base 0 0, .slice (some a) n c]).run P w =
      .ok (.slice (some ⟨w.heap.size, 0, none⟩) n (grownCap w n 0 e)) (w.drew.alloc (.cells (news.toArray ++ Builtin.zeroCells z.cells (grownCap w n 0 e - n)) e)) := by
  cases base with
  | none =>
    refine run_append_nil (P := P) w t tyy e i z ht hi hz a n c news hl hnews h0 h63 ?_
    rwa [nextslicecap_zero h0] at hfit
  | some b =>
    have := run_append_grow (P := P) w t tyy e i z ht hi hz b 0 0 [] (by simp) (by simp) a n c news hl hnews (by omega) (by omega) (by simpa using hfit)
    simpa using this

theorem run_append_none (w : World) (t tyy e : TypeId) (i : TypeInfo) (ht : P.underlying t = some (.slice e)) (hi : P.info? e = some i) (base : Option Addr) (x : Option Addr) (c : Nat) :
    (Builtin.append_ #[t, t] tyy #[.slice base 0 0, .slice x 0 c]).run P w = .ok (.slice base 0 0) w := by
  have e1 := run_underlying ht w
  have e2 := run_sizeOf hi w
  cases x <;> cases base <;> simp [Builtin.append_, e1, e2, Builtin.lenOf, Builtin.firstCells, loadCells, loadCellsFrom, storeCells]

theorem slRows_sound {ι : Nat → Pl} {w : World} {y : A} {ys : List (List Int)} {c : Value} {ks : List K} (hhr : HR ι hp w) (hy : slRows hp y = some ys) (hc : AR ι (shp hp) y c)
    (hk : ys ≠ [] → ∀ id, (y = .sl id ∨ ∃ s n q, y = .sub id s n q) → obKs hp id = some ks) :
    ∃ a m, c = .slice a ys.length m ∧ (0 < ys.length → ∃ ad, a = some ad ∧ ∃ news : List Value, news.length = ys.length * ks.length ∧ (∀ j v, news[j]? = some v → w.cell? (ad.add j) = some v) ∧
      ∀ e row, ys[e]? = some row → row.length = ks.length ∧ ∀ o kd, ks[o]? = some kd → ∃ c, news[e * ks.length + o]? = some c ∧ KR kd (row.getD o 0) c) := by
  -- from 'st' rows on, 'n' rows, at block b
  have key : ∀ (b base st n : Nat) (blk : Array Value) (t : TypeId) (fz : Nat × Nat) (xs : List (List Int)), w.heap[b]? = some (.cells blk t fz) → RowsR blk base ks xs → st + n ≤ xs.length → ((xs.drop st).take n).length = n →
      ∃ news : List Value, news.length = n * ks.length ∧ (∀ j v, news[j]? = some v → w.cell? ((⟨b, base + st * ks.length, none⟩ : Addr).add j) = some v) ∧
      ∀ e row, ((xs.drop st).take n)[e]? = some row → row.length = ks.length ∧ ∀ o kd, ks[o]? = some kd → ∃ c, news[e * ks.length + o]? = some c ∧ KR kd (row.getD o 0) c := by
    intro b base st n blk t fz xs hb hrows hle _
    have hcell : ∀ j, j < n * ks.length → ∃ c, blk[base + st * ks.length + j]? = some c := by
      intro j hj
      have hk0 : 0 < ks.length := by
        rcases Nat.eq_zero_or_pos ks.length with h | h
        · rw [h] at hj; simp at hj
        · exact h
      have hq : j / ks.length < n := Nat.div_lt_of_lt_mul (by rw [Nat.mul_comm]; exact hj)
      have hm : j % ks.length < ks.length := Nat.mod_lt _ hk0
      have hx : st + j / ks.length < xs.length := by omega
      obtain ⟨_, h2⟩ := hrows (st + j / ks.length) xs[st + j / ks.length] (List.getElem?_eq_getElem hx)
      obtain ⟨c, h3, _⟩ := h2 (j % ks.length) ks[j % ks.length] (List.getElem?_eq_getElem hm)
      refine ⟨c, ?_⟩
      rw [← h3]
      congr 1
      rw [Nat.add_mul]
      have := Nat.div_add_mod j ks.length
      rw [Nat.mul_comm] at this
      omega
    obtain ⟨news, hl, hn⟩ := list_of (fun j c => blk[base + st * ks.length + j]? = some c) (n * ks.length) hcell
    refine ⟨news, hl, fun j v hj => ?_, fun e row he => ?_⟩
    · rw [Addr.add_at, cell_at hb]; exact hn j v hj
    · rw [take_drop_get] at he
      split at he
      · rename_i hen
        obtain ⟨h1, h2⟩ := hrows (st + e) row he
        refine ⟨h1, fun o kd ho => ?_⟩
        obtain ⟨c, h3, h4⟩ := h2 o kd ho
        have hos : o < ks.length := (List.getElem?_eq_some_iff.1 ho).1
        have hidx := idx_lt hen hos
        have hg : news[e * ks.length + o]? = some news[e * ks.length + o] := List.getElem?_eq_getElem (by omega)
        have := hn _ _ hg
        refine ⟨c, ?_, h4⟩
        rw [hg, ← this, ← h3]
        congr 1
        rw [Nat.add_mul]; omega
      · cases he
  cases y with
  | nil =>
    simp [slRows] at hy
    subst hy
    obtain ⟨a, rfl⟩ := hc
    exact ⟨a, 0, rfl, fun h => by simp at h⟩
  | sl id =>
    simp only [slRows] at hy
    cases ho : hp[id]? with
    | none => simp [ho] at hy
    | some ob =>
      obtain ⟨own, oc⟩ := ob
      cases oc with
      | dead => simp [ho] at hy
      | mp kd keys => simp [ho] at hy
      | box cs => simp [ho] at hy
      | rows ks' xs =>
        simp [ho] at hy
        subst hy
        obtain ⟨ks2, n, h1, h2⟩ := hc
        rw [shp_of ho] at h1
        simp only [shpOb, Shp.rows.injEq] at h1
        obtain ⟨rfl, rfl⟩ := h1
        rcases h2 with ⟨_, h3, a, rfl⟩ | ⟨b, base, room, cap, hι, rfl, hle, hroom, hml⟩
        · exact ⟨a, 0, by rw [h3], fun h => by omega⟩
        · refine ⟨_, cap, rfl, fun h => ⟨_, rfl, ?_⟩⟩
          have hks : obKs hp id = some ks := hk (by intro h'; rw [h'] at h; simp at h) id (.inl rfl)
          simp only [obKs, ho, Option.some.injEq] at hks
          subst hks
          have hob := hhr id _ ho (by rw [hι]; simp)
          rcases hob with ⟨h4, _⟩ | ⟨b', base', room', blk, t, fz, h4, h5, h6, _, h7⟩
          · rw [hι] at h4; cases h4
          · rw [hι] at h4; cases h4
            obtain ⟨news, n1, n2, n3⟩ := key b base 0 xs.length blk t fz xs h5 h7 (by omega) (by simp)
            simp only [Nat.zero_mul, Nat.add_zero, List.drop_zero, List.take_length] at n2 n3
            exact ⟨news, n1, n2, n3⟩
  | sub id st len cap =>
    simp only [slRows] at hy
    cases ho : hp[id]? with
    | none => simp [ho] at hy
    | some ob =>
      obtain ⟨own, oc⟩ := ob
      cases oc with
      | dead => simp [ho] at hy
      | mp kd keys => simp [ho] at hy
      | box cs => simp [ho] at hy
      | rows ks' xs =>
        simp [ho] at hy
        subst hy
        obtain ⟨ks2, n, h1, hle, a, cp, rfl, _, _, hlc, h2⟩ := hc
        rw [shp_of ho] at h1
        simp only [shpOb, Shp.rows.injEq] at h1
        obtain ⟨rfl, rfl⟩ := h1
        have hlen : ((xs.drop st).take len).length = len := by simp; omega
        refine ⟨a, cp, by rw [hlen], fun h => ?_⟩
        rw [hlen] at h
        rcases h2 with h2 | ⟨b, base, room, hι, rfl, _⟩
        · omega
        · refine ⟨_, rfl, ?_⟩
          have hks : obKs hp id = some ks := hk (by intro h'; rw [h'] at hlen; simp at hlen; omega) id (.inr ⟨_, _, _, rfl⟩)
          simp only [obKs, ho, Option.some.injEq] at hks
          subst hks
          have hob := hhr id _ ho (by rw [hι]; simp)
          rcases hob with ⟨h4, _⟩ | ⟨b', base', room', blk, t, fz, h4, h5, h6, _, h7⟩
          · rw [hι] at h4; cases h4
          · rw [hι] at h4; cases h4
            rw [hlen]
            exact key b base st len blk t fz xs h5 h7 hle hlen
  | undef => simp [slRows] at hy
  | void => simp [slRows] at hy
  | bool b => simp [slRows] at hy
  | int k n => simp [slRows] at hy
  | fl k x => simp [slRows] at hy
  | raw k x => simp [slRows] at hy
  | ptr i e o => simp [slRows] at hy
  | bs i n => simp [slRows] at hy
  | mp i => simp [slRows] at hy
  | fn f c => simp [slRows] at hy
end Go.Fx

/- Calm operations: append to nothing, addresses, parts, lengths. -/
namespace Go.Fx
variable {P : Program} {ty : Nat → Option TI} {sl : List V} {hp : List Ob}

theorem ksFit_ks {ks : List K} {y : A} (h : ksFit hp ks y = true) : ∀ id, (y = .sl id ∨ ∃ s n q, y = .sub id s n q) → obKs hp id = some ks := by
  intro id hy
  rcases hy with rfl | ⟨s, n, q, rfl⟩ <;>
  · simp only [ksFit] at h
    cases ho : obKs hp id with
    | none => simp [ho] at h
    | some k' => simp [ho] at h; rw [h]

theorem rows_news {ks : List K} {ys : List (List Int)} {news : List Value} {rest : Array Value}
    (h : ∀ e row, ys[e]? = some row → row.length = ks.length ∧ ∀ o kd, ks[o]? = some kd → ∃ c, news[e * ks.length + o]? = some c ∧ KR kd (row.getD o 0) c) : RowsR (news.toArray ++ rest) 0 ks ys := by
  intro e row he
  obtain ⟨h1, h2⟩ := h e row he
  refine ⟨h1, fun o kd ho => ?_⟩
  obtain ⟨c, h3, h4⟩ := h2 o kd ho
  refine ⟨c, ?_, h4⟩
  have hlt : e * ks.length + o < news.length := (List.getElem?_eq_some_iff.1 h3).1
  rw [Array.getElem?_append_left (by simp; omega)]
  simpa using h3

theorem calm_append {o : Oper} {t et : TypeId} {x y : Operand} {ya : A} {ys : List (List Int)} {ei : TI} {ks : List K} (hT : TyOK P ty) (ho : o.op = .call { callee := .builtin .append, args := #[x, y], argTypes := #[t, t] })
    (ht : tyOf ty t = some (.sl et)) (he : ty et = some ei) (hks : ei.ks = some ks) (hx : evA sl x = .at .nil) (hy : evA sl y = .at ya) (hys : slRows hp ya = some ys) (hfit : ksFit hp ks ya = true)
    (hn : ys.length ≤ 1073741824) (hb : ei.bytes ≤ 1024) :
    CalmOp P o sl hp (.at (.sl hp.length)) [⟨true, .rows ks ys⟩] := by
  have hd := tyOf_DR hT ht
  have hTe := hT et ei he
  obtain ⟨inf, zv, hinf, hsz, hby, hzv, hcells⟩ := hTe.info
  have hkl := hTe.ks ks hks
  have hzl : zv.cells.size = ei.size := by have h1 := hcells.length; have h2 := hTe.zl; simp at h1; omega
  refine calm_new fun ι a w hops hhr => ?_
  have hvx := hops x (by simp [ho, Op.operands, Call.operands])
  have hvy := hops y (by simp [ho, Op.operands, Call.operands])
  rw [hx] at hvx; rw [hy] at hvy
  obtain ⟨ba, ex⟩ := hvx
  obtain ⟨ad, m, ey, hcase⟩ := slRows_sound hhr hys hvy fun _ => ksFit_ks hfit
  have hex : ∀ r w', (Builtin.append_ #[t, t] o.type #[.slice ba 0 0, .slice ad ys.length m]).run P w = .ok r w' → (execOp a.eval o).run P w = .ok (.value r) w' := by
    intro r w' hr
    simp [execOp, ho, resolve, invoke, builtin, ex, ey, hr]
  rcases Nat.eq_zero_or_pos ys.length with h0 | h0
  · have hr := run_append_none (P := P) w t o.type et inf hd hinf ba ad m
    rw [← h0] at hr
    rw [h0] at hr
    refine ⟨.slice ba 0 0, w, .empty, hex _ _ (by rw [h0]; exact hr), WX.refl w, (fun _ _ _ h => by cases h), fun ι' hag hon => ⟨?_, ?_⟩⟩
    · exact ⟨ks, 0, by rw [shp_new]; simp [shpOb, h0], .inl ⟨hon, rfl, ba, rfl⟩⟩
    · exact .inl ⟨hon, List.eq_nil_of_length_eq_zero h0⟩
  · obtain ⟨a0, rfl, news, n1, n2, n3⟩ := hcase h0
    have hfits := growslice_fits (need := ys.length) (old := 0) (bytes := ei.bytes) h0 (by
      have : ys.length * ei.bytes ≤ 1073741824 * 1024 := Nat.mul_le_mul hn hb
      omega)
    have hr := run_append_empty (P := P) w t o.type et inf zv hd hinf hzv ba a0 ys.length m news (by rw [n1, hsz, hkl]) n2 h0 (by omega) (by rw [hby]; exact hfits)
    have hcap := grownCap_ge w ys.length 0 et
    have hcm := grownCap_le_maxLen w ys.length 0 et (by unfold maxLen; omega)
    have hbs : (news.toArray ++ Builtin.zeroCells zv.cells (grownCap w ys.length 0 et - ys.length)).size = grownCap w ys.length 0 et * ei.size := by
      simp only [Array.size_append, List.size_toArray, size_zeroCells, hzl, n1, hkl, ← Nat.add_mul]
      congr 1; omega
    refine ⟨_, _, .on w.heap.size 0 (grownCap w ys.length 0 et * ei.size), hex _ _ hr, (WX.drewN w 1).trans (WX.alloc _ _), ?_, fun ι' hag hon => ⟨?_, ?_⟩⟩
    · intro b base room h; cases h; exact Nat.le_refl _
    · exact ⟨ks, ys.length, by rw [shp_new]; simp [shpOb], .inr ⟨_, _, _, _, hon, rfl, hcap, by rw [hkl]; exact Nat.le_refl _, hcm⟩⟩
    · exact .inr ⟨_, _, _, _, et, (0, 0), hon, heap_alloc_at w.drew _, by omega, fun _ => ⟨rfl, rfl, hbs⟩, rows_news n3⟩

theorem run_append_zeros (w : World) (t tn ty e : TypeId) (i : TypeInfo) (z : Value) (k kn : IntKind) (ht : P.underlying t = some (.slice e)) (htn : P.underlying tn = some (.int kn)) (hi : P.info? e = some i) (hz : i.zero = some z)
    (base : Option Addr) (n : Nat) (h0 : 0 < n) (hs : 0 < i.size) (h63 : (n : Int) ≤ 9223372036854775807) (h48 : n * i.bytes ≤ 281474976710656) :
    (Builtin.append_ #[t, tn] ty #[.slice base 0 0, .int k n]).run P w =
      .ok (.slice (some ⟨w.heap.size, 0, none⟩) n (grownCap w n 0 e)) (w.drew.alloc (.cells (Builtin.zeroCells z.cells n ++ Builtin.zeroCells z.cells (grownCap w n 0 e - n)) e)) := by
  have hn : n ≠ 0 := by omega
  have hw : IntKind.i64.wrap (n : Int) = n := by rw [IntKind.wrap_i64]; omega
  have h63' : ¬ (9223372036854775807 < (n : Int)) := by omega
  have h48' : ¬ (281474976710656 < Builtin.nextslicecap n 0 * i.bytes) := by rw [nextslicecap_zero h0]; omega
  have h48i : ¬ (281474976710656 < (n : Int) * (i.bytes : Int)) := by
    rw [← Int.natCast_mul]
    omega
  have hneg : ¬ ((n : Int) < 0) := by omega
  have hns : ¬ (n * i.size = 0) := Nat.mul_ne_zero hn (by omega)
  have hf : (Builtin.firstCells i.size 0 (.slice base 0 0)).run P w.drew = .ok #[] w.drew := by
    cases base <;> simp [Builtin.firstCells, loadCells, loadCellsFrom]
  simp [Builtin.append_, run_underlying ht, run_underlying htn, sizeOf, typeInfo, zeroValue, hi, hz, asInt, asIntOf, hw, hn, hneg, hns, h63', h48', h48i, Question.forced, hf, newRow, grownCap]

theorem calm_appendMake {o : Oper} {t t' et : TypeId} {x y : Operand} {ei : TI} {ks : List K} {z : List Int} {kn : IntKind} {n : Int} (hT : TyOK P ty) (ho : o.op = .call { callee := .builtin .append, args := #[x, y], argTypes := #[t, t'] })
    (ht : tyOf ty t = some (.sl et)) (ht' : tyOf ty t' = some (.sc (.i kn))) (he : ty et = some ei) (hks : ei.ks = some ks) (hz : aInts ks ei.zero = some z) (hx : evA sl x = .at .nil) (hy : evA sl y = .at (.int kn n))
    (h0 : 0 < n) (hn : n ≤ 1073741824) (hb : ei.bytes ≤ 1024) (hs0 : 0 < ei.size) :
    CalmOp P o sl hp (.at (.sl hp.length)) [⟨true, .rows ks (List.replicate n.toNat z)⟩] := by
  have hd := tyOf_DR hT ht
  have hd' := tyOf_DR hT ht'
  have hTe := hT et ei he
  obtain ⟨inf, zv, hinf, hsz, hby, hzv, hcells⟩ := hTe.info
  have hkl := hTe.ks ks hks
  have hzl : zv.cells.size = ei.size := by have h1 := hcells.length; have h2 := hTe.zl; simp at h1; omega
  obtain ⟨m, rfl⟩ : ∃ m : Nat, n = m := ⟨n.toNat, by omega⟩
  rw [Int.toNat_natCast]
  refine calm_new fun ι a w hops hhr => ?_
  have hvx := hops x (by simp [ho, Op.operands, Call.operands])
  have hvy := hops y (by simp [ho, Op.operands, Call.operands])
  rw [hx] at hvx; rw [hy] at hvy
  obtain ⟨ba, ex⟩ := hvx
  have ey : a.eval y = .int kn m := hvy
  have hr := run_append_zeros (P := P) w t t' o.type et inf zv kn kn hd hd' hinf hzv ba m (by omega) (by omega) (by omega) (by
    rw [hby]
    have : m * ei.bytes ≤ 1073741824 * 1024 := Nat.mul_le_mul (by omega) hb
    omega)
  have hcap := grownCap_ge w m 0 et
  have hcm := grownCap_le_maxLen w m 0 et (by unfold maxLen; omega)
  have hbs : (Builtin.zeroCells zv.cells m ++ Builtin.zeroCells zv.cells (grownCap w m 0 et - m)).size = grownCap w m 0 et * ei.size := by
    simp only [Array.size_append, size_zeroCells, hzl, ← Nat.add_mul]
    congr 1; omega
  have hex : ∀ r w', (Builtin.append_ #[t, t'] o.type #[.slice ba 0 0, .int kn m]).run P w = .ok r w' → (execOp a.eval o).run P w = .ok (.value r) w' := by
    intro r w' hr
    simp [execOp, ho, resolve, invoke, builtin, ex, ey, hr]
  obtain ⟨l1, l2, l3⟩ := aInts_KR (ι := ι) (S := shp hp) hz hcells.AR0
  refine ⟨_, _, .on w.heap.size 0 (grownCap w m 0 et * ei.size), hex _ _ hr, (WX.drewN w 1).trans (WX.alloc _ _), ?_, fun ι' hag hon => ⟨?_, ?_⟩⟩
  · intro b base room h; cases h; exact Nat.le_refl _
  · exact ⟨ks, m, by rw [shp_new]; simp [shpOb], .inr ⟨_, _, _, _, hon, rfl, hcap, by rw [hkl]; exact Nat.le_refl _, hcm⟩⟩
  · refine .inr ⟨_, _, _, _, et, (0, 0), hon, heap_alloc_at w.drew _, by omega, fun _ => ⟨rfl, rfl, hbs⟩, ?_⟩
    intro e row hrow
    have hen : e < m := by have := (List.getElem?_eq_some_iff.1 hrow).1; simpa using this
    rw [getD_rep _ _ hen] at hrow
    cases hrow
    refine ⟨l1, fun o kd hok => ?_⟩
    have hos : o < ks.length := (List.getElem?_eq_some_iff.1 hok).1
    obtain ⟨c, h1, h2⟩ := l3 o kd hok
    refine ⟨c, ?_, h2⟩
    have hidx := idx_lt hen hos
    have hmod : (e * ks.length + o) % ei.size = o := by rw [← hkl, Nat.add_comm, Nat.add_mul_mod_self_right, Nat.mod_eq_of_lt hos]
    have hlt : 0 + e * ks.length + o < (Builtin.zeroCells zv.cells m).size := by rw [size_zeroCells, hzl, ← hkl]; omega
    rw [Array.getElem?_append_left hlt]
    have ho2 : o < zv.cells.size := by omega
    have hlt2 : e * ks.length + o < m * zv.cells.size := by rw [hzl, ← hkl]; omega
    unfold Builtin.zeroCells
    simp only [Array.getElem?_map, Nat.zero_add, hzl, Array.getElem?_range]
    rw [if_pos (by rw [← hzl]; exact hlt2)]
    simp only [Option.map_some, hmod]
    simp at h1
    rw [← h1]
    simp [ho2]

theorem calm_nilCheck {o : Oper} {x : Operand} {id e f : Nat} (ho : o.op = .nilCheck x) (hx : evA sl x = .at (.ptr id e f)) : CalmOp P o sl hp (.at (.ptr id e f)) [] := by
  refine calm_value fun ι a w hops hhr => ?_
  have hv := hops x (by simp [ho, Op.operands])
  rw [hx] at hv
  have hv' := hv
  obtain ⟨b, base, room, h1, h2, h3⟩ := hv
  exact ⟨a.eval x, 0, by simp [execOp, ho, h2, World.drewN_zero], hv'⟩

theorem calm_fieldAddr {o : Oper} {s : TypeId} {x : Operand} {f d ft id e off : Nat} {fs : List (Nat × Nat)} (hT : TyOK P ty) (ho : o.op = .fieldAddr s x f) (ht : tyOf ty s = some (.st fs)) (hx : evA sl x = .at (.ptr id e off)) (hf : fs[f]? = some (d, ft)) :
    CalmOp P o sl hp (.at (.ptr id e (off + d))) [] := by
  obtain ⟨fields, hu, hfs, hfi⟩ := tyOf_DR hT ht
  refine calm_value fun ι a w hops hhr => ?_
  have hv := hops x (by simp [ho, Op.operands])
  rw [hx] at hv
  obtain ⟨b, base, room, h1, h2, h3⟩ := hv
  have e1 := run_underlying hu w
  rw [← hfs, List.getElem?_map] at hf
  cases hff : fields.toList[f]? with
  | none => simp [hff] at hf
  | some fd =>
    simp [hff] at hf
    obtain ⟨rfl, rfl⟩ := hf
    have hff' : fields[f]? = some fd := by rw [← hff, Array.getElem?_toList]
    obtain ⟨i, hi, hne⟩ := hfi fd (List.mem_of_getElem? hff)
    have e2 := run_sizeOf hi w
    refine ⟨.pointer (some ⟨b, base + offs (shp hp id) e + (off + fd.offset), none⟩), 0, ?_, b, base, room, h1, rfl, h3⟩
    rw [World.drewN_zero]
    simp only [execOp, ho, h2, Instr.fieldAt, Sem.run_bind, e1, Result.andThen_ok, hff']
    simp [Instr.sureAddr, fieldPlace, e2, hne, Addr.add_at, Nat.add_assoc]

theorem calm_indexAddr {o : Oper} {t et : TypeId} {x ix : Operand} {id st n : Nat} {i : Int} {k : IntKind} {len : Nat} {ks : List K} {ei : TI} (hT : TyOK P ty) (ho : o.op = .indexAddr t x ix) (ht : tyOf ty t = some (.sl et)) (he : ty et = some ei)
    (hsz : ks.length = ei.size) (hS : shp hp id = .rows ks n) (hix : evA sl ix = .at (.int k i)) (h0 : 0 ≤ i) (hl : i < len)
    (hv : ∀ (ι : Nat → Pl) (c : Value) , VR ι (shp hp) (evA sl x) c → st + len ≤ n ∧ ∃ b base room cp, ι id = .on b base room ∧ c = .slice (some ⟨b, base + st * ks.length, none⟩) len cp) :
    CalmOp P o sl hp (.at (.ptr id (st + i.toNat) 0)) [] := by
  have hd := tyOf_DR hT ht
  obtain ⟨inf, zv, hinf, hsz', hby, hzv, hcells⟩ := (hT et ei he).info
  refine calm_value fun ι a w hops hhr => ?_
  have hvx := hops x (by simp [ho, Op.operands])
  have hvi := hops ix (by simp [ho, Op.operands])
  rw [hix] at hvi
  obtain ⟨hle, b, base, room, cp, hι, ex⟩ := hv ι _ hvx
  have ei' : a.eval ix = .int k i := hvi
  have e1 := run_underlying hd w
  have e2 := run_sizeOf hinf w
  refine ⟨.pointer (some ⟨b, base + (st + i.toNat) * ks.length + 0, none⟩), 0, ?_, b, base, room, hι, by rw [hS]; rfl, by rw [hS]; simp only [inB]; omega⟩
  rw [World.drewN_zero]
  have hc : (0 ≤ i ∧ i < (len : Int)) := ⟨h0, hl⟩
  simp only [execOp, ho, ex, ei', Instr.indexAt, asIntOf, Sem.run_bind, Sem.run_pure, Result.andThen_ok, e1, if_pos hc, e2]
  simp [Addr.add_at, hsz', ← hsz, Nat.add_mul, Nat.add_assoc]

theorem calm_indexAddrB {o : Oper} {t et : TypeId} {x ix : Operand} {id len : Nat} {i : Int} {k : IntKind} {ei : TI} (hT : TyOK P ty) (ho : o.op = .indexAddr t x ix) (ht : tyOf ty t = some (.sl et)) (he : ty et = some ei)
    (hsz : ei.size = 1) (hx : evA sl x = .at (.bs id len)) (hix : evA sl ix = .at (.int k i)) (h0 : 0 ≤ i) (hl : i < len) :
    CalmOp P o sl hp (.at (.ptr id 0 i.toNat)) [] := by
  have hd := tyOf_DR hT ht
  obtain ⟨inf, zv, hinf, hsz', hby, hzv, hcells⟩ := (hT et ei he).info
  refine calm_value fun ι a w hops hhr => ?_
  have hvx := hops x (by simp [ho, Op.operands])
  have hvi := hops ix (by simp [ho, Op.operands])
  rw [hix] at hvi
  rw [hx] at hvx
  obtain ⟨hS, b, base, room, hι, ex⟩ := hvx
  have ei' : a.eval ix = .int k i := hvi
  have e1 := run_underlying hd w
  have e2 := run_sizeOf hinf w
  refine ⟨.pointer (some ⟨b, base + offs (shp hp id) 0 + i.toNat, none⟩), 0, ?_, b, base, room, hι, rfl, by rw [hS]; rfl⟩
  rw [World.drewN_zero]
  have hc : (0 ≤ i ∧ i < (len : Int)) := ⟨h0, hl⟩
  simp only [execOp, ho, ex, ei', Instr.indexAt, asIntOf, Sem.run_bind, Sem.run_pure, Result.andThen_ok, e1, if_pos hc, e2]
  simp [Addr.add_at, hsz', hsz, hS, offs]
end Go.Fx

/- Calm operations: arrays, parts, slicing, lengths. -/
namespace Go.Fx
variable {P : Program} {ty : Nat → Option TI} {sl : List V} {hp : List Ob}

theorem calm_indexAddrArr {o : Oper} {t et : TypeId} {x ix : Operand} {id n len : Nat} {i : Int} {k : IntKind} {kd : K} {ei : TI} (hT : TyOK P ty) (ho : o.op = .indexAddr t x ix) (ht : tyOf ty t = some (.ar len et)) (he : ty et = some ei)
    (hsz : ei.size = 1) (hS : shp hp id = .rows [kd] n) (hix : evA sl ix = .at (.int k i)) (h0 : 0 ≤ i) (hl : i < n) (hle : n = len) (hx : evA sl x = .at (.ptr id 0 0)) :
    CalmOp P o sl hp (.at (.ptr id i.toNat 0)) [] := by
  have hd := tyOf_DR hT ht
  obtain ⟨inf, zv, hinf, hsz', hby, hzv, hcells⟩ := (hT et ei he).info
  refine calm_value fun ι a w hops hhr => ?_
  have hvx := hops x (by simp [ho, Op.operands])
  have hvi := hops ix (by simp [ho, Op.operands])
  rw [hix] at hvi
  rw [hx] at hvx
  obtain ⟨b, base, room, hι, ex, _⟩ := hvx
  have ei' : a.eval ix = .int k i := hvi
  have e1 := run_underlying hd w
  have e2 := run_sizeOf hinf w
  refine ⟨.pointer (some ⟨b, base + i.toNat, none⟩), 0, ?_, b, base, room, hι, by rw [hS]; simp [offs], by rw [hS]; simp only [inB]; omega⟩
  rw [World.drewN_zero]
  have hc : (0 ≤ i ∧ i < (len : Int)) := ⟨h0, by omega⟩
  rw [hS] at ex
  simp only [offs, Nat.zero_mul, Nat.add_zero] at ex
  simp only [execOp, ho, ex, ei', Instr.indexAt, asIntOf, Sem.run_bind, Sem.run_pure, Result.andThen_ok, e1, if_pos hc, e2, Instr.sureAddr]
  simp [Addr.add_at, hsz', hsz]

theorem calm_index {o : Oper} {t et : TypeId} {x ix : Operand} {i : Int} {k : IntKind} {len : Nat} {kd : K} {as : List A} {a0 : A} {ei : TI} (hT : TyOK P ty) (ho : o.op = .index t x ix) (ht : tyOf ty t = some (.ar len et)) (he : ty et = some ei) (hed : ei.d = .sc kd) (hsz : ei.size = 1)
    (hx : evA sl x = .agg as) (hix : evA sl ix = .at (.int k i)) (h0 : 0 ≤ i) (hl : i < len) (ha : as[i.toNat]? = some a0) :
    CalmOp P o sl hp (.at a0) [] := by
  have hd := tyOf_DR hT ht
  have hTe := hT et ei he
  obtain ⟨inf, zv, hinf, hsz', hby, hzv, hcells⟩ := hTe.info
  refine calm_value fun ι a w hops hhr => ?_
  have hvx := hops x (by simp [ho, Op.operands])
  have hvi := hops ix (by simp [ho, Op.operands])
  rw [hix] at hvi
  rw [hx] at hvx
  obtain ⟨cs, ex, hF⟩ := hvx
  have ei' : a.eval ix = .int k i := hvi
  have e1 := run_underlying hd w
  have e2 := run_sizeOf hinf w
  have e3 := run_isAgg hTe.d w
  rw [hed] at e3
  obtain ⟨c, hc, hr⟩ := hF.get _ _ ha
  refine ⟨c, 0, ?_, hr⟩
  rw [World.drewN_zero]
  have hcc : (0 ≤ i ∧ i < (len : Int)) := ⟨h0, hl⟩
  have hc' : cs[i.toNat]? = some c := by simpa using hc
  simp only [execOp, ho, ex, ei', Instr.index, asIntOf, Sem.run_bind, Sem.run_pure, Result.andThen_ok, e1, if_pos hcc, e2]
  simp [part, e3, aggD, hsz', hsz, hc']

theorem part_sound {t : TypeId} {i : TI} (hT : TIOK P t i) {ι : Nat → Pl} {S : Nat → Shp} {as : List A} {cs : Array Value} (hF : F2 (AR ι S) as cs.toList) (off : Nat) (w : World) :
    (aggD i.d = true → (part t cs off).run P w = .ok (.agg (cs.extract off (off + i.size))) w ∧ VR ι S (.agg ((as.drop off).take i.size)) (.agg (cs.extract off (off + i.size)))) ∧
    (aggD i.d = false → ∀ a, as[off]? = some a → ∃ c, (part t cs off).run P w = .ok c w ∧ AR ι S a c) := by
  obtain ⟨inf, zv, hinf, hsz', hby, hzv, hcells⟩ := hT.info
  have e1 := run_isAgg hT.d w
  have e2 := run_sizeOf hinf w
  refine ⟨fun h => ⟨?_, _, rfl, ?_⟩, fun h a ha => ?_⟩
  · rw [h] at e1
    simp [part, e1, e2, hsz']
  · have := (hF.drop off).take i.size
    simpa [List.extract_eq_take_drop] using this
  · rw [h] at e1
    obtain ⟨c, hc, hr⟩ := hF.get _ _ ha
    have hc' : cs[off]? = some c := by simpa using hc
    exact ⟨c, by simp [part, e1, hc'], hr⟩

theorem calm_field {o : Oper} {s : TypeId} {x : Operand} {f d ft : Nat} {fs : List (Nat × Nat)} {as : List A} {i : TI} {v : V} (hT : TyOK P ty) (ho : o.op = .field s x f) (ht : tyOf ty s = some (.st fs)) (hx : evA sl x = .agg as) (hf : fs[f]? = some (d, ft))
    (hi : ty ft = some i) (hv : (aggD i.d = true ∧ v = .agg ((as.drop d).take i.size)) ∨ (aggD i.d = false ∧ ∃ a, as[d]? = some a ∧ v = .at a)) : CalmOp P o sl hp v [] := by
  obtain ⟨fields, hu, hfs, hfi⟩ := tyOf_DR hT ht
  refine calm_value fun ι a w hops hhr => ?_
  have hvx := hops x (by simp [ho, Op.operands])
  rw [hx] at hvx
  obtain ⟨cs, ex, hF⟩ := hvx
  have e1 := run_underlying hu w
  rw [← hfs, List.getElem?_map] at hf
  cases hff : fields.toList[f]? with
  | none => simp [hff] at hf
  | some fd =>
    simp [hff] at hf
    obtain ⟨rfl, rfl⟩ := hf
    have hff' : fields[f]? = some fd := by rw [← hff, Array.getElem?_toList]
    obtain ⟨p1, p2⟩ := part_sound (hT fd.type i hi) hF fd.offset w
    rcases hv with ⟨hag, rfl⟩ | ⟨hag, a0, ha, rfl⟩
    · obtain ⟨q1, q2⟩ := p1 hag
      refine ⟨_, 0, ?_, q2⟩
      rw [World.drewN_zero]
      simp only [execOp, ho, ex, Instr.field, Sem.run_bind, e1, Result.andThen_ok, hff']
      simp [asAgg, q1]
    · obtain ⟨c, q1, q2⟩ := p2 hag a0 ha
      refine ⟨_, 0, ?_, q2⟩
      rw [World.drewN_zero]
      simp only [execOp, ho, ex, Instr.field, Sem.run_bind, e1, Result.andThen_ok, hff']
      simp [asAgg, q1]

theorem calm_extract {o : Oper} {t : Operand} {ix : Nat} {xs : List (Bool × List A)} {x : Bool × List A} (ho : o.op = .extract t ix) (ht : evA sl t = .tup xs) (hx : xs[ix]? = some x) : CalmOp P o sl hp (ofT x) [] := by
  refine calm_value fun ι a w hops hhr => ?_
  have hv := hops t (by simp [ho, Op.operands])
  rw [ht] at hv
  obtain ⟨cs, ex, hF⟩ := hv
  obtain ⟨c, hc, hr⟩ := hF.get _ _ hx
  have hc' : cs[ix]? = some c := by simpa using hc
  refine ⟨c, 0, by simp [execOp, ho, ex, Instr.extract, hc', World.drewN_zero], ?_⟩
  obtain ⟨f, as⟩ := x
  cases f with
  | true => exact hr
  | false =>
    match as, hr with
    | [a], hr => exact hr
    | [], hr => exact hr.elim
    | _ :: _ :: _, hr => exact hr.elim

theorem caps_F2 {ι : Nat → Pl} {S : Nat → Shp} {a : Act} : ∀ {xs : List Operand} {cs : List (Nat × Nat × Nat)}, capsOf sl xs = some cs → (∀ x ∈ xs, VR ι S (evA sl x) (a.eval x)) →
    F2 (fun p c => PR ι S p.1 p.2.1 p.2.2 c) cs (xs.map a.eval)
  | [], cs, h, _ => by simp [capsOf] at h; subst h; trivial
  | x :: t, cs, h, hv => by
    simp only [capsOf] at h
    split at h
    · rename_i i el off r h1 h2
      simp only [Option.some.injEq] at h
      subst h
      have hx := hv x (by simp)
      rw [h1] at hx
      exact ⟨hx, caps_F2 h2 fun y hy => hv y (by simp [hy])⟩
    · cases h

theorem calm_makeFunc {o : Oper} {f : FuncId} {first caps : Array Operand} {cs : List (Nat × Nat × Nat)} (ho : o.op = .makeFunc (.func f) first caps) (h0 : first.size = 0) (hc : capsOf sl caps.toList = some cs) : CalmOp P o sl hp (.at (.fn f cs)) [] := by
  have hf : first = #[] := Array.eq_empty_of_size_eq_zero h0
  subst hf
  refine calm_value fun ι a w hops hhr => ⟨.func (.func f) #[] (caps.map a.eval), 0, by simp [execOp, ho, Instr.makeFunc, World.drewN_zero], caps.map a.eval, rfl, ?_⟩
  have := caps_F2 (ι := ι) (S := shp hp) (a := a) hc (fun x hx => hops x (by simp [ho, Op.operands]; simpa using hx))
  simpa using this

theorem sl_parts {ι : Nat → Pl} {id : Nat} {c : Value} (h : AR ι (shp hp) (.sl id) c) : ∃ ks n, shp hp id = .rows ks n ∧ ∃ a cap, c = .slice a n cap ∧ n ≤ cap ∧ cap ≤ maxLen ∧
    (cap = 0 ∨ ∃ b base room, ι id = .on b base room ∧ a = some ⟨b, base, none⟩ ∧ cap * ks.length ≤ room) := by
  obtain ⟨ks, n, h1, ⟨_, h3, a, rfl⟩ | ⟨b, base, room, cap, hι, rfl, hle, hroom, hml⟩⟩ := h
  · exact ⟨ks, n, h1, a, 0, by rw [h3], by omega, by unfold maxLen; omega, .inl rfl⟩
  · exact ⟨ks, n, h1, _, cap, rfl, hle, hml, .inr ⟨b, base, room, hι, rfl, hroom⟩⟩

theorem run_bound (x : Int) (k : IntKind) (y : Nat) (code : BoundsCode) (w : World) (h0 : 0 ≤ x) (h1 : x ≤ y) : (Instr.sliceBound (.int k x) y code).run P w = .ok x.toNat w := by
  simp [Instr.sliceBound, asIntOf, h0, h1]

theorem calm_slice {o : Oper} {t et : TypeId} {x : Operand} {lo hi : Option Operand} {id l h : Nat} {ei : TI} (hT : TyOK P ty) (ho : o.op = .slice t x lo hi none) (ht : tyOf ty t = some (.sl et)) (he : ty et = some ei)
    (hks : ∀ ks n, shp hp id = .rows ks n → ks.length = ei.size ∧ h ≤ n ∧ (hi = none → h = n))
    (hx : evA sl x = .at (.sl id)) (hlh : l ≤ h) (hlo : (lo = none ∧ l = 0) ∨ ∃ y k, lo = some y ∧ evA sl y = .at (.int k l)) (hhi : hi = none ∨ ∃ y k, hi = some y ∧ evA sl y = .at (.int k h)) :
    CalmOp P o sl hp (.at (.sub id l (h - l) none)) [] := by
  have hd := tyOf_DR hT ht
  obtain ⟨inf, zv, hinf, hsz', hby, hzv, hcells⟩ := (hT et ei he).info
  refine calm_value fun ι a w hops hhr => ?_
  have hvx := hops x (by simp [ho, Op.operands])
  rw [hx] at hvx
  obtain ⟨ks, n, hS, ad, cap, ex, hle, hml, hadr⟩ := sl_parts hvx
  obtain ⟨hkl, hhn, hhn'⟩ := hks ks n hS
  have e1 := run_underlying hd w
  have e2 := run_sizeOf hinf w
  have hb : (Instr.sliceBounds true n cap (lo.map a.eval) (hi.map a.eval) none).run P w = .ok (l, h, cap) w := by
    have hh : ∀ y k, hi = some y → evA sl y = .at (.int k h) → (Instr.sliceBound (a.eval y) cap .sliceAcap).run P w = .ok h w := by
      intro y k hy hv
      have := hops y (by simp [ho, Op.operands, hy])
      rw [hv] at this
      have e : a.eval y = .int k h := this
      rw [e, run_bound _ _ _ _ _ (by omega) (by omega)]
      simp
    have hl : ∀ y k, lo = some y → evA sl y = .at (.int k l) → (Instr.sliceBound (a.eval y) h .sliceB).run P w = .ok l w := by
      intro y k hy hv
      have := hops y (by simp [ho, Op.operands, hy])
      rw [hv] at this
      have e : a.eval y = .int k l := this
      rw [e, run_bound _ _ _ _ _ (by omega) (by omega)]
      simp
    rcases hhi with hhi | ⟨y, k, hhi, hyv⟩
    · have hn := hhn' hhi
      rcases hlo with ⟨hlo, rfl⟩ | ⟨z, k', hlo, hzv⟩
      · simp [Instr.sliceBounds, hhi, hlo, hn]
      · have := hl z k' hlo hzv
        rw [hn] at this
        simp [Instr.sliceBounds, hhi, hlo, hn, this]
    · have h1 := hh y k hhi hyv
      rcases hlo with ⟨hlo, rfl⟩ | ⟨z, k', hlo, hzv⟩
      · simp [Instr.sliceBounds, hhi, hlo, h1]
      · have h2 := hl z k' hlo hzv
        simp [Instr.sliceBounds, hhi, hlo, h1, h2]
  refine ⟨.slice (if cap = l then ad else ad.map (·.add (l * ei.size))) (h - l) (cap - l), 0, ?_, ks, n, hS, by omega, _, _, rfl, (fun m hm => by simp at hm), by omega, by omega, ?_⟩
  · rw [World.drewN_zero]
    simp only [execOp, ho, Instr.sliceAt, Sem.run_bind, e1, Result.andThen_ok, ex, Instr.slice, Option.map_none, hb, e2, hsz']
    rfl
  · rcases hadr with h0 | ⟨b, base, room, hι, rfl, hroom⟩
    · left; omega
    · by_cases hcl : cap = l
      · left; omega
      · right
        refine ⟨b, base, room, hι, ?_, ?_⟩
        · rw [if_neg hcl]
          simp [Addr.add_at, hkl]
        · rw [show l + (cap - l) = cap by omega]; exact hroom

theorem chk_some0 {α : Type} {b : Bool} {x : Option α} {r : α} : chk b x = some r ↔ b = true ∧ x = some r := by cases b <;> simp [chk]

theorem eqK_sound {d : Nat} {t : TypeId} {kd : K} {a b : A} {x : Bool} {c c' : Value} {ι : Nat → Pl} {S : Nat → Shp} (hd : DR P t (.sc kd)) (h : eqK real kd a b = some x) (ha : AR ι S a c) (hb : AR ι S b c') (w : World) :
    (Op.equalIn (d + 1) t c c').run P w = .ok x w := by
  unfold eqK at h
  split at h
  · rename_i k k1 p k2 q
    simp only [chk_some0, decide_eq_true_eq, Option.some.injEq] at h
    obtain ⟨rfl, rfl, rfl⟩ := h
    obtain ⟨u, rfl, rfl⟩ := ha
    obtain ⟨v, rfl, rfl⟩ := hb
    have hu : P.underlying t = some (.float k2) := hd
    have e : real.cmp .eql k2 (cf k2 u : Nat) (cf k2 v : Nat) = Op.floatEq k2 u v := by
      show cmpOf .eql (k2.format.order (cf k2 u) (cf k2 v)) = _
      rw [order_cf]; rfl
    rw [e]
    simp [Op.equalIn, run_underlying hu]
  · rename_i k k1 p k2 q
    simp only [chk_some0, decide_eq_true_eq, Option.some.injEq] at h
    obtain ⟨rfl, rfl, rfl⟩ := h
    obtain rfl := ha
    obtain rfl := hb
    have hu : P.underlying t = some (.int k2) := hd
    exact run_equalIn_int w d t k2 k2 _ _ hu
  · rename_i p q
    obtain rfl := Option.some.inj h
    obtain rfl := ha
    obtain rfl := hb
    have hu : P.underlying t = some .bool := hd
    exact run_equalIn_bool' w d t _ _ hu
  · cases h

theorem run_part_sc {t : TypeId} {kd : K} (hd : DR P t (.sc kd)) {xs : Array Value} {j : Nat} {c : Value} (hx : xs[j]? = some c) (w : World) : (part t xs j).run P w = .ok c w := by
  have h1 := run_isAgg hd w
  have h2 : aggD (.sc kd) = false := rfl
  rw [h2] at h1
  simp [part, h1, hx]

theorem eqFields_sound (hT : TyOK P ty) {ι : Nat → Pl} {S : Nat → Shp} {xs ys : Array Value} (d : Nat) (w : World) : ∀ (fl : List Field) (fs : List (Nat × Nat)) (ks : List K) (j : Nat) (as bs : List A) (e : Bool),
    fl.map (fun f => (f.offset, f.type)) = fs → flatSt ty j fs ks = true → (∀ f ∈ fl, f.name ≠ "_") → eqAs real ks as bs = some e →
    (∀ i a, as[i]? = some a → ∃ c, xs[j + i]? = some c ∧ AR ι S a c) → (∀ i a, bs[i]? = some a → ∃ c, ys[j + i]? = some c ∧ AR ι S a c) →
    (Op.eqFields (d + 1) xs ys fl).run P w = .ok e w := by
  intro fl
  induction fl with
  | nil =>
    intro fs ks j as bs e hfs hflat _ he hx hy
    subst hfs
    cases ks with
    | cons k ks => simp [flatSt] at hflat
    | nil =>
      cases as with
      | cons a as => simp [eqAs] at he
      | nil =>
        cases bs with
        | cons b bs => simp [eqAs] at he
        | nil => simp [eqAs] at he; subst he; simp [Op.eqFields]
  | cons f fl ih =>
    intro fs ks j as bs e hfs hflat hn he hx hy
    simp only [List.map_cons] at hfs
    subst hfs
    cases ks with
    | nil => simp [flatSt] at hflat
    | cons k ks =>
      simp only [flatSt, Bool.and_eq_true] at hflat
      obtain ⟨⟨h1, h2⟩, h3⟩ := hflat
      have hoff : f.offset = j := Nat.eq_of_beq_eq_true h1
      have hdf : DR P f.type (.sc k) := by
        split at h2
        · rename_i fi hfi
          split at h2
          · rename_i k' hk'
            rw [decide_eq_true_eq] at h2
            subst h2
            have := (hT _ fi hfi).d
            rw [hk'] at this
            exact this
          · cases h2
        · cases h2
      cases as with
      | nil => simp [eqAs] at he
      | cons a as =>
        cases bs with
        | nil => simp [eqAs] at he
        | cons b bs =>
          simp only [eqAs] at he
          split at he
          · rename_i x y hx1 hy1
            obtain rfl := Option.some.inj he
            obtain ⟨c, c1, c2⟩ := hx 0 a rfl
            obtain ⟨c', c3, c4⟩ := hy 0 b rfl
            rw [Nat.add_zero] at c1 c3
            have p1 := run_part_sc (P := P) hdf c1 w
            have p2 := run_part_sc (P := P) hdf c3 w
            have e1 := eqK_sound (P := P) (d := d) hdf hx1 c2 c4 w
            have hrec := ih _ ks (j + 1) as bs y rfl h3 (fun f hf => hn f (by simp [hf])) hy1
              (fun i a ha => by have := hx (i + 1) a (by simpa using ha); rwa [show j + 1 + i = j + (i + 1) by omega])
              (fun i a ha => by have := hy (i + 1) a (by simpa using ha); rwa [show j + 1 + i = j + (i + 1) by omega])
            have hne : f.name ≠ "_" := hn f (by simp)
            simp only [Op.eqFields, if_pos hne, hoff, Sem.run_bind, p1, p2, e1, Result.andThen_ok]
            cases x with
            | true => simpa using hrec
            | false => simp
          · cases he

theorem calm_binAgg {o : Oper} {op : BinOp} {t q : TypeId} {x y : Operand} {as bs : List A} {i : TI} {fs : List (Nat × Nat)} {ks : List K} {e : Bool} (hT : TyOK P ty) (ho : o.op = .binOp op t x y q) (hi : ty t = some i) (hd : i.d = .st fs) (hks : i.ks = some ks)
    (hx : evA sl x = .agg as) (hy : evA sl y = .agg bs) (hf : flatSt ty 0 fs ks = true) (he : eqAs real ks as bs = some e) (hop : op = .eql ∨ op = .neq) :
    CalmOp P o sl hp (.at (.bool (match op with | .neq => !e | _ => e))) [] := by
  obtain ⟨g1, g2, g3⟩ := (hT t i hi).eq fs ks hd hks
  have hdr := (hT t i hi).d
  rw [hd] at hdr
  obtain ⟨fields, hu, hfs, _⟩ := hdr
  have hfo : P.fieldsOf t = fields := by unfold Program.fieldsOf; rw [hu]
  refine calm_value fun ι a w hops hhr => ?_
  have hvx := hops x (by simp [ho, Op.operands])
  have hvy := hops y (by simp [ho, Op.operands])
  rw [hx] at hvx; rw [hy] at hvy
  obtain ⟨xs, ex, hxs⟩ := hvx
  obtain ⟨ys, ey, hys⟩ := hvy
  have hfl := eqFields_sound (P := P) hT (ι := ι) (S := shp hp) (xs := xs) (ys := ys) 9998 w fields.toList fs ks 0 as bs e hfs hf (g3 fields hu) he
    (fun i a ha => by obtain ⟨c, c1, c2⟩ := hxs.get i a ha; exact ⟨c, by rw [Nat.zero_add]; simpa using c1, c2⟩)
    (fun i a ha => by obtain ⟨c, c1, c2⟩ := hys.get i a ha; exact ⟨c, by rw [Nat.zero_add]; simpa using c1, c2⟩)
  have heq : (Op.equalIn 10000 t (.agg xs) (.agg ys)).run P w = .ok e w := by
    have := run_equalIn_struct (P := P) w 9999 t xs ys (by rw [hfo]; exact hu) g1
    rw [hfo] at this
    rw [this]; exact hfl
  refine ⟨_, 0, ?_, rfl⟩
  rw [World.drewN_zero]
  have hg := run_eqGuard_agg (P := P) w op t x y xs ys g2
  rcases hop with rfl | rfl
  · have h1 := run_eql_struct (P := P) w t xs ys
    rw [heq] at h1
    simp [execOp, ho, ex, ey, hg, h1]
  · have h1 := run_neq_struct (P := P) w t xs ys
    rw [heq] at h1
    simp [execOp, ho, ex, ey, hg, h1]
end Go.Fx

/- Calm operations: slices without room, arrays as slices, builtins. -/
namespace Go.Fx
variable {P : Program} {ty : Nat → Option TI} {sl : List V} {hp : List Ob}

theorem run_bound0 (k : IntKind) (y : Nat) (code : BoundsCode) (w : World) : (Instr.sliceBound (.int k 0) y code).run P w = .ok 0 w := run_bound 0 k y code w (by omega) (by omega)

theorem calm_slice00 {o : Oper} {t et : TypeId} {x hi mx : Operand} {ya : A} {kh km : IntKind} {ei : TI} (hT : TyOK P ty) (ho : o.op = .slice t x none (some hi) (some mx)) (ht : tyOf ty t = some (.sl et)) (he : ty et = some ei)
    (hx : evA sl x = .at ya) (hya : ya = .nil ∨ ∃ id, ya = .sl id) (hhi : evA sl hi = .at (.int kh 0)) (hmx : evA sl mx = .at (.int km 0)) : CalmOp P o sl hp (.at .nil) [] := by
  have hd := tyOf_DR hT ht
  obtain ⟨inf, zv, hinf, hsz', hby, hzv, hcells⟩ := (hT et ei he).info
  refine calm_value fun ι a w hops hhr => ?_
  have hvx := hops x (by simp [ho, Op.operands])
  have hvh := hops hi (by simp [ho, Op.operands])
  have hvm := hops mx (by simp [ho, Op.operands])
  rw [hx] at hvx; rw [hhi] at hvh; rw [hmx] at hvm
  have eh : a.eval hi = .int kh 0 := hvh
  have em : a.eval mx = .int km 0 := hvm
  obtain ⟨ad, n, cap, ex⟩ : ∃ ad n cap, a.eval x = .slice ad n cap := by
    rcases hya with rfl | ⟨id, rfl⟩
    · obtain ⟨ad, ex⟩ := hvx; exact ⟨ad, 0, 0, ex⟩
    · obtain ⟨_, n, _, ad, cap, ex, _⟩ := sl_parts hvx; exact ⟨ad, n, cap, ex⟩
  have e1 := run_underlying hd w
  have e2 := run_sizeOf hinf w
  refine ⟨.slice ad 0 0, 0, ?_, ad, rfl⟩
  rw [World.drewN_zero]
  simp [execOp, ho, Instr.sliceAt, e1, ex, Instr.slice, Instr.sliceBounds, eh, em, run_bound0, e2]

theorem calm_slice0 {o : Oper} {t et : TypeId} {x hi : Operand} {kh : IntKind} {ei : TI} (hT : TyOK P ty) (ho : o.op = .slice t x none (some hi) none) (ht : tyOf ty t = some (.sl et)) (he : ty et = some ei)
    (hx : evA sl x = .at .nil) (hhi : evA sl hi = .at (.int kh 0)) : CalmOp P o sl hp (.at .nil) [] := by
  have hd := tyOf_DR hT ht
  obtain ⟨inf, zv, hinf, hsz', hby, hzv, hcells⟩ := (hT et ei he).info
  refine calm_value fun ι a w hops hhr => ?_
  have hvx := hops x (by simp [ho, Op.operands])
  have hvh := hops hi (by simp [ho, Op.operands])
  rw [hx] at hvx; rw [hhi] at hvh
  have eh : a.eval hi = .int kh 0 := hvh
  obtain ⟨ad, ex⟩ := hvx
  have e1 := run_underlying hd w
  have e2 := run_sizeOf hinf w
  refine ⟨.slice ad 0 0, 0, ?_, ad, rfl⟩
  rw [World.drewN_zero]
  simp [execOp, ho, Instr.sliceAt, e1, ex, Instr.slice, Instr.sliceBounds, eh, run_bound0, e2]

theorem calm_cap {o : Oper} {x : Operand} {t : TypeId} {d : TypeId} (hT : TyOK P ty) (ho : o.op = .call { callee := .builtin .cap, args := #[x], argTypes := #[t] }) (ht : tyOf ty t = some (.sl d)) (hx : evA sl x = .at .nil) :
    CalmOp P o sl hp (.at (.int .i64 (0 : Nat))) [] := by
  have hd := tyOf_DR hT ht
  refine calm_value fun ι a w hops hhr => ?_
  have hvx := hops x (by simp [ho, Op.operands, Call.operands])
  rw [hx] at hvx
  obtain ⟨ad, ex⟩ := hvx
  have e1 := run_underlying hd w
  refine ⟨.int .i64 (0 : Nat), 0, ?_, rfl⟩
  rw [World.drewN_zero]
  simp [execOp, ho, resolve, invoke, builtin, Builtin.cap_, e1, ex, goInt]

theorem calm_sliceArr {o : Oper} {t et : TypeId} {x : Operand} {id len : Nat} {kd : K} {xs : List (List Int)} {ei : TI} (hT : TyOK P ty) (ho : o.op = .slice t x none none none) (ht : tyOf ty t = some (.ar len et)) (he : ty et = some ei)
    (hx : evA sl x = .at (.ptr id 0 0)) (hob : hp[id]? = some ⟨true, .rows [kd] xs⟩) (hl : xs.length = len) (hlen : len ≤ 1073741824) : CalmOp P o sl hp (.at (.sl id)) [] := by
  have hd := tyOf_DR hT ht
  obtain ⟨inf, zv, hinf, hsz', hby, hzv, hcells⟩ := (hT et ei he).info
  have hS : shp hp id = .rows [kd] xs.length := by rw [shp_of hob]; rfl
  refine calm_value fun ι a w hops hhr => ?_
  have hvx := hops x (by simp [ho, Op.operands])
  rw [hx] at hvx
  obtain ⟨b, base, room, hι, ex, hin⟩ := hvx
  rw [hS] at ex
  simp only [offs, Nat.zero_mul, Nat.add_zero] at ex
  have e1 := run_underlying hd w
  have e2 := run_sizeOf hinf w
  -- room: the object's rows lie there
  have hroom : len ≤ room := by
    rcases hhr id _ hob (by rw [hι]; simp) with ⟨h1, _⟩ | ⟨b', base', room', blk, tt, fz, h1, h2, h3, h4, h5⟩
    · rw [hι] at h1; cases h1
    · rw [hι] at h1; cases h1
      obtain ⟨_, rfl, h6⟩ := h4 rfl
      rcases Nat.eq_zero_or_pos len with h0 | h0
      · omega
      · have hlt : len - 1 < xs.length := by omega
        obtain ⟨_, h7⟩ := h5 (len - 1) xs[len - 1] (List.getElem?_eq_getElem hlt)
        obtain ⟨c, h8, _⟩ := h7 0 kd rfl
        have := (Array.getElem?_eq_some_iff.1 h8).1
        simp at this
        omega
  refine ⟨.slice (some ⟨b, base, none⟩) len len, 0, ?_, [kd], xs.length, hS, .inr ⟨b, base, room, len, hι, by rw [hl], by omega, by simpa using hroom, by unfold maxLen; omega⟩⟩
  rw [World.drewN_zero]
  simp only [execOp, ho, Instr.sliceAt, Sem.run_bind, e1, Result.andThen_ok, ex, Option.map_none, Instr.sliceBounds, Sem.run_pure, e2, Instr.sureAddr]
  simp [Addr.add_at]

theorem calm_len {o : Oper} {x : Operand} {ya : A} {n : Nat} {t : TypeId} {d : TypeId} (hT : TyOK P ty) (ho : o.op = .call { callee := .builtin .len, args := #[x], argTypes := #[t] }) (ht : tyOf ty t = some (.sl d)) (hx : evA sl x = .at ya)
    (hn : (ya = .nil ∧ n = 0) ∨ (∃ id own ks xs, ya = .sl id ∧ hp[id]? = some ⟨own, .rows ks xs⟩ ∧ xs.length = n) ∨ (∃ id st cap, ya = .sub id st n cap) ∨ ∃ id, ya = .bs id n) : CalmOp P o sl hp (.at (.int .i64 n)) [] := by
  have hd := tyOf_DR hT ht
  refine calm_value fun ι a w hops hhr => ?_
  have hvx := hops x (by simp [ho, Op.operands, Call.operands])
  rw [hx] at hvx
  obtain ⟨ad, cap, ex⟩ : ∃ ad cap, a.eval x = .slice ad n cap := by
    rcases hn with ⟨rfl, rfl⟩ | ⟨id, own, ks, xs, rfl, hob, rfl⟩ | ⟨id, st, cap, rfl⟩ | ⟨id, rfl⟩
    · obtain ⟨ad, ex⟩ := hvx; exact ⟨ad, 0, ex⟩
    · obtain ⟨ks', n', hS, ad, cap, ex, _⟩ := sl_parts hvx
      rw [shp_of hob] at hS
      simp only [shpOb, Shp.rows.injEq] at hS
      exact ⟨ad, cap, by rw [ex, hS.2]⟩
    · obtain ⟨_, _, _, _, ad, cp, ex, _⟩ := hvx; exact ⟨ad, cp, ex⟩
    · obtain ⟨_, b, base, room, _, ex⟩ := hvx; exact ⟨_, _, ex⟩
  have e1 := run_underlying hd w
  refine ⟨.int .i64 n, 0, ?_, rfl⟩
  rw [World.drewN_zero]
  simp [execOp, ho, resolve, invoke, builtin, Builtin.len_, e1, ex, goInt]

theorem calm_min {o : Oper} {x y : Operand} {j : IntKind} {m n : Int} {tys : Array TypeId} (ho : o.op = .call { callee := .builtin .min, args := #[x, y], argTypes := tys }) (hx : evA sl x = .at (.int j m)) (hy : evA sl y = .at (.int j n)) :
    CalmOp P o sl hp (.at (.int j (match decide (n < m) with | true => n | false => m))) [] := by
  refine calm_value fun ι a w hops hhr => ?_
  have hvx := hops x (by simp [ho, Op.operands, Call.operands])
  have hvy := hops y (by simp [ho, Op.operands, Call.operands])
  rw [hx] at hvx; rw [hy] at hvy
  have ex : a.eval x = .int j m := hvx
  have ey : a.eval y = .int j n := hvy
  refine ⟨_, 0, ?_, rfl⟩
  rw [World.drewN_zero]
  by_cases h : n < m <;> simp [execOp, ho, resolve, invoke, builtin, Builtin.min_, Builtin.min2, ex, ey, h]

theorem isNaN_mn {k : FloatKind} {x y : Nat} {c : Ordering} (h : k.format.order x y = some c) : isNaNb k x = false ∧ isNaNb k y = false := by
  constructor
  · cases hx : isNaNb k x with
    | false => rfl
    | true => rw [order_nan_left hx] at h; cases h
  · cases hy : isNaNb k y with
    | false => rfl
    | true => rw [order_nan_right hy] at h; cases h

theorem calm_max {o : Oper} {x y : Operand} {j : FloatKind} {m n : Int} {tys : Array TypeId} (ho : o.op = .call { callee := .builtin .max, args := #[x, y], argTypes := tys }) (hx : evA sl x = .at (.fl j m)) (hy : evA sl y = .at (.fl j n)) :
    CalmOp P o sl hp (.at (.fl j (real.mx j m n))) [] := by
  refine calm_value fun ι a w hops hhr => ?_
  have hvx := hops x (by simp [ho, Op.operands, Call.operands])
  have hvy := hops y (by simp [ho, Op.operands, Call.operands])
  rw [hx] at hvx; rw [hy] at hvy
  obtain ⟨p, ex, rfl⟩ := hvx
  obtain ⟨q, ey, rfl⟩ := hvy
  have e0 : ∀ (r : Value) (w' : World), (Builtin.max2 (.float j p) (.float j q)).run P w = .ok r w' → (execOp a.eval o).run P w = .ok (.value r) w' := by
    intro r w' hr
    simp [execOp, ho, resolve, invoke, builtin, Builtin.max_, ex, ey, hr]
  cases hc : j.format.order p q with
  | none =>
    have hch := run_choose (P := P) (.nanMinMax j true p q) w rfl
    refine ⟨.float j ((Question.nanMinMax j true p q).cut (w.tape w.drawn (.nanMinMax j true p q))), 1, e0 _ _ (by simp [Builtin.max2, hc, hch, World.drew_is_drewN]), _, rfl, ?_⟩
    rw [cf_of_nan (cut_nanMinMax ..)]
    simp [real, rMx, order_cf, hc]
  | some c =>
    obtain ⟨h1, h2⟩ := isNaN_mn hc
    simp only [cf_of_num h1, cf_of_num h2]
    cases c with
    | lt => exact ⟨.float j q, 0, e0 _ _ (by simp [Builtin.max2, hc, World.drewN_zero]), _, rfl, by simp [real, rMx, hc, cf_of_num h2]⟩
    | gt => exact ⟨.float j p, 0, e0 _ _ (by simp [Builtin.max2, hc, World.drewN_zero]), _, rfl, by simp [real, rMx, hc, cf_of_num h1]⟩
    | eq =>
      refine ⟨.float j (if (j.decode p).neg then q else p), 0, e0 _ _ (by simp [Builtin.max2, hc, World.drewN_zero]), _, rfl, ?_⟩
      simp only [real, rMx, Int.toNat_natCast, hc]
      by_cases hn : (j.decode p).neg = true
      · simp [hn, cf_of_num h2]
      · simp [hn, cf_of_num h1]
end Go.Fx

