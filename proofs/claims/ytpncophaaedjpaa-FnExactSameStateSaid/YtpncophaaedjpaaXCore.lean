/- The abstract interpreter: values with canonical floats, objects in place of blocks, one order for every region. -/
import Derived.Test.YtpncophaaedjpaaXFloat
import GoSem.Core.Machine
namespace Go.Fx

/-- The kind of one cell. -/
inductive K where
  | f (k : FloatKind)
  | i (k : IntKind)
  | b
  deriving DecidableEq

/-- The value of one cell. -/
inductive A where
  | undef
  | void
  | bool (b : Bool)
  | int (k : IntKind) (n : Int)
  | fl (k : FloatKind) (x : Int)
  | raw (k : FloatKind) (x : Int)
  | ptr (id e o : Nat)
  | sl (id : Nat)
  | sub (id st len : Nat) (cap : Option Nat)
  | nil
  | fn (f : FuncId) (caps : List (Nat × Nat × Nat))

inductive V where
  | at (a : A)
  | agg (as : List A)
  | tup (xs : List (Bool × List A))

/-- What an object holds: one variable, or a row of elements of plain cells. -/
inductive OC where
  | dead
  | box (cs : List A)
  | rows (ks : List K) (xs : List (List Int))

structure Ob where
  own : Bool
  c : OC

inductive D where
  | sc (k : K)
  | st (fs : List (Nat × Nat))
  | ar (n e : Nat)
  | sl (e : Nat)
  | oth

structure TI where
  size : Nat
  bytes : Nat
  d : D
  ks : Option (List K)
  lks : List (Option (List K))
  zero : List A

structure Ret where
  r : V
  upd : Option (List Ob)
  news : List Ob

inductive Ex where
  | normal
  | exit (id : Nat)
  | ret

structure St where
  sl : List V
  hp : List Ob

structure Sm where
  live : List Nat
  fn : List V → List Ob → Option (Ex × List V × List Ob)

structure Cx where
  F : FOps
  ty : Nat → Option TI
  call : FuncId → List V → List Ob → Option Ret
  eff : FuncId → Bool
  sm : Nat → Option Sm
  un : Nat

/-! ### small words -/
def chk {α : Type} (b : Bool) (x : Option α) : Option α :=
  match b with
  | true => x
  | false => none

def conA : Value → A
  | .bool b => .bool b
  | .int k n => .int k n
  | .float k b => match isNaNb k b with | true => .undef | false => .fl k b
  | .slice none 0 0 => .nil
  | _ => .undef

def conV : Value → V
  | .agg cs => .agg (cs.toList.map conA)
  | v => .at (conA v)

def evA (sl : List V) : Operand → V
  | .tmp t => sl.getD t (.at .void)
  | .const v => conV v
  | .func f => .at (.fn f [])
  | .global _ => .at .undef

def A.known : A → Bool
  | .undef => false
  | .void => false
  | _ => true

def allKnown : List A → Bool
  | [] => true
  | a :: t => match a.known with
    | true => allKnown t
    | false => false

def V.cells : V → Option (List A)
  | .at a => match a.known with
    | true => some [a]
    | false => none
  | .agg as => match allKnown as with
    | true => some as
    | false => none
  | .tup _ => none

def ofT : Bool × List A → V
  | (true, as) => .agg as
  | (false, [a]) => .at a
  | _ => .at .undef

def ofK : K → Int → A
  | .f k, n => .fl k n
  | .i k, n => .int k n
  | .b, n => .bool (n != 0)

def rowA : List K → Nat → List Int → List A
  | [], _, _ => []
  | k :: t, j, r => ofK k (r.getD j 0) :: rowA t (j + 1) r

def aInt : A → Option (K × Int)
  | .fl k x => some (.f k, x)
  | .int k n => some (.i k, n)
  | .bool b => some (.b, match b with | true => 1 | false => 0)
  | _ => none

/-- The kinds fit, and these are the numbers. -/
def aInts : List K → List A → Option (List Int)
  | [], [] => some []
  | k :: ks, a :: as =>
    match aInt a with
    | some (k', n) =>
      match decide (k = k'), aInts ks as with
      | true, some t => some (n :: t)
      | _, _ => none
    | none => none
  | _, _ => none

def setFrom : List Int → Nat → List Int → List Int
  | r, _, [] => r
  | r, o, n :: t => setFrom (r.set o n) (o + 1) t

def setFromA : List A → Nat → List A → List A
  | r, _, [] => r
  | r, o, n :: t => setFromA (r.set o n) (o + 1) t

/-- 'n' cells of an object, from cell 'o' of its element 'e' on. -/
def loadOb (ob : Ob) (e o n : Nat) (agg : Bool) : Option V :=
  match ob.c with
  | .box cs =>
    match agg with
    | true => match Nat.beq ((cs.drop o).take n).length n with
      | true => some (.agg ((cs.drop o).take n))
      | false => none
    | false => match cs[o]? with
      | some a => some (.at a)
      | none => none
  | .rows ks xs =>
    match agg with
    | true => match Nat.beq (((rowA ks 0 (xs.getD e [])).drop o).take n).length n with
      | true => some (.agg (((rowA ks 0 (xs.getD e [])).drop o).take n))
      | false => none
    | false => match (rowA ks 0 (xs.getD e []))[o]? with
      | some a => some (.at a)
      | none => none
  | .dead => none

def storeOb (ob : Ob) (e o : Nat) (cells : List A) : Option Ob :=
  match ob.own, Nat.blt 0 cells.length with
  | true, true =>
    match ob.c with
    | .box cs =>
      match Nat.ble (o + cells.length) cs.length with
      | true => some ⟨true, .box (setFromA cs o cells)⟩
      | false => none
    | .rows ks xs =>
      match aInts ((ks.drop o).take cells.length) cells with
      | some ns =>
        match Nat.beq ns.length ks.length with
        | true => some ⟨true, .rows ks (xs.set e ns)⟩
        | false => some ⟨true, .rows ks (xs.set e (setFrom (xs.getD e []) o ns))⟩
      | none => none
    | .dead => none
  | _, _ => none

/-! ### references and renaming -/
def A.ids : A → List Nat
  | .ptr id _ _ => [id]
  | .sl id => [id]
  | .sub id _ _ _ => [id]
  | .fn _ caps => caps.map (·.1)
  | _ => []

def V.ids : V → List Nat
  | .at a => a.ids
  | .agg as => as.flatMap A.ids
  | .tup xs => xs.flatMap fun x => x.2.flatMap A.ids

def hasId (i : Nat) : List Nat → Bool
  | [] => false
  | j :: t => match Nat.beq i j with
    | true => true
    | false => hasId i t

def addIds : List Nat → List Nat → List Nat
  | acc, [] => acc
  | acc, i :: t => match hasId i acc with
    | true => addIds acc t
    | false => addIds (acc ++ [i]) t

def obIds (hp : List Ob) (i : Nat) : List Nat :=
  match hp[i]? with
  | some ⟨_, .box cs⟩ => cs.flatMap A.ids
  | _ => []

def reach : Nat → List Nat → List Ob → List Nat
  | 0, acc, _ => acc
  | n + 1, acc, hp => reach n (addIds acc (acc.flatMap (obIds hp))) hp

def idx (i : Nat) : List Nat → Option Nat
  | [] => none
  | j :: t => match Nat.beq i j with
    | true => some 0
    | false => match idx i t with
      | some n => some (n + 1)
      | none => none

def renCaps (m : Nat → Option Nat) : List (Nat × Nat × Nat) → Option (List (Nat × Nat × Nat))
  | [] => some []
  | (i, e, o) :: t =>
    match m i, renCaps m t with
    | some j, some t' => some ((j, e, o) :: t')
    | _, _ => none

def A.ren (m : Nat → Option Nat) : A → A
  | .ptr id e o => match m id with | some j => .ptr j e o | none => .undef
  | .sl id => match m id with | some j => .sl j | none => .undef
  | .sub id st n c => match m id with | some j => .sub j st n c | none => .undef
  | .fn f caps => match renCaps m caps with | some c => .fn f c | none => .undef
  | a => a

def V.ren (m : Nat → Option Nat) : V → V
  | .at a => .at (a.ren m)
  | .agg as => .agg (as.map (A.ren m))
  | .tup xs => .tup (xs.map fun x => (x.1, x.2.map (A.ren m)))

def Ob.ren (m : Nat → Option Nat) (ob : Ob) : Ob :=
  match ob.c with
  | .box cs => ⟨ob.own, .box (cs.map (A.ren m))⟩
  | _ => ob

/-- The objects with these numbers, renamed. -/
def pick (hp : List Ob) (m : Nat → Option Nat) (ro : Bool) : List Nat → List Ob
  | [] => []
  | i :: t =>
    (match hp[i]? with
      | some ob => (match ro with | true => { ob.ren m with own := false } | false => ob.ren m)
      | none => ⟨false, .dead⟩) :: pick hp m ro t

/-- A slice that is no whole object is looked at as one of its own. -/
def viewA (hp : List Ob) (lk : Option (List K)) (a : A) : A × List Ob :=
  match a with
  | .nil => match lk with
    | some ks => (.sl hp.length, hp ++ [⟨true, .rows ks []⟩])
    | none => (a, hp)
  | .sub id st len _ => match hp[id]? with
    | some ⟨_, .rows ks xs⟩ => (.sl hp.length, hp ++ [⟨false, .rows ks ((xs.drop st).take len)⟩])
    | _ => (.undef, hp)
  | a => (a, hp)

def viewAs (hp : List Ob) : List (Option (List K)) → List A → List A × List Ob
  | lk :: lks, a :: as =>
    match viewA hp lk a with
    | (a', hp') => match viewAs hp' lks as with
      | (as', hp'') => (a' :: as', hp'')
  | [], a :: as =>
    match viewA hp none a with
    | (a', hp') => match viewAs hp' [] as with
      | (as', hp'') => (a' :: as', hp'')
  | _, [] => ([], hp)

def lksOf (ty : Nat → Option TI) (t : Nat) : List (Option (List K)) :=
  match ty t with
  | some i => i.lks
  | none => []

def viewV (ty : Nat → Option TI) (hp : List Ob) (t : Nat) : V → V × List Ob
  | .at a => match viewAs hp (lksOf ty t) [a] with
    | ([a'], hp') => (.at a', hp')
    | (_, hp') => (.at .undef, hp')
  | .agg as => match viewAs hp (lksOf ty t) as with
    | (as', hp') => (.agg as', hp')
  | .tup xs => (.tup xs, hp)

def viewVs (ty : Nat → Option TI) (hp : List Ob) : List Nat → List V → List V × List Ob
  | t :: ts, v :: vs =>
    match viewV ty hp t v with
    | (v', hp') => match viewVs ty hp' ts vs with
      | (vs', hp'') => (v' :: vs', hp'')
  | [], v :: vs =>
    match viewVs ty hp [] vs with
    | (vs', hp'') => (v :: vs', hp'')
  | _, [] => ([], hp)

/-- Is a slice among them that is no whole object? -/
def isSub : A → Bool
  | .sub _ _ _ _ => true
  | _ => false

def anySub : List V → Bool
  | [] => false
  | .at a :: t => isSub a || anySub t
  | .agg as :: t => as.any isSub || anySub t
  | .tup _ :: t => anySub t

/-- Back from a callee's numbers: its first objects are the arguments', the rest are new. -/
def backId (ids : List Nat) (n0 : Nat) (j : Nat) : Option Nat :=
  match Nat.blt j ids.length with
  | true => match ids[j]? with
    | some i => match Nat.blt i n0 with
      | true => some i
      | false => none
    | none => none
  | false => some (n0 + (j - ids.length))

def backObs (hp : List Ob) (m : Nat → Option Nat) : List Nat → List Ob → List Ob
  | i :: ids, ob :: obs => backObs (hp.set i (ob.ren m)) m ids obs
  | _, _ => hp

def callF {α : Type} (cx : Cx) (f : FuncId) (tys : List Nat) (args : List V) (hp : List Ob) (k : V → List Ob → Option α) (e : V → List Ob → Option α) : Option α :=
  match viewVs cx.ty hp tys args with
  | (args1, hpT) =>
    match reach 3 (addIds [] (args1.flatMap V.ids)) hpT with
    | ids =>
      match cx.eff f with
      | false =>
        match cx.call f (args1.map (V.ren fun i => idx i ids)) (pick hpT (fun i => idx i ids) true ids) with
        | some ⟨r, none, news⟩ => k (r.ren (backId ids hp.length)) (news.map (Ob.ren (backId ids hp.length)))
        | _ => none
      | true =>
        match anySub args with
        | true => none
        | false =>
          match cx.call f (args1.map (V.ren fun i => idx i ids)) (pick hpT (fun i => idx i ids) false ids) with
          | some ⟨r, some upd, news⟩ =>
            e (r.ren (backId ids hp.length)) (backObs hp (backId ids hp.length) ids upd ++ news.map (Ob.ren (backId ids hp.length)))
          | _ => none

/-! ### operations -/
def rawKind : FloatKind → IntKind
  | .f32 => .u32
  | .f64 => .u64

def bAnd (k : FloatKind) : Int := match k with | .f32 => 2147483648 | .f64 => 9223372036854775808

def intBin {α : Type} (op : BinOp) (k : IntKind) (a b : Int) (c : A → Option α) : Option α :=
  match op with
  | .add => c (.int k (k.wrap (a + b)))
  | .sub => c (.int k (k.wrap (a - b)))
  | .mul => c (.int k (k.wrap (a * b)))
  | .quo => chk (!(b == 0)) (c (.int k (k.wrap (a.tdiv b))))
  | .rem => chk (!(b == 0)) (c (.int k (a.tmod b)))
  | .eql => c (.bool (a == b))
  | .neq => c (.bool (a != b))
  | .lss => c (.bool (decide (a < b)))
  | .leq => c (.bool (decide (a ≤ b)))
  | .gtr => c (.bool (decide (a > b)))
  | .geq => c (.bool (decide (a ≥ b)))
  | _ => none

/-- No NaN: it equals itself. -/
def num (F : FOps) (k : FloatKind) (a : Int) : Bool :=
  match F.cmp .neq k a a with
  | true => false
  | false => true

def binA {α : Type} (F : FOps) (tb : Bool) (op : BinOp) (x y : A) (c : A → Option α) : Option α :=
  match x, y with
  | .int k a, .int k' b => chk (decide (k = k')) (intBin op k a b c)
  | .fl k a, .fl k' b =>
    chk (decide (k = k')) (
      match isArith op with
      | true => c (.fl k (F.bin op k a b))
      | false => chk (isCmp op) (c (.bool (F.cmp op k a b))))
  | .bool a, .bool b => match tb, op with
    | true, .eql => c (.bool (a == b))
    | true, .neq => c (.bool (!(a == b)))
    | _, _ => none
  | .raw k a, .int kk m => match op with
    | .andNot => chk (decide (kk = rawKind k)) (chk (m == bAnd k) (c (.raw k (F.abs k a))))
    | _ => none
  | .raw k a, .raw k' b => match op with
    | .eql => chk (decide (k = k')) (chk (num F k a) (chk (num F k' b) (c (.bool (a == b)))))
    | _ => none
  | _, _ => none

def tyOf (ty : Nat → Option TI) (t : Nat) : Option D := match ty t with | some i => some i.d | none => none

def convA {α : Type} (F : FOps) (src dst : Option D) (x : A) (c : A → Option α) : Option α :=
  match src, dst, x with
  | some (.sc _), some (.sc (.i k)), .int _ n => c (.int k (k.wrap n))
  | some (.sc _), some (.sc (.f k)), .int _ n => c (.fl k (F.ofInt k n))
  | some (.sc _), some (.sc (.i k)), .fl s x => chk (F.toIntOk s k x) (c (.int k (F.toInt s k x)))
  | some (.sc _), some (.sc (.f k)), .fl s x => chk (F.convOk s k x) (c (.fl k (F.conv s k x)))
  | some (.sc _), some (.sc (.i k)), .raw s x => chk (num F s x) (c (.int k (k.wrap x)))
  | _, _, _ => none

def unA {α : Type} (F : FOps) (op : UnOp) (x : A) (c : A → Option α) : Option α :=
  match op, x with
  | .not, .bool b => c (.bool (!b))
  | .neg, .fl k x => c (.fl k (F.neg k x))
  | .neg, .int k n => c (.int k (k.wrap (0 - n)))
  | _, _ => none

/-- The parts of a composite, laid into its zero. -/
def fillA (place : Nat → Option (Nat × Nat)) : List A → List (Nat × V) → Option (List A)
  | cs, [] => some cs
  | cs, (i, v) :: rest =>
    match place i, v.cells with
    | some (off, size), some as =>
      match Nat.beq as.length size, Nat.ble (off + size) cs.length with
      | true, true => fillA place (setFromA cs off as) rest
      | _, _ => none
    | _, _ => none

def newBox (ty : Nat → Option TI) (t : Nat) (cells : List A) : Ob :=
  match tyOf ty t with
  | some (.ar (n + 1) e) => match tyOf ty e with
    | some (.sc k) => match aInts (List.replicate (n + 1) k) cells with
      | some ns => ⟨true, .rows [k] (ns.map fun n => [n])⟩
      | none => ⟨true, .box cells⟩
    | _ => ⟨true, .box cells⟩
  | _ => ⟨true, .box cells⟩

def chunk : Nat → Nat → List Int → List (List Int)
  | _, 0, _ => []
  | s, n + 1, l => l.take s :: chunk s n (l.drop s)

def obLen (hp : List Ob) (id : Nat) : Nat :=
  match hp[id]? with
  | some ⟨_, .rows _ xs⟩ => xs.length
  | _ => 0

def obKs (hp : List Ob) (id : Nat) : Option (List K) :=
  match hp[id]? with
  | some ⟨_, .rows ks _⟩ => some ks
  | _ => none

/-- The elements of a slice. -/
def slRows (hp : List Ob) : A → Option (List (List Int))
  | .nil => some []
  | .sl id => match hp[id]? with
    | some ⟨_, .rows _ xs⟩ => some xs
    | _ => none
  | .sub id st len _ => match hp[id]? with
    | some ⟨_, .rows _ xs⟩ => some ((xs.drop st).take len)
    | _ => none
  | _ => none

/-- The elements are of these kinds. -/
def ksFit (hp : List Ob) (ks : List K) : A → Bool
  | .sl id => match obKs hp id with
    | some k' => decide (k' = ks)
    | none => false
  | .sub id _ _ _ => match obKs hp id with
    | some k' => decide (k' = ks)
    | none => false
  | _ => true

def twoSame : List Nat → Bool
  | [a, b] => Nat.beq a b
  | _ => false

def natOf (a : A) : Option Int :=
  match a with
  | .int _ n => some n
  | _ => none

def capsOf (sl : List V) : List Operand → Option (List (Nat × Nat × Nat))
  | [] => some []
  | x :: t => match evA sl x, capsOf sl t with
    | .at (.ptr i el off), some r => some ((i, el, off) :: r)
    | _, _ => none

/-- Operations that change nothing that is there: the value, and new objects. -/
def calm {α : Type} (cx : Cx) (o : Oper) (sl : List V) (hp : List Ob) (k : V → List Ob → Option α) (e : V → List Ob → Option α) : Option α :=
  match o.op with
  | .move x => k (evA sl x) []
  | .assign x => k (evA sl x) []
  | .alloc t => match cx.ty t with
    | some i => k (.at (.ptr hp.length 0 0)) [newBox cx.ty t i.zero]
    | none => none
  | .box t x => match cx.ty t, (evA sl x).cells with
    | some i, some cs => match Nat.beq cs.length i.size with
      | true => k (.at (.ptr hp.length 0 0)) [newBox cx.ty t cs]
      | false => none
    | _, _ => none
  | .build t parts => match cx.ty t with
    | some i =>
      match i.d with
      | .st fs => match fillA (fun j => match fs[j]? with | some (off, ft) => (match cx.ty ft with | some fi => some (off, fi.size) | none => none) | none => none) i.zero (parts.toList.map fun p => (p.1, evA sl p.2)) with
        | some cs => k (.agg cs) []
        | none => none
      | .ar _ et => match cx.ty et with
        | some ei => match fillA (fun j => some (j * ei.size, ei.size)) i.zero (parts.toList.map fun p => (p.1, evA sl p.2)) with
          | some cs => k (.agg cs) []
          | none => none
        | none => none
      | _ => none
    | none => none
  | .buildSlice t len parts => match tyOf cx.ty t with
    | some (.sl et) => match cx.ty et with
      | some ei => match ei.ks with
        | some ks => match len, parts.size with
          | 0, 0 => k (.at .nil) []
          | 0, _ => none
          | _, _ => match Nat.ble (len * ei.size) 16777216, Nat.blt 0 ei.size, fillA (fun j => some (j * ei.size, ei.size)) ((List.replicate len ei.zero).flatten) (parts.toList.map fun p => (p.1, evA sl p.2)) with
            | true, true, some cs => match aInts ((List.replicate len ks).flatten) cs with
              | some ns => k (.at (.sl hp.length)) [⟨true, .rows ks (chunk ei.size len ns)⟩]
              | none => none
            | _, _, _ => none
        | none => none
      | none => none
    | _ => none
  | .load t x => match evA sl x, cx.ty t with
    | .at (.ptr id el off), some i => match hp[id]? with
      | some ob => match loadOb ob el off i.size (match i.d with | .st _ => true | .ar _ _ => true | _ => false) with
        | some v => k v []
        | none => none
      | none => none
    | _, _ => none
  | .nilCheck x => match evA sl x with
    | .at (.ptr id el off) => k (.at (.ptr id el off)) []
    | _ => none
  | .binOp op t x y _ => match evA sl x, evA sl y with
    | .at a, .at b => binA cx.F (match tyOf cx.ty t with | some (.sc .b) => true | _ => false) op a b fun r => k (.at r) []
    | _, _ => none
  | .unOp op _ x => match evA sl x with
    | .at a => unA cx.F op a fun r => k (.at r) []
    | _ => none
  | .convert src dst x => match evA sl x with
    | .at a => convA cx.F (tyOf cx.ty src) (tyOf cx.ty dst) a fun r => k (.at r) []
    | _ => none
  | .fieldAddr s x f => match tyOf cx.ty s, evA sl x with
    | some (.st fs), .at (.ptr id el off) => match fs[f]? with
      | some (d, _) => k (.at (.ptr id el (off + d))) []
      | none => none
    | _, _ => none
  | .field s x f => match tyOf cx.ty s, evA sl x with
    | some (.st fs), .agg as => match fs[f]? with
      | some (d, ft) => match cx.ty ft with
        | some i => match i.d with
          | .st _ => k (.agg ((as.drop d).take i.size)) []
          | .ar _ _ => k (.agg ((as.drop d).take i.size)) []
          | _ => match as[d]? with
            | some a => k (.at a) []
            | none => none
        | none => none
      | none => none
    | _, _ => none
  | .indexAddr t x ix => match tyOf cx.ty t, evA sl x, evA sl ix with
    | some (.sl et), .at (.sl id), .at (.int _ n) => match cx.ty et, obKs hp id with
      | some ei, some ks => chk (Nat.beq ks.length ei.size) (chk (decide (0 ≤ n)) (chk (decide (n < (obLen hp id : Int))) (k (.at (.ptr id n.toNat 0)) [])))
      | _, _ => none
    | some (.sl et), .at (.sub id st len _), .at (.int _ n) => match cx.ty et, obKs hp id with
      | some ei, some ks => chk (Nat.beq ks.length ei.size) (chk (decide (0 ≤ n)) (chk (decide (n < (len : Int))) (k (.at (.ptr id (st + n.toNat) 0)) [])))
      | _, _ => none
    | some (.ar len et), .at (.ptr id 0 0), .at (.int _ n) => match obKs hp id, cx.ty et with
      | some [_], some ei => chk (Nat.beq ei.size 1) (chk (decide (0 ≤ n)) (chk (decide (n < (obLen hp id : Int))) (chk (Nat.beq (obLen hp id) len) (k (.at (.ptr id n.toNat 0)) []))))
      | _, _ => none
    | _, _, _ => none
  | .index t x ix => match tyOf cx.ty t, evA sl x, evA sl ix with
    | some (.ar len et), .agg as, .at (.int _ n) => match cx.ty et with
      | some ei => match ei.d with
        | .sc _ => chk (Nat.beq ei.size 1) (chk (decide (0 ≤ n)) (chk (decide (n < (len : Int))) (match as[n.toNat]? with
          | some a => k (.at a) []
          | none => none)))
        | _ => none
      | none => none
    | _, _, _ => none
  | .slice t x lo hi mx => match tyOf cx.ty t with
    | some (.sl et) => match cx.ty et, evA sl x, lo, hi, mx with
      | some _, .at .nil, none, some h, some m => match evA sl h, evA sl m with
        | .at (.int _ 0), .at (.int _ 0) => k (.at .nil) []
        | _, _ => none
      | some _, .at (.sl _), none, some h, some m => match evA sl h, evA sl m with
        | .at (.int _ 0), .at (.int _ 0) => k (.at .nil) []
        | _, _ => none
      | some ei, .at (.sl id), lo, hi, none => match obKs hp id with
        | some ks => chk (Nat.beq ks.length ei.size) (match lo, hi with
          | some l, none => match evA sl l with
            | .at (.int _ l) => chk (decide (0 ≤ l)) (chk (decide (l ≤ (obLen hp id : Int))) (k (.at (.sub id l.toNat (obLen hp id - l.toNat) none)) []))
            | _ => none
          | none, some h => match evA sl h with
            | .at (.int _ h) => chk (decide (0 ≤ h)) (chk (decide (h ≤ (obLen hp id : Int))) (k (.at (.sub id 0 (h.toNat - 0) none)) []))
            | _ => none
          | some l, some h => match evA sl l, evA sl h with
            | .at (.int _ l), .at (.int _ h) => chk (decide (0 ≤ l)) (chk (decide (l ≤ h)) (chk (decide (h ≤ (obLen hp id : Int))) (k (.at (.sub id l.toNat (h.toNat - l.toNat) none)) [])))
            | _, _ => none
          | none, none => k (.at (.sub id 0 (obLen hp id - 0) none)) [])
        | none => none
      | _, _, _, _, _ => none
    | some (.ar len et) => match cx.ty et, evA sl x, lo, hi, mx with
      | some _, .at (.ptr id 0 0), none, none, none => match hp[id]? with
        | some ⟨true, .rows [_] xs⟩ => chk (Nat.beq xs.length len) (chk (Nat.ble len 1073741824) (k (.at (.sl id)) []))
        | _ => none
      | _, _, _, _, _ => none
    | _ => none
  | .extract t ix => match evA sl t with
    | .tup xs => match xs[ix]? with
      | some x => k (ofT x) []
      | none => none
    | _ => none
  | .makeFunc (.func f) first caps => match first.size with
    | 0 => match capsOf sl caps.toList with
      | some cs => k (.at (.fn f cs)) []
      | none => none
    | _ => none
  | .makeSlice t len cap => match tyOf cx.ty t, evA sl len, evA sl cap with
    | some (.sl et), .at (.int _ n), .at (.int _ c) => match cx.ty et with
      | some ei => match ei.ks, aInts (ei.ks.getD []) ei.zero with
        | some ks, some z =>
          chk (decide (0 ≤ n)) (chk (n == c) (chk (decide (n ≤ 1073741824)) (chk (Nat.ble ei.bytes 1024) (chk (Nat.blt 0 ei.size) (
            k (.at (.sl hp.length)) [⟨true, .rows ks (List.replicate n.toNat z)⟩])))))
        | _, _ => none
      | none => none
    | _, _, _ => none
  | .call ⟨.builtin .len, args, tys⟩ => match args.toList, tys.toList with
    | [x], [t] => match tyOf cx.ty t, evA sl x with
      | some (.sl _), .at .nil => k (.at (.int .i64 (0 : Nat))) []
      | some (.sl _), .at (.sl id) => match hp[id]? with
        | some ⟨_, .rows _ xs⟩ => k (.at (.int .i64 xs.length)) []
        | _ => none
      | some (.sl _), .at (.sub _ _ len _) => k (.at (.int .i64 len)) []
      | _, _ => none
    | _, _ => none
  | .call ⟨.builtin .min, args, _⟩ => match args.toList with
    | [x, y] => match evA sl x, evA sl y with
      | .at (.int j a), .at (.int j' b) => chk (decide (j = j')) (k (.at (.int j (match decide (b < a) with | true => b | false => a))) [])
      | _, _ => none
    | _ => none
  | .call ⟨.builtin .max, args, _⟩ => match args.toList with
    | [x, y] => match evA sl x, evA sl y with
      | .at (.fl j a), .at (.fl j' b) => chk (decide (j = j')) (k (.at (.fl j (cx.F.mx j a b))) [])
      | _, _ => none
    | _ => none
  | .call ⟨.builtin .append, args, tys⟩ => match args.toList, tys.toList with
    | [x, y], [t, t'] => chk (Nat.beq t t') (match tyOf cx.ty t, evA sl x, evA sl y with
      | some (.sl et), .at .nil, .at y => match cx.ty et, slRows hp y with
        | some ei, some ys => match ei.ks with
          | some ks => chk (ksFit hp ks y) (chk (decide (ys.length ≤ 1073741824)) (chk (Nat.ble ei.bytes 1024) (k (.at (.sl hp.length)) [⟨true, .rows ks ys⟩])))
          | none => none
        | _, _ => none
      | _, _, _ => none)
    | _, _ => none
  | .call ⟨.value x, args, tys⟩ => match evA sl x with
    | .at (.fn f caps) => callF cx f tys.toList (args.toList.map (evA sl) ++ caps.map fun p => .at (.ptr p.1 p.2.1 p.2.2)) hp k e
    | _ => none
  | _ => none
end Go.Fx
