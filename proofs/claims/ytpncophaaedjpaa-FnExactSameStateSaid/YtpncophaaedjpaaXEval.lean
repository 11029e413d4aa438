/- The abstract interpreter, second part: effects, regions, code, functions. -/
import Derived.Test.YtpncophaaedjpaaXCore
namespace Go.Fx

def put (sl : List V) (d : Option Nat) (v : V) : List V :=
  match d with
  | some d => sl.set d v
  | none => sl

def A.kill (i : Nat) (a : A) : A :=
  match hasId i a.ids with
  | true => .undef
  | false => a

def V.kill (i : Nat) : V → V
  | .at a => .at (a.kill i)
  | .agg as => .agg (as.map (A.kill i))
  | .tup xs => .tup (xs.map fun x => (x.1, x.2.map (A.kill i)))

def Ob.kill (i : Nat) (ob : Ob) : Ob :=
  match ob.c with
  | .box cs => ⟨ob.own, .box (cs.map (A.kill i))⟩
  | _ => ob

/-- Operations that change an object that is there. A row that came in and grows is a new object from then on. -/
def effOp {α : Type} (cx : Cx) (n0 : Nat) (o : Oper) (st : St) (k : St → Option α) : Option α :=
  match o.op with
  | .store t x y => match evA st.sl x, (evA st.sl y).cells, cx.ty t with
    | .at (.ptr id el off), some cs, some i => match Nat.beq cs.length i.size, st.hp[id]? with
      | true, some ob => match storeOb ob el off cs with
        | some ob' => k ⟨put st.sl o.dst (.at .void), st.hp.set id ob'⟩
        | none => none
      | _, _ => none
    | _, _, _ => none
  | .call ⟨.builtin .append, args, tys⟩ => match args.toList, tys.toList with
    | [x, y], [t, t'] => chk (Nat.beq t t') (match tyOf cx.ty t, evA st.sl x, evA st.sl y with
      | some (.sl et), .at (.sl id), .at y => match cx.ty et, slRows st.hp y, st.hp[id]? with
        | some ei, some ys, some ⟨true, .rows ks xs⟩ => match ei.ks with
          | some ks' =>
            chk (decide (ks' = ks)) (chk (ksFit st.hp ks y) (chk (decide (xs.length + ys.length ≤ 1073741824)) (chk (Nat.ble ei.bytes 1024) (chk (Nat.blt 0 ei.size) (
              match Nat.blt id n0 with
              | false => k ⟨put (st.sl.map (V.kill id)) o.dst (.at (.sl id)), (st.hp.map (Ob.kill id)).set id ⟨true, .rows ks (xs ++ ys)⟩⟩
              | true => k ⟨put (st.sl.map (V.kill id)) o.dst (.at (.sl st.hp.length)), (st.hp.map (Ob.kill id)).set id ⟨true, .dead⟩ ++ [⟨true, .rows ks (xs ++ ys)⟩]⟩)))))
          | none => none
        | _, _, _ => none
      | _, _, _ => none)
    | _, _ => none
  | _ => none

/-- Objects that a call has done away with. -/
def deadIn (hp hp' : List Ob) : List Nat := (List.range hp.length).filter fun i => match hp[i]?, hp'[i]? with
  | some ⟨_, .dead⟩, _ => false
  | _, some ⟨_, .dead⟩ => true
  | _, _ => false

def killAll (sl : List V) : List Nat → List V
  | [] => sl
  | i :: t => killAll (sl.map (V.kill i)) t

def killObs (hp : List Ob) : List Nat → List Ob
  | [] => hp
  | i :: t => killObs (hp.map (Ob.kill i)) t

/-! ### the order inside a region -/
def edgeMask (masks : List Nat) : List Edge → Nat
  | [] => 0
  | e :: t => ((1 <<< e.on) ||| masks.getD e.on 0) ||| edgeMask masks t

/-- What comes before each operation, as bits. -/
def maskGo : List Nat → List Oper → List Nat
  | acc, [] => acc
  | acc, o :: r => maskGo (acc ++ [edgeMask acc o.after.toList]) r

def masks (ops : Array Oper) : List Nat := maskGo [] ops.toList

def bef (ms : List Nat) (i j : Nat) : Bool := (ms.getD j 0).testBit i

def tmpOf : Operand → List Nat
  | .tmp t => [t]
  | _ => []

def gslot (all : Array Oper) (j : Nat) : Option Nat :=
  match all[j]? with
  | some o => o.dst
  | none => none

def reads (all : Array Oper) (o : Oper) : List Nat :=
  o.op.operands.toList.flatMap tmpOf ++ (match o.guard with | some (j, _) => (gslot all j).toList | none => [])

def dstIn (d : Option Nat) (l : List Nat) : Bool :=
  match d with
  | some d => hasId d l
  | none => false

def apartB (all : Array Oper) (a b : Oper) : Bool :=
  (match a.dst, b.dst with | some x, some y => !Nat.beq x y | _, _ => true) && !dstIn a.dst (reads all b) && !dstIn b.dst (reads all a)

def edgeOk (i : Nat) (e : Edge) : Bool :=
  Nat.blt e.on i && (match e.ground with | .textOnly _ => false | .gcOnly _ => false | _ => true)

def pairsOk (ms : List Nat) (all : Array Oper) : Nat → List Oper → Bool
  | _, [] => true
  | j, o :: r =>
    o.after.toList.all (edgeOk j) &&
    ((List.range j).all fun i => bef ms i j || (match all[i]? with | some a => apartB all a o | none => false)) &&
    pairsOk ms all (j + 1) r

/-- Any order that the edges allow gives what the order of the text gives, if all is calm but for barriers. -/
def drawOk (all : Array Oper) : Bool := pairsOk (masks all) all 0 all.toList

/-- Operation i stands before or behind every other one. -/
def barrier (all : Array Oper) (i : Nat) : Bool :=
  (List.range all.size).all fun j => match Nat.beq i j with
    | true => true
    | false => match Nat.blt j i with
      | true => bef (masks all) j i
      | false => bef (masks all) i j

/-- One operation; 'bar': may it change what is there? -/
def stepOp {α : Type} (cx : Cx) (n0 : Nat) (bar : Bool) (o : Oper) (st : St) (k : St → Option α) : Option α :=
  match o.op with
  | .store _ _ _ => chk bar (effOp cx n0 o st k)
  | .pick c a b => match evA st.sl c with
    | .at (.bool t) => match t with
      | true => k ⟨put st.sl o.dst (evA st.sl a), st.hp⟩
      | false => k ⟨put st.sl o.dst (evA st.sl b), st.hp⟩
    | _ => none
  | .call ⟨.builtin .append, args, _⟩ => match args.toList with
    | x :: _ => match evA st.sl x with
      | .at .nil => calm cx o st.sl st.hp (fun v news => k ⟨put st.sl o.dst v, st.hp ++ news⟩) (fun _ _ => none)
      | _ => chk bar (effOp cx n0 o st k)
    | [] => none
  | _ => calm cx o st.sl st.hp (fun v news => k ⟨put st.sl o.dst v, st.hp ++ news⟩)
      (fun v hp' => chk bar (k ⟨put (killAll st.sl (deadIn st.hp hp')) o.dst v, killObs hp' (deadIn st.hp hp')⟩))

def evOps {α : Type} (cx : Cx) (n0 : Nat) (all : Array Oper) (dr : Bool) : Nat → List Oper → St → (St → Option α) → Option α
  | _, [], st, k => k st
  | i, o :: r, st, k =>
    match o.guard with
    | none => stepOp cx n0 (match dr with | true => barrier all i | false => true) o st fun st' => evOps cx n0 all dr (i + 1) r st' k
    | some (j, want) => match gslot all j with
      | some d => match st.sl.getD d (.at .void) with
        | .at (.bool t) => match t with
          | true => match want with
            | true => stepOp cx n0 (match dr with | true => barrier all i | false => true) o ⟨st.sl.set d (.at (.bool true)), st.hp⟩ fun st' => evOps cx n0 all dr (i + 1) r st' k
            | false => evOps cx n0 all dr (i + 1) r ⟨put (st.sl.set d (.at (.bool true))) o.dst (.at .void), st.hp⟩ k
          | false => match want with
            | false => stepOp cx n0 (match dr with | true => barrier all i | false => true) o ⟨st.sl.set d (.at (.bool false)), st.hp⟩ fun st' => evOps cx n0 all dr (i + 1) r st' k
            | true => evOps cx n0 all dr (i + 1) r ⟨put (st.sl.set d (.at (.bool false))) o.dst (.at .void), st.hp⟩ k
        | .at .void => evOps cx n0 all dr (i + 1) r ⟨put st.sl o.dst (.at .void), st.hp⟩ k
        | _ => none
      | none => none

/-! ### code -/
/-- What is alive at a summary: the arguments' objects, and what the live slots reach. -/
def canon (n0 : Nat) (vals : List V) (hp : List Ob) : List V × List Ob :=
  match reach 3 (addIds (List.range n0) (vals.flatMap V.ids)) hp with
  | ids => (vals.map (V.ren fun i => idx i ids), pick hp (fun i => idx i ids) false ids)

def setAll : List V → List Nat → List V → List V
  | sl, i :: is, v :: vs => setAll (sl.set i v) is vs
  | sl, _, _ => sl

def framed (n : Nat) (live : List Nat) (vals : List V) : List V := setAll (List.replicate n (.at .undef)) live vals

def evLoop {α : Type} (body : St → (Ex → St → Option α) → Option α) : Nat → St → (Ex → St → Option α) → Option α
  | 0, _, _ => none
  | n + 1, st, k => body st fun e st' => match e with
    | .normal => evLoop body n st' k
    | e => k e st'

def inBlock {α : Type} (id : Nat) (k : Ex → St → Option α) : Ex → St → Option α
  | .exit id', st => match Nat.beq id' id with
    | true => k .normal st
    | false => k (.exit id') st
  | e, st => k e st

def evC {α : Type} (cx : Cx) (n0 : Nat) : Code → St → (Ex → St → Option α) → Option α
  | .skip, st, k => k .normal st
  | .region _ ops draw, st, k => match draw with
    | true => chk (drawOk ops) (evOps cx n0 ops true 0 ops.toList st (k .normal))
    | false => evOps cx n0 ops false 0 ops.toList st (k .normal)
  | .seq a b, st, k => evC cx n0 a st fun e st' => match e with
    | .normal => evC cx n0 b st' k
    | e => k e st'
  | .cond c x y, st, k => match evA st.sl c with
    | .at (.bool t) => match t with
      | true => evC cx n0 x st k
      | false => evC cx n0 y st k
    | _ => none
  | .block id body, st, k => match cx.sm id with
    | some s => match canon n0 (s.live.map fun i => st.sl.getD i (.at .void)) st.hp with
      | (vals, hp) => match s.fn vals hp with
        | some (e, vals', hp') => k e ⟨framed st.sl.length s.live vals', hp'⟩
        | none => none
    | none => evC cx n0 body st (inBlock id k)
  | .loop body, st, k => evLoop (evC cx n0 body) cx.un st k
  | .exit id, st, k => k (.exit id) st
  | .ret, st, k => k .ret st
  | _, _, _ => none

/-! ### functions -/
def toT : V → Bool × List A
  | .at a => (false, [a])
  | .agg as => (true, as)
  | .tup _ => (false, [.undef])

def resV (ty : Nat → Option TI) (st : St) : List ResultVar → Option (List V)
  | [] => some []
  | .tmp t :: r => match resV ty st r with
    | some vs => some (st.sl.getD t (.at .void) :: vs)
    | none => none
  | .cell a t :: r => match st.sl.getD a (.at .void), ty t, resV ty st r with
    | .at (.ptr id el off), some i, some vs => match st.hp[id]? with
      | some ob => match loadOb ob el off i.size (match i.d with | .st _ => true | .ar _ _ => true | _ => false) with
        | some v => some (v :: vs)
        | none => none
      | none => none
    | _, _, _ => none

def wrapV : List V → V
  | [v] => v
  | vs => .tup (vs.map toT)

def updOf (eff : Bool) (n0 : Nat) (h : List Ob) : Option (List Ob) :=
  match eff with
  | true => some (h.take n0)
  | false => none

def finish (cx : Cx) (fn : Func) (eff : Bool) (n0 : Nat) (st : St) : Option Ret :=
  match resV cx.ty st fn.results.toList with
  | none => none
  | some vs =>
    chk (!anySub vs) <|
    match viewVs cx.ty st.hp fn.resultTypes.toList vs with
    | (vs1, hpT) =>
      match reach 3 (addIds (List.range n0) (vs1.flatMap V.ids)) hpT with
      | ids =>
        match vs1.map (V.ren fun i => idx i ids), pick hpT (fun i => idx i ids) false ids with
        | vs2, h2 =>
          some {
            r := wrapV vs2
            upd := updOf eff n0 h2
            news := h2.drop n0 }

def initSt (fn : Func) (args : List V) (h : List Ob) : St :=
  ⟨args ++ List.replicate (fn.ntmps - args.length) (.at .void), h⟩

def evFn (cx : Cx) (fn : Func) (eff : Bool) (args : List V) (h : List Ob) : Option Ret :=
  match fn.body with
  | some c => evC cx h.length c (initSt fn args h) fun e st => match e with
    | .normal => finish cx fn eff h.length st
    | .ret => finish cx fn eff h.length st
    | .exit _ => none
  | none => none
end Go.Fx
