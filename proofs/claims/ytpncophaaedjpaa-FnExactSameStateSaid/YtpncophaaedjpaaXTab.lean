/- Tables: the types, and the callees. -/
import Derived.Test.YtpncophaaedjpaaXFn2
namespace Go.Fx
variable {P : Program}

def lookup {β : Type} (t : Nat) : List (Nat × β) → Option β
  | [] => none
  | (i, b) :: r => match Nat.beq t i with
    | true => some b
    | false => lookup t r

theorem lookup_mem {β : Type} {t : Nat} {b : β} : ∀ {l : List (Nat × β)}, lookup t l = some b → (t, b) ∈ l
  | [], h => by simp [lookup] at h
  | (i, c) :: r, h => by
    simp only [lookup] at h
    cases hb : Nat.beq t i with
    | true => rw [hb] at h; simp at h; subst h; rw [Nat.eq_of_beq_eq_true hb]; simp
    | false => rw [hb] at h; exact List.mem_cons_of_mem _ (lookup_mem h)

def A.same : A → A → Bool
  | .undef, .undef => true
  | .nil, .nil => true
  | .bool a, .bool b => a == b
  | .int k n, .int k' m => decide (k = k') && (n == m)
  | .fl k n, .fl k' m => decide (k = k') && (n == m)
  | _, _ => false

theorem A.same_eq {a b : A} (h : A.same a b = true) : a = b := by
  cases a <;> cases b <;> simp [A.same] at h <;> simp [h]

def sameAll : List A → List A → Bool
  | [], [] => true
  | a :: as, b :: bs => A.same a b && sameAll as bs
  | _, _ => false

theorem sameAll_eq : ∀ {as bs : List A}, sameAll as bs = true → as = bs
  | [], [], _ => rfl
  | a :: as, b :: bs, h => by simp [sameAll] at h; rw [A.same_eq h.1, sameAll_eq h.2]
  | [], _ :: _, h => by simp [sameAll] at h
  | _ :: _, [], h => by simp [sameAll] at h

def fieldsB (P : Program) : List Field → List (Nat × Nat) → Bool
  | [], [] => true
  | f :: fs, (o, t) :: r => Nat.beq f.offset o && Nat.beq f.type t && (match P.info? f.type with | some i => Nat.blt 0 i.size | none => false) && fieldsB P fs r
  | _, _ => false

theorem fieldsB_ok : ∀ {fs : List Field} {r : List (Nat × Nat)}, fieldsB P fs r = true → fs.map (fun f => (f.offset, f.type)) = r ∧ ∀ f ∈ fs, ∃ i, P.info? f.type = some i ∧ i.size ≠ 0
  | [], [], _ => ⟨rfl, fun f hf => by cases hf⟩
  | f :: fs, (o, t) :: r, h => by
    simp only [fieldsB, Bool.and_eq_true] at h
    obtain ⟨⟨⟨h1, h2⟩, h3⟩, h4⟩ := h
    obtain ⟨g1, g2⟩ := fieldsB_ok h4
    refine ⟨by simp [g1, Nat.eq_of_beq_eq_true h1, Nat.eq_of_beq_eq_true h2], fun x hx => ?_⟩
    cases hx with
    | head =>
      split at h3
      · rename_i i hi; exact ⟨i, hi, by rw [Nat.blt_eq] at h3; omega⟩
      · cases h3
    | tail _ hx => exact g2 x hx
  | [], _ :: _, h => by simp [fieldsB] at h
  | _ :: _, [], h => by simp [fieldsB] at h

def drB (P : Program) (t : TypeId) : D → Bool
  | .sc (.f k) => (match P.underlying t with | some (.float k') => decide (k = k') | _ => false)
  | .sc (.i k) => (match P.underlying t with | some (.int k') => decide (k = k') | _ => false)
  | .sc .b => (match P.underlying t with | some .bool => true | _ => false)
  | .st fs => (match P.underlying t with | some (.struct fields) => fieldsB P fields.toList fs | _ => false)
  | .ar n e => (match P.underlying t with | some (.array n' e') => Nat.beq n n' && Nat.beq e e' | _ => false)
  | .sl e => (match P.underlying t with | some (.slice e') => Nat.beq e e' | _ => false)
  | .oth => (match P.underlying t with | some (.struct _) => false | some (.array _ _) => false | some _ => true | none => false)

theorem drB_ok {t : TypeId} {d : D} (h : drB P t d = true) : DR P t d := by
  cases d with
  | sc k =>
    cases k <;> simp only [drB] at h <;> split at h
    · rename_i h1; simp at h; subst h; exact h1
    · cases h
    · rename_i h1; simp at h; subst h; exact h1
    · cases h
    · rename_i h1; exact h1
    · cases h
  | st fs =>
    simp only [drB] at h
    split at h
    · rename_i fields h1
      obtain ⟨g1, g2⟩ := fieldsB_ok h
      exact ⟨fields, h1, g1, g2⟩
    · cases h
  | ar n e =>
    simp only [drB] at h
    split at h
    · rename_i n' e' h1
      simp only [Bool.and_eq_true] at h
      rw [Nat.eq_of_beq_eq_true h.1, Nat.eq_of_beq_eq_true h.2]
      exact h1
    · cases h
  | sl e =>
    simp only [drB] at h
    split at h
    · rename_i e' h1
      rw [Nat.eq_of_beq_eq_true h]
      exact h1
    · cases h
  | oth =>
    simp only [drB] at h
    split at h
    · cases h
    · cases h
    · rename_i d h1 h2 h3; exact ⟨d, h3, fun f hf => h1 f (by rw [← hf]), fun n e hf => h2 n e (by rw [← hf])⟩
    · cases h

def tiB (P : Program) (t : TypeId) (i : TI) : Bool :=
  match P.info? t with
  | some inf => match inf.zero with
    | some z => Nat.beq inf.size i.size && Nat.beq inf.bytes i.bytes && sameAll i.zero (z.cells.toList.map conA) && Nat.beq i.zero.length i.size && drB P t i.d && (match i.ks with | some ks => Nat.beq ks.length i.size | none => true)
    | none => false
  | none => false

theorem tiB_ok {t : TypeId} {i : TI} (h : tiB P t i = true) : TIOK P t i := by
  unfold tiB at h
  split at h
  · rename_i inf hinf
    split at h
    · rename_i z hz
      simp only [Bool.and_eq_true] at h
      obtain ⟨⟨⟨⟨⟨h1, h2⟩, h3⟩, h4⟩, h5⟩, h6⟩ := h
      refine ⟨⟨inf, z, hinf, Nat.eq_of_beq_eq_true h1, Nat.eq_of_beq_eq_true h2, hz, ?_⟩, drB_ok h5, fun ks hks => ?_, Nat.eq_of_beq_eq_true h4⟩
      · rw [sameAll_eq h3]
        exact F2.map_self (R := AR0) (fun c ι S => conA_AR ι S c) _
      · rw [hks] at h6
        exact Nat.eq_of_beq_eq_true h6
    · cases h
  · cases h

def tyB (P : Program) : List (Nat × TI) → Bool
  | [] => true
  | (t, i) :: r => match tiB P t i with
    | true => tyB P r
    | false => false

theorem tyB_ok : ∀ {l : List (Nat × TI)}, tyB P l = true → ∀ p ∈ l, TIOK P p.1 p.2
  | [], _, p, hp => by cases hp
  | (t, i) :: r, h, p, hp => by
    simp only [tyB] at h
    cases hb : tiB P t i with
    | false => rw [hb] at h; cases h
    | true =>
      rw [hb] at h
      cases hp with
      | head => exact tiB_ok hb
      | tail _ hp => exact tyB_ok h p hp

theorem tyOK_of {l : List (Nat × TI)} (h : tyB P l = true) : TyOK P (fun t => lookup t l) := fun t i hi => tyB_ok h (t, i) (lookup_mem hi)

/-! ### callees -/
abbrev Con := List V → List Ob → Option Ret

def CallOK (P : Program) (f : FuncId) (c : Con) : Prop := ∀ (args : List V) (h : List Ob) (r : V) (news : List Ob), c args h = some ⟨r, none, news⟩ → Holds P f args h r news

def tabOf (l : List (Nat × Con)) (f : FuncId) (args : List V) (h : List Ob) : Option Ret :=
  match lookup f l with
  | some c => c args h
  | none => none

/-- The context of an evaluation. -/
def cxS (F : FOps) (tl : List (Nat × TI)) (cl : List (Nat × Con)) (sm : Nat → Option Sm) (un : Nat) : Cx := ⟨F, fun t => lookup t tl, tabOf cl, fun _ => false, sm, un⟩

theorem cxS_ok {tl : List (Nat × TI)} {cl : List (Nat × Con)} {sm : Nat → Option Sm} {un : Nat} (h : TyOK P fun t => lookup t tl) (hc : ∀ p ∈ cl, CallOK P p.1 p.2) : CxOK P (cxS real tl cl sm un) := by
  refine ⟨rfl, h, fun f args ho r news hr => ?_⟩
  simp only [cxS, tabOf] at hr
  split at hr
  · rename_i c hl
    exact hc (f, c) (lookup_mem hl) args ho r news hr
  · cases hr

/-- What is told of a program once. -/
structure ProgOK (P : Program) (tl : List (Nat × TI)) : Prop where
  ty : TyOK P fun t => lookup t tl
  mix : P.follows .mixedOrders = true

theorem noSm (P : Program) (cx : Cx) (h : ∀ id, cx.sm id = none) (n0 n : Nat) (c : Code) : SmsOK P cx n0 n c := fun id s body hs => by rw [h] at hs; cases hs

/-- A contract by evaluation. -/
theorem holds_ev {tl : List (Nat × TI)} {cl : List (Nat × Con)} {un : Nat} {f : FuncId} {fn : Func} {c : Code} {args : List V} {h : List Ob} {r : V} {news : List Ob} (hP : ProgOK P tl) (hc : ∀ p ∈ cl, CallOK P p.1 p.2)
    (hf : P.funcs[f]? = some fn) (hb : fn.body = some c) (hname : (fn.name == "runtime.NumGoroutine") = false) (hro : roB h = true) (hev : evFn (cxS real tl cl (fun _ => none) un) fn false args h = some ⟨r, none, news⟩) : Holds P f args h r news :=
  holds_of_ev (cxS_ok hP.ty hc) (fun _ => rfl) hP.mix hf hb (by simpa using hname) (noSm P _ (fun _ => rfl) _ _ _) hro hev

theorem allOK_nil : ∀ p ∈ ([] : List (Nat × Con)), CallOK P p.1 p.2 := fun p hp => by cases hp
theorem allOK_cons {f : Nat} {c : Con} {l : List (Nat × Con)} (h : CallOK P f c) (hl : ∀ p ∈ l, CallOK P p.1 p.2) : ∀ p ∈ (f, c) :: l, CallOK P p.1 p.2 := fun p hp => by
  cases hp with
  | head => exact h
  | tail _ hp => exact hl p hp

theorem some_ret {r r' : V} {news news' : List Ob} (h : some (Ret.mk r none news) = some ⟨r', none, news'⟩) : r' = r ∧ news' = news := by
  simp only [Option.some.injEq, Ret.mk.injEq, true_and] at h
  exact ⟨h.1.symm, h.2.symm⟩

/-! ### how a table is made (used where a text is printed) -/
def leafTys (P : Program) : Nat → TypeId → List TypeId
  | 0, t => [t]
  | n + 1, t => match P.underlying t with
    | some (.struct fs) => fs.toList.flatMap fun f => leafTys P n f.type
    | some (.array k e) => (List.replicate k ()).flatMap fun _ => leafTys P n e
    | _ => [t]

def kindOf (P : Program) (t : TypeId) : Option K :=
  match P.underlying t with
  | some (.float k) => some (.f k)
  | some (.int k) => some (.i k)
  | some .bool => some .b
  | _ => none

def kindsOf (P : Program) (t : TypeId) : Option (List K) := (leafTys P 4 t).mapM (kindOf P)

def mkTI (P : Program) (t : TypeId) : Option TI :=
  match P.info? t with
  | some inf => match inf.zero, P.underlying t with
    | some z, some d => some {
        size := inf.size, bytes := inf.bytes
        d := match d with
          | .float k => .sc (.f k) | .int k => .sc (.i k) | .bool => .sc .b
          | .struct fs => .st (fs.toList.map fun f => (f.offset, f.type))
          | .array n e => .ar n e
          | .slice e => .sl e
          | _ => .oth
        ks := kindsOf P t
        lks := (leafTys P 4 t).map fun t => match P.underlying t with | some (.slice e) => kindsOf P e | _ => none
        zero := z.cells.toList.map conA }
    | _, _ => none
  | none => none
end Go.Fx
