/- What the abstract values and objects stand for in a world. -/
import Derived.Test.YtpncophaaedjpaaXEval
import Derived.Calls
import Derived.Orders
import Derived.Laws.Append
import Derived.Laws.AppendOwn
namespace Go.Fx

def F2 {α β : Type} (R : α → β → Prop) : List α → List β → Prop
  | [], [] => True
  | a :: as, b :: bs => R a b ∧ F2 R as bs
  | _, _ => False

theorem F2.imp {α β : Type} {R R' : α → β → Prop} (h : ∀ a b, R a b → R' a b) : ∀ {as : List α} {bs : List β}, F2 R as bs → F2 R' as bs
  | [], [], _ => trivial
  | _ :: _, _ :: _, ⟨h1, h2⟩ => ⟨h _ _ h1, F2.imp h h2⟩
  | [], _ :: _, h => h.elim
  | _ :: _, [], h => h.elim

theorem F2.length {α β : Type} {R : α → β → Prop} : ∀ {as : List α} {bs : List β}, F2 R as bs → as.length = bs.length
  | [], [], _ => rfl
  | _ :: _, _ :: _, ⟨_, h2⟩ => by simp [F2.length h2]
  | [], _ :: _, h => h.elim
  | _ :: _, [], h => h.elim

theorem F2.get {α β : Type} {R : α → β → Prop} : ∀ {as : List α} {bs : List β}, F2 R as bs → ∀ (i : Nat) (a : α), as[i]? = some a → ∃ b, bs[i]? = some b ∧ R a b
  | [], [], _, i, a, h => by simp at h
  | x :: as, y :: bs, ⟨h1, h2⟩, 0, a, h => by simp at h; subst h; exact ⟨y, by simp, h1⟩
  | x :: as, y :: bs, ⟨h1, h2⟩, i + 1, a, h => by simp at h; obtain ⟨b, hb, hr⟩ := F2.get h2 i a h; exact ⟨b, by simpa using hb, hr⟩
  | [], _ :: _, h, _, _, _ => h.elim
  | _ :: _, [], h, _, _, _ => h.elim

theorem F2.of_get {α β : Type} {R : α → β → Prop} : ∀ {as : List α} {bs : List β}, as.length = bs.length → (∀ (i : Nat) a b, as[i]? = some a → bs[i]? = some b → R a b) → F2 R as bs
  | [], [], _, _ => trivial
  | x :: as, y :: bs, hl, h => ⟨h 0 x y (by simp) (by simp), F2.of_get (by simpa using hl) fun i a b ha hb => h (i + 1) a b (by simpa using ha) (by simpa using hb)⟩
  | [], _ :: _, hl, _ => by simp at hl
  | _ :: _, [], hl, _ => by simp at hl

theorem F2.set {α β : Type} {R : α → β → Prop} {a : α} {b : β} (h : R a b) : ∀ {as : List α} {bs : List β} (i : Nat), F2 R as bs → F2 R (as.set i a) (bs.set i b)
  | [], [], _, _ => trivial
  | _ :: _, _ :: _, 0, ⟨_, h2⟩ => ⟨h, h2⟩
  | _ :: _, _ :: _, i + 1, ⟨h1, h2⟩ => ⟨h1, F2.set h i h2⟩
  | [], _ :: _, _, h => h.elim
  | _ :: _, [], _, h => h.elim

theorem F2.map_left {α β γ : Type} {R : α → β → Prop} {R' : γ → β → Prop} {f : α → γ} (h : ∀ a b, R a b → R' (f a) b) : ∀ {as : List α} {bs : List β}, F2 R as bs → F2 R' (as.map f) bs
  | [], [], _ => trivial
  | _ :: _, _ :: _, ⟨h1, h2⟩ => ⟨h _ _ h1, F2.map_left h h2⟩
  | [], _ :: _, h => h.elim
  | _ :: _, [], h => h.elim

theorem F2.append {α β : Type} {R : α → β → Prop} : ∀ {as : List α} {bs : List β} {as' : List α} {bs' : List β}, F2 R as bs → F2 R as' bs' → F2 R (as ++ as') (bs ++ bs')
  | [], [], _, _, _, h => h
  | _ :: _, _ :: _, _, _, ⟨h1, h2⟩, h => ⟨h1, F2.append h2 h⟩
  | [], _ :: _, _, _, h, _ => h.elim
  | _ :: _, [], _, _, h, _ => h.elim

theorem F2.replicate {α β : Type} {R : α → β → Prop} {a : α} {b : β} (h : R a b) : ∀ n, F2 R (List.replicate n a) (List.replicate n b)
  | 0 => trivial
  | n + 1 => ⟨h, F2.replicate h n⟩

theorem F2.drop {α β : Type} {R : α → β → Prop} : ∀ (n : Nat) {as : List α} {bs : List β}, F2 R as bs → F2 R (as.drop n) (bs.drop n)
  | 0, _, _, h => h
  | _ + 1, [], [], _ => trivial
  | n + 1, _ :: _, _ :: _, ⟨_, h2⟩ => F2.drop n h2
  | _ + 1, [], _ :: _, h => h.elim
  | _ + 1, _ :: _, [], h => h.elim

theorem F2.take {α β : Type} {R : α → β → Prop} : ∀ (n : Nat) {as : List α} {bs : List β}, F2 R as bs → F2 R (as.take n) (bs.take n)
  | 0, _, _, _ => by simp [F2]
  | _ + 1, [], [], _ => trivial
  | n + 1, _ :: _, _ :: _, ⟨h1, h2⟩ => ⟨h1, F2.take n h2⟩
  | _ + 1, [], _ :: _, h => h.elim
  | _ + 1, _ :: _, [], h => h.elim

/-! ### where objects lie, and of what form they are -/
inductive Pl where
  | off
  | empty
  | on (b base room : Nat)

inductive Shp where
  | no
  | box
  | rows (ks : List K) (n : Nat)

def shpOb (ob : Ob) : Shp :=
  match ob.c with
  | .dead => .no
  | .box _ => .box
  | .rows ks xs => .rows ks xs.length

def shp (hp : List Ob) (id : Nat) : Shp :=
  match hp[id]? with
  | some ob => shpOb ob
  | none => .no

def offs : Shp → Nat → Nat
  | .rows ks _, e => e * ks.length
  | _, _ => 0

def inB : Shp → Nat → Prop
  | .rows _ n, e => e < n
  | .box, e => e = 0
  | .no, _ => False

def PR (ι : Nat → Pl) (S : Nat → Shp) (id e o : Nat) (c : Value) : Prop :=
  ∃ b base room, ι id = .on b base room ∧ c = .pointer (some ⟨b, base + offs (S id) e + o, none⟩) ∧ inB (S id) e

def AR (ι : Nat → Pl) (S : Nat → Shp) : A → Value → Prop
  | .undef, _ => True
  | .void, c => c = undef
  | .bool b, c => c = .bool b
  | .int k n, c => c = .int k n
  | .fl k x, c => ∃ b, c = .float k b ∧ x = (cf k b : Nat)
  | .raw k x, c => ∃ b : Nat, c = .int (rawKind k) b ∧ x = (cf k b : Nat)
  | .ptr id e o, c => PR ι S id e o c
  | .sl id, c => ∃ ks n, S id = .rows ks n ∧
      ((ι id = .empty ∧ n = 0 ∧ ∃ a, c = .slice a 0 0) ∨
       ∃ b base room cap, ι id = .on b base room ∧ c = .slice (some ⟨b, base, none⟩) n cap ∧ n ≤ cap ∧ cap * ks.length ≤ room ∧ cap ≤ maxLen)
  | .sub id st len cap, c => ∃ ks n, S id = .rows ks n ∧ st + len ≤ n ∧ ∃ a cp, c = .slice a len cp ∧ (∀ m, cap = some m → cp = m) ∧ cp ≤ maxLen ∧ len ≤ cp ∧
      (cp = 0 ∨ ∃ b base room, ι id = .on b base room ∧ a = some ⟨b, base + st * ks.length, none⟩ ∧ (st + cp) * ks.length ≤ room)
  | .nil, c => ∃ a, c = .slice a 0 0
  | .fn f caps, c => ∃ cs, c = .func (.func f) #[] cs ∧ F2 (fun p c => PR ι S p.1 p.2.1 p.2.2 c) caps cs.toList

def TR (ι : Nat → Pl) (S : Nat → Shp) : Bool × List A → Value → Prop
  | (true, as), c => ∃ cs, c = .agg cs ∧ F2 (AR ι S) as cs.toList
  | (false, [a]), c => AR ι S a c
  | (false, _), _ => False

def VR (ι : Nat → Pl) (S : Nat → Shp) : V → Value → Prop
  | .at a, c => AR ι S a c
  | .agg as, c => ∃ cs, c = .agg cs ∧ F2 (AR ι S) as cs.toList
  | .tup xs, c => ∃ cs, c = .tuple cs ∧ F2 (TR ι S) xs cs.toList

def KR : K → Int → Value → Prop
  | .f k, n, c => ∃ b, c = .float k b ∧ n = (cf k b : Nat)
  | .i k, n, c => c = .int k n
  | .b, n, c => ∃ b : Bool, c = .bool b ∧ n = (match b with | true => 1 | false => 0)

def RowsR (blk : Array Value) (base : Nat) (ks : List K) (xs : List (List Int)) : Prop :=
  ∀ e row, xs[e]? = some row → row.length = ks.length ∧ ∀ o kd, ks[o]? = some kd → ∃ c, blk[base + e * ks.length + o]? = some c ∧ KR kd (row.getD o 0) c

def ObR (ι : Nat → Pl) (S : Nat → Shp) (w : World) (id : Nat) (ob : Ob) : Prop :=
  match ob.c with
  | .dead => True
  | .box cs => ∃ b base room blk ty fz, ι id = .on b base room ∧ w.heap[b]? = some (.cells blk ty fz) ∧ base + room ≤ blk.size ∧ cs.length ≤ room ∧
      (ob.own = true → fz = (0, 0)) ∧ ∀ j a, cs[j]? = some a → ∃ c, blk[base + j]? = some c ∧ AR ι S a c
  | .rows ks xs => (ι id = .empty ∧ xs = []) ∨
      ∃ b base room blk ty fz, ι id = .on b base room ∧ w.heap[b]? = some (.cells blk ty fz) ∧ base + room ≤ blk.size ∧
        (ob.own = true → fz = (0, 0) ∧ base = 0 ∧ blk.size = room) ∧ RowsR blk base ks xs

def HR (ι : Nat → Pl) (hp : List Ob) (w : World) : Prop :=
  ∀ id ob, hp[id]? = some ob → ι id ≠ .off → ObR ι (shp hp) w id ob

def Ob.live (ob : Ob) : Prop := shpOb ob ≠ .no

def INJ (ι : Nat → Pl) (hp : List Ob) : Prop :=
  ∀ i j oi oj b base room b' base' room', hp[i]? = some oi → hp[j]? = some oj → i ≠ j → oi.own = true → oi.live → oj.live →
    ι i = .on b base room → ι j = .on b' base' room' → b ≠ b'

/-! ### moving along -/
theorem PR.ext {ι ι' : Nat → Pl} {S S' : Nat → Shp} (h : ∀ id, S id ≠ .no → ι' id = ι id ∧ S' id = S id) {id e o : Nat} {c : Value} (hp : PR ι S id e o c) : PR ι' S' id e o c := by
  obtain ⟨b, base, room, h1, h2, h3⟩ := hp
  have hn : S id ≠ .no := by intro hh; rw [hh] at h3; exact h3
  obtain ⟨e1, e2⟩ := h id hn
  exact ⟨b, base, room, e1 ▸ h1, by rw [e2]; exact h2, by rw [e2]; exact h3⟩

theorem AR.ext {ι ι' : Nat → Pl} {S S' : Nat → Shp} (h : ∀ id, S id ≠ .no → ι' id = ι id ∧ S' id = S id) {a : A} {c : Value} (ha : AR ι S a c) : AR ι' S' a c := by
  cases a with
  | undef => trivial
  | void => exact ha
  | bool b => exact ha
  | int k n => exact ha
  | fl k x => exact ha
  | raw k x => exact ha
  | ptr id e o => exact PR.ext h ha
  | sl id =>
    obtain ⟨ks, n, h1, h2⟩ := ha
    obtain ⟨e1, e2⟩ := h id (by rw [h1]; simp)
    refine ⟨ks, n, by rw [e2]; exact h1, ?_⟩
    rw [e1]; exact h2
  | sub id st len cap =>
    obtain ⟨ks, n, h1, h2⟩ := ha
    obtain ⟨e1, e2⟩ := h id (by rw [h1]; simp)
    refine ⟨ks, n, by rw [e2]; exact h1, ?_⟩
    rw [e1]; exact h2
  | nil => exact ha
  | fn f caps =>
    obtain ⟨cs, h1, h2⟩ := ha
    exact ⟨cs, h1, h2.imp fun _ _ hp => PR.ext h hp⟩

theorem TR.of {ι ι' : Nat → Pl} {S S' : Nat → Shp} (h : ∀ a c, AR ι S a c → AR ι' S' a c) {x : Bool × List A} {c : Value} (hx : TR ι S x c) : TR ι' S' x c := by
  obtain ⟨f, as⟩ := x
  cases f with
  | true => obtain ⟨cs, h1, h2⟩ := hx; exact ⟨cs, h1, h2.imp h⟩
  | false =>
    match as, hx with
    | [a], hx => exact h _ _ hx
    | [], hx => exact hx.elim
    | _ :: _ :: _, hx => exact hx.elim

theorem VR.of {ι ι' : Nat → Pl} {S S' : Nat → Shp} (h : ∀ a c, AR ι S a c → AR ι' S' a c) {v : V} {c : Value} (hv : VR ι S v c) : VR ι' S' v c := by
  cases v with
  | «at» a => exact h _ _ hv
  | agg as => obtain ⟨cs, h1, h2⟩ := hv; exact ⟨cs, h1, h2.imp h⟩
  | tup xs => obtain ⟨cs, h1, h2⟩ := hv; exact ⟨cs, h1, h2.imp fun _ _ => TR.of h⟩

theorem VR.ext {ι ι' : Nat → Pl} {S S' : Nat → Shp} (h : ∀ id, S id ≠ .no → ι' id = ι id ∧ S' id = S id) {v : V} {c : Value} (hv : VR ι S v c) : VR ι' S' v c :=
  VR.of (fun _ _ => AR.ext h) hv

/-! ### renaming -/
theorem PR.ren {ι ι' : Nat → Pl} {S S' : Nat → Shp} {m : Nat → Option Nat} (h : ∀ id j, m id = some j → S id ≠ .no → ι' j = ι id ∧ S' j = S id) {id j e o : Nat} {c : Value}
    (hm : m id = some j) (hp : PR ι S id e o c) : PR ι' S' j e o c := by
  obtain ⟨b, base, room, h1, h2, h3⟩ := hp
  have hn : S id ≠ .no := by intro hh; rw [hh] at h3; exact h3
  obtain ⟨e1, e2⟩ := h id j hm hn
  exact ⟨b, base, room, e1 ▸ h1, by rw [e2]; exact h2, by rw [e2]; exact h3⟩

theorem caps_ren {ι ι' : Nat → Pl} {S S' : Nat → Shp} {m : Nat → Option Nat} (h : ∀ id j, m id = some j → S id ≠ .no → ι' j = ι id ∧ S' j = S id) :
    ∀ {caps caps' : List (Nat × Nat × Nat)} {cs : List Value}, renCaps m caps = some caps' → F2 (fun p c => PR ι S p.1 p.2.1 p.2.2 c) caps cs →
      F2 (fun p c => PR ι' S' p.1 p.2.1 p.2.2 c) caps' cs
  | [], caps', [], hr, _ => by simp [renCaps] at hr; subst hr; trivial
  | (i, e, o) :: t, caps', c :: cs, hr, ⟨h1, h2⟩ => by
    simp only [renCaps] at hr
    cases hm : m i with
    | none => simp [hm] at hr
    | some j =>
      cases ht : renCaps m t with
      | none => simp [hm, ht] at hr
      | some t' =>
        simp [hm, ht] at hr
        subst hr
        exact ⟨PR.ren h hm h1, caps_ren h ht h2⟩
  | [], _, _ :: _, _, h => h.elim
  | _ :: _, _, [], _, h => h.elim

theorem AR.ren {ι ι' : Nat → Pl} {S S' : Nat → Shp} {m : Nat → Option Nat} (h : ∀ id j, m id = some j → S id ≠ .no → ι' j = ι id ∧ S' j = S id) {a : A} {c : Value}
    (ha : AR ι S a c) : AR ι' S' (a.ren m) c := by
  cases a with
  | undef => trivial
  | void => exact ha
  | bool b => exact ha
  | int k n => exact ha
  | fl k x => exact ha
  | raw k x => exact ha
  | ptr id e o =>
    simp only [A.ren]
    cases hm : m id with
    | none => trivial
    | some j => exact PR.ren h hm ha
  | sl id =>
    simp only [A.ren]
    cases hm : m id with
    | none => trivial
    | some j =>
      obtain ⟨ks, n, h1, h2⟩ := ha
      obtain ⟨e1, e2⟩ := h id j hm (by rw [h1]; simp)
      refine ⟨ks, n, by rw [e2]; exact h1, ?_⟩
      rw [e1]; exact h2
  | sub id st len cap =>
    simp only [A.ren]
    cases hm : m id with
    | none => trivial
    | some j =>
      obtain ⟨ks, n, h1, h2⟩ := ha
      obtain ⟨e1, e2⟩ := h id j hm (by rw [h1]; simp)
      refine ⟨ks, n, by rw [e2]; exact h1, ?_⟩
      rw [e1]; exact h2
  | nil => exact ha
  | fn f caps =>
    simp only [A.ren]
    obtain ⟨cs, h1, h2⟩ := ha
    cases hr : renCaps m caps with
    | none => trivial
    | some caps' => exact ⟨cs, h1, caps_ren h hr h2⟩

theorem VR.ren {ι ι' : Nat → Pl} {S S' : Nat → Shp} {m : Nat → Option Nat} (h : ∀ id j, m id = some j → S id ≠ .no → ι' j = ι id ∧ S' j = S id) {v : V} {c : Value}
    (hv : VR ι S v c) : VR ι' S' (v.ren m) c := by
  cases v with
  | «at» a => exact AR.ren h hv
  | agg as =>
    obtain ⟨cs, h1, h2⟩ := hv
    exact ⟨cs, h1, F2.map_left (f := A.ren m) (fun _ _ hab => AR.ren h hab) h2⟩
  | tup xs =>
    obtain ⟨cs, h1, h2⟩ := hv
    refine ⟨cs, h1, F2.map_left (fun x c hx => ?_) h2⟩
    obtain ⟨f, as⟩ := x
    cases f with
    | true => obtain ⟨cs, h1, h2⟩ := hx; exact ⟨cs, h1, F2.map_left (f := A.ren m) (fun _ _ hab => AR.ren h hab) h2⟩
    | false =>
      match as, hx with
      | [a], hx => exact AR.ren h hx
      | [], hx => exact hx.elim
      | _ :: _ :: _, hx => exact hx.elim

/-! ### forgetting one object -/
theorem hasId_iff (i : Nat) : ∀ l : List Nat, hasId i l = true ↔ i ∈ l
  | [] => by simp [hasId]
  | j :: t => by
    simp only [hasId]
    by_cases h : i = j
    · subst h; simp
    · have : Nat.beq i j = false := by cases hb : Nat.beq i j with | false => rfl | true => exact absurd (Nat.eq_of_beq_eq_true hb) h
      simp [this, hasId_iff i t, h]

theorem F2.caps_mem {ι ι' : Nat → Pl} {S S' : Nat → Shp} {i : Nat} (h : ∀ id, id ≠ i → S id ≠ .no → ι' id = ι id ∧ S' id = S id) :
    ∀ {caps : List (Nat × Nat × Nat)} {cs : List Value}, ¬ i ∈ caps.map (·.1) → F2 (fun p c => PR ι S p.1 p.2.1 p.2.2 c) caps cs → F2 (fun p c => PR ι' S' p.1 p.2.1 p.2.2 c) caps cs
  | [], [], _, _ => trivial
  | (j, e, o) :: t, c :: cs, hn, ⟨h1, h2⟩ => by
    simp at hn
    refine ⟨?_, F2.caps_mem h (by simpa using hn.2) h2⟩
    obtain ⟨b, base, room, p1, p2, p3⟩ := h1
    have hne : S j ≠ .no := by intro hh; simp only at p3; rw [hh] at p3; exact p3
    obtain ⟨e1, e2⟩ := h j (fun e => hn.1 e.symm) hne
    exact ⟨b, base, room, e1 ▸ p1, by rw [e2]; exact p2, by rw [e2]; exact p3⟩
  | [], _ :: _, _, h => h.elim
  | _ :: _, [], _, h => h.elim

theorem AR.kill {ι ι' : Nat → Pl} {S S' : Nat → Shp} {i : Nat} (h : ∀ id, id ≠ i → S id ≠ .no → ι' id = ι id ∧ S' id = S id) {a : A} {c : Value}
    (ha : AR ι S a c) : AR ι' S' (a.kill i) c := by
  unfold A.kill
  cases hh : hasId i a.ids with
  | true => trivial
  | false =>
    have hn : ¬ i ∈ a.ids := fun hm => by rw [(hasId_iff i a.ids).2 hm] at hh; cases hh
    cases a with
    | undef => trivial
    | void => exact ha
    | bool b => exact ha
    | int k n => exact ha
    | fl k x => exact ha
    | raw k x => exact ha
    | ptr id e o =>
      simp [A.ids] at hn
      obtain ⟨b, base, room, p1, p2, p3⟩ := ha
      have hne : S id ≠ .no := by intro hh; rw [hh] at p3; exact p3
      obtain ⟨e1, e2⟩ := h id (fun e => hn e.symm) hne
      exact ⟨b, base, room, e1 ▸ p1, by rw [e2]; exact p2, by rw [e2]; exact p3⟩
    | sl id =>
      simp [A.ids] at hn
      obtain ⟨ks, n, h1, h2⟩ := ha
      obtain ⟨e1, e2⟩ := h id (fun e => hn e.symm) (by rw [h1]; simp)
      refine ⟨ks, n, by rw [e2]; exact h1, ?_⟩
      rw [e1]; exact h2
    | sub id st len cap =>
      simp [A.ids] at hn
      obtain ⟨ks, n, h1, h2⟩ := ha
      obtain ⟨e1, e2⟩ := h id (fun e => hn e.symm) (by rw [h1]; simp)
      refine ⟨ks, n, by rw [e2]; exact h1, ?_⟩
      rw [e1]; exact h2
    | nil => exact ha
    | fn f caps =>
      obtain ⟨cs, h1, h2⟩ := ha
      exact ⟨cs, h1, F2.caps_mem h hn h2⟩

theorem VR.kill {ι ι' : Nat → Pl} {S S' : Nat → Shp} {i : Nat} (h : ∀ id, id ≠ i → S id ≠ .no → ι' id = ι id ∧ S' id = S id) {v : V} {c : Value}
    (hv : VR ι S v c) : VR ι' S' (v.kill i) c := by
  cases v with
  | «at» a => exact AR.kill h hv
  | agg as =>
    obtain ⟨cs, h1, h2⟩ := hv
    exact ⟨cs, h1, F2.map_left (f := A.kill i) (fun _ _ hab => AR.kill h hab) h2⟩
  | tup xs =>
    obtain ⟨cs, h1, h2⟩ := hv
    refine ⟨cs, h1, F2.map_left (fun x c hx => ?_) h2⟩
    obtain ⟨f, as⟩ := x
    cases f with
    | true => obtain ⟨cs, h1, h2⟩ := hx; exact ⟨cs, h1, F2.map_left (f := A.kill i) (fun _ _ hab => AR.kill h hab) h2⟩
    | false =>
      match as, hx with
      | [a], hx => exact AR.kill h hx
      | [], hx => exact hx.elim
      | _ :: _ :: _, hx => exact hx.elim

/-! ### cells -/
theorem ofK_AR {ι : Nat → Pl} {S : Nat → Shp} {kd : K} {n : Int} {c : Value} (h : KR kd n c) : AR ι S (ofK kd n) c := by
  cases kd with
  | f k => exact h
  | i k => exact h
  | b => obtain ⟨b, rfl, rfl⟩ := h; cases b <;> rfl

theorem aInt_KR {ι : Nat → Pl} {S : Nat → Shp} {a : A} {kd : K} {n : Int} {c : Value} (h : aInt a = some (kd, n)) (ha : AR ι S a c) : KR kd n c := by
  cases a <;> simp [aInt] at h
  case bool b => obtain ⟨rfl, rfl⟩ := h; exact ⟨b, ha, rfl⟩
  case int k m => obtain ⟨rfl, rfl⟩ := h; exact ha
  case fl k x => obtain ⟨rfl, rfl⟩ := h; exact ha

theorem aInts_KR {ι : Nat → Pl} {S : Nat → Shp} : ∀ {ks : List K} {as : List A} {ns : List Int} {cs : List Value}, aInts ks as = some ns → F2 (AR ι S) as cs →
    ns.length = ks.length ∧ cs.length = ks.length ∧ ∀ o kd, ks[o]? = some kd → ∃ c, cs[o]? = some c ∧ KR kd (ns.getD o 0) c
  | [], [], ns, [], h, _ => by simp [aInts] at h; subst h; simp
  | k :: ks, a :: as, ns, c :: cs, h, ⟨h1, h2⟩ => by
    simp only [aInts] at h
    cases ha : aInt a with
    | none => simp [ha] at h
    | some p =>
      obtain ⟨k', n⟩ := p
      simp only [ha] at h
      by_cases hk : k = k'
      · subst hk
        cases ht : aInts ks as with
        | none => simp [ht] at h
        | some t =>
          simp [ht] at h
          subst h
          obtain ⟨l1, l2, l3⟩ := aInts_KR ht h2
          refine ⟨by simp [l1], by simp [l2], fun o kd ho => ?_⟩
          cases o with
          | zero => simp at ho; subst ho; exact ⟨c, by simp, by simpa using aInt_KR ha h1⟩
          | succ o => simp at ho; obtain ⟨d, hd, hr⟩ := l3 o kd ho; exact ⟨d, by simpa using hd, by simpa using hr⟩
      · simp [hk] at h
  | [], _ :: _, _, _, h, _ => by simp [aInts] at h
  | _ :: _, [], _, _, h, _ => by simp [aInts] at h
  | [], [], _, _ :: _, _, h => h.elim
  | _ :: _, _ :: _, _, [], _, h => h.elim

theorem rowA_length : ∀ (ks : List K) (j : Nat) (r : List Int), (rowA ks j r).length = ks.length
  | [], _, _ => rfl
  | _ :: t, j, r => by simp [rowA, rowA_length t (j + 1) r]

theorem rowA_get : ∀ (ks : List K) (j : Nat) (r : List Int) (o : Nat) (kd : K), ks[o]? = some kd → (rowA ks j r)[o]? = some (ofK kd (r.getD (j + o) 0))
  | [], _, _, _, _, h => by simp at h
  | k :: t, j, r, 0, kd, h => by simp at h; subst h; simp [rowA]
  | k :: t, j, r, o + 1, kd, h => by
    simp at h
    have := rowA_get t (j + 1) r o kd h
    simp only [rowA, List.getElem?_cons_succ, this]
    rw [show j + 1 + o = j + (o + 1) by omega]

#print axioms VR.kill
end Go.Fx
