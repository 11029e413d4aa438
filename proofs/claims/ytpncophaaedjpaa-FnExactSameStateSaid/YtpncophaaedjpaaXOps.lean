/- Each calm operation does what the abstract interpreter says. -/
import Derived.Test.YtpncophaaedjpaaXSem
import Derived.Laws.Entries
import Derived.Laws.Cells
import Derived.Laws.CopyRow
import Derived.Laws.MakeOwn
namespace Go.Fx

/-- The world has grown: what was there is as it was. -/
structure WX (w w' : World) : Prop where
  os : w'.os = w.os
  tape : w'.tape = w.tape
  output : w'.output = w.output
  size : w.heap.size ≤ w'.heap.size
  block : ∀ k, k < w.heap.size → w'.heap[k]? = w.heap[k]?

theorem WX.refl (w : World) : WX w w := ⟨rfl, rfl, rfl, Nat.le_refl _, fun _ _ => rfl⟩
theorem WX.drewN (w : World) (n : Nat) : WX w (w.drewN n) := ⟨rfl, rfl, rfl, Nat.le_refl _, fun _ _ => rfl⟩
theorem WX.alloc (w : World) (o : Obj) : WX w (w.alloc o) :=
  ⟨rfl, rfl, rfl, by simp, fun k hk => by show (w.heap.push o)[k]? = _; rw [Array.getElem?_push, if_neg (by omega)]⟩
theorem WX.trans {a b c : World} (h : WX a b) (k : WX b c) : WX a c :=
  ⟨k.os.trans h.os, k.tape.trans h.tape, k.output.trans h.output, Nat.le_trans h.size k.size, fun i hi => (k.block i (Nat.lt_of_lt_of_le hi h.size)).trans (h.block i hi)⟩

theorem lt_of_heap {w : World} {b : Nat} {o : Obj} (h : w.heap[b]? = some o) : b < w.heap.size := (Array.getElem?_eq_some_iff.1 h).1

theorem ObR.ext {ι ι' : Nat → Pl} {S S' : Nat → Shp} {w w' : World} {id : Nat} {ob : Ob} (hs : ∀ id, S id ≠ .no → ι' id = ι id ∧ S' id = S id) (hid : ι' id = ι id)
    (hw : ∀ b base room, ι id = .on b base room → b < w.heap.size → w'.heap[b]? = w.heap[b]?) (h : ObR ι S w id ob) : ObR ι' S' w' id ob := by
  obtain ⟨own, c⟩ := ob
  cases c with
  | dead => trivial
  | box cs =>
    obtain ⟨b, base, room, blk, ty, fz, h1, h2, h3, h4, h5, h6⟩ := h
    exact ⟨b, base, room, blk, ty, fz, hid ▸ h1, by rw [hw b base room h1 (lt_of_heap h2)]; exact h2, h3, h4, h5, fun j a ha => let ⟨c, e1, e2⟩ := h6 j a ha; ⟨c, e1, AR.ext hs e2⟩⟩
  | rows ks xs =>
    rcases h with ⟨h1, h2⟩ | ⟨b, base, room, blk, ty, fz, h1, h2, h3, h4, h5⟩
    · exact .inl ⟨hid ▸ h1, h2⟩
    · exact .inr ⟨b, base, room, blk, ty, fz, hid ▸ h1, by rw [hw b base room h1 (lt_of_heap h2)]; exact h2, h3, h4, h5⟩

theorem HR.wx {ι : Nat → Pl} {hp : List Ob} {w w' : World} (h : HR ι hp w) (hw : WX w w') : HR ι hp w' :=
  fun id ob hi ho => (h id ob hi ho).ext (fun _ _ => ⟨rfl, rfl⟩) rfl fun _ _ _ _ hb => hw.block _ hb

/-! ### the program's types, as told -/
def AR0 (a : A) (c : Value) : Prop := ∀ ι S, AR ι S a c

def DR (P : Program) (t : TypeId) : D → Prop
  | .sc (.f k) => P.underlying t = some (.float k)
  | .sc (.i k) => P.underlying t = some (.int k)
  | .sc .b => P.underlying t = some .bool
  | .st fs => ∃ fields : Array Field, P.underlying t = some (.struct fields) ∧ fields.toList.map (fun f => (f.offset, f.type)) = fs ∧
      ∀ f ∈ fields.toList, ∃ i, P.info? f.type = some i ∧ i.size ≠ 0
  | .ar n e => P.underlying t = some (.array n e)
  | .sl e => P.underlying t = some (.slice e)
  | .oth => ∃ d, P.underlying t = some d ∧ (∀ f, d ≠ .struct f) ∧ ∀ n e, d ≠ .array n e

structure TIOK (P : Program) (t : TypeId) (i : TI) : Prop where
  info : ∃ inf z, P.info? t = some inf ∧ inf.size = i.size ∧ inf.bytes = i.bytes ∧ inf.zero = some z ∧ F2 AR0 i.zero z.cells.toList
  d : DR P t i.d
  ks : ∀ ks, i.ks = some ks → ks.length = i.size
  zl : i.zero.length = i.size

def TyOK (P : Program) (ty : Nat → Option TI) : Prop := ∀ t i, ty t = some i → TIOK P t i

def aggD : D → Bool
  | .st _ => true
  | .ar _ _ => true
  | _ => false

theorem run_isAgg {P : Program} {t : TypeId} {d : D} (h : DR P t d) (w : World) : (isAgg t).run P w = .ok (aggD d) w := by
  cases d with
  | sc k => cases k <;> (have h' := run_underlying h w; simp [isAgg, h', aggD])
  | st fs => obtain ⟨f, h1, _⟩ := h; have h' := run_underlying h1 w; simp [isAgg, h', aggD]
  | ar n e => have h' := run_underlying h w; simp [isAgg, h', aggD]
  | sl e => have h' := run_underlying h w; simp [isAgg, h', aggD]
  | oth =>
    obtain ⟨d, h1, h2, h3⟩ := h
    have h' := run_underlying h1 w
    cases d <;> first | exact absurd rfl (h2 _) | exact absurd rfl (h3 _ _) | simp [isAgg, h', aggD]

theorem run_sizeOf {P : Program} {t : TypeId} {inf : TypeInfo} (h : P.info? t = some inf) (w : World) : (sizeOf t).run P w = .ok inf.size w := by
  simp [sizeOf, typeInfo, h]
theorem run_zeroValue {P : Program} {t : TypeId} {inf : TypeInfo} {z : Value} (h : P.info? t = some inf) (hz : inf.zero = some z) (w : World) : (zeroValue t).run P w = .ok z w := by
  simp [zeroValue, typeInfo, h, hz]

/-! ### what a calm operation is -/
structure Grow (ι ι' : Nat → Pl) (hp news : List Ob) (w w' : World) : Prop where
  agree : ∀ id, id < hp.length → ι' id = ι id
  wx : WX w w'
  fresh : ∀ (i : Nat) (oi : Ob) (b base room : Nat), hp.length ≤ i → (hp ++ news)[i]? = some oi → oi.live → ι' i = .on b base room → w.heap.size ≤ b
  inj : ∀ (i j : Nat) (oi oj : Ob) (b base room b' base' room' : Nat), hp.length ≤ i → hp.length ≤ j → i ≠ j → (hp ++ news)[i]? = some oi → (hp ++ news)[j]? = some oj → oi.own = true → oi.live → oj.live →
    ι' i = .on b base room → ι' j = .on b' base' room' → b ≠ b'

def OpsR (ι : Nat → Pl) (S : Nat → Shp) (o : Oper) (sl : List V) (a : Act) : Prop := ∀ x, x ∈ o.op.operands → VR ι S (evA sl x) (a.eval x)

def CalmOp (P : Program) (o : Oper) (sl : List V) (hp : List Ob) (v : V) (news : List Ob) : Prop :=
  ∀ (ι : Nat → Pl) (a : Act) (w : World), OpsR ι (shp hp) o sl a → HR ι hp w →
    ∀ (K : Act → World → Prop) (Q : Exit → Act → World → Prop),
      (∀ ι' c w', Grow ι ι' hp news w w' → VR ι' (shp (hp ++ news)) v c → HR ι' (hp ++ news) w' → K (a.put o.dst c) w') → o.wp P a w K Q

theorem shp_append_lt {hp news : List Ob} {id : Nat} (h : id < hp.length) : shp (hp ++ news) id = shp hp id := by
  unfold shp; rw [List.getElem?_append_left h]

theorem shp_lt {hp : List Ob} {id : Nat} (h : shp hp id ≠ .no) : id < hp.length := by
  unfold shp at h
  rcases Nat.lt_or_ge id hp.length with h' | h'
  · exact h'
  · rw [List.getElem?_eq_none h'] at h; exact absurd rfl h

theorem Grow.none {ι : Nat → Pl} {hp : List Ob} {w w' : World} (h : WX w w') : Grow ι ι hp [] w w' := by
  refine ⟨fun _ _ => rfl, h, fun i oi b base room hi hg => ?_, fun i j oi oj b base room b' base' room' hi hj hij hg => ?_⟩
  · rw [List.append_nil, List.getElem?_eq_none hi] at hg; cases hg
  · rw [List.append_nil, List.getElem?_eq_none hi] at hg; cases hg

/-- A value, and the world as it was but for draws. -/
theorem calm_value {P : Program} {o : Oper} {sl : List V} {hp : List Ob} {v : V}
    (h : ∀ (ι : Nat → Pl) (a : Act) (w : World), OpsR ι (shp hp) o sl a → HR ι hp w → ∃ c n, (execOp a.eval o).run P w = .ok (.value c) (w.drewN n) ∧ VR ι (shp hp) v c) : CalmOp P o sl hp v [] := by
  intro ι a w hops hhr K Q hK
  obtain ⟨c, n, hr, hv⟩ := h ι a w hops hhr
  unfold Oper.wp
  rw [hr, Oper.upon_value]
  refine hK ι c _ (Grow.none (WX.drewN w n)) ?_ ?_
  · rw [List.append_nil]; exact hv
  · rw [List.append_nil]; exact hhr.wx (WX.drewN w n)

/-- A value, and a world that has grown. -/
theorem calm_wx {P : Program} {o : Oper} {sl : List V} {hp : List Ob} {v : V}
    (h : ∀ (ι : Nat → Pl) (a : Act) (w : World), OpsR ι (shp hp) o sl a → HR ι hp w → ∃ c w', (execOp a.eval o).run P w = .ok (.value c) w' ∧ WX w w' ∧ VR ι (shp hp) v c) : CalmOp P o sl hp v [] := by
  intro ι a w hops hhr K Q hK
  obtain ⟨c, w', hr, hx, hv⟩ := h ι a w hops hhr
  unfold Oper.wp
  rw [hr, Oper.upon_value]
  refine hK ι c _ (Grow.none hx) ?_ ?_
  · rw [List.append_nil]; exact hv
  · rw [List.append_nil]; exact hhr.wx hx

/-- A value, and one new object. -/
theorem calm_new {P : Program} {o : Oper} {sl : List V} {hp : List Ob} {v : V} {ob : Ob}
    (h : ∀ (ι : Nat → Pl) (a : Act) (w : World), OpsR ι (shp hp) o sl a → HR ι hp w → ∃ c w' pl, (execOp a.eval o).run P w = .ok (.value c) w' ∧ WX w w' ∧
      (∀ b base room, pl = .on b base room → w.heap.size ≤ b) ∧
      (∀ ι', (∀ id, id < hp.length → ι' id = ι id) → ι' hp.length = pl → VR ι' (shp (hp ++ [ob])) v c ∧ ObR ι' (shp (hp ++ [ob])) w' hp.length ob)) : CalmOp P o sl hp v [ob] := by
  intro ι a w hops hhr K Q hK
  obtain ⟨c, w', pl, hr, hx, hpl, hv⟩ := h ι a w hops hhr
  unfold Oper.wp
  rw [hr, Oper.upon_value]
  have hag : ∀ id, id < hp.length → (fun id => if id = hp.length then pl else ι id) id = ι id := fun id hid => by simp [Nat.ne_of_lt hid]
  obtain ⟨h1, h2⟩ := hv (fun id => if id = hp.length then pl else ι id) hag (by simp)
  have hlt : ∀ i oi, (hp ++ [ob])[i]? = some oi → i ≤ hp.length := fun i oi hg => by
    rcases Nat.lt_or_ge i (hp ++ [ob]).length with h' | h'
    · simp at h'; omega
    · rw [List.getElem?_eq_none h'] at hg; cases hg
  refine hK _ c _ ⟨hag, hx, ?_, ?_⟩ h1 ?_
  · intro i oi b base room' hi hg hl ho
    have hlen := hlt i oi hg
    have : i = hp.length := by omega
    subst this
    simp at ho
    exact hpl _ _ _ ho
  · intro i j oi oj b base room b' base' room' hi hj hij hg hg'
    have hli := hlt i oi hg
    have hlj := hlt j oj hg'
    omega
  · intro id ob' hi ho
    rcases Nat.lt_or_ge id hp.length with hid | hid
    · rw [List.getElem?_append_left hid] at hi
      have ho' : ι id ≠ .off := by simpa [Nat.ne_of_lt hid] using ho
      refine (hhr id ob' hi ho').ext (fun id' hn => ?_) (hag id hid) (fun b _ _ _ hb => hx.block b hb)
      have hl := shp_lt hn
      exact ⟨hag id' hl, shp_append_lt hl⟩
    · have hlen := hlt id ob' hi
      have : id = hp.length := by omega
      subst this
      simp at hi
      subst hi
      exact h2

theorem heap_alloc_at (w : World) (o : Obj) : (w.alloc o).heap[w.heap.size]? = some o := by show (w.heap.push _)[w.heap.size]? = _; simp

/-! ### values of operands -/
theorem conA_AR (ι : Nat → Pl) (S : Nat → Shp) (c : Value) : AR ι S (conA c) c := by
  unfold conA
  split
  · exact rfl
  · exact rfl
  · rename_i k b
    cases h : isNaNb k b with
    | true => trivial
    | false => exact ⟨b, rfl, by rw [cf_of_num h]⟩
  · exact ⟨none, rfl⟩
  · trivial

theorem F2.map_self {α β : Type} {R : α → β → Prop} {f : β → α} (h : ∀ b, R (f b) b) : ∀ l : List β, F2 R (l.map f) l
  | [] => trivial
  | b :: l => ⟨h b, F2.map_self h l⟩

theorem conV_VR (ι : Nat → Pl) (S : Nat → Shp) (c : Value) : VR ι S (conV c) c := by
  unfold conV
  split
  · rename_i cs; exact ⟨cs, rfl, F2.map_self (conA_AR ι S) _⟩
  · exact conA_AR ι S c

/-- Slots give operands. -/
theorem evA_VR {ι : Nat → Pl} {S : Nat → Shp} {sl : List V} {a : Act} (h : F2 (VR ι S) sl a.tmps.toList) (x : Operand) : VR ι S (evA sl x) (a.eval x) := by
  cases x with
  | tmp t =>
    simp only [evA, Act.eval]
    cases hs : sl[t]? with
    | some v =>
      obtain ⟨c, hc, hr⟩ := h.get t v hs
      rw [List.getD_eq_getElem?_getD, hs]
      rw [Array.getD_eq_getD_getElem?, ← Array.getElem?_toList, hc]
      exact hr
    | none =>
      have hl := h.length
      have : a.tmps.toList[t]? = none := by
        rw [List.getElem?_eq_none_iff] at hs ⊢
        omega
      rw [List.getD_eq_getElem?_getD, hs]
      rw [Array.getD_eq_getD_getElem?, ← Array.getElem?_toList, this]
      exact rfl
  | const v => exact conV_VR ι S v
  | global g => trivial
  | func f => exact ⟨#[], rfl, trivial⟩

theorem AR.one {ι : Nat → Pl} {S : Nat → Shp} {a : A} {c : Value} (hk : a.known = true) (h : AR ι S a c) : c.oneCell' = true ∧ c.cells = #[c] := by
  cases a with
  | undef => cases hk
  | void => cases hk
  | bool b => obtain rfl := h; exact ⟨rfl, rfl⟩
  | int k n => obtain rfl := h; exact ⟨rfl, rfl⟩
  | fl k x => obtain ⟨b, rfl, _⟩ := h; exact ⟨rfl, rfl⟩
  | raw k x => obtain ⟨b, rfl, _⟩ := h; exact ⟨rfl, rfl⟩
  | ptr id e o => obtain ⟨b, base, room, _, rfl, _⟩ := h; exact ⟨rfl, rfl⟩
  | sl id =>
    obtain ⟨ks, n, _, ⟨_, _, a, rfl⟩ | ⟨b, base, room, cap, _, rfl, _⟩⟩ := h
    · exact ⟨rfl, rfl⟩
    · exact ⟨rfl, rfl⟩
  | sub id st len cap => obtain ⟨ks, n, _, _, a, cp, rfl, _⟩ := h; exact ⟨rfl, rfl⟩
  | nil => obtain ⟨a, rfl⟩ := h; exact ⟨rfl, rfl⟩
  | fn f caps => obtain ⟨cs, rfl, _⟩ := h; exact ⟨rfl, rfl⟩

theorem allKnown_mem : ∀ {as : List A}, allKnown as = true → ∀ a ∈ as, a.known = true
  | [], _, a, h => by cases h
  | b :: t, hk, a, h => by
    simp only [allKnown] at hk
    cases hb : b.known with
    | false => simp [hb] at hk
    | true =>
      simp [hb] at hk
      cases h with
      | head => exact hb
      | tail _ h => exact allKnown_mem hk a h

theorem F2.mem_right {α β : Type} {R : α → β → Prop} : ∀ {as : List α} {bs : List β}, F2 R as bs → ∀ b ∈ bs, ∃ a ∈ as, R a b
  | [], [], _, b, h => by cases h
  | x :: as, y :: bs, ⟨h1, h2⟩, b, h => by
    cases h with
    | head => exact ⟨x, by simp, h1⟩
    | tail _ h => obtain ⟨a, ha, hr⟩ := F2.mem_right h2 b h; exact ⟨a, by simp [ha], hr⟩
  | [], _ :: _, h, _, _ => h.elim
  | _ :: _, [], h, _, _ => h.elim

theorem V.cells_F2 {ι : Nat → Pl} {S : Nat → Shp} {v : V} {c : Value} {as : List A} (hc : v.cells = some as) (hv : VR ι S v c) :
    F2 (AR ι S) as c.cells.toList ∧ (∀ u ∈ c.cells.toList, u.oneCell' = true) := by
  cases v with
  | «at» a =>
    simp only [V.cells] at hc
    cases hk : a.known with
    | false => simp [hk] at hc
    | true =>
      simp [hk] at hc
      subst hc
      obtain ⟨h1, h2⟩ := AR.one hk hv
      rw [h2]
      exact ⟨⟨hv, trivial⟩, by simpa using h1⟩
  | agg bs =>
    simp only [V.cells] at hc
    cases hk : allKnown bs with
    | false => simp [hk] at hc
    | true =>
      simp [hk] at hc
      subst hc
      obtain ⟨cs, rfl, h⟩ := hv
      refine ⟨h, fun u hu => ?_⟩
      obtain ⟨a, ha, hr⟩ := h.mem_right u hu
      exact (AR.one (allKnown_mem hk a ha) hr).1
  | tup xs => simp [V.cells] at hc
end Go.Fx
