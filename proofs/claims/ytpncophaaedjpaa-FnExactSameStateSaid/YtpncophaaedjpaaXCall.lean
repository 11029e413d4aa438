/- Calls: a callee sees its arguments' objects under numbers of its own. -/
import Derived.Test.YtpncophaaedjpaaXMem7
namespace Go.Fx
variable {P : Program} {ty : Nat → Option TI} {sl : List V} {hp : List Ob}

def CallsV (P : Program) (f : FuncId) (cs : Array Value) (w : World) (R : Value → World → Prop) : Prop :=
  match (callFunc f cs).run P w with
  | .ok (.enter g as) w1 => Calls P g as w1 fun e w' => ∃ c, e = .returned c ∧ R c w'
  | .ok (.value c) w' => R c w'
  | _ => False

theorem CallsV.mono {f : FuncId} {cs : Array Value} {w : World} {R R' : Value → World → Prop} (h : CallsV P f cs w R) (hr : ∀ c w', R c w' → R' c w') : CallsV P f cs w R' := by
  unfold CallsV at *
  split
  · rename_i g as w1 he
    rw [he] at h
    exact h.mono fun e w' ⟨c, h1, h2⟩ => ⟨c, h1, hr c w' h2⟩
  · rename_i c w1 he
    rw [he] at h
    exact hr _ _ h
  · rename_i h1 h2
    split at h
    · rename_i he; exact absurd he (h1 _ _ _)
    · rename_i he; exact absurd he (h2 _ _)
    · exact h

/-- What a function that changes nothing does. -/
def Holds (P : Program) (f : FuncId) (args : List V) (h : List Ob) (r : V) (news : List Ob) : Prop :=
  ∀ (ι : Nat → Pl) (w : World) (cs : Array Value), F2 (VR ι (shp h)) args cs.toList → HR ι h w →
    CallsV P f cs w fun c w' => ∃ ι', Grow ι ι' h news w w' ∧ VR ι' (shp (h ++ news)) r c ∧ HR ι' (h ++ news) w'

theorem wp_call {o : Oper} {a : Act} {w : World} {f : FuncId} {cs : Array Value} {R : Value → World → Prop} {K : Act → World → Prop} {Q : Exit → Act → World → Prop}
    (hr : (execOp a.eval o).run P w = (callFunc f cs).run P w) (h : CallsV P f cs w R) (hk : ∀ c w', R c w' → K (a.put o.dst c) w') : o.wp P a w K Q := by
  unfold Oper.wp
  rw [hr]
  unfold CallsV at h
  split at h
  · rename_i g as w1 he
    rw [he, Oper.upon_enter]
    exact h.mono fun e w' ⟨c, h1, h2⟩ => by subst h1; exact hk c w' h2
  · rename_i c w1 he
    rw [he, Oper.upon_value]
    exact hk _ _ h
  · exact h.elim

/-! ### numbers and lists of numbers -/
theorem idx_get : ∀ {i : Nat} {l : List Nat} {j : Nat}, idx i l = some j → l[j]? = some i
  | i, [], j, h => by simp [idx] at h
  | i, k :: t, j, h => by
    simp only [idx] at h
    cases hb : Nat.beq i k with
    | true => simp [hb] at h; subst h; rw [Nat.eq_of_beq_eq_true hb]; rfl
    | false =>
      simp only [hb] at h
      cases ht : idx i t with
      | none => simp [ht] at h
      | some n => simp [ht] at h; subst h; simpa using idx_get ht

def pickOb (hp : List Ob) (m : Nat → Option Nat) (ro : Bool) (i : Nat) : Ob :=
  match hp[i]? with
  | some ob => (match ro with | true => { ob.ren m with own := false } | false => ob.ren m)
  | none => ⟨false, .dead⟩

theorem pick_eq (hp : List Ob) (m : Nat → Option Nat) (ro : Bool) : ∀ ids, pick hp m ro ids = ids.map (pickOb hp m ro)
  | [] => rfl
  | i :: t => by simp only [pick, List.map_cons, pick_eq hp m ro t]; rfl

theorem shpOb_ren (m : Nat → Option Nat) (ob : Ob) : shpOb (ob.ren m) = shpOb ob := by
  obtain ⟨own, c⟩ := ob; cases c <;> rfl
theorem own_ren (m : Nat → Option Nat) (ob : Ob) : (ob.ren m).own = ob.own := by
  obtain ⟨own, c⟩ := ob; cases c <;> rfl

theorem ObR.ren {ι ι' : Nat → Pl} {S S' : Nat → Shp} {m : Nat → Option Nat} {w : World} {id id' : Nat} {ob : Ob} (h : ∀ i j, m i = some j → S i ≠ .no → ι' j = ι i ∧ S' j = S i) (hid : ι' id' = ι id)
    (hob : ObR ι S w id ob) : ObR ι' S' w id' (ob.ren m) := by
  obtain ⟨own, c⟩ := ob
  cases c with
  | dead => trivial
  | box cs =>
    obtain ⟨b, base, room, blk, t, fz, h1, h2, h3, h4, h5, h6⟩ := hob
    refine ⟨b, base, room, blk, t, fz, hid ▸ h1, h2, h3, by simpa using h4, h5, fun j a ha => ?_⟩
    rw [List.getElem?_map] at ha
    cases hc : cs[j]? with
    | none => simp [hc] at ha
    | some a' =>
      simp [hc] at ha
      subst ha
      obtain ⟨c, e1, e2⟩ := h6 j a' hc
      exact ⟨c, e1, AR.ren h e2⟩
  | rows ks xs =>
    rcases hob with ⟨h1, h2⟩ | ⟨b, base, room, blk, t, fz, h1, h2⟩
    · exact .inl ⟨hid ▸ h1, h2⟩
    · exact .inr ⟨b, base, room, blk, t, fz, hid ▸ h1, h2⟩

theorem ObR.ro {ι : Nat → Pl} {S : Nat → Shp} {w : World} {id : Nat} {ob : Ob} (h : ObR ι S w id ob) : ObR ι S w id { ob with own := false } := by
  obtain ⟨own, c⟩ := ob
  cases c with
  | dead => trivial
  | box cs =>
    obtain ⟨b, base, room, blk, t, fz, h1, h2, h3, h4, h5, h6⟩ := h
    exact ⟨b, base, room, blk, t, fz, h1, h2, h3, h4, (fun h => by cases h), h6⟩
  | rows ks xs =>
    rcases h with h | ⟨b, base, room, blk, t, fz, h1, h2, h3, h4, h5⟩
    · exact .inl h
    · exact .inr ⟨b, base, room, blk, t, fz, h1, h2, h3, (fun h => by cases h), h5⟩

/-- The callee's objects. -/
theorem pick_HR {ι : Nat → Pl} {w : World} {ids : List Nat} {ro : Bool} (h : HR ι hp w) (m : Nat → Option Nat) (hm : ∀ i j, m i = some j → ids[j]? = some i) :
    HR (fun j => match ids[j]? with | some i => ι i | none => .off) (pick hp m ro ids) w ∧
    ∀ i j, m i = some j → shp hp i ≠ .no → (fun j => match ids[j]? with | some i => ι i | none => Pl.off) j = ι i ∧ shp (pick hp m ro ids) j = shp hp i := by
  have key : ∀ i j, m i = some j → shp hp i ≠ .no → (fun j => match ids[j]? with | some i => ι i | none => Pl.off) j = ι i ∧ shp (pick hp m ro ids) j = shp hp i := by
    intro i j hij hn
    have hj := hm i j hij
    refine ⟨by simp [hj], ?_⟩
    unfold shp
    rw [pick_eq, List.getElem?_map, hj]
    unfold shp at hn
    cases ho : hp[i]? with
    | none => simp [ho] at hn
    | some ob =>
      simp only [Option.map_some, pickOb, ho]
      cases ro with
      | true => exact shpOb_ren m ob
      | false => exact shpOb_ren m ob
  refine ⟨fun j ob hj hoff => ?_, key⟩
  rw [pick_eq, List.getElem?_map] at hj
  cases hi : ids[j]? with
  | none => simp [hi] at hj
  | some i =>
    simp [hi] at hj hoff
    subst hj
    unfold pickOb
    cases ho : hp[i]? with
    | none => trivial
    | some ob0 =>
      have hob := h i ob0 ho hoff
      have hr := hob.ren (ι' := fun j => match ids[j]? with | some i => ι i | none => Pl.off) (S' := shp (pick hp m ro ids)) (id' := j) key (by simp [hi])
      cases ro with
      | true => exact hr.ro
      | false => exact hr

/-! ### looking at parts as wholes -/
structure Views (ι ι' : Nat → Pl) (hp hp' : List Ob) (w : World) : Prop where
  pre : ∃ vs, hp' = hp ++ vs
  agree : ∀ id, id < hp.length → ι' id = ι id
  heap : HR ι' hp' w

theorem Views.refl {ι : Nat → Pl} {w : World} (h : HR ι hp w) : Views ι ι hp hp w := ⟨⟨[], by simp⟩, fun _ _ => rfl, h⟩

theorem Views.trans {ι ι' ι'' : Nat → Pl} {hp hp' hp'' : List Ob} {w : World} (h : Views ι ι' hp hp' w) (k : Views ι' ι'' hp' hp'' w) : Views ι ι'' hp hp'' w := by
  obtain ⟨⟨vs, rfl⟩, h2, _⟩ := h
  obtain ⟨⟨us, rfl⟩, k2, k3⟩ := k
  exact ⟨⟨vs ++ us, by simp⟩, fun id hid => (k2 id (by simp; omega)).trans (h2 id hid), k3⟩

theorem Views.ext {ι ι' : Nat → Pl} {hp hp' : List Ob} {w : World} (h : Views ι ι' hp hp' w) : ∀ id, shp hp id ≠ .no → ι' id = ι id ∧ shp hp' id = shp hp id := by
  obtain ⟨⟨vs, rfl⟩, h2, _⟩ := h
  intro id hn
  have hl := shp_lt hn
  exact ⟨h2 id hl, shp_append_lt hl⟩

/-- One more object over what is there already. -/
theorem Views.one {ι : Nat → Pl} {w : World} (h : HR ι hp w) (ob : Ob) (pl : Pl)
    (hob : ∀ ι', (∀ id, id < hp.length → ι' id = ι id) → ι' hp.length = pl → ObR ι' (shp (hp ++ [ob])) w hp.length ob) :
    ∃ ι', Views ι ι' hp (hp ++ [ob]) w ∧ ι' hp.length = pl := by
  have hag : ∀ id, id < hp.length → (fun id => if id = hp.length then pl else ι id) id = ι id := fun id hid => by simp [Nat.ne_of_lt hid]
  refine ⟨fun id => if id = hp.length then pl else ι id, ⟨⟨[ob], rfl⟩, hag, fun id ob' hi ho => ?_⟩, by simp⟩
  rcases Nat.lt_or_ge id hp.length with hid | hid
  · rw [List.getElem?_append_left hid] at hi
    have ho' : ι id ≠ .off := by simpa [Nat.ne_of_lt hid] using ho
    refine (h id ob' hi ho').ext (fun id' hn => ?_) (hag id hid) (fun _ _ _ _ _ => rfl)
    have hl := shp_lt hn
    exact ⟨hag id' hl, shp_append_lt hl⟩
  · have hlt : id < (hp ++ [ob]).length := by
      rcases Nat.lt_or_ge id (hp ++ [ob]).length with h' | h'
      · exact h'
      · rw [List.getElem?_eq_none h'] at hi; cases hi
    have : id = hp.length := by simp at hlt; omega
    subst this
    simp at hi
    subst hi
    exact hob _ hag (by simp)

theorem viewA_sound {ι : Nat → Pl} {w : World} {lk : Option (List K)} {a a' : A} {hp' : List Ob} {c : Value} (hv : viewA hp lk a = (a', hp')) (h : HR ι hp w) (ha : AR ι (shp hp) a c) :
    ∃ ι', Views ι ι' hp hp' w ∧ AR ι' (shp hp') a' c := by
  unfold viewA at hv
  split at hv
  · cases lk with
    | none => simp at hv; obtain ⟨rfl, rfl⟩ := hv; exact ⟨ι, Views.refl h, ha⟩
    | some ks =>
      simp at hv
      obtain ⟨rfl, rfl⟩ := hv
      obtain ⟨ι', h1, h2⟩ := Views.one h ⟨true, .rows ks []⟩ .empty (fun ι' _ hon => .inl ⟨hon, rfl⟩)
      obtain ⟨ad, rfl⟩ := ha
      exact ⟨ι', h1, ks, 0, by rw [shp_new]; rfl, .inl ⟨h2, rfl, ad, rfl⟩⟩
  · rename_i id st len cap
    split at hv
    · rename_i own ks xs ho
      simp at hv
      obtain ⟨rfl, rfl⟩ := hv
      obtain ⟨ks2, n, h1, hle, ad, cp, rfl, _, hml, hlc, h2⟩ := ha
      rw [shp_of ho] at h1
      simp only [shpOb, Shp.rows.injEq] at h1
      obtain ⟨rfl, rfl⟩ := h1
      have hlen : ((xs.drop st).take len).length = len := by simp; omega
      have hsh : shp (hp ++ [⟨false, .rows ks ((xs.drop st).take len)⟩]) hp.length = .rows ks len := by
        rw [shp_new]; simp only [shpOb, hlen]
      rcases h2 with h0 | ⟨b, base, room, hι, rfl, hroom⟩
      · have h00 : len = 0 := by omega
        obtain ⟨ι', v1, v2⟩ := Views.one h ⟨false, .rows ks ((xs.drop st).take len)⟩ .empty (fun ι' _ hon => .inl ⟨hon, by simp [h00]⟩)
        exact ⟨ι', v1, ks, len, hsh, .inl ⟨v2, h00, ad, by rw [h0, h00]⟩⟩
      · have hob := h id _ ho (by rw [hι]; simp)
        rcases hob with ⟨h4, _⟩ | ⟨b', base', room', blk, t, fz, h4, h5, h6, _, h7⟩
        · rw [hι] at h4; cases h4
        · rw [hι] at h4; cases h4
          have hsum : st * ks.length ≤ room := by
            rw [Nat.add_mul] at hroom; omega
          obtain ⟨ι', v1, v2⟩ := Views.one h ⟨false, .rows ks ((xs.drop st).take len)⟩ (.on b (base + st * ks.length) (room - st * ks.length)) (fun ι' _ hon =>
            .inr ⟨_, _, _, blk, t, fz, hon, h5, by omega, (fun h => by cases h), fun e row he => by
              rw [take_drop_get] at he
              split at he
              · obtain ⟨g1, g2⟩ := h7 (st + e) row he
                refine ⟨g1, fun o kd hok => ?_⟩
                obtain ⟨c, g3, g4⟩ := g2 o kd hok
                refine ⟨c, ?_, g4⟩
                rw [← g3]; congr 1
                rw [Nat.add_mul]; omega
              · cases he⟩)
          exact ⟨ι', v1, ks, len, hsh, .inr ⟨_, _, _, cp, v2, rfl, hlc, by rw [Nat.add_mul] at hroom; omega, hml⟩⟩
    · simp at hv
      obtain ⟨rfl, rfl⟩ := hv
      exact ⟨ι, Views.refl h, trivial⟩
  · simp at hv
    obtain ⟨rfl, rfl⟩ := hv
    exact ⟨ι, Views.refl h, ha⟩
end Go.Fx
