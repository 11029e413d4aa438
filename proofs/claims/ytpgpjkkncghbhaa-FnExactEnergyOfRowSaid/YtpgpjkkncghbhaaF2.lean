/- What the other texts of this claim stand on: an evaluator of loaded code, and floats. -/
import Derived.LoopN
import Derived.Laws.Sem
import Derived.Lib.LazyBuf
import Derived.ProofKit
import Derived.Laws.Cover2
import Derived.Laws.Runes
import Derived.ChangeShapes
import Derived.DataReads
import Derived.DataElems
import Derived.Test.YtpgpjkkncghbhaaF1
/- Calls: a callee sees its arguments' objects under numbers of its own. -/
namespace Go.Fx
variable {P : Program} {ty : Nat → Option TI} {sl : List V} {hp : List Ob}

def CallsV (P : Program) (f : FuncId) (cs : Array Value) (w : World) (R : Value → World → Prop) : Prop :=
  match (callFunc f cs).run P w with
  | .ok (.enter g as) w1 => Calls P g as w1 fun e w' => ∃ c, e = .returned c ∧ R c w'
  | .ok (.value c) w' => R c w'
  | _ => False

theorem CallsV.mono {f : FuncId} {cs : Array Value} {w : World} {R R' : Value → World → Prop} (h : CallsV P f cs w R) (hr : ∀ c w', R c w' → R' c w') : CallsV P f cs w R' := by
  unfold CallsV at *
  split
  · rename_i g as w1 he
    rw [he] at h
    exact h.mono fun e w' ⟨c, h1, h2⟩ => ⟨c, h1, hr c w' h2⟩
  · rename_i c w1 he
    rw [he] at h
    exact hr _ _ h
  · rename_i h1 h2
    split at h
    · rename_i he; exact absurd he (h1 _ _ _)
    · rename_i he; exact absurd he (h2 _ _)
    · exact h

/-- What a function that changes nothing does. -/
def Holds (P : Program) (f : FuncId) (args : List V) (h : List Ob) (r : V) (news : List Ob) : Prop :=
  ∀ (ι : Nat → Pl) (w : World) (cs : Array Value), F2 (VR ι (shp h)) args cs.toList → HR ι h w →
    CallsV P f cs w fun c w' => ∃ ι', Grow ι ι' h news w w' ∧ VR ι' (shp (h ++ news)) r c ∧ HR ι' (h ++ news) w'

theorem wp_call {o : Oper} {a : Act} {w : World} {f : FuncId} {cs : Array Value} {R : Value → World → Prop} {K : Act → World → Prop} {Q : Exit → Act → World → Prop}
    (hr : (execOp a.eval o).run P w = (callFunc f cs).run P w) (h : CallsV P f cs w R) (hk : ∀ c w', R c w' → K (a.put o.dst c) w') : o.wp P a w K Q := by
  unfold Oper.wp
  rw [hr]
  unfold CallsV at h
  split at h
  · rename_i g as w1 he
    rw [he, Oper.upon_enter]
    exact h.mono fun e w' ⟨c, h1, h2⟩ => by subst h1; exact hk c w' h2
  · rename_i c w1 he
    rw [he, Oper.upon_value]
    exact hk _ _ h
  · exact h.elim

/-! ### numbers and lists of numbers -/
theorem idx_get : ∀ {i : Nat} {l : List Nat} {j : Nat}, idx i l = some j → l[j]? = some i
  | i, [], j, h => by simp [idx] at h
  | i, k :: t, j, h => by
    simp only [idx] at h
    cases hb : Nat.beq i k with
    | true => simp [hb] at h; subst h; rw [Nat.eq_of_beq_eq_true hb]; rfl
    | false =>
      simp only [hb] at h
      cases ht : idx i t with
      | none => simp [ht] at h
      | some n => simp [ht] at h; subst h; simpa using idx_get ht

def pickOb (hp : List Ob) (m : Nat → Option Nat) (ro : Bool) (i : Nat) : Ob :=
  match hp[i]? with
  | some ob => (match ro with | true => { ob.ren m with own := false } | false => ob.ren m)
  | none => ⟨false, .dead⟩

theorem pick_eq (hp : List Ob) (m : Nat → Option Nat) (ro : Bool) : ∀ ids, pick hp m ro ids = ids.map (pickOb hp m ro)
  | [] => rfl
  | i :: t => by simp only [pick, List.map_cons, pick_eq hp m ro t]; rfl

theorem shpOb_ren (m : Nat → Option Nat) (ob : Ob) : shpOb (ob.ren m) = shpOb ob := by
  obtain ⟨own, c⟩ := ob; cases c <;> rfl
theorem own_ren (m : Nat → Option Nat) (ob : Ob) : (ob.ren m).own = ob.own := by
  obtain ⟨own, c⟩ := ob; cases c <;> rfl

theorem ObR.ren {ι ι' : Nat → Pl} {S S' : Nat → Shp} {m : Nat → Option Nat} {w : World} {id id' : Nat} {ob : Ob} (h : ∀ i j, m i = some j → S i ≠ .no → ι' j = ι i ∧ S' j = S i) (hid : ι' id' = ι id)
    (hob : ObR ι S w id ob) : ObR ι' S' w id' (ob.ren m) := by
  obtain ⟨own, c⟩ := ob
  cases c with
  | dead => trivial
  | box cs =>
    obtain ⟨b, base, room, blk, t, fz, h1, h2, h3, h4, h5, h6⟩ := hob
    refine ⟨b, base, room, blk, t, fz, hid ▸ h1, h2, h3, by simpa using h4, h5, fun j a ha => ?_⟩
    rw [List.getElem?_map] at ha
    cases hc : cs[j]? with
    | none => simp [hc] at ha
    | some a' =>
      simp [hc] at ha
      subst ha
      obtain ⟨c, e1, e2⟩ := h6 j a' hc
      exact ⟨c, e1, AR.ren h e2⟩
  | rows ks xs =>
    rcases hob with ⟨h1, h2⟩ | ⟨b, base, room, blk, t, fz, h1, h2⟩
    · exact .inl ⟨hid ▸ h1, h2⟩
    · exact .inr ⟨b, base, room, blk, t, fz, hid ▸ h1, h2⟩

theorem ObR.ro {ι : Nat → Pl} {S : Nat → Shp} {w : World} {id : Nat} {ob : Ob} (h : ObR ι S w id ob) : ObR ι S w id { ob with own := false } := by
  obtain ⟨own, c⟩ := ob
  cases c with
  | dead => trivial
  | box cs =>
    obtain ⟨b, base, room, blk, t, fz, h1, h2, h3, h4, h5, h6⟩ := h
    exact ⟨b, base, room, blk, t, fz, h1, h2, h3, h4, (fun h => by cases h), h6⟩
  | rows ks xs =>
    rcases h with h | ⟨b, base, room, blk, t, fz, h1, h2, h3, h4, h5⟩
    · exact .inl h
    · exact .inr ⟨b, base, room, blk, t, fz, h1, h2, h3, (fun h => by cases h), h5⟩

/-- The callee's objects. -/
theorem pick_HR {ι : Nat → Pl} {w : World} {ids : List Nat} {ro : Bool} (h : HR ι hp w) (m : Nat → Option Nat) (hm : ∀ i j, m i = some j → ids[j]? = some i) :
    HR (fun j => match ids[j]? with | some i => ι i | none => .off) (pick hp m ro ids) w ∧
    ∀ i j, m i = some j → shp hp i ≠ .no → (fun j => match ids[j]? with | some i => ι i | none => Pl.off) j = ι i ∧ shp (pick hp m ro ids) j = shp hp i := by
  have key : ∀ i j, m i = some j → shp hp i ≠ .no → (fun j => match ids[j]? with | some i => ι i | none => Pl.off) j = ι i ∧ shp (pick hp m ro ids) j = shp hp i := by
    intro i j hij hn
    have hj := hm i j hij
    refine ⟨by simp [hj], ?_⟩
    unfold shp
    rw [pick_eq, List.getElem?_map, hj]
    unfold shp at hn
    cases ho : hp[i]? with
    | none => simp [ho] at hn
    | some ob =>
      simp only [Option.map_some, pickOb, ho]
      cases ro with
      | true => exact shpOb_ren m ob
      | false => exact shpOb_ren m ob
  refine ⟨fun j ob hj hoff => ?_, key⟩
  rw [pick_eq, List.getElem?_map] at hj
  cases hi : ids[j]? with
  | none => simp [hi] at hj
  | some i =>
    simp [hi] at hj hoff
    subst hj
    unfold pickOb
    cases ho : hp[i]? with
    | none => trivial
    | some ob0 =>
      have hob := h i ob0 ho hoff
      have hr := hob.ren (ι' := fun j => match ids[j]? with | some i => ι i | none => Pl.off) (S' := shp (pick hp m ro ids)) (id' := j) key (by simp [hi])
      cases ro with
      | true => exact hr.ro
      | false => exact hr

/-! ### looking at parts as wholes -/
structure Views (ι ι' : Nat → Pl) (hp hp' : List Ob) (w : World) : Prop where
  pre : ∃ vs, hp' = hp ++ vs
  agree : ∀ id, id < hp.length → ι' id = ι id
  heap : HR ι' hp' w

theorem Views.refl {ι : Nat → Pl} {w : World} (h : HR ι hp w) : Views ι ι hp hp w := ⟨⟨[], by simp⟩, fun _ _ => rfl, h⟩

theorem Views.trans {ι ι' ι'' : Nat → Pl} {hp hp' hp'' : List Ob} {w : World} (h : Views ι ι' hp hp' w) (k : Views ι' ι'' hp' hp'' w) : Views ι ι'' hp hp'' w := by
  obtain ⟨⟨vs, rfl⟩, h2, _⟩ := h
  obtain ⟨⟨us, rfl⟩, k2, k3⟩ := k
  exact ⟨⟨vs ++ us, by simp⟩, fun id hid => (k2 id (by simp; omega)).trans (h2 id hid), k3⟩

theorem Views.ext {ι ι' : Nat → Pl} {hp hp' : List Ob} {w : World} (h : Views ι ι' hp hp' w) : ∀ id, shp hp id ≠ .no → ι' id = ι id ∧ shp hp' id = shp hp id := by
  obtain ⟨⟨vs, rfl⟩, h2, _⟩ := h
  intro id hn
  have hl := shp_lt hn
  exact ⟨h2 id hl, shp_append_lt hl⟩

/-- One more object over what is there already. -/
theorem Views.one {ι : Nat → Pl} {w : World} (h : HR ι hp w) (ob : Ob) (pl : Pl)
    (hob : ∀ ι', (∀ id, id < hp.length → ι' id = ι id) → ι' hp.length = pl → ObR ι' (shp (hp ++ [ob])) w hp.length ob) :
    ∃ ι', Views ι ι' hp (hp ++ [ob]) w ∧ ι' hp.length = pl := by
  have hag : ∀ id, id < hp.length → (fun id => if id = hp.length then pl else ι id) id = ι id := fun id hid => by simp [Nat.ne_of_lt hid]
  refine ⟨fun id => if id = hp.length then pl else ι id, ⟨⟨[ob], rfl⟩, hag, fun id ob' hi ho => ?_⟩, by simp⟩
  rcases Nat.lt_or_ge id hp.length with hid | hid
  · rw [List.getElem?_append_left hid] at hi
    have ho' : ι id ≠ .off := by simpa [Nat.ne_of_lt hid] using ho
    refine (h id ob' hi ho').ext (fun id' hn => ?_) (hag id hid) (fun _ _ _ _ _ => rfl)
    have hl := shp_lt hn
    exact ⟨hag id' hl, shp_append_lt hl⟩
  · have hlt : id < (hp ++ [ob]).length := by
      rcases Nat.lt_or_ge id (hp ++ [ob]).length with h' | h'
      · exact h'
      · rw [List.getElem?_eq_none h'] at hi; cases hi
    have : id = hp.length := by simp at hlt; omega
    subst this
    simp at hi
    subst hi
    exact hob _ hag (by simp)

theorem viewA_sound {ι : Nat → Pl} {w : World} {lk : Option (List K)} {a a' : A} {hp' : List Ob} {c : Value} (hv : viewA hp lk a = (a', hp')) (h : HR ι hp w) (ha : AR ι (shp hp) a c) :
    ∃ ι', Views ι ι' hp hp' w ∧ AR ι' (shp hp') a' c := by
  unfold viewA at hv
  split at hv
  · cases lk with
    | none => simp at hv; obtain ⟨rfl, rfl⟩ := hv; exact ⟨ι, Views.refl h, ha⟩
    | some ks =>
      simp at hv
      obtain ⟨rfl, rfl⟩ := hv
      obtain ⟨ι', h1, h2⟩ := Views.one h ⟨true, .rows ks []⟩ .empty (fun ι' _ hon => .inl ⟨hon, rfl⟩)
      obtain ⟨ad, rfl⟩ := ha
      exact ⟨ι', h1, ks, 0, by rw [shp_new]; rfl, .inl ⟨h2, rfl, ad, rfl⟩⟩
  · rename_i id st len cap
    split at hv
    · rename_i own ks xs ho
      simp at hv
      obtain ⟨rfl, rfl⟩ := hv
      obtain ⟨ks2, n, h1, hle, ad, cp, rfl, _, hml, hlc, h2⟩ := ha
      rw [shp_of ho] at h1
      simp only [shpOb, Shp.rows.injEq] at h1
      obtain ⟨rfl, rfl⟩ := h1
      have hlen : ((xs.drop st).take len).length = len := by simp; omega
      have hsh : shp (hp ++ [⟨false, .rows ks ((xs.drop st).take len)⟩]) hp.length = .rows ks len := by
        rw [shp_new]; simp only [shpOb, hlen]
      rcases h2 with h0 | ⟨b, base, room, hι, rfl, hroom⟩
      · have h00 : len = 0 := by omega
        obtain ⟨ι', v1, v2⟩ := Views.one h ⟨false, .rows ks ((xs.drop st).take len)⟩ .empty (fun ι' _ hon => .inl ⟨hon, by simp [h00]⟩)
        exact ⟨ι', v1, ks, len, hsh, .inl ⟨v2, h00, ad, by rw [h0, h00]⟩⟩
      · have hob := h id _ ho (by rw [hι]; simp)
        rcases hob with ⟨h4, _⟩ | ⟨b', base', room', blk, t, fz, h4, h5, h6, _, h7⟩
        · rw [hι] at h4; cases h4
        · rw [hι] at h4; cases h4
          have hsum : st * ks.length ≤ room := by
            rw [Nat.add_mul] at hroom; omega
          obtain ⟨ι', v1, v2⟩ := Views.one h ⟨false, .rows ks ((xs.drop st).take len)⟩ (.on b (base + st * ks.length) (room - st * ks.length)) (fun ι' _ hon =>
            .inr ⟨_, _, _, blk, t, fz, hon, h5, by omega, (fun h => by cases h), fun e row he => by
              rw [take_drop_get] at he
              split at he
              · obtain ⟨g1, g2⟩ := h7 (st + e) row he
                refine ⟨g1, fun o kd hok => ?_⟩
                obtain ⟨c, g3, g4⟩ := g2 o kd hok
                refine ⟨c, ?_, g4⟩
                rw [← g3]; congr 1
                rw [Nat.add_mul]; omega
              · cases he⟩)
          exact ⟨ι', v1, ks, len, hsh, .inr ⟨_, _, _, cp, v2, rfl, hlc, by rw [Nat.add_mul] at hroom; omega, hml⟩⟩
    · simp at hv
      obtain ⟨rfl, rfl⟩ := hv
      exact ⟨ι, Views.refl h, trivial⟩
  · simp at hv
    obtain ⟨rfl, rfl⟩ := hv
    exact ⟨ι, Views.refl h, ha⟩
end Go.Fx
/- Calls of functions that change nothing. -/
namespace Go.Fx
variable {P : Program} {ty : Nat → Option TI} {sl : List V} {hp : List Ob}

theorem viewAs_sound {w : World} : ∀ {lks : List (Option (List K))} {as as' : List A} {hp hp' : List Ob} {ι : Nat → Pl} {cs : List Value}, viewAs hp lks as = (as', hp') → HR ι hp w → F2 (AR ι (shp hp)) as cs →
    ∃ ι', Views ι ι' hp hp' w ∧ F2 (AR ι' (shp hp')) as' cs := by
  have step : ∀ {lk : Option (List K)} {a a' : A} {as as' : List A} {hp hp1 hp' : List Ob} {ι : Nat → Pl} {c : Value} {cs : List Value}, viewA hp lk a = (a', hp1) → HR ι hp w → AR ι (shp hp) a c → F2 (AR ι (shp hp)) as cs →
      (∀ ι1, HR ι1 hp1 w → F2 (AR ι1 (shp hp1)) as cs → ∃ ι', Views ι1 ι' hp1 hp' w ∧ F2 (AR ι' (shp hp')) as' cs) →
      ∃ ι', Views ι ι' hp hp' w ∧ F2 (AR ι' (shp hp')) (a' :: as') (c :: cs) := by
    intro lk a a' as as' hp hp1 hp' ι c cs hv h ha has ih
    obtain ⟨ι1, v1, h1⟩ := viewA_sound hv h ha
    obtain ⟨ι2, v2, h2⟩ := ih ι1 v1.heap (has.imp fun _ _ h => h.ext v1.ext)
    exact ⟨ι2, v1.trans v2, h1.ext v2.ext, h2⟩
  intro lks as
  induction as generalizing lks with
  | nil =>
    intro as' hp hp' ι cs hv h hF
    have : viewAs hp lks [] = ([], hp) := by cases lks <;> rfl
    rw [this] at hv
    cases hv
    match cs, hF with
    | [], _ => exact ⟨ι, Views.refl h, trivial⟩
    | _ :: _, hF => exact hF.elim
  | cons a as ih =>
    intro as' hp hp' ι cs hv h hF
    match cs, hF with
    | [], hF => exact hF.elim
    | c :: cs, ⟨ha, has⟩ =>
      cases lks with
      | nil =>
        simp only [viewAs] at hv
        generalize h1 : viewA hp none a = q at hv
        obtain ⟨a1, hp1⟩ := q
        simp only at hv
        generalize h2 : viewAs hp1 [] as = q at hv
        obtain ⟨as1, hp2⟩ := q
        simp only [Prod.mk.injEq] at hv
        obtain ⟨rfl, rfl⟩ := hv
        exact step h1 h ha has fun ι1 g1 g2 => ih h2 g1 g2
      | cons lk lks =>
        simp only [viewAs] at hv
        generalize h1 : viewA hp lk a = q at hv
        obtain ⟨a1, hp1⟩ := q
        simp only at hv
        generalize h2 : viewAs hp1 lks as = q at hv
        obtain ⟨as1, hp2⟩ := q
        simp only [Prod.mk.injEq] at hv
        obtain ⟨rfl, rfl⟩ := hv
        exact step h1 h ha has fun ι1 g1 g2 => ih h2 g1 g2

theorem viewV_sound {w : World} {t : Nat} {v v' : V} {hp' : List Ob} {ι : Nat → Pl} {c : Value} (hv : viewV ty hp t v = (v', hp')) (h : HR ι hp w) (hr : VR ι (shp hp) v c) :
    ∃ ι', Views ι ι' hp hp' w ∧ VR ι' (shp hp') v' c := by
  cases v with
  | «at» a =>
    simp only [viewV] at hv
    generalize h2 : viewAs hp (lksOf ty t) [a] = q at hv
    obtain ⟨as1, hp2⟩ := q
    obtain ⟨ι', v1, v2⟩ := viewAs_sound h2 h (cs := [c]) ⟨hr, trivial⟩
    match as1, v2 with
    | [a1], ⟨v2, _⟩ =>
      simp only [Prod.mk.injEq] at hv
      obtain ⟨rfl, rfl⟩ := hv
      exact ⟨ι', v1, v2⟩
    | [], v2 => exact v2.elim
    | _ :: _ :: _, ⟨_, v2⟩ => exact v2.elim
  | agg as =>
    simp only [viewV] at hv
    generalize h2 : viewAs hp (lksOf ty t) as = q at hv
    obtain ⟨as1, hp2⟩ := q
    simp only [Prod.mk.injEq] at hv
    obtain ⟨rfl, rfl⟩ := hv
    obtain ⟨cs, rfl, hF⟩ := hr
    obtain ⟨ι', v1, v2⟩ := viewAs_sound h2 h hF
    exact ⟨ι', v1, cs, rfl, v2⟩
  | tup xs =>
    simp only [viewV, Prod.mk.injEq] at hv
    obtain ⟨rfl, rfl⟩ := hv
    exact ⟨ι, Views.refl h, hr⟩

theorem viewVs_sound {w : World} : ∀ {ts : List Nat} {vs vs' : List V} {hp hp' : List Ob} {ι : Nat → Pl} {cs : List Value}, viewVs ty hp ts vs = (vs', hp') → HR ι hp w → F2 (VR ι (shp hp)) vs cs →
    ∃ ι', Views ι ι' hp hp' w ∧ F2 (VR ι' (shp hp')) vs' cs := by
  intro ts vs
  induction vs generalizing ts with
  | nil =>
    intro vs' hp hp' ι cs hv h hF
    have : viewVs ty hp ts [] = ([], hp) := by cases ts <;> rfl
    rw [this] at hv
    cases hv
    match cs, hF with
    | [], _ => exact ⟨ι, Views.refl h, trivial⟩
    | _ :: _, hF => exact hF.elim
  | cons v vs ih =>
    intro vs' hp hp' ι cs hv h hF
    match cs, hF with
    | [], hF => exact hF.elim
    | c :: cs, ⟨ha, has⟩ =>
      cases ts with
      | nil =>
        simp only [viewVs] at hv
        generalize h2 : viewVs ty hp [] vs = q at hv
        obtain ⟨vs1, hp2⟩ := q
        simp only [Prod.mk.injEq] at hv
        obtain ⟨rfl, rfl⟩ := hv
        obtain ⟨ι', v1, v2⟩ := ih h2 h has
        exact ⟨ι', v1, VR.ext v1.ext ha, v2⟩
      | cons t ts =>
        simp only [viewVs] at hv
        generalize h1 : viewV ty hp t v = q at hv
        obtain ⟨a1, hp1⟩ := q
        simp only at hv
        generalize h2 : viewVs ty hp1 ts vs = q at hv
        obtain ⟨vs1, hp2⟩ := q
        simp only [Prod.mk.injEq] at hv
        obtain ⟨rfl, rfl⟩ := hv
        obtain ⟨ι1, v1, v2⟩ := viewV_sound h1 h ha
        obtain ⟨ι2, w1, w2⟩ := ih h2 v1.heap (has.imp fun _ _ h => VR.ext v1.ext h)
        exact ⟨ι2, v1.trans w1, VR.ext w1.ext v2, w2⟩

theorem backId_lt {ids : List Nat} {n0 j id : Nat} (h : backId ids n0 j = some id) (hj : j < ids.length) : ids[j]? = some id ∧ id < n0 := by
  unfold backId at h
  have : Nat.blt j ids.length = true := by simpa [Nat.blt_eq] using hj
  rw [this] at h
  simp only at h
  cases hi : ids[j]? with
  | none => simp [hi] at h
  | some i =>
    simp only [hi] at h
    cases hb : Nat.blt i n0 with
    | false => simp [hb] at h
    | true => simp [hb] at h; subst h; exact ⟨rfl, by simpa [Nat.blt_eq] using hb⟩

theorem backId_ge {ids : List Nat} {n0 j id : Nat} (h : backId ids n0 j = some id) (hj : ids.length ≤ j) : id = n0 + (j - ids.length) := by
  unfold backId at h
  have : Nat.blt j ids.length = false := by
    cases hb : Nat.blt j ids.length with
    | false => rfl
    | true => rw [Nat.blt_eq] at hb; omega
  rw [this] at h
  simp at h
  exact h.symm

/-- From the callee's results back to the caller's numbers. -/
theorem back_sound {ι ιT ι2' : Nat → Pl} {w w' : World} {hpT : List Ob} {ids : List Nat} {ro : Bool} {m : Nat → Option Nat} {news : List Ob} {r : V} {c : Value} (h : HR ι hp w) (hv : Views ι ιT hp hpT w)
    (hg : Grow (fun j => match ids[j]? with | some i => ιT i | none => .off) ι2' (pick hpT m ro ids) news w w') (hr : VR ι2' (shp (pick hpT m ro ids ++ news)) r c) (hh : HR ι2' (pick hpT m ro ids ++ news) w') :
    ∃ ι', Grow ι ι' hp (news.map (Ob.ren (backId ids hp.length))) w w' ∧ VR ι' (shp (hp ++ news.map (Ob.ren (backId ids hp.length)))) (r.ren (backId ids hp.length)) c ∧
      HR ι' (hp ++ news.map (Ob.ren (backId ids hp.length))) w' := by
  have hlen : (pick hpT m ro ids).length = ids.length := by rw [pick_eq]; simp
  have hge : ∀ id, hp.length ≤ id → (hp ++ news.map (Ob.ren (backId ids hp.length)))[id]? = ((pick hpT m ro ids ++ news)[ids.length + (id - hp.length)]?).map (Ob.ren (backId ids hp.length)) := by
    intro id hid
    rw [List.getElem?_append_right hid, List.getElem?_append_right (by rw [hlen]; omega), hlen, List.getElem?_map]
    rw [show ids.length + (id - hp.length) - ids.length = id - hp.length by omega]
  obtain ⟨ι', hlt, hgt⟩ : ∃ ι' : Nat → Pl, (∀ id, id < hp.length → ι' id = ι id) ∧ (∀ id, hp.length ≤ id → ι' id = ι2' (ids.length + (id - hp.length))) :=
    ⟨fun id => if id < hp.length then ι id else ι2' (ids.length + (id - hp.length)), fun id hid => by simp [hid], fun id hid => by simp [Nat.not_lt.2 hid]⟩
  have hcorr : ∀ j id, backId ids hp.length j = some id → shp (pick hpT m ro ids ++ news) j ≠ .no →
      ι' id = ι2' j ∧ shp (hp ++ news.map (Ob.ren (backId ids hp.length))) id = shp (pick hpT m ro ids ++ news) j := by
    intro j id hb hn
    rcases Nat.lt_or_ge j ids.length with hj | hj
    · obtain ⟨h1, h2⟩ := backId_lt hb hj
      obtain ⟨⟨vs, rfl⟩, hag, _⟩ := hv
      refine ⟨?_, ?_⟩
      · rw [hlt id h2, hg.agree j (by rw [hlen]; exact hj)]
        simp only [h1]
        exact (hag id h2).symm
      · rw [shp_append_lt h2, shp_append_lt (by rw [hlen]; exact hj)]
        unfold shp
        rw [pick_eq, List.getElem?_map, h1]
        simp only [Option.map_some, pickOb]
        rw [List.getElem?_append_left h2]
        cases ho : hp[id]? with
        | none => rw [List.getElem?_eq_none_iff] at ho; omega
        | some ob =>
          cases ro with
          | true => exact (shpOb_ren m ob).symm
          | false => exact (shpOb_ren m ob).symm
    · have := backId_ge hb hj
      subst this
      refine ⟨?_, ?_⟩
      · rw [hgt _ (by omega)]
        rw [show ids.length + (hp.length + (j - ids.length) - hp.length) = j by omega]
      · unfold shp
        rw [hge _ (by omega), show ids.length + (hp.length + (j - ids.length) - hp.length) = j by omega]
        cases (pick hpT m ro ids ++ news)[j]? with
        | none => rfl
        | some ob => exact shpOb_ren _ ob
  refine ⟨ι', ⟨hlt, hg.wx, ?_, ?_⟩, VR.ren hcorr hr, ?_⟩
  · intro i oi b base room hi hoi hl hon
    rw [hge i hi] at hoi
    rw [hgt i hi] at hon
    cases ho : (pick hpT m ro ids ++ news)[ids.length + (i - hp.length)]? with
    | none => simp [ho] at hoi
    | some ob =>
      simp [ho] at hoi
      subst hoi
      exact hg.fresh _ ob b base room (by rw [hlen]; omega) ho (by unfold Ob.live at *; rwa [shpOb_ren] at hl) hon
  · intro i j oi oj b base room b' base' room' hi hj hij hoi hoj hown hli hlj hon hon'
    rw [hge i hi] at hoi
    rw [hge j hj] at hoj
    rw [hgt i hi] at hon
    rw [hgt j hj] at hon'
    cases ho : (pick hpT m ro ids ++ news)[ids.length + (i - hp.length)]? with
    | none => simp [ho] at hoi
    | some ob =>
      cases ho' : (pick hpT m ro ids ++ news)[ids.length + (j - hp.length)]? with
      | none => simp [ho'] at hoj
      | some ob' =>
        simp [ho] at hoi
        simp [ho'] at hoj
        subst hoi; subst hoj
        unfold Ob.live at *
        rw [shpOb_ren] at hli hlj
        rw [own_ren] at hown
        exact hg.inj _ _ ob ob' b base room b' base' room' (by rw [hlen]; omega) (by rw [hlen]; omega) (by omega) ho ho' hown hli hlj hon hon'
  · intro id ob hi hoff
    rcases Nat.lt_or_ge id hp.length with hid | hid
    · rw [List.getElem?_append_left hid] at hi
      rw [hlt id hid] at hoff
      refine (h id ob hi hoff).ext (fun id' hn => ?_) (hlt id hid) (fun b _ _ _ hb => hg.wx.block b hb)
      have hl := shp_lt hn
      exact ⟨hlt id' hl, shp_append_lt hl⟩
    · rw [hge id hid] at hi
      rw [hgt id hid] at hoff
      cases ho : (pick hpT m ro ids ++ news)[ids.length + (id - hp.length)]? with
      | none => simp [ho] at hi
      | some ob' =>
        simp [ho] at hi
        subst hi
        exact (hh _ ob' ho hoff).ren hcorr (hgt id hid)

theorem F2.ren_list {ι ι' : Nat → Pl} {S S' : Nat → Shp} {m : Nat → Option Nat} (h : ∀ id j, m id = some j → S id ≠ .no → ι' j = ι id ∧ S' j = S id) {vs : List V} {cs : List Value} (hF : F2 (VR ι S) vs cs) : F2 (VR ι' S') (vs.map (V.ren m)) cs :=
  F2.map_left (f := V.ren m) (fun _ _ hv => VR.ren h hv) hF

/-- A call that changes nothing. -/
theorem call_ro {f : FuncId} {tys : List Nat} {args args1 : List V} {hpT : List Ob} {ids : List Nat} {r : V} {news : List Ob} (hview : viewVs ty hp tys args = (args1, hpT))
    (hold : Holds P f (args1.map (V.ren fun i => idx i ids)) (pick hpT (fun i => idx i ids) true ids) r news) {ι : Nat → Pl} {w : World} {cs : Array Value} (hargs : F2 (VR ι (shp hp)) args cs.toList) (h : HR ι hp w) :
    CallsV P f cs w fun c w' => ∃ ι', Grow ι ι' hp (news.map (Ob.ren (backId ids hp.length))) w w' ∧ VR ι' (shp (hp ++ news.map (Ob.ren (backId ids hp.length)))) (r.ren (backId ids hp.length)) c ∧
      HR ι' (hp ++ news.map (Ob.ren (backId ids hp.length))) w' := by
  obtain ⟨ιT, hv, hargs1⟩ := viewVs_sound hview h hargs
  obtain ⟨hh2, hcor⟩ := pick_HR (ro := true) hv.heap (fun i => idx i ids) (fun i j hij => idx_get hij)
  have hargs2 := F2.ren_list hcor hargs1
  exact (hold _ w cs hargs2 hh2).mono fun c w' ⟨ι2', hg, hr, hhr⟩ => back_sound h hv hg hr hhr
end Go.Fx
/- A whole state, abstract and real; stores and appends. -/
namespace Go.Fx
variable {P : Program} {ty : Nat → Option TI} {sl : List V} {hp : List Ob}

/-- How a call began. -/
structure Beg where
  w0 : World
  ι0 : Nat → Pl
  h0 : List Ob

/-- A block of an object that came in as the call's to change. -/
def Beg.mine (g : Beg) (b : Nat) : Prop := ∃ (id : Nat) (ob : Ob) (base room : Nat), g.h0[id]? = some ob ∧ ob.own = true ∧ ob.live ∧ g.ι0 id = .on b base room

structure Rel (g : Beg) (ι : Nat → Pl) (st : St) (a : Act) (w : World) : Prop where
  slots : F2 (VR ι (shp st.hp)) st.sl a.tmps.toList
  defers : a.defers = []
  heap : HR ι st.hp w
  inj : INJ ι st.hp
  keep : ∀ id : Nat, id < g.h0.length → ι id = g.ι0 id
  flag : ∀ (id : Nat) (ob : Ob), g.h0[id]? = some ob → ∃ ob', st.hp[id]? = some ob' ∧ ob'.own = ob.own ∧ (shpOb ob' = shpOb ob ∨ shpOb ob' = .no)
  os : w.os = g.w0.os
  tape : w.tape = g.w0.tape
  output : w.output = g.w0.output
  size : g.w0.heap.size ≤ w.heap.size
  block : ∀ k, k < g.w0.heap.size → ¬ g.mine k → w.heap[k]? = g.w0.heap[k]?
  fresh : ∀ (id : Nat) (ob : Ob) (b base room : Nat), g.h0.length ≤ id → st.hp[id]? = some ob → ob.live → ι id = .on b base room → g.w0.heap.size ≤ b ∨ g.mine b

theorem Rel.len {g : Beg} {ι : Nat → Pl} {st : St} {a : Act} {w : World} (h : Rel g ι st a w) : g.h0.length ≤ st.hp.length := by
  rcases Nat.lt_or_ge st.hp.length g.h0.length with hl | hl
  · obtain ⟨ob', h1, _⟩ := h.flag st.hp.length _ (List.getElem?_eq_getElem hl)
    rw [List.getElem?_eq_none (Nat.le_refl _)] at h1; cases h1
  · exact hl

theorem lt_of_HR {ι : Nat → Pl} {w : World} (h : HR ι hp w) {id : Nat} {ob : Ob} {b base room : Nat} (ho : hp[id]? = some ob) (hl : ob.live) (hι : ι id = .on b base room) : b < w.heap.size := by
  have := h id ob ho (by rw [hι]; simp)
  obtain ⟨own, c⟩ := ob
  cases c with
  | dead => exact absurd rfl hl
  | box cs => obtain ⟨b', base', room', blk, t, fz, h1, h2, _⟩ := this; rw [hι] at h1; cases h1; exact lt_of_heap h2
  | rows ks xs =>
    rcases this with ⟨h1, _⟩ | ⟨b', base', room', blk, t, fz, h1, h2, _⟩
    · rw [hι] at h1; cases h1
    · rw [hι] at h1; cases h1; exact lt_of_heap h2

theorem put_tmps {a : Act} {d : Option Nat} {c : Value} : (a.put d c).tmps.toList = (match d with | some d => a.tmps.toList.set d c | none => a.tmps.toList) := by
  cases d <;> simp [Act.put]

theorem put_F2 {ι : Nat → Pl} {S : Nat → Shp} {a : Act} {d : Option Nat} {v : V} {c : Value} (h : F2 (VR ι S) sl a.tmps.toList) (hv : VR ι S v c) : F2 (VR ι S) (put sl d v) (a.put d c).tmps.toList := by
  rw [put_tmps]
  cases d with
  | none => exact h
  | some d => exact h.set hv d

theorem put_defers {a : Act} {d : Option Nat} {c : Value} : (a.put d c).defers = a.defers := by cases d <;> rfl

theorem Grow.inj' {ι ι' : Nat → Pl} {news : List Ob} {w w' : World} (g : Grow ι ι' hp news w w') (hh : HR ι hp w) (h : INJ ι hp) : INJ ι' (hp ++ news) := by
  intro i j oi oj b base room b' base' room' hi hj hij hown hli hlj hon hon'
  rcases Nat.lt_or_ge i hp.length with h1 | h1
  · rw [List.getElem?_append_left h1] at hi
    rw [g.agree i h1] at hon
    have hb := lt_of_HR hh hi hli hon
    rcases Nat.lt_or_ge j hp.length with h2 | h2
    · rw [List.getElem?_append_left h2] at hj
      rw [g.agree j h2] at hon'
      exact h i j oi oj b base room b' base' room' hi hj hij hown hli hlj hon hon'
    · have := g.fresh j oj b' base' room' h2 hj hlj hon'
      omega
  · rcases Nat.lt_or_ge j hp.length with h2 | h2
    · rw [List.getElem?_append_left h2] at hj
      rw [g.agree j h2] at hon'
      have hb := lt_of_HR hh hj hlj hon'
      have := g.fresh i oi b base room h1 hi hli hon
      omega
    · exact g.inj i j oi oj b base room b' base' room' h1 h2 hij hi hj hown hli hlj hon hon'

theorem Rel.calm {g : Beg} {ι ι' : Nat → Pl} {st : St} {a : Act} {w w' : World} {news : List Ob} {v : V} {c : Value} {d : Option Nat} (h : Rel g ι st a w) (hg : Grow ι ι' st.hp news w w')
    (hv : VR ι' (shp (st.hp ++ news)) v c) (hh : HR ι' (st.hp ++ news) w') : Rel g ι' ⟨put st.sl d v, st.hp ++ news⟩ (a.put d c) w' := by
  have hext : ∀ id, shp st.hp id ≠ .no → ι' id = ι id ∧ shp (st.hp ++ news) id = shp st.hp id := fun id hn => ⟨hg.agree id (shp_lt hn), shp_append_lt (shp_lt hn)⟩
  have hlen := h.len
  refine ⟨put_F2 (h.slots.imp fun _ _ hv => VR.ext hext hv) hv, by rw [put_defers]; exact h.defers, hh, hg.inj' h.heap h.inj, fun id hid => ?_, fun id ob ho => ?_, hg.wx.os.trans h.os, hg.wx.tape.trans h.tape, hg.wx.output.trans h.output,
    Nat.le_trans h.size hg.wx.size, fun k hk hn => ?_, fun id ob b base room hid ho hl hon => ?_⟩
  · rw [hg.agree id (by omega)]; exact h.keep id hid
  · obtain ⟨ob', h1, h2⟩ := h.flag id ob ho
    have hlt : id < st.hp.length := (List.getElem?_eq_some_iff.1 h1).1
    exact ⟨ob', by rw [List.getElem?_append_left hlt]; exact h1, h2⟩
  · rw [hg.wx.block k (Nat.lt_of_lt_of_le hk h.size)]; exact h.block k hk hn
  · rcases Nat.lt_or_ge id st.hp.length with h1 | h1
    · rw [List.getElem?_append_left h1] at ho
      rw [hg.agree id h1] at hon
      exact h.fresh id ob b base room hid ho hl hon
    · exact .inl (Nat.le_trans h.size (hg.fresh id ob b base room h1 ho hl hon))

/-- An operation that may change what is there. -/
def EffOp (P : Program) (n0 : Nat) (o : Oper) (st st1 : St) : Prop :=
  ∀ (g : Beg) (ι : Nat → Pl) (a : Act) (w : World), g.h0.length = n0 → Rel g ι st a w → ∀ (K : Act → World → Prop) (Q : Exit → Act → World → Prop), (∀ ι' a' w', Rel g ι' st1 a' w' → K a' w') → o.wp P a w K Q

theorem CalmOp.eff {n0 : Nat} {o : Oper} {st : St} {v : V} {news : List Ob} (h : CalmOp P o st.sl st.hp v news) : EffOp P n0 o st ⟨put st.sl o.dst v, st.hp ++ news⟩ :=
  fun _ ι a w _ hr K Q hK => h ι a w (fun x _ => evA_VR hr.slots x) hr.heap K Q fun _ _ _ hg hv hh => hK _ _ _ (hr.calm hg hv hh)

/-! ### stores -/
theorem setFromA_length : ∀ (as : List A) (o : Nat) (r : List A), (setFromA r o as).length = r.length
  | [], _, _ => rfl
  | _ :: t, o, r => by simp [setFromA, setFromA_length t]

theorem setFromA_get : ∀ (as : List A) (o : Nat) (r : List A) (j : Nat), o + as.length ≤ r.length → (setFromA r o as)[j]? = if o ≤ j ∧ j < o + as.length then as[j - o]? else r[j]?
  | [], o, r, j, _ => by simp [setFromA]; intro h1 h2; omega
  | a :: t, o, r, j, h => by
    simp only [List.length_cons] at h
    rw [setFromA, setFromA_get t (o + 1) (r.set o a) j (by simp; omega)]
    by_cases h1 : o + 1 ≤ j ∧ j < o + 1 + t.length
    · rw [if_pos h1, if_pos (by simp; omega)]
      rw [show j - o = (j - (o + 1)) + 1 by omega]; simp
    · rw [if_neg h1]
      by_cases h2 : j = o
      · subst h2
        rw [if_pos (by simp)]
        have : j < r.length := by omega
        simp [this]
      · rw [if_neg (by simp; omega), List.getElem?_set_ne (fun h => h2 h.symm)]

theorem setFrom_length : ∀ (as : List Int) (o : Nat) (r : List Int), (setFrom r o as).length = r.length
  | [], _, _ => rfl
  | _ :: t, o, r => by simp [setFrom, setFrom_length t]

theorem setFrom_get : ∀ (as : List Int) (o : Nat) (r : List Int) (j : Nat), o + as.length ≤ r.length → (setFrom r o as)[j]? = if o ≤ j ∧ j < o + as.length then as[j - o]? else r[j]?
  | [], o, r, j, _ => by simp [setFrom]; intro h1 h2; omega
  | a :: t, o, r, j, h => by
    simp only [List.length_cons] at h
    rw [setFrom, setFrom_get t (o + 1) (r.set o a) j (by simp; omega)]
    by_cases h1 : o + 1 ≤ j ∧ j < o + 1 + t.length
    · rw [if_pos h1, if_pos (by simp; omega)]
      rw [show j - o = (j - (o + 1)) + 1 by omega]; simp
    · rw [if_neg h1]
      by_cases h2 : j = o
      · subst h2
        rw [if_pos (by simp)]
        have : j < r.length := by omega
        simp [this]
      · rw [if_neg (by simp; omega), List.getElem?_set_ne (fun h => h2 h.symm)]

/-- Cells of a block, laid over. -/
def laid (blk : Array Value) (s : Nat) (vs : List Value) : Array Value := (blk.toList.take s ++ vs ++ blk.toList.drop (s + vs.length)).toArray

theorem laid_size {blk : Array Value} {s : Nat} {vs : List Value} (h : s + vs.length ≤ blk.size) : (laid blk s vs).size = blk.size := by
  simp [laid]; omega

theorem laid_get {blk : Array Value} {s : Nat} {vs : List Value} (h : s + vs.length ≤ blk.size) (j : Nat) : (laid blk s vs)[j]? = if s ≤ j ∧ j < s + vs.length then vs[j - s]? else blk[j]? := by
  unfold laid
  simp only [List.getElem?_toArray]
  by_cases h1 : j < s
  · rw [if_neg (by omega), List.append_assoc, List.getElem?_append_left (by simp; omega), List.getElem?_take, if_pos h1]
    simp
  · by_cases h2 : j < s + vs.length
    · rw [if_pos ⟨by omega, h2⟩, List.append_assoc, List.getElem?_append_right (by simp; omega), List.getElem?_append_left (by simp; omega)]
      congr 1; simp; omega
    · rw [if_neg (by omega), List.append_assoc, List.getElem?_append_right (by simp; omega), List.getElem?_append_right (by simp; omega), List.getElem?_drop]
      simp only [List.length_take, Array.length_toList]
      rw [show s + vs.length + (j - min s blk.size - vs.length) = j by omega]
      simp

theorem storeOb_sound {ι : Nat → Pl} {w : World} {id e o : Nat} {ob ob' : Ob} {as : List A} {vs : List Value} {b base room : Nat} (hob : hp[id]? = some ob) (hh : HR ι hp w) (hι : ι id = .on b base room) (hin : inB (shp hp id) e)
    (hs : storeOb ob e o as = some ob') (hF : F2 (AR ι (shp hp)) as vs) :
    ob.own = true ∧ ob'.own = true ∧ shpOb ob' = shpOb ob ∧ ∃ blk t, w.heap[b]? = some (.cells blk t (0, 0)) ∧ base + offs (shp hp id) e + o + vs.length ≤ blk.size ∧
      ∀ w' : World, w'.heap[b]? = some (.cells (laid blk (base + offs (shp hp id) e + o) vs) t (0, 0)) → ObR ι (shp hp) w' id ob' := by
  have hobr := hh id ob hob (by rw [hι]; simp)
  have hSh := shp_of hob
  have hl := hF.length
  obtain ⟨own, c⟩ := ob
  unfold storeOb at hs
  cases own with
  | false => simp at hs
  | true =>
    cases h0 : Nat.blt 0 as.length with
    | false => simp [h0] at hs
    | true =>
    have has0 : 0 < as.length := by simpa [Nat.blt_eq] using h0
    simp only [h0] at hs
    refine ⟨rfl, ?_⟩
    cases c with
    | dead => simp at hs
    | box cs =>
      simp only at hs
      cases hb : Nat.ble (o + as.length) cs.length with
      | false => simp only [hb] at hs; cases hs
      | true =>
        simp only [hb, Option.some.injEq] at hs
        subst hs
        have hle := Nat.le_of_ble_eq_true hb
        obtain ⟨b', base', room', blk, t, fz, h1, h2, h3, h4, h5, h6⟩ := hobr
        rw [hι] at h1; cases h1
        obtain rfl := h5 rfl
        rw [hSh]
        refine ⟨rfl, rfl, blk, t, h2, by simp only [shpOb, offs]; omega, fun w' hw' => ?_⟩
        have hsz : base + 0 + o + vs.length ≤ blk.size := by omega
        simp only [shpOb, offs] at hw'
        refine ⟨b, base, room, _, t, (0, 0), hι, hw', by rw [laid_size hsz]; exact h3, by rw [setFromA_length]; exact h4, fun _ => rfl, fun j a ha => ?_⟩
        rw [setFromA_get as o cs j hle] at ha
        rw [laid_get hsz]
        by_cases hj : o ≤ j ∧ j < o + as.length
        · rw [if_pos hj] at ha
          rw [if_pos (by omega)]
          obtain ⟨c, g1, g2⟩ := hF.get _ _ ha
          exact ⟨c, by rw [show base + j - (base + 0 + o) = j - o by omega]; exact g1, g2⟩
        · rw [if_neg hj] at ha
          rw [if_neg (by omega)]
          exact h6 j a ha
    | rows ks xs =>
      simp only at hs
      cases hn : aInts ((ks.drop o).take as.length) as with
      | none => simp [hn] at hs
      | some ns =>
        simp only [hn] at hs
        obtain ⟨l1, l2, l3⟩ := aInts_KR hn hF
        rcases hobr with ⟨h1, _⟩ | ⟨b', base', room', blk, t, fz, h1, h2, h3, h4, h5⟩
        · rw [hι] at h1; cases h1
        · rw [hι] at h1; cases h1
          obtain ⟨rfl, rfl, hroom⟩ := h4 rfl
          rw [hSh] at hin ⊢
          simp only [shpOb, inB] at hin
          simp only [shpOb, offs]
          have hrow : xs[e]? = some xs[e] := List.getElem?_eq_getElem hin
          obtain ⟨r1, r2⟩ := h5 e xs[e] hrow
          have hgd : xs.getD e [] = xs[e] := by rw [List.getD_eq_getElem?_getD, hrow]; rfl
          have hol : as.length ≤ ks.length - o ∧ (as.length = 0 ∨ o + as.length ≤ ks.length) := by
            simp only [List.length_take, List.length_drop] at l1 l2
            omega
          have hwhole : ∃ row', ob' = ⟨true, .rows ks (xs.set e row')⟩ ∧ row'.length = ks.length ∧ (∀ j, row'.getD j 0 = if o ≤ j ∧ j < o + as.length then ns.getD (j - o) 0 else xs[e].getD j 0) := by
            have hnl : ns.length = as.length := by omega
            cases hb : Nat.beq ns.length ks.length with
            | true =>
              simp only [hb, Option.some.injEq] at hs
              have he := Nat.eq_of_beq_eq_true hb
              refine ⟨ns, hs.symm, he, fun j => ?_⟩
              rcases Nat.eq_zero_or_pos ks.length with hk0 | hk0
              · have : as.length = 0 := by omega
                rw [if_neg (by omega)]
                have e1 : ns = [] := List.eq_nil_of_length_eq_zero (by omega)
                have e2 : xs[e] = [] := List.eq_nil_of_length_eq_zero (by omega)
                rw [e1, e2]
              · have ho0 : o = 0 := by omega
                subst ho0
                by_cases hj : j < as.length
                · rw [if_pos ⟨by omega, by omega⟩]; simp
                · rw [if_neg (by omega)]
                  rw [List.getD_eq_getElem?_getD, List.getD_eq_getElem?_getD, List.getElem?_eq_none (by omega), List.getElem?_eq_none (by omega)]
            | false =>
              simp only [hb, Option.some.injEq] at hs
              rw [hgd] at hs
              refine ⟨_, hs.symm, by rw [setFrom_length]; exact r1, fun j => ?_⟩
              rcases hol.2 with h0 | h0
              · have e1 : ns = [] := List.eq_nil_of_length_eq_zero (by omega)
                rw [e1, if_neg (by omega)]; rfl
              · rw [List.getD_eq_getElem?_getD, setFrom_get ns o xs[e] j (by omega), hnl]
                by_cases hj : o ≤ j ∧ j < o + as.length
                · rw [if_pos hj, if_pos hj, List.getD_eq_getElem?_getD]
                · rw [if_neg hj, if_neg hj, List.getD_eq_getElem?_getD]
          obtain ⟨row', rfl, hr1, hr2⟩ := hwhole
          have hcellb : ∀ q, q < ks.length → e * ks.length + q < blk.size := by
            intro q hq
            obtain ⟨c, hc, _⟩ := r2 q ks[q] (List.getElem?_eq_getElem hq)
            have := (Array.getElem?_eq_some_iff.1 hc).1
            omega
          have hsz : 0 + e * ks.length + o + vs.length ≤ blk.size := by
            have := hcellb (o + as.length - 1) (by omega)
            omega
          refine ⟨rfl, by simp, blk, t, h2, hsz, fun w' hw' => ?_⟩
          refine .inr ⟨b, 0, room, _, t, (0, 0), hι, hw', by rw [laid_size hsz]; exact h3, fun _ => ⟨rfl, rfl, by rw [laid_size hsz]; exact hroom⟩, fun e' row he' => ?_⟩
          rw [List.getElem?_set] at he'
          by_cases hee : e = e'
          · subst hee
            rw [if_pos rfl, if_pos hin] at he'
            cases he'
            refine ⟨hr1, fun q kd hq => ?_⟩
            have hqs : q < ks.length := (List.getElem?_eq_some_iff.1 hq).1
            rw [laid_get hsz, hr2 q]
            by_cases hj : o ≤ q ∧ q < o + as.length
            · rw [if_pos hj, if_pos (by omega)]
              obtain ⟨c, g1, g2⟩ := l3 (q - o) kd (by rw [List.getElem?_take, if_pos (by omega), List.getElem?_drop, show o + (q - o) = q by omega]; exact hq)
              exact ⟨c, by rw [show 0 + e * ks.length + q - (0 + e * ks.length + o) = q - o by omega]; exact g1, g2⟩
            · rw [if_neg hj, if_neg (by omega)]
              exact r2 q kd hq
          · rw [if_neg hee] at he'
            obtain ⟨s1, s2⟩ := h5 e' row he'
            refine ⟨s1, fun q kd hq => ?_⟩
            have hqs : q < ks.length := (List.getElem?_eq_some_iff.1 hq).1
            obtain ⟨c, g1, g2⟩ := s2 q kd hq
            refine ⟨c, ?_, g2⟩
            rw [laid_get hsz]
            have hdis : ¬ (0 + e * ks.length + o ≤ 0 + e' * ks.length + q ∧ 0 + e' * ks.length + q < 0 + e * ks.length + o + vs.length) := by
              rintro ⟨q1, q2⟩
              rcases Nat.lt_or_gt_of_ne hee with hlt | hgt
              · have := Nat.mul_le_mul_right ks.length hlt
                rw [Nat.succ_mul] at this
                omega
              · have := Nat.mul_le_mul_right ks.length hgt
                rw [Nat.succ_mul] at this
                omega
            rw [if_neg hdis]
            exact g1
/-! ### the parts of a state -/
def RelH (g : Beg) (ι : Nat → Pl) (hp : List Ob) (w : World) : Prop := Rel g ι ⟨[], hp⟩ { tmps := #[], defers := [] } w

theorem Rel.toH {g : Beg} {ι : Nat → Pl} {st : St} {a : Act} {w : World} (h : Rel g ι st a w) : RelH g ι st.hp w :=
  ⟨trivial, rfl, h.heap, h.inj, h.keep, h.flag, h.os, h.tape, h.output, h.size, h.block, h.fresh⟩

theorem RelH.rel {g : Beg} {ι : Nat → Pl} {st : St} {a : Act} {w : World} (h : RelH g ι st.hp w) (hs : F2 (VR ι (shp st.hp)) st.sl a.tmps.toList) (hd : a.defers = []) : Rel g ι st a w :=
  ⟨hs, hd, h.heap, h.inj, h.keep, h.flag, h.os, h.tape, h.output, h.size, h.block, h.fresh⟩

end Go.Fx
/- Stores and appends over a whole state. -/
namespace Go.Fx
variable {P : Program} {ty : Nat → Option TI} {sl : List V} {hp : List Ob}

theorem shp_set {id : Nat} {ob ob' : Ob} (ho : hp[id]? = some ob) (hs : shpOb ob' = shpOb ob) : shp (hp.set id ob') = shp hp := by
  funext j
  unfold shp
  by_cases h : id = j
  · subst h
    have hlt := (List.getElem?_eq_some_iff.1 ho).1
    rw [List.getElem?_set_self hlt, ho]
    exact hs
  · rw [List.getElem?_set_ne h]

theorem storeCells_run {w : World} {b s : Nat} {blk : Array Value} {t : TypeId} {vs : List Value} (hb : w.heap[b]? = some (.cells blk t (0, 0))) (hl : s + vs.length ≤ blk.size) (h1 : ∀ v ∈ vs, v.oneCell' = true) :
    (storeCells ⟨b, s, none⟩ vs 0).run P w = .ok () (w.setRow b (laid blk s vs)) := by
  have := run_storeCells_at P b s t vs 0 blk w hb (by simpa using hl) h1
  simpa [laid] using this

theorem live_of_in {id e : Nat} {ob : Ob} (ho : hp[id]? = some ob) (h : inB (shp hp id) e) : ob.live := by
  rw [shp_of ho] at h
  intro hn; rw [hn] at h; exact h

/-- A block that may be written is one of the call's own. -/
theorem Rel.apart {g : Beg} {ι : Nat → Pl} {st : St} {a : Act} {w : World} (h : Rel g ι st a w) {id : Nat} {ob : Ob} (ho : st.hp[id]? = some ob) (hown : ob.own = true) (hl : ob.live) {b base room : Nat} (hι : ι id = .on b base room) :
    g.w0.heap.size ≤ b ∨ g.mine b := by
  rcases Nat.lt_or_ge id g.h0.length with hid | hid
  · obtain ⟨ob1, h1, h2, h3⟩ := h.flag id _ (List.getElem?_eq_getElem hid)
    rw [ho] at h1; cases h1
    refine .inr ⟨id, _, base, room, List.getElem?_eq_getElem hid, by rw [← h2]; exact hown, ?_, by rw [← h.keep id hid]; exact hι⟩
    rcases h3 with h3 | h3
    · unfold Ob.live; rw [← h3]; exact hl
    · exact absurd h3 hl
  · exact h.fresh id ob b base room hid ho hl hι

theorem eff_store {n0 : Nat} {o : Oper} {t : TypeId} {x y : Operand} {id e off : Nat} {cs : List A} {i : TI} {ob ob' : Ob} {st : St} (hT : TyOK P ty) (ho : o.op = .store t x y) (hi : ty t = some i) (hx : evA st.sl x = .at (.ptr id e off)) (hy : (evA st.sl y).cells = some cs)
    (hl : cs.length = i.size) (hob : st.hp[id]? = some ob) (hs : storeOb ob e off cs = some ob') : EffOp P n0 o st ⟨put st.sl o.dst (.at .void), st.hp.set id ob'⟩ := by
  intro g ι a w hn0 h K Q hK
  have hvx := evA_VR h.slots x
  have hvy := evA_VR h.slots y
  rw [hx] at hvx
  obtain ⟨b, base, room, hι, ex, hin⟩ := hvx
  obtain ⟨hF, hone⟩ := V.cells_F2 hy hvy
  obtain ⟨how, how', hsh, blk, tt, hb, hle, hnew⟩ := storeOb_sound hob h.heap hι hin hs hF
  obtain ⟨inf, z, hinf, hsz, _⟩ := (hT t i hi).info
  have hcl : (a.eval y).cells.size = inf.size := by have := hF.length; simp at this; omega
  have hst := storeCells_run (P := P) hb hle hone
  have hS := shp_set hob hsh
  have hlive := live_of_in hob hin
  have hrun : (execOp a.eval o).run P w = .ok .skip (w.setRow b (laid blk (base + offs (shp st.hp id) e + off) (a.eval y).cells.toList)) := by
    simp [execOp, ho, ex, Instr.storeAt, Instr.sureAddr, storeVar, sizeOf, typeInfo, hinf, hcl, hst]
  unfold Oper.wp
  rw [hrun, Oper.upon_skip]
  have hap := h.apart hob how hlive hι
  have hlt := (List.getElem?_eq_some_iff.1 hob).1
  refine hK ι _ _ ⟨?_, by rw [put_defers]; exact h.defers, ?_, ?_, h.keep, ?_, h.os, h.tape, h.output, by simpa using h.size, ?_, ?_⟩
  · refine put_F2 ?_ rfl
    rw [hS]; exact h.slots
  · intro j oj hj hoff
    rw [hS]
    by_cases hji : id = j
    · subst hji
      rw [List.getElem?_set_self hlt] at hj
      cases hj
      exact hnew _ (setRow_heap w b blk _ tt (0, 0) hb)
    · rw [List.getElem?_set_ne hji] at hj
      by_cases hlj : oj.live
      · refine (h.heap j oj hj hoff).ext (fun _ _ => ⟨rfl, rfl⟩) rfl fun b' base' room' hb' _ => ?_
        exact setRow_other w b b' _ (fun e => h.inj id j ob oj b base room b' base' room' hob hj hji how hlive hlj hι hb' e.symm)
      · obtain ⟨own, c⟩ := oj
        cases c with
        | dead => trivial
        | box cs => exact absurd (by simp [Ob.live, shpOb]) hlj
        | rows ks xs => exact absurd (by simp [Ob.live, shpOb]) hlj
  · intro i j oi oj b1 base1 room1 b2 base2 room2 hi' hj' hij hoi hli hlj h1 h2
    have aux : ∀ (k : Nat) (ok : Ob), (st.hp.set id ob')[k]? = some ok → ∃ ok', st.hp[k]? = some ok' ∧ ok'.own = ok.own ∧ shpOb ok' = shpOb ok := by
      intro k ok hk
      by_cases hki : id = k
      · subst hki
        rw [List.getElem?_set_self hlt] at hk
        cases hk
        exact ⟨ob, hob, by rw [how, how'], hsh.symm⟩
      · rw [List.getElem?_set_ne hki] at hk
        exact ⟨ok, hk, rfl, rfl⟩
    obtain ⟨oi', a1, a2, a3⟩ := aux i oi hi'
    obtain ⟨oj', c1, c2, c3⟩ := aux j oj hj'
    exact h.inj i j oi' oj' b1 base1 room1 b2 base2 room2 a1 c1 hij (by rw [a2]; exact hoi) (by unfold Ob.live; rw [a3]; exact hli) (by unfold Ob.live; rw [c3]; exact hlj) h1 h2
  · intro j oj hj
    obtain ⟨ob1, h1, h2, h3⟩ := h.flag j oj hj
    by_cases hji : id = j
    · subst hji
      rw [hob] at h1; cases h1
      exact ⟨ob', List.getElem?_set_self hlt, by rw [how', ← how]; exact h2, by rw [hsh]; exact h3⟩
    · exact ⟨ob1, by rw [List.getElem?_set_ne hji]; exact h1, h2, h3⟩
  · intro k hk hn
    rw [setRow_other w b k _ (fun e => ?_)]
    · exact h.block k hk hn
    · subst e
      rcases hap with h1 | h1
      · omega
      · exact hn h1
  · intro j oj b1 base1 room1 hj hoj hlj hon
    by_cases hji : id = j
    · subst hji
      exact h.fresh id ob b1 base1 room1 hj hob hlive hon
    · rw [List.getElem?_set_ne hji] at hoj
      exact h.fresh j oj b1 base1 room1 hj hoj hlj hon
end Go.Fx
/- An object that grows. -/
namespace Go.Fx
variable {P : Program} {ty : Nat → Option TI} {sl : List V} {hp : List Ob}

theorem shpOb_kill (i : Nat) (ob : Ob) : shpOb (ob.kill i) = shpOb ob := by
  obtain ⟨own, c⟩ := ob; cases c <;> rfl
theorem own_kill (i : Nat) (ob : Ob) : (ob.kill i).own = ob.own := by
  obtain ⟨own, c⟩ := ob; cases c <;> rfl

theorem ObR.kill {ι ι' : Nat → Pl} {S S' : Nat → Shp} {w w' : World} {i id : Nat} {ob : Ob} (hs : ∀ id, id ≠ i → S id ≠ .no → ι' id = ι id ∧ S' id = S id) (hid : ι' id = ι id)
    (hw : ∀ b base room, ι id = .on b base room → b < w.heap.size → w'.heap[b]? = w.heap[b]?) (h : ObR ι S w id ob) : ObR ι' S' w' id (ob.kill i) := by
  obtain ⟨own, c⟩ := ob
  cases c with
  | dead => trivial
  | box cs =>
    obtain ⟨b, base, room, blk, t, fz, h1, h2, h3, h4, h5, h6⟩ := h
    refine ⟨b, base, room, blk, t, fz, hid ▸ h1, by rw [hw b base room h1 (lt_of_heap h2)]; exact h2, h3, by simpa using h4, h5, fun j a ha => ?_⟩
    rw [List.getElem?_map] at ha
    cases hc : cs[j]? with
    | none => simp [hc] at ha
    | some a' =>
      simp [hc] at ha
      subst ha
      obtain ⟨c, e1, e2⟩ := h6 j a' hc
      exact ⟨c, e1, AR.kill hs e2⟩
  | rows ks xs =>
    rcases h with ⟨h1, h2⟩ | ⟨b, base, room, blk, t, fz, h1, h2, h3, h4, h5⟩
    · exact .inl ⟨hid ▸ h1, h2⟩
    · exact .inr ⟨b, base, room, blk, t, fz, hid ▸ h1, by rw [hw b base room h1 (lt_of_heap h2)]; exact h2, h3, h4, h5⟩

theorem ObR.dead {ι : Nat → Pl} {S : Nat → Shp} {w : World} {id : Nat} {ob : Ob} (h : ¬ ob.live) : ObR ι S w id ob := by
  obtain ⟨own, c⟩ := ob
  cases c with
  | dead => trivial
  | box cs => exact absurd (by simp [Ob.live, shpOb]) h
  | rows ks xs => exact absurd (by simp [Ob.live, shpOb]) h

theorem live_kill {i : Nat} {ob : Ob} : (ob.kill i).live ↔ ob.live := by unfold Ob.live; rw [shpOb_kill]

theorem Rel.regrow {g : Beg} {ι : Nat → Pl} {st : St} {a : Act} {w w' : World} {id tgt : Nat} {ob ob' : Ob} {hp' : List Ob} {pl : Pl} {v : V} {c : Value} {d : Option Nat} (h : Rel g ι st a w)
    (hob : st.hp[id]? = some ob) (hown : ob.own = true) (hlive : ob.live) (htgt : (tgt = id ∧ g.h0.length ≤ id) ∨ tgt = st.hp.length)
    (hA : ∀ j, j ≠ id → j ≠ tgt → hp'[j]? = (st.hp[j]?).map (Ob.kill id)) (hT : hp'[tgt]? = some ob') (hD : tgt ≠ id → hp'[id]? = some ⟨true, .dead⟩)
    (hos : w'.os = w.os) (htape : w'.tape = w.tape) (hout : w'.output = w.output) (hsize : w.heap.size ≤ w'.heap.size)
    (hblk : ∀ k, k < w.heap.size → (∀ base room, ι id ≠ .on k base room) → w'.heap[k]? = w.heap[k]?)
    (hpl : ∀ b base room, pl = .on b base room → w.heap.size ≤ b ∨ ∃ base' room', ι id = .on b base' room')
    (hnew : ObR (fun j => if j = tgt then pl else ι j) (shp hp') w' tgt ob')
    (hv : VR (fun j => if j = tgt then pl else ι j) (shp hp') v c) :
    Rel g (fun j => if j = tgt then pl else ι j) ⟨put (st.sl.map (V.kill id)) d v, hp'⟩ (a.put d c) w' := by
  have hlen := h.len
  have hidlt : id < st.hp.length := (List.getElem?_eq_some_iff.1 hob).1
  have hS : ∀ j, j ≠ id → shp st.hp j ≠ .no → j ≠ tgt ∧ shp hp' j = shp st.hp j := by
    intro j hj hn
    have hl := shp_lt hn
    have hjt : j ≠ tgt := by rcases htgt with ⟨h1, _⟩ | h1 <;> omega
    refine ⟨hjt, ?_⟩
    unfold shp
    rw [hA j hj hjt]
    cases ho : st.hp[j]? with
    | none => rfl
    | some ob => exact shpOb_kill id ob
  have hext : ∀ j, j ≠ id → shp st.hp j ≠ .no → (fun j => if j = tgt then pl else ι j) j = ι j ∧ shp hp' j = shp st.hp j := fun j hj hn => by
    obtain ⟨h1, h2⟩ := hS j hj hn
    exact ⟨by simp [h1], h2⟩
  -- objects that are there behind it
  have hold : ∀ (j : Nat) (oj : Ob), hp'[j]? = some oj → j ≠ tgt → oj.live → j ≠ id ∧ ∃ oj', st.hp[j]? = some oj' ∧ oj = oj'.kill id ∧ oj'.live := by
    intro j oj hj hjt hl
    have hjid : j ≠ id := by
      rintro rfl
      rw [hD (fun e => hjt e.symm)] at hj
      cases hj
      exact hl rfl
    refine ⟨hjid, ?_⟩
    rw [hA j hjid hjt] at hj
    cases ho : st.hp[j]? with
    | none => simp [ho] at hj
    | some oj' =>
      simp [ho] at hj
      subst hj
      exact ⟨oj', rfl, rfl, live_kill.1 hl⟩
  have hap : ∀ b base room, ι id = .on b base room → g.w0.heap.size ≤ b ∨ g.mine b := fun b base room hι => h.apart hob hown hlive hι
  have hsz0 := h.size
  refine ⟨put_F2 (F2.map_left (fun _ _ hr => VR.kill hext hr) h.slots) hv, by rw [put_defers]; exact h.defers, fun j oj hj hoff => ?_, ?_, fun j hj => ?_, fun j oj hj => ?_, hos.trans h.os, htape.trans h.tape, hout.trans h.output, Nat.le_trans h.size hsize, fun k hk hn => ?_, ?_⟩
  · by_cases hjt : j = tgt
    · subst hjt
      rw [hT] at hj; cases hj
      exact hnew
    · by_cases hl : oj.live
      · obtain ⟨hjid, oj', h1, h2, h3⟩ := hold j oj hj hjt hl
        subst h2
        simp only [hjt, if_false] at hoff
        refine (h.heap j oj' h1 hoff).kill hext (by simp [hjt]) fun b base room hι hb => hblk b hb fun base' room' hc => ?_
        exact h.inj id j ob oj' b base' room' b base room hob h1 (fun e => hjid e.symm) hown hlive h3 hc hι rfl
      · exact ObR.dead hl
  · intro i j oi oj b1 base1 room1 b2 base2 room2 hi hj hij hoi hli hlj h1 h2
    by_cases hit : i = tgt
    · have hjt : j ≠ tgt := fun e => hij (hit.trans e.symm)
      simp only [hit, if_true] at h1
      simp only [hjt, if_false] at h2
      obtain ⟨hjid, oj', g1, g2, g3⟩ := hold j oj hj hjt hlj
      have hb2 := lt_of_HR h.heap g1 g3 h2
      rcases hpl _ _ _ h1 with hb | ⟨base', room', hb⟩
      · omega
      · exact h.inj id j ob oj' b1 base' room' b2 base2 room2 hob g1 (fun e => hjid e.symm) hown hlive g3 hb h2
    · simp only [hit, if_false] at h1
      obtain ⟨hiid, oi', g1, g2, g3⟩ := hold i oi hi hit hli
      have hoi' : oi'.own = true := by rw [g2, own_kill] at hoi; exact hoi
      have hb1 := lt_of_HR h.heap g1 g3 h1
      by_cases hjt : j = tgt
      · simp only [hjt, if_true] at h2
        rcases hpl _ _ _ h2 with hb | ⟨base', room', hb⟩
        · omega
        · exact h.inj i id oi' ob b1 base1 room1 b2 base' room' g1 hob hiid hoi' g3 hlive h1 hb
      · simp only [hjt, if_false] at h2
        obtain ⟨hjid, oj', k1, k2, k3⟩ := hold j oj hj hjt hlj
        exact h.inj i j oi' oj' b1 base1 room1 b2 base2 room2 g1 k1 hij hoi' g3 k3 h1 h2
  · have hjt : j ≠ tgt := by rcases htgt with ⟨h1, h2⟩ | h1 <;> omega
    simp only [hjt, if_false]
    exact h.keep j hj
  · obtain ⟨o1, h1, h2, h3⟩ := h.flag j oj hj
    have hjl : j < g.h0.length := (List.getElem?_eq_some_iff.1 hj).1
    have hjt : j ≠ tgt := by rcases htgt with ⟨h1, h2⟩ | h1 <;> omega
    by_cases hjid : j = id
    · subst hjid
      rw [hob] at h1; cases h1
      exact ⟨_, hD (fun e => hjt e.symm), by rw [← h2]; exact hown.symm, .inr rfl⟩
    · exact ⟨o1.kill id, by rw [hA j hjid hjt, h1]; rfl, by rw [own_kill]; exact h2, by rw [shpOb_kill]; exact h3⟩
  · rw [hblk k (by omega) (fun base room hι => ?_)]
    · exact h.block k hk hn
    · rcases hap k base room hι with h1 | h1
      · omega
      · exact hn h1
  · intro j oj b base room hjl hj hl hon
    by_cases hjt : j = tgt
    · simp only [hjt, if_true] at hon
      rcases hpl _ _ _ hon with hb | ⟨base', room', hb⟩
      · exact .inl (by omega)
      · exact hap _ _ _ hb
    · simp only [hjt, if_false] at hon
      obtain ⟨hjid, oj', g1, g2, g3⟩ := hold j oj hj hjt hl
      exact h.fresh j oj' b base room hjl g1 g3 hon
end Go.Fx
/- Append to a row of one's own. -/
namespace Go.Fx
variable {P : Program} {ty : Nat → Option TI} {sl : List V} {hp : List Ob}

theorem run_append_in (w : World) (t tyy e : TypeId) (i : TypeInfo) (ht : P.underlying t = some (.slice e)) (hi : P.info? e = some i)
    (g sLen sCap : Nat) (cur : Array Value) (bt : TypeId) (hg : w.heap[g]? = some (.cells cur bt (0, 0)))
    (a : Option Addr) (m c : Nat) (news : List Value) (hl : news.length = m * i.size) (hnews : 0 < m → ∃ ad, a = some ad ∧ ∀ j u, news[j]? = some u → w.cell? (ad.add j) = some u) (h1 : ∀ u ∈ news, u.oneCell' = true)
    (hroom : sLen + m ≤ sCap) (hfit : sLen * i.size + news.length ≤ cur.size) :
    (Builtin.append_ #[t, t] tyy #[.slice (some ⟨g, 0, none⟩) sLen sCap, .slice a m c]).run P w =
      .ok (.slice (some ⟨g, 0, none⟩) (sLen + m) sCap) (w.setRow g (laid cur (sLen * i.size) news)) := by
  have hst := storeCells_run (P := P) hg hfit h1
  rcases Nat.eq_zero_or_pos m with h0 | h0
  · subst h0
    have hn : news = [] := List.eq_nil_of_length_eq_zero (by simpa using hl)
    subst hn
    have e0 : storeCells ⟨g, sLen * i.size, none⟩ [] 0 = pure () := rfl
    have hid : w.setRow g (laid cur (sLen * i.size) []) = w := by
      have := hst
      rw [e0] at this
      simpa using this.symm
    rw [hid]
    cases a <;> simp [Builtin.append_, run_underlying ht, sizeOf, typeInfo, hi, Builtin.lenOf, Builtin.firstCells, loadCells, loadCellsFrom, storeCells, Nat.add_zero] <;> omega
  · obtain ⟨ad, rfl, hc⟩ := hnews h0
    have hf := run_firstCells_some (P := P) w i.size m ad m c news hl hc
    simp [Builtin.append_, run_underlying ht, sizeOf, typeInfo, hi, Builtin.lenOf, hroom, hf, Addr.add_at, hst]

theorem KR.one {k : K} {n : Int} {c : Value} (h : KR k n c) : c.oneCell' = true := by
  cases k with
  | f k => obtain ⟨b, rfl, _⟩ := h; rfl
  | i k => obtain rfl := h; rfl
  | b => obtain ⟨b, rfl, _⟩ := h; rfl

/-- Rows as a list of cells. -/
def RowsL (cs : List Value) (ks : List K) (xs : List (List Int)) : Prop :=
  ∀ e row, xs[e]? = some row → row.length = ks.length ∧ ∀ o kd, ks[o]? = some kd → ∃ c, cs[e * ks.length + o]? = some c ∧ KR kd (row.getD o 0) c

theorem RowsL.append {cs ds : List Value} {ks : List K} {xs ys : List (List Int)} (hx : RowsL cs ks xs) (hy : RowsL ds ks ys) (hl : cs.length = xs.length * ks.length) : RowsL (cs ++ ds) ks (xs ++ ys) := by
  intro e row he
  rcases Nat.lt_or_ge e xs.length with h | h
  · rw [List.getElem?_append_left h] at he
    obtain ⟨h1, h2⟩ := hx e row he
    refine ⟨h1, fun o kd ho => ?_⟩
    obtain ⟨c, h3, h4⟩ := h2 o kd ho
    refine ⟨c, ?_, h4⟩
    rw [List.getElem?_append_left (List.getElem?_eq_some_iff.1 h3).1]; exact h3
  · rw [List.getElem?_append_right h] at he
    obtain ⟨h1, h2⟩ := hy _ row he
    refine ⟨h1, fun o kd ho => ?_⟩
    obtain ⟨c, h3, h4⟩ := h2 o kd ho
    refine ⟨c, ?_, h4⟩
    have he : e * ks.length + o = cs.length + ((e - xs.length) * ks.length + o) := by
      rw [hl, ← Nat.add_assoc, ← Nat.add_mul]; congr 2; omega
    rw [he, List.getElem?_append_right (by omega)]
    simpa using h3

theorem RowsL.all {cs : List Value} {ks : List K} {xs : List (List Int)} (h : RowsL cs ks xs) (hl : cs.length = xs.length * ks.length) : ∀ u ∈ cs, u.oneCell' = true := by
  intro u hu
  obtain ⟨j, hj, rfl⟩ := List.mem_iff_getElem.1 hu
  have hk0 : 0 < ks.length := by
    rcases Nat.eq_zero_or_pos ks.length with h0 | h0
    · rw [hl, h0] at hj; simp at hj
    · exact h0
  have hq : j / ks.length < xs.length := Nat.div_lt_of_lt_mul (by rw [Nat.mul_comm, ← hl]; exact hj)
  have hm : j % ks.length < ks.length := Nat.mod_lt _ hk0
  obtain ⟨_, h2⟩ := h (j / ks.length) _ (List.getElem?_eq_getElem hq)
  obtain ⟨c, h3, h4⟩ := h2 (j % ks.length) _ (List.getElem?_eq_getElem hm)
  have : j / ks.length * ks.length + j % ks.length = j := by have := Nat.div_add_mod j ks.length; rw [Nat.mul_comm] at this; exact this
  rw [this, List.getElem?_eq_getElem hj] at h3
  cases h3
  exact h4.one

theorem RowsL.of_block {blk : Array Value} {ks : List K} {xs : List (List Int)} (h : RowsR blk 0 ks xs) : RowsL blk.toList ks xs := by
  intro e row he
  obtain ⟨h1, h2⟩ := h e row he
  refine ⟨h1, fun o kd ho => ?_⟩
  obtain ⟨c, h3, h4⟩ := h2 o kd ho
  exact ⟨c, by rw [Nat.zero_add] at h3; simpa using h3, h4⟩

theorem RowsL.block {blk : Array Value} {ks : List K} {xs : List (List Int)} (h : RowsL blk.toList ks xs) : RowsR blk 0 ks xs := by
  intro e row he
  obtain ⟨h1, h2⟩ := h e row he
  refine ⟨h1, fun o kd ho => ?_⟩
  obtain ⟨c, h3, h4⟩ := h2 o kd ho
  exact ⟨c, by rw [Nat.zero_add]; simpa using h3, h4⟩

theorem RowsL.take {cs : List Value} {ks : List K} {xs : List (List Int)} (h : RowsL cs ks xs) : RowsL (cs.take (xs.length * ks.length)) ks xs := by
  intro e row he
  obtain ⟨h1, h2⟩ := h e row he
  have hen : e < xs.length := (List.getElem?_eq_some_iff.1 he).1
  refine ⟨h1, fun o kd ho => ?_⟩
  obtain ⟨c, h3, h4⟩ := h2 o kd ho
  refine ⟨c, ?_, h4⟩
  rw [List.getElem?_take, if_pos (idx_lt hen (List.getElem?_eq_some_iff.1 ho).1)]
  exact h3

theorem RowsL.more {cs ds : List Value} {ks : List K} {xs : List (List Int)} (h : RowsL cs ks xs) : RowsL (cs ++ ds) ks xs := by
  intro e row he
  obtain ⟨h1, h2⟩ := h e row he
  refine ⟨h1, fun o kd ho => ?_⟩
  obtain ⟨c, h3, h4⟩ := h2 o kd ho
  refine ⟨c, ?_, h4⟩
  rw [List.getElem?_append_left (List.getElem?_eq_some_iff.1 h3).1]; exact h3

theorem RowsL.len {blk : Array Value} {ks : List K} {xs : List (List Int)} (h : RowsL blk.toList ks xs) (hk : 0 < ks.length) : xs.length * ks.length ≤ blk.size := by
  rcases Nat.eq_zero_or_pos xs.length with h0 | h0
  · simp [h0]
  · obtain ⟨_, h2⟩ := h (xs.length - 1) _ (List.getElem?_eq_getElem (by omega))
    obtain ⟨c, h3, _⟩ := h2 (ks.length - 1) _ (List.getElem?_eq_getElem (by omega))
    have := (List.getElem?_eq_some_iff.1 h3).1
    simp at this
    have e : xs.length * ks.length = (xs.length - 1) * ks.length + ks.length := by
      rw [← Nat.succ_mul]; congr 1; omega
    omega

/-- What append does to a row of one's own. -/
theorem own_append {ι : Nat → Pl} {w : World} {id : Nat} {t tyy et : TypeId} {ei : TI} {ks : List K} {xs ys : List (List Int)} {c cy : Value} {ya : A} (hT : TyOK P ty) (ht : tyOf ty t = some (.sl et)) (he : ty et = some ei) (hks : ei.ks = some ks)
    (hhr : HR ι hp w) (hob : hp[id]? = some ⟨true, .rows ks xs⟩) (hc : AR ι (shp hp) (.sl id) c) (hys : slRows hp ya = some ys) (hcy : AR ι (shp hp) ya cy) (hfit : ksFit hp ks ya = true)
    (hn : xs.length + ys.length ≤ 1073741824) (hb : ei.bytes ≤ 1024) (h0 : 0 < ei.size) :
    ∃ v' w' pl, (Builtin.append_ #[t, t] tyy #[c, cy]).run P w = .ok v' w' ∧ w'.os = w.os ∧ w'.tape = w.tape ∧ w'.output = w.output ∧ w.heap.size ≤ w'.heap.size ∧
      (∀ k, k < w.heap.size → (∀ base room, ι id ≠ .on k base room) → w'.heap[k]? = w.heap[k]?) ∧
      (∀ b base room, pl = .on b base room → w.heap.size ≤ b ∨ ∃ base' room', ι id = .on b base' room') ∧
      ∀ ι' S' tgt, ι' tgt = pl → S' tgt = .rows ks (xs ++ ys).length → AR ι' S' (.sl tgt) v' ∧ ObR ι' S' w' tgt ⟨true, .rows ks (xs ++ ys)⟩ := by
  have hd := tyOf_DR hT ht
  have hTe := hT et ei he
  obtain ⟨inf, zv, hinf, hsz, hby, hzv, hcells⟩ := hTe.info
  have hkl := hTe.ks ks hks
  have hzl : zv.cells.size = ei.size := by have h1 := hcells.length; have h2 := hTe.zl; simp at h1; omega
  obtain ⟨ay, m, rfl, hcase⟩ := slRows_sound hhr hys hcy fun _ => ksFit_ks hfit
  have hnews : ∃ news : List Value, news.length = ys.length * ks.length ∧ RowsL news ks ys ∧ (0 < ys.length → ∃ ad, ay = some ad ∧ ∀ j u, news[j]? = some u → w.cell? (ad.add j) = some u) := by
    rcases Nat.eq_zero_or_pos ys.length with hy0 | hy0
    · have : ys = [] := List.eq_nil_of_length_eq_zero hy0
      subst this
      exact ⟨[], by simp, fun e row he => by simp at he, fun h => by simp at h⟩
    · obtain ⟨ad, h1, news, h2, h3, h4⟩ := hcase hy0
      exact ⟨news, h2, h4, fun _ => ⟨ad, h1, h3⟩⟩
  obtain ⟨news, n1, n2, n3⟩ := hnews
  have hone := n2.all n1
  have hbytes : (xs.length + ys.length) * ei.bytes ≤ 140737488355328 := by
    have : (xs.length + ys.length) * ei.bytes ≤ 1073741824 * 1024 := Nat.mul_le_mul hn hb
    omega
  have hml : xs.length + ys.length ≤ maxLen := by unfold maxLen; omega
  -- a new block
  have grown : ∀ (olds : List Value) (old : Nat), olds.length = xs.length * ks.length → RowsL olds ks xs → ∀ v',
      v' = .slice (some ⟨w.heap.size, 0, none⟩) (xs.length + ys.length) (grownCap w (xs.length + ys.length) old et) → ∀ ι' S' tgt,
      ι' tgt = .on w.heap.size 0 (grownCap w (xs.length + ys.length) old et * ei.size) → S' tgt = .rows ks (xs ++ ys).length → AR ι' S' (.sl tgt) v' ∧
        ObR ι' S' (w.drew.alloc (.cells (olds.toArray ++ news.toArray ++ Builtin.zeroCells zv.cells (grownCap w (xs.length + ys.length) old et - (xs.length + ys.length))) et)) tgt ⟨true, .rows ks (xs ++ ys)⟩ := by
    intro olds old hol hrl v' hv' ι' S' tgt hι hS
    have hcap := grownCap_ge w (xs.length + ys.length) old et
    have hcm := grownCap_le_maxLen w (xs.length + ys.length) old et hml
    have hbs : (olds.toArray ++ news.toArray ++ Builtin.zeroCells zv.cells (grownCap w (xs.length + ys.length) old et - (xs.length + ys.length))).size = grownCap w (xs.length + ys.length) old et * ei.size := by
      simp only [Array.size_append, List.size_toArray, size_zeroCells, hzl, n1, hol, hkl, ← Nat.add_mul]
      congr 1; omega
    subst hv'
    refine ⟨⟨ks, _, hS, .inr ⟨_, _, _, _, hι, ?_, ?_, ?_, hcm⟩⟩, .inr ⟨_, _, _, _, et, (0, 0), hι, heap_alloc_at w.drew _, by omega, fun _ => ⟨rfl, rfl, hbs⟩, RowsL.block ?_⟩⟩
    · simp
    · simpa using hcap
    · rw [hkl]; exact Nat.le_refl _
    · simp only [Array.toList_append]
      exact (hrl.append n2 hol).more
  have hXl : (xs ++ ys).length = xs.length + ys.length := by simp
  obtain ⟨ks', n, hS, hcs⟩ := hc
  rw [shp_of hob] at hS
  simp only [shpOb, Shp.rows.injEq] at hS
  obtain ⟨rfl, rfl⟩ := hS
  rcases hcs with ⟨hι, hx0, ba, rfl⟩ | ⟨b, base, room, cap, hι, rfl, hle, hroom, hcapm⟩
  · have hx : xs = [] := List.eq_nil_of_length_eq_zero hx0
    subst hx
    rcases Nat.eq_zero_or_pos ys.length with hy0 | hy0
    · have hy : ys = [] := List.eq_nil_of_length_eq_zero hy0
      subst hy
      have hr := run_append_none (P := P) w t tyy et inf hd hinf ba ay m
      refine ⟨.slice ba 0 0, w, .empty, hr, rfl, rfl, rfl, Nat.le_refl _, fun _ _ _ => rfl, (fun _ _ _ h => by cases h), fun ι' S' tgt h1 h2 => ⟨⟨ks, 0, h2, .inl ⟨h1, rfl, ba, rfl⟩⟩, .inl ⟨h1, rfl⟩⟩⟩
    · obtain ⟨ad, rfl, n4⟩ := n3 hy0
      have hfits := growslice_fits (need := ys.length) (old := 0) (bytes := ei.bytes) hy0 (by simpa using hbytes)
      have hr := run_append_empty (P := P) w t tyy et inf zv hd hinf hzv ba ad ys.length m news (by rw [n1, hsz, hkl]) n4 hy0 (by simp at hn; omega) (by rw [hby]; exact hfits)
      refine ⟨_, _, .on w.heap.size 0 (grownCap w ys.length 0 et * ei.size), hr, rfl, rfl, rfl, by simp, fun k hk _ => heap_alloc_old w.drew _ k hk, fun _ _ _ h => by cases h; exact .inl (Nat.le_refl _), ?_⟩
      have := grown [] 0 (by simp) (fun e row he => by simp at he)
      simpa using this
  · have hobr := hhr id _ hob (by rw [hι]; simp)
    rcases hobr with ⟨h1, _⟩ | ⟨b', base', room', blk, bt, fz, h1, h2, h3, h4, h5⟩
    · rw [hι] at h1; cases h1
    · rw [hι] at h1; cases h1
      obtain ⟨rfl, rfl, hbr⟩ := h4 rfl
      have hL := RowsL.of_block h5
      have hxs : xs.length * ks.length ≤ blk.size := hL.len (by omega)
      by_cases hfits : xs.length + ys.length ≤ cap
      · have hfit2 : xs.length * inf.size + news.length ≤ blk.size := by
          rw [n1, hsz, ← hkl, ← Nat.add_mul, hbr]
          exact Nat.le_trans (Nat.mul_le_mul_right _ hfits) hroom
        have hr := run_append_in (P := P) w t tyy et inf hd hinf b xs.length cap blk bt h2 ay ys.length m news (by rw [n1, hsz, hkl]) n3 hone hfits hfit2
        refine ⟨_, _, .on b 0 room, hr, rfl, rfl, rfl, by simp, fun k hk hne => setRow_other w b k _ (fun e => hne 0 room (by rw [e]; exact hι)), fun _ _ _ h => by cases h; exact .inr ⟨_, _, hι⟩, fun ι' S' tgt g1 g2 => ⟨⟨ks, _, g2, .inr ⟨b, 0, room, cap, g1, by rw [hXl], by rw [hXl]; exact hfits, hroom, hcapm⟩⟩, ?_⟩⟩
        refine .inr ⟨b, 0, room, _, bt, (0, 0), g1, setRow_heap w b blk _ bt (0, 0) h2, by rw [laid_size hfit2]; exact h3, fun _ => ⟨rfl, rfl, by rw [laid_size hfit2]; exact hbr⟩, RowsL.block ?_⟩
        simp only [laid]
        rw [hsz, ← hkl]
        exact (hL.take.append n2 (by simp; omega)).more
      · have hy0 : 0 < ys.length := by omega
        obtain ⟨ad, rfl, n4⟩ := n3 hy0
        have hol : (blk.toList.take (xs.length * ks.length)).length = xs.length * inf.size := by simp; rw [hsz, ← hkl]; omega
        have hfs := growslice_fits (need := xs.length + ys.length) (old := cap) (bytes := ei.bytes) (by omega) hbytes
        have hr := run_append_grow (P := P) w t tyy et inf zv hd hinf hzv ⟨b, 0, none⟩ xs.length cap (blk.toList.take (xs.length * ks.length)) hol (by
            intro j v hj
            rw [Addr.add_at, cell_at h2]
            rw [List.getElem?_take] at hj
            split at hj
            · simpa using hj
            · cases hj) ad ys.length m news (by rw [n1, hsz, hkl]) n4 (by omega) (by omega) (by rw [hby]; exact hfs)
        refine ⟨_, _, .on w.heap.size 0 (grownCap w (xs.length + ys.length) cap et * ei.size), hr, rfl, rfl, rfl, by simp, fun k hk _ => heap_alloc_old w.drew _ k hk, fun _ _ _ h => by cases h; exact .inl (Nat.le_refl _), ?_⟩
        exact grown _ cap (by simp; omega) hL.take _ rfl
end Go.Fx
/- Append, over a whole state. -/
namespace Go.Fx
variable {P : Program} {ty : Nat → Option TI}

theorem eff_append {n0 : Nat} {o : Oper} {t et : TypeId} {x y : Operand} {id : Nat} {ya : A} {ei : TI} {ks : List K} {xs ys : List (List Int)} {st : St} (hT : TyOK P ty) (ho : o.op = .call { callee := .builtin .append, args := #[x, y], argTypes := #[t, t] })
    (ht : tyOf ty t = some (.sl et)) (he : ty et = some ei) (hks : ei.ks = some ks) (hx : evA st.sl x = .at (.sl id)) (hy : evA st.sl y = .at ya) (hys : slRows st.hp ya = some ys)
    (hob : st.hp[id]? = some ⟨true, .rows ks xs⟩) (hfit : ksFit st.hp ks ya = true) (hn : xs.length + ys.length ≤ 1073741824) (hb : ei.bytes ≤ 1024) (h0 : 0 < ei.size) :
    EffOp P n0 o st (match Nat.blt id n0 with
      | false => ⟨put (st.sl.map (V.kill id)) o.dst (.at (.sl id)), (st.hp.map (Ob.kill id)).set id ⟨true, .rows ks (xs ++ ys)⟩⟩
      | true => ⟨put (st.sl.map (V.kill id)) o.dst (.at (.sl st.hp.length)), (st.hp.map (Ob.kill id)).set id ⟨true, .dead⟩ ++ [⟨true, .rows ks (xs ++ ys)⟩]⟩) := by
  intro g ι a w hn0 h K Q hK
  have hvx := evA_VR h.slots x
  have hvy := evA_VR h.slots y
  rw [hx] at hvx; rw [hy] at hvy
  obtain ⟨v', w', pl, hr, hos, htape, hout, hsize, hblk, hpl, hfin⟩ := own_append (tyy := o.type) hT ht he hks h.heap hob hvx hys hvy hfit hn hb h0
  have hrun : (execOp a.eval o).run P w = .ok (.value v') w' := by
    simp [execOp, ho, resolve, invoke, builtin, hr]
  have hidlt : id < st.hp.length := (List.getElem?_eq_some_iff.1 hob).1
  have hlive : Ob.live ⟨true, .rows ks xs⟩ := by simp [Ob.live, shpOb]
  unfold Oper.wp
  rw [hrun, Oper.upon_value]
  cases hbl : Nat.blt id n0 with
  | false =>
    have hge : n0 ≤ id := by
      rcases Nat.lt_or_ge id n0 with h' | h'
      · have : Nat.blt id n0 = true := by rw [Nat.blt_eq]; exact h'
        rw [this] at hbl; cases hbl
      · exact h'
    rw [hbl] at hK
    have hT' : ((st.hp.map (Ob.kill id)).set id ⟨true, .rows ks (xs ++ ys)⟩)[id]? = some ⟨true, .rows ks (xs ++ ys)⟩ := List.getElem?_set_self (by simpa using hidlt)
    obtain ⟨f1, f2⟩ := hfin (fun j => if j = id then pl else ι j) (shp ((st.hp.map (Ob.kill id)).set id ⟨true, .rows ks (xs ++ ys)⟩)) id (by simp) (by rw [shp_of hT']; rfl)
    refine hK _ _ _ (h.regrow (tgt := id) (pl := pl) hob rfl hlive (.inl ⟨rfl, by omega⟩) (fun j hj _ => ?_) hT' (fun h => absurd rfl h) hos htape hout hsize hblk hpl f2 f1)
    rw [List.getElem?_set_ne (fun e => hj e.symm), List.getElem?_map]
  | true =>
    rw [hbl] at hK
    have hT' : ((st.hp.map (Ob.kill id)).set id ⟨true, .dead⟩ ++ [⟨true, .rows ks (xs ++ ys)⟩])[st.hp.length]? = some ⟨true, .rows ks (xs ++ ys)⟩ := by
      rw [List.getElem?_append_right (by simp)]; simp
    obtain ⟨f1, f2⟩ := hfin (fun j => if j = st.hp.length then pl else ι j) (shp ((st.hp.map (Ob.kill id)).set id ⟨true, .dead⟩ ++ [⟨true, .rows ks (xs ++ ys)⟩])) st.hp.length (by simp) (by rw [shp_of hT']; rfl)
    refine hK _ _ _ (h.regrow (tgt := st.hp.length) (pl := pl) hob rfl hlive (.inr rfl) (fun j hj hjt => ?_) hT' (fun _ => ?_) hos htape hout hsize hblk hpl f2 f1)
    · rcases Nat.lt_or_ge j st.hp.length with hl | hl
      · rw [List.getElem?_append_left (by simpa using hl), List.getElem?_set_ne (fun e => hj e.symm), List.getElem?_map]
      · rw [List.getElem?_eq_none (by simp; omega), List.getElem?_eq_none (by omega)]; rfl
    · rw [List.getElem?_append_left (by simpa using hidlt), List.getElem?_set_self (by simpa using hidlt)]
end Go.Fx
/- Views that take no part of what is there. -/
namespace Go.Fx
variable {P : Program} {cx : Cx} {ty : Nat → Option TI}

/-! ### views of what is no part -/
structure ViewsE (ι ι' : Nat → Pl) (hp hp' : List Ob) (w : World) : Prop where
  v : Views ι ι' hp hp' w
  e : ∀ id, hp.length ≤ id → id < hp'.length → ι' id = .empty

theorem ViewsE.refl {hp : List Ob} {ι : Nat → Pl} {w : World} (h : HR ι hp w) : ViewsE ι ι hp hp w := ⟨Views.refl h, fun id h1 h2 => by omega⟩

theorem Views.len {hp hp' : List Ob} {ι ι' : Nat → Pl} {w : World} (h : Views ι ι' hp hp' w) : hp.length ≤ hp'.length := by
  obtain ⟨⟨vs, rfl⟩, _, _⟩ := h; simp

theorem ViewsE.trans {ι ι' ι'' : Nat → Pl} {hp hp' hp'' : List Ob} {w : World} (h : ViewsE ι ι' hp hp' w) (k : ViewsE ι' ι'' hp' hp'' w) : ViewsE ι ι'' hp hp'' w := by
  refine ⟨h.v.trans k.v, fun id h1 h2 => ?_⟩
  rcases Nat.lt_or_ge id hp'.length with hl | hl
  · rw [k.v.agree id hl]; exact h.e id h1 hl
  · exact k.e id hl h2

theorem viewA_E {hp : List Ob} {ι : Nat → Pl} {w : World} {lk : Option (List K)} {a a' : A} {hp' : List Ob} {c : Value} (hv : viewA hp lk a = (a', hp')) (hn : isSub a = false) (h : HR ι hp w) (ha : AR ι (shp hp) a c) :
    ∃ ι', ViewsE ι ι' hp hp' w ∧ AR ι' (shp hp') a' c := by
  unfold viewA at hv
  split at hv
  · cases lk with
    | none => simp at hv; obtain ⟨rfl, rfl⟩ := hv; exact ⟨ι, ViewsE.refl h, ha⟩
    | some ks =>
      simp at hv
      obtain ⟨rfl, rfl⟩ := hv
      obtain ⟨ι', h1, h2⟩ := Views.one h ⟨true, .rows ks []⟩ .empty (fun ι' _ hon => .inl ⟨hon, rfl⟩)
      obtain ⟨ad, rfl⟩ := ha
      refine ⟨ι', ⟨h1, fun id g1 g2 => ?_⟩, ks, 0, by rw [shp_new]; rfl, .inl ⟨h2, rfl, ad, rfl⟩⟩
      have : id = hp.length := by simp at g2; omega
      subst this
      exact h2
  · simp [isSub] at hn
  · simp at hv
    obtain ⟨rfl, rfl⟩ := hv
    exact ⟨ι, ViewsE.refl h, ha⟩

theorem viewAs_E {w : World} : ∀ {lks : List (Option (List K))} {as as' : List A} {hp hp' : List Ob} {ι : Nat → Pl} {cs : List Value}, viewAs hp lks as = (as', hp') → (∀ a ∈ as, isSub a = false) → HR ι hp w → F2 (AR ι (shp hp)) as cs →
    ∃ ι', ViewsE ι ι' hp hp' w ∧ F2 (AR ι' (shp hp')) as' cs := by
  have step : ∀ {lk : Option (List K)} {a a' : A} {as as' : List A} {hp hp1 hp' : List Ob} {ι : Nat → Pl} {c : Value} {cs : List Value}, viewA hp lk a = (a', hp1) → isSub a = false → HR ι hp w → AR ι (shp hp) a c → F2 (AR ι (shp hp)) as cs →
      (∀ ι1, HR ι1 hp1 w → F2 (AR ι1 (shp hp1)) as cs → ∃ ι', ViewsE ι1 ι' hp1 hp' w ∧ F2 (AR ι' (shp hp')) as' cs) →
      ∃ ι', ViewsE ι ι' hp hp' w ∧ F2 (AR ι' (shp hp')) (a' :: as') (c :: cs) := by
    intro lk a a' as as' hp hp1 hp' ι c cs hv hn h ha has ih
    obtain ⟨ι1, v1, h1⟩ := viewA_E hv hn h ha
    obtain ⟨ι2, v2, h2⟩ := ih ι1 v1.v.heap (has.imp fun _ _ h => h.ext v1.v.ext)
    exact ⟨ι2, v1.trans v2, h1.ext v2.v.ext, h2⟩
  intro lks as
  induction as generalizing lks with
  | nil =>
    intro as' hp hp' ι cs hv _ h hF
    have : viewAs hp lks [] = ([], hp) := by cases lks <;> rfl
    rw [this] at hv
    cases hv
    match cs, hF with
    | [], _ => exact ⟨ι, ViewsE.refl h, trivial⟩
    | _ :: _, hF => exact hF.elim
  | cons a as ih =>
    intro as' hp hp' ι cs hv hn h hF
    match cs, hF with
    | [], hF => exact hF.elim
    | c :: cs, ⟨ha, has⟩ =>
      cases lks with
      | nil =>
        simp only [viewAs] at hv
        generalize h1 : viewA hp none a = q at hv
        obtain ⟨a1, hp1⟩ := q
        simp only at hv
        generalize h2 : viewAs hp1 [] as = q at hv
        obtain ⟨as1, hp2⟩ := q
        simp only [Prod.mk.injEq] at hv
        obtain ⟨rfl, rfl⟩ := hv
        exact step h1 (hn a (by simp)) h ha has fun ι1 g1 g2 => ih h2 (fun b hb => hn b (by simp [hb])) g1 g2
      | cons lk lks =>
        simp only [viewAs] at hv
        generalize h1 : viewA hp lk a = q at hv
        obtain ⟨a1, hp1⟩ := q
        simp only at hv
        generalize h2 : viewAs hp1 lks as = q at hv
        obtain ⟨as1, hp2⟩ := q
        simp only [Prod.mk.injEq] at hv
        obtain ⟨rfl, rfl⟩ := hv
        exact step h1 (hn a (by simp)) h ha has fun ι1 g1 g2 => ih h2 (fun b hb => hn b (by simp [hb])) g1 g2

theorem viewV_E {hp : List Ob} {w : World} {t : Nat} {v v' : V} {hp' : List Ob} {ι : Nat → Pl} {c : Value} {vs : List V} (hv : viewV ty hp t v = (v', hp')) (hn : anySub (v :: vs) = false) (h : HR ι hp w) (hr : VR ι (shp hp) v c) :
    (∃ ι', ViewsE ι ι' hp hp' w ∧ VR ι' (shp hp') v' c) ∧ anySub vs = false := by
  cases v with
  | «at» a =>
    simp only [anySub, Bool.or_eq_false_iff] at hn
    refine ⟨?_, hn.2⟩
    simp only [viewV] at hv
    generalize h2 : viewAs hp (lksOf ty t) [a] = q at hv
    obtain ⟨as1, hp2⟩ := q
    obtain ⟨ι', v1, v2⟩ := viewAs_E h2 (by simpa using hn.1) h (cs := [c]) ⟨hr, trivial⟩
    match as1, v2 with
    | [a1], ⟨v2, _⟩ =>
      simp only [Prod.mk.injEq] at hv
      obtain ⟨rfl, rfl⟩ := hv
      exact ⟨ι', v1, v2⟩
    | [], v2 => exact v2.elim
    | _ :: _ :: _, ⟨_, v2⟩ => exact v2.elim
  | agg as =>
    simp only [anySub, Bool.or_eq_false_iff] at hn
    refine ⟨?_, hn.2⟩
    simp only [viewV] at hv
    generalize h2 : viewAs hp (lksOf ty t) as = q at hv
    obtain ⟨as1, hp2⟩ := q
    simp only [Prod.mk.injEq] at hv
    obtain ⟨rfl, rfl⟩ := hv
    obtain ⟨cs, rfl, hF⟩ := hr
    obtain ⟨ι', v1, v2⟩ := viewAs_E h2 (by simpa using hn.1) h hF
    exact ⟨ι', v1, cs, rfl, v2⟩
  | tup xs =>
    simp only [anySub] at hn
    refine ⟨?_, hn⟩
    simp only [viewV, Prod.mk.injEq] at hv
    obtain ⟨rfl, rfl⟩ := hv
    exact ⟨ι, ViewsE.refl h, hr⟩

theorem viewVs_E {w : World} : ∀ {ts : List Nat} {vs vs' : List V} {hp hp' : List Ob} {ι : Nat → Pl} {cs : List Value}, viewVs ty hp ts vs = (vs', hp') → anySub vs = false → HR ι hp w → F2 (VR ι (shp hp)) vs cs →
    ∃ ι', ViewsE ι ι' hp hp' w ∧ F2 (VR ι' (shp hp')) vs' cs := by
  intro ts vs
  induction vs generalizing ts with
  | nil =>
    intro vs' hp hp' ι cs hv _ h hF
    have : viewVs ty hp ts [] = ([], hp) := by cases ts <;> rfl
    rw [this] at hv
    cases hv
    match cs, hF with
    | [], _ => exact ⟨ι, ViewsE.refl h, trivial⟩
    | _ :: _, hF => exact hF.elim
  | cons v vs ih =>
    intro vs' hp hp' ι cs hv hn h hF
    match cs, hF with
    | [], hF => exact hF.elim
    | c :: cs, ⟨ha, has⟩ =>
      have hn2 : anySub vs = false := by cases v <;> simp [anySub] at hn <;> simp [hn]
      cases ts with
      | nil =>
        simp only [viewVs] at hv
        generalize h2 : viewVs ty hp [] vs = q at hv
        obtain ⟨vs1, hp2⟩ := q
        simp only [Prod.mk.injEq] at hv
        obtain ⟨rfl, rfl⟩ := hv
        obtain ⟨ι', v1, v2⟩ := ih h2 hn2 h has
        exact ⟨ι', v1, VR.ext v1.v.ext ha, v2⟩
      | cons t ts =>
        simp only [viewVs] at hv
        generalize h1 : viewV ty hp t v = q at hv
        obtain ⟨a1, hp1⟩ := q
        simp only at hv
        generalize h2 : viewVs ty hp1 ts vs = q at hv
        obtain ⟨vs1, hp2⟩ := q
        simp only [Prod.mk.injEq] at hv
        obtain ⟨rfl, rfl⟩ := hv
        obtain ⟨⟨ι1, v1, v2⟩, _⟩ := viewV_E h1 hn h ha
        obtain ⟨ι2, w1, w2⟩ := ih h2 hn2 v1.v.heap (has.imp fun _ _ h => VR.ext v1.v.ext h)
        exact ⟨ι2, v1.trans w1, VR.ext w1.v.ext v2, w2⟩

/-- What came to be seen belongs to the state. -/
theorem RelH.views {g : Beg} {ι ι' : Nat → Pl} {hp hp' : List Ob} {w : World} (h : RelH g ι hp w) (hv : ViewsE ι ι' hp hp' w) : RelH g ι' hp' w := by
  obtain ⟨⟨⟨vs, rfl⟩, hag, hh⟩, hem⟩ := hv
  have hlen := h.len
  simp only at hlen
  have hon : ∀ (id : Nat) (ob : Ob) (b base room : Nat), (hp ++ vs)[id]? = some ob → ι' id = .on b base room → id < hp.length ∧ hp[id]? = some ob ∧ ι id = .on b base room := by
    intro id ob b base room ho hon
    rcases Nat.lt_or_ge id hp.length with hl | hl
    · rw [List.getElem?_append_left hl] at ho
      exact ⟨hl, ho, by rw [← hag id hl]; exact hon⟩
    · have hlt := (List.getElem?_eq_some_iff.1 ho).1
      rw [hem id hl hlt] at hon; cases hon
  refine ⟨trivial, rfl, hh, ?_, fun id hid => ?_, fun id ob ho => ?_, h.os, h.tape, h.output, h.size, h.block, ?_⟩
  · intro i j oi oj b base room b' base' room' hi hj hij hown hli hlj h1 h2
    obtain ⟨_, a2, a3⟩ := hon i oi b base room hi h1
    obtain ⟨_, c2, c3⟩ := hon j oj b' base' room' hj h2
    exact h.inj i j oi oj b base room b' base' room' a2 c2 hij hown hli hlj a3 c3
  · rw [hag id (by omega)]; exact h.keep id hid
  · obtain ⟨ob', h1, h2⟩ := h.flag id ob ho
    simp only at h1
    have hl := (List.getElem?_eq_some_iff.1 h1).1
    exact ⟨ob', by simp only; rw [List.getElem?_append_left hl]; exact h1, h2⟩
  · intro id ob b base room hid ho hl h1
    obtain ⟨_, a2, a3⟩ := hon id ob b base room ho h1
    exact h.fresh id ob b base room hid a2 hl a3

end Go.Fx
/- Calls of functions that change what they are given. -/
namespace Go.Fx
variable {P : Program} {ty : Nat → Option TI} {hp : List Ob}

/-- What a function does that may change its arguments' objects. -/
def HoldsE (P : Program) (f : FuncId) (args : List V) (h : List Ob) (r : V) (upd news : List Ob) : Prop :=
  ∀ (ι : Nat → Pl) (w : World) (cs : Array Value), F2 (VR ι (shp h)) args cs.toList → HR ι h w → INJ ι h →
    CallsV P f cs w fun c w' => ∃ ι', RelH ⟨w, ι, h⟩ ι' (upd ++ news) w' ∧ VR ι' (shp (upd ++ news)) r c

theorem idx_none {i : Nat} : ∀ {l : List Nat}, idx i l = none → i ∉ l
  | [], _ => by simp
  | j :: t, h => by
    simp only [idx] at h
    cases hb : Nat.beq i j with
    | true => simp [hb] at h
    | false =>
      simp only [hb] at h
      have hne : i ≠ j := fun e => by subst e; rw [Nat.beq_refl] at hb; cases hb
      cases ht : idx i t with
      | none => have := idx_none ht; simp [hne, this]
      | some n => simp [ht] at h

theorem idx_nodup {l : List Nat} (h : l.Nodup) {j i : Nat} (hj : l[j]? = some i) : idx i l = some j := by
  cases hi : idx i l with
  | none => exact absurd (List.mem_of_getElem? hj) (idx_none hi)
  | some k =>
    have hk := idx_get hi
    obtain ⟨h1, h2⟩ := List.getElem?_eq_some_iff.1 hk
    obtain ⟨h3, h4⟩ := List.getElem?_eq_some_iff.1 hj
    rcases Nat.lt_trichotomy k j with hlt | he | hgt
    · exact absurd (h2.trans h4.symm) (List.pairwise_iff_getElem.1 h k j h1 h3 hlt)
    · rw [he]
    · exact absurd (h4.trans h2.symm) (List.pairwise_iff_getElem.1 h j k h3 h1 hgt)

theorem backObs_length (m : Nat → Option Nat) : ∀ (ids : List Nat) (upd hp : List Ob), (backObs hp m ids upd).length = hp.length
  | [], _, _ => by simp [backObs]
  | _ :: _, [], _ => by simp [backObs]
  | i :: ids, ob :: upd, hp => by simp only [backObs]; rw [backObs_length m ids upd]; simp

theorem backObs_get (m : Nat → Option Nat) : ∀ (ids : List Nat) (upd hp : List Ob), ids.Nodup → ids.length = upd.length → ∀ id, id < hp.length →
    (backObs hp m ids upd)[id]? = (match idx id ids with | some j => (upd[j]?).map (Ob.ren m) | none => hp[id]?)
  | [], [], hp, _, _, id, _ => by simp [backObs, idx]
  | [], _ :: _, _, _, hl, _, _ => by simp at hl
  | _ :: _, [], _, _, hl, _, _ => by simp at hl
  | i :: ids, ob :: upd, hp, hn, hl, id, hid => by
    simp only [backObs]
    have hn' := List.nodup_cons.1 hn
    rw [backObs_get m ids upd _ hn'.2 (by simpa using hl) id (by simpa using hid)]
    simp only [idx]
    cases hb : Nat.beq id i with
    | true =>
      have he := Nat.eq_of_beq_eq_true hb
      subst he
      cases hi : idx id ids with
      | some j => exact absurd (List.mem_of_getElem? (idx_get hi)) hn'.1
      | none => simp [List.getElem?_set_self hid]
    | false =>
      have hne : i ≠ id := fun e => by subst e; rw [Nat.beq_refl] at hb; cases hb
      cases hi : idx id ids with
      | some j => simp
      | none => simp only; rw [List.getElem?_set_ne hne]

theorem sameLive_get : ∀ {a b : List Ob}, sameLive a b = true → a.length = b.length ∧ ∀ (j : Nat) (x y : Ob), a[j]? = some x → b[j]? = some y → shpOb y = .no → shpOb x = .no
  | [], [], _ => ⟨rfl, fun j x y h => by simp at h⟩
  | a :: as, b :: bs, h => by
    have hd : (shpOb b = .no → shpOb a = .no) ∧ sameLive as bs = true := by
      obtain ⟨ob, cb⟩ := b
      obtain ⟨oa, ca⟩ := a
      cases cb <;> cases ca <;> simp [sameLive, shpOb] at h ⊢ <;> exact h
    obtain ⟨h1, h2⟩ := sameLive_get hd.2
    refine ⟨by simp [h1], fun j x y hx hy => ?_⟩
    cases j with
    | zero => simp at hx hy; subst hx; subst hy; exact hd.1
    | succ j => exact h2 j x y (by simpa using hx) (by simpa using hy)
  | [], _ :: _, h => by simp [sameLive] at h
  | _ :: _, [], h => by simp [sameLive] at h

theorem reachAll_nodup (hp : List Ob) (l : List Nat) : (reach 3 (addIds [] l) hp).Nodup := by
  have h1 : ∀ (l acc : List Nat), acc.Nodup → (addIds acc l).Nodup := by
    intro l
    induction l with
    | nil => intro acc h; simpa [addIds] using h
    | cons i t ih =>
      intro acc h
      simp only [addIds]
      cases hh : hasId i acc with
      | true => exact ih acc h
      | false =>
        refine ih _ ?_
        have hni : i ∉ acc := fun hm => by rw [(hasId_iff i acc).2 hm] at hh; cases hh
        rw [List.nodup_append]
        refine ⟨h, by simp, fun a ha b hb => ?_⟩
        simp at hb
        subst hb
        rintro rfl
        exact hni ha
  have h2 : ∀ (n : Nat) (acc : List Nat), acc.Nodup → (reach n acc hp).Nodup := by
    intro n
    induction n with
    | zero => intro acc h; simpa [reach] using h
    | succ n ih => intro acc h; simp only [reach]; exact ih _ (h1 _ _ h)
  exact h2 3 _ (h1 l [] List.nodup_nil)

/-- A call that may change what it is given. -/
theorem eff_call {n0 : Nat} {o : Oper} {x : Operand} {args : Array Operand} {tys : Array TypeId} {f : FuncId} {caps : List (Nat × Nat × Nat)} {st : St} {args1 : List V} {hpT : List Ob} {ids : List Nat} {r : V} {upd news : List Ob}
    (ho : o.op = .call { callee := .value x, args := args, argTypes := tys }) (hx : evA st.sl x = .at (.fn f caps))
    (hview : viewVs ty st.hp tys.toList (args.toList.map (evA st.sl) ++ caps.map fun p => .at (.ptr p.1 p.2.1 p.2.2)) = (args1, hpT))
    (hns : anySub (args.toList.map (evA st.sl) ++ caps.map fun p => .at (.ptr p.1 p.2.1 p.2.2)) = false) (hnd : ids.Nodup)
    (hold : HoldsE P f (args1.map (V.ren fun i => idx i ids)) (pick hpT (fun i => idx i ids) false ids) r upd news)
    (hal : sameLive (pick hpT (fun i => idx i ids) false ids) upd = true) :
    EffOp P n0 o st ⟨put st.sl o.dst (r.ren (backId ids st.hp.length)), backObs st.hp (backId ids st.hp.length) ids upd ++ news.map (Ob.ren (backId ids st.hp.length))⟩ := by
  intro g ι a w hn0 h K Q hK
  have hvx := evA_VR h.slots x
  rw [hx] at hvx
  obtain ⟨cs, hev, hcaps⟩ := hvx
  have hargs : F2 (VR ι (shp st.hp)) (args.toList.map (evA st.sl) ++ caps.map fun p => .at (.ptr p.1 p.2.1 p.2.2)) (args.map a.eval ++ cs).toList := by
    rw [Array.toList_append, Array.toList_map]
    have hF : ∀ l : List Operand, F2 (VR ι (shp st.hp)) (l.map (evA st.sl)) (l.map a.eval) := fun l => by
      induction l with
      | nil => trivial
      | cons y t ih => exact ⟨evA_VR h.slots y, ih⟩
    have hcp : ∀ {caps : List (Nat × Nat × Nat)} {cs : List Value}, F2 (fun p c => PR ι (shp st.hp) p.1 p.2.1 p.2.2 c) caps cs → F2 (VR ι (shp st.hp)) (caps.map fun p => .at (.ptr p.1 p.2.1 p.2.2)) cs := by
      intro caps
      induction caps with
      | nil => intro cs hc; cases cs with | nil => trivial | cons _ _ => exact hc.elim
      | cons p t ih => intro cs hc; cases cs with | nil => exact hc.elim | cons c cs => exact ⟨hc.1, ih hc.2⟩
    exact (hF _).append (hcp hcaps)
  obtain ⟨ιT, hv, hargs1⟩ := viewVs_E hview hns h.heap hargs
  have hHT := h.toH.views hv
  obtain ⟨hhC, hcor⟩ := pick_HR (ro := false) hv.v.heap (fun i => idx i ids) (fun i j hij => idx_get hij)
  have hargs2 := F2.ren_list hcor hargs1
  generalize hιC : (fun j : Nat => (match ids[j]? with | some i => ιT i | none => Pl.off : Pl)) = ιC at hhC hcor hargs2
  generalize hC : pick hpT (fun i => idx i ids) false ids = hpC at hold hal hhC hcor hargs2
  obtain ⟨hlC, halC⟩ := sameLive_get hal
  have hlen : hpC.length = ids.length := by rw [← hC, pick_eq]; simp
  have hpre := hv.v.pre
  have hag := hv.v.agree
  have hem := hv.e
  -- an object of the callee's is one of the caller's
  have hgetC : ∀ (j : Nat) (oj : Ob), hpC[j]? = some oj → oj.live → ∃ i oi, ids[j]? = some i ∧ hpT[i]? = some oi ∧ oj.own = oi.own ∧ shpOb oj = shpOb oi ∧ ιC j = ιT i := by
    intro j oj hj hl
    rw [← hC, pick_eq, List.getElem?_map] at hj
    cases hi : ids[j]? with
    | none => simp [hi] at hj
    | some i =>
      simp [hi] at hj
      subst hj
      unfold pickOb at hl ⊢
      cases hoi : hpT[i]? with
      | none => rw [hoi] at hl; exact absurd rfl hl
      | some oi => exact ⟨i, oi, rfl, hoi, own_ren _ oi, shpOb_ren _ oi, by rw [← hιC]; simp [hi]⟩
  have hinjC : INJ ιC hpC := by
    intro i j oi oj b base room b' base' room' hi hj hij hown hli hlj hon hon'
    obtain ⟨a1, oa, e1, e2, e3, e4, e5⟩ := hgetC i oi hi hli
    obtain ⟨c1, oc, d1, d2, d3, d4, d5⟩ := hgetC j oj hj hlj
    rw [e5] at hon; rw [d5] at hon'
    exact hHT.inj a1 c1 oa oc b base room b' base' room' e2 d2 (fun e => hij (by
      have h1 := idx_nodup hnd e1
      have h2 := idx_nodup hnd d1
      rw [e, h2] at h1
      exact (Option.some.inj h1).symm)) (by rw [← e3]; exact hown) (by unfold Ob.live; rw [← e4]; exact hli) (by unfold Ob.live; rw [← d4]; exact hlj) hon hon'
  refine wp_call (f := f) (cs := args.map a.eval ++ cs) ?_ (hold ιC w _ hargs2 hhC hinjC) fun c w' ⟨ι', hrel, hr⟩ => ?_
  · simp [execOp, ho, resolve, hev, Deferred.ofValue, invoke]
  -- back
  have hgl := h.len
  obtain ⟨ι2, hlt2, hgt2⟩ : ∃ ι2 : Nat → Pl, (∀ id, id < st.hp.length → ι2 id = ι id) ∧ (∀ id, st.hp.length ≤ id → ι2 id = ι' (ids.length + (id - st.hp.length))) :=
    ⟨fun id => if id < st.hp.length then ι id else ι' (ids.length + (id - st.hp.length)), fun id hid => by simp [hid], fun id hid => by simp [Nat.not_lt.2 hid]⟩
  generalize hbk : backId ids st.hp.length = bk at hK ⊢
  have hbl : (backObs st.hp bk ids upd).length = st.hp.length := backObs_length _ _ _ _
  have hgeth : ∀ id, st.hp.length ≤ id → (backObs st.hp bk ids upd ++ news.map (Ob.ren bk))[id]? = ((upd ++ news)[ids.length + (id - st.hp.length)]?).map (Ob.ren bk) := by
    intro id hid
    rw [List.getElem?_append_right (by omega), hbl, List.getElem?_append_right (by omega), List.getElem?_map]
    rw [show ids.length + (id - st.hp.length) - upd.length = id - st.hp.length by omega]
  have hgetl : ∀ id, id < st.hp.length → (backObs st.hp bk ids upd ++ news.map (Ob.ren bk))[id]? = (match idx id ids with | some j => (upd[j]?).map (Ob.ren bk) | none => st.hp[id]?) := by
    intro id hid
    rw [List.getElem?_append_left (by omega)]
    exact backObs_get bk ids upd st.hp hnd (by omega) id hid
  have hpT_lt : ∀ id, id < st.hp.length → hpT[id]? = st.hp[id]? := by
    intro id hid
    obtain ⟨vs, rfl⟩ := hpre
    exact List.getElem?_append_left hid
  -- what an old object has become
  have hold' : ∀ (id : Nat) (ob : Ob), id < st.hp.length → st.hp[id]? = some ob →
      ∃ ob', (backObs st.hp bk ids upd ++ news.map (Ob.ren bk))[id]? = some ob' ∧ ob'.own = ob.own ∧ shpOb ob' = shpOb ob ∧
        ((idx id ids = none ∧ ob' = ob) ∨ ∃ j oj, idx id ids = some j ∧ upd[j]? = some oj ∧ ob' = oj.ren bk) := by
    intro id ob hid hob
    rw [hgetl id hid]
    cases hi : idx id ids with
    | none => exact ⟨ob, hob, rfl, rfl, .inl ⟨rfl, rfl⟩⟩
    | some j =>
      have hj := idx_get hi
      have hjl : j < ids.length := (List.getElem?_eq_some_iff.1 hj).1
      have hcj : hpC[j]? = some (ob.ren fun i => idx i ids) := by
        rw [← hC, pick_eq, List.getElem?_map, hj]
        simp [pickOb, hpT_lt id hid, hob]
      obtain ⟨oj, e1, e2, e3⟩ := hrel.flag j _ hcj
      simp only at e1
      rw [List.getElem?_append_left (by omega)] at e1
      refine ⟨oj.ren bk, by simp [e1], by rw [own_ren, e2, own_ren], ?_, .inr ⟨j, oj, rfl, e1, rfl⟩⟩
      rw [shpOb_ren]
      rcases e3 with e3 | e3
      · rw [e3, shpOb_ren]
      · have := halC j _ _ hcj e1 e3
        rw [shpOb_ren] at this
        rw [e3, this]
  have hcorr : ∀ j id, bk j = some id → shp (upd ++ news) j ≠ .no → ι2 id = ι' j ∧ shp (backObs st.hp bk ids upd ++ news.map (Ob.ren bk)) id = shp (upd ++ news) j := by
    intro j id hb hn
    rw [← hbk] at hb
    rcases Nat.lt_or_ge j ids.length with hj | hj
    · obtain ⟨h1, h2⟩ := backId_lt hb hj
      refine ⟨?_, ?_⟩
      · rw [hlt2 id h2, hrel.keep j (by simp only; omega)]
        simp only
        rw [← hιC]
        simp only [h1]
        exact (hag id h2).symm
      · unfold shp
        rw [hgetl id h2, idx_nodup hnd h1, List.getElem?_append_left (by omega)]
        simp only
        cases upd[j]? with
        | none => rfl
        | some ob => exact shpOb_ren _ ob
    · have := backId_ge hb hj
      subst this
      refine ⟨?_, ?_⟩
      · rw [hgt2 _ (by omega)]
        rw [show ids.length + (st.hp.length + (j - ids.length) - st.hp.length) = j by omega]
      · unfold shp
        rw [hgeth _ (by omega), show ids.length + (st.hp.length + (j - ids.length) - st.hp.length) = j by omega]
        cases (upd ++ news)[j]? with
        | none => rfl
        | some ob => exact shpOb_ren _ ob
  have hshl : ∀ id, shp st.hp id ≠ .no → ι2 id = ι id ∧ shp (backObs st.hp bk ids upd ++ news.map (Ob.ren bk)) id = shp st.hp id := by
    intro id hn
    have hid := shp_lt hn
    obtain ⟨ob', e1, _, e3, _⟩ := hold' id _ hid (List.getElem?_eq_getElem hid)
    exact ⟨hlt2 id hid, by rw [shp_of e1, e3, shp_of (List.getElem?_eq_getElem hid)]⟩
  -- blocks that the callee may have changed are the caller's own
  have hmine : ∀ k, Beg.mine ⟨w, ιC, hpC⟩ k → ∃ i oi base room j, idx i ids = some j ∧ i < st.hp.length ∧ st.hp[i]? = some oi ∧ oi.own = true ∧ oi.live ∧ ι i = .on k base room := by
    rintro k ⟨j, oj, base, room, g1, g2, g3, g4⟩
    obtain ⟨i, oi, e1, e2, e3, e4, e5⟩ := hgetC j oj g1 g3
    simp only at g4
    rw [e5] at g4
    rcases Nat.lt_or_ge i st.hp.length with hi | hi
    · exact ⟨i, oi, base, room, j, idx_nodup hnd e1, hi, by rw [← hpT_lt i hi]; exact e2, by rw [← e3]; exact g2, by unfold Ob.live; rw [← e4]; exact g3, by rw [← hag i hi]; exact g4⟩
    · rw [hem i hi (List.getElem?_eq_some_iff.1 e2).1] at g4; cases g4
  -- new objects lie on new blocks
  have hnew : ∀ (id : Nat) (ob : Ob) (b base room : Nat), st.hp.length ≤ id → (backObs st.hp bk ids upd ++ news.map (Ob.ren bk))[id]? = some ob → ob.live → ι2 id = .on b base room →
      w.heap.size ≤ b ∧ ∃ ob', (upd ++ news)[ids.length + (id - st.hp.length)]? = some ob' ∧ ob = ob'.ren bk := by
    intro id ob b base room hid hob hl hon
    rw [hgeth id hid] at hob
    rw [hgt2 id hid] at hon
    cases hoi : (upd ++ news)[ids.length + (id - st.hp.length)]? with
    | none => simp [hoi] at hob
    | some ob' =>
      simp [hoi] at hob
      subst hob
      refine ⟨?_, ob', rfl, rfl⟩
      have hl' : ob'.live := by unfold Ob.live at *; rwa [shpOb_ren] at hl
      rcases hrel.fresh _ ob' b base room (by simp only; omega) hoi hl' hon with h1 | h1
      · exact h1
      · obtain ⟨j, oj, base2, room2, g1, g2, g3, g4⟩ := h1
        simp only at g1 g4
        obtain ⟨oj', e1, e2, e3⟩ := hrel.flag j oj g1
        simp only at e1
        have hjl : j < hpC.length := (List.getElem?_eq_some_iff.1 g1).1
        have hlj' : oj'.live := by
          intro hn
          exact g3 (halC j oj oj' g1 (by rw [List.getElem?_append_left (by omega)] at e1; exact e1) hn)
        have hk := hrel.keep j hjl
        simp only at hk
        exact absurd rfl (hrel.inj j _ oj' ob' b base2 room2 b base room e1 hoi (by omega) (by rw [e2]; exact g2) hlj' hl' (by rw [hk]; exact g4) hon)
  have hsz : w.heap.size ≤ w'.heap.size := hrel.size
  refine hK ι2 _ _ ⟨put_F2 (h.slots.imp fun _ _ hv => VR.ext hshl hv) (VR.ren hcorr hr), by rw [put_defers]; exact h.defers, ?_, ?_, fun id hid => ?_, fun id ob hob => ?_, hrel.os.trans h.os, hrel.tape.trans h.tape, hrel.output.trans h.output,
    Nat.le_trans h.size hsz, fun k hk hn => ?_, fun id ob b base room hid hob hl hon => ?_⟩
  · -- the heap
    intro id ob hob hoff
    rcases Nat.lt_or_ge id st.hp.length with hid | hid
    · obtain ⟨ob', e1, e2, e3, e4⟩ := hold' id _ hid (List.getElem?_eq_getElem hid)
      simp only at hob
      rw [e1] at hob
      obtain rfl := Option.some.inj hob
      rw [hlt2 id hid] at hoff
      rcases e4 with ⟨e4, e5⟩ | ⟨j, oj, e4, e5, e6⟩
      · have hob0 := h.heap id _ (List.getElem?_eq_getElem hid) hoff
        rw [e5]
        by_cases hlv : (st.hp[id]).live
        · refine hob0.ext hshl (hlt2 id hid) (fun b base room hbb hlt => ?_)
          refine hrel.block b hlt fun hm => ?_
          obtain ⟨i, oi, base2, room2, j, f1, f2, f3, f4, f5, f6⟩ := hmine b hm
          have hne : i ≠ id := fun e => by rw [e, e4] at f1; cases f1
          exact absurd rfl (h.inj i id oi _ b base2 room2 b base room f3 (List.getElem?_eq_getElem hid) hne f4 f5 hlv f6 hbb)
        · exact ObR.dead hlv
      · rw [e6]
        have hj := idx_get e4
        have hjl : j < ids.length := (List.getElem?_eq_some_iff.1 hj).1
        have hk := hrel.keep j (by simp only; omega)
        simp only at hk
        have hιj : ιC j = ι id := by rw [← hιC]; simp only [hj]; exact hag id hid
        refine (hrel.heap j oj (by rw [List.getElem?_append_left (by omega)]; exact e5) (by rw [hk, hιj]; exact hoff)).ren hcorr ?_
        rw [hlt2 id hid, hk, hιj]
    · simp only at hob
      rw [hgeth id hid] at hob
      rw [hgt2 id hid] at hoff
      cases hoi : (upd ++ news)[ids.length + (id - st.hp.length)]? with
      | none => simp [hoi] at hob
      | some ob' =>
        simp [hoi] at hob
        subst hob
        exact (hrel.heap _ ob' hoi hoff).ren hcorr (hgt2 id hid)
  · intro i j oi oj b base room b' base' room' hi hj hij hown hli hlj hon hon'
    simp only at hi hj
    rcases Nat.lt_or_ge i st.hp.length with h1 | h1
    · obtain ⟨oi', e1, e2, e3, _⟩ := hold' i _ h1 (List.getElem?_eq_getElem h1)
      rw [e1] at hi; obtain rfl := Option.some.inj hi
      rw [hlt2 i h1] at hon
      have hli0 : (st.hp[i]).live := by unfold Ob.live; rw [← e3]; exact hli
      rcases Nat.lt_or_ge j st.hp.length with h2 | h2
      · obtain ⟨oj', d1, d2, d3, _⟩ := hold' j _ h2 (List.getElem?_eq_getElem h2)
        rw [d1] at hj; obtain rfl := Option.some.inj hj
        rw [hlt2 j h2] at hon'
        exact h.inj i j _ _ b base room b' base' room' (List.getElem?_eq_getElem h1) (List.getElem?_eq_getElem h2) hij (by rw [← e2]; exact hown) hli0 (by unfold Ob.live; rw [← d3]; exact hlj) hon hon'
      · have := (hnew j oj b' base' room' h2 hj hlj hon').1
        have := lt_of_HR h.heap (List.getElem?_eq_getElem h1) hli0 hon
        omega
    · obtain ⟨hb, ob1, c1, c2⟩ := hnew i oi b base room h1 hi hli hon
      rcases Nat.lt_or_ge j st.hp.length with h2 | h2
      · obtain ⟨oj', d1, d2, d3, _⟩ := hold' j _ h2 (List.getElem?_eq_getElem h2)
        rw [d1] at hj; obtain rfl := Option.some.inj hj
        rw [hlt2 j h2] at hon'
        have := lt_of_HR h.heap (List.getElem?_eq_getElem h2) (by unfold Ob.live; rw [← d3]; exact hlj) hon'
        omega
      · obtain ⟨hb', ob2, c3, c4⟩ := hnew j oj b' base' room' h2 hj hlj hon'
        subst c2; subst c4
        rw [hgt2 i h1] at hon
        rw [hgt2 j h2] at hon'
        unfold Ob.live at hli hlj
        rw [shpOb_ren] at hli hlj
        rw [own_ren] at hown
        exact hrel.inj _ _ ob1 ob2 b base room b' base' room' c1 c3 (by omega) hown hli hlj hon hon'
  · rw [hlt2 id (by omega)]; exact h.keep id hid
  · obtain ⟨ob', h1, h2, h3⟩ := h.flag id ob hob
    have hl := (List.getElem?_eq_some_iff.1 h1).1
    obtain ⟨ob2, e1, e2, e3, _⟩ := hold' id ob' hl h1
    exact ⟨ob2, e1, e2.trans h2, by rw [e3]; exact h3⟩
  · rw [← h.block k hk hn]
    refine hrel.block k (Nat.lt_of_lt_of_le hk h.size) fun hm => ?_
    obtain ⟨i, oi, base2, room2, j, f1, f2, f3, f4, f5, f6⟩ := hmine k hm
    rcases h.apart f3 f4 f5 f6 with h1 | h1
    · omega
    · exact hn h1
  · simp only at hob
    rcases Nat.lt_or_ge id st.hp.length with h1 | h1
    · obtain ⟨ob2, e1, e2, e3, _⟩ := hold' id _ h1 (List.getElem?_eq_getElem h1)
      rw [e1] at hob; obtain rfl := Option.some.inj hob
      rw [hlt2 id h1] at hon
      exact h.fresh id _ b base room hid (List.getElem?_eq_getElem h1) (by unfold Ob.live; rw [← e3]; exact hl) hon
    · have := (hnew id ob b base room h1 hob hl hon).1
      have := h.size
      exact .inl (by omega)
end Go.Fx
/- Every calm step of the evaluator is one. -/
namespace Go.Fx
variable {P : Program} {sl : List V} {hp : List Ob}

theorem chk_some {α : Type} {b : Bool} {x : Option α} {r : α} : chk b x = some r ↔ b = true ∧ x = some r := by
  cases b <;> simp [chk]

def CallsOK (P : Program) (cx : Cx) : Prop := ∀ (f : FuncId) (args : List V) (h : List Ob) (r : V) (news : List Ob), cx.call f args h = some (true, ⟨r, none, news⟩) → Holds P f args h r news
def CallsOKE (P : Program) (cx : Cx) : Prop := ∀ (f : FuncId) (args : List V) (h : List Ob) (r : V) (upd news : List Ob), cx.call f args h = some (true, ⟨r, some upd, news⟩) → HoldsE P f args h r upd news

/-- What a call does that may answer in two ways. -/
def CallsOK2 (P : Program) (cx : Cx) : Prop := ∀ (f : FuncId) (args : List V) (h : List Ob) (b : Bool) (x y : Bool × Ret) (r : V) (news : List Ob), cx.two f args h = some (b, x, y) → (bif b then x else y) = (true, ⟨r, none, news⟩) → Holds P f args h r news

structure CxOK (P : Program) (cx : Cx) : Prop where
  F : cx.F = real
  ty : TyOK P cx.ty
  calls : CallsOK P cx
  callsE : CallsOKE P cx
  calls2 : CallsOK2 P cx

def Step (P : Program) (o : Oper) (sl : List V) (hp : List Ob) {α : Type} (k : V → List Ob → Option α) (r : α) : Prop := ∃ v news, CalmOp P o sl hp v news ∧ k v news = some r

variable {cx : Cx} {o : Oper} {α : Type} {k e : V → List Ob → Option α} {r : α}

theorem obKs_shp {id : Nat} {ks : List K} (h : obKs hp id = some ks) : shp hp id = .rows ks (obLen hp id) := by
  unfold obKs at h
  unfold shp obLen
  split at h
  · rename_i own ks' xs ho
    simp only [Option.some.injEq] at h
    subst h
    rw [ho]; rfl
  · cases h

theorem s_build {t : TypeId} {parts : Array (Nat × Operand)} (hC : CxOK P cx) (ho : o.op = .build t parts) (h : calm cx o sl hp k e = some r) : Step P o sl hp k r := by
  simp only [calm, ho] at h
  split at h
  · rename_i i hi
    split at h
    · rename_i fs hd
      split at h
      · rename_i cs hf
        exact ⟨_, _, calm_build hC.ty ho hi (by rw [hd]; exact hf), h⟩
      · cases h
    · rename_i n et hd
      split at h
      · rename_i ei he
        split at h
        · rename_i cs hf
          exact ⟨_, _, calm_build hC.ty ho hi (by rw [hd]; simp only [he]; exact hf), h⟩
        · cases h
      · cases h
    · cases h
  · cases h

theorem s_buildSlice {t : TypeId} {len : Nat} {parts : Array (Nat × Operand)} (hC : CxOK P cx) (ho : o.op = .buildSlice t len parts) (h : calm cx o sl hp k e = some r) : Step P o sl hp k r := by
  simp only [calm, ho] at h
  split at h
  · rename_i et ht
    split at h
    · rename_i ei he
      split at h
      · rename_i ks hks
        split at h
        · rename_i h0
          exact ⟨_, _, calm_buildSlice0 hC.ty ho ht he h0, h⟩
        · cases h
        · rename_i len1 len0 x2 hl1 hl2
          split at h
          · rename_i cs hb1 hb2 hf
            split at h
            · rename_i ns hns
              have hlen : 0 < len1 := Nat.pos_of_ne_zero hl1
              exact ⟨_, _, calm_buildSlice hC.ty ho ht he hks hlen (by simpa [Nat.blt_eq] using hb2) (Nat.le_of_ble_eq_true hb1) hf hns, h⟩
            · cases h
          · cases h
      · cases h
    · cases h
  · cases h

theorem s_load {t : TypeId} {x : Operand} (hC : CxOK P cx) (ho : o.op = .load t x) (h : calm cx o sl hp k e = some r) : Step P o sl hp k r := by
  simp only [calm, ho] at h
  split at h
  · rename_i id el off i hx hi
    split at h
    · rename_i ob hob
      split at h
      · rename_i v hl
        refine ⟨_, _, calm_value fun ι a w hops hhr => ?_, h⟩
        have hv := hops x (by simp [ho, Op.operands])
        rw [hx] at hv
        have hpr : PR ι (shp hp) id el off (a.eval x) := hv
        have hoff : ι id ≠ .off := by
          obtain ⟨b, base, room, h1, _⟩ := hpr
          rw [h1]; simp
        obtain ⟨q, h1, h2⟩ := load_sound (P := P) (hC.ty t i hi) (hhr id ob hob hoff) (shp_of hob) hpr (v := v) (by cases hd : i.d <;> rw [hd] at hl <;> exact hl)
        exact ⟨q, 0, by rw [World.drewN_zero]; simp [execOp, ho, h1], h2⟩
      · cases h
    · cases h
  · cases h

theorem s_bin {op : BinOp} {t : TypeId} {x y : Operand} {q : TypeId} (hC : CxOK P cx) (ho : o.op = .binOp op t x y q) (h : calm cx o sl hp k e = some r) : Step P o sl hp k r := by
  simp only [calm, ho] at h
  split at h
  · rename_i a b hx hy
    rw [hC.F] at h
    obtain ⟨z, hz, hr⟩ := binA_sound (P := P) (t := t) (fun htb => by
      split at htb
      · rename_i hd; exact tyOf_DR hC.ty hd
      · cases htb) h
    refine ⟨_, _, calm_value fun ι ac w hops hhr => ?_, hz⟩
    have hvx := hops x (by simp [ho, Op.operands])
    have hvy := hops y (by simp [ho, Op.operands])
    rw [hx] at hvx; rw [hy] at hvy
    obtain ⟨qv, n, h1, h2⟩ := hr ι (shp hp) _ _ x y w hvx hvy
    exact ⟨qv, n, by simp only [execOp, ho, Sem.run_bind, h1, Result.andThen_ok, Sem.run_pure], h2⟩
  · cases h

theorem s_un {op : UnOp} {t : TypeId} {x : Operand} (hC : CxOK P cx) (ho : o.op = .unOp op t x) (h : calm cx o sl hp k e = some r) : Step P o sl hp k r := by
  simp only [calm, ho] at h
  split at h
  · rename_i a hx
    rw [hC.F] at h
    obtain ⟨z, hz, hr⟩ := unA_sound (P := P) h
    refine ⟨_, _, calm_value fun ι ac w hops hhr => ?_, hz⟩
    have hvx := hops x (by simp [ho, Op.operands])
    rw [hx] at hvx
    obtain ⟨qv, h1, h2⟩ := hr ι (shp hp) _ w hvx
    exact ⟨qv, 0, by rw [World.drewN_zero]; simp only [execOp, ho, Sem.run_bind, h1, Result.andThen_ok, Sem.run_pure], h2⟩
  · cases h

theorem s_convert {src dst : TypeId} {x : Operand} (hC : CxOK P cx) (ho : o.op = .convert src dst x) (h : calm cx o sl hp k e = some r) : Step P o sl hp k r := by
  simp only [calm, ho] at h
  split at h
  · rename_i a hx
    rw [hC.F] at h
    obtain ⟨z, hz, hr⟩ := convA_sound (P := P) hC.ty h
    refine ⟨_, _, calm_value fun ι ac w hops hhr => ?_, hz⟩
    have hvx := hops x (by simp [ho, Op.operands])
    rw [hx] at hvx
    obtain ⟨qv, n, h1, h2⟩ := hr ι (shp hp) _ w hvx
    exact ⟨qv, n, by simp only [execOp, ho, Sem.run_bind, h1, Result.andThen_ok, Sem.run_pure], h2⟩
  · cases h

theorem s_field {s : TypeId} {x : Operand} {f : Nat} (hC : CxOK P cx) (ho : o.op = .field s x f) (h : calm cx o sl hp k e = some r) : Step P o sl hp k r := by
  simp only [calm, ho] at h
  split at h
  · rename_i fs as ht hx
    split at h
    · rename_i d ft hf
      split at h
      · rename_i i hi
        split at h
        · rename_i hd; exact ⟨_, _, calm_field hC.ty ho ht hx hf hi (.inl ⟨by rw [hd]; rfl, rfl⟩), h⟩
        · rename_i hd; exact ⟨_, _, calm_field hC.ty ho ht hx hf hi (.inl ⟨by rw [hd]; rfl, rfl⟩), h⟩
        · rename_i hn1 hn2
          split at h
          · rename_i a ha
            refine ⟨_, _, calm_field hC.ty ho ht hx hf hi (.inr ⟨?_, a, ha, rfl⟩), h⟩
            cases hd : i.d with
            | st fs => exact absurd hd (hn1 _)
            | ar n e => exact absurd hd (hn2 _ _)
            | sc k => rfl
            | sl e => rfl
            | oth => rfl
          · cases h
      · cases h
    · cases h
  · cases h

theorem s_indexAddr {t : TypeId} {x ix : Operand} (hC : CxOK P cx) (ho : o.op = .indexAddr t x ix) (h : calm cx o sl hp k e = some r) : Step P o sl hp k r := by
  simp only [calm, ho] at h
  split at h
  · rename_i et id kk n ht hx hix
    split at h
    · rename_i ei ks he hks
      simp only [chk_some, decide_eq_true_eq] at h
      obtain ⟨h1, h2, h3, h4⟩ := h
      have hS := obKs_shp hks
      have := calm_indexAddr (P := P) (sl := sl) (hp := hp) (st := 0) (len := obLen hp id) hC.ty ho ht he (Nat.eq_of_beq_eq_true h1) hS hix h2 h3 (fun ι c hv => by
        rw [hx] at hv
        obtain ⟨ks', m, g1, g2⟩ := hv
        rw [hS] at g1
        simp only [Shp.rows.injEq] at g1
        obtain ⟨rfl, rfl⟩ := g1
        refine ⟨by omega, ?_⟩
        rcases g2 with ⟨_, g3, _⟩ | ⟨b, base, room, cap, g3, g4, _⟩
        · omega
        · exact ⟨b, base, room, cap, g3, by simpa using g4⟩)
      rw [Nat.zero_add] at this
      exact ⟨_, _, this, h4⟩
    · cases h
  · rename_i et id st len cap kk n ht hx hix
    split at h
    · rename_i ei ks he hks
      simp only [chk_some, decide_eq_true_eq] at h
      obtain ⟨h1, h2, h3, h4⟩ := h
      have hS := obKs_shp hks
      refine ⟨_, _, calm_indexAddr (P := P) (sl := sl) (hp := hp) (st := st) (len := len) hC.ty ho ht he (Nat.eq_of_beq_eq_true h1) hS hix h2 h3 (fun ι c hv => ?_), h4⟩
      rw [hx] at hv
      obtain ⟨ks', m, g1, g2, a, cp, g3, g4, g5, g6, g7⟩ := hv
      rw [hS] at g1
      simp only [Shp.rows.injEq] at g1
      obtain ⟨rfl, rfl⟩ := g1
      refine ⟨g2, ?_⟩
      rcases g7 with g7 | ⟨b, base, room, q1, q2, q3⟩
      · omega
      · exact ⟨b, base, room, cp, q1, by rw [g3, q2]⟩
    · cases h
  · rename_i len et id kk n ht hx hix
    split at h
    · rename_i kd ei hks he
      simp only [chk_some, decide_eq_true_eq] at h
      obtain ⟨h1, h2, h3, h4, h5⟩ := h
      exact ⟨_, _, calm_indexAddrArr hC.ty ho ht he (Nat.eq_of_beq_eq_true h1) (obKs_shp hks) hix h2 h3 (Nat.eq_of_beq_eq_true h4) hx, h5⟩
    · cases h
  · cases h

theorem s_index {t : TypeId} {x ix : Operand} (hC : CxOK P cx) (ho : o.op = .index t x ix) (h : calm cx o sl hp k e = some r) : Step P o sl hp k r := by
  simp only [calm, ho] at h
  split at h
  · rename_i len et as kk n ht hx hix
    split at h
    · rename_i ei he
      split at h
      · rename_i kd hd
        simp only [chk_some, decide_eq_true_eq] at h
        obtain ⟨h1, h2, h3, h4⟩ := h
        split at h4
        · rename_i a ha
          exact ⟨_, _, calm_index hC.ty ho ht he hd (Nat.eq_of_beq_eq_true h1) hx hix h2 h3 ha, h4⟩
        · cases h4
      · cases h
    · cases h
  · cases h

theorem s_makeSlice {t : TypeId} {x y : Operand} (hC : CxOK P cx) (ho : o.op = .makeSlice t x y) (h : calm cx o sl hp k e = some r) : Step P o sl hp k r := by
  simp only [calm, ho] at h
  split at h
  · rename_i et kx n ky c ht hx hy
    split at h
    · rename_i ei he
      split at h
      · rename_i ks z hks hz
        simp only [chk_some, decide_eq_true_eq] at h
        obtain ⟨h1, h2, h3, h4, h5, h6⟩ := h
        have hnc : n = c := by simpa using h2
        subst hnc
        rw [hks] at hz
        exact ⟨_, _, calm_makeSlice hC.ty ho ht he hks hz hx hy h1 h3 (Nat.le_of_ble_eq_true h4) (by simpa [Nat.blt_eq] using h5), h6⟩
      · cases h
    · cases h
  · cases h

theorem s_slice {t : TypeId} {x : Operand} {lo hi mx : Option Operand} (hC : CxOK P cx) (ho : o.op = .slice t x lo hi mx) (h : calm cx o sl hp k e = some r) : Step P o sl hp k r := by
  simp only [calm, ho] at h
  split at h
  · rename_i et ht
    split at h
    · rename_i ei hh m he hx
      split at h
      · rename_i kh km h1 h2
        exact ⟨_, _, calm_slice00 hC.ty ho ht he hx (.inl rfl) h1 h2, h⟩
      · cases h
    · rename_i ei id hh m he hx
      split at h
      · rename_i kh km h1 h2
        exact ⟨_, _, calm_slice00 hC.ty ho ht he hx (.inr ⟨id, rfl⟩) h1 h2, h⟩
      · cases h
    · rename_i lo0 hi0 mx0 ei id he hx
      split at h
      · rename_i ks hks
        have hS := obKs_shp hks
        simp only [chk_some] at h
        obtain ⟨hb, h⟩ := h
        have hb' := Nat.eq_of_beq_eq_true hb
        have hks' : ∀ (l h : Nat), l ≤ h → h ≤ obLen hp id → ∀ ks' n, shp hp id = .rows ks' n → ks'.length = ei.size ∧ h ≤ n := fun l h _ hh ks' n hr => by
          rw [hS] at hr
          simp only [Shp.rows.injEq] at hr
          obtain ⟨rfl, rfl⟩ := hr
          exact ⟨hb', hh⟩
        split at h
        · rename_i l
          split at h
          · rename_i kl l' hl
            simp only [chk_some, decide_eq_true_eq] at h
            obtain ⟨h1, h2, h3⟩ := h
            refine ⟨_, _, calm_slice (l := l'.toNat) (h := obLen hp id) hC.ty ho ht he (fun ks' n hr => ?_) hx (by omega) (.inr ⟨l, kl, rfl, by rw [hl, Int.toNat_of_nonneg h1]⟩) (.inl rfl), h3⟩
            obtain ⟨g1, g2⟩ := hks' l'.toNat (obLen hp id) (by omega) (Nat.le_refl _) ks' n hr
            rw [hS] at hr
            simp only [Shp.rows.injEq] at hr
            exact ⟨g1, g2, fun _ => hr.2⟩
          · cases h
        · rename_i h0
          split at h
          · rename_i kh h' hh
            simp only [chk_some, decide_eq_true_eq] at h
            obtain ⟨h1, h2, h3⟩ := h
            refine ⟨_, _, calm_slice (l := 0) (h := h'.toNat) hC.ty ho ht he (fun ks' n hr => ?_) hx (by omega) (.inl ⟨rfl, rfl⟩) (.inr ⟨h0, kh, rfl, by rw [hh, Int.toNat_of_nonneg h1]⟩), h3⟩
            obtain ⟨g1, g2⟩ := hks' 0 h'.toNat (by omega) (by omega) ks' n hr
            exact ⟨g1, g2, fun h => by cases h⟩
          · cases h
        · rename_i l h0
          split at h
          · rename_i kl l' kh h' hl hh
            simp only [chk_some, decide_eq_true_eq] at h
            obtain ⟨h1, h2, h3, h4⟩ := h
            refine ⟨_, _, calm_slice (l := l'.toNat) (h := h'.toNat) hC.ty ho ht he (fun ks' n hr => ?_) hx (by omega) (.inr ⟨l, kl, rfl, by rw [hl, Int.toNat_of_nonneg h1]⟩) (.inr ⟨h0, kh, rfl, by rw [hh, Int.toNat_of_nonneg (by omega)]⟩), h4⟩
            obtain ⟨g1, g2⟩ := hks' l'.toNat h'.toNat (by omega) (by omega) ks' n hr
            exact ⟨g1, g2, fun h => by cases h⟩
          · cases h
        · refine ⟨_, _, calm_slice (l := 0) (h := obLen hp id) hC.ty ho ht he (fun ks' n hr => ?_) hx (by omega) (.inl ⟨rfl, rfl⟩) (.inl rfl), h⟩
          obtain ⟨g1, g2⟩ := hks' 0 (obLen hp id) (by omega) (Nat.le_refl _) ks' n hr
          rw [hS] at hr
          simp only [Shp.rows.injEq] at hr
          exact ⟨g1, g2, fun _ => hr.2⟩
      · cases h
    · cases h
  · rename_i len et ht
    split at h
    · rename_i ei id he hx
      split at h
      · rename_i kd xs hob
        simp only [chk_some] at h
        obtain ⟨h1, h2, h3⟩ := h
        exact ⟨_, _, calm_sliceArr hC.ty ho ht he hx hob (Nat.eq_of_beq_eq_true h1) (Nat.le_of_ble_eq_true h2), h3⟩
      · cases h
    · cases h
  · cases h
end Go.Fx
/- Every calm step of the evaluator is one: calls, and all together. -/
namespace Go.Fx
variable {P : Program} {sl : List V} {hp : List Ob} {cx : Cx} {o : Oper} {α : Type} {k e : V → List Ob → Option α} {r : α}

theorem list_of_toList {β : Type} {a : Array β} {l : List β} (h : a.toList = l) : a = l.toArray := by rw [← h]

theorem s_len {args : Array Operand} {tys : Array TypeId} (hC : CxOK P cx) (ho : o.op = .call { callee := .builtin .len, args := args, argTypes := tys }) (h : calm cx o sl hp k e = some r) : Step P o sl hp k r := by
  simp only [calm, ho] at h
  split at h
  · rename_i x t hx ht
    have e1 := list_of_toList hx
    have e2 := list_of_toList ht
    subst e1; subst e2
    split at h
    · rename_i d hd hv; exact ⟨_, _, calm_len hC.ty ho hd hv (.inl ⟨rfl, rfl⟩), h⟩
    · rename_i d id hd hv
      split at h
      · rename_i own ks xs hob
        exact ⟨_, _, calm_len hC.ty ho hd hv (.inr (.inl ⟨_, _, _, _, rfl, hob, rfl⟩)), h⟩
      · cases h
    · rename_i d id st len cap hd hv; exact ⟨_, _, calm_len hC.ty ho hd hv (.inr (.inr ⟨_, _, _, rfl⟩)), h⟩
    · cases h
  · cases h

theorem s_min {args : Array Operand} {tys : Array TypeId} (ho : o.op = .call { callee := .builtin .min, args := args, argTypes := tys }) (h : calm cx o sl hp k e = some r) : Step P o sl hp k r := by
  simp only [calm, ho] at h
  split at h
  · rename_i x y hx
    have e1 := list_of_toList hx
    subst e1
    split at h
    · rename_i j a j' b hx hy
      simp only [chk_some, decide_eq_true_eq] at h
      obtain ⟨rfl, h⟩ := h
      exact ⟨_, _, calm_min ho hx hy, h⟩
    · cases h
  · cases h

theorem s_max {args : Array Operand} {tys : Array TypeId} (hC : CxOK P cx) (ho : o.op = .call { callee := .builtin .max, args := args, argTypes := tys }) (h : calm cx o sl hp k e = some r) : Step P o sl hp k r := by
  simp only [calm, ho] at h
  split at h
  · rename_i x y hx
    have e1 := list_of_toList hx
    subst e1
    split at h
    · rename_i j a j' b hx hy
      simp only [chk_some, decide_eq_true_eq] at h
      obtain ⟨rfl, h⟩ := h
      rw [hC.F] at h
      exact ⟨_, _, calm_max ho hx hy, h⟩
    · cases h
  · cases h

theorem s_append {args : Array Operand} {tys : Array TypeId} (hC : CxOK P cx) (ho : o.op = .call { callee := .builtin .append, args := args, argTypes := tys }) (h : calm cx o sl hp k e = some r) : Step P o sl hp k r := by
  simp only [calm, ho] at h
  split at h
  · rename_i x y t t' hx ht
    have e1 := list_of_toList hx
    have e2 := list_of_toList ht
    subst e1; subst e2
    rw [chk_some] at h
    obtain ⟨h1, h⟩ := h
    obtain rfl := Nat.eq_of_beq_eq_true h1
    split at h
    · rename_i et ya hd hv hy
      split at h
      · rename_i ei ys he hys
        split at h
        · rename_i ks hks
          simp only [chk_some, decide_eq_true_eq] at h
          obtain ⟨g1, g2, g3, g4⟩ := h
          exact ⟨_, _, calm_append hC.ty ho hd he hks hv hy hys g1 g2 (Nat.le_of_ble_eq_true g3), g4⟩
        · cases h
      · cases h
    · cases h
  · cases h

theorem F2.evals {ι : Nat → Pl} {S : Nat → Shp} {a : Act} : ∀ {xs : List Operand}, (∀ x ∈ xs, VR ι S (evA sl x) (a.eval x)) → F2 (VR ι S) (xs.map (evA sl)) (xs.map a.eval)
  | [], _ => trivial
  | x :: t, h => ⟨h x (by simp), F2.evals fun y hy => h y (by simp [hy])⟩

theorem F2.caps {ι : Nat → Pl} {S : Nat → Shp} : ∀ {caps : List (Nat × Nat × Nat)} {cs : List Value}, F2 (fun p c => PR ι S p.1 p.2.1 p.2.2 c) caps cs → F2 (VR ι S) (caps.map fun p => .at (.ptr p.1 p.2.1 p.2.2)) cs
  | [], [], _ => trivial
  | _ :: _, _ :: _, ⟨h1, h2⟩ => ⟨h1, F2.caps h2⟩
  | [], _ :: _, h => h.elim
  | _ :: _, [], h => h.elim

/-- A call that may change what is there. -/
def StepE (P : Program) (o : Oper) (sl : List V) (hp : List Ob) {α : Type} (e : V → List Ob → Option α) (r : α) : Prop := ∃ v hp', (∀ n0, EffOp P n0 o ⟨sl, hp⟩ ⟨put sl o.dst v, hp'⟩) ∧ e v hp' = some r

theorem s_call {x : Operand} {args : Array Operand} {tys : Array TypeId} (hC : CxOK P cx) (ho : o.op = .call { callee := .value x, args := args, argTypes := tys }) (h : calm cx o sl hp k e = some r) : Step P o sl hp k r ∨ StepE P o sl hp e r := by
  simp only [calm, ho] at h
  split at h
  · rename_i f caps hx
    unfold callF at h
    split at h
    rename_i args1 hpT hview
    dsimp only at h
    cases hE : cx.eff f with
    | true =>
      rw [hE] at h
      dsimp only at h
      split at h
      · cases h
      · rename_i hns
        split at h
        · rename_i ok rv upd news hcall
          simp only [chk_some] at h
          obtain ⟨rfl, hal, h⟩ := h
          have hold := hC.callsE _ _ _ _ _ _ hcall
          exact .inr ⟨_, _, fun n0 => eff_call (ty := cx.ty) (st := ⟨sl, hp⟩) ho hx hview hns (reachAll_nodup _ _) hold hal, h⟩
        · cases h
    | false =>
    rw [hE] at h
    dsimp only at h
    have run : ∀ (rv : V) (news : List Ob), Holds P f (args1.map (V.ren fun i => idx i (reach 3 (addIds [] (args1.flatMap V.ids)) hpT))) (pick hpT (fun i => idx i (reach 3 (addIds [] (args1.flatMap V.ids)) hpT)) true (reach 3 (addIds [] (args1.flatMap V.ids)) hpT)) rv news →
        k (rv.ren (backId (reach 3 (addIds [] (args1.flatMap V.ids)) hpT) hp.length)) (news.map (Ob.ren (backId (reach 3 (addIds [] (args1.flatMap V.ids)) hpT) hp.length))) = some r → Step P o sl hp k r := by
      intro rv news hold h
      refine ⟨_, _, ?_, h⟩
      intro ι a w hops hhr K Q hK
      have hvx := hops x (by simp [ho, Op.operands, Call.operands])
      rw [hx] at hvx
      obtain ⟨cs, hev, hcaps⟩ := hvx
      have hargs : F2 (VR ι (shp hp)) (args.toList.map (evA sl) ++ caps.map fun p => .at (.ptr p.1 p.2.1 p.2.2)) (args.map a.eval ++ cs).toList := by
        rw [Array.toList_append, Array.toList_map]
        exact (F2.evals fun y hy => hops y (by simp [ho, Op.operands, Call.operands]; right; simpa using hy)).append hcaps.caps
      refine wp_call (f := f) (cs := args.map a.eval ++ cs) ?_ (call_ro hview hold hargs hhr) fun c w' ⟨ι', g1, g2, g3⟩ => hK ι' c w' g1 g2 g3
      simp [execOp, ho, resolve, hev, Deferred.ofValue, invoke]
    split at h
    · rename_i b ok1 r1 u1 news1 ok2 r2 u2 news2 htwo
      have h2 := fun r news => hC.calls2 _ _ _ _ _ _ r news htwo
      split at h
      · split at h
        · rw [chk_some] at h
          obtain ⟨rfl, h⟩ := h
          exact .inl (run _ _ (h2 _ _ rfl) h)
        · cases h
      · split at h
        · rw [chk_some] at h
          obtain ⟨rfl, h⟩ := h
          exact .inl (run _ _ (h2 _ _ rfl) h)
        · cases h
    · split at h
      · rename_i ok rv news hcall
        rw [chk_some] at h
        obtain ⟨rfl, h⟩ := h
        exact .inl (run _ _ (hC.calls _ _ _ _ _ hcall) h)
      · cases h
  · cases h

/-- A calm step. -/
theorem calm_sound (hC : CxOK P cx) (h : calm cx o sl hp k e = some r) : Step P o sl hp k r ∨ StepE P o sl hp e r := by
  cases ho : o.op with
  | move x => simp only [calm, ho] at h; exact .inl ⟨_, _, calm_move (.inl ho), h⟩
  | assign x => simp only [calm, ho] at h; exact .inl ⟨_, _, calm_move (.inr ho), h⟩
  | alloc t =>
    simp only [calm, ho] at h
    split at h
    · rename_i i hi; exact .inl ⟨_, _, calm_alloc (hC.ty t i hi) ho, h⟩
    · cases h
  | box t x =>
    simp only [calm, ho] at h
    split at h
    · rename_i i cs hi hc
      split at h
      · exact .inl ⟨_, _, calm_box ho hc, h⟩
      · cases h
    · cases h
  | build t parts => refine .inl (?_); exact s_build hC ho h
  | buildSlice t len parts => refine .inl (?_); exact s_buildSlice hC ho h
  | load t x => refine .inl (?_); exact s_load hC ho h
  | nilCheck x =>
    simp only [calm, ho] at h
    split at h
    · rename_i id el off hx; exact .inl ⟨_, _, calm_nilCheck ho hx, h⟩
    · cases h
  | binOp op t x y q => refine .inl (?_); exact s_bin hC ho h
  | unOp op t x => refine .inl (?_); exact s_un hC ho h
  | convert src dst x => refine .inl (?_); exact s_convert hC ho h
  | fieldAddr s x f =>
    simp only [calm, ho] at h
    split at h
    · rename_i fs id el off ht hx
      split at h
      · rename_i d ft hf; exact .inl ⟨_, _, calm_fieldAddr hC.ty ho ht hx hf, h⟩
      · cases h
    · cases h
  | field s x f => refine .inl (?_); exact s_field hC ho h
  | indexAddr t x ix => refine .inl (?_); exact s_indexAddr hC ho h
  | index t x ix => refine .inl (?_); exact s_index hC ho h
  | slice t x lo hi mx => refine .inl (?_); exact s_slice hC ho h
  | extract t ix =>
    simp only [calm, ho] at h
    split at h
    · rename_i xs hx
      split at h
      · rename_i x hxx; exact .inl ⟨_, _, calm_extract ho hx hxx, h⟩
      · cases h
    · cases h
  | makeFunc f first caps =>
    cases f with
    | func f =>
      simp only [calm, ho] at h
      split at h
      · rename_i h0
        split at h
        · rename_i cs hc; exact .inl ⟨_, _, calm_makeFunc ho h0 hc, h⟩
        · cases h
      · cases h
    | _ => simp only [calm, ho] at h; cases h
  | makeSlice t x y => refine .inl (?_); exact s_makeSlice hC ho h
  | call c =>
    obtain ⟨callee, args, tys⟩ := c
    cases callee with
    | value x => exact s_call hC ho h
    | invoke x n => simp only [calm, ho] at h; cases h
    | builtin b =>
      cases b with
      | len => refine .inl (?_); exact s_len hC ho h
      | min => refine .inl (?_); exact s_min ho h
      | max => refine .inl (?_); exact s_max hC ho h
      | append => refine .inl (?_); exact s_append hC ho h
      | _ => simp only [calm, ho] at h; cases h
  | _ => simp only [calm, ho] at h; cases h
end Go.Fx
/- Regions whose order is drawn: what an order leaves open. -/
namespace Go.Fx
variable {P : Program}

theorem slots_get {ι : Nat → Pl} {S : Nat → Shp} {sl : List V} {a : Act} (h : F2 (VR ι S) sl a.tmps.toList) (t : Nat) : VR ι S (sl.getD t (.at .void)) (a.tmps.getD t undef) :=
  evA_VR h (.tmp t)

theorem slots_of {ι : Nat → Pl} {S : Nat → Shp} {sl : List V} {a : Act} (hl : sl.length = a.tmps.size) (h : ∀ t, VR ι S (sl.getD t (.at .void)) (a.tmps.getD t undef)) : F2 (VR ι S) sl a.tmps.toList := by
  refine F2.of_get (by simpa using hl) fun i v c hv hc => ?_
  have := h i
  rw [List.getD_eq_getElem?_getD, hv, Array.getD_eq_getD_getElem?, ← Array.getElem?_toList, hc] at this
  exact this

/-! ### what is off has no say -/
theorem AR.off {ι ι' : Nat → Pl} {S : Nat → Shp} (h : ∀ id, ι id ≠ .off → ι' id = ι id) {a : A} {c : Value} (ha : AR ι S a c) : AR ι' S a c := by
  have hp : ∀ {id e o c}, PR ι S id e o c → PR ι' S id e o c := fun {id e o c} ⟨b, base, room, h1, h2, h3⟩ => ⟨b, base, room, by rw [h id (by rw [h1]; simp)]; exact h1, h2, h3⟩
  cases a with
  | undef => trivial
  | void => exact ha
  | bool b => exact ha
  | int k n => exact ha
  | fl k x => exact ha
  | raw k x => exact ha
  | ptr id e o => exact hp ha
  | sl id =>
    obtain ⟨ks, n, h1, h2⟩ := ha
    refine ⟨ks, n, h1, ?_⟩
    rcases h2 with ⟨h2, h3⟩ | ⟨b, base, room, cap, h2, h3⟩
    · exact .inl ⟨by rw [h id (by rw [h2]; simp)]; exact h2, h3⟩
    · exact .inr ⟨b, base, room, cap, by rw [h id (by rw [h2]; simp)]; exact h2, h3⟩
  | sub id st len cap =>
    obtain ⟨ks, n, h1, h2, a, cp, h3, h4, h5, h6, h7⟩ := ha
    refine ⟨ks, n, h1, h2, a, cp, h3, h4, h5, h6, ?_⟩
    rcases h7 with h7 | ⟨b, base, room, h7, h8⟩
    · exact .inl h7
    · exact .inr ⟨b, base, room, by rw [h id (by rw [h7]; simp)]; exact h7, h8⟩
  | nil => exact ha
  | fn f caps =>
    obtain ⟨cs, h1, h2⟩ := ha
    exact ⟨cs, h1, h2.imp fun _ _ => hp⟩

theorem VR.off {ι ι' : Nat → Pl} {S : Nat → Shp} (h : ∀ id, ι id ≠ .off → ι' id = ι id) {v : V} {c : Value} (hv : VR ι S v c) : VR ι' S v c := VR.of (fun _ _ => AR.off h) hv

theorem ObR.off {ι ι' : Nat → Pl} {S : Nat → Shp} {w w' : World} {id : Nat} {ob : Ob} (h : ∀ id, ι id ≠ .off → ι' id = ι id) (hid : ι' id = ι id)
    (hw : ∀ b base room, ι id = .on b base room → b < w.heap.size → w'.heap[b]? = w.heap[b]?) (hob : ObR ι S w id ob) : ObR ι' S w' id ob := by
  obtain ⟨own, c⟩ := ob
  cases c with
  | dead => trivial
  | box cs =>
    obtain ⟨b, base, room, blk, ty, fz, h1, h2, h3, h4, h5, h6⟩ := hob
    exact ⟨b, base, room, blk, ty, fz, hid ▸ h1, by rw [hw b base room h1 (lt_of_heap h2)]; exact h2, h3, h4, h5, fun j a ha => let ⟨c, e1, e2⟩ := h6 j a ha; ⟨c, e1, AR.off h e2⟩⟩
  | rows ks xs =>
    rcases hob with ⟨h1, h2⟩ | ⟨b, base, room, blk, ty, fz, h1, h2, h3, h4, h5⟩
    · exact .inl ⟨hid ▸ h1, h2⟩
    · exact .inr ⟨b, base, room, blk, ty, fz, hid ▸ h1, by rw [hw b base room h1 (lt_of_heap h2)]; exact h2, h3, h4, h5⟩

/-! ### guards -/
def Wanted (all : Array Oper) (o : Oper) (st : St) : Prop :=
  o.guard = none ∨ ∃ j want d, o.guard = some (j, want) ∧ gslot all j = some d ∧ st.sl.getD d (.at .void) = .at (.bool want)
def Unwanted (all : Array Oper) (o : Oper) (st : St) : Prop :=
  ∃ j want d, o.guard = some (j, want) ∧ gslot all j = some d ∧ (st.sl.getD d (.at .void) = .at (.bool (!want)) ∨ st.sl.getD d (.at .void) = .at .void)

theorem yielded_eq {all : Array Oper} {tmps : Array Value} {j d : Nat} (h : gslot all j = some d) : yielded all tmps j = (match tmps.getD d undef with | .bool b => some b | _ => none) := by
  unfold yielded
  unfold gslot at h
  cases ho : all[j]? with
  | none => simp [ho] at h
  | some o =>
    simp [ho] at h
    simp only [Option.bind_some, h, Array.getD_eq_getD_getElem?]
    cases hd : tmps[d]? with
    | none => simp [undef]
    | some v => cases v <;> rfl

theorem wanted_of {all : Array Oper} {o : Oper} {st : St} {ι : Nat → Pl} {S : Nat → Shp} {a : Act} (h : Wanted all o st) (hs : ∀ d ∈ reads all o, VR ι S (st.sl.getD d (.at .void)) (a.tmps.getD d undef)) :
    Region.wanted o (yielded all a.tmps) = true := by
  unfold Region.wanted
  rcases h with h | ⟨j, want, d, h1, h2, h3⟩
  · rw [h]
  · have hv := hs d (by simp [reads, h1, h2])
    rw [h3] at hv
    rw [h1]
    simp only
    rw [yielded_eq h2, show a.tmps.getD d undef = .bool want from hv]
    simp

theorem unwanted_of {all : Array Oper} {o : Oper} {st : St} {ι : Nat → Pl} {S : Nat → Shp} {a : Act} (h : Unwanted all o st) (hs : ∀ d ∈ reads all o, VR ι S (st.sl.getD d (.at .void)) (a.tmps.getD d undef)) :
    Region.wanted o (yielded all a.tmps) = false := by
  unfold Region.wanted
  obtain ⟨j, want, d, h1, h2, h3⟩ := h
  have hv := hs d (by simp [reads, h1, h2])
  rw [h1]
  simp only
  rw [yielded_eq h2]
  rcases h3 with h3 | h3
  · rw [h3] at hv
    rw [show a.tmps.getD d undef = .bool (!want) from hv]
    cases want <;> rfl
  · rw [h3] at hv
    rw [show a.tmps.getD d undef = undef from hv]
    rfl

/-- One step in the order of the text. -/
def CalmStep (P : Program) (all : Array Oper) (σ : Nat → St) (j : Nat) : Prop :=
  ∃ o v news, all[j]? = some o ∧ σ (j + 1) = ⟨put (σ j).sl o.dst v, (σ j).hp ++ news⟩ ∧
    ((Wanted all o (σ j) ∧ CalmOp P o (σ j).sl (σ j).hp v news) ∨ (Unwanted all o (σ j) ∧ v = .at .void ∧ news = []))
def EffStep (P : Program) (n0 : Nat) (all : Array Oper) (dr : Bool) (σ : Nat → St) (j : Nat) : Prop :=
  ∃ o, all[j]? = some o ∧ Wanted all o (σ j) ∧ EffOp P n0 o (σ j) (σ (j + 1)) ∧ (dr = true → barrier all j = true) ∧ (σ (j + 1)).sl.length = (σ j).sl.length

/-! ### what the masks say -/
theorem bindsB_eq (e : Edge) : bindsB e = Region.binds .any e := by
  unfold bindsB Region.binds
  cases e.ground <;> rfl

theorem edgeMask_bit (acc : List Nat) (i : Nat) : ∀ (es : List Edge), (edgeMask acc es).testBit i = true → ∃ e ∈ es, bindsB e = true ∧ (e.on = i ∨ (acc.getD e.on 0).testBit i = true)
  | [], h => by simp [edgeMask] at h
  | e :: t, h => by
    simp only [edgeMask] at h
    cases hb : bindsB e with
    | false =>
      rw [hb] at h
      obtain ⟨e', h1, h2⟩ := edgeMask_bit acc i t h
      exact ⟨e', by simp [h1], h2⟩
    | true =>
      rw [hb] at h
      simp only [Nat.testBit_or, Bool.or_eq_true] at h
      rcases h with (h | h) | h
      · refine ⟨e, by simp, hb, .inl ?_⟩
        rw [Nat.testBit_shiftLeft] at h
        simp only [Bool.and_eq_true, decide_eq_true_eq, ge_iff_le] at h
        have h2 := h.2
        have : i - e.on = 0 := Nat.testBit_one_eq_true_iff_self_eq_zero.1 h2
        have h1 := h.1
        omega
      · exact ⟨e, by simp, hb, .inr h⟩
      · obtain ⟨e', h1, h2⟩ := edgeMask_bit acc i t h
        exact ⟨e', by simp [h1], h2⟩

theorem maskGo_get : ∀ (ops : List Oper) (acc : List Nat) (j : Nat), j < acc.length → (maskGo acc ops)[j]? = acc[j]?
  | [], _, _, _ => rfl
  | o :: r, acc, j, h => by
    rw [maskGo, maskGo_get r _ j (by simp; omega), List.getElem?_append_left h]

theorem maskGo_new : ∀ (ops : List Oper) (acc : List Nat) (j : Nat) (o : Oper), ops[j]? = some o →
    ∃ acc', (∀ i, i < acc.length + j → acc'[i]? = (maskGo acc ops)[i]?) ∧ acc'.length = acc.length + j ∧ (maskGo acc ops)[acc.length + j]? = some (edgeMask acc' o.after.toList)
  | [], _, _, _, h => by simp at h
  | o :: r, acc, 0, o', h => by
    simp at h
    subst h
    refine ⟨acc, fun i hi => ?_, rfl, ?_⟩
    · rw [maskGo, maskGo_get r _ i (by simp; omega), List.getElem?_append_left (by simpa using hi)]
    · rw [maskGo, maskGo_get r _ _ (by simp), Nat.add_zero, List.getElem?_append_right (Nat.le_refl _)]
      simp
  | o :: r, acc, j + 1, o', h => by
    simp at h
    obtain ⟨acc', h1, h2, h3⟩ := maskGo_new r (acc ++ [edgeMask acc o.after.toList]) j o' h
    simp only [List.length_append, List.length_singleton] at h1 h2 h3
    refine ⟨acc', fun i hi => ?_, by omega, ?_⟩
    · rw [maskGo]; exact h1 i (by omega)
    · rw [maskGo, show acc.length + (j + 1) = acc.length + 1 + j by omega]; exact h3

theorem bef_edge {all : Array Oper} {i j : Nat} {o : Oper} (ho : all[j]? = some o) (h : bef (masks all) i j = true) : ∃ e ∈ o.after, bindsB e = true ∧ (e.on = i ∨ (e.on < j ∧ bef (masks all) i e.on = true)) := by
  unfold bef masks at *
  obtain ⟨acc', h1, h2, h3⟩ := maskGo_new all.toList [] j o (by simpa using ho)
  simp only [List.length_nil, Nat.zero_add] at h1 h2 h3
  rw [List.getD_eq_getElem?_getD, h3] at h
  obtain ⟨e, he, hbe, hc⟩ := edgeMask_bit acc' i _ h
  refine ⟨e, by simpa using he, hbe, ?_⟩
  rcases hc with hc | hc
  · exact .inl hc
  · right
    rcases Nat.lt_or_ge e.on j with hl | hl
    · refine ⟨hl, ?_⟩
      rw [List.getD_eq_getElem?_getD, ← h1 _ hl, ← List.getD_eq_getElem?_getD]
      exact hc
    · rw [List.getD_eq_getElem?_getD, List.getElem?_eq_none (by omega)] at hc
      simp at hc

theorem pairsOk_get {ms : List Nat} {all : Array Oper} : ∀ (l : List Oper) (j k : Nat) (o : Oper), pairsOk ms all j l = true → l[k]? = some o →
    (∀ e ∈ o.after, edgeOk (j + k) e = true) ∧ ∀ i, i < j + k → bef ms i (j + k) = true ∨ ∃ a, all[i]? = some a ∧ apartB all a o = true
  | [], _, _, _, _, h => by simp at h
  | o :: r, j, 0, o', h, hk => by
    simp at hk
    subst hk
    simp only [pairsOk, Bool.and_eq_true] at h
    obtain ⟨⟨h1, h2⟩, _⟩ := h
    refine ⟨fun e he => by simpa using List.all_eq_true.1 h1 e (by simpa using he), fun i hi => ?_⟩
    have := List.all_eq_true.1 h2 i (by simpa using hi)
    simp only [Bool.or_eq_true] at this
    rcases this with h | h
    · exact .inl (by simpa using h)
    · right
      split at h
      · rename_i a ha; exact ⟨a, ha, h⟩
      · cases h
  | o :: r, j, k + 1, o', h, hk => by
    simp at hk
    simp only [pairsOk, Bool.and_eq_true] at h
    have := pairsOk_get r (j + 1) k o' h.2 hk
    rwa [show j + 1 + k = j + (k + 1) by omega] at this

theorem drawOk_get {all : Array Oper} (h : drawOk all = true) {k : Nat} {o : Oper} (hk : all[k]? = some o) :
    (∀ e ∈ o.after, Region.binds .any e = true → e.on < k) ∧ ∀ i, i < k → bef (masks all) i k = true ∨ ∃ a, all[i]? = some a ∧ apartB all a o = true := by
  have := pairsOk_get all.toList 0 k o h (by simpa using hk)
  simp only [Nat.zero_add] at this
  refine ⟨fun e he hb => ?_, this.2⟩
  have h1 := this.1 e he
  unfold edgeOk at h1
  rw [bindsB_eq, hb] at h1
  simpa [Nat.blt_eq] using h1

theorem apartB_spec {all : Array Oper} {x y : Oper} (h : apartB all x y = true) : (∀ d, x.dst = some d → y.dst ≠ some d) ∧ (∀ d, x.dst = some d → d ∉ reads all y) ∧ (∀ d, y.dst = some d → d ∉ reads all x) := by
  unfold apartB at h
  simp only [Bool.and_eq_true, Bool.not_eq_true'] at h
  obtain ⟨⟨h1, h2⟩, h3⟩ := h
  refine ⟨fun d hd he => ?_, fun d hd hm => ?_, fun d hd hm => ?_⟩
  · rw [hd, he] at h1
    simp at h1
  · rw [hd] at h2
    simp only [dstIn] at h2
    rw [(hasId_iff d _).2 hm] at h2; cases h2
  · rw [hd] at h3
    simp only [dstIn] at h3
    rw [(hasId_iff d _).2 hm] at h3; cases h3
end Go.Fx
/- Regions whose order is drawn: one step of any order. -/
namespace Go.Fx
variable {P : Program} {g : Beg} {all : Array Oper} {σ : Nat → St} {p m : Nat}

structure PInv (g : Beg) (all : Array Oper) (σ : Nat → St) (p m : Nat) (S : Nat → Prop) (ι : Nat → Pl) (a : Act) (w : World) : Prop where
  rel : RelH g ι (σ m).hp w
  base : g.h0.length ≤ (σ p).hp.length
  heaps : ∀ j, p ≤ j → j ≤ m → HR ι (σ j).hp w
  size : a.tmps.size = (σ p).sl.length
  defers : a.defers = []
  slots : ∀ t, ∃ i, p ≤ i ∧ i ≤ m ∧ (i = p ∨ ∃ j o, i = j + 1 ∧ S j ∧ all[j]? = some o ∧ o.dst = some t) ∧
    (∀ j o, p ≤ j → j < m → all[j]? = some o → o.dst = some t → (S j ↔ j < i)) ∧ VR ι (shp (σ i).hp) ((σ i).sl.getD t (.at .void)) (a.tmps.getD t undef)
  off : ∀ j id, p ≤ j → j < m → ¬ S j → (σ j).hp.length ≤ id → id < (σ (j + 1)).hp.length → ι id = .off

theorem put_getD {sl : List V} {d : Option Nat} {v x : V} {t : Nat} (h : d ≠ some t) : (put sl d v).getD t x = sl.getD t x := by
  cases d with
  | none => rfl
  | some d =>
    simp only [put, List.getD_eq_getElem?_getD]
    rw [List.getElem?_set_ne (fun e => h (by rw [e]))]

theorem put_length {sl : List V} {d : Option Nat} {v : V} : (put sl d v).length = sl.length := by
  cases d <;> simp [put]

section
variable (hc : ∀ j, p ≤ j → j < m → CalmStep P all σ j)
include hc

theorem seg_pre {i k : Nat} (h1 : p ≤ i) (h2 : i ≤ k) (h3 : k ≤ m) : ∃ l, (σ k).hp = (σ i).hp ++ l := by
  induction k with
  | zero => obtain rfl : i = 0 := by omega
            exact ⟨[], by simp⟩
  | succ k ih =>
    rcases Nat.lt_or_ge k i with h | h
    · obtain rfl : i = k + 1 := by omega
      exact ⟨[], by simp⟩
    · obtain ⟨l, hl⟩ := ih h (by omega)
      obtain ⟨o, v, news, ho, hs, _⟩ := hc k (by omega) (by omega)
      exact ⟨l ++ news, by rw [hs]; simp [hl]⟩

theorem seg_len {i k : Nat} (h1 : p ≤ i) (h2 : i ≤ k) (h3 : k ≤ m) : (σ i).hp.length ≤ (σ k).hp.length := by
  obtain ⟨l, hl⟩ := seg_pre hc h1 h2 h3
  rw [hl]; simp

theorem seg_get {i k id : Nat} (h1 : p ≤ i) (h2 : i ≤ k) (h3 : k ≤ m) (hid : id < (σ i).hp.length) : (σ k).hp[id]? = (σ i).hp[id]? := by
  obtain ⟨l, hl⟩ := seg_pre hc h1 h2 h3
  rw [hl, List.getElem?_append_left hid]

theorem seg_shp {i k id : Nat} (h1 : p ≤ i) (h2 : i ≤ k) (h3 : k ≤ m) (hn : shp (σ i).hp id ≠ .no) : shp (σ k).hp id = shp (σ i).hp id := by
  have hl := shp_lt hn
  unfold shp
  rw [seg_get hc h1 h2 h3 hl]

theorem seg_slot {i k t : Nat} (h1 : p ≤ i) (h2 : i ≤ k) (h3 : k ≤ m) (hw : ∀ j o, i ≤ j → j < k → all[j]? = some o → o.dst ≠ some t) (x : V) : (σ k).sl.getD t x = (σ i).sl.getD t x := by
  induction k with
  | zero => obtain rfl : i = 0 := by omega
            rfl
  | succ k ih =>
    rcases Nat.lt_or_ge k i with h | h
    · obtain rfl : i = k + 1 := by omega
      rfl
    · obtain ⟨o, v, news, ho, hs, _⟩ := hc k (by omega) (by omega)
      rw [hs]
      simp only
      rw [put_getD (hw k o h (by omega) ho)]
      exact ih h (by omega) fun j o hj hjk => hw j o hj (by omega)

theorem seg_slots {k : Nat} (h1 : p ≤ k) (h3 : k ≤ m) : (σ k).sl.length = (σ p).sl.length := by
  induction k with
  | zero => obtain rfl : p = 0 := by omega
            rfl
  | succ k ih =>
    rcases Nat.lt_or_ge k p with h | h
    · obtain rfl : p = k + 1 := by omega
      rfl
    · obtain ⟨o, v, news, ho, hs, _⟩ := hc k (by omega) (by omega)
      rw [hs]
      simp only
      rw [put_length]
      exact ih h (by omega)

theorem PInv.after {S : Nat → Prop} {ι ι' : Nat → Pl} {a : Act} {w w' : World} {k : Nat} {o : Oper} {v : V} {news : List Ob} {c : Value} (h : PInv g all σ p m S ι a w) (hk : p ≤ k) (hkm : k < m) (hS : ¬ S k) (ho : all[k]? = some o)
    (hs : σ (k + 1) = ⟨put (σ k).sl o.dst v, (σ k).hp ++ news⟩) (hg : Grow ι ι' (σ k).hp news w w') (hv : VR ι' (shp ((σ k).hp ++ news)) v c) (hh : HR ι' ((σ k).hp ++ news) w')
    (hwr : ∀ t, o.dst = some t → ∀ j oj, p ≤ j → j < m → all[j]? = some oj → oj.dst = some t → j ≠ k → (S j ↔ j < k)) :
    ∃ ι'', PInv g all σ p m (fun j => S j ∨ j = k) ι'' (a.put o.dst c) w' := by
  have hlk : (σ (k + 1)).hp = (σ k).hp ++ news := by rw [hs]
  obtain ⟨ι'', hin, hout⟩ : ∃ ι'' : Nat → Pl, (∀ id, (σ k).hp.length ≤ id → id < (σ (k + 1)).hp.length → ι'' id = ι' id) ∧ (∀ id, ¬ ((σ k).hp.length ≤ id ∧ id < (σ (k + 1)).hp.length) → ι'' id = ι id) :=
    ⟨fun id => if (σ k).hp.length ≤ id ∧ id < (σ (k + 1)).hp.length then ι' id else ι id, fun id h1 h2 => by simp [h1, h2], fun id h => by simp only [h, if_false]⟩
  have hlow : ∀ id, id < (σ k).hp.length → ι'' id = ι id := fun id hid => hout id (by omega)
  have hup : ∀ id, id < (σ (k + 1)).hp.length → ι'' id = ι' id := fun id hid => by
    rcases Nat.lt_or_ge id (σ k).hp.length with hl | hl
    · rw [hlow id hl, hg.agree id hl]
    · exact hin id hl hid
  have hkeep : ∀ id, ι id ≠ .off → ι'' id = ι id := fun id hid => hout id fun ⟨h1, h2⟩ => hid (h.off k id hk hkm hS h1 h2)
  have hlen0 := h.rel.len
  have hlm : (σ (k + 1)).hp.length ≤ (σ m).hp.length := seg_len hc (by omega) (by omega) (Nat.le_refl _)
  have hgm : ∀ id, id < (σ (k + 1)).hp.length → (σ m).hp[id]? = ((σ k).hp ++ news)[id]? := fun id hid => by rw [seg_get hc (by omega) (by omega) (Nat.le_refl _) hid, hlk]
  have hext : ∀ j, p ≤ j → j ≤ m → HR ι'' (σ j).hp w' := by
    intro j hj hjm id ob hob hoff
    have hidj : id < (σ j).hp.length := (List.getElem?_eq_some_iff.1 hob).1
    by_cases hr : (σ k).hp.length ≤ id ∧ id < (σ (k + 1)).hp.length
    · have hkj : k + 1 ≤ j := by
        rcases Nat.lt_or_ge k j with h' | h'
        · exact h'
        · have := seg_len hc hj h' (by omega); omega
      have hob' : ((σ k).hp ++ news)[id]? = some ob := by rw [← hlk, ← seg_get hc (by omega) hkj hjm hr.2]; exact hob
      have hoff' : ι' id ≠ .off := by rw [← hin id hr.1 hr.2]; exact hoff
      refine (hh id ob hob' hoff').ext (fun id' hn => ?_) (hin id hr.1 hr.2) (fun _ _ _ _ _ => rfl)
      rw [← hlk] at hn
      exact ⟨hup id' (shp_lt hn), by rw [seg_shp hc (by omega) hkj hjm hn, hlk]⟩
    · have hι := hout id hr
      exact ((h.heaps j hj hjm) id ob hob (by rw [← hι]; exact hoff)).off hkeep hι fun b _ _ _ hb => hg.wx.block b hb
  have hoffr : ∀ id, (σ k).hp.length ≤ id → id < (σ (k + 1)).hp.length → ι id = .off := fun id h1 h2 => h.off k id hk hkm hS h1 h2
  refine ⟨ι'', ⟨?_, h.base, hext, ?_, by rw [put_defers]; exact h.defers, fun t => ?_, ?_⟩⟩
  · refine ⟨trivial, rfl, hext m (by omega) (Nat.le_refl _), ?_, fun id hid => ?_, h.rel.flag, hg.wx.os.trans h.rel.os, hg.wx.tape.trans h.rel.tape, hg.wx.output.trans h.rel.output, Nat.le_trans h.rel.size hg.wx.size, fun j hj hn => ?_, ?_⟩
    · intro i j oi oj b1 base1 room1 b2 base2 room2 hi hj hij hoi hli hlj h1 h2
      simp only at hi hj
      by_cases ri : (σ k).hp.length ≤ i ∧ i < (σ (k + 1)).hp.length
      · rw [hgm i ri.2] at hi
        rw [hin i ri.1 ri.2] at h1
        by_cases rj : (σ k).hp.length ≤ j ∧ j < (σ (k + 1)).hp.length
        · rw [hgm j rj.2] at hj
          rw [hin j rj.1 rj.2] at h2
          exact hg.inj i j oi oj b1 base1 room1 b2 base2 room2 ri.1 rj.1 hij hi hj hoi hli hlj h1 h2
        · rw [hout j rj] at h2
          have := lt_of_HR h.rel.heap hj hlj h2
          have := hg.fresh i oi b1 base1 room1 ri.1 hi hli h1
          omega
      · rw [hout i ri] at h1
        by_cases rj : (σ k).hp.length ≤ j ∧ j < (σ (k + 1)).hp.length
        · rw [hgm j rj.2] at hj
          rw [hin j rj.1 rj.2] at h2
          have := lt_of_HR h.rel.heap hi hli h1
          have := hg.fresh j oj b2 base2 room2 rj.1 hj hlj h2
          omega
        · rw [hout j rj] at h2
          exact h.rel.inj i j oi oj b1 base1 room1 b2 base2 room2 hi hj hij hoi hli hlj h1 h2
    · by_cases r : (σ k).hp.length ≤ id ∧ id < (σ (k + 1)).hp.length
      · have := seg_len hc (i := p) (k := k) (Nat.le_refl _) hk (by omega)
        have := h.base
        omega
      · rw [hout id r]; exact h.rel.keep id hid
    · rw [hg.wx.block j (Nat.lt_of_lt_of_le hj h.rel.size)]; exact h.rel.block j hj hn
    · intro id ob b base room hid hob hl hon
      simp only at hob
      by_cases r : (σ k).hp.length ≤ id ∧ id < (σ (k + 1)).hp.length
      · rw [hgm id r.2] at hob
        rw [hin id r.1 r.2] at hon
        exact .inl (Nat.le_trans h.rel.size (hg.fresh id ob b base room r.1 hob hl hon))
      · rw [hout id r] at hon
        exact h.rel.fresh id ob b base room hid hob hl hon
  · have := h.size
    cases hd : o.dst <;> simp [Act.put, this]
  · by_cases hdt : o.dst = some t
    · refine ⟨k + 1, by omega, by omega, .inr ⟨k, o, rfl, .inr rfl, ho, hdt⟩, fun j oj hj hjm hoj hdj => ?_, ?_⟩
      · by_cases hjk : j = k
        · subst hjk; simp
        · have := hwr t hdt j oj hj hjm hoj hdj hjk
          simp only [hjk, or_false]
          exact this.trans ⟨fun h => by omega, fun h => by omega⟩
      · rw [hs]
        simp only
        have hsl := h.size
        rcases Nat.lt_or_ge t a.tmps.size with hts | hts
        · have e1 : (put (σ k).sl o.dst v).getD t (.at .void) = v := by
            rw [hdt]
            simp only [put, List.getD_eq_getElem?_getD]
            rw [List.getElem?_set_self (by rw [seg_slots hc hk (by omega)]; omega)]
            rfl
          have e2 : (a.put o.dst c).tmps.getD t undef = c := by
            rw [hdt]
            simp [Act.put, hts]
          rw [e1, e2]
          exact VR.ext (fun id hn => ⟨hup id (by rw [hlk]; exact shp_lt hn), rfl⟩) hv
        · have e1 : (put (σ k).sl o.dst v).getD t (.at .void) = .at .void := by
            rw [List.getD_eq_getElem?_getD, List.getElem?_eq_none (by rw [put_length, seg_slots hc hk (by omega)]; omega)]; rfl
          have e2 : (a.put o.dst c).tmps.getD t undef = undef := by
            rw [hdt, Array.getD_eq_getD_getElem?, Array.getElem?_eq_none (by simp [Act.put]; omega)]; rfl
          rw [e1, e2]
          exact rfl
    · obtain ⟨i, h1, h2, h3, h4, h5⟩ := h.slots t
      refine ⟨i, h1, h2, ?_, fun j oj hj hjm hoj hdj => ?_, ?_⟩
      · rcases h3 with h3 | ⟨j, oj, h6, h7, h8⟩
        · exact .inl h3
        · exact .inr ⟨j, oj, h6, .inl h7, h8⟩
      · have hjk : j ≠ k := by rintro rfl; rw [ho] at hoj; cases hoj; exact hdt hdj
        simp only [hjk, or_false]
        exact h4 j oj hj hjm hoj hdj
      · have e2 : (a.put o.dst c).tmps.getD t undef = a.tmps.getD t undef := by
          cases hd : o.dst with
          | none => rfl
          | some d =>
            have hne : d ≠ t := fun e => hdt (by rw [hd, e])
            simp only [Act.put, Array.getD_eq_getD_getElem?]
            rw [Array.getElem?_setIfInBounds_ne hne]
        rw [e2]
        exact VR.off hkeep h5
  · intro j id hj hjm hnS h1 h2
    have hjk : j ≠ k := fun e => hnS (.inr e)
    have hjS : ¬ S j := fun e => hnS (.inl e)
    rw [hout id]
    · exact h.off j id hj hjm hjS h1 h2
    · rintro ⟨g1, g2⟩
      rcases Nat.lt_or_gt_of_ne hjk with hlt | hgt
      · have := seg_len hc (i := j + 1) (k := k) (by omega) (by omega) (by omega); omega
      · have := seg_len hc (i := k + 1) (k := j) (by omega) (by omega) (by omega); omega
end
end Go.Fx
/- Regions whose order is drawn: any order does what the order of the text does. -/
namespace Go.Fx
variable {P : Program} {g : Beg} {all : Array Oper} {σ : Nat → St} {p m : Nat}

theorem PInv.reads {S : Nat → Prop} {ι : Nat → Pl} {a : Act} {w : World} {k : Nat} {o : Oper} (hc : ∀ j, p ≤ j → j < m → CalmStep P all σ j) (hd : drawOk all = true) (h : PInv g all σ p m S ι a w) (hk : p ≤ k) (hkm : k < m) (hS : ¬ S k) (ho : all[k]? = some o)
    (hcl : ∀ j, bef (masks all) j k = true → S j) (hcl2 : ∀ j, S j → bef (masks all) k j ≠ true) : ∀ t ∈ reads all o, VR ι (shp (σ k).hp) ((σ k).sl.getD t (.at .void)) (a.tmps.getD t undef) := by
  intro t ht
  obtain ⟨i, h1, h2, h3, h4, h5⟩ := h.slots t
  have hw : ∀ j oj, p ≤ j → j < m → all[j]? = some oj → oj.dst = some t → (j < k ↔ j < i) := by
    intro j oj hj hjm hoj hdj
    rw [← h4 j oj hj hjm hoj hdj]
    constructor
    · intro hjk
      rcases (drawOk_get hd ho).2 j hjk with hb | ⟨oj', hoj', hap⟩
      · exact hcl j hb
      · rw [hoj] at hoj'; cases hoj'
        exact absurd ht ((apartB_spec hap).2.1 t hdj)
    · intro hSj
      rcases Nat.lt_or_ge j k with hlt | hge
      · exact hlt
      · exfalso
        have hne : j ≠ k := fun e => hS (e ▸ hSj)
        rcases (drawOk_get hd hoj).2 k (by omega) with hb | ⟨ok, hok, hap⟩
        · exact hcl2 j hSj hb
        · rw [ho] at hok; cases hok
          exact (apartB_spec hap).2.2 t hdj ht
  have hik : i ≤ k := by
    rcases h3 with rfl | ⟨j, oj, rfl, hSj, hoj, hdj⟩
    · exact hk
    · rcases Nat.lt_or_ge j p with hlt | hge
      · omega
      · have := (hw j oj hge (by omega) hoj hdj).2 (by omega)
        omega
  have hsame := seg_slot hc h1 hik (by omega) (t := t) (fun j oj hj hjk hoj hdj => by
    have := (hw j oj (by omega) (by omega) hoj hdj).1 hjk
    omega) (.at .void)
  rw [hsame]
  exact VR.ext (fun id hn => ⟨rfl, seg_shp hc h1 hik (by omega) hn⟩) h5

theorem tmp_read {o : Oper} {t : Nat} (h : Operand.tmp t ∈ o.op.operands) : t ∈ reads all o := by
  unfold Go.Fx.reads
  refine List.mem_append_left _ (List.mem_flatMap.2 ⟨.tmp t, by simpa using h, by simp [tmpOf]⟩)

theorem ops_of_reads {o : Oper} {ι : Nat → Pl} {S : Nat → Shp} {sl : List V} {a : Act} (h : ∀ t ∈ reads all o, VR ι S (sl.getD t (.at .void)) (a.tmps.getD t undef)) : OpsR ι S o sl a := by
  intro x hx
  cases x with
  | tmp t => exact h t (tmp_read hx)
  | const v => exact conV_VR ι S v
  | global g => trivial
  | func f => exact ⟨#[], rfl, trivial⟩

theorem PInv.step {Q : Exit → Act → World → Prop} {K : Act → World → Prop} {S : Nat → Prop} {ι : Nat → Pl} {a : Act} {w : World} {k : Nat} (hc : ∀ j, p ≤ j → j < m → CalmStep P all σ j) (hd : drawOk all = true) (h : PInv g all σ p m S ι a w) (hk : p ≤ k) (hkm : k < m) (hS : ¬ S k)
    (hcl : ∀ j, bef (masks all) j k = true → S j) (hcl2 : ∀ j, S j → bef (masks all) k j ≠ true) (hK : ∀ ι' a' w', PInv g all σ p m (fun j => S j ∨ j = k) ι' a' w' → K a' w') : wpOp P all Q k K a w := by
  obtain ⟨o, v, news, ho, hs, hcase⟩ := hc k hk hkm
  have hreads := h.reads hc hd hk hkm hS ho hcl hcl2
  have hwr : ∀ t, o.dst = some t → ∀ j oj, p ≤ j → j < m → all[j]? = some oj → oj.dst = some t → j ≠ k → (S j ↔ j < k) := by
    intro t hdt j oj _ _ hoj hdj hne
    rcases Nat.lt_or_gt_of_ne hne with hlt | hgt
    · refine ⟨fun _ => hlt, fun _ => ?_⟩
      rcases (drawOk_get hd ho).2 j hlt with hb | ⟨oj', hoj', hap⟩
      · exact hcl j hb
      · rw [hoj] at hoj'; cases hoj'
        exact absurd hdt ((apartB_spec hap).1 t hdj)
    · refine ⟨fun hSj => ?_, fun hh => by omega⟩
      exfalso
      rcases (drawOk_get hd hoj).2 k hgt with hb | ⟨ok, hok, hap⟩
      · exact hcl2 j hSj hb
      · rw [ho] at hok; cases hok
        exact (apartB_spec hap).1 t hdt hdj
  unfold wpOp
  rw [ho]
  simp only
  rcases hcase with ⟨hwant, hcalm⟩ | ⟨hun, rfl, rfl⟩
  · rw [if_pos (wanted_of hwant hreads)]
    left
    exact hcalm ι a w (ops_of_reads hreads) (h.heaps k hk (by omega)) K Q fun ι' c w' hg hv hh =>
      let ⟨ι'', h2⟩ := h.after hc hk hkm hS ho hs hg hv hh hwr
      hK ι'' _ _ h2
  · rw [if_neg (by rw [unwanted_of hun hreads]; simp)]
    obtain ⟨ι'', h2⟩ := h.after hc hk hkm hS ho hs (Grow.none (WX.refl w)) (v := .at .void) (c := undef) rfl (by rw [List.append_nil]; exact h.heaps k hk (by omega)) hwr
    exact hK ι'' _ _ h2

/-- From the beginning of a stretch. -/
theorem PInv.start {S : Nat → Prop} {ι : Nat → Pl} {a : Act} {w : World} (hc : ∀ j, p ≤ j → j < m → CalmStep P all σ j) (hpm : p ≤ m) (h : Rel g ι (σ p) a w) (hS : ∀ j, p ≤ j → ¬ S j) : ∃ ι', PInv g all σ p m S ι' a w := by
  obtain ⟨ι', hlow, hoff⟩ : ∃ ι' : Nat → Pl, (∀ id, id < (σ p).hp.length → ι' id = ι id) ∧ (∀ id, (σ p).hp.length ≤ id → ι' id = .off) :=
    ⟨fun id => if id < (σ p).hp.length then ι id else .off, fun id h => by simp [h], fun id h => by simp [Nat.not_lt.2 h]⟩
  have hlt : ∀ id, ι' id ≠ .off → id < (σ p).hp.length := fun id hn => by
    rcases Nat.lt_or_ge id (σ p).hp.length with h' | h'
    · exact h'
    · exact absurd (hoff id h') hn
  have hheap : ∀ j, p ≤ j → j ≤ m → HR ι' (σ j).hp w := by
    intro j hj hjm id ob hob hn
    have hl := hlt id hn
    rw [seg_get hc (Nat.le_refl _) hj hjm hl] at hob
    refine (h.heap id ob hob (by rw [← hlow id hl]; exact hn)).ext (fun id' hn' => ?_) (hlow id hl) (fun _ _ _ _ _ => rfl)
    exact ⟨hlow id' (shp_lt hn'), seg_shp hc (Nat.le_refl _) hj hjm hn'⟩
  have hon : ∀ id b base room, ι' id = .on b base room → id < (σ p).hp.length ∧ ι id = .on b base room := fun id b base room ho => by
    have hl := hlt id (by rw [ho]; simp)
    exact ⟨hl, by rw [← hlow id hl]; exact ho⟩
  refine ⟨ι', ⟨⟨trivial, rfl, hheap m hpm (Nat.le_refl _), ?_, fun id hid => ?_, fun id ob hob => ?_, h.os, h.tape, h.output, h.size, h.block, ?_⟩, h.len, hheap, by have := h.slots.length; simpa using this.symm, h.defers, fun t => ?_, ?_⟩⟩
  · intro i j oi oj b1 base1 room1 b2 base2 room2 hi hj hij hoi hli hlj h1 h2
    obtain ⟨l1, e1⟩ := hon i _ _ _ h1
    obtain ⟨l2, e2⟩ := hon j _ _ _ h2
    simp only at hi hj
    rw [seg_get hc (Nat.le_refl _) hpm (Nat.le_refl _) l1] at hi
    rw [seg_get hc (Nat.le_refl _) hpm (Nat.le_refl _) l2] at hj
    exact h.inj i j oi oj b1 base1 room1 b2 base2 room2 hi hj hij hoi hli hlj e1 e2
  · have := h.len
    rw [hlow id (by omega)]; exact h.keep id hid
  · obtain ⟨ob', h1, h2⟩ := h.flag id ob hob
    have hl : id < (σ p).hp.length := (List.getElem?_eq_some_iff.1 h1).1
    exact ⟨ob', by simp only; rw [seg_get hc (Nat.le_refl _) hpm (Nat.le_refl _) hl]; exact h1, h2⟩
  · intro id ob b base room hid hob hl ho
    obtain ⟨l1, e1⟩ := hon id _ _ _ ho
    simp only at hob
    rw [seg_get hc (Nat.le_refl _) hpm (Nat.le_refl _) l1] at hob
    exact h.fresh id ob b base room hid hob hl e1
  · refine ⟨p, Nat.le_refl _, hpm, .inl rfl, fun j o hj _ _ _ => ⟨fun hh => absurd hh (hS j hj), fun hh => by omega⟩, ?_⟩
    exact VR.ext (fun id hn => ⟨hlow id (shp_lt hn), rfl⟩) (slots_get h.slots t)
  · intro j id hj hjm _ h1 _
    have := seg_len hc (i := p) (k := j) (Nat.le_refl _) hj (by omega)
    exact hoff id (by omega)

/-- To the end of a stretch. -/
theorem PInv.full {S : Nat → Prop} {ι : Nat → Pl} {a : Act} {w : World} (hc : ∀ j, p ≤ j → j < m → CalmStep P all σ j) (hpm : p ≤ m) (h : PInv g all σ p m S ι a w) (hS : ∀ j, p ≤ j → j < m → S j) : Rel g ι (σ m) a w := by
  refine h.rel.rel (slots_of (by rw [seg_slots hc hpm (Nat.le_refl _)]; exact h.size.symm) fun t => ?_) h.defers
  obtain ⟨i, h1, h2, h3, h4, h5⟩ := h.slots t
  have hsame := seg_slot hc h1 h2 (Nat.le_refl _) (t := t) (fun j oj hj hjm hoj hdj => by
    have := (h4 j oj (by omega) hjm hoj hdj).1 (hS j (by omega) hjm)
    omega) (.at .void)
  rw [hsame]
  exact VR.ext (fun id hn => ⟨rfl, seg_shp hc h1 h2 (Nat.le_refl _) hn⟩) h5

theorem Rel.draw {ι : Nat → Pl} {st : St} {a : Act} {w : World} (h : Rel g ι st a w) (n : Nat) : Rel g ι st a { w with drawn := n } :=
  ⟨h.slots, h.defers, fun id ob h1 h2 => (h.heap id ob h1 h2).ext (fun _ _ => ⟨rfl, rfl⟩) rfl (fun _ _ _ _ _ => rfl), h.inj, h.keep, h.flag, h.os, h.tape, h.output, h.size, h.block, h.fresh⟩

theorem PInv.congr {S S' : Nat → Prop} {ι : Nat → Pl} {a : Act} {w : World} (h : PInv g all σ p m S ι a w) (hs : ∀ j, S j ↔ S' j) : PInv g all σ p m S' ι a w := by
  have : S = S' := funext fun j => propext (hs j)
  subst this
  exact h

/-- Where the next operation stands that may change what is there. -/
theorem next_eff (C E : Nat → Prop) (n : Nat) (h : ∀ j, j < n → C j ∨ E j) : ∀ d p, n - p = d → p ≤ n → ∃ m, p ≤ m ∧ m ≤ n ∧ (∀ j, p ≤ j → j < m → C j) ∧ (m = n ∨ (m < n ∧ E m)) := by
  intro d
  induction d with
  | zero => intro p h1 h2; exact ⟨p, Nat.le_refl _, h2, fun j _ _ => by omega, .inl (by omega)⟩
  | succ d ih =>
    intro p h1 h2
    rcases h p (by omega) with hc | he
    · obtain ⟨m, g1, g2, g3, g4⟩ := ih (p + 1) (by omega) (by omega)
      refine ⟨m, by omega, g2, fun j hj hjm => ?_, g4⟩
      rcases Nat.eq_or_lt_of_le hj with rfl | hlt
      · exact hc
      · exact g3 j hlt hjm
    · exact ⟨p, Nat.le_refl _, h2, fun j _ _ => by omega, .inr ⟨by omega, he⟩⟩

theorem barrier_get {i j : Nat} (h : barrier all i = true) (hj : j < all.size) (hne : i ≠ j) : (j < i → bef (masks all) j i = true) ∧ (i < j → bef (masks all) i j = true) := by
  unfold barrier at h
  have := List.all_eq_true.1 h j (by simpa using hj)
  have hb : Nat.beq i j = false := by
    cases hb : Nat.beq i j with
    | false => rfl
    | true => exact absurd (Nat.eq_of_beq_eq_true hb) hne
  rw [hb] at this
  simp only at this
  refine ⟨fun hlt => ?_, fun hlt => ?_⟩
  · rw [show Nat.blt j i = true by rw [Nat.blt_eq]; exact hlt] at this
    exact this
  · rw [show Nat.blt j i = false by
      cases hq : Nat.blt j i with
      | false => rfl
      | true => rw [Nat.blt_eq] at hq; omega] at this
    exact this

/-- Any order. -/
theorem draw_any {Q : Exit → Act → World → Prop} {n0 : Nat} (hd : drawOk all = true) (hn0 : g.h0.length = n0) (hsteps : ∀ j, j < all.size → CalmStep P all σ j ∨ EffStep P n0 all true σ j) (hQ : ∀ ι a w, Rel g ι (σ all.size) a w → Q .normal a w) :
    ∀ (fuel : Nat) (listed : Array Bool) (a : Act) (w : World) (p m : Nat) (ι : Nat → Pl), listed.size = all.size → listed.toList.countP (fun b => !b) ≤ fuel →
      (∀ j o, listed.getD j false = true → all[j]? = some o → ∀ e ∈ o.after, bindsB e = true → listed.getD e.on false = true) →
      p ≤ m → m ≤ all.size → (∀ j, p ≤ j → j < m → CalmStep P all σ j) → (m = all.size ∨ (m < all.size ∧ EffStep P n0 all true σ m)) → (∀ j, j < p → listed.getD j false = true) → (∀ j, listed.getD j false = true → j < m) →
      PInv g all σ p m (fun j => listed.getD j false = true) ι a w → wpAny P .any all Q fuel listed a w := by
  intro fuel
  induction fuel with
  | zero =>
    intro listed a w p m ι hsize hcnt hclosed hpm hmn hc hm hlow hhigh h
    have hall : ∀ j, j < all.size → listed.getD j false = true := by
      intro j hj
      have h0 : listed.toList.countP (fun b => !b) = 0 := by omega
      rw [List.countP_eq_zero] at h0
      have hjl : j < listed.size := by omega
      have := h0 listed[j] (by simp [Array.getElem_mem])
      simpa [hjl] using this
    have hmm : m = all.size := by
      rcases hm with hm | ⟨hm, _⟩
      · exact hm
      · have := hhigh m (hall m hm); omega
    refine ⟨?_, ?_⟩
    · rw [List.eq_nil_iff_forall_not_mem]
      intro j hj
      obtain ⟨h1, o, h2, _⟩ := mem_ready.1 hj
      have hjs : j < all.size := (Array.getElem?_eq_some_iff.1 h2).1
      have h3 := hall j hjs
      have hjl : j < listed.size := by omega
      simp [hjl] at h1 h3
      rw [h1] at h3; cases h3
    · subst hmm
      exact hQ ι a w (h.full hc hpm fun j _ hj => hall j hj)
  | succ fuel ih =>
    intro listed a w p m ι hsize hcnt hclosed hpm hmn hc hm hlow hhigh h
    have hbefl : ∀ (j : Nat), ∀ i, listed.getD j false = true → bef (masks all) i j = true → listed.getD i false = true := by
      intro j
      induction j using Nat.strongRecOn with
      | _ j ihj =>
        intro i hl hb
        have hjs : j < all.size := by
          rcases Nat.lt_or_ge j all.size with h' | h'
          · exact h'
          · simp [Array.getElem?_eq_none (show listed.size ≤ j by omega)] at hl
        obtain ⟨e, he, hbe, hcase⟩ := bef_edge (Array.getElem?_eq_getElem hjs) hb
        have hle := hclosed j _ hl (Array.getElem?_eq_getElem hjs) e he hbe
        rcases hcase with rfl | ⟨hlt, hb'⟩
        · exact hle
        · exact ihj e.on hlt i hle hb'
    have hready : ∀ k, k ∈ Region.ready .any all listed → ∃ o, all[k]? = some o ∧ listed.getD k false ≠ true ∧ (∀ e ∈ o.after, bindsB e = true → listed.getD e.on false = true) ∧ ∀ j, bef (masks all) j k = true → listed.getD j false = true := by
      intro k hk
      obtain ⟨h1, o, h2, h3⟩ := mem_ready.1 hk
      have hks : k < all.size := (Array.getElem?_eq_some_iff.1 h2).1
      have hkl : k < listed.size := by omega
      have hall' : ∀ e ∈ o.after, bindsB e = true → listed.getD e.on false = true := fun e he hb => h3 e he (by rw [← bindsB_eq]; exact hb)
      refine ⟨o, h2, ?_, hall', fun j hb => ?_⟩
      · simp [hkl] at h1 ⊢; exact h1
      · obtain ⟨e, he, hbe, hcase⟩ := bef_edge h2 hb
        have hle := hall' e he hbe
        rcases hcase with rfl | ⟨_, hb'⟩
        · exact hle
        · exact hbefl e.on j hle hb'
    refine ⟨fun hnil => ?_, fun k hk => ?_⟩
    · have hall : ∀ j, j < all.size → listed.getD j false = true := by
        intro j
        induction j using Nat.strongRecOn with
        | _ j ihj =>
          intro hj
          cases hl : listed.getD j false with
          | true => rfl
          | false =>
            exfalso
            have hjl : j < listed.size := by omega
            have : j ∈ Region.ready .any all listed := mem_ready.2 ⟨by simpa [hjl] using hl, _, Array.getElem?_eq_getElem hj, fun e he hbe => by
              have := (drawOk_get hd (Array.getElem?_eq_getElem hj)).1 e he hbe
              exact ihj e.on this (by omega)⟩
            rw [hnil] at this; cases this
      have hmm : m = all.size := by
        rcases hm with hm | ⟨hm, _⟩
        · exact hm
        · have := hhigh m (hall m hm); omega
      subst hmm
      exact hQ ι a w (h.full hc hpm fun j _ hj => hall j hj)
    · obtain ⟨o, ho, hnl, hall', hbk⟩ := hready k hk
      have hks : k < all.size := (Array.getElem?_eq_some_iff.1 ho).1
      have hkl : k < listed.size := by omega
      have hpk : p ≤ k := by
        rcases Nat.lt_or_ge k p with h' | h'
        · exact absurd (hlow k h') hnl
        · exact h'
      have hset : ∀ j, (listed.setIfInBounds k true).getD j false = true ↔ (listed.getD j false = true ∨ j = k) := by
        intro j
        by_cases hjk : k = j
        · subst hjk
          simp [hkl]
        · rw [getD_set_ne false hjk]
          exact ⟨fun h => .inl h, fun h => h.elim id fun h => absurd h.symm hjk⟩
      have hsize' : (listed.setIfInBounds k true).size = all.size := by simpa using hsize
      have hcnt' : (listed.setIfInBounds k true).toList.countP (fun b => !b) ≤ fuel := by
        rw [Array.toList_setIfInBounds, List.countP_set (by simpa using hkl)]
        have hlk : listed[k] = false := by simpa [hkl] using hnl
        have hpos : 0 < listed.toList.countP (fun b => !b) := by
          rw [List.countP_pos_iff]
          exact ⟨listed[k], by simp [Array.getElem_mem], by simp [hlk]⟩
        simp [hlk]
        simp at hcnt
        omega
      have hclosed' : ∀ j oj, (listed.setIfInBounds k true).getD j false = true → all[j]? = some oj → ∀ e ∈ oj.after, bindsB e = true → (listed.setIfInBounds k true).getD e.on false = true := by
        intro j oj hj hoj e he hbe
        rw [hset] at hj ⊢
        left
        rcases hj with hj | rfl
        · exact hclosed j oj hj hoj e he hbe
        · rw [ho] at hoj; cases hoj
          exact hall' e he hbe
      rcases Nat.lt_or_ge k m with hkm | hkm
      · refine h.step hc hd hpk hkm hnl hbk (fun j hj hb => hnl (hbefl j k hj hb)) fun ι' a' w' h' => ?_
        exact ih _ a' w' p m ι' hsize' hcnt' hclosed' hpm hmn hc hm (fun j hj => (hset j).2 (.inl (hlow j hj))) (fun j hj => by
          rcases (hset j).1 hj with h | h
          · exact hhigh j h
          · omega) (h'.congr fun j => (hset j).symm)
      · rcases hm with hm | ⟨hm, heff⟩
        · omega
        · obtain ⟨oe, hoe, hwant, hop, hbar, _⟩ := heff
          have hbar := hbar rfl
          have hkmeq : k = m := by
            rcases Nat.eq_or_lt_of_le hkm with h' | h'
            · exact h'.symm
            · have := hhigh m (hbk m ((barrier_get hbar hks (by omega)).2 h'))
              omega
          subst hkmeq
          rw [ho] at hoe; cases hoe
          have hfull : ∀ j, j < k → listed.getD j false = true := fun j hj => hbk j ((barrier_get hbar (by omega) (by omega)).1 hj)
          have hrel := h.full hc hpm fun j _ hj => hfull j hj
          have hreads : ∀ d ∈ reads all o, VR ι (shp (σ k).hp) ((σ k).sl.getD d (.at .void)) (a.tmps.getD d undef) := fun d _ => slots_get hrel.slots d
          unfold wpOp
          rw [ho]
          simp only
          rw [if_pos (wanted_of hwant hreads)]
          left
          refine hop g ι a w hn0 hrel _ Q fun ι' a' w' h' => ?_
          obtain ⟨m', g1, g2, g3, g4⟩ := next_eff (CalmStep P all σ) (EffStep P n0 all true σ) all.size hsteps _ (k + 1) rfl (by omega)
          obtain ⟨ι'', h''⟩ := PInv.start (S := fun j => (listed.setIfInBounds k true).getD j false = true) g3 g1 h' (fun j hj hh => by
            rcases (hset j).1 hh with h | h
            · have := hhigh j h; omega
            · omega)
          exact ih _ a' w' (k + 1) m' ι'' hsize' hcnt' hclosed' g1 g2 g3 g4 (fun j hj => (hset j).2 (by
            rcases Nat.eq_or_lt_of_le (Nat.le_of_lt_succ hj) with h | h
            · exact .inr h
            · exact .inl (hfull j h))) (fun j hj => by
            rcases (hset j).1 hj with h | h
            · have := hhigh j h; omega
            · omega) h''

/-- A region whose order is drawn. -/
theorem region_draw {Q : Exit → Act → World → Prop} {n0 id : Nat} {ι : Nat → Pl} {a : Act} {w : World} (hmix : P.follows .mixedOrders = true) (hd : drawOk all = true) (hn0 : g.h0.length = n0) (hsteps : ∀ j, j < all.size → CalmStep P all σ j ∨ EffStep P n0 all true σ j)
    (hQ : ∀ ι a w, Rel g ι (σ all.size) a w → Q .normal a w) (h : Rel g ι (σ 0) a w) : (Code.region id all true).wp P Q a w := by
  refine wp_region_any hmix ?_
  obtain ⟨m', g1, g2, g3, g4⟩ := next_eff (CalmStep P all σ) (EffStep P n0 all true σ) all.size hsteps _ 0 rfl (by omega)
  have hnone : ∀ j, (Array.replicate all.size false).getD j false ≠ true := by
    intro j
    rcases Nat.lt_or_ge j all.size with h' | h'
    · simp [h']
    · simp [Array.getElem?_eq_none (show (Array.replicate all.size false).size ≤ j by simpa using h')]
  obtain ⟨ι'', h''⟩ := PInv.start (S := fun j => (Array.replicate all.size false).getD j false = true) g3 g1 (h.draw _) (fun j _ hh => hnone j hh)
  exact draw_any hd hn0 hsteps hQ all.size _ a _ 0 m' ι'' (by simp) (by simpa using List.countP_le_length (p := fun b => !b) (l := List.replicate all.size false)) (fun j o hj => absurd hj (hnone j)) g1 g2 g3 g4 (fun j hj => by omega) (fun j hj => absurd hj (hnone j)) h''
end Go.Fx
/- Regions and code. -/
namespace Go.Fx
variable {P : Program} {cx : Cx} {α : Type} {r : α}

theorem calm_pick {o : Oper} {sl : List V} {hp : List Ob} {c a b : Operand} {t : Bool} (ho : o.op = .pick c a b) (hc : evA sl c = .at (.bool t)) : CalmOp P o sl hp (match t with | true => evA sl a | false => evA sl b) [] := by
  refine calm_value fun ι ac w hops hhr => ?_
  have h1 := hops c (by simp [ho, Op.operands])
  have h2 := hops a (by simp [ho, Op.operands])
  have h3 := hops b (by simp [ho, Op.operands])
  rw [hc] at h1
  have h1' : ac.eval c = .bool t := h1
  cases t with
  | true => exact ⟨ac.eval a, 0, by rw [World.drewN_zero]; simp [execOp, ho, h1', asBool], h2⟩
  | false => exact ⟨ac.eval b, 0, by rw [World.drewN_zero]; simp [execOp, ho, h1', asBool], h3⟩

theorem effOp_sound {n0 : Nat} {o : Oper} {st : St} {k : St → Option α} (hC : CxOK P cx) (h : effOp cx n0 o st k = some r) : ∃ st', k st' = some r ∧ EffOp P n0 o st st' ∧ st'.sl.length = st.sl.length := by
  unfold effOp at h
  split at h
  · rename_i t x y ho
    split at h
    · rename_i id el off cs i hx hy hi
      split at h
      · rename_i ob hl hob
        split at h
        · rename_i ob' hs
          exact ⟨_, h, eff_store hC.ty ho hi hx hy (Nat.eq_of_beq_eq_true hl) hob hs, put_length⟩
        · cases h
      · cases h
    · cases h
  · rename_i args tys ho
    split at h
    · rename_i x y t t' hx ht
      have e1 := list_of_toList hx
      have e2 := list_of_toList ht
      subst e1; subst e2
      rw [chk_some] at h
      obtain ⟨h1, h⟩ := h
      obtain rfl := Nat.eq_of_beq_eq_true h1
      split at h
      · rename_i et id ya hd hv hy
        split at h
        · rename_i ei ys ks xs he hys hob
          split at h
          · rename_i ks' hks
            simp only [chk_some, decide_eq_true_eq] at h
            obtain ⟨rfl, g2, g3, g4, g5, g6⟩ := h
            have := eff_append (P := P) (n0 := n0) hC.ty ho hd he hks hv hy hys hob g2 g3 (Nat.le_of_ble_eq_true g4) (by simpa [Nat.blt_eq] using g5)
            split at g6
            · rename_i hb; rw [hb] at this; exact ⟨_, g6, this, by simp [put_length]⟩
            · rename_i hb; rw [hb] at this; exact ⟨_, g6, this, by simp [put_length]⟩
          · cases h
        · cases h
      · cases h
    · cases h
  · cases h

theorem stepOp_sound {n0 : Nat} {bar : Bool} {o : Oper} {st : St} {k : St → Option α} (hC : CxOK P cx) (h : stepOp cx n0 bar o st k = some r) :
    ∃ st', k st' = some r ∧ ((∃ v news, st' = ⟨put st.sl o.dst v, st.hp ++ news⟩ ∧ CalmOp P o st.sl st.hp v news) ∨ (bar = true ∧ EffOp P n0 o st st' ∧ st'.sl.length = st.sl.length)) := by
  unfold stepOp at h
  have hcalm : ∀ {e : V → List Ob → Option α}, (∀ v hp', e v hp' = some r → bar = true ∧ k ⟨put st.sl o.dst v, hp'⟩ = some r) → calm cx o st.sl st.hp (fun v news => k ⟨put st.sl o.dst v, st.hp ++ news⟩) e = some r →
      ∃ st', k st' = some r ∧ ((∃ v news, st' = ⟨put st.sl o.dst v, st.hp ++ news⟩ ∧ CalmOp P o st.sl st.hp v news) ∨ (bar = true ∧ EffOp P n0 o st st' ∧ st'.sl.length = st.sl.length)) := by
    intro e he h
    rcases calm_sound hC h with ⟨v, news, h1, h2⟩ | ⟨v, hp', h1, h2⟩
    · exact ⟨_, h2, .inl ⟨v, news, rfl, h1⟩⟩
    · obtain ⟨g1, g2⟩ := he v hp' h2
      exact ⟨_, g2, .inr ⟨g1, h1 n0, by simp [put_length]⟩⟩
  have heff : ∀ {k : St → Option α}, chk bar (effOp cx n0 o st k) = some r →
      ∃ st', k st' = some r ∧ ((∃ v news, st' = ⟨put st.sl o.dst v, st.hp ++ news⟩ ∧ CalmOp P o st.sl st.hp v news) ∨ (bar = true ∧ EffOp P n0 o st st' ∧ st'.sl.length = st.sl.length)) := by
    intro k h
    rw [chk_some] at h
    obtain ⟨st', h1, h2⟩ := effOp_sound hC h.2
    exact ⟨st', h1, .inr ⟨h.1, h2⟩⟩
  split at h
  · exact heff h
  · rename_i c a b ho
    split at h
    · rename_i t hc
      have := calm_pick (P := P) (hp := st.hp) ho hc
      cases t with
      | true => exact ⟨_, h, .inl ⟨_, [], by simp, this⟩⟩
      | false => exact ⟨_, h, .inl ⟨_, [], by simp, this⟩⟩
    · cases h
  · split at h
    · split at h
      · exact hcalm (fun v hp' h => by cases h) h
      · exact heff h
    · cases h
  · exact hcalm (fun v hp' h => by rw [chk_some] at h; exact h) h

theorem set_same {l : List V} {d : Nat} {v x : V} (h : l.getD d x = v) (hne : v ≠ x) : l.set d v = l := by
  rw [List.getD_eq_getElem?_getD] at h
  cases hd : l[d]? with
  | none => rw [hd] at h; exact absurd h.symm hne
  | some u =>
    rw [hd] at h
    simp at h
    subst h
    obtain ⟨h1, h2⟩ := List.getElem?_eq_some_iff.1 hd
    rw [← h2]; exact List.set_getElem_self h1

/-- All operations of a region, in the order of the text. -/
theorem evOps_sound {n0 : Nat} {all : Array Oper} {dr : Bool} (hC : CxOK P cx) : ∀ (l : List Oper) (i : Nat) (st : St) (k : St → Option α), (∀ j, l[j]? = all[i + j]?) → evOps cx n0 all dr i l st k = some r →
    ∃ σ : Nat → St, σ i = st ∧ k (σ (i + l.length)) = some r ∧ ∀ j, i ≤ j → j < i + l.length → CalmStep P all σ j ∨ EffStep P n0 all dr σ j := by
  intro l
  induction l with
  | nil => intro i st k _ h; exact ⟨fun _ => st, rfl, by simpa [evOps] using h, fun j h1 h2 => by simp at h2; omega⟩
  | cons o l ih =>
    intro i st k hl h
    have h0 : all[i]? = some o := by simpa using (hl 0).symm
    have hl' : ∀ j, l[j]? = all[i + 1 + j]? := fun j => by have := hl (j + 1); simpa [Nat.add_assoc, Nat.add_comm 1 j] using this
    -- a step, and the rest
    have done : ∀ (st' : St), ((∃ v news, st' = ⟨put st.sl o.dst v, st.hp ++ news⟩ ∧ ((Wanted all o st ∧ CalmOp P o st.sl st.hp v news) ∨ (Unwanted all o st ∧ v = .at .void ∧ news = []))) ∨
        (Wanted all o st ∧ EffOp P n0 o st st' ∧ (dr = true → barrier all i = true) ∧ st'.sl.length = st.sl.length)) → evOps cx n0 all dr (i + 1) l st' k = some r →
        ∃ σ : Nat → St, σ i = st ∧ k (σ (i + (o :: l).length)) = some r ∧ ∀ j, i ≤ j → j < i + (o :: l).length → CalmStep P all σ j ∨ EffStep P n0 all dr σ j := by
      intro st' hstep hrest
      obtain ⟨σ, g1, g2, g3⟩ := ih (i + 1) st' k hl' hrest
      have hσ : ∀ j, i + 1 ≤ j → (fun j => if j = i then st else σ j) j = σ j := fun j hj => by simp [show j ≠ i by omega]
      refine ⟨fun j => if j = i then st else σ j, by simp, ?_, fun j h1 h2 => ?_⟩
      · rw [hσ _ (by simp only [List.length_cons]; omega), show i + (o :: l).length = i + 1 + l.length by simp; omega]; exact g2
      · simp only [List.length_cons] at h2
        rcases Nat.eq_or_lt_of_le h1 with rfl | hlt
        · have e1 : (fun j => if j = i then st else σ j) i = st := by simp
          have e2 : (fun j => if j = i then st else σ j) (i + 1) = st' := by simp [g1]
          rcases hstep with ⟨v, news, h1, h2⟩ | ⟨h1, h2, h3, h4⟩
          · left
            refine ⟨o, v, news, h0, ?_, ?_⟩
            · rw [e2, e1]; exact h1
            · rw [e1]; exact h2
          · right
            refine ⟨o, h0, ?_, ?_, h3, ?_⟩
            · rw [e1]; exact h1
            · rw [e1, e2]; exact h2
            · rw [e1, e2]; exact h4
        · have e1 := hσ j hlt
          have e2 := hσ (j + 1) (by omega)
          rcases g3 j hlt (by omega) with hh | hh
          · left; unfold CalmStep at *; rw [e1, e2]; exact hh
          · right; unfold EffStep at *; rw [e1, e2]; exact hh
    have run : ∀ (bar : Bool), (bar = true → dr = true → barrier all i = true) → Wanted all o st → stepOp cx n0 bar o st (fun st' => evOps cx n0 all dr (i + 1) l st' k) = some r →
        ∃ σ : Nat → St, σ i = st ∧ k (σ (i + (o :: l).length)) = some r ∧ ∀ j, i ≤ j → j < i + (o :: l).length → CalmStep P all σ j ∨ EffStep P n0 all dr σ j := by
      intro bar hbar hwant hs
      obtain ⟨st', h1, h2⟩ := stepOp_sound hC hs
      refine done st' ?_ h1
      rcases h2 with ⟨v, news, h2, h3⟩ | ⟨h2, h3, h4⟩
      · exact .inl ⟨v, news, h2, .inl ⟨hwant, h3⟩⟩
      · exact .inr ⟨hwant, h3, hbar h2, h4⟩
    unfold evOps at h
    split at h
    · rename_i hg
      refine run _ ?_ (.inl hg) h
      clear run done h
      intro h1 h2; subst h2; exact h1
    · rename_i j want hg
      split at h
      · rename_i d hd
        split at h
        · rename_i t ht
          cases t with
          | true =>
            have hset : st.sl.set d (.at (.bool true)) = st.sl := set_same ht (by simp)
            cases want with
            | true =>
              simp only [hset] at h
              refine run _ ?_ (.inr ⟨j, true, d, hg, hd, ht⟩) h
              clear run done h
              intro h1 h2; subst h2; exact h1
            | false =>
              simp only [hset] at h
              exact done _ (.inl ⟨.at .void, [], by simp, .inr ⟨⟨j, false, d, hg, hd, .inl ht⟩, rfl, rfl⟩⟩) h
          | false =>
            have hset : st.sl.set d (.at (.bool false)) = st.sl := set_same ht (by simp)
            cases want with
            | false =>
              simp only [hset] at h
              refine run _ ?_ (.inr ⟨j, false, d, hg, hd, ht⟩) h
              clear run done h
              intro h1 h2; subst h2; exact h1
            | true =>
              simp only [hset] at h
              exact done _ (.inl ⟨.at .void, [], by simp, .inr ⟨⟨j, true, d, hg, hd, .inl ht⟩, rfl, rfl⟩⟩) h
        · rename_i ht
          exact done _ (.inl ⟨.at .void, [], by simp, .inr ⟨⟨j, want, d, hg, hd, .inr ht⟩, rfl, rfl⟩⟩) h
        · cases h
      · cases h

/-- In the order of the text. -/
theorem seq_run {g : Beg} {all : Array Oper} {σ : Nat → St} {n0 : Nat} {Q : Exit → Act → World → Prop} (hn0 : g.h0.length = n0) : ∀ (l : List Oper) (i : Nat) (ι : Nat → Pl) (a : Act) (w : World), (∀ j, l[j]? = all[i + j]?) →
    (∀ j, i ≤ j → j < i + l.length → CalmStep P all σ j ∨ EffStep P n0 all false σ j) → Rel g ι (σ i) a w → (∀ ι a w, Rel g ι (σ (i + l.length)) a w → Q .normal a w) → wpList P all Q l a w := by
  intro l
  induction l with
  | nil => intro i ι a w _ _ h hQ; exact hQ ι a w (by simpa using h)
  | cons o l ih =>
    intro i ι a w hl hs h hQ
    have h0 : all[i]? = some o := by simpa using (hl 0).symm
    have hl' : ∀ j, l[j]? = all[i + 1 + j]? := fun j => by have := hl (j + 1); simpa [Nat.add_assoc, Nat.add_comm 1 j] using this
    have hnext : ∀ ι' a' w', Rel g ι' (σ (i + 1)) a' w' → wpList P all Q l a' w' := fun ι' a' w' h' =>
      ih (i + 1) ι' a' w' hl' (fun j h1 h2 => hs j (by omega) (by simp only [List.length_cons]; omega)) h' (by
        rw [show i + 1 + l.length = i + (o :: l).length by simp only [List.length_cons]; omega]; exact hQ)
    have hreads : ∀ d ∈ reads all o, VR ι (shp (σ i).hp) ((σ i).sl.getD d (.at .void)) (a.tmps.getD d undef) := fun d _ => slots_get h.slots d
    unfold wpList
    rcases hs i (Nat.le_refl _) (by simp only [List.length_cons]; omega) with ⟨o', v, news, ho, hσ, hcase⟩ | ⟨o', ho, hwant, heff, _, _⟩
    · rw [h0] at ho; cases ho
      rcases hcase with ⟨hwant, hcalm⟩ | ⟨hun, rfl, rfl⟩
      · rw [if_pos (wanted_of hwant hreads)]
        left
        have := hcalm.eff (n0 := n0)
        rw [← hσ] at this
        exact this g ι a w hn0 h _ Q hnext
      · rw [if_neg (by rw [unwanted_of hun hreads]; simp)]
        refine hnext ι _ _ ?_
        rw [hσ]
        exact h.calm (Grow.none (WX.refl w)) (c := undef) rfl (by rw [List.append_nil]; exact h.heap)
    · rw [h0] at ho; cases ho
      rw [if_pos (wanted_of hwant hreads)]
      left
      exact heff g ι a w hn0 h _ Q hnext

/-! ### code -/
def exOf : Ex → Exit
  | .normal => .normal
  | .exit id => .exit id
  | .ret => .ret

/-- From one state the code comes to another. -/
def CodeTo (P : Program) (n0 : Nat) (c : Code) (st : St) (e : Ex) (st' : St) : Prop :=
  ∀ (g : Beg) (ι : Nat → Pl) (a : Act) (w : World), g.h0.length = n0 → Rel g ι st a w → ∀ Q : Exit → Act → World → Prop, (∀ ι' a' w', Rel g ι' st' a' w' → Q (exOf e) a' w') → c.wp P Q a w

theorem steps_len {all : Array Oper} {σ : Nat → St} {n0 : Nat} {dr : Bool} {m : Nat} (h : ∀ j, j < m → CalmStep P all σ j ∨ EffStep P n0 all dr σ j) : (σ m).sl.length = (σ 0).sl.length := by
  induction m with
  | zero => rfl
  | succ m ih =>
    rw [← ih fun j hj => h j (by omega)]
    rcases h m (by omega) with ⟨o, v, news, _, hs, _⟩ | ⟨o, _, _, _, _, hl⟩
    · rw [hs]; exact put_length
    · exact hl

theorem region_sound {n0 id : Nat} {ops : Array Oper} {draw : Bool} {st : St} {k : Ex → St → Option α} (hC : CxOK P cx) (hmix : P.follows .mixedOrders = true) (h : evC cx n0 (.region id ops draw) st k = some r) :
    ∃ st', k .normal st' = some r ∧ st'.sl.length = st.sl.length ∧ CodeTo P n0 (.region id ops draw) st .normal st' := by
  unfold evC at h
  cases draw with
  | true =>
    simp only [chk_some] at h
    obtain ⟨hd, h⟩ := h
    obtain ⟨σ, h1, h2, h3⟩ := evOps_sound hC ops.toList 0 st (k .normal) (by simp) h
    simp only [Nat.zero_add, Array.length_toList] at h2 h3
    have hl := steps_len (fun j hj => h3 j (Nat.zero_le _) hj)
    rw [h1] at hl
    refine ⟨_, h2, hl, fun g ι a w hn0 hrel Q hQ => ?_⟩
    exact region_draw hmix hd hn0 (fun j hj => h3 j (Nat.zero_le _) hj) hQ (by rw [h1]; exact hrel)
  | false =>
    simp only at h
    obtain ⟨σ, h1, h2, h3⟩ := evOps_sound hC ops.toList 0 st (k .normal) (by simp) h
    have hl := steps_len (m := 0 + ops.toList.length) (fun j hj => h3 j (Nat.zero_le _) hj)
    rw [h1] at hl
    refine ⟨_, h2, hl, fun g ι a w hn0 hrel Q hQ => ?_⟩
    exact wp_region_list (seq_run hn0 ops.toList 0 ι a w (by simp) h3 (by rw [h1]; exact hrel) hQ)
end Go.Fx
/- A nil that may grow is seen as an empty row. -/
namespace Go.Fx
variable {P : Program} {cx : Cx} {ty : Nat → Option TI}

theorem nilA_E {hp : List Ob} {ι : Nat → Pl} {w : World} {lk : Option (List K)} {a a' : A} {hp' : List Ob} {c : Value} (hv : nilA hp lk a = (a', hp')) (h : HR ι hp w) (ha : AR ι (shp hp) a c) :
    ∃ ι', ViewsE ι ι' hp hp' w ∧ AR ι' (shp hp') a' c := by
  unfold nilA at hv
  split at hv
  · cases lk with
    | none => simp at hv; obtain ⟨rfl, rfl⟩ := hv; exact ⟨ι, ViewsE.refl h, ha⟩
    | some ks =>
      simp at hv
      obtain ⟨rfl, rfl⟩ := hv
      obtain ⟨ι', h1, h2⟩ := Views.one h ⟨true, .rows ks []⟩ .empty (fun ι' _ hon => .inl ⟨hon, rfl⟩)
      obtain ⟨ad, rfl⟩ := ha
      refine ⟨ι', ⟨h1, fun id g1 g2 => ?_⟩, ks, 0, by rw [shp_new]; rfl, .inl ⟨h2, rfl, ad, rfl⟩⟩
      have : id = hp.length := by simp at g2; omega
      subst this
      exact h2
  · simp at hv
    obtain ⟨rfl, rfl⟩ := hv
    exact ⟨ι, ViewsE.refl h, ha⟩

theorem nilAs_E {w : World} : ∀ {lks : List (Option (List K))} {as as' : List A} {hp hp' : List Ob} {ι : Nat → Pl} {cs : List Value}, nilAs hp lks as = (as', hp') → HR ι hp w → F2 (AR ι (shp hp)) as cs →
    ∃ ι', ViewsE ι ι' hp hp' w ∧ F2 (AR ι' (shp hp')) as' cs := by
  intro lks as
  induction as generalizing lks with
  | nil =>
    intro as' hp hp' ι cs hv h hF
    have : nilAs hp lks [] = ([], hp) := by cases lks <;> rfl
    rw [this] at hv
    cases hv
    match cs, hF with
    | [], _ => exact ⟨ι, ViewsE.refl h, trivial⟩
    | _ :: _, hF => exact hF.elim
  | cons a as ih =>
    intro as' hp hp' ι cs hv h hF
    match cs, hF with
    | [], hF => exact hF.elim
    | c :: cs, ⟨ha, has⟩ =>
      cases lks with
      | nil =>
        simp only [nilAs, Prod.mk.injEq] at hv
        obtain ⟨rfl, rfl⟩ := hv
        exact ⟨ι, ViewsE.refl h, ha, has⟩
      | cons lk lks =>
        simp only [nilAs] at hv
        generalize h1 : nilA hp lk a = q at hv
        obtain ⟨a1, hp1⟩ := q
        simp only at hv
        generalize h2 : nilAs hp1 lks as = q at hv
        obtain ⟨as1, hp2⟩ := q
        simp only [Prod.mk.injEq] at hv
        obtain ⟨rfl, rfl⟩ := hv
        obtain ⟨ι1, v1, g1⟩ := nilA_E h1 h ha
        obtain ⟨ι2, v2, g2⟩ := ih h2 v1.v.heap (has.imp fun _ _ h => h.ext v1.v.ext)
        exact ⟨ι2, v1.trans v2, g1.ext v2.v.ext, g2⟩

theorem nilV_E {hp : List Ob} {w : World} {t : Nat} {v v' : V} {hp' : List Ob} {ι : Nat → Pl} {c : Value} (hv : nilV ty hp t v = (v', hp')) (h : HR ι hp w) (hr : VR ι (shp hp) v c) :
    ∃ ι', ViewsE ι ι' hp hp' w ∧ VR ι' (shp hp') v' c := by
  cases v with
  | «at» a =>
    simp only [nilV] at hv
    generalize h2 : nilAs hp (lksOf ty t) [a] = q at hv
    obtain ⟨as1, hp2⟩ := q
    obtain ⟨ι', v1, v2⟩ := nilAs_E h2 h (cs := [c]) ⟨hr, trivial⟩
    match as1, v2 with
    | [a1], ⟨v2, _⟩ =>
      simp only [Prod.mk.injEq] at hv
      obtain ⟨rfl, rfl⟩ := hv
      exact ⟨ι', v1, v2⟩
    | [], v2 => exact v2.elim
    | _ :: _ :: _, ⟨_, v2⟩ => exact v2.elim
  | agg as =>
    simp only [nilV] at hv
    generalize h2 : nilAs hp (lksOf ty t) as = q at hv
    obtain ⟨as1, hp2⟩ := q
    simp only [Prod.mk.injEq] at hv
    obtain ⟨rfl, rfl⟩ := hv
    obtain ⟨cs, rfl, hF⟩ := hr
    obtain ⟨ι', v1, v2⟩ := nilAs_E h2 h hF
    exact ⟨ι', v1, cs, rfl, v2⟩
  | tup xs =>
    simp only [nilV, Prod.mk.injEq] at hv
    obtain ⟨rfl, rfl⟩ := hv
    exact ⟨ι, ViewsE.refl h, hr⟩

theorem nilVs_E {w : World} : ∀ {ts : List Nat} {vs vs' : List V} {hp hp' : List Ob} {ι : Nat → Pl} {cs : List Value}, nilVs ty hp ts vs = (vs', hp') → HR ι hp w → F2 (VR ι (shp hp)) vs cs →
    ∃ ι', ViewsE ι ι' hp hp' w ∧ F2 (VR ι' (shp hp')) vs' cs := by
  intro ts vs
  induction vs generalizing ts with
  | nil =>
    intro vs' hp hp' ι cs hv h hF
    have : nilVs ty hp ts [] = ([], hp) := by cases ts <;> rfl
    rw [this] at hv
    cases hv
    match cs, hF with
    | [], _ => exact ⟨ι, ViewsE.refl h, trivial⟩
    | _ :: _, hF => exact hF.elim
  | cons v vs ih =>
    intro vs' hp hp' ι cs hv h hF
    match cs, hF with
    | [], hF => exact hF.elim
    | c :: cs, ⟨ha, has⟩ =>
      cases ts with
      | nil =>
        simp only [nilVs, Prod.mk.injEq] at hv
        obtain ⟨rfl, rfl⟩ := hv
        exact ⟨ι, ViewsE.refl h, ha, has⟩
      | cons t ts =>
        simp only [nilVs] at hv
        generalize h1 : nilV ty hp t v = q at hv
        obtain ⟨a1, hp1⟩ := q
        simp only at hv
        generalize h2 : nilVs ty hp1 ts vs = q at hv
        obtain ⟨vs1, hp2⟩ := q
        simp only [Prod.mk.injEq] at hv
        obtain ⟨rfl, rfl⟩ := hv
        obtain ⟨ι1, v1, v2⟩ := nilV_E h1 h ha
        obtain ⟨ι2, w1, w2⟩ := ih h2 v1.v.heap (has.imp fun _ _ h => VR.ext v1.v.ext h)
        exact ⟨ι2, v1.trans w1, VR.ext w1.v.ext v2, w2⟩
end Go.Fx
/- Code, with summaries of its blocks. -/
namespace Go.Fx
variable {P : Program} {cx : Cx} {ty : Nat → Option TI} {α : Type} {r : α}

/-! ### which objects are meant -/
theorem addIds_spec : ∀ (l acc : List Nat), (∃ ext, addIds acc l = acc ++ ext) ∧ (acc.Nodup → (addIds acc l).Nodup)
  | [], acc => ⟨⟨[], by simp [addIds]⟩, fun h => h⟩
  | i :: t, acc => by
    simp only [addIds]
    cases h : hasId i acc with
    | true => exact addIds_spec t acc
    | false =>
      obtain ⟨⟨ext, h1⟩, h2⟩ := addIds_spec t (acc ++ [i])
      refine ⟨⟨i :: ext, by simp only; rw [h1]; simp⟩, fun hn => h2 ?_⟩
      have hni : i ∉ acc := fun hm => by rw [(hasId_iff i acc).2 hm] at h; cases h
      rw [List.nodup_append]
      refine ⟨hn, by simp, fun a ha b hb => ?_⟩
      simp at hb
      subst hb
      rintro rfl
      exact hni ha

theorem reach_spec (hp : List Ob) : ∀ (n : Nat) (acc : List Nat), (∃ ext, reach n acc hp = acc ++ ext) ∧ (acc.Nodup → (reach n acc hp).Nodup)
  | 0, acc => ⟨⟨[], by simp [reach]⟩, fun h => h⟩
  | n + 1, acc => by
    simp only [reach]
    obtain ⟨⟨e1, h1⟩, h2⟩ := addIds_spec (acc.flatMap (obIds hp)) acc
    obtain ⟨⟨e2, h3⟩, h4⟩ := reach_spec hp n (addIds acc (acc.flatMap (obIds hp)))
    exact ⟨⟨e1 ++ e2, by rw [h3, h1]; simp⟩, fun hn => h4 (h2 hn)⟩

theorem ids_spec (n0 n : Nat) (l : List Nat) (hp : List Ob) : (∀ j, j < n0 → (reach n (addIds (List.range n0) l) hp)[j]? = some j) ∧ (reach n (addIds (List.range n0) l) hp).Nodup := by
  obtain ⟨⟨e1, h1⟩, h2⟩ := addIds_spec l (List.range n0)
  obtain ⟨⟨e2, h3⟩, h4⟩ := reach_spec hp n (addIds (List.range n0) l)
  refine ⟨fun j hj => ?_, h4 (h2 List.nodup_range)⟩
  rw [h3, h1, List.append_assoc, List.getElem?_append_left (by simpa using hj)]
  simp [hj]

theorem nodup_get {l : List Nat} (h : l.Nodup) {i j a : Nat} (hi : l[i]? = some a) (hj : l[j]? = some a) : i = j := by
  obtain ⟨h1, h2⟩ := List.getElem?_eq_some_iff.1 hi
  obtain ⟨h3, h4⟩ := List.getElem?_eq_some_iff.1 hj
  rcases Nat.lt_trichotomy i j with hlt | he | hgt
  · exact absurd (h2.trans h4.symm) (List.pairwise_iff_getElem.1 h i j h1 h3 hlt)
  · exact he
  · exact absurd (h4.trans h2.symm) (List.pairwise_iff_getElem.1 h j i h3 h1 hgt)

/-- The objects that are meant, under numbers of their own. -/
theorem RelH.pick {g : Beg} {ι : Nat → Pl} {hp : List Ob} {w : World} {ids : List Nat} (h : RelH g ι hp w) (h1 : ∀ j, j < g.h0.length → ids[j]? = some j) (h2 : ids.Nodup) :
    RelH g (fun j => match ids[j]? with | some i => ι i | none => .off) (Go.Fx.pick hp (fun i => idx i ids) false ids) w := by
  obtain ⟨hh, hcor⟩ := pick_HR (ro := false) h.heap (fun i => idx i ids) (fun i j hij => idx_get hij)
  have hget : ∀ (j : Nat) (oj : Ob), (Go.Fx.pick hp (fun i => idx i ids) false ids)[j]? = some oj → oj.live → ∃ i oi, ids[j]? = some i ∧ hp[i]? = some oi ∧ oj.own = oi.own ∧ shpOb oj = shpOb oi := by
    intro j oj hj hl
    rw [pick_eq, List.getElem?_map] at hj
    cases hi : ids[j]? with
    | none => simp [hi] at hj
    | some i =>
      simp [hi] at hj
      subst hj
      unfold pickOb at hl ⊢
      cases ho : hp[i]? with
      | none => rw [ho] at hl; exact absurd rfl hl
      | some oi => exact ⟨i, oi, rfl, ho, own_ren _ oi, shpOb_ren _ oi⟩
  refine ⟨trivial, rfl, hh, ?_, fun id hid => ?_, fun id ob ho => ?_, h.os, h.tape, h.output, h.size, h.block, ?_⟩
  · intro i j oi oj b base room b' base' room' hi hj hij hown hli hlj hon hon'
    obtain ⟨a, oa, a1, a2, a3, a4⟩ := hget i oi hi hli
    obtain ⟨c, oc, c1, c2, c3, c4⟩ := hget j oj hj hlj
    simp only [a1] at hon
    simp only [c1] at hon'
    exact h.inj a c oa oc b base room b' base' room' a2 c2 (fun e => hij (nodup_get h2 a1 (e ▸ c1))) (by rw [← a3]; exact hown) (by unfold Ob.live; rw [← a4]; exact hli) (by unfold Ob.live; rw [← c4]; exact hlj) hon hon'
  · simp only [h1 id hid]; exact h.keep id hid
  · have hlt : id < g.h0.length := (List.getElem?_eq_some_iff.1 ho).1
    obtain ⟨ob', g1, g2, g3⟩ := h.flag id ob ho
    refine ⟨ob'.ren (fun i => idx i ids), ?_, by rw [own_ren]; exact g2, by rw [shpOb_ren]; exact g3⟩
    simp only
    simp only at g1
    rw [pick_eq, List.getElem?_map, h1 id hlt]
    simp [pickOb, g1]
  · intro id ob b base room hid ho hl hon
    obtain ⟨a, oa, a1, a2, a3, a4⟩ := hget id ob ho hl
    simp only [a1] at hon
    refine h.fresh a oa b base room ?_ a2 (by unfold Ob.live; rw [← a4]; exact hl) hon
    rcases Nat.lt_or_ge a g.h0.length with hlt | hge
    · have := nodup_get h2 (h1 a hlt) a1
      omega
    · exact hge

theorem setAll_F2 {ι : Nat → Pl} {S : Nat → Shp} : ∀ (live : List Nat) (vals sl : List V) (cs : List Value), F2 (VR ι S) sl cs → (∀ (j i : Nat) (v : V) (c : Value), live[j]? = some i → vals[j]? = some v → cs[i]? = some c → VR ι S v c) → F2 (VR ι S) (setAll sl live vals) cs
  | [], _, _, _, h, _ => by simpa [setAll] using h
  | _ :: _, [], _, _, h, _ => by simpa [setAll] using h
  | i :: is, v :: vs, sl, cs, h, hv => by
    simp only [setAll]
    refine setAll_F2 is vs _ cs ?_ fun j i' v' c h1 h2 h3 => hv (j + 1) i' v' c (by simpa using h1) (by simpa using h2) h3
    cases hc : cs[i]? with
    | some c =>
      have := F2.set (i := i) (hv 0 i v c rfl rfl hc) h
      obtain ⟨h1, h2⟩ := List.getElem?_eq_some_iff.1 hc
      rwa [show cs.set i c = cs by rw [← h2]; exact List.set_getElem_self h1] at this
    | none =>
      rw [List.set_eq_of_length_le (by have := h.length; rw [List.getElem?_eq_none_iff] at hc; omega)]
      exact h

theorem setAll_length : ∀ (live : List Nat) (vals sl : List V), (setAll sl live vals).length = sl.length
  | [], _, _ => by simp [setAll]
  | _ :: _, [], _ => by simp [setAll]
  | i :: is, v :: vs, sl => by simp only [setAll]; rw [setAll_length is vs]; simp

theorem F2.undefs {ι : Nat → Pl} {S : Nat → Shp} : ∀ (cs : List Value), F2 (VR ι S) (List.replicate cs.length (.at .undef)) cs
  | [] => trivial
  | _ :: cs => ⟨trivial, F2.undefs cs⟩

theorem canon_sound {g : Beg} {ι : Nat → Pl} {n0 m : Nat} {out : List Nat} {vs vals : List V} {hp hp' : List Ob} {a : Act} {w : World} (hn0 : g.h0.length = n0) (hc : canon n0 vs hp = (vals, hp')) (h : RelH g ι hp w) (hd : a.defers = [])
    (hm : a.tmps.size = m) (hF : F2 (VR ι (shp hp)) vs (out.map fun i => a.tmps.getD i undef)) :
    ∃ ι', Rel g ι' ⟨framed m out vals, hp'⟩ a w := by
  unfold canon at hc
  simp only [Prod.mk.injEq] at hc
  obtain ⟨hvals, hhp⟩ := hc
  subst hvals; subst hhp
  have hids := ids_spec n0 3 (vs.flatMap V.ids) hp
  generalize reach 3 (addIds (List.range n0) (vs.flatMap V.ids)) hp = ids at hids ⊢
  have hH := h.pick (ids := ids) (by rw [hn0]; exact hids.1) hids.2
  obtain ⟨_, hcor⟩ := pick_HR (ro := false) h.heap (fun i => idx i ids) (fun i j hij => idx_get hij)
  refine ⟨_, hH.rel ?_ hd⟩
  refine setAll_F2 out _ _ _ ?_ ?_
  · subst hm
    rw [← Array.length_toList]
    exact F2.undefs _
  · intro j i v c h1 h2 h3
    rw [List.getElem?_map] at h2
    cases hv : vs[j]? with
    | none => simp [hv] at h2
    | some v0 =>
      simp [hv] at h2
      subst h2
      refine VR.ren hcor ?_
      obtain ⟨c', e1, e2⟩ := hF.get j v0 hv
      rw [List.getElem?_map, h1] at e1
      simp only [Option.map_some, Option.some.injEq] at e1
      rw [Array.getD_eq_getD_getElem?, ← Array.getElem?_toList, h3] at e1
      simp at e1
      rw [e1]
      exact e2

theorem slots_map {ι : Nat → Pl} {S : Nat → Shp} {sl : List V} {a : Act} (h : F2 (VR ι S) sl a.tmps.toList) : ∀ live : List Nat, F2 (VR ι S) (live.map fun i => sl.getD i (.at .void)) (live.map fun i => a.tmps.getD i undef)
  | [] => trivial
  | i :: t => ⟨slots_get h i, slots_map h t⟩

theorem canonV_sound {g : Beg} {ι : Nat → Pl} {n0 m : Nat} {st : St} {live tys : List Nat} {vals : List V} {hp : List Ob} {a : Act} {w : World} (hn0 : g.h0.length = n0) (hm : st.sl.length = m)
    (hc : canonV ty n0 tys (live.map fun i => st.sl.getD i (.at .void)) st.hp = (vals, hp)) (h : Rel g ι st a w) :
    ∃ ι', Rel g ι' ⟨framed m live vals, hp⟩ a w := by
  unfold canonV at hc
  generalize h1 : nilVs ty st.hp tys (live.map fun i => st.sl.getD i (.at .void)) = q at hc
  obtain ⟨vs, hpT⟩ := q
  simp only at hc
  obtain ⟨ιT, hv, hF⟩ := nilVs_E h1 h.heap (slots_map h.slots live)
  exact canon_sound hn0 hc (h.toH.views hv) h.defers (by have := h.slots.length; simp at this; omega) hF

theorem canonO_sound {g : Beg} {ι : Nat → Pl} {n0 m : Nat} {st : St} {out : List Nat} {vals : List V} {hp : List Ob} {a : Act} {w : World} (hn0 : g.h0.length = n0) (hm : st.sl.length = m)
    (hc : canon n0 (out.map fun i => st.sl.getD i (.at .void)) st.hp = (vals, hp)) (h : Rel g ι st a w) :
    ∃ ι', Rel g ι' ⟨framed m out vals, hp⟩ a w :=
  canon_sound hn0 hc h.toH h.defers (by have := h.slots.length; simp at this; omega) (slots_map h.slots out)

/-! ### all code -/
/-- The blocks of this number. -/
def blocks (id : Nat) : Code → List Code
  | .block i b => (match Nat.beq i id with | true => [b] | false => []) ++ blocks id b
  | .seq a b => blocks id a ++ blocks id b
  | .cond _ a b => blocks id a ++ blocks id b
  | .loop b => blocks id b
  | _ => []

/-- A summary tells what its block does. -/
def SmTo (P : Program) (n0 n : Nat) (s : Sm) (id : Nat) (body : Code) : Prop :=
  ∀ (vals : List V) (hp : List Ob) (e : Ex) (vals' : List V) (hp' : List Ob), (∃ q, s.fn vals hp = some q ∧ resOf q = some (e, vals', hp')) → CodeTo P n0 (.block id body) ⟨framed n s.live vals, hp⟩ e ⟨framed n s.out vals', hp'⟩

def SmsOK (P : Program) (cx : Cx) (n0 n : Nat) (c : Code) : Prop := ∀ (id : Nat) (s : Sm) (body : Code), cx.sm id = some s → body ∈ blocks id c → SmTo P n0 n s id body

theorem framed_length {n : Nat} {live : List Nat} {vals : List V} : (framed n live vals).length = n := by
  unfold framed
  rw [setAll_length]; simp

/-- The code does what the evaluator says. -/
theorem evC_sound {n0 n : Nat} (hC : CxOK P cx) (hmix : P.follows .mixedOrders = true) : ∀ (c : Code) (st : St) (k : Ex → St → Option α), SmsOK P cx n0 n c → st.sl.length = n → evC cx n0 c st k = some r →
    ∃ e st', k e st' = some r ∧ st'.sl.length = n ∧ CodeTo P n0 c st e st' := by
  intro c
  induction c generalizing α with
  | skip => intro st k _ hl h; exact ⟨.normal, st, by simpa [evC] using h, hl, fun g ι a w _ hrel Q hQ => wp_skip (hQ ι a w hrel)⟩
  | region id ops draw =>
    intro st k _ hl h
    obtain ⟨st', h1, h2, h3⟩ := region_sound hC hmix h
    exact ⟨_, st', h1, h2.trans hl, h3⟩
  | seq a b iha ihb =>
    intro st k hs hl h
    unfold evC at h
    obtain ⟨e, st1, h1, h2, h3⟩ := iha st _ (fun id s body h1 h2 => hs id s body h1 (by simp [blocks, h2])) hl h
    cases e with
    | normal =>
      obtain ⟨e2, st2, g1, g2, g3⟩ := ihb st1 k (fun id s body h1 h2 => hs id s body h1 (by simp [blocks, h2])) h2 h1
      exact ⟨e2, st2, g1, g2, fun g ι ac w hn0 hrel Q hQ => wp_seq (h3 g ι ac w hn0 hrel _ fun ι' a' w' h' => g3 g ι' a' w' hn0 h' Q hQ)⟩
    | exit id => exact ⟨_, st1, h1, h2, fun g ι ac w hn0 hrel Q hQ => wp_seq (h3 g ι ac w hn0 hrel _ fun ι' a' w' h' => hQ ι' a' w' h')⟩
    | ret => exact ⟨_, st1, h1, h2, fun g ι ac w hn0 hrel Q hQ => wp_seq (h3 g ι ac w hn0 hrel _ fun ι' a' w' h' => hQ ι' a' w' h')⟩
  | cond c x y ihx ihy =>
    intro st k hs hl h
    unfold evC at h
    split at h
    · rename_i t hc
      cases t with
      | true =>
        obtain ⟨e, st1, h1, h2, h3⟩ := ihx st _ (fun id s body h1 h2 => hs id s body h1 (by simp [blocks, h2])) hl h
        refine ⟨e, st1, h1, h2, fun g ι ac w hn0 hrel Q hQ => wp_cond_true ?_ (h3 g ι ac w hn0 hrel Q hQ)⟩
        have := evA_VR hrel.slots c
        rw [hc] at this
        exact this
      | false =>
        obtain ⟨e, st1, h1, h2, h3⟩ := ihy st _ (fun id s body h1 h2 => hs id s body h1 (by simp [blocks, h2])) hl h
        refine ⟨e, st1, h1, h2, fun g ι ac w hn0 hrel Q hQ => wp_cond_false ?_ (h3 g ι ac w hn0 hrel Q hQ)⟩
        have := evA_VR hrel.slots c
        rw [hc] at this
        exact this
    · cases h
  | block id body ih =>
    intro st k hs hl h
    unfold evC at h
    split at h
    · rename_i s hsm
      split at h
      rename_i vals hp hcan
      have done : ∀ e vals' hp', (∃ q, s.fn vals hp = some q ∧ resOf q = some (e, vals', hp')) → k e ⟨framed st.sl.length s.out vals', hp'⟩ = some r →
          ∃ e st', k e st' = some r ∧ st'.sl.length = n ∧ CodeTo P n0 (.block id body) st e st' := by
        intro e vals' hp' hfn h
        have hto := hs id s body hsm (by simp [blocks, Nat.beq_refl]) vals hp e vals' hp' hfn
        refine ⟨e, _, h, by rw [framed_length]; exact hl, fun g ι a w hn0 hrel Q hQ => ?_⟩
        obtain ⟨ι', hrel'⟩ := canonV_sound hn0 hl hcan hrel
        refine hto g ι' a w hn0 hrel' Q fun ι2 a2 w2 h2 => hQ ι2 a2 w2 ?_
        rw [hl]; exact h2
      split at h
      · rename_i ok two e vals' hp' e2 vals2 hp2 hfn
        rw [chk_some] at h
        obtain ⟨rfl, h⟩ := h
        cases two with
        | true => exact done e2 vals2 hp2 ⟨_, hfn, rfl⟩ h
        | false => exact done e vals' hp' ⟨_, hfn, rfl⟩ h
      · cases h
    · obtain ⟨e, st1, h1, h2, h3⟩ := ih st _ (fun id s body h1 h2 => hs id s body h1 (by simp [blocks, h2])) hl h
      cases e with
      | normal => exact ⟨_, st1, h1, h2, fun g ι a w hn0 hrel Q hQ => wp_block (h3 g ι a w hn0 hrel _ fun ι' a' w' h' => hQ ι' a' w' h')⟩
      | ret => exact ⟨_, st1, h1, h2, fun g ι a w hn0 hrel Q hQ => wp_block (h3 g ι a w hn0 hrel _ fun ι' a' w' h' => hQ ι' a' w' h')⟩
      | exit id' =>
        simp only [inBlock] at h1
        cases hb : Nat.beq id' id with
        | true =>
          rw [hb] at h1
          have := Nat.eq_of_beq_eq_true hb
          subst this
          exact ⟨_, st1, h1, h2, fun g ι a w hn0 hrel Q hQ => wp_block (h3 g ι a w hn0 hrel _ fun ι' a' w' h' => by
            simp only [exOf, Exit.inBlock, if_true]
            exact hQ ι' a' w' h')⟩
        | false =>
          rw [hb] at h1
          have hne : id' ≠ id := fun e => by subst e; rw [Nat.beq_refl] at hb; cases hb
          exact ⟨_, st1, h1, h2, fun g ι a w hn0 hrel Q hQ => wp_block (h3 g ι a w hn0 hrel _ fun ι' a' w' h' => by
            simp only [exOf, Exit.inBlock, hne, if_false]
            exact hQ ι' a' w' h')⟩
  | loop body ih =>
    intro st k hs hl h
    unfold evC at h
    have hs' : SmsOK P cx n0 n body := fun id s b h1 h2 => hs id s b h1 (by simpa [blocks] using h2)
    have key : ∀ (un : Nat) (st : St), st.sl.length = n → evLoop (evC cx n0 body) un st k = some r →
        ∃ e st', k e st' = some r ∧ st'.sl.length = n ∧ ∀ (g : Beg) (ι : Nat → Pl) (a : Act) (w : World), g.h0.length = n0 → Rel g ι st a w → ∀ Q : Exit → Act → World → Prop, (∀ ι' a' w', Rel g ι' st' a' w' → Q (exOf e) a' w') → Code.rounds P body Q un a w := by
      intro un
      induction un with
      | zero => intro st hl h; simp [evLoop] at h
      | succ un ihu =>
        intro st hl h
        unfold evLoop at h
        obtain ⟨e, st1, h1, h2, h3⟩ := ih st _ hs' hl h
        cases e with
        | normal =>
          obtain ⟨e2, st2, g1, g2, g3⟩ := ihu st1 h2 h1
          exact ⟨e2, st2, g1, g2, fun g ι a w hn0 hrel Q hQ => by
            rw [rounds_succ]
            exact h3 g ι a w hn0 hrel _ fun ι' a' w' h' => g3 g ι' a' w' hn0 h' Q hQ⟩
        | exit id => exact ⟨_, st1, h1, h2, fun g ι a w hn0 hrel Q hQ => by rw [rounds_succ]; exact h3 g ι a w hn0 hrel _ fun ι' a' w' h' => hQ ι' a' w' h'⟩
        | ret => exact ⟨_, st1, h1, h2, fun g ι a w hn0 hrel Q hQ => by rw [rounds_succ]; exact h3 g ι a w hn0 hrel _ fun ι' a' w' h' => hQ ι' a' w' h'⟩
    obtain ⟨e, st', h1, h2, h3⟩ := key _ st hl h
    exact ⟨e, st', h1, h2, fun g ι a w hn0 hrel Q hQ => wp_loop_rounds _ (h3 g ι a w hn0 hrel Q hQ)⟩
  | exit id => intro st k _ hl h; exact ⟨.exit id, st, by simpa [evC] using h, hl, fun g ι a w _ hrel Q hQ => wp_exit (hQ ι a w hrel)⟩
  | ret => intro st k _ hl h; exact ⟨.ret, st, by simpa [evC] using h, hl, fun g ι a w _ hrel Q hQ => wp_ret (hQ ι a w hrel)⟩
  | _ => intro st k _ _ h; simp [evC] at h

/-! ### loops, by their rounds -/
/-- A loop that is a block: what its rounds come to. -/
theorem sm_loop {n0 n id : Nat} {s : Sm} {body : Code} (hC : CxOK P cx) (hmix : P.follows .mixedOrders = true) (hs : SmsOK P cx n0 n body)
    (h : ∀ (vals : List V) (hp : List Ob) q r, s.fn vals hp = some q → resOf q = some r → ∃ fuel, loopOf cx n0 n id s.live s.tys s.out body fuel vals hp = some r) : SmTo P n0 n s id (.loop body) := by
  intro vals hp e vals' hp' ⟨q, hfn, hq⟩
  obtain ⟨fuel, hl⟩ := h vals hp q _ hfn hq
  intro g ι a w hn0 hrel Q hQ
  have key : ∀ (fuel : Nat) (vals : List V) (hp : List Ob), loopOf cx n0 n id s.live s.tys s.out body fuel vals hp = some (e, vals', hp') → ∀ (ι : Nat → Pl) (a : Act) (w : World), Rel g ι ⟨framed n s.live vals, hp⟩ a w →
      Code.rounds P body (Exit.inBlock id Q) fuel a w := by
    intro fuel
    induction fuel with
    | zero => intro vals hp h; simp [loopOf] at h
    | succ fuel ih =>
      intro vals hp hl ι a w hrel
      unfold loopOf at hl
      rw [rounds_succ]
      generalize hr : roundOf cx n0 n id s.live s.tys s.out body vals hp = rr at hl
      cases rr with
      | none => cases hl
      | some q =>
        obtain ⟨go, e1, vs1, h1⟩ := q
        unfold roundOf at hr
        obtain ⟨e2, st2, g1, g2, g3⟩ := evC_sound hC hmix body _ _ hs framed_length hr
        refine g3 g ι a w hn0 hrel _ fun ι' a' w' hr' => ?_
        cases e2 with
        | normal =>
          simp only at g1
          generalize hc : canonV cx.ty n0 s.tys (s.live.map fun i => st2.sl.getD i (.at .void)) st2.hp = q at g1
          obtain ⟨vs, hh⟩ := q
          simp only [Option.some.injEq, Prod.mk.injEq] at g1
          obtain ⟨rfl, rfl, rfl, rfl⟩ := g1
          obtain ⟨ι2, hr2⟩ := canonV_sound hn0 g2 hc hr'
          exact ih _ _ hl ι2 a' w' hr2
        | exit j =>
          simp only at g1
          generalize hc : canon n0 (s.out.map fun i => st2.sl.getD i (.at .void)) st2.hp = q at g1
          obtain ⟨vs, hh⟩ := q
          obtain ⟨ι2, hr2⟩ := canonO_sound hn0 g2 hc hr'
          simp only at g1
          cases hb : Nat.beq j id with
          | true =>
            rw [hb] at g1
            have := Nat.eq_of_beq_eq_true hb
            subst this
            simp only [Option.some.injEq, Prod.mk.injEq] at g1
            obtain ⟨rfl, rfl, rfl, rfl⟩ := g1
            simp only [Option.some.injEq, Prod.mk.injEq] at hl
            obtain ⟨rfl, rfl, rfl⟩ := hl
            simp only [exOf, Exit.then, Exit.inBlock, if_true]
            exact hQ ι2 a' w' hr2
          | false =>
            rw [hb] at g1
            have hne : j ≠ id := fun e => by subst e; rw [Nat.beq_refl] at hb; cases hb
            simp only [Option.some.injEq, Prod.mk.injEq] at g1
            obtain ⟨rfl, rfl, rfl, rfl⟩ := g1
            simp only [Option.some.injEq, Prod.mk.injEq] at hl
            obtain ⟨rfl, rfl, rfl⟩ := hl
            simp only [exOf, Exit.then, Exit.inBlock, hne, if_false]
            exact hQ ι2 a' w' hr2
        | ret =>
          simp only at g1
          generalize hc : canon n0 (s.out.map fun i => st2.sl.getD i (.at .void)) st2.hp = q at g1
          obtain ⟨vs, hh⟩ := q
          obtain ⟨ι2, hr2⟩ := canonO_sound hn0 g2 hc hr'
          simp only [Option.some.injEq, Prod.mk.injEq] at g1
          obtain ⟨rfl, rfl, rfl, rfl⟩ := g1
          simp only [Option.some.injEq, Prod.mk.injEq] at hl
          obtain ⟨rfl, rfl, rfl⟩ := hl
          exact hQ ι2 a' w' hr2
  exact wp_block (wp_loop_rounds _ (key fuel vals hp hl ι a w hrel))
end Go.Fx
/- Functions. -/
namespace Go.Fx
variable {P : Program} {cx : Cx} {ty : Nat → Option TI}

/-! ### results -/
theorem run_mapM {β γ : Type} {f : β → Sem γ} {R : β → γ → Prop} {w : World} {as : Array β} (h : ∀ x ∈ as, ∃ c, (f x).run P w = .ok c w ∧ R x c) : ∃ cs, (as.mapM f).run P w = .ok cs w ∧ F2 R as.toList cs.toList := by
  have key : ∀ l : List β, (∀ x ∈ l, ∃ c, (f x).run P w = .ok c w ∧ R x c) → ∃ cs, (l.mapM f).run P w = .ok cs w ∧ F2 R l cs := by
    intro l
    induction l with
    | nil => intro _; exact ⟨[], rfl, trivial⟩
    | cons x l ih =>
      intro h
      obtain ⟨c, h1, h2⟩ := h x (by simp)
      obtain ⟨cs, g1, g2⟩ := ih fun y hy => h y (by simp [hy])
      exact ⟨c :: cs, by rw [List.mapM_cons]; simp only [Sem.run_bind, h1, Result.andThen_ok, g1, Sem.run_pure], h2, g2⟩
  obtain ⟨cs, h1, h2⟩ := key as.toList (by simpa using h)
  refine ⟨cs.toArray, ?_, by simpa using h2⟩
  rw [Array.mapM_eq_mapM_toList, map_eq_pure_bind]
  simp only [Sem.run_bind, h1, Result.andThen_ok, Sem.run_pure]

/-- What a result variable holds. -/
theorem resV_sound {ι : Nat → Pl} {w : World} {a : Act} {st : St} (hT : TyOK P ty) (hs : F2 (VR ι (shp st.hp)) st.sl a.tmps.toList) (hh : HR ι st.hp w) : ∀ (rs : List ResultVar) (vs : List V), resV ty st rs = some vs →
    F2 (fun (x : ResultVar) (v : V) => ∃ c, ((match x with | .tmp t => pure (a.tmps.getD t undef) | .cell b t => do loadVar t (← asAddr (a.tmps.getD b undef))) : Sem Value).run P w = .ok c w ∧ VR ι (shp st.hp) v c) rs vs := by
  intro rs
  induction rs with
  | nil => intro vs h; simp [resV] at h; subst h; trivial
  | cons x rs ih =>
    intro vs h
    cases x with
    | tmp t =>
      simp only [resV] at h
      split at h
      · rename_i vs' hvs
        simp only [Option.some.injEq] at h
        subst h
        exact ⟨⟨_, rfl, slots_get hs t⟩, ih vs' hvs⟩
      · cases h
    | cell b t =>
      simp only [resV] at h
      split at h
      · rename_i id el off i vs' hx hi hvs
        split at h
        · rename_i ob hob
          split at h
          · rename_i v hl
            simp only [Option.some.injEq] at h
            subst h
            refine ⟨?_, ih vs' hvs⟩
            have hv := slots_get hs b
            rw [hx] at hv
            have hpr : PR ι (shp st.hp) id el off (a.tmps.getD b undef) := hv
            have hoff : ι id ≠ .off := by
              obtain ⟨b, base, room, h1, _⟩ := hpr
              rw [h1]; simp
            obtain ⟨q, h1, h2⟩ := load_sound (P := P) (hT t i hi) (hh id ob hob hoff) (shp_of hob) hpr (v := v) (by cases hd : i.d <;> rw [hd] at hl <;> exact hl)
            obtain ⟨b', base, room, e1, e2, e3⟩ := hpr
            refine ⟨q, ?_, h2⟩
            rw [e2] at h1
            simp only
            rw [e2]
            simpa [Instr.loadAt, Instr.sureAddr, asAddr] using h1
          · cases h
        · cases h
      · cases h

theorem F2.comp {α β γ : Type} {R : α → β → Prop} {S : α → γ → Prop} {T : β → γ → Prop} (h : ∀ a b c, R a b → S a c → T b c) : ∀ {as : List α} {bs : List β} {cs : List γ}, F2 R as bs → F2 S as cs → F2 T bs cs
  | [], [], [], _, _ => trivial
  | _ :: _, _ :: _, _ :: _, ⟨h1, h2⟩, ⟨g1, g2⟩ => ⟨h _ _ _ h1 g1, F2.comp h h2 g2⟩
  | [], _ :: _, _, h, _ => h.elim
  | _ :: _, [], _, h, _ => h.elim
  | [], [], _ :: _, _, h => h.elim
  | _ :: _, _ :: _, [], _, h => h.elim

def wrapC : List Value → Value
  | [c] => c
  | cs => .tuple cs.toArray

theorem results_sound {ι : Nat → Pl} {w : World} {a : Act} {st : St} {fn : Func} {vs : List V} (hT : TyOK P ty) (hs : F2 (VR ι (shp st.hp)) st.sl a.tmps.toList) (hh : HR ι st.hp w) (h : resV ty st fn.results.toList = some vs) :
    ∃ cs : List Value, F2 (VR ι (shp st.hp)) vs cs ∧ (results fn a.tmps).run P w = .ok (wrapC cs) w := by
  have hF := resV_sound hT hs hh fn.results.toList vs h
  obtain ⟨cs, h1, h2⟩ := run_mapM (P := P) (w := w) (as := fn.results) (f := fun x => (match x with | .tmp t => pure (a.tmps.getD t undef) | .cell b t => do loadVar t (← asAddr (a.tmps.getD b undef)) : Sem Value))
    (R := fun x c => ((match x with | .tmp t => pure (a.tmps.getD t undef) | .cell b t => do loadVar t (← asAddr (a.tmps.getD b undef)) : Sem Value)).run P w = .ok c w) (fun x hx => by
      have hm : ∀ {rs : List ResultVar} {vs : List V}, F2 (fun (x : ResultVar) (v : V) => ∃ c, ((match x with | .tmp t => pure (a.tmps.getD t undef) | .cell b t => do loadVar t (← asAddr (a.tmps.getD b undef))) : Sem Value).run P w = .ok c w ∧ VR ι (shp st.hp) v c) rs vs → x ∈ rs →
          ∃ c, ((match x with | .tmp t => pure (a.tmps.getD t undef) | .cell b t => do loadVar t (← asAddr (a.tmps.getD b undef))) : Sem Value).run P w = .ok c w := by
        intro rs
        induction rs with
        | nil => intro vs _ hx; cases hx
        | cons y rs ih =>
          intro vs hF hx
          cases vs with
          | nil => exact hF.elim
          | cons v vs =>
            obtain ⟨⟨c, hc, _⟩, hr⟩ := hF
            cases hx with
            | head => exact ⟨c, hc⟩
            | tail _ hx => exact ih hr hx
      obtain ⟨c, hc⟩ := hm hF (by simpa using hx)
      exact ⟨c, hc, hc⟩)
  refine ⟨cs.toList, F2.comp (fun x v c hv hc => ?_) hF h2, ?_⟩
  · obtain ⟨c', e1, e2⟩ := hv
    rw [hc] at e1
    cases e1
    exact e2
  · have e : results fn a.tmps = (do
        let vs ← fn.results.mapM fun x => (match x with | .tmp t => pure (a.tmps.getD t undef) | .cell b t => do loadVar t (← asAddr (a.tmps.getD b undef)) : Sem Value)
        pure (if h : vs.size = 1 then vs[0] else .tuple vs)) := rfl
    rw [e]
    simp only [Sem.run_bind, h1, Result.andThen_ok, Sem.run_pure]
    congr 1
    obtain ⟨l⟩ := cs
    match l with
    | [] => rfl
    | [c] => rfl
    | _ :: _ :: _ => rfl
end Go.Fx
/- Functions: the evaluator's answer is the call's. -/
namespace Go.Fx
variable {P : Program} {cx : Cx}

def roB : List Ob → Bool
  | [] => true
  | ob :: t => match ob.own with
    | true => false
    | false => roB t

theorem roB_get : ∀ {h : List Ob}, roB h = true → ∀ (id : Nat) (ob : Ob), h[id]? = some ob → ob.own = false
  | [], _, id, ob, hi => by simp at hi
  | o :: t, hr, 0, ob, hi => by
    simp at hi; subst hi
    cases ho : o.own with
    | false => rfl
    | true => simp [roB, ho] at hr
  | o :: t, hr, id + 1, ob, hi => by
    simp at hi
    cases ho : o.own with
    | false => simp [roB, ho] at hr; exact roB_get hr id ob hi
    | true => simp [roB, ho] at hr

theorem toT_TR {ι : Nat → Pl} {S : Nat → Shp} {v : V} {c : Value} (h : VR ι S v c) : TR ι S (toT v) c := by
  cases v with
  | «at» a => exact h
  | agg as => exact h
  | tup xs => trivial

theorem toT_list {ι : Nat → Pl} {S : Nat → Shp} : ∀ {vs : List V} {cs : List Value}, F2 (VR ι S) vs cs → F2 (TR ι S) (vs.map toT) cs
  | [], [], _ => trivial
  | _ :: _, _ :: _, ⟨h1, h2⟩ => ⟨toT_TR h1, toT_list h2⟩
  | [], _ :: _, h => h.elim
  | _ :: _, [], h => h.elim

theorem wrap_VR {ι : Nat → Pl} {S : Nat → Shp} {vs : List V} {cs : List Value} (h : F2 (VR ι S) vs cs) : VR ι S (wrapV vs) (wrapC cs) := by
  match vs, cs, h with
  | [], [], _ => exact ⟨#[], rfl, trivial⟩
  | [v], [c], ⟨h, _⟩ => exact h
  | v :: v' :: vs, c :: c' :: cs, h => exact ⟨(c :: c' :: cs).toArray, rfl, toT_list h⟩
  | [], _ :: _, h => exact h.elim
  | _ :: _, [], h => exact h.elim
  | [_], _ :: _ :: _, ⟨_, h⟩ => exact h.elim
  | _ :: _ :: _, [_], ⟨_, h⟩ => exact h.elim

/-- What stands at the end of a call. -/
theorem finish_sound {g : Beg} {ι : Nat → Pl} {fn : Func} {eff : Bool} {n0 : Nat} {st : St} {a : Act} {w : World} {ret : Ret} (hC : CxOK P cx) (hn0 : g.h0.length = n0) (h : finish cx fn eff n0 st = some ret) (hrel : Rel g ι st a w) :
    ∃ c ι' h2, (results fn a.tmps).run P w = .ok c w ∧ RelH g ι' h2 w ∧ VR ι' (shp h2) ret.r c ∧ ret.news = h2.drop n0 ∧ ret.upd = updOf eff n0 h2 := by
  unfold finish at h
  split at h
  · cases h
  · rename_i vs hvs
    rw [chk_some] at h
    obtain ⟨hns, h⟩ := h
    have hns : anySub vs = false := by simpa using hns
    split at h
    rename_i vs1 hpT hview
    dsimp only at h
    simp only [Option.some.injEq] at h
    obtain ⟨cs, h1, h2⟩ := results_sound (P := P) (fn := fn) hC.ty hrel.slots hrel.heap hvs
    obtain ⟨ιT, hv, h3⟩ := viewVs_E hview hns hrel.heap h1
    have hH := hrel.toH.views hv
    have hids := ids_spec n0 3 (vs1.flatMap V.ids) hpT
    generalize reach 3 (addIds (List.range n0) (vs1.flatMap V.ids)) hpT = ids at h hids
    have hP := hH.pick (ids := ids) (by rw [hn0]; exact hids.1) hids.2
    obtain ⟨_, hcor⟩ := pick_HR (ro := false) hH.heap (fun i => idx i ids) (fun i j hij => idx_get hij)
    have h4 := F2.ren_list hcor h3
    subst h
    exact ⟨_, _, _, h2, hP, wrap_VR h4, rfl, rfl⟩

theorem init_rel {ι : Nat → Pl} {w : World} {h : List Ob} {args : List V} {cs : Array Value} {fn : Func} (hargs : F2 (VR ι (shp h)) args cs.toList) (hh : HR ι h w) (hinj : INJ ι h) :
    Rel ⟨w, ι, h⟩ ι (initSt fn args h) { tmps := cs ++ Array.replicate (fn.ntmps - cs.size) undef, defers := [] } w := by
  have hl := hargs.length
  simp only [Array.length_toList] at hl
  refine ⟨?_, rfl, hh, hinj, fun _ _ => rfl, fun id ob ho => ⟨ob, ho, rfl, .inl rfl⟩, rfl, rfl, rfl, Nat.le_refl _, fun _ _ _ => rfl, fun id ob b base room h1 h2 => ?_⟩
  · simp only [initSt, Array.toList_append, Array.toList_replicate, hl]
    exact hargs.append (F2.replicate (R := VR ι (shp h)) (a := .at .void) (b := undef) rfl _)
  · simp only [initSt] at h2
    rw [List.getElem?_eq_none h1] at h2; cases h2

/-- A function that changes nothing, by what its code does in each world. -/
theorem holds_of_code {f : FuncId} {fn : Func} {c : Code} {args : List V} {h : List Ob} {r : V} {news : List Ob} (hC : CxOK P cx) (hf : P.funcs[f]? = some fn) (hb : fn.body = some c) (hname : fn.name ≠ "runtime.NumGoroutine")
    (hro : roB h = true) (hcode : ∀ (ι : Nat → Pl) (w : World) (cs : Array Value), F2 (VR ι (shp h)) args cs.toList → HR ι h w → ∃ e st', (match e with | .normal => finish cx fn false h.length st' | .ret => finish cx fn false h.length st' | .exit _ => none) = some ⟨r, none, news⟩ ∧
      ∀ Q : Exit → Act → World → Prop, (∀ ι' a' w', Rel ⟨w, ι, h⟩ ι' st' a' w' → Q (exOf e) a' w') → c.wp P Q { tmps := cs ++ Array.replicate (fn.ntmps - cs.size) undef, defers := [] } w) : Holds P f args h r news := by
  intro ι w cs hargs hh
  have hown := roB_get hro
  obtain ⟨e, st', h1, h3⟩ := hcode ι w cs hargs hh
  have hrun : (callFunc f cs).run P w = .ok (.enter f cs) w := by
    simp [callFunc, hf, hname, hb]
  unfold CallsV
  rw [hrun]
  simp only
  have hmine : ∀ k, ¬ (Beg.mine ⟨w, ι, h⟩ k) := fun k ⟨id, ob, base, room, g1, g2, _⟩ => by rw [hown id ob g1] at g2; cases g2
  -- at the end
  have key : ∀ ι' a' w', Rel ⟨w, ι, h⟩ ι' st' a' w' → finish cx fn false h.length st' = some ⟨r, none, news⟩ →
      a'.defers = [] ∧ ∃ v, (results fn a'.tmps).run P w' = .ok v w' ∧ ∃ c', Ending.returned v = Ending.returned c' ∧ ∃ ι'', Grow ι ι'' h news w w' ∧ VR ι'' (shp (h ++ news)) r c' ∧ HR ι'' (h ++ news) w' := by
    intro ι' a' w' hr hfin
    obtain ⟨c', ι2, h2', g1, g2, g3, g4, _⟩ := finish_sound (g := ⟨w, ι, h⟩) (n0 := h.length) hC rfl hfin hr
    simp only at g3 g4
    refine ⟨hr.defers, c', g1, c', rfl, ι2, ?_⟩
    have hlen : h.length ≤ h2'.length := g2.len
    have hkeep : ∀ id, id < h.length → ι2 id = ι id := g2.keep
    have hget : ∀ id, h.length ≤ id → (h ++ news)[id]? = h2'[id]? := fun id hid => by
      rw [List.getElem?_append_right hid, g4, List.getElem?_drop]; congr 1; omega
    have hshp : ∀ id, shp h2' id ≠ .no → shp (h ++ news) id = shp h2' id := fun id hn => by
      rcases Nat.lt_or_ge id h.length with hl | hl
      · rw [shp_append_lt hl]
        obtain ⟨ob', e1, _, e3⟩ := g2.flag id _ (List.getElem?_eq_getElem hl)
        simp only at e1
        rw [shp_of e1] at hn ⊢
        rcases e3 with e3 | e3
        · rw [e3, shp_of (List.getElem?_eq_getElem hl)]
        · exact absurd e3 hn
      · unfold shp; rw [hget id hl]
    have hwx : WX w w' := ⟨g2.os, g2.tape, g2.output, g2.size, fun k hk => g2.block k hk (hmine k)⟩
    refine ⟨⟨hkeep, hwx, fun i oi b base room hi ho hl hon => ?_, fun i j oi oj b base room b' base' room' hi hj hij ho ho' hown' hl hl' hon hon' => ?_⟩, VR.ext (fun id hn => ⟨rfl, hshp id hn⟩) g3, fun id ob ho hoff => ?_⟩
    · rw [hget i hi] at ho
      rcases g2.fresh i oi b base room hi ho hl hon with h | h
      · exact h
      · exact absurd h (hmine b)
    · rw [hget i hi] at ho
      rw [hget j hj] at ho'
      exact g2.inj i j oi oj b base room b' base' room' ho ho' hij hown' hl hl' hon hon'
    · rcases Nat.lt_or_ge id h.length with hl | hl
      · rw [List.getElem?_append_left hl] at ho
        rw [hkeep id hl] at hoff
        exact (hh id ob ho hoff).ext (fun id' hn => ⟨hkeep id' (shp_lt hn), shp_append_lt (shp_lt hn)⟩) (hkeep id hl) (fun b _ _ _ hb => hwx.block b hb)
      · rw [hget id hl] at ho
        exact (g2.heap id ob ho hoff).ext (fun id' hn => ⟨rfl, hshp id' hn⟩) rfl (fun _ _ _ _ _ => rfl)
  refine calls_of_wp hf hb (h3 _ fun ι' a' w' hr => ?_)
  cases e with
  | normal => exact key ι' a' w' hr h1
  | ret => exact key ι' a' w' hr h1
  | exit id => cases h1

/-- A function that changes nothing. -/
theorem holds_of_ev {f : FuncId} {fn : Func} {c : Code} {args : List V} {h : List Ob} {r : V} {news : List Ob} (hC : CxOK P cx) (hmix : P.follows .mixedOrders = true) (hf : P.funcs[f]? = some fn) (hb : fn.body = some c) (hname : fn.name ≠ "runtime.NumGoroutine")
    (hsm : SmsOK P cx h.length (args.length + (fn.ntmps - args.length)) c) (hro : roB h = true) (hev : evFn cx fn false args h = some ⟨r, none, news⟩) : Holds P f args h r news := by
  have hown := roB_get hro
  unfold evFn at hev
  rw [hb] at hev
  simp only at hev
  obtain ⟨e, st', h1, h2, h3⟩ := evC_sound hC hmix c (initSt fn args h) _ hsm (by simp [initSt]) hev
  refine holds_of_code hC hf hb hname hro fun ι w cs hargs hh => ⟨e, st', h1, fun Q hQ => ?_⟩
  have hinj : INJ ι h := fun i j oi oj b base room b' base' room' hi hj hij hoi => by rw [hown i oi hi] at hoi; cases hoi
  exact h3 ⟨w, ι, h⟩ ι _ w rfl (init_rel (fn := fn) hargs hh hinj) Q hQ

/-- A function that begins by asking whether its slice is nil: both answers are looked at. -/
theorem holds_of_nilcmp {f : FuncId} {fn : Func} {o0 o1 o2 : Oper} {i0 i1 t : Nat} {cnd rest : Code} {ks : List K} {x : List (List Int)} {r : V} {news : List Ob} (hC : CxOK P cx) (hmix : P.follows .mixedOrders = true) (hf : P.funcs[f]? = some fn)
    (hb : fn.body = some (.seq (.region i0 #[o0] false) (.seq (.seq (.region i1 #[o1, o2] false) cnd) rest))) (hname : fn.name ≠ "runtime.NumGoroutine") (hn : fn.ntmps = 8)
    (h0 : o0.dst = some 2 ∧ o0.op = .assign (.const (.slice none 0 0)) ∧ o0.guard = none) (h1 : o1.dst = some 3 ∧ o1.op = .move (.tmp 0) ∧ o1.guard = none)
    (h2 : o2.dst = some 4 ∧ o2.op = .binOp .eql t (.tmp 3) (.const (.slice none 0 0)) t ∧ o2.guard = none) (ht : ∃ e, P.underlying t = some (.slice e))
    (hsm : SmsOK P cx 1 8 (.seq cnd rest))
    (hev : ∀ b : Bool, (b = true → x = []) → evC cx 1 (.seq cnd rest) ⟨[.at (.sl 0), .at .void, .at .nil, .at (.sl 0), .at (.bool b), .at .void, .at .void, .at .void], [⟨false, .rows ks x⟩]⟩ (fun e st => match e with | .normal => finish cx fn false 1 st | .ret => finish cx fn false 1 st | .exit _ => none) = some ⟨r, none, news⟩) :
    Holds P f [.at (.sl 0)] [⟨false, .rows ks x⟩] r news := by
  -- which of both it is
  have hsplit : ∀ (ι : Nat → Pl) (c : Value), AR ι (shp [⟨false, .rows ks x⟩]) (.sl 0) c → ∃ a n cap, c = .slice a n cap ∧ (a.isNone = true → x = []) := by
    intro ι c hc
    obtain ⟨ks', n, hs, hc⟩ := hc
    simp [shp, shpOb] at hs
    obtain ⟨rfl, rfl⟩ := hs
    rcases hc with ⟨_, hn0, a, rfl⟩ | ⟨b, base, room, cap, _, rfl, _⟩
    · exact ⟨a, 0, 0, rfl, fun _ => List.eq_nil_of_length_eq_zero hn0⟩
    · exact ⟨_, _, _, rfl, fun h => by simp at h⟩
  refine holds_of_code hC hf hb hname rfl fun ι w cs hargs hh => ?_
  obtain ⟨l⟩ := cs
  match l, hargs with
  | [c], ⟨hc, _⟩ =>
    obtain ⟨a, n, cap, rfl, hx⟩ := hsplit ι c hc
    have hb2 := hev a.isNone hx
    have key : ∃ e st', (match e with | .normal => finish cx fn false 1 st' | .ret => finish cx fn false 1 st' | .exit _ => none) = some ⟨r, none, news⟩ ∧ ∀ (g : Beg) (ι : Nat → Pl) (ac : Act) (w : World), g.h0.length = 1 →
        Rel g ι ⟨[.at (.sl 0), .at .void, .at .nil, .at (.sl 0), .at (.bool a.isNone), .at .void, .at .void, .at .void], [⟨false, .rows ks x⟩]⟩ ac w → ∀ Q : Exit → Act → World → Prop, (∀ ι' a' w', Rel g ι' st' a' w' → Q (exOf e) a' w') → cnd.wp P (Exit.then (rest.wp P Q) Q) ac w := by
      unfold evC at hb2
      obtain ⟨e1, st1, g1, g2, g3⟩ := evC_sound (n := 8) hC hmix cnd _ _ (fun id s body h1 h2 => hsm id s body h1 (by simp [blocks, h2])) rfl hb2
      cases e1 with
      | normal =>
        obtain ⟨e2, st2, k1, k2, k3⟩ := evC_sound hC hmix rest _ _ (fun id s body h1 h2 => hsm id s body h1 (by simp [blocks, h2])) g2 g1
        exact ⟨e2, st2, k1, fun g ι ac w hg hr Q hQ => g3 g ι ac w hg hr _ fun ι' a' w' h' => k3 g ι' a' w' hg h' Q hQ⟩
      | exit id => exact ⟨.exit id, st1, g1, fun g ι ac w hg hr Q hQ => g3 g ι ac w hg hr _ fun ι' a' w' h' => hQ ι' a' w' h'⟩
      | ret => exact ⟨.ret, st1, g1, fun g ι ac w hg hr Q hQ => g3 g ι ac w hg hr _ fun ι' a' w' h' => hQ ι' a' w' h'⟩
    obtain ⟨e, st', g1, g3⟩ := key
    refine ⟨e, st', g1, fun Q hQ => ?_⟩
    have hinj : INJ ι [⟨false, .rows ks x⟩] := fun i j oi oj b base room b' base' room' hi hj hij hoi => by
      have := roB_get (h := [⟨false, .rows ks x⟩]) rfl i oi hi
      rw [this] at hoi; cases hoi
    have hrel := init_rel (fn := fn) (args := [.at (.sl 0)]) (cs := #[.slice a n cap]) ⟨hc, trivial⟩ hh hinj
    obtain ⟨e0, ht⟩ := ht
    have hq := run_eql_slice_nil (P := P) w t e0 a n cap ht
    refine wp_seq (wp_region_list ?_)
    unfold wpList
    rw [if_pos (by simp [Region.wanted, h0.2.2])]
    left
    unfold Oper.wp
    have r0 : ∀ ev, (execOp ev o0).run P w = .ok (.value (ev (.const (.slice none 0 0)))) w := fun ev => by simp [execOp, h0.2.1]
    rw [r0, Oper.upon_value]
    unfold wpList
    refine wp_seq (wp_seq (wp_region_list ?_))
    unfold wpList
    rw [if_pos (by simp [Region.wanted, h1.2.2])]
    left
    unfold Oper.wp
    have r1 : ∀ ev, (execOp ev o1).run P w = .ok (.value (ev (.tmp 0))) w := fun ev => by simp [execOp, h1.2.1]
    rw [r1, Oper.upon_value]
    unfold wpList
    rw [if_pos (by simp [Region.wanted, h2.2.2])]
    left
    unfold Oper.wp
    have r2 : ∀ ev : Operand → Value, ev (.tmp 3) = .slice a n cap → ev (.const (.slice none 0 0)) = .slice none 0 0 → (execOp ev o2).run P w = .ok (.value (.bool a.isNone)) w := fun ev e1 e2 => by simp [execOp, h2.2.1, e1, e2, hq, show eqGuard .eql t (.tmp 3) (.const (.slice none 0 0)) (.slice a n cap) (.slice none 0 0) = pure () from rfl]
    rw [r2 _ (by simp [Act.eval, Act.put, h0.1, h1.1, hn]) rfl, Oper.upon_value]
    unfold wpList
    refine g3 ⟨w, ι, _⟩ ι _ w rfl ⟨?_, by simp [put_defers], hrel.heap, hrel.inj, hrel.keep, hrel.flag, hrel.os, hrel.tape, hrel.output, hrel.size, hrel.block, hrel.fresh⟩ Q hQ
    simp only [Act.put, h0.1, h1.1, h2.1, hn]
    exact ⟨hc, rfl, ⟨_, rfl⟩, hc, rfl, rfl, rfl, rfl, trivial⟩
  | [], h => exact h.elim
  | _ :: _ :: _, ⟨_, h⟩ => exact h.elim

theorem take_upd {n0 : Nat} {h2 upd news : List Ob} (h1 : upd = h2.take n0) (h3 : news = h2.drop n0) : upd ++ news = h2 := by subst h1; subst h3; exact List.take_append_drop n0 h2

/-- A function that may change its arguments. -/
theorem holdsE_of_ev {f : FuncId} {fn : Func} {c : Code} {args : List V} {h : List Ob} {r : V} {upd news : List Ob} (hC : CxOK P cx) (hmix : P.follows .mixedOrders = true) (hf : P.funcs[f]? = some fn) (hb : fn.body = some c) (hname : fn.name ≠ "runtime.NumGoroutine")
    (hsm : SmsOK P cx h.length (args.length + (fn.ntmps - args.length)) c) (hev : evFn cx fn true args h = some ⟨r, some upd, news⟩) : HoldsE P f args h r upd news := by
  intro ι w cs hargs hh hinj
  unfold evFn at hev
  rw [hb] at hev
  simp only at hev
  obtain ⟨e, st', h1, h2, h3⟩ := evC_sound hC hmix c (initSt fn args h) _ hsm (by simp [initSt]) hev
  have hrun : (callFunc f cs).run P w = .ok (.enter f cs) w := by
    simp [callFunc, hf, hname, hb]
  unfold CallsV
  rw [hrun]
  simp only
  have hrel := init_rel (fn := fn) hargs hh hinj
  have key : ∀ ι' a' w', Rel ⟨w, ι, h⟩ ι' st' a' w' → finish cx fn true h.length st' = some ⟨r, some upd, news⟩ →
      a'.defers = [] ∧ ∃ v, (results fn a'.tmps).run P w' = .ok v w' ∧ ∃ c', Ending.returned v = Ending.returned c' ∧ ∃ ι'', RelH ⟨w, ι, h⟩ ι'' (upd ++ news) w' ∧ VR ι'' (shp (upd ++ news)) r c' := by
    intro ι' a' w' hr hfin
    obtain ⟨c', ι2, h2', g1, g2, g3, g4, g5⟩ := finish_sound (g := ⟨w, ι, h⟩) (n0 := h.length) hC rfl hfin hr
    simp only [updOf, Option.some.injEq] at g3 g4 g5
    have := take_upd g5 g4
    rw [this]
    exact ⟨hr.defers, c', g1, c', rfl, ι2, g2, g3⟩
  refine calls_of_wp hf hb (h3 ⟨w, ι, h⟩ ι _ w rfl hrel _ fun ι' a' w' hr => ?_)
  cases e with
  | normal => exact key ι' a' w' hr h1
  | ret => exact key ι' a' w' hr h1
  | exit id => cases h1
end Go.Fx
/- Tables: the types, and the callees. -/
namespace Go.Fx
variable {P : Program}

def lookup {β : Type} (t : Nat) : List (Nat × β) → Option β
  | [] => none
  | (i, b) :: r => match Nat.beq t i with
    | true => some b
    | false => lookup t r

theorem lookup_mem {β : Type} {t : Nat} {b : β} : ∀ {l : List (Nat × β)}, lookup t l = some b → (t, b) ∈ l
  | [], h => by simp [lookup] at h
  | (i, c) :: r, h => by
    simp only [lookup] at h
    cases hb : Nat.beq t i with
    | true => rw [hb] at h; simp at h; subst h; rw [Nat.eq_of_beq_eq_true hb]; simp
    | false => rw [hb] at h; exact List.mem_cons_of_mem _ (lookup_mem h)

def A.same : A → A → Bool
  | .undef, .undef => true
  | .nil, .nil => true
  | .bool a, .bool b => a == b
  | .int k n, .int k' m => decide (k = k') && (n == m)
  | .fl k n, .fl k' m => decide (k = k') && (n == m)
  | _, _ => false

theorem A.same_eq {a b : A} (h : A.same a b = true) : a = b := by
  cases a <;> cases b <;> simp [A.same] at h <;> simp [h]

def sameAll : List A → List A → Bool
  | [], [] => true
  | a :: as, b :: bs => A.same a b && sameAll as bs
  | _, _ => false

theorem sameAll_eq : ∀ {as bs : List A}, sameAll as bs = true → as = bs
  | [], [], _ => rfl
  | a :: as, b :: bs, h => by simp [sameAll] at h; rw [A.same_eq h.1, sameAll_eq h.2]
  | [], _ :: _, h => by simp [sameAll] at h
  | _ :: _, [], h => by simp [sameAll] at h

def fieldsB (P : Program) : List Field → List (Nat × Nat) → Bool
  | [], [] => true
  | f :: fs, (o, t) :: r => Nat.beq f.offset o && Nat.beq f.type t && (match P.info? f.type with | some i => Nat.blt 0 i.size | none => false) && fieldsB P fs r
  | _, _ => false

theorem fieldsB_ok : ∀ {fs : List Field} {r : List (Nat × Nat)}, fieldsB P fs r = true → fs.map (fun f => (f.offset, f.type)) = r ∧ ∀ f ∈ fs, ∃ i, P.info? f.type = some i ∧ i.size ≠ 0
  | [], [], _ => ⟨rfl, fun f hf => by cases hf⟩
  | f :: fs, (o, t) :: r, h => by
    simp only [fieldsB, Bool.and_eq_true] at h
    obtain ⟨⟨⟨h1, h2⟩, h3⟩, h4⟩ := h
    obtain ⟨g1, g2⟩ := fieldsB_ok h4
    refine ⟨by simp [g1, Nat.eq_of_beq_eq_true h1, Nat.eq_of_beq_eq_true h2], fun x hx => ?_⟩
    cases hx with
    | head =>
      split at h3
      · rename_i i hi; exact ⟨i, hi, by rw [Nat.blt_eq] at h3; omega⟩
      · cases h3
    | tail _ hx => exact g2 x hx
  | [], _ :: _, h => by simp [fieldsB] at h
  | _ :: _, [], h => by simp [fieldsB] at h

def drB (P : Program) (t : TypeId) : D → Bool
  | .sc (.f k) => (match P.underlying t with | some (.float k') => decide (k = k') | _ => false)
  | .sc (.i k) => (match P.underlying t with | some (.int k') => decide (k = k') | _ => false)
  | .sc .b => (match P.underlying t with | some .bool => true | _ => false)
  | .st fs => (match P.underlying t with | some (.struct fields) => fieldsB P fields.toList fs | _ => false)
  | .ar n e => (match P.underlying t with | some (.array n' e') => Nat.beq n n' && Nat.beq e e' | _ => false)
  | .sl e => (match P.underlying t with | some (.slice e') => Nat.beq e e' | _ => false)
  | .oth => (match P.underlying t with | some (.struct _) => false | some (.array _ _) => false | some _ => true | none => false)

theorem drB_ok {t : TypeId} {d : D} (h : drB P t d = true) : DR P t d := by
  cases d with
  | sc k =>
    cases k <;> simp only [drB] at h <;> split at h
    · rename_i h1; simp at h; subst h; exact h1
    · cases h
    · rename_i h1; simp at h; subst h; exact h1
    · cases h
    · rename_i h1; exact h1
    · cases h
  | st fs =>
    simp only [drB] at h
    split at h
    · rename_i fields h1
      obtain ⟨g1, g2⟩ := fieldsB_ok h
      exact ⟨fields, h1, g1, g2⟩
    · cases h
  | ar n e =>
    simp only [drB] at h
    split at h
    · rename_i n' e' h1
      simp only [Bool.and_eq_true] at h
      rw [Nat.eq_of_beq_eq_true h.1, Nat.eq_of_beq_eq_true h.2]
      exact h1
    · cases h
  | sl e =>
    simp only [drB] at h
    split at h
    · rename_i e' h1
      rw [Nat.eq_of_beq_eq_true h]
      exact h1
    · cases h
  | oth =>
    simp only [drB] at h
    split at h
    · cases h
    · cases h
    · rename_i d h1 h2 h3; exact ⟨d, h3, fun f hf => h1 f (by rw [← hf]), fun n e hf => h2 n e (by rw [← hf])⟩
    · cases h

def tiB (P : Program) (t : TypeId) (i : TI) : Bool :=
  match P.info? t with
  | some inf => match inf.zero with
    | some z => Nat.beq inf.size i.size && Nat.beq inf.bytes i.bytes && sameAll i.zero (z.cells.toList.map conA) && Nat.beq i.zero.length i.size && drB P t i.d && (match i.ks with | some ks => Nat.beq ks.length i.size | none => true)
    | none => false
  | none => false

theorem tiB_ok {t : TypeId} {i : TI} (h : tiB P t i = true) : TIOK P t i := by
  unfold tiB at h
  split at h
  · rename_i inf hinf
    split at h
    · rename_i z hz
      simp only [Bool.and_eq_true] at h
      obtain ⟨⟨⟨⟨⟨h1, h2⟩, h3⟩, h4⟩, h5⟩, h6⟩ := h
      refine ⟨⟨inf, z, hinf, Nat.eq_of_beq_eq_true h1, Nat.eq_of_beq_eq_true h2, hz, ?_⟩, drB_ok h5, fun ks hks => ?_, Nat.eq_of_beq_eq_true h4⟩
      · rw [sameAll_eq h3]
        exact F2.map_self (R := AR0) (fun c ι S => conA_AR ι S c) _
      · rw [hks] at h6
        exact Nat.eq_of_beq_eq_true h6
    · cases h
  · cases h

def tyB (P : Program) : List (Nat × TI) → Bool
  | [] => true
  | (t, i) :: r => match tiB P t i with
    | true => tyB P r
    | false => false

theorem tyB_ok : ∀ {l : List (Nat × TI)}, tyB P l = true → ∀ p ∈ l, TIOK P p.1 p.2
  | [], _, p, hp => by cases hp
  | (t, i) :: r, h, p, hp => by
    simp only [tyB] at h
    cases hb : tiB P t i with
    | false => rw [hb] at h; cases h
    | true =>
      rw [hb] at h
      cases hp with
      | head => exact tiB_ok hb
      | tail _ hp => exact tyB_ok h p hp

theorem tyOK_of {l : List (Nat × TI)} (h : tyB P l = true) : TyOK P (fun t => lookup t l) := fun t i hi => tyB_ok h (t, i) (lookup_mem hi)

/-! ### callees -/
abbrev Con := List V → List Ob → Option (Bool × Ret)

/-- A contract: of a function that changes nothing that is there, or of one that may. -/
def CallOK (P : Program) (f : FuncId) (c : Con) : Prop :=
  (∀ (args : List V) (h : List Ob) (r : V) (news : List Ob), c args h = some (true, ⟨r, none, news⟩) → Holds P f args h r news) ∧
  (∀ (args : List V) (h : List Ob) (r : V) (upd news : List Ob), c args h = some (true, ⟨r, some upd, news⟩) → HoldsE P f args h r upd news)

def tabOf (l : List (Nat × Con)) (f : FuncId) (args : List V) (h : List Ob) : Option (Bool × Ret) :=
  match lookup f l with
  | some c => c args h
  | none => none

/-- A contract of a function that answers in one of two ways. -/
abbrev Con2 := List V → List Ob → Option (Bool × (Bool × Ret) × (Bool × Ret))

def TwoOK (P : Program) (f : FuncId) (c : Con2) : Prop :=
  ∀ (args : List V) (h : List Ob) (b : Bool) (x y : Bool × Ret) (r : V) (news : List Ob), c args h = some (b, x, y) → (bif b then x else y) = (true, ⟨r, none, news⟩) → Holds P f args h r news

def twoOf (l : List (Nat × Con2)) (f : FuncId) (args : List V) (h : List Ob) : Option (Bool × (Bool × Ret) × (Bool × Ret)) :=
  match lookup f l with
  | some c => c args h
  | none => none

/-- The context of an evaluation. -/
def cxS (F : FOps) (tl : List (Nat × TI)) (cl : List (Nat × Con)) (ef : List Nat) (sm : List (Nat × Sm)) (un : Nat) (tw : List (Nat × Con2) := []) : Cx := ⟨F, fun t => lookup t tl, tabOf cl, fun f => hasId f ef, fun b => lookup b sm, un, twoOf tw⟩

theorem cxS_ok2 {tl : List (Nat × TI)} {cl : List (Nat × Con)} {ef : List Nat} {sm : List (Nat × Sm)} {un : Nat} {tw : List (Nat × Con2)} (h : TyOK P fun t => lookup t tl) (hc : ∀ p ∈ cl, CallOK P p.1 p.2) (ht : ∀ p ∈ tw, TwoOK P p.1 p.2) : CxOK P (cxS real tl cl ef sm un tw) := by
  refine ⟨rfl, h, fun f args ho r news hr => ?_, fun f args ho r upd news hr => ?_, fun f args ho b x y r news hr hb => ?_⟩
  · simp only [cxS, tabOf] at hr
    split at hr
    · rename_i c hl
      exact (hc (f, c) (lookup_mem hl)).1 args ho r news hr
    · cases hr
  · simp only [cxS, tabOf] at hr
    split at hr
    · rename_i c hl
      exact (hc (f, c) (lookup_mem hl)).2 args ho r upd news hr
    · cases hr
  · simp only [cxS, twoOf] at hr
    split at hr
    · rename_i c hl
      exact ht (f, c) (lookup_mem hl) args ho b x y r news hr hb
    · cases hr

theorem allTwo_nil : ∀ p ∈ ([] : List (Nat × Con2)), TwoOK P p.1 p.2 := fun p hp => by cases hp
theorem allTwo_cons {f : Nat} {c : Con2} {l : List (Nat × Con2)} (h : TwoOK P f c) (hl : ∀ p ∈ l, TwoOK P p.1 p.2) : ∀ p ∈ (f, c) :: l, TwoOK P p.1 p.2 := fun p hp => by
  cases hp with
  | head => exact h
  | tail _ hp => exact hl p hp

theorem cxS_ok {tl : List (Nat × TI)} {cl : List (Nat × Con)} {ef : List Nat} {sm : List (Nat × Sm)} {un : Nat} (h : TyOK P fun t => lookup t tl) (hc : ∀ p ∈ cl, CallOK P p.1 p.2) : CxOK P (cxS real tl cl ef sm un) := cxS_ok2 h hc allTwo_nil

/-- What is told of a program once. -/
structure ProgOK (P : Program) (tl : List (Nat × TI)) : Prop where
  ty : TyOK P fun t => lookup t tl
  mix : P.follows .mixedOrders = true

/-! ### summaries -/
def codeOf (f : Func) : Code := match f.body with
  | some c => c
  | none => .skip

/-- The code behind its first two parts. -/
def restC : Code → Code
  | .seq _ (.seq (.seq _ c) d) => .seq c d
  | _ => .skip
def cndC : Code → Code
  | .seq _ (.seq (.seq _ c) _) => c
  | _ => .skip
def endC : Code → Code
  | .seq _ (.seq _ d) => d
  | _ => .skip

def opC (k : Nat) : Code → Oper
  | .seq (.region _ a _) (.seq (.seq (.region _ b _) _) _) => (a.toList ++ b.toList).getD k default
  | _ => default

/-- What the loop of this number goes round in. -/
def loopB (id : Nat) (c : Code) : Code := match blocks id c with
  | [.loop b] => b
  | _ => .skip

/-- The summaries of a table tell what their blocks do. -/
def SmL (P : Program) (n0 n : Nat) (c : Code) (l : List (Nat × Sm)) : Prop := ∀ p ∈ l, ∀ body, body ∈ blocks p.1 c → SmTo P n0 n p.2 p.1 body

theorem smL_nil {n0 n : Nat} {c : Code} : SmL P n0 n c [] := fun p hp => by cases hp

theorem smL_cons {n0 n : Nat} {c : Code} {b : Nat} {s : Sm} {l : List (Nat × Sm)} {body : Code} (hb : blocks b c = [body]) (h : SmTo P n0 n s b body) (hl : SmL P n0 n c l) : SmL P n0 n c ((b, s) :: l) := fun p hp body' hm => by
  cases hp with
  | head => simp only at hm; rw [hb] at hm; simp only [List.mem_singleton] at hm; subst hm; exact h
  | tail _ hp => exact hl p hp body' hm

theorem smL_sms {F : FOps} {tl : List (Nat × TI)} {cl : List (Nat × Con)} {ef : List Nat} {sm : List (Nat × Sm)} {un n0 n : Nat} {tw : List (Nat × Con2)} {c : Code} (h : SmL P n0 n c sm) : SmsOK P (cxS F tl cl ef sm un tw) n0 n c := fun id s body hs hm =>
  h (id, s) (lookup_mem hs) body hm

/-- A loop's summary, out of its rounds. -/
theorem smTo_ev {tl : List (Nat × TI)} {cl : List (Nat × Con)} {ef : List Nat} {sm : List (Nat × Sm)} {un n0 n id : Nat} {s : Sm} {body : Code} (hP : ProgOK P tl) (hc : ∀ p ∈ cl, CallOK P p.1 p.2) (hs : SmL P n0 n body sm)
    (h : ∀ (vals : List V) (hp : List Ob) q r, s.fn vals hp = some q → resOf q = some r → ∃ fuel, loopOf (cxS real tl cl ef sm un) n0 n id s.live s.tys s.out body fuel vals hp = some r) : SmTo P n0 n s id (.loop body) :=
  sm_loop (cxS_ok hP.ty hc) hP.mix (smL_sms hs) h

/-- A contract by evaluation. -/
theorem holds_ev {tl : List (Nat × TI)} {cl : List (Nat × Con)} {ef : List Nat} {sm : List (Nat × Sm)} {un : Nat} {f : FuncId} {fn : Func} {c : Code} {args : List V} {h : List Ob} {r : V} {news : List Ob} (hP : ProgOK P tl) (hc : ∀ p ∈ cl, CallOK P p.1 p.2)
    (hf : P.funcs[f]? = some fn) (hb : fn.body = some c) (hname : (fn.name == "runtime.NumGoroutine") = false) (hs : SmL P h.length (args.length + (fn.ntmps - args.length)) c sm) (hro : roB h = true) (hev : evFn (cxS real tl cl ef sm un) fn false args h = some ⟨r, none, news⟩) : Holds P f args h r news :=
  holds_of_ev (cxS_ok hP.ty hc) hP.mix hf hb (by simpa using hname) (smL_sms hs) hro hev

theorem holdsE_ev {tl : List (Nat × TI)} {cl : List (Nat × Con)} {ef : List Nat} {sm : List (Nat × Sm)} {un : Nat} {f : FuncId} {fn : Func} {c : Code} {args : List V} {h : List Ob} {r : V} {upd news : List Ob} (hP : ProgOK P tl) (hc : ∀ p ∈ cl, CallOK P p.1 p.2)
    (hf : P.funcs[f]? = some fn) (hb : fn.body = some c) (hname : (fn.name == "runtime.NumGoroutine") = false) (hs : SmL P h.length (args.length + (fn.ntmps - args.length)) c sm) (hev : evFn (cxS real tl cl ef sm un) fn true args h = some ⟨r, some upd, news⟩) : HoldsE P f args h r upd news :=
  holdsE_of_ev (cxS_ok hP.ty hc) hP.mix hf hb (by simpa using hname) (smL_sms hs) hev

theorem smTo_ev2 {tl : List (Nat × TI)} {cl : List (Nat × Con)} {ef : List Nat} {sm : List (Nat × Sm)} {un n0 n id : Nat} {tw : List (Nat × Con2)} {s : Sm} {body : Code} (hP : ProgOK P tl) (hc : ∀ p ∈ cl, CallOK P p.1 p.2) (ht : ∀ p ∈ tw, TwoOK P p.1 p.2) (hs : SmL P n0 n body sm)
    (h : ∀ (vals : List V) (hp : List Ob) q r, s.fn vals hp = some q → resOf q = some r → ∃ fuel, loopOf (cxS real tl cl ef sm un tw) n0 n id s.live s.tys s.out body fuel vals hp = some r) : SmTo P n0 n s id (.loop body) :=
  sm_loop (cxS_ok2 hP.ty hc ht) hP.mix (smL_sms hs) h

theorem holds_ev2 {tl : List (Nat × TI)} {cl : List (Nat × Con)} {ef : List Nat} {sm : List (Nat × Sm)} {un : Nat} {tw : List (Nat × Con2)} {f : FuncId} {fn : Func} {c : Code} {args : List V} {h : List Ob} {r : V} {news : List Ob} (hP : ProgOK P tl) (hc : ∀ p ∈ cl, CallOK P p.1 p.2) (ht : ∀ p ∈ tw, TwoOK P p.1 p.2)
    (hf : P.funcs[f]? = some fn) (hb : fn.body = some c) (hname : (fn.name == "runtime.NumGoroutine") = false) (hs : SmL P h.length (args.length + (fn.ntmps - args.length)) c sm) (hro : roB h = true) (hev : evFn (cxS real tl cl ef sm un tw) fn false args h = some ⟨r, none, news⟩) : Holds P f args h r news :=
  holds_of_ev (cxS_ok2 hP.ty hc ht) hP.mix hf hb (by simpa using hname) (smL_sms hs) hro hev

theorem holdsE_ev2 {tl : List (Nat × TI)} {cl : List (Nat × Con)} {ef : List Nat} {sm : List (Nat × Sm)} {un : Nat} {tw : List (Nat × Con2)} {f : FuncId} {fn : Func} {c : Code} {args : List V} {h : List Ob} {r : V} {upd news : List Ob} (hP : ProgOK P tl) (hc : ∀ p ∈ cl, CallOK P p.1 p.2) (ht : ∀ p ∈ tw, TwoOK P p.1 p.2)
    (hf : P.funcs[f]? = some fn) (hb : fn.body = some c) (hname : (fn.name == "runtime.NumGoroutine") = false) (hs : SmL P h.length (args.length + (fn.ntmps - args.length)) c sm) (hev : evFn (cxS real tl cl ef sm un tw) fn true args h = some ⟨r, some upd, news⟩) : HoldsE P f args h r upd news :=
  holdsE_of_ev (cxS_ok2 hP.ty hc ht) hP.mix hf hb (by simpa using hname) (smL_sms hs) hev

theorem two_ret {b b' : Bool} {x y x' y' : Bool × Ret} (h : some (b, x, y) = some (b', x', y')) : b' = b ∧ x' = x ∧ y' = y := by
  simp only [Option.some.injEq, Prod.mk.injEq] at h
  exact ⟨h.1.symm, h.2.1.symm, h.2.2.symm⟩

theorem ret_two {ok : Bool} {ret : Ret} {r : V} {news : List Ob} (h : (ok, ret) = (true, (⟨r, none, news⟩ : Ret))) : ok = true ∧ ret = ⟨r, none, news⟩ := by
  simp only [Prod.mk.injEq] at h
  exact h

theorem allOK_nil : ∀ p ∈ ([] : List (Nat × Con)), CallOK P p.1 p.2 := fun p hp => by cases hp
theorem allOK_cons {f : Nat} {c : Con} {l : List (Nat × Con)} (h : CallOK P f c) (hl : ∀ p ∈ l, CallOK P p.1 p.2) : ∀ p ∈ (f, c) :: l, CallOK P p.1 p.2 := fun p hp => by
  cases hp with
  | head => exact h
  | tail _ hp => exact hl p hp

/-- A contract that answers only where its condition holds. -/
theorem callOK_of {f : FuncId} {c : Con} (h : ∀ (args : List V) (h : List Ob) (ret : Ret), c args h = some (true, ret) → match ret.upd with | none => Holds P f args h ret.r ret.news | some upd => HoldsE P f args h ret.r upd ret.news) : CallOK P f c :=
  ⟨fun args ho r news hc => h args ho ⟨r, none, news⟩ hc, fun args ho r upd news hc => h args ho ⟨r, some upd, news⟩ hc⟩

theorem some_ret {ok : Bool} {ret ret' : Ret} (h : some (ok, ret) = some (true, ret')) : ok = true ∧ ret' = ret := by
  simp only [Option.some.injEq, Prod.mk.injEq] at h
  exact ⟨h.1, h.2.symm⟩

/-- Two contracts of one function, told apart by what they are given. -/
def orC (a b : Con) : Con := fun args h => match a args h with
  | some r => some r
  | none => b args h

theorem callOK_or {f : FuncId} {a b : Con} (ha : CallOK P f a) (hb : CallOK P f b) : CallOK P f (orC a b) := by
  refine ⟨fun args h r news hc => ?_, fun args h r upd news hc => ?_⟩ <;> unfold orC at hc <;> split at hc
  · rename_i q hq; rw [hc] at hq; exact ha.1 args h r news hq
  · exact hb.1 args h r news hc
  · rename_i q hq; rw [hc] at hq; exact ha.2 args h r upd news hq
  · exact hb.2 args h r upd news hc

/-! ### how a table is made (used where a text is printed) -/
def leafTys (P : Program) : Nat → TypeId → List TypeId
  | 0, t => [t]
  | n + 1, t => match P.underlying t with
    | some (.struct fs) => fs.toList.flatMap fun f => leafTys P n f.type
    | some (.array k e) => (List.replicate k ()).flatMap fun _ => leafTys P n e
    | _ => [t]

def kindOf (P : Program) (t : TypeId) : Option K :=
  match P.underlying t with
  | some (.float k) => some (.f k)
  | some (.int k) => some (.i k)
  | some .bool => some .b
  | _ => none

def kindsOf (P : Program) (t : TypeId) : Option (List K) := (leafTys P 4 t).mapM (kindOf P)

def mkTI (P : Program) (t : TypeId) : Option TI :=
  match P.info? t with
  | some inf => match inf.zero, P.underlying t with
    | some z, some d => some {
        size := inf.size, bytes := inf.bytes
        d := match d with
          | .float k => .sc (.f k) | .int k => .sc (.i k) | .bool => .sc .b
          | .struct fs => .st (fs.toList.map fun f => (f.offset, f.type))
          | .array n e => .ar n e
          | .slice e => .sl e
          | _ => .oth
        ks := kindsOf P t
        lks := (leafTys P 4 t).map fun t => match P.underlying t with | some (.slice e) => kindsOf P e | _ => none
        zero := z.cells.toList.map conA }
    | _, _ => none
  | none => none
end Go.Fx
/- Functions of the library that have no body. -/
namespace Go.Fx
variable {P : Program}

theorem holds_ext {f : FuncId} {fn : Func} {e : Array Value → Sem Value} {args : List V} {r : V} (hf : P.funcs[f]? = some fn) (hb : fn.body = none) (hname : (fn.name == "runtime.NumGoroutine") = false) (h1 : Extern.findNext fn = none) (h2 : Extern.find fn = some e)
    (he : ∀ (w : World) (cs : Array Value), (∀ ι S, F2 (VR ι S) args cs.toList → ∃ c n, (e cs).run P w = .ok c (w.drewN n) ∧ VR ι S r c)) : Holds P f args [] r [] := by
  intro ι w cs hargs hh
  obtain ⟨c, n, hr, hv⟩ := he w cs ι _ hargs
  have hn : fn.name ≠ "runtime.NumGoroutine" := by simpa using hname
  have hrun : (callFunc f cs).run P w = .ok (.value c) (w.drewN n) := by
    simp [callFunc, hf, hn, hb, h1, h2, run_mark, hr]
  unfold CallsV
  rw [hrun]
  exact ⟨ι, Grow.none (WX.drewN w n), hv, hh.wx (WX.drewN w n)⟩

theorem ext_bits32 {f : FuncId} {fn : Func} (hf : P.funcs[f]? = some fn) (hb : fn.body = none) (hname : (fn.name == "runtime.NumGoroutine") = false) (h1 : Extern.findNext fn = none) (h2 : Extern.find fn = some Extern.MathFloatBits.float32bits) (x : Int) :
    Holds P f [.at (.fl .f32 x)] [] (.at (.raw .f32 x)) [] := by
  refine holds_ext hf hb hname h1 h2 fun w cs ι S h => ?_
  obtain ⟨l⟩ := cs
  match l, h with
  | [c], ⟨⟨b, hc, hx⟩, _⟩ => subst hc; exact ⟨.int .u32 b, 0, rfl, b, rfl, hx⟩
  | [], h => exact h.elim
  | _ :: _ :: _, ⟨_, h⟩ => exact h.elim

theorem ext_bits64 {f : FuncId} {fn : Func} (hf : P.funcs[f]? = some fn) (hb : fn.body = none) (hname : (fn.name == "runtime.NumGoroutine") = false) (h1 : Extern.findNext fn = none) (h2 : Extern.find fn = some Extern.MathFloatBits.float64bits) (x : Int) :
    Holds P f [.at (.fl .f64 x)] [] (.at (.raw .f64 x)) [] := by
  refine holds_ext hf hb hname h1 h2 fun w cs ι S h => ?_
  obtain ⟨l⟩ := cs
  match l, h with
  | [c], ⟨⟨b, hc, hx⟩, _⟩ => subst hc; exact ⟨.int .u64 b, 0, rfl, b, rfl, hx⟩
  | [], h => exact h.elim
  | _ :: _ :: _, ⟨_, h⟩ => exact h.elim

theorem ext_from32 {f : FuncId} {fn : Func} (hf : P.funcs[f]? = some fn) (hb : fn.body = none) (hname : (fn.name == "runtime.NumGoroutine") = false) (h1 : Extern.findNext fn = none) (h2 : Extern.find fn = some Extern.MathFloatBits.float32frombits) (x : Int) :
    Holds P f [.at (.raw .f32 x)] [] (.at (.fl .f32 x)) [] := by
  refine holds_ext hf hb hname h1 h2 fun w cs ι S h => ?_
  obtain ⟨l⟩ := cs
  match l, h with
  | [c], ⟨⟨b, hc, hx⟩, _⟩ => subst hc; exact ⟨.float .f32 b, 0, rfl, b, rfl, hx⟩
  | [], h => exact h.elim
  | _ :: _ :: _, ⟨_, h⟩ => exact h.elim

theorem ext_from64 {f : FuncId} {fn : Func} (hf : P.funcs[f]? = some fn) (hb : fn.body = none) (hname : (fn.name == "runtime.NumGoroutine") = false) (h1 : Extern.findNext fn = none) (h2 : Extern.find fn = some Extern.MathFloatBits.float64frombits) (x : Int) :
    Holds P f [.at (.raw .f64 x)] [] (.at (.fl .f64 x)) [] := by
  refine holds_ext hf hb hname h1 h2 fun w cs ι S h => ?_
  obtain ⟨l⟩ := cs
  match l, h with
  | [c], ⟨⟨b, hc, hx⟩, _⟩ => subst hc; exact ⟨.float .f64 b, 0, rfl, b, rfl, hx⟩
  | [], h => exact h.elim
  | _ :: _ :: _, ⟨_, h⟩ => exact h.elim

theorem ext_from64i {f : FuncId} {fn : Func} (hf : P.funcs[f]? = some fn) (hb : fn.body = none) (hname : (fn.name == "runtime.NumGoroutine") = false) (h1 : Extern.findNext fn = none) (h2 : Extern.find fn = some Extern.MathFloatBits.float64frombits) (n : Int) :
    Holds P f [.at (.int .u64 n)] [] (.at (.fl .f64 (real.ofBits .f64 n))) [] := by
  refine holds_ext hf hb hname h1 h2 fun w cs ι S h => ?_
  obtain ⟨l⟩ := cs
  match l, h with
  | [c], ⟨hc, _⟩ => obtain rfl : c = .int .u64 n := hc; exact ⟨.float .f64 n.toNat, 0, rfl, n.toNat, rfl, rfl⟩
  | [], h => exact h.elim
  | _ :: _ :: _, ⟨_, h⟩ => exact h.elim

theorem quiet_pos (t : Nat) : 2 ^ 51 ≤ FloatKind.f64.format.quiet t % 2 ^ 52 := by
  have : (FloatKind.f64.format.quiet t % 2 ^ 52).testBit 51 = true := by
    rw [Nat.testBit_mod_two_pow]
    show (decide (51 < 52) && (t ||| 2 ^ 51).testBit 51) = true
    rw [Nat.testBit_or, Nat.testBit_two_pow_self]
    simp
  exact Nat.ge_two_pow_of_testBit this

theorem isNaNb_quiet (s : Bool) (t : Nat) : isNaNb .f64 (FloatKind.f64.encode (.nan s (FloatKind.f64.format.quiet t))) = true := by
  have h1 := quiet_pos t
  have h2 : FloatKind.f64.format.quiet t % 2 ^ 52 < 2 ^ 52 := Nat.mod_lt _ (by decide)
  have e2 : FloatKind.f64.format.infRung = 9218868437227405312 := by decide
  have e3 : FloatKind.f64.format.binade = 2 ^ 52 := by decide
  have e1 : FloatKind.f64.format.signWeight = 9223372036854775808 := by decide
  unfold FloatKind.encode Ieee.Format.write Ieee.Format.word
  simp only [e2, e3, e1]
  generalize FloatKind.f64.format.quiet t % 2 ^ 52 = q at h1 h2
  cases s with
  | true =>
    have := isNaNb_at64 1 (q - 1) (by omega) (by omega)
    rw [show 1 * 9223372036854775808 + 9218868437227405313 + (q - 1) = 9223372036854775808 + (9218868437227405312 + q) by omega] at this
    exact this
  | false =>
    have := isNaNb_at64 0 (q - 1) (by omega) (by omega)
    rw [show 0 * 9223372036854775808 + 9218868437227405313 + (q - 1) = 9218868437227405312 + q by omega] at this
    exact this

theorem integral_notNaN {way : Ieee.Toward} {d : Ieee.Datum} (h : d.isNaN = false) : (d.integral way).isNaN = false := by
  cases d <;> first | exact h | rfl

theorem toIntegral_eq (nm : String) (way : Ieee.Toward) (b : Nat) : Extern.MathFloor.toIntegral nm way #[.float .f64 b] = (match FloatKind.f64.decode b with
    | .nan s t =>
      if FloatKind.f64.format.quiet t = t then pure (.float .f64 b) else do
      let kept ← choose (.extern "math.Floor,Ceil,Trunc,RoundToEven.signallingNaN kept" 2)
      pure (.float .f64 (if kept == 1 then b else FloatKind.f64.encode (.nan s (FloatKind.f64.format.quiet t))))
    | d => pure (.float .f64 (FloatKind.f64.encode (d.integral way)))) := rfl

theorem sqrt_eq (b : Nat) : Extern.MathSqrt.sqrt #[.float .f64 b] = (match FloatKind.f64.format.sqrt b with
    | some r => pure (.float .f64 r)
    | none => do pure (.float .f64 (← choose (.nanBits .f64 b b)))) := rfl

theorem ext_integral {f : FuncId} {fn : Func} {nm : String} {way : Ieee.Toward} (hf : P.funcs[f]? = some fn) (hb : fn.body = none) (hname : (fn.name == "runtime.NumGoroutine") = false) (h1 : Extern.findNext fn = none) (h2 : Extern.find fn = some (Extern.MathFloor.toIntegral nm way)) (x : Int) :
    Holds P f [.at (.fl .f64 x)] [] (.at (.fl .f64 (real.integral way x))) [] := by
  refine holds_ext hf hb hname h1 h2 fun w cs ι S h => ?_
  obtain ⟨l⟩ := cs
  match l, h with
  | [c], ⟨⟨b, hc, hx⟩, _⟩ =>
    subst hc; subst hx
    show ∃ c n, (Extern.MathFloor.toIntegral nm way #[.float .f64 b]).run P w = .ok c (w.drewN n) ∧ VR ι S (.at (.fl .f64 (rIntegral way (cf .f64 b : Nat)))) c
    cases hn : isNaNb .f64 b with
    | true =>
      obtain ⟨s, t, hr⟩ := read_nan hn
      have hd : FloatKind.f64.decode b = .nan s t := hr
      have hri : rIntegral way (cf .f64 b : Nat) = (nanOf .f64 : Nat) := by
        obtain ⟨s', t', hr'⟩ := read_nan (isNaNb_nanOf .f64)
        have hd' : FloatKind.f64.decode (nanOf .f64) = .nan s' t' := hr'
        unfold rIntegral
        rw [cf_of_nan hn, Int.toNat_natCast, hd']
      rw [hri]
      rw [toIntegral_eq, hd]
      simp only
      by_cases hq : FloatKind.f64.format.quiet t = t
      · rw [if_pos hq]
        exact ⟨_, 0, rfl, b, rfl, by rw [cf_of_nan hn]⟩
      · rw [if_neg hq]
        simp only [Sem.run_bind]
        rw [run_choose _ _ rfl]
        simp only [Result.andThen_ok, Sem.run_pure]
        refine ⟨_, 1, rfl, _, rfl, ?_⟩
        split
        · rw [cf_of_nan hn]
        · rw [cf_of_nan (isNaNb_quiet s t)]
    | false =>
      unfold rIntegral
      rw [cf_of_num hn, Int.toNat_natCast]
      rw [toIntegral_eq]
      have hnn : (FloatKind.f64.decode b).isNaN = false := hn
      have hw := write_notNaN .f64 _ (integral_notNaN (way := way) hnn)
      generalize FloatKind.f64.decode b = d at hnn hw ⊢
      cases d with
      | nan s t => cases hnn
      | infinity s => exact ⟨_, 0, rfl, _, rfl, by simp only; rw [cf_of_num]; exact hw⟩
      | number s m i => exact ⟨_, 0, rfl, _, rfl, by simp only; rw [cf_of_num]; exact hw⟩
  | [], h => exact h.elim
  | _ :: _ :: _, ⟨_, h⟩ => exact h.elim

theorem ext_sqrt {f : FuncId} {fn : Func} (hf : P.funcs[f]? = some fn) (hb : fn.body = none) (hname : (fn.name == "runtime.NumGoroutine") = false) (h1 : Extern.findNext fn = none) (h2 : Extern.find fn = some Extern.MathSqrt.sqrt) (x : Int) :
    Holds P f [.at (.fl .f64 x)] [] (.at (.fl .f64 (real.sqrt x))) [] := by
  refine holds_ext hf hb hname h1 h2 fun w cs ι S h => ?_
  obtain ⟨l⟩ := cs
  match l, h with
  | [c], ⟨⟨b, hc, hx⟩, _⟩ =>
    subst hc; subst hx
    show ∃ c n, (Extern.MathSqrt.sqrt #[.float .f64 b]).run P w = .ok c (w.drewN n) ∧ VR ι S (.at (.fl .f64 (rSqrt (cf .f64 b : Nat)))) c
    have hsq : FloatKind.f64.format.sqrt (cf .f64 b) = FloatKind.f64.format.sqrt b := by
      cases hn : isNaNb .f64 b with
      | false => rw [cf_of_num hn]
      | true =>
        obtain ⟨s, t, hr⟩ := read_nan hn
        obtain ⟨s', t', hr'⟩ := read_nan (isNaNb_nanOf .f64)
        rw [cf_of_nan hn]
        unfold Ieee.Format.sqrt
        rw [hr, hr']
        rfl
    rw [sqrt_eq]
    unfold rSqrt
    rw [Int.toNat_natCast, hsq]
    cases hs : FloatKind.f64.format.sqrt b with
    | some r =>
      refine ⟨_, 0, rfl, r, rfl, ?_⟩
      have : isNaNb .f64 r = false := by
        unfold Ieee.Format.sqrt at hs
        cases hrt : (FloatKind.f64.format.read b).root (FloatKind.f64.format.fractionBits + 2) with
        | none => rw [hrt] at hs; cases hs
        | some d =>
          rw [hrt] at hs
          simp only [Option.map_some, Option.some.injEq] at hs
          subst hs
          exact write_notNaN .f64 d (root_notNaN hrt)
      rw [cf_of_num this]; rfl
    | none =>
      simp only [Sem.run_bind]
      rw [run_choose _ _ rfl]
      simp only [Result.andThen_ok, Sem.run_pure]
      refine ⟨_, 1, rfl, _, rfl, ?_⟩
      rw [cf_of_nan (cut_nanBits ..)]
      rfl
  | [], h => exact h.elim
  | _ :: _ :: _, ⟨_, h⟩ => exact h.elim
end Go.Fx
/- From a contract to the row. -/
namespace Go.Fx
open Go.ChangeShapes Go.WideShapes Go.ChangeAt Go.RowKit
variable {P : Program}

/-- The cell of an argument. -/
def KO : K → Value → Prop
  | .f k, c => ∃ b, c = .float k b ∧ k.has b
  | .i k, c => ∃ n, c = .int k n ∧ k.has n
  | .b, c => ∃ b, c = .bool b

theorem cell_KO {w : World} {r : Reach} {b0 : Nat} {t : TypeId} {v : Value} {k : K} (hk : kindOf P t = some k) (h : Cell.okWide P w r b0 t v) : KO k v := by
  unfold kindOf at hk
  split at hk
  · rename_i kf hu
    simp only [Option.some.injEq] at hk; subst hk
    simp only [Cell.okWide, hu, Cell.ok] at h
    cases v <;> simp at h
    obtain ⟨rfl, h2⟩ := h
    exact ⟨_, rfl, h2⟩
  · rename_i kf hu
    simp only [Option.some.injEq] at hk; subst hk
    simp only [Cell.okWide, hu, Cell.ok] at h
    cases v <;> simp at h
    obtain ⟨rfl, h2⟩ := h
    exact ⟨_, rfl, h2⟩
  · rename_i hu
    simp only [Option.some.injEq] at hk; subst hk
    simp only [Cell.okWide, hu, Cell.ok] at h
    cases v <;> simp at h
    exact ⟨_, rfl⟩
  · cases hk

theorem open_scalar {w : World} {r : Reach} {b0 : Nat} {t : TypeId} {v : Value} {k : K} (hk : kindOf P t = some k) (h : Value.okWide P w r b0 t v) : KO k v := by
  have hk' := hk
  unfold kindOf at hk'
  unfold Value.okWide at h
  split at h
  · rename_i hu; rw [hu] at hk'; cases hk'
  · rename_i hu; rw [hu] at hk'; cases hk'
  · exact cell_KO hk h

def kindsB (P : Program) : List TypeId → List K → Bool
  | [], [] => true
  | t :: ts, k :: ks => (match kindOf P t with | some k' => decide (k' = k) | none => false) && kindsB P ts ks
  | _, _ => false

theorem kindsB_get : ∀ {ts : List TypeId} {ks : List K}, kindsB P ts ks = true → ts.length = ks.length ∧ ∀ (i : Nat) (t : TypeId) (k : K), ts[i]? = some t → ks[i]? = some k → kindOf P t = some k
  | [], [], _ => ⟨rfl, fun i t k h => by simp at h⟩
  | t :: ts, k :: ks, h => by
    simp only [kindsB, Bool.and_eq_true] at h
    obtain ⟨h1, h2⟩ := h
    obtain ⟨g1, g2⟩ := kindsB_get h2
    refine ⟨by simp [g1], fun i t' k' ht hk => ?_⟩
    cases i with
    | zero =>
      simp at ht hk
      subst ht; subst hk
      split at h1
      · rename_i k' hk'; simp at h1; rw [hk', h1]
      · cases h1
    | succ i => exact g2 i t' k' (by simpa using ht) (by simpa using hk)
  | [], _ :: _, h => by simp [kindsB] at h
  | _ :: _, [], h => by simp [kindsB] at h

/-- Is it a type of plain cells, of these kinds? -/
def flatB (P : Program) (t : TypeId) (ks : List K) : Bool :=
  (match P.underlying t with | some (.struct _) => true | some (.array _ _) => true | _ => false) &&
  (match P.cellTypes P.depth t with | some ts => kindsB P ts ks | none => false) && Nat.beq (P.cellsOf t) ks.length && Nat.blt 0 ks.length

theorem open_flat {w : World} {r : Reach} {b0 : Nat} {t : TypeId} {v : Value} {ks : List K} (hk : flatB P t ks = true) (h : Value.okWide P w r b0 t v) : ∃ cs, v = .agg cs ∧ F2 KO ks cs.toList := by
  unfold flatB at hk
  simp only [Bool.and_eq_true] at hk
  obtain ⟨⟨⟨h1, h2⟩, h3⟩, h4⟩ := hk
  have hagg : ∃ cs, v = .agg cs ∧ cs.size = P.cellsOf t ∧ Row.okWide P w r b0 t cs := by
    unfold Value.okWide at h
    split at h
    · exact h
    · exact h
    · rename_i hn1 hn2
      split at h1
      · rename_i hu; exact absurd hu (hn1 _)
      · rename_i hu; exact absurd hu (hn2 _ _)
      · cases h1
  obtain ⟨cs, rfl, hsz, ts, hts, ⟨n, hn⟩, hcell⟩ := hagg
  rw [hts] at h2
  simp only at h2
  obtain ⟨g1, g2⟩ := kindsB_get h2
  have h3 := Nat.eq_of_beq_eq_true h3
  refine ⟨cs, rfl, F2.of_get (by simp; omega) fun i k c hk hc => ?_⟩
  have hi : i < ks.length := (List.getElem?_eq_some_iff.1 hk).1
  obtain ⟨u, hu1, hu2⟩ := hcell i c (by simpa using hc)
  rw [Nat.mod_eq_of_lt (by omega)] at hu1
  exact cell_KO (g2 i u k hu1 hk) hu2

theorem F2_list1 {α β : Type} {R : α → β → Prop} {k0 : α} : ∀ {l : List β}, F2 R [k0] l → ∃ m0, R k0 m0 ∧ l = [m0]
  | [m0], ⟨h0, _⟩ => ⟨_, h0, rfl⟩
  | [], h => by simp [F2] at h
  | _ :: _ :: _, h => by simp [F2] at h
theorem F2_list2 {α β : Type} {R : α → β → Prop} {k0 k1 : α} : ∀ {l : List β}, F2 R [k0, k1] l → ∃ m0 m1, R k0 m0 ∧ R k1 m1 ∧ l = [m0, m1]
  | [m0, m1], ⟨h0, h1, _⟩ => ⟨_, _, h0, h1, rfl⟩
  | [], h => by simp [F2] at h
  | [_], h => by simp [F2] at h
  | _ :: _ :: _ :: _, h => by simp [F2] at h
theorem F2_list3 {α β : Type} {R : α → β → Prop} {k0 k1 k2 : α} : ∀ {l : List β}, F2 R [k0, k1, k2] l → ∃ m0 m1 m2, R k0 m0 ∧ R k1 m1 ∧ R k2 m2 ∧ l = [m0, m1, m2]
  | [m0, m1, m2], ⟨h0, h1, h2, _⟩ => ⟨_, _, _, h0, h1, h2, rfl⟩
  | [], h => by simp [F2] at h
  | [_], h => by simp [F2] at h
  | [_, _], h => by simp [F2] at h
  | _ :: _ :: _ :: _ :: _, h => by simp [F2] at h
theorem F2_list4 {α β : Type} {R : α → β → Prop} {k0 k1 k2 k3 : α} : ∀ {l : List β}, F2 R [k0, k1, k2, k3] l → ∃ m0 m1 m2 m3, R k0 m0 ∧ R k1 m1 ∧ R k2 m2 ∧ R k3 m3 ∧ l = [m0, m1, m2, m3]
  | [m0, m1, m2, m3], ⟨h0, h1, h2, h3, _⟩ => ⟨_, _, _, _, h0, h1, h2, h3, rfl⟩
  | [], h => by simp [F2] at h
  | [_], h => by simp [F2] at h
  | [_, _], h => by simp [F2] at h
  | [_, _, _], h => by simp [F2] at h
  | _ :: _ :: _ :: _ :: _ :: _, h => by simp [F2] at h
theorem F2_list5 {α β : Type} {R : α → β → Prop} {k0 k1 k2 k3 k4 : α} : ∀ {l : List β}, F2 R [k0, k1, k2, k3, k4] l → ∃ m0 m1 m2 m3 m4, R k0 m0 ∧ R k1 m1 ∧ R k2 m2 ∧ R k3 m3 ∧ R k4 m4 ∧ l = [m0, m1, m2, m3, m4]
  | [m0, m1, m2, m3, m4], ⟨h0, h1, h2, h3, h4, _⟩ => ⟨_, _, _, _, _, h0, h1, h2, h3, h4, rfl⟩
  | [], h => by simp [F2] at h
  | [_], h => by simp [F2] at h
  | [_, _], h => by simp [F2] at h
  | [_, _, _], h => by simp [F2] at h
  | [_, _, _, _], h => by simp [F2] at h
  | _ :: _ :: _ :: _ :: _ :: _ :: _, h => by simp [F2] at h
theorem F2_list6 {α β : Type} {R : α → β → Prop} {k0 k1 k2 k3 k4 k5 : α} : ∀ {l : List β}, F2 R [k0, k1, k2, k3, k4, k5] l → ∃ m0 m1 m2 m3 m4 m5, R k0 m0 ∧ R k1 m1 ∧ R k2 m2 ∧ R k3 m3 ∧ R k4 m4 ∧ R k5 m5 ∧ l = [m0, m1, m2, m3, m4, m5]
  | [m0, m1, m2, m3, m4, m5], ⟨h0, h1, h2, h3, h4, h5, _⟩ => ⟨_, _, _, _, _, _, h0, h1, h2, h3, h4, h5, rfl⟩
  | [], h => by simp [F2] at h
  | [_], h => by simp [F2] at h
  | [_, _], h => by simp [F2] at h
  | [_, _, _], h => by simp [F2] at h
  | [_, _, _, _], h => by simp [F2] at h
  | [_, _, _, _, _], h => by simp [F2] at h
  | _ :: _ :: _ :: _ :: _ :: _ :: _ :: _, h => by simp [F2] at h
theorem F2_list7 {α β : Type} {R : α → β → Prop} {k0 k1 k2 k3 k4 k5 k6 : α} : ∀ {l : List β}, F2 R [k0, k1, k2, k3, k4, k5, k6] l → ∃ m0 m1 m2 m3 m4 m5 m6, R k0 m0 ∧ R k1 m1 ∧ R k2 m2 ∧ R k3 m3 ∧ R k4 m4 ∧ R k5 m5 ∧ R k6 m6 ∧ l = [m0, m1, m2, m3, m4, m5, m6]
  | [m0, m1, m2, m3, m4, m5, m6], ⟨h0, h1, h2, h3, h4, h5, h6, _⟩ => ⟨_, _, _, _, _, _, _, h0, h1, h2, h3, h4, h5, h6, rfl⟩
  | [], h => by simp [F2] at h
  | [_], h => by simp [F2] at h
  | [_, _], h => by simp [F2] at h
  | [_, _, _], h => by simp [F2] at h
  | [_, _, _, _], h => by simp [F2] at h
  | [_, _, _, _, _], h => by simp [F2] at h
  | [_, _, _, _, _, _], h => by simp [F2] at h
  | _ :: _ :: _ :: _ :: _ :: _ :: _ :: _ :: _, h => by simp [F2] at h
theorem F2_list8 {α β : Type} {R : α → β → Prop} {k0 k1 k2 k3 k4 k5 k6 k7 : α} : ∀ {l : List β}, F2 R [k0, k1, k2, k3, k4, k5, k6, k7] l → ∃ m0 m1 m2 m3 m4 m5 m6 m7, R k0 m0 ∧ R k1 m1 ∧ R k2 m2 ∧ R k3 m3 ∧ R k4 m4 ∧ R k5 m5 ∧ R k6 m6 ∧ R k7 m7 ∧ l = [m0, m1, m2, m3, m4, m5, m6, m7]
  | [m0, m1, m2, m3, m4, m5, m6, m7], ⟨h0, h1, h2, h3, h4, h5, h6, h7, _⟩ => ⟨_, _, _, _, _, _, _, _, h0, h1, h2, h3, h4, h5, h6, h7, rfl⟩
  | [], h => by simp [F2] at h
  | [_], h => by simp [F2] at h
  | [_, _], h => by simp [F2] at h
  | [_, _, _], h => by simp [F2] at h
  | [_, _, _, _], h => by simp [F2] at h
  | [_, _, _, _, _], h => by simp [F2] at h
  | [_, _, _, _, _, _], h => by simp [F2] at h
  | [_, _, _, _, _, _, _], h => by simp [F2] at h
  | _ :: _ :: _ :: _ :: _ :: _ :: _ :: _ :: _ :: _, h => by simp [F2] at h

/-- Bits of a float argument, canonical. -/
def OkF (k : FloatKind) (x : Int) : Prop := ∃ b : Nat, x = (cf k b : Nat) ∧ k.has b

theorem calls_of_holds {f : FuncId} {fn : Func} {c : Code} {args : List V} {h news : List Ob} {ι : Nat → Pl} {w : World} {cs : Array Value} (hf : P.funcs[f]? = some fn) (hb : fn.body = some c) (hname : (fn.name == "runtime.NumGoroutine") = false)
    (hh : Holds P f args h (.at (.bool true)) news) (ha : F2 (VR ι (shp h)) args cs.toList) (hr : HR ι h w) : Calls P f cs w fun e w' => e = .returned (.bool true) ∧ Below w.heap.size w w' := by
  have := hh ι w cs ha hr
  unfold CallsV at this
  have hrun : (callFunc f cs).run P w = .ok (.enter f cs) w := by
    have hn : fn.name ≠ "runtime.NumGoroutine" := by simpa using hname
    simp [callFunc, hf, hn, hb]
  rw [hrun] at this
  simp only at this
  refine this.mono fun e w' ⟨c, h1, ι', hg, hv, _⟩ => ?_
  have hc : c = .bool true := hv
  subst h1; subst hc
  exact ⟨rfl, hg.wx.os, hg.wx.tape, hg.wx.output, hg.wx.size, hg.wx.block⟩

def readB (P : Program) : List TypeId → Bool
  | [] => true
  | t :: ts => P.readableRec t && Nat.blt t P.types.size && readB P ts

theorem trodAll_stays {H : Type} {enc : TypeId × Value → H} (hl : laidOutB P = true) {W W' : World} (hb : Below W.heap.size W W') : ∀ {ts : List TypeId} {vs : List Value} {ds : List (DataW H)} {ps : List MemPlace}, readB P ts = true →
    DataW.TrodAll enc P W 0 (fun _ => true) true ts vs ds ps → (∀ x ∈ ps, x.block < W.heap.size) → DataW.TrodAll enc P W' 0 (fun b => decide (b < W.heap.size)) true ts vs ds ps
  | [], vs, ds, ps, _, h, _ => by
    obtain ⟨rfl, rfl, rfl⟩ := trodAll_nil h
    exact trodAll_mk0
  | t :: ts, vs, ds, ps, hr, h, hlt => by
    simp only [readB, Bool.and_eq_true, Nat.blt_eq] at hr
    obtain ⟨v, vs', d, ds', p, q, rfl, rfl, rfl, hd, hrest⟩ := trodAll_cons h
    exact ⟨p, q, Below.trod hl hr.1.1 hr.1.2 hd hb (fun x hx => hlt x (by simp [hx])), trodAll_stays hl hb hr.2 hrest (fun x hx => hlt x (by simp [hx])), rfl⟩

/-- The row's end: true, and the arguments as they were. -/
theorem law_post {H : Type} {enc : TypeId × Value → H} {f : Func} {s : ChangeSpec} {W W' : World} {args : Array Value} {ds gs : List (DataW H)} {before : List MemPlace} {tb : TypeId} (hl : laidOutB P = true) (hr : readB P f.params.toList = true) (hrt : f.resultTypes = #[tb])
    (htb : P.underlying tb = some .bool) (hvars : s.vars = []) (hfn : (s.fn H ds).results = [.lit (.bool true)] ∧ (s.fn H ds).args = ds ∧ (s.fn H ds).vars = []) (hW : DataW.Whole enc P f.params.toList s.vars false W args.toList ds gs before) (hb : Below W.heap.size W W') :
    s.post enc P f false true false false W args (.bool true) W' := by
  have hlt := hW.lt
  have hW' := hW
  obtain ⟨p, q, hA, hV, rfl, hz, hn⟩ := hW
  rw [hvars] at hV
  obtain ⟨rfl, rfl⟩ := trodVars_none hV
  have hds : s.fn H (ds ++ []) = s.fn H ds := by rw [List.append_nil]
  refine ⟨ds, [], _, [], p, [], hW', ?_, ?_, ?_, hb.frame _, fun h => by cases h⟩
  · rw [hds, hfn.1, hrt]
    exact trodAll_mk1 (shut_bool htb true)
  · rw [hds, hfn.2.1]
    exact trodAll_stays hl hb hr hA (fun x hx => hlt x (by simp [hx]))
  · rw [hds, hfn.2.2, hvars]
    simp [DataW.TrodVars]
end Go.Fx
/- Small facts on canonical bits. -/
namespace Go.Fx

theorem order_self {k : FloatKind} {b : Nat} (h : isNaNb k b = false) : k.format.order b b = some .eq := by
  unfold Ieee.Format.order
  unfold isNaNb at h
  generalize k.format.read b = d at h
  cases d with
  | nan s t => cases h
  | infinity s => cases s <;> rfl
  | number s m i => simp [Ieee.Datum.order]

theorem neq_self (k : FloatKind) (x : Int) : real.cmp .neq k x x = isNaNb k x.toNat := by
  show rCmp .neq k x x = _
  unfold rCmp
  cases h : isNaNb k x.toNat with
  | true => rw [order_nan_left h]; rfl
  | false => rw [order_self h]; rfl

theorem OkF.range32 {x : Int} (h : OkF .f32 x) : 0 ≤ x ∧ x < 4294967296 := by
  obtain ⟨b, rfl, hb⟩ := h
  refine ⟨by omega, ?_⟩
  have h1 : b < 4294967296 := by simpa [FloatKind.has] using hb
  unfold cf
  split
  · have : nanOf .f32 = 2143289344 ∨ nanOf .f32 < 4294967296 := by decide
    omega
  · omega

theorem OkF.nan {k : FloatKind} {x : Int} (h : OkF k x) (hn : isNaNb k x.toNat = true) : x = (nanOf k : Nat) := by
  obtain ⟨b, rfl, hb⟩ := h
  rw [Int.toNat_natCast, isNaNb_cf] at hn
  rw [cf_of_nan hn]

theorem bits32 {x : Int} (h : OkF .f32 x) : (bif isNaNb .f32 x.toNat then 2143289344 else IntKind.wrap IntKind.i64 x) = x := by
  cases hn : isNaNb .f32 x.toNat with
  | true => rw [h.nan hn]; rfl
  | false =>
    obtain ⟨h0, h1⟩ := h.range32
    exact wrap_small x h0 (by omega)

/-- Both ways to tell the same number say so of canonical bits. -/
theorem same32 {x y : Int} (hx : OkF .f32 x) (hy : OkF .f32 y) : (bif isNaNb .f32 x.toNat then isNaNb .f32 y.toNat else bif isNaNb .f32 y.toNat then false else x == y) = (x == y) := by
  cases h1 : isNaNb .f32 x.toNat with
  | true =>
    cases h2 : isNaNb .f32 y.toNat with
    | true => rw [hx.nan h1, hy.nan h2]; rfl
    | false =>
      have : x ≠ y := fun e => by rw [e, h2] at h1; cases h1
      simp [this]
  | false =>
    cases h2 : isNaNb .f32 y.toNat with
    | true =>
      have : x ≠ y := fun e => by rw [e, h2] at h1; cases h1
      simp [this]
    | false => rfl
end Go.Fx
/- Arguments that hold slices: what is read of them. -/
namespace Go.Fx
open Go.ChangeShapes Go.WideShapes Go.ChangeAt Go.RowKit
variable {P : Program} {H : Type} {enc : TypeId × Value → H}

/-- A leaf of an argument: a cell, or a slice of elements of plain cells. -/
inductive Leaf where
  | sc (k : K)
  | sl (ks : List K)

def flatK : List Leaf → Option (List K)
  | [] => some []
  | .sc k :: t => match flatK t with
    | some ks => some (k :: ks)
    | none => none
  | .sl _ :: _ => none

def leavesS (P : Program) (lv : TypeId → Option (List Leaf)) : List Field → Nat → Option (List Leaf)
  | [], _ => some []
  | f :: fs, o => match lv f.type with
    | some ls => match leavesS P lv fs (o + ls.length), Nat.beq f.offset o, Nat.beq (P.cellsOf f.type) ls.length with
      | some r, true, true => some (ls ++ r)
      | _, _, _ => none
    | none => none

def leaves (P : Program) : Nat → TypeId → Option (List Leaf)
  | 0, _ => none
  | n + 1, t => match P.underlying t with
    | some (.float k) => some [.sc (.f k)]
    | some (.int k) => some [.sc (.i k)]
    | some .bool => some [.sc .b]
    | some (.slice e) => match leaves P n e with
      | some ls => match flatK ls with
        | some ks => match Nat.beq (P.cellsOf e) ks.length, Nat.blt 0 ks.length with
          | true, true => some [.sl ks]
          | _, _ => none
        | none => none
      | none => none
    | some (.struct fs) => match leavesS P (leaves P n) fs.toList 0 with
      | some ls => match Nat.beq (P.cellsOf t) ls.length with
        | true => some ls
        | false => none
      | none => none
    | _ => none

def LeafR (w : World) : Leaf → Value → Prop
  | .sc k, c => KO k c
  | .sl ks, c => (∃ a, c = .slice a 0 0) ∨ ∃ b base n cap, c = .slice (some ⟨b, base, none⟩) n cap ∧ n ≤ cap ∧ cap ≤ maxLen ∧ 0 < cap ∧
      ∃ blk ty fz, w.heap[b]? = some (.cells blk ty fz) ∧ base + cap * ks.length ≤ blk.size ∧ ∀ i, i < cap → ∀ o kd, ks[o]? = some kd → ∃ v, blk[base + i * ks.length + o]? = some v ∧ KO kd v

theorem mapM_get {α β : Type} {f : α → Option β} : ∀ {l : List α} {r : List β}, l.mapM f = some r → ∀ (i : Nat) (a : α), l[i]? = some a → ∃ b, r[i]? = some b ∧ f a = some b
  | [], r, h, i, a, ha => by simp at ha
  | x :: l, r, h, i, a, ha => by
    rw [List.mapM_cons] at h
    cases hx : f x with
    | none => rw [hx] at h; simp at h
    | some y =>
      rw [hx] at h
      cases hl : l.mapM f with
      | none => rw [hl] at h; simp at h
      | some ys =>
        rw [hl] at h
        simp at h
        subst h
        cases i with
        | zero => simp at ha; subst ha; exact ⟨y, by simp, hx⟩
        | succ i => obtain ⟨b, h1, h2⟩ := mapM_get hl i a (by simpa using ha); exact ⟨b, by simpa using h1, h2⟩

theorem mapM_len {α β : Type} {f : α → Option β} : ∀ {l : List α} {r : List β}, l.mapM f = some r → r.length = l.length
  | [], r, h => by simp at h; subst h; rfl
  | x :: l, r, h => by
    rw [List.mapM_cons] at h
    cases hx : f x with
    | none => rw [hx] at h; simp at h
    | some y =>
      rw [hx] at h
      cases hl : l.mapM f with
      | none => rw [hl] at h; simp at h
      | some ys => rw [hl] at h; simp at h; subst h; simp [mapM_len hl]

theorem flatK_F2 {w : World} : ∀ {ls : List Leaf} {ks : List K} {cs : List Value}, flatK ls = some ks → F2 (LeafR w) ls cs → F2 KO ks cs
  | [], ks, cs, h, hF => by simp [flatK] at h; subst h; cases cs with | nil => trivial | cons _ _ => exact hF.elim
  | .sl _ :: _, _, _, h, _ => by simp [flatK] at h
  | .sc k :: t, ks, cs, h, hF => by
    simp only [flatK] at h
    cases ht : flatK t with
    | none => simp [ht] at h
    | some ks' =>
      simp [ht] at h
      subst h
      cases cs with
      | nil => exact hF.elim
      | cons c cs => exact ⟨hF.1, flatK_F2 ht hF.2⟩

theorem wf_float {k : FloatKind} {b : Nat} (h : (Lit.float k b).wf = true) : k.has b := by cases k <;> simpa [Lit.wf, FloatKind.has] using h
theorem wf_int {k : IntKind} {n : Int} (h : (Lit.int k n).wf = true) : k.has n := by simpa [Lit.wf, IntKind.has] using h

theorem trod_struct {w : World} {held : Bool} {fuel : Nat} {t : TypeId} {cs : List Value} {x : DataW H × List MemPlace} {fs : Array Field} (hu : P.underlying t = some (.struct fs)) (h : DataW.trod enc P w 0 (fun _ => true) held (fuel + 1) t cs = some x) :
    cs.length = P.cellsOf t ∧ ∃ xs, (fs.toList.mapM fun f => DataW.trod enc P w 0 (fun _ => true) held fuel f.type ((cs.drop f.offset).take (P.cellsOf f.type))) = some xs := by
  simp only [DataW.trod, hu] at h
  split at h
  · rename_i hc
    refine ⟨hc, ?_⟩
    generalize (fs.toList.mapM fun f => DataW.trod enc P w 0 (fun _ => true) held fuel f.type ((cs.drop f.offset).take (P.cellsOf f.type))) = r at h ⊢
    cases r with
    | none => simp at h
    | some xs => exact ⟨xs, rfl⟩
  · cases h

theorem trod_slice {w : World} {held : Bool} {fuel : Nat} {t e : TypeId} {cs : List Value} {x : DataW H × List MemPlace} (hu : P.underlying t = some (.slice e)) (h : DataW.trod enc P w 0 (fun _ => true) held (fuel + 1) t cs = some x) :
    cs = [.slice none 0 0] ∨ ∃ a len cap, cs = [.slice (some a) len cap] ∧ len ≤ cap ∧ cap ≤ maxLen ∧
      ∀ i, i < cap → ∃ ecs q, w.cells? 0 (a.add (i * P.cellsOf e)) (P.cellsOf e) = some ecs ∧ DataW.trod enc P w 0 (fun _ => true) held fuel e ecs = some q := by
  simp only [DataW.trod, hu] at h
  split at h
  case h_7 => exact .inl rfl
  case h_8 =>
    rename_i e' a len cap heq
    cases heq
    right
    refine ⟨a, len, cap, rfl, ?_⟩
    split at h
    · rename_i hc
      refine ⟨hc.2.1, hc.2.2, ?_⟩
      cases hm : ((List.range len).mapM fun i => (w.cells? 0 (a.add (i * P.cellsOf e)) (P.cellsOf e)).bind (DataW.trod enc P w 0 (fun _ => true) held fuel e)) with
      | none => rw [hm] at h; simp at h
      | some elems =>
        rw [hm] at h
        simp only [Option.bind_some, if_true] at h
        cases hm2 : ((List.range (cap - len)).mapM fun j => (w.cells? 0 (a.add ((len + j) * P.cellsOf e)) (P.cellsOf e)).bind (DataW.trod enc P w 0 (fun _ => true) held fuel e)) with
        | none => rw [hm2] at h; simp at h
        | some rest =>
          intro i hi
          have hq : ∃ q, (w.cells? 0 (a.add (i * P.cellsOf e)) (P.cellsOf e)).bind (DataW.trod enc P w 0 (fun _ => true) held fuel e) = some q := by
            rcases Nat.lt_or_ge i len with hil | hil
            · obtain ⟨q, _, hq⟩ := mapM_get hm i i (by simp [hil])
              exact ⟨q, hq⟩
            · obtain ⟨q, _, hq⟩ := mapM_get hm2 (i - len) (i - len) (by rw [List.getElem?_range (by omega)])
              rw [show len + (i - len) = i by omega] at hq
              exact ⟨q, hq⟩
          obtain ⟨q, hq⟩ := hq
          cases hcs : w.cells? 0 (a.add (i * P.cellsOf e)) (P.cellsOf e) with
          | none => rw [hcs] at hq; simp at hq
          | some ecs => rw [hcs] at hq; exact ⟨ecs, q, rfl, by simpa using hq⟩
    · cases h
  all_goals (exfalso; simp_all; done)

/-- What is read of cells is of the type's leaves. -/
theorem trod_leaves {w : World} {held : Bool} : ∀ (fuel n : Nat) (t : TypeId) (cs : List Value) (x : DataW H × List MemPlace) (ls : List Leaf), leaves P n t = some ls → DataW.trod enc P w 0 (fun _ => true) held fuel t cs = some x → F2 (LeafR w) ls cs
  | 0, _, _, _, _, _, _, h => by simp [DataW.trod] at h
  | fuel + 1, 0, _, _, _, _, hl, _ => by simp [leaves] at hl
  | fuel + 1, n + 1, t, cs, x, ls, hl, h => by
    unfold leaves at hl
    split at hl
    · rename_i k hu
      simp only [Option.some.injEq] at hl; subst hl
      unfold DataW.trod at h
      rw [hu] at h
      split at h <;> simp_all
      obtain ⟨⟨rfl, hw⟩, _⟩ := h
      exact ⟨⟨_, rfl, wf_float hw⟩, trivial⟩
    · rename_i k hu
      simp only [Option.some.injEq] at hl; subst hl
      unfold DataW.trod at h
      rw [hu] at h
      split at h <;> simp_all
      obtain ⟨⟨rfl, hw⟩, _⟩ := h
      exact ⟨⟨_, rfl, wf_int hw⟩, trivial⟩
    · rename_i hu
      simp only [Option.some.injEq] at hl; subst hl
      unfold DataW.trod at h
      rw [hu] at h
      split at h <;> simp_all
      exact ⟨⟨_, rfl⟩, trivial⟩
    · rename_i e hu
      split at hl
      · rename_i le hle
        split at hl
        · rename_i ks hks
          split at hl
          · rename_i h1 h2
            simp only [Option.some.injEq] at hl; subst hl
            have h1 := Nat.eq_of_beq_eq_true h1
            have h2 : 0 < ks.length := by simpa [Nat.blt_eq] using h2
            rcases trod_slice hu h with rfl | ⟨a, len, cap, rfl, hlc, hcm, hel⟩
            · exact ⟨.inl ⟨none, rfl⟩, trivial⟩
            · refine ⟨?_, trivial⟩
              rcases Nat.eq_zero_or_pos cap with h0 | hpos
              · subst h0
                have : len = 0 := by omega
                subst this
                exact .inl ⟨_, rfl⟩
              · right
                have hcell : ∀ i, i < cap → ∀ o kd, ks[o]? = some kd → ∃ v, w.cell? (a.add (i * ks.length + o)) = some v ∧ KO kd v := by
                  intro i hi o kd ho
                  obtain ⟨ecs, q, hcs, hq⟩ := hel i hi
                  obtain ⟨_, hlen, hget⟩ := World.cells?_some hcs
                  have hF := flatK_F2 hks (trod_leaves fuel n e ecs q le hle hq)
                  obtain ⟨v, hv, hk⟩ := hF.get o kd ho
                  have hol : o < ks.length := (List.getElem?_eq_some_iff.1 ho).1
                  have := hget o (by omega)
                  rw [Addr.add_add, h1] at this
                  exact ⟨v, by rw [this]; exact hv, hk⟩
                have hk0 : ks[0]? = some ks[0] := List.getElem?_eq_getElem h2
                obtain ⟨v0, hv0, _⟩ := hcell 0 hpos 0 _ hk0
                have hz : a.add (0 * ks.length + 0) = a := by simp [Addr.add]
                rw [hz] at hv0
                obtain ⟨b, base, spot⟩ := a
                have hblk : spot = none ∧ ∃ blk ty fz, w.heap[b]? = some (.cells blk ty fz) := by
                  unfold World.cell? at hv0
                  simp only at hv0
                  split at hv0
                  · rename_i blk ty fz hh
                    split at hv0
                    · cases hv0
                    · rename_i hs
                      refine ⟨?_, blk, ty, fz, hh⟩
                      cases hsp : spot with
                      | none => rfl
                      | some _ => simp [hsp] at hs
                  · cases hv0
                obtain ⟨rfl, blk, ty, fz, hh⟩ := hblk
                have hc2 : ∀ i, i < cap → ∀ o kd, ks[o]? = some kd → ∃ v, blk[base + i * ks.length + o]? = some v ∧ KO kd v := by
                  intro i hi o kd ho
                  obtain ⟨v, hv, hk⟩ := hcell i hi o kd ho
                  refine ⟨v, ?_, hk⟩
                  rw [Addr.add_at, cell_at hh, ← Nat.add_assoc] at hv
                  exact hv
                refine ⟨b, base, len, cap, rfl, hlc, hcm, hpos, blk, ty, fz, hh, ?_, hc2⟩
                obtain ⟨v, hv, _⟩ := hc2 (cap - 1) (by omega) (ks.length - 1) _ (List.getElem?_eq_getElem (by omega))
                have hlt := (Array.getElem?_eq_some_iff.1 hv).1
                have : cap * ks.length = (cap - 1) * ks.length + ks.length := by
                  rw [← Nat.succ_mul]; congr 1; omega
                omega
          · cases hl
        · cases hl
      · cases hl
    · rename_i fs hu
      split at hl
      · rename_i ls' hls
        split at hl
        · rename_i hsz
          simp only [Option.some.injEq] at hl; subst hl
          have hsz := Nat.eq_of_beq_eq_true hsz
          have hlen := trod_struct hu h
          obtain ⟨hl1, xs, hxs⟩ := hlen
          have key : ∀ (fl : List Field) (o : Nat) (r : List Leaf) (ys : List (DataW H × List MemPlace)), leavesS P (leaves P n) fl o = some r → (fl.mapM fun f => DataW.trod enc P w 0 (fun _ => true) held fuel f.type ((cs.drop f.offset).take (P.cellsOf f.type))) = some ys →
              F2 (LeafR w) r ((cs.drop o).take r.length) := by
            intro fl
            induction fl with
            | nil => intro o r ys hr _; simp [leavesS] at hr; subst hr; simp [F2]
            | cons f fl ih =>
              intro o r ys hr hy
              simp only [leavesS] at hr
              split at hr
              · rename_i lf hlf
                split at hr
                · rename_i r' hr' h1 h2
                  simp only [Option.some.injEq] at hr; subst hr
                  have h1 := Nat.eq_of_beq_eq_true h1
                  have h2 := Nat.eq_of_beq_eq_true h2
                  obtain ⟨q, _, hq⟩ := mapM_get hy 0 f rfl
                  have hF := trod_leaves fuel n f.type _ q lf hlf hq
                  rw [h1, h2] at hF
                  have hy' : ∃ ys', (fl.mapM fun f => DataW.trod enc P w 0 (fun _ => true) held fuel f.type ((cs.drop f.offset).take (P.cellsOf f.type))) = some ys' := by
                    rw [List.mapM_cons] at hy
                    cases hfl : (fl.mapM fun f => DataW.trod enc P w 0 (fun _ => true) held fuel f.type ((cs.drop f.offset).take (P.cellsOf f.type))) with
                    | none => rw [hfl] at hy; rw [hq] at hy; simp at hy
                    | some ys' => exact ⟨ys', rfl⟩
                  obtain ⟨ys', hys'⟩ := hy'
                  have hF2 := ih (o + lf.length) r' ys' hr' hys'
                  have e : (cs.drop o).take (lf ++ r').length = (cs.drop o).take lf.length ++ (cs.drop (o + lf.length)).take r'.length := by
                    rw [List.length_append, List.take_add, List.drop_drop]
                  rw [e]
                  exact hF.append hF2
                · cases hr
              · cases hr
          have := key fs.toList 0 ls' xs hls hxs
          rw [List.drop_zero, List.take_of_length_le (by omega)] at this
          exact this
        · cases hl
      · cases hl
    · cases hl
end Go.Fx
/- From a slice that came in to its rows. -/
namespace Go.Fx
open Go.ChangeShapes Go.WideShapes Go.ChangeAt Go.RowKit
variable {P : Program}

def OkK : K → Int → Prop
  | .f k, x => OkF k x
  | .i k, n => k.has n
  | .b, n => n = 0 ∨ n = 1

def numK : K → Value → Int
  | .f k, .float _ b => (cf k b : Nat)
  | .i _, .int _ n => n
  | .b, .bool b => match b with | true => 1 | false => 0
  | _, _ => 0

theorem numK_ok {kd : K} {c : Value} (h : KO kd c) : KR kd (numK kd c) c ∧ OkK kd (numK kd c) := by
  cases kd with
  | f k => obtain ⟨b, rfl, hb⟩ := h; exact ⟨⟨b, rfl, rfl⟩, b, rfl, hb⟩
  | i k => obtain ⟨n, rfl, hn⟩ := h; exact ⟨rfl, hn⟩
  | b => obtain ⟨b, rfl⟩ := h; exact ⟨⟨b, rfl, rfl⟩, by cases b <;> simp [numK, OkK]⟩

/-- Rows of an argument. -/
structure RowsOK (ks : List K) (xs : List (List Int)) : Prop where
  len : xs.length ≤ 9223372036854775807
  row : ∀ r ∈ xs, r.length = ks.length ∧ ∀ o kd, ks[o]? = some kd → OkK kd (r.getD o 0)

theorem leaf_sl {w : World} {c : Value} {ks : List K} (h : LeafR w (.sl ks) c) : ∃ (pl : Pl) (xs : List (List Int)), RowsOK ks xs ∧ (∀ (ι : Nat → Pl) (S : Nat → Shp) (id : Nat), ι id = pl → S id = .rows ks xs.length → AR ι S (.sl id) c) ∧
    (∀ (ι : Nat → Pl) (S : Nat → Shp) (id : Nat), ι id = pl → ObR ι S w id ⟨false, .rows ks xs⟩) := by
  rcases h with ⟨a, rfl⟩ | ⟨b, base, n, cap, rfl, hlc, hcm, hpos, blk, ty, fz, hh, hsz, hcell⟩
  · refine ⟨.empty, [], ⟨by simp, fun r hr => by cases hr⟩, fun ι S id hι hS => ⟨ks, 0, hS, .inl ⟨hι, rfl, a, rfl⟩⟩, fun ι S id hι => .inl ⟨hι, rfl⟩⟩
  · have hml : maxLen = 9223372036854775807 := by decide
    refine ⟨.on b base (cap * ks.length), (List.range n).map fun i => (List.range ks.length).map fun o => numK (ks.getD o .b) ((blk[base + i * ks.length + o]?).getD undef), ⟨by simp; omega, fun r hr => ?_⟩, fun ι S id hι hS => ?_, fun ι S id hι => ?_⟩
    · rw [List.mem_map] at hr
      obtain ⟨i, hi, rfl⟩ := hr
      rw [List.mem_range] at hi
      refine ⟨by simp, fun o kd ho => ?_⟩
      have hol := (List.getElem?_eq_some_iff.1 ho).1
      obtain ⟨v, hv, hk⟩ := hcell i (by omega) o kd ho
      have e : ((List.range ks.length).map fun o => numK (ks.getD o .b) ((blk[base + i * ks.length + o]?).getD undef)).getD o 0 = numK kd v := by
        rw [List.getD_eq_getElem?_getD, List.getElem?_map, List.getElem?_range hol]
        simp only [Option.map_some, Option.getD_some, hv]
        rw [List.getD_eq_getElem?_getD, ho]; rfl
      rw [e]
      exact (numK_ok hk).2
    · refine ⟨ks, n, ?_, .inr ⟨b, base, cap * ks.length, cap, hι, rfl, hlc, Nat.le_refl _, hcm⟩⟩
      rw [hS]; simp
    · refine .inr ⟨b, base, cap * ks.length, blk, ty, fz, hι, hh, hsz, (fun h => nomatch h), fun e row he => ?_⟩
      rw [List.getElem?_map] at he
      cases hr : (List.range n)[e]? with
      | none => rw [hr] at he; cases he
      | some i =>
        rw [hr] at he
        simp only [Option.map_some, Option.some.injEq] at he
        subst he
        have hen : e < n := by have := (List.getElem?_eq_some_iff.1 hr).1; simpa using this
        have hie : i = e := by rw [List.getElem?_range hen] at hr; exact (Option.some.inj hr).symm
        subst hie
        refine ⟨by simp, fun o kd ho => ?_⟩
        have hol := (List.getElem?_eq_some_iff.1 ho).1
        obtain ⟨v, hv, hk⟩ := hcell i (by omega) o kd ho
        refine ⟨v, hv, ?_⟩
        have e : ((List.range ks.length).map fun o => numK (ks.getD o .b) ((blk[base + i * ks.length + o]?).getD undef)).getD o 0 = numK kd v := by
          rw [List.getD_eq_getElem?_getD, List.getElem?_map, List.getElem?_range hol]
          simp only [Option.map_some, Option.getD_some, hv]
          rw [List.getD_eq_getElem?_getD, ho]; rfl
        rw [e]
        exact (numK_ok hk).1

theorem hr_one {w : World} {pl : Pl} {ob : Ob} (h : ∀ (ι : Nat → Pl) (S : Nat → Shp) (id : Nat), ι id = pl → ObR ι S w id ob) (ι : Nat → Pl) (h0 : ι 0 = pl) : HR ι [ob] w := fun id ob' hi _ => by
  cases id with
  | zero => simp at hi; subst hi; exact h _ _ _ h0
  | succ id => simp at hi

/-- Places of a few objects. -/
def plc : List Pl → Nat → Pl
  | [], _ => .off
  | p :: _, 0 => p
  | _ :: t, n + 1 => plc t n

theorem hr_nil {w : World} {ι : Nat → Pl} : ∀ (k : Nat) (h : List Ob), h.length ≤ k → ∀ id ob, h[id]? = some ob → k ≤ id → ObR ι (shp h) w id ob := fun k h hl id ob hi hk => by
  have := (List.getElem?_eq_some_iff.1 hi).1
  omega

/-- All objects of an argument list, one by one. -/
def HRs (w : World) (ι : Nat → Pl) (S : Nat → Shp) : Nat → List Ob → Prop
  | _, [] => True
  | n, ob :: t => ObR ι S w n ob ∧ HRs w ι S (n + 1) t

theorem HRs_get {w : World} {ι : Nat → Pl} {S : Nat → Shp} : ∀ {l : List Ob} {n : Nat}, HRs w ι S n l → ∀ (i : Nat) (ob : Ob), l[i]? = some ob → ObR ι S w (n + i) ob
  | [], _, _, i, ob, h => by simp at h
  | o :: t, n, h, 0, ob, hi => by simp at hi; subst hi; exact h.1
  | o :: t, n, h, i + 1, ob, hi => by
    have := HRs_get h.2 i ob (by simpa using hi)
    rwa [show n + 1 + i = n + (i + 1) by omega] at this

theorem hr_of {w : World} {ι : Nat → Pl} {l : List Ob} (h : HRs w ι (shp l) 0 l) : HR ι l w := fun id ob hi _ => by
  have := HRs_get h id ob hi
  rwa [Nat.zero_add] at this

def isStructB (P : Program) (t : TypeId) : Bool := match P.underlying t with
  | some (.struct _) => true
  | some (.array _ _) => true
  | _ => false

theorem agg_of {w : World} {r : Reach} {b0 : Nat} {t : TypeId} {v : Value} (hk : isStructB P t = true) (h : Value.okWide P w r b0 t v) : ∃ cs, v = .agg cs := by
  unfold isStructB at hk
  unfold Value.okWide at h
  split at hk
  · rename_i hu; rw [hu] at h; obtain ⟨cs, rfl, _⟩ := h; exact ⟨cs, rfl⟩
  · rename_i hu; rw [hu] at h; obtain ⟨cs, rfl, _⟩ := h; exact ⟨cs, rfl⟩
  · cases hk

def isOneB (P : Program) (t : TypeId) : Bool := match P.underlying t with
  | some (.slice _) => true
  | some (.float _) => true
  | some (.int _) => true
  | some .bool => true
  | _ => false

theorem one_of {w : World} {r : Reach} {b0 : Nat} {t : TypeId} {v : Value} (hk : isOneB P t = true) (h : Value.okWide P w r b0 t v) : v.cells.toList = [v] := by
  unfold isOneB at hk
  unfold Value.okWide at h
  split at hk
  · rename_i e hu
    obtain ⟨a, n, c, rfl⟩ := okWide_slice hu (by unfold Value.okWide; exact h)
    rfl
  · rename_i k hu
    rw [hu] at h
    obtain ⟨b, rfl, _⟩ := cell_KO (k := .f k) (by unfold kindOf; rw [hu]) h
    rfl
  · rename_i k hu
    rw [hu] at h
    obtain ⟨b, rfl, _⟩ := cell_KO (k := .i k) (by unfold kindOf; rw [hu]) h
    rfl
  · rename_i hu
    rw [hu] at h
    obtain ⟨b, rfl⟩ := cell_KO (k := .b) (by unfold kindOf; rw [hu]) h
    rfl
  · cases hk
end Go.Fx
