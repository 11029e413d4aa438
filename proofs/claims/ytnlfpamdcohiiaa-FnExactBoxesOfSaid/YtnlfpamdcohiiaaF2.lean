/- What the other texts of this claim stand on: an evaluator of loaded code, and floats. -/
import Derived.Test.YtnlfpamdcohiiaaF1
/- Calls: a callee sees its arguments' objects under numbers of its own. -/
namespace Go.Fx
variable {P : Program} {ty : Nat → Option TI} {sl : List V} {hp : List Ob}

def CallsV (P : Program) (f : FuncId) (cs : Array Value) (w : World) (R : Value → World → Prop) : Prop :=
  match (callFunc f cs).run P w with
  | .ok (.enter g as) w1 => Calls P g as w1 fun e w' => ∃ c, e = .returned c ∧ R c w'
  | .ok (.value c) w' => R c w'
  | _ => False

theorem CallsV.mono {f : FuncId} {cs : Array Value} {w : World} {R R' : Value → World → Prop} (h : CallsV P f cs w R) (hr : ∀ c w', R c w' → R' c w') : CallsV P f cs w R' := by
  unfold CallsV at *
  split
  · rename_i g as w1 he
    rw [he] at h
    exact h.mono fun e w' ⟨c, h1, h2⟩ => ⟨c, h1, hr c w' h2⟩
  · rename_i c w1 he
    rw [he] at h
    exact hr _ _ h
  · rename_i h1 h2
    split at h
    · rename_i he; exact absurd he (h1 _ _ _)
    · rename_i he; exact absurd he (h2 _ _)
    · exact h

def Holds (P : Program) (f : FuncId) (args : List V) (h : List Ob) (r : V) (news : List Ob) : Prop :=
  ∀ (ι : Nat → Pl) (w : World) (cs : Array Value), F2 (VR ι (shp h)) args cs.toList → HR ι h w →
    CallsV P f cs w fun c w' => ∃ ι', Grow ι ι' h news w w' ∧ VR ι' (shp (h ++ news)) r c ∧ HR ι' (h ++ news) w'

theorem wp_call {o : Oper} {a : Act} {w : World} {f : FuncId} {cs : Array Value} {R : Value → World → Prop} {K : Act → World → Prop} {Q : Exit → Act → World → Prop}
    (hr : (execOp a.eval o).run P w = (callFunc f cs).run P w) (h : CallsV P f cs w R) (hk : ∀ c w', R c w' → K (a.put o.dst c) w') : o.wp P a w K Q := by
  unfold Oper.wp
  rw [hr]
  unfold CallsV at h
  split at h
  · rename_i g as w1 he
    rw [he, Oper.upon_enter]
    exact h.mono fun e w' ⟨c, h1, h2⟩ => by subst h1; exact hk c w' h2
  · rename_i c w1 he
    rw [he, Oper.upon_value]
    exact hk _ _ h
  · exact h.elim

theorem idx_get : ∀ {i : Nat} {l : List Nat} {j : Nat}, idx i l = some j → l[j]? = some i
  | i, [], j, h => by simp [idx] at h
  | i, k :: t, j, h => by
    simp only [idx] at h
    cases hb : Nat.beq i k with
    | true => simp [hb] at h; subst h; rw [Nat.eq_of_beq_eq_true hb]; rfl
    | false =>
      simp only [hb] at h
      cases ht : idx i t with
      | none => simp [ht] at h
      | some n => simp [ht] at h; subst h; simpa using idx_get ht

def pickOb (hp : List Ob) (m : Nat → Option Nat) (ro : Bool) (i : Nat) : Ob :=
  match hp[i]? with
  | some ob => (match ro with | true => { ob.ren m with own := false } | false => ob.ren m)
  | none => ⟨false, .dead⟩

theorem pick_eq (hp : List Ob) (m : Nat → Option Nat) (ro : Bool) : ∀ ids, pick hp m ro ids = ids.map (pickOb hp m ro)
  | [] => rfl
  | i :: t => by simp only [pick, List.map_cons, pick_eq hp m ro t]; rfl

theorem shpOb_ren (m : Nat → Option Nat) (ob : Ob) : shpOb (ob.ren m) = shpOb ob := by
  obtain ⟨own, c⟩ := ob; cases c <;> rfl
theorem own_ren (m : Nat → Option Nat) (ob : Ob) : (ob.ren m).own = ob.own := by
  obtain ⟨own, c⟩ := ob; cases c <;> rfl

theorem ObR.ren {ι ι' : Nat → Pl} {S S' : Nat → Shp} {m : Nat → Option Nat} {w : World} {id id' : Nat} {ob : Ob} (h : ∀ i j, m i = some j → S i ≠ .no → ι' j = ι i ∧ S' j = S i) (hid : ι' id' = ι id)
    (hob : ObR ι S w id ob) : ObR ι' S' w id' (ob.ren m) := by
  obtain ⟨own, c⟩ := ob
  cases c with
  | dead => trivial
  | mp kd keys =>
    obtain ⟨b, es, clock, h1, h2, h3⟩ := hob
    exact ⟨b, es, clock, hid ▸ h1, h2, h3⟩
  | box cs =>
    obtain ⟨b, base, room, blk, t, fz, h1, h2, h3, h4, h5, h6⟩ := hob
    refine ⟨b, base, room, blk, t, fz, hid ▸ h1, h2, h3, by simpa using h4, h5, fun j a ha => ?_⟩
    rw [List.getElem?_map] at ha
    cases hc : cs[j]? with
    | none => simp [hc] at ha
    | some a' =>
      simp [hc] at ha
      subst ha
      obtain ⟨c, e1, e2⟩ := h6 j a' hc
      exact ⟨c, e1, AR.ren h e2⟩
  | rows ks xs =>
    rcases hob with ⟨h1, h2⟩ | ⟨b, base, room, blk, t, fz, h1, h2⟩
    · exact .inl ⟨hid ▸ h1, h2⟩
    · exact .inr ⟨b, base, room, blk, t, fz, hid ▸ h1, h2⟩

theorem ObR.ro {ι : Nat → Pl} {S : Nat → Shp} {w : World} {id : Nat} {ob : Ob} (h : ObR ι S w id ob) : ObR ι S w id { ob with own := false } := by
  obtain ⟨own, c⟩ := ob
  cases c with
  | dead => trivial
  | mp kd keys => exact h
  | box cs =>
    obtain ⟨b, base, room, blk, t, fz, h1, h2, h3, h4, h5, h6⟩ := h
    exact ⟨b, base, room, blk, t, fz, h1, h2, h3, h4, (fun h => by cases h), h6⟩
  | rows ks xs =>
    rcases h with h | ⟨b, base, room, blk, t, fz, h1, h2, h3, h4, h5⟩
    · exact .inl h
    · exact .inr ⟨b, base, room, blk, t, fz, h1, h2, h3, (fun h => by cases h), h5⟩

theorem pick_HR {ι : Nat → Pl} {w : World} {ids : List Nat} {ro : Bool} (h : HR ι hp w) (m : Nat → Option Nat) (hm : ∀ i j, m i = some j → ids[j]? = some i) :
    HR (fun j => match ids[j]? with | some i => ι i | none => .off) (pick hp m ro ids) w ∧
    ∀ i j, m i = some j → shp hp i ≠ .no → (fun j => match ids[j]? with | some i => ι i | none => Pl.off) j = ι i ∧ shp (pick hp m ro ids) j = shp hp i := by
  have key : ∀ i j, m i = some j → shp hp i ≠ .no → (fun j => match ids[j]? with | some i => ι i | none => Pl.off) j = ι i ∧ shp (pick hp m ro ids) j = shp hp i := by
    intro i j hij hn
    have hj := hm i j hij
    refine ⟨by simp [hj], ?_⟩
    unfold shp
    rw [pick_eq, List.getElem?_map, hj]
    unfold shp at hn
    cases ho : hp[i]? with
    | none => simp [ho] at hn
    | some ob =>
      simp only [Option.map_some, pickOb, ho]
      cases ro with
      | true => exact shpOb_ren m ob
      | false => exact shpOb_ren m ob
  refine ⟨fun j ob hj hoff => ?_, key⟩
  rw [pick_eq, List.getElem?_map] at hj
  cases hi : ids[j]? with
  | none => simp [hi] at hj
  | some i =>
    simp [hi] at hj hoff
    subst hj
    unfold pickOb
    cases ho : hp[i]? with
    | none => trivial
    | some ob0 =>
      have hob := h i ob0 ho hoff
      have hr := hob.ren (ι' := fun j => match ids[j]? with | some i => ι i | none => Pl.off) (S' := shp (pick hp m ro ids)) (id' := j) key (by simp [hi])
      cases ro with
      | true => exact hr.ro
      | false => exact hr

structure Views (ι ι' : Nat → Pl) (hp hp' : List Ob) (w : World) : Prop where
  pre : ∃ vs, hp' = hp ++ vs
  agree : ∀ id, id < hp.length → ι' id = ι id
  heap : HR ι' hp' w

theorem Views.refl {ι : Nat → Pl} {w : World} (h : HR ι hp w) : Views ι ι hp hp w := ⟨⟨[], by simp⟩, fun _ _ => rfl, h⟩

theorem Views.trans {ι ι' ι'' : Nat → Pl} {hp hp' hp'' : List Ob} {w : World} (h : Views ι ι' hp hp' w) (k : Views ι' ι'' hp' hp'' w) : Views ι ι'' hp hp'' w := by
  obtain ⟨⟨vs, rfl⟩, h2, _⟩ := h
  obtain ⟨⟨us, rfl⟩, k2, k3⟩ := k
  exact ⟨⟨vs ++ us, by simp⟩, fun id hid => (k2 id (by simp; omega)).trans (h2 id hid), k3⟩

theorem Views.ext {ι ι' : Nat → Pl} {hp hp' : List Ob} {w : World} (h : Views ι ι' hp hp' w) : ∀ id, shp hp id ≠ .no → ι' id = ι id ∧ shp hp' id = shp hp id := by
  obtain ⟨⟨vs, rfl⟩, h2, _⟩ := h
  intro id hn
  have hl := shp_lt hn
  exact ⟨h2 id hl, shp_append_lt hl⟩

theorem Views.one {ι : Nat → Pl} {w : World} (h : HR ι hp w) (ob : Ob) (pl : Pl)
    (hob : ∀ ι', (∀ id, id < hp.length → ι' id = ι id) → ι' hp.length = pl → ObR ι' (shp (hp ++ [ob])) w hp.length ob) :
    ∃ ι', Views ι ι' hp (hp ++ [ob]) w ∧ ι' hp.length = pl := by
  have hag : ∀ id, id < hp.length → (fun id => if id = hp.length then pl else ι id) id = ι id := fun id hid => by simp [Nat.ne_of_lt hid]
  refine ⟨fun id => if id = hp.length then pl else ι id, ⟨⟨[ob], rfl⟩, hag, fun id ob' hi ho => ?_⟩, by simp⟩
  rcases Nat.lt_or_ge id hp.length with hid | hid
  · rw [List.getElem?_append_left hid] at hi
    have ho' : ι id ≠ .off := by simpa [Nat.ne_of_lt hid] using ho
    refine (h id ob' hi ho').ext (fun id' hn => ?_) (hag id hid) (fun _ _ _ _ _ => rfl)
    have hl := shp_lt hn
    exact ⟨hag id' hl, shp_append_lt hl⟩
  · have hlt : id < (hp ++ [ob]).length := by
      rcases Nat.lt_or_ge id (hp ++ [ob]).length with h' | h'
      · exact h'
      · rw [List.getElem?_eq_none h'] at hi; cases hi
    have : id = hp.length := by simp at hlt; omega
    subst this
    simp at hi
    subst hi
    exact hob _ hag (by simp)

theorem viewA_sound {ι : Nat → Pl} {w : World} {lk : Option (List K)} {a a' : A} {hp' : List Ob} {c : Value} (hv : viewA hp lk a = (a', hp')) (h : HR ι hp w) (ha : AR ι (shp hp) a c) :
    ∃ ι', Views ι ι' hp hp' w ∧ AR ι' (shp hp') a' c := by
  unfold viewA at hv
  split at hv
  · cases lk with
    | none => simp at hv; obtain ⟨rfl, rfl⟩ := hv; exact ⟨ι, Views.refl h, ha⟩
    | some ks =>
      simp at hv
      obtain ⟨rfl, rfl⟩ := hv
      obtain ⟨ι', h1, h2⟩ := Views.one h ⟨true, .rows ks []⟩ .empty (fun ι' _ hon => .inl ⟨hon, rfl⟩)
      obtain ⟨ad, rfl⟩ := ha
      exact ⟨ι', h1, ks, 0, by rw [shp_new]; rfl, .inl ⟨h2, rfl, ad, rfl⟩⟩
  · rename_i id st len cap
    split at hv
    · rename_i own ks xs ho
      simp at hv
      obtain ⟨rfl, rfl⟩ := hv
      obtain ⟨ks2, n, h1, hle, ad, cp, rfl, _, hml, hlc, h2⟩ := ha
      rw [shp_of ho] at h1
      simp only [shpOb, Shp.rows.injEq] at h1
      obtain ⟨rfl, rfl⟩ := h1
      have hlen : ((xs.drop st).take len).length = len := by simp; omega
      have hsh : shp (hp ++ [⟨false, .rows ks ((xs.drop st).take len)⟩]) hp.length = .rows ks len := by
        rw [shp_new]; simp only [shpOb, hlen]
      rcases h2 with h0 | ⟨b, base, room, hι, rfl, hroom⟩
      · have h00 : len = 0 := by omega
        obtain ⟨ι', v1, v2⟩ := Views.one h ⟨false, .rows ks ((xs.drop st).take len)⟩ .empty (fun ι' _ hon => .inl ⟨hon, by simp [h00]⟩)
        exact ⟨ι', v1, ks, len, hsh, .inl ⟨v2, h00, ad, by rw [h0, h00]⟩⟩
      · have hob := h id _ ho (by rw [hι]; simp)
        rcases hob with ⟨h4, _⟩ | ⟨b', base', room', blk, t, fz, h4, h5, h6, _, h7⟩
        · rw [hι] at h4; cases h4
        · rw [hι] at h4; cases h4
          have hsum : st * ks.length ≤ room := by
            rw [Nat.add_mul] at hroom; omega
          obtain ⟨ι', v1, v2⟩ := Views.one h ⟨false, .rows ks ((xs.drop st).take len)⟩ (.on b (base + st * ks.length) (room - st * ks.length)) (fun ι' _ hon =>
            .inr ⟨_, _, _, blk, t, fz, hon, h5, by omega, (fun h => by cases h), fun e row he => by
              rw [take_drop_get] at he
              split at he
              · obtain ⟨g1, g2⟩ := h7 (st + e) row he
                refine ⟨g1, fun o kd hok => ?_⟩
                obtain ⟨c, g3, g4⟩ := g2 o kd hok
                refine ⟨c, ?_, g4⟩
                rw [← g3]; congr 1
                rw [Nat.add_mul]; omega
              · cases he⟩)
          exact ⟨ι', v1, ks, len, hsh, .inr ⟨_, _, _, cp, v2, rfl, hlc, by rw [Nat.add_mul] at hroom; omega, hml⟩⟩
    · simp at hv
      obtain ⟨rfl, rfl⟩ := hv
      exact ⟨ι, Views.refl h, trivial⟩
  · simp at hv
    obtain ⟨rfl, rfl⟩ := hv
    exact ⟨ι, Views.refl h, ha⟩
end Go.Fx

/- Calls of functions that change nothing. -/
namespace Go.Fx
variable {P : Program} {ty : Nat → Option TI} {sl : List V} {hp : List Ob}

theorem viewAs_sound {w : World} : ∀ {lks : List (Option (List K))} {as as' : List A} {hp hp' : List Ob} {ι : Nat → Pl} {cs : List Value}, viewAs hp lks as = (as', hp') → HR ι hp w → F2 (AR ι (shp hp)) as cs →
    ∃ ι', Views ι ι' hp hp' w ∧ F2 (AR ι' (shp hp')) as' cs := by
  have step : ∀ {lk : Option (List K)} {a a' : A} {as as' : List A} {hp hp1 hp' : List Ob} {ι : Nat → Pl} {c : Value} {cs : List Value}, viewA hp lk a = (a', hp1) → HR ι hp w → AR ι (shp hp) a c → F2 (AR ι (shp hp)) as cs →
      (∀ ι1, HR ι1 hp1 w → F2 (AR ι1 (shp hp1)) as cs → ∃ ι', Views ι1 ι' hp1 hp' w ∧ F2 (AR ι' (shp hp')) as' cs) →
      ∃ ι', Views ι ι' hp hp' w ∧ F2 (AR ι' (shp hp')) (a' :: as') (c :: cs) := by
    intro lk a a' as as' hp hp1 hp' ι c cs hv h ha has ih
    obtain ⟨ι1, v1, h1⟩ := viewA_sound hv h ha
    obtain ⟨ι2, v2, h2⟩ := ih ι1 v1.heap (has.imp fun _ _ h => h.ext v1.ext)
    exact ⟨ι2, v1.trans v2, h1.ext v2.ext, h2⟩
  intro lks as
  induction as generalizing lks with
  | nil =>
    intro as' hp hp' ι cs hv h hF
    have : viewAs hp lks [] = ([], hp) := by cases lks <;> rfl
    rw [this] at hv
    cases hv
    match cs, hF with
    | [], _ => exact ⟨ι, Views.refl h, trivial⟩
    | _ :: _, hF => exact hF.elim
  | cons a as ih =>
    intro as' hp hp' ι cs hv h hF
    match cs, hF with
    | [], hF => exact hF.elim
    | c :: cs, ⟨ha, has⟩ =>
      cases lks with
      | nil =>
        simp only [viewAs] at hv
        generalize h1 : viewA hp none a = q at hv
        obtain ⟨a1, hp1⟩ := q
        simp only at hv
        generalize h2 : viewAs hp1 [] as = q at hv
        obtain ⟨as1, hp2⟩ := q
        simp only [Prod.mk.injEq] at hv
        obtain ⟨rfl, rfl⟩ := hv
        exact step h1 h ha has fun ι1 g1 g2 => ih h2 g1 g2
      | cons lk lks =>
        simp only [viewAs] at hv
        generalize h1 : viewA hp lk a = q at hv
        obtain ⟨a1, hp1⟩ := q
        simp only at hv
        generalize h2 : viewAs hp1 lks as = q at hv
        obtain ⟨as1, hp2⟩ := q
        simp only [Prod.mk.injEq] at hv
        obtain ⟨rfl, rfl⟩ := hv
        exact step h1 h ha has fun ι1 g1 g2 => ih h2 g1 g2

theorem viewV_sound {w : World} {t : Nat} {v v' : V} {hp' : List Ob} {ι : Nat → Pl} {c : Value} (hv : viewV ty hp t v = (v', hp')) (h : HR ι hp w) (hr : VR ι (shp hp) v c) :
    ∃ ι', Views ι ι' hp hp' w ∧ VR ι' (shp hp') v' c := by
  cases v with
  | «at» a =>
    simp only [viewV] at hv
    generalize h2 : viewAs hp (lksOf ty t) [a] = q at hv
    obtain ⟨as1, hp2⟩ := q
    obtain ⟨ι', v1, v2⟩ := viewAs_sound h2 h (cs := [c]) ⟨hr, trivial⟩
    match as1, v2 with
    | [a1], ⟨v2, _⟩ =>
      simp only [Prod.mk.injEq] at hv
      obtain ⟨rfl, rfl⟩ := hv
      exact ⟨ι', v1, v2⟩
    | [], v2 => exact v2.elim
    | _ :: _ :: _, ⟨_, v2⟩ => exact v2.elim
  | agg as =>
    simp only [viewV] at hv
    generalize h2 : viewAs hp (lksOf ty t) as = q at hv
    obtain ⟨as1, hp2⟩ := q
    simp only [Prod.mk.injEq] at hv
    obtain ⟨rfl, rfl⟩ := hv
    obtain ⟨cs, rfl, hF⟩ := hr
    obtain ⟨ι', v1, v2⟩ := viewAs_sound h2 h hF
    exact ⟨ι', v1, cs, rfl, v2⟩
  | tup xs =>
    simp only [viewV, Prod.mk.injEq] at hv
    obtain ⟨rfl, rfl⟩ := hv
    exact ⟨ι, Views.refl h, hr⟩

theorem viewVs_sound {w : World} : ∀ {ts : List Nat} {vs vs' : List V} {hp hp' : List Ob} {ι : Nat → Pl} {cs : List Value}, viewVs ty hp ts vs = (vs', hp') → HR ι hp w → F2 (VR ι (shp hp)) vs cs →
    ∃ ι', Views ι ι' hp hp' w ∧ F2 (VR ι' (shp hp')) vs' cs := by
  intro ts vs
  induction vs generalizing ts with
  | nil =>
    intro vs' hp hp' ι cs hv h hF
    have : viewVs ty hp ts [] = ([], hp) := by cases ts <;> rfl
    rw [this] at hv
    cases hv
    match cs, hF with
    | [], _ => exact ⟨ι, Views.refl h, trivial⟩
    | _ :: _, hF => exact hF.elim
  | cons v vs ih =>
    intro vs' hp hp' ι cs hv h hF
    match cs, hF with
    | [], hF => exact hF.elim
    | c :: cs, ⟨ha, has⟩ =>
      cases ts with
      | nil =>
        simp only [viewVs] at hv
        generalize h2 : viewVs ty hp [] vs = q at hv
        obtain ⟨vs1, hp2⟩ := q
        simp only [Prod.mk.injEq] at hv
        obtain ⟨rfl, rfl⟩ := hv
        obtain ⟨ι', v1, v2⟩ := ih h2 h has
        exact ⟨ι', v1, VR.ext v1.ext ha, v2⟩
      | cons t ts =>
        simp only [viewVs] at hv
        generalize h1 : viewV ty hp t v = q at hv
        obtain ⟨a1, hp1⟩ := q
        simp only at hv
        generalize h2 : viewVs ty hp1 ts vs = q at hv
        obtain ⟨vs1, hp2⟩ := q
        simp only [Prod.mk.injEq] at hv
        obtain ⟨rfl, rfl⟩ := hv
        obtain ⟨ι1, v1, v2⟩ := viewV_sound h1 h ha
        obtain ⟨ι2, w1, w2⟩ := ih h2 v1.heap (has.imp fun _ _ h => VR.ext v1.ext h)
        exact ⟨ι2, v1.trans w1, VR.ext w1.ext v2, w2⟩

theorem backId_lt {ids : List Nat} {n0 j id : Nat} (h : backId ids n0 j = some id) (hj : j < ids.length) : ids[j]? = some id ∧ id < n0 := by
  unfold backId at h
  have : Nat.blt j ids.length = true := by simpa [Nat.blt_eq] using hj
  rw [this] at h
  simp only at h
  cases hi : ids[j]? with
  | none => simp [hi] at h
  | some i =>
    simp only [hi] at h
    cases hb : Nat.blt i n0 with
    | false => simp [hb] at h
    | true => simp [hb] at h; subst h; exact ⟨rfl, by simpa [Nat.blt_eq] using hb⟩

theorem backId_ge {ids : List Nat} {n0 j id : Nat} (h : backId ids n0 j = some id) (hj : ids.length ≤ j) : id = n0 + (j - ids.length) := by
  unfold backId at h
  have : Nat.blt j ids.length = false := by
    cases hb : Nat.blt j ids.length with
    | false => rfl
    | true => rw [Nat.blt_eq] at hb; omega
  rw [this] at h
  simp at h
  exact h.symm

theorem back_sound {ι ιT ι2' : Nat → Pl} {w w' : World} {hpT : List Ob} {ids : List Nat} {ro : Bool} {m : Nat → Option Nat} {news : List Ob} {r : V} {c : Value} (h : HR ι hp w) (hv : Views ι ιT hp hpT w)
    (hg : Grow (fun j => match ids[j]? with | some i => ιT i | none => .off) ι2' (pick hpT m ro ids) news w w') (hr : VR ι2' (shp (pick hpT m ro ids ++ news)) r c) (hh : HR ι2' (pick hpT m ro ids ++ news) w') :
    ∃ ι', Grow ι ι' hp (news.map (Ob.ren (backId ids hp.length))) w w' ∧ VR ι' (shp (hp ++ news.map (Ob.ren (backId ids hp.length)))) (r.ren (backId ids hp.length)) c ∧
      HR ι' (hp ++ news.map (Ob.ren (backId ids hp.length))) w' := by
  have hlen : (pick hpT m ro ids).length = ids.length := by rw [pick_eq]; simp
  have hge : ∀ id, hp.length ≤ id → (hp ++ news.map (Ob.ren (backId ids hp.length)))[id]? = ((pick hpT m ro ids ++ news)[ids.length + (id - hp.length)]?).map (Ob.ren (backId ids hp.length)) := by
    intro id hid
    rw [List.getElem?_append_right hid, List.getElem?_append_right (by rw [hlen]; omega), hlen, List.getElem?_map]
    rw [show ids.length + (id - hp.length) - ids.length = id - hp.length by omega]
  obtain ⟨ι', hlt, hgt⟩ : ∃ ι' : Nat → Pl, (∀ id, id < hp.length → ι' id = ι id) ∧ (∀ id, hp.length ≤ id → ι' id = ι2' (ids.length + (id - hp.length))) :=
    ⟨fun id => if id < hp.length then ι id else ι2' (ids.length + (id - hp.length)), fun id hid => by simp [hid], fun id hid => by simp [Nat.not_lt.2 hid]⟩
  have hcorr : ∀ j id, backId ids hp.length j = some id → shp (pick hpT m ro ids ++ news) j ≠ .no →
      ι' id = ι2' j ∧ shp (hp ++ news.map (Ob.ren (backId ids hp.length))) id = shp (pick hpT m ro ids ++ news) j := by
    intro j id hb hn
    rcases Nat.lt_or_ge j ids.length with hj | hj
    · obtain ⟨h1, h2⟩ := backId_lt hb hj
      obtain ⟨⟨vs, rfl⟩, hag, _⟩ := hv
      refine ⟨?_, ?_⟩
      · rw [hlt id h2, hg.agree j (by rw [hlen]; exact hj)]
        simp only [h1]
        exact (hag id h2).symm
      · rw [shp_append_lt h2, shp_append_lt (by rw [hlen]; exact hj)]
        unfold shp
        rw [pick_eq, List.getElem?_map, h1]
        simp only [Option.map_some, pickOb]
        rw [List.getElem?_append_left h2]
        cases ho : hp[id]? with
        | none => rw [List.getElem?_eq_none_iff] at ho; omega
        | some ob =>
          cases ro with
          | true => exact (shpOb_ren m ob).symm
          | false => exact (shpOb_ren m ob).symm
    · have := backId_ge hb hj
      subst this
      refine ⟨?_, ?_⟩
      · rw [hgt _ (by omega)]
        rw [show ids.length + (hp.length + (j - ids.length) - hp.length) = j by omega]
      · unfold shp
        rw [hge _ (by omega), show ids.length + (hp.length + (j - ids.length) - hp.length) = j by omega]
        cases (pick hpT m ro ids ++ news)[j]? with
        | none => rfl
        | some ob => exact shpOb_ren _ ob
  refine ⟨ι', ⟨hlt, hg.wx, ?_, ?_⟩, VR.ren hcorr hr, ?_⟩
  · intro i oi b base room hi hoi hl hon
    rw [hge i hi] at hoi
    rw [hgt i hi] at hon
    cases ho : (pick hpT m ro ids ++ news)[ids.length + (i - hp.length)]? with
    | none => simp [ho] at hoi
    | some ob =>
      simp [ho] at hoi
      subst hoi
      exact hg.fresh _ ob b base room (by rw [hlen]; omega) ho (by unfold Ob.live at *; rwa [shpOb_ren] at hl) hon
  · intro i j oi oj b base room b' base' room' hi hj hij hoi hoj hown hli hlj hon hon'
    rw [hge i hi] at hoi
    rw [hge j hj] at hoj
    rw [hgt i hi] at hon
    rw [hgt j hj] at hon'
    cases ho : (pick hpT m ro ids ++ news)[ids.length + (i - hp.length)]? with
    | none => simp [ho] at hoi
    | some ob =>
      cases ho' : (pick hpT m ro ids ++ news)[ids.length + (j - hp.length)]? with
      | none => simp [ho'] at hoj
      | some ob' =>
        simp [ho] at hoi
        simp [ho'] at hoj
        subst hoi; subst hoj
        unfold Ob.live at *
        rw [shpOb_ren] at hli hlj
        rw [own_ren] at hown
        exact hg.inj _ _ ob ob' b base room b' base' room' (by rw [hlen]; omega) (by rw [hlen]; omega) (by omega) ho ho' hown hli hlj hon hon'
  · intro id ob hi hoff
    rcases Nat.lt_or_ge id hp.length with hid | hid
    · rw [List.getElem?_append_left hid] at hi
      rw [hlt id hid] at hoff
      refine (h id ob hi hoff).ext (fun id' hn => ?_) (hlt id hid) (fun b _ _ _ hb => hg.wx.block b hb)
      have hl := shp_lt hn
      exact ⟨hlt id' hl, shp_append_lt hl⟩
    · rw [hge id hid] at hi
      rw [hgt id hid] at hoff
      cases ho : (pick hpT m ro ids ++ news)[ids.length + (id - hp.length)]? with
      | none => simp [ho] at hi
      | some ob' =>
        simp [ho] at hi
        subst hi
        exact (hh _ ob' ho hoff).ren hcorr (hgt id hid)

theorem F2.ren_list {ι ι' : Nat → Pl} {S S' : Nat → Shp} {m : Nat → Option Nat} (h : ∀ id j, m id = some j → S id ≠ .no → ι' j = ι id ∧ S' j = S id) {vs : List V} {cs : List Value} (hF : F2 (VR ι S) vs cs) : F2 (VR ι' S') (vs.map (V.ren m)) cs :=
  F2.map_left (f := V.ren m) (fun _ _ hv => VR.ren h hv) hF

theorem call_ro {f : FuncId} {tys : List Nat} {args args1 : List V} {hpT : List Ob} {ids : List Nat} {r : V} {news : List Ob} (hview : viewVs ty hp tys args = (args1, hpT))
    (hold : Holds P f (args1.map (V.ren fun i => idx i ids)) (pick hpT (fun i => idx i ids) true ids) r news) {ι : Nat → Pl} {w : World} {cs : Array Value} (hargs : F2 (VR ι (shp hp)) args cs.toList) (h : HR ι hp w) :
    CallsV P f cs w fun c w' => ∃ ι', Grow ι ι' hp (news.map (Ob.ren (backId ids hp.length))) w w' ∧ VR ι' (shp (hp ++ news.map (Ob.ren (backId ids hp.length)))) (r.ren (backId ids hp.length)) c ∧
      HR ι' (hp ++ news.map (Ob.ren (backId ids hp.length))) w' := by
  obtain ⟨ιT, hv, hargs1⟩ := viewVs_sound hview h hargs
  obtain ⟨hh2, hcor⟩ := pick_HR (ro := true) hv.heap (fun i => idx i ids) (fun i j hij => idx_get hij)
  have hargs2 := F2.ren_list hcor hargs1
  exact (hold _ w cs hargs2 hh2).mono fun c w' ⟨ι2', hg, hr, hhr⟩ => back_sound h hv hg hr hhr
end Go.Fx

/- A whole state, abstract and real; stores and appends. -/
namespace Go.Fx
variable {P : Program} {ty : Nat → Option TI} {sl : List V} {hp : List Ob}

structure Beg where
  w0 : World
  ι0 : Nat → Pl
  h0 : List Ob

def Beg.mine (g : Beg) (b : Nat) : Prop := ∃ (id : Nat) (ob : Ob) (base room : Nat), g.h0[id]? = some ob ∧ ob.own = true ∧ ob.live ∧ g.ι0 id = .on b base room

structure Rel (g : Beg) (ι : Nat → Pl) (st : St) (a : Act) (w : World) : Prop where
  slots : F2 (VR ι (shp st.hp)) st.sl a.tmps.toList
  defers : a.defers = []
  heap : HR ι st.hp w
  inj : INJ ι st.hp
  keep : ∀ id : Nat, id < g.h0.length → ι id = g.ι0 id
  flag : ∀ (id : Nat) (ob : Ob), g.h0[id]? = some ob → ∃ ob', st.hp[id]? = some ob' ∧ ob'.own = ob.own ∧ (shpOb ob' = shpOb ob ∨ shpOb ob' = .no)
  os : w.os = g.w0.os
  tape : w.tape = g.w0.tape
  output : w.output = g.w0.output
  size : g.w0.heap.size ≤ w.heap.size
  block : ∀ k, k < g.w0.heap.size → ¬ g.mine k → w.heap[k]? = g.w0.heap[k]?
  fresh : ∀ (id : Nat) (ob : Ob) (b base room : Nat), g.h0.length ≤ id → st.hp[id]? = some ob → ob.live → ι id = .on b base room → g.w0.heap.size ≤ b ∨ g.mine b

theorem Rel.len {g : Beg} {ι : Nat → Pl} {st : St} {a : Act} {w : World} (h : Rel g ι st a w) : g.h0.length ≤ st.hp.length := by
  rcases Nat.lt_or_ge st.hp.length g.h0.length with hl | hl
  · obtain ⟨ob', h1, _⟩ := h.flag st.hp.length _ (List.getElem?_eq_getElem hl)
    rw [List.getElem?_eq_none (Nat.le_refl _)] at h1; cases h1
  · exact hl

theorem lt_of_HR {ι : Nat → Pl} {w : World} (h : HR ι hp w) {id : Nat} {ob : Ob} {b base room : Nat} (ho : hp[id]? = some ob) (hl : ob.live) (hι : ι id = .on b base room) : b < w.heap.size := by
  have := h id ob ho (by rw [hι]; simp)
  obtain ⟨own, c⟩ := ob
  cases c with
  | dead => exact absurd rfl hl
  | mp kd keys => obtain ⟨b', es, clock, h1, h2, _⟩ := this; rw [hι] at h1; cases h1; exact lt_of_heap h2
  | box cs => obtain ⟨b', base', room', blk, t, fz, h1, h2, _⟩ := this; rw [hι] at h1; cases h1; exact lt_of_heap h2
  | rows ks xs =>
    rcases this with ⟨h1, _⟩ | ⟨b', base', room', blk, t, fz, h1, h2, _⟩
    · rw [hι] at h1; cases h1
    · rw [hι] at h1; cases h1; exact lt_of_heap h2

theorem put_tmps {a : Act} {d : Option Nat} {c : Value} : (a.put d c).tmps.toList = (match d with | some d => a.tmps.toList.set d c | none => a.tmps.toList) := by
  cases d <;> simp [Act.put]

theorem put_F2 {ι : Nat → Pl} {S : Nat → Shp} {a : Act} {d : Option Nat} {v : V} {c : Value} (h : F2 (VR ι S) sl a.tmps.toList) (hv : VR ι S v c) : F2 (VR ι S) (put sl d v) (a.put d c).tmps.toList := by
  rw [put_tmps]
  cases d with
  | none => exact h
  | some d => exact h.set hv d

theorem put_defers {a : Act} {d : Option Nat} {c : Value} : (a.put d c).defers = a.defers := by cases d <;> rfl

theorem Grow.inj' {ι ι' : Nat → Pl} {news : List Ob} {w w' : World} (g : Grow ι ι' hp news w w') (hh : HR ι hp w) (h : INJ ι hp) : INJ ι' (hp ++ news) := by
  intro i j oi oj b base room b' base' room' hi hj hij hown hli hlj hon hon'
  rcases Nat.lt_or_ge i hp.length with h1 | h1
  · rw [List.getElem?_append_left h1] at hi
    rw [g.agree i h1] at hon
    have hb := lt_of_HR hh hi hli hon
    rcases Nat.lt_or_ge j hp.length with h2 | h2
    · rw [List.getElem?_append_left h2] at hj
      rw [g.agree j h2] at hon'
      exact h i j oi oj b base room b' base' room' hi hj hij hown hli hlj hon hon'
    · have := g.fresh j oj b' base' room' h2 hj hlj hon'
      omega
  · rcases Nat.lt_or_ge j hp.length with h2 | h2
    · rw [List.getElem?_append_left h2] at hj
      rw [g.agree j h2] at hon'
      have hb := lt_of_HR hh hj hlj hon'
      have := g.fresh i oi b base room h1 hi hli hon
      omega
    · exact g.inj i j oi oj b base room b' base' room' h1 h2 hij hi hj hown hli hlj hon hon'

theorem Rel.calm {g : Beg} {ι ι' : Nat → Pl} {st : St} {a : Act} {w w' : World} {news : List Ob} {v : V} {c : Value} {d : Option Nat} (h : Rel g ι st a w) (hg : Grow ι ι' st.hp news w w')
    (hv : VR ι' (shp (st.hp ++ news)) v c) (hh : HR ι' (st.hp ++ news) w') : Rel g ι' ⟨put st.sl d v, st.hp ++ news⟩ (a.put d c) w' := by
  have hext : ∀ id, shp st.hp id ≠ .no → ι' id = ι id ∧ shp (st.hp ++ news) id = shp st.hp id := fun id hn => ⟨hg.agree id (shp_lt hn), shp_append_lt (shp_lt hn)⟩
  have hlen := h.len
  refine ⟨put_F2 (h.slots.imp fun _ _ hv => VR.ext hext hv) hv, by rw [put_defers]; exact h.defers, hh, hg.inj' h.heap h.inj, fun id hid => ?_, fun id ob ho => ?_, hg.wx.os.trans h.os, hg.wx.tape.trans h.tape, hg.wx.output.trans h.output,
    Nat.le_trans h.size hg.wx.size, fun k hk hn => ?_, fun id ob b base room hid ho hl hon => ?_⟩
  · rw [hg.agree id (by omega)]; exact h.keep id hid
  · obtain ⟨ob', h1, h2⟩ := h.flag id ob ho
    have hlt : id < st.hp.length := (List.getElem?_eq_some_iff.1 h1).1
    exact ⟨ob', by rw [List.getElem?_append_left hlt]; exact h1, h2⟩
  · rw [hg.wx.block k (Nat.lt_of_lt_of_le hk h.size)]; exact h.block k hk hn
  · rcases Nat.lt_or_ge id st.hp.length with h1 | h1
    · rw [List.getElem?_append_left h1] at ho
      rw [hg.agree id h1] at hon
      exact h.fresh id ob b base room hid ho hl hon
    · exact .inl (Nat.le_trans h.size (hg.fresh id ob b base room h1 ho hl hon))

def Fr (hp : List Ob) (ι : Nat → Pl) (t : Nat) (w w' : World) : Prop :=
  ∀ (j : Nat) (oj : Ob) (b base room : Nat), hp[j]? = some oj → j ≠ t → oj.live → ι j = .on b base room → w'.heap[b]? = w.heap[b]?

theorem V.cells_one {v : A} {cs : List A} (h : (V.at v).cells = some cs) : cs.length = 1 := by
  change (match v.known with | true => some [v] | false => none) = some cs at h
  cases hk : v.known with
  | true => rw [hk] at h; cases h; rfl
  | false => rw [hk] at h; cases h

def Fcell (o : Oper) (sl : List V) (hp : List Ob) (ι : Nat → Pl) (w w' : World) : Prop :=
  ∀ (t : TypeId) (x y : Operand) (id e off : Nat) (v : A), o.op = .store t x y → evA sl x = .at (.ptr id e off) → evA sl y = .at v → ∀ (b base room : Nat), ι id = .on b base room → ∀ (blk : Array Value) (tt : TypeId) (fz : Nat × Nat), w.heap[b]? = some (.cells blk tt fz) →
    ∃ blk' : Array Value, w'.heap[b]? = some (.cells blk' tt fz) ∧ ∀ j, j ≠ base + offs (shp hp id) e + off → blk'[j]? = blk[j]?

def FrX (o : Oper) (sl : List V) (hp : List Ob) (ι : Nat → Pl) (t : Nat) (w w' : World) : Prop := Fr hp ι t w w' ∧ Fcell o sl hp ι w w'

def EffOp (P : Program) (n0 : Nat) (o : Oper) (st st1 : St) : Prop :=
  ∀ (g : Beg) (ι : Nat → Pl) (a : Act) (w : World), g.h0.length = n0 → Rel g ι st a w → ∀ (K : Act → World → Prop) (Q : Exit → Act → World → Prop), (∀ ι' a' w', Rel g ι' st1 a' w' → (∀ t, tidOf o st.sl = some t → FrX o st.sl st.hp ι t w w') → K a' w') → o.wp P a w K Q

theorem CalmOp.eff {n0 : Nat} {o : Oper} {st : St} {v : V} {news : List Ob} (h : CalmOp P o st.sl st.hp v news) : EffOp P n0 o st ⟨put st.sl o.dst v, st.hp ++ news⟩ :=
  fun _ ι a w _ hr K Q hK => h ι a w (fun x _ => evA_VR hr.slots x) hr.heap K Q fun _ _ _ hg hv hh => hK _ _ _ (hr.calm hg hv hh) fun _ _ => ⟨fun _ _ _ _ _ hj _ hl hon => hg.wx.block _ (lt_of_HR hr.heap hj hl hon),
    fun _ _ _ _ _ _ _ _ _ _ b _ _ _ blk tt fz hb => ⟨blk, by rw [hg.wx.block b (Array.getElem?_eq_some_iff.1 hb).1]; exact hb, fun _ _ => rfl⟩⟩

theorem setFromA_length : ∀ (as : List A) (o : Nat) (r : List A), (setFromA r o as).length = r.length
  | [], _, _ => rfl
  | _ :: t, o, r => by simp [setFromA, setFromA_length t]

theorem setFromA_get : ∀ (as : List A) (o : Nat) (r : List A) (j : Nat), o + as.length ≤ r.length → (setFromA r o as)[j]? = if o ≤ j ∧ j < o + as.length then as[j - o]? else r[j]?
  | [], o, r, j, _ => by simp [setFromA]; intro h1 h2; omega
  | a :: t, o, r, j, h => by
    simp only [List.length_cons] at h
    rw [setFromA, setFromA_get t (o + 1) (r.set o a) j (by simp; omega)]
    by_cases h1 : o + 1 ≤ j ∧ j < o + 1 + t.length
    · rw [if_pos h1, if_pos (by simp; omega)]
      rw [show j - o = (j - (o + 1)) + 1 by omega]; simp
    · rw [if_neg h1]
      by_cases h2 : j = o
      · subst h2
        rw [if_pos (by simp)]
        have : j < r.length := by omega
        simp [this]
      · rw [if_neg (by simp; omega), List.getElem?_set_ne (fun h => h2 h.symm)]

theorem setFrom_length : ∀ (as : List Int) (o : Nat) (r : List Int), (setFrom r o as).length = r.length
  | [], _, _ => rfl
  | _ :: t, o, r => by simp [setFrom, setFrom_length t]

theorem setFrom_get : ∀ (as : List Int) (o : Nat) (r : List Int) (j : Nat), o + as.length ≤ r.length → (setFrom r o as)[j]? = if o ≤ j ∧ j < o + as.length then as[j - o]? else r[j]?
  | [], o, r, j, _ => by simp [setFrom]; intro h1 h2; omega
  | a :: t, o, r, j, h => by
    simp only [List.length_cons] at h
    rw [setFrom, setFrom_get t (o + 1) (r.set o a) j (by simp; omega)]
    by_cases h1 : o + 1 ≤ j ∧ j < o + 1 + t.length
    · rw [if_pos h1, if_pos (by simp; omega)]
      rw [show j - o = (j - (o + 1)) + 1 by omega]; simp
    · rw [if_neg h1]
      by_cases h2 : j = o
      · subst h2
        rw [if_pos (by simp)]
        have : j < r.length := by omega
        simp [this]
      · rw [if_neg (by simp; omega), List.getElem?_set_ne (fun h => h2 h.symm)]

def laid (blk : Array Value) (s : Nat) (vs : List Value) : Array Value := (blk.toList.take s ++ vs ++ blk.toList.drop (s + vs.length)).toArray

theorem laid_size {blk : Array Value} {s : Nat} {vs : List Value} (h : s + vs.length ≤ blk.size) : (laid blk s vs).size = blk.size := by
  simp [laid]; omega

theorem laid_get {blk : Array Value} {s : Nat} {vs : List Value} (h : s + vs.length ≤ blk.size) (j : Nat) : (laid blk s vs)[j]? = if s ≤ j ∧ j < s + vs.length then vs[j - s]? else blk[j]? := by
  unfold laid
  simp only [List.getElem?_toArray]
  by_cases h1 : j < s
  · rw [if_neg (by omega), List.append_assoc, List.getElem?_append_left (by simp; omega), List.getElem?_take, if_pos h1]
    simp
  · by_cases h2 : j < s + vs.length
    · rw [if_pos ⟨by omega, h2⟩, List.append_assoc, List.getElem?_append_right (by simp; omega), List.getElem?_append_left (by simp; omega)]
      congr 1; simp; omega
    · rw [if_neg (by omega), List.append_assoc, List.getElem?_append_right (by simp; omega), List.getElem?_append_right (by simp; omega), List.getElem?_drop]
      simp only [List.length_take, Array.length_toList]
      rw [show s + vs.length + (j - min s blk.size - vs.length) = j by omega]
      simp

theorem ones_length : ∀ ns, (ones ns).length = ns.length
  | [] => rfl
  | _ :: t => by simp [ones, ones_length t]

theorem ones_get : ∀ (ns : List Int) (j : Nat) (row : List Int), (ones ns)[j]? = some row → ∃ n, ns[j]? = some n ∧ row = [n]
  | [], j, row, h => by simp [ones] at h
  | n :: t, 0, row, h => by simp [ones] at h; exact ⟨n, rfl, h.symm⟩
  | n :: t, j + 1, row, h => by simp only [ones, List.getElem?_cons_succ] at h ⊢; exact ones_get t j row h

theorem arStore_eq {ks : List K} {xs : List (List Int)} {e o : Nat} {cells : List A} {ob : Ob} (h : arStore ks xs e o cells = some ob) :
    ∃ k0 ns, ks = [k0] ∧ e = 0 ∧ o = 0 ∧ xs.length = cells.length ∧ aInts (List.replicate cells.length k0) cells = some ns ∧ ob = ⟨true, .rows [k0] (ones ns)⟩ := by
  unfold arStore at h
  split at h
  · rename_i k0
    split at h
    · rename_i ns hb hn
      exact ⟨k0, ns, rfl, rfl, rfl, Nat.eq_of_beq_eq_true hb, hn, (Option.some.inj h).symm⟩
    · cases h
  · cases h

theorem storeOb_sound {ι : Nat → Pl} {w : World} {id e o : Nat} {ob ob' : Ob} {as : List A} {vs : List Value} {b base room : Nat} (hob : hp[id]? = some ob) (hh : HR ι hp w) (hι : ι id = .on b base room) (hin : inB (shp hp id) e)
    (hs : storeOb ob e o as = some ob') (hF : F2 (AR ι (shp hp)) as vs) :
    ob.own = true ∧ ob'.own = true ∧ shpOb ob' = shpOb ob ∧ ∃ blk t, w.heap[b]? = some (.cells blk t (0, 0)) ∧ base + offs (shp hp id) e + o + vs.length ≤ blk.size ∧
      ∀ w' : World, w'.heap[b]? = some (.cells (laid blk (base + offs (shp hp id) e + o) vs) t (0, 0)) → ObR ι (shp hp) w' id ob' := by
  have hobr := hh id ob hob (by rw [hι]; simp)
  have hSh := shp_of hob
  have hl := hF.length
  obtain ⟨own, c⟩ := ob
  unfold storeOb at hs
  cases own with
  | false => simp at hs
  | true =>
    cases h0 : Nat.blt 0 as.length with
    | false => simp [h0] at hs
    | true =>
    have has0 : 0 < as.length := by simpa [Nat.blt_eq] using h0
    simp only [h0] at hs
    refine ⟨rfl, ?_⟩
    cases c with
    | dead => simp at hs
    | mp kd keys => simp at hs
    | box cs =>
      simp only at hs
      cases hb : Nat.ble (o + as.length) cs.length with
      | false => simp only [hb] at hs; cases hs
      | true =>
        simp only [hb, Option.some.injEq] at hs
        subst hs
        have hle := Nat.le_of_ble_eq_true hb
        obtain ⟨b', base', room', blk, t, fz, h1, h2, h3, h4, h5, h6⟩ := hobr
        rw [hι] at h1; cases h1
        obtain rfl := h5 rfl
        rw [hSh]
        refine ⟨rfl, rfl, blk, t, h2, by simp only [shpOb, offs]; omega, fun w' hw' => ?_⟩
        have hsz : base + 0 + o + vs.length ≤ blk.size := by omega
        simp only [shpOb, offs] at hw'
        refine ⟨b, base, room, _, t, (0, 0), hι, hw', by rw [laid_size hsz]; exact h3, by rw [setFromA_length]; exact h4, fun _ => rfl, fun j a ha => ?_⟩
        rw [setFromA_get as o cs j hle] at ha
        rw [laid_get hsz]
        by_cases hj : o ≤ j ∧ j < o + as.length
        · rw [if_pos hj] at ha
          rw [if_pos (by omega)]
          obtain ⟨c, g1, g2⟩ := hF.get _ _ ha
          exact ⟨c, by rw [show base + j - (base + 0 + o) = j - o by omega]; exact g1, g2⟩
        · rw [if_neg hj] at ha
          rw [if_neg (by omega)]
          exact h6 j a ha
    | rows ks xs =>
      simp only at hs
      cases hn : aInts ((ks.drop o).take as.length) as with
      | none =>
        simp only [hn] at hs
        obtain ⟨k0, ns, rfl, rfl, rfl, hxl, hns, rfl⟩ := arStore_eq hs
        obtain ⟨l1, l2, l3⟩ := aInts_KR hns hF
        simp only [List.length_replicate] at l1 l2
        rcases hobr with ⟨h1, _⟩ | ⟨b', base', room', blk, t, fz, h1, h2, h3, h4, h5⟩
        · rw [hι] at h1; cases h1
        · rw [hι] at h1; cases h1
          obtain ⟨rfl, rfl, hroom⟩ := h4 rfl
          rw [hSh]
          simp only [shpOb, offs, ones_length]
          have hcellb : ∀ q, q < xs.length → q < blk.size := by
            intro q hq
            obtain ⟨_, hc0⟩ := h5 q xs[q] (List.getElem?_eq_getElem hq)
            obtain ⟨c, hc, _⟩ := hc0 0 k0 rfl
            have := (Array.getElem?_eq_some_iff.1 hc).1
            simp only [List.length_cons, List.length_nil] at this
            omega
          have hsz : 0 + 0 * [k0].length + 0 + vs.length ≤ blk.size := by
            have := hcellb (xs.length - 1) (by omega)
            omega
          refine ⟨trivial, by rw [hxl, l1], blk, t, h2, hsz, fun w' hw' => ?_⟩
          refine .inr ⟨b, 0, room, _, t, (0, 0), hι, hw', by rw [laid_size hsz]; exact h3, fun _ => ⟨rfl, rfl, by rw [laid_size hsz]; exact hroom⟩, fun e' row he' => ?_⟩
          obtain ⟨n, hn1, rfl⟩ := ones_get ns e' row he'
          refine ⟨rfl, fun q kd hq => ?_⟩
          match q, hq with
          | 0, hq =>
            simp only [List.getElem?_cons_zero, Option.some.injEq] at hq
            subst hq
            have he2 : e' < ns.length := (List.getElem?_eq_some_iff.1 hn1).1
            obtain ⟨c, g1, g2⟩ := l3 e' k0 (by rw [List.getElem?_replicate, if_pos (by omega)])
            refine ⟨c, ?_, ?_⟩
            · rw [laid_get hsz, if_pos (by simp; omega)]
              rw [show 0 + e' * [k0].length + 0 - (0 + 0 * [k0].length + 0) = e' by simp]; exact g1
            · rw [List.getD_eq_getElem?_getD, hn1] at g2; exact g2
          | q + 1, hq => simp at hq
      | some ns =>
        simp only [hn] at hs
        obtain ⟨l1, l2, l3⟩ := aInts_KR hn hF
        rcases hobr with ⟨h1, _⟩ | ⟨b', base', room', blk, t, fz, h1, h2, h3, h4, h5⟩
        · rw [hι] at h1; cases h1
        · rw [hι] at h1; cases h1
          obtain ⟨rfl, rfl, hroom⟩ := h4 rfl
          rw [hSh] at hin ⊢
          simp only [shpOb, inB] at hin
          simp only [shpOb, offs]
          have hrow : xs[e]? = some xs[e] := List.getElem?_eq_getElem hin
          obtain ⟨r1, r2⟩ := h5 e xs[e] hrow
          have hgd : xs.getD e [] = xs[e] := by rw [List.getD_eq_getElem?_getD, hrow]; rfl
          have hol : as.length ≤ ks.length - o ∧ (as.length = 0 ∨ o + as.length ≤ ks.length) := by
            simp only [List.length_take, List.length_drop] at l1 l2
            omega
          have hwhole : ∃ row', ob' = ⟨true, .rows ks (xs.set e row')⟩ ∧ row'.length = ks.length ∧ (∀ j, row'.getD j 0 = if o ≤ j ∧ j < o + as.length then ns.getD (j - o) 0 else xs[e].getD j 0) := by
            have hnl : ns.length = as.length := by omega
            cases hb : Nat.beq ns.length ks.length with
            | true =>
              simp only [hb, Option.some.injEq] at hs
              have he := Nat.eq_of_beq_eq_true hb
              refine ⟨ns, hs.symm, he, fun j => ?_⟩
              rcases Nat.eq_zero_or_pos ks.length with hk0 | hk0
              · have : as.length = 0 := by omega
                rw [if_neg (by omega)]
                have e1 : ns = [] := List.eq_nil_of_length_eq_zero (by omega)
                have e2 : xs[e] = [] := List.eq_nil_of_length_eq_zero (by omega)
                rw [e1, e2]
              · have ho0 : o = 0 := by omega
                subst ho0
                by_cases hj : j < as.length
                · rw [if_pos ⟨by omega, by omega⟩]; simp
                · rw [if_neg (by omega)]
                  rw [List.getD_eq_getElem?_getD, List.getD_eq_getElem?_getD, List.getElem?_eq_none (by omega), List.getElem?_eq_none (by omega)]
            | false =>
              simp only [hb, Option.some.injEq] at hs
              rw [hgd] at hs
              refine ⟨_, hs.symm, by rw [setFrom_length]; exact r1, fun j => ?_⟩
              rcases hol.2 with h0 | h0
              · have e1 : ns = [] := List.eq_nil_of_length_eq_zero (by omega)
                rw [e1, if_neg (by omega)]; rfl
              · rw [List.getD_eq_getElem?_getD, setFrom_get ns o xs[e] j (by omega), hnl]
                by_cases hj : o ≤ j ∧ j < o + as.length
                · rw [if_pos hj, if_pos hj, List.getD_eq_getElem?_getD]
                · rw [if_neg hj, if_neg hj, List.getD_eq_getElem?_getD]
          obtain ⟨row', rfl, hr1, hr2⟩ := hwhole
          have hcellb : ∀ q, q < ks.length → e * ks.length + q < blk.size := by
            intro q hq
            obtain ⟨c, hc, _⟩ := r2 q ks[q] (List.getElem?_eq_getElem hq)
            have := (Array.getElem?_eq_some_iff.1 hc).1
            omega
          have hsz : 0 + e * ks.length + o + vs.length ≤ blk.size := by
            have := hcellb (o + as.length - 1) (by omega)
            omega
          refine ⟨rfl, by simp, blk, t, h2, hsz, fun w' hw' => ?_⟩
          refine .inr ⟨b, 0, room, _, t, (0, 0), hι, hw', by rw [laid_size hsz]; exact h3, fun _ => ⟨rfl, rfl, by rw [laid_size hsz]; exact hroom⟩, fun e' row he' => ?_⟩
          rw [List.getElem?_set] at he'
          by_cases hee : e = e'
          · subst hee
            rw [if_pos rfl, if_pos hin] at he'
            cases he'
            refine ⟨hr1, fun q kd hq => ?_⟩
            have hqs : q < ks.length := (List.getElem?_eq_some_iff.1 hq).1
            rw [laid_get hsz, hr2 q]
            by_cases hj : o ≤ q ∧ q < o + as.length
            · rw [if_pos hj, if_pos (by omega)]
              obtain ⟨c, g1, g2⟩ := l3 (q - o) kd (by rw [List.getElem?_take, if_pos (by omega), List.getElem?_drop, show o + (q - o) = q by omega]; exact hq)
              exact ⟨c, by rw [show 0 + e * ks.length + q - (0 + e * ks.length + o) = q - o by omega]; exact g1, g2⟩
            · rw [if_neg hj, if_neg (by omega)]
              exact r2 q kd hq
          · rw [if_neg hee] at he'
            obtain ⟨s1, s2⟩ := h5 e' row he'
            refine ⟨s1, fun q kd hq => ?_⟩
            have hqs : q < ks.length := (List.getElem?_eq_some_iff.1 hq).1
            obtain ⟨c, g1, g2⟩ := s2 q kd hq
            refine ⟨c, ?_, g2⟩
            rw [laid_get hsz]
            have hdis : ¬ (0 + e * ks.length + o ≤ 0 + e' * ks.length + q ∧ 0 + e' * ks.length + q < 0 + e * ks.length + o + vs.length) := by
              rintro ⟨q1, q2⟩
              rcases Nat.lt_or_gt_of_ne hee with hlt | hgt
              · have := Nat.mul_le_mul_right ks.length hlt
                rw [Nat.succ_mul] at this
                omega
              · have := Nat.mul_le_mul_right ks.length hgt
                rw [Nat.succ_mul] at this
                omega
            rw [if_neg hdis]
            exact g1
def RelH (g : Beg) (ι : Nat → Pl) (hp : List Ob) (w : World) : Prop := Rel g ι ⟨[], hp⟩ { tmps := #[], defers := [] } w

theorem Rel.toH {g : Beg} {ι : Nat → Pl} {st : St} {a : Act} {w : World} (h : Rel g ι st a w) : RelH g ι st.hp w :=
  ⟨trivial, rfl, h.heap, h.inj, h.keep, h.flag, h.os, h.tape, h.output, h.size, h.block, h.fresh⟩

theorem RelH.rel {g : Beg} {ι : Nat → Pl} {st : St} {a : Act} {w : World} (h : RelH g ι st.hp w) (hs : F2 (VR ι (shp st.hp)) st.sl a.tmps.toList) (hd : a.defers = []) : Rel g ι st a w :=
  ⟨hs, hd, h.heap, h.inj, h.keep, h.flag, h.os, h.tape, h.output, h.size, h.block, h.fresh⟩

end Go.Fx

/- Stores and appends over a whole state. -/
namespace Go.Fx
variable {P : Program} {ty : Nat → Option TI} {sl : List V} {hp : List Ob}

theorem shp_set {id : Nat} {ob ob' : Ob} (ho : hp[id]? = some ob) (hs : shpOb ob' = shpOb ob) : shp (hp.set id ob') = shp hp := by
  funext j
  unfold shp
  by_cases h : id = j
  · subst h
    have hlt := (List.getElem?_eq_some_iff.1 ho).1
    rw [List.getElem?_set_self hlt, ho]
    exact hs
  · rw [List.getElem?_set_ne h]

theorem storeCells_run {w : World} {b s : Nat} {blk : Array Value} {t : TypeId} {vs : List Value} (hb : w.heap[b]? = some (.cells blk t (0, 0))) (hl : s + vs.length ≤ blk.size) (h1 : ∀ v ∈ vs, v.oneCell' = true) :
    (storeCells ⟨b, s, none⟩ vs 0).run P w = .ok () (w.setRow b (laid blk s vs)) := by
  have := run_storeCells_at P b s t vs 0 blk w hb (by simpa using hl) h1
  simpa [laid] using this

theorem live_of_in {id e : Nat} {ob : Ob} (ho : hp[id]? = some ob) (h : inB (shp hp id) e) : ob.live := by
  rw [shp_of ho] at h
  intro hn; rw [hn] at h; exact h

theorem Rel.apart {g : Beg} {ι : Nat → Pl} {st : St} {a : Act} {w : World} (h : Rel g ι st a w) {id : Nat} {ob : Ob} (ho : st.hp[id]? = some ob) (hown : ob.own = true) (hl : ob.live) {b base room : Nat} (hι : ι id = .on b base room) :
    g.w0.heap.size ≤ b ∨ g.mine b := by
  rcases Nat.lt_or_ge id g.h0.length with hid | hid
  · obtain ⟨ob1, h1, h2, h3⟩ := h.flag id _ (List.getElem?_eq_getElem hid)
    rw [ho] at h1; cases h1
    refine .inr ⟨id, _, base, room, List.getElem?_eq_getElem hid, by rw [← h2]; exact hown, ?_, by rw [← h.keep id hid]; exact hι⟩
    rcases h3 with h3 | h3
    · unfold Ob.live; rw [← h3]; exact hl
    · exact absurd h3 hl
  · exact h.fresh id ob b base room hid ho hl hι

theorem eff_store {n0 : Nat} {o : Oper} {t : TypeId} {x y : Operand} {id e off : Nat} {cs : List A} {i : TI} {ob ob' : Ob} {st : St} (hT : TyOK P ty) (ho : o.op = .store t x y) (hi : ty t = some i) (hx : evA st.sl x = .at (.ptr id e off)) (hy : (evA st.sl y).cells = some cs)
    (hl : cs.length = i.size) (hob : st.hp[id]? = some ob) (hs : storeOb ob e off cs = some ob') : EffOp P n0 o st ⟨put st.sl o.dst (.at .void), st.hp.set id ob'⟩ := by
  intro g ι a w hn0 h K Q hK
  have hvx := evA_VR h.slots x
  have hvy := evA_VR h.slots y
  rw [hx] at hvx
  obtain ⟨b, base, room, hι, ex, hin⟩ := hvx
  obtain ⟨hF, hone⟩ := V.cells_F2 hy hvy
  obtain ⟨how, how', hsh, blk, tt, hb, hle, hnew⟩ := storeOb_sound hob h.heap hι hin hs hF
  obtain ⟨inf, z, hinf, hsz, _⟩ := (hT t i hi).info
  have hcl : (a.eval y).cells.size = inf.size := by have := hF.length; simp at this; omega
  have hst := storeCells_run (P := P) hb hle hone
  have hS := shp_set hob hsh
  have hlive := live_of_in hob hin
  have hrun : (execOp a.eval o).run P w = .ok .skip (w.setRow b (laid blk (base + offs (shp st.hp id) e + off) (a.eval y).cells.toList)) := by
    simp [execOp, ho, ex, Instr.storeAt, Instr.sureAddr, storeVar, sizeOf, typeInfo, hinf, hcl, hst]
  unfold Oper.wp
  rw [hrun, Oper.upon_skip]
  have hap := h.apart hob how hlive hι
  have hlt := (List.getElem?_eq_some_iff.1 hob).1
  refine hK ι _ _ ⟨?_, by rw [put_defers]; exact h.defers, ?_, ?_, h.keep, ?_, h.os, h.tape, h.output, by simpa using h.size, ?_, ?_⟩ ?_
  · refine put_F2 ?_ rfl
    rw [hS]; exact h.slots
  · intro j oj hj hoff
    rw [hS]
    by_cases hji : id = j
    · subst hji
      rw [List.getElem?_set_self hlt] at hj
      cases hj
      exact hnew _ (setRow_heap w b blk _ tt (0, 0) hb)
    · rw [List.getElem?_set_ne hji] at hj
      by_cases hlj : oj.live
      · refine (h.heap j oj hj hoff).ext (fun _ _ => ⟨rfl, rfl⟩) rfl fun b' base' room' hb' _ => ?_
        exact setRow_other w b b' _ (fun e => h.inj id j ob oj b base room b' base' room' hob hj hji how hlive hlj hι hb' e.symm)
      · obtain ⟨own, c⟩ := oj
        cases c with
        | dead => trivial
        | mp kd keys => exact absurd (by simp [Ob.live, shpOb]) hlj
        | box cs => exact absurd (by simp [Ob.live, shpOb]) hlj
        | rows ks xs => exact absurd (by simp [Ob.live, shpOb]) hlj
  · intro i j oi oj b1 base1 room1 b2 base2 room2 hi' hj' hij hoi hli hlj h1 h2
    have aux : ∀ (k : Nat) (ok : Ob), (st.hp.set id ob')[k]? = some ok → ∃ ok', st.hp[k]? = some ok' ∧ ok'.own = ok.own ∧ shpOb ok' = shpOb ok := by
      intro k ok hk
      by_cases hki : id = k
      · subst hki
        rw [List.getElem?_set_self hlt] at hk
        cases hk
        exact ⟨ob, hob, by rw [how, how'], hsh.symm⟩
      · rw [List.getElem?_set_ne hki] at hk
        exact ⟨ok, hk, rfl, rfl⟩
    obtain ⟨oi', a1, a2, a3⟩ := aux i oi hi'
    obtain ⟨oj', c1, c2, c3⟩ := aux j oj hj'
    exact h.inj i j oi' oj' b1 base1 room1 b2 base2 room2 a1 c1 hij (by rw [a2]; exact hoi) (by unfold Ob.live; rw [a3]; exact hli) (by unfold Ob.live; rw [c3]; exact hlj) h1 h2
  · intro j oj hj
    obtain ⟨ob1, h1, h2, h3⟩ := h.flag j oj hj
    by_cases hji : id = j
    · subst hji
      rw [hob] at h1; cases h1
      exact ⟨ob', List.getElem?_set_self hlt, by rw [how', ← how]; exact h2, by rw [hsh]; exact h3⟩
    · exact ⟨ob1, by rw [List.getElem?_set_ne hji]; exact h1, h2, h3⟩
  · intro k hk hn
    rw [setRow_other w b k _ (fun e => ?_)]
    · exact h.block k hk hn
    · subst e
      rcases hap with h1 | h1
      · omega
      · exact hn h1
  · intro j oj b1 base1 room1 hj hoj hlj hon
    by_cases hji : id = j
    · subst hji
      exact h.fresh id ob b1 base1 room1 hj hob hlive hon
    · rw [List.getElem?_set_ne hji] at hoj
      exact h.fresh j oj b1 base1 room1 hj hoj hlj hon
  · intro t ht
    refine ⟨fun j oj b' base' room' hj hjt hlj hon => ?_, fun t2 x2 y2 id2 e2 off2 v ho2 hx2 hy2 b2 base2 room2 hι2 blk2 tt2 fz2 hb2 => ?_⟩
    · have h2 : tidOf o st.sl = some id := by unfold tidOf; rw [ho]; simp only [hx]
      rw [h2] at ht; cases ht
      exact setRow_other w b b' _ (fun e => h.inj id j ob oj b base room b' base' room' hob hj (fun e => hjt e.symm) how hlive hlj hι hon e.symm)
    · rw [ho] at ho2; cases ho2
      rw [hx] at hx2; cases hx2
      rw [hι] at hι2; cases hι2
      rw [hb] at hb2; cases hb2
      refine ⟨_, setRow_heap w b blk _ tt (0, 0) hb, fun j hj => ?_⟩
      rw [hy2] at hy
      have h1 : cs.length = 1 := V.cells_one hy
      have h3 := hF.length
      rw [laid_get hle, if_neg (by omega)]
end Go.Fx

/- Maps with keys of two whole numbers. -/
namespace Go.Fx
variable {P : Program} {ty : Nat → Option TI} {sl : List V} {hp : List Ob}

theorem key_two {k e : Nat} {kd : IntKind} (hsz : ∃ m, P.types.size = m + 1) (A : WideMaps.ArrKey P k e 2) (he : P.underlying e = some (.int kd)) {a b : Int} (ha : kd.min ≤ a ∧ a ≤ kd.max) (hb : kd.min ≤ b ∧ b ≤ kd.max) :
    ∃ l, keyOf P k (.agg #[.int kd a, .int kd b]) = some l := by
  obtain ⟨m, hm⟩ := hsz
  have hk := A.keyType ⟨m, hm⟩
  have wa : (Lit.int kd a).wf = true := by simp [Lit.wf, ha]
  have wb : (Lit.int kd b).wf = true := by simp [Lit.wf, hb]
  have l1 : ∀ c, (Lit.int kd c).wf = true → P.keyLits (m + 1) e [.int kd c] = some [.int kd c] := fun c hc => by
    unfold Program.keyLits
    rw [he]
    simp [hc]
  unfold keyOf
  rw [A.hu]
  simp only
  have hf : Value.formed P k (.agg #[.int kd a, .int kd b]) = true := by
    unfold Value.formed
    rw [A.hu]
    simp [A.size]
  rw [hk, hf]
  simp only [Bool.and_self, if_true, hm]
  have hl : P.keyLits (m + 1 + 1) k (Value.agg #[.int kd a, .int kd b]).cells.toList = some [.int kd a, .int kd b] := by
    unfold Program.keyLits
    rw [A.hu]
    have hr : List.range 2 = [0, 1] := rfl
    simp [Value.cells, A.size, A.one, hr, l1 a wa, l1 b wb]
  rw [hl]
  exact ⟨_, rfl⟩

theorem hasKey_iff {keys : List (List Int)} {a b : Int} : hasKey keys a b = true ↔ [a, b] ∈ keys := by
  unfold hasKey
  rw [List.any_eq_true]
  constructor
  · rintro ⟨r, h1, h2⟩
    rw [beq_iff_eq] at h2
    rw [← h2]; exact h1
  · intro h
    exact ⟨_, h, by simp⟩

theorem MapR.keyed {k e : Nat} {kd : IntKind} (hsz : ∃ m, P.types.size = m + 1) (A : WideMaps.ArrKey P k e 2) (he : P.underlying e = some (.int kd)) {keys : List (List Int)} {es : Array MapEntry} (h : MapR kd keys es) : ∀ x ∈ es.toList, ∃ l, keyOf P k x.key = some l := by
  intro x hx
  obtain ⟨r, _, a, b, rfl, h2, h3, h4⟩ := F2.mem_right h x hx
  rw [h2]; exact key_two hsz A he h3 h4

theorem F2.mem_left {α β : Type} {R : α → β → Prop} : ∀ {as : List α} {bs : List β}, F2 R as bs → ∀ a ∈ as, ∃ b ∈ bs, R a b
  | a :: as, b :: bs, ⟨h1, h2⟩, x, hx => by
    cases hx with
    | head => exact ⟨b, by simp, h1⟩
    | tail _ hx => obtain ⟨y, h3, h4⟩ := F2.mem_left h2 x hx; exact ⟨y, by simp [h3], h4⟩
  | [], _, _, _, hx => by cases hx
  | _ :: _, [], h, _, _ => h.elim

theorem F2.modify {α β : Type} {R : α → β → Prop} {f : β → β} : ∀ {as : List α} {bs : List β} (j : Nat), F2 R as bs → (∀ a b, bs[j]? = some b → R a b → R a (f b)) → F2 R as (bs.modify j f)
  | [], [], j, _, _ => by cases j <;> trivial
  | a :: as, b :: bs, 0, ⟨h1, h2⟩, hf => ⟨hf a b rfl h1, h2⟩
  | a :: as, b :: bs, j + 1, ⟨h1, h2⟩, hf => ⟨h1, F2.modify j h2 fun a b hb => hf a b (by simpa using hb)⟩
  | [], _ :: _, _, h, _ => h.elim
  | _ :: _, [], _, h, _ => h.elim

theorem put_run {t k e e' : Nat} {kd : IntKind} (ht : P.underlying t = some (.map k e')) (hsz : ∃ m, P.types.size = m + 1) (A : WideMaps.ArrKey P k e 2) (he : P.underlying e = some (.int kd)) {w : World} {r : Nat} {es : Array MapEntry} {clock : Nat} {keys : List (List Int)}
    (hb : w.heap[r]? = some (.map es clock)) (h : MapR kd keys es) {a b : Int} (ha : kd.min ≤ a ∧ a ≤ kd.max) (hb2 : kd.min ≤ b ∧ b ≤ kd.max) (v : Value) :
    ∃ es' clock', (Instr.mapUpdate t (.map (some r)) (.agg #[.int kd a, .int kd b]) v).run P w = .ok () { w with heap := w.heap.setIfInBounds r (.map es' clock') } ∧ MapR kd (mapPut keys a b) es' := by
  obtain ⟨l, hl⟩ := key_two hsz A he ha hb2
  have K := A.law
  have hck := K.check w false hl
  have hund := run_underlying ht w
  have hg := MapKept.run_getObj_map (P := P) hb
  rcases K.find w hl es.toList (h.keyed hsz A he) with ⟨h1, h2⟩ | ⟨j, e0, h1, h2, h3⟩
  · refine ⟨es.push { key := .agg #[.int kd a, .int kd b], val := v, born := clock }, clock + 1, ?_, ?_⟩
    · simp only [Instr.mapUpdate, Sem.run_bind, hund, Result.andThen_ok, hg, hck, h1]
      exact MapKept.run_setObj_map _ hb
    · have hno : hasKey keys a b = false := by
        cases hh : hasKey keys a b with
        | false => rfl
        | true =>
          exfalso
          obtain ⟨x, hx, a', b', e1, e2, _⟩ := F2.mem_left h _ (hasKey_iff.1 hh)
          cases e1
          exact h2 x hx e2
      unfold mapPut
      rw [hno]
      simp only [cond_false]
      unfold MapR
      rw [Array.toList_push]
      exact F2.append h ⟨⟨a, b, rfl, rfl, ha, hb2⟩, trivial⟩
  · have hst := K.stays w hl
    refine ⟨es.modify j fun e => { e with key := .agg #[.int kd a, .int kd b], val := v }, clock, ?_, ?_⟩
    · have hj : es[j]? = some e0 := by simpa using h2
      simp only [Instr.mapUpdate, Sem.run_bind, hund, Result.andThen_ok, hg, hck, h1, hj, Option.map_some, Option.getD_some, h3, hst]
      exact MapKept.run_setObj_map _ hb
    · have hyes : hasKey keys a b = true := by
        rw [hasKey_iff]
        obtain ⟨r', hr', a', b', e1, e2, _⟩ := F2.mem_right h e0 (List.mem_of_getElem? h2)
        rw [h3] at e2
        simp only [Value.agg.injEq, Array.mk.injEq, List.cons.injEq, Value.int.injEq, true_and, and_true] at e2
        rw [e2.1, e2.2, ← e1]; exact hr'
      unfold mapPut
      rw [hyes]
      simp only [cond_true]
      unfold MapR
      rw [Array.toList_modify]
      refine F2.modify j h fun r x hx ⟨a', b', e1, e2, e3, e4⟩ => ?_
      rw [h2] at hx
      cases hx
      refine ⟨a', b', e1, ?_, e3, e4⟩
      rw [← h3]; exact e2

theorem eff_map {n0 : Nat} {o : Oper} {t : TypeId} {m x y : Operand} {id k : Nat} {kd : IntKind} {x1 y1 : Int} {keys : List (List Int)} {vy : V} {st : St} (hT : TyOK P ty) (ho : o.op = .mapUpdate t m x y) (ht : tyOf ty t = some (.mp k kd))
    (hm : evA st.sl m = .at (.mp id)) (hx : evA st.sl x = .agg [.int kd x1, .int kd y1]) (_ : evA st.sl y = vy) (hob : st.hp[id]? = some ⟨true, .mp kd keys⟩) (ha : kd.min ≤ x1 ∧ x1 ≤ kd.max) (hb1 : kd.min ≤ y1 ∧ y1 ≤ kd.max) :
    EffOp P n0 o st ⟨put st.sl o.dst (.at .void), st.hp.set id ⟨true, .mp kd (mapPut keys x1 y1)⟩⟩ := by
  intro g ι a w hn0 h K Q hK
  obtain ⟨⟨e', ht'⟩, hsz, e, A, he⟩ := tyOf_DR hT ht
  have hvm := evA_VR h.slots m
  have hvx := evA_VR h.slots x
  rw [hm] at hvm
  rw [hx] at hvx
  obtain ⟨hSh, b, hι, em⟩ := hvm
  obtain ⟨cs, ex, hF⟩ := hvx
  have hcs : cs = #[.int kd x1, .int kd y1] := by
    obtain ⟨l⟩ := cs
    match l, hF with
    | [c1, c2], ⟨h1, h2, _⟩ =>
      have h1 : c1 = .int kd x1 := h1
      have h2 : c2 = .int kd y1 := h2
      rw [h1, h2]
  subst hcs
  obtain ⟨b', es, clock, q1, q2, q3⟩ := h.heap id _ hob (by rw [hι]; simp)
  rw [hι] at q1; cases q1
  obtain ⟨es', clock', hrun0, hnew⟩ := put_run ht' hsz A he q2 q3 ha hb1 (a.eval y)
  generalize hw' : ({ w with heap := w.heap.setIfInBounds b (.map es' clock') } : World) = w' at hrun0
  have hrun : (execOp a.eval o).run P w = .ok .skip w' := by
    simp [execOp, ho, em, ex, hrun0]
  have hset := MapKept.heap_set (o' := .map es' clock') q2
  have hwb : w'.heap[b]? = some (.map es' clock') := by rw [← hw']; exact hset.1
  have hwo : ∀ r', r' ≠ b → w'.heap[r']? = w.heap[r']? := fun r' hr => by rw [← hw']; exact hset.2 r' hr
  have hwos : w'.os = w.os ∧ w'.tape = w.tape ∧ w'.output = w.output ∧ w'.heap.size = w.heap.size := by rw [← hw']; simp
  have hlive : (⟨true, .mp kd keys⟩ : Ob).live := by simp [Ob.live, shpOb]
  have hS : shp (st.hp.set id ⟨true, .mp kd (mapPut keys x1 y1)⟩) = shp st.hp := shp_set hob rfl
  have hap := h.apart hob rfl hlive hι
  have hlt := (List.getElem?_eq_some_iff.1 hob).1
  unfold Oper.wp
  rw [hrun, Oper.upon_skip]
  refine hK ι _ _ ⟨?_, by rw [put_defers]; exact h.defers, ?_, ?_, h.keep, ?_, hwos.1.trans h.os, hwos.2.1.trans h.tape, hwos.2.2.1.trans h.output, by rw [hwos.2.2.2]; exact h.size, ?_, ?_⟩ ?_
  · refine put_F2 ?_ rfl
    rw [hS]; exact h.slots
  · intro j oj hj hoff
    rw [hS]
    by_cases hji : id = j
    · subst hji
      rw [List.getElem?_set_self hlt] at hj
      cases hj
      exact ⟨b, es', clock', hι, hwb, hnew⟩
    · rw [List.getElem?_set_ne hji] at hj
      by_cases hlj : oj.live
      · refine (h.heap j oj hj hoff).ext (fun _ _ => ⟨rfl, rfl⟩) rfl fun b2 base2 room2 hb2 _ => ?_
        exact hwo b2 (fun e => h.inj id j _ oj b 0 0 b2 base2 room2 hob hj hji rfl hlive hlj hι hb2 e.symm)
      · obtain ⟨own, c⟩ := oj
        cases c with
        | dead => trivial
        | mp kd keys => exact absurd (by simp [Ob.live, shpOb]) hlj
        | box cs => exact absurd (by simp [Ob.live, shpOb]) hlj
        | rows ks xs => exact absurd (by simp [Ob.live, shpOb]) hlj
  · intro i j oi oj b1 base1 room1 b2 base2 room2 hi' hj' hij hoi hli hlj h1 h2
    have aux : ∀ (k : Nat) (ok : Ob), (st.hp.set id ⟨true, .mp kd (mapPut keys x1 y1)⟩)[k]? = some ok → ∃ ok', st.hp[k]? = some ok' ∧ ok'.own = ok.own ∧ shpOb ok' = shpOb ok := by
      intro k ok hk
      by_cases hki : id = k
      · subst hki
        rw [List.getElem?_set_self hlt] at hk
        cases hk
        exact ⟨_, hob, rfl, rfl⟩
      · rw [List.getElem?_set_ne hki] at hk
        exact ⟨ok, hk, rfl, rfl⟩
    obtain ⟨oi', q1, q2, q3⟩ := aux i oi hi'
    obtain ⟨oj', c1, c2, c3⟩ := aux j oj hj'
    exact h.inj i j oi' oj' b1 base1 room1 b2 base2 room2 q1 c1 hij (by rw [q2]; exact hoi) (by unfold Ob.live; rw [q3]; exact hli) (by unfold Ob.live; rw [c3]; exact hlj) h1 h2
  · intro j oj hj
    obtain ⟨ob1, h1, h2, h3⟩ := h.flag j oj hj
    by_cases hji : id = j
    · subst hji
      rw [hob] at h1; cases h1
      exact ⟨_, List.getElem?_set_self hlt, h2, h3⟩
    · exact ⟨ob1, by rw [List.getElem?_set_ne hji]; exact h1, h2, h3⟩
  · intro k hk hn
    rw [hwo k (fun e => ?_)]
    · exact h.block k hk hn
    · subst e
      rcases hap with h1 | h1
      · omega
      · exact hn h1
  · intro j oj b1 base1 room1 hj hoj hlj hon
    by_cases hji : id = j
    · subst hji
      exact h.fresh id _ b1 base1 room1 hj hob hlive hon
    · rw [List.getElem?_set_ne hji] at hoj
      exact h.fresh j oj b1 base1 room1 hj hoj hlj hon
  · intro t2 ht2
    unfold tidOf at ht2
    rw [ho] at ht2
    cases ht2

theorem calm_makeMap {o : Oper} {t : Nat} {kd : IntKind} (ho : o.op = .makeMap t none) : CalmOp P o sl hp (.at (.mp hp.length)) [⟨true, .mp kd []⟩] := by
  refine calm_new fun ι a w hops hhr => ⟨.map (some w.heap.size), w.alloc (.map #[] 0), .on w.heap.size 0 0, ?_, WX.alloc w _, fun b base room hp => ?_, fun ι' hag hpl => ⟨?_, ?_⟩⟩
  · simp [execOp, ho, Instr.makeMap]
  · cases hp; exact Nat.le_refl _
  · refine ⟨?_, w.heap.size, hpl, rfl⟩
    unfold shp
    rw [List.getElem?_append_right (Nat.le_refl _)]
    simp [shpOb]
  · exact ⟨w.heap.size, #[], 0, hpl, heap_alloc_at w _, trivial⟩

theorem calm_lenMap {o : Oper} {x : Operand} {t : TypeId} {k id : Nat} {kd kd' : IntKind} {own : Bool} {keys : List (List Int)} (hT : TyOK P ty) (ho : o.op = .call { callee := .builtin .len, args := #[x], argTypes := #[t] }) (ht : tyOf ty t = some (.mp k kd)) (hx : evA sl x = .at (.mp id))
    (hob : hp[id]? = some ⟨own, .mp kd' keys⟩) : CalmOp P o sl hp (.at (.int .i64 keys.length)) [] := by
  obtain ⟨⟨e', ht'⟩, _⟩ := tyOf_DR hT ht
  refine calm_value fun ι a w hops hhr => ?_
  have hv := hops x (by simp [ho, Op.operands, Call.operands])
  rw [hx] at hv
  obtain ⟨_, b, hι, ec⟩ := hv
  obtain ⟨b', es, clock, q1, q2, q3⟩ := hhr id _ hob (by rw [hι]; simp)
  rw [hι] at q1; cases q1
  have hl := q3.length
  refine ⟨.int .i64 keys.length, 0, ?_, rfl⟩
  rw [World.drewN_zero]
  have hg := MapKept.run_getObj_map (P := P) q2
  have e : (es.size : Int) = keys.length := by rw [hl]; simp
  have e1 := run_underlying ht' w
  simp [execOp, ho, resolve, invoke, builtin, Builtin.len_, e1, ec, hg, goInt, e]
end Go.Fx

/- An object that grows. -/
namespace Go.Fx
variable {P : Program} {ty : Nat → Option TI} {sl : List V} {hp : List Ob}

theorem shpOb_kill (i : Nat) (ob : Ob) : shpOb (ob.kill i) = shpOb ob := by
  obtain ⟨own, c⟩ := ob; cases c <;> rfl
theorem own_kill (i : Nat) (ob : Ob) : (ob.kill i).own = ob.own := by
  obtain ⟨own, c⟩ := ob; cases c <;> rfl

theorem ObR.kill {ι ι' : Nat → Pl} {S S' : Nat → Shp} {w w' : World} {i id : Nat} {ob : Ob} (hs : ∀ id, id ≠ i → S id ≠ .no → ι' id = ι id ∧ S' id = S id) (hid : ι' id = ι id)
    (hw : ∀ b base room, ι id = .on b base room → b < w.heap.size → w'.heap[b]? = w.heap[b]?) (h : ObR ι S w id ob) : ObR ι' S' w' id (ob.kill i) := by
  obtain ⟨own, c⟩ := ob
  cases c with
  | dead => trivial
  | mp kd keys =>
    obtain ⟨b, es, clock, h1, h2, h3⟩ := h
    exact ⟨b, es, clock, hid ▸ h1, by rw [hw b 0 0 h1 (lt_of_heap h2)]; exact h2, h3⟩
  | box cs =>
    obtain ⟨b, base, room, blk, t, fz, h1, h2, h3, h4, h5, h6⟩ := h
    refine ⟨b, base, room, blk, t, fz, hid ▸ h1, by rw [hw b base room h1 (lt_of_heap h2)]; exact h2, h3, by simpa using h4, h5, fun j a ha => ?_⟩
    rw [List.getElem?_map] at ha
    cases hc : cs[j]? with
    | none => simp [hc] at ha
    | some a' =>
      simp [hc] at ha
      subst ha
      obtain ⟨c, e1, e2⟩ := h6 j a' hc
      exact ⟨c, e1, AR.kill hs e2⟩
  | rows ks xs =>
    rcases h with ⟨h1, h2⟩ | ⟨b, base, room, blk, t, fz, h1, h2, h3, h4, h5⟩
    · exact .inl ⟨hid ▸ h1, h2⟩
    · exact .inr ⟨b, base, room, blk, t, fz, hid ▸ h1, by rw [hw b base room h1 (lt_of_heap h2)]; exact h2, h3, h4, h5⟩

theorem ObR.dead {ι : Nat → Pl} {S : Nat → Shp} {w : World} {id : Nat} {ob : Ob} (h : ¬ ob.live) : ObR ι S w id ob := by
  obtain ⟨own, c⟩ := ob
  cases c with
  | dead => trivial
  | mp kd keys => exact absurd (by simp [Ob.live, shpOb]) h
  | box cs => exact absurd (by simp [Ob.live, shpOb]) h
  | rows ks xs => exact absurd (by simp [Ob.live, shpOb]) h

theorem live_kill {i : Nat} {ob : Ob} : (ob.kill i).live ↔ ob.live := by unfold Ob.live; rw [shpOb_kill]

theorem Rel.regrow {g : Beg} {ι : Nat → Pl} {st : St} {a : Act} {w w' : World} {id tgt : Nat} {ob ob' : Ob} {hp' : List Ob} {pl : Pl} {v : V} {c : Value} {d : Option Nat} (h : Rel g ι st a w)
    (hob : st.hp[id]? = some ob) (hown : ob.own = true) (hlive : ob.live) (htgt : (tgt = id ∧ g.h0.length ≤ id) ∨ tgt = st.hp.length)
    (hA : ∀ j, j ≠ id → j ≠ tgt → hp'[j]? = (st.hp[j]?).map (Ob.kill id)) (hT : hp'[tgt]? = some ob') (hD : tgt ≠ id → hp'[id]? = some ⟨true, .dead⟩)
    (hos : w'.os = w.os) (htape : w'.tape = w.tape) (hout : w'.output = w.output) (hsize : w.heap.size ≤ w'.heap.size)
    (hblk : ∀ k, k < w.heap.size → (∀ base room, ι id ≠ .on k base room) → w'.heap[k]? = w.heap[k]?)
    (hpl : ∀ b base room, pl = .on b base room → w.heap.size ≤ b ∨ ∃ base' room', ι id = .on b base' room')
    (hnew : ObR (fun j => if j = tgt then pl else ι j) (shp hp') w' tgt ob')
    (hv : VR (fun j => if j = tgt then pl else ι j) (shp hp') v c) :
    Rel g (fun j => if j = tgt then pl else ι j) ⟨put (st.sl.map (V.kill id)) d v, hp'⟩ (a.put d c) w' := by
  have hlen := h.len
  have hidlt : id < st.hp.length := (List.getElem?_eq_some_iff.1 hob).1
  have hS : ∀ j, j ≠ id → shp st.hp j ≠ .no → j ≠ tgt ∧ shp hp' j = shp st.hp j := by
    intro j hj hn
    have hl := shp_lt hn
    have hjt : j ≠ tgt := by rcases htgt with ⟨h1, _⟩ | h1 <;> omega
    refine ⟨hjt, ?_⟩
    unfold shp
    rw [hA j hj hjt]
    cases ho : st.hp[j]? with
    | none => rfl
    | some ob => exact shpOb_kill id ob
  have hext : ∀ j, j ≠ id → shp st.hp j ≠ .no → (fun j => if j = tgt then pl else ι j) j = ι j ∧ shp hp' j = shp st.hp j := fun j hj hn => by
    obtain ⟨h1, h2⟩ := hS j hj hn
    exact ⟨by simp [h1], h2⟩
  -- objects that are there behind it
  have hold : ∀ (j : Nat) (oj : Ob), hp'[j]? = some oj → j ≠ tgt → oj.live → j ≠ id ∧ ∃ oj', st.hp[j]? = some oj' ∧ oj = oj'.kill id ∧ oj'.live := by
    intro j oj hj hjt hl
    have hjid : j ≠ id := by
      rintro rfl
      rw [hD (fun e => hjt e.symm)] at hj
      cases hj
      exact hl rfl
    refine ⟨hjid, ?_⟩
    rw [hA j hjid hjt] at hj
    cases ho : st.hp[j]? with
    | none => simp [ho] at hj
    | some oj' =>
      simp [ho] at hj
      subst hj
      exact ⟨oj', rfl, rfl, live_kill.1 hl⟩
  have hap : ∀ b base room, ι id = .on b base room → g.w0.heap.size ≤ b ∨ g.mine b := fun b base room hι => h.apart hob hown hlive hι
  have hsz0 := h.size
  refine ⟨put_F2 (F2.map_left (fun _ _ hr => VR.kill hext hr) h.slots) hv, by rw [put_defers]; exact h.defers, fun j oj hj hoff => ?_, ?_, fun j hj => ?_, fun j oj hj => ?_, hos.trans h.os, htape.trans h.tape, hout.trans h.output, Nat.le_trans h.size hsize, fun k hk hn => ?_, ?_⟩
  · by_cases hjt : j = tgt
    · subst hjt
      rw [hT] at hj; cases hj
      exact hnew
    · by_cases hl : oj.live
      · obtain ⟨hjid, oj', h1, h2, h3⟩ := hold j oj hj hjt hl
        subst h2
        simp only [hjt, if_false] at hoff
        refine (h.heap j oj' h1 hoff).kill hext (by simp [hjt]) fun b base room hι hb => hblk b hb fun base' room' hc => ?_
        exact h.inj id j ob oj' b base' room' b base room hob h1 (fun e => hjid e.symm) hown hlive h3 hc hι rfl
      · exact ObR.dead hl
  · intro i j oi oj b1 base1 room1 b2 base2 room2 hi hj hij hoi hli hlj h1 h2
    by_cases hit : i = tgt
    · have hjt : j ≠ tgt := fun e => hij (hit.trans e.symm)
      simp only [hit, if_true] at h1
      simp only [hjt, if_false] at h2
      obtain ⟨hjid, oj', g1, g2, g3⟩ := hold j oj hj hjt hlj
      have hb2 := lt_of_HR h.heap g1 g3 h2
      rcases hpl _ _ _ h1 with hb | ⟨base', room', hb⟩
      · omega
      · exact h.inj id j ob oj' b1 base' room' b2 base2 room2 hob g1 (fun e => hjid e.symm) hown hlive g3 hb h2
    · simp only [hit, if_false] at h1
      obtain ⟨hiid, oi', g1, g2, g3⟩ := hold i oi hi hit hli
      have hoi' : oi'.own = true := by rw [g2, own_kill] at hoi; exact hoi
      have hb1 := lt_of_HR h.heap g1 g3 h1
      by_cases hjt : j = tgt
      · simp only [hjt, if_true] at h2
        rcases hpl _ _ _ h2 with hb | ⟨base', room', hb⟩
        · omega
        · exact h.inj i id oi' ob b1 base1 room1 b2 base' room' g1 hob hiid hoi' g3 hlive h1 hb
      · simp only [hjt, if_false] at h2
        obtain ⟨hjid, oj', k1, k2, k3⟩ := hold j oj hj hjt hlj
        exact h.inj i j oi' oj' b1 base1 room1 b2 base2 room2 g1 k1 hij hoi' g3 k3 h1 h2
  · have hjt : j ≠ tgt := by rcases htgt with ⟨h1, h2⟩ | h1 <;> omega
    simp only [hjt, if_false]
    exact h.keep j hj
  · obtain ⟨o1, h1, h2, h3⟩ := h.flag j oj hj
    have hjl : j < g.h0.length := (List.getElem?_eq_some_iff.1 hj).1
    have hjt : j ≠ tgt := by rcases htgt with ⟨h1, h2⟩ | h1 <;> omega
    by_cases hjid : j = id
    · subst hjid
      rw [hob] at h1; cases h1
      exact ⟨_, hD (fun e => hjt e.symm), by rw [← h2]; exact hown.symm, .inr rfl⟩
    · exact ⟨o1.kill id, by rw [hA j hjid hjt, h1]; rfl, by rw [own_kill]; exact h2, by rw [shpOb_kill]; exact h3⟩
  · rw [hblk k (by omega) (fun base room hι => ?_)]
    · exact h.block k hk hn
    · rcases hap k base room hι with h1 | h1
      · omega
      · exact hn h1
  · intro j oj b base room hjl hj hl hon
    by_cases hjt : j = tgt
    · simp only [hjt, if_true] at hon
      rcases hpl _ _ _ hon with hb | ⟨base', room', hb⟩
      · exact .inl (by omega)
      · exact hap _ _ _ hb
    · simp only [hjt, if_false] at hon
      obtain ⟨hjid, oj', g1, g2, g3⟩ := hold j oj hj hjt hl
      exact h.fresh j oj' b base room hjl g1 g3 hon
end Go.Fx

/- Append to a row of one's own. -/
namespace Go.Fx
variable {P : Program} {ty : Nat → Option TI} {sl : List V} {hp : List Ob}

theorem run_append_in (w : World) (t tyy e : TypeId) (i : TypeInfo) (ht : P.underlying t = some (.slice e)) (hi : P.info? e = some i)
    (g sLen sCap : Nat) (cur : Array Value) (bt : TypeId) (hg : w.heap[g]? = some (.cells cur bt (0, 0)))
    (a : Option Addr) (m c : Nat) (news : List Value) (hl : news.length = m * i.size) (hnews : 0 < m → ∃ ad, a = some ad ∧ ∀ j u, news[j]? = some u → w.cell? (ad.add j) = some u) (h1 : ∀ u ∈ news, u.oneCell' = true)
    (hroom : sLen + m ≤ sCap) (hfit : sLen * i.size + news.length ≤ cur.size) :
    (Builtin.append_ #[t, t] tyy #[.slice (some ⟨g, 0, none⟩) sLen sCap, .slice a m c]).run P w =
      .ok (.slice (some ⟨g, 0, none⟩) (sLen + m) sCap) (w.setRow g (laid cur (sLen * i.size) news)) := by
  have hst := storeCells_run (P := P) hg hfit h1
  rcases Nat.eq_zero_or_pos m with h0 | h0
  · subst h0
    have hn : news = [] := List.eq_nil_of_length_eq_zero (by simpa using hl)
    subst hn
    have e0 : storeCells ⟨g, sLen * i.size, none⟩ [] 0 = pure () := rfl
    have hid : w.setRow g (laid cur (sLen * i.size) []) = w := by
      have := hst
      rw [e0] at this
      simpa using this.symm
    rw [hid]
    cases a <;> simp [Builtin.append_, run_underlying ht, sizeOf, typeInfo, hi, Builtin.lenOf, Builtin.firstCells, loadCells, loadCellsFrom, storeCells, Nat.add_zero] <;> omega
  · obtain ⟨ad, rfl, hc⟩ := hnews h0
    have hf := run_firstCells_some (P := P) w i.size m ad m c news hl hc
    simp [Builtin.append_, run_underlying ht, sizeOf, typeInfo, hi, Builtin.lenOf, hroom, hf, Addr.add_at, hst]

theorem KR.one {k : K} {n : Int} {c : Value} (h : KR k n c) : c.oneCell' = true := by
  cases k with
  | f k => obtain ⟨b, rfl, _⟩ := h; rfl
  | i k => obtain rfl := h; rfl
  | b => obtain ⟨b, rfl, _⟩ := h; rfl

def RowsL (cs : List Value) (ks : List K) (xs : List (List Int)) : Prop :=
  ∀ e row, xs[e]? = some row → row.length = ks.length ∧ ∀ o kd, ks[o]? = some kd → ∃ c, cs[e * ks.length + o]? = some c ∧ KR kd (row.getD o 0) c

theorem RowsL.append {cs ds : List Value} {ks : List K} {xs ys : List (List Int)} (hx : RowsL cs ks xs) (hy : RowsL ds ks ys) (hl : cs.length = xs.length * ks.length) : RowsL (cs ++ ds) ks (xs ++ ys) := by
  intro e row he
  rcases Nat.lt_or_ge e xs.length with h | h
  · rw [List.getElem?_append_left h] at he
    obtain ⟨h1, h2⟩ := hx e row he
    refine ⟨h1, fun o kd ho => ?_⟩
    obtain ⟨c, h3, h4⟩ := h2 o kd ho
    refine ⟨c, ?_, h4⟩
    rw [List.getElem?_append_left (List.getElem?_eq_some_iff.1 h3).1]; exact h3
  · rw [List.getElem?_append_right h] at he
    obtain ⟨h1, h2⟩ := hy _ row he
    refine ⟨h1, fun o kd ho => ?_⟩
    obtain ⟨c, h3, h4⟩ := h2 o kd ho
    refine ⟨c, ?_, h4⟩
    have he : e * ks.length + o = cs.length + ((e - xs.length) * ks.length + o) := by
      rw [hl, ← Nat.add_assoc, ← Nat.add_mul]; congr 2; omega
    rw [he, List.getElem?_append_right (by omega)]
    simpa using h3

theorem RowsL.all {cs : List Value} {ks : List K} {xs : List (List Int)} (h : RowsL cs ks xs) (hl : cs.length = xs.length * ks.length) : ∀ u ∈ cs, u.oneCell' = true := by
  intro u hu
  obtain ⟨j, hj, rfl⟩ := List.mem_iff_getElem.1 hu
  have hk0 : 0 < ks.length := by
    rcases Nat.eq_zero_or_pos ks.length with h0 | h0
    · rw [hl, h0] at hj; simp at hj
    · exact h0
  have hq : j / ks.length < xs.length := Nat.div_lt_of_lt_mul (by rw [Nat.mul_comm, ← hl]; exact hj)
  have hm : j % ks.length < ks.length := Nat.mod_lt _ hk0
  obtain ⟨_, h2⟩ := h (j / ks.length) _ (List.getElem?_eq_getElem hq)
  obtain ⟨c, h3, h4⟩ := h2 (j % ks.length) _ (List.getElem?_eq_getElem hm)
  have : j / ks.length * ks.length + j % ks.length = j := by have := Nat.div_add_mod j ks.length; rw [Nat.mul_comm] at this; exact this
  rw [this, List.getElem?_eq_getElem hj] at h3
  cases h3
  exact h4.one

theorem RowsL.of_block {blk : Array Value} {ks : List K} {xs : List (List Int)} (h : RowsR blk 0 ks xs) : RowsL blk.toList ks xs := by
  intro e row he
  obtain ⟨h1, h2⟩ := h e row he
  refine ⟨h1, fun o kd ho => ?_⟩
  obtain ⟨c, h3, h4⟩ := h2 o kd ho
  exact ⟨c, by rw [Nat.zero_add] at h3; simpa using h3, h4⟩

theorem RowsL.block {blk : Array Value} {ks : List K} {xs : List (List Int)} (h : RowsL blk.toList ks xs) : RowsR blk 0 ks xs := by
  intro e row he
  obtain ⟨h1, h2⟩ := h e row he
  refine ⟨h1, fun o kd ho => ?_⟩
  obtain ⟨c, h3, h4⟩ := h2 o kd ho
  exact ⟨c, by rw [Nat.zero_add]; simpa using h3, h4⟩

theorem RowsL.take {cs : List Value} {ks : List K} {xs : List (List Int)} (h : RowsL cs ks xs) : RowsL (cs.take (xs.length * ks.length)) ks xs := by
  intro e row he
  obtain ⟨h1, h2⟩ := h e row he
  have hen : e < xs.length := (List.getElem?_eq_some_iff.1 he).1
  refine ⟨h1, fun o kd ho => ?_⟩
  obtain ⟨c, h3, h4⟩ := h2 o kd ho
  refine ⟨c, ?_, h4⟩
  rw [List.getElem?_take, if_pos (idx_lt hen (List.getElem?_eq_some_iff.1 ho).1)]
  exact h3

theorem RowsL.more {cs ds : List Value} {ks : List K} {xs : List (List Int)} (h : RowsL cs ks xs) : RowsL (cs ++ ds) ks xs := by
  intro e row he
  obtain ⟨h1, h2⟩ := h e row he
  refine ⟨h1, fun o kd ho => ?_⟩
  obtain ⟨c, h3, h4⟩ := h2 o kd ho
  refine ⟨c, ?_, h4⟩
  rw [List.getElem?_append_left (List.getElem?_eq_some_iff.1 h3).1]; exact h3

theorem RowsL.len {blk : Array Value} {ks : List K} {xs : List (List Int)} (h : RowsL blk.toList ks xs) (hk : 0 < ks.length) : xs.length * ks.length ≤ blk.size := by
  rcases Nat.eq_zero_or_pos xs.length with h0 | h0
  · simp [h0]
  · obtain ⟨_, h2⟩ := h (xs.length - 1) _ (List.getElem?_eq_getElem (by omega))
    obtain ⟨c, h3, _⟩ := h2 (ks.length - 1) _ (List.getElem?_eq_getElem (by omega))
    have := (List.getElem?_eq_some_iff.1 h3).1
    simp at this
    have e : xs.length * ks.length = (xs.length - 1) * ks.length + ks.length := by
      rw [← Nat.succ_mul]; congr 1; omega
    omega

theorem own_append {ι : Nat → Pl} {w : World} {id : Nat} {t tyy et : TypeId} {ei : TI} {ks : List K} {xs ys : List (List Int)} {c cy : Value} {ya : A} (hT : TyOK P ty) (ht : tyOf ty t = some (.sl et)) (he : ty et = some ei) (hks : ei.ks = some ks)
    (hhr : HR ι hp w) (hob : hp[id]? = some ⟨true, .rows ks xs⟩) (hc : AR ι (shp hp) (.sl id) c) (hys : slRows hp ya = some ys) (hcy : AR ι (shp hp) ya cy) (hfit : ksFit hp ks ya = true)
    (hn : xs.length + ys.length ≤ 1073741824) (hb : ei.bytes ≤ 1024) (h0 : 0 < ei.size) :
    ∃ v' w' pl, (Builtin.append_ #[t, t] tyy #[c, cy]).run P w = .ok v' w' ∧ w'.os = w.os ∧ w'.tape = w.tape ∧ w'.output = w.output ∧ w.heap.size ≤ w'.heap.size ∧
      (∀ k, k < w.heap.size → (∀ base room, ι id ≠ .on k base room) → w'.heap[k]? = w.heap[k]?) ∧
      (∀ b base room, pl = .on b base room → w.heap.size ≤ b ∨ ∃ base' room', ι id = .on b base' room') ∧
      ∀ ι' S' tgt, ι' tgt = pl → S' tgt = .rows ks (xs ++ ys).length → AR ι' S' (.sl tgt) v' ∧ ObR ι' S' w' tgt ⟨true, .rows ks (xs ++ ys)⟩ := by
  have hd := tyOf_DR hT ht
  have hTe := hT et ei he
  obtain ⟨inf, zv, hinf, hsz, hby, hzv, hcells⟩ := hTe.info
  have hkl := hTe.ks ks hks
  have hzl : zv.cells.size = ei.size := by have h1 := hcells.length; have h2 := hTe.zl; simp at h1; omega
  obtain ⟨ay, m, rfl, hcase⟩ := slRows_sound hhr hys hcy fun _ => ksFit_ks hfit
  have hnews : ∃ news : List Value, news.length = ys.length * ks.length ∧ RowsL news ks ys ∧ (0 < ys.length → ∃ ad, ay = some ad ∧ ∀ j u, news[j]? = some u → w.cell? (ad.add j) = some u) := by
    rcases Nat.eq_zero_or_pos ys.length with hy0 | hy0
    · have : ys = [] := List.eq_nil_of_length_eq_zero hy0
      subst this
      exact ⟨[], by simp, fun e row he => by simp at he, fun h => by simp at h⟩
    · obtain ⟨ad, h1, news, h2, h3, h4⟩ := hcase hy0
      exact ⟨news, h2, h4, fun _ => ⟨ad, h1, h3⟩⟩
  obtain ⟨news, n1, n2, n3⟩ := hnews
  have hone := n2.all n1
  have hbytes : (xs.length + ys.length) * ei.bytes ≤ 140737488355328 := by
    have : (xs.length + ys.length) * ei.bytes ≤ 1073741824 * 1024 := Nat.mul_le_mul hn hb
    omega
  have hml : xs.length + ys.length ≤ maxLen := by unfold maxLen; omega
  -- a new block
  have grown : ∀ (olds : List Value) (old : Nat), olds.length = xs.length * ks.length → RowsL olds ks xs → ∀ v',
      v' = .slice (some ⟨w.heap.size, 0, none⟩) (xs.length + ys.length) (grownCap w (xs.length + ys.length) old et) → ∀ ι' S' tgt,
      ι' tgt = .on w.heap.size 0 (grownCap w (xs.length + ys.length) old et * ei.size) → S' tgt = .rows ks (xs ++ ys).length → AR ι' S' (.sl tgt) v' ∧
        ObR ι' S' (w.drew.alloc (.cells (olds.toArray ++ news.toArray ++ Builtin.zeroCells zv.cells (grownCap w (xs.length + ys.length) old et - (xs.length + ys.length))) et)) tgt ⟨true, .rows ks (xs ++ ys)⟩ := by
    intro olds old hol hrl v' hv' ι' S' tgt hι hS
    have hcap := grownCap_ge w (xs.length + ys.length) old et
    have hcm := grownCap_le_maxLen w (xs.length + ys.length) old et hml
    have hbs : (olds.toArray ++ news.toArray ++ Builtin.zeroCells zv.cells (grownCap w (xs.length + ys.length) old et - (xs.length + ys.length))).size = grownCap w (xs.length + ys.length) old et * ei.size := by
      simp only [Array.size_append, List.size_toArray, size_zeroCells, hzl, n1, hol, hkl, ← Nat.add_mul]
      congr 1; omega
    subst hv'
    refine ⟨⟨ks, _, hS, .inr ⟨_, _, _, _, hι, ?_, ?_, ?_, hcm⟩⟩, .inr ⟨_, _, _, _, et, (0, 0), hι, heap_alloc_at w.drew _, by omega, fun _ => ⟨rfl, rfl, hbs⟩, RowsL.block ?_⟩⟩
    · simp
    · simpa using hcap
    · rw [hkl]; exact Nat.le_refl _
    · simp only [Array.toList_append]
      exact (hrl.append n2 hol).more
  have hXl : (xs ++ ys).length = xs.length + ys.length := by simp
  obtain ⟨ks', n, hS, hcs⟩ := hc
  rw [shp_of hob] at hS
  simp only [shpOb, Shp.rows.injEq] at hS
  obtain ⟨rfl, rfl⟩ := hS
  rcases hcs with ⟨hι, hx0, ba, rfl⟩ | ⟨b, base, room, cap, hι, rfl, hle, hroom, hcapm⟩
  · have hx : xs = [] := List.eq_nil_of_length_eq_zero hx0
    subst hx
    rcases Nat.eq_zero_or_pos ys.length with hy0 | hy0
    · have hy : ys = [] := List.eq_nil_of_length_eq_zero hy0
      subst hy
      have hr := run_append_none (P := P) w t tyy et inf hd hinf ba ay m
      refine ⟨.slice ba 0 0, w, .empty, hr, rfl, rfl, rfl, Nat.le_refl _, fun _ _ _ => rfl, (fun _ _ _ h => by cases h), fun ι' S' tgt h1 h2 => ⟨⟨ks, 0, h2, .inl ⟨h1, rfl, ba, rfl⟩⟩, .inl ⟨h1, rfl⟩⟩⟩
    · obtain ⟨ad, rfl, n4⟩ := n3 hy0
      have hfits := growslice_fits (need := ys.length) (old := 0) (bytes := ei.bytes) hy0 (by simpa using hbytes)
      have hr := run_append_empty (P := P) w t tyy et inf zv hd hinf hzv ba ad ys.length m news (by rw [n1, hsz, hkl]) n4 hy0 (by simp at hn; omega) (by rw [hby]; exact hfits)
      refine ⟨_, _, .on w.heap.size 0 (grownCap w ys.length 0 et * ei.size), hr, rfl, rfl, rfl, by simp, fun k hk _ => heap_alloc_old w.drew _ k hk, fun _ _ _ h => by cases h; exact .inl (Nat.le_refl _), ?_⟩
      have := grown [] 0 (by simp) (fun e row he => by simp at he)
      simpa using this
  · have hobr := hhr id _ hob (by rw [hι]; simp)
    rcases hobr with ⟨h1, _⟩ | ⟨b', base', room', blk, bt, fz, h1, h2, h3, h4, h5⟩
    · rw [hι] at h1; cases h1
    · rw [hι] at h1; cases h1
      obtain ⟨rfl, rfl, hbr⟩ := h4 rfl
      have hL := RowsL.of_block h5
      have hxs : xs.length * ks.length ≤ blk.size := hL.len (by omega)
      by_cases hfits : xs.length + ys.length ≤ cap
      · have hfit2 : xs.length * inf.size + news.length ≤ blk.size := by
          rw [n1, hsz, ← hkl, ← Nat.add_mul, hbr]
          exact Nat.le_trans (Nat.mul_le_mul_right _ hfits) hroom
        have hr := run_append_in (P := P) w t tyy et inf hd hinf b xs.length cap blk bt h2 ay ys.length m news (by rw [n1, hsz, hkl]) n3 hone hfits hfit2
        refine ⟨_, _, .on b 0 room, hr, rfl, rfl, rfl, by simp, fun k hk hne => setRow_other w b k _ (fun e => hne 0 room (by rw [e]; exact hι)), fun _ _ _ h => by cases h; exact .inr ⟨_, _, hι⟩, fun ι' S' tgt g1 g2 => ⟨⟨ks, _, g2, .inr ⟨b, 0, room, cap, g1, by rw [hXl], by rw [hXl]; exact hfits, hroom, hcapm⟩⟩, ?_⟩⟩
        refine .inr ⟨b, 0, room, _, bt, (0, 0), g1, setRow_heap w b blk _ bt (0, 0) h2, by rw [laid_size hfit2]; exact h3, fun _ => ⟨rfl, rfl, by rw [laid_size hfit2]; exact hbr⟩, RowsL.block ?_⟩
        simp only [laid]
        rw [hsz, ← hkl]
        exact (hL.take.append n2 (by simp; omega)).more
      · have hy0 : 0 < ys.length := by omega
        obtain ⟨ad, rfl, n4⟩ := n3 hy0
        have hol : (blk.toList.take (xs.length * ks.length)).length = xs.length * inf.size := by simp; rw [hsz, ← hkl]; omega
        have hfs := growslice_fits (need := xs.length + ys.length) (old := cap) (bytes := ei.bytes) (by omega) hbytes
        have hr := run_append_grow (P := P) w t tyy et inf zv hd hinf hzv ⟨b, 0, none⟩ xs.length cap (blk.toList.take (xs.length * ks.length)) hol (by
            intro j v hj
            rw [Addr.add_at, cell_at h2]
            rw [List.getElem?_take] at hj
            split at hj
            · simpa using hj
            · cases hj) ad ys.length m news (by rw [n1, hsz, hkl]) n4 (by omega) (by omega) (by rw [hby]; exact hfs)
        refine ⟨_, _, .on w.heap.size 0 (grownCap w (xs.length + ys.length) cap et * ei.size), hr, rfl, rfl, rfl, by simp, fun k hk _ => heap_alloc_old w.drew _ k hk, fun _ _ _ h => by cases h; exact .inl (Nat.le_refl _), ?_⟩
        exact grown _ cap (by simp; omega) hL.take _ rfl
end Go.Fx

/- Append, over a whole state. -/
namespace Go.Fx
variable {P : Program} {ty : Nat → Option TI}

theorem eff_append {n0 : Nat} {o : Oper} {t et : TypeId} {x y : Operand} {id : Nat} {ya : A} {ei : TI} {ks : List K} {xs ys : List (List Int)} {st : St} (hT : TyOK P ty) (ho : o.op = .call { callee := .builtin .append, args := #[x, y], argTypes := #[t, t] })
    (ht : tyOf ty t = some (.sl et)) (he : ty et = some ei) (hks : ei.ks = some ks) (hx : evA st.sl x = .at (.sl id)) (hy : evA st.sl y = .at ya) (hys : slRows st.hp ya = some ys)
    (hob : st.hp[id]? = some ⟨true, .rows ks xs⟩) (hfit : ksFit st.hp ks ya = true) (hn : xs.length + ys.length ≤ 1073741824) (hb : ei.bytes ≤ 1024) (h0 : 0 < ei.size) :
    EffOp P n0 o st (match Nat.blt id n0 with
      | false => ⟨put (st.sl.map (V.kill id)) o.dst (.at (.sl id)), (st.hp.map (Ob.kill id)).set id ⟨true, .rows ks (xs ++ ys)⟩⟩
      | true => ⟨put (st.sl.map (V.kill id)) o.dst (.at (.sl st.hp.length)), (st.hp.map (Ob.kill id)).set id ⟨true, .dead⟩ ++ [⟨true, .rows ks (xs ++ ys)⟩]⟩) := by
  intro g ι a w hn0 h K Q hK
  have hvx := evA_VR h.slots x
  have hvy := evA_VR h.slots y
  rw [hx] at hvx; rw [hy] at hvy
  obtain ⟨v', w', pl, hr, hos, htape, hout, hsize, hblk, hpl, hfin⟩ := own_append (tyy := o.type) hT ht he hks h.heap hob hvx hys hvy hfit hn hb h0
  have hrun : (execOp a.eval o).run P w = .ok (.value v') w' := by
    simp [execOp, ho, resolve, invoke, builtin, hr]
  have hidlt : id < st.hp.length := (List.getElem?_eq_some_iff.1 hob).1
  have hlive : Ob.live ⟨true, .rows ks xs⟩ := by simp [Ob.live, shpOb]
  have hfr0 : ∀ t, tidOf o st.sl = some t → Fr st.hp ι t w w' := by
    intro t ht j oj b base room hj hjt hlj hon
    have h2 : tidOf o st.sl = some id := by unfold tidOf; rw [ho]; simp only [hx]
    rw [h2] at ht; cases ht
    exact hblk b (lt_of_HR h.heap hj hlj hon) (fun base' room' hid => h.inj id j _ oj b base' room' b base room hob hj (fun e => hjt e.symm) rfl hlive hlj hid hon rfl)
  have hfr : ∀ t, tidOf o st.sl = some t → FrX o st.sl st.hp ι t w w' := fun t ht => ⟨hfr0 t ht, fun t2 x2 y2 id2 e2 off2 v ho2 => by rw [ho] at ho2; cases ho2⟩
  unfold Oper.wp
  rw [hrun, Oper.upon_value]
  cases hbl : Nat.blt id n0 with
  | false =>
    have hge : n0 ≤ id := by
      rcases Nat.lt_or_ge id n0 with h' | h'
      · have : Nat.blt id n0 = true := by rw [Nat.blt_eq]; exact h'
        rw [this] at hbl; cases hbl
      · exact h'
    rw [hbl] at hK
    have hT' : ((st.hp.map (Ob.kill id)).set id ⟨true, .rows ks (xs ++ ys)⟩)[id]? = some ⟨true, .rows ks (xs ++ ys)⟩ := List.getElem?_set_self (by simpa using hidlt)
    obtain ⟨f1, f2⟩ := hfin (fun j => if j = id then pl else ι j) (shp ((st.hp.map (Ob.kill id)).set id ⟨true, .rows ks (xs ++ ys)⟩)) id (by simp) (by rw [shp_of hT']; rfl)
    refine hK _ _ _ (h.regrow (tgt := id) (pl := pl) hob rfl hlive (.inl ⟨rfl, by omega⟩) (fun j hj _ => ?_) hT' (fun h => absurd rfl h) hos htape hout hsize hblk hpl f2 f1) hfr
    rw [List.getElem?_set_ne (fun e => hj e.symm), List.getElem?_map]
  | true =>
    rw [hbl] at hK
    have hT' : ((st.hp.map (Ob.kill id)).set id ⟨true, .dead⟩ ++ [⟨true, .rows ks (xs ++ ys)⟩])[st.hp.length]? = some ⟨true, .rows ks (xs ++ ys)⟩ := by
      rw [List.getElem?_append_right (by simp)]; simp
    obtain ⟨f1, f2⟩ := hfin (fun j => if j = st.hp.length then pl else ι j) (shp ((st.hp.map (Ob.kill id)).set id ⟨true, .dead⟩ ++ [⟨true, .rows ks (xs ++ ys)⟩])) st.hp.length (by simp) (by rw [shp_of hT']; rfl)
    refine hK _ _ _ (h.regrow (tgt := st.hp.length) (pl := pl) hob rfl hlive (.inr rfl) (fun j hj hjt => ?_) hT' (fun _ => ?_) hos htape hout hsize hblk hpl f2 f1) hfr
    · rcases Nat.lt_or_ge j st.hp.length with hl | hl
      · rw [List.getElem?_append_left (by simpa using hl), List.getElem?_set_ne (fun e => hj e.symm), List.getElem?_map]
      · rw [List.getElem?_eq_none (by simp; omega), List.getElem?_eq_none (by omega)]; rfl
    · rw [List.getElem?_append_left (by simpa using hidlt), List.getElem?_set_self (by simpa using hidlt)]

theorem eff_cut {n0 : Nat} {o : Oper} {t et : TypeId} {x hi : Operand} {id : Nat} {kh : IntKind} {ei : TI} {ks : List K} {xs : List (List Int)} {st : St} (hT : TyOK P ty) (ho : o.op = .slice t x none (some hi) none)
    (ht : tyOf ty t = some (.sl et)) (he : ty et = some ei) (hx : evA st.sl x = .at (.sl id)) (hh : evA st.sl hi = .at (.int kh 0)) (hob : st.hp[id]? = some ⟨true, .rows ks xs⟩) (hid : n0 ≤ id) (hkl : ks.length = ei.size) :
    EffOp P n0 o st ⟨put (st.sl.map (V.kill id)) o.dst (.at (.sl id)), (st.hp.map (Ob.kill id)).set id ⟨true, .rows ks []⟩⟩ := by
  intro g ι a w hn0 h K Q hK
  have hd := tyOf_DR hT ht
  obtain ⟨inf, zv, hinf, hsz', hby, hzv, hcells⟩ := (hT et ei he).info
  have hvx := evA_VR h.slots x
  have hvh := evA_VR h.slots hi
  rw [hx] at hvx; rw [hh] at hvh
  have eh : a.eval hi = .int kh 0 := hvh
  have e1 := run_underlying hd w
  have e2 := run_sizeOf hinf w
  have hidlt : id < st.hp.length := (List.getElem?_eq_some_iff.1 hob).1
  have hlive : Ob.live ⟨true, .rows ks xs⟩ := by simp [Ob.live, shpOb]
  obtain ⟨ks', n, hS, hcase⟩ := hvx
  rw [shp_of hob] at hS
  simp only [shpOb, Shp.rows.injEq] at hS
  obtain ⟨rfl, rfl⟩ := hS
  have hT' : ((st.hp.map (Ob.kill id)).set id ⟨true, .rows ks []⟩)[id]? = some ⟨true, .rows ks []⟩ := List.getElem?_set_self (by simpa using hidlt)
  have hS' : shp ((st.hp.map (Ob.kill id)).set id ⟨true, .rows ks []⟩) id = .rows ks 0 := by rw [shp_of hT']; rfl
  have hfr : ∀ t, tidOf o st.sl = some t → FrX o st.sl st.hp ι t w w := fun t ht => by unfold tidOf at ht; rw [ho] at ht; cases ht
  obtain ⟨ad, cap, ex, hcv⟩ : ∃ ad cap, a.eval x = .slice ad xs.length cap ∧ ((cap = 0) ∨ ∃ b base room, ι id = .on b base room ∧ ad = some ⟨b, base, none⟩ ∧ cap * ks.length ≤ room ∧ cap ≤ maxLen) := by
    rcases hcase with ⟨_, h3, ad, ex⟩ | ⟨b, base, room, cap, hι, ex, _, h4, h5⟩
    · exact ⟨ad, 0, by rw [h3]; exact ex, .inl rfl⟩
    · exact ⟨_, cap, ex, .inr ⟨b, base, room, hι, rfl, h4, h5⟩⟩
  have hrun : (execOp a.eval o).run P w = .ok (.value (.slice ad 0 cap)) w := by
    have hb0 : (Instr.sliceBound (.int kh 0) cap .sliceAcap).run P w = .ok 0 w := run_bound0 kh cap .sliceAcap w
    by_cases hc : cap = 0
    · subst hc
      simp [execOp, ho, Instr.sliceAt, e1, ex, Instr.slice, Instr.sliceBounds, eh, hb0, e2]
    · rcases hcv with h0 | ⟨b, base, room, _, had, _⟩
      · exact absurd h0 hc
      · subst had
        simp [execOp, ho, Instr.sliceAt, e1, ex, Instr.slice, Instr.sliceBounds, eh, hb0, e2, hc, Addr.add_at]
  unfold Oper.wp
  rw [hrun, Oper.upon_value]
  rcases hcv with h0 | ⟨b, base, room, hι, had, hroom, hml⟩
  · -- no room at all
    refine hK _ _ _ (h.regrow (tgt := id) (pl := .empty) hob rfl hlive (.inl ⟨rfl, by omega⟩) (fun j hj _ => ?_) hT' (fun h => absurd rfl h) rfl rfl rfl (Nat.le_refl _) (fun _ _ _ => rfl) (fun _ _ _ h => by cases h) ?_ ?_) hfr
    · rw [List.getElem?_set_ne (fun e => hj e.symm), List.getElem?_map]
    · exact .inl ⟨by simp, rfl⟩
    · exact ⟨ks, 0, hS', .inl ⟨by simp, rfl, ad, by rw [h0]⟩⟩
  · have hobr := h.heap id _ hob (by rw [hι]; simp)
    rcases hobr with ⟨h4, _⟩ | ⟨b', base', room', blk, tt, fz, h4, h5, h6, h7, _⟩
    · rw [hι] at h4; cases h4
    · rw [hι] at h4; cases h4
      refine hK _ _ _ (h.regrow (tgt := id) (pl := .on b base room) hob rfl hlive (.inl ⟨rfl, by omega⟩) (fun j hj _ => ?_) hT' (fun h => absurd rfl h) rfl rfl rfl (Nat.le_refl _) (fun _ _ _ => rfl)
        (fun b' base' room' h => by cases h; exact .inr ⟨_, _, hι⟩) ?_ ?_) hfr
      · rw [List.getElem?_set_ne (fun e => hj e.symm), List.getElem?_map]
      · exact .inr ⟨b, base, room, blk, tt, fz, by simp, h5, h6, h7, fun e row he => by simp at he⟩
      · exact ⟨ks, 0, hS', .inr ⟨b, base, room, cap, by simp, by rw [had], by omega, hroom, hml⟩⟩
end Go.Fx

/- Views that take no part of what is there. -/
namespace Go.Fx
variable {P : Program} {cx : Cx} {ty : Nat → Option TI}

structure ViewsE (ι ι' : Nat → Pl) (hp hp' : List Ob) (w : World) : Prop where
  v : Views ι ι' hp hp' w
  e : ∀ id, hp.length ≤ id → id < hp'.length → ι' id = .empty

theorem ViewsE.refl {hp : List Ob} {ι : Nat → Pl} {w : World} (h : HR ι hp w) : ViewsE ι ι hp hp w := ⟨Views.refl h, fun id h1 h2 => by omega⟩

theorem Views.len {hp hp' : List Ob} {ι ι' : Nat → Pl} {w : World} (h : Views ι ι' hp hp' w) : hp.length ≤ hp'.length := by
  obtain ⟨⟨vs, rfl⟩, _, _⟩ := h; simp

theorem ViewsE.trans {ι ι' ι'' : Nat → Pl} {hp hp' hp'' : List Ob} {w : World} (h : ViewsE ι ι' hp hp' w) (k : ViewsE ι' ι'' hp' hp'' w) : ViewsE ι ι'' hp hp'' w := by
  refine ⟨h.v.trans k.v, fun id h1 h2 => ?_⟩
  rcases Nat.lt_or_ge id hp'.length with hl | hl
  · rw [k.v.agree id hl]; exact h.e id h1 hl
  · exact k.e id hl h2

theorem viewA_E {hp : List Ob} {ι : Nat → Pl} {w : World} {lk : Option (List K)} {a a' : A} {hp' : List Ob} {c : Value} (hv : viewA hp lk a = (a', hp')) (hn : isSub a = false) (h : HR ι hp w) (ha : AR ι (shp hp) a c) :
    ∃ ι', ViewsE ι ι' hp hp' w ∧ AR ι' (shp hp') a' c := by
  unfold viewA at hv
  split at hv
  · cases lk with
    | none => simp at hv; obtain ⟨rfl, rfl⟩ := hv; exact ⟨ι, ViewsE.refl h, ha⟩
    | some ks =>
      simp at hv
      obtain ⟨rfl, rfl⟩ := hv
      obtain ⟨ι', h1, h2⟩ := Views.one h ⟨true, .rows ks []⟩ .empty (fun ι' _ hon => .inl ⟨hon, rfl⟩)
      obtain ⟨ad, rfl⟩ := ha
      refine ⟨ι', ⟨h1, fun id g1 g2 => ?_⟩, ks, 0, by rw [shp_new]; rfl, .inl ⟨h2, rfl, ad, rfl⟩⟩
      have : id = hp.length := by simp at g2; omega
      subst this
      exact h2
  · simp [isSub] at hn
  · simp at hv
    obtain ⟨rfl, rfl⟩ := hv
    exact ⟨ι, ViewsE.refl h, ha⟩

theorem viewAs_E {w : World} : ∀ {lks : List (Option (List K))} {as as' : List A} {hp hp' : List Ob} {ι : Nat → Pl} {cs : List Value}, viewAs hp lks as = (as', hp') → (∀ a ∈ as, isSub a = false) → HR ι hp w → F2 (AR ι (shp hp)) as cs →
    ∃ ι', ViewsE ι ι' hp hp' w ∧ F2 (AR ι' (shp hp')) as' cs := by
  have step : ∀ {lk : Option (List K)} {a a' : A} {as as' : List A} {hp hp1 hp' : List Ob} {ι : Nat → Pl} {c : Value} {cs : List Value}, viewA hp lk a = (a', hp1) → isSub a = false → HR ι hp w → AR ι (shp hp) a c → F2 (AR ι (shp hp)) as cs →
      (∀ ι1, HR ι1 hp1 w → F2 (AR ι1 (shp hp1)) as cs → ∃ ι', ViewsE ι1 ι' hp1 hp' w ∧ F2 (AR ι' (shp hp')) as' cs) →
      ∃ ι', ViewsE ι ι' hp hp' w ∧ F2 (AR ι' (shp hp')) (a' :: as') (c :: cs) := by
    intro lk a a' as as' hp hp1 hp' ι c cs hv hn h ha has ih
    obtain ⟨ι1, v1, h1⟩ := viewA_E hv hn h ha
    obtain ⟨ι2, v2, h2⟩ := ih ι1 v1.v.heap (has.imp fun _ _ h => h.ext v1.v.ext)
    exact ⟨ι2, v1.trans v2, h1.ext v2.v.ext, h2⟩
  intro lks as
  induction as generalizing lks with
  | nil =>
    intro as' hp hp' ι cs hv _ h hF
    have : viewAs hp lks [] = ([], hp) := by cases lks <;> rfl
    rw [this] at hv
    cases hv
    match cs, hF with
    | [], _ => exact ⟨ι, ViewsE.refl h, trivial⟩
    | _ :: _, hF => exact hF.elim
  | cons a as ih =>
    intro as' hp hp' ι cs hv hn h hF
    match cs, hF with
    | [], hF => exact hF.elim
    | c :: cs, ⟨ha, has⟩ =>
      cases lks with
      | nil =>
        simp only [viewAs] at hv
        generalize h1 : viewA hp none a = q at hv
        obtain ⟨a1, hp1⟩ := q
        simp only at hv
        generalize h2 : viewAs hp1 [] as = q at hv
        obtain ⟨as1, hp2⟩ := q
        simp only [Prod.mk.injEq] at hv
        obtain ⟨rfl, rfl⟩ := hv
        exact step h1 (hn a (by simp)) h ha has fun ι1 g1 g2 => ih h2 (fun b hb => hn b (by simp [hb])) g1 g2
      | cons lk lks =>
        simp only [viewAs] at hv
        generalize h1 : viewA hp lk a = q at hv
        obtain ⟨a1, hp1⟩ := q
        simp only at hv
        generalize h2 : viewAs hp1 lks as = q at hv
        obtain ⟨as1, hp2⟩ := q
        simp only [Prod.mk.injEq] at hv
        obtain ⟨rfl, rfl⟩ := hv
        exact step h1 (hn a (by simp)) h ha has fun ι1 g1 g2 => ih h2 (fun b hb => hn b (by simp [hb])) g1 g2

theorem viewV_E {hp : List Ob} {w : World} {t : Nat} {v v' : V} {hp' : List Ob} {ι : Nat → Pl} {c : Value} {vs : List V} (hv : viewV ty hp t v = (v', hp')) (hn : anySub (v :: vs) = false) (h : HR ι hp w) (hr : VR ι (shp hp) v c) :
    (∃ ι', ViewsE ι ι' hp hp' w ∧ VR ι' (shp hp') v' c) ∧ anySub vs = false := by
  cases v with
  | «at» a =>
    simp only [anySub, Bool.or_eq_false_iff] at hn
    refine ⟨?_, hn.2⟩
    simp only [viewV] at hv
    generalize h2 : viewAs hp (lksOf ty t) [a] = q at hv
    obtain ⟨as1, hp2⟩ := q
    obtain ⟨ι', v1, v2⟩ := viewAs_E h2 (by simpa using hn.1) h (cs := [c]) ⟨hr, trivial⟩
    match as1, v2 with
    | [a1], ⟨v2, _⟩ =>
      simp only [Prod.mk.injEq] at hv
      obtain ⟨rfl, rfl⟩ := hv
      exact ⟨ι', v1, v2⟩
    | [], v2 => exact v2.elim
    | _ :: _ :: _, ⟨_, v2⟩ => exact v2.elim
  | agg as =>
    simp only [anySub, Bool.or_eq_false_iff] at hn
    refine ⟨?_, hn.2⟩
    simp only [viewV] at hv
    generalize h2 : viewAs hp (lksOf ty t) as = q at hv
    obtain ⟨as1, hp2⟩ := q
    simp only [Prod.mk.injEq] at hv
    obtain ⟨rfl, rfl⟩ := hv
    obtain ⟨cs, rfl, hF⟩ := hr
    obtain ⟨ι', v1, v2⟩ := viewAs_E h2 (by simpa using hn.1) h hF
    exact ⟨ι', v1, cs, rfl, v2⟩
  | tup xs =>
    simp only [anySub] at hn
    refine ⟨?_, hn⟩
    simp only [viewV, Prod.mk.injEq] at hv
    obtain ⟨rfl, rfl⟩ := hv
    exact ⟨ι, ViewsE.refl h, hr⟩

theorem viewVs_E {w : World} : ∀ {ts : List Nat} {vs vs' : List V} {hp hp' : List Ob} {ι : Nat → Pl} {cs : List Value}, viewVs ty hp ts vs = (vs', hp') → anySub vs = false → HR ι hp w → F2 (VR ι (shp hp)) vs cs →
    ∃ ι', ViewsE ι ι' hp hp' w ∧ F2 (VR ι' (shp hp')) vs' cs := by
  intro ts vs
  induction vs generalizing ts with
  | nil =>
    intro vs' hp hp' ι cs hv _ h hF
    have : viewVs ty hp ts [] = ([], hp) := by cases ts <;> rfl
    rw [this] at hv
    cases hv
    match cs, hF with
    | [], _ => exact ⟨ι, ViewsE.refl h, trivial⟩
    | _ :: _, hF => exact hF.elim
  | cons v vs ih =>
    intro vs' hp hp' ι cs hv hn h hF
    match cs, hF with
    | [], hF => exact hF.elim
    | c :: cs, ⟨ha, has⟩ =>
      have hn2 : anySub vs = false := by cases v <;> simp [anySub] at hn <;> simp [hn]
      cases ts with
      | nil =>
        simp only [viewVs] at hv
        generalize h2 : viewVs ty hp [] vs = q at hv
        obtain ⟨vs1, hp2⟩ := q
        simp only [Prod.mk.injEq] at hv
        obtain ⟨rfl, rfl⟩ := hv
        obtain ⟨ι', v1, v2⟩ := ih h2 hn2 h has
        exact ⟨ι', v1, VR.ext v1.v.ext ha, v2⟩
      | cons t ts =>
        simp only [viewVs] at hv
        generalize h1 : viewV ty hp t v = q at hv
        obtain ⟨a1, hp1⟩ := q
        simp only at hv
        generalize h2 : viewVs ty hp1 ts vs = q at hv
        obtain ⟨vs1, hp2⟩ := q
        simp only [Prod.mk.injEq] at hv
        obtain ⟨rfl, rfl⟩ := hv
        obtain ⟨⟨ι1, v1, v2⟩, _⟩ := viewV_E h1 hn h ha
        obtain ⟨ι2, w1, w2⟩ := ih h2 hn2 v1.v.heap (has.imp fun _ _ h => VR.ext v1.v.ext h)
        exact ⟨ι2, v1.trans w1, VR.ext w1.v.ext v2, w2⟩

theorem RelH.views {g : Beg} {ι ι' : Nat → Pl} {hp hp' : List Ob} {w : World} (h : RelH g ι hp w) (hv : ViewsE ι ι' hp hp' w) : RelH g ι' hp' w := by
  obtain ⟨⟨⟨vs, rfl⟩, hag, hh⟩, hem⟩ := hv
  have hlen := h.len
  simp only at hlen
  have hon : ∀ (id : Nat) (ob : Ob) (b base room : Nat), (hp ++ vs)[id]? = some ob → ι' id = .on b base room → id < hp.length ∧ hp[id]? = some ob ∧ ι id = .on b base room := by
    intro id ob b base room ho hon
    rcases Nat.lt_or_ge id hp.length with hl | hl
    · rw [List.getElem?_append_left hl] at ho
      exact ⟨hl, ho, by rw [← hag id hl]; exact hon⟩
    · have hlt := (List.getElem?_eq_some_iff.1 ho).1
      rw [hem id hl hlt] at hon; cases hon
  refine ⟨trivial, rfl, hh, ?_, fun id hid => ?_, fun id ob ho => ?_, h.os, h.tape, h.output, h.size, h.block, ?_⟩
  · intro i j oi oj b base room b' base' room' hi hj hij hown hli hlj h1 h2
    obtain ⟨_, a2, a3⟩ := hon i oi b base room hi h1
    obtain ⟨_, c2, c3⟩ := hon j oj b' base' room' hj h2
    exact h.inj i j oi oj b base room b' base' room' a2 c2 hij hown hli hlj a3 c3
  · rw [hag id (by omega)]; exact h.keep id hid
  · obtain ⟨ob', h1, h2⟩ := h.flag id ob ho
    simp only at h1
    have hl := (List.getElem?_eq_some_iff.1 h1).1
    exact ⟨ob', by simp only; rw [List.getElem?_append_left hl]; exact h1, h2⟩
  · intro id ob b base room hid ho hl h1
    obtain ⟨_, a2, a3⟩ := hon id ob b base room ho h1
    exact h.fresh id ob b base room hid a2 hl a3

end Go.Fx

/- Calls of functions that change what they are given. -/
namespace Go.Fx
variable {P : Program} {ty : Nat → Option TI} {hp : List Ob}

def HoldsE (P : Program) (f : FuncId) (args : List V) (h : List Ob) (r : V) (upd news : List Ob) : Prop :=
  ∀ (ι : Nat → Pl) (w : World) (cs : Array Value), F2 (VR ι (shp h)) args cs.toList → HR ι h w → INJ ι h →
    CallsV P f cs w fun c w' => ∃ ι', RelH ⟨w, ι, h⟩ ι' (upd ++ news) w' ∧ VR ι' (shp (upd ++ news)) r c

theorem idx_none {i : Nat} : ∀ {l : List Nat}, idx i l = none → i ∉ l
  | [], _ => by simp
  | j :: t, h => by
    simp only [idx] at h
    cases hb : Nat.beq i j with
    | true => simp [hb] at h
    | false =>
      simp only [hb] at h
      have hne : i ≠ j := fun e => by subst e; rw [Nat.beq_refl] at hb; cases hb
      cases ht : idx i t with
      | none => have := idx_none ht; simp [hne, this]
      | some n => simp [ht] at h

theorem idx_nodup {l : List Nat} (h : l.Nodup) {j i : Nat} (hj : l[j]? = some i) : idx i l = some j := by
  cases hi : idx i l with
  | none => exact absurd (List.mem_of_getElem? hj) (idx_none hi)
  | some k =>
    have hk := idx_get hi
    obtain ⟨h1, h2⟩ := List.getElem?_eq_some_iff.1 hk
    obtain ⟨h3, h4⟩ := List.getElem?_eq_some_iff.1 hj
    rcases Nat.lt_trichotomy k j with hlt | he | hgt
    · exact absurd (h2.trans h4.symm) (List.pairwise_iff_getElem.1 h k j h1 h3 hlt)
    · rw [he]
    · exact absurd (h4.trans h2.symm) (List.pairwise_iff_getElem.1 h j k h3 h1 hgt)

theorem backObs_length (m : Nat → Option Nat) : ∀ (ids : List Nat) (upd hp : List Ob), (backObs hp m ids upd).length = hp.length
  | [], _, _ => by simp [backObs]
  | _ :: _, [], _ => by simp [backObs]
  | i :: ids, ob :: upd, hp => by simp only [backObs]; rw [backObs_length m ids upd]; simp

theorem backObs_get (m : Nat → Option Nat) : ∀ (ids : List Nat) (upd hp : List Ob), ids.Nodup → ids.length = upd.length → ∀ id, id < hp.length →
    (backObs hp m ids upd)[id]? = (match idx id ids with | some j => (upd[j]?).map (Ob.ren m) | none => hp[id]?)
  | [], [], hp, _, _, id, _ => by simp [backObs, idx]
  | [], _ :: _, _, _, hl, _, _ => by simp at hl
  | _ :: _, [], _, _, hl, _, _ => by simp at hl
  | i :: ids, ob :: upd, hp, hn, hl, id, hid => by
    simp only [backObs]
    have hn' := List.nodup_cons.1 hn
    rw [backObs_get m ids upd _ hn'.2 (by simpa using hl) id (by simpa using hid)]
    simp only [idx]
    cases hb : Nat.beq id i with
    | true =>
      have he := Nat.eq_of_beq_eq_true hb
      subst he
      cases hi : idx id ids with
      | some j => exact absurd (List.mem_of_getElem? (idx_get hi)) hn'.1
      | none => simp [List.getElem?_set_self hid]
    | false =>
      have hne : i ≠ id := fun e => by subst e; rw [Nat.beq_refl] at hb; cases hb
      cases hi : idx id ids with
      | some j => simp
      | none => simp only; rw [List.getElem?_set_ne hne]

theorem sameLive_get : ∀ {a b : List Ob}, sameLive a b = true → a.length = b.length ∧ ∀ (j : Nat) (x y : Ob), a[j]? = some x → b[j]? = some y → shpOb y = .no → shpOb x = .no
  | [], [], _ => ⟨rfl, fun j x y h => by simp at h⟩
  | a :: as, b :: bs, h => by
    have hd : (shpOb b = .no → shpOb a = .no) ∧ sameLive as bs = true := by
      obtain ⟨ob, cb⟩ := b
      obtain ⟨oa, ca⟩ := a
      cases cb <;> cases ca <;> simp [sameLive, shpOb] at h ⊢ <;> exact h
    obtain ⟨h1, h2⟩ := sameLive_get hd.2
    refine ⟨by simp [h1], fun j x y hx hy => ?_⟩
    cases j with
    | zero => simp at hx hy; subst hx; subst hy; exact hd.1
    | succ j => exact h2 j x y (by simpa using hx) (by simpa using hy)
  | [], _ :: _, h => by simp [sameLive] at h
  | _ :: _, [], h => by simp [sameLive] at h

theorem reachAll_nodup (hp : List Ob) (l : List Nat) : (reach 3 (addIds [] l) hp).Nodup := by
  have h1 : ∀ (l acc : List Nat), acc.Nodup → (addIds acc l).Nodup := by
    intro l
    induction l with
    | nil => intro acc h; simpa [addIds] using h
    | cons i t ih =>
      intro acc h
      simp only [addIds]
      cases hh : hasId i acc with
      | true => exact ih acc h
      | false =>
        refine ih _ ?_
        have hni : i ∉ acc := fun hm => by rw [(hasId_iff i acc).2 hm] at hh; cases hh
        rw [List.nodup_append]
        refine ⟨h, by simp, fun a ha b hb => ?_⟩
        simp at hb
        subst hb
        rintro rfl
        exact hni ha
  have h2 : ∀ (n : Nat) (acc : List Nat), acc.Nodup → (reach n acc hp).Nodup := by
    intro n
    induction n with
    | zero => intro acc h; simpa [reach] using h
    | succ n ih => intro acc h; simp only [reach]; exact ih _ (h1 _ _ h)
  exact h2 3 _ (h1 l [] List.nodup_nil)

theorem eff_call {n0 : Nat} {o : Oper} {x : Operand} {args : Array Operand} {tys : Array TypeId} {f : FuncId} {caps : List (Nat × Nat × Nat)} {st : St} {args1 : List V} {hpT : List Ob} {ids : List Nat} {r : V} {upd news : List Ob}
    (ho : o.op = .call { callee := .value x, args := args, argTypes := tys }) (hx : evA st.sl x = .at (.fn f caps))
    (hview : viewVs ty st.hp tys.toList (args.toList.map (evA st.sl) ++ caps.map fun p => .at (.ptr p.1 p.2.1 p.2.2)) = (args1, hpT))
    (hns : anySub (args.toList.map (evA st.sl) ++ caps.map fun p => .at (.ptr p.1 p.2.1 p.2.2)) = false) (hnd : ids.Nodup)
    (hold : HoldsE P f (args1.map (V.ren fun i => idx i ids)) (pick hpT (fun i => idx i ids) false ids) r upd news)
    (hal : sameLive (pick hpT (fun i => idx i ids) false ids) upd = true) :
    EffOp P n0 o st ⟨put st.sl o.dst (r.ren (backId ids st.hp.length)), backObs st.hp (backId ids st.hp.length) ids upd ++ news.map (Ob.ren (backId ids st.hp.length))⟩ := by
  intro g ι a w hn0 h K Q hK
  have hvx := evA_VR h.slots x
  rw [hx] at hvx
  obtain ⟨cs, hev, hcaps⟩ := hvx
  have hargs : F2 (VR ι (shp st.hp)) (args.toList.map (evA st.sl) ++ caps.map fun p => .at (.ptr p.1 p.2.1 p.2.2)) (args.map a.eval ++ cs).toList := by
    rw [Array.toList_append, Array.toList_map]
    have hF : ∀ l : List Operand, F2 (VR ι (shp st.hp)) (l.map (evA st.sl)) (l.map a.eval) := fun l => by
      induction l with
      | nil => trivial
      | cons y t ih => exact ⟨evA_VR h.slots y, ih⟩
    have hcp : ∀ {caps : List (Nat × Nat × Nat)} {cs : List Value}, F2 (fun p c => PR ι (shp st.hp) p.1 p.2.1 p.2.2 c) caps cs → F2 (VR ι (shp st.hp)) (caps.map fun p => .at (.ptr p.1 p.2.1 p.2.2)) cs := by
      intro caps
      induction caps with
      | nil => intro cs hc; cases cs with | nil => trivial | cons _ _ => exact hc.elim
      | cons p t ih => intro cs hc; cases cs with | nil => exact hc.elim | cons c cs => exact ⟨hc.1, ih hc.2⟩
    exact (hF _).append (hcp hcaps)
  obtain ⟨ιT, hv, hargs1⟩ := viewVs_E hview hns h.heap hargs
  have hHT := h.toH.views hv
  obtain ⟨hhC, hcor⟩ := pick_HR (ro := false) hv.v.heap (fun i => idx i ids) (fun i j hij => idx_get hij)
  have hargs2 := F2.ren_list hcor hargs1
  generalize hιC : (fun j : Nat => (match ids[j]? with | some i => ιT i | none => Pl.off : Pl)) = ιC at hhC hcor hargs2
  generalize hC : pick hpT (fun i => idx i ids) false ids = hpC at hold hal hhC hcor hargs2
  obtain ⟨hlC, halC⟩ := sameLive_get hal
  have hlen : hpC.length = ids.length := by rw [← hC, pick_eq]; simp
  have hpre := hv.v.pre
  have hag := hv.v.agree
  have hem := hv.e
  -- an object of the callee's is one of the caller's
  have hgetC : ∀ (j : Nat) (oj : Ob), hpC[j]? = some oj → oj.live → ∃ i oi, ids[j]? = some i ∧ hpT[i]? = some oi ∧ oj.own = oi.own ∧ shpOb oj = shpOb oi ∧ ιC j = ιT i := by
    intro j oj hj hl
    rw [← hC, pick_eq, List.getElem?_map] at hj
    cases hi : ids[j]? with
    | none => simp [hi] at hj
    | some i =>
      simp [hi] at hj
      subst hj
      unfold pickOb at hl ⊢
      cases hoi : hpT[i]? with
      | none => rw [hoi] at hl; exact absurd rfl hl
      | some oi => exact ⟨i, oi, rfl, hoi, own_ren _ oi, shpOb_ren _ oi, by rw [← hιC]; simp [hi]⟩
  have hinjC : INJ ιC hpC := by
    intro i j oi oj b base room b' base' room' hi hj hij hown hli hlj hon hon'
    obtain ⟨a1, oa, e1, e2, e3, e4, e5⟩ := hgetC i oi hi hli
    obtain ⟨c1, oc, d1, d2, d3, d4, d5⟩ := hgetC j oj hj hlj
    rw [e5] at hon; rw [d5] at hon'
    exact hHT.inj a1 c1 oa oc b base room b' base' room' e2 d2 (fun e => hij (by
      have h1 := idx_nodup hnd e1
      have h2 := idx_nodup hnd d1
      rw [e, h2] at h1
      exact (Option.some.inj h1).symm)) (by rw [← e3]; exact hown) (by unfold Ob.live; rw [← e4]; exact hli) (by unfold Ob.live; rw [← d4]; exact hlj) hon hon'
  refine wp_call (f := f) (cs := args.map a.eval ++ cs) ?_ (hold ιC w _ hargs2 hhC hinjC) fun c w' ⟨ι', hrel, hr⟩ => ?_
  · simp [execOp, ho, resolve, hev, Deferred.ofValue, invoke]
  -- back
  have hgl := h.len
  obtain ⟨ι2, hlt2, hgt2⟩ : ∃ ι2 : Nat → Pl, (∀ id, id < st.hp.length → ι2 id = ι id) ∧ (∀ id, st.hp.length ≤ id → ι2 id = ι' (ids.length + (id - st.hp.length))) :=
    ⟨fun id => if id < st.hp.length then ι id else ι' (ids.length + (id - st.hp.length)), fun id hid => by simp [hid], fun id hid => by simp [Nat.not_lt.2 hid]⟩
  generalize hbk : backId ids st.hp.length = bk at hK ⊢
  have hbl : (backObs st.hp bk ids upd).length = st.hp.length := backObs_length _ _ _ _
  have hgeth : ∀ id, st.hp.length ≤ id → (backObs st.hp bk ids upd ++ news.map (Ob.ren bk))[id]? = ((upd ++ news)[ids.length + (id - st.hp.length)]?).map (Ob.ren bk) := by
    intro id hid
    rw [List.getElem?_append_right (by omega), hbl, List.getElem?_append_right (by omega), List.getElem?_map]
    rw [show ids.length + (id - st.hp.length) - upd.length = id - st.hp.length by omega]
  have hgetl : ∀ id, id < st.hp.length → (backObs st.hp bk ids upd ++ news.map (Ob.ren bk))[id]? = (match idx id ids with | some j => (upd[j]?).map (Ob.ren bk) | none => st.hp[id]?) := by
    intro id hid
    rw [List.getElem?_append_left (by omega)]
    exact backObs_get bk ids upd st.hp hnd (by omega) id hid
  have hpT_lt : ∀ id, id < st.hp.length → hpT[id]? = st.hp[id]? := by
    intro id hid
    obtain ⟨vs, rfl⟩ := hpre
    exact List.getElem?_append_left hid
  -- what an old object has become
  have hold' : ∀ (id : Nat) (ob : Ob), id < st.hp.length → st.hp[id]? = some ob →
      ∃ ob', (backObs st.hp bk ids upd ++ news.map (Ob.ren bk))[id]? = some ob' ∧ ob'.own = ob.own ∧ shpOb ob' = shpOb ob ∧
        ((idx id ids = none ∧ ob' = ob) ∨ ∃ j oj, idx id ids = some j ∧ upd[j]? = some oj ∧ ob' = oj.ren bk) := by
    intro id ob hid hob
    rw [hgetl id hid]
    cases hi : idx id ids with
    | none => exact ⟨ob, hob, rfl, rfl, .inl ⟨rfl, rfl⟩⟩
    | some j =>
      have hj := idx_get hi
      have hjl : j < ids.length := (List.getElem?_eq_some_iff.1 hj).1
      have hcj : hpC[j]? = some (ob.ren fun i => idx i ids) := by
        rw [← hC, pick_eq, List.getElem?_map, hj]
        simp [pickOb, hpT_lt id hid, hob]
      obtain ⟨oj, e1, e2, e3⟩ := hrel.flag j _ hcj
      simp only at e1
      rw [List.getElem?_append_left (by omega)] at e1
      refine ⟨oj.ren bk, by simp [e1], by rw [own_ren, e2, own_ren], ?_, .inr ⟨j, oj, rfl, e1, rfl⟩⟩
      rw [shpOb_ren]
      rcases e3 with e3 | e3
      · rw [e3, shpOb_ren]
      · have := halC j _ _ hcj e1 e3
        rw [shpOb_ren] at this
        rw [e3, this]
  have hcorr : ∀ j id, bk j = some id → shp (upd ++ news) j ≠ .no → ι2 id = ι' j ∧ shp (backObs st.hp bk ids upd ++ news.map (Ob.ren bk)) id = shp (upd ++ news) j := by
    intro j id hb hn
    rw [← hbk] at hb
    rcases Nat.lt_or_ge j ids.length with hj | hj
    · obtain ⟨h1, h2⟩ := backId_lt hb hj
      refine ⟨?_, ?_⟩
      · rw [hlt2 id h2, hrel.keep j (by simp only; omega)]
        simp only
        rw [← hιC]
        simp only [h1]
        exact (hag id h2).symm
      · unfold shp
        rw [hgetl id h2, idx_nodup hnd h1, List.getElem?_append_left (by omega)]
        simp only
        cases upd[j]? with
        | none => rfl
        | some ob => exact shpOb_ren _ ob
    · have := backId_ge hb hj
      subst this
      refine ⟨?_, ?_⟩
      · rw [hgt2 _ (by omega)]
        rw [show ids.length + (st.hp.length + (j - ids.length) - st.hp.length) = j by omega]
      · unfold shp
        rw [hgeth _ (by omega), show ids.length + (st.hp.length + (j - ids.length) - st.hp.length) = j by omega]
        cases (upd ++ news)[j]? with
        | none => rfl
        | some ob => exact shpOb_ren _ ob
  have hshl : ∀ id, shp st.hp id ≠ .no → ι2 id = ι id ∧ shp (backObs st.hp bk ids upd ++ news.map (Ob.ren bk)) id = shp st.hp id := by
    intro id hn
    have hid := shp_lt hn
    obtain ⟨ob', e1, _, e3, _⟩ := hold' id _ hid (List.getElem?_eq_getElem hid)
    exact ⟨hlt2 id hid, by rw [shp_of e1, e3, shp_of (List.getElem?_eq_getElem hid)]⟩
  -- blocks that the callee may have changed are the caller's own
  have hmine : ∀ k, Beg.mine ⟨w, ιC, hpC⟩ k → ∃ i oi base room j, idx i ids = some j ∧ i < st.hp.length ∧ st.hp[i]? = some oi ∧ oi.own = true ∧ oi.live ∧ ι i = .on k base room := by
    rintro k ⟨j, oj, base, room, g1, g2, g3, g4⟩
    obtain ⟨i, oi, e1, e2, e3, e4, e5⟩ := hgetC j oj g1 g3
    simp only at g4
    rw [e5] at g4
    rcases Nat.lt_or_ge i st.hp.length with hi | hi
    · exact ⟨i, oi, base, room, j, idx_nodup hnd e1, hi, by rw [← hpT_lt i hi]; exact e2, by rw [← e3]; exact g2, by unfold Ob.live; rw [← e4]; exact g3, by rw [← hag i hi]; exact g4⟩
    · rw [hem i hi (List.getElem?_eq_some_iff.1 e2).1] at g4; cases g4
  -- new objects lie on new blocks
  have hnew : ∀ (id : Nat) (ob : Ob) (b base room : Nat), st.hp.length ≤ id → (backObs st.hp bk ids upd ++ news.map (Ob.ren bk))[id]? = some ob → ob.live → ι2 id = .on b base room →
      w.heap.size ≤ b ∧ ∃ ob', (upd ++ news)[ids.length + (id - st.hp.length)]? = some ob' ∧ ob = ob'.ren bk := by
    intro id ob b base room hid hob hl hon
    rw [hgeth id hid] at hob
    rw [hgt2 id hid] at hon
    cases hoi : (upd ++ news)[ids.length + (id - st.hp.length)]? with
    | none => simp [hoi] at hob
    | some ob' =>
      simp [hoi] at hob
      subst hob
      refine ⟨?_, ob', rfl, rfl⟩
      have hl' : ob'.live := by unfold Ob.live at *; rwa [shpOb_ren] at hl
      rcases hrel.fresh _ ob' b base room (by simp only; omega) hoi hl' hon with h1 | h1
      · exact h1
      · obtain ⟨j, oj, base2, room2, g1, g2, g3, g4⟩ := h1
        simp only at g1 g4
        obtain ⟨oj', e1, e2, e3⟩ := hrel.flag j oj g1
        simp only at e1
        have hjl : j < hpC.length := (List.getElem?_eq_some_iff.1 g1).1
        have hlj' : oj'.live := by
          intro hn
          exact g3 (halC j oj oj' g1 (by rw [List.getElem?_append_left (by omega)] at e1; exact e1) hn)
        have hk := hrel.keep j hjl
        simp only at hk
        exact absurd rfl (hrel.inj j _ oj' ob' b base2 room2 b base room e1 hoi (by omega) (by rw [e2]; exact g2) hlj' hl' (by rw [hk]; exact g4) hon)
  have hsz : w.heap.size ≤ w'.heap.size := hrel.size
  refine hK ι2 _ _ ⟨put_F2 (h.slots.imp fun _ _ hv => VR.ext hshl hv) (VR.ren hcorr hr), by rw [put_defers]; exact h.defers, ?_, ?_, fun id hid => ?_, fun id ob hob => ?_, hrel.os.trans h.os, hrel.tape.trans h.tape, hrel.output.trans h.output,
    Nat.le_trans h.size hsz, fun k hk hn => ?_, fun id ob b base room hid hob hl hon => ?_⟩ (fun t ht => by unfold tidOf at ht; rw [ho] at ht; cases ht)
  · -- the heap
    intro id ob hob hoff
    rcases Nat.lt_or_ge id st.hp.length with hid | hid
    · obtain ⟨ob', e1, e2, e3, e4⟩ := hold' id _ hid (List.getElem?_eq_getElem hid)
      simp only at hob
      rw [e1] at hob
      obtain rfl := Option.some.inj hob
      rw [hlt2 id hid] at hoff
      rcases e4 with ⟨e4, e5⟩ | ⟨j, oj, e4, e5, e6⟩
      · have hob0 := h.heap id _ (List.getElem?_eq_getElem hid) hoff
        rw [e5]
        by_cases hlv : (st.hp[id]).live
        · refine hob0.ext hshl (hlt2 id hid) (fun b base room hbb hlt => ?_)
          refine hrel.block b hlt fun hm => ?_
          obtain ⟨i, oi, base2, room2, j, f1, f2, f3, f4, f5, f6⟩ := hmine b hm
          have hne : i ≠ id := fun e => by rw [e, e4] at f1; cases f1
          exact absurd rfl (h.inj i id oi _ b base2 room2 b base room f3 (List.getElem?_eq_getElem hid) hne f4 f5 hlv f6 hbb)
        · exact ObR.dead hlv
      · rw [e6]
        have hj := idx_get e4
        have hjl : j < ids.length := (List.getElem?_eq_some_iff.1 hj).1
        have hk := hrel.keep j (by simp only; omega)
        simp only at hk
        have hιj : ιC j = ι id := by rw [← hιC]; simp only [hj]; exact hag id hid
        refine (hrel.heap j oj (by rw [List.getElem?_append_left (by omega)]; exact e5) (by rw [hk, hιj]; exact hoff)).ren hcorr ?_
        rw [hlt2 id hid, hk, hιj]
    · simp only at hob
      rw [hgeth id hid] at hob
      rw [hgt2 id hid] at hoff
      cases hoi : (upd ++ news)[ids.length + (id - st.hp.length)]? with
      | none => simp [hoi] at hob
      | some ob' =>
        simp [hoi] at hob
        subst hob
        exact (hrel.heap _ ob' hoi hoff).ren hcorr (hgt2 id hid)
  · intro i j oi oj b base room b' base' room' hi hj hij hown hli hlj hon hon'
    simp only at hi hj
    rcases Nat.lt_or_ge i st.hp.length with h1 | h1
    · obtain ⟨oi', e1, e2, e3, _⟩ := hold' i _ h1 (List.getElem?_eq_getElem h1)
      rw [e1] at hi; obtain rfl := Option.some.inj hi
      rw [hlt2 i h1] at hon
      have hli0 : (st.hp[i]).live := by unfold Ob.live; rw [← e3]; exact hli
      rcases Nat.lt_or_ge j st.hp.length with h2 | h2
      · obtain ⟨oj', d1, d2, d3, _⟩ := hold' j _ h2 (List.getElem?_eq_getElem h2)
        rw [d1] at hj; obtain rfl := Option.some.inj hj
        rw [hlt2 j h2] at hon'
        exact h.inj i j _ _ b base room b' base' room' (List.getElem?_eq_getElem h1) (List.getElem?_eq_getElem h2) hij (by rw [← e2]; exact hown) hli0 (by unfold Ob.live; rw [← d3]; exact hlj) hon hon'
      · have := (hnew j oj b' base' room' h2 hj hlj hon').1
        have := lt_of_HR h.heap (List.getElem?_eq_getElem h1) hli0 hon
        omega
    · obtain ⟨hb, ob1, c1, c2⟩ := hnew i oi b base room h1 hi hli hon
      rcases Nat.lt_or_ge j st.hp.length with h2 | h2
      · obtain ⟨oj', d1, d2, d3, _⟩ := hold' j _ h2 (List.getElem?_eq_getElem h2)
        rw [d1] at hj; obtain rfl := Option.some.inj hj
        rw [hlt2 j h2] at hon'
        have := lt_of_HR h.heap (List.getElem?_eq_getElem h2) (by unfold Ob.live; rw [← d3]; exact hlj) hon'
        omega
      · obtain ⟨hb', ob2, c3, c4⟩ := hnew j oj b' base' room' h2 hj hlj hon'
        subst c2; subst c4
        rw [hgt2 i h1] at hon
        rw [hgt2 j h2] at hon'
        unfold Ob.live at hli hlj
        rw [shpOb_ren] at hli hlj
        rw [own_ren] at hown
        exact hrel.inj _ _ ob1 ob2 b base room b' base' room' c1 c3 (by omega) hown hli hlj hon hon'
  · rw [hlt2 id (by omega)]; exact h.keep id hid
  · obtain ⟨ob', h1, h2, h3⟩ := h.flag id ob hob
    have hl := (List.getElem?_eq_some_iff.1 h1).1
    obtain ⟨ob2, e1, e2, e3, _⟩ := hold' id ob' hl h1
    exact ⟨ob2, e1, e2.trans h2, by rw [e3]; exact h3⟩
  · rw [← h.block k hk hn]
    refine hrel.block k (Nat.lt_of_lt_of_le hk h.size) fun hm => ?_
    obtain ⟨i, oi, base2, room2, j, f1, f2, f3, f4, f5, f6⟩ := hmine k hm
    rcases h.apart f3 f4 f5 f6 with h1 | h1
    · omega
    · exact hn h1
  · simp only at hob
    rcases Nat.lt_or_ge id st.hp.length with h1 | h1
    · obtain ⟨ob2, e1, e2, e3, _⟩ := hold' id _ h1 (List.getElem?_eq_getElem h1)
      rw [e1] at hob; obtain rfl := Option.some.inj hob
      rw [hlt2 id h1] at hon
      exact h.fresh id _ b base room hid (List.getElem?_eq_getElem h1) (by unfold Ob.live; rw [← e3]; exact hl) hon
    · have := (hnew id ob b base room h1 hob hl hon).1
      have := h.size
      exact .inl (by omega)
end Go.Fx

/- Every calm step of the evaluator is one. -/
namespace Go.Fx
variable {P : Program} {sl : List V} {hp : List Ob}

theorem chk_some {α : Type} {b : Bool} {x : Option α} {r : α} : chk b x = some r ↔ b = true ∧ x = some r := by
  cases b <;> simp [chk]

def CallsOK (P : Program) (cx : Cx) : Prop := ∀ (f : FuncId) (args : List V) (h : List Ob) (r : V) (news : List Ob), cx.call f args h = some (true, ⟨r, none, news⟩) → Holds P f args h r news
def CallsOKE (P : Program) (cx : Cx) : Prop := ∀ (f : FuncId) (args : List V) (h : List Ob) (r : V) (upd news : List Ob), cx.call f args h = some (true, ⟨r, some upd, news⟩) → HoldsE P f args h r upd news

def CallsOK2 (P : Program) (cx : Cx) : Prop := ∀ (f : FuncId) (args : List V) (h : List Ob) (b : Bool) (x y : Bool × Ret) (r : V) (news : List Ob), cx.two f args h = some (b, x, y) → (bif b then x else y) = (true, ⟨r, none, news⟩) → Holds P f args h r news

structure CxOK (P : Program) (cx : Cx) : Prop where
  F : cx.F = real
  ty : TyOK P cx.ty
  calls : CallsOK P cx
  callsE : CallsOKE P cx
  calls2 : CallsOK2 P cx

def Step (P : Program) (o : Oper) (sl : List V) (hp : List Ob) {α : Type} (k : V → List Ob → Option α) (r : α) : Prop := ∃ v news, CalmOp P o sl hp v news ∧ k v news = some r

variable {cx : Cx} {o : Oper} {α : Type} {k e : V → List Ob → Option α} {r : α}

theorem obKs_shp {id : Nat} {ks : List K} (h : obKs hp id = some ks) : shp hp id = .rows ks (obLen hp id) := by
  unfold obKs at h
  unfold shp obLen
  split at h
  · rename_i own ks' xs ho
    simp only [Option.some.injEq] at h
    subst h
    rw [ho]; rfl
  · cases h

theorem s_build {t : TypeId} {parts : Array (Nat × Operand)} (hC : CxOK P cx) (ho : o.op = .build t parts) (h : calm cx o sl hp k e = some r) : Step P o sl hp k r := by
  simp only [calm, ho] at h
  split at h
  · rename_i i hi
    split at h
    · rename_i fs hd
      split at h
      · rename_i cs hf
        exact ⟨_, _, calm_build hC.ty ho hi (by rw [hd]; exact hf), h⟩
      · cases h
    · rename_i n et hd
      split at h
      · rename_i ei he
        split at h
        · rename_i cs hf
          exact ⟨_, _, calm_build hC.ty ho hi (by rw [hd]; simp only [he]; exact hf), h⟩
        · cases h
      · cases h
    · cases h
  · cases h

theorem s_buildSlice {t : TypeId} {len : Nat} {parts : Array (Nat × Operand)} (hC : CxOK P cx) (ho : o.op = .buildSlice t len parts) (h : calm cx o sl hp k e = some r) : Step P o sl hp k r := by
  simp only [calm, ho] at h
  split at h
  · rename_i et ht
    split at h
    · rename_i ei he
      split at h
      · rename_i ks hks
        split at h
        · rename_i h0
          exact ⟨_, _, calm_buildSlice0 hC.ty ho ht he h0, h⟩
        · cases h
        · rename_i len1 len0 x2 hl1 hl2
          split at h
          · rename_i cs hb1 hb2 hf
            split at h
            · rename_i ns hns
              have hlen : 0 < len1 := Nat.pos_of_ne_zero hl1
              exact ⟨_, _, calm_buildSlice hC.ty ho ht he hks hlen (by simpa [Nat.blt_eq] using hb2) (Nat.le_of_ble_eq_true hb1) hf hns, h⟩
            · cases h
          · cases h
      · split at h
        · simp only [chk_some] at h
          obtain ⟨h1, h2, h3, h4⟩ := h
          split at h4
          · rename_i cs hf
            exact ⟨_, _, calm_buildSliceB hC.ty ho ht he (by simpa [Nat.blt_eq] using h1) (Nat.eq_of_beq_eq_true h3) (Nat.le_of_ble_eq_true h2) hf, h4⟩
          · cases h4
        · cases h
    · cases h
  · cases h

theorem s_load {t : TypeId} {x : Operand} (hC : CxOK P cx) (ho : o.op = .load t x) (h : calm cx o sl hp k e = some r) : Step P o sl hp k r := by
  simp only [calm, ho] at h
  split at h
  · rename_i id el off i hx hi
    split at h
    · rename_i ob hob
      split at h
      · rename_i v hl
        refine ⟨_, _, calm_value fun ι a w hops hhr => ?_, h⟩
        have hv := hops x (by simp [ho, Op.operands])
        rw [hx] at hv
        have hpr : PR ι (shp hp) id el off (a.eval x) := hv
        have hoff : ι id ≠ .off := by
          obtain ⟨b, base, room, h1, _⟩ := hpr
          rw [h1]; simp
        obtain ⟨q, h1, h2⟩ := load_sound (P := P) (hC.ty t i hi) (hhr id ob hob hoff) (shp_of hob) hpr (v := v) (by cases hd : i.d <;> rw [hd] at hl <;> exact hl)
        exact ⟨q, 0, by rw [World.drewN_zero]; simp [execOp, ho, h1], h2⟩
      · cases h
    · cases h
  · cases h

theorem s_bin {op : BinOp} {t : TypeId} {x y : Operand} {q : TypeId} (hC : CxOK P cx) (ho : o.op = .binOp op t x y q) (h : calm cx o sl hp k e = some r) : Step P o sl hp k r := by
  simp only [calm, ho] at h
  split at h
  · rename_i a b hx hy
    rw [hC.F] at h
    obtain ⟨z, hz, hr⟩ := binA_sound (P := P) (t := t) (fun htb => by
      split at htb
      · rename_i hd; exact tyOf_DR hC.ty hd
      · cases htb) h
    refine ⟨_, _, calm_value fun ι ac w hops hhr => ?_, hz⟩
    have hvx := hops x (by simp [ho, Op.operands])
    have hvy := hops y (by simp [ho, Op.operands])
    rw [hx] at hvx; rw [hy] at hvy
    obtain ⟨qv, n, h1, h2⟩ := hr ι (shp hp) _ _ x y w hvx hvy
    exact ⟨qv, n, by simp only [execOp, ho, Sem.run_bind, h1, Result.andThen_ok, Sem.run_pure], h2⟩
  · rename_i as bs hx hy
    split at h
    · rename_i i hi
      split at h
      · rename_i fs ks hd hks
        rw [chk_some] at h
        obtain ⟨hf, h⟩ := h
        split at h
        · rename_i e he
          rw [hC.F] at he
          split at h
          · exact ⟨_, _, calm_binAgg hC.ty ho hi hd hks hx hy hf he (.inl rfl), h⟩
          · exact ⟨_, _, calm_binAgg hC.ty ho hi hd hks hx hy hf he (.inr rfl), h⟩
          · cases h
        · cases h
      · cases h
    · cases h
  · cases h

theorem s_un {op : UnOp} {t : TypeId} {x : Operand} (hC : CxOK P cx) (ho : o.op = .unOp op t x) (h : calm cx o sl hp k e = some r) : Step P o sl hp k r := by
  simp only [calm, ho] at h
  split at h
  · rename_i a hx
    rw [hC.F] at h
    obtain ⟨z, hz, hr⟩ := unA_sound (P := P) h
    refine ⟨_, _, calm_value fun ι ac w hops hhr => ?_, hz⟩
    have hvx := hops x (by simp [ho, Op.operands])
    rw [hx] at hvx
    obtain ⟨qv, h1, h2⟩ := hr ι (shp hp) _ w hvx
    exact ⟨qv, 0, by rw [World.drewN_zero]; simp only [execOp, ho, Sem.run_bind, h1, Result.andThen_ok, Sem.run_pure], h2⟩
  · cases h

theorem s_convert {src dst : TypeId} {x : Operand} (hC : CxOK P cx) (ho : o.op = .convert src dst x) (h : calm cx o sl hp k e = some r) : Step P o sl hp k r := by
  simp only [calm, ho] at h
  split at h
  · rename_i a hx
    rw [hC.F] at h
    obtain ⟨z, hz, hr⟩ := convA_sound (P := P) hC.ty h
    refine ⟨_, _, calm_value fun ι ac w hops hhr => ?_, hz⟩
    have hvx := hops x (by simp [ho, Op.operands])
    rw [hx] at hvx
    obtain ⟨qv, n, h1, h2⟩ := hr ι (shp hp) _ w hvx
    exact ⟨qv, n, by simp only [execOp, ho, Sem.run_bind, h1, Result.andThen_ok, Sem.run_pure], h2⟩
  · cases h

theorem s_field {s : TypeId} {x : Operand} {f : Nat} (hC : CxOK P cx) (ho : o.op = .field s x f) (h : calm cx o sl hp k e = some r) : Step P o sl hp k r := by
  simp only [calm, ho] at h
  split at h
  · rename_i fs as ht hx
    split at h
    · rename_i d ft hf
      split at h
      · rename_i i hi
        split at h
        · rename_i hd; exact ⟨_, _, calm_field hC.ty ho ht hx hf hi (.inl ⟨by rw [hd]; rfl, rfl⟩), h⟩
        · rename_i hd; exact ⟨_, _, calm_field hC.ty ho ht hx hf hi (.inl ⟨by rw [hd]; rfl, rfl⟩), h⟩
        · rename_i hn1 hn2
          split at h
          · rename_i a ha
            refine ⟨_, _, calm_field hC.ty ho ht hx hf hi (.inr ⟨?_, a, ha, rfl⟩), h⟩
            cases hd : i.d with
            | st fs => exact absurd hd (hn1 _)
            | ar n e => exact absurd hd (hn2 _ _)
            | sc k => rfl
            | sl e => rfl
            | mp k kd => rfl
            | oth => rfl
          · cases h
      · cases h
    · cases h
  · cases h

theorem s_indexAddr {t : TypeId} {x ix : Operand} (hC : CxOK P cx) (ho : o.op = .indexAddr t x ix) (h : calm cx o sl hp k e = some r) : Step P o sl hp k r := by
  simp only [calm, ho] at h
  split at h
  · rename_i et id kk n ht hx hix
    split at h
    · rename_i ei ks he hks
      simp only [chk_some, decide_eq_true_eq] at h
      obtain ⟨h1, h2, h3, h4⟩ := h
      have hS := obKs_shp hks
      have := calm_indexAddr (P := P) (sl := sl) (hp := hp) (st := 0) (len := obLen hp id) hC.ty ho ht he (Nat.eq_of_beq_eq_true h1) hS hix h2 h3 (fun ι c hv => by
        rw [hx] at hv
        obtain ⟨ks', m, g1, g2⟩ := hv
        rw [hS] at g1
        simp only [Shp.rows.injEq] at g1
        obtain ⟨rfl, rfl⟩ := g1
        refine ⟨by omega, ?_⟩
        rcases g2 with ⟨_, g3, _⟩ | ⟨b, base, room, cap, g3, g4, _⟩
        · omega
        · exact ⟨b, base, room, cap, g3, by simpa using g4⟩)
      rw [Nat.zero_add] at this
      exact ⟨_, _, this, h4⟩
    · cases h
  · rename_i et id st len cap kk n ht hx hix
    split at h
    · rename_i ei ks he hks
      simp only [chk_some, decide_eq_true_eq] at h
      obtain ⟨h1, h2, h3, h4⟩ := h
      have hS := obKs_shp hks
      refine ⟨_, _, calm_indexAddr (P := P) (sl := sl) (hp := hp) (st := st) (len := len) hC.ty ho ht he (Nat.eq_of_beq_eq_true h1) hS hix h2 h3 (fun ι c hv => ?_), h4⟩
      rw [hx] at hv
      obtain ⟨ks', m, g1, g2, a, cp, g3, g4, g5, g6, g7⟩ := hv
      rw [hS] at g1
      simp only [Shp.rows.injEq] at g1
      obtain ⟨rfl, rfl⟩ := g1
      refine ⟨g2, ?_⟩
      rcases g7 with g7 | ⟨b, base, room, q1, q2, q3⟩
      · omega
      · exact ⟨b, base, room, cp, q1, by rw [g3, q2]⟩
    · cases h
  · rename_i et id len kk n ht hx hix
    split at h
    · rename_i ei he
      simp only [chk_some, decide_eq_true_eq] at h
      obtain ⟨h1, h2, h3, h4⟩ := h
      exact ⟨_, _, calm_indexAddrB hC.ty ho ht he (Nat.eq_of_beq_eq_true h1) hx hix h2 h3, h4⟩
    · cases h
  · rename_i len et id kk n ht hx hix
    split at h
    · rename_i kd ei hks he
      simp only [chk_some, decide_eq_true_eq] at h
      obtain ⟨h1, h2, h3, h4, h5⟩ := h
      exact ⟨_, _, calm_indexAddrArr hC.ty ho ht he (Nat.eq_of_beq_eq_true h1) (obKs_shp hks) hix h2 h3 (Nat.eq_of_beq_eq_true h4) hx, h5⟩
    · cases h
  · cases h

theorem s_index {t : TypeId} {x ix : Operand} (hC : CxOK P cx) (ho : o.op = .index t x ix) (h : calm cx o sl hp k e = some r) : Step P o sl hp k r := by
  simp only [calm, ho] at h
  split at h
  · rename_i len et as kk n ht hx hix
    split at h
    · rename_i ei he
      split at h
      · rename_i kd hd
        simp only [chk_some, decide_eq_true_eq] at h
        obtain ⟨h1, h2, h3, h4⟩ := h
        split at h4
        · rename_i a ha
          exact ⟨_, _, calm_index hC.ty ho ht he hd (Nat.eq_of_beq_eq_true h1) hx hix h2 h3 ha, h4⟩
        · cases h4
      · cases h
    · cases h
  · cases h

theorem s_makeSlice {t : TypeId} {x y : Operand} (hC : CxOK P cx) (ho : o.op = .makeSlice t x y) (h : calm cx o sl hp k e = some r) : Step P o sl hp k r := by
  simp only [calm, ho] at h
  split at h
  · rename_i et kx n ky c ht hx hy
    split at h
    · rename_i ei he
      split at h
      · rename_i ks z hks hz
        simp only [chk_some, decide_eq_true_eq] at h
        obtain ⟨h1, h2, h3, h4, h5, h6⟩ := h
        have hnc : n = c := by simpa using h2
        subst hnc
        rw [hks] at hz
        exact ⟨_, _, calm_makeSlice hC.ty ho ht he hks hz hx hy h1 h3 (Nat.le_of_ble_eq_true h4) (by simpa [Nat.blt_eq] using h5), h6⟩
      · cases h
    · cases h
  · cases h

theorem s_slice {t : TypeId} {x : Operand} {lo hi mx : Option Operand} (hC : CxOK P cx) (ho : o.op = .slice t x lo hi mx) (h : calm cx o sl hp k e = some r) : Step P o sl hp k r := by
  simp only [calm, ho] at h
  split at h
  · rename_i et ht
    split at h
    · rename_i ei hh m he hx
      split at h
      · rename_i kh km h1 h2
        exact ⟨_, _, calm_slice00 hC.ty ho ht he hx (.inl rfl) h1 h2, h⟩
      · cases h
    · rename_i ei hh he hx
      split at h
      · rename_i kh h1
        exact ⟨_, _, calm_slice0 hC.ty ho ht he hx h1, h⟩
      · cases h
    · rename_i ei id hh m he hx
      split at h
      · rename_i kh km h1 h2
        exact ⟨_, _, calm_slice00 hC.ty ho ht he hx (.inr ⟨id, rfl⟩) h1 h2, h⟩
      · cases h
    · rename_i lo0 hi0 mx0 ei id he hx
      split at h
      · rename_i ks hks
        have hS := obKs_shp hks
        simp only [chk_some] at h
        obtain ⟨hb, h⟩ := h
        have hb' := Nat.eq_of_beq_eq_true hb
        have hks' : ∀ (l h : Nat), l ≤ h → h ≤ obLen hp id → ∀ ks' n, shp hp id = .rows ks' n → ks'.length = ei.size ∧ h ≤ n := fun l h _ hh ks' n hr => by
          rw [hS] at hr
          simp only [Shp.rows.injEq] at hr
          obtain ⟨rfl, rfl⟩ := hr
          exact ⟨hb', hh⟩
        split at h
        · rename_i l
          split at h
          · rename_i kl l' hl
            simp only [chk_some, decide_eq_true_eq] at h
            obtain ⟨h1, h2, h3⟩ := h
            refine ⟨_, _, calm_slice (l := l'.toNat) (h := obLen hp id) hC.ty ho ht he (fun ks' n hr => ?_) hx (by omega) (.inr ⟨l, kl, rfl, by rw [hl, Int.toNat_of_nonneg h1]⟩) (.inl rfl), h3⟩
            obtain ⟨g1, g2⟩ := hks' l'.toNat (obLen hp id) (by omega) (Nat.le_refl _) ks' n hr
            rw [hS] at hr
            simp only [Shp.rows.injEq] at hr
            exact ⟨g1, g2, fun _ => hr.2⟩
          · cases h
        · rename_i h0
          split at h
          · rename_i kh h' hh
            simp only [chk_some, decide_eq_true_eq] at h
            obtain ⟨h1, h2, h3⟩ := h
            refine ⟨_, _, calm_slice (l := 0) (h := h'.toNat) hC.ty ho ht he (fun ks' n hr => ?_) hx (by omega) (.inl ⟨rfl, rfl⟩) (.inr ⟨h0, kh, rfl, by rw [hh, Int.toNat_of_nonneg h1]⟩), h3⟩
            obtain ⟨g1, g2⟩ := hks' 0 h'.toNat (by omega) (by omega) ks' n hr
            exact ⟨g1, g2, fun h => by cases h⟩
          · cases h
        · rename_i l h0
          split at h
          · rename_i kl l' kh h' hl hh
            simp only [chk_some, decide_eq_true_eq] at h
            obtain ⟨h1, h2, h3, h4⟩ := h
            refine ⟨_, _, calm_slice (l := l'.toNat) (h := h'.toNat) hC.ty ho ht he (fun ks' n hr => ?_) hx (by omega) (.inr ⟨l, kl, rfl, by rw [hl, Int.toNat_of_nonneg h1]⟩) (.inr ⟨h0, kh, rfl, by rw [hh, Int.toNat_of_nonneg (by omega)]⟩), h4⟩
            obtain ⟨g1, g2⟩ := hks' l'.toNat h'.toNat (by omega) (by omega) ks' n hr
            exact ⟨g1, g2, fun h => by cases h⟩
          · cases h
        · refine ⟨_, _, calm_slice (l := 0) (h := obLen hp id) hC.ty ho ht he (fun ks' n hr => ?_) hx (by omega) (.inl ⟨rfl, rfl⟩) (.inl rfl), h⟩
          obtain ⟨g1, g2⟩ := hks' 0 (obLen hp id) (by omega) (Nat.le_refl _) ks' n hr
          rw [hS] at hr
          simp only [Shp.rows.injEq] at hr
          exact ⟨g1, g2, fun _ => hr.2⟩
      · cases h
    · cases h
  · rename_i len et ht
    split at h
    · rename_i ei id he hx
      split at h
      · rename_i kd xs hob
        simp only [chk_some] at h
        obtain ⟨h1, h2, h3⟩ := h
        exact ⟨_, _, calm_sliceArr hC.ty ho ht he hx hob (Nat.eq_of_beq_eq_true h1) (Nat.le_of_ble_eq_true h2), h3⟩
      · cases h
    · cases h
  · cases h
end Go.Fx

/- Every calm step of the evaluator is one: calls, and all together. -/
namespace Go.Fx
variable {P : Program} {sl : List V} {hp : List Ob} {cx : Cx} {o : Oper} {α : Type} {k e : V → List Ob → Option α} {r : α}

theorem list_of_toList {β : Type} {a : Array β} {l : List β} (h : a.toList = l) : a = l.toArray := by rw [← h]

theorem s_len {args : Array Operand} {tys : Array TypeId} (hC : CxOK P cx) (ho : o.op = .call { callee := .builtin .len, args := args, argTypes := tys }) (h : calm cx o sl hp k e = some r) : Step P o sl hp k r := by
  simp only [calm, ho] at h
  split at h
  · rename_i x t hx ht
    have e1 := list_of_toList hx
    have e2 := list_of_toList ht
    subst e1; subst e2
    split at h
    · rename_i d hd hv; exact ⟨_, _, calm_len hC.ty ho hd hv (.inl ⟨rfl, rfl⟩), h⟩
    · rename_i d id hd hv
      split at h
      · rename_i own ks xs hob
        exact ⟨_, _, calm_len hC.ty ho hd hv (.inr (.inl ⟨_, _, _, _, rfl, hob, rfl⟩)), h⟩
      · cases h
    · rename_i d id st len cap hd hv; exact ⟨_, _, calm_len hC.ty ho hd hv (.inr (.inr (.inl ⟨_, _, _, rfl⟩))), h⟩
    · rename_i d id len hd hv; exact ⟨_, _, calm_len hC.ty ho hd hv (.inr (.inr (.inr ⟨_, rfl⟩))), h⟩
    · rename_i k kd id hd hv
      split at h
      · rename_i own kd' keys hob
        exact ⟨_, _, calm_lenMap hC.ty ho hd hv hob, h⟩
      · cases h
    · cases h
  · cases h

theorem s_min {args : Array Operand} {tys : Array TypeId} (ho : o.op = .call { callee := .builtin .min, args := args, argTypes := tys }) (h : calm cx o sl hp k e = some r) : Step P o sl hp k r := by
  simp only [calm, ho] at h
  split at h
  · rename_i x y hx
    have e1 := list_of_toList hx
    subst e1
    split at h
    · rename_i j a j' b hx hy
      simp only [chk_some, decide_eq_true_eq] at h
      obtain ⟨rfl, h⟩ := h
      exact ⟨_, _, calm_min ho hx hy, h⟩
    · cases h
  · cases h

theorem s_max {args : Array Operand} {tys : Array TypeId} (hC : CxOK P cx) (ho : o.op = .call { callee := .builtin .max, args := args, argTypes := tys }) (h : calm cx o sl hp k e = some r) : Step P o sl hp k r := by
  simp only [calm, ho] at h
  split at h
  · rename_i x y hx
    have e1 := list_of_toList hx
    subst e1
    split at h
    · rename_i j a j' b hx hy
      simp only [chk_some, decide_eq_true_eq] at h
      obtain ⟨rfl, h⟩ := h
      rw [hC.F] at h
      exact ⟨_, _, calm_max ho hx hy, h⟩
    · cases h
  · cases h

theorem s_append {args : Array Operand} {tys : Array TypeId} (hC : CxOK P cx) (ho : o.op = .call { callee := .builtin .append, args := args, argTypes := tys }) (h : calm cx o sl hp k e = some r) : Step P o sl hp k r := by
  simp only [calm, ho] at h
  split at h
  · rename_i x y t t' hx ht
    have e1 := list_of_toList hx
    have e2 := list_of_toList ht
    subst e1; subst e2
    split at h
    · rename_i h1
      obtain rfl := Nat.eq_of_beq_eq_true h1
      split at h
      · rename_i et ya hd hv hy
        split at h
        · rename_i ei ys he hys
          split at h
          · rename_i ks hks
            simp only [chk_some, decide_eq_true_eq] at h
            obtain ⟨g1, g2, g3, g4⟩ := h
            exact ⟨_, _, calm_append hC.ty ho hd he hks hv hy hys g1 g2 (Nat.le_of_ble_eq_true g3), g4⟩
          · cases h
        · cases h
      · cases h
    · split at h
      · rename_i et kn kn' n hd hd' hv hy
        split at h
        · rename_i ei he
          split at h
          · rename_i ks z hks hz
            rw [hks] at hz
            simp only [chk_some, decide_eq_true_eq] at h
            obtain ⟨rfl, g1, g2, g3, g4, g5⟩ := h
            exact ⟨_, _, calm_appendMake hC.ty ho hd hd' he hks hz hv hy g1 g2 (Nat.le_of_ble_eq_true g3) (by simpa [Nat.blt_eq] using g4), g5⟩
          · cases h
        · cases h
      · cases h
  · cases h

theorem s_cap {args : Array Operand} {tys : Array TypeId} (hC : CxOK P cx) (ho : o.op = .call { callee := .builtin .cap, args := args, argTypes := tys }) (h : calm cx o sl hp k e = some r) : Step P o sl hp k r := by
  simp only [calm, ho] at h
  split at h
  · rename_i x t hx ht
    have e1 := list_of_toList hx
    have e2 := list_of_toList ht
    subst e1; subst e2
    split at h
    · rename_i d hd hv; exact ⟨_, _, calm_cap hC.ty ho hd hv, h⟩
    · cases h
  · cases h

theorem F2.evals {ι : Nat → Pl} {S : Nat → Shp} {a : Act} : ∀ {xs : List Operand}, (∀ x ∈ xs, VR ι S (evA sl x) (a.eval x)) → F2 (VR ι S) (xs.map (evA sl)) (xs.map a.eval)
  | [], _ => trivial
  | x :: t, h => ⟨h x (by simp), F2.evals fun y hy => h y (by simp [hy])⟩

theorem F2.caps {ι : Nat → Pl} {S : Nat → Shp} : ∀ {caps : List (Nat × Nat × Nat)} {cs : List Value}, F2 (fun p c => PR ι S p.1 p.2.1 p.2.2 c) caps cs → F2 (VR ι S) (caps.map fun p => .at (.ptr p.1 p.2.1 p.2.2)) cs
  | [], [], _ => trivial
  | _ :: _, _ :: _, ⟨h1, h2⟩ => ⟨h1, F2.caps h2⟩
  | [], _ :: _, h => h.elim
  | _ :: _, [], h => h.elim

def StepE (P : Program) (o : Oper) (sl : List V) (hp : List Ob) {α : Type} (e : V → List Ob → Option α) (r : α) : Prop := ∃ v hp', (∀ n0, EffOp P n0 o ⟨sl, hp⟩ ⟨put sl o.dst v, hp'⟩) ∧ e v hp' = some r

theorem s_call {x : Operand} {args : Array Operand} {tys : Array TypeId} (hC : CxOK P cx) (ho : o.op = .call { callee := .value x, args := args, argTypes := tys }) (h : calm cx o sl hp k e = some r) : Step P o sl hp k r ∨ StepE P o sl hp e r := by
  simp only [calm, ho] at h
  split at h
  · rename_i f caps hx
    unfold callF at h
    split at h
    rename_i args1 hpT hview
    dsimp only at h
    cases hE : cx.eff f with
    | true =>
      rw [hE] at h
      dsimp only at h
      split at h
      · cases h
      · rename_i hns
        split at h
        · rename_i ok rv upd news hcall
          simp only [chk_some] at h
          obtain ⟨rfl, hal, h⟩ := h
          have hold := hC.callsE _ _ _ _ _ _ hcall
          exact .inr ⟨_, _, fun n0 => eff_call (ty := cx.ty) (st := ⟨sl, hp⟩) ho hx hview hns (reachAll_nodup _ _) hold hal, h⟩
        · cases h
    | false =>
    rw [hE] at h
    dsimp only at h
    have run : ∀ (rv : V) (news : List Ob), Holds P f (args1.map (V.ren fun i => idx i (reach 3 (addIds [] (args1.flatMap V.ids)) hpT))) (pick hpT (fun i => idx i (reach 3 (addIds [] (args1.flatMap V.ids)) hpT)) true (reach 3 (addIds [] (args1.flatMap V.ids)) hpT)) rv news →
        k (rv.ren (backId (reach 3 (addIds [] (args1.flatMap V.ids)) hpT) hp.length)) (news.map (Ob.ren (backId (reach 3 (addIds [] (args1.flatMap V.ids)) hpT) hp.length))) = some r → Step P o sl hp k r := by
      intro rv news hold h
      refine ⟨_, _, ?_, h⟩
      intro ι a w hops hhr K Q hK
      have hvx := hops x (by simp [ho, Op.operands, Call.operands])
      rw [hx] at hvx
      obtain ⟨cs, hev, hcaps⟩ := hvx
      have hargs : F2 (VR ι (shp hp)) (args.toList.map (evA sl) ++ caps.map fun p => .at (.ptr p.1 p.2.1 p.2.2)) (args.map a.eval ++ cs).toList := by
        rw [Array.toList_append, Array.toList_map]
        exact (F2.evals fun y hy => hops y (by simp [ho, Op.operands, Call.operands]; right; simpa using hy)).append hcaps.caps
      refine wp_call (f := f) (cs := args.map a.eval ++ cs) ?_ (call_ro hview hold hargs hhr) fun c w' ⟨ι', g1, g2, g3⟩ => hK ι' c w' g1 g2 g3
      simp [execOp, ho, resolve, hev, Deferred.ofValue, invoke]
    split at h
    · rename_i b ok1 r1 u1 news1 ok2 r2 u2 news2 htwo
      have h2 := fun r news => hC.calls2 _ _ _ _ _ _ r news htwo
      split at h
      · split at h
        · rw [chk_some] at h
          obtain ⟨rfl, h⟩ := h
          exact .inl (run _ _ (h2 _ _ rfl) h)
        · cases h
      · split at h
        · rw [chk_some] at h
          obtain ⟨rfl, h⟩ := h
          exact .inl (run _ _ (h2 _ _ rfl) h)
        · cases h
    · split at h
      · rename_i ok rv news hcall
        rw [chk_some] at h
        obtain ⟨rfl, h⟩ := h
        exact .inl (run _ _ (hC.calls _ _ _ _ _ hcall) h)
      · cases h
  · cases h

theorem calm_sound (hC : CxOK P cx) (h : calm cx o sl hp k e = some r) : Step P o sl hp k r ∨ StepE P o sl hp e r := by
  cases ho : o.op with
  | move x => simp only [calm, ho] at h; exact .inl ⟨_, _, calm_move (.inl ho), h⟩
  | assign x => simp only [calm, ho] at h; exact .inl ⟨_, _, calm_move (.inr ho), h⟩
  | alloc t =>
    simp only [calm, ho] at h
    split at h
    · rename_i i hi; exact .inl ⟨_, _, calm_alloc (hC.ty t i hi) ho, h⟩
    · cases h
  | box t x =>
    simp only [calm, ho] at h
    split at h
    · rename_i i cs hi hc
      split at h
      · exact .inl ⟨_, _, calm_box ho hc, h⟩
      · cases h
    · cases h
  | build t parts => refine .inl (?_); exact s_build hC ho h
  | buildSlice t len parts => refine .inl (?_); exact s_buildSlice hC ho h
  | load t x => refine .inl (?_); exact s_load hC ho h
  | nilCheck x =>
    simp only [calm, ho] at h
    split at h
    · rename_i id el off hx; exact .inl ⟨_, _, calm_nilCheck ho hx, h⟩
    · cases h
  | binOp op t x y q => refine .inl (?_); exact s_bin hC ho h
  | unOp op t x => refine .inl (?_); exact s_un hC ho h
  | convert src dst x => refine .inl (?_); exact s_convert hC ho h
  | fieldAddr s x f =>
    simp only [calm, ho] at h
    split at h
    · rename_i fs id el off ht hx
      split at h
      · rename_i d ft hf; exact .inl ⟨_, _, calm_fieldAddr hC.ty ho ht hx hf, h⟩
      · cases h
    · cases h
  | field s x f => refine .inl (?_); exact s_field hC ho h
  | makeMap t r =>
    cases r with
    | none =>
      simp only [calm, ho] at h
      split at h
      · exact .inl ⟨_, _, calm_makeMap ho, h⟩
      · cases h
    | some r => simp only [calm, ho] at h; cases h
  | indexAddr t x ix => refine .inl (?_); exact s_indexAddr hC ho h
  | index t x ix => refine .inl (?_); exact s_index hC ho h
  | slice t x lo hi mx => refine .inl (?_); exact s_slice hC ho h
  | extract t ix =>
    simp only [calm, ho] at h
    split at h
    · rename_i xs hx
      split at h
      · rename_i x hxx; exact .inl ⟨_, _, calm_extract ho hx hxx, h⟩
      · cases h
    · cases h
  | makeFunc f first caps =>
    cases f with
    | func f =>
      simp only [calm, ho] at h
      split at h
      · rename_i h0
        split at h
        · rename_i cs hc; exact .inl ⟨_, _, calm_makeFunc ho h0 hc, h⟩
        · cases h
      · cases h
    | _ => simp only [calm, ho] at h; cases h
  | makeSlice t x y => refine .inl (?_); exact s_makeSlice hC ho h
  | call c =>
    obtain ⟨callee, args, tys⟩ := c
    cases callee with
    | value x => exact s_call hC ho h
    | invoke x n => simp only [calm, ho] at h; cases h
    | builtin b =>
      cases b with
      | len => refine .inl (?_); exact s_len hC ho h
      | min => refine .inl (?_); exact s_min ho h
      | max => refine .inl (?_); exact s_max hC ho h
      | append => refine .inl (?_); exact s_append hC ho h
      | cap => refine .inl (?_); exact s_cap hC ho h
      | _ => simp only [calm, ho] at h; cases h
  | _ => simp only [calm, ho] at h; cases h
end Go.Fx

/- Regions whose order is drawn: what an order leaves open. -/
namespace Go.Fx
variable {P : Program}

theorem slots_get {ι : Nat → Pl} {S : Nat → Shp} {sl : List V} {a : Act} (h : F2 (VR ι S) sl a.tmps.toList) (t : Nat) : VR ι S (sl.getD t (.at .void)) (a.tmps.getD t undef) :=
  evA_VR h (.tmp t)

theorem slots_of {ι : Nat → Pl} {S : Nat → Shp} {sl : List V} {a : Act} (hl : sl.length = a.tmps.size) (h : ∀ t, VR ι S (sl.getD t (.at .void)) (a.tmps.getD t undef)) : F2 (VR ι S) sl a.tmps.toList := by
  refine F2.of_get (by simpa using hl) fun i v c hv hc => ?_
  have := h i
  rw [List.getD_eq_getElem?_getD, hv, Array.getD_eq_getD_getElem?, ← Array.getElem?_toList, hc] at this
  exact this

theorem AR.off {ι ι' : Nat → Pl} {S : Nat → Shp} (h : ∀ id, ι id ≠ .off → ι' id = ι id) {a : A} {c : Value} (ha : AR ι S a c) : AR ι' S a c := by
  have hp : ∀ {id e o c}, PR ι S id e o c → PR ι' S id e o c := fun {id e o c} ⟨b, base, room, h1, h2, h3⟩ => ⟨b, base, room, by rw [h id (by rw [h1]; simp)]; exact h1, h2, h3⟩
  cases a with
  | undef => trivial
  | void => exact ha
  | bool b => exact ha
  | int k n => exact ha
  | fl k x => exact ha
  | raw k x => exact ha
  | ptr id e o => exact hp ha
  | sl id =>
    obtain ⟨ks, n, h1, h2⟩ := ha
    refine ⟨ks, n, h1, ?_⟩
    rcases h2 with ⟨h2, h3⟩ | ⟨b, base, room, cap, h2, h3⟩
    · exact .inl ⟨by rw [h id (by rw [h2]; simp)]; exact h2, h3⟩
    · exact .inr ⟨b, base, room, cap, by rw [h id (by rw [h2]; simp)]; exact h2, h3⟩
  | sub id st len cap =>
    obtain ⟨ks, n, h1, h2, a, cp, h3, h4, h5, h6, h7⟩ := ha
    refine ⟨ks, n, h1, h2, a, cp, h3, h4, h5, h6, ?_⟩
    rcases h7 with h7 | ⟨b, base, room, h7, h8⟩
    · exact .inl h7
    · exact .inr ⟨b, base, room, by rw [h id (by rw [h7]; simp)]; exact h7, h8⟩
  | bs id n =>
    obtain ⟨h1, b, base, room, h2, h3⟩ := ha
    exact ⟨h1, b, base, room, by rw [h id (by rw [h2]; simp)]; exact h2, h3⟩
  | mp id =>
    obtain ⟨h1, b, h2, h3⟩ := ha
    exact ⟨h1, b, by rw [h id (by rw [h2]; simp)]; exact h2, h3⟩
  | nil => exact ha
  | fn f caps =>
    obtain ⟨cs, h1, h2⟩ := ha
    exact ⟨cs, h1, h2.imp fun _ _ => hp⟩

theorem VR.off {ι ι' : Nat → Pl} {S : Nat → Shp} (h : ∀ id, ι id ≠ .off → ι' id = ι id) {v : V} {c : Value} (hv : VR ι S v c) : VR ι' S v c := VR.of (fun _ _ => AR.off h) hv

theorem ObR.off {ι ι' : Nat → Pl} {S : Nat → Shp} {w w' : World} {id : Nat} {ob : Ob} (h : ∀ id, ι id ≠ .off → ι' id = ι id) (hid : ι' id = ι id)
    (hw : ∀ b base room, ι id = .on b base room → b < w.heap.size → w'.heap[b]? = w.heap[b]?) (hob : ObR ι S w id ob) : ObR ι' S w' id ob := by
  obtain ⟨own, c⟩ := ob
  cases c with
  | dead => trivial
  | mp kd keys =>
    obtain ⟨b, es, clock, h1, h2, h3⟩ := hob
    exact ⟨b, es, clock, hid ▸ h1, by rw [hw b 0 0 h1 (lt_of_heap h2)]; exact h2, h3⟩
  | box cs =>
    obtain ⟨b, base, room, blk, ty, fz, h1, h2, h3, h4, h5, h6⟩ := hob
    exact ⟨b, base, room, blk, ty, fz, hid ▸ h1, by rw [hw b base room h1 (lt_of_heap h2)]; exact h2, h3, h4, h5, fun j a ha => let ⟨c, e1, e2⟩ := h6 j a ha; ⟨c, e1, AR.off h e2⟩⟩
  | rows ks xs =>
    rcases hob with ⟨h1, h2⟩ | ⟨b, base, room, blk, ty, fz, h1, h2, h3, h4, h5⟩
    · exact .inl ⟨hid ▸ h1, h2⟩
    · exact .inr ⟨b, base, room, blk, ty, fz, hid ▸ h1, by rw [hw b base room h1 (lt_of_heap h2)]; exact h2, h3, h4, h5⟩

def Wanted (all : Array Oper) (o : Oper) (st : St) : Prop :=
  o.guard = none ∨ ∃ j want d, o.guard = some (j, want) ∧ gslot all j = some d ∧ st.sl.getD d (.at .void) = .at (.bool want)
def Unwanted (all : Array Oper) (o : Oper) (st : St) : Prop :=
  ∃ j want d, o.guard = some (j, want) ∧ gslot all j = some d ∧ (st.sl.getD d (.at .void) = .at (.bool (!want)) ∨ st.sl.getD d (.at .void) = .at .void)

theorem yielded_eq {all : Array Oper} {tmps : Array Value} {j d : Nat} (h : gslot all j = some d) : yielded all tmps j = (match tmps.getD d undef with | .bool b => some b | _ => none) := by
  unfold yielded
  unfold gslot at h
  cases ho : all[j]? with
  | none => simp [ho] at h
  | some o =>
    simp [ho] at h
    simp only [Option.bind_some, h, Array.getD_eq_getD_getElem?]
    cases hd : tmps[d]? with
    | none => simp [undef]
    | some v => cases v <;> rfl

theorem wanted_of {all : Array Oper} {o : Oper} {st : St} {ι : Nat → Pl} {S : Nat → Shp} {a : Act} (h : Wanted all o st) (hs : ∀ d ∈ reads all o, VR ι S (st.sl.getD d (.at .void)) (a.tmps.getD d undef)) :
    Region.wanted o (yielded all a.tmps) = true := by
  unfold Region.wanted
  rcases h with h | ⟨j, want, d, h1, h2, h3⟩
  · rw [h]
  · have hv := hs d (by simp [reads, h1, h2])
    rw [h3] at hv
    rw [h1]
    simp only
    rw [yielded_eq h2, show a.tmps.getD d undef = .bool want from hv]
    simp

theorem unwanted_of {all : Array Oper} {o : Oper} {st : St} {ι : Nat → Pl} {S : Nat → Shp} {a : Act} (h : Unwanted all o st) (hs : ∀ d ∈ reads all o, VR ι S (st.sl.getD d (.at .void)) (a.tmps.getD d undef)) :
    Region.wanted o (yielded all a.tmps) = false := by
  unfold Region.wanted
  obtain ⟨j, want, d, h1, h2, h3⟩ := h
  have hv := hs d (by simp [reads, h1, h2])
  rw [h1]
  simp only
  rw [yielded_eq h2]
  rcases h3 with h3 | h3
  · rw [h3] at hv
    rw [show a.tmps.getD d undef = .bool (!want) from hv]
    cases want <;> rfl
  · rw [h3] at hv
    rw [show a.tmps.getD d undef = undef from hv]
    rfl

structure PtrF (P : Program) (o : Oper) (sl : List V) : Prop where
  load : ∀ t x, o.op = .load t x → ∃ id el off, evA sl x = .at (.ptr id el off)
  check : ∀ x, o.op = .nilCheck x → ∃ id el off, evA sl x = .at (.ptr id el off)
  field : ∀ s x f, o.op = .fieldAddr s x f → ∃ fields fd i, P.underlying s = some (.struct fields) ∧ fields[f]? = some fd ∧ P.info? fd.type = some i ∧ i.size ≠ 0
  index : ∀ t x ix, o.op = .indexAddr t x ix → ∃ e k i, evA sl ix = .at (.int k i) ∧ ((P.underlying t = some (.slice e) ∧ ((∃ id, evA sl x = .at (.sl id)) ∨ (∃ id st n c, evA sl x = .at (.sub id st n c)) ∨ ∃ id n, evA sl x = .at (.bs id n))) ∨ ∃ n id el off, P.underlying t = some (.array n e) ∧ evA sl x = .at (.ptr id el off))

def CalmStep (P : Program) (all : Array Oper) (σ : Nat → St) (j : Nat) : Prop :=
  ∃ o v news, all[j]? = some o ∧ σ (j + 1) = ⟨put (σ j).sl o.dst v, (σ j).hp ++ news⟩ ∧
    ((Wanted all o (σ j) ∧ CalmOp P o (σ j).sl (σ j).hp v news ∧ PtrF P o (σ j).sl) ∨ (Unwanted all o (σ j) ∧ v = .at .void ∧ news = []))
def StoreOne (P : Program) (o : Oper) (sl : List V) : Prop := ∀ (t : TypeId) (x y : Operand) (v : A), o.op = .store t x y → evA sl y = .at v → ∃ inf, P.info? t = some inf ∧ inf.size = 1
def EffStep (P : Program) (n0 : Nat) (all : Array Oper) (dr : Bool) (σ : Nat → St) (j : Nat) : Prop :=
  ∃ o, all[j]? = some o ∧ Wanted all o (σ j) ∧ EffOp P n0 o (σ j) (σ (j + 1)) ∧ (dr = true → barrier all j o (σ j).sl = true) ∧ (σ (j + 1)).sl.length = (σ j).sl.length ∧ StoreOne P o (σ j).sl

theorem bindsB_eq (e : Edge) : bindsB e = Region.binds .any e := by
  unfold bindsB Region.binds
  cases e.ground <;> rfl

theorem edgeMask_bit (acc : List Nat) (i : Nat) : ∀ (es : List Edge), (edgeMask acc es).testBit i = true → ∃ e ∈ es, bindsB e = true ∧ (e.on = i ∨ (acc.getD e.on 0).testBit i = true)
  | [], h => by simp [edgeMask] at h
  | e :: t, h => by
    simp only [edgeMask] at h
    cases hb : bindsB e with
    | false =>
      rw [hb] at h
      obtain ⟨e', h1, h2⟩ := edgeMask_bit acc i t h
      exact ⟨e', by simp [h1], h2⟩
    | true =>
      rw [hb] at h
      simp only [Nat.testBit_or, Bool.or_eq_true] at h
      rcases h with (h | h) | h
      · refine ⟨e, by simp, hb, .inl ?_⟩
        rw [Nat.testBit_shiftLeft] at h
        simp only [Bool.and_eq_true, decide_eq_true_eq, ge_iff_le] at h
        have h2 := h.2
        have : i - e.on = 0 := Nat.testBit_one_eq_true_iff_self_eq_zero.1 h2
        have h1 := h.1
        omega
      · exact ⟨e, by simp, hb, .inr h⟩
      · obtain ⟨e', h1, h2⟩ := edgeMask_bit acc i t h
        exact ⟨e', by simp [h1], h2⟩

theorem maskGo_get : ∀ (ops : List Oper) (acc : List Nat) (j : Nat), j < acc.length → (maskGo acc ops)[j]? = acc[j]?
  | [], _, _, _ => rfl
  | o :: r, acc, j, h => by
    rw [maskGo, maskGo_get r _ j (by simp; omega), List.getElem?_append_left h]

theorem maskGo_new : ∀ (ops : List Oper) (acc : List Nat) (j : Nat) (o : Oper), ops[j]? = some o →
    ∃ acc', (∀ i, i < acc.length + j → acc'[i]? = (maskGo acc ops)[i]?) ∧ acc'.length = acc.length + j ∧ (maskGo acc ops)[acc.length + j]? = some (edgeMask acc' o.after.toList)
  | [], _, _, _, h => by simp at h
  | o :: r, acc, 0, o', h => by
    simp at h
    subst h
    refine ⟨acc, fun i hi => ?_, rfl, ?_⟩
    · rw [maskGo, maskGo_get r _ i (by simp; omega), List.getElem?_append_left (by simpa using hi)]
    · rw [maskGo, maskGo_get r _ _ (by simp), Nat.add_zero, List.getElem?_append_right (Nat.le_refl _)]
      simp
  | o :: r, acc, j + 1, o', h => by
    simp at h
    obtain ⟨acc', h1, h2, h3⟩ := maskGo_new r (acc ++ [edgeMask acc o.after.toList]) j o' h
    simp only [List.length_append, List.length_singleton] at h1 h2 h3
    refine ⟨acc', fun i hi => ?_, by omega, ?_⟩
    · rw [maskGo]; exact h1 i (by omega)
    · rw [maskGo, show acc.length + (j + 1) = acc.length + 1 + j by omega]; exact h3

theorem bef_edge {all : Array Oper} {i j : Nat} {o : Oper} (ho : all[j]? = some o) (h : bef (masks all) i j = true) : ∃ e ∈ o.after, bindsB e = true ∧ (e.on = i ∨ (e.on < j ∧ bef (masks all) i e.on = true)) := by
  unfold bef masks at *
  obtain ⟨acc', h1, h2, h3⟩ := maskGo_new all.toList [] j o (by simpa using ho)
  simp only [List.length_nil, Nat.zero_add] at h1 h2 h3
  rw [List.getD_eq_getElem?_getD, h3] at h
  obtain ⟨e, he, hbe, hc⟩ := edgeMask_bit acc' i _ h
  refine ⟨e, by simpa using he, hbe, ?_⟩
  rcases hc with hc | hc
  · exact .inl hc
  · right
    rcases Nat.lt_or_ge e.on j with hl | hl
    · refine ⟨hl, ?_⟩
      rw [List.getD_eq_getElem?_getD, ← h1 _ hl, ← List.getD_eq_getElem?_getD]
      exact hc
    · rw [List.getD_eq_getElem?_getD, List.getElem?_eq_none (by omega)] at hc
      simp at hc

theorem pairsOk_get {ms : List Nat} {all : Array Oper} : ∀ (l : List Oper) (j k : Nat) (o : Oper), pairsOk ms all j l = true → l[k]? = some o →
    (∀ e ∈ o.after, edgeOk (j + k) e = true) ∧ ∀ i, i < j + k → bef ms i (j + k) = true ∨ ∃ a, all[i]? = some a ∧ apartB all a o = true
  | [], _, _, _, _, h => by simp at h
  | o :: r, j, 0, o', h, hk => by
    simp at hk
    subst hk
    simp only [pairsOk, Bool.and_eq_true] at h
    obtain ⟨⟨h1, h2⟩, _⟩ := h
    refine ⟨fun e he => by simpa using List.all_eq_true.1 h1 e (by simpa using he), fun i hi => ?_⟩
    have := List.all_eq_true.1 h2 i (by simpa using hi)
    simp only [Bool.or_eq_true] at this
    rcases this with h | h
    · exact .inl (by simpa using h)
    · right
      split at h
      · rename_i a ha; exact ⟨a, ha, h⟩
      · cases h
  | o :: r, j, k + 1, o', h, hk => by
    simp at hk
    simp only [pairsOk, Bool.and_eq_true] at h
    have := pairsOk_get r (j + 1) k o' h.2 hk
    rwa [show j + 1 + k = j + (k + 1) by omega] at this

theorem drawOk_get {all : Array Oper} (h : drawOk all = true) {k : Nat} {o : Oper} (hk : all[k]? = some o) :
    (∀ e ∈ o.after, Region.binds .any e = true → e.on < k) ∧ ∀ i, i < k → bef (masks all) i k = true ∨ ∃ a, all[i]? = some a ∧ apartB all a o = true := by
  have := pairsOk_get all.toList 0 k o h (by simpa using hk)
  simp only [Nat.zero_add] at this
  refine ⟨fun e he hb => ?_, this.2⟩
  have h1 := this.1 e he
  unfold edgeOk at h1
  rw [bindsB_eq, hb] at h1
  simpa [Nat.blt_eq] using h1

theorem apartB_spec {all : Array Oper} {x y : Oper} (h : apartB all x y = true) : (∀ d, x.dst = some d → y.dst ≠ some d) ∧ (∀ d, x.dst = some d → d ∉ reads all y) ∧ (∀ d, y.dst = some d → d ∉ reads all x) := by
  unfold apartB at h
  simp only [Bool.and_eq_true, Bool.not_eq_true'] at h
  obtain ⟨⟨h1, h2⟩, h3⟩ := h
  refine ⟨fun d hd he => ?_, fun d hd hm => ?_, fun d hd hm => ?_⟩
  · rw [hd, he] at h1
    simp at h1
  · rw [hd] at h2
    simp only [dstIn] at h2
    rw [(hasId_iff d _).2 hm] at h2; cases h2
  · rw [hd] at h3
    simp only [dstIn] at h3
    rw [(hasId_iff d _).2 hm] at h3; cases h3
end Go.Fx

/- Regions whose order is drawn: one step of any order. -/
namespace Go.Fx
variable {P : Program} {g : Beg} {all : Array Oper} {σ : Nat → St} {p m : Nat}

structure PInv (g : Beg) (all : Array Oper) (σ : Nat → St) (p m : Nat) (S : Nat → Prop) (ι : Nat → Pl) (a : Act) (w : World) : Prop where
  rel : RelH g ι (σ m).hp w
  base : g.h0.length ≤ (σ p).hp.length
  heaps : ∀ j, p ≤ j → j ≤ m → HR ι (σ j).hp w
  size : a.tmps.size = (σ p).sl.length
  defers : a.defers = []
  slots : ∀ t, ∃ i, p ≤ i ∧ i ≤ m ∧ (i = p ∨ ∃ j o, i = j + 1 ∧ S j ∧ all[j]? = some o ∧ o.dst = some t) ∧
    (∀ j o, p ≤ j → j < m → all[j]? = some o → o.dst = some t → (S j ↔ j < i)) ∧ VR ι (shp (σ i).hp) ((σ i).sl.getD t (.at .void)) (a.tmps.getD t undef)
  off : ∀ j id, p ≤ j → j < m → ¬ S j → (σ j).hp.length ≤ id → id < (σ (j + 1)).hp.length → ι id = .off

theorem put_getD {sl : List V} {d : Option Nat} {v x : V} {t : Nat} (h : d ≠ some t) : (put sl d v).getD t x = sl.getD t x := by
  cases d with
  | none => rfl
  | some d =>
    simp only [put, List.getD_eq_getElem?_getD]
    rw [List.getElem?_set_ne (fun e => h (by rw [e]))]

theorem put_length {sl : List V} {d : Option Nat} {v : V} : (put sl d v).length = sl.length := by
  cases d <;> simp [put]

section
variable (hc : ∀ j, p ≤ j → j < m → CalmStep P all σ j)
include hc

theorem seg_pre {i k : Nat} (h1 : p ≤ i) (h2 : i ≤ k) (h3 : k ≤ m) : ∃ l, (σ k).hp = (σ i).hp ++ l := by
  induction k with
  | zero => obtain rfl : i = 0 := by omega
            exact ⟨[], by simp⟩
  | succ k ih =>
    rcases Nat.lt_or_ge k i with h | h
    · obtain rfl : i = k + 1 := by omega
      exact ⟨[], by simp⟩
    · obtain ⟨l, hl⟩ := ih h (by omega)
      obtain ⟨o, v, news, ho, hs, _⟩ := hc k (by omega) (by omega)
      exact ⟨l ++ news, by rw [hs]; simp [hl]⟩

theorem seg_len {i k : Nat} (h1 : p ≤ i) (h2 : i ≤ k) (h3 : k ≤ m) : (σ i).hp.length ≤ (σ k).hp.length := by
  obtain ⟨l, hl⟩ := seg_pre hc h1 h2 h3
  rw [hl]; simp

theorem seg_get {i k id : Nat} (h1 : p ≤ i) (h2 : i ≤ k) (h3 : k ≤ m) (hid : id < (σ i).hp.length) : (σ k).hp[id]? = (σ i).hp[id]? := by
  obtain ⟨l, hl⟩ := seg_pre hc h1 h2 h3
  rw [hl, List.getElem?_append_left hid]

theorem seg_shp {i k id : Nat} (h1 : p ≤ i) (h2 : i ≤ k) (h3 : k ≤ m) (hn : shp (σ i).hp id ≠ .no) : shp (σ k).hp id = shp (σ i).hp id := by
  have hl := shp_lt hn
  unfold shp
  rw [seg_get hc h1 h2 h3 hl]

theorem seg_slot {i k t : Nat} (h1 : p ≤ i) (h2 : i ≤ k) (h3 : k ≤ m) (hw : ∀ j o, i ≤ j → j < k → all[j]? = some o → o.dst ≠ some t) (x : V) : (σ k).sl.getD t x = (σ i).sl.getD t x := by
  induction k with
  | zero => obtain rfl : i = 0 := by omega
            rfl
  | succ k ih =>
    rcases Nat.lt_or_ge k i with h | h
    · obtain rfl : i = k + 1 := by omega
      rfl
    · obtain ⟨o, v, news, ho, hs, _⟩ := hc k (by omega) (by omega)
      rw [hs]
      simp only
      rw [put_getD (hw k o h (by omega) ho)]
      exact ih h (by omega) fun j o hj hjk => hw j o hj (by omega)

theorem seg_slots {k : Nat} (h1 : p ≤ k) (h3 : k ≤ m) : (σ k).sl.length = (σ p).sl.length := by
  induction k with
  | zero => obtain rfl : p = 0 := by omega
            rfl
  | succ k ih =>
    rcases Nat.lt_or_ge k p with h | h
    · obtain rfl : p = k + 1 := by omega
      rfl
    · obtain ⟨o, v, news, ho, hs, _⟩ := hc k (by omega) (by omega)
      rw [hs]
      simp only
      rw [put_length]
      exact ih h (by omega)

theorem PInv.after {S : Nat → Prop} {ι ι' : Nat → Pl} {a : Act} {w w' : World} {k : Nat} {o : Oper} {v : V} {news : List Ob} {c : Value} (h : PInv g all σ p m S ι a w) (hk : p ≤ k) (hkm : k < m) (hS : ¬ S k) (ho : all[k]? = some o)
    (hs : σ (k + 1) = ⟨put (σ k).sl o.dst v, (σ k).hp ++ news⟩) (hg : Grow ι ι' (σ k).hp news w w') (hv : VR ι' (shp ((σ k).hp ++ news)) v c) (hh : HR ι' ((σ k).hp ++ news) w')
    (hwr : ∀ t, o.dst = some t → ∀ j oj, p ≤ j → j < m → all[j]? = some oj → oj.dst = some t → j ≠ k → (S j ↔ j < k)) :
    ∃ ι'', PInv g all σ p m (fun j => S j ∨ j = k) ι'' (a.put o.dst c) w' := by
  have hlk : (σ (k + 1)).hp = (σ k).hp ++ news := by rw [hs]
  obtain ⟨ι'', hin, hout⟩ : ∃ ι'' : Nat → Pl, (∀ id, (σ k).hp.length ≤ id → id < (σ (k + 1)).hp.length → ι'' id = ι' id) ∧ (∀ id, ¬ ((σ k).hp.length ≤ id ∧ id < (σ (k + 1)).hp.length) → ι'' id = ι id) :=
    ⟨fun id => if (σ k).hp.length ≤ id ∧ id < (σ (k + 1)).hp.length then ι' id else ι id, fun id h1 h2 => by simp [h1, h2], fun id h => by simp only [h, if_false]⟩
  have hlow : ∀ id, id < (σ k).hp.length → ι'' id = ι id := fun id hid => hout id (by omega)
  have hup : ∀ id, id < (σ (k + 1)).hp.length → ι'' id = ι' id := fun id hid => by
    rcases Nat.lt_or_ge id (σ k).hp.length with hl | hl
    · rw [hlow id hl, hg.agree id hl]
    · exact hin id hl hid
  have hkeep : ∀ id, ι id ≠ .off → ι'' id = ι id := fun id hid => hout id fun ⟨h1, h2⟩ => hid (h.off k id hk hkm hS h1 h2)
  have hlen0 := h.rel.len
  have hlm : (σ (k + 1)).hp.length ≤ (σ m).hp.length := seg_len hc (by omega) (by omega) (Nat.le_refl _)
  have hgm : ∀ id, id < (σ (k + 1)).hp.length → (σ m).hp[id]? = ((σ k).hp ++ news)[id]? := fun id hid => by rw [seg_get hc (by omega) (by omega) (Nat.le_refl _) hid, hlk]
  have hext : ∀ j, p ≤ j → j ≤ m → HR ι'' (σ j).hp w' := by
    intro j hj hjm id ob hob hoff
    have hidj : id < (σ j).hp.length := (List.getElem?_eq_some_iff.1 hob).1
    by_cases hr : (σ k).hp.length ≤ id ∧ id < (σ (k + 1)).hp.length
    · have hkj : k + 1 ≤ j := by
        rcases Nat.lt_or_ge k j with h' | h'
        · exact h'
        · have := seg_len hc hj h' (by omega); omega
      have hob' : ((σ k).hp ++ news)[id]? = some ob := by rw [← hlk, ← seg_get hc (by omega) hkj hjm hr.2]; exact hob
      have hoff' : ι' id ≠ .off := by rw [← hin id hr.1 hr.2]; exact hoff
      refine (hh id ob hob' hoff').ext (fun id' hn => ?_) (hin id hr.1 hr.2) (fun _ _ _ _ _ => rfl)
      rw [← hlk] at hn
      exact ⟨hup id' (shp_lt hn), by rw [seg_shp hc (by omega) hkj hjm hn, hlk]⟩
    · have hι := hout id hr
      exact ((h.heaps j hj hjm) id ob hob (by rw [← hι]; exact hoff)).off hkeep hι fun b _ _ _ hb => hg.wx.block b hb
  have hoffr : ∀ id, (σ k).hp.length ≤ id → id < (σ (k + 1)).hp.length → ι id = .off := fun id h1 h2 => h.off k id hk hkm hS h1 h2
  refine ⟨ι'', ⟨?_, h.base, hext, ?_, by rw [put_defers]; exact h.defers, fun t => ?_, ?_⟩⟩
  · refine ⟨trivial, rfl, hext m (by omega) (Nat.le_refl _), ?_, fun id hid => ?_, h.rel.flag, hg.wx.os.trans h.rel.os, hg.wx.tape.trans h.rel.tape, hg.wx.output.trans h.rel.output, Nat.le_trans h.rel.size hg.wx.size, fun j hj hn => ?_, ?_⟩
    · intro i j oi oj b1 base1 room1 b2 base2 room2 hi hj hij hoi hli hlj h1 h2
      simp only at hi hj
      by_cases ri : (σ k).hp.length ≤ i ∧ i < (σ (k + 1)).hp.length
      · rw [hgm i ri.2] at hi
        rw [hin i ri.1 ri.2] at h1
        by_cases rj : (σ k).hp.length ≤ j ∧ j < (σ (k + 1)).hp.length
        · rw [hgm j rj.2] at hj
          rw [hin j rj.1 rj.2] at h2
          exact hg.inj i j oi oj b1 base1 room1 b2 base2 room2 ri.1 rj.1 hij hi hj hoi hli hlj h1 h2
        · rw [hout j rj] at h2
          have := lt_of_HR h.rel.heap hj hlj h2
          have := hg.fresh i oi b1 base1 room1 ri.1 hi hli h1
          omega
      · rw [hout i ri] at h1
        by_cases rj : (σ k).hp.length ≤ j ∧ j < (σ (k + 1)).hp.length
        · rw [hgm j rj.2] at hj
          rw [hin j rj.1 rj.2] at h2
          have := lt_of_HR h.rel.heap hi hli h1
          have := hg.fresh j oj b2 base2 room2 rj.1 hj hlj h2
          omega
        · rw [hout j rj] at h2
          exact h.rel.inj i j oi oj b1 base1 room1 b2 base2 room2 hi hj hij hoi hli hlj h1 h2
    · by_cases r : (σ k).hp.length ≤ id ∧ id < (σ (k + 1)).hp.length
      · have := seg_len hc (i := p) (k := k) (Nat.le_refl _) hk (by omega)
        have := h.base
        omega
      · rw [hout id r]; exact h.rel.keep id hid
    · rw [hg.wx.block j (Nat.lt_of_lt_of_le hj h.rel.size)]; exact h.rel.block j hj hn
    · intro id ob b base room hid hob hl hon
      simp only at hob
      by_cases r : (σ k).hp.length ≤ id ∧ id < (σ (k + 1)).hp.length
      · rw [hgm id r.2] at hob
        rw [hin id r.1 r.2] at hon
        exact .inl (Nat.le_trans h.rel.size (hg.fresh id ob b base room r.1 hob hl hon))
      · rw [hout id r] at hon
        exact h.rel.fresh id ob b base room hid hob hl hon
  · have := h.size
    cases hd : o.dst <;> simp [Act.put, this]
  · by_cases hdt : o.dst = some t
    · refine ⟨k + 1, by omega, by omega, .inr ⟨k, o, rfl, .inr rfl, ho, hdt⟩, fun j oj hj hjm hoj hdj => ?_, ?_⟩
      · by_cases hjk : j = k
        · subst hjk; simp
        · have := hwr t hdt j oj hj hjm hoj hdj hjk
          simp only [hjk, or_false]
          exact this.trans ⟨fun h => by omega, fun h => by omega⟩
      · rw [hs]
        simp only
        have hsl := h.size
        rcases Nat.lt_or_ge t a.tmps.size with hts | hts
        · have e1 : (put (σ k).sl o.dst v).getD t (.at .void) = v := by
            rw [hdt]
            simp only [put, List.getD_eq_getElem?_getD]
            rw [List.getElem?_set_self (by rw [seg_slots hc hk (by omega)]; omega)]
            rfl
          have e2 : (a.put o.dst c).tmps.getD t undef = c := by
            rw [hdt]
            simp [Act.put, hts]
          rw [e1, e2]
          exact VR.ext (fun id hn => ⟨hup id (by rw [hlk]; exact shp_lt hn), rfl⟩) hv
        · have e1 : (put (σ k).sl o.dst v).getD t (.at .void) = .at .void := by
            rw [List.getD_eq_getElem?_getD, List.getElem?_eq_none (by rw [put_length, seg_slots hc hk (by omega)]; omega)]; rfl
          have e2 : (a.put o.dst c).tmps.getD t undef = undef := by
            rw [hdt, Array.getD_eq_getD_getElem?, Array.getElem?_eq_none (by simp [Act.put]; omega)]; rfl
          rw [e1, e2]
          exact rfl
    · obtain ⟨i, h1, h2, h3, h4, h5⟩ := h.slots t
      refine ⟨i, h1, h2, ?_, fun j oj hj hjm hoj hdj => ?_, ?_⟩
      · rcases h3 with h3 | ⟨j, oj, h6, h7, h8⟩
        · exact .inl h3
        · exact .inr ⟨j, oj, h6, .inl h7, h8⟩
      · have hjk : j ≠ k := by rintro rfl; rw [ho] at hoj; cases hoj; exact hdt hdj
        simp only [hjk, or_false]
        exact h4 j oj hj hjm hoj hdj
      · have e2 : (a.put o.dst c).tmps.getD t undef = a.tmps.getD t undef := by
          cases hd : o.dst with
          | none => rfl
          | some d =>
            have hne : d ≠ t := fun e => hdt (by rw [hd, e])
            simp only [Act.put, Array.getD_eq_getD_getElem?]
            rw [Array.getElem?_setIfInBounds_ne hne]
        rw [e2]
        exact VR.off hkeep h5
  · intro j id hj hjm hnS h1 h2
    have hjk : j ≠ k := fun e => hnS (.inr e)
    have hjS : ¬ S j := fun e => hnS (.inl e)
    rw [hout id]
    · exact h.off j id hj hjm hjS h1 h2
    · rintro ⟨g1, g2⟩
      rcases Nat.lt_or_gt_of_ne hjk with hlt | hgt
      · have := seg_len hc (i := j + 1) (k := k) (by omega) (by omega) (by omega); omega
      · have := seg_len hc (i := k + 1) (k := j) (by omega) (by omega) (by omega); omega
end
end Go.Fx

/- Regions whose order is drawn: any order does what the order of the text does. -/
namespace Go.Fx
variable {P : Program} {g : Beg} {all : Array Oper} {σ : Nat → St} {p m : Nat}

theorem PInv.reads {S : Nat → Prop} {ι : Nat → Pl} {a : Act} {w : World} {k : Nat} {o : Oper} (hc : ∀ j, p ≤ j → j < m → CalmStep P all σ j) (hd : drawOk all = true) (h : PInv g all σ p m S ι a w) (hk : p ≤ k) (hkm : k < m) (hS : ¬ S k) (ho : all[k]? = some o)
    (hcl : ∀ j, bef (masks all) j k = true → S j) (hcl2 : ∀ j, S j → bef (masks all) k j ≠ true) : ∀ t ∈ reads all o, VR ι (shp (σ k).hp) ((σ k).sl.getD t (.at .void)) (a.tmps.getD t undef) := by
  intro t ht
  obtain ⟨i, h1, h2, h3, h4, h5⟩ := h.slots t
  have hw : ∀ j oj, p ≤ j → j < m → all[j]? = some oj → oj.dst = some t → (j < k ↔ j < i) := by
    intro j oj hj hjm hoj hdj
    rw [← h4 j oj hj hjm hoj hdj]
    constructor
    · intro hjk
      rcases (drawOk_get hd ho).2 j hjk with hb | ⟨oj', hoj', hap⟩
      · exact hcl j hb
      · rw [hoj] at hoj'; cases hoj'
        exact absurd ht ((apartB_spec hap).2.1 t hdj)
    · intro hSj
      rcases Nat.lt_or_ge j k with hlt | hge
      · exact hlt
      · exfalso
        have hne : j ≠ k := fun e => hS (e ▸ hSj)
        rcases (drawOk_get hd hoj).2 k (by omega) with hb | ⟨ok, hok, hap⟩
        · exact hcl2 j hSj hb
        · rw [ho] at hok; cases hok
          exact (apartB_spec hap).2.2 t hdj ht
  have hik : i ≤ k := by
    rcases h3 with rfl | ⟨j, oj, rfl, hSj, hoj, hdj⟩
    · exact hk
    · rcases Nat.lt_or_ge j p with hlt | hge
      · omega
      · have := (hw j oj hge (by omega) hoj hdj).2 (by omega)
        omega
  have hsame := seg_slot hc h1 hik (by omega) (t := t) (fun j oj hj hjk hoj hdj => by
    have := (hw j oj (by omega) (by omega) hoj hdj).1 hjk
    omega) (.at .void)
  rw [hsame]
  exact VR.ext (fun id hn => ⟨rfl, seg_shp hc h1 hik (by omega) hn⟩) h5

theorem tmp_read {o : Oper} {t : Nat} (h : Operand.tmp t ∈ o.op.operands) : t ∈ reads all o := by
  unfold Go.Fx.reads
  refine List.mem_append_left _ (List.mem_flatMap.2 ⟨.tmp t, by simpa using h, by simp [tmpOf]⟩)

theorem ops_of_reads {o : Oper} {ι : Nat → Pl} {S : Nat → Shp} {sl : List V} {a : Act} (h : ∀ t ∈ reads all o, VR ι S (sl.getD t (.at .void)) (a.tmps.getD t undef)) : OpsR ι S o sl a := by
  intro x hx
  cases x with
  | tmp t => exact h t (tmp_read hx)
  | const v => exact conV_VR ι S v
  | global g => trivial
  | func f => exact ⟨#[], rfl, trivial⟩

theorem PInv.step {Q : Exit → Act → World → Prop} {K : Act → World → Prop} {S : Nat → Prop} {ι : Nat → Pl} {a : Act} {w : World} {k : Nat} (hc : ∀ j, p ≤ j → j < m → CalmStep P all σ j) (hd : drawOk all = true) (h : PInv g all σ p m S ι a w) (hk : p ≤ k) (hkm : k < m) (hS : ¬ S k)
    (hcl : ∀ j, bef (masks all) j k = true → S j) (hcl2 : ∀ j, S j → bef (masks all) k j ≠ true) (hK : ∀ ι' a' w', PInv g all σ p m (fun j => S j ∨ j = k) ι' a' w' → K a' w') : wpOp P all Q k K a w := by
  obtain ⟨o, v, news, ho, hs, hcase⟩ := hc k hk hkm
  have hreads := h.reads hc hd hk hkm hS ho hcl hcl2
  have hwr : ∀ t, o.dst = some t → ∀ j oj, p ≤ j → j < m → all[j]? = some oj → oj.dst = some t → j ≠ k → (S j ↔ j < k) := by
    intro t hdt j oj _ _ hoj hdj hne
    rcases Nat.lt_or_gt_of_ne hne with hlt | hgt
    · refine ⟨fun _ => hlt, fun _ => ?_⟩
      rcases (drawOk_get hd ho).2 j hlt with hb | ⟨oj', hoj', hap⟩
      · exact hcl j hb
      · rw [hoj] at hoj'; cases hoj'
        exact absurd hdt ((apartB_spec hap).1 t hdj)
    · refine ⟨fun hSj => ?_, fun hh => by omega⟩
      exfalso
      rcases (drawOk_get hd hoj).2 k hgt with hb | ⟨ok, hok, hap⟩
      · exact hcl2 j hSj hb
      · rw [ho] at hok; cases hok
        exact (apartB_spec hap).1 t hdt hdj
  unfold wpOp
  rw [ho]
  simp only
  rcases hcase with ⟨hwant, hcalm, _⟩ | ⟨hun, rfl, rfl⟩
  · rw [if_pos (wanted_of hwant hreads)]
    left
    exact hcalm ι a w (ops_of_reads hreads) (h.heaps k hk (by omega)) K Q fun ι' c w' hg hv hh =>
      let ⟨ι'', h2⟩ := h.after hc hk hkm hS ho hs hg hv hh hwr
      hK ι'' _ _ h2
  · rw [if_neg (by rw [unwanted_of hun hreads]; simp)]
    obtain ⟨ι'', h2⟩ := h.after hc hk hkm hS ho hs (Grow.none (WX.refl w)) (v := .at .void) (c := undef) rfl (by rw [List.append_nil]; exact h.heaps k hk (by omega)) hwr
    exact hK ι'' _ _ h2

theorem PInv.start {S : Nat → Prop} {ι : Nat → Pl} {a : Act} {w : World} (hc : ∀ j, p ≤ j → j < m → CalmStep P all σ j) (hpm : p ≤ m) (h : Rel g ι (σ p) a w) (hS : ∀ j, p ≤ j → ¬ S j) : ∃ ι', PInv g all σ p m S ι' a w := by
  obtain ⟨ι', hlow, hoff⟩ : ∃ ι' : Nat → Pl, (∀ id, id < (σ p).hp.length → ι' id = ι id) ∧ (∀ id, (σ p).hp.length ≤ id → ι' id = .off) :=
    ⟨fun id => if id < (σ p).hp.length then ι id else .off, fun id h => by simp [h], fun id h => by simp [Nat.not_lt.2 h]⟩
  have hlt : ∀ id, ι' id ≠ .off → id < (σ p).hp.length := fun id hn => by
    rcases Nat.lt_or_ge id (σ p).hp.length with h' | h'
    · exact h'
    · exact absurd (hoff id h') hn
  have hheap : ∀ j, p ≤ j → j ≤ m → HR ι' (σ j).hp w := by
    intro j hj hjm id ob hob hn
    have hl := hlt id hn
    rw [seg_get hc (Nat.le_refl _) hj hjm hl] at hob
    refine (h.heap id ob hob (by rw [← hlow id hl]; exact hn)).ext (fun id' hn' => ?_) (hlow id hl) (fun _ _ _ _ _ => rfl)
    exact ⟨hlow id' (shp_lt hn'), seg_shp hc (Nat.le_refl _) hj hjm hn'⟩
  have hon : ∀ id b base room, ι' id = .on b base room → id < (σ p).hp.length ∧ ι id = .on b base room := fun id b base room ho => by
    have hl := hlt id (by rw [ho]; simp)
    exact ⟨hl, by rw [← hlow id hl]; exact ho⟩
  refine ⟨ι', ⟨⟨trivial, rfl, hheap m hpm (Nat.le_refl _), ?_, fun id hid => ?_, fun id ob hob => ?_, h.os, h.tape, h.output, h.size, h.block, ?_⟩, h.len, hheap, by have := h.slots.length; simpa using this.symm, h.defers, fun t => ?_, ?_⟩⟩
  · intro i j oi oj b1 base1 room1 b2 base2 room2 hi hj hij hoi hli hlj h1 h2
    obtain ⟨l1, e1⟩ := hon i _ _ _ h1
    obtain ⟨l2, e2⟩ := hon j _ _ _ h2
    simp only at hi hj
    rw [seg_get hc (Nat.le_refl _) hpm (Nat.le_refl _) l1] at hi
    rw [seg_get hc (Nat.le_refl _) hpm (Nat.le_refl _) l2] at hj
    exact h.inj i j oi oj b1 base1 room1 b2 base2 room2 hi hj hij hoi hli hlj e1 e2
  · have := h.len
    rw [hlow id (by omega)]; exact h.keep id hid
  · obtain ⟨ob', h1, h2⟩ := h.flag id ob hob
    have hl : id < (σ p).hp.length := (List.getElem?_eq_some_iff.1 h1).1
    exact ⟨ob', by simp only; rw [seg_get hc (Nat.le_refl _) hpm (Nat.le_refl _) hl]; exact h1, h2⟩
  · intro id ob b base room hid hob hl ho
    obtain ⟨l1, e1⟩ := hon id _ _ _ ho
    simp only at hob
    rw [seg_get hc (Nat.le_refl _) hpm (Nat.le_refl _) l1] at hob
    exact h.fresh id ob b base room hid hob hl e1
  · refine ⟨p, Nat.le_refl _, hpm, .inl rfl, fun j o hj _ _ _ => ⟨fun hh => absurd hh (hS j hj), fun hh => by omega⟩, ?_⟩
    exact VR.ext (fun id hn => ⟨hlow id (shp_lt hn), rfl⟩) (slots_get h.slots t)
  · intro j id hj hjm _ h1 _
    have := seg_len hc (i := p) (k := j) (Nat.le_refl _) hj (by omega)
    exact hoff id (by omega)

theorem PInv.full {S : Nat → Prop} {ι : Nat → Pl} {a : Act} {w : World} (hc : ∀ j, p ≤ j → j < m → CalmStep P all σ j) (hpm : p ≤ m) (h : PInv g all σ p m S ι a w) (hS : ∀ j, p ≤ j → j < m → S j) : Rel g ι (σ m) a w := by
  refine h.rel.rel (slots_of (by rw [seg_slots hc hpm (Nat.le_refl _)]; exact h.size.symm) fun t => ?_) h.defers
  obtain ⟨i, h1, h2, h3, h4, h5⟩ := h.slots t
  have hsame := seg_slot hc h1 h2 (Nat.le_refl _) (t := t) (fun j oj hj hjm hoj hdj => by
    have := (h4 j oj (by omega) hjm hoj hdj).1 (hS j (by omega) hjm)
    omega) (.at .void)
  rw [hsame]
  exact VR.ext (fun id hn => ⟨rfl, seg_shp hc h1 h2 (Nat.le_refl _) hn⟩) h5

theorem Rel.draw {ι : Nat → Pl} {st : St} {a : Act} {w : World} (h : Rel g ι st a w) (n : Nat) : Rel g ι st a { w with drawn := n } :=
  ⟨h.slots, h.defers, fun id ob h1 h2 => (h.heap id ob h1 h2).ext (fun _ _ => ⟨rfl, rfl⟩) rfl (fun _ _ _ _ _ => rfl), h.inj, h.keep, h.flag, h.os, h.tape, h.output, h.size, h.block, h.fresh⟩

theorem PInv.congr {S S' : Nat → Prop} {ι : Nat → Pl} {a : Act} {w : World} (h : PInv g all σ p m S ι a w) (hs : ∀ j, S j ↔ S' j) : PInv g all σ p m S' ι a w := by
  have : S = S' := funext fun j => propext (hs j)
  subst this
  exact h

theorem next_eff (C E : Nat → Prop) (n : Nat) (h : ∀ j, j < n → C j ∨ E j) : ∀ d p, n - p = d → p ≤ n → ∃ m, p ≤ m ∧ m ≤ n ∧ (∀ j, p ≤ j → j < m → C j) ∧ (m = n ∨ (m < n ∧ E m)) := by
  intro d
  induction d with
  | zero => intro p h1 h2; exact ⟨p, Nat.le_refl _, h2, fun j _ _ => by omega, .inl (by omega)⟩
  | succ d ih =>
    intro p h1 h2
    rcases h p (by omega) with hc | he
    · obtain ⟨m, g1, g2, g3, g4⟩ := ih (p + 1) (by omega) (by omega)
      refine ⟨m, by omega, g2, fun j hj hjm => ?_, g4⟩
      rcases Nat.eq_or_lt_of_le hj with rfl | hlt
      · exact hc
      · exact g3 j hlt hjm
    · exact ⟨p, Nat.le_refl _, h2, fun j _ _ => by omega, .inr ⟨by omega, he⟩⟩

end Go.Fx

/- Operations on registers alone, beside one that changes what is there. -/
namespace Go.Fx
variable {P : Program} {all : Array Oper}

theorem wp_transfer {o : Oper} {a : Act} {T : Array Value} {w : World} {K K2 : Act → World → Prop} {Q : Exit → Act → World → Prop} (hns : ∀ cs b, o.op ≠ .select cs b)
    (he : ∀ x ∈ o.op.operands, a.eval x = ({ a with tmps := T } : Act).eval x) (hk : ∀ v w', K2 (({ a with tmps := T } : Act).put o.dst v) w' → K (a.put o.dst v) w') (hd : ∀ a' w', K2 a' w' → a'.defers = [])
    (h : ∀ Q2, o.wp P { a with tmps := T } w K2 Q2) : o.wp P a w K Q := by
  have h := h (fun e a' w' => match e with | .panic _ => False | e => Q e a' w')
  have hdef : ∀ (b : Act) (d : Option Tmp) (v : Value), (b.put d v).defers = b.defers := fun b d v => by cases d <;> rfl
  unfold Oper.wp at *
  rw [execOp_congr o hns he]
  generalize (execOp ({ a with tmps := T } : Act).eval o).run P w = r at *
  cases r with
  | ok n w' =>
    cases n <;> simp only [Oper.upon] at h ⊢
    case value v => exact hk _ _ h
    case skip => exact hk _ _ h
    case defer d =>
      have := hd _ _ h
      rw [hdef] at this
      cases this
    case enter f args =>
      exact Calls.mono h (fun e w'' he => by
        cases e with
        | returned v => exact hk _ _ he
        | panicked c => exact he.elim
        | outgrown => exact he)
    case row r args => exact Rows.mono h (fun _ _ he => hk _ _ he)
  | halt x w' =>
    cases x <;> simp only [Oper.upon] at h ⊢

theorem isAgg_same {t : TypeId} {w w1 : World} {b : Bool} (h : (isAgg t).run P w = .ok b w1) : w1 = w ∧ ∀ w', (isAgg t).run P w' = .ok b w' := by
  unfold isAgg underlying at h ⊢
  cases hu : P.underlying t with
  | none => simp [hu] at h
  | some d => cases d <;> simp [hu] at h ⊢ <;> exact ⟨h.2.symm, h.1⟩

theorem sizeOf_same {t : TypeId} {w w1 : World} {n : Nat} (h : (Go.sizeOf t).run P w = .ok n w1) : w1 = w ∧ ∀ w', (Go.sizeOf t).run P w' = .ok n w' := by
  unfold Go.sizeOf typeInfo at h ⊢
  cases hu : P.info? t with
  | none => simp [hu] at h
  | some d => simp [hu] at h ⊢; exact ⟨h.2.symm, h.1⟩

theorem load_world {ad : Addr} {w w1 : World} {v : Value} (h : (load ad).run P w = .ok v w1) : w1 = w := by
  rw [run_load] at h
  split at h
  · cases h; rfl
  · split at h
    · cases h; rfl
    · cases h

theorem loadCells_world : ∀ (n i : Nat) (ad : Addr) (acc : Array Value) (w w1 : World) (r : Array Value), (loadCellsFrom ad i n acc).run P w = .ok r w1 → w1 = w := by
  intro n
  induction n with
  | zero => intro i ad acc w w1 r h; simp [loadCellsFrom] at h; exact h.2.symm
  | succ n ih =>
    intro i ad acc w w1 r h
    simp only [loadCellsFrom, Sem.run_bind, Result.andThen] at h
    cases hq : (load (ad.add i)).run P w with
    | ok v w2 =>
      rw [hq] at h
      obtain rfl := load_world hq
      exact ih _ _ _ _ _ _ h
    | halt q w2 => rw [hq] at h; cases h

theorem load_same {ad : Addr} {w w' w1 : World} {v : Value} {blk : Array Value} {t : TypeId} {fz : Nat × Nat} (hb : w.heap[ad.block]? = some (.cells blk t fz)) (hs : w'.heap[ad.block]? = w.heap[ad.block]?) (h : (load ad).run P w = .ok v w1) : (load ad).run P w' = .ok v w' := by
  have hc : w'.cell? ad = w.cell? ad := by unfold World.cell?; rw [hs]
  rw [run_load] at h ⊢
  rw [hc]
  cases hq : w.cell? ad with
  | some u => rw [hq] at h; cases h; rfl
  | none =>
    rw [hq] at h
    exfalso
    unfold World.farLoad at h
    rw [hb] at h
    simp at h

theorem loadCells_same : ∀ (n i : Nat) (ad : Addr) (acc : Array Value) (w w' w1 : World) (r : Array Value) (blk : Array Value) (t : TypeId) (fz : Nat × Nat), w.heap[ad.block]? = some (.cells blk t fz) → w'.heap[ad.block]? = w.heap[ad.block]? →
    (loadCellsFrom ad i n acc).run P w = .ok r w1 → (loadCellsFrom ad i n acc).run P w' = .ok r w' := by
  intro n
  induction n with
  | zero => intro i ad acc w w' w1 r blk t fz _ _ h; simp [loadCellsFrom] at h ⊢; exact h.1
  | succ n ih =>
    intro i ad acc w w' w1 r blk t fz hb hs h
    simp only [loadCellsFrom, Sem.run_bind, Result.andThen] at h ⊢
    cases hq : (load (ad.add i)).run P w with
    | ok v w2 =>
      rw [hq] at h
      obtain rfl := load_world hq
      have hbl : (ad.add i).block = ad.block := by unfold Addr.add; split <;> rfl
      rw [load_same (w' := w') (by rw [hbl]; exact hb) (by rw [hbl]; exact hs) hq]
      exact ih _ _ _ _ _ _ _ _ _ _ hb hs h
    | halt q w2 => rw [hq] at h; cases h

theorem loadAt_world {t : TypeId} {c : Value} {w w1 : World} {v : Value} (h : (Instr.loadAt t c).run P w = .ok v w1) : w1 = w := by
  unfold Instr.loadAt at h
  cases c <;> try (simp [Instr.sureAddr] at h)
  case pointer ad =>
    cases ad with
    | none => simp [Instr.sureAddr] at h
    | some ad =>
      simp only [Instr.sureAddr, Sem.run_bind, Sem.run_pure, loadVar, Result.andThen] at h
      cases hq : (isAgg t).run P w with
      | halt q w2 => rw [hq] at h; cases h
      | ok b w2 =>
        rw [hq] at h
        obtain ⟨rfl, _⟩ := isAgg_same hq
        cases b with
        | false => exact load_world (by simpa using h)
        | true =>
          simp only [if_true, Sem.run_bind, Result.andThen] at h
          cases hz : (Go.sizeOf t).run P w2 with
          | halt q w3 => rw [hz] at h; cases h
          | ok n w3 =>
            rw [hz] at h
            obtain ⟨rfl, _⟩ := sizeOf_same hz
            simp only [loadCells, Sem.run_bind, Result.andThen] at h
            cases hl : (loadCellsFrom ad 0 n #[]).run P w3 with
            | halt q w4 => rw [hl] at h; cases h
            | ok r w4 =>
              rw [hl] at h
              obtain rfl := loadCells_world _ _ _ _ _ _ _ hl
              simp at h; exact h.2.symm

theorem loadAt_same {t : TypeId} {ad : Addr} {w w' w1 : World} {v : Value} {blk : Array Value} {tt : TypeId} {fz : Nat × Nat} (hb : w.heap[ad.block]? = some (.cells blk tt fz)) (hs : w'.heap[ad.block]? = w.heap[ad.block]?) (h : (Instr.loadAt t (.pointer (some ad))).run P w = .ok v w1) :
    (Instr.loadAt t (.pointer (some ad))).run P w' = .ok v w' := by
  unfold Instr.loadAt at h ⊢
  simp only [Instr.sureAddr, Sem.run_bind, Sem.run_pure, loadVar, Result.andThen] at h ⊢
  cases hq : (isAgg t).run P w with
  | halt q w2 => rw [hq] at h; cases h
  | ok b w2 =>
    rw [hq] at h
    obtain ⟨rfl, hq'⟩ := isAgg_same hq
    rw [hq' w']
    cases b with
    | false => exact load_same hb hs (by simpa using h)
    | true =>
      simp only [if_true, Sem.run_bind, Result.andThen] at h ⊢
      cases hz : (Go.sizeOf t).run P w2 with
      | halt q w3 => rw [hz] at h; cases h
      | ok n w3 =>
        rw [hz] at h
        obtain ⟨rfl, hz'⟩ := sizeOf_same hz
        rw [hz' w']
        simp only [loadCells, Sem.run_bind, Result.andThen] at h ⊢
        cases hl : (loadCellsFrom ad 0 n #[]).run P w3 with
        | halt q w4 => rw [hl] at h; cases h
        | ok r w4 =>
          rw [hl] at h
          rw [loadCells_same _ _ _ _ _ _ _ _ _ _ _ hb hs hl]
          simp at h ⊢; exact h.1

def Same (P : Program) {α : Type} (X : Sem α) : Prop := ∀ w v w1, X.run P w = .ok v w1 → w1 = w ∧ ∀ w', X.run P w' = .ok v w'
theorem Same.pure {α : Type} (a : α) : Same P (Pure.pure a : Sem α) := fun w v w1 h => by
  simp only [Sem.run_pure, Result.ok.injEq] at h
  obtain ⟨rfl, rfl⟩ := h
  exact ⟨rfl, fun _ => rfl⟩
theorem Same.never {α : Type} {X : Sem α} (h : ∀ w v w1, X.run P w ≠ .ok v w1) : Same P X := fun w v w1 hx => absurd hx (h w v w1)
theorem Same.bind {α β : Type} {X : Sem α} {f : α → Sem β} (hX : Same P X) (hf : ∀ a, Same P (f a)) : Same P (X >>= f) := fun w v w1 h => by
  rw [Sem.run_bind] at h
  cases hr : X.run P w with
  | halt q w2 => rw [hr] at h; cases h
  | ok a w2 =>
    rw [hr] at h
    obtain ⟨rfl, h2⟩ := hX w a w2 hr
    obtain ⟨rfl, h3⟩ := hf a _ _ _ h
    refine ⟨rfl, fun w' => ?_⟩
    rw [Sem.run_bind, h2 w']
    exact h3 w'
theorem never_bind {α β : Type} {X : Sem α} {f : α → Sem β} (hf : ∀ a w v w1, (f a).run P w ≠ .ok v w1) : ∀ w v w1, (X >>= f).run P w ≠ .ok v w1 := fun w v w1 h => by
  rw [Sem.run_bind] at h
  cases hr : X.run P w with
  | halt q w2 => rw [hr] at h; cases h
  | ok a w2 => rw [hr] at h; exact hf a _ _ _ h
theorem never_stuck {α : Type} (s : String) : ∀ w v w1, (stuck s : Sem α).run P w ≠ .ok v w1 := fun w v w1 h => by simp [stuck] at h
theorem never_unsupported {α : Type} (u : Unsupported) : ∀ w v w1, (unsupported u : Sem α).run P w ≠ .ok v w1 := fun w v w1 h => by simp [unsupported] at h
theorem never_panic {α : Type} (x : Value) : ∀ w v w1, (goPanic x : Sem α).run P w ≠ .ok v w1 := fun w v w1 h => by simp [goPanic] at h
theorem never_rt {α : Type} (x y : Int) (s : Bool) (c : BoundsCode) : ∀ w v w1, (runtimePanic (.bounds x y s c) : Sem α).run P w ≠ .ok v w1 := by
  unfold runtimePanic
  exact never_bind fun p => never_panic _
theorem never_bounds {α : Type} (k : IntKind) (x y : Int) (c : BoundsCode) : ∀ w v w1, (boundsPanic k x y c : Sem α).run P w ≠ .ok v w1 := by
  unfold boundsPanic
  dsimp only
  split
  · exact never_bind fun a => never_rt _ _ _ _
  · exact never_bind fun a => never_rt _ _ _ _
theorem same_sizeOf (t : TypeId) : Same P (Go.sizeOf t) := fun _ _ _ h => sizeOf_same h
theorem same_sureAddr (v : Value) : Same P (Instr.sureAddr v) := by
  cases v with
  | pointer a => cases a with
    | none => exact Same.never (never_stuck _)
    | some a => exact Same.pure a
  | _ => exact Same.never (never_stuck _)
theorem same_fieldAt {s : TypeId} {f : Nat} {fields : Array Field} {fd : Field} {i : TypeInfo} (hu : P.underlying s = some (.struct fields)) (hf : fields[f]? = some fd) (hi : P.info? fd.type = some i) (hne : i.size ≠ 0) (v : Value) : Same P (Instr.fieldAt s v f) := fun w r w1 h => by
  have e1 : ∀ w, (underlying s).run P w = .ok (.struct fields) w := fun w => run_underlying hu w
  have e2 : ∀ w, (Go.sizeOf fd.type).run P w = .ok i.size w := fun w => run_sizeOf hi w
  unfold Instr.fieldAt at h ⊢
  simp only [Sem.run_bind, e1, Result.andThen_ok, hf] at h ⊢
  cases hs : (Instr.sureAddr v).run P w with
  | halt q w2 => rw [hs] at h; cases h
  | ok a w2 =>
    obtain ⟨rfl, h2⟩ := same_sureAddr v w a w2 hs
    rw [hs] at h
    simp only [Result.andThen_ok, fieldPlace, Sem.run_bind, e2, if_neg hne, Sem.run_pure, Result.ok.injEq] at h
    refine ⟨h.2.symm, fun w' => ?_⟩
    rw [h2 w']
    simp only [Result.andThen_ok, fieldPlace, Sem.run_bind, e2, if_neg hne, Sem.run_pure, h.1]

theorem same_indexAt {t : TypeId} {e : TypeId} (hu : P.underlying t = some (.slice e)) (b : Option Addr) (n c : Nat) (k : IntKind) (i : Int) : Same P (Instr.indexAt t (.slice b n c) (.int k i)) := by
  have he : P.elem t = e := by unfold Program.elem; rw [hu]
  cases b with
  | none =>
    refine Same.never fun w v w1 h => ?_
    have : (Instr.indexAt t (.slice none n c) (.int k i)).run P w = (boundsPanic k i 0 .index : Sem Value).run P w := by simp [Instr.indexAt, run_underlying hu, asIntOf]
    rw [this] at h
    exact never_bounds _ _ _ _ _ _ _ h
  | some a =>
    intro w v w1 h
    rw [run_indexAt_slice w t a n c k i (by rw [he]; exact hu)] at h
    by_cases hc : 0 ≤ i ∧ i < n
    · rw [if_pos hc] at h
      cases hs : (Go.sizeOf (P.elem t)).run P w with
      | halt q w2 => rw [hs] at h; cases h
      | ok s w2 =>
        obtain ⟨rfl, h2⟩ := same_sizeOf _ w s w2 hs
        rw [hs] at h
        simp only [Result.andThen_ok, Result.ok.injEq] at h
        refine ⟨h.2.symm, fun w' => ?_⟩
        rw [run_indexAt_slice w' t a n c k i (by rw [he]; exact hu), if_pos hc, h2 w']
        simp only [Result.andThen_ok, h.1]
    · rw [if_neg hc] at h
      exact absurd h (never_bounds _ _ _ _ _ _ _)

theorem same_indexArr {t : TypeId} {e : TypeId} {n : Nat} (hu : P.underlying t = some (.array n e)) (a : Addr) (k : IntKind) (i : Int) : Same P (Instr.indexAt t (.pointer (some a)) (.int k i)) := by
  have he : P.elem t = e := by unfold Program.elem; rw [hu]
  have hn : P.arrayLen t = n := by unfold Program.arrayLen; rw [hu]
  have hu' : P.underlying t = some (.array (P.arrayLen t) (P.elem t)) := by rw [he, hn]; exact hu
  intro w v w1 h
  rw [run_indexAt_array w t a k i hu'] at h
  by_cases hc : 0 ≤ i ∧ i < P.arrayLen t
  · rw [if_pos hc] at h
    cases hs : (Go.sizeOf (P.elem t)).run P w with
    | halt q w2 => rw [hs] at h; cases h
    | ok s w2 =>
      obtain ⟨rfl, h2⟩ := same_sizeOf _ w s w2 hs
      rw [hs] at h
      simp only [Result.andThen_ok, Result.ok.injEq] at h
      refine ⟨h.2.symm, fun w' => ?_⟩
      rw [run_indexAt_array w' t a k i hu', if_pos hc, h2 w']
      simp only [Result.andThen_ok, h.1]
  · rw [if_neg hc] at h
    split at h
    · cases h
    · exact absurd h (never_bounds _ _ _ _ _ _ _)

def CellsAt (P : Program) (o : Oper) (a : Act) (w : World) : Prop :=
  match o.op with
  | .load _ x => ∃ ad blk t fz, a.eval x = .pointer (some ad) ∧ w.heap[ad.block]? = some (.cells blk t fz)
  | .nilCheck x => ∃ ad, a.eval x = .pointer (some ad)
  | .fieldAddr s _ f => ∃ fields fd i, P.underlying s = some (.struct fields) ∧ fields[f]? = some fd ∧ P.info? fd.type = some i ∧ i.size ≠ 0
  | .indexAddr t x ix => ∃ e k i, a.eval ix = .int k i ∧ ((∃ b n c, P.underlying t = some (.slice e) ∧ a.eval x = .slice b n c) ∨ ∃ n ad, P.underlying t = some (.array n e) ∧ a.eval x = .pointer (some ad))
  | _ => True

theorem same_neg (v : Value) : Same P (Op.unary .neg v) := by
  cases v <;> first
    | exact Same.pure _
    | exact Same.never (never_stuck _)
    | skip
  case pointer a => cases a <;> first | exact Same.never (never_stuck _) | exact Same.never (never_unsupported _)

theorem late_run {o : Oper} (h : lateOp o = true) {a : Act} {w : World} {K : Act → World → Prop} (hc : CellsAt P o a w) (hw : o.wp P a w K (fun _ _ _ => False)) : ∃ v, (execOp a.eval o).run P w = .ok (.value v) w ∧ K (a.put o.dst v) w := by
  have mv : ∀ x, (execOp a.eval o).run P w = .ok (.value x) w → ∃ v, (execOp a.eval o).run P w = .ok (.value v) w ∧ K (a.put o.dst v) w := fun x hx => by
    refine ⟨x, hx, ?_⟩
    unfold Oper.wp at hw
    rw [hx] at hw
    exact hw
  unfold lateOp at h
  rw [Bool.and_eq_true] at h
  have h1 := h.1
  cases ho : o.op <;> rw [ho] at h1 <;> first | cases h1 | skip
  case move x => exact mv (a.eval x) (by simp [execOp, ho])
  case assign x => exact mv (a.eval x) (by simp [execOp, ho])
  case extract t ix =>
    cases ht : a.eval t with
    | tuple cs =>
      cases hc : cs[ix]? with
      | some c => exact mv c (by simp [execOp, ho, ht, Instr.extract, hc])
      | none =>
        exfalso
        unfold Oper.wp at hw
        simp [execOp, ho, ht, Instr.extract, hc, Oper.upon] at hw
    | _ =>
      exfalso
      unfold Oper.wp at hw
      simp [execOp, ho, ht, Instr.extract, Oper.upon] at hw
  case pick c x y =>
    cases hc : a.eval c with
    | bool t =>
      cases t with
      | true => exact mv (a.eval x) (by simp [execOp, ho, hc, asBool])
      | false => exact mv (a.eval y) (by simp [execOp, ho, hc, asBool])
    | _ =>
      exfalso
      unfold Oper.wp at hw
      simp [execOp, ho, hc, asBool, Oper.upon] at hw
  case unOp u t x =>
    cases u <;> first | cases h1 | skip
    have he : (execOp a.eval o).run P w = ((Op.unary .neg (a.eval x)).run P w).andThen fun v w => .ok (.value v) w := by simp [execOp, ho]
    unfold Oper.wp at hw
    rw [he] at hw
    cases hr : (Op.unary .neg (a.eval x)).run P w with
    | ok v w1 =>
      rw [hr] at hw
      obtain rfl : w1 = w := (same_neg _ _ _ _ hr).1
      exact mv v (by rw [he, hr]; rfl)
    | halt q w1 =>
      exfalso
      rw [hr] at hw
      cases q <;> simp [Result.andThen, Oper.upon] at hw
  case nilCheck x =>
    unfold CellsAt at hc
    rw [ho] at hc
    obtain ⟨ad, hx⟩ := hc
    exact mv (a.eval x) (by simp [execOp, ho, hx])
  case fieldAddr s x f =>
    unfold CellsAt at hc
    rw [ho] at hc
    obtain ⟨fields, fd, i, hu, hf, hi, hne⟩ := hc
    have he : (execOp a.eval o).run P w = ((Instr.fieldAt s (a.eval x) f).run P w).andThen fun v w => .ok (.value v) w := by simp [execOp, ho]
    unfold Oper.wp at hw
    rw [he] at hw
    cases hr : (Instr.fieldAt s (a.eval x) f).run P w with
    | ok v w1 =>
      rw [hr] at hw
      obtain rfl : w1 = w := (same_fieldAt hu hf hi hne _ _ _ _ hr).1
      exact mv v (by rw [he, hr]; rfl)
    | halt q w1 =>
      exfalso
      rw [hr] at hw
      cases q <;> simp [Result.andThen, Oper.upon] at hw
  case indexAddr t x ix =>
    unfold CellsAt at hc
    rw [ho] at hc
    obtain ⟨e, k, i, hix, hcase⟩ := hc
    have hsame : Same P (Instr.indexAt t (a.eval x) (a.eval ix)) := by
      rcases hcase with ⟨b, n, c, hu, hx⟩ | ⟨n, ad, hu, hx⟩
      · rw [hx, hix]; exact same_indexAt hu _ _ _ _ _
      · rw [hx, hix]; exact same_indexArr hu _ _ _
    have he : (execOp a.eval o).run P w = ((Instr.indexAt t (a.eval x) (a.eval ix)).run P w).andThen fun v w => .ok (.value v) w := by simp [execOp, ho]
    unfold Oper.wp at hw
    rw [he] at hw
    cases hr : (Instr.indexAt t (a.eval x) (a.eval ix)).run P w with
    | ok v w1 =>
      rw [hr] at hw
      obtain rfl : w1 = w := (hsame _ _ _ hr).1
      exact mv v (by rw [he, hr]; rfl)
    | halt q w1 =>
      exfalso
      rw [hr] at hw
      cases q <;> simp [Result.andThen, Oper.upon] at hw
  case load t x =>
    have he : (execOp a.eval o).run P w = ((Instr.loadAt t (a.eval x)).run P w).andThen fun v w => .ok (.value v) w := by simp [execOp, ho]
    unfold Oper.wp at hw
    rw [he] at hw
    cases hr : (Instr.loadAt t (a.eval x)).run P w with
    | ok v w1 =>
      rw [hr] at hw
      obtain rfl : w1 = w := loadAt_world hr
      exact mv v (by rw [he, hr]; rfl)
    | halt q w1 =>
      exfalso
      rw [hr] at hw
      cases q <;> simp [Result.andThen, Oper.upon] at hw

structure Evid (P : Program) (o : Oper) (a : Act) (v : Value) (w : World) : Prop where
  run : (execOp a.eval o).run P w = .ok (.value v) w
  cells : CellsAt P o a w

theorem Evid.congr {o : Oper} {a a' : Act} {v : Value} {w : World} (h : Evid P o a v w) (hns : ∀ cs b, o.op ≠ .select cs b) (he : ∀ x ∈ o.op.operands, a.eval x = a'.eval x) : Evid P o a' v w := by
  refine ⟨?_, ?_⟩
  · rw [← execOp_congr o hns he]; exact h.run
  · have hc := h.cells
    unfold CellsAt at hc ⊢
    split at hc
    · rename_i t x ho
      obtain ⟨ad, blk, tt, fz, h1, h2⟩ := hc
      exact ⟨ad, blk, tt, fz, by rw [← he x (by rw [ho]; simp [Op.operands])]; exact h1, h2⟩
    · rename_i x ho
      obtain ⟨ad, h1⟩ := hc
      exact ⟨ad, by rw [← he x (by rw [ho]; simp [Op.operands])]; exact h1⟩
    · exact hc
    · rename_i t x ix ho
      obtain ⟨e, k, i, hix, hcase⟩ := hc
      rw [he x (by rw [ho]; simp [Op.operands])] at hcase
      exact ⟨e, k, i, by rw [← he ix (by rw [ho]; simp [Op.operands])]; exact hix, hcase⟩
    · trivial

def Kept1 (P : Program) (t : TypeId) (ad : Addr) (w w' : World) : Prop :=
  w'.heap[ad.block]? = w.heap[ad.block]? ∨ (∃ inf, P.info? t = some inf ∧ inf.size = 1) ∧ ad.spot = none ∧ ∀ (blk : Array Value) (tt : TypeId) (fz : Nat × Nat), w.heap[ad.block]? = some (.cells blk tt fz) → ∃ blk' : Array Value, w'.heap[ad.block]? = some (.cells blk' tt fz) ∧ blk'[ad.off]? = blk[ad.off]?

theorem load_cell {ad : Addr} {w w' w1 : World} {v : Value} {blk blk' : Array Value} {t : TypeId} {fz : Nat × Nat} (hb : w.heap[ad.block]? = some (.cells blk t fz)) (hb' : w'.heap[ad.block]? = some (.cells blk' t fz)) (hs : blk'[ad.off]? = blk[ad.off]?) (h : (load ad).run P w = .ok v w1) : (load ad).run P w' = .ok v w' := by
  have hc : w'.cell? ad = w.cell? ad := by unfold World.cell?; rw [hb, hb']; simp only [hs]
  rw [run_load] at h ⊢
  rw [hc]
  cases hq : w.cell? ad with
  | some u => rw [hq] at h; cases h; rfl
  | none =>
    rw [hq] at h
    exfalso
    unfold World.farLoad at h
    rw [hb] at h
    simp at h

theorem loadAt_cell {t : TypeId} {ad : Addr} {w w' w1 : World} {v : Value} {blk blk' : Array Value} {tt : TypeId} {fz : Nat × Nat} {inf : TypeInfo} (hi : P.info? t = some inf) (h1 : inf.size = 1) (hn : ad.spot = none) (hb : w.heap[ad.block]? = some (.cells blk tt fz)) (hb' : w'.heap[ad.block]? = some (.cells blk' tt fz)) (hs : blk'[ad.off]? = blk[ad.off]?) (h : (Instr.loadAt t (.pointer (some ad))).run P w = .ok v w1) :
    (Instr.loadAt t (.pointer (some ad))).run P w' = .ok v w' := by
  unfold Instr.loadAt at h ⊢
  simp only [Instr.sureAddr, Sem.run_bind, Sem.run_pure, loadVar, Result.andThen] at h ⊢
  cases hq : (isAgg t).run P w with
  | halt q w2 => rw [hq] at h; cases h
  | ok b w2 =>
    rw [hq] at h
    obtain ⟨rfl, hq'⟩ := isAgg_same hq
    rw [hq' w']
    cases b with
    | false => exact load_cell hb hb' hs (by simpa using h)
    | true =>
      have e2 : ∀ w, (Go.sizeOf t).run P w = .ok 1 w := fun w => by rw [run_sizeOf hi w, h1]
      simp only [if_true, Sem.run_bind, Result.andThen, e2, loadCells, loadCellsFrom] at h ⊢
      have had : ad.add 0 = ad := by cases ad; simp_all [Addr.add]
      rw [had] at h ⊢
      cases hl : (load ad).run P w2 with
      | halt q w3 => rw [hl] at h; cases h
      | ok r w3 =>
        obtain rfl := load_world hl
        rw [hl] at h
        rw [load_cell hb hb' hs hl]
        simp at h ⊢
        exact h.1

theorem Evid.keep {o : Oper} (hl : lateOp o = true) {a : Act} {v : Value} {w w' : World} (h : Evid P o a v w)
    (hb : ∀ t x ad, o.op = .load t x → a.eval x = .pointer (some ad) → ad.block < w.heap.size → Kept1 P t ad w w') : Evid P o a v w' := by
  obtain ⟨hr, hc⟩ := h
  unfold lateOp at hl
  rw [Bool.and_eq_true] at hl
  have h1 := hl.1
  cases ho : o.op <;> rw [ho] at h1 <;> first | cases h1 | skip
  case move x =>
    refine ⟨?_, by unfold CellsAt; rw [ho]; trivial⟩
    simp [execOp, ho] at hr ⊢; exact hr
  case assign x =>
    refine ⟨?_, by unfold CellsAt; rw [ho]; trivial⟩
    simp [execOp, ho] at hr ⊢; exact hr
  case extract t ix =>
    refine ⟨?_, by unfold CellsAt; rw [ho]; trivial⟩
    cases ht : a.eval t with
    | tuple cs =>
      cases hcs : cs[ix]? with
      | some c => simp [execOp, ho, ht, Instr.extract, hcs] at hr ⊢; exact hr
      | none => simp [execOp, ho, ht, Instr.extract, hcs] at hr
    | _ => simp [execOp, ho, ht, Instr.extract] at hr
  case pick c x y =>
    refine ⟨?_, by unfold CellsAt; rw [ho]; trivial⟩
    cases hq : a.eval c with
    | bool t => cases t <;> simp [execOp, ho, hq, asBool] at hr ⊢ <;> exact hr
    | _ => simp [execOp, ho, hq, asBool] at hr
  case unOp u t x =>
    cases u <;> first | cases h1 | skip
    refine ⟨?_, by unfold CellsAt; rw [ho]; trivial⟩
    have he : ∀ w, (execOp a.eval o).run P w = ((Op.unary .neg (a.eval x)).run P w).andThen fun v w => .ok (.value v) w := fun w => by simp [execOp, ho]
    rw [he] at hr ⊢
    cases hq : (Op.unary .neg (a.eval x)).run P w with
    | ok v1 w1 =>
      rw [hq] at hr
      cases hr
      rw [(same_neg _ _ _ _ hq).2 w']; rfl
    | halt q w1 => rw [hq] at hr; cases hr
  case nilCheck x =>
    unfold CellsAt at hc
    rw [ho] at hc
    refine ⟨?_, by unfold CellsAt; rw [ho]; exact hc⟩
    obtain ⟨ad, hx⟩ := hc
    simp [execOp, ho, hx] at hr ⊢; exact hr
  case fieldAddr s x f =>
    unfold CellsAt at hc
    rw [ho] at hc
    refine ⟨?_, by unfold CellsAt; rw [ho]; exact hc⟩
    obtain ⟨fields, fd, i, hu, hf, hi, hne⟩ := hc
    have he : ∀ w, (execOp a.eval o).run P w = ((Instr.fieldAt s (a.eval x) f).run P w).andThen fun v w => .ok (.value v) w := fun w => by simp [execOp, ho]
    rw [he] at hr ⊢
    cases hq : (Instr.fieldAt s (a.eval x) f).run P w with
    | ok v1 w1 =>
      rw [hq] at hr
      cases hr
      rw [(same_fieldAt hu hf hi hne _ _ _ _ hq).2 w']; rfl
    | halt q w1 => rw [hq] at hr; cases hr
  case indexAddr t x ix =>
    unfold CellsAt at hc
    rw [ho] at hc
    refine ⟨?_, by unfold CellsAt; rw [ho]; exact hc⟩
    obtain ⟨e, k, i, hix, hcase⟩ := hc
    have hsame : Same P (Instr.indexAt t (a.eval x) (a.eval ix)) := by
      rcases hcase with ⟨b, n, c, hu, hx⟩ | ⟨n, ad, hu, hx⟩
      · rw [hx, hix]; exact same_indexAt hu _ _ _ _ _
      · rw [hx, hix]; exact same_indexArr hu _ _ _
    have he : ∀ w, (execOp a.eval o).run P w = ((Instr.indexAt t (a.eval x) (a.eval ix)).run P w).andThen fun v w => .ok (.value v) w := fun w => by simp [execOp, ho]
    rw [he] at hr ⊢
    cases hq : (Instr.indexAt t (a.eval x) (a.eval ix)).run P w with
    | ok v1 w1 =>
      rw [hq] at hr
      cases hr
      rw [(hsame _ _ _ hq).2 w']; rfl
    | halt q w1 => rw [hq] at hr; cases hr
  case load t x =>
    unfold CellsAt at hc
    rw [ho] at hc
    obtain ⟨ad, blk, tt, fz, h2, h3⟩ := hc
    have hlt : ad.block < w.heap.size := (Array.getElem?_eq_some_iff.1 h3).1
    have he : ∀ w, (execOp a.eval o).run P w = ((Instr.loadAt t (a.eval x)).run P w).andThen fun v w => .ok (.value v) w := fun w => by simp [execOp, ho]
    rcases hb t x ad ho h2 hlt with h4 | ⟨⟨inf, hi, h1i⟩, hn, h4⟩
    · refine ⟨?_, by unfold CellsAt; rw [ho]; exact ⟨ad, blk, tt, fz, h2, by rw [h4]; exact h3⟩⟩
      rw [he] at hr ⊢
      cases hq : (Instr.loadAt t (a.eval x)).run P w with
      | ok v1 w1 =>
        rw [hq] at hr
        cases hr
        rw [h2] at hq ⊢
        rw [loadAt_same h3 h4 hq]; rfl
      | halt q w1 => rw [hq] at hr; cases hr
    · obtain ⟨blk', g1, g2⟩ := h4 blk tt fz h3
      refine ⟨?_, by unfold CellsAt; rw [ho]; exact ⟨ad, blk', tt, fz, h2, g1⟩⟩
      rw [he] at hr ⊢
      cases hq : (Instr.loadAt t (a.eval x)).run P w with
      | ok v1 w1 =>
        rw [hq] at hr
        cases hr
        rw [h2] at hq ⊢
        rw [loadAt_cell hi h1i hn h3 g1 g2 hq]; rfl
      | halt q w1 => rw [hq] at hr; cases hr

theorem cells_of {ι : Nat → Pl} {hp : List Ob} {w : World} {o : Oper} {a : Act} {sl : List V} (hpf : PtrF P o sl) (hops : OpsR ι (shp hp) o sl a) (hh : HR ι hp w) : CellsAt P o a w := by
  unfold CellsAt
  split
  · rename_i t x ho
    obtain ⟨id, el, off, hx⟩ := hpf.load t x ho
    have hv := hops x (by rw [ho]; simp [Op.operands])
    rw [hx] at hv
    obtain ⟨b, base, room, h1, h2, h3⟩ := hv
    unfold shp at h3
    cases hob : hp[id]? with
    | none => rw [hob] at h3; exact h3.elim
    | some ob =>
      have hobr := hh id ob hob (by rw [h1]; simp)
      obtain ⟨own, c⟩ := ob
      cases c with
      | dead => rw [hob] at h3; exact h3.elim
      | mp kd keys => rw [hob] at h3; exact h3.elim
      | box cs =>
        obtain ⟨b', base', room', blk, ty, fz, g1, g2, _⟩ := hobr
        rw [h1] at g1; cases g1
        exact ⟨_, blk, ty, fz, h2, g2⟩
      | rows ks xs =>
        rcases hobr with ⟨g1, _⟩ | ⟨b', base', room', blk, ty, fz, g1, g2, _⟩
        · rw [h1] at g1; cases g1
        · rw [h1] at g1; cases g1
          exact ⟨_, blk, ty, fz, h2, g2⟩
  · rename_i x ho
    obtain ⟨id, el, off, hx⟩ := hpf.check x ho
    have hv := hops x (by rw [ho]; simp [Op.operands])
    rw [hx] at hv
    obtain ⟨b, base, room, h1, h2, h3⟩ := hv
    exact ⟨_, h2⟩
  · rename_i s x f ho
    exact hpf.field s x f ho
  · rename_i t x ix ho
    obtain ⟨e, k, i, hix, hcase⟩ := hpf.index t x ix ho
    have hv := hops x (by rw [ho]; simp [Op.operands])
    have hvi := hops ix (by rw [ho]; simp [Op.operands])
    rw [hix] at hvi
    have hei : a.eval ix = .int k i := hvi
    refine ⟨e, k, i, hei, ?_⟩
    rcases hcase with ⟨hu, ⟨id, hx⟩ | ⟨id, st, ln, cp, hx⟩ | ⟨id, ln, hx⟩⟩ | ⟨n, id, el, off, hu, hx⟩
    · rw [hx] at hv
      obtain ⟨ks, n, _, h2⟩ := hv
      rcases h2 with ⟨_, _, ad, h3⟩ | ⟨b, base, room, cap, _, h3, _⟩
      · exact .inl ⟨_, _, _, hu, h3⟩
      · exact .inl ⟨_, _, _, hu, h3⟩
    · rw [hx] at hv
      obtain ⟨ks, n, _, _, ad, c, h3, _⟩ := hv
      exact .inl ⟨_, _, _, hu, h3⟩
    · rw [hx] at hv
      obtain ⟨_, b, base, room, _, h3⟩ := hv
      exact .inl ⟨_, _, _, hu, h3⟩
    · rw [hx] at hv
      obtain ⟨b, base, room, h1, h2, h3⟩ := hv
      exact .inr ⟨_, _, hu, h2⟩
  · trivial

structure Late (P : Program) (all : Array Oper) (listed D : Nat → Prop) (b : Nat) (a : Act) (T : Array Value) (w : World) : Prop where
  size : T.size = a.tmps.size
  nol : ∀ d, D d → ¬ listed d
  low : ∀ d, D d → d < b
  sel : ∀ d, D d → noSel all = true
  late : ∀ d o, D d → all[d]? = some o → lateB all d = true ∧ ∃ v, Evid P o ({ a with tmps := T } : Act) v w ∧ ∀ t, o.dst = some t → t < T.size → T.getD t undef = v
  same : ∀ t, (∀ d o, D d → all[d]? = some o → o.dst ≠ some t) → a.tmps.getD t undef = T.getD t undef

section
variable {g : Beg} {σ : Nat → St} {p m : Nat}

theorem pinv_step2 {S : Nat → Prop} {ι : Nat → Pl} {a : Act} {w : World} {k : Nat} (hc : ∀ j, p ≤ j → j < m → CalmStep P all σ j) (hd : drawOk all = true) (h : PInv g all σ p m S ι a w) (hk : p ≤ k) (hkm : k < m) (hS : ¬ S k)
    (hcl : ∀ j, bef (masks all) j k = true → S j) (hcl2 : ∀ j, S j → bef (masks all) k j ≠ true) :
    ∃ o, all[k]? = some o ∧ (∀ t ∈ reads all o, VR ι (shp (σ k).hp) ((σ k).sl.getD t (.at .void)) (a.tmps.getD t undef)) ∧
      ((Wanted all o (σ k) ∧ PtrF P o (σ k).sl ∧ ∀ Q, o.wp P a w (fun a' w' => (∃ ι', PInv g all σ p m (fun j => S j ∨ j = k) ι' a' w') ∧ ∀ b, b < w.heap.size → w'.heap[b]? = w.heap[b]?) Q) ∨
       (Unwanted all o (σ k) ∧ ∃ ι', PInv g all σ p m (fun j => S j ∨ j = k) ι' (a.put o.dst undef) w)) := by
  obtain ⟨o, v, news, ho, hs, hcase⟩ := hc k hk hkm
  have hreads := h.reads hc hd hk hkm hS ho hcl hcl2
  have hwr : ∀ t, o.dst = some t → ∀ j oj, p ≤ j → j < m → all[j]? = some oj → oj.dst = some t → j ≠ k → (S j ↔ j < k) := by
    intro t hdt j oj _ _ hoj hdj hne
    rcases Nat.lt_or_gt_of_ne hne with hlt | hgt
    · refine ⟨fun _ => hlt, fun _ => ?_⟩
      rcases (drawOk_get hd ho).2 j hlt with hb | ⟨oj', hoj', hap⟩
      · exact hcl j hb
      · rw [hoj] at hoj'; cases hoj'
        exact absurd hdt ((apartB_spec hap).1 t hdj)
    · refine ⟨fun hSj => ?_, fun hh => by omega⟩
      exfalso
      rcases (drawOk_get hd hoj).2 k hgt with hb | ⟨ok, hok, hap⟩
      · exact hcl2 j hSj hb
      · rw [ho] at hok; cases hok
        exact (apartB_spec hap).1 t hdt hdj
  refine ⟨o, ho, hreads, ?_⟩
  rcases hcase with ⟨hwant, hcalm, hpf⟩ | ⟨hun, rfl, rfl⟩
  · refine .inl ⟨hwant, hpf, fun Q => ?_⟩
    exact hcalm ι a w (ops_of_reads hreads) (h.heaps k hk (by omega)) _ Q fun ι' c w' hg hv hh =>
      let ⟨ι'', h2⟩ := h.after hc hk hkm hS ho hs hg hv hh hwr
      ⟨⟨ι'', h2⟩, fun b hb => hg.wx.block b hb⟩
  · refine .inr ⟨hun, ?_⟩
    obtain ⟨ι'', h2⟩ := h.after hc hk hkm hS ho hs (Grow.none (WX.refl w)) (v := .at .void) (c := undef) rfl (by rw [List.append_nil]; exact h.heaps k hk (by omega)) hwr
    exact ⟨ι'', h2⟩

theorem bef_lt (hd : drawOk all = true) : ∀ (j i : Nat), j < all.size → bef (masks all) i j = true → i < j := by
  intro j
  induction j using Nat.strongRecOn with
  | _ j ih =>
    intro i hj hb
    obtain ⟨e, he, hbe, hcase⟩ := bef_edge (Array.getElem?_eq_getElem hj) hb
    have hlt := (drawOk_get hd (Array.getElem?_eq_getElem hj)).1 e he hbe
    rcases hcase with rfl | ⟨h1, h2⟩
    · exact hlt
    · have := ih e.on h1 i (by omega) h2
      omega

theorem put_ghost {a : Act} {T : Array Value} {d : Option Tmp} {v : Value} : ({ a.put d v with tmps := (({ a with tmps := T } : Act).put d v).tmps } : Act) = ({ a with tmps := T } : Act).put d v := by
  cases d <;> rfl

theorem put_real {a : Act} {T : Array Value} {d : Option Tmp} {v : Value} : ({ a.put d v with tmps := T } : Act) = ({ a with tmps := T } : Act) := by
  cases d <;> rfl

theorem put_getT {a : Act} {d : Option Tmp} {v : Value} {t : Nat} : (a.put d v).tmps.getD t undef = if d = some t ∧ t < a.tmps.size then v else a.tmps.getD t undef := by
  cases d with
  | none => simp [Act.put]
  | some d =>
    simp only [Act.put, Option.some.injEq, Array.getD_eq_getD_getElem?, Array.getElem?_setIfInBounds]
    by_cases h : d = t
    · subst h
      by_cases h2 : d < a.tmps.size <;> simp [h2]
    · simp [h]

theorem put_size {a : Act} {d : Option Tmp} {v : Value} : (a.put d v).tmps.size = a.tmps.size := by
  cases d <;> simp [Act.put]

theorem eval_same {o : Oper} {a : Act} {T : Array Value} (h : ∀ t ∈ reads all o, a.tmps.getD t undef = T.getD t undef) : ∀ x ∈ o.op.operands, a.eval x = ({ a with tmps := T } : Act).eval x := by
  intro x hx
  cases x with
  | tmp t => exact h t (tmp_read hx)
  | _ => rfl

theorem lateB_get {j : Nat} {o : Oper} (h : lateB all j = true) (ho : all[j]? = some o) : lateOp o = true ∧ ∀ i o', all[i]? = some o' → (i ≠ j → ∀ t, o.dst = some t → o'.dst ≠ some t) ∧ (i ≤ j → ∀ t, o.dst = some t → t ∉ reads all o') := by
  unfold lateB at h
  rw [ho] at h
  simp only [Bool.and_eq_true, List.all_eq_true, List.mem_range] at h
  refine ⟨h.1, fun i o' hi => ?_⟩
  have hlt : i < all.size := (Array.getElem?_eq_some_iff.1 hi).1
  have h2 := h.2 i hlt
  rw [hi] at h2
  simp only [Bool.and_eq_true, Bool.or_eq_true] at h2
  constructor
  · intro hne t ht ht'
    rcases h2.1 with h3 | h3
    · exact hne (Nat.eq_of_beq_eq_true h3)
    · rw [ht, ht'] at h3; simp at h3
  · intro hij t ht hm
    rcases h2.2 with h3 | h3
    · rw [Nat.blt_eq] at h3; omega
    · rw [ht] at h3
      simp only [dstIn] at h3
      rw [(hasId_iff t _).2 hm] at h3
      cases h3

theorem noSel_get (h : noSel all = true) {j : Nat} {o : Oper} (ho : all[j]? = some o) : ∀ cs b, o.op ≠ .select cs b := by
  intro cs b he
  unfold noSel at h
  rw [List.all_eq_true] at h
  have := h o (by rw [Array.mem_toList_iff]; exact Array.mem_of_getElem? ho)
  rw [he] at this
  cases this
end
end Go.Fx

/- What late operations leave as it is. -/
namespace Go.Fx
variable {P : Program} {all : Array Oper} {listed listed' D D' : Nat → Prop} {b : Nat} {a : Act} {T : Array Value} {w w' : World}

theorem Late.apart (_ : Late P all listed D b a T w) (hd : drawOk all = true) {k : Nat} {o : Oper} (ho : all[k]? = some o) {d : Nat} {od : Oper} (hod : all[d]? = some od) (hlt : d < k) (hnb : bef (masks all) d k ≠ true) :
    (∀ t, od.dst = some t → o.dst ≠ some t) ∧ (∀ t, od.dst = some t → t ∉ reads all o) ∧ (∀ t, o.dst = some t → t ∉ reads all od) := by
  rcases (drawOk_get hd ho).2 d hlt with hb | ⟨od', hod', hap⟩
  · exact absurd hb hnb
  · rw [hod] at hod'; cases hod'
    exact apartB_spec hap

theorem Late.sees (L : Late P all listed D b a T w) (hd : drawOk all = true) {k : Nat} {o : Oper} (ho : all[k]? = some o) (hbk : ∀ d, D d → d < k ∧ bef (masks all) d k ≠ true) : ∀ t ∈ reads all o, a.tmps.getD t undef = T.getD t undef := by
  intro t ht
  refine L.same t fun d od hD hod hdst => ?_
  exact (L.apart hd ho hod (hbk d hD).1 (hbk d hD).2).2.1 t hdst ht

theorem Late.put (L : Late P all listed D b a T w) (hd : drawOk all = true) {k : Nat} {o : Oper} (ho : all[k]? = some o) (hkD : ¬ D k) (hbk : ∀ d, D d → d < k ∧ bef (masks all) d k ≠ true) (hl : ∀ j, listed' j ↔ (listed j ∨ j = k)) (v : Value)
    (hw : ∀ d od t x ad, D d → all[d]? = some od → od.op = .load t x → ({ a with tmps := T } : Act).eval x = .pointer (some ad) → ad.block < w.heap.size → Kept1 P t ad w w') :
    Late P all listed' D b (a.put o.dst v) (({ a with tmps := T } : Act).put o.dst v).tmps w' := by
  refine ⟨by rw [put_size, put_size]; exact L.size, fun d h hh => ?_, L.low, L.sel, fun d od hD hod => ?_, fun t ht => ?_⟩
  · rcases (hl d).1 hh with h1 | rfl
    · exact L.nol d h h1
    · exact hkD h
  · obtain ⟨h1, x, h2, h3⟩ := L.late d od hD hod
    have hap := L.apart hd ho hod (hbk d hD).1 (hbk d hD).2
    refine ⟨h1, x, ?_, fun t ht hts => ?_⟩
    · refine (h2.keep (lateB_get h1 hod).1 fun t y ad ho1 he1 hlt => hw d od t y ad hD hod ho1 he1 hlt).congr (noSel_get (L.sel d hD) hod) fun y hy => ?_
      cases y with
      | tmp t =>
        change T.getD t undef = (({ a with tmps := T } : Act).put o.dst v).tmps.getD t undef
        rw [put_getT, if_neg]
        exact fun hh => hap.2.2 t hh.1 (tmp_read hy)
      | _ => rfl
    · rw [put_getT, if_neg]
      · rw [put_size] at hts; exact h3 t ht hts
      · exact fun hh => hap.1 t ht hh.1
  · rw [put_getT, put_getT]
    have := L.same t ht
    have hs := L.size
    simp only
    rw [this, hs]

theorem Late.run (L : Late P all listed D b a T w) {k : Nat} {o : Oper} (ho : all[k]? = some o) (hkD : D k) (hl : ∀ j, listed' j ↔ (listed j ∨ j = k)) {v : Value} (hv : ∀ t, o.dst = some t → t < T.size → T.getD t undef = v) :
    Late P all listed' (fun d => D d ∧ d ≠ k) b (a.put o.dst v) T w := by
  refine ⟨by rw [put_size]; exact L.size, fun d h hh => ?_, fun d h => L.low d h.1, fun d h => L.sel d h.1, fun d od hD hod => ?_, fun t ht => ?_⟩
  · rcases (hl d).1 hh with h1 | h1
    · exact L.nol d h.1 h1
    · exact h.2 h1
  · rw [put_real]; exact L.late d od hD.1 hod
  · rw [put_getT]
    have hs := L.size
    by_cases h : o.dst = some t ∧ t < a.tmps.size
    · rw [if_pos h]; exact (hv t h.1 (by rw [hs]; exact h.2)).symm
    · rw [if_neg h]
      by_cases h2 : o.dst = some t
      · have h3 : ¬ t < a.tmps.size := fun h3 => h ⟨h2, h3⟩
        have h4 : a.tmps.size ≤ t := Nat.not_lt.1 h3
        simp [Array.getD_eq_getD_getElem?, Array.getElem?_eq_none h4, Array.getElem?_eq_none (show T.size ≤ t by rw [hs]; exact h4)]
      · refine L.same t fun d od hD hod => ?_
        by_cases hdk : d = k
        · subst hdk; rw [ho] at hod; cases hod; exact h2
        · exact ht d od ⟨hD, hdk⟩ hod

theorem Late.ghost (L : Late P all listed D b a T w) {j : Nat} {o : Oper} (ho : all[j]? = some o) (hlj : ¬ listed j) (hlow : ∀ d, D d → d < j) (hjb : j < b) (hsel : noSel all = true) (hlate : lateB all j = true) {v : Value}
    (hv : Evid P o ({ a with tmps := T } : Act) v w) : Late P all listed (fun d => D d ∨ d = j) b a (({ a with tmps := T } : Act).put o.dst v).tmps w := by
  obtain ⟨_, hq⟩ := lateB_get hlate ho
  have agree : ∀ i oi, all[i]? = some oi → i ≤ j → ∀ y ∈ oi.op.operands, ({ a with tmps := T } : Act).eval y = ({ a with tmps := (({ a with tmps := T } : Act).put o.dst v).tmps } : Act).eval y := fun i oi hi hij y hy => by
      cases y with
      | tmp t =>
        change T.getD t undef = (({ a with tmps := T } : Act).put o.dst v).tmps.getD t undef
        rw [put_getT, if_neg]
        exact fun hh => (hq i oi hi).2 hij t hh.1 (tmp_read hy)
      | _ => rfl
  refine ⟨by rw [put_size]; exact L.size, fun d h hh => ?_, fun d h => ?_, fun _ _ => hsel, fun d od hD hod => ?_, fun t ht => ?_⟩
  · rcases h with h | rfl
    · exact L.nol d h hh
    · exact hlj hh
  · rcases h with h | rfl
    · exact L.low d h
    · exact hjb
  · rcases hD with hD | rfl
    · obtain ⟨h1, x, h2, h3⟩ := L.late d od hD hod
      refine ⟨h1, x, ?_, fun t ht hts => ?_⟩
      · exact h2.congr (noSel_get hsel hod) (agree d od hod (by have := hlow d hD; omega))
      · rw [put_getT, if_neg]
        · rw [put_size] at hts; exact h3 t ht hts
        · exact fun hh => (hq d od hod).1 (by have := hlow d hD; omega) t hh.1 ht
    · rw [ho] at hod; cases hod
      refine ⟨hlate, v, ?_, fun t ht hts => ?_⟩
      · exact hv.congr (noSel_get hsel ho) (agree d o ho (Nat.le_refl _))
      · rw [put_getT, if_pos]
        rw [put_size] at hts
        exact ⟨ht, hts⟩
  · rw [put_getT, if_neg]
    · exact L.same t fun d od hD hod => ht d od (.inl hD) hod
    · exact fun hh => ht j o (.inr rfl) ho hh.1
end Go.Fx

/- Regions whose order is drawn: any order, with operations that come late. -/
namespace Go.Fx
variable {P : Program} {g : Beg} {all : Array Oper} {σ : Nat → St}

theorem barrier_get {i j : Nat} {o : Oper} {sl : List V} (h : barrier all i o sl = true) (hj : j < all.size) (hne : i ≠ j) :
    (j < i → bef (masks all) j i = true ∨ (noSel all = true ∧ lateB all j = true ∧ ∀ oj, all[j]? = some oj → awayB o sl oj = true)) ∧ (i < j → bef (masks all) i j = true) := by
  unfold barrier at h
  have hb : Nat.beq i j = false := by
    cases hb : Nat.beq i j with
    | false => rfl
    | true => exact absurd (Nat.eq_of_beq_eq_true hb) hne
  rw [Bool.or_eq_true, Bool.and_eq_true] at h
  have h1 : j < i → Nat.blt j i = true := fun hlt => by rw [Nat.blt_eq]; exact hlt
  have h2 : i < j → Nat.blt j i = false := fun hlt => by
    cases hq : Nat.blt j i with
    | false => rfl
    | true => rw [Nat.blt_eq] at hq; omega
  rcases h with h | ⟨hn, h⟩
  · have := List.all_eq_true.1 h j (by simpa using hj)
    rw [hb] at this
    simp only at this
    refine ⟨fun hlt => ?_, fun hlt => ?_⟩
    · rw [h1 hlt] at this; exact .inl this
    · rw [h2 hlt] at this; exact this
  · have := List.all_eq_true.1 h j (by simpa using hj)
    rw [hb] at this
    simp only at this
    refine ⟨fun hlt => ?_, fun hlt => ?_⟩
    · rw [h1 hlt] at this
      simp only [Bool.or_eq_true, Bool.and_eq_true] at this
      rcases this with h | ⟨h3, h4⟩
      · exact .inl h
      · exact .inr ⟨hn, h3, fun oj hoj => by rw [hoj] at h4; exact h4⟩
    · rw [h2 hlt] at this; exact this

theorem Late.done {listed D : Nat → Prop} {b : Nat} {a : Act} {T : Array Value} {w : World} (L : Late P all listed D b a T w) (h : ∀ d, ¬ D d) : ({ a with tmps := T } : Act) = a := by
  have : T = a.tmps := by
    apply Array.ext L.size
    intro i h1 h2
    have := L.same i fun d o hD => absurd hD (h d)
    simp only [Array.getD_eq_getD_getElem?, Array.getElem?_eq_getElem h1, Array.getElem?_eq_getElem h2, Option.getD_some] at this
    exact this.symm
  rw [this]

theorem PInv.putOff {listed : Nat → Prop} {p m : Nat} (hc : ∀ j, p ≤ j → j < m → CalmStep P all σ j) (hd : drawOk all = true) (hmn : m ≤ all.size) {a : Act} {w : World} (hbl : ∀ i j, listed j → bef (masks all) i j = true → listed i) (_ : ∀ j, listed j → j < all.size)
    (hlate : ∀ j, j < m → ¬ listed j → noSel all = true ∧ lateB all j = true) :
    ∀ (n q : Nat), m - q = n → p ≤ q → q ≤ m → ∀ (D : Nat → Prop) (T : Array Value) (ι : Nat → Pl), Late P all listed D m a T w → (∀ d, D d → d < q) → (∀ j, j < q → listed j ∨ D j) →
      PInv g all σ p m (fun j => listed j ∨ D j) ι { a with tmps := T } w →
      ∃ D' T' ι', Late P all listed D' m a T' w ∧ (∀ j, j < m → listed j ∨ D' j) ∧ PInv g all σ p m (fun j => listed j ∨ D' j) ι' { a with tmps := T' } w := by
  intro n
  induction n with
  | zero =>
    intro q hq hp hm D T ι L hlow hall h
    obtain rfl : q = m := by omega
    exact ⟨D, T, ι, L, hall, h⟩
  | succ n ih =>
    intro q hq hp hm D T ι L hlow hall h
    have hqm : q < m := by omega
    by_cases hlq : listed q
    · exact ih (q + 1) (by omega) (by omega) (by omega) D T ι L (fun d hD => by have := hlow d hD; omega) (fun j hj => by
        rcases Nat.lt_succ_iff_lt_or_eq.1 hj with h1 | rfl
        · exact hall j h1
        · exact .inl hlq) h
    · obtain ⟨hsel, hlt⟩ := hlate q hqm hlq
      have hS : ¬ (listed q ∨ D q) := fun hh => hh.elim hlq fun hD => by have := hlow q hD; omega
      obtain ⟨o, ho, hrd, hcase⟩ := pinv_step2 hc hd h hp hqm hS (fun j hb => hall j (bef_lt hd q j (by omega) hb)) (fun j hj hb => by
        rcases hj with hj | hj
        · exact hlq (hbl q j hj hb)
        · have h1 := hlow j hj
          have h2 := bef_lt hd j q (by omega) hb
          omega)
      have hlo := (lateB_get hlt ho).1
      rcases hcase with ⟨_, hpf, hwp⟩ | ⟨hun, _⟩
      · have hcl := cells_of hpf (ops_of_reads hrd) (h.heaps q hp (by omega))
        obtain ⟨v, hrun, ⟨ι', h'⟩, _⟩ := late_run hlo hcl (hwp _)
        have hv : Evid P o ({ a with tmps := T } : Act) v w := ⟨hrun, hcl⟩
        have L' := L.ghost ho hlq hlow hqm hsel hlt hv
        refine ih (q + 1) (by omega) (by omega) (by omega) (fun d => D d ∨ d = q) _ ι' L' (fun d hD => by
          rcases hD with hD | rfl
          · have := hlow d hD; omega
          · omega) (fun j hj => by
          rcases Nat.lt_succ_iff_lt_or_eq.1 hj with h1 | rfl
          · exact (hall j h1).imp id .inl
          · exact .inr (.inr rfl)) ?_
        have e : ({ a with tmps := (({ a with tmps := T } : Act).put o.dst v).tmps } : Act) = ({ a with tmps := T } : Act).put o.dst v := by cases o.dst <;> rfl
        rw [e]
        exact h'.congr fun j => by
          constructor
          · rintro ((h | h) | h)
            · exact .inl h
            · exact .inr (.inl h)
            · exact .inr (.inr h)
          · rintro (h | h | h)
            · exact .inl (.inl h)
            · exact .inl (.inr h)
            · exact .inr h
      · exfalso
        unfold lateOp at hlo
        rw [Bool.and_eq_true] at hlo
        obtain ⟨j, want, d, hg, _⟩ := hun
        rw [hg] at hlo
        cases hlo.2

theorem draw_any {Q : Exit → Act → World → Prop} {n0 : Nat} (hd : drawOk all = true) (hn0 : g.h0.length = n0) (hsteps : ∀ j, j < all.size → CalmStep P all σ j ∨ EffStep P n0 all true σ j) (hQ : ∀ ι a w, Rel g ι (σ all.size) a w → Q .normal a w) :
    ∀ (fuel : Nat) (listed : Array Bool) (a : Act) (w : World) (p m : Nat) (ι : Nat → Pl) (D : Nat → Prop) (T : Array Value), listed.size = all.size → listed.toList.countP (fun b => !b) ≤ fuel →
      (∀ j o, listed.getD j false = true → all[j]? = some o → ∀ e ∈ o.after, bindsB e = true → listed.getD e.on false = true) →
      p ≤ m → m ≤ all.size → (∀ j, p ≤ j → j < m → CalmStep P all σ j) → (m = all.size ∨ (m < all.size ∧ EffStep P n0 all true σ m)) → (∀ j, j < p → listed.getD j false = true ∨ D j) → (∀ j, listed.getD j false = true → j < m) →
      Late P all (fun j => listed.getD j false = true) D p a T w →
      PInv g all σ p m (fun j => listed.getD j false = true ∨ D j) ι { a with tmps := T } w → wpAny P .any all Q fuel listed a w := by
  intro fuel
  induction fuel with
  | zero =>
    intro listed a w p m ι D T hsize hcnt hclosed hpm hmn hc hm hlow hhigh L h
    have hall : ∀ j, j < all.size → listed.getD j false = true := by
      intro j hj
      have h0 : listed.toList.countP (fun b => !b) = 0 := by omega
      rw [List.countP_eq_zero] at h0
      have hjl : j < listed.size := by omega
      have := h0 listed[j] (by simp [Array.getElem_mem])
      simpa [hjl] using this
    have hmm : m = all.size := by
      rcases hm with hm | ⟨hm, _⟩
      · exact hm
      · have := hhigh m (hall m hm); omega
    have hD : ∀ d, ¬ D d := fun d hD => L.nol d hD (hall d (by have := L.low d hD; omega))
    refine ⟨?_, ?_⟩
    · rw [List.eq_nil_iff_forall_not_mem]
      intro j hj
      obtain ⟨h1, o, h2, _⟩ := mem_ready.1 hj
      have hjs : j < all.size := (Array.getElem?_eq_some_iff.1 h2).1
      have h3 := hall j hjs
      have hjl : j < listed.size := by omega
      simp [hjl] at h1 h3
      rw [h1] at h3; cases h3
    · subst hmm
      rw [L.done hD] at h
      exact hQ ι a w (h.full hc hpm fun j _ hj => .inl (hall j hj))
  | succ fuel ih =>
    intro listed a w p m ι D T hsize hcnt hclosed hpm hmn hc hm hlow hhigh L h
    have hls : ∀ j, listed.getD j false = true → j < all.size := by
      intro j hl
      rcases Nat.lt_or_ge j all.size with h' | h'
      · exact h'
      · simp [Array.getElem?_eq_none (show listed.size ≤ j by omega)] at hl
    have hbefl : ∀ (j : Nat), ∀ i, listed.getD j false = true → bef (masks all) i j = true → listed.getD i false = true := by
      intro j
      induction j using Nat.strongRecOn with
      | _ j ihj =>
        intro i hl hb
        have hjs := hls j hl
        obtain ⟨e, he, hbe, hcase⟩ := bef_edge (Array.getElem?_eq_getElem hjs) hb
        have hle := hclosed j _ hl (Array.getElem?_eq_getElem hjs) e he hbe
        rcases hcase with rfl | ⟨hlt, hb'⟩
        · exact hle
        · exact ihj e.on hlt i hle hb'
    have hready : ∀ k, k ∈ Region.ready .any all listed → ∃ o, all[k]? = some o ∧ listed.getD k false ≠ true ∧ (∀ e ∈ o.after, bindsB e = true → listed.getD e.on false = true) ∧ ∀ j, bef (masks all) j k = true → listed.getD j false = true := by
      intro k hk
      obtain ⟨h1, o, h2, h3⟩ := mem_ready.1 hk
      have hks : k < all.size := (Array.getElem?_eq_some_iff.1 h2).1
      have hkl : k < listed.size := by omega
      have hall' : ∀ e ∈ o.after, bindsB e = true → listed.getD e.on false = true := fun e he hb => h3 e he (by rw [← bindsB_eq]; exact hb)
      refine ⟨o, h2, ?_, hall', fun j hb => ?_⟩
      · simp [hkl] at h1 ⊢; exact h1
      · obtain ⟨e, he, hbe, hcase⟩ := bef_edge h2 hb
        have hle := hall' e he hbe
        rcases hcase with rfl | ⟨_, hb'⟩
        · exact hle
        · exact hbefl e.on j hle hb'
    refine ⟨fun hnil => ?_, fun k hk => ?_⟩
    · have hall : ∀ j, j < all.size → listed.getD j false = true := by
        intro j
        induction j using Nat.strongRecOn with
        | _ j ihj =>
          intro hj
          cases hl : listed.getD j false with
          | true => rfl
          | false =>
            exfalso
            have hjl : j < listed.size := by omega
            have : j ∈ Region.ready .any all listed := mem_ready.2 ⟨by simpa [hjl] using hl, _, Array.getElem?_eq_getElem hj, fun e he hbe => by
              have := (drawOk_get hd (Array.getElem?_eq_getElem hj)).1 e he hbe
              exact ihj e.on this (by omega)⟩
            rw [hnil] at this; cases this
      have hmm : m = all.size := by
        rcases hm with hm | ⟨hm, _⟩
        · exact hm
        · have := hhigh m (hall m hm); omega
      have hD : ∀ d, ¬ D d := fun d hD => L.nol d hD (hall d (by have := L.low d hD; omega))
      subst hmm
      rw [L.done hD] at h
      exact hQ ι a w (h.full hc hpm fun j _ hj => .inl (hall j hj))
    · obtain ⟨o, ho, hnl, hall', hbk⟩ := hready k hk
      have hks : k < all.size := (Array.getElem?_eq_some_iff.1 ho).1
      have hkl : k < listed.size := by omega
      have hset : ∀ j, (listed.setIfInBounds k true).getD j false = true ↔ (listed.getD j false = true ∨ j = k) := by
        intro j
        by_cases hjk : k = j
        · subst hjk
          simp [hkl]
        · rw [getD_set_ne false hjk]
          exact ⟨fun h => .inl h, fun h => h.elim id fun h => absurd h.symm hjk⟩
      have hsize' : (listed.setIfInBounds k true).size = all.size := by simpa using hsize
      have hcnt' : (listed.setIfInBounds k true).toList.countP (fun b => !b) ≤ fuel := by
        rw [Array.toList_setIfInBounds, List.countP_set (by simpa using hkl)]
        have hlk : listed[k] = false := by simpa [hkl] using hnl
        have hpos : 0 < listed.toList.countP (fun b => !b) := by
          rw [List.countP_pos_iff]
          exact ⟨listed[k], by simp [Array.getElem_mem], by simp [hlk]⟩
        simp [hlk]
        simp at hcnt
        omega
      have hclosed' : ∀ j oj, (listed.setIfInBounds k true).getD j false = true → all[j]? = some oj → ∀ e ∈ oj.after, bindsB e = true → (listed.setIfInBounds k true).getD e.on false = true := by
        intro j oj hj hoj e he hbe
        rw [hset] at hj ⊢
        left
        rcases hj with hj | rfl
        · exact hclosed j oj hj hoj e he hbe
        · rw [ho] at hoj; cases hoj
          exact hall' e he hbe
      by_cases hkD : D k
      · obtain ⟨hlt, v, hv, hvt⟩ := L.late k o hkD ho
        obtain ⟨hlo, hq⟩ := lateB_get hlt ho
        have hagree : ∀ t ∈ reads all o, a.tmps.getD t undef = T.getD t undef := fun t ht => L.same t fun d od hD hod hdst => by
          rcases Nat.lt_trichotomy d k with h1 | rfl | h1
          · exact (L.apart hd ho hod h1 (fun hb => L.nol d hD (hbk d hb))).2.1 t hdst ht
          · rw [ho] at hod; cases hod
            exact (hq d o ho).2 (Nat.le_refl _) t hdst ht
          · exact ((lateB_get (L.late d od hD hod).1 hod).2 k o ho).2 (by omega) t hdst ht
        have hrun : (execOp a.eval o).run P w = .ok (.value v) w := by
          rw [execOp_congr o (noSel_get (L.sel k hkD) ho) (eval_same hagree)]; exact hv.run
        have hg : o.guard = none := by
          unfold lateOp at hlo
          rw [Bool.and_eq_true] at hlo
          simpa using hlo.2
        unfold wpOp
        rw [ho]
        simp only
        rw [if_pos (by unfold Region.wanted; rw [hg])]
        left
        unfold Oper.wp
        rw [hrun]
        change wpAny P .any all Q fuel (listed.setIfInBounds k true) (a.put o.dst v) w
        refine ih _ (a.put o.dst v) w p m ι (fun d => D d ∧ d ≠ k) T hsize' hcnt' hclosed' hpm hmn hc hm (fun j hj => ?_) (fun j hj => ?_) (L.run ho hkD (fun j => hset j) hvt) ?_
        · rcases hlow j hj with h1 | h1
          · exact .inl ((hset j).2 (.inl h1))
          · by_cases hjk : j = k
            · exact .inl ((hset j).2 (.inr hjk))
            · exact .inr ⟨h1, hjk⟩
        · rcases (hset j).1 hj with h1 | rfl
          · exact hhigh j h1
          · have := L.low j hkD; omega
        · rw [put_real]
          exact h.congr fun j => by
            rw [hset]
            constructor
            · rintro (h1 | h1)
              · exact .inl (.inl h1)
              · by_cases hjk : j = k
                · exact .inl (.inr hjk)
                · exact .inr ⟨h1, hjk⟩
            · rintro ((h1 | rfl) | h1)
              · exact .inl h1
              · exact .inr hkD
              · exact .inr h1.1
      have hpk : p ≤ k := by
        rcases Nat.lt_or_ge k p with h' | h'
        · exact absurd (hlow k h') (fun hh => hh.elim hnl hkD)
        · exact h'
      have hS : ¬ (listed.getD k false = true ∨ D k) := fun hh => hh.elim hnl hkD
      have hDk : ∀ d, D d → d < k ∧ bef (masks all) d k ≠ true := fun d hD => ⟨by have := L.low d hD; omega, fun hb => L.nol d hD (hbk d hb)⟩
      rcases Nat.lt_or_ge k m with hkm | hkm
      · obtain ⟨o', ho', hreads, hcase⟩ := pinv_step2 hc hd h hpk hkm hS (fun j hb => .inl (hbk j hb)) (fun j hj hb => by
          rcases hj with hj | hj
          · exact hnl (hbefl j k hj hb)
          · have h1 := (hDk j hj).1
            have h2 := bef_lt hd j k (by omega) hb
            omega)
        rw [ho] at ho'; cases ho'
        have hsee := L.sees hd ho hDk
        have next : ∀ v w', ((∃ ι', PInv g all σ p m (fun j => (listed.getD j false = true ∨ D j) ∨ j = k) ι' (({ a with tmps := T } : Act).put o.dst v) w') ∧ ∀ b, b < w.heap.size → w'.heap[b]? = w.heap[b]?) → wpAny P .any all Q fuel (listed.setIfInBounds k true) (a.put o.dst v) w' := by
          rintro v w' ⟨⟨ι', h'⟩, hwb⟩
          refine ih _ _ w' p m ι' D _ hsize' hcnt' hclosed' hpm hmn hc hm (fun j hj => (hlow j hj).imp (fun h => (hset j).2 (.inl h)) id) (fun j hj => ?_) (L.put hd ho hkD hDk (fun j => hset j) v (fun d od t x ad _ _ _ _ hlt => .inl (hwb _ hlt))) ?_
          · rcases (hset j).1 hj with h1 | rfl
            · exact hhigh j h1
            · exact hkm
          · rw [put_ghost]
            exact h'.congr fun j => by
              rw [hset]
              constructor
              · rintro ((h1 | h1) | h1)
                · exact .inl (.inl h1)
                · exact .inr h1
                · exact .inl (.inr h1)
              · rintro ((h1 | h1) | h1)
                · exact .inl (.inl h1)
                · exact .inr h1
                · exact .inl (.inr h1)
        unfold wpOp
        rw [ho]
        simp only
        rcases hcase with ⟨hwant, _, hwp⟩ | ⟨hun, hp⟩
        · rw [if_pos (wanted_of hwant (fun d hdr => by rw [hsee d hdr]; exact hreads d hdr))]
          left
          by_cases hne : ∃ d, D d
          · obtain ⟨d, hD⟩ := hne
            exact wp_transfer (noSel_get (L.sel d hD) ho) (eval_same hsee) next (fun a' w' ⟨⟨_, h'⟩, _⟩ => h'.defers) hwp
          · have hD : ∀ d, ¬ D d := fun d hD => hne ⟨d, hD⟩
            rw [L.done hD] at hwp
            refine Oper.wp_mono (fun a' w' ⟨⟨ι', h'⟩, _⟩ => ?_) (hwp Q)
            refine ih _ a' w' p m ι' D a'.tmps hsize' hcnt' hclosed' hpm hmn hc hm (fun j hj => (hlow j hj).imp (fun h => (hset j).2 (.inl h)) id) (fun j hj => ?_) ⟨rfl, fun d h => absurd h (hD d), fun d h => absurd h (hD d), fun d h => absurd h (hD d), fun d _ h => absurd h (hD d), fun _ _ => rfl⟩ ?_
            · rcases (hset j).1 hj with h1 | rfl
              · exact hhigh j h1
              · exact hkm
            · exact h'.congr fun j => by
                rw [hset]
                constructor
                · rintro ((h1 | h1) | h1)
                  · exact .inl (.inl h1)
                  · exact .inr h1
                  · exact .inl (.inr h1)
                · rintro ((h1 | h1) | h1)
                  · exact .inl (.inl h1)
                  · exact .inr h1
                  · exact .inl (.inr h1)
        · rw [if_neg (by rw [unwanted_of hun (fun d hdr => by rw [hsee d hdr]; exact hreads d hdr)]; simp)]
          exact next _ _ ⟨hp, fun _ _ => rfl⟩
      · rcases hm with hm | ⟨hm, heff⟩
        · omega
        · obtain ⟨oe, hoe, hwant, hop, hbar, _, hone⟩ := heff
          have hbar := hbar rfl
          have hkmeq : k = m := by
            rcases Nat.eq_or_lt_of_le hkm with h' | h'
            · exact h'.symm
            · have := hhigh m (hbk m ((barrier_get hbar hks (by omega)).2 h')); omega
          subst hkmeq
          rw [ho] at hoe; cases hoe
          have L1 : Late P all (fun j => listed.getD j false = true) D k a T w := ⟨L.size, L.nol, fun d hD => (hDk d hD).1, L.sel, L.late, L.same⟩
          obtain ⟨D', T', ι1, L', hall1, h1⟩ := PInv.putOff hc hd hmn (fun i j hj hb => hbefl j i hj hb) hls (fun j hj hnj => by
            rcases (barrier_get hbar (by omega) (show k ≠ j by omega)).1 hj with hb | hb
            · exact absurd (hbk j hb) hnj
            · exact ⟨hb.1, hb.2.1⟩) _ p rfl (Nat.le_refl _) hpm D T ι L1 (fun d hD => L.low d hD) hlow h
          have hrel := h1.full hc hpm fun j _ hj => hall1 j hj
          have hDk' : ∀ d, D' d → d < k ∧ bef (masks all) d k ≠ true := fun d hD => ⟨L'.low d hD, fun hb => L'.nol d hD (hbk d hb)⟩
          have hkD' : ¬ D' k := fun hD => by have := L'.low k hD; omega
          have hsee := L'.sees hd ho hDk'
          have hreads : ∀ d ∈ reads all o, VR ι1 (shp (σ k).hp) ((σ k).sl.getD d (.at .void)) (a.tmps.getD d undef) := fun d hdr => by
            rw [hsee d hdr]; exact slots_get hrel.slots d
          have cont : ∀ (a' : Act) (w' : World) (D2 : Nat → Prop) (T2 : Array Value), Late P all (fun j => (listed.setIfInBounds k true).getD j false = true) D2 (k + 1) a' T2 w' →
              (∀ j, j < k + 1 → (listed.setIfInBounds k true).getD j false = true ∨ D2 j) → (∃ ι', Rel g ι' (σ (k + 1)) { a' with tmps := T2 } w') → wpAny P .any all Q fuel (listed.setIfInBounds k true) a' w' := by
            rintro a' w' D2 T2 L2 hl2 ⟨ι', h'⟩
            obtain ⟨m', g1, g2, g3, g4⟩ := next_eff (CalmStep P all σ) (EffStep P n0 all true σ) all.size hsteps _ (k + 1) rfl (by omega)
            have hh2 : ∀ j, (listed.setIfInBounds k true).getD j false = true → j < k + 1 := fun j hj => by
              rcases (hset j).1 hj with h | h
              · have := hhigh j h; omega
              · omega
            obtain ⟨ι'', h''⟩ := PInv.start (S := fun j => (listed.setIfInBounds k true).getD j false = true ∨ D2 j) g3 g1 h' (fun j hj hh => by
              rcases hh with h | h
              · have := hh2 j h; omega
              · have := L2.low j h; omega)
            exact ih _ a' w' (k + 1) m' ι'' D2 T2 hsize' hcnt' hclosed' g1 g2 g3 g4 hl2 (fun j hj => by have := hh2 j hj; omega) L2 h''
          have hl2 : ∀ j, j < k + 1 → (listed.setIfInBounds k true).getD j false = true ∨ D' j := fun j hj => by
            rcases Nat.lt_succ_iff_lt_or_eq.1 hj with h2 | rfl
            · exact (hall1 j h2).imp (fun h => (hset j).2 (.inl h)) id
            · exact .inl ((hset j).2 (.inr rfl))
          have step : ∀ Q2, o.wp P { a with tmps := T' } w (fun a' w' => (∃ ι', Rel g ι' (σ (k + 1)) a' w') ∧ ∀ t, tidOf o (σ k).sl = some t → FrX o (σ k).sl (σ k).hp ι1 t w w') Q2 := fun Q2 => hop g ι1 _ w hn0 hrel _ Q2 fun ι' a' w' h' hf => ⟨⟨ι', h'⟩, hf⟩
          have hfar : ∀ w', (∀ t, tidOf o (σ k).sl = some t → FrX o (σ k).sl (σ k).hp ι1 t w w') → ∀ d od t x ad, D' d → all[d]? = some od → od.op = .load t x → ({ a with tmps := T' } : Act).eval x = .pointer (some ad) → ad.block < w.heap.size → Kept1 P t ad w w' := by
            intro w' hf d od t x ad hD hod ho1 he1 _
            have hdl := L'.low d hD
            rcases (barrier_get hbar (show d < all.size by omega) (show k ≠ d by omega)).1 hdl with hb | ⟨_, _, haw⟩
            · exact absurd hb (hDk' d hD).2
            · have haw := haw od hod
              unfold awayB at haw
              rw [ho1] at haw
              simp only at haw
              split at haw
              · rename_i tt id el off ht hx
                have hv := evA_VR hrel.slots x
                rw [hx] at hv
                obtain ⟨b, base, room, h1, h2, h3⟩ := hv
                rw [he1] at h2
                cases h2
                rw [Bool.or_eq_true] at haw
                rcases haw with haw | haw
                rotate_left
                · -- another cell of the element that is stored to
                  unfold beside at haw
                  split at haw
                  · rename_i t' sx sy hso
                    split at haw
                    · rename_i id' el' off' v' hsx hsy
                      simp only [Bool.and_eq_true, Bool.not_eq_true'] at haw
                      obtain ⟨⟨⟨q1, q2⟩, q3⟩, q4⟩ := haw
                      obtain rfl := Nat.eq_of_beq_eq_true q1
                      obtain rfl := Nat.eq_of_beq_eq_true q2
                      obtain rfl := Nat.eq_of_beq_eq_true q3
                      have q5 : off ≠ off' := fun e => by subst e; rw [Nat.beq_refl] at q4; cases q4
                      obtain ⟨inf, i1, i2⟩ := hone _ _ _ _ hso hsy
                      refine .inr ⟨⟨inf, i1, i2⟩, rfl, fun blk tt2 fz hb => ?_⟩
                      obtain ⟨blk', g1, g2⟩ := (hf tt ht).2 _ _ _ _ _ _ _ hso hsx hsy _ _ _ h1 blk tt2 fz hb
                      exact ⟨blk', g1, g2 _ (by simp only; omega)⟩
                    · cases haw
                  · cases haw
                have hne : id ≠ tt := fun e => by subst e; simp at haw
                have hob : ∃ ob, (σ k).hp[id]? = some ob := by
                  cases hq : (σ k).hp[id]? with
                  | some ob => exact ⟨ob, rfl⟩
                  | none => unfold shp at h3; rw [hq] at h3; exact h3.elim
                obtain ⟨ob, hob⟩ := hob
                exact .inl ((hf tt ht).1 id ob b base room hob hne (live_of_in hob h3) h1)
              · cases haw
          unfold wpOp
          rw [ho]
          simp only
          rw [if_pos (wanted_of hwant hreads)]
          left
          by_cases hne : ∃ d, D' d
          · obtain ⟨d, hD⟩ := hne
            refine wp_transfer (noSel_get (L'.sel d hD) ho) (eval_same hsee) (fun v w' ⟨h', hf⟩ => ?_) (fun a' w' ⟨⟨_, h'⟩, _⟩ => h'.defers) step
            have L2 := L'.put hd ho hkD' hDk' (fun j => hset j) v (hfar w' hf)
            refine cont _ w' D' _ ⟨L2.size, L2.nol, fun d hD => by have := L2.low d hD; omega, L2.sel, L2.late, L2.same⟩ hl2 ?_
            rw [put_ghost]
            exact h'
          · have hD : ∀ d, ¬ D' d := fun d hD => hne ⟨d, hD⟩
            rw [L'.done hD] at step
            refine Oper.wp_mono (fun a' w' ⟨h', _⟩ => ?_) (step Q)
            exact cont a' w' D' a'.tmps ⟨rfl, fun d h => absurd h (hD d), fun d h => absurd h (hD d), fun d h => absurd h (hD d), fun d _ h => absurd h (hD d), fun _ _ => rfl⟩ hl2 h'

theorem region_draw {Q : Exit → Act → World → Prop} {n0 id : Nat} {ι : Nat → Pl} {a : Act} {w : World} (hmix : P.follows .mixedOrders = true) (hd : drawOk all = true) (hn0 : g.h0.length = n0) (hsteps : ∀ j, j < all.size → CalmStep P all σ j ∨ EffStep P n0 all true σ j)
    (hQ : ∀ ι a w, Rel g ι (σ all.size) a w → Q .normal a w) (h : Rel g ι (σ 0) a w) : (Code.region id all true).wp P Q a w := by
  refine wp_region_any hmix ?_
  obtain ⟨m', g1, g2, g3, g4⟩ := next_eff (CalmStep P all σ) (EffStep P n0 all true σ) all.size hsteps _ 0 rfl (by omega)
  have hnone : ∀ j, (Array.replicate all.size false).getD j false ≠ true := by
    intro j
    rcases Nat.lt_or_ge j all.size with h' | h'
    · simp [h']
    · simp [Array.getElem?_eq_none (show (Array.replicate all.size false).size ≤ j by simpa using h')]
  obtain ⟨ι'', h''⟩ := PInv.start (S := fun j => (Array.replicate all.size false).getD j false = true ∨ False) g3 g1 (h.draw _) (fun j _ hh => hh.elim (hnone j) (fun h => h))
  exact draw_any hd hn0 hsteps hQ all.size _ a _ 0 m' ι'' (fun _ => False) a.tmps (by simp) (by simpa using List.countP_le_length (p := fun b => !b) (l := List.replicate all.size false)) (fun j o hj => absurd hj (hnone j)) g1 g2 g3 g4 (fun j hj => by omega) (fun j hj => absurd hj (hnone j))
    ⟨rfl, fun _ h => h.elim, fun _ h => h.elim, fun _ h => h.elim, fun _ _ h => h.elim, fun _ _ => rfl⟩ h''
end Go.Fx

