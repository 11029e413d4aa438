/- Code, with summaries of its blocks. -/
import Derived.Test.YtpncophaaedjpaaXCode
import Derived.LoopN
namespace Go.Fx
variable {P : Program} {cx : Cx} {α : Type} {r : α}

/-! ### which objects are meant -/
theorem addIds_spec : ∀ (l acc : List Nat), (∃ ext, addIds acc l = acc ++ ext) ∧ (acc.Nodup → (addIds acc l).Nodup)
  | [], acc => ⟨⟨[], by simp [addIds]⟩, fun h => h⟩
  | i :: t, acc => by
    simp only [addIds]
    cases h : hasId i acc with
    | true => exact addIds_spec t acc
    | false =>
      obtain ⟨⟨ext, h1⟩, h2⟩ := addIds_spec t (acc ++ [i])
      refine ⟨⟨i :: ext, by simp only; rw [h1]; simp⟩, fun hn => h2 ?_⟩
      have hni : i ∉ acc := fun hm => by rw [(hasId_iff i acc).2 hm] at h; cases h
      rw [List.nodup_append]
      refine ⟨hn, by simp, fun a ha b hb => ?_⟩
      simp at hb
      subst hb
      rintro rfl
      exact hni ha

theorem reach_spec (hp : List Ob) : ∀ (n : Nat) (acc : List Nat), (∃ ext, reach n acc hp = acc ++ ext) ∧ (acc.Nodup → (reach n acc hp).Nodup)
  | 0, acc => ⟨⟨[], by simp [reach]⟩, fun h => h⟩
  | n + 1, acc => by
    simp only [reach]
    obtain ⟨⟨e1, h1⟩, h2⟩ := addIds_spec (acc.flatMap (obIds hp)) acc
    obtain ⟨⟨e2, h3⟩, h4⟩ := reach_spec hp n (addIds acc (acc.flatMap (obIds hp)))
    exact ⟨⟨e1 ++ e2, by rw [h3, h1]; simp⟩, fun hn => h4 (h2 hn)⟩

theorem ids_spec (n0 n : Nat) (l : List Nat) (hp : List Ob) : (∀ j, j < n0 → (reach n (addIds (List.range n0) l) hp)[j]? = some j) ∧ (reach n (addIds (List.range n0) l) hp).Nodup := by
  obtain ⟨⟨e1, h1⟩, h2⟩ := addIds_spec l (List.range n0)
  obtain ⟨⟨e2, h3⟩, h4⟩ := reach_spec hp n (addIds (List.range n0) l)
  refine ⟨fun j hj => ?_, h4 (h2 List.nodup_range)⟩
  rw [h3, h1, List.append_assoc, List.getElem?_append_left (by simpa using hj)]
  simp [hj]

theorem nodup_get {l : List Nat} (h : l.Nodup) {i j a : Nat} (hi : l[i]? = some a) (hj : l[j]? = some a) : i = j := by
  obtain ⟨h1, h2⟩ := List.getElem?_eq_some_iff.1 hi
  obtain ⟨h3, h4⟩ := List.getElem?_eq_some_iff.1 hj
  rcases Nat.lt_trichotomy i j with hlt | he | hgt
  · exact absurd (h2.trans h4.symm) (List.pairwise_iff_getElem.1 h i j h1 h3 hlt)
  · exact he
  · exact absurd (h4.trans h2.symm) (List.pairwise_iff_getElem.1 h j i h3 h1 hgt)

/-- The objects that are meant, under numbers of their own. -/
theorem RelH.pick {g : Beg} {ι : Nat → Pl} {hp : List Ob} {w : World} {ids : List Nat} (h : RelH g ι hp w) (h1 : ∀ j, j < g.h0.length → ids[j]? = some j) (h2 : ids.Nodup) :
    RelH g (fun j => match ids[j]? with | some i => ι i | none => .off) (Go.Fx.pick hp (fun i => idx i ids) false ids) w := by
  obtain ⟨hh, hcor⟩ := pick_HR (ro := false) h.heap (fun i => idx i ids) (fun i j hij => idx_get hij)
  have hget : ∀ (j : Nat) (oj : Ob), (Go.Fx.pick hp (fun i => idx i ids) false ids)[j]? = some oj → oj.live → ∃ i oi, ids[j]? = some i ∧ hp[i]? = some oi ∧ oj.own = oi.own ∧ shpOb oj = shpOb oi := by
    intro j oj hj hl
    rw [pick_eq, List.getElem?_map] at hj
    cases hi : ids[j]? with
    | none => simp [hi] at hj
    | some i =>
      simp [hi] at hj
      subst hj
      unfold pickOb at hl ⊢
      cases ho : hp[i]? with
      | none => rw [ho] at hl; exact absurd rfl hl
      | some oi => exact ⟨i, oi, rfl, ho, own_ren _ oi, shpOb_ren _ oi⟩
  refine ⟨trivial, rfl, hh, ?_, fun id hid => ?_, fun id ob ho => ?_, h.os, h.tape, h.output, h.size, h.block, ?_⟩
  · intro i j oi oj b base room b' base' room' hi hj hij hown hli hlj hon hon'
    obtain ⟨a, oa, a1, a2, a3, a4⟩ := hget i oi hi hli
    obtain ⟨c, oc, c1, c2, c3, c4⟩ := hget j oj hj hlj
    simp only [a1] at hon
    simp only [c1] at hon'
    exact h.inj a c oa oc b base room b' base' room' a2 c2 (fun e => hij (nodup_get h2 a1 (e ▸ c1))) (by rw [← a3]; exact hown) (by unfold Ob.live; rw [← a4]; exact hli) (by unfold Ob.live; rw [← c4]; exact hlj) hon hon'
  · simp only [h1 id hid]; exact h.keep id hid
  · have hlt : id < g.h0.length := (List.getElem?_eq_some_iff.1 ho).1
    obtain ⟨ob', g1, g2, g3⟩ := h.flag id ob ho
    refine ⟨ob'.ren (fun i => idx i ids), ?_, by rw [own_ren]; exact g2, by rw [shpOb_ren]; exact g3⟩
    simp only
    simp only at g1
    rw [pick_eq, List.getElem?_map, h1 id hlt]
    simp [pickOb, g1]
  · intro id ob b base room hid ho hl hon
    obtain ⟨a, oa, a1, a2, a3, a4⟩ := hget id ob ho hl
    simp only [a1] at hon
    refine h.fresh a oa b base room ?_ a2 (by unfold Ob.live; rw [← a4]; exact hl) hon
    rcases Nat.lt_or_ge a g.h0.length with hlt | hge
    · have := nodup_get h2 (h1 a hlt) a1
      omega
    · exact hge

theorem setAll_F2 {ι : Nat → Pl} {S : Nat → Shp} : ∀ (live : List Nat) (vals sl : List V) (cs : List Value), F2 (VR ι S) sl cs → (∀ (j i : Nat) (v : V) (c : Value), live[j]? = some i → vals[j]? = some v → cs[i]? = some c → VR ι S v c) → F2 (VR ι S) (setAll sl live vals) cs
  | [], _, _, _, h, _ => by simpa [setAll] using h
  | _ :: _, [], _, _, h, _ => by simpa [setAll] using h
  | i :: is, v :: vs, sl, cs, h, hv => by
    simp only [setAll]
    refine setAll_F2 is vs _ cs ?_ fun j i' v' c h1 h2 h3 => hv (j + 1) i' v' c (by simpa using h1) (by simpa using h2) h3
    cases hc : cs[i]? with
    | some c =>
      have := F2.set (i := i) (hv 0 i v c rfl rfl hc) h
      obtain ⟨h1, h2⟩ := List.getElem?_eq_some_iff.1 hc
      rwa [show cs.set i c = cs by rw [← h2]; exact List.set_getElem_self h1] at this
    | none =>
      rw [List.set_eq_of_length_le (by have := h.length; rw [List.getElem?_eq_none_iff] at hc; omega)]
      exact h

theorem setAll_length : ∀ (live : List Nat) (vals sl : List V), (setAll sl live vals).length = sl.length
  | [], _, _ => by simp [setAll]
  | _ :: _, [], _ => by simp [setAll]
  | i :: is, v :: vs, sl => by simp only [setAll]; rw [setAll_length is vs]; simp

theorem F2.undefs {ι : Nat → Pl} {S : Nat → Shp} : ∀ (cs : List Value), F2 (VR ι S) (List.replicate cs.length (.at .undef)) cs
  | [] => trivial
  | _ :: cs => ⟨trivial, F2.undefs cs⟩

theorem canon_sound {g : Beg} {ι : Nat → Pl} {n0 : Nat} {st : St} {live : List Nat} {vals : List V} {hp : List Ob} {a : Act} {w : World} (hn0 : g.h0.length = n0) (hc : canon n0 (live.map fun i => st.sl.getD i (.at .void)) st.hp = (vals, hp)) (h : Rel g ι st a w) :
    ∃ ι', Rel g ι' ⟨framed st.sl.length live vals, hp⟩ a w := by
  unfold canon at hc
  simp only [Prod.mk.injEq] at hc
  obtain ⟨hvals, hhp⟩ := hc
  subst hvals; subst hhp
  have hids := ids_spec n0 3 ((live.map fun i => st.sl.getD i (.at .void)).flatMap V.ids) st.hp
  generalize reach 3 (addIds (List.range n0) ((live.map fun i => st.sl.getD i (.at .void)).flatMap V.ids)) st.hp = ids at hids ⊢
  have hH := h.toH.pick (ids := ids) (by rw [hn0]; exact hids.1) hids.2
  obtain ⟨_, hcor⟩ := pick_HR (ro := false) h.heap (fun i => idx i ids) (fun i j hij => idx_get hij)
  refine ⟨_, hH.rel ?_ h.defers⟩
  refine setAll_F2 live _ _ _ ?_ ?_
  · have hl := h.slots.length
    rw [hl]
    exact F2.undefs _
  · intro j i v c h1 h2 h3
    rw [List.getElem?_map, List.getElem?_map, h1] at h2
    simp only [Option.map_some, Option.some.injEq] at h2
    subst h2
    refine VR.ren hcor ?_
    have := slots_get h.slots i
    rw [Array.getD_eq_getD_getElem?, ← Array.getElem?_toList, h3] at this
    exact this

/-! ### all code -/
/-- The blocks of this number. -/
def blocks (id : Nat) : Code → List Code
  | .block i b => (match Nat.beq i id with | true => [b] | false => []) ++ blocks id b
  | .seq a b => blocks id a ++ blocks id b
  | .cond _ a b => blocks id a ++ blocks id b
  | .loop b => blocks id b
  | _ => []

/-- A summary tells what its block does. -/
def SmTo (P : Program) (n0 n : Nat) (s : Sm) (id : Nat) (body : Code) : Prop :=
  ∀ (vals : List V) (hp : List Ob) (e : Ex) (vals' : List V) (hp' : List Ob), s.fn vals hp = some (e, vals', hp') → CodeTo P n0 (.block id body) ⟨framed n s.live vals, hp⟩ e ⟨framed n s.live vals', hp'⟩

def SmsOK (P : Program) (cx : Cx) (n0 n : Nat) (c : Code) : Prop := ∀ (id : Nat) (s : Sm) (body : Code), cx.sm id = some s → body ∈ blocks id c → SmTo P n0 n s id body

theorem framed_length {n : Nat} {live : List Nat} {vals : List V} : (framed n live vals).length = n := by
  unfold framed
  rw [setAll_length]; simp

/-- The code does what the evaluator says. -/
theorem evC_sound {n0 n : Nat} (hC : CxOK P cx) (hE : ∀ f, cx.eff f = false) (hmix : P.follows .mixedOrders = true) : ∀ (c : Code) (st : St) (k : Ex → St → Option α), SmsOK P cx n0 n c → st.sl.length = n → evC cx n0 c st k = some r →
    ∃ e st', k e st' = some r ∧ st'.sl.length = n ∧ CodeTo P n0 c st e st' := by
  intro c
  induction c generalizing α with
  | skip => intro st k _ hl h; exact ⟨.normal, st, by simpa [evC] using h, hl, fun g ι a w _ hrel Q hQ => wp_skip (hQ ι a w hrel)⟩
  | region id ops draw =>
    intro st k _ hl h
    obtain ⟨st', h1, h2, h3⟩ := region_sound hC hE hmix h
    exact ⟨_, st', h1, h2.trans hl, h3⟩
  | seq a b iha ihb =>
    intro st k hs hl h
    unfold evC at h
    obtain ⟨e, st1, h1, h2, h3⟩ := iha st _ (fun id s body h1 h2 => hs id s body h1 (by simp [blocks, h2])) hl h
    cases e with
    | normal =>
      obtain ⟨e2, st2, g1, g2, g3⟩ := ihb st1 k (fun id s body h1 h2 => hs id s body h1 (by simp [blocks, h2])) h2 h1
      exact ⟨e2, st2, g1, g2, fun g ι ac w hn0 hrel Q hQ => wp_seq (h3 g ι ac w hn0 hrel _ fun ι' a' w' h' => g3 g ι' a' w' hn0 h' Q hQ)⟩
    | exit id => exact ⟨_, st1, h1, h2, fun g ι ac w hn0 hrel Q hQ => wp_seq (h3 g ι ac w hn0 hrel _ fun ι' a' w' h' => hQ ι' a' w' h')⟩
    | ret => exact ⟨_, st1, h1, h2, fun g ι ac w hn0 hrel Q hQ => wp_seq (h3 g ι ac w hn0 hrel _ fun ι' a' w' h' => hQ ι' a' w' h')⟩
  | cond c x y ihx ihy =>
    intro st k hs hl h
    unfold evC at h
    split at h
    · rename_i t hc
      cases t with
      | true =>
        obtain ⟨e, st1, h1, h2, h3⟩ := ihx st _ (fun id s body h1 h2 => hs id s body h1 (by simp [blocks, h2])) hl h
        refine ⟨e, st1, h1, h2, fun g ι ac w hn0 hrel Q hQ => wp_cond_true ?_ (h3 g ι ac w hn0 hrel Q hQ)⟩
        have := evA_VR hrel.slots c
        rw [hc] at this
        exact this
      | false =>
        obtain ⟨e, st1, h1, h2, h3⟩ := ihy st _ (fun id s body h1 h2 => hs id s body h1 (by simp [blocks, h2])) hl h
        refine ⟨e, st1, h1, h2, fun g ι ac w hn0 hrel Q hQ => wp_cond_false ?_ (h3 g ι ac w hn0 hrel Q hQ)⟩
        have := evA_VR hrel.slots c
        rw [hc] at this
        exact this
    · cases h
  | block id body ih =>
    intro st k hs hl h
    unfold evC at h
    split at h
    · rename_i s hsm
      split at h
      rename_i vals hp hcan
      split at h
      · rename_i e vals' hp' hfn
        have hto := hs id s body hsm (by simp [blocks, Nat.beq_refl]) vals hp e vals' hp' hfn
        refine ⟨e, _, h, by rw [framed_length]; exact hl, fun g ι a w hn0 hrel Q hQ => ?_⟩
        obtain ⟨ι', hrel'⟩ := canon_sound hn0 hcan hrel
        rw [hl] at hrel'
        refine hto g ι' a w hn0 hrel' Q fun ι2 a2 w2 h2 => hQ ι2 a2 w2 ?_
        rw [hl]; exact h2
      · cases h
    · obtain ⟨e, st1, h1, h2, h3⟩ := ih st _ (fun id s body h1 h2 => hs id s body h1 (by simp [blocks, h2])) hl h
      cases e with
      | normal => exact ⟨_, st1, h1, h2, fun g ι a w hn0 hrel Q hQ => wp_block (h3 g ι a w hn0 hrel _ fun ι' a' w' h' => hQ ι' a' w' h')⟩
      | ret => exact ⟨_, st1, h1, h2, fun g ι a w hn0 hrel Q hQ => wp_block (h3 g ι a w hn0 hrel _ fun ι' a' w' h' => hQ ι' a' w' h')⟩
      | exit id' =>
        simp only [inBlock] at h1
        cases hb : Nat.beq id' id with
        | true =>
          rw [hb] at h1
          have := Nat.eq_of_beq_eq_true hb
          subst this
          exact ⟨_, st1, h1, h2, fun g ι a w hn0 hrel Q hQ => wp_block (h3 g ι a w hn0 hrel _ fun ι' a' w' h' => by
            simp only [exOf, Exit.inBlock, if_true]
            exact hQ ι' a' w' h')⟩
        | false =>
          rw [hb] at h1
          have hne : id' ≠ id := fun e => by subst e; rw [Nat.beq_refl] at hb; cases hb
          exact ⟨_, st1, h1, h2, fun g ι a w hn0 hrel Q hQ => wp_block (h3 g ι a w hn0 hrel _ fun ι' a' w' h' => by
            simp only [exOf, Exit.inBlock, hne, if_false]
            exact hQ ι' a' w' h')⟩
  | loop body ih =>
    intro st k hs hl h
    unfold evC at h
    have hs' : SmsOK P cx n0 n body := fun id s b h1 h2 => hs id s b h1 (by simpa [blocks] using h2)
    have key : ∀ (un : Nat) (st : St), st.sl.length = n → evLoop (evC cx n0 body) un st k = some r →
        ∃ e st', k e st' = some r ∧ st'.sl.length = n ∧ ∀ (g : Beg) (ι : Nat → Pl) (a : Act) (w : World), g.h0.length = n0 → Rel g ι st a w → ∀ Q : Exit → Act → World → Prop, (∀ ι' a' w', Rel g ι' st' a' w' → Q (exOf e) a' w') → Code.rounds P body Q un a w := by
      intro un
      induction un with
      | zero => intro st hl h; simp [evLoop] at h
      | succ un ihu =>
        intro st hl h
        unfold evLoop at h
        obtain ⟨e, st1, h1, h2, h3⟩ := ih st _ hs' hl h
        cases e with
        | normal =>
          obtain ⟨e2, st2, g1, g2, g3⟩ := ihu st1 h2 h1
          exact ⟨e2, st2, g1, g2, fun g ι a w hn0 hrel Q hQ => by
            rw [rounds_succ]
            exact h3 g ι a w hn0 hrel _ fun ι' a' w' h' => g3 g ι' a' w' hn0 h' Q hQ⟩
        | exit id => exact ⟨_, st1, h1, h2, fun g ι a w hn0 hrel Q hQ => by rw [rounds_succ]; exact h3 g ι a w hn0 hrel _ fun ι' a' w' h' => hQ ι' a' w' h'⟩
        | ret => exact ⟨_, st1, h1, h2, fun g ι a w hn0 hrel Q hQ => by rw [rounds_succ]; exact h3 g ι a w hn0 hrel _ fun ι' a' w' h' => hQ ι' a' w' h'⟩
    obtain ⟨e, st', h1, h2, h3⟩ := key _ st hl h
    exact ⟨e, st', h1, h2, fun g ι a w hn0 hrel Q hQ => wp_loop_rounds _ (h3 g ι a w hn0 hrel Q hQ)⟩
  | exit id => intro st k _ hl h; exact ⟨.exit id, st, by simpa [evC] using h, hl, fun g ι a w _ hrel Q hQ => wp_exit (hQ ι a w hrel)⟩
  | ret => intro st k _ hl h; exact ⟨.ret, st, by simpa [evC] using h, hl, fun g ι a w _ hrel Q hQ => wp_ret (hQ ι a w hrel)⟩
  | _ => intro st k _ _ h; simp [evC] at h
end Go.Fx
