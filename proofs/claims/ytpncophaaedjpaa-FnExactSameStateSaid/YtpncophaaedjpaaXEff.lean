/- Stores and appends over a whole state. -/
import Derived.Test.YtpncophaaedjpaaXState
namespace Go.Fx
variable {P : Program} {ty : Nat → Option TI} {sl : List V} {hp : List Ob}

theorem shp_set {id : Nat} {ob ob' : Ob} (ho : hp[id]? = some ob) (hs : shpOb ob' = shpOb ob) : shp (hp.set id ob') = shp hp := by
  funext j
  unfold shp
  by_cases h : id = j
  · subst h
    have hlt := (List.getElem?_eq_some_iff.1 ho).1
    rw [List.getElem?_set_self hlt, ho]
    exact hs
  · rw [List.getElem?_set_ne h]

theorem storeCells_run {w : World} {b s : Nat} {blk : Array Value} {t : TypeId} {vs : List Value} (hb : w.heap[b]? = some (.cells blk t (0, 0))) (hl : s + vs.length ≤ blk.size) (h1 : ∀ v ∈ vs, v.oneCell' = true) :
    (storeCells ⟨b, s, none⟩ vs 0).run P w = .ok () (w.setRow b (laid blk s vs)) := by
  have := run_storeCells_at P b s t vs 0 blk w hb (by simpa using hl) h1
  simpa [laid] using this

theorem live_of_in {id e : Nat} {ob : Ob} (ho : hp[id]? = some ob) (h : inB (shp hp id) e) : ob.live := by
  rw [shp_of ho] at h
  intro hn; rw [hn] at h; exact h

/-- A block that may be written is one of the call's own. -/
theorem Rel.apart {g : Beg} {ι : Nat → Pl} {st : St} {a : Act} {w : World} (h : Rel g ι st a w) {id : Nat} {ob : Ob} (ho : st.hp[id]? = some ob) (hown : ob.own = true) (hl : ob.live) {b base room : Nat} (hι : ι id = .on b base room) :
    g.w0.heap.size ≤ b ∨ g.mine b := by
  rcases Nat.lt_or_ge id g.h0.length with hid | hid
  · obtain ⟨ob1, h1, h2, h3⟩ := h.flag id _ (List.getElem?_eq_getElem hid)
    rw [ho] at h1; cases h1
    refine .inr ⟨id, _, base, room, List.getElem?_eq_getElem hid, by rw [← h2]; exact hown, ?_, by rw [← h.keep id hid]; exact hι⟩
    rcases h3 with h3 | h3
    · unfold Ob.live; rw [← h3]; exact hl
    · exact absurd h3 hl
  · exact h.fresh id ob b base room hid ho hl hι

theorem eff_store {n0 : Nat} {o : Oper} {t : TypeId} {x y : Operand} {id e off : Nat} {cs : List A} {i : TI} {ob ob' : Ob} {st : St} (hT : TyOK P ty) (ho : o.op = .store t x y) (hi : ty t = some i) (hx : evA st.sl x = .at (.ptr id e off)) (hy : (evA st.sl y).cells = some cs)
    (hl : cs.length = i.size) (hob : st.hp[id]? = some ob) (hs : storeOb ob e off cs = some ob') : EffOp P n0 o st ⟨put st.sl o.dst (.at .void), st.hp.set id ob'⟩ := by
  intro g ι a w hn0 h K Q hK
  have hvx := evA_VR h.slots x
  have hvy := evA_VR h.slots y
  rw [hx] at hvx
  obtain ⟨b, base, room, hι, ex, hin⟩ := hvx
  obtain ⟨hF, hone⟩ := V.cells_F2 hy hvy
  obtain ⟨how, how', hsh, blk, tt, hb, hle, hnew⟩ := storeOb_sound hob h.heap hι hin hs hF
  obtain ⟨inf, z, hinf, hsz, _⟩ := (hT t i hi).info
  have hcl : (a.eval y).cells.size = inf.size := by have := hF.length; simp at this; omega
  have hst := storeCells_run (P := P) hb hle hone
  have hS := shp_set hob hsh
  have hlive := live_of_in hob hin
  have hrun : (execOp a.eval o).run P w = .ok .skip (w.setRow b (laid blk (base + offs (shp st.hp id) e + off) (a.eval y).cells.toList)) := by
    simp [execOp, ho, ex, Instr.storeAt, Instr.sureAddr, storeVar, sizeOf, typeInfo, hinf, hcl, hst]
  unfold Oper.wp
  rw [hrun, Oper.upon_skip]
  have hap := h.apart hob how hlive hι
  have hlt := (List.getElem?_eq_some_iff.1 hob).1
  refine hK ι _ _ ⟨?_, by rw [put_defers]; exact h.defers, ?_, ?_, h.keep, ?_, h.os, h.tape, h.output, by simpa using h.size, ?_, ?_⟩
  · refine put_F2 ?_ rfl
    rw [hS]; exact h.slots
  · intro j oj hj hoff
    rw [hS]
    by_cases hji : id = j
    · subst hji
      rw [List.getElem?_set_self hlt] at hj
      cases hj
      exact hnew _ (setRow_heap w b blk _ tt (0, 0) hb)
    · rw [List.getElem?_set_ne hji] at hj
      by_cases hlj : oj.live
      · refine (h.heap j oj hj hoff).ext (fun _ _ => ⟨rfl, rfl⟩) rfl fun b' base' room' hb' _ => ?_
        exact setRow_other w b b' _ (fun e => h.inj id j ob oj b base room b' base' room' hob hj hji how hlive hlj hι hb' e.symm)
      · obtain ⟨own, c⟩ := oj
        cases c with
        | dead => trivial
        | box cs => exact absurd (by simp [Ob.live, shpOb]) hlj
        | rows ks xs => exact absurd (by simp [Ob.live, shpOb]) hlj
  · intro i j oi oj b1 base1 room1 b2 base2 room2 hi' hj' hij hoi hli hlj h1 h2
    have aux : ∀ (k : Nat) (ok : Ob), (st.hp.set id ob')[k]? = some ok → ∃ ok', st.hp[k]? = some ok' ∧ ok'.own = ok.own ∧ shpOb ok' = shpOb ok := by
      intro k ok hk
      by_cases hki : id = k
      · subst hki
        rw [List.getElem?_set_self hlt] at hk
        cases hk
        exact ⟨ob, hob, by rw [how, how'], hsh.symm⟩
      · rw [List.getElem?_set_ne hki] at hk
        exact ⟨ok, hk, rfl, rfl⟩
    obtain ⟨oi', a1, a2, a3⟩ := aux i oi hi'
    obtain ⟨oj', c1, c2, c3⟩ := aux j oj hj'
    exact h.inj i j oi' oj' b1 base1 room1 b2 base2 room2 a1 c1 hij (by rw [a2]; exact hoi) (by unfold Ob.live; rw [a3]; exact hli) (by unfold Ob.live; rw [c3]; exact hlj) h1 h2
  · intro j oj hj
    obtain ⟨ob1, h1, h2, h3⟩ := h.flag j oj hj
    by_cases hji : id = j
    · subst hji
      rw [hob] at h1; cases h1
      exact ⟨ob', List.getElem?_set_self hlt, by rw [how', ← how]; exact h2, by rw [hsh]; exact h3⟩
    · exact ⟨ob1, by rw [List.getElem?_set_ne hji]; exact h1, h2, h3⟩
  · intro k hk hn
    rw [setRow_other w b k _ (fun e => ?_)]
    · exact h.block k hk hn
    · subst e
      rcases hap with h1 | h1
      · omega
      · exact hn h1
  · intro j oj b1 base1 room1 hj hoj hlj hon
    by_cases hji : id = j
    · subst hji
      exact h.fresh id ob b1 base1 room1 hj hob hlive hon
    · rw [List.getElem?_set_ne hji] at hoj
      exact h.fresh j oj b1 base1 room1 hj hoj hlj hon
end Go.Fx
