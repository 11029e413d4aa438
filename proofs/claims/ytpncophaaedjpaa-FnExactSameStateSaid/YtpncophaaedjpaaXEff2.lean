/- An object that grows. -/
import Derived.Test.YtpncophaaedjpaaXEff
namespace Go.Fx
variable {P : Program} {ty : Nat → Option TI} {sl : List V} {hp : List Ob}

theorem shpOb_kill (i : Nat) (ob : Ob) : shpOb (ob.kill i) = shpOb ob := by
  obtain ⟨own, c⟩ := ob; cases c <;> rfl
theorem own_kill (i : Nat) (ob : Ob) : (ob.kill i).own = ob.own := by
  obtain ⟨own, c⟩ := ob; cases c <;> rfl

theorem ObR.kill {ι ι' : Nat → Pl} {S S' : Nat → Shp} {w w' : World} {i id : Nat} {ob : Ob} (hs : ∀ id, id ≠ i → S id ≠ .no → ι' id = ι id ∧ S' id = S id) (hid : ι' id = ι id)
    (hw : ∀ b base room, ι id = .on b base room → b < w.heap.size → w'.heap[b]? = w.heap[b]?) (h : ObR ι S w id ob) : ObR ι' S' w' id (ob.kill i) := by
  obtain ⟨own, c⟩ := ob
  cases c with
  | dead => trivial
  | box cs =>
    obtain ⟨b, base, room, blk, t, fz, h1, h2, h3, h4, h5, h6⟩ := h
    refine ⟨b, base, room, blk, t, fz, hid ▸ h1, by rw [hw b base room h1 (lt_of_heap h2)]; exact h2, h3, by simpa using h4, h5, fun j a ha => ?_⟩
    rw [List.getElem?_map] at ha
    cases hc : cs[j]? with
    | none => simp [hc] at ha
    | some a' =>
      simp [hc] at ha
      subst ha
      obtain ⟨c, e1, e2⟩ := h6 j a' hc
      exact ⟨c, e1, AR.kill hs e2⟩
  | rows ks xs =>
    rcases h with ⟨h1, h2⟩ | ⟨b, base, room, blk, t, fz, h1, h2, h3, h4, h5⟩
    · exact .inl ⟨hid ▸ h1, h2⟩
    · exact .inr ⟨b, base, room, blk, t, fz, hid ▸ h1, by rw [hw b base room h1 (lt_of_heap h2)]; exact h2, h3, h4, h5⟩

theorem ObR.dead {ι : Nat → Pl} {S : Nat → Shp} {w : World} {id : Nat} {ob : Ob} (h : ¬ ob.live) : ObR ι S w id ob := by
  obtain ⟨own, c⟩ := ob
  cases c with
  | dead => trivial
  | box cs => exact absurd (by simp [Ob.live, shpOb]) h
  | rows ks xs => exact absurd (by simp [Ob.live, shpOb]) h

theorem live_kill {i : Nat} {ob : Ob} : (ob.kill i).live ↔ ob.live := by unfold Ob.live; rw [shpOb_kill]

theorem Rel.regrow {g : Beg} {ι : Nat → Pl} {st : St} {a : Act} {w w' : World} {id tgt : Nat} {ob ob' : Ob} {hp' : List Ob} {pl : Pl} {v : V} {c : Value} {d : Option Nat} (h : Rel g ι st a w)
    (hob : st.hp[id]? = some ob) (hown : ob.own = true) (hlive : ob.live) (htgt : (tgt = id ∧ g.h0.length ≤ id) ∨ tgt = st.hp.length)
    (hA : ∀ j, j ≠ id → j ≠ tgt → hp'[j]? = (st.hp[j]?).map (Ob.kill id)) (hT : hp'[tgt]? = some ob') (hD : tgt ≠ id → hp'[id]? = some ⟨true, .dead⟩)
    (hos : w'.os = w.os) (htape : w'.tape = w.tape) (hout : w'.output = w.output) (hsize : w.heap.size ≤ w'.heap.size)
    (hblk : ∀ k, k < w.heap.size → (∀ base room, ι id ≠ .on k base room) → w'.heap[k]? = w.heap[k]?)
    (hpl : ∀ b base room, pl = .on b base room → w.heap.size ≤ b ∨ ∃ base' room', ι id = .on b base' room')
    (hnew : ObR (fun j => if j = tgt then pl else ι j) (shp hp') w' tgt ob')
    (hv : VR (fun j => if j = tgt then pl else ι j) (shp hp') v c) :
    Rel g (fun j => if j = tgt then pl else ι j) ⟨put (st.sl.map (V.kill id)) d v, hp'⟩ (a.put d c) w' := by
  have hlen := h.len
  have hidlt : id < st.hp.length := (List.getElem?_eq_some_iff.1 hob).1
  have hS : ∀ j, j ≠ id → shp st.hp j ≠ .no → j ≠ tgt ∧ shp hp' j = shp st.hp j := by
    intro j hj hn
    have hl := shp_lt hn
    have hjt : j ≠ tgt := by rcases htgt with ⟨h1, _⟩ | h1 <;> omega
    refine ⟨hjt, ?_⟩
    unfold shp
    rw [hA j hj hjt]
    cases ho : st.hp[j]? with
    | none => rfl
    | some ob => exact shpOb_kill id ob
  have hext : ∀ j, j ≠ id → shp st.hp j ≠ .no → (fun j => if j = tgt then pl else ι j) j = ι j ∧ shp hp' j = shp st.hp j := fun j hj hn => by
    obtain ⟨h1, h2⟩ := hS j hj hn
    exact ⟨by simp [h1], h2⟩
  -- objects that are there behind it
  have hold : ∀ (j : Nat) (oj : Ob), hp'[j]? = some oj → j ≠ tgt → oj.live → j ≠ id ∧ ∃ oj', st.hp[j]? = some oj' ∧ oj = oj'.kill id ∧ oj'.live := by
    intro j oj hj hjt hl
    have hjid : j ≠ id := by
      rintro rfl
      rw [hD (fun e => hjt e.symm)] at hj
      cases hj
      exact hl rfl
    refine ⟨hjid, ?_⟩
    rw [hA j hjid hjt] at hj
    cases ho : st.hp[j]? with
    | none => simp [ho] at hj
    | some oj' =>
      simp [ho] at hj
      subst hj
      exact ⟨oj', rfl, rfl, live_kill.1 hl⟩
  have hap : ∀ b base room, ι id = .on b base room → g.w0.heap.size ≤ b ∨ g.mine b := fun b base room hι => h.apart hob hown hlive hι
  have hsz0 := h.size
  refine ⟨put_F2 (F2.map_left (fun _ _ hr => VR.kill hext hr) h.slots) hv, by rw [put_defers]; exact h.defers, fun j oj hj hoff => ?_, ?_, fun j hj => ?_, fun j oj hj => ?_, hos.trans h.os, htape.trans h.tape, hout.trans h.output, Nat.le_trans h.size hsize, fun k hk hn => ?_, ?_⟩
  · by_cases hjt : j = tgt
    · subst hjt
      rw [hT] at hj; cases hj
      exact hnew
    · by_cases hl : oj.live
      · obtain ⟨hjid, oj', h1, h2, h3⟩ := hold j oj hj hjt hl
        subst h2
        simp only [hjt, if_false] at hoff
        refine (h.heap j oj' h1 hoff).kill hext (by simp [hjt]) fun b base room hι hb => hblk b hb fun base' room' hc => ?_
        exact h.inj id j ob oj' b base' room' b base room hob h1 (fun e => hjid e.symm) hown hlive h3 hc hι rfl
      · exact ObR.dead hl
  · intro i j oi oj b1 base1 room1 b2 base2 room2 hi hj hij hoi hli hlj h1 h2
    by_cases hit : i = tgt
    · have hjt : j ≠ tgt := fun e => hij (hit.trans e.symm)
      simp only [hit, if_true] at h1
      simp only [hjt, if_false] at h2
      obtain ⟨hjid, oj', g1, g2, g3⟩ := hold j oj hj hjt hlj
      have hb2 := lt_of_HR h.heap g1 g3 h2
      rcases hpl _ _ _ h1 with hb | ⟨base', room', hb⟩
      · omega
      · exact h.inj id j ob oj' b1 base' room' b2 base2 room2 hob g1 (fun e => hjid e.symm) hown hlive g3 hb h2
    · simp only [hit, if_false] at h1
      obtain ⟨hiid, oi', g1, g2, g3⟩ := hold i oi hi hit hli
      have hoi' : oi'.own = true := by rw [g2, own_kill] at hoi; exact hoi
      have hb1 := lt_of_HR h.heap g1 g3 h1
      by_cases hjt : j = tgt
      · simp only [hjt, if_true] at h2
        rcases hpl _ _ _ h2 with hb | ⟨base', room', hb⟩
        · omega
        · exact h.inj i id oi' ob b1 base1 room1 b2 base' room' g1 hob hiid hoi' g3 hlive h1 hb
      · simp only [hjt, if_false] at h2
        obtain ⟨hjid, oj', k1, k2, k3⟩ := hold j oj hj hjt hlj
        exact h.inj i j oi' oj' b1 base1 room1 b2 base2 room2 g1 k1 hij hoi' g3 k3 h1 h2
  · have hjt : j ≠ tgt := by rcases htgt with ⟨h1, h2⟩ | h1 <;> omega
    simp only [hjt, if_false]
    exact h.keep j hj
  · obtain ⟨o1, h1, h2, h3⟩ := h.flag j oj hj
    have hjl : j < g.h0.length := (List.getElem?_eq_some_iff.1 hj).1
    have hjt : j ≠ tgt := by rcases htgt with ⟨h1, h2⟩ | h1 <;> omega
    by_cases hjid : j = id
    · subst hjid
      rw [hob] at h1; cases h1
      exact ⟨_, hD (fun e => hjt e.symm), by rw [← h2]; exact hown.symm, .inr rfl⟩
    · exact ⟨o1.kill id, by rw [hA j hjid hjt, h1]; rfl, by rw [own_kill]; exact h2, by rw [shpOb_kill]; exact h3⟩
  · rw [hblk k (by omega) (fun base room hι => ?_)]
    · exact h.block k hk hn
    · rcases hap k base room hι with h1 | h1
      · omega
      · exact hn h1
  · intro j oj b base room hjl hj hl hon
    by_cases hjt : j = tgt
    · simp only [hjt, if_true] at hon
      rcases hpl _ _ _ hon with hb | ⟨base', room', hb⟩
      · exact .inl (by omega)
      · exact hap _ _ _ hb
    · simp only [hjt, if_false] at hon
      obtain ⟨hjid, oj', g1, g2, g3⟩ := hold j oj hj hjt hl
      exact h.fresh j oj' b base room hjl g1 g3 hon
end Go.Fx
