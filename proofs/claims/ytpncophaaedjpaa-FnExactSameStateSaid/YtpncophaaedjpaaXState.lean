/- A whole state, abstract and real; stores and appends. -/
import Derived.Test.YtpncophaaedjpaaXCall2
namespace Go.Fx
variable {P : Program} {ty : Nat → Option TI} {sl : List V} {hp : List Ob}

/-- How a call began. -/
structure Beg where
  w0 : World
  ι0 : Nat → Pl
  h0 : List Ob

/-- A block of an object that came in as the call's to change. -/
def Beg.mine (g : Beg) (b : Nat) : Prop := ∃ (id : Nat) (ob : Ob) (base room : Nat), g.h0[id]? = some ob ∧ ob.own = true ∧ ob.live ∧ g.ι0 id = .on b base room

structure Rel (g : Beg) (ι : Nat → Pl) (st : St) (a : Act) (w : World) : Prop where
  slots : F2 (VR ι (shp st.hp)) st.sl a.tmps.toList
  defers : a.defers = []
  heap : HR ι st.hp w
  inj : INJ ι st.hp
  keep : ∀ id : Nat, id < g.h0.length → ι id = g.ι0 id
  flag : ∀ (id : Nat) (ob : Ob), g.h0[id]? = some ob → ∃ ob', st.hp[id]? = some ob' ∧ ob'.own = ob.own ∧ (shpOb ob' = shpOb ob ∨ shpOb ob' = .no)
  os : w.os = g.w0.os
  tape : w.tape = g.w0.tape
  output : w.output = g.w0.output
  size : g.w0.heap.size ≤ w.heap.size
  block : ∀ k, k < g.w0.heap.size → ¬ g.mine k → w.heap[k]? = g.w0.heap[k]?
  fresh : ∀ (id : Nat) (ob : Ob) (b base room : Nat), g.h0.length ≤ id → st.hp[id]? = some ob → ob.live → ι id = .on b base room → g.w0.heap.size ≤ b ∨ g.mine b

theorem Rel.len {g : Beg} {ι : Nat → Pl} {st : St} {a : Act} {w : World} (h : Rel g ι st a w) : g.h0.length ≤ st.hp.length := by
  rcases Nat.lt_or_ge st.hp.length g.h0.length with hl | hl
  · obtain ⟨ob', h1, _⟩ := h.flag st.hp.length _ (List.getElem?_eq_getElem hl)
    rw [List.getElem?_eq_none (Nat.le_refl _)] at h1; cases h1
  · exact hl

theorem lt_of_HR {ι : Nat → Pl} {w : World} (h : HR ι hp w) {id : Nat} {ob : Ob} {b base room : Nat} (ho : hp[id]? = some ob) (hl : ob.live) (hι : ι id = .on b base room) : b < w.heap.size := by
  have := h id ob ho (by rw [hι]; simp)
  obtain ⟨own, c⟩ := ob
  cases c with
  | dead => exact absurd rfl hl
  | box cs => obtain ⟨b', base', room', blk, t, fz, h1, h2, _⟩ := this; rw [hι] at h1; cases h1; exact lt_of_heap h2
  | rows ks xs =>
    rcases this with ⟨h1, _⟩ | ⟨b', base', room', blk, t, fz, h1, h2, _⟩
    · rw [hι] at h1; cases h1
    · rw [hι] at h1; cases h1; exact lt_of_heap h2

theorem put_tmps {a : Act} {d : Option Nat} {c : Value} : (a.put d c).tmps.toList = (match d with | some d => a.tmps.toList.set d c | none => a.tmps.toList) := by
  cases d <;> simp [Act.put]

theorem put_F2 {ι : Nat → Pl} {S : Nat → Shp} {a : Act} {d : Option Nat} {v : V} {c : Value} (h : F2 (VR ι S) sl a.tmps.toList) (hv : VR ι S v c) : F2 (VR ι S) (put sl d v) (a.put d c).tmps.toList := by
  rw [put_tmps]
  cases d with
  | none => exact h
  | some d => exact h.set hv d

theorem put_defers {a : Act} {d : Option Nat} {c : Value} : (a.put d c).defers = a.defers := by cases d <;> rfl

theorem Grow.inj' {ι ι' : Nat → Pl} {news : List Ob} {w w' : World} (g : Grow ι ι' hp news w w') (hh : HR ι hp w) (h : INJ ι hp) : INJ ι' (hp ++ news) := by
  intro i j oi oj b base room b' base' room' hi hj hij hown hli hlj hon hon'
  rcases Nat.lt_or_ge i hp.length with h1 | h1
  · rw [List.getElem?_append_left h1] at hi
    rw [g.agree i h1] at hon
    have hb := lt_of_HR hh hi hli hon
    rcases Nat.lt_or_ge j hp.length with h2 | h2
    · rw [List.getElem?_append_left h2] at hj
      rw [g.agree j h2] at hon'
      exact h i j oi oj b base room b' base' room' hi hj hij hown hli hlj hon hon'
    · have := g.fresh j oj b' base' room' h2 hj hlj hon'
      omega
  · rcases Nat.lt_or_ge j hp.length with h2 | h2
    · rw [List.getElem?_append_left h2] at hj
      rw [g.agree j h2] at hon'
      have hb := lt_of_HR hh hj hlj hon'
      have := g.fresh i oi b base room h1 hi hli hon
      omega
    · exact g.inj i j oi oj b base room b' base' room' h1 h2 hij hi hj hown hli hlj hon hon'

theorem Rel.calm {g : Beg} {ι ι' : Nat → Pl} {st : St} {a : Act} {w w' : World} {news : List Ob} {v : V} {c : Value} {d : Option Nat} (h : Rel g ι st a w) (hg : Grow ι ι' st.hp news w w')
    (hv : VR ι' (shp (st.hp ++ news)) v c) (hh : HR ι' (st.hp ++ news) w') : Rel g ι' ⟨put st.sl d v, st.hp ++ news⟩ (a.put d c) w' := by
  have hext : ∀ id, shp st.hp id ≠ .no → ι' id = ι id ∧ shp (st.hp ++ news) id = shp st.hp id := fun id hn => ⟨hg.agree id (shp_lt hn), shp_append_lt (shp_lt hn)⟩
  have hlen := h.len
  refine ⟨put_F2 (h.slots.imp fun _ _ hv => VR.ext hext hv) hv, by rw [put_defers]; exact h.defers, hh, hg.inj' h.heap h.inj, fun id hid => ?_, fun id ob ho => ?_, hg.wx.os.trans h.os, hg.wx.tape.trans h.tape, hg.wx.output.trans h.output,
    Nat.le_trans h.size hg.wx.size, fun k hk hn => ?_, fun id ob b base room hid ho hl hon => ?_⟩
  · rw [hg.agree id (by omega)]; exact h.keep id hid
  · obtain ⟨ob', h1, h2⟩ := h.flag id ob ho
    have hlt : id < st.hp.length := (List.getElem?_eq_some_iff.1 h1).1
    exact ⟨ob', by rw [List.getElem?_append_left hlt]; exact h1, h2⟩
  · rw [hg.wx.block k (Nat.lt_of_lt_of_le hk h.size)]; exact h.block k hk hn
  · rcases Nat.lt_or_ge id st.hp.length with h1 | h1
    · rw [List.getElem?_append_left h1] at ho
      rw [hg.agree id h1] at hon
      exact h.fresh id ob b base room hid ho hl hon
    · exact .inl (Nat.le_trans h.size (hg.fresh id ob b base room h1 ho hl hon))

/-- An operation that may change what is there. -/
def EffOp (P : Program) (n0 : Nat) (o : Oper) (st st1 : St) : Prop :=
  ∀ (g : Beg) (ι : Nat → Pl) (a : Act) (w : World), g.h0.length = n0 → Rel g ι st a w → ∀ (K : Act → World → Prop) (Q : Exit → Act → World → Prop), (∀ ι' a' w', Rel g ι' st1 a' w' → K a' w') → o.wp P a w K Q

theorem CalmOp.eff {n0 : Nat} {o : Oper} {st : St} {v : V} {news : List Ob} (h : CalmOp P o st.sl st.hp v news) : EffOp P n0 o st ⟨put st.sl o.dst v, st.hp ++ news⟩ :=
  fun _ ι a w _ hr K Q hK => h ι a w (fun x _ => evA_VR hr.slots x) hr.heap K Q fun _ _ _ hg hv hh => hK _ _ _ (hr.calm hg hv hh)

/-! ### stores -/
theorem setFromA_length : ∀ (as : List A) (o : Nat) (r : List A), (setFromA r o as).length = r.length
  | [], _, _ => rfl
  | _ :: t, o, r => by simp [setFromA, setFromA_length t]

theorem setFromA_get : ∀ (as : List A) (o : Nat) (r : List A) (j : Nat), o + as.length ≤ r.length → (setFromA r o as)[j]? = if o ≤ j ∧ j < o + as.length then as[j - o]? else r[j]?
  | [], o, r, j, _ => by simp [setFromA]; intro h1 h2; omega
  | a :: t, o, r, j, h => by
    simp only [List.length_cons] at h
    rw [setFromA, setFromA_get t (o + 1) (r.set o a) j (by simp; omega)]
    by_cases h1 : o + 1 ≤ j ∧ j < o + 1 + t.length
    · rw [if_pos h1, if_pos (by simp; omega)]
      rw [show j - o = (j - (o + 1)) + 1 by omega]; simp
    · rw [if_neg h1]
      by_cases h2 : j = o
      · subst h2
        rw [if_pos (by simp)]
        have : j < r.length := by omega
        simp [this]
      · rw [if_neg (by simp; omega), List.getElem?_set_ne (fun h => h2 h.symm)]

theorem setFrom_length : ∀ (as : List Int) (o : Nat) (r : List Int), (setFrom r o as).length = r.length
  | [], _, _ => rfl
  | _ :: t, o, r => by simp [setFrom, setFrom_length t]

theorem setFrom_get : ∀ (as : List Int) (o : Nat) (r : List Int) (j : Nat), o + as.length ≤ r.length → (setFrom r o as)[j]? = if o ≤ j ∧ j < o + as.length then as[j - o]? else r[j]?
  | [], o, r, j, _ => by simp [setFrom]; intro h1 h2; omega
  | a :: t, o, r, j, h => by
    simp only [List.length_cons] at h
    rw [setFrom, setFrom_get t (o + 1) (r.set o a) j (by simp; omega)]
    by_cases h1 : o + 1 ≤ j ∧ j < o + 1 + t.length
    · rw [if_pos h1, if_pos (by simp; omega)]
      rw [show j - o = (j - (o + 1)) + 1 by omega]; simp
    · rw [if_neg h1]
      by_cases h2 : j = o
      · subst h2
        rw [if_pos (by simp)]
        have : j < r.length := by omega
        simp [this]
      · rw [if_neg (by simp; omega), List.getElem?_set_ne (fun h => h2 h.symm)]

/-- Cells of a block, laid over. -/
def laid (blk : Array Value) (s : Nat) (vs : List Value) : Array Value := (blk.toList.take s ++ vs ++ blk.toList.drop (s + vs.length)).toArray

theorem laid_size {blk : Array Value} {s : Nat} {vs : List Value} (h : s + vs.length ≤ blk.size) : (laid blk s vs).size = blk.size := by
  simp [laid]; omega

theorem laid_get {blk : Array Value} {s : Nat} {vs : List Value} (h : s + vs.length ≤ blk.size) (j : Nat) : (laid blk s vs)[j]? = if s ≤ j ∧ j < s + vs.length then vs[j - s]? else blk[j]? := by
  unfold laid
  simp only [List.getElem?_toArray]
  by_cases h1 : j < s
  · rw [if_neg (by omega), List.append_assoc, List.getElem?_append_left (by simp; omega), List.getElem?_take, if_pos h1]
    simp
  · by_cases h2 : j < s + vs.length
    · rw [if_pos ⟨by omega, h2⟩, List.append_assoc, List.getElem?_append_right (by simp; omega), List.getElem?_append_left (by simp; omega)]
      congr 1; simp; omega
    · rw [if_neg (by omega), List.append_assoc, List.getElem?_append_right (by simp; omega), List.getElem?_append_right (by simp; omega), List.getElem?_drop]
      simp only [List.length_take, Array.length_toList]
      rw [show s + vs.length + (j - min s blk.size - vs.length) = j by omega]
      simp

theorem storeOb_sound {ι : Nat → Pl} {w : World} {id e o : Nat} {ob ob' : Ob} {as : List A} {vs : List Value} {b base room : Nat} (hob : hp[id]? = some ob) (hh : HR ι hp w) (hι : ι id = .on b base room) (hin : inB (shp hp id) e)
    (hs : storeOb ob e o as = some ob') (hF : F2 (AR ι (shp hp)) as vs) :
    ob.own = true ∧ ob'.own = true ∧ shpOb ob' = shpOb ob ∧ ∃ blk t, w.heap[b]? = some (.cells blk t (0, 0)) ∧ base + offs (shp hp id) e + o + vs.length ≤ blk.size ∧
      ∀ w' : World, w'.heap[b]? = some (.cells (laid blk (base + offs (shp hp id) e + o) vs) t (0, 0)) → ObR ι (shp hp) w' id ob' := by
  have hobr := hh id ob hob (by rw [hι]; simp)
  have hSh := shp_of hob
  have hl := hF.length
  obtain ⟨own, c⟩ := ob
  unfold storeOb at hs
  cases own with
  | false => simp at hs
  | true =>
    cases h0 : Nat.blt 0 as.length with
    | false => simp [h0] at hs
    | true =>
    have has0 : 0 < as.length := by simpa [Nat.blt_eq] using h0
    simp only [h0] at hs
    refine ⟨rfl, ?_⟩
    cases c with
    | dead => simp at hs
    | box cs =>
      simp only at hs
      cases hb : Nat.ble (o + as.length) cs.length with
      | false => simp only [hb] at hs; cases hs
      | true =>
        simp only [hb, Option.some.injEq] at hs
        subst hs
        have hle := Nat.le_of_ble_eq_true hb
        obtain ⟨b', base', room', blk, t, fz, h1, h2, h3, h4, h5, h6⟩ := hobr
        rw [hι] at h1; cases h1
        obtain rfl := h5 rfl
        rw [hSh]
        refine ⟨rfl, rfl, blk, t, h2, by simp only [shpOb, offs]; omega, fun w' hw' => ?_⟩
        have hsz : base + 0 + o + vs.length ≤ blk.size := by omega
        simp only [shpOb, offs] at hw'
        refine ⟨b, base, room, _, t, (0, 0), hι, hw', by rw [laid_size hsz]; exact h3, by rw [setFromA_length]; exact h4, fun _ => rfl, fun j a ha => ?_⟩
        rw [setFromA_get as o cs j hle] at ha
        rw [laid_get hsz]
        by_cases hj : o ≤ j ∧ j < o + as.length
        · rw [if_pos hj] at ha
          rw [if_pos (by omega)]
          obtain ⟨c, g1, g2⟩ := hF.get _ _ ha
          exact ⟨c, by rw [show base + j - (base + 0 + o) = j - o by omega]; exact g1, g2⟩
        · rw [if_neg hj] at ha
          rw [if_neg (by omega)]
          exact h6 j a ha
    | rows ks xs =>
      simp only at hs
      cases hn : aInts ((ks.drop o).take as.length) as with
      | none => simp [hn] at hs
      | some ns =>
        simp only [hn] at hs
        obtain ⟨l1, l2, l3⟩ := aInts_KR hn hF
        rcases hobr with ⟨h1, _⟩ | ⟨b', base', room', blk, t, fz, h1, h2, h3, h4, h5⟩
        · rw [hι] at h1; cases h1
        · rw [hι] at h1; cases h1
          obtain ⟨rfl, rfl, hroom⟩ := h4 rfl
          rw [hSh] at hin ⊢
          simp only [shpOb, inB] at hin
          simp only [shpOb, offs]
          have hrow : xs[e]? = some xs[e] := List.getElem?_eq_getElem hin
          obtain ⟨r1, r2⟩ := h5 e xs[e] hrow
          have hgd : xs.getD e [] = xs[e] := by rw [List.getD_eq_getElem?_getD, hrow]; rfl
          have hol : as.length ≤ ks.length - o ∧ (as.length = 0 ∨ o + as.length ≤ ks.length) := by
            simp only [List.length_take, List.length_drop] at l1 l2
            omega
          have hwhole : ∃ row', ob' = ⟨true, .rows ks (xs.set e row')⟩ ∧ row'.length = ks.length ∧ (∀ j, row'.getD j 0 = if o ≤ j ∧ j < o + as.length then ns.getD (j - o) 0 else xs[e].getD j 0) := by
            have hnl : ns.length = as.length := by omega
            cases hb : Nat.beq ns.length ks.length with
            | true =>
              simp only [hb, Option.some.injEq] at hs
              have he := Nat.eq_of_beq_eq_true hb
              refine ⟨ns, hs.symm, he, fun j => ?_⟩
              rcases Nat.eq_zero_or_pos ks.length with hk0 | hk0
              · have : as.length = 0 := by omega
                rw [if_neg (by omega)]
                have e1 : ns = [] := List.eq_nil_of_length_eq_zero (by omega)
                have e2 : xs[e] = [] := List.eq_nil_of_length_eq_zero (by omega)
                rw [e1, e2]
              · have ho0 : o = 0 := by omega
                subst ho0
                by_cases hj : j < as.length
                · rw [if_pos ⟨by omega, by omega⟩]; simp
                · rw [if_neg (by omega)]
                  rw [List.getD_eq_getElem?_getD, List.getD_eq_getElem?_getD, List.getElem?_eq_none (by omega), List.getElem?_eq_none (by omega)]
            | false =>
              simp only [hb, Option.some.injEq] at hs
              rw [hgd] at hs
              refine ⟨_, hs.symm, by rw [setFrom_length]; exact r1, fun j => ?_⟩
              rcases hol.2 with h0 | h0
              · have e1 : ns = [] := List.eq_nil_of_length_eq_zero (by omega)
                rw [e1, if_neg (by omega)]; rfl
              · rw [List.getD_eq_getElem?_getD, setFrom_get ns o xs[e] j (by omega), hnl]
                by_cases hj : o ≤ j ∧ j < o + as.length
                · rw [if_pos hj, if_pos hj, List.getD_eq_getElem?_getD]
                · rw [if_neg hj, if_neg hj, List.getD_eq_getElem?_getD]
          obtain ⟨row', rfl, hr1, hr2⟩ := hwhole
          have hcellb : ∀ q, q < ks.length → e * ks.length + q < blk.size := by
            intro q hq
            obtain ⟨c, hc, _⟩ := r2 q ks[q] (List.getElem?_eq_getElem hq)
            have := (Array.getElem?_eq_some_iff.1 hc).1
            omega
          have hsz : 0 + e * ks.length + o + vs.length ≤ blk.size := by
            have := hcellb (o + as.length - 1) (by omega)
            omega
          refine ⟨rfl, by simp, blk, t, h2, hsz, fun w' hw' => ?_⟩
          refine .inr ⟨b, 0, room, _, t, (0, 0), hι, hw', by rw [laid_size hsz]; exact h3, fun _ => ⟨rfl, rfl, by rw [laid_size hsz]; exact hroom⟩, fun e' row he' => ?_⟩
          rw [List.getElem?_set] at he'
          by_cases hee : e = e'
          · subst hee
            rw [if_pos rfl, if_pos hin] at he'
            cases he'
            refine ⟨hr1, fun q kd hq => ?_⟩
            have hqs : q < ks.length := (List.getElem?_eq_some_iff.1 hq).1
            rw [laid_get hsz, hr2 q]
            by_cases hj : o ≤ q ∧ q < o + as.length
            · rw [if_pos hj, if_pos (by omega)]
              obtain ⟨c, g1, g2⟩ := l3 (q - o) kd (by rw [List.getElem?_take, if_pos (by omega), List.getElem?_drop, show o + (q - o) = q by omega]; exact hq)
              exact ⟨c, by rw [show 0 + e * ks.length + q - (0 + e * ks.length + o) = q - o by omega]; exact g1, g2⟩
            · rw [if_neg hj, if_neg (by omega)]
              exact r2 q kd hq
          · rw [if_neg hee] at he'
            obtain ⟨s1, s2⟩ := h5 e' row he'
            refine ⟨s1, fun q kd hq => ?_⟩
            have hqs : q < ks.length := (List.getElem?_eq_some_iff.1 hq).1
            obtain ⟨c, g1, g2⟩ := s2 q kd hq
            refine ⟨c, ?_, g2⟩
            rw [laid_get hsz]
            have hdis : ¬ (0 + e * ks.length + o ≤ 0 + e' * ks.length + q ∧ 0 + e' * ks.length + q < 0 + e * ks.length + o + vs.length) := by
              rintro ⟨q1, q2⟩
              rcases Nat.lt_or_gt_of_ne hee with hlt | hgt
              · have := Nat.mul_le_mul_right ks.length hlt
                rw [Nat.succ_mul] at this
                omega
              · have := Nat.mul_le_mul_right ks.length hgt
                rw [Nat.succ_mul] at this
                omega
            rw [if_neg hdis]
            exact g1
end Go.Fx
