/- Regions whose order is drawn: one step of any order. -/
import Derived.Test.YtpncophaaedjpaaXDraw
namespace Go.Fx
variable {P : Program} {g : Beg} {all : Array Oper} {σ : Nat → St} {p m : Nat}

structure PInv (g : Beg) (all : Array Oper) (σ : Nat → St) (p m : Nat) (S : Nat → Prop) (ι : Nat → Pl) (a : Act) (w : World) : Prop where
  rel : RelH g ι (σ m).hp w
  base : g.h0.length ≤ (σ p).hp.length
  heaps : ∀ j, p ≤ j → j ≤ m → HR ι (σ j).hp w
  size : a.tmps.size = (σ p).sl.length
  defers : a.defers = []
  slots : ∀ t, ∃ i, p ≤ i ∧ i ≤ m ∧ (i = p ∨ ∃ j o, i = j + 1 ∧ S j ∧ all[j]? = some o ∧ o.dst = some t) ∧
    (∀ j o, p ≤ j → j < m → all[j]? = some o → o.dst = some t → (S j ↔ j < i)) ∧ VR ι (shp (σ i).hp) ((σ i).sl.getD t (.at .void)) (a.tmps.getD t undef)
  off : ∀ j id, p ≤ j → j < m → ¬ S j → (σ j).hp.length ≤ id → id < (σ (j + 1)).hp.length → ι id = .off

theorem put_getD {sl : List V} {d : Option Nat} {v x : V} {t : Nat} (h : d ≠ some t) : (put sl d v).getD t x = sl.getD t x := by
  cases d with
  | none => rfl
  | some d =>
    simp only [put, List.getD_eq_getElem?_getD]
    rw [List.getElem?_set_ne (fun e => h (by rw [e]))]

theorem put_length {sl : List V} {d : Option Nat} {v : V} : (put sl d v).length = sl.length := by
  cases d <;> simp [put]

section
variable (hc : ∀ j, p ≤ j → j < m → CalmStep P all σ j)
include hc

theorem seg_pre {i k : Nat} (h1 : p ≤ i) (h2 : i ≤ k) (h3 : k ≤ m) : ∃ l, (σ k).hp = (σ i).hp ++ l := by
  induction k with
  | zero => obtain rfl : i = 0 := by omega
            exact ⟨[], by simp⟩
  | succ k ih =>
    rcases Nat.lt_or_ge k i with h | h
    · obtain rfl : i = k + 1 := by omega
      exact ⟨[], by simp⟩
    · obtain ⟨l, hl⟩ := ih h (by omega)
      obtain ⟨o, v, news, ho, hs, _⟩ := hc k (by omega) (by omega)
      exact ⟨l ++ news, by rw [hs]; simp [hl]⟩

theorem seg_len {i k : Nat} (h1 : p ≤ i) (h2 : i ≤ k) (h3 : k ≤ m) : (σ i).hp.length ≤ (σ k).hp.length := by
  obtain ⟨l, hl⟩ := seg_pre hc h1 h2 h3
  rw [hl]; simp

theorem seg_get {i k id : Nat} (h1 : p ≤ i) (h2 : i ≤ k) (h3 : k ≤ m) (hid : id < (σ i).hp.length) : (σ k).hp[id]? = (σ i).hp[id]? := by
  obtain ⟨l, hl⟩ := seg_pre hc h1 h2 h3
  rw [hl, List.getElem?_append_left hid]

theorem seg_shp {i k id : Nat} (h1 : p ≤ i) (h2 : i ≤ k) (h3 : k ≤ m) (hn : shp (σ i).hp id ≠ .no) : shp (σ k).hp id = shp (σ i).hp id := by
  have hl := shp_lt hn
  unfold shp
  rw [seg_get hc h1 h2 h3 hl]

theorem seg_slot {i k t : Nat} (h1 : p ≤ i) (h2 : i ≤ k) (h3 : k ≤ m) (hw : ∀ j o, i ≤ j → j < k → all[j]? = some o → o.dst ≠ some t) (x : V) : (σ k).sl.getD t x = (σ i).sl.getD t x := by
  induction k with
  | zero => obtain rfl : i = 0 := by omega
            rfl
  | succ k ih =>
    rcases Nat.lt_or_ge k i with h | h
    · obtain rfl : i = k + 1 := by omega
      rfl
    · obtain ⟨o, v, news, ho, hs, _⟩ := hc k (by omega) (by omega)
      rw [hs]
      simp only
      rw [put_getD (hw k o h (by omega) ho)]
      exact ih h (by omega) fun j o hj hjk => hw j o hj (by omega)

theorem seg_slots {k : Nat} (h1 : p ≤ k) (h3 : k ≤ m) : (σ k).sl.length = (σ p).sl.length := by
  induction k with
  | zero => obtain rfl : p = 0 := by omega
            rfl
  | succ k ih =>
    rcases Nat.lt_or_ge k p with h | h
    · obtain rfl : p = k + 1 := by omega
      rfl
    · obtain ⟨o, v, news, ho, hs, _⟩ := hc k (by omega) (by omega)
      rw [hs]
      simp only
      rw [put_length]
      exact ih h (by omega)

theorem PInv.after {S : Nat → Prop} {ι ι' : Nat → Pl} {a : Act} {w w' : World} {k : Nat} {o : Oper} {v : V} {news : List Ob} {c : Value} (h : PInv g all σ p m S ι a w) (hk : p ≤ k) (hkm : k < m) (hS : ¬ S k) (ho : all[k]? = some o)
    (hs : σ (k + 1) = ⟨put (σ k).sl o.dst v, (σ k).hp ++ news⟩) (hg : Grow ι ι' (σ k).hp news w w') (hv : VR ι' (shp ((σ k).hp ++ news)) v c) (hh : HR ι' ((σ k).hp ++ news) w')
    (hwr : ∀ t, o.dst = some t → ∀ j oj, p ≤ j → j < m → all[j]? = some oj → oj.dst = some t → j ≠ k → (S j ↔ j < k)) :
    ∃ ι'', PInv g all σ p m (fun j => S j ∨ j = k) ι'' (a.put o.dst c) w' := by
  have hlk : (σ (k + 1)).hp = (σ k).hp ++ news := by rw [hs]
  obtain ⟨ι'', hin, hout⟩ : ∃ ι'' : Nat → Pl, (∀ id, (σ k).hp.length ≤ id → id < (σ (k + 1)).hp.length → ι'' id = ι' id) ∧ (∀ id, ¬ ((σ k).hp.length ≤ id ∧ id < (σ (k + 1)).hp.length) → ι'' id = ι id) :=
    ⟨fun id => if (σ k).hp.length ≤ id ∧ id < (σ (k + 1)).hp.length then ι' id else ι id, fun id h1 h2 => by simp [h1, h2], fun id h => by simp only [h, if_false]⟩
  have hlow : ∀ id, id < (σ k).hp.length → ι'' id = ι id := fun id hid => hout id (by omega)
  have hup : ∀ id, id < (σ (k + 1)).hp.length → ι'' id = ι' id := fun id hid => by
    rcases Nat.lt_or_ge id (σ k).hp.length with hl | hl
    · rw [hlow id hl, hg.agree id hl]
    · exact hin id hl hid
  have hkeep : ∀ id, ι id ≠ .off → ι'' id = ι id := fun id hid => hout id fun ⟨h1, h2⟩ => hid (h.off k id hk hkm hS h1 h2)
  have hlen0 := h.rel.len
  have hlm : (σ (k + 1)).hp.length ≤ (σ m).hp.length := seg_len hc (by omega) (by omega) (Nat.le_refl _)
  have hgm : ∀ id, id < (σ (k + 1)).hp.length → (σ m).hp[id]? = ((σ k).hp ++ news)[id]? := fun id hid => by rw [seg_get hc (by omega) (by omega) (Nat.le_refl _) hid, hlk]
  have hext : ∀ j, p ≤ j → j ≤ m → HR ι'' (σ j).hp w' := by
    intro j hj hjm id ob hob hoff
    have hidj : id < (σ j).hp.length := (List.getElem?_eq_some_iff.1 hob).1
    by_cases hr : (σ k).hp.length ≤ id ∧ id < (σ (k + 1)).hp.length
    · have hkj : k + 1 ≤ j := by
        rcases Nat.lt_or_ge k j with h' | h'
        · exact h'
        · have := seg_len hc hj h' (by omega); omega
      have hob' : ((σ k).hp ++ news)[id]? = some ob := by rw [← hlk, ← seg_get hc (by omega) hkj hjm hr.2]; exact hob
      have hoff' : ι' id ≠ .off := by rw [← hin id hr.1 hr.2]; exact hoff
      refine (hh id ob hob' hoff').ext (fun id' hn => ?_) (hin id hr.1 hr.2) (fun _ _ _ _ _ => rfl)
      rw [← hlk] at hn
      exact ⟨hup id' (shp_lt hn), by rw [seg_shp hc (by omega) hkj hjm hn, hlk]⟩
    · have hι := hout id hr
      exact ((h.heaps j hj hjm) id ob hob (by rw [← hι]; exact hoff)).off hkeep hι fun b _ _ _ hb => hg.wx.block b hb
  have hoffr : ∀ id, (σ k).hp.length ≤ id → id < (σ (k + 1)).hp.length → ι id = .off := fun id h1 h2 => h.off k id hk hkm hS h1 h2
  refine ⟨ι'', ⟨?_, h.base, hext, ?_, by rw [put_defers]; exact h.defers, fun t => ?_, ?_⟩⟩
  · refine ⟨trivial, rfl, hext m (by omega) (Nat.le_refl _), ?_, fun id hid => ?_, h.rel.flag, hg.wx.os.trans h.rel.os, hg.wx.tape.trans h.rel.tape, hg.wx.output.trans h.rel.output, Nat.le_trans h.rel.size hg.wx.size, fun j hj hn => ?_, ?_⟩
    · intro i j oi oj b1 base1 room1 b2 base2 room2 hi hj hij hoi hli hlj h1 h2
      simp only at hi hj
      by_cases ri : (σ k).hp.length ≤ i ∧ i < (σ (k + 1)).hp.length
      · rw [hgm i ri.2] at hi
        rw [hin i ri.1 ri.2] at h1
        by_cases rj : (σ k).hp.length ≤ j ∧ j < (σ (k + 1)).hp.length
        · rw [hgm j rj.2] at hj
          rw [hin j rj.1 rj.2] at h2
          exact hg.inj i j oi oj b1 base1 room1 b2 base2 room2 ri.1 rj.1 hij hi hj hoi hli hlj h1 h2
        · rw [hout j rj] at h2
          have := lt_of_HR h.rel.heap hj hlj h2
          have := hg.fresh i oi b1 base1 room1 ri.1 hi hli h1
          omega
      · rw [hout i ri] at h1
        by_cases rj : (σ k).hp.length ≤ j ∧ j < (σ (k + 1)).hp.length
        · rw [hgm j rj.2] at hj
          rw [hin j rj.1 rj.2] at h2
          have := lt_of_HR h.rel.heap hi hli h1
          have := hg.fresh j oj b2 base2 room2 rj.1 hj hlj h2
          omega
        · rw [hout j rj] at h2
          exact h.rel.inj i j oi oj b1 base1 room1 b2 base2 room2 hi hj hij hoi hli hlj h1 h2
    · by_cases r : (σ k).hp.length ≤ id ∧ id < (σ (k + 1)).hp.length
      · have := seg_len hc (i := p) (k := k) (Nat.le_refl _) hk (by omega)
        have := h.base
        omega
      · rw [hout id r]; exact h.rel.keep id hid
    · rw [hg.wx.block j (Nat.lt_of_lt_of_le hj h.rel.size)]; exact h.rel.block j hj hn
    · intro id ob b base room hid hob hl hon
      simp only at hob
      by_cases r : (σ k).hp.length ≤ id ∧ id < (σ (k + 1)).hp.length
      · rw [hgm id r.2] at hob
        rw [hin id r.1 r.2] at hon
        exact .inl (Nat.le_trans h.rel.size (hg.fresh id ob b base room r.1 hob hl hon))
      · rw [hout id r] at hon
        exact h.rel.fresh id ob b base room hid hob hl hon
  · have := h.size
    cases hd : o.dst <;> simp [Act.put, this]
  · by_cases hdt : o.dst = some t
    · refine ⟨k + 1, by omega, by omega, .inr ⟨k, o, rfl, .inr rfl, ho, hdt⟩, fun j oj hj hjm hoj hdj => ?_, ?_⟩
      · by_cases hjk : j = k
        · subst hjk; simp
        · have := hwr t hdt j oj hj hjm hoj hdj hjk
          simp only [hjk, or_false]
          exact this.trans ⟨fun h => by omega, fun h => by omega⟩
      · rw [hs]
        simp only
        have hsl := h.size
        rcases Nat.lt_or_ge t a.tmps.size with hts | hts
        · have e1 : (put (σ k).sl o.dst v).getD t (.at .void) = v := by
            rw [hdt]
            simp only [put, List.getD_eq_getElem?_getD]
            rw [List.getElem?_set_self (by rw [seg_slots hc hk (by omega)]; omega)]
            rfl
          have e2 : (a.put o.dst c).tmps.getD t undef = c := by
            rw [hdt]
            simp [Act.put, hts]
          rw [e1, e2]
          exact VR.ext (fun id hn => ⟨hup id (by rw [hlk]; exact shp_lt hn), rfl⟩) hv
        · have e1 : (put (σ k).sl o.dst v).getD t (.at .void) = .at .void := by
            rw [List.getD_eq_getElem?_getD, List.getElem?_eq_none (by rw [put_length, seg_slots hc hk (by omega)]; omega)]; rfl
          have e2 : (a.put o.dst c).tmps.getD t undef = undef := by
            rw [hdt, Array.getD_eq_getD_getElem?, Array.getElem?_eq_none (by simp [Act.put]; omega)]; rfl
          rw [e1, e2]
          exact rfl
    · obtain ⟨i, h1, h2, h3, h4, h5⟩ := h.slots t
      refine ⟨i, h1, h2, ?_, fun j oj hj hjm hoj hdj => ?_, ?_⟩
      · rcases h3 with h3 | ⟨j, oj, h6, h7, h8⟩
        · exact .inl h3
        · exact .inr ⟨j, oj, h6, .inl h7, h8⟩
      · have hjk : j ≠ k := by rintro rfl; rw [ho] at hoj; cases hoj; exact hdt hdj
        simp only [hjk, or_false]
        exact h4 j oj hj hjm hoj hdj
      · have e2 : (a.put o.dst c).tmps.getD t undef = a.tmps.getD t undef := by
          cases hd : o.dst with
          | none => rfl
          | some d =>
            have hne : d ≠ t := fun e => hdt (by rw [hd, e])
            simp only [Act.put, Array.getD_eq_getD_getElem?]
            rw [Array.getElem?_setIfInBounds_ne hne]
        rw [e2]
        exact VR.off hkeep h5
  · intro j id hj hjm hnS h1 h2
    have hjk : j ≠ k := fun e => hnS (.inr e)
    have hjS : ¬ S j := fun e => hnS (.inl e)
    rw [hout id]
    · exact h.off j id hj hjm hjS h1 h2
    · rintro ⟨g1, g2⟩
      rcases Nat.lt_or_gt_of_ne hjk with hlt | hgt
      · have := seg_len hc (i := j + 1) (k := k) (by omega) (by omega) (by omega); omega
      · have := seg_len hc (i := k + 1) (k := j) (by omega) (by omega) (by omega); omega
end
end Go.Fx
