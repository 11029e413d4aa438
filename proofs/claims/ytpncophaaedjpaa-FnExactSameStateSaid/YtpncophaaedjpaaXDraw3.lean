/- Regions whose order is drawn: any order does what the order of the text does. -/
import Derived.Test.YtpncophaaedjpaaXDraw2
namespace Go.Fx
variable {P : Program} {g : Beg} {all : Array Oper} {σ : Nat → St} {p m : Nat}

theorem PInv.reads {S : Nat → Prop} {ι : Nat → Pl} {a : Act} {w : World} {k : Nat} {o : Oper} (hc : ∀ j, p ≤ j → j < m → CalmStep P all σ j) (hd : drawOk all = true) (h : PInv g all σ p m S ι a w) (hk : p ≤ k) (hkm : k < m) (hS : ¬ S k) (ho : all[k]? = some o)
    (hcl : ∀ j, bef (masks all) j k = true → S j) (hcl2 : ∀ j, S j → bef (masks all) k j ≠ true) : ∀ t ∈ reads all o, VR ι (shp (σ k).hp) ((σ k).sl.getD t (.at .void)) (a.tmps.getD t undef) := by
  intro t ht
  obtain ⟨i, h1, h2, h3, h4, h5⟩ := h.slots t
  have hw : ∀ j oj, p ≤ j → j < m → all[j]? = some oj → oj.dst = some t → (j < k ↔ j < i) := by
    intro j oj hj hjm hoj hdj
    rw [← h4 j oj hj hjm hoj hdj]
    constructor
    · intro hjk
      rcases (drawOk_get hd ho).2 j hjk with hb | ⟨oj', hoj', hap⟩
      · exact hcl j hb
      · rw [hoj] at hoj'; cases hoj'
        exact absurd ht ((apartB_spec hap).2.1 t hdj)
    · intro hSj
      rcases Nat.lt_or_ge j k with hlt | hge
      · exact hlt
      · exfalso
        have hne : j ≠ k := fun e => hS (e ▸ hSj)
        rcases (drawOk_get hd hoj).2 k (by omega) with hb | ⟨ok, hok, hap⟩
        · exact hcl2 j hSj hb
        · rw [ho] at hok; cases hok
          exact (apartB_spec hap).2.2 t hdj ht
  have hik : i ≤ k := by
    rcases h3 with rfl | ⟨j, oj, rfl, hSj, hoj, hdj⟩
    · exact hk
    · rcases Nat.lt_or_ge j p with hlt | hge
      · omega
      · have := (hw j oj hge (by omega) hoj hdj).2 (by omega)
        omega
  have hsame := seg_slot hc h1 hik (by omega) (t := t) (fun j oj hj hjk hoj hdj => by
    have := (hw j oj (by omega) (by omega) hoj hdj).1 hjk
    omega) (.at .void)
  rw [hsame]
  exact VR.ext (fun id hn => ⟨rfl, seg_shp hc h1 hik (by omega) hn⟩) h5

theorem tmp_read {o : Oper} {t : Nat} (h : Operand.tmp t ∈ o.op.operands) : t ∈ reads all o := by
  unfold Go.Fx.reads
  refine List.mem_append_left _ (List.mem_flatMap.2 ⟨.tmp t, by simpa using h, by simp [tmpOf]⟩)

theorem ops_of_reads {o : Oper} {ι : Nat → Pl} {S : Nat → Shp} {sl : List V} {a : Act} (h : ∀ t ∈ reads all o, VR ι S (sl.getD t (.at .void)) (a.tmps.getD t undef)) : OpsR ι S o sl a := by
  intro x hx
  cases x with
  | tmp t => exact h t (tmp_read hx)
  | const v => exact conV_VR ι S v
  | global g => trivial
  | func f => exact ⟨#[], rfl, trivial⟩

theorem PInv.step {Q : Exit → Act → World → Prop} {K : Act → World → Prop} {S : Nat → Prop} {ι : Nat → Pl} {a : Act} {w : World} {k : Nat} (hc : ∀ j, p ≤ j → j < m → CalmStep P all σ j) (hd : drawOk all = true) (h : PInv g all σ p m S ι a w) (hk : p ≤ k) (hkm : k < m) (hS : ¬ S k)
    (hcl : ∀ j, bef (masks all) j k = true → S j) (hcl2 : ∀ j, S j → bef (masks all) k j ≠ true) (hK : ∀ ι' a' w', PInv g all σ p m (fun j => S j ∨ j = k) ι' a' w' → K a' w') : wpOp P all Q k K a w := by
  obtain ⟨o, v, news, ho, hs, hcase⟩ := hc k hk hkm
  have hreads := h.reads hc hd hk hkm hS ho hcl hcl2
  have hwr : ∀ t, o.dst = some t → ∀ j oj, p ≤ j → j < m → all[j]? = some oj → oj.dst = some t → j ≠ k → (S j ↔ j < k) := by
    intro t hdt j oj _ _ hoj hdj hne
    rcases Nat.lt_or_gt_of_ne hne with hlt | hgt
    · refine ⟨fun _ => hlt, fun _ => ?_⟩
      rcases (drawOk_get hd ho).2 j hlt with hb | ⟨oj', hoj', hap⟩
      · exact hcl j hb
      · rw [hoj] at hoj'; cases hoj'
        exact absurd hdt ((apartB_spec hap).1 t hdj)
    · refine ⟨fun hSj => ?_, fun hh => by omega⟩
      exfalso
      rcases (drawOk_get hd hoj).2 k hgt with hb | ⟨ok, hok, hap⟩
      · exact hcl2 j hSj hb
      · rw [ho] at hok; cases hok
        exact (apartB_spec hap).1 t hdt hdj
  unfold wpOp
  rw [ho]
  simp only
  rcases hcase with ⟨hwant, hcalm⟩ | ⟨hun, rfl, rfl⟩
  · rw [if_pos (wanted_of hwant hreads)]
    left
    exact hcalm ι a w (ops_of_reads hreads) (h.heaps k hk (by omega)) K Q fun ι' c w' hg hv hh =>
      let ⟨ι'', h2⟩ := h.after hc hk hkm hS ho hs hg hv hh hwr
      hK ι'' _ _ h2
  · rw [if_neg (by rw [unwanted_of hun hreads]; simp)]
    obtain ⟨ι'', h2⟩ := h.after hc hk hkm hS ho hs (Grow.none (WX.refl w)) (v := .at .void) (c := undef) rfl (by rw [List.append_nil]; exact h.heaps k hk (by omega)) hwr
    exact hK ι'' _ _ h2

/-- From the beginning of a stretch. -/
theorem PInv.start {S : Nat → Prop} {ι : Nat → Pl} {a : Act} {w : World} (hc : ∀ j, p ≤ j → j < m → CalmStep P all σ j) (hpm : p ≤ m) (h : Rel g ι (σ p) a w) (hS : ∀ j, p ≤ j → ¬ S j) : ∃ ι', PInv g all σ p m S ι' a w := by
  obtain ⟨ι', hlow, hoff⟩ : ∃ ι' : Nat → Pl, (∀ id, id < (σ p).hp.length → ι' id = ι id) ∧ (∀ id, (σ p).hp.length ≤ id → ι' id = .off) :=
    ⟨fun id => if id < (σ p).hp.length then ι id else .off, fun id h => by simp [h], fun id h => by simp [Nat.not_lt.2 h]⟩
  have hlt : ∀ id, ι' id ≠ .off → id < (σ p).hp.length := fun id hn => by
    rcases Nat.lt_or_ge id (σ p).hp.length with h' | h'
    · exact h'
    · exact absurd (hoff id h') hn
  have hheap : ∀ j, p ≤ j → j ≤ m → HR ι' (σ j).hp w := by
    intro j hj hjm id ob hob hn
    have hl := hlt id hn
    rw [seg_get hc (Nat.le_refl _) hj hjm hl] at hob
    refine (h.heap id ob hob (by rw [← hlow id hl]; exact hn)).ext (fun id' hn' => ?_) (hlow id hl) (fun _ _ _ _ _ => rfl)
    exact ⟨hlow id' (shp_lt hn'), seg_shp hc (Nat.le_refl _) hj hjm hn'⟩
  have hon : ∀ id b base room, ι' id = .on b base room → id < (σ p).hp.length ∧ ι id = .on b base room := fun id b base room ho => by
    have hl := hlt id (by rw [ho]; simp)
    exact ⟨hl, by rw [← hlow id hl]; exact ho⟩
  refine ⟨ι', ⟨⟨trivial, rfl, hheap m hpm (Nat.le_refl _), ?_, fun id hid => ?_, fun id ob hob => ?_, h.os, h.tape, h.output, h.size, h.block, ?_⟩, h.len, hheap, by have := h.slots.length; simpa using this.symm, h.defers, fun t => ?_, ?_⟩⟩
  · intro i j oi oj b1 base1 room1 b2 base2 room2 hi hj hij hoi hli hlj h1 h2
    obtain ⟨l1, e1⟩ := hon i _ _ _ h1
    obtain ⟨l2, e2⟩ := hon j _ _ _ h2
    simp only at hi hj
    rw [seg_get hc (Nat.le_refl _) hpm (Nat.le_refl _) l1] at hi
    rw [seg_get hc (Nat.le_refl _) hpm (Nat.le_refl _) l2] at hj
    exact h.inj i j oi oj b1 base1 room1 b2 base2 room2 hi hj hij hoi hli hlj e1 e2
  · have := h.len
    rw [hlow id (by omega)]; exact h.keep id hid
  · obtain ⟨ob', h1, h2⟩ := h.flag id ob hob
    have hl : id < (σ p).hp.length := (List.getElem?_eq_some_iff.1 h1).1
    exact ⟨ob', by simp only; rw [seg_get hc (Nat.le_refl _) hpm (Nat.le_refl _) hl]; exact h1, h2⟩
  · intro id ob b base room hid hob hl ho
    obtain ⟨l1, e1⟩ := hon id _ _ _ ho
    simp only at hob
    rw [seg_get hc (Nat.le_refl _) hpm (Nat.le_refl _) l1] at hob
    exact h.fresh id ob b base room hid hob hl e1
  · refine ⟨p, Nat.le_refl _, hpm, .inl rfl, fun j o hj _ _ _ => ⟨fun hh => absurd hh (hS j hj), fun hh => by omega⟩, ?_⟩
    exact VR.ext (fun id hn => ⟨hlow id (shp_lt hn), rfl⟩) (slots_get h.slots t)
  · intro j id hj hjm _ h1 _
    have := seg_len hc (i := p) (k := j) (Nat.le_refl _) hj (by omega)
    exact hoff id (by omega)

/-- To the end of a stretch. -/
theorem PInv.full {S : Nat → Prop} {ι : Nat → Pl} {a : Act} {w : World} (hc : ∀ j, p ≤ j → j < m → CalmStep P all σ j) (hpm : p ≤ m) (h : PInv g all σ p m S ι a w) (hS : ∀ j, p ≤ j → j < m → S j) : Rel g ι (σ m) a w := by
  refine h.rel.rel (slots_of (by rw [seg_slots hc hpm (Nat.le_refl _)]; exact h.size.symm) fun t => ?_) h.defers
  obtain ⟨i, h1, h2, h3, h4, h5⟩ := h.slots t
  have hsame := seg_slot hc h1 h2 (Nat.le_refl _) (t := t) (fun j oj hj hjm hoj hdj => by
    have := (h4 j oj (by omega) hjm hoj hdj).1 (hS j (by omega) hjm)
    omega) (.at .void)
  rw [hsame]
  exact VR.ext (fun id hn => ⟨rfl, seg_shp hc h1 h2 (Nat.le_refl _) hn⟩) h5

theorem Rel.draw {ι : Nat → Pl} {st : St} {a : Act} {w : World} (h : Rel g ι st a w) (n : Nat) : Rel g ι st a { w with drawn := n } :=
  ⟨h.slots, h.defers, fun id ob h1 h2 => (h.heap id ob h1 h2).ext (fun _ _ => ⟨rfl, rfl⟩) rfl (fun _ _ _ _ _ => rfl), h.inj, h.keep, h.flag, h.os, h.tape, h.output, h.size, h.block, h.fresh⟩

theorem PInv.congr {S S' : Nat → Prop} {ι : Nat → Pl} {a : Act} {w : World} (h : PInv g all σ p m S ι a w) (hs : ∀ j, S j ↔ S' j) : PInv g all σ p m S' ι a w := by
  have : S = S' := funext fun j => propext (hs j)
  subst this
  exact h

/-- Where the next operation stands that may change what is there. -/
theorem next_eff (C E : Nat → Prop) (n : Nat) (h : ∀ j, j < n → C j ∨ E j) : ∀ d p, n - p = d → p ≤ n → ∃ m, p ≤ m ∧ m ≤ n ∧ (∀ j, p ≤ j → j < m → C j) ∧ (m = n ∨ (m < n ∧ E m)) := by
  intro d
  induction d with
  | zero => intro p h1 h2; exact ⟨p, Nat.le_refl _, h2, fun j _ _ => by omega, .inl (by omega)⟩
  | succ d ih =>
    intro p h1 h2
    rcases h p (by omega) with hc | he
    · obtain ⟨m, g1, g2, g3, g4⟩ := ih (p + 1) (by omega) (by omega)
      refine ⟨m, by omega, g2, fun j hj hjm => ?_, g4⟩
      rcases Nat.eq_or_lt_of_le hj with rfl | hlt
      · exact hc
      · exact g3 j hlt hjm
    · exact ⟨p, Nat.le_refl _, h2, fun j _ _ => by omega, .inr ⟨by omega, he⟩⟩

theorem barrier_get {i j : Nat} (h : barrier all i = true) (hj : j < all.size) (hne : i ≠ j) : (j < i → bef (masks all) j i = true) ∧ (i < j → bef (masks all) i j = true) := by
  unfold barrier at h
  have := List.all_eq_true.1 h j (by simpa using hj)
  have hb : Nat.beq i j = false := by
    cases hb : Nat.beq i j with
    | false => rfl
    | true => exact absurd (Nat.eq_of_beq_eq_true hb) hne
  rw [hb] at this
  simp only at this
  refine ⟨fun hlt => ?_, fun hlt => ?_⟩
  · rw [show Nat.blt j i = true by rw [Nat.blt_eq]; exact hlt] at this
    exact this
  · rw [show Nat.blt j i = false by
      cases hq : Nat.blt j i with
      | false => rfl
      | true => rw [Nat.blt_eq] at hq; omega] at this
    exact this

/-- Any order. -/
theorem draw_any {Q : Exit → Act → World → Prop} {n0 : Nat} (hd : drawOk all = true) (hn0 : g.h0.length = n0) (hsteps : ∀ j, j < all.size → CalmStep P all σ j ∨ EffStep P n0 all true σ j) (hQ : ∀ ι a w, Rel g ι (σ all.size) a w → Q .normal a w) :
    ∀ (fuel : Nat) (listed : Array Bool) (a : Act) (w : World) (p m : Nat) (ι : Nat → Pl), listed.size = all.size → listed.toList.countP (fun b => !b) ≤ fuel →
      (∀ j o, listed.getD j false = true → all[j]? = some o → ∀ e ∈ o.after, listed.getD e.on false = true) →
      p ≤ m → m ≤ all.size → (∀ j, p ≤ j → j < m → CalmStep P all σ j) → (m = all.size ∨ (m < all.size ∧ EffStep P n0 all true σ m)) → (∀ j, j < p → listed.getD j false = true) → (∀ j, listed.getD j false = true → j < m) →
      PInv g all σ p m (fun j => listed.getD j false = true) ι a w → wpAny P .any all Q fuel listed a w := by
  intro fuel
  induction fuel with
  | zero =>
    intro listed a w p m ι hsize hcnt hclosed hpm hmn hc hm hlow hhigh h
    have hall : ∀ j, j < all.size → listed.getD j false = true := by
      intro j hj
      have h0 : listed.toList.countP (fun b => !b) = 0 := by omega
      rw [List.countP_eq_zero] at h0
      have hjl : j < listed.size := by omega
      have := h0 listed[j] (by simp [Array.getElem_mem])
      simpa [hjl] using this
    have hmm : m = all.size := by
      rcases hm with hm | ⟨hm, _⟩
      · exact hm
      · have := hhigh m (hall m hm); omega
    refine ⟨?_, ?_⟩
    · rw [List.eq_nil_iff_forall_not_mem]
      intro j hj
      obtain ⟨h1, o, h2, _⟩ := mem_ready.1 hj
      have hjs : j < all.size := (Array.getElem?_eq_some_iff.1 h2).1
      have h3 := hall j hjs
      have hjl : j < listed.size := by omega
      simp [hjl] at h1 h3
      rw [h1] at h3; cases h3
    · subst hmm
      exact hQ ι a w (h.full hc hpm fun j _ hj => hall j hj)
  | succ fuel ih =>
    intro listed a w p m ι hsize hcnt hclosed hpm hmn hc hm hlow hhigh h
    have hbefl : ∀ (j : Nat), ∀ i, listed.getD j false = true → bef (masks all) i j = true → listed.getD i false = true := by
      intro j
      induction j using Nat.strongRecOn with
      | _ j ihj =>
        intro i hl hb
        have hjs : j < all.size := by
          rcases Nat.lt_or_ge j all.size with h' | h'
          · exact h'
          · simp [Array.getElem?_eq_none (show listed.size ≤ j by omega)] at hl
        obtain ⟨e, he, hcase⟩ := bef_edge (Array.getElem?_eq_getElem hjs) hb
        have hle := hclosed j _ hl (Array.getElem?_eq_getElem hjs) e he
        rcases hcase with rfl | ⟨hlt, hb'⟩
        · exact hle
        · exact ihj e.on hlt i hle hb'
    have hready : ∀ k, k ∈ Region.ready .any all listed → ∃ o, all[k]? = some o ∧ listed.getD k false ≠ true ∧ (∀ e ∈ o.after, listed.getD e.on false = true) ∧ ∀ j, bef (masks all) j k = true → listed.getD j false = true := by
      intro k hk
      obtain ⟨h1, o, h2, h3⟩ := mem_ready.1 hk
      have hks : k < all.size := (Array.getElem?_eq_some_iff.1 h2).1
      have hkl : k < listed.size := by omega
      have hall' : ∀ e ∈ o.after, listed.getD e.on false = true := fun e he => h3 e he ((drawOk_get hd h2).1 e he).2
      refine ⟨o, h2, ?_, hall', fun j hb => ?_⟩
      · simp [hkl] at h1 ⊢; exact h1
      · obtain ⟨e, he, hcase⟩ := bef_edge h2 hb
        have hle := hall' e he
        rcases hcase with rfl | ⟨_, hb'⟩
        · exact hle
        · exact hbefl e.on j hle hb'
    refine ⟨fun hnil => ?_, fun k hk => ?_⟩
    · have hall : ∀ j, j < all.size → listed.getD j false = true := by
        intro j
        induction j using Nat.strongRecOn with
        | _ j ihj =>
          intro hj
          cases hl : listed.getD j false with
          | true => rfl
          | false =>
            exfalso
            have hjl : j < listed.size := by omega
            have : j ∈ Region.ready .any all listed := mem_ready.2 ⟨by simpa [hjl] using hl, _, Array.getElem?_eq_getElem hj, fun e he _ => by
              have := ((drawOk_get hd (Array.getElem?_eq_getElem hj)).1 e he).1
              exact ihj e.on this (by omega)⟩
            rw [hnil] at this; cases this
      have hmm : m = all.size := by
        rcases hm with hm | ⟨hm, _⟩
        · exact hm
        · have := hhigh m (hall m hm); omega
      subst hmm
      exact hQ ι a w (h.full hc hpm fun j _ hj => hall j hj)
    · obtain ⟨o, ho, hnl, hall', hbk⟩ := hready k hk
      have hks : k < all.size := (Array.getElem?_eq_some_iff.1 ho).1
      have hkl : k < listed.size := by omega
      have hpk : p ≤ k := by
        rcases Nat.lt_or_ge k p with h' | h'
        · exact absurd (hlow k h') hnl
        · exact h'
      have hset : ∀ j, (listed.setIfInBounds k true).getD j false = true ↔ (listed.getD j false = true ∨ j = k) := by
        intro j
        by_cases hjk : k = j
        · subst hjk
          simp [hkl]
        · rw [getD_set_ne false hjk]
          exact ⟨fun h => .inl h, fun h => h.elim id fun h => absurd h.symm hjk⟩
      have hsize' : (listed.setIfInBounds k true).size = all.size := by simpa using hsize
      have hcnt' : (listed.setIfInBounds k true).toList.countP (fun b => !b) ≤ fuel := by
        rw [Array.toList_setIfInBounds, List.countP_set (by simpa using hkl)]
        have hlk : listed[k] = false := by simpa [hkl] using hnl
        have hpos : 0 < listed.toList.countP (fun b => !b) := by
          rw [List.countP_pos_iff]
          exact ⟨listed[k], by simp [Array.getElem_mem], by simp [hlk]⟩
        simp [hlk]
        simp at hcnt
        omega
      have hclosed' : ∀ j oj, (listed.setIfInBounds k true).getD j false = true → all[j]? = some oj → ∀ e ∈ oj.after, (listed.setIfInBounds k true).getD e.on false = true := by
        intro j oj hj hoj e he
        rw [hset] at hj ⊢
        left
        rcases hj with hj | rfl
        · exact hclosed j oj hj hoj e he
        · rw [ho] at hoj; cases hoj
          exact hall' e he
      rcases Nat.lt_or_ge k m with hkm | hkm
      · refine h.step hc hd hpk hkm hnl hbk (fun j hj hb => hnl (hbefl j k hj hb)) fun ι' a' w' h' => ?_
        exact ih _ a' w' p m ι' hsize' hcnt' hclosed' hpm hmn hc hm (fun j hj => (hset j).2 (.inl (hlow j hj))) (fun j hj => by
          rcases (hset j).1 hj with h | h
          · exact hhigh j h
          · omega) (h'.congr fun j => (hset j).symm)
      · rcases hm with hm | ⟨hm, heff⟩
        · omega
        · obtain ⟨oe, hoe, hwant, hop, hbar, _⟩ := heff
          have hbar := hbar rfl
          have hkmeq : k = m := by
            rcases Nat.eq_or_lt_of_le hkm with h' | h'
            · exact h'.symm
            · have := hhigh m (hbk m ((barrier_get hbar hks (by omega)).2 h'))
              omega
          subst hkmeq
          rw [ho] at hoe; cases hoe
          have hfull : ∀ j, j < k → listed.getD j false = true := fun j hj => hbk j ((barrier_get hbar (by omega) (by omega)).1 hj)
          have hrel := h.full hc hpm fun j _ hj => hfull j hj
          have hreads : ∀ d ∈ reads all o, VR ι (shp (σ k).hp) ((σ k).sl.getD d (.at .void)) (a.tmps.getD d undef) := fun d _ => slots_get hrel.slots d
          unfold wpOp
          rw [ho]
          simp only
          rw [if_pos (wanted_of hwant hreads)]
          left
          refine hop g ι a w hn0 hrel _ Q fun ι' a' w' h' => ?_
          obtain ⟨m', g1, g2, g3, g4⟩ := next_eff (CalmStep P all σ) (EffStep P n0 all true σ) all.size hsteps _ (k + 1) rfl (by omega)
          obtain ⟨ι'', h''⟩ := PInv.start (S := fun j => (listed.setIfInBounds k true).getD j false = true) g3 g1 h' (fun j hj hh => by
            rcases (hset j).1 hh with h | h
            · have := hhigh j h; omega
            · omega)
          exact ih _ a' w' (k + 1) m' ι'' hsize' hcnt' hclosed' g1 g2 g3 g4 (fun j hj => (hset j).2 (by
            rcases Nat.eq_or_lt_of_le (Nat.le_of_lt_succ hj) with h | h
            · exact .inr h
            · exact .inl (hfull j h))) (fun j hj => by
            rcases (hset j).1 hj with h | h
            · have := hhigh j h; omega
            · omega) h''

/-- A region whose order is drawn. -/
theorem region_draw {Q : Exit → Act → World → Prop} {n0 id : Nat} {ι : Nat → Pl} {a : Act} {w : World} (hmix : P.follows .mixedOrders = true) (hd : drawOk all = true) (hn0 : g.h0.length = n0) (hsteps : ∀ j, j < all.size → CalmStep P all σ j ∨ EffStep P n0 all true σ j)
    (hQ : ∀ ι a w, Rel g ι (σ all.size) a w → Q .normal a w) (h : Rel g ι (σ 0) a w) : (Code.region id all true).wp P Q a w := by
  refine wp_region_any hmix ?_
  obtain ⟨m', g1, g2, g3, g4⟩ := next_eff (CalmStep P all σ) (EffStep P n0 all true σ) all.size hsteps _ 0 rfl (by omega)
  have hnone : ∀ j, (Array.replicate all.size false).getD j false ≠ true := by
    intro j
    rcases Nat.lt_or_ge j all.size with h' | h'
    · simp [h']
    · simp [Array.getElem?_eq_none (show (Array.replicate all.size false).size ≤ j by simpa using h')]
  obtain ⟨ι'', h''⟩ := PInv.start (S := fun j => (Array.replicate all.size false).getD j false = true) g3 g1 (h.draw _) (fun j _ hh => hnone j hh)
  exact draw_any hd hn0 hsteps hQ all.size _ a _ 0 m' ι'' (by simp) (by simpa using List.countP_le_length (p := fun b => !b) (l := List.replicate all.size false)) (fun j o hj => absurd hj (hnone j)) g1 g2 g3 g4 (fun j hj => by omega) (fun j hj => absurd hj (hnone j)) h''
end Go.Fx
