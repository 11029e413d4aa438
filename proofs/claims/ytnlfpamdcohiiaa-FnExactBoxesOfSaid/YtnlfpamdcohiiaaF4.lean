/- What the other texts of this claim stand on: an evaluator of loaded code, and floats. -/
import Derived.LoopN
import Derived.Laws.Sem
import Derived.Lib.LazyBuf
import Derived.ProofKit
import Derived.Laws.Cover2
import Derived.Laws.Runes
import Derived.ChangeShapes
import Derived.DataReads
import Derived.DataElems
import Derived.Test.YtnlfpamdcohiiaaF2
/- Regions whose order is drawn, with stores that no order binds to what computes other things. -/
namespace Go.Fx
variable {P : Program} {g : Beg} {all : Array Oper} {σ : Nat → St} {n0 : Nat}

def StoreAt (all : Array Oper) (s : Nat) : Prop := ∃ o, all[s]? = some o ∧ isStore o = true

structure Stage (all : Array Oper) (j i : Nat) : Prop where
  le : i ≤ all.size
  pre : ∀ s, StoreAt all s → bef (masks all) s j = true → s < i
  post : ∀ s, StoreAt all s → bef (masks all) j s = true → i ≤ s

def Alike (o : Oper) (sl sl' : List V) : Prop := ∀ x ∈ o.op.operands, evA sl' x = evA sl x

def MixStep (P : Program) (n0 : Nat) (all : Array Oper) (σ : Nat → St) (j : Nat) : Prop :=
  ∃ o v hp', all[j]? = some o ∧ o.guard = none ∧ σ (j + 1) = ⟨put (σ j).sl o.dst v, hp'⟩ ∧
    ((isStore o = false ∧ hp' = (σ j).hp ∧ ∀ i, Stage all j i → ∀ sl', Alike o (σ j).sl sl' → EffOp P n0 o ⟨sl', (σ i).hp⟩ ⟨put sl' o.dst v, (σ i).hp⟩) ∨
     (isStore o = true ∧ (∀ s, StoreAt all s → s ≠ j → bef (masks all) s j = true ∨ bef (masks all) j s = true) ∧ ∀ sl', Alike o (σ j).sl sl' → EffOp P n0 o ⟨sl', (σ j).hp⟩ ⟨put sl' o.dst v, hp'⟩))

structure MInv (all : Array Oper) (σ : Nat → St) (S : Nat → Prop) (sl : List V) (i : Nat) : Prop where
  len : sl.length = (σ 0).sl.length
  le : i ≤ all.size
  stores : ∀ s, StoreAt all s → (S s ↔ s < i)
  slots : ∀ t : Nat, ∃ e, e ≤ all.size ∧ (e = 0 ∨ ∃ j o, e = j + 1 ∧ S j ∧ all[j]? = some o ∧ o.dst = some t) ∧ (∀ j o, all[j]? = some o → o.dst = some t → (S j ↔ j < e)) ∧ sl.getD t (.at .void) = (σ e).sl.getD t (.at .void)

section
variable (hs : ∀ j, j < all.size → MixStep P n0 all σ j)
include hs

theorem mix_len {k : Nat} (hk : k ≤ all.size) : (σ k).sl.length = (σ 0).sl.length := by
  induction k with
  | zero => rfl
  | succ k ih =>
    obtain ⟨o, v, hp', _, _, h, _⟩ := hs k (by omega)
    rw [h]; simp only; rw [put_length]; exact ih (by omega)

theorem mix_slot {i k t : Nat} (h2 : i ≤ k) (h3 : k ≤ all.size) (hw : ∀ j o, i ≤ j → j < k → all[j]? = some o → o.dst ≠ some t) (x : V) : (σ k).sl.getD t x = (σ i).sl.getD t x := by
  induction k with
  | zero => obtain rfl : i = 0 := by omega
            rfl
  | succ k ih =>
    rcases Nat.lt_or_ge k i with h | h
    · obtain rfl : i = k + 1 := by omega
      rfl
    · obtain ⟨o, v, hp', ho, _, hq, _⟩ := hs k (by omega)
      rw [hq]
      simp only
      rw [put_getD (hw k o h (by omega) ho)]
      exact ih h (by omega) fun j o hj hjk => hw j o hj (by omega)

theorem mix_heap {i k : Nat} (h2 : i ≤ k) (h3 : k ≤ all.size) (hw : ∀ j, i ≤ j → j < k → ¬ StoreAt all j) : (σ k).hp = (σ i).hp := by
  induction k with
  | zero => obtain rfl : i = 0 := by omega
            rfl
  | succ k ih =>
    rcases Nat.lt_or_ge k i with h | h
    · obtain rfl : i = k + 1 := by omega
      rfl
    · obtain ⟨o, v, hp', ho, _, hq, hc⟩ := hs k (by omega)
      rcases hc with ⟨_, hh, _⟩ | ⟨h1, _⟩
      · rw [hq]; simp only; rw [hh]
        exact ih h (by omega) fun j hj hjk => hw j hj (by omega)
      · exact absurd ⟨o, ho, h1⟩ (hw k h (by omega))

theorem mix_heap2 {i k : Nat} (h1 : i ≤ all.size) (h3 : k ≤ all.size) (hw : ∀ j, StoreAt all j → (j < i ↔ j < k)) : (σ k).hp = (σ i).hp := by
  rcases Nat.le_total i k with h | h
  · exact mix_heap hs h h3 fun j hj hjk hst => by have := (hw j hst).2 hjk; omega
  · exact (mix_heap hs h h1 fun j hj hjk hst => by have := (hw j hst).1 hjk; omega).symm

theorem MInv.reads {S : Nat → Prop} {sl : List V} {i k : Nat} {o : Oper} (hd : drawOk all = true) (h : MInv all σ S sl i) (hS : ¬ S k) (ho : all[k]? = some o)
    (hcl : ∀ j, bef (masks all) j k = true → S j) (hcl2 : ∀ j, S j → bef (masks all) k j ≠ true) : ∀ t ∈ reads all o, sl.getD t (.at .void) = (σ k).sl.getD t (.at .void) := by
  intro t ht
  have hks : k < all.size := (Array.getElem?_eq_some_iff.1 ho).1
  obtain ⟨e, h2, h3, h4, h5⟩ := h.slots t
  have hw : ∀ j oj, all[j]? = some oj → oj.dst = some t → (j < k ↔ j < e) := by
    intro j oj hoj hdj
    rw [← h4 j oj hoj hdj]
    constructor
    · intro hjk
      rcases (drawOk_get hd ho).2 j hjk with hb | ⟨oj', hoj', hap⟩
      · exact hcl j hb
      · rw [hoj] at hoj'; cases hoj'
        exact absurd ht ((apartB_spec hap).2.1 t hdj)
    · intro hSj
      rcases Nat.lt_or_ge j k with hlt | hge
      · exact hlt
      · exfalso
        have hne : j ≠ k := fun e => hS (e ▸ hSj)
        rcases (drawOk_get hd hoj).2 k (by omega) with hb | ⟨ok, hok, hap⟩
        · exact hcl2 j hSj hb
        · rw [ho] at hok; cases hok
          exact (apartB_spec hap).2.2 t hdj ht
  have hek : e ≤ k := by
    rcases h3 with rfl | ⟨j, oj, rfl, hSj, hoj, hdj⟩
    · exact Nat.zero_le _
    · have := (hw j oj hoj hdj).2 (by omega)
      omega
  rw [h5]
  exact (mix_slot hs hek (by omega) (t := t) (fun j oj hj hjk hoj hdj => by
    have := (hw j oj hoj hdj).1 hjk
    omega) (.at .void)).symm

theorem MInv.after {S : Nat → Prop} {sl : List V} {i k : Nat} {o : Oper} {v : V} {hp' : List Ob} (hd : drawOk all = true) (h : MInv all σ S sl i) (hS : ¬ S k) (ho : all[k]? = some o) (hσ : σ (k + 1) = ⟨put (σ k).sl o.dst v, hp'⟩)
    (hcl : ∀ j, bef (masks all) j k = true → S j) (hcl2 : ∀ j, S j → bef (masks all) k j ≠ true) {i' : Nat} (hi : i' ≤ all.size) (hst : ∀ s, StoreAt all s → ((S s ∨ s = k) ↔ s < i')) :
    MInv all σ (fun j => S j ∨ j = k) (put sl o.dst v) i' := by
  have hks : k < all.size := (Array.getElem?_eq_some_iff.1 ho).1
  have hwr : ∀ t : Nat, o.dst = some t → ∀ j oj, all[j]? = some oj → oj.dst = some t → j ≠ k → (S j ↔ j < k) := by
    intro t hdt j oj hoj hdj hne
    rcases Nat.lt_or_gt_of_ne hne with hlt | hgt
    · refine ⟨fun _ => hlt, fun _ => ?_⟩
      rcases (drawOk_get hd ho).2 j hlt with hb | ⟨oj', hoj', hap⟩
      · exact hcl j hb
      · rw [hoj] at hoj'; cases hoj'
        exact absurd hdt ((apartB_spec hap).1 t hdj)
    · refine ⟨fun hSj => ?_, fun hh => by omega⟩
      exfalso
      rcases (drawOk_get hd hoj).2 k hgt with hb | ⟨ok, hok, hap⟩
      · exact hcl2 j hSj hb
      · rw [ho] at hok; cases hok
        exact (apartB_spec hap).1 t hdt hdj
  refine ⟨by rw [put_length]; exact h.len, hi, hst, fun t => ?_⟩
  by_cases hdt : o.dst = some t
  · refine ⟨k + 1, by omega, .inr ⟨k, o, rfl, .inr rfl, ho, hdt⟩, fun j oj hoj hdj => ?_, ?_⟩
    · by_cases hjk : j = k
      · subst hjk; simp
      · have := hwr t hdt j oj hoj hdj hjk
        simp only [hjk, or_false]
        exact this.trans ⟨fun h => by omega, fun h => by omega⟩
    · rw [hσ, hdt]
      simp only [put, List.getD_eq_getElem?_getD, List.getElem?_set]
      have e1 := mix_len hs (k := k) (by omega)
      have e2 := h.len
      by_cases ht : t < sl.length
      · simp [ht, show t < (σ k).sl.length by omega]
      · simp [show ¬ t < sl.length from ht, show ¬ t < (σ k).sl.length by omega]
  · obtain ⟨e, h1, h3, h4, h5⟩ := h.slots t
    refine ⟨e, h1, ?_, fun j oj hoj hdj => ?_, ?_⟩
    · rcases h3 with h3 | ⟨j, oj, h6, h7, h8⟩
      · exact .inl h3
      · exact .inr ⟨j, oj, h6, .inl h7, h8⟩
    · have hjk : j ≠ k := by rintro rfl; rw [ho] at hoj; cases hoj; exact hdt hdj
      simp only [hjk, or_false]
      exact h4 j oj hoj hdj
    · rw [put_getD hdt]; exact h5

theorem MInv.full {S : Nat → Prop} {sl : List V} {i : Nat} (h : MInv all σ S sl i) (hS : ∀ j, j < all.size → S j) : sl = (σ all.size).sl ∧ (σ i).hp = (σ all.size).hp := by
  constructor
  · have hl : sl.length = (σ all.size).sl.length := by rw [mix_len hs (Nat.le_refl _)]; exact h.len
    refine List.ext_getElem hl fun t h1 h2 => ?_
    obtain ⟨e, g1, g3, g4, g5⟩ := h.slots t
    have := mix_slot hs g1 (Nat.le_refl _) (t := t) (fun j oj hj hjm hoj hdj => by
      have := (g4 j oj hoj hdj).1 (hS j hjm)
      omega) (.at .void)
    rw [← g5] at this
    simpa [List.getD_eq_getElem?_getD, h1, h2] using this.symm
  · refine (mix_heap2 hs h.le (Nat.le_refl _) fun j hst => ?_).symm
    have hj : j < all.size := by obtain ⟨o, ho, _⟩ := hst; exact (Array.getElem?_eq_some_iff.1 ho).1
    exact ⟨fun _ => hj, fun _ => (h.stores j hst).1 (hS j hj)⟩
end

theorem alike_of {o : Oper} {sl sl' : List V} (h : ∀ t ∈ reads all o, sl'.getD t (.at .void) = sl.getD t (.at .void)) : Alike o sl sl' := by
  intro x hx
  cases x with
  | tmp t => exact h t (tmp_read hx)
  | _ => rfl

theorem mix_any {Q : Exit → Act → World → Prop} (hd : drawOk all = true) (hn0 : g.h0.length = n0) (hs : ∀ j, j < all.size → MixStep P n0 all σ j) (hQ : ∀ ι a w, Rel g ι (σ all.size) a w → Q .normal a w) :
    ∀ (fuel : Nat) (listed : Array Bool) (a : Act) (w : World) (ι : Nat → Pl) (sl : List V) (i : Nat), listed.size = all.size → listed.toList.countP (fun b => !b) ≤ fuel →
      (∀ j o, listed.getD j false = true → all[j]? = some o → ∀ e ∈ o.after, bindsB e = true → listed.getD e.on false = true) →
      MInv all σ (fun j => listed.getD j false = true) sl i → Rel g ι ⟨sl, (σ i).hp⟩ a w → wpAny P .any all Q fuel listed a w := by
  intro fuel
  induction fuel with
  | zero =>
    intro listed a w ι sl i hsize hcnt hclosed hM h
    have hall : ∀ j, j < all.size → listed.getD j false = true := by
      intro j hj
      have h0 : listed.toList.countP (fun b => !b) = 0 := by omega
      rw [List.countP_eq_zero] at h0
      have hjl : j < listed.size := by omega
      have := h0 listed[j] (by simp [Array.getElem_mem])
      simpa [hjl] using this
    refine ⟨?_, ?_⟩
    · rw [List.eq_nil_iff_forall_not_mem]
      intro j hj
      obtain ⟨h1, o, h2, _⟩ := mem_ready.1 hj
      have hjs : j < all.size := (Array.getElem?_eq_some_iff.1 h2).1
      have h3 := hall j hjs
      have hjl : j < listed.size := by omega
      simp [hjl] at h1 h3
      rw [h1] at h3; cases h3
    · obtain ⟨e1, e2⟩ := hM.full hs hall
      rw [e1, e2] at h
      exact hQ ι a w h
  | succ fuel ih =>
    intro listed a w ι sl i hsize hcnt hclosed hM h
    have hls : ∀ j, listed.getD j false = true → j < all.size := by
      intro j hl
      rcases Nat.lt_or_ge j all.size with h' | h'
      · exact h'
      · simp [Array.getElem?_eq_none (show listed.size ≤ j by omega)] at hl
    have hbefl : ∀ (j : Nat), ∀ i, listed.getD j false = true → bef (masks all) i j = true → listed.getD i false = true := by
      intro j
      induction j using Nat.strongRecOn with
      | _ j ihj =>
        intro i hl hb
        have hjs := hls j hl
        obtain ⟨e, he, hbe, hcase⟩ := bef_edge (Array.getElem?_eq_getElem hjs) hb
        have hle := hclosed j _ hl (Array.getElem?_eq_getElem hjs) e he hbe
        rcases hcase with rfl | ⟨hlt, hb'⟩
        · exact hle
        · exact ihj e.on hlt i hle hb'
    refine ⟨fun hnil => ?_, fun k hk => ?_⟩
    · have hall : ∀ j, j < all.size → listed.getD j false = true := by
        intro j
        induction j using Nat.strongRecOn with
        | _ j ihj =>
          intro hj
          cases hl : listed.getD j false with
          | true => rfl
          | false =>
            exfalso
            have hjl : j < listed.size := by omega
            have : j ∈ Region.ready .any all listed := mem_ready.2 ⟨by simpa [hjl] using hl, _, Array.getElem?_eq_getElem hj, fun e he hbe => by
              have := (drawOk_get hd (Array.getElem?_eq_getElem hj)).1 e he hbe
              exact ihj e.on this (by omega)⟩
            rw [hnil] at this; cases this
      obtain ⟨e1, e2⟩ := hM.full hs hall
      rw [e1, e2] at h
      exact hQ ι a w h
    · obtain ⟨h1, o, ho, h3⟩ := mem_ready.1 hk
      have hks : k < all.size := (Array.getElem?_eq_some_iff.1 ho).1
      have hkl : k < listed.size := by omega
      have hnl : ¬ listed.getD k false = true := by
        simp [hkl] at h1 ⊢; exact h1
      have hall' : ∀ e ∈ o.after, bindsB e = true → listed.getD e.on false = true := fun e he hb => h3 e he (by rw [← bindsB_eq]; exact hb)
      have hbk : ∀ j, bef (masks all) j k = true → listed.getD j false = true := fun j hb => by
        obtain ⟨e, he, hbe, hcase⟩ := bef_edge ho hb
        have hle := hall' e he hbe
        rcases hcase with rfl | ⟨_, hb'⟩
        · exact hle
        · exact hbefl e.on j hle hb'
      have hkb : ∀ j, listed.getD j false = true → bef (masks all) k j ≠ true := fun j hj hb => hnl (hbefl j k hj hb)
      have hset : ∀ j, (listed.setIfInBounds k true).getD j false = true ↔ (listed.getD j false = true ∨ j = k) := by
        intro j
        by_cases hjk : k = j
        · subst hjk
          simp [hkl]
        · rw [getD_set_ne false hjk]
          exact ⟨fun h => .inl h, fun h => h.elim id fun h => absurd h.symm hjk⟩
      have hsize' : (listed.setIfInBounds k true).size = all.size := by simpa using hsize
      have hcnt' : (listed.setIfInBounds k true).toList.countP (fun b => !b) ≤ fuel := by
        rw [Array.toList_setIfInBounds, List.countP_set (by simpa using hkl)]
        have hlk : listed[k] = false := by simpa [hkl] using hnl
        have hpos : 0 < listed.toList.countP (fun b => !b) := by
          rw [List.countP_pos_iff]
          exact ⟨listed[k], by simp [Array.getElem_mem], by simp [hlk]⟩
        simp [hlk]
        simp at hcnt
        omega
      have hclosed' : ∀ j oj, (listed.setIfInBounds k true).getD j false = true → all[j]? = some oj → ∀ e ∈ oj.after, bindsB e = true → (listed.setIfInBounds k true).getD e.on false = true := by
        intro j oj hj hoj e he hbe
        refine (hset _).2 (.inl ?_)
        rcases (hset j).1 hj with hj | rfl
        · exact hclosed j oj hj hoj e he hbe
        · rw [ho] at hoj; cases hoj
          exact hall' e he hbe
      obtain ⟨o', v, hp', ho', hg, hσ, hcase⟩ := hs k hks
      rw [ho] at ho'; cases ho'
      have hrd := hM.reads hs hd hnl ho hbk hkb
      have hal : Alike o (σ k).sl sl := alike_of hrd
      have hcongr : ∀ sl2 i2, MInv all σ (fun j => listed.getD j false = true ∨ j = k) sl2 i2 → MInv all σ (fun j => (listed.setIfInBounds k true).getD j false = true) sl2 i2 := by
        intro sl2 i2 hh
        have : (fun j => (listed.setIfInBounds k true).getD j false = true) = (fun j => listed.getD j false = true ∨ j = k) := funext fun j => propext (hset j)
        rw [this]; exact hh
      unfold wpOp
      rw [ho]
      simp only
      rw [if_pos (by unfold Region.wanted; rw [hg])]
      left
      rcases hcase with ⟨hns, hhp, hop⟩ | ⟨hst, hord, hop⟩
      · have hstage : Stage all k i := ⟨hM.le, fun s hs1 hb => (hM.stores s hs1).1 (hbk s hb), fun s hs1 hb => by
          rcases Nat.lt_or_ge s i with hlt | hge
          · exact absurd hb (hkb s ((hM.stores s hs1).2 hlt))
          · exact hge⟩
        refine hop i hstage sl hal g ι a w hn0 h _ Q fun ι' a' w' h' _ => ?_
        refine ih _ a' w' ι' _ i hsize' hcnt' hclosed' (hcongr _ _ (hM.after hs hd hnl ho hσ hbk hkb hM.le fun s hs1 => ?_)) h'
        have hne : s ≠ k := by rintro rfl; obtain ⟨o2, h5, h6⟩ := hs1; rw [ho] at h5; cases h5; rw [hns] at h6; cases h6
        simp only [hne, or_false]
        exact hM.stores s hs1
      · have hmem : ∀ s, StoreAt all s → s ≠ k → (s < i ↔ s < k) := fun s hs1 hne => by
          have hss : s < all.size := by obtain ⟨o2, h5, _⟩ := hs1; exact (Array.getElem?_eq_some_iff.1 h5).1
          rcases hord s hs1 hne with hb | hb
          · exact ⟨fun _ => bef_lt hd k s hks hb, fun _ => (hM.stores s hs1).1 (hbk s hb)⟩
          · have h5 := bef_lt hd s k hss hb
            refine ⟨fun hlt => absurd hb (hkb s ((hM.stores s hs1).2 hlt)), fun hlt => by omega⟩
        have hki : ¬ k < i := fun hlt => hnl ((hM.stores k ⟨o, ho, hst⟩).2 hlt)
        have hheap : (σ k).hp = (σ i).hp := mix_heap2 hs hM.le (by omega) fun j hj => by
          by_cases hjk : j = k
          · subst hjk; exact ⟨fun h => absurd h hki, fun h => by omega⟩
          · exact hmem j hj hjk
        rw [← hheap] at h
        refine hop sl hal g ι a w hn0 h _ Q fun ι' a' w' h' _ => ?_
        have e1 : hp' = (σ (k + 1)).hp := by rw [hσ]
        rw [e1] at h'
        refine ih _ a' w' ι' _ (k + 1) hsize' hcnt' hclosed' (hcongr _ _ (hM.after hs hd hnl ho hσ hbk hkb (by omega) fun s hs1 => ?_)) h'
        by_cases hne : s = k
        · subst hne; simp
        · simp only [hne, or_false]
          rw [hM.stores s hs1, hmem s hs1 hne]; omega

theorem region_mix {Q : Exit → Act → World → Prop} {id : Nat} {ι : Nat → Pl} {a : Act} {w : World} (hmix : P.follows .mixedOrders = true) (hd : drawOk all = true) (hn0 : g.h0.length = n0) (hs : ∀ j, j < all.size → MixStep P n0 all σ j)
    (hQ : ∀ ι a w, Rel g ι (σ all.size) a w → Q .normal a w) (h : Rel g ι (σ 0) a w) : (Code.region id all true).wp P Q a w := by
  refine wp_region_any hmix ?_
  have hnone : ∀ j, (Array.replicate all.size false).getD j false ≠ true := by
    intro j
    rcases Nat.lt_or_ge j all.size with h' | h'
    · simp [h']
    · simp [Array.getElem?_eq_none (show (Array.replicate all.size false).size ≤ j by simpa using h')]
  refine mix_any hd hn0 hs hQ all.size _ a _ ι (σ 0).sl 0 (by simp) (by simpa using List.countP_le_length (p := fun b => !b) (l := List.replicate all.size false)) (fun j o hj => absurd hj (hnone j)) ?_ (h.draw _)
  exact ⟨rfl, Nat.zero_le _, fun s _ => ⟨fun hh => absurd hh (hnone s), fun hh => by omega⟩, fun t => ⟨0, Nat.zero_le _, .inl rfl, fun j o _ _ => ⟨fun hh => absurd hh (hnone j), fun hh => by omega⟩, rfl⟩⟩
end Go.Fx

/- What the evaluator finds in a region with stores among unordered operations. -/
namespace Go.Fx
variable {P : Program} {cx : Cx} {all : Array Oper} {σ : Nat → St} {n0 : Nat}

theorem CalmOp.alike {o : Oper} {sl sl' : List V} {hp : List Ob} {v : V} {news : List Ob} (h : CalmOp P o sl hp v news) (ha : Alike o sl sl') : CalmOp P o sl' hp v news :=
  fun ι a w hops hh K Q hK => h ι a w (fun x hx => by have := hops x hx; rw [ha x hx] at this; exact this) hh K Q hK

theorem CalmOp.eff' {o : Oper} {sl sl' : List V} {hp : List Ob} {v : V} (h : CalmOp P o sl hp v []) (ha : Alike o sl sl') : EffOp P n0 o ⟨sl', hp⟩ ⟨put sl' o.dst v, hp⟩ := by
  have := (h.alike ha).eff (n0 := n0) (st := ⟨sl', hp⟩)
  simpa using this

section
variable {o : Oper} {sl : List V} {hp : List Ob} {α : Type} {k : V → Option α} {r : α}
theorem s_free (hC : CxOK P cx) (hf : freeOp o = true) (h : calm cx o sl hp (fun v _ => k v) (fun _ _ => none) = some r) : ∃ v, k v = some r ∧ ∀ hp', CalmOp P o sl hp' v [] := by
  unfold freeOp at hf
  cases ho : o.op <;> rw [ho] at hf <;> first | cases hf | skip
  case move x => simp only [calm, ho] at h; exact ⟨_, h, fun hp' => calm_move (.inl ho)⟩
  case assign x => simp only [calm, ho] at h; exact ⟨_, h, fun hp' => calm_move (.inr ho)⟩
  case nilCheck x =>
    simp only [calm, ho] at h
    split at h
    · rename_i id el off hx; exact ⟨_, h, fun hp' => calm_nilCheck ho hx⟩
    · cases h
  case fieldAddr s x f =>
    simp only [calm, ho] at h
    split at h
    · rename_i fs id el off ht hx
      split at h
      · rename_i d ft hff; exact ⟨_, h, fun hp' => calm_fieldAddr hC.ty ho ht hx hff⟩
      · cases h
    · cases h
  case extract t ix =>
    simp only [calm, ho] at h
    split at h
    · rename_i xs hx
      split at h
      · rename_i x hxx; exact ⟨_, h, fun hp' => calm_extract ho hx hxx⟩
      · cases h
    · cases h
  case unOp op t x =>
    simp only [calm, ho] at h
    split at h
    · rename_i a hx
      rw [hC.F] at h
      obtain ⟨z, hz, hr⟩ := unA_sound (P := P) h
      refine ⟨_, hz, fun hp' => calm_value fun ι a w hops hhr => ?_⟩
      have hvx := hops x (by simp [ho, Op.operands])
      rw [hx] at hvx
      obtain ⟨qv, h1, h2⟩ := hr ι (shp hp') _ w hvx
      exact ⟨qv, 0, by rw [World.drewN_zero]; simp only [execOp, ho, Sem.run_bind, h1, Result.andThen_ok, Sem.run_pure], h2⟩
    · cases h
  case convert src dst x =>
    simp only [calm, ho] at h
    split at h
    · rename_i a hx
      rw [hC.F] at h
      obtain ⟨z, hz, hr⟩ := convA_sound (P := P) hC.ty h
      refine ⟨_, hz, fun hp' => calm_value fun ι a w hops hhr => ?_⟩
      have hvx := hops x (by simp [ho, Op.operands])
      rw [hx] at hvx
      obtain ⟨qv, n, h1, h2⟩ := hr ι (shp hp') _ w hvx
      exact ⟨qv, n, by simp only [execOp, ho, Sem.run_bind, h1, Result.andThen_ok, Sem.run_pure], h2⟩
    · cases h
  case binOp op t x y q =>
    simp only [calm, ho] at h
    split at h
    · rename_i a b hx hy
      rw [hC.F] at h
      obtain ⟨z, hz, hr⟩ := binA_sound (P := P) (t := t) (fun htb => by
        split at htb
        · rename_i hd; exact tyOf_DR hC.ty hd
        · cases htb) h
      refine ⟨_, hz, fun hp' => calm_value fun ι ac w hops hhr => ?_⟩
      have hvx := hops x (by simp [ho, Op.operands])
      have hvy := hops y (by simp [ho, Op.operands])
      rw [hx] at hvx; rw [hy] at hvy
      obtain ⟨qv, n, h1, h2⟩ := hr ι (shp hp') _ _ x y w hvx hvy
      exact ⟨qv, n, by simp only [execOp, ho, Sem.run_bind, h1, Result.andThen_ok, Sem.run_pure], h2⟩
    · rename_i as bs hx hy
      split at h
      · rename_i i hi
        split at h
        · rename_i fs ks hd hks
          rw [chk_some] at h
          obtain ⟨hff, h⟩ := h
          split at h
          · rename_i e he
            rw [hC.F] at he
            split at h
            · exact ⟨_, h, fun hp' => calm_binAgg hC.ty ho hi hd hks hx hy hff he (.inl rfl)⟩
            · exact ⟨_, h, fun hp' => calm_binAgg hC.ty ho hi hd hks hx hy hff he (.inr rfl)⟩
            · cases h
          · cases h
        · cases h
      · cases h
    · cases h

theorem loadOb_at {ob : Ob} {e o n : Nat} {a : A} (h : (obCells ob e)[o]? = some a) : loadOb ob e o n false = some (.at a) := by
  obtain ⟨own, c⟩ := ob
  cases c with
  | dead => simp [obCells] at h
  | mp kd keys => simp [obCells] at h
  | box cs => simp only [obCells] at h; simp [loadOb, h]
  | rows ks xs => simp only [obCells] at h; simp only [loadOb, h]

theorem s_ld {t : TypeId} {x : Operand} (hC : CxOK P cx) (ho : o.op = .load t x) (hs : loadSc cx.ty o = true) (h : calm cx o sl hp (fun v _ => k v) (fun _ _ => none) = some r) :
    ∃ id el off ob a, evA sl x = .at (.ptr id el off) ∧ hp[id]? = some ob ∧ (obCells ob el)[off]? = some a ∧ k (.at a) = some r ∧ ∀ hp' ob', hp'[id]? = some ob' → (obCells ob' el)[off]? = some a → CalmOp P o sl hp' (.at a) [] := by
  simp only [calm, ho] at h
  split at h
  · rename_i id el off i hx hi
    obtain ⟨kd, hag⟩ : ∃ kd, i.d = .sc kd := by
      unfold loadSc at hs
      rw [ho] at hs
      simp only [tyOf, hi] at hs
      split at hs
      · rename_i kd hd
        simp only [Option.some.injEq] at hd
        exact ⟨kd, hd⟩
      · cases hs
    split at h
    · rename_i ob hob
      simp only [hag] at h
      split at h
      · rename_i v hl
        rcases loadOb_eq ob el off i.size false hl with ⟨h1, _⟩ | ⟨_, a, rfl, ha⟩ | ⟨h1, _⟩
        · cases h1
        · refine ⟨id, el, off, ob, a, hx, hob, ha, h, fun hp' ob' hob' ha' => calm_value fun ι ac w hops hhr => ?_⟩
          have hv := hops x (by simp [ho, Op.operands])
          rw [hx] at hv
          have hpr : PR ι (shp hp') id el off (ac.eval x) := hv
          have hoff : ι id ≠ .off := by
            obtain ⟨b, base, room, h1, _⟩ := hpr
            rw [h1]; simp
          obtain ⟨q, h1, h2⟩ := load_sound (P := P) (hC.ty t i hi) (hhr id ob' hob' hoff) (shp_of hob') hpr (v := .at a) (by
            rw [hag]; exact loadOb_at ha')
          exact ⟨q, 0, by rw [World.drewN_zero]; simp [execOp, ho, h1], h2⟩
        · cases h1
      · cases h
    · cases h
  · cases h
end

theorem rowA_getD (ks : List K) (r r' : List Int) (o : Nat) (h : r'.getD o 0 = r.getD o 0) : (rowA ks 0 r')[o]? = (rowA ks 0 r)[o]? := by
  cases hk : ks[o]? with
  | some kd =>
    rw [rowA_get ks 0 r' o kd hk, rowA_get ks 0 r o kd hk, Nat.zero_add, h]
  | none =>
    have hl : ks.length ≤ o := List.getElem?_eq_none_iff.1 hk
    rw [List.getElem?_eq_none (by rw [rowA_length]; exact hl), List.getElem?_eq_none (by rw [rowA_length]; exact hl)]

theorem store_away {ob ob' : Ob} {el el' off off' : Nat} {v : A} (h : storeOb ob el' off' [v] = some ob') (hne : off ≠ off') : (obCells ob' el)[off]? = (obCells ob el)[off]? := by
  obtain ⟨own, c⟩ := ob
  unfold storeOb at h
  cases own with
  | false => simp at h
  | true =>
    have h0 : Nat.blt 0 [v].length = true := rfl
    simp only [h0] at h
    cases c with
    | dead => simp at h
    | mp kd keys => simp at h
    | box cs =>
      simp only at h
      split at h
      · cases h
        simp only [obCells, setFromA]
        rw [List.getElem?_set_ne (fun e => hne e.symm)]
      · cases h
    | rows ks xs =>
      simp only at h
      split at h
      · rename_i ns hns
        have key : ∀ row' : List Int, (row'.getD off 0 = (xs.getD el' []).getD off 0 ∨ ks.length ≤ off) → (obCells ⟨true, .rows ks (xs.set el' row')⟩ el)[off]? = (obCells ⟨true, .rows ks xs⟩ el)[off]? := by
          intro row' hr
          simp only [obCells]
          rcases hr with hr | hr
          · refine rowA_getD ks _ _ off ?_
            by_cases he : el' = el
            · subst he
              by_cases hlt : el' < xs.length
              · have e1 : (xs.set el' row').getD el' [] = row' := by rw [List.getD_eq_getElem?_getD, List.getElem?_set_self hlt]; rfl
                rw [e1]; exact hr
              · rw [List.set_eq_of_length_le (by omega)]
            · rw [List.getD_eq_getElem?_getD (l := xs.set el' row'), List.getElem?_set_ne he, ← List.getD_eq_getElem?_getD]
          · rw [List.getElem?_eq_none (by rw [rowA_length]; exact hr), List.getElem?_eq_none (by rw [rowA_length]; exact hr)]
        have hl1 : ns.length = 1 ∧ ((ks.drop off').take 1).length = 1 := by
          have hh : ∀ (kl : List K) (m : List Int), aInts kl [v] = some m → m.length = 1 ∧ kl.length = 1 := by
            intro kl m hm
            match kl with
            | [] => simp [aInts] at hm
            | [kd] =>
              simp only [aInts] at hm
              split at hm
              · split at hm
                · rename_i hq _; cases hm; simp at *; subst_vars; simp
                · cases hm
              · cases hm
            | _ :: _ :: _ =>
              simp only [aInts] at hm
              split at hm
              · split at hm
                · rename_i hq; simp at hq
                · cases hm
              · cases hm
          exact hh _ _ hns
        split at h
        · rename_i hb
          cases h
          have := Nat.eq_of_beq_eq_true hb
          refine key ns (.inr ?_)
          have h2 := hl1.2
          simp only [List.length_take, List.length_drop] at h2
          omega
        · cases h
          refine key _ (.inl ?_)
          match ns, hl1.1 with
          | [n], _ =>
            simp only [setFrom, List.getD_eq_getElem?_getD]
            rw [List.getElem?_set_ne (fun e => hne e.symm)]
      · obtain ⟨k0, ns, rfl, rfl, rfl, hxl, hns, rfl⟩ := arStore_eq h
        simp only [obCells]
        rw [List.getElem?_eq_none (by rw [rowA_length]; simp; omega), List.getElem?_eq_none (by rw [rowA_length]; simp; omega)]

def RawStep (P : Program) (n0 : Nat) (all : Array Oper) (σ : Nat → St) (j : Nat) : Prop :=
  ∃ o, all[j]? = some o ∧ o.guard = none ∧
    ((isStore o = false ∧ ∃ v, σ (j + 1) = ⟨put (σ j).sl o.dst v, (σ j).hp⟩ ∧
      ((freeOp o = true ∧ ∀ hp', CalmOp P o (σ j).sl hp' v []) ∨
       (freeOp o = false ∧ ∃ t x id el off ob a, o.op = .load t x ∧ evA (σ j).sl x = .at (.ptr id el off) ∧ (σ j).hp[id]? = some ob ∧ (obCells ob el)[off]? = some a ∧ v = .at a ∧
        ∀ hp' ob', hp'[id]? = some ob' → (obCells ob' el)[off]? = some a → CalmOp P o (σ j).sl hp' v []))) ∨
     (isStore o = true ∧ mixBar all j o (σ j).sl = true ∧ ∃ t x y id el off cs ob ob', o.op = .store t x y ∧ evA (σ j).sl x = .at (.ptr id el off) ∧ (evA (σ j).sl y).cells = some cs ∧ (σ j).hp[id]? = some ob ∧ storeOb ob el off cs = some ob' ∧
       σ (j + 1) = ⟨put (σ j).sl o.dst (.at .void), (σ j).hp.set id ob'⟩ ∧ ∀ sl', Alike o (σ j).sl sl' → EffOp P n0 o ⟨sl', (σ j).hp⟩ ⟨put sl' o.dst (.at .void), (σ j).hp.set id ob'⟩))

theorem evMix_raw (hC : CxOK P cx) {α : Type} {r : α} : ∀ (l : List Oper) (i : Nat) (st : St) (k : St → Option α), (∀ j, l[j]? = all[i + j]?) → (∀ o ∈ l, o.guard.isNone = true) → evMix cx n0 all i l st k = some r →
    ∃ σ : Nat → St, σ i = st ∧ k (σ (i + l.length)) = some r ∧ ∀ j, i ≤ j → j < i + l.length → RawStep P n0 all σ j := by
  intro l
  induction l with
  | nil => intro i st k _ _ h; exact ⟨fun _ => st, rfl, by simpa [evMix] using h, fun j h1 h2 => by simp at h2; omega⟩
  | cons o l ih =>
    intro i st k hl hgd h
    have h0 : all[i]? = some o := by simpa using (hl 0).symm
    have hl' : ∀ j, l[j]? = all[i + 1 + j]? := fun j => by have := hl (j + 1); simpa [Nat.add_assoc, Nat.add_comm 1 j] using this
    have hg : o.guard = none := by have := hgd o (by simp); simpa using this
    have done : ∀ st' : St, (∀ σ : Nat → St, σ i = st → σ (i + 1) = st' → RawStep P n0 all σ i) → evMix cx n0 all (i + 1) l st' k = some r →
        ∃ σ : Nat → St, σ i = st ∧ k (σ (i + (o :: l).length)) = some r ∧ ∀ j, i ≤ j → j < i + (o :: l).length → RawStep P n0 all σ j := by
      intro st' hstep hrest
      obtain ⟨σ, g1, g2, g3⟩ := ih (i + 1) st' k hl' (fun o ho => hgd o (by simp [ho])) hrest
      have hσ : ∀ j, i + 1 ≤ j → (fun j => if j = i then st else σ j) j = σ j := fun j hj => by simp [show j ≠ i by omega]
      refine ⟨fun j => if j = i then st else σ j, by simp, ?_, fun j h1 h2 => ?_⟩
      · rw [hσ _ (by simp only [List.length_cons]; omega), show i + (o :: l).length = i + 1 + l.length by simp; omega]; exact g2
      · simp only [List.length_cons] at h2
        rcases Nat.eq_or_lt_of_le h1 with rfl | hlt
        · exact hstep _ (by simp) (by simp [g1])
        · have e1 := hσ j hlt
          have e2 := hσ (j + 1) (by omega)
          have := g3 j hlt (by omega)
          unfold RawStep at *
          rw [e1, e2]; exact this
    unfold evMix at h
    split at h
    · rename_i hst
      rw [chk_some] at h
      obtain ⟨hb, h⟩ := h
      unfold effOp at h
      unfold isStore at hst
      split at hst
      · rename_i t x y ho
        rw [ho] at h
        simp only at h
        split at h
        · rename_i id el off cs i' hx hy hi
          split at h
          · rename_i ob hlen hob
            split at h
            · rename_i ob' hs
              refine done _ (fun σ e1 e2 => ⟨o, h0, hg, .inr ⟨by unfold isStore; rw [ho], by rw [e1]; exact hb, t, x, y, id, el, off, cs, ob, ob', ho, ?_⟩⟩) h
              rw [e1, e2]
              refine ⟨hx, hy, hob, hs, rfl, fun sl' ha => ?_⟩
              have hx' : evA sl' x = .at (.ptr id el off) := by rw [ha x (by rw [ho]; simp [Op.operands])]; exact hx
              have hy' : (evA sl' y).cells = some cs := by rw [ha y (by rw [ho]; simp [Op.operands])]; exact hy
              exact eff_store (st := ⟨sl', st.hp⟩) hC.ty ho hi hx' hy' (Nat.eq_of_beq_eq_true hlen) hob hs
            · cases h
          · cases h
        · cases h
      · cases hst
    · rename_i hst
      rw [chk_some] at h
      obtain ⟨hb, h⟩ := h
      simp only [Bool.and_eq_true, Bool.or_eq_true] at hb
      by_cases hf : freeOp o = true
      · obtain ⟨v, h1, h2⟩ := s_free hC hf h
        exact done _ (fun σ e1 e2 => ⟨o, h0, hg, .inl ⟨hst, v, by rw [e1, e2], .inl ⟨hf, by rw [e1]; exact h2⟩⟩⟩) h1
      · have hls := hb.2.resolve_left hf
        have hld : ∃ t x, o.op = .load t x := by
          unfold loadSc at hls
          split at hls
          · rename_i t x ho; exact ⟨t, x, ho⟩
          · cases hls
        obtain ⟨t, x, ho⟩ := hld
        obtain ⟨id, el, off, ob, a, g1, g2, g3, g4, g5⟩ := s_ld hC ho hls h
        exact done _ (fun σ e1 e2 => ⟨o, h0, hg, .inl ⟨hst, .at a, by rw [e1, e2], .inr ⟨by simpa using hf, t, x, id, el, off, ob, a, ho, by rw [e1]; exact g1, by rw [e1]; exact g2, g3, rfl, by rw [e1]; exact g5⟩⟩⟩) g4

theorem mixBar_get {i j : Nat} {o : Oper} {sl : List V} (h : mixBar all i o sl = true) (hj : j < all.size) (hne : i ≠ j) :
    (j < i → bef (masks all) j i = true ∨ ∀ oj, all[j]? = some oj → freeOp oj = true ∨ mixLoad all i j o oj sl = true) ∧ (i < j → bef (masks all) i j = true) := by
  unfold mixBar at h
  have hb : Nat.beq i j = false := by
    cases hb : Nat.beq i j with
    | false => rfl
    | true => exact absurd (Nat.eq_of_beq_eq_true hb) hne
  have h1 : j < i → Nat.blt j i = true := fun hlt => by rw [Nat.blt_eq]; exact hlt
  have h2 : i < j → Nat.blt j i = false := fun hlt => by
    cases hq : Nat.blt j i with
    | false => rfl
    | true => rw [Nat.blt_eq] at hq; omega
  have := List.all_eq_true.1 h j (by simpa using hj)
  rw [hb] at this
  simp only at this
  refine ⟨fun hlt => ?_, fun hlt => ?_⟩
  · rw [h1 hlt] at this
    simp only [Bool.or_eq_true] at this
    rcases this with h | h
    · exact .inl h
    · refine .inr fun oj hoj => ?_
      rw [hoj] at h
      simpa [Bool.or_eq_true] using h
  · rw [h2 hlt] at this; exact this

theorem raw_mix (hr : ∀ j, j < all.size → RawStep P n0 all σ j) : ∀ j, j < all.size → MixStep P n0 all σ j := by
  have hslot : ∀ {i k t : Nat}, i ≤ k → k ≤ all.size → (∀ m om, i ≤ m → m < k → all[m]? = some om → om.dst ≠ some t) → (σ k).sl.getD t (.at .void) = (σ i).sl.getD t (.at .void) := by
    intro i k t h1 h2 hw
    induction k with
    | zero => obtain rfl : i = 0 := by omega
              rfl
    | succ k ih =>
      rcases Nat.lt_or_ge k i with h | h
      · obtain rfl : i = k + 1 := by omega
        rfl
      · obtain ⟨o, ho, _, hc⟩ := hr k (by omega)
        have hσ : ∃ v hp', σ (k + 1) = ⟨put (σ k).sl o.dst v, hp'⟩ := by
          rcases hc with ⟨_, v, h, _⟩ | ⟨_, _, t, x, y, id, el, off, cs, ob, ob', _, _, _, _, _, h, _⟩
          · exact ⟨_, _, h⟩
          · exact ⟨_, _, h⟩
        obtain ⟨v, hp', hσ⟩ := hσ
        rw [hσ]
        simp only
        rw [put_getD (hw k o h (by omega) ho)]
        exact ih h (by omega) fun j o hj hjk => hw j o hj (by omega)
  have hheap : ∀ {i k : Nat}, i ≤ k → k ≤ all.size → (∀ m, i ≤ m → m < k → ¬ StoreAt all m) → (σ k).hp = (σ i).hp := by
    intro i k h1 h2 hw
    induction k with
    | zero => obtain rfl : i = 0 := by omega
              rfl
    | succ k ih =>
      rcases Nat.lt_or_ge k i with h | h
      · obtain rfl : i = k + 1 := by omega
        rfl
      · obtain ⟨o, ho, _, hc⟩ := hr k (by omega)
        rcases hc with ⟨_, v, hσ, _⟩ | ⟨hst, _⟩
        · rw [hσ]; exact ih h (by omega) fun j hj hjk => hw j hj (by omega)
        · exact absurd ⟨o, ho, hst⟩ (hw k h (by omega))
  intro j hj
  obtain ⟨o, ho, hg, hc⟩ := hr j hj
  rcases hc with ⟨hns, v, hσ, hc⟩ | ⟨hst, hbar, t, x, y, id, el, off, cs, ob, ob', _, _, _, _, _, hσ, heff⟩
  · refine ⟨o, v, (σ j).hp, ho, hg, hσ, .inl ⟨hns, rfl, fun i hi sl' ha => ?_⟩⟩
    rcases hc with ⟨_, hcalm⟩ | ⟨hnf, t, x, id, el, off, ob, a, hop, hx, hob, hcell, rfl, hcalm⟩
    · exact (hcalm _).eff' ha
    · have hsame : ∃ ob', (σ i).hp[id]? = some ob' ∧ (obCells ob' el)[off]? = some a := by
        rcases Nat.le_total i j with hij | hij
        · refine ⟨ob, ?_, hcell⟩
          rw [← hheap hij (by omega) fun m hm hmj hsm => ?_]
          · exact hob
          · obtain ⟨om, hom, hsom⟩ := hsm
            obtain ⟨om', hom', _, hcm⟩ := hr m (by omega)
            rw [hom] at hom'; cases hom'
            rcases hcm with ⟨h1, _⟩ | ⟨_, hbm, _⟩
            · rw [hsom] at h1; cases h1
            · have := (mixBar_get hbm hj (by omega)).2 hmj
              have := hi.pre m ⟨om, hom, hsom⟩ this
              omega
        · have key : ∀ m, j ≤ m → m ≤ i → ∃ ob', (σ m).hp[id]? = some ob' ∧ (obCells ob' el)[off]? = some a := by
            intro m
            induction m with
            | zero => intro h1 h2; obtain rfl : j = 0 := by omega
                      exact ⟨ob, hob, hcell⟩
            | succ m ih =>
              intro h1 h2
              rcases Nat.lt_or_ge m j with h3 | h3
              · obtain rfl : j = m + 1 := by omega
                exact ⟨ob, hob, hcell⟩
              · obtain ⟨obm, g1, g2⟩ := ih h3 (by omega)
                have hms : m < all.size := by have := hi.le; omega
                obtain ⟨om, hom, _, hcm⟩ := hr m hms
                rcases hcm with ⟨_, vm, hσm, _⟩ | ⟨hstm, hbm, tm, xm, ym, idm, elm, offm, csm, obm1, obm2, hopm, hxm, hym, hobm, hsm, hσm, _⟩
                · rw [hσm]; exact ⟨obm, g1, g2⟩
                · have hjm : j ≠ m := by rintro rfl; rw [ho] at hom; cases hom; rw [hstm] at hns; cases hns
                  rcases (mixBar_get hbm hj (fun e => hjm e.symm)).1 (by omega) with hb | hb
                  · have := hi.post m ⟨om, hom, hstm⟩ hb
                    omega
                  · rcases hb o ho with hf | hml
                    · rw [hnf] at hf; cases hf
                    · unfold mixLoad at hml
                      rw [hop, hopm] at hml
                      simp only at hml
                      split at hml
                      · rename_i idl ell offl ids els offs av hxl hxs hys
                        simp only [Bool.and_eq_true, List.all_eq_true, List.mem_range, Bool.or_eq_true, Bool.not_eq_true'] at hml
                        obtain ⟨hml1, hml2⟩ := hml
                        have hquiet : evA (σ m).sl x = evA (σ j).sl x := by
                          cases x with
                          | tmp t' =>
                            refine hslot h3 (by omega) fun q oq hq hqm hoq hdq => ?_
                            have := hml2 q hqm
                            rw [hoq] at this
                            rcases this with h4 | h4
                            · rw [Nat.blt_eq] at h4; omega
                            · simp only [hdq, dstIn] at h4
                              rw [(hasId_iff t' _).2 (tmp_read (all := all) (by rw [hop]; simp [Op.operands]))] at h4
                              cases h4
                          | _ => rfl
                        rw [hquiet, hx] at hxl
                        simp only [V.at.injEq, A.ptr.injEq] at hxl
                        obtain ⟨rfl, rfl, rfl⟩ := hxl
                        rw [hxm] at hxs
                        simp only [V.at.injEq, A.ptr.injEq] at hxs
                        obtain ⟨rfl, rfl, rfl⟩ := hxs
                        rw [hσm]
                        simp only
                        by_cases hid : idm = id
                        · subst hid
                          rw [g1] at hobm; cases hobm
                          have hne : off ≠ offm := by
                            rintro rfl
                            rcases hml1 with h5 | h5
                            · simp at h5
                            · simp at h5
                          have hlen : csm.length = 1 := by rw [hys] at hym; exact V.cells_one hym
                          match csm, hlen with
                          | [v1], _ =>
                            refine ⟨obm2, ?_, ?_⟩
                            · rw [List.getElem?_set_self (List.getElem?_eq_some_iff.1 g1).1]
                            · rw [store_away hsm hne]; exact g2
                        · rw [List.getElem?_set_ne hid]
                          exact ⟨obm, g1, g2⟩
                      · cases hml
          exact key i hij (Nat.le_refl _)
      obtain ⟨ob', g1, g2⟩ := hsame
      exact (hcalm _ _ g1 g2).eff' ha
  · refine ⟨o, .at .void, (σ j).hp.set id ob', ho, hg, hσ, .inr ⟨hst, fun s hs hne => ?_, heff⟩⟩
    obtain ⟨os, hos, hsts⟩ := hs
    have hss : s < all.size := (Array.getElem?_eq_some_iff.1 hos).1
    rcases Nat.lt_or_gt_of_ne hne with hlt | hgt
    · rcases (mixBar_get hbar hss (fun e => hne e.symm)).1 hlt with hb | hb
      · exact .inl hb
      · exfalso
        unfold isStore at hsts
        split at hsts
        · rename_i t' x' y' hops
          rcases hb os hos with hf | hf
          · unfold freeOp at hf; rw [hops] at hf; cases hf
          · unfold mixLoad at hf; rw [hops] at hf; cases hf
        · cases hsts
    · exact .inr ((mixBar_get hbar hss (fun e => hne e.symm)).2 hgt)

theorem mixB_guard (h : mixB all = true) : ∀ o ∈ all.toList, o.guard.isNone = true := by
  unfold mixB at h
  rw [Bool.and_eq_true] at h
  intro o ho
  have := List.all_eq_true.1 h.1 o ho
  rw [Bool.and_eq_true] at this
  exact this.1
end Go.Fx

/- Regions and code. -/
namespace Go.Fx
variable {P : Program} {cx : Cx} {α : Type} {r : α}

theorem calm_pick {o : Oper} {sl : List V} {hp : List Ob} {c a b : Operand} {t : Bool} (ho : o.op = .pick c a b) (hc : evA sl c = .at (.bool t)) : CalmOp P o sl hp (match t with | true => evA sl a | false => evA sl b) [] := by
  refine calm_value fun ι ac w hops hhr => ?_
  have h1 := hops c (by simp [ho, Op.operands])
  have h2 := hops a (by simp [ho, Op.operands])
  have h3 := hops b (by simp [ho, Op.operands])
  rw [hc] at h1
  have h1' : ac.eval c = .bool t := h1
  cases t with
  | true => exact ⟨ac.eval a, 0, by rw [World.drewN_zero]; simp [execOp, ho, h1', asBool], h2⟩
  | false => exact ⟨ac.eval b, 0, by rw [World.drewN_zero]; simp [execOp, ho, h1', asBool], h3⟩

theorem effOp_sound {n0 : Nat} {o : Oper} {st : St} {k : St → Option α} (hC : CxOK P cx) (h : effOp cx n0 o st k = some r) : ∃ st', k st' = some r ∧ EffOp P n0 o st st' ∧ st'.sl.length = st.sl.length ∧ StoreOne P o st.sl := by
  unfold effOp at h
  split at h
  · rename_i t x y ho
    split at h
    · rename_i id el off cs i hx hy hi
      split at h
      · rename_i ob hl hob
        split at h
        · rename_i ob' hs
          exact ⟨_, h, eff_store hC.ty ho hi hx hy (Nat.eq_of_beq_eq_true hl) hob hs, put_length, fun t2 x2 y2 v ho2 hv => by
            rw [ho] at ho2; cases ho2
            rw [hv] at hy
            obtain ⟨inf, z, hinf, hsz, _⟩ := (hC.ty t i hi).info
            have h1 : cs.length = 1 := V.cells_one hy
            have h2 := Nat.eq_of_beq_eq_true hl
            exact ⟨inf, hinf, by omega⟩⟩
        · cases h
      · cases h
    · cases h
  · rename_i args tys ho
    split at h
    · rename_i x y t t' hx ht
      have e1 := list_of_toList hx
      have e2 := list_of_toList ht
      subst e1; subst e2
      rw [chk_some] at h
      obtain ⟨h1, h⟩ := h
      obtain rfl := Nat.eq_of_beq_eq_true h1
      split at h
      · rename_i et id ya hd hv hy
        split at h
        · rename_i ei ys ks xs he hys hob
          split at h
          · rename_i ks' hks
            simp only [chk_some, decide_eq_true_eq] at h
            obtain ⟨rfl, g2, g3, g4, g5, g6⟩ := h
            have := eff_append (P := P) (n0 := n0) hC.ty ho hd he hks hv hy hys hob g2 g3 (Nat.le_of_ble_eq_true g4) (by simpa [Nat.blt_eq] using g5)
            split at g6
            · rename_i hb; rw [hb] at this; exact ⟨_, g6, this, by simp [put_length], fun t2 x2 y2 v ho2 _ => by rw [ho] at ho2; cases ho2⟩
            · rename_i hb; rw [hb] at this; exact ⟨_, g6, this, by simp [put_length], fun t2 x2 y2 v ho2 _ => by rw [ho] at ho2; cases ho2⟩
          · cases h
        · cases h
      · cases h
    · cases h
  · rename_i t m x y ho
    split at h
    · rename_i k kd id k1 a1 k2 b1 hd hm hx hy
      split at h
      · rename_i kd' keys hob
        simp only [chk_some, decide_eq_true_eq, Bool.and_eq_true] at h
        obtain ⟨rfl, rfl, rfl, g1, g2, g3⟩ := h
        exact ⟨_, g3, eff_map hC.ty ho hd hm hx hy hob g1 g2, put_length, fun t2 x2 y2 v ho2 _ => by rw [ho] at ho2; cases ho2⟩
      · cases h
    · cases h
  · rename_i t x hi ho
    split at h
    · rename_i et id kh hd hx hh
      split at h
      · rename_i ei ks xs he hob
        simp only [chk_some] at h
        obtain ⟨g1, g2, g3⟩ := h
        exact ⟨_, g3, eff_cut hC.ty ho hd he hx hh hob (Nat.le_of_ble_eq_true g1) (Nat.eq_of_beq_eq_true g2), by simp [put_length], fun t2 x2 y2 v ho2 _ => by rw [ho] at ho2; cases ho2⟩
      · cases h
    · cases h
  · cases h

theorem calm_ptrF {o : Oper} {sl : List V} {hp : List Ob} {k : V → List Ob → Option α} {e : V → List Ob → Option α} (hT : TyOK P cx.ty) (h : calm cx o sl hp k e = some r) : PtrF P o sl := by
  refine ⟨fun t x ho => ?_, fun x ho => ?_, fun s x f ho => ?_, fun t x ix ho => ?_⟩
  · simp only [calm, ho] at h
    split at h
    · rename_i id el off i hx hi
      exact ⟨id, el, off, hx⟩
    · cases h
  · simp only [calm, ho] at h
    split at h
    · rename_i id el off hx
      exact ⟨id, el, off, hx⟩
    · cases h
  · simp only [calm, ho] at h
    split at h
    · rename_i fs id el off ht hx
      split at h
      · rename_i d ft hf
        obtain ⟨fields, hu, hfs, hfi⟩ := tyOf_DR hT ht
        rw [← hfs, List.getElem?_map] at hf
        cases hff : fields.toList[f]? with
        | none => simp [hff] at hf
        | some fd =>
          obtain ⟨i, hi, hne⟩ := hfi fd (List.mem_of_getElem? hff)
          exact ⟨fields, fd, i, hu, by rw [← hff, Array.getElem?_toList], hi, hne⟩
      · cases h
    · cases h
  · simp only [calm, ho] at h
    split at h
    · rename_i et id kd n ht hx hix
      exact ⟨et, _, _, hix, .inl ⟨tyOf_DR hT ht, .inl ⟨id, hx⟩⟩⟩
    · rename_i et id st len cp kd n ht hx hix
      exact ⟨et, _, _, hix, .inl ⟨tyOf_DR hT ht, .inr (.inl ⟨id, st, len, _, hx⟩)⟩⟩
    · rename_i et id len kd n ht hx hix
      exact ⟨et, _, _, hix, .inl ⟨tyOf_DR hT ht, .inr (.inr ⟨id, len, hx⟩)⟩⟩
    · rename_i len et id kd n ht hx hix
      exact ⟨et, _, _, hix, .inr ⟨len, id, 0, 0, tyOf_DR hT ht, hx⟩⟩
    · cases h

theorem stepOp_sound {n0 : Nat} {bar : Bool} {o : Oper} {st : St} {k : St → Option α} (hC : CxOK P cx) (h : stepOp cx n0 bar o st k = some r) :
    ∃ st', k st' = some r ∧ ((∃ v news, st' = ⟨put st.sl o.dst v, st.hp ++ news⟩ ∧ CalmOp P o st.sl st.hp v news ∧ PtrF P o st.sl) ∨ (bar = true ∧ EffOp P n0 o st st' ∧ st'.sl.length = st.sl.length ∧ StoreOne P o st.sl)) := by
  unfold stepOp at h
  have hcalm : ∀ {e : V → List Ob → Option α}, (∀ v hp', e v hp' = some r → bar = true ∧ k ⟨put st.sl o.dst v, hp'⟩ = some r) → calm cx o st.sl st.hp (fun v news => k ⟨put st.sl o.dst v, st.hp ++ news⟩) e = some r →
      ∃ st', k st' = some r ∧ ((∃ v news, st' = ⟨put st.sl o.dst v, st.hp ++ news⟩ ∧ CalmOp P o st.sl st.hp v news ∧ PtrF P o st.sl) ∨ (bar = true ∧ EffOp P n0 o st st' ∧ st'.sl.length = st.sl.length ∧ StoreOne P o st.sl)) := by
    intro e he h
    rcases calm_sound hC h with ⟨v, news, h1, h2⟩ | ⟨v, hp', h1, h2⟩
    · exact ⟨_, h2, .inl ⟨v, news, rfl, h1, calm_ptrF hC.ty h⟩⟩
    · obtain ⟨g1, g2⟩ := he v hp' h2
      exact ⟨_, g2, .inr ⟨g1, h1 n0, by simp [put_length], fun t2 x2 y2 v ho2 _ => by simp [calm, ho2] at h⟩⟩
  have heff : ∀ {k : St → Option α}, chk bar (effOp cx n0 o st k) = some r →
      ∃ st', k st' = some r ∧ ((∃ v news, st' = ⟨put st.sl o.dst v, st.hp ++ news⟩ ∧ CalmOp P o st.sl st.hp v news ∧ PtrF P o st.sl) ∨ (bar = true ∧ EffOp P n0 o st st' ∧ st'.sl.length = st.sl.length ∧ StoreOne P o st.sl)) := by
    intro k h
    rw [chk_some] at h
    obtain ⟨st', h1, h2⟩ := effOp_sound hC h.2
    exact ⟨st', h1, .inr ⟨h.1, h2⟩⟩
  split at h
  · exact heff h
  · exact heff h
  · rename_i c a b ho
    split at h
    · rename_i t hc
      have := calm_pick (P := P) (hp := st.hp) ho hc
      cases t with
      | true => exact ⟨_, h, .inl ⟨_, [], by simp, this, ⟨fun t x hh => (by rw [ho] at hh; cases hh), fun x hh => (by rw [ho] at hh; cases hh), fun s x f hh => (by rw [ho] at hh; cases hh), fun t x ix hh => (by rw [ho] at hh; cases hh)⟩⟩⟩
      | false => exact ⟨_, h, .inl ⟨_, [], by simp, this, ⟨fun t x hh => (by rw [ho] at hh; cases hh), fun x hh => (by rw [ho] at hh; cases hh), fun s x f hh => (by rw [ho] at hh; cases hh), fun t x ix hh => (by rw [ho] at hh; cases hh)⟩⟩⟩
    · cases h
  · split at h
    · split at h
      · exact hcalm (fun v hp' h => by cases h) h
      · exact heff h
    · cases h
  · split at h
    · exact heff h
    · exact hcalm (fun v hp' h => by rw [chk_some] at h; exact h) h
  · exact hcalm (fun v hp' h => by rw [chk_some] at h; exact h) h

theorem set_same {l : List V} {d : Nat} {v x : V} (h : l.getD d x = v) (hne : v ≠ x) : l.set d v = l := by
  rw [List.getD_eq_getElem?_getD] at h
  cases hd : l[d]? with
  | none => rw [hd] at h; exact absurd h.symm hne
  | some u =>
    rw [hd] at h
    simp at h
    subst h
    obtain ⟨h1, h2⟩ := List.getElem?_eq_some_iff.1 hd
    rw [← h2]; exact List.set_getElem_self h1

theorem evOps_sound {n0 : Nat} {all : Array Oper} {dr : Bool} (hC : CxOK P cx) : ∀ (l : List Oper) (i : Nat) (st : St) (k : St → Option α), (∀ j, l[j]? = all[i + j]?) → evOps cx n0 all dr i l st k = some r →
    ∃ σ : Nat → St, σ i = st ∧ k (σ (i + l.length)) = some r ∧ ∀ j, i ≤ j → j < i + l.length → CalmStep P all σ j ∨ EffStep P n0 all dr σ j := by
  intro l
  induction l with
  | nil => intro i st k _ h; exact ⟨fun _ => st, rfl, by simpa [evOps] using h, fun j h1 h2 => by simp at h2; omega⟩
  | cons o l ih =>
    intro i st k hl h
    have h0 : all[i]? = some o := by simpa using (hl 0).symm
    have hl' : ∀ j, l[j]? = all[i + 1 + j]? := fun j => by have := hl (j + 1); simpa [Nat.add_assoc, Nat.add_comm 1 j] using this
    -- a step, and the rest
    have done : ∀ (st' : St), ((∃ v news, st' = ⟨put st.sl o.dst v, st.hp ++ news⟩ ∧ ((Wanted all o st ∧ CalmOp P o st.sl st.hp v news ∧ PtrF P o st.sl) ∨ (Unwanted all o st ∧ v = .at .void ∧ news = []))) ∨
        (Wanted all o st ∧ EffOp P n0 o st st' ∧ (dr = true → barrier all i o st.sl = true) ∧ st'.sl.length = st.sl.length ∧ StoreOne P o st.sl)) → evOps cx n0 all dr (i + 1) l st' k = some r →
        ∃ σ : Nat → St, σ i = st ∧ k (σ (i + (o :: l).length)) = some r ∧ ∀ j, i ≤ j → j < i + (o :: l).length → CalmStep P all σ j ∨ EffStep P n0 all dr σ j := by
      intro st' hstep hrest
      obtain ⟨σ, g1, g2, g3⟩ := ih (i + 1) st' k hl' hrest
      have hσ : ∀ j, i + 1 ≤ j → (fun j => if j = i then st else σ j) j = σ j := fun j hj => by simp [show j ≠ i by omega]
      refine ⟨fun j => if j = i then st else σ j, by simp, ?_, fun j h1 h2 => ?_⟩
      · rw [hσ _ (by simp only [List.length_cons]; omega), show i + (o :: l).length = i + 1 + l.length by simp; omega]; exact g2
      · simp only [List.length_cons] at h2
        rcases Nat.eq_or_lt_of_le h1 with rfl | hlt
        · have e1 : (fun j => if j = i then st else σ j) i = st := by simp
          have e2 : (fun j => if j = i then st else σ j) (i + 1) = st' := by simp [g1]
          rcases hstep with ⟨v, news, h1, h2⟩ | ⟨h1, h2, h3, h4⟩
          · left
            refine ⟨o, v, news, h0, ?_, ?_⟩
            · rw [e2, e1]; exact h1
            · rw [e1]; exact h2
          · right
            refine ⟨o, h0, ?_, ?_, ?_, ?_⟩
            · rw [e1]; exact h1
            · rw [e1, e2]; exact h2
            · rw [e1]; exact h3
            · rw [e1, e2]; exact h4
        · have e1 := hσ j hlt
          have e2 := hσ (j + 1) (by omega)
          rcases g3 j hlt (by omega) with hh | hh
          · left; unfold CalmStep at *; rw [e1, e2]; exact hh
          · right; unfold EffStep at *; rw [e1, e2]; exact hh
    have run : ∀ (bar : Bool), (bar = true → dr = true → barrier all i o st.sl = true) → Wanted all o st → stepOp cx n0 bar o st (fun st' => evOps cx n0 all dr (i + 1) l st' k) = some r →
        ∃ σ : Nat → St, σ i = st ∧ k (σ (i + (o :: l).length)) = some r ∧ ∀ j, i ≤ j → j < i + (o :: l).length → CalmStep P all σ j ∨ EffStep P n0 all dr σ j := by
      intro bar hbar hwant hs
      obtain ⟨st', h1, h2⟩ := stepOp_sound hC hs
      refine done st' ?_ h1
      rcases h2 with ⟨v, news, h2, h3⟩ | ⟨h2, h3, h4⟩
      · exact .inl ⟨v, news, h2, .inl ⟨hwant, h3⟩⟩
      · exact .inr ⟨hwant, h3, hbar h2, h4⟩
    unfold evOps at h
    split at h
    · rename_i hg
      refine run _ ?_ (.inl hg) h
      clear run done h
      intro h1 h2; subst h2; exact h1
    · rename_i j want hg
      split at h
      · rename_i d hd
        split at h
        · rename_i t ht
          cases t with
          | true =>
            have hset : st.sl.set d (.at (.bool true)) = st.sl := set_same ht (by simp)
            cases want with
            | true =>
              simp only [hset] at h
              refine run _ ?_ (.inr ⟨j, true, d, hg, hd, ht⟩) h
              clear run done h
              intro h1 h2; subst h2; exact h1
            | false =>
              simp only [hset] at h
              exact done _ (.inl ⟨.at .void, [], by simp, .inr ⟨⟨j, false, d, hg, hd, .inl ht⟩, rfl, rfl⟩⟩) h
          | false =>
            have hset : st.sl.set d (.at (.bool false)) = st.sl := set_same ht (by simp)
            cases want with
            | false =>
              simp only [hset] at h
              refine run _ ?_ (.inr ⟨j, false, d, hg, hd, ht⟩) h
              clear run done h
              intro h1 h2; subst h2; exact h1
            | true =>
              simp only [hset] at h
              exact done _ (.inl ⟨.at .void, [], by simp, .inr ⟨⟨j, true, d, hg, hd, .inl ht⟩, rfl, rfl⟩⟩) h
        · rename_i ht
          exact done _ (.inl ⟨.at .void, [], by simp, .inr ⟨⟨j, want, d, hg, hd, .inr ht⟩, rfl, rfl⟩⟩) h
        · cases h
      · cases h

theorem seq_run {g : Beg} {all : Array Oper} {σ : Nat → St} {n0 : Nat} {Q : Exit → Act → World → Prop} (hn0 : g.h0.length = n0) : ∀ (l : List Oper) (i : Nat) (ι : Nat → Pl) (a : Act) (w : World), (∀ j, l[j]? = all[i + j]?) →
    (∀ j, i ≤ j → j < i + l.length → CalmStep P all σ j ∨ EffStep P n0 all false σ j) → Rel g ι (σ i) a w → (∀ ι a w, Rel g ι (σ (i + l.length)) a w → Q .normal a w) → wpList P all Q l a w := by
  intro l
  induction l with
  | nil => intro i ι a w _ _ h hQ; exact hQ ι a w (by simpa using h)
  | cons o l ih =>
    intro i ι a w hl hs h hQ
    have h0 : all[i]? = some o := by simpa using (hl 0).symm
    have hl' : ∀ j, l[j]? = all[i + 1 + j]? := fun j => by have := hl (j + 1); simpa [Nat.add_assoc, Nat.add_comm 1 j] using this
    have hnext : ∀ ι' a' w', Rel g ι' (σ (i + 1)) a' w' → wpList P all Q l a' w' := fun ι' a' w' h' =>
      ih (i + 1) ι' a' w' hl' (fun j h1 h2 => hs j (by omega) (by simp only [List.length_cons]; omega)) h' (by
        rw [show i + 1 + l.length = i + (o :: l).length by simp only [List.length_cons]; omega]; exact hQ)
    have hreads : ∀ d ∈ reads all o, VR ι (shp (σ i).hp) ((σ i).sl.getD d (.at .void)) (a.tmps.getD d undef) := fun d _ => slots_get h.slots d
    unfold wpList
    rcases hs i (Nat.le_refl _) (by simp only [List.length_cons]; omega) with ⟨o', v, news, ho, hσ, hcase⟩ | ⟨o', ho, hwant, heff, _, _⟩
    · rw [h0] at ho; cases ho
      rcases hcase with ⟨hwant, hcalm, _⟩ | ⟨hun, rfl, rfl⟩
      · rw [if_pos (wanted_of hwant hreads)]
        left
        have := hcalm.eff (n0 := n0)
        rw [← hσ] at this
        exact this g ι a w hn0 h _ Q fun ι' a' w' h' _ => hnext ι' a' w' h'
      · rw [if_neg (by rw [unwanted_of hun hreads]; simp)]
        refine hnext ι _ _ ?_
        rw [hσ]
        exact h.calm (Grow.none (WX.refl w)) (c := undef) rfl (by rw [List.append_nil]; exact h.heap)
    · rw [h0] at ho; cases ho
      rw [if_pos (wanted_of hwant hreads)]
      left
      exact heff g ι a w hn0 h _ Q fun ι' a' w' h' _ => hnext ι' a' w' h'

def exOf : Ex → Exit
  | .normal => .normal
  | .exit id => .exit id
  | .ret => .ret

def CodeTo (P : Program) (n0 : Nat) (c : Code) (st : St) (e : Ex) (st' : St) : Prop :=
  ∀ (g : Beg) (ι : Nat → Pl) (a : Act) (w : World), g.h0.length = n0 → Rel g ι st a w → ∀ Q : Exit → Act → World → Prop, (∀ ι' a' w', Rel g ι' st' a' w' → Q (exOf e) a' w') → c.wp P Q a w

theorem steps_len {all : Array Oper} {σ : Nat → St} {n0 : Nat} {dr : Bool} {m : Nat} (h : ∀ j, j < m → CalmStep P all σ j ∨ EffStep P n0 all dr σ j) : (σ m).sl.length = (σ 0).sl.length := by
  induction m with
  | zero => rfl
  | succ m ih =>
    rw [← ih fun j hj => h j (by omega)]
    rcases h m (by omega) with ⟨o, v, news, _, hs, _⟩ | ⟨o, _, _, _, _, hl⟩
    · rw [hs]; exact put_length
    · exact hl.1

theorem region_sound {n0 id : Nat} {ops : Array Oper} {draw : Bool} {st : St} {k : Ex → St → Option α} (hC : CxOK P cx) (hmix : P.follows .mixedOrders = true) (h : evC cx n0 (.region id ops draw) st k = some r) :
    ∃ st', k .normal st' = some r ∧ st'.sl.length = st.sl.length ∧ CodeTo P n0 (.region id ops draw) st .normal st' := by
  unfold evC at h
  cases draw with
  | true =>
    simp only [chk_some] at h
    obtain ⟨hd, h⟩ := h
    split at h
    · rename_i hmb
      obtain ⟨σ, h1, h2, h3⟩ := evMix_raw hC ops.toList 0 st (k .normal) (by simp) (mixB_guard hmb) h
      simp only [Nat.zero_add, Array.length_toList] at h2 h3
      have hms := raw_mix fun j hj => h3 j (Nat.zero_le _) hj
      have hl := mix_len hms (Nat.le_refl _)
      rw [h1] at hl
      refine ⟨_, h2, hl, fun g ι a w hn0 hrel Q hQ => ?_⟩
      exact region_mix hmix hd hn0 hms hQ (by rw [h1]; exact hrel)
    obtain ⟨σ, h1, h2, h3⟩ := evOps_sound hC ops.toList 0 st (k .normal) (by simp) h
    simp only [Nat.zero_add, Array.length_toList] at h2 h3
    have hl := steps_len (fun j hj => h3 j (Nat.zero_le _) hj)
    rw [h1] at hl
    refine ⟨_, h2, hl, fun g ι a w hn0 hrel Q hQ => ?_⟩
    exact region_draw hmix hd hn0 (fun j hj => h3 j (Nat.zero_le _) hj) hQ (by rw [h1]; exact hrel)
  | false =>
    simp only at h
    obtain ⟨σ, h1, h2, h3⟩ := evOps_sound hC ops.toList 0 st (k .normal) (by simp) h
    have hl := steps_len (m := 0 + ops.toList.length) (fun j hj => h3 j (Nat.zero_le _) hj)
    rw [h1] at hl
    refine ⟨_, h2, hl, fun g ι a w hn0 hrel Q hQ => ?_⟩
    exact wp_region_list (seq_run hn0 ops.toList 0 ι a w (by simp) h3 (by rw [h1]; exact hrel) hQ)
end Go.Fx

/- A nil that may grow is seen as an empty row. -/
namespace Go.Fx
variable {P : Program} {cx : Cx} {ty : Nat → Option TI}

theorem nilA_E {hp : List Ob} {ι : Nat → Pl} {w : World} {lk : Option (List K)} {a a' : A} {hp' : List Ob} {c : Value} (hv : nilA hp lk a = (a', hp')) (h : HR ι hp w) (ha : AR ι (shp hp) a c) :
    ∃ ι', ViewsE ι ι' hp hp' w ∧ AR ι' (shp hp') a' c := by
  unfold nilA at hv
  split at hv
  · cases lk with
    | none => simp at hv; obtain ⟨rfl, rfl⟩ := hv; exact ⟨ι, ViewsE.refl h, ha⟩
    | some ks =>
      simp at hv
      obtain ⟨rfl, rfl⟩ := hv
      obtain ⟨ι', h1, h2⟩ := Views.one h ⟨true, .rows ks []⟩ .empty (fun ι' _ hon => .inl ⟨hon, rfl⟩)
      obtain ⟨ad, rfl⟩ := ha
      refine ⟨ι', ⟨h1, fun id g1 g2 => ?_⟩, ks, 0, by rw [shp_new]; rfl, .inl ⟨h2, rfl, ad, rfl⟩⟩
      have : id = hp.length := by simp at g2; omega
      subst this
      exact h2
  · simp at hv
    obtain ⟨rfl, rfl⟩ := hv
    exact ⟨ι, ViewsE.refl h, ha⟩

theorem nilAs_E {w : World} : ∀ {lks : List (Option (List K))} {as as' : List A} {hp hp' : List Ob} {ι : Nat → Pl} {cs : List Value}, nilAs hp lks as = (as', hp') → HR ι hp w → F2 (AR ι (shp hp)) as cs →
    ∃ ι', ViewsE ι ι' hp hp' w ∧ F2 (AR ι' (shp hp')) as' cs := by
  intro lks as
  induction as generalizing lks with
  | nil =>
    intro as' hp hp' ι cs hv h hF
    have : nilAs hp lks [] = ([], hp) := by cases lks <;> rfl
    rw [this] at hv
    cases hv
    match cs, hF with
    | [], _ => exact ⟨ι, ViewsE.refl h, trivial⟩
    | _ :: _, hF => exact hF.elim
  | cons a as ih =>
    intro as' hp hp' ι cs hv h hF
    match cs, hF with
    | [], hF => exact hF.elim
    | c :: cs, ⟨ha, has⟩ =>
      cases lks with
      | nil =>
        simp only [nilAs, Prod.mk.injEq] at hv
        obtain ⟨rfl, rfl⟩ := hv
        exact ⟨ι, ViewsE.refl h, ha, has⟩
      | cons lk lks =>
        simp only [nilAs] at hv
        generalize h1 : nilA hp lk a = q at hv
        obtain ⟨a1, hp1⟩ := q
        simp only at hv
        generalize h2 : nilAs hp1 lks as = q at hv
        obtain ⟨as1, hp2⟩ := q
        simp only [Prod.mk.injEq] at hv
        obtain ⟨rfl, rfl⟩ := hv
        obtain ⟨ι1, v1, g1⟩ := nilA_E h1 h ha
        obtain ⟨ι2, v2, g2⟩ := ih h2 v1.v.heap (has.imp fun _ _ h => h.ext v1.v.ext)
        exact ⟨ι2, v1.trans v2, g1.ext v2.v.ext, g2⟩

theorem nilV_E {hp : List Ob} {w : World} {t : Nat} {v v' : V} {hp' : List Ob} {ι : Nat → Pl} {c : Value} (hv : nilV ty hp t v = (v', hp')) (h : HR ι hp w) (hr : VR ι (shp hp) v c) :
    ∃ ι', ViewsE ι ι' hp hp' w ∧ VR ι' (shp hp') v' c := by
  cases v with
  | «at» a =>
    simp only [nilV] at hv
    generalize h2 : nilAs hp (lksOf ty t) [a] = q at hv
    obtain ⟨as1, hp2⟩ := q
    obtain ⟨ι', v1, v2⟩ := nilAs_E h2 h (cs := [c]) ⟨hr, trivial⟩
    match as1, v2 with
    | [a1], ⟨v2, _⟩ =>
      simp only [Prod.mk.injEq] at hv
      obtain ⟨rfl, rfl⟩ := hv
      exact ⟨ι', v1, v2⟩
    | [], v2 => exact v2.elim
    | _ :: _ :: _, ⟨_, v2⟩ => exact v2.elim
  | agg as =>
    simp only [nilV] at hv
    generalize h2 : nilAs hp (lksOf ty t) as = q at hv
    obtain ⟨as1, hp2⟩ := q
    simp only [Prod.mk.injEq] at hv
    obtain ⟨rfl, rfl⟩ := hv
    obtain ⟨cs, rfl, hF⟩ := hr
    obtain ⟨ι', v1, v2⟩ := nilAs_E h2 h hF
    exact ⟨ι', v1, cs, rfl, v2⟩
  | tup xs =>
    simp only [nilV, Prod.mk.injEq] at hv
    obtain ⟨rfl, rfl⟩ := hv
    exact ⟨ι, ViewsE.refl h, hr⟩

theorem nilVs_E {w : World} : ∀ {ts : List Nat} {vs vs' : List V} {hp hp' : List Ob} {ι : Nat → Pl} {cs : List Value}, nilVs ty hp ts vs = (vs', hp') → HR ι hp w → F2 (VR ι (shp hp)) vs cs →
    ∃ ι', ViewsE ι ι' hp hp' w ∧ F2 (VR ι' (shp hp')) vs' cs := by
  intro ts vs
  induction vs generalizing ts with
  | nil =>
    intro vs' hp hp' ι cs hv h hF
    have : nilVs ty hp ts [] = ([], hp) := by cases ts <;> rfl
    rw [this] at hv
    cases hv
    match cs, hF with
    | [], _ => exact ⟨ι, ViewsE.refl h, trivial⟩
    | _ :: _, hF => exact hF.elim
  | cons v vs ih =>
    intro vs' hp hp' ι cs hv h hF
    match cs, hF with
    | [], hF => exact hF.elim
    | c :: cs, ⟨ha, has⟩ =>
      cases ts with
      | nil =>
        simp only [nilVs, Prod.mk.injEq] at hv
        obtain ⟨rfl, rfl⟩ := hv
        exact ⟨ι, ViewsE.refl h, ha, has⟩
      | cons t ts =>
        simp only [nilVs] at hv
        generalize h1 : nilV ty hp t v = q at hv
        obtain ⟨a1, hp1⟩ := q
        simp only at hv
        generalize h2 : nilVs ty hp1 ts vs = q at hv
        obtain ⟨vs1, hp2⟩ := q
        simp only [Prod.mk.injEq] at hv
        obtain ⟨rfl, rfl⟩ := hv
        obtain ⟨ι1, v1, v2⟩ := nilV_E h1 h ha
        obtain ⟨ι2, w1, w2⟩ := ih h2 v1.v.heap (has.imp fun _ _ h => VR.ext v1.v.ext h)
        exact ⟨ι2, v1.trans w1, VR.ext w1.v.ext v2, w2⟩
end Go.Fx

/- Code, with summaries of its blocks. -/
namespace Go.Fx
variable {P : Program} {cx : Cx} {ty : Nat → Option TI} {α : Type} {r : α}

theorem addIds_spec : ∀ (l acc : List Nat), (∃ ext, addIds acc l = acc ++ ext) ∧ (acc.Nodup → (addIds acc l).Nodup)
  | [], acc => ⟨⟨[], by simp [addIds]⟩, fun h => h⟩
  | i :: t, acc => by
    simp only [addIds]
    cases h : hasId i acc with
    | true => exact addIds_spec t acc
    | false =>
      obtain ⟨⟨ext, h1⟩, h2⟩ := addIds_spec t (acc ++ [i])
      refine ⟨⟨i :: ext, by simp only; rw [h1]; simp⟩, fun hn => h2 ?_⟩
      have hni : i ∉ acc := fun hm => by rw [(hasId_iff i acc).2 hm] at h; cases h
      rw [List.nodup_append]
      refine ⟨hn, by simp, fun a ha b hb => ?_⟩
      simp at hb
      subst hb
      rintro rfl
      exact hni ha

theorem reach_spec (hp : List Ob) : ∀ (n : Nat) (acc : List Nat), (∃ ext, reach n acc hp = acc ++ ext) ∧ (acc.Nodup → (reach n acc hp).Nodup)
  | 0, acc => ⟨⟨[], by simp [reach]⟩, fun h => h⟩
  | n + 1, acc => by
    simp only [reach]
    obtain ⟨⟨e1, h1⟩, h2⟩ := addIds_spec (acc.flatMap (obIds hp)) acc
    obtain ⟨⟨e2, h3⟩, h4⟩ := reach_spec hp n (addIds acc (acc.flatMap (obIds hp)))
    exact ⟨⟨e1 ++ e2, by rw [h3, h1]; simp⟩, fun hn => h4 (h2 hn)⟩

theorem ids_spec (n0 n : Nat) (l : List Nat) (hp : List Ob) : (∀ j, j < n0 → (reach n (addIds (List.range n0) l) hp)[j]? = some j) ∧ (reach n (addIds (List.range n0) l) hp).Nodup := by
  obtain ⟨⟨e1, h1⟩, h2⟩ := addIds_spec l (List.range n0)
  obtain ⟨⟨e2, h3⟩, h4⟩ := reach_spec hp n (addIds (List.range n0) l)
  refine ⟨fun j hj => ?_, h4 (h2 List.nodup_range)⟩
  rw [h3, h1, List.append_assoc, List.getElem?_append_left (by simpa using hj)]
  simp [hj]

theorem nodup_get {l : List Nat} (h : l.Nodup) {i j a : Nat} (hi : l[i]? = some a) (hj : l[j]? = some a) : i = j := by
  obtain ⟨h1, h2⟩ := List.getElem?_eq_some_iff.1 hi
  obtain ⟨h3, h4⟩ := List.getElem?_eq_some_iff.1 hj
  rcases Nat.lt_trichotomy i j with hlt | he | hgt
  · exact absurd (h2.trans h4.symm) (List.pairwise_iff_getElem.1 h i j h1 h3 hlt)
  · exact he
  · exact absurd (h4.trans h2.symm) (List.pairwise_iff_getElem.1 h j i h3 h1 hgt)

theorem RelH.pick {g : Beg} {ι : Nat → Pl} {hp : List Ob} {w : World} {ids : List Nat} (h : RelH g ι hp w) (h1 : ∀ j, j < g.h0.length → ids[j]? = some j) (h2 : ids.Nodup) :
    RelH g (fun j => match ids[j]? with | some i => ι i | none => .off) (Go.Fx.pick hp (fun i => idx i ids) false ids) w := by
  obtain ⟨hh, hcor⟩ := pick_HR (ro := false) h.heap (fun i => idx i ids) (fun i j hij => idx_get hij)
  have hget : ∀ (j : Nat) (oj : Ob), (Go.Fx.pick hp (fun i => idx i ids) false ids)[j]? = some oj → oj.live → ∃ i oi, ids[j]? = some i ∧ hp[i]? = some oi ∧ oj.own = oi.own ∧ shpOb oj = shpOb oi := by
    intro j oj hj hl
    rw [pick_eq, List.getElem?_map] at hj
    cases hi : ids[j]? with
    | none => simp [hi] at hj
    | some i =>
      simp [hi] at hj
      subst hj
      unfold pickOb at hl ⊢
      cases ho : hp[i]? with
      | none => rw [ho] at hl; exact absurd rfl hl
      | some oi => exact ⟨i, oi, rfl, ho, own_ren _ oi, shpOb_ren _ oi⟩
  refine ⟨trivial, rfl, hh, ?_, fun id hid => ?_, fun id ob ho => ?_, h.os, h.tape, h.output, h.size, h.block, ?_⟩
  · intro i j oi oj b base room b' base' room' hi hj hij hown hli hlj hon hon'
    obtain ⟨a, oa, a1, a2, a3, a4⟩ := hget i oi hi hli
    obtain ⟨c, oc, c1, c2, c3, c4⟩ := hget j oj hj hlj
    simp only [a1] at hon
    simp only [c1] at hon'
    exact h.inj a c oa oc b base room b' base' room' a2 c2 (fun e => hij (nodup_get h2 a1 (e ▸ c1))) (by rw [← a3]; exact hown) (by unfold Ob.live; rw [← a4]; exact hli) (by unfold Ob.live; rw [← c4]; exact hlj) hon hon'
  · simp only [h1 id hid]; exact h.keep id hid
  · have hlt : id < g.h0.length := (List.getElem?_eq_some_iff.1 ho).1
    obtain ⟨ob', g1, g2, g3⟩ := h.flag id ob ho
    refine ⟨ob'.ren (fun i => idx i ids), ?_, by rw [own_ren]; exact g2, by rw [shpOb_ren]; exact g3⟩
    simp only
    simp only at g1
    rw [pick_eq, List.getElem?_map, h1 id hlt]
    simp [pickOb, g1]
  · intro id ob b base room hid ho hl hon
    obtain ⟨a, oa, a1, a2, a3, a4⟩ := hget id ob ho hl
    simp only [a1] at hon
    refine h.fresh a oa b base room ?_ a2 (by unfold Ob.live; rw [← a4]; exact hl) hon
    rcases Nat.lt_or_ge a g.h0.length with hlt | hge
    · have := nodup_get h2 (h1 a hlt) a1
      omega
    · exact hge

theorem setAll_F2 {ι : Nat → Pl} {S : Nat → Shp} : ∀ (live : List Nat) (vals sl : List V) (cs : List Value), F2 (VR ι S) sl cs → (∀ (j i : Nat) (v : V) (c : Value), live[j]? = some i → vals[j]? = some v → cs[i]? = some c → VR ι S v c) → F2 (VR ι S) (setAll sl live vals) cs
  | [], _, _, _, h, _ => by simpa [setAll] using h
  | _ :: _, [], _, _, h, _ => by simpa [setAll] using h
  | i :: is, v :: vs, sl, cs, h, hv => by
    simp only [setAll]
    refine setAll_F2 is vs _ cs ?_ fun j i' v' c h1 h2 h3 => hv (j + 1) i' v' c (by simpa using h1) (by simpa using h2) h3
    cases hc : cs[i]? with
    | some c =>
      have := F2.set (i := i) (hv 0 i v c rfl rfl hc) h
      obtain ⟨h1, h2⟩ := List.getElem?_eq_some_iff.1 hc
      rwa [show cs.set i c = cs by rw [← h2]; exact List.set_getElem_self h1] at this
    | none =>
      rw [List.set_eq_of_length_le (by have := h.length; rw [List.getElem?_eq_none_iff] at hc; omega)]
      exact h

theorem setAll_length : ∀ (live : List Nat) (vals sl : List V), (setAll sl live vals).length = sl.length
  | [], _, _ => by simp [setAll]
  | _ :: _, [], _ => by simp [setAll]
  | i :: is, v :: vs, sl => by simp only [setAll]; rw [setAll_length is vs]; simp

theorem F2.undefs {ι : Nat → Pl} {S : Nat → Shp} : ∀ (cs : List Value), F2 (VR ι S) (List.replicate cs.length (.at .undef)) cs
  | [] => trivial
  | _ :: cs => ⟨trivial, F2.undefs cs⟩

theorem canon_sound {g : Beg} {ι : Nat → Pl} {n0 m : Nat} {out : List Nat} {vs vals : List V} {hp hp' : List Ob} {a : Act} {w : World} (hn0 : g.h0.length = n0) (hc : canon n0 vs hp = (vals, hp')) (h : RelH g ι hp w) (hd : a.defers = [])
    (hm : a.tmps.size = m) (hF : F2 (VR ι (shp hp)) vs (out.map fun i => a.tmps.getD i undef)) :
    ∃ ι', Rel g ι' ⟨framed m out vals, hp'⟩ a w := by
  unfold canon at hc
  simp only [Prod.mk.injEq] at hc
  obtain ⟨hvals, hhp⟩ := hc
  subst hvals; subst hhp
  have hids := ids_spec n0 3 (vs.flatMap V.ids) hp
  generalize reach 3 (addIds (List.range n0) (vs.flatMap V.ids)) hp = ids at hids ⊢
  have hH := h.pick (ids := ids) (by rw [hn0]; exact hids.1) hids.2
  obtain ⟨_, hcor⟩ := pick_HR (ro := false) h.heap (fun i => idx i ids) (fun i j hij => idx_get hij)
  refine ⟨_, hH.rel ?_ hd⟩
  refine setAll_F2 out _ _ _ ?_ ?_
  · subst hm
    rw [← Array.length_toList]
    exact F2.undefs _
  · intro j i v c h1 h2 h3
    rw [List.getElem?_map] at h2
    cases hv : vs[j]? with
    | none => simp [hv] at h2
    | some v0 =>
      simp [hv] at h2
      subst h2
      refine VR.ren hcor ?_
      obtain ⟨c', e1, e2⟩ := hF.get j v0 hv
      rw [List.getElem?_map, h1] at e1
      simp only [Option.map_some, Option.some.injEq] at e1
      rw [Array.getD_eq_getD_getElem?, ← Array.getElem?_toList, h3] at e1
      simp at e1
      rw [e1]
      exact e2

theorem slots_map {ι : Nat → Pl} {S : Nat → Shp} {sl : List V} {a : Act} (h : F2 (VR ι S) sl a.tmps.toList) : ∀ live : List Nat, F2 (VR ι S) (live.map fun i => sl.getD i (.at .void)) (live.map fun i => a.tmps.getD i undef)
  | [] => trivial
  | i :: t => ⟨slots_get h i, slots_map h t⟩

theorem nilA_U {hp : List Ob} {ι : Nat → Pl} {w : World} {lk : Option (List K)} {a a' : A} {hp' : List Ob} (hv : nilA hp lk a = (a', hp')) (h : HR ι hp w) :
    ∃ ι', ViewsE ι ι' hp hp' w ∧ ∀ c, AR ι (shp hp) a c → AR ι' (shp hp') a' c := by
  unfold nilA at hv
  split at hv
  · cases lk with
    | none => simp at hv; obtain ⟨rfl, rfl⟩ := hv; exact ⟨ι, ViewsE.refl h, fun _ ha => ha⟩
    | some ks =>
      simp at hv
      obtain ⟨rfl, rfl⟩ := hv
      obtain ⟨ι', h1, h2⟩ := Views.one h ⟨true, .rows ks []⟩ .empty (fun ι' _ hon => .inl ⟨hon, rfl⟩)
      refine ⟨ι', ⟨h1, fun id g1 g2 => ?_⟩, fun c ha => ?_⟩
      · have : id = hp.length := by simp at g2; omega
        subst this
        exact h2
      · obtain ⟨ad, rfl⟩ := ha
        exact ⟨ks, 0, by rw [shp_new]; rfl, .inl ⟨h2, rfl, ad, rfl⟩⟩
  · simp at hv
    obtain ⟨rfl, rfl⟩ := hv
    exact ⟨ι, ViewsE.refl h, fun _ ha => ha⟩

theorem nilAs_U {w : World} : ∀ {lks : List (Option (List K))} {as as' : List A} {hp hp' : List Ob} {ι : Nat → Pl}, nilAs hp lks as = (as', hp') → HR ι hp w →
    ∃ ι', ViewsE ι ι' hp hp' w ∧ as'.length = as.length ∧ ∀ (j : Nat) (a' : A), as'[j]? = some a' → ∃ a, as[j]? = some a ∧ ∀ c, AR ι (shp hp) a c → AR ι' (shp hp') a' c := by
  intro lks as
  induction as generalizing lks with
  | nil =>
    intro as' hp hp' ι hv h
    have : nilAs hp lks [] = ([], hp) := by cases lks <;> rfl
    rw [this] at hv
    cases hv
    exact ⟨ι, ViewsE.refl h, rfl, fun j a' hj => by simp at hj⟩
  | cons a as ih =>
    intro as' hp hp' ι hv h
    cases lks with
    | nil =>
      simp only [nilAs, Prod.mk.injEq] at hv
      obtain ⟨rfl, rfl⟩ := hv
      exact ⟨ι, ViewsE.refl h, rfl, fun j a' hj => ⟨a', hj, fun _ ha => ha⟩⟩
    | cons lk lks =>
      simp only [nilAs] at hv
      generalize h1 : nilA hp lk a = q at hv
      obtain ⟨a1, hp1⟩ := q
      simp only at hv
      generalize h2 : nilAs hp1 lks as = q at hv
      obtain ⟨as1, hp2⟩ := q
      simp only [Prod.mk.injEq] at hv
      obtain ⟨rfl, rfl⟩ := hv
      obtain ⟨ι1, v1, g1⟩ := nilA_U h1 h
      obtain ⟨ι2, v2, l2, g2⟩ := ih h2 v1.v.heap
      refine ⟨ι2, v1.trans v2, by simp [l2], fun j a' hj => ?_⟩
      cases j with
      | zero =>
        simp at hj
        subst hj
        exact ⟨a, rfl, fun c ha => (g1 c ha).ext v2.v.ext⟩
      | succ j =>
        simp at hj
        obtain ⟨b, hb, hc⟩ := g2 j a' hj
        exact ⟨b, by simpa using hb, fun c ha => hc c (ha.ext v1.v.ext)⟩

theorem RelH.box {g : Beg} {ι : Nat → Pl} {hp : List Ob} {w : World} (h : RelH g ι hp w) {id : Nat} {cs cs' : List A} (ho : hp[id]? = some ⟨true, .box cs⟩) (hl : cs'.length = cs.length)
    (hc : ι id ≠ .off → ∀ (b base room : Nat) (blk : Array Value) (t : TypeId) (fz : Nat × Nat), ι id = .on b base room → w.heap[b]? = some (.cells blk t fz) → ∀ (j : Nat) (a' : A), cs'[j]? = some a' → ∃ c, blk[base + j]? = some c ∧ AR ι (shp hp) a' c) : RelH g ι (hp.set id ⟨true, .box cs'⟩) w := by
  have hs : shp (hp.set id ⟨true, .box cs'⟩) = shp hp := shp_set ho rfl
  have hlt := (List.getElem?_eq_some_iff.1 ho).1
  have back : ∀ (j : Nat) (ob : Ob), (hp.set id ⟨true, .box cs'⟩)[j]? = some ob → ∃ ob0, hp[j]? = some ob0 ∧ ob0.own = ob.own ∧ shpOb ob0 = shpOb ob := by
    intro j ob hj
    by_cases hij : id = j
    · subst hij
      rw [List.getElem?_set_self hlt] at hj
      cases hj
      exact ⟨_, ho, rfl, rfl⟩
    · rw [List.getElem?_set_ne hij] at hj
      exact ⟨_, hj, rfl, rfl⟩
  have liv : ∀ {ob0 ob : Ob}, shpOb ob0 = shpOb ob → ob.live → ob0.live := fun e hl => by unfold Ob.live at *; rw [e]; exact hl
  refine ⟨trivial, rfl, fun j ob hj hne => ?_, fun i j oi oj b base room b' base' room' hi hj hij hown hli hlj => ?_, h.keep, fun j ob hj => ?_, h.os, h.tape, h.output, h.size, h.block, fun j ob b base room hj1 hj hl1 => ?_⟩
  · change ObR ι (shp (hp.set id ⟨true, .box cs'⟩)) w j ob
    rw [hs]
    by_cases hij : id = j
    · subst hij
      rw [List.getElem?_set_self hlt] at hj
      cases hj
      obtain ⟨b, base, room, blk, t, fz, h1, h2, h3, h4, h5, h6⟩ := h.heap id _ ho hne
      exact ⟨b, base, room, blk, t, fz, h1, h2, h3, by rw [hl]; exact h4, h5, fun q a' hq => hc hne b base room blk t fz h1 h2 q a' hq⟩
    · rw [List.getElem?_set_ne hij] at hj
      exact h.heap j ob hj hne
  · obtain ⟨o1, a1, a2, a3⟩ := back i oi hi
    obtain ⟨o2, b1, b2, b3⟩ := back j oj hj
    exact h.inj i j o1 o2 b base room b' base' room' a1 b1 hij (by rw [a2]; exact hown) (liv a3 hli) (liv b3 hlj)
  · obtain ⟨o1, a1, a2, a3⟩ := h.flag j ob hj
    by_cases hij : id = j
    · subst hij
      change hp[id]? = some o1 at a1
      rw [ho] at a1
      cases a1
      exact ⟨_, List.getElem?_set_self hlt, a2, a3⟩
    · exact ⟨o1, by change (hp.set id _)[j]? = _; rw [List.getElem?_set_ne hij]; exact a1, a2, a3⟩
  · obtain ⟨o1, a1, a2, a3⟩ := back j ob hj
    exact h.fresh j o1 b base room hj1 a1 (liv a3 hl1)

theorem nilBox_sound (ty : Nat → Option TI) (t id : Nat) {g : Beg} {ι : Nat → Pl} {hp : List Ob} {w : World} (h : RelH g ι hp w) :
    ∃ ι', RelH g ι' (nilBox ty t hp id) w ∧ ∀ j, shp hp j ≠ .no → ι' j = ι j ∧ shp (nilBox ty t hp id) j = shp hp j := by
  unfold nilBox
  split
  · rename_i cs ho
    split
    · generalize h1 : nilAs hp (lksOf ty t) cs = q
      obtain ⟨cs', hp'⟩ := q
      obtain ⟨ι', v, hl, hc⟩ := nilAs_U h1 h.heap
      have hR := RelH.views h v
      obtain ⟨⟨news, rfl⟩, _, _⟩ := v.v
      have hlt := (List.getElem?_eq_some_iff.1 ho).1
      have ho' : (hp ++ news)[id]? = some ⟨true, .box cs⟩ := by rw [List.getElem?_append_left hlt]; exact ho
      refine ⟨ι', ?_, fun j hn => ⟨(v.v.ext j hn).1, ?_⟩⟩
      · refine RelH.box hR ho' hl fun hne b base room blk t fz h1 h2 q a' hq => ?_
        have hid : ι' id = ι id := v.v.agree id hlt
        obtain ⟨b0, base0, room0, blk0, t0, fz0, g1, g2, g3, g4, g5, g6⟩ := h.heap id _ ho (by rw [← hid]; exact hne)
        rw [← hid, h1] at g1
        cases g1
        rw [h2] at g2
        cases g2
        obtain ⟨a, ha, hac⟩ := hc q a' hq
        obtain ⟨c, e1, e2⟩ := g6 q a ha
        exact ⟨c, e1, hac c e2⟩
      · change shp ((hp ++ news).set id _) j = _
        rw [shp_set (ob' := ⟨true, .box cs'⟩) ho' rfl]
        exact (v.v.ext j hn).2
    · exact ⟨ι, h, fun _ _ => ⟨rfl, rfl⟩⟩
  · exact ⟨ι, h, fun _ _ => ⟨rfl, rfl⟩⟩

theorem nilBoxes_sound (ty : Nat → Option TI) (t : Nat) : ∀ (ids : List Nat) {g : Beg} {ι : Nat → Pl} {hp : List Ob} {w : World}, RelH g ι hp w →
    ∃ ι', RelH g ι' (nilBoxes ty t ids hp) w ∧ ∀ j, shp hp j ≠ .no → ι' j = ι j ∧ shp (nilBoxes ty t ids hp) j = shp hp j
  | [], _, ι, _, _, h => ⟨ι, h, fun _ _ => ⟨rfl, rfl⟩⟩
  | id :: ids, _, _, _, _, h => by
    obtain ⟨ι1, h1, e1⟩ := nilBox_sound ty t id h
    obtain ⟨ι2, h2, e2⟩ := nilBoxes_sound ty t ids h1
    refine ⟨ι2, h2, fun j hn => ?_⟩
    have a := e1 j hn
    have b := e2 j (by rw [a.2]; exact hn)
    exact ⟨b.1.trans a.1, b.2.trans a.2⟩

theorem nilTys_sound (ty : Nat → Option TI) : ∀ (ts : List Nat) {g : Beg} {ι : Nat → Pl} {hp : List Ob} {w : World}, RelH g ι hp w →
    ∃ ι', RelH g ι' (nilTys ty ts hp) w ∧ ∀ j, shp hp j ≠ .no → ι' j = ι j ∧ shp (nilTys ty ts hp) j = shp hp j
  | [], _, ι, _, _, h => ⟨ι, h, fun _ _ => ⟨rfl, rfl⟩⟩
  | t :: ts, _, _, hp, _, h => by
    obtain ⟨ι1, h1, e1⟩ := nilBoxes_sound ty t (List.range hp.length) h
    obtain ⟨ι2, h2, e2⟩ := nilTys_sound ty ts h1
    refine ⟨ι2, h2, fun j hn => ?_⟩
    have a := e1 j hn
    have b := e2 j (by rw [a.2]; exact hn)
    exact ⟨b.1.trans a.1, b.2.trans a.2⟩

theorem canonV_sound {g : Beg} {ι : Nat → Pl} {n0 m : Nat} {st : St} {live tys : List Nat} {vals : List V} {hp : List Ob} {a : Act} {w : World} (hn0 : g.h0.length = n0) (hm : st.sl.length = m)
    (hc : canonV ty n0 tys (live.map fun i => st.sl.getD i (.at .void)) st.hp = (vals, hp)) (h : Rel g ι st a w) :
    ∃ ι', Rel g ι' ⟨framed m live vals, hp⟩ a w := by
  unfold canonV at hc
  generalize h1 : nilVs ty st.hp tys (live.map fun i => st.sl.getD i (.at .void)) = q at hc
  obtain ⟨vs, hpT⟩ := q
  simp only at hc
  obtain ⟨ιT, hv, hF⟩ := nilVs_E h1 h.heap (slots_map h.slots live)
  obtain ⟨ιB, hB, hag⟩ := nilTys_sound ty (tys.drop (live.map fun i => st.sl.getD i (.at .void)).length) (h.toH.views hv)
  exact canon_sound hn0 hc hB h.defers (by have := h.slots.length; simp at this; omega) (hF.imp fun _ _ hx => VR.ext hag hx)

theorem canonO_sound {g : Beg} {ι : Nat → Pl} {n0 m : Nat} {st : St} {out : List Nat} {vals : List V} {hp : List Ob} {a : Act} {w : World} (hn0 : g.h0.length = n0) (hm : st.sl.length = m)
    (hc : canon n0 (out.map fun i => st.sl.getD i (.at .void)) st.hp = (vals, hp)) (h : Rel g ι st a w) :
    ∃ ι', Rel g ι' ⟨framed m out vals, hp⟩ a w :=
  canon_sound hn0 hc h.toH h.defers (by have := h.slots.length; simp at this; omega) (slots_map h.slots out)

def blocks (id : Nat) : Code → List Code
  | .block i b => (match Nat.beq i id with | true => [b] | false => []) ++ blocks id b
  | .seq a b => blocks id a ++ blocks id b
  | .cond _ a b => blocks id a ++ blocks id b
  | .loop b => blocks id b
  | _ => []

def SmTo (P : Program) (n0 n : Nat) (s : Sm) (id : Nat) (body : Code) : Prop :=
  ∀ (vals : List V) (hp : List Ob) (e : Ex) (vals' : List V) (hp' : List Ob), (∃ q, s.fn vals hp = some q ∧ resOf q = some (e, vals', hp')) → CodeTo P n0 (.block id body) ⟨framed n s.live vals, hp⟩ e ⟨framed n s.out vals', hp'⟩

def SmsOK (P : Program) (cx : Cx) (n0 n : Nat) (c : Code) : Prop := ∀ (id : Nat) (s : Sm) (body : Code), cx.sm id = some s → body ∈ blocks id c → SmTo P n0 n s id body

theorem framed_length {n : Nat} {live : List Nat} {vals : List V} : (framed n live vals).length = n := by
  unfold framed
  rw [setAll_length]; simp

theorem evC_sound {n0 n : Nat} (hC : CxOK P cx) (hmix : P.follows .mixedOrders = true) : ∀ (c : Code) (st : St) (k : Ex → St → Option α), SmsOK P cx n0 n c → st.sl.length = n → evC cx n0 c st k = some r →
    ∃ e st', k e st' = some r ∧ st'.sl.length = n ∧ CodeTo P n0 c st e st' := by
  intro c
  induction c generalizing α with
  | skip => intro st k _ hl h; exact ⟨.normal, st, by simpa [evC] using h, hl, fun g ι a w _ hrel Q hQ => wp_skip (hQ ι a w hrel)⟩
  | region id ops draw =>
    intro st k _ hl h
    obtain ⟨st', h1, h2, h3⟩ := region_sound hC hmix h
    exact ⟨_, st', h1, h2.trans hl, h3⟩
  | seq a b iha ihb =>
    intro st k hs hl h
    unfold evC at h
    obtain ⟨e, st1, h1, h2, h3⟩ := iha st _ (fun id s body h1 h2 => hs id s body h1 (by simp [blocks, h2])) hl h
    cases e with
    | normal =>
      obtain ⟨e2, st2, g1, g2, g3⟩ := ihb st1 k (fun id s body h1 h2 => hs id s body h1 (by simp [blocks, h2])) h2 h1
      exact ⟨e2, st2, g1, g2, fun g ι ac w hn0 hrel Q hQ => wp_seq (h3 g ι ac w hn0 hrel _ fun ι' a' w' h' => g3 g ι' a' w' hn0 h' Q hQ)⟩
    | exit id => exact ⟨_, st1, h1, h2, fun g ι ac w hn0 hrel Q hQ => wp_seq (h3 g ι ac w hn0 hrel _ fun ι' a' w' h' => hQ ι' a' w' h')⟩
    | ret => exact ⟨_, st1, h1, h2, fun g ι ac w hn0 hrel Q hQ => wp_seq (h3 g ι ac w hn0 hrel _ fun ι' a' w' h' => hQ ι' a' w' h')⟩
  | cond c x y ihx ihy =>
    intro st k hs hl h
    unfold evC at h
    split at h
    · rename_i t hc
      cases t with
      | true =>
        obtain ⟨e, st1, h1, h2, h3⟩ := ihx st _ (fun id s body h1 h2 => hs id s body h1 (by simp [blocks, h2])) hl h
        refine ⟨e, st1, h1, h2, fun g ι ac w hn0 hrel Q hQ => wp_cond_true ?_ (h3 g ι ac w hn0 hrel Q hQ)⟩
        have := evA_VR hrel.slots c
        rw [hc] at this
        exact this
      | false =>
        obtain ⟨e, st1, h1, h2, h3⟩ := ihy st _ (fun id s body h1 h2 => hs id s body h1 (by simp [blocks, h2])) hl h
        refine ⟨e, st1, h1, h2, fun g ι ac w hn0 hrel Q hQ => wp_cond_false ?_ (h3 g ι ac w hn0 hrel Q hQ)⟩
        have := evA_VR hrel.slots c
        rw [hc] at this
        exact this
    · cases h
  | block id body ih =>
    intro st k hs hl h
    unfold evC at h
    split at h
    · rename_i s hsm
      split at h
      rename_i vals hp hcan
      have done : ∀ e vals' hp', (∃ q, s.fn vals hp = some q ∧ resOf q = some (e, vals', hp')) → k e ⟨framed st.sl.length s.out vals', hp'⟩ = some r →
          ∃ e st', k e st' = some r ∧ st'.sl.length = n ∧ CodeTo P n0 (.block id body) st e st' := by
        intro e vals' hp' hfn h
        have hto := hs id s body hsm (by simp [blocks, Nat.beq_refl]) vals hp e vals' hp' hfn
        refine ⟨e, _, h, by rw [framed_length]; exact hl, fun g ι a w hn0 hrel Q hQ => ?_⟩
        obtain ⟨ι', hrel'⟩ := canonV_sound hn0 hl hcan hrel
        refine hto g ι' a w hn0 hrel' Q fun ι2 a2 w2 h2 => hQ ι2 a2 w2 ?_
        rw [hl]; exact h2
      split at h
      · rename_i ok q hfn
        rw [chk_some] at h
        obtain ⟨rfl, h⟩ := h
        rw [Ends.to_get] at h
        exact done _ _ _ ⟨_, hfn, rfl⟩ h
      · cases h
    · obtain ⟨e, st1, h1, h2, h3⟩ := ih st _ (fun id s body h1 h2 => hs id s body h1 (by simp [blocks, h2])) hl h
      cases e with
      | normal => exact ⟨_, st1, h1, h2, fun g ι a w hn0 hrel Q hQ => wp_block (h3 g ι a w hn0 hrel _ fun ι' a' w' h' => hQ ι' a' w' h')⟩
      | ret => exact ⟨_, st1, h1, h2, fun g ι a w hn0 hrel Q hQ => wp_block (h3 g ι a w hn0 hrel _ fun ι' a' w' h' => hQ ι' a' w' h')⟩
      | exit id' =>
        simp only [inBlock] at h1
        cases hb : Nat.beq id' id with
        | true =>
          rw [hb] at h1
          have := Nat.eq_of_beq_eq_true hb
          subst this
          exact ⟨_, st1, h1, h2, fun g ι a w hn0 hrel Q hQ => wp_block (h3 g ι a w hn0 hrel _ fun ι' a' w' h' => by
            simp only [exOf, Exit.inBlock, if_true]
            exact hQ ι' a' w' h')⟩
        | false =>
          rw [hb] at h1
          have hne : id' ≠ id := fun e => by subst e; rw [Nat.beq_refl] at hb; cases hb
          exact ⟨_, st1, h1, h2, fun g ι a w hn0 hrel Q hQ => wp_block (h3 g ι a w hn0 hrel _ fun ι' a' w' h' => by
            simp only [exOf, Exit.inBlock, hne, if_false]
            exact hQ ι' a' w' h')⟩
  | loop body ih =>
    intro st k hs hl h
    unfold evC at h
    have hs' : SmsOK P cx n0 n body := fun id s b h1 h2 => hs id s b h1 (by simpa [blocks] using h2)
    have key : ∀ (un : Nat) (st : St), st.sl.length = n → evLoop (evC cx n0 body) un st k = some r →
        ∃ e st', k e st' = some r ∧ st'.sl.length = n ∧ ∀ (g : Beg) (ι : Nat → Pl) (a : Act) (w : World), g.h0.length = n0 → Rel g ι st a w → ∀ Q : Exit → Act → World → Prop, (∀ ι' a' w', Rel g ι' st' a' w' → Q (exOf e) a' w') → Code.rounds P body Q un a w := by
      intro un
      induction un with
      | zero => intro st hl h; simp [evLoop] at h
      | succ un ihu =>
        intro st hl h
        unfold evLoop at h
        obtain ⟨e, st1, h1, h2, h3⟩ := ih st _ hs' hl h
        cases e with
        | normal =>
          obtain ⟨e2, st2, g1, g2, g3⟩ := ihu st1 h2 h1
          exact ⟨e2, st2, g1, g2, fun g ι a w hn0 hrel Q hQ => by
            rw [rounds_succ]
            exact h3 g ι a w hn0 hrel _ fun ι' a' w' h' => g3 g ι' a' w' hn0 h' Q hQ⟩
        | exit id => exact ⟨_, st1, h1, h2, fun g ι a w hn0 hrel Q hQ => by rw [rounds_succ]; exact h3 g ι a w hn0 hrel _ fun ι' a' w' h' => hQ ι' a' w' h'⟩
        | ret => exact ⟨_, st1, h1, h2, fun g ι a w hn0 hrel Q hQ => by rw [rounds_succ]; exact h3 g ι a w hn0 hrel _ fun ι' a' w' h' => hQ ι' a' w' h'⟩
    obtain ⟨e, st', h1, h2, h3⟩ := key _ st hl h
    exact ⟨e, st', h1, h2, fun g ι a w hn0 hrel Q hQ => wp_loop_rounds _ (h3 g ι a w hn0 hrel Q hQ)⟩
  | exit id => intro st k _ hl h; exact ⟨.exit id, st, by simpa [evC] using h, hl, fun g ι a w _ hrel Q hQ => wp_exit (hQ ι a w hrel)⟩
  | ret => intro st k _ hl h; exact ⟨.ret, st, by simpa [evC] using h, hl, fun g ι a w _ hrel Q hQ => wp_ret (hQ ι a w hrel)⟩
  | _ => intro st k _ _ h; simp [evC] at h

theorem sm_loop {n0 n id : Nat} {s : Sm} {body : Code} (hC : CxOK P cx) (hmix : P.follows .mixedOrders = true) (hs : SmsOK P cx n0 n body)
    (h : ∀ (vals : List V) (hp : List Ob) q r, s.fn vals hp = some q → resOf q = some r → ∃ fuel, loopOf cx n0 n id s.live s.tys s.out body fuel vals hp = some r) : SmTo P n0 n s id (.loop body) := by
  intro vals hp e vals' hp' ⟨q, hfn, hq⟩
  obtain ⟨fuel, hl⟩ := h vals hp q _ hfn hq
  intro g ι a w hn0 hrel Q hQ
  have key : ∀ (fuel : Nat) (vals : List V) (hp : List Ob), loopOf cx n0 n id s.live s.tys s.out body fuel vals hp = some (e, vals', hp') → ∀ (ι : Nat → Pl) (a : Act) (w : World), Rel g ι ⟨framed n s.live vals, hp⟩ a w →
      Code.rounds P body (Exit.inBlock id Q) fuel a w := by
    intro fuel
    induction fuel with
    | zero => intro vals hp h; simp [loopOf] at h
    | succ fuel ih =>
      intro vals hp hl ι a w hrel
      unfold loopOf at hl
      rw [rounds_succ]
      generalize hr : roundOf cx n0 n id s.live s.tys s.out body vals hp = rr at hl
      cases rr with
      | none => cases hl
      | some q =>
        obtain ⟨go, e1, vs1, h1⟩ := q
        unfold roundOf at hr
        obtain ⟨e2, st2, g1, g2, g3⟩ := evC_sound hC hmix body _ _ hs framed_length hr
        refine g3 g ι a w hn0 hrel _ fun ι' a' w' hr' => ?_
        cases e2 with
        | normal =>
          simp only at g1
          generalize hc : canonV cx.ty n0 s.tys (s.live.map fun i => st2.sl.getD i (.at .void)) st2.hp = q at g1
          obtain ⟨vs, hh⟩ := q
          simp only [Option.some.injEq, Prod.mk.injEq] at g1
          obtain ⟨rfl, rfl, rfl, rfl⟩ := g1
          obtain ⟨ι2, hr2⟩ := canonV_sound hn0 g2 hc hr'
          exact ih _ _ hl ι2 a' w' hr2
        | exit j =>
          simp only at g1
          generalize hc : canon n0 (s.out.map fun i => st2.sl.getD i (.at .void)) st2.hp = q at g1
          obtain ⟨vs, hh⟩ := q
          obtain ⟨ι2, hr2⟩ := canonO_sound hn0 g2 hc hr'
          simp only at g1
          cases hb : Nat.beq j id with
          | true =>
            rw [hb] at g1
            have := Nat.eq_of_beq_eq_true hb
            subst this
            simp only [Option.some.injEq, Prod.mk.injEq] at g1
            obtain ⟨rfl, rfl, rfl, rfl⟩ := g1
            simp only [Option.some.injEq, Prod.mk.injEq] at hl
            obtain ⟨rfl, rfl, rfl⟩ := hl
            simp only [exOf, Exit.then, Exit.inBlock, if_true]
            exact hQ ι2 a' w' hr2
          | false =>
            rw [hb] at g1
            have hne : j ≠ id := fun e => by subst e; rw [Nat.beq_refl] at hb; cases hb
            simp only [Option.some.injEq, Prod.mk.injEq] at g1
            obtain ⟨rfl, rfl, rfl, rfl⟩ := g1
            simp only [Option.some.injEq, Prod.mk.injEq] at hl
            obtain ⟨rfl, rfl, rfl⟩ := hl
            simp only [exOf, Exit.then, Exit.inBlock, hne, if_false]
            exact hQ ι2 a' w' hr2
        | ret =>
          simp only at g1
          generalize hc : canon n0 (s.out.map fun i => st2.sl.getD i (.at .void)) st2.hp = q at g1
          obtain ⟨vs, hh⟩ := q
          obtain ⟨ι2, hr2⟩ := canonO_sound hn0 g2 hc hr'
          simp only [Option.some.injEq, Prod.mk.injEq] at g1
          obtain ⟨rfl, rfl, rfl, rfl⟩ := g1
          simp only [Option.some.injEq, Prod.mk.injEq] at hl
          obtain ⟨rfl, rfl, rfl⟩ := hl
          exact hQ ι2 a' w' hr2
  exact wp_block (wp_loop_rounds _ (key fuel vals hp hl ι a w hrel))
end Go.Fx

/- Functions. -/
namespace Go.Fx
variable {P : Program} {cx : Cx} {ty : Nat → Option TI}

theorem run_mapM {β γ : Type} {f : β → Sem γ} {R : β → γ → Prop} {w : World} {as : Array β} (h : ∀ x ∈ as, ∃ c, (f x).run P w = .ok c w ∧ R x c) : ∃ cs, (as.mapM f).run P w = .ok cs w ∧ F2 R as.toList cs.toList := by
  have key : ∀ l : List β, (∀ x ∈ l, ∃ c, (f x).run P w = .ok c w ∧ R x c) → ∃ cs, (l.mapM f).run P w = .ok cs w ∧ F2 R l cs := by
    intro l
    induction l with
    | nil => intro _; exact ⟨[], rfl, trivial⟩
    | cons x l ih =>
      intro h
      obtain ⟨c, h1, h2⟩ := h x (by simp)
      obtain ⟨cs, g1, g2⟩ := ih fun y hy => h y (by simp [hy])
      exact ⟨c :: cs, by rw [List.mapM_cons]; simp only [Sem.run_bind, h1, Result.andThen_ok, g1, Sem.run_pure], h2, g2⟩
  obtain ⟨cs, h1, h2⟩ := key as.toList (by simpa using h)
  refine ⟨cs.toArray, ?_, by simpa using h2⟩
  rw [Array.mapM_eq_mapM_toList, map_eq_pure_bind]
  simp only [Sem.run_bind, h1, Result.andThen_ok, Sem.run_pure]

theorem resV_sound {ι : Nat → Pl} {w : World} {a : Act} {st : St} (hT : TyOK P ty) (hs : F2 (VR ι (shp st.hp)) st.sl a.tmps.toList) (hh : HR ι st.hp w) : ∀ (rs : List ResultVar) (vs : List V), resV ty st rs = some vs →
    F2 (fun (x : ResultVar) (v : V) => ∃ c, ((match x with | .tmp t => pure (a.tmps.getD t undef) | .cell b t => do loadVar t (← asAddr (a.tmps.getD b undef))) : Sem Value).run P w = .ok c w ∧ VR ι (shp st.hp) v c) rs vs := by
  intro rs
  induction rs with
  | nil => intro vs h; simp [resV] at h; subst h; trivial
  | cons x rs ih =>
    intro vs h
    cases x with
    | tmp t =>
      simp only [resV] at h
      split at h
      · rename_i vs' hvs
        simp only [Option.some.injEq] at h
        subst h
        exact ⟨⟨_, rfl, slots_get hs t⟩, ih vs' hvs⟩
      · cases h
    | cell b t =>
      simp only [resV] at h
      split at h
      · rename_i id el off i vs' hx hi hvs
        split at h
        · rename_i ob hob
          split at h
          · rename_i v hl
            simp only [Option.some.injEq] at h
            subst h
            refine ⟨?_, ih vs' hvs⟩
            have hv := slots_get hs b
            rw [hx] at hv
            have hpr : PR ι (shp st.hp) id el off (a.tmps.getD b undef) := hv
            have hoff : ι id ≠ .off := by
              obtain ⟨b, base, room, h1, _⟩ := hpr
              rw [h1]; simp
            obtain ⟨q, h1, h2⟩ := load_sound (P := P) (hT t i hi) (hh id ob hob hoff) (shp_of hob) hpr (v := v) (by cases hd : i.d <;> rw [hd] at hl <;> exact hl)
            obtain ⟨b', base, room, e1, e2, e3⟩ := hpr
            refine ⟨q, ?_, h2⟩
            rw [e2] at h1
            simp only
            rw [e2]
            simpa [Instr.loadAt, Instr.sureAddr, asAddr] using h1
          · cases h
        · cases h
      · cases h

theorem F2.comp {α β γ : Type} {R : α → β → Prop} {S : α → γ → Prop} {T : β → γ → Prop} (h : ∀ a b c, R a b → S a c → T b c) : ∀ {as : List α} {bs : List β} {cs : List γ}, F2 R as bs → F2 S as cs → F2 T bs cs
  | [], [], [], _, _ => trivial
  | _ :: _, _ :: _, _ :: _, ⟨h1, h2⟩, ⟨g1, g2⟩ => ⟨h _ _ _ h1 g1, F2.comp h h2 g2⟩
  | [], _ :: _, _, h, _ => h.elim
  | _ :: _, [], _, h, _ => h.elim
  | [], [], _ :: _, _, h => h.elim
  | _ :: _, _ :: _, [], _, h => h.elim

def wrapC : List Value → Value
  | [c] => c
  | cs => .tuple cs.toArray

theorem results_sound {ι : Nat → Pl} {w : World} {a : Act} {st : St} {fn : Func} {vs : List V} (hT : TyOK P ty) (hs : F2 (VR ι (shp st.hp)) st.sl a.tmps.toList) (hh : HR ι st.hp w) (h : resV ty st fn.results.toList = some vs) :
    ∃ cs : List Value, F2 (VR ι (shp st.hp)) vs cs ∧ (results fn a.tmps).run P w = .ok (wrapC cs) w := by
  have hF := resV_sound hT hs hh fn.results.toList vs h
  obtain ⟨cs, h1, h2⟩ := run_mapM (P := P) (w := w) (as := fn.results) (f := fun x => (match x with | .tmp t => pure (a.tmps.getD t undef) | .cell b t => do loadVar t (← asAddr (a.tmps.getD b undef)) : Sem Value))
    (R := fun x c => ((match x with | .tmp t => pure (a.tmps.getD t undef) | .cell b t => do loadVar t (← asAddr (a.tmps.getD b undef)) : Sem Value)).run P w = .ok c w) (fun x hx => by
      have hm : ∀ {rs : List ResultVar} {vs : List V}, F2 (fun (x : ResultVar) (v : V) => ∃ c, ((match x with | .tmp t => pure (a.tmps.getD t undef) | .cell b t => do loadVar t (← asAddr (a.tmps.getD b undef))) : Sem Value).run P w = .ok c w ∧ VR ι (shp st.hp) v c) rs vs → x ∈ rs →
          ∃ c, ((match x with | .tmp t => pure (a.tmps.getD t undef) | .cell b t => do loadVar t (← asAddr (a.tmps.getD b undef))) : Sem Value).run P w = .ok c w := by
        intro rs
        induction rs with
        | nil => intro vs _ hx; cases hx
        | cons y rs ih =>
          intro vs hF hx
          cases vs with
          | nil => exact hF.elim
          | cons v vs =>
            obtain ⟨⟨c, hc, _⟩, hr⟩ := hF
            cases hx with
            | head => exact ⟨c, hc⟩
            | tail _ hx => exact ih hr hx
      obtain ⟨c, hc⟩ := hm hF (by simpa using hx)
      exact ⟨c, hc, hc⟩)
  refine ⟨cs.toList, F2.comp (fun x v c hv hc => ?_) hF h2, ?_⟩
  · obtain ⟨c', e1, e2⟩ := hv
    rw [hc] at e1
    cases e1
    exact e2
  · have e : results fn a.tmps = (do
        let vs ← fn.results.mapM fun x => (match x with | .tmp t => pure (a.tmps.getD t undef) | .cell b t => do loadVar t (← asAddr (a.tmps.getD b undef)) : Sem Value)
        pure (if h : vs.size = 1 then vs[0] else .tuple vs)) := rfl
    rw [e]
    simp only [Sem.run_bind, h1, Result.andThen_ok, Sem.run_pure]
    congr 1
    obtain ⟨l⟩ := cs
    match l with
    | [] => rfl
    | [c] => rfl
    | _ :: _ :: _ => rfl
end Go.Fx

/- Functions: the evaluator's answer is the call's. -/
namespace Go.Fx
variable {P : Program} {cx : Cx}

def roB : List Ob → Bool
  | [] => true
  | ob :: t => match ob.own with
    | true => false
    | false => roB t

theorem roB_get : ∀ {h : List Ob}, roB h = true → ∀ (id : Nat) (ob : Ob), h[id]? = some ob → ob.own = false
  | [], _, id, ob, hi => by simp at hi
  | o :: t, hr, 0, ob, hi => by
    simp at hi; subst hi
    cases ho : o.own with
    | false => rfl
    | true => simp [roB, ho] at hr
  | o :: t, hr, id + 1, ob, hi => by
    simp at hi
    cases ho : o.own with
    | false => simp [roB, ho] at hr; exact roB_get hr id ob hi
    | true => simp [roB, ho] at hr

theorem toT_TR {ι : Nat → Pl} {S : Nat → Shp} {v : V} {c : Value} (h : VR ι S v c) : TR ι S (toT v) c := by
  cases v with
  | «at» a => exact h
  | agg as => exact h
  | tup xs => trivial

theorem toT_list {ι : Nat → Pl} {S : Nat → Shp} : ∀ {vs : List V} {cs : List Value}, F2 (VR ι S) vs cs → F2 (TR ι S) (vs.map toT) cs
  | [], [], _ => trivial
  | _ :: _, _ :: _, ⟨h1, h2⟩ => ⟨toT_TR h1, toT_list h2⟩
  | [], _ :: _, h => h.elim
  | _ :: _, [], h => h.elim

theorem wrap_VR {ι : Nat → Pl} {S : Nat → Shp} {vs : List V} {cs : List Value} (h : F2 (VR ι S) vs cs) : VR ι S (wrapV vs) (wrapC cs) := by
  match vs, cs, h with
  | [], [], _ => exact ⟨#[], rfl, trivial⟩
  | [v], [c], ⟨h, _⟩ => exact h
  | v :: v' :: vs, c :: c' :: cs, h => exact ⟨(c :: c' :: cs).toArray, rfl, toT_list h⟩
  | [], _ :: _, h => exact h.elim
  | _ :: _, [], h => exact h.elim
  | [_], _ :: _ :: _, ⟨_, h⟩ => exact h.elim
  | _ :: _ :: _, [_], ⟨_, h⟩ => exact h.elim

theorem nilEnd_sound (cx : Cx) {g : Beg} {ι : Nat → Pl} {hp : List Ob} {w : World} (h : RelH g ι hp w) :
    ∃ ι', RelH g ι' (nilEnd cx hp) w ∧ ∀ j, shp hp j ≠ .no → ι' j = ι j ∧ shp (nilEnd cx hp) j = shp hp j := by
  unfold nilEnd
  split
  · exact ⟨ι, h, fun _ _ => ⟨rfl, rfl⟩⟩
  · exact nilBoxes_sound cx.ty _ _ h

theorem finish_sound {g : Beg} {ι : Nat → Pl} {fn : Func} {eff : Bool} {n0 : Nat} {st : St} {a : Act} {w : World} {ret : Ret} (hC : CxOK P cx) (hn0 : g.h0.length = n0) (h : finish cx fn eff n0 st = some ret) (hrel : Rel g ι st a w) :
    ∃ c ι' h2, (results fn a.tmps).run P w = .ok c w ∧ RelH g ι' h2 w ∧ VR ι' (shp h2) ret.r c ∧ ret.news = h2.drop n0 ∧ ret.upd = updOf eff n0 h2 := by
  unfold finish at h
  split at h
  · cases h
  · rename_i vs hvs
    rw [chk_some] at h
    obtain ⟨hns, h⟩ := h
    have hns : anySub vs = false := by simpa using hns
    split at h
    rename_i vs1 hpV hview
    dsimp only at h
    simp only [Option.some.injEq] at h
    obtain ⟨cs, h1, h2⟩ := results_sound (P := P) (fn := fn) hC.ty hrel.slots hrel.heap hvs
    obtain ⟨ιT, hv, h3⟩ := viewVs_E hview hns hrel.heap h1
    obtain ⟨ιE, hH, hE⟩ := nilEnd_sound cx (hrel.toH.views hv)
    replace h3 := h3.imp fun _ _ hx => VR.ext hE hx
    generalize nilEnd cx hpV = hpT at h hH hE h3
    have hids := ids_spec n0 3 (vs1.flatMap V.ids) hpT
    generalize reach 3 (addIds (List.range n0) (vs1.flatMap V.ids)) hpT = ids at h hids
    have hP := hH.pick (ids := ids) (by rw [hn0]; exact hids.1) hids.2
    obtain ⟨_, hcor⟩ := pick_HR (ro := false) hH.heap (fun i => idx i ids) (fun i j hij => idx_get hij)
    have h4 := F2.ren_list hcor h3
    subst h
    exact ⟨_, _, _, h2, hP, wrap_VR h4, rfl, rfl⟩

theorem init_rel {ι : Nat → Pl} {w : World} {h : List Ob} {args : List V} {cs : Array Value} {fn : Func} (hargs : F2 (VR ι (shp h)) args cs.toList) (hh : HR ι h w) (hinj : INJ ι h) :
    Rel ⟨w, ι, h⟩ ι (initSt fn args h) { tmps := cs ++ Array.replicate (fn.ntmps - cs.size) undef, defers := [] } w := by
  have hl := hargs.length
  simp only [Array.length_toList] at hl
  refine ⟨?_, rfl, hh, hinj, fun _ _ => rfl, fun id ob ho => ⟨ob, ho, rfl, .inl rfl⟩, rfl, rfl, rfl, Nat.le_refl _, fun _ _ _ => rfl, fun id ob b base room h1 h2 => ?_⟩
  · simp only [initSt, Array.toList_append, Array.toList_replicate, hl]
    exact hargs.append (F2.replicate (R := VR ι (shp h)) (a := .at .void) (b := undef) rfl _)
  · simp only [initSt] at h2
    rw [List.getElem?_eq_none h1] at h2; cases h2

theorem holds_of_code {f : FuncId} {fn : Func} {c : Code} {args : List V} {h : List Ob} {r : V} {news : List Ob} (hC : CxOK P cx) (hf : P.funcs[f]? = some fn) (hb : fn.body = some c) (hname : fn.name ≠ "runtime.NumGoroutine")
    (hro : roB h = true) (hcode : ∀ (ι : Nat → Pl) (w : World) (cs : Array Value), F2 (VR ι (shp h)) args cs.toList → HR ι h w → ∃ e st', (match e with | .normal => finish cx fn false h.length st' | .ret => finish cx fn false h.length st' | .exit _ => none) = some ⟨r, none, news⟩ ∧
      ∀ Q : Exit → Act → World → Prop, (∀ ι' a' w', Rel ⟨w, ι, h⟩ ι' st' a' w' → Q (exOf e) a' w') → c.wp P Q { tmps := cs ++ Array.replicate (fn.ntmps - cs.size) undef, defers := [] } w) : Holds P f args h r news := by
  intro ι w cs hargs hh
  have hown := roB_get hro
  obtain ⟨e, st', h1, h3⟩ := hcode ι w cs hargs hh
  have hrun : (callFunc f cs).run P w = .ok (.enter f cs) w := by
    simp [callFunc, hf, hname, hb]
  unfold CallsV
  rw [hrun]
  simp only
  have hmine : ∀ k, ¬ (Beg.mine ⟨w, ι, h⟩ k) := fun k ⟨id, ob, base, room, g1, g2, _⟩ => by rw [hown id ob g1] at g2; cases g2
  -- at the end
  have key : ∀ ι' a' w', Rel ⟨w, ι, h⟩ ι' st' a' w' → finish cx fn false h.length st' = some ⟨r, none, news⟩ →
      a'.defers = [] ∧ ∃ v, (results fn a'.tmps).run P w' = .ok v w' ∧ ∃ c', Ending.returned v = Ending.returned c' ∧ ∃ ι'', Grow ι ι'' h news w w' ∧ VR ι'' (shp (h ++ news)) r c' ∧ HR ι'' (h ++ news) w' := by
    intro ι' a' w' hr hfin
    obtain ⟨c', ι2, h2', g1, g2, g3, g4, _⟩ := finish_sound (g := ⟨w, ι, h⟩) (n0 := h.length) hC rfl hfin hr
    simp only at g3 g4
    refine ⟨hr.defers, c', g1, c', rfl, ι2, ?_⟩
    have hlen : h.length ≤ h2'.length := g2.len
    have hkeep : ∀ id, id < h.length → ι2 id = ι id := g2.keep
    have hget : ∀ id, h.length ≤ id → (h ++ news)[id]? = h2'[id]? := fun id hid => by
      rw [List.getElem?_append_right hid, g4, List.getElem?_drop]; congr 1; omega
    have hshp : ∀ id, shp h2' id ≠ .no → shp (h ++ news) id = shp h2' id := fun id hn => by
      rcases Nat.lt_or_ge id h.length with hl | hl
      · rw [shp_append_lt hl]
        obtain ⟨ob', e1, _, e3⟩ := g2.flag id _ (List.getElem?_eq_getElem hl)
        simp only at e1
        rw [shp_of e1] at hn ⊢
        rcases e3 with e3 | e3
        · rw [e3, shp_of (List.getElem?_eq_getElem hl)]
        · exact absurd e3 hn
      · unfold shp; rw [hget id hl]
    have hwx : WX w w' := ⟨g2.os, g2.tape, g2.output, g2.size, fun k hk => g2.block k hk (hmine k)⟩
    refine ⟨⟨hkeep, hwx, fun i oi b base room hi ho hl hon => ?_, fun i j oi oj b base room b' base' room' hi hj hij ho ho' hown' hl hl' hon hon' => ?_⟩, VR.ext (fun id hn => ⟨rfl, hshp id hn⟩) g3, fun id ob ho hoff => ?_⟩
    · rw [hget i hi] at ho
      rcases g2.fresh i oi b base room hi ho hl hon with h | h
      · exact h
      · exact absurd h (hmine b)
    · rw [hget i hi] at ho
      rw [hget j hj] at ho'
      exact g2.inj i j oi oj b base room b' base' room' ho ho' hij hown' hl hl' hon hon'
    · rcases Nat.lt_or_ge id h.length with hl | hl
      · rw [List.getElem?_append_left hl] at ho
        rw [hkeep id hl] at hoff
        exact (hh id ob ho hoff).ext (fun id' hn => ⟨hkeep id' (shp_lt hn), shp_append_lt (shp_lt hn)⟩) (hkeep id hl) (fun b _ _ _ hb => hwx.block b hb)
      · rw [hget id hl] at ho
        exact (g2.heap id ob ho hoff).ext (fun id' hn => ⟨rfl, hshp id' hn⟩) rfl (fun _ _ _ _ _ => rfl)
  refine calls_of_wp hf hb (h3 _ fun ι' a' w' hr => ?_)
  cases e with
  | normal => exact key ι' a' w' hr h1
  | ret => exact key ι' a' w' hr h1
  | exit id => cases h1

theorem holds_of_ev {f : FuncId} {fn : Func} {c : Code} {args : List V} {h : List Ob} {r : V} {news : List Ob} (hC : CxOK P cx) (hmix : P.follows .mixedOrders = true) (hf : P.funcs[f]? = some fn) (hb : fn.body = some c) (hname : fn.name ≠ "runtime.NumGoroutine")
    (hsm : SmsOK P cx h.length (args.length + (fn.ntmps - args.length)) c) (hro : roB h = true) (hev : evFn cx fn false args h = some ⟨r, none, news⟩) : Holds P f args h r news := by
  have hown := roB_get hro
  unfold evFn at hev
  rw [hb] at hev
  simp only at hev
  obtain ⟨e, st', h1, h2, h3⟩ := evC_sound hC hmix c (initSt fn args h) _ hsm (by simp [initSt]) hev
  refine holds_of_code hC hf hb hname hro fun ι w cs hargs hh => ⟨e, st', h1, fun Q hQ => ?_⟩
  have hinj : INJ ι h := fun i j oi oj b base room b' base' room' hi hj hij hoi => by rw [hown i oi hi] at hoi; cases hoi
  exact h3 ⟨w, ι, h⟩ ι _ w rfl (init_rel (fn := fn) hargs hh hinj) Q hQ

end Go.Fx

/- Tables: the types, and the callees. -/
namespace Go.Fx
variable {P : Program}

def lookup {β : Type} (t : Nat) : List (Nat × β) → Option β
  | [] => none
  | (i, b) :: r => match Nat.beq t i with
    | true => some b
    | false => lookup t r

theorem lookup_mem {β : Type} {t : Nat} {b : β} : ∀ {l : List (Nat × β)}, lookup t l = some b → (t, b) ∈ l
  | [], h => by simp [lookup] at h
  | (i, c) :: r, h => by
    simp only [lookup] at h
    cases hb : Nat.beq t i with
    | true => rw [hb] at h; simp at h; subst h; rw [Nat.eq_of_beq_eq_true hb]; simp
    | false => rw [hb] at h; exact List.mem_cons_of_mem _ (lookup_mem h)

def A.same : A → A → Bool
  | .undef, .undef => true
  | .nil, .nil => true
  | .bool a, .bool b => a == b
  | .int k n, .int k' m => decide (k = k') && (n == m)
  | .fl k n, .fl k' m => decide (k = k') && (n == m)
  | _, _ => false

theorem A.same_eq {a b : A} (h : A.same a b = true) : a = b := by
  cases a <;> cases b <;> simp [A.same] at h <;> simp [h]

def sameAll : List A → List A → Bool
  | [], [] => true
  | a :: as, b :: bs => A.same a b && sameAll as bs
  | _, _ => false

theorem sameAll_eq : ∀ {as bs : List A}, sameAll as bs = true → as = bs
  | [], [], _ => rfl
  | a :: as, b :: bs, h => by simp [sameAll] at h; rw [A.same_eq h.1, sameAll_eq h.2]
  | [], _ :: _, h => by simp [sameAll] at h
  | _ :: _, [], h => by simp [sameAll] at h

def fieldsB (P : Program) : List Field → List (Nat × Nat) → Bool
  | [], [] => true
  | f :: fs, (o, t) :: r => Nat.beq f.offset o && Nat.beq f.type t && (match P.info? f.type with | some i => Nat.blt 0 i.size | none => false) && fieldsB P fs r
  | _, _ => false

theorem fieldsB_ok : ∀ {fs : List Field} {r : List (Nat × Nat)}, fieldsB P fs r = true → fs.map (fun f => (f.offset, f.type)) = r ∧ ∀ f ∈ fs, ∃ i, P.info? f.type = some i ∧ i.size ≠ 0
  | [], [], _ => ⟨rfl, fun f hf => by cases hf⟩
  | f :: fs, (o, t) :: r, h => by
    simp only [fieldsB, Bool.and_eq_true] at h
    obtain ⟨⟨⟨h1, h2⟩, h3⟩, h4⟩ := h
    obtain ⟨g1, g2⟩ := fieldsB_ok h4
    refine ⟨by simp [g1, Nat.eq_of_beq_eq_true h1, Nat.eq_of_beq_eq_true h2], fun x hx => ?_⟩
    cases hx with
    | head =>
      split at h3
      · rename_i i hi; exact ⟨i, hi, by rw [Nat.blt_eq] at h3; omega⟩
      · cases h3
    | tail _ hx => exact g2 x hx
  | [], _ :: _, h => by simp [fieldsB] at h
  | _ :: _, [], h => by simp [fieldsB] at h

def drB (P : Program) (t : TypeId) : D → Bool
  | .sc (.f k) => (match P.underlying t with | some (.float k') => decide (k = k') | _ => false)
  | .sc (.i k) => (match P.underlying t with | some (.int k') => decide (k = k') | _ => false)
  | .sc .b => (match P.underlying t with | some .bool => true | _ => false)
  | .st fs => (match P.underlying t with | some (.struct fields) => fieldsB P fields.toList fs | _ => false)
  | .ar n e => (match P.underlying t with | some (.array n' e') => Nat.beq n n' && Nat.beq e e' | _ => false)
  | .sl e => (match P.underlying t with | some (.slice e') => Nat.beq e e' | _ => false)
  | .mp k kd => (match P.underlying t, P.underlying k with
    | some (.map k' _), some (.array n e) => Nat.beq k k' && Nat.blt 0 P.types.size && Nat.beq n 2 && P.plainKey e && Nat.beq (P.cellsOf e) 1 && Nat.beq (P.cellsOf k) 2 && (match P.underlying e with | some (.int q) => decide (q = kd) | _ => false)
    | _, _ => false)
  | .oth => (match P.underlying t with | some (.struct _) => false | some (.array _ _) => false | some _ => true | none => false)

theorem drB_ok {t : TypeId} {d : D} (h : drB P t d = true) : DR P t d := by
  cases d with
  | sc k =>
    cases k <;> simp only [drB] at h <;> split at h
    · rename_i h1; simp at h; subst h; exact h1
    · cases h
    · rename_i h1; simp at h; subst h; exact h1
    · cases h
    · rename_i h1; exact h1
    · cases h
  | st fs =>
    simp only [drB] at h
    split at h
    · rename_i fields h1
      obtain ⟨g1, g2⟩ := fieldsB_ok h
      exact ⟨fields, h1, g1, g2⟩
    · cases h
  | ar n e =>
    simp only [drB] at h
    split at h
    · rename_i n' e' h1
      simp only [Bool.and_eq_true] at h
      rw [Nat.eq_of_beq_eq_true h.1, Nat.eq_of_beq_eq_true h.2]
      exact h1
    · cases h
  | sl e =>
    simp only [drB] at h
    split at h
    · rename_i e' h1
      rw [Nat.eq_of_beq_eq_true h]
      exact h1
    · cases h
  | mp k kd =>
    simp only [drB] at h
    split at h
    · rename_i k' e' n e h1 h2
      simp only [Bool.and_eq_true] at h
      obtain ⟨⟨⟨⟨⟨⟨g1, g0⟩, g2⟩, g3⟩, g4⟩, g5⟩, g6⟩ := h
      obtain rfl := Nat.eq_of_beq_eq_true g1
      obtain rfl := Nat.eq_of_beq_eq_true g2
      rw [Nat.blt_eq] at g0
      refine ⟨⟨e', h1⟩, ⟨P.types.size - 1, by omega⟩, e, ⟨h2, g3, Nat.eq_of_beq_eq_true g4, Nat.eq_of_beq_eq_true g5⟩, ?_⟩
      split at g6
      · rename_i q h3; simp only [decide_eq_true_eq] at g6; subst g6; exact h3
      · cases g6
    · cases h
  | oth =>
    simp only [drB] at h
    split at h
    · cases h
    · cases h
    · rename_i d h1 h2 h3; exact ⟨d, h3, fun f hf => h1 f (by rw [← hf]), fun n e hf => h2 n e (by rw [← hf])⟩
    · cases h

def eqFB (P : Program) (t : TypeId) : Bool :=
  !P.stoodInHeld t && !P.eqGuardType P.depth t && (match P.underlying t with | some (.struct fs) => fs.toList.all fun f => f.name != "_" | _ => true)

theorem eqFB_ok {t : TypeId} (h : eqFB P t = true) : EqF P t := by
  unfold eqFB at h
  simp only [Bool.and_eq_true, Bool.not_eq_true'] at h
  refine ⟨h.1.1, h.1.2, fun fields hu f hf => ?_⟩
  have h2 := h.2
  rw [hu] at h2
  simp only [List.all_eq_true] at h2
  have := h2 f hf
  simpa using this

def tiB (P : Program) (t : TypeId) (i : TI) : Bool :=
  match P.info? t with
  | some inf => match inf.zero with
    | some z => Nat.beq inf.size i.size && Nat.beq inf.bytes i.bytes && sameAll i.zero (z.cells.toList.map conA) && Nat.beq i.zero.length i.size && drB P t i.d && (match i.ks with | some ks => Nat.beq ks.length i.size | none => true) && (match i.d, i.ks with | .st _, some _ => eqFB P t | _, _ => true)
    | none => false
  | none => false

theorem tiB_ok {t : TypeId} {i : TI} (h : tiB P t i = true) : TIOK P t i := by
  unfold tiB at h
  split at h
  · rename_i inf hinf
    split at h
    · rename_i z hz
      simp only [Bool.and_eq_true] at h
      obtain ⟨⟨⟨⟨⟨⟨h1, h2⟩, h3⟩, h4⟩, h5⟩, h6⟩, h7⟩ := h
      refine ⟨⟨inf, z, hinf, Nat.eq_of_beq_eq_true h1, Nat.eq_of_beq_eq_true h2, hz, ?_⟩, drB_ok h5, fun ks hks => ?_, Nat.eq_of_beq_eq_true h4, fun fs ks hd hks => by rw [hd, hks] at h7; exact eqFB_ok h7⟩
      · rw [sameAll_eq h3]
        exact F2.map_self (R := AR0) (fun c ι S => conA_AR ι S c) _
      · rw [hks] at h6
        exact Nat.eq_of_beq_eq_true h6
    · cases h
  · cases h

def tyB (P : Program) : List (Nat × TI) → Bool
  | [] => true
  | (t, i) :: r => match tiB P t i with
    | true => tyB P r
    | false => false

theorem tyB_ok : ∀ {l : List (Nat × TI)}, tyB P l = true → ∀ p ∈ l, TIOK P p.1 p.2
  | [], _, p, hp => by cases hp
  | (t, i) :: r, h, p, hp => by
    simp only [tyB] at h
    cases hb : tiB P t i with
    | false => rw [hb] at h; cases h
    | true =>
      rw [hb] at h
      cases hp with
      | head => exact tiB_ok hb
      | tail _ hp => exact tyB_ok h p hp

theorem tyOK_of {l : List (Nat × TI)} (h : tyB P l = true) : TyOK P (fun t => lookup t l) := fun t i hi => tyB_ok h (t, i) (lookup_mem hi)

abbrev Con := List V → List Ob → Option (Bool × Ret)

def CallOK (P : Program) (f : FuncId) (c : Con) : Prop :=
  (∀ (args : List V) (h : List Ob) (r : V) (news : List Ob), c args h = some (true, ⟨r, none, news⟩) → Holds P f args h r news) ∧
  (∀ (args : List V) (h : List Ob) (r : V) (upd news : List Ob), c args h = some (true, ⟨r, some upd, news⟩) → HoldsE P f args h r upd news)

def tabOf (l : List (Nat × Con)) (f : FuncId) (args : List V) (h : List Ob) : Option (Bool × Ret) :=
  match lookup f l with
  | some c => c args h
  | none => none

abbrev Con2 := List V → List Ob → Option (Bool × (Bool × Ret) × (Bool × Ret))

def TwoOK (P : Program) (f : FuncId) (c : Con2) : Prop :=
  ∀ (args : List V) (h : List Ob) (b : Bool) (x y : Bool × Ret) (r : V) (news : List Ob), c args h = some (b, x, y) → (bif b then x else y) = (true, ⟨r, none, news⟩) → Holds P f args h r news

def twoOf (l : List (Nat × Con2)) (f : FuncId) (args : List V) (h : List Ob) : Option (Bool × (Bool × Ret) × (Bool × Ret)) :=
  match lookup f l with
  | some c => c args h
  | none => none

def cxS (F : FOps) (tl : List (Nat × TI)) (cl : List (Nat × Con)) (ef : List Nat) (sm : List (Nat × Sm)) (un : Nat) (tw : List (Nat × Con2) := []) : Cx := ⟨F, fun t => lookup t tl, tabOf cl, fun f => hasId f ef, fun b => lookup b sm, un, twoOf tw⟩

theorem cxS_ok2 {tl : List (Nat × TI)} {cl : List (Nat × Con)} {ef : List Nat} {sm : List (Nat × Sm)} {un : Nat} {tw : List (Nat × Con2)} (h : TyOK P fun t => lookup t tl) (hc : ∀ p ∈ cl, CallOK P p.1 p.2) (ht : ∀ p ∈ tw, TwoOK P p.1 p.2) : CxOK P (cxS real tl cl ef sm un tw) := by
  refine ⟨rfl, h, fun f args ho r news hr => ?_, fun f args ho r upd news hr => ?_, fun f args ho b x y r news hr hb => ?_⟩
  · simp only [cxS, tabOf] at hr
    split at hr
    · rename_i c hl
      exact (hc (f, c) (lookup_mem hl)).1 args ho r news hr
    · cases hr
  · simp only [cxS, tabOf] at hr
    split at hr
    · rename_i c hl
      exact (hc (f, c) (lookup_mem hl)).2 args ho r upd news hr
    · cases hr
  · simp only [cxS, twoOf] at hr
    split at hr
    · rename_i c hl
      exact ht (f, c) (lookup_mem hl) args ho b x y r news hr hb
    · cases hr

theorem allTwo_nil : ∀ p ∈ ([] : List (Nat × Con2)), TwoOK P p.1 p.2 := fun p hp => by cases hp
theorem cxS_ok {tl : List (Nat × TI)} {cl : List (Nat × Con)} {ef : List Nat} {sm : List (Nat × Sm)} {un : Nat} (h : TyOK P fun t => lookup t tl) (hc : ∀ p ∈ cl, CallOK P p.1 p.2) : CxOK P (cxS real tl cl ef sm un) := cxS_ok2 h hc allTwo_nil

structure ProgOK (P : Program) (tl : List (Nat × TI)) : Prop where
  ty : TyOK P fun t => lookup t tl
  mix : P.follows .mixedOrders = true

def codeOf (f : Func) : Code := match f.body with
  | some c => c
  | none => .skip

def loopB (id : Nat) (c : Code) : Code := match blocks id c with
  | [.loop b] => b
  | _ => .skip

def SmL (P : Program) (n0 n : Nat) (c : Code) (l : List (Nat × Sm)) : Prop := ∀ p ∈ l, ∀ body, body ∈ blocks p.1 c → SmTo P n0 n p.2 p.1 body

theorem smL_nil {n0 n : Nat} {c : Code} : SmL P n0 n c [] := fun p hp => by cases hp

theorem smL_cons {n0 n : Nat} {c : Code} {b : Nat} {s : Sm} {l : List (Nat × Sm)} {body : Code} (hb : blocks b c = [body]) (h : SmTo P n0 n s b body) (hl : SmL P n0 n c l) : SmL P n0 n c ((b, s) :: l) := fun p hp body' hm => by
  cases hp with
  | head => simp only at hm; rw [hb] at hm; simp only [List.mem_singleton] at hm; subst hm; exact h
  | tail _ hp => exact hl p hp body' hm

theorem smL_sms {F : FOps} {tl : List (Nat × TI)} {cl : List (Nat × Con)} {ef : List Nat} {sm : List (Nat × Sm)} {un n0 n : Nat} {tw : List (Nat × Con2)} {c : Code} (h : SmL P n0 n c sm) : SmsOK P (cxS F tl cl ef sm un tw) n0 n c := fun id s body hs hm =>
  h (id, s) (lookup_mem hs) body hm

theorem smTo_ev {tl : List (Nat × TI)} {cl : List (Nat × Con)} {ef : List Nat} {sm : List (Nat × Sm)} {un n0 n id : Nat} {s : Sm} {body : Code} (hP : ProgOK P tl) (hc : ∀ p ∈ cl, CallOK P p.1 p.2) (hs : SmL P n0 n body sm)
    (h : ∀ (vals : List V) (hp : List Ob) q r, s.fn vals hp = some q → resOf q = some r → ∃ fuel, loopOf (cxS real tl cl ef sm un) n0 n id s.live s.tys s.out body fuel vals hp = some r) : SmTo P n0 n s id (.loop body) :=
  sm_loop (cxS_ok hP.ty hc) hP.mix (smL_sms hs) h

theorem holds_ev {tl : List (Nat × TI)} {cl : List (Nat × Con)} {ef : List Nat} {sm : List (Nat × Sm)} {un : Nat} {f : FuncId} {fn : Func} {c : Code} {args : List V} {h : List Ob} {r : V} {news : List Ob} (hP : ProgOK P tl) (hc : ∀ p ∈ cl, CallOK P p.1 p.2)
    (hf : P.funcs[f]? = some fn) (hb : fn.body = some c) (hname : (fn.name == "runtime.NumGoroutine") = false) (hs : SmL P h.length (args.length + (fn.ntmps - args.length)) c sm) (hro : roB h = true) (hev : evFn (cxS real tl cl ef sm un) fn false args h = some ⟨r, none, news⟩) : Holds P f args h r news :=
  holds_of_ev (cxS_ok hP.ty hc) hP.mix hf hb (by simpa using hname) (smL_sms hs) hro hev

theorem allOK_nil : ∀ p ∈ ([] : List (Nat × Con)), CallOK P p.1 p.2 := fun p hp => by cases hp
theorem allOK_cons {f : Nat} {c : Con} {l : List (Nat × Con)} (h : CallOK P f c) (hl : ∀ p ∈ l, CallOK P p.1 p.2) : ∀ p ∈ (f, c) :: l, CallOK P p.1 p.2 := fun p hp => by
  cases hp with
  | head => exact h
  | tail _ hp => exact hl p hp

theorem callOK_of {f : FuncId} {c : Con} (h : ∀ (args : List V) (h : List Ob) (ret : Ret), c args h = some (true, ret) → match ret.upd with | none => Holds P f args h ret.r ret.news | some upd => HoldsE P f args h ret.r upd ret.news) : CallOK P f c :=
  ⟨fun args ho r news hc => h args ho ⟨r, none, news⟩ hc, fun args ho r upd news hc => h args ho ⟨r, some upd, news⟩ hc⟩

theorem some_ret {ok : Bool} {ret ret' : Ret} (h : some (ok, ret) = some (true, ret')) : ok = true ∧ ret' = ret := by
  simp only [Option.some.injEq, Prod.mk.injEq] at h
  exact ⟨h.1, h.2.symm⟩

def kindOf (P : Program) (t : TypeId) : Option K :=
  match P.underlying t with
  | some (.float k) => some (.f k)
  | some (.int k) => some (.i k)
  | some .bool => some .b
  | _ => none

end Go.Fx

/- Functions of the library that have no body. -/
namespace Go.Fx
variable {P : Program}

theorem holds_ext {f : FuncId} {fn : Func} {e : Array Value → Sem Value} {args : List V} {r : V} (hf : P.funcs[f]? = some fn) (hb : fn.body = none) (hname : (fn.name == "runtime.NumGoroutine") = false) (h1 : Extern.findNext fn = none) (h2 : Extern.find fn = some e)
    (he : ∀ (w : World) (cs : Array Value), (∀ ι S, F2 (VR ι S) args cs.toList → ∃ c n, (e cs).run P w = .ok c (w.drewN n) ∧ VR ι S r c)) : Holds P f args [] r [] := by
  intro ι w cs hargs hh
  obtain ⟨c, n, hr, hv⟩ := he w cs ι _ hargs
  have hn : fn.name ≠ "runtime.NumGoroutine" := by simpa using hname
  have hrun : (callFunc f cs).run P w = .ok (.value c) (w.drewN n) := by
    simp [callFunc, hf, hn, hb, h1, h2, run_mark, hr]
  unfold CallsV
  rw [hrun]
  exact ⟨ι, Grow.none (WX.drewN w n), hv, hh.wx (WX.drewN w n)⟩

theorem ext_bits64 {f : FuncId} {fn : Func} (hf : P.funcs[f]? = some fn) (hb : fn.body = none) (hname : (fn.name == "runtime.NumGoroutine") = false) (h1 : Extern.findNext fn = none) (h2 : Extern.find fn = some Extern.MathFloatBits.float64bits) (x : Int) :
    Holds P f [.at (.fl .f64 x)] [] (.at (.raw .f64 x)) [] := by
  refine holds_ext hf hb hname h1 h2 fun w cs ι S h => ?_
  obtain ⟨l⟩ := cs
  match l, h with
  | [c], ⟨⟨b, hc, hx⟩, _⟩ => subst hc; exact ⟨.int .u64 b, 0, rfl, b, rfl, hx⟩
  | [], h => exact h.elim
  | _ :: _ :: _, ⟨_, h⟩ => exact h.elim

theorem ext_from64 {f : FuncId} {fn : Func} (hf : P.funcs[f]? = some fn) (hb : fn.body = none) (hname : (fn.name == "runtime.NumGoroutine") = false) (h1 : Extern.findNext fn = none) (h2 : Extern.find fn = some Extern.MathFloatBits.float64frombits) (x : Int) :
    Holds P f [.at (.raw .f64 x)] [] (.at (.fl .f64 x)) [] := by
  refine holds_ext hf hb hname h1 h2 fun w cs ι S h => ?_
  obtain ⟨l⟩ := cs
  match l, h with
  | [c], ⟨⟨b, hc, hx⟩, _⟩ => subst hc; exact ⟨.float .f64 b, 0, rfl, b, rfl, hx⟩
  | [], h => exact h.elim
  | _ :: _ :: _, ⟨_, h⟩ => exact h.elim

theorem ext_from64i {f : FuncId} {fn : Func} (hf : P.funcs[f]? = some fn) (hb : fn.body = none) (hname : (fn.name == "runtime.NumGoroutine") = false) (h1 : Extern.findNext fn = none) (h2 : Extern.find fn = some Extern.MathFloatBits.float64frombits) (n : Int) :
    Holds P f [.at (.int .u64 n)] [] (.at (.fl .f64 (real.ofBits .f64 n))) [] := by
  refine holds_ext hf hb hname h1 h2 fun w cs ι S h => ?_
  obtain ⟨l⟩ := cs
  match l, h with
  | [c], ⟨hc, _⟩ => obtain rfl : c = .int .u64 n := hc; exact ⟨.float .f64 n.toNat, 0, rfl, n.toNat, rfl, rfl⟩
  | [], h => exact h.elim
  | _ :: _ :: _, ⟨_, h⟩ => exact h.elim

theorem quiet_pos (t : Nat) : 2 ^ 51 ≤ FloatKind.f64.format.quiet t % 2 ^ 52 := by
  have : (FloatKind.f64.format.quiet t % 2 ^ 52).testBit 51 = true := by
    rw [Nat.testBit_mod_two_pow]
    show (decide (51 < 52) && (t ||| 2 ^ 51).testBit 51) = true
    rw [Nat.testBit_or, Nat.testBit_two_pow_self]
    simp
  exact Nat.ge_two_pow_of_testBit this

theorem isNaNb_quiet (s : Bool) (t : Nat) : isNaNb .f64 (FloatKind.f64.encode (.nan s (FloatKind.f64.format.quiet t))) = true := by
  have h1 := quiet_pos t
  have h2 : FloatKind.f64.format.quiet t % 2 ^ 52 < 2 ^ 52 := Nat.mod_lt _ (by decide)
  have e2 : FloatKind.f64.format.infRung = 9218868437227405312 := by decide
  have e3 : FloatKind.f64.format.binade = 2 ^ 52 := by decide
  have e1 : FloatKind.f64.format.signWeight = 9223372036854775808 := by decide
  unfold FloatKind.encode Ieee.Format.write Ieee.Format.word
  simp only [e2, e3, e1]
  generalize FloatKind.f64.format.quiet t % 2 ^ 52 = q at h1 h2
  cases s with
  | true =>
    have := isNaNb_at64 1 (q - 1) (by omega) (by omega)
    rw [show 1 * 9223372036854775808 + 9218868437227405313 + (q - 1) = 9223372036854775808 + (9218868437227405312 + q) by omega] at this
    exact this
  | false =>
    have := isNaNb_at64 0 (q - 1) (by omega) (by omega)
    rw [show 0 * 9223372036854775808 + 9218868437227405313 + (q - 1) = 9218868437227405312 + q by omega] at this
    exact this

theorem integral_notNaN {way : Ieee.Toward} {d : Ieee.Datum} (h : d.isNaN = false) : (d.integral way).isNaN = false := by
  cases d <;> first | exact h | rfl

theorem toIntegral_eq (nm : String) (way : Ieee.Toward) (b : Nat) : Extern.MathFloor.toIntegral nm way #[.float .f64 b] = (match FloatKind.f64.decode b with
    | .nan s t =>
      if FloatKind.f64.format.quiet t = t then pure (.float .f64 b) else do
      let kept ← choose (.extern "math.Floor,Ceil,Trunc,RoundToEven.signallingNaN kept" 2)
      pure (.float .f64 (if kept == 1 then b else FloatKind.f64.encode (.nan s (FloatKind.f64.format.quiet t))))
    | d => pure (.float .f64 (FloatKind.f64.encode (d.integral way)))) := rfl

theorem ext_integral {f : FuncId} {fn : Func} {nm : String} {way : Ieee.Toward} (hf : P.funcs[f]? = some fn) (hb : fn.body = none) (hname : (fn.name == "runtime.NumGoroutine") = false) (h1 : Extern.findNext fn = none) (h2 : Extern.find fn = some (Extern.MathFloor.toIntegral nm way)) (x : Int) :
    Holds P f [.at (.fl .f64 x)] [] (.at (.fl .f64 (real.integral way x))) [] := by
  refine holds_ext hf hb hname h1 h2 fun w cs ι S h => ?_
  obtain ⟨l⟩ := cs
  match l, h with
  | [c], ⟨⟨b, hc, hx⟩, _⟩ =>
    subst hc; subst hx
    show ∃ c n, (Extern.MathFloor.toIntegral nm way #[.float .f64 b]).run P w = .ok c (w.drewN n) ∧ VR ι S (.at (.fl .f64 (rIntegral way (cf .f64 b : Nat)))) c
    cases hn : isNaNb .f64 b with
    | true =>
      obtain ⟨s, t, hr⟩ := read_nan hn
      have hd : FloatKind.f64.decode b = .nan s t := hr
      have hri : rIntegral way (cf .f64 b : Nat) = (nanOf .f64 : Nat) := by
        obtain ⟨s', t', hr'⟩ := read_nan (isNaNb_nanOf .f64)
        have hd' : FloatKind.f64.decode (nanOf .f64) = .nan s' t' := hr'
        unfold rIntegral
        rw [cf_of_nan hn, Int.toNat_natCast, hd']
      rw [hri]
      rw [toIntegral_eq, hd]
      simp only
      by_cases hq : FloatKind.f64.format.quiet t = t
      · rw [if_pos hq]
        exact ⟨_, 0, rfl, b, rfl, by rw [cf_of_nan hn]⟩
      · rw [if_neg hq]
        simp only [Sem.run_bind]
        rw [run_choose _ _ rfl]
        simp only [Result.andThen_ok, Sem.run_pure]
        refine ⟨_, 1, rfl, _, rfl, ?_⟩
        split
        · rw [cf_of_nan hn]
        · rw [cf_of_nan (isNaNb_quiet s t)]
    | false =>
      unfold rIntegral
      rw [cf_of_num hn, Int.toNat_natCast]
      rw [toIntegral_eq]
      have hnn : (FloatKind.f64.decode b).isNaN = false := hn
      have hw := write_notNaN .f64 _ (integral_notNaN (way := way) hnn)
      generalize FloatKind.f64.decode b = d at hnn hw ⊢
      cases d with
      | nan s t => cases hnn
      | infinity s => exact ⟨_, 0, rfl, _, rfl, by simp only; rw [cf_of_num]; exact hw⟩
      | number s m i => exact ⟨_, 0, rfl, _, rfl, by simp only; rw [cf_of_num]; exact hw⟩
  | [], h => exact h.elim
  | _ :: _ :: _, ⟨_, h⟩ => exact h.elim

end Go.Fx

/- From a contract to the row. -/
namespace Go.Fx
open Go.ChangeShapes Go.WideShapes Go.ChangeAt Go.RowKit
variable {P : Program}

def KO : K → Value → Prop
  | .f k, c => ∃ b, c = .float k b ∧ k.has b
  | .i k, c => ∃ n, c = .int k n ∧ k.has n
  | .b, c => ∃ b, c = .bool b

theorem cell_KO {w : World} {r : Reach} {b0 : Nat} {t : TypeId} {v : Value} {k : K} (hk : kindOf P t = some k) (h : Cell.okWide P w r b0 t v) : KO k v := by
  unfold kindOf at hk
  split at hk
  · rename_i kf hu
    simp only [Option.some.injEq] at hk; subst hk
    simp only [Cell.okWide, hu, Cell.ok] at h
    cases v <;> simp at h
    obtain ⟨rfl, h2⟩ := h
    exact ⟨_, rfl, h2⟩
  · rename_i kf hu
    simp only [Option.some.injEq] at hk; subst hk
    simp only [Cell.okWide, hu, Cell.ok] at h
    cases v <;> simp at h
    obtain ⟨rfl, h2⟩ := h
    exact ⟨_, rfl, h2⟩
  · rename_i hu
    simp only [Option.some.injEq] at hk; subst hk
    simp only [Cell.okWide, hu, Cell.ok] at h
    cases v <;> simp at h
    exact ⟨_, rfl⟩
  · cases hk

theorem F2_list2 {α β : Type} {R : α → β → Prop} {k0 k1 : α} : ∀ {l : List β}, F2 R [k0, k1] l → ∃ m0 m1, R k0 m0 ∧ R k1 m1 ∧ l = [m0, m1]
  | [m0, m1], ⟨h0, h1, _⟩ => ⟨_, _, h0, h1, rfl⟩
  | [], h => by simp [F2] at h
  | [_], h => by simp [F2] at h
  | _ :: _ :: _ :: _, h => by simp [F2] at h
def OkF (k : FloatKind) (x : Int) : Prop := ∃ b : Nat, x = (cf k b : Nat) ∧ k.has b

theorem calls_of_holds {f : FuncId} {fn : Func} {c : Code} {args : List V} {h news : List Ob} {ι : Nat → Pl} {w : World} {cs : Array Value} (hf : P.funcs[f]? = some fn) (hb : fn.body = some c) (hname : (fn.name == "runtime.NumGoroutine") = false)
    (hh : Holds P f args h (.at (.bool true)) news) (ha : F2 (VR ι (shp h)) args cs.toList) (hr : HR ι h w) : Calls P f cs w fun e w' => e = .returned (.bool true) ∧ Below w.heap.size w w' := by
  have := hh ι w cs ha hr
  unfold CallsV at this
  have hrun : (callFunc f cs).run P w = .ok (.enter f cs) w := by
    have hn : fn.name ≠ "runtime.NumGoroutine" := by simpa using hname
    simp [callFunc, hf, hn, hb]
  rw [hrun] at this
  simp only at this
  refine this.mono fun e w' ⟨c, h1, ι', hg, hv, _⟩ => ?_
  have hc : c = .bool true := hv
  subst h1; subst hc
  exact ⟨rfl, hg.wx.os, hg.wx.tape, hg.wx.output, hg.wx.size, hg.wx.block⟩

def readB (P : Program) : List TypeId → Bool
  | [] => true
  | t :: ts => P.readableRec t && Nat.blt t P.types.size && readB P ts

theorem trodAll_stays {H : Type} {enc : TypeId × Value → H} (hl : laidOutB P = true) {W W' : World} (hb : Below W.heap.size W W') : ∀ {ts : List TypeId} {vs : List Value} {ds : List (DataW H)} {ps : List MemPlace}, readB P ts = true →
    DataW.TrodAll enc P W 0 (fun _ => true) true ts vs ds ps → (∀ x ∈ ps, x.block < W.heap.size) → DataW.TrodAll enc P W' 0 (fun b => decide (b < W.heap.size)) true ts vs ds ps
  | [], vs, ds, ps, _, h, _ => by
    obtain ⟨rfl, rfl, rfl⟩ := trodAll_nil h
    exact trodAll_mk0
  | t :: ts, vs, ds, ps, hr, h, hlt => by
    simp only [readB, Bool.and_eq_true, Nat.blt_eq] at hr
    obtain ⟨v, vs', d, ds', p, q, rfl, rfl, rfl, hd, hrest⟩ := trodAll_cons h
    exact ⟨p, q, Below.trod hl hr.1.1 hr.1.2 hd hb (fun x hx => hlt x (by simp [hx])), trodAll_stays hl hb hr.2 hrest (fun x hx => hlt x (by simp [hx])), rfl⟩

theorem law_post {H : Type} {enc : TypeId × Value → H} {f : Func} {s : ChangeSpec} {W W' : World} {args : Array Value} {ds gs : List (DataW H)} {before : List MemPlace} {tb : TypeId} (hl : laidOutB P = true) (hr : readB P f.params.toList = true) (hrt : f.resultTypes = #[tb])
    (htb : P.underlying tb = some .bool) (hvars : s.vars = []) (hfn : (s.fn H ds).results = [.lit (.bool true)] ∧ (s.fn H ds).args = ds ∧ (s.fn H ds).vars = []) (hW : DataW.Whole enc P f.params.toList s.vars false W args.toList ds gs before) (hb : Below W.heap.size W W') :
    s.post enc P f false true false false W args (.bool true) W' := by
  have hlt := hW.lt
  have hW' := hW
  obtain ⟨p, q, hA, hV, rfl, hz, hn⟩ := hW
  rw [hvars] at hV
  obtain ⟨rfl, rfl⟩ := trodVars_none hV
  have hds : s.fn H (ds ++ []) = s.fn H ds := by rw [List.append_nil]
  refine ⟨ds, [], _, [], p, [], hW', ?_, ?_, ?_, hb.frame _, fun h => by cases h⟩
  · rw [hds, hfn.1, hrt]
    exact trodAll_mk1 (shut_bool htb true)
  · rw [hds, hfn.2.1]
    exact trodAll_stays hl hb hr hA (fun x hx => hlt x (by simp [hx]))
  · rw [hds, hfn.2.2, hvars]
    simp [DataW.TrodVars]
end Go.Fx

/- Small facts on canonical bits. -/
namespace Go.Fx

theorem OkF.nan {k : FloatKind} {x : Int} (h : OkF k x) (hn : isNaNb k x.toNat = true) : x = (nanOf k : Nat) := by
  obtain ⟨b, rfl, hb⟩ := h
  rw [Int.toNat_natCast, isNaNb_cf] at hn
  rw [cf_of_nan hn]

end Go.Fx

/- Arguments that hold slices: what is read of them. -/
namespace Go.Fx
open Go.ChangeShapes Go.WideShapes Go.ChangeAt Go.RowKit
variable {P : Program} {H : Type} {enc : TypeId × Value → H}

inductive Leaf where
  | sc (k : K)
  | sl (ks : List K)

def flatK : List Leaf → Option (List K)
  | [] => some []
  | .sc k :: t => match flatK t with
    | some ks => some (k :: ks)
    | none => none
  | .sl _ :: _ => none

def leavesS (P : Program) (lv : TypeId → Option (List Leaf)) : List Field → Nat → Option (List Leaf)
  | [], _ => some []
  | f :: fs, o => match lv f.type with
    | some ls => match leavesS P lv fs (o + ls.length), Nat.beq f.offset o, Nat.beq (P.cellsOf f.type) ls.length with
      | some r, true, true => some (ls ++ r)
      | _, _, _ => none
    | none => none

def leaves (P : Program) : Nat → TypeId → Option (List Leaf)
  | 0, _ => none
  | n + 1, t => match P.underlying t with
    | some (.float k) => some [.sc (.f k)]
    | some (.int k) => some [.sc (.i k)]
    | some .bool => some [.sc .b]
    | some (.slice e) => match leaves P n e with
      | some ls => match flatK ls with
        | some ks => match Nat.beq (P.cellsOf e) ks.length, Nat.blt 0 ks.length with
          | true, true => some [.sl ks]
          | _, _ => none
        | none => none
      | none => none
    | some (.struct fs) => match leavesS P (leaves P n) fs.toList 0 with
      | some ls => match Nat.beq (P.cellsOf t) ls.length with
        | true => some ls
        | false => none
      | none => none
    | _ => none

def LeafR (w : World) : Leaf → Value → Prop
  | .sc k, c => KO k c
  | .sl ks, c => (∃ a, c = .slice a 0 0) ∨ ∃ b base n cap, c = .slice (some ⟨b, base, none⟩) n cap ∧ n ≤ cap ∧ cap ≤ maxLen ∧ 0 < cap ∧
      ∃ blk ty fz, w.heap[b]? = some (.cells blk ty fz) ∧ base + cap * ks.length ≤ blk.size ∧ ∀ i, i < cap → ∀ o kd, ks[o]? = some kd → ∃ v, blk[base + i * ks.length + o]? = some v ∧ KO kd v

theorem mapM_get {α β : Type} {f : α → Option β} : ∀ {l : List α} {r : List β}, l.mapM f = some r → ∀ (i : Nat) (a : α), l[i]? = some a → ∃ b, r[i]? = some b ∧ f a = some b
  | [], r, h, i, a, ha => by simp at ha
  | x :: l, r, h, i, a, ha => by
    rw [List.mapM_cons] at h
    cases hx : f x with
    | none => rw [hx] at h; simp at h
    | some y =>
      rw [hx] at h
      cases hl : l.mapM f with
      | none => rw [hl] at h; simp at h
      | some ys =>
        rw [hl] at h
        simp at h
        subst h
        cases i with
        | zero => simp at ha; subst ha; exact ⟨y, by simp, hx⟩
        | succ i => obtain ⟨b, h1, h2⟩ := mapM_get hl i a (by simpa using ha); exact ⟨b, by simpa using h1, h2⟩

theorem flatK_F2 {w : World} : ∀ {ls : List Leaf} {ks : List K} {cs : List Value}, flatK ls = some ks → F2 (LeafR w) ls cs → F2 KO ks cs
  | [], ks, cs, h, hF => by simp [flatK] at h; subst h; cases cs with | nil => trivial | cons _ _ => exact hF.elim
  | .sl _ :: _, _, _, h, _ => by simp [flatK] at h
  | .sc k :: t, ks, cs, h, hF => by
    simp only [flatK] at h
    cases ht : flatK t with
    | none => simp [ht] at h
    | some ks' =>
      simp [ht] at h
      subst h
      cases cs with
      | nil => exact hF.elim
      | cons c cs => exact ⟨hF.1, flatK_F2 ht hF.2⟩

theorem wf_float {k : FloatKind} {b : Nat} (h : (Lit.float k b).wf = true) : k.has b := by cases k <;> simpa [Lit.wf, FloatKind.has] using h
theorem wf_int {k : IntKind} {n : Int} (h : (Lit.int k n).wf = true) : k.has n := by simpa [Lit.wf, IntKind.has] using h

theorem trod_struct {w : World} {held : Bool} {fuel : Nat} {t : TypeId} {cs : List Value} {x : DataW H × List MemPlace} {fs : Array Field} (hu : P.underlying t = some (.struct fs)) (h : DataW.trod enc P w 0 (fun _ => true) held (fuel + 1) t cs = some x) :
    cs.length = P.cellsOf t ∧ ∃ xs, (fs.toList.mapM fun f => DataW.trod enc P w 0 (fun _ => true) held fuel f.type ((cs.drop f.offset).take (P.cellsOf f.type))) = some xs := by
  simp only [DataW.trod, hu] at h
  split at h
  · rename_i hc
    refine ⟨hc, ?_⟩
    generalize (fs.toList.mapM fun f => DataW.trod enc P w 0 (fun _ => true) held fuel f.type ((cs.drop f.offset).take (P.cellsOf f.type))) = r at h ⊢
    cases r with
    | none => simp at h
    | some xs => exact ⟨xs, rfl⟩
  · cases h

theorem trod_slice {w : World} {held : Bool} {fuel : Nat} {t e : TypeId} {cs : List Value} {x : DataW H × List MemPlace} (hu : P.underlying t = some (.slice e)) (h : DataW.trod enc P w 0 (fun _ => true) held (fuel + 1) t cs = some x) :
    cs = [.slice none 0 0] ∨ ∃ a len cap, cs = [.slice (some a) len cap] ∧ len ≤ cap ∧ cap ≤ maxLen ∧
      ∀ i, i < cap → ∃ ecs q, w.cells? 0 (a.add (i * P.cellsOf e)) (P.cellsOf e) = some ecs ∧ DataW.trod enc P w 0 (fun _ => true) held fuel e ecs = some q := by
  simp only [DataW.trod, hu] at h
  split at h
  case h_7 => exact .inl rfl
  case h_8 =>
    rename_i e' a len cap heq
    cases heq
    right
    refine ⟨a, len, cap, rfl, ?_⟩
    split at h
    · rename_i hc
      refine ⟨hc.2.1, hc.2.2, ?_⟩
      cases hm : ((List.range len).mapM fun i => (w.cells? 0 (a.add (i * P.cellsOf e)) (P.cellsOf e)).bind (DataW.trod enc P w 0 (fun _ => true) held fuel e)) with
      | none => rw [hm] at h; simp at h
      | some elems =>
        rw [hm] at h
        simp only [Option.bind_some, if_true] at h
        cases hm2 : ((List.range (cap - len)).mapM fun j => (w.cells? 0 (a.add ((len + j) * P.cellsOf e)) (P.cellsOf e)).bind (DataW.trod enc P w 0 (fun _ => true) held fuel e)) with
        | none => rw [hm2] at h; simp at h
        | some rest =>
          intro i hi
          have hq : ∃ q, (w.cells? 0 (a.add (i * P.cellsOf e)) (P.cellsOf e)).bind (DataW.trod enc P w 0 (fun _ => true) held fuel e) = some q := by
            rcases Nat.lt_or_ge i len with hil | hil
            · obtain ⟨q, _, hq⟩ := mapM_get hm i i (by simp [hil])
              exact ⟨q, hq⟩
            · obtain ⟨q, _, hq⟩ := mapM_get hm2 (i - len) (i - len) (by rw [List.getElem?_range (by omega)])
              rw [show len + (i - len) = i by omega] at hq
              exact ⟨q, hq⟩
          obtain ⟨q, hq⟩ := hq
          cases hcs : w.cells? 0 (a.add (i * P.cellsOf e)) (P.cellsOf e) with
          | none => rw [hcs] at hq; simp at hq
          | some ecs => rw [hcs] at hq; exact ⟨ecs, q, rfl, by simpa using hq⟩
    · cases h
  all_goals (exfalso; simp_all; done)

theorem trod_leaves {w : World} {held : Bool} : ∀ (fuel n : Nat) (t : TypeId) (cs : List Value) (x : DataW H × List MemPlace) (ls : List Leaf), leaves P n t = some ls → DataW.trod enc P w 0 (fun _ => true) held fuel t cs = some x → F2 (LeafR w) ls cs
  | 0, _, _, _, _, _, _, h => by simp [DataW.trod] at h
  | fuel + 1, 0, _, _, _, _, hl, _ => by simp [leaves] at hl
  | fuel + 1, n + 1, t, cs, x, ls, hl, h => by
    unfold leaves at hl
    split at hl
    · rename_i k hu
      simp only [Option.some.injEq] at hl; subst hl
      unfold DataW.trod at h
      rw [hu] at h
      split at h <;> simp_all
      obtain ⟨⟨rfl, hw⟩, _⟩ := h
      exact ⟨⟨_, rfl, wf_float hw⟩, trivial⟩
    · rename_i k hu
      simp only [Option.some.injEq] at hl; subst hl
      unfold DataW.trod at h
      rw [hu] at h
      split at h <;> simp_all
      obtain ⟨⟨rfl, hw⟩, _⟩ := h
      exact ⟨⟨_, rfl, wf_int hw⟩, trivial⟩
    · rename_i hu
      simp only [Option.some.injEq] at hl; subst hl
      unfold DataW.trod at h
      rw [hu] at h
      split at h <;> simp_all
      exact ⟨⟨_, rfl⟩, trivial⟩
    · rename_i e hu
      split at hl
      · rename_i le hle
        split at hl
        · rename_i ks hks
          split at hl
          · rename_i h1 h2
            simp only [Option.some.injEq] at hl; subst hl
            have h1 := Nat.eq_of_beq_eq_true h1
            have h2 : 0 < ks.length := by simpa [Nat.blt_eq] using h2
            rcases trod_slice hu h with rfl | ⟨a, len, cap, rfl, hlc, hcm, hel⟩
            · exact ⟨.inl ⟨none, rfl⟩, trivial⟩
            · refine ⟨?_, trivial⟩
              rcases Nat.eq_zero_or_pos cap with h0 | hpos
              · subst h0
                have : len = 0 := by omega
                subst this
                exact .inl ⟨_, rfl⟩
              · right
                have hcell : ∀ i, i < cap → ∀ o kd, ks[o]? = some kd → ∃ v, w.cell? (a.add (i * ks.length + o)) = some v ∧ KO kd v := by
                  intro i hi o kd ho
                  obtain ⟨ecs, q, hcs, hq⟩ := hel i hi
                  obtain ⟨_, hlen, hget⟩ := World.cells?_some hcs
                  have hF := flatK_F2 hks (trod_leaves fuel n e ecs q le hle hq)
                  obtain ⟨v, hv, hk⟩ := hF.get o kd ho
                  have hol : o < ks.length := (List.getElem?_eq_some_iff.1 ho).1
                  have := hget o (by omega)
                  rw [Addr.add_add, h1] at this
                  exact ⟨v, by rw [this]; exact hv, hk⟩
                have hk0 : ks[0]? = some ks[0] := List.getElem?_eq_getElem h2
                obtain ⟨v0, hv0, _⟩ := hcell 0 hpos 0 _ hk0
                have hz : a.add (0 * ks.length + 0) = a := by simp [Addr.add]
                rw [hz] at hv0
                obtain ⟨b, base, spot⟩ := a
                have hblk : spot = none ∧ ∃ blk ty fz, w.heap[b]? = some (.cells blk ty fz) := by
                  unfold World.cell? at hv0
                  simp only at hv0
                  split at hv0
                  · rename_i blk ty fz hh
                    split at hv0
                    · cases hv0
                    · rename_i hs
                      refine ⟨?_, blk, ty, fz, hh⟩
                      cases hsp : spot with
                      | none => rfl
                      | some _ => simp [hsp] at hs
                  · cases hv0
                obtain ⟨rfl, blk, ty, fz, hh⟩ := hblk
                have hc2 : ∀ i, i < cap → ∀ o kd, ks[o]? = some kd → ∃ v, blk[base + i * ks.length + o]? = some v ∧ KO kd v := by
                  intro i hi o kd ho
                  obtain ⟨v, hv, hk⟩ := hcell i hi o kd ho
                  refine ⟨v, ?_, hk⟩
                  rw [Addr.add_at, cell_at hh, ← Nat.add_assoc] at hv
                  exact hv
                refine ⟨b, base, len, cap, rfl, hlc, hcm, hpos, blk, ty, fz, hh, ?_, hc2⟩
                obtain ⟨v, hv, _⟩ := hc2 (cap - 1) (by omega) (ks.length - 1) _ (List.getElem?_eq_getElem (by omega))
                have hlt := (Array.getElem?_eq_some_iff.1 hv).1
                have : cap * ks.length = (cap - 1) * ks.length + ks.length := by
                  rw [← Nat.succ_mul]; congr 1; omega
                omega
          · cases hl
        · cases hl
      · cases hl
    · rename_i fs hu
      split at hl
      · rename_i ls' hls
        split at hl
        · rename_i hsz
          simp only [Option.some.injEq] at hl; subst hl
          have hsz := Nat.eq_of_beq_eq_true hsz
          have hlen := trod_struct hu h
          obtain ⟨hl1, xs, hxs⟩ := hlen
          have key : ∀ (fl : List Field) (o : Nat) (r : List Leaf) (ys : List (DataW H × List MemPlace)), leavesS P (leaves P n) fl o = some r → (fl.mapM fun f => DataW.trod enc P w 0 (fun _ => true) held fuel f.type ((cs.drop f.offset).take (P.cellsOf f.type))) = some ys →
              F2 (LeafR w) r ((cs.drop o).take r.length) := by
            intro fl
            induction fl with
            | nil => intro o r ys hr _; simp [leavesS] at hr; subst hr; simp [F2]
            | cons f fl ih =>
              intro o r ys hr hy
              simp only [leavesS] at hr
              split at hr
              · rename_i lf hlf
                split at hr
                · rename_i r' hr' h1 h2
                  simp only [Option.some.injEq] at hr; subst hr
                  have h1 := Nat.eq_of_beq_eq_true h1
                  have h2 := Nat.eq_of_beq_eq_true h2
                  obtain ⟨q, _, hq⟩ := mapM_get hy 0 f rfl
                  have hF := trod_leaves fuel n f.type _ q lf hlf hq
                  rw [h1, h2] at hF
                  have hy' : ∃ ys', (fl.mapM fun f => DataW.trod enc P w 0 (fun _ => true) held fuel f.type ((cs.drop f.offset).take (P.cellsOf f.type))) = some ys' := by
                    rw [List.mapM_cons] at hy
                    cases hfl : (fl.mapM fun f => DataW.trod enc P w 0 (fun _ => true) held fuel f.type ((cs.drop f.offset).take (P.cellsOf f.type))) with
                    | none => rw [hfl] at hy; rw [hq] at hy; simp at hy
                    | some ys' => exact ⟨ys', rfl⟩
                  obtain ⟨ys', hys'⟩ := hy'
                  have hF2 := ih (o + lf.length) r' ys' hr' hys'
                  have e : (cs.drop o).take (lf ++ r').length = (cs.drop o).take lf.length ++ (cs.drop (o + lf.length)).take r'.length := by
                    rw [List.length_append, List.take_add, List.drop_drop]
                  rw [e]
                  exact hF.append hF2
                · cases hr
              · cases hr
          have := key fs.toList 0 ls' xs hls hxs
          rw [List.drop_zero, List.take_of_length_le (by omega)] at this
          exact this
        · cases hl
      · cases hl
    · cases hl
end Go.Fx

/- From a slice that came in to its rows. -/
namespace Go.Fx
open Go.ChangeShapes Go.WideShapes Go.ChangeAt Go.RowKit
variable {P : Program}

def plc : List Pl → Nat → Pl
  | [], _ => .off
  | p :: _, 0 => p
  | _ :: t, n + 1 => plc t n

def HRs (w : World) (ι : Nat → Pl) (S : Nat → Shp) : Nat → List Ob → Prop
  | _, [] => True
  | n, ob :: t => ObR ι S w n ob ∧ HRs w ι S (n + 1) t

theorem HRs_get {w : World} {ι : Nat → Pl} {S : Nat → Shp} : ∀ {l : List Ob} {n : Nat}, HRs w ι S n l → ∀ (i : Nat) (ob : Ob), l[i]? = some ob → ObR ι S w (n + i) ob
  | [], _, _, i, ob, h => by simp at h
  | o :: t, n, h, 0, ob, hi => by simp at hi; subst hi; exact h.1
  | o :: t, n, h, i + 1, ob, hi => by
    have := HRs_get h.2 i ob (by simpa using hi)
    rwa [show n + 1 + i = n + (i + 1) by omega] at this

theorem hr_of {w : World} {ι : Nat → Pl} {l : List Ob} (h : HRs w ι (shp l) 0 l) : HR ι l w := fun id ob hi _ => by
  have := HRs_get h id ob hi
  rwa [Nat.zero_add] at this

def isStructB (P : Program) (t : TypeId) : Bool := match P.underlying t with
  | some (.struct _) => true
  | some (.array _ _) => true
  | _ => false

theorem agg_of {w : World} {r : Reach} {b0 : Nat} {t : TypeId} {v : Value} (hk : isStructB P t = true) (h : Value.okWide P w r b0 t v) : ∃ cs, v = .agg cs := by
  unfold isStructB at hk
  unfold Value.okWide at h
  split at hk
  · rename_i hu; rw [hu] at h; obtain ⟨cs, rfl, _⟩ := h; exact ⟨cs, rfl⟩
  · rename_i hu; rw [hu] at h; obtain ⟨cs, rfl, _⟩ := h; exact ⟨cs, rfl⟩
  · cases hk

def isOneB (P : Program) (t : TypeId) : Bool := match P.underlying t with
  | some (.slice _) => true
  | some (.float _) => true
  | some (.int _) => true
  | some .bool => true
  | _ => false

theorem one_of {w : World} {r : Reach} {b0 : Nat} {t : TypeId} {v : Value} (hk : isOneB P t = true) (h : Value.okWide P w r b0 t v) : v.cells.toList = [v] := by
  unfold isOneB at hk
  unfold Value.okWide at h
  split at hk
  · rename_i e hu
    obtain ⟨a, n, c, rfl⟩ := okWide_slice hu (by unfold Value.okWide; exact h)
    rfl
  · rename_i k hu
    rw [hu] at h
    obtain ⟨b, rfl, _⟩ := cell_KO (k := .f k) (by unfold kindOf; rw [hu]) h
    rfl
  · rename_i k hu
    rw [hu] at h
    obtain ⟨b, rfl, _⟩ := cell_KO (k := .i k) (by unfold kindOf; rw [hu]) h
    rfl
  · rename_i hu
    rw [hu] at h
    obtain ⟨b, rfl⟩ := cell_KO (k := .b) (by unfold kindOf; rw [hu]) h
    rfl
  · cases hk
end Go.Fx

