/- Regions whose order is drawn: what an order leaves open. -/
import Derived.Test.YtpncophaaedjpaaXSound2
namespace Go.Fx
variable {P : Program}

/-! ### the parts of a state -/
def RelH (g : Beg) (ι : Nat → Pl) (hp : List Ob) (w : World) : Prop := Rel g ι ⟨[], hp⟩ { tmps := #[], defers := [] } w

theorem Rel.toH {g : Beg} {ι : Nat → Pl} {st : St} {a : Act} {w : World} (h : Rel g ι st a w) : RelH g ι st.hp w :=
  ⟨trivial, rfl, h.heap, h.inj, h.keep, h.flag, h.os, h.tape, h.output, h.size, h.block, h.fresh⟩

theorem RelH.rel {g : Beg} {ι : Nat → Pl} {st : St} {a : Act} {w : World} (h : RelH g ι st.hp w) (hs : F2 (VR ι (shp st.hp)) st.sl a.tmps.toList) (hd : a.defers = []) : Rel g ι st a w :=
  ⟨hs, hd, h.heap, h.inj, h.keep, h.flag, h.os, h.tape, h.output, h.size, h.block, h.fresh⟩

theorem slots_get {ι : Nat → Pl} {S : Nat → Shp} {sl : List V} {a : Act} (h : F2 (VR ι S) sl a.tmps.toList) (t : Nat) : VR ι S (sl.getD t (.at .void)) (a.tmps.getD t undef) :=
  evA_VR h (.tmp t)

theorem slots_of {ι : Nat → Pl} {S : Nat → Shp} {sl : List V} {a : Act} (hl : sl.length = a.tmps.size) (h : ∀ t, VR ι S (sl.getD t (.at .void)) (a.tmps.getD t undef)) : F2 (VR ι S) sl a.tmps.toList := by
  refine F2.of_get (by simpa using hl) fun i v c hv hc => ?_
  have := h i
  rw [List.getD_eq_getElem?_getD, hv, Array.getD_eq_getD_getElem?, ← Array.getElem?_toList, hc] at this
  exact this

/-! ### what is off has no say -/
theorem AR.off {ι ι' : Nat → Pl} {S : Nat → Shp} (h : ∀ id, ι id ≠ .off → ι' id = ι id) {a : A} {c : Value} (ha : AR ι S a c) : AR ι' S a c := by
  have hp : ∀ {id e o c}, PR ι S id e o c → PR ι' S id e o c := fun {id e o c} ⟨b, base, room, h1, h2, h3⟩ => ⟨b, base, room, by rw [h id (by rw [h1]; simp)]; exact h1, h2, h3⟩
  cases a with
  | undef => trivial
  | void => exact ha
  | bool b => exact ha
  | int k n => exact ha
  | fl k x => exact ha
  | raw k x => exact ha
  | ptr id e o => exact hp ha
  | sl id =>
    obtain ⟨ks, n, h1, h2⟩ := ha
    refine ⟨ks, n, h1, ?_⟩
    rcases h2 with ⟨h2, h3⟩ | ⟨b, base, room, cap, h2, h3⟩
    · exact .inl ⟨by rw [h id (by rw [h2]; simp)]; exact h2, h3⟩
    · exact .inr ⟨b, base, room, cap, by rw [h id (by rw [h2]; simp)]; exact h2, h3⟩
  | sub id st len cap =>
    obtain ⟨ks, n, h1, h2, a, cp, h3, h4, h5, h6, h7⟩ := ha
    refine ⟨ks, n, h1, h2, a, cp, h3, h4, h5, h6, ?_⟩
    rcases h7 with h7 | ⟨b, base, room, h7, h8⟩
    · exact .inl h7
    · exact .inr ⟨b, base, room, by rw [h id (by rw [h7]; simp)]; exact h7, h8⟩
  | nil => exact ha
  | fn f caps =>
    obtain ⟨cs, h1, h2⟩ := ha
    exact ⟨cs, h1, h2.imp fun _ _ => hp⟩

theorem VR.off {ι ι' : Nat → Pl} {S : Nat → Shp} (h : ∀ id, ι id ≠ .off → ι' id = ι id) {v : V} {c : Value} (hv : VR ι S v c) : VR ι' S v c := VR.of (fun _ _ => AR.off h) hv

theorem ObR.off {ι ι' : Nat → Pl} {S : Nat → Shp} {w w' : World} {id : Nat} {ob : Ob} (h : ∀ id, ι id ≠ .off → ι' id = ι id) (hid : ι' id = ι id)
    (hw : ∀ b base room, ι id = .on b base room → b < w.heap.size → w'.heap[b]? = w.heap[b]?) (hob : ObR ι S w id ob) : ObR ι' S w' id ob := by
  obtain ⟨own, c⟩ := ob
  cases c with
  | dead => trivial
  | box cs =>
    obtain ⟨b, base, room, blk, ty, fz, h1, h2, h3, h4, h5, h6⟩ := hob
    exact ⟨b, base, room, blk, ty, fz, hid ▸ h1, by rw [hw b base room h1 (lt_of_heap h2)]; exact h2, h3, h4, h5, fun j a ha => let ⟨c, e1, e2⟩ := h6 j a ha; ⟨c, e1, AR.off h e2⟩⟩
  | rows ks xs =>
    rcases hob with ⟨h1, h2⟩ | ⟨b, base, room, blk, ty, fz, h1, h2, h3, h4, h5⟩
    · exact .inl ⟨hid ▸ h1, h2⟩
    · exact .inr ⟨b, base, room, blk, ty, fz, hid ▸ h1, by rw [hw b base room h1 (lt_of_heap h2)]; exact h2, h3, h4, h5⟩

/-! ### guards -/
def Wanted (all : Array Oper) (o : Oper) (st : St) : Prop :=
  o.guard = none ∨ ∃ j want d, o.guard = some (j, want) ∧ gslot all j = some d ∧ st.sl.getD d (.at .void) = .at (.bool want)
def Unwanted (all : Array Oper) (o : Oper) (st : St) : Prop :=
  ∃ j want d, o.guard = some (j, want) ∧ gslot all j = some d ∧ (st.sl.getD d (.at .void) = .at (.bool (!want)) ∨ st.sl.getD d (.at .void) = .at .void)

theorem yielded_eq {all : Array Oper} {tmps : Array Value} {j d : Nat} (h : gslot all j = some d) : yielded all tmps j = (match tmps.getD d undef with | .bool b => some b | _ => none) := by
  unfold yielded
  unfold gslot at h
  cases ho : all[j]? with
  | none => simp [ho] at h
  | some o =>
    simp [ho] at h
    simp only [Option.bind_some, h, Array.getD_eq_getD_getElem?]
    cases hd : tmps[d]? with
    | none => simp [undef]
    | some v => cases v <;> rfl

theorem wanted_of {all : Array Oper} {o : Oper} {st : St} {ι : Nat → Pl} {S : Nat → Shp} {a : Act} (h : Wanted all o st) (hs : ∀ d ∈ reads all o, VR ι S (st.sl.getD d (.at .void)) (a.tmps.getD d undef)) :
    Region.wanted o (yielded all a.tmps) = true := by
  unfold Region.wanted
  rcases h with h | ⟨j, want, d, h1, h2, h3⟩
  · rw [h]
  · have hv := hs d (by simp [reads, h1, h2])
    rw [h3] at hv
    rw [h1]
    simp only
    rw [yielded_eq h2, show a.tmps.getD d undef = .bool want from hv]
    simp

theorem unwanted_of {all : Array Oper} {o : Oper} {st : St} {ι : Nat → Pl} {S : Nat → Shp} {a : Act} (h : Unwanted all o st) (hs : ∀ d ∈ reads all o, VR ι S (st.sl.getD d (.at .void)) (a.tmps.getD d undef)) :
    Region.wanted o (yielded all a.tmps) = false := by
  unfold Region.wanted
  obtain ⟨j, want, d, h1, h2, h3⟩ := h
  have hv := hs d (by simp [reads, h1, h2])
  rw [h1]
  simp only
  rw [yielded_eq h2]
  rcases h3 with h3 | h3
  · rw [h3] at hv
    rw [show a.tmps.getD d undef = .bool (!want) from hv]
    cases want <;> rfl
  · rw [h3] at hv
    rw [show a.tmps.getD d undef = undef from hv]
    rfl

/-- One step in the order of the text. -/
def CalmStep (P : Program) (all : Array Oper) (σ : Nat → St) (j : Nat) : Prop :=
  ∃ o v news, all[j]? = some o ∧ σ (j + 1) = ⟨put (σ j).sl o.dst v, (σ j).hp ++ news⟩ ∧
    ((Wanted all o (σ j) ∧ CalmOp P o (σ j).sl (σ j).hp v news) ∨ (Unwanted all o (σ j) ∧ v = .at .void ∧ news = []))
def EffStep (P : Program) (n0 : Nat) (all : Array Oper) (dr : Bool) (σ : Nat → St) (j : Nat) : Prop :=
  ∃ o, all[j]? = some o ∧ Wanted all o (σ j) ∧ EffOp P n0 o (σ j) (σ (j + 1)) ∧ (dr = true → barrier all j = true) ∧ (σ (j + 1)).sl.length = (σ j).sl.length

/-! ### what the masks say -/
theorem edgeMask_bit (acc : List Nat) (i : Nat) : ∀ (es : List Edge), (edgeMask acc es).testBit i = true → ∃ e ∈ es, e.on = i ∨ (acc.getD e.on 0).testBit i = true
  | [], h => by simp [edgeMask] at h
  | e :: t, h => by
    simp only [edgeMask, Nat.testBit_or, Bool.or_eq_true] at h
    rcases h with (h | h) | h
    · refine ⟨e, by simp, .inl ?_⟩
      rw [Nat.testBit_shiftLeft] at h
      simp only [Bool.and_eq_true, decide_eq_true_eq] at h
      have h2 := h.2
      have : i - e.on = 0 := Nat.testBit_one_eq_true_iff_self_eq_zero.1 h2
      have h1 := h.1
      omega
    · exact ⟨e, by simp, .inr h⟩
    · obtain ⟨e', h1, h2⟩ := edgeMask_bit acc i t h
      exact ⟨e', by simp [h1], h2⟩

theorem maskGo_get : ∀ (ops : List Oper) (acc : List Nat) (j : Nat), j < acc.length → (maskGo acc ops)[j]? = acc[j]?
  | [], _, _, _ => rfl
  | o :: r, acc, j, h => by
    rw [maskGo, maskGo_get r _ j (by simp; omega), List.getElem?_append_left h]

theorem maskGo_new : ∀ (ops : List Oper) (acc : List Nat) (j : Nat) (o : Oper), ops[j]? = some o →
    ∃ acc', (∀ i, i < acc.length + j → acc'[i]? = (maskGo acc ops)[i]?) ∧ acc'.length = acc.length + j ∧ (maskGo acc ops)[acc.length + j]? = some (edgeMask acc' o.after.toList)
  | [], _, _, _, h => by simp at h
  | o :: r, acc, 0, o', h => by
    simp at h
    subst h
    refine ⟨acc, fun i hi => ?_, rfl, ?_⟩
    · rw [maskGo, maskGo_get r _ i (by simp; omega), List.getElem?_append_left (by simpa using hi)]
    · rw [maskGo, maskGo_get r _ _ (by simp), Nat.add_zero, List.getElem?_append_right (Nat.le_refl _)]
      simp
  | o :: r, acc, j + 1, o', h => by
    simp at h
    obtain ⟨acc', h1, h2, h3⟩ := maskGo_new r (acc ++ [edgeMask acc o.after.toList]) j o' h
    simp only [List.length_append, List.length_singleton] at h1 h2 h3
    refine ⟨acc', fun i hi => ?_, by omega, ?_⟩
    · rw [maskGo]; exact h1 i (by omega)
    · rw [maskGo, show acc.length + (j + 1) = acc.length + 1 + j by omega]; exact h3

theorem bef_edge {all : Array Oper} {i j : Nat} {o : Oper} (ho : all[j]? = some o) (h : bef (masks all) i j = true) : ∃ e ∈ o.after, e.on = i ∨ (e.on < j ∧ bef (masks all) i e.on = true) := by
  unfold bef masks at *
  obtain ⟨acc', h1, h2, h3⟩ := maskGo_new all.toList [] j o (by simpa using ho)
  simp only [List.length_nil, Nat.zero_add] at h1 h2 h3
  rw [List.getD_eq_getElem?_getD, h3] at h
  obtain ⟨e, he, hc⟩ := edgeMask_bit acc' i _ h
  refine ⟨e, by simpa using he, ?_⟩
  rcases hc with hc | hc
  · exact .inl hc
  · right
    rcases Nat.lt_or_ge e.on j with hl | hl
    · refine ⟨hl, ?_⟩
      rw [List.getD_eq_getElem?_getD, ← h1 _ hl, ← List.getD_eq_getElem?_getD]
      exact hc
    · rw [List.getD_eq_getElem?_getD, List.getElem?_eq_none (by omega)] at hc
      simp at hc

theorem pairsOk_get {ms : List Nat} {all : Array Oper} : ∀ (l : List Oper) (j k : Nat) (o : Oper), pairsOk ms all j l = true → l[k]? = some o →
    (∀ e ∈ o.after, edgeOk (j + k) e = true) ∧ ∀ i, i < j + k → bef ms i (j + k) = true ∨ ∃ a, all[i]? = some a ∧ apartB all a o = true
  | [], _, _, _, _, h => by simp at h
  | o :: r, j, 0, o', h, hk => by
    simp at hk
    subst hk
    simp only [pairsOk, Bool.and_eq_true] at h
    obtain ⟨⟨h1, h2⟩, _⟩ := h
    refine ⟨fun e he => by simpa using List.all_eq_true.1 h1 e (by simpa using he), fun i hi => ?_⟩
    have := List.all_eq_true.1 h2 i (by simpa using hi)
    simp only [Bool.or_eq_true] at this
    rcases this with h | h
    · exact .inl (by simpa using h)
    · right
      split at h
      · rename_i a ha; exact ⟨a, ha, h⟩
      · cases h
  | o :: r, j, k + 1, o', h, hk => by
    simp at hk
    simp only [pairsOk, Bool.and_eq_true] at h
    have := pairsOk_get r (j + 1) k o' h.2 hk
    rwa [show j + 1 + k = j + (k + 1) by omega] at this

theorem drawOk_get {all : Array Oper} (h : drawOk all = true) {k : Nat} {o : Oper} (hk : all[k]? = some o) :
    (∀ e ∈ o.after, e.on < k ∧ Region.binds .any e = true) ∧ ∀ i, i < k → bef (masks all) i k = true ∨ ∃ a, all[i]? = some a ∧ apartB all a o = true := by
  have := pairsOk_get all.toList 0 k o h (by simpa using hk)
  simp only [Nat.zero_add] at this
  refine ⟨fun e he => ?_, this.2⟩
  have h1 := this.1 e he
  unfold edgeOk at h1
  simp only [Bool.and_eq_true, Nat.blt_eq] at h1
  refine ⟨h1.1, ?_⟩
  have h2 := h1.2
  unfold Region.binds
  cases hg : e.ground <;> simp [hg] at h2 ⊢

theorem apartB_spec {all : Array Oper} {x y : Oper} (h : apartB all x y = true) : (∀ d, x.dst = some d → y.dst ≠ some d) ∧ (∀ d, x.dst = some d → d ∉ reads all y) ∧ (∀ d, y.dst = some d → d ∉ reads all x) := by
  unfold apartB at h
  simp only [Bool.and_eq_true, Bool.not_eq_true'] at h
  obtain ⟨⟨h1, h2⟩, h3⟩ := h
  refine ⟨fun d hd he => ?_, fun d hd hm => ?_, fun d hd hm => ?_⟩
  · rw [hd, he] at h1
    simp at h1
  · rw [hd] at h2
    simp only [dstIn] at h2
    rw [(hasId_iff d _).2 hm] at h2; cases h2
  · rw [hd] at h3
    simp only [dstIn] at h3
    rw [(hasId_iff d _).2 hm] at h3; cases h3
end Go.Fx
