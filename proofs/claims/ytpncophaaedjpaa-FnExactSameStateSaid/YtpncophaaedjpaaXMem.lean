/- Calm operations on memory. -/
import Derived.Test.YtpncophaaedjpaaXCalm
namespace Go.Fx
variable {P : Program} {ty : Nat → Option TI} {sl : List V} {hp : List Ob}

theorem list_of (R : Nat → Value → Prop) : ∀ n, (∀ j, j < n → ∃ c, R j c) → ∃ cs : List Value, cs.length = n ∧ ∀ j c, cs[j]? = some c → R j c
  | 0, _ => ⟨[], rfl, by simp⟩
  | n + 1, h => by
    obtain ⟨cs, h1, h2⟩ := list_of R n (fun j hj => h j (by omega))
    obtain ⟨c, hc⟩ := h n (by omega)
    refine ⟨cs ++ [c], by simp [h1], fun j d hd => ?_⟩
    rcases Nat.lt_trichotomy j n with hj | hj | hj
    · rw [List.getElem?_append_left (by omega)] at hd; exact h2 j d hd
    · subst hj
      rw [List.getElem?_append_right (by omega), h1] at hd
      simp at hd; subst hd; exact hc
    · rw [List.getElem?_append_right (by omega)] at hd
      rw [List.getElem?_eq_none (by simp; omega)] at hd; cases hd

theorem take_drop_get {α : Type} (l : List α) (o n j : Nat) : ((l.drop o).take n)[j]? = if j < n then l[o + j]? else none := by
  rw [List.getElem?_take]
  split
  · rw [List.getElem?_drop]
  · rfl

/-- The cells of an object, as atoms: which cell of the block each of them is. -/
def obCells (ob : Ob) (e : Nat) : List A :=
  match ob.c with
  | .box cs => cs
  | .rows ks xs => rowA ks 0 (xs.getD e [])
  | .dead => []

theorem ob_cells {ι : Nat → Pl} {S : Nat → Shp} {w : World} {id e : Nat} {ob : Ob} (h : ObR ι S w id ob) (hs : S id = shpOb ob) {b base room : Nat} (hι : ι id = .on b base room) (hin : inB (S id) e) :
    ∀ j a, (obCells ob e)[j]? = some a → ∃ c, w.cell? ⟨b, base + offs (S id) e + j, none⟩ = some c ∧ AR ι S a c := by
  obtain ⟨own, c⟩ := ob
  intro j a ha
  cases c with
  | dead => simp [obCells] at ha
  | box cs =>
    obtain ⟨b', base', room', blk, t, fz, h1, h2, h3, h4, h5, h6⟩ := h
    rw [hι] at h1; cases h1
    obtain ⟨c, e1, e2⟩ := h6 j a ha
    refine ⟨c, ?_, e2⟩
    rw [hs]
    simp only [shpOb, offs, Nat.add_zero]
    rw [cell_at h2]; exact e1
  | rows ks xs =>
    rcases h with ⟨h1, _⟩ | ⟨b', base', room', blk, t, fz, h1, h2, h3, h4, h5⟩
    · rw [hι] at h1; cases h1
    · rw [hι] at h1; cases h1
      rw [hs] at hin
      simp only [shpOb, inB] at hin
      have hrow : xs[e]? = some xs[e] := List.getElem?_eq_getElem hin
      have hgd : xs.getD e [] = xs[e] := by rw [List.getD_eq_getElem?_getD, hrow]; rfl
      obtain ⟨hl, hcells⟩ := h5 e xs[e] hrow
      simp only [obCells, hgd] at ha
      have hj : j < ks.length := by
        rcases Nat.lt_or_ge j ks.length with h' | h'
        · exact h'
        · rw [List.getElem?_eq_none (by rw [rowA_length]; omega)] at ha; cases ha
      have hk : ks[j]? = some ks[j] := List.getElem?_eq_getElem hj
      obtain ⟨c, e1, e2⟩ := hcells j ks[j] hk
      rw [rowA_get ks 0 xs[e] j ks[j] hk] at ha
      simp only [Nat.zero_add, Option.some.injEq] at ha
      subst ha
      refine ⟨c, ?_, ofK_AR e2⟩
      rw [hs]
      simp only [shpOb, offs]
      rw [cell_at h2]; exact e1

theorem loadOb_eq (ob : Ob) (e o n : Nat) (agg : Bool) {v : V} (h : loadOb ob e o n agg = some v) :
    (agg = true ∧ v = .agg (((obCells ob e).drop o).take n) ∧ (((obCells ob e).drop o).take n).length = n) ∨ (agg = false ∧ ∃ a, v = .at a ∧ (obCells ob e)[o]? = some a) := by
  obtain ⟨own, c⟩ := ob
  cases c with
  | dead => simp [loadOb] at h
  | box cs =>
    simp only [loadOb] at h
    cases agg with
    | true =>
      cases hb : Nat.beq ((cs.drop o).take n).length n with
      | true => simp only [hb, Option.some.injEq] at h; exact .inl ⟨rfl, h.symm, Nat.eq_of_beq_eq_true hb⟩
      | false => simp only [hb] at h; cases h
    | false =>
      cases hb : cs[o]? with
      | some a => simp [hb] at h; exact .inr ⟨rfl, a, h.symm, hb⟩
      | none => simp [hb] at h
  | rows ks xs =>
    simp only [loadOb] at h
    cases agg with
    | true =>
      cases hb : Nat.beq (((rowA ks 0 (xs.getD e [])).drop o).take n).length n with
      | true => simp only [hb, Option.some.injEq] at h; exact .inl ⟨rfl, h.symm, Nat.eq_of_beq_eq_true hb⟩
      | false => simp only [hb] at h; cases h
    | false =>
      cases hb : (rowA ks 0 (xs.getD e []))[o]? with
      | some a => simp only [hb, Option.some.injEq] at h; exact .inr ⟨rfl, a, h.symm, hb⟩
      | none => simp only [hb] at h; cases h

theorem shp_of {hp : List Ob} {id : Nat} {ob : Ob} (h : hp[id]? = some ob) : shp hp id = shpOb ob := by unfold shp; rw [h]

theorem load_sound {t : TypeId} {i : TI} (hT : TIOK P t i) {ι : Nat → Pl} {S : Nat → Shp} {w : World} {id e o : Nat} {ob : Ob} {v : V} {c : Value} (hob : ObR ι S w id ob) (hs : S id = shpOb ob)
    (hp : PR ι S id e o c) (hl : loadOb ob e o i.size (aggD i.d) = some v) : ∃ q, (Instr.loadAt t c).run P w = .ok q w ∧ VR ι S v q := by
  obtain ⟨b, base, room, hι, rfl, hin⟩ := hp
  obtain ⟨inf, z, hi, hsz, _⟩ := hT.info
  have hcell := ob_cells hob hs hι hin
  rcases loadOb_eq ob e o i.size (aggD i.d) hl with ⟨hag, rfl, hlen⟩ | ⟨hag, a, rfl, ha⟩
  · obtain ⟨cs, hcs, hrel⟩ := list_of (fun j c => ∃ a, (((obCells ob e).drop o).take i.size)[j]? = some a ∧ w.cell? ⟨b, base + offs (S id) e + (o + j), none⟩ = some c ∧ AR ι S a c) i.size (fun j hj => by
      have hj' : j < (((obCells ob e).drop o).take i.size).length := by omega
      have hg : (((obCells ob e).drop o).take i.size)[j]? = some (((obCells ob e).drop o).take i.size)[j] := List.getElem?_eq_getElem hj'
      have hg2 := hg
      rw [take_drop_get, if_pos hj] at hg2
      obtain ⟨c, e1, e2⟩ := hcell (o + j) _ hg2
      exact ⟨c, _, hg, e1, e2⟩)
    have hr := run_loadVar (P := P) hi hT.d w b (base + offs (S id) e + o) cs (by omega) (fun j v hj => by
      obtain ⟨a, _, h2, _⟩ := hrel j v hj
      rw [show base + offs (S id) e + o + j = base + offs (S id) e + (o + j) by omega]; exact h2) (fun h => by rw [hag] at h; cases h)
    rw [hag] at hr
    refine ⟨.agg cs.toArray, by simpa [Instr.loadAt, Instr.sureAddr] using hr, cs.toArray, rfl, F2.of_get (by simp [hcs, hlen]) fun j a c ha hc => ?_⟩
    obtain ⟨a', h1, _, h3⟩ := hrel j c (by simpa using hc)
    rw [h1] at ha; cases ha; exact h3
  · obtain ⟨c, e1, e2⟩ := hcell o a ha
    refine ⟨c, ?_, e2⟩
    have h1 := run_isAgg hT.d w
    rw [hag] at h1
    simp [Instr.loadAt, Instr.sureAddr, loadVar, h1, e1]

/-! ### new variables -/
theorem newBox_ok {t : TypeId} {cells : List A} {blk : Array Value} (ι : Nat → Pl) (S : Nat → Shp) (id : Nat) {w : World} {b : Nat} (hcells : F2 (AR ι S) cells blk.toList) (ho : ι id = .on b 0 blk.size)
    (tt : TypeId) (hw : w.heap[b]? = some (.cells blk tt (0, 0))) (hS : S id = shpOb (newBox ty t cells)) :
    ObR ι S w id (newBox ty t cells) ∧ inB (S id) 0 ∧ offs (S id) 0 = 0 := by
  have hbox : ObR ι S w id ⟨true, .box cells⟩ := by
    refine ⟨b, 0, blk.size, blk, tt, (0, 0), ho, hw, by omega, ?_, fun _ => rfl, fun j a ha => ?_⟩
    · have := hcells.length; simp at this; omega
    · obtain ⟨c, h1, h2⟩ := hcells.get j a ha
      exact ⟨c, by simpa using h1, h2⟩
  rw [hS]
  unfold newBox
  split
  · rename_i n e _
    split
    · rename_i k _
      split
      · rename_i ns hns
        obtain ⟨h1, h2, h3⟩ := aInts_KR hns hcells
        simp only [List.length_replicate] at h1 h2
        refine ⟨.inr ⟨b, 0, blk.size, blk, tt, (0, 0), ho, hw, by omega, fun _ => ⟨rfl, rfl, rfl⟩, fun e row he => ?_⟩, ?_, ?_⟩
        · simp only [List.getElem?_map] at he
          cases hne : ns[e]? with
          | none => simp [hne] at he
          | some m =>
            simp [hne] at he
            subst he
            refine ⟨rfl, fun o kd ho => ?_⟩
            cases o with
            | zero =>
              simp at ho
              subst ho
              have hen : e < n + 1 := by
                have := (List.getElem?_eq_some_iff.1 hne).1
                omega
              obtain ⟨c, e1, e2⟩ := h3 e k (by rw [List.getElem?_replicate]; simp [hen])
              refine ⟨c, by simpa using e1, ?_⟩
              rw [List.getD_eq_getElem?_getD, hne] at e2
              simpa using e2
            | succ o => simp at ho
        · simp only [shpOb, inB, List.length_map]; omega
        · simp [shpOb, offs]
      · exact ⟨hbox, rfl, rfl⟩
    · exact ⟨hbox, rfl, rfl⟩
  · exact ⟨hbox, rfl, rfl⟩

theorem F2.AR0 {ι : Nat → Pl} {S : Nat → Shp} {as : List A} {cs : List Value} (h : F2 AR0 as cs) : F2 (AR ι S) as cs := h.imp fun _ _ h => h ι S

theorem shp_new {hp : List Ob} {ob : Ob} : shp (hp ++ [ob]) hp.length = shpOb ob := by unfold shp; simp

theorem calm_alloc {o : Oper} {t : TypeId} {i : TI} (hT : TIOK P t i) (ho : o.op = .alloc t) : CalmOp P o sl hp (.at (.ptr hp.length 0 0)) [newBox ty t i.zero] := by
  obtain ⟨inf, z, hi, _, _, hz, hcells⟩ := hT.info
  refine calm_new fun ι a w hops hhr => ⟨.pointer (some ⟨w.heap.size, 0, none⟩), w.alloc (.cells z.cells t), .on w.heap.size 0 z.cells.size, ?_, WX.alloc w _, ?_, fun ι' hag hon => ?_⟩
  · have hzr := run_zeroValue hi hz w
    simp [execOp, ho, Instr.alloc, hzr, newVar, newRow]
  · intro b base room h; cases h; exact Nat.le_refl _
  · obtain ⟨h1, h2, h3⟩ := newBox_ok (ty := ty) (t := t) ι' (shp (hp ++ [newBox ty t i.zero])) hp.length hcells.AR0 hon t (heap_alloc_at w _) shp_new
    exact ⟨⟨_, _, _, hon, by rw [h3], h2⟩, h1⟩

theorem calm_box {o : Oper} {t : TypeId} {x : Operand} {cs : List A} (ho : o.op = .box t x) (hc : (evA sl x).cells = some cs) : CalmOp P o sl hp (.at (.ptr hp.length 0 0)) [newBox ty t cs] := by
  refine calm_new fun ι a w hops hhr => ?_
  have hv := hops x (by simp [ho, Op.operands])
  obtain ⟨hcells, _⟩ := V.cells_F2 hc hv
  refine ⟨.pointer (some ⟨w.heap.size, 0, none⟩), w.alloc (.cells (a.eval x).cells t), .on w.heap.size 0 (a.eval x).cells.size, ?_, WX.alloc w _, ?_, fun ι' hag hon => ?_⟩
  · simp [execOp, ho, Instr.box, newVar, newRow]
  · intro b base room h; cases h; exact Nat.le_refl _
  · have hcells' : F2 (AR ι' (shp (hp ++ [newBox ty t cs]))) cs (a.eval x).cells.toList := hcells.imp fun _ _ h => h.ext fun id hn => ⟨hag id (shp_lt hn), shp_append_lt (shp_lt hn)⟩
    obtain ⟨h1, h2, h3⟩ := newBox_ok (ty := ty) (t := t) ι' (shp (hp ++ [newBox ty t cs])) hp.length hcells' hon t (heap_alloc_at w _) shp_new
    exact ⟨⟨_, _, _, hon, by rw [h3], h2⟩, h1⟩
end Go.Fx
