/- Calm operations: slices made anew. -/
import Derived.Test.YtpncophaaedjpaaXMem2
namespace Go.Fx
variable {P : Program} {ty : Nat → Option TI} {sl : List V} {hp : List Ob}

theorem flatten_rep {α : Type} (l : List α) (hl : 0 < l.length) : ∀ (n i : Nat), i < n * l.length → ((List.replicate n l).flatten)[i]? = l[i % l.length]?
  | 0, i, h => by simp at h
  | n + 1, i, h => by
    rw [List.replicate_succ, List.flatten_cons]
    by_cases hi : i < l.length
    · rw [List.getElem?_append_left hi, Nat.mod_eq_of_lt hi]
    · have h2 : i - l.length < n * l.length := by rw [Nat.succ_mul] at h; omega
      rw [List.getElem?_append_right (Nat.le_of_not_lt hi), flatten_rep l hl n (i - l.length) h2, ← Nat.mod_eq_sub_mod (Nat.le_of_not_lt hi)]

theorem flatten_rep_length {α : Type} (l : List α) (n : Nat) : ((List.replicate n l).flatten).length = n * l.length := by simp

theorem zeros_F2 {ι : Nat → Pl} {S : Nat → Shp} {zero : List A} {z : Array Value} (h : F2 (AR ι S) zero z.toList) (n : Nat) (hs : 0 < z.size) :
    F2 (AR ι S) ((List.replicate n zero).flatten) ((Array.range (n * z.size)).map (z[· % z.size]!)).toList := by
  have hl := h.length
  simp only [Array.length_toList] at hl
  refine F2.of_get (by simp [hl]) fun i a c ha hc => ?_
  have hi : i < n * z.size := by
    have := (List.getElem?_eq_some_iff.1 ha).1
    rw [flatten_rep_length, hl] at this
    exact this
  rw [flatten_rep zero (by omega) n i (by rw [hl]; exact hi), hl] at ha
  obtain ⟨c', hc', hr⟩ := h.get _ _ ha
  have hm : i % z.size < z.size := Nat.mod_lt _ hs
  simp [hi] at hc
  have : z.toList[i % z.size]? = some z[i % z.size]! := by simp [hm]
  rw [this] at hc'
  cases hc'
  rw [← hc]
  exact hr

theorem chunk_get (s : Nat) : ∀ (n : Nat) (l : List Int) (e : Nat), e < n → (chunk s n l)[e]? = some ((l.drop (e * s)).take s)
  | 0, _, _, h => by omega
  | n + 1, l, 0, _ => by simp [chunk]
  | n + 1, l, e + 1, h => by
    simp only [chunk, List.getElem?_cons_succ]
    rw [chunk_get s n (l.drop s) e (by omega), List.drop_drop, show s + e * s = (e + 1) * s by rw [Nat.add_mul]; omega]

theorem chunk_length (s : Nat) : ∀ (n : Nat) (l : List Int), (chunk s n l).length = n
  | 0, _ => rfl
  | n + 1, l => by simp [chunk, chunk_length s n]

theorem idx_lt {e o n s : Nat} (he : e < n) (ho : o < s) : e * s + o < n * s := by
  have : (e + 1) * s ≤ n * s := Nat.mul_le_mul_right s he
  rw [Nat.add_mul] at this
  omega

theorem rows_chunk {blk : Array Value} {ks : List K} {n : Nat} {ns : List Int} (hks : 0 < ks.length) (hl : ns.length = n * ks.length)
    (h : ∀ o kd, ((List.replicate n ks).flatten)[o]? = some kd → ∃ c, blk.toList[o]? = some c ∧ KR kd (ns.getD o 0) c) : RowsR blk 0 ks (chunk ks.length n ns) := by
  intro e row he
  have hen : e < n := by
    have := (List.getElem?_eq_some_iff.1 he).1
    rwa [chunk_length] at this
  rw [chunk_get _ _ _ _ hen] at he
  cases he
  have hlt : (e + 1) * ks.length ≤ n * ks.length := Nat.mul_le_mul_right _ hen
  rw [Nat.add_mul] at hlt
  refine ⟨by simp [hl]; omega, fun o kd ho => ?_⟩
  have hos : o < ks.length := (List.getElem?_eq_some_iff.1 ho).1
  have hidx := idx_lt hen hos
  have hmod : (e * ks.length + o) % ks.length = o := by
    rw [Nat.add_comm, Nat.add_mul_mod_self_right, Nat.mod_eq_of_lt hos]
  obtain ⟨c, h1, h2⟩ := h (e * ks.length + o) kd (by rw [flatten_rep ks hks n _ hidx, hmod]; exact ho)
  refine ⟨c, by simpa using h1, ?_⟩
  have : ((ns.drop (e * ks.length)).take ks.length).getD o 0 = ns.getD (e * ks.length + o) 0 := by
    rw [List.getD_eq_getElem?_getD, List.getD_eq_getElem?_getD, take_drop_get, if_pos hos]
  rw [this]
  exact h2

theorem calm_buildSlice0 {o : Oper} {t et : TypeId} {parts : Array (Nat × Operand)} {ei : TI} (hT : TyOK P ty) (ho : o.op = .buildSlice t 0 parts) (ht : tyOf ty t = some (.sl et)) (he : ty et = some ei) (hp0 : parts.size = 0) :
    CalmOp P o sl hp (.at .nil) [] := by
  have hd : DR P t (.sl et) := by
    unfold tyOf at ht
    cases hi : ty t with
    | none => simp [hi] at ht
    | some i => simp [hi] at ht; rw [← ht]; exact (hT t i hi).d
  obtain ⟨inf, z, hinf, hsz, _, hz, hcells⟩ := (hT et ei he).info
  refine calm_wx fun ι a w hops hhr => ⟨.slice (some ⟨w.heap.size, 0, none⟩) 0 0, w.alloc (.cells #[] et), ?_, WX.alloc w _, ⟨_, rfl⟩⟩
  have e1 := run_underlying hd w
  have e2 := run_sizeOf hinf w
  have hps : parts = #[] := Array.eq_empty_of_size_eq_zero hp0
  simp [execOp, ho, Instr.buildSlice, e1, e2, hps, Instr.fill, newRow]
  rw [show Array.range 0 = #[] from rfl, Array.map_empty]

theorem calm_buildSlice {o : Oper} {t et : TypeId} {len : Nat} {parts : Array (Nat × Operand)} {ei : TI} {ks : List K} {cs : List A} {ns : List Int} (hT : TyOK P ty) (ho : o.op = .buildSlice t len parts)
    (ht : tyOf ty t = some (.sl et)) (he : ty et = some ei) (hks : ei.ks = some ks) (hlen : 0 < len) (hsz0 : 0 < ei.size) (hcap : len * ei.size ≤ 16777216)
    (hf : fillA (fun j => some (j * ei.size, ei.size)) ((List.replicate len ei.zero).flatten) (parts.toList.map fun p => (p.1, evA sl p.2)) = some cs)
    (hns : aInts ((List.replicate len ks).flatten) cs = some ns) :
    CalmOp P o sl hp (.at (.sl hp.length)) [⟨true, .rows ks (chunk ei.size len ns)⟩] := by
  have hd : DR P t (.sl et) := by
    unfold tyOf at ht
    cases hi : ty t with
    | none => simp [hi] at ht
    | some i => simp [hi] at ht; rw [← ht]; exact (hT t i hi).d
  have hTe := hT et ei he
  obtain ⟨inf, z, hinf, hsz, _, hz, hcells⟩ := hTe.info
  have hkl := hTe.ks ks hks
  refine calm_new fun ι a w hops hhr => ?_
  have hparts : F2 (fun p q => p.1 = q.1 ∧ VR ι (shp hp) p.2 q.2) (parts.toList.map fun p => (p.1, evA sl p.2)) (parts.toList.map fun p => (p.1, a.eval p.2)) :=
    parts_F2 parts.toList fun p hp => hops p.2 (by simp [ho, Op.operands]; exact ⟨p.1, by simpa using hp⟩)
  have hzl : z.cells.size = ei.size := by
    have h1 := hcells.length; have h2 := hTe.zl; simp at h1; omega
  have hz2 := zeros_F2 (ι := ι) (S := shp hp) hcells.AR0 len (by omega)
  obtain ⟨blk, hb, hr⟩ := fill_sound (pc := fun j => some (j * ei.size, ei.size)) (fun j p hj => hj) hparts hz2 hf
  obtain ⟨l1, l2, l3⟩ := aInts_KR hns hr
  simp only [flatten_rep_length] at l1 l2
  have hbs : blk.size = len * ei.size := by rw [← hkl, ← l2]; simp
  refine ⟨.slice (some ⟨w.heap.size, 0, none⟩) len len, w.alloc (.cells blk et), .on w.heap.size 0 blk.size, ?_, WX.alloc w _, ?_, fun ι' hag hon => ⟨?_, ?_⟩⟩
  · have e1 := run_underlying hd w
    have e2 := run_sizeOf hinf w
    have e3 := run_zeroValue hinf hz w
    have hmap : (parts.map fun (p : Nat × Operand) => (p.1, a.eval p.2)).toList = parts.toList.map fun p => (p.1, a.eval p.2) := by simp
    have n1 : ¬ (len * inf.size > 2 ^ 24) := by rw [hsz]; omega
    have n2 : ¬ (len * inf.size = 0) := by
      rw [hsz]
      exact Nat.ne_of_gt (Nat.mul_pos hlen hsz0)
    have hb' : Instr.fill (fun i => some (i * inf.size, inf.size)) ((Array.range (len * inf.size)).map (z.cells[· % z.cells.size]!)) (parts.map fun (p : Nat × Operand) => (p.1, a.eval p.2)).toList = some blk := by
      rw [hmap, hsz]
      rw [← hzl] at hb ⊢
      exact hb
    simp only [execOp, ho, Instr.buildSlice, Sem.run_bind, e1, Result.andThen_ok, e2, if_neg n1, if_neg n2, e3, Sem.run_pure, hb']
    simp [newRow]
  · intro b base room h; cases h; exact Nat.le_refl _
  · refine ⟨ks, len, ?_, .inr ⟨_, _, _, len, hon, rfl, Nat.le_refl _, ?_, ?_⟩⟩
    · rw [shp_new]; simp [shpOb, chunk_length]
    · rw [hbs, hkl]; exact Nat.le_refl _
    · have := Nat.le_mul_of_pos_right len hsz0
      unfold maxLen; omega
  · refine .inr ⟨_, _, _, blk, et, (0, 0), hon, heap_alloc_at w _, by omega, fun _ => ⟨rfl, rfl, rfl⟩, ?_⟩
    have := rows_chunk (blk := blk) (ks := ks) (n := len) (ns := ns) (by omega) l1 l3
    rw [hkl] at this
    exact this
end Go.Fx
