/- Calm operations: composite values and slices. -/
import Derived.Test.YtpncophaaedjpaaXMem
namespace Go.Fx
variable {P : Program} {ty : Nat → Option TI} {sl : List V} {hp : List Ob}

def setFromL : List Value → Nat → List Value → List Value
  | r, _, [] => r
  | r, o, n :: t => setFromL (r.set o n) (o + 1) t

theorem setFrom_F2 {R : A → Value → Prop} : ∀ {as : List A} {vs : List Value} {cs : List A} {blk : List Value} (o : Nat), F2 R as vs → F2 R cs blk → F2 R (setFromA cs o as) (setFromL blk o vs)
  | [], [], _, _, _, _, h => h
  | _ :: _, _ :: _, _, _, o, ⟨h1, h2⟩, h => setFrom_F2 (o + 1) h2 (h.set h1 o)
  | [], _ :: _, _, _, _, h, _ => h.elim
  | _ :: _, [], _, _, _, h, _ => h.elim

theorem foldl_set (off : Nat) : ∀ (vs : List Value) (k : Nat) (blk : Array Value),
    ((vs.zipIdx k).foldl (fun (cs : Array Value) (p : Value × Nat) => cs.setIfInBounds (off + p.2) p.1) blk).toList = setFromL blk.toList (off + k) vs
  | [], k, blk => by simp [setFromL]
  | v :: vs, k, blk => by
    simp only [List.zipIdx_cons, List.foldl_cons]
    rw [foldl_set off vs (k + 1)]
    simp [setFromL, Nat.add_assoc]

theorem setFromL_length : ∀ (vs : List Value) (o : Nat) (r : List Value), (setFromL r o vs).length = r.length
  | [], _, _ => rfl
  | _ :: t, o, r => by simp [setFromL, setFromL_length t]

theorem fill_sound {ι : Nat → Pl} {S : Nat → Shp} {pa pc : Nat → Option (Nat × Nat)} (hp : ∀ i p, pa i = some p → pc i = some p) :
    ∀ {ps : List (Nat × V)} {qs : List (Nat × Value)} {cs cs' : List A} {blk : Array Value}, F2 (fun p q => p.1 = q.1 ∧ VR ι S p.2 q.2) ps qs → F2 (AR ι S) cs blk.toList → fillA pa cs ps = some cs' →
      ∃ blk', Instr.fill pc blk qs = some blk' ∧ F2 (AR ι S) cs' blk'.toList
  | [], [], cs, cs', blk, _, hc, hf => by simp [fillA] at hf; subst hf; exact ⟨blk, rfl, hc⟩
  | (i, v) :: ps, (j, c) :: qs, cs, cs', blk, ⟨⟨h0, h1⟩, h2⟩, hc, hf => by
    simp only at h0
    subst h0
    simp only [fillA] at hf
    cases hpi : pa i with
    | none => simp [hpi] at hf
    | some p =>
      obtain ⟨off, size⟩ := p
      cases hvc : v.cells with
      | none => simp [hpi, hvc] at hf
      | some as =>
        simp only [hpi, hvc] at hf
        obtain ⟨hcells, _⟩ := V.cells_F2 hvc h1
        have hl := hcells.length
        cases hb1 : Nat.beq as.length size with
        | false => simp only [hb1] at hf; cases hf
        | true =>
          cases hb2 : Nat.ble (off + size) cs.length with
          | false => simp only [hb1, hb2] at hf; cases hf
          | true =>
            simp only [hb1, hb2] at hf
            have e1 := Nat.eq_of_beq_eq_true hb1
            have e2 := Nat.le_of_ble_eq_true hb2
            have hlc := hc.length
            simp only [Array.length_toList] at hl hlc
            have hset := setFrom_F2 off hcells hc
            have hfold := foldl_set off c.cells.toList 0 blk
            rw [Nat.add_zero] at hfold
            rw [← hfold] at hset
            obtain ⟨blk', hb, hr⟩ := fill_sound hp h2 hset hf
            refine ⟨blk', ?_, hr⟩
            simp only [Instr.fill, hp i _ hpi]
            have c1 : c.cells.size = size := by omega
            have c2 : ¬ off + c.cells.size > blk.size := by omega
            simp only [c1, ne_eq, not_true_eq_false, decide_false, Bool.false_or, decide_eq_true_eq]
            rw [if_neg (by omega)]
            have : (c.cells.zipIdx.foldl (fun cs (x : Value × Nat) => match x with | (c, j) => cs.setIfInBounds (off + j) c) blk) = (c.cells.toList.zipIdx 0).foldl (fun (cs : Array Value) (p : Value × Nat) => cs.setIfInBounds (off + p.2) p.1) blk := by
              rw [← Array.foldl_toList, Array.toList_zipIdx]
            rw [this]
            exact hb
  | [], _ :: _, _, _, _, h, _, _ => h.elim
  | _ :: _, [], _, _, _, h, _, _ => h.elim

theorem parts_F2 {ι : Nat → Pl} {S : Nat → Shp} {a : Act} : ∀ (ps : List (Nat × Operand)), (∀ p ∈ ps, VR ι S (evA sl p.2) (a.eval p.2)) →
    F2 (fun p q => p.1 = q.1 ∧ VR ι S p.2 q.2) (ps.map fun p => (p.1, evA sl p.2)) (ps.map fun p => (p.1, a.eval p.2))
  | [], _ => trivial
  | p :: ps, h => ⟨⟨rfl, h p (by simp)⟩, parts_F2 ps fun q hq => h q (by simp [hq])⟩

theorem run_mapM_places (fields : List Field) (w : World) (h : ∀ f ∈ fields, ∃ i, P.info? f.type = some i) :
    (fields.mapM fun f => do pure (f.offset, ← sizeOf f.type) : Sem (List (Nat × Nat))).run P w = .ok (fields.map fun f => (f.offset, P.cellsOf f.type)) w := by
  induction fields with
  | nil => rfl
  | cons f fs ih =>
    obtain ⟨i, hi⟩ := h f (by simp)
    have e1 := run_sizeOf hi w
    have e2 := ih fun g hg => h g (by simp [hg])
    simp only [List.mapM_cons, Sem.run_bind, e1, Result.andThen_ok, e2, Sem.run_pure, List.map_cons, Program.cellsOf, hi, Option.map_some, Option.getD_some]

theorem calm_build {o : Oper} {t : TypeId} {parts : Array (Nat × Operand)} {i : TI} {cs : List A} (hT : TyOK P ty) (ho : o.op = .build t parts) (hi : ty t = some i)
    (h : (match i.d with
      | .st fs => fillA (fun j => match fs[j]? with | some (off, ft) => (match ty ft with | some fi => some (off, fi.size) | none => none) | none => none) i.zero (parts.toList.map fun p => (p.1, evA sl p.2))
      | .ar _ et => match ty et with
        | some ei => fillA (fun j => some (j * ei.size, ei.size)) i.zero (parts.toList.map fun p => (p.1, evA sl p.2))
        | none => none
      | _ => none) = some cs) : CalmOp P o sl hp (.agg cs) [] := by
  have hTi := hT t i hi
  obtain ⟨inf, z, hinf, hsz, _, hz, hcells⟩ := hTi.info
  refine calm_value fun ι a w hops hhr => ?_
  have hparts : F2 (fun p q => p.1 = q.1 ∧ VR ι (shp hp) p.2 q.2) (parts.toList.map fun p => (p.1, evA sl p.2)) (parts.toList.map fun p => (p.1, a.eval p.2)) :=
    parts_F2 parts.toList fun p hp => hops p.2 (by simp [ho, Op.operands]; exact ⟨p.1, by simpa using hp⟩)
  have hzr := run_zeroValue hinf hz w
  have hmap : (parts.map fun (p : Nat × Operand) => (p.1, a.eval p.2)).toList = parts.toList.map fun p => (p.1, a.eval p.2) := by simp
  cases hd : i.d with
  | st fs =>
    simp only [hd] at h
    have hdr := hTi.d
    rw [hd] at hdr
    obtain ⟨fields, hu, hfs, hfi⟩ := hdr
    obtain ⟨blk', hb, hr⟩ := fill_sound (pc := fun j => (fields.toList.map fun f => (f.offset, P.cellsOf f.type))[j]?) (fun j p hj => by
      cases hg : fs[j]? with
      | none => simp [hg] at hj
      | some q =>
        obtain ⟨off, ft⟩ := q
        simp only [hg] at hj
        cases ht : ty ft with
        | none => simp [ht] at hj
        | some fi =>
          simp [ht] at hj
          subst hj
          rw [← hfs, List.getElem?_map] at hg
          cases hf : fields.toList[j]? with
          | none => simp [hf] at hg
          | some f =>
            simp [hf] at hg
            obtain ⟨g1, g2⟩ := hg
            obtain ⟨inf', z', hi', hs', _⟩ := (hT ft fi ht).info
            rw [List.getElem?_map, hf]
            simp [g1, Program.cellsOf, g2, hi', hs']) hparts hcells.AR0 h
    refine ⟨.agg blk', 0, ?_, blk', rfl, hr⟩
    have e1 := run_underlying hu w
    have e2 := run_mapM_places (P := P) fields.toList w (fun f hf => let ⟨i, h1, _⟩ := hfi f hf; ⟨i, h1⟩)
    have e3 : (fields.mapM fun f => do pure (f.offset, ← sizeOf f.type) : Sem (Array (Nat × Nat))).run P w = .ok (fields.toList.map fun f => (f.offset, P.cellsOf f.type)).toArray w := by
      rw [Array.mapM_eq_mapM_toList, ← bind_pure_comp]
      simp only [Sem.run_bind, e2, Result.andThen_ok, Sem.run_pure]
    rw [World.drewN_zero]
    simp only [execOp, ho]
    have hb' : Instr.fill (fun j => (fields.toList.map fun f => (f.offset, P.cellsOf f.type)).toArray[j]?) z.cells (parts.map fun (p : Nat × Operand) => (p.1, a.eval p.2)).toList = some blk' := by
      rw [hmap]; simpa using hb
    simp only [Instr.build, Sem.run_bind, hzr, Result.andThen_ok, e1, e3, hb']
    rfl
  | ar n et =>
    simp only [hd] at h
    have hdr := hTi.d
    rw [hd] at hdr
    cases hte : ty et with
    | none => simp [hte] at h
    | some ei =>
      simp only [hte] at h
      obtain ⟨inf', z', hi', hs', _⟩ := (hT et ei hte).info
      obtain ⟨blk', hb, hr⟩ := fill_sound (pc := fun j => some (j * ei.size, ei.size)) (fun j p hj => hj) hparts hcells.AR0 h
      refine ⟨.agg blk', 0, ?_, blk', rfl, hr⟩
      have e1 := run_underlying hdr w
      have e2 := run_sizeOf hi' w
      rw [World.drewN_zero]
      simp only [execOp, ho]
      have hb' : Instr.fill (fun j => some (j * inf'.size, inf'.size)) z.cells (parts.map fun (p : Nat × Operand) => (p.1, a.eval p.2)).toList = some blk' := by
        rw [hmap, hs']; exact hb
      simp only [Instr.build, Sem.run_bind, hzr, Result.andThen_ok, e1, e2, hb']
      rfl
  | sc k => simp [hd] at h
  | sl e => simp [hd] at h
  | oth => simp [hd] at h
end Go.Fx
