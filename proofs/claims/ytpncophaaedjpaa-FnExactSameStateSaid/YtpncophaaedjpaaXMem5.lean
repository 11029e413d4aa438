/- Calm operations: append to nothing, addresses, parts, lengths. -/
import Derived.Test.YtpncophaaedjpaaXMem4
namespace Go.Fx
variable {P : Program} {ty : Nat → Option TI} {sl : List V} {hp : List Ob}

theorem ksFit_ks {ks : List K} {y : A} (h : ksFit hp ks y = true) : ∀ id, (y = .sl id ∨ ∃ s n q, y = .sub id s n q) → obKs hp id = some ks := by
  intro id hy
  rcases hy with rfl | ⟨s, n, q, rfl⟩ <;>
  · simp only [ksFit] at h
    cases ho : obKs hp id with
    | none => simp [ho] at h
    | some k' => simp [ho] at h; rw [h]

/-- A row behind cells that are given, in a block that is given. -/
theorem rows_news {ks : List K} {ys : List (List Int)} {news : List Value} {rest : Array Value}
    (h : ∀ e row, ys[e]? = some row → row.length = ks.length ∧ ∀ o kd, ks[o]? = some kd → ∃ c, news[e * ks.length + o]? = some c ∧ KR kd (row.getD o 0) c) : RowsR (news.toArray ++ rest) 0 ks ys := by
  intro e row he
  obtain ⟨h1, h2⟩ := h e row he
  refine ⟨h1, fun o kd ho => ?_⟩
  obtain ⟨c, h3, h4⟩ := h2 o kd ho
  refine ⟨c, ?_, h4⟩
  have hlt : e * ks.length + o < news.length := (List.getElem?_eq_some_iff.1 h3).1
  rw [Array.getElem?_append_left (by simp; omega)]
  simpa using h3

theorem calm_append {o : Oper} {t et : TypeId} {x y : Operand} {ya : A} {ys : List (List Int)} {ei : TI} {ks : List K} (hT : TyOK P ty) (ho : o.op = .call { callee := .builtin .append, args := #[x, y], argTypes := #[t, t] })
    (ht : tyOf ty t = some (.sl et)) (he : ty et = some ei) (hks : ei.ks = some ks) (hx : evA sl x = .at .nil) (hy : evA sl y = .at ya) (hys : slRows hp ya = some ys) (hfit : ksFit hp ks ya = true)
    (hn : ys.length ≤ 1073741824) (hb : ei.bytes ≤ 1024) :
    CalmOp P o sl hp (.at (.sl hp.length)) [⟨true, .rows ks ys⟩] := by
  have hd := tyOf_DR hT ht
  have hTe := hT et ei he
  obtain ⟨inf, zv, hinf, hsz, hby, hzv, hcells⟩ := hTe.info
  have hkl := hTe.ks ks hks
  have hzl : zv.cells.size = ei.size := by have h1 := hcells.length; have h2 := hTe.zl; simp at h1; omega
  refine calm_new fun ι a w hops hhr => ?_
  have hvx := hops x (by simp [ho, Op.operands, Call.operands])
  have hvy := hops y (by simp [ho, Op.operands, Call.operands])
  rw [hx] at hvx; rw [hy] at hvy
  obtain ⟨ba, ex⟩ := hvx
  obtain ⟨ad, m, ey, hcase⟩ := slRows_sound hhr hys hvy fun _ => ksFit_ks hfit
  have hex : ∀ r w', (Builtin.append_ #[t, t] o.type #[.slice ba 0 0, .slice ad ys.length m]).run P w = .ok r w' → (execOp a.eval o).run P w = .ok (.value r) w' := by
    intro r w' hr
    simp [execOp, ho, resolve, invoke, builtin, ex, ey, hr]
  rcases Nat.eq_zero_or_pos ys.length with h0 | h0
  · have hr := run_append_none (P := P) w t o.type et inf hd hinf ba ad m
    rw [← h0] at hr
    rw [h0] at hr
    refine ⟨.slice ba 0 0, w, .empty, hex _ _ (by rw [h0]; exact hr), WX.refl w, (fun _ _ _ h => by cases h), fun ι' hag hon => ⟨?_, ?_⟩⟩
    · exact ⟨ks, 0, by rw [shp_new]; simp [shpOb, h0], .inl ⟨hon, rfl, ba, rfl⟩⟩
    · exact .inl ⟨hon, List.eq_nil_of_length_eq_zero h0⟩
  · obtain ⟨a0, rfl, news, n1, n2, n3⟩ := hcase h0
    have hfits := growslice_fits (need := ys.length) (old := 0) (bytes := ei.bytes) h0 (by
      have : ys.length * ei.bytes ≤ 1073741824 * 1024 := Nat.mul_le_mul hn hb
      omega)
    have hr := run_append_empty (P := P) w t o.type et inf zv hd hinf hzv ba a0 ys.length m news (by rw [n1, hsz, hkl]) n2 h0 (by omega) (by rw [hby]; exact hfits)
    have hcap := grownCap_ge w ys.length 0 et
    have hcm := grownCap_le_maxLen w ys.length 0 et (by unfold maxLen; omega)
    have hbs : (news.toArray ++ Builtin.zeroCells zv.cells (grownCap w ys.length 0 et - ys.length)).size = grownCap w ys.length 0 et * ei.size := by
      simp only [Array.size_append, List.size_toArray, size_zeroCells, hzl, n1, hkl, ← Nat.add_mul]
      congr 1; omega
    refine ⟨_, _, .on w.heap.size 0 (grownCap w ys.length 0 et * ei.size), hex _ _ hr, (WX.drewN w 1).trans (WX.alloc _ _), ?_, fun ι' hag hon => ⟨?_, ?_⟩⟩
    · intro b base room h; cases h; exact Nat.le_refl _
    · exact ⟨ks, ys.length, by rw [shp_new]; simp [shpOb], .inr ⟨_, _, _, _, hon, rfl, hcap, by rw [hkl]; exact Nat.le_refl _, hcm⟩⟩
    · exact .inr ⟨_, _, _, _, et, (0, 0), hon, heap_alloc_at w.drew _, by omega, fun _ => ⟨rfl, rfl, hbs⟩, rows_news n3⟩

/-! ### addresses -/
theorem calm_nilCheck {o : Oper} {x : Operand} {id e f : Nat} (ho : o.op = .nilCheck x) (hx : evA sl x = .at (.ptr id e f)) : CalmOp P o sl hp (.at (.ptr id e f)) [] := by
  refine calm_value fun ι a w hops hhr => ?_
  have hv := hops x (by simp [ho, Op.operands])
  rw [hx] at hv
  have hv' := hv
  obtain ⟨b, base, room, h1, h2, h3⟩ := hv
  exact ⟨a.eval x, 0, by simp [execOp, ho, h2, World.drewN_zero], hv'⟩

theorem calm_fieldAddr {o : Oper} {s : TypeId} {x : Operand} {f d ft id e off : Nat} {fs : List (Nat × Nat)} (hT : TyOK P ty) (ho : o.op = .fieldAddr s x f) (ht : tyOf ty s = some (.st fs)) (hx : evA sl x = .at (.ptr id e off)) (hf : fs[f]? = some (d, ft)) :
    CalmOp P o sl hp (.at (.ptr id e (off + d))) [] := by
  obtain ⟨fields, hu, hfs, hfi⟩ := tyOf_DR hT ht
  refine calm_value fun ι a w hops hhr => ?_
  have hv := hops x (by simp [ho, Op.operands])
  rw [hx] at hv
  obtain ⟨b, base, room, h1, h2, h3⟩ := hv
  have e1 := run_underlying hu w
  rw [← hfs, List.getElem?_map] at hf
  cases hff : fields.toList[f]? with
  | none => simp [hff] at hf
  | some fd =>
    simp [hff] at hf
    obtain ⟨rfl, rfl⟩ := hf
    have hff' : fields[f]? = some fd := by rw [← hff, Array.getElem?_toList]
    obtain ⟨i, hi, hne⟩ := hfi fd (List.mem_of_getElem? hff)
    have e2 := run_sizeOf hi w
    refine ⟨.pointer (some ⟨b, base + offs (shp hp id) e + (off + fd.offset), none⟩), 0, ?_, b, base, room, h1, rfl, h3⟩
    rw [World.drewN_zero]
    simp only [execOp, ho, h2, Instr.fieldAt, Sem.run_bind, e1, Result.andThen_ok, hff']
    simp [Instr.sureAddr, fieldPlace, e2, hne, Addr.add_at, Nat.add_assoc]

theorem calm_indexAddr {o : Oper} {t et : TypeId} {x ix : Operand} {id st n : Nat} {i : Int} {k : IntKind} {len : Nat} {ks : List K} {ei : TI} (hT : TyOK P ty) (ho : o.op = .indexAddr t x ix) (ht : tyOf ty t = some (.sl et)) (he : ty et = some ei)
    (hsz : ks.length = ei.size) (hS : shp hp id = .rows ks n) (hix : evA sl ix = .at (.int k i)) (h0 : 0 ≤ i) (hl : i < len)
    (hv : ∀ (ι : Nat → Pl) (c : Value) , VR ι (shp hp) (evA sl x) c → st + len ≤ n ∧ ∃ b base room cp, ι id = .on b base room ∧ c = .slice (some ⟨b, base + st * ks.length, none⟩) len cp) :
    CalmOp P o sl hp (.at (.ptr id (st + i.toNat) 0)) [] := by
  have hd := tyOf_DR hT ht
  obtain ⟨inf, zv, hinf, hsz', hby, hzv, hcells⟩ := (hT et ei he).info
  refine calm_value fun ι a w hops hhr => ?_
  have hvx := hops x (by simp [ho, Op.operands])
  have hvi := hops ix (by simp [ho, Op.operands])
  rw [hix] at hvi
  obtain ⟨hle, b, base, room, cp, hι, ex⟩ := hv ι _ hvx
  have ei' : a.eval ix = .int k i := hvi
  have e1 := run_underlying hd w
  have e2 := run_sizeOf hinf w
  refine ⟨.pointer (some ⟨b, base + (st + i.toNat) * ks.length + 0, none⟩), 0, ?_, b, base, room, hι, by rw [hS]; rfl, by rw [hS]; simp only [inB]; omega⟩
  rw [World.drewN_zero]
  have hc : (0 ≤ i ∧ i < (len : Int)) := ⟨h0, hl⟩
  simp only [execOp, ho, ex, ei', Instr.indexAt, asIntOf, Sem.run_bind, Sem.run_pure, Result.andThen_ok, e1, if_pos hc, e2]
  simp [Addr.add_at, hsz', ← hsz, Nat.add_mul, Nat.add_assoc]
end Go.Fx
