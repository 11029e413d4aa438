/- Calm operations: arrays, parts, slicing, lengths. -/
import Derived.Test.YtpncophaaedjpaaXMem5
namespace Go.Fx
variable {P : Program} {ty : Nat → Option TI} {sl : List V} {hp : List Ob}

theorem calm_indexAddrArr {o : Oper} {t et : TypeId} {x ix : Operand} {id n len : Nat} {i : Int} {k : IntKind} {kd : K} {ei : TI} (hT : TyOK P ty) (ho : o.op = .indexAddr t x ix) (ht : tyOf ty t = some (.ar len et)) (he : ty et = some ei)
    (hsz : ei.size = 1) (hS : shp hp id = .rows [kd] n) (hix : evA sl ix = .at (.int k i)) (h0 : 0 ≤ i) (hl : i < n) (hle : n = len) (hx : evA sl x = .at (.ptr id 0 0)) :
    CalmOp P o sl hp (.at (.ptr id i.toNat 0)) [] := by
  have hd := tyOf_DR hT ht
  obtain ⟨inf, zv, hinf, hsz', hby, hzv, hcells⟩ := (hT et ei he).info
  refine calm_value fun ι a w hops hhr => ?_
  have hvx := hops x (by simp [ho, Op.operands])
  have hvi := hops ix (by simp [ho, Op.operands])
  rw [hix] at hvi
  rw [hx] at hvx
  obtain ⟨b, base, room, hι, ex, _⟩ := hvx
  have ei' : a.eval ix = .int k i := hvi
  have e1 := run_underlying hd w
  have e2 := run_sizeOf hinf w
  refine ⟨.pointer (some ⟨b, base + i.toNat, none⟩), 0, ?_, b, base, room, hι, by rw [hS]; simp [offs], by rw [hS]; simp only [inB]; omega⟩
  rw [World.drewN_zero]
  have hc : (0 ≤ i ∧ i < (len : Int)) := ⟨h0, by omega⟩
  rw [hS] at ex
  simp only [offs, Nat.zero_mul, Nat.add_zero] at ex
  simp only [execOp, ho, ex, ei', Instr.indexAt, asIntOf, Sem.run_bind, Sem.run_pure, Result.andThen_ok, e1, if_pos hc, e2, Instr.sureAddr]
  simp [Addr.add_at, hsz', hsz]

theorem calm_index {o : Oper} {t et : TypeId} {x ix : Operand} {i : Int} {k : IntKind} {len : Nat} {kd : K} {as : List A} {a0 : A} {ei : TI} (hT : TyOK P ty) (ho : o.op = .index t x ix) (ht : tyOf ty t = some (.ar len et)) (he : ty et = some ei) (hed : ei.d = .sc kd) (hsz : ei.size = 1)
    (hx : evA sl x = .agg as) (hix : evA sl ix = .at (.int k i)) (h0 : 0 ≤ i) (hl : i < len) (ha : as[i.toNat]? = some a0) :
    CalmOp P o sl hp (.at a0) [] := by
  have hd := tyOf_DR hT ht
  have hTe := hT et ei he
  obtain ⟨inf, zv, hinf, hsz', hby, hzv, hcells⟩ := hTe.info
  refine calm_value fun ι a w hops hhr => ?_
  have hvx := hops x (by simp [ho, Op.operands])
  have hvi := hops ix (by simp [ho, Op.operands])
  rw [hix] at hvi
  rw [hx] at hvx
  obtain ⟨cs, ex, hF⟩ := hvx
  have ei' : a.eval ix = .int k i := hvi
  have e1 := run_underlying hd w
  have e2 := run_sizeOf hinf w
  have e3 := run_isAgg hTe.d w
  rw [hed] at e3
  obtain ⟨c, hc, hr⟩ := hF.get _ _ ha
  refine ⟨c, 0, ?_, hr⟩
  rw [World.drewN_zero]
  have hcc : (0 ≤ i ∧ i < (len : Int)) := ⟨h0, hl⟩
  have hc' : cs[i.toNat]? = some c := by simpa using hc
  simp only [execOp, ho, ex, ei', Instr.index, asIntOf, Sem.run_bind, Sem.run_pure, Result.andThen_ok, e1, if_pos hcc, e2]
  simp [part, e3, aggD, hsz', hsz, hc']

theorem part_sound {t : TypeId} {i : TI} (hT : TIOK P t i) {ι : Nat → Pl} {S : Nat → Shp} {as : List A} {cs : Array Value} (hF : F2 (AR ι S) as cs.toList) (off : Nat) (w : World) :
    (aggD i.d = true → (part t cs off).run P w = .ok (.agg (cs.extract off (off + i.size))) w ∧ VR ι S (.agg ((as.drop off).take i.size)) (.agg (cs.extract off (off + i.size)))) ∧
    (aggD i.d = false → ∀ a, as[off]? = some a → ∃ c, (part t cs off).run P w = .ok c w ∧ AR ι S a c) := by
  obtain ⟨inf, zv, hinf, hsz', hby, hzv, hcells⟩ := hT.info
  have e1 := run_isAgg hT.d w
  have e2 := run_sizeOf hinf w
  refine ⟨fun h => ⟨?_, _, rfl, ?_⟩, fun h a ha => ?_⟩
  · rw [h] at e1
    simp [part, e1, e2, hsz']
  · have := (hF.drop off).take i.size
    simpa [List.extract_eq_take_drop] using this
  · rw [h] at e1
    obtain ⟨c, hc, hr⟩ := hF.get _ _ ha
    have hc' : cs[off]? = some c := by simpa using hc
    exact ⟨c, by simp [part, e1, hc'], hr⟩

theorem calm_field {o : Oper} {s : TypeId} {x : Operand} {f d ft : Nat} {fs : List (Nat × Nat)} {as : List A} {i : TI} {v : V} (hT : TyOK P ty) (ho : o.op = .field s x f) (ht : tyOf ty s = some (.st fs)) (hx : evA sl x = .agg as) (hf : fs[f]? = some (d, ft))
    (hi : ty ft = some i) (hv : (aggD i.d = true ∧ v = .agg ((as.drop d).take i.size)) ∨ (aggD i.d = false ∧ ∃ a, as[d]? = some a ∧ v = .at a)) : CalmOp P o sl hp v [] := by
  obtain ⟨fields, hu, hfs, hfi⟩ := tyOf_DR hT ht
  refine calm_value fun ι a w hops hhr => ?_
  have hvx := hops x (by simp [ho, Op.operands])
  rw [hx] at hvx
  obtain ⟨cs, ex, hF⟩ := hvx
  have e1 := run_underlying hu w
  rw [← hfs, List.getElem?_map] at hf
  cases hff : fields.toList[f]? with
  | none => simp [hff] at hf
  | some fd =>
    simp [hff] at hf
    obtain ⟨rfl, rfl⟩ := hf
    have hff' : fields[f]? = some fd := by rw [← hff, Array.getElem?_toList]
    obtain ⟨p1, p2⟩ := part_sound (hT fd.type i hi) hF fd.offset w
    rcases hv with ⟨hag, rfl⟩ | ⟨hag, a0, ha, rfl⟩
    · obtain ⟨q1, q2⟩ := p1 hag
      refine ⟨_, 0, ?_, q2⟩
      rw [World.drewN_zero]
      simp only [execOp, ho, ex, Instr.field, Sem.run_bind, e1, Result.andThen_ok, hff']
      simp [asAgg, q1]
    · obtain ⟨c, q1, q2⟩ := p2 hag a0 ha
      refine ⟨_, 0, ?_, q2⟩
      rw [World.drewN_zero]
      simp only [execOp, ho, ex, Instr.field, Sem.run_bind, e1, Result.andThen_ok, hff']
      simp [asAgg, q1]

theorem calm_extract {o : Oper} {t : Operand} {ix : Nat} {xs : List (Bool × List A)} {x : Bool × List A} (ho : o.op = .extract t ix) (ht : evA sl t = .tup xs) (hx : xs[ix]? = some x) : CalmOp P o sl hp (ofT x) [] := by
  refine calm_value fun ι a w hops hhr => ?_
  have hv := hops t (by simp [ho, Op.operands])
  rw [ht] at hv
  obtain ⟨cs, ex, hF⟩ := hv
  obtain ⟨c, hc, hr⟩ := hF.get _ _ hx
  have hc' : cs[ix]? = some c := by simpa using hc
  refine ⟨c, 0, by simp [execOp, ho, ex, Instr.extract, hc', World.drewN_zero], ?_⟩
  obtain ⟨f, as⟩ := x
  cases f with
  | true => exact hr
  | false =>
    match as, hr with
    | [a], hr => exact hr
    | [], hr => exact hr.elim
    | _ :: _ :: _, hr => exact hr.elim

theorem caps_F2 {ι : Nat → Pl} {S : Nat → Shp} {a : Act} : ∀ {xs : List Operand} {cs : List (Nat × Nat × Nat)}, capsOf sl xs = some cs → (∀ x ∈ xs, VR ι S (evA sl x) (a.eval x)) →
    F2 (fun p c => PR ι S p.1 p.2.1 p.2.2 c) cs (xs.map a.eval)
  | [], cs, h, _ => by simp [capsOf] at h; subst h; trivial
  | x :: t, cs, h, hv => by
    simp only [capsOf] at h
    split at h
    · rename_i i el off r h1 h2
      simp only [Option.some.injEq] at h
      subst h
      have hx := hv x (by simp)
      rw [h1] at hx
      exact ⟨hx, caps_F2 h2 fun y hy => hv y (by simp [hy])⟩
    · cases h

theorem calm_makeFunc {o : Oper} {f : FuncId} {first caps : Array Operand} {cs : List (Nat × Nat × Nat)} (ho : o.op = .makeFunc (.func f) first caps) (h0 : first.size = 0) (hc : capsOf sl caps.toList = some cs) : CalmOp P o sl hp (.at (.fn f cs)) [] := by
  have hf : first = #[] := Array.eq_empty_of_size_eq_zero h0
  subst hf
  refine calm_value fun ι a w hops hhr => ⟨.func (.func f) #[] (caps.map a.eval), 0, by simp [execOp, ho, Instr.makeFunc, World.drewN_zero], caps.map a.eval, rfl, ?_⟩
  have := caps_F2 (ι := ι) (S := shp hp) (a := a) hc (fun x hx => hops x (by simp [ho, Op.operands]; simpa using hx))
  simpa using this

/-! ### slices of slices -/
theorem sl_parts {ι : Nat → Pl} {id : Nat} {c : Value} (h : AR ι (shp hp) (.sl id) c) : ∃ ks n, shp hp id = .rows ks n ∧ ∃ a cap, c = .slice a n cap ∧ n ≤ cap ∧ cap ≤ maxLen ∧
    (cap = 0 ∨ ∃ b base room, ι id = .on b base room ∧ a = some ⟨b, base, none⟩ ∧ cap * ks.length ≤ room) := by
  obtain ⟨ks, n, h1, ⟨_, h3, a, rfl⟩ | ⟨b, base, room, cap, hι, rfl, hle, hroom, hml⟩⟩ := h
  · exact ⟨ks, n, h1, a, 0, by rw [h3], by omega, by unfold maxLen; omega, .inl rfl⟩
  · exact ⟨ks, n, h1, _, cap, rfl, hle, hml, .inr ⟨b, base, room, hι, rfl, hroom⟩⟩

theorem obLen_shp {id : Nat} {ks : List K} {n : Nat} (h : shp hp id = .rows ks n) : obLen hp id = n := by
  unfold shp at h
  unfold obLen
  cases ho : hp[id]? with
  | none => simp [ho] at h
  | some ob =>
    obtain ⟨own, c⟩ := ob
    cases c with
    | dead => simp [ho, shpOb] at h
    | box cs => simp [ho, shpOb] at h
    | rows ks' xs => simp [ho, shpOb] at h; simp [h.2]

theorem run_bound (x : Int) (k : IntKind) (y : Nat) (code : BoundsCode) (w : World) (h0 : 0 ≤ x) (h1 : x ≤ y) : (Instr.sliceBound (.int k x) y code).run P w = .ok x.toNat w := by
  simp [Instr.sliceBound, asIntOf, h0, h1]

/-- 's[l:h]', either end left out or not. -/
theorem calm_slice {o : Oper} {t et : TypeId} {x : Operand} {lo hi : Option Operand} {id l h : Nat} {ei : TI} (hT : TyOK P ty) (ho : o.op = .slice t x lo hi none) (ht : tyOf ty t = some (.sl et)) (he : ty et = some ei)
    (hks : ∀ ks n, shp hp id = .rows ks n → ks.length = ei.size ∧ h ≤ n ∧ (hi = none → h = n))
    (hx : evA sl x = .at (.sl id)) (hlh : l ≤ h) (hlo : (lo = none ∧ l = 0) ∨ ∃ y k, lo = some y ∧ evA sl y = .at (.int k l)) (hhi : hi = none ∨ ∃ y k, hi = some y ∧ evA sl y = .at (.int k h)) :
    CalmOp P o sl hp (.at (.sub id l (h - l) none)) [] := by
  have hd := tyOf_DR hT ht
  obtain ⟨inf, zv, hinf, hsz', hby, hzv, hcells⟩ := (hT et ei he).info
  refine calm_value fun ι a w hops hhr => ?_
  have hvx := hops x (by simp [ho, Op.operands])
  rw [hx] at hvx
  obtain ⟨ks, n, hS, ad, cap, ex, hle, hml, hadr⟩ := sl_parts hvx
  obtain ⟨hkl, hhn, hhn'⟩ := hks ks n hS
  have e1 := run_underlying hd w
  have e2 := run_sizeOf hinf w
  have hb : (Instr.sliceBounds true n cap (lo.map a.eval) (hi.map a.eval) none).run P w = .ok (l, h, cap) w := by
    have hh : ∀ y k, hi = some y → evA sl y = .at (.int k h) → (Instr.sliceBound (a.eval y) cap .sliceAcap).run P w = .ok h w := by
      intro y k hy hv
      have := hops y (by simp [ho, Op.operands, hy])
      rw [hv] at this
      have e : a.eval y = .int k h := this
      rw [e, run_bound _ _ _ _ _ (by omega) (by omega)]
      simp
    have hl : ∀ y k, lo = some y → evA sl y = .at (.int k l) → (Instr.sliceBound (a.eval y) h .sliceB).run P w = .ok l w := by
      intro y k hy hv
      have := hops y (by simp [ho, Op.operands, hy])
      rw [hv] at this
      have e : a.eval y = .int k l := this
      rw [e, run_bound _ _ _ _ _ (by omega) (by omega)]
      simp
    rcases hhi with hhi | ⟨y, k, hhi, hyv⟩
    · have hn := hhn' hhi
      rcases hlo with ⟨hlo, rfl⟩ | ⟨z, k', hlo, hzv⟩
      · simp [Instr.sliceBounds, hhi, hlo, hn]
      · have := hl z k' hlo hzv
        rw [hn] at this
        simp [Instr.sliceBounds, hhi, hlo, hn, this]
    · have h1 := hh y k hhi hyv
      rcases hlo with ⟨hlo, rfl⟩ | ⟨z, k', hlo, hzv⟩
      · simp [Instr.sliceBounds, hhi, hlo, h1]
      · have h2 := hl z k' hlo hzv
        simp [Instr.sliceBounds, hhi, hlo, h1, h2]
  refine ⟨.slice (if cap = l then ad else ad.map (·.add (l * ei.size))) (h - l) (cap - l), 0, ?_, ks, n, hS, by omega, _, _, rfl, (fun m hm => by simp at hm), by omega, by omega, ?_⟩
  · rw [World.drewN_zero]
    simp only [execOp, ho, Instr.sliceAt, Sem.run_bind, e1, Result.andThen_ok, ex, Instr.slice, Option.map_none, hb, e2, hsz']
    rfl
  · rcases hadr with h0 | ⟨b, base, room, hι, rfl, hroom⟩
    · left; omega
    · by_cases hcl : cap = l
      · left; omega
      · right
        refine ⟨b, base, room, hι, ?_, ?_⟩
        · rw [if_neg hcl]
          simp [Addr.add_at, hkl]
        · rw [show l + (cap - l) = cap by omega]; exact hroom
end Go.Fx
