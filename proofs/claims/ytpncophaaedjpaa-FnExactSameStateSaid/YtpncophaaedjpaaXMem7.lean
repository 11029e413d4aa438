/- Calm operations: slices without room, arrays as slices, builtins. -/
import Derived.Test.YtpncophaaedjpaaXMem6
namespace Go.Fx
variable {P : Program} {ty : Nat → Option TI} {sl : List V} {hp : List Ob}

theorem run_bound0 (k : IntKind) (y : Nat) (code : BoundsCode) (w : World) : (Instr.sliceBound (.int k 0) y code).run P w = .ok 0 w := run_bound 0 k y code w (by omega) (by omega)

/-- 's[:0:0]'. -/
theorem calm_slice00 {o : Oper} {t et : TypeId} {x hi mx : Operand} {ya : A} {kh km : IntKind} {ei : TI} (hT : TyOK P ty) (ho : o.op = .slice t x none (some hi) (some mx)) (ht : tyOf ty t = some (.sl et)) (he : ty et = some ei)
    (hx : evA sl x = .at ya) (hya : ya = .nil ∨ ∃ id, ya = .sl id) (hhi : evA sl hi = .at (.int kh 0)) (hmx : evA sl mx = .at (.int km 0)) : CalmOp P o sl hp (.at .nil) [] := by
  have hd := tyOf_DR hT ht
  obtain ⟨inf, zv, hinf, hsz', hby, hzv, hcells⟩ := (hT et ei he).info
  refine calm_value fun ι a w hops hhr => ?_
  have hvx := hops x (by simp [ho, Op.operands])
  have hvh := hops hi (by simp [ho, Op.operands])
  have hvm := hops mx (by simp [ho, Op.operands])
  rw [hx] at hvx; rw [hhi] at hvh; rw [hmx] at hvm
  have eh : a.eval hi = .int kh 0 := hvh
  have em : a.eval mx = .int km 0 := hvm
  obtain ⟨ad, n, cap, ex⟩ : ∃ ad n cap, a.eval x = .slice ad n cap := by
    rcases hya with rfl | ⟨id, rfl⟩
    · obtain ⟨ad, ex⟩ := hvx; exact ⟨ad, 0, 0, ex⟩
    · obtain ⟨_, n, _, ad, cap, ex, _⟩ := sl_parts hvx; exact ⟨ad, n, cap, ex⟩
  have e1 := run_underlying hd w
  have e2 := run_sizeOf hinf w
  refine ⟨.slice ad 0 0, 0, ?_, ad, rfl⟩
  rw [World.drewN_zero]
  simp [execOp, ho, Instr.sliceAt, e1, ex, Instr.slice, Instr.sliceBounds, eh, em, run_bound0, e2]

/-- 'arr[:]'. -/
theorem calm_sliceArr {o : Oper} {t et : TypeId} {x : Operand} {id len : Nat} {kd : K} {xs : List (List Int)} {ei : TI} (hT : TyOK P ty) (ho : o.op = .slice t x none none none) (ht : tyOf ty t = some (.ar len et)) (he : ty et = some ei)
    (hx : evA sl x = .at (.ptr id 0 0)) (hob : hp[id]? = some ⟨true, .rows [kd] xs⟩) (hl : xs.length = len) (hlen : len ≤ 1073741824) : CalmOp P o sl hp (.at (.sl id)) [] := by
  have hd := tyOf_DR hT ht
  obtain ⟨inf, zv, hinf, hsz', hby, hzv, hcells⟩ := (hT et ei he).info
  have hS : shp hp id = .rows [kd] xs.length := by rw [shp_of hob]; rfl
  refine calm_value fun ι a w hops hhr => ?_
  have hvx := hops x (by simp [ho, Op.operands])
  rw [hx] at hvx
  obtain ⟨b, base, room, hι, ex, hin⟩ := hvx
  rw [hS] at ex
  simp only [offs, Nat.zero_mul, Nat.add_zero] at ex
  have e1 := run_underlying hd w
  have e2 := run_sizeOf hinf w
  -- room: the object's rows lie there
  have hroom : len ≤ room := by
    rcases hhr id _ hob (by rw [hι]; simp) with ⟨h1, _⟩ | ⟨b', base', room', blk, tt, fz, h1, h2, h3, h4, h5⟩
    · rw [hι] at h1; cases h1
    · rw [hι] at h1; cases h1
      obtain ⟨_, rfl, h6⟩ := h4 rfl
      rcases Nat.eq_zero_or_pos len with h0 | h0
      · omega
      · have hlt : len - 1 < xs.length := by omega
        obtain ⟨_, h7⟩ := h5 (len - 1) xs[len - 1] (List.getElem?_eq_getElem hlt)
        obtain ⟨c, h8, _⟩ := h7 0 kd rfl
        have := (Array.getElem?_eq_some_iff.1 h8).1
        simp at this
        omega
  refine ⟨.slice (some ⟨b, base, none⟩) len len, 0, ?_, [kd], xs.length, hS, .inr ⟨b, base, room, len, hι, by rw [hl], by omega, by simpa using hroom, by unfold maxLen; omega⟩⟩
  rw [World.drewN_zero]
  simp only [execOp, ho, Instr.sliceAt, Sem.run_bind, e1, Result.andThen_ok, ex, Option.map_none, Instr.sliceBounds, Sem.run_pure, e2, Instr.sureAddr]
  simp [Addr.add_at]

theorem calm_len {o : Oper} {x : Operand} {ya : A} {n : Nat} {t : TypeId} {d : TypeId} (hT : TyOK P ty) (ho : o.op = .call { callee := .builtin .len, args := #[x], argTypes := #[t] }) (ht : tyOf ty t = some (.sl d)) (hx : evA sl x = .at ya)
    (hn : (ya = .nil ∧ n = 0) ∨ (∃ id own ks xs, ya = .sl id ∧ hp[id]? = some ⟨own, .rows ks xs⟩ ∧ xs.length = n) ∨ ∃ id st cap, ya = .sub id st n cap) : CalmOp P o sl hp (.at (.int .i64 n)) [] := by
  have hd := tyOf_DR hT ht
  refine calm_value fun ι a w hops hhr => ?_
  have hvx := hops x (by simp [ho, Op.operands, Call.operands])
  rw [hx] at hvx
  obtain ⟨ad, cap, ex⟩ : ∃ ad cap, a.eval x = .slice ad n cap := by
    rcases hn with ⟨rfl, rfl⟩ | ⟨id, own, ks, xs, rfl, hob, rfl⟩ | ⟨id, st, cap, rfl⟩
    · obtain ⟨ad, ex⟩ := hvx; exact ⟨ad, 0, ex⟩
    · obtain ⟨ks', n', hS, ad, cap, ex, _⟩ := sl_parts hvx
      rw [shp_of hob] at hS
      simp only [shpOb, Shp.rows.injEq] at hS
      exact ⟨ad, cap, by rw [ex, hS.2]⟩
    · obtain ⟨_, _, _, _, ad, cp, ex, _⟩ := hvx; exact ⟨ad, cp, ex⟩
  have e1 := run_underlying hd w
  refine ⟨.int .i64 n, 0, ?_, rfl⟩
  rw [World.drewN_zero]
  simp [execOp, ho, resolve, invoke, builtin, Builtin.len_, e1, ex, goInt]

theorem calm_min {o : Oper} {x y : Operand} {j : IntKind} {m n : Int} {tys : Array TypeId} (ho : o.op = .call { callee := .builtin .min, args := #[x, y], argTypes := tys }) (hx : evA sl x = .at (.int j m)) (hy : evA sl y = .at (.int j n)) :
    CalmOp P o sl hp (.at (.int j (match decide (n < m) with | true => n | false => m))) [] := by
  refine calm_value fun ι a w hops hhr => ?_
  have hvx := hops x (by simp [ho, Op.operands, Call.operands])
  have hvy := hops y (by simp [ho, Op.operands, Call.operands])
  rw [hx] at hvx; rw [hy] at hvy
  have ex : a.eval x = .int j m := hvx
  have ey : a.eval y = .int j n := hvy
  refine ⟨_, 0, ?_, rfl⟩
  rw [World.drewN_zero]
  by_cases h : n < m <;> simp [execOp, ho, resolve, invoke, builtin, Builtin.min_, Builtin.min2, ex, ey, h]

theorem isNaN_mn {k : FloatKind} {x y : Nat} {c : Ordering} (h : k.format.order x y = some c) : isNaNb k x = false ∧ isNaNb k y = false := by
  constructor
  · cases hx : isNaNb k x with
    | false => rfl
    | true => rw [order_nan_left hx] at h; cases h
  · cases hy : isNaNb k y with
    | false => rfl
    | true => rw [order_nan_right hy] at h; cases h

theorem calm_max {o : Oper} {x y : Operand} {j : FloatKind} {m n : Int} {tys : Array TypeId} (ho : o.op = .call { callee := .builtin .max, args := #[x, y], argTypes := tys }) (hx : evA sl x = .at (.fl j m)) (hy : evA sl y = .at (.fl j n)) :
    CalmOp P o sl hp (.at (.fl j (real.mx j m n))) [] := by
  refine calm_value fun ι a w hops hhr => ?_
  have hvx := hops x (by simp [ho, Op.operands, Call.operands])
  have hvy := hops y (by simp [ho, Op.operands, Call.operands])
  rw [hx] at hvx; rw [hy] at hvy
  obtain ⟨p, ex, rfl⟩ := hvx
  obtain ⟨q, ey, rfl⟩ := hvy
  have e0 : ∀ (r : Value) (w' : World), (Builtin.max2 (.float j p) (.float j q)).run P w = .ok r w' → (execOp a.eval o).run P w = .ok (.value r) w' := by
    intro r w' hr
    simp [execOp, ho, resolve, invoke, builtin, Builtin.max_, ex, ey, hr]
  cases hc : j.format.order p q with
  | none =>
    have hch := run_choose (P := P) (.nanMinMax j true p q) w rfl
    refine ⟨.float j ((Question.nanMinMax j true p q).cut (w.tape w.drawn (.nanMinMax j true p q))), 1, e0 _ _ (by simp [Builtin.max2, hc, hch, World.drew_is_drewN]), _, rfl, ?_⟩
    rw [cf_of_nan (cut_nanMinMax ..)]
    simp [real, rMx, order_cf, hc]
  | some c =>
    obtain ⟨h1, h2⟩ := isNaN_mn hc
    simp only [cf_of_num h1, cf_of_num h2]
    cases c with
    | lt => exact ⟨.float j q, 0, e0 _ _ (by simp [Builtin.max2, hc, World.drewN_zero]), _, rfl, by simp [real, rMx, hc, cf_of_num h2]⟩
    | gt => exact ⟨.float j p, 0, e0 _ _ (by simp [Builtin.max2, hc, World.drewN_zero]), _, rfl, by simp [real, rMx, hc, cf_of_num h1]⟩
    | eq =>
      refine ⟨.float j (if (j.decode p).neg then q else p), 0, e0 _ _ (by simp [Builtin.max2, hc, World.drewN_zero]), _, rfl, ?_⟩
      simp only [real, rMx, Int.toNat_natCast, hc]
      by_cases hn : (j.decode p).neg = true
      · simp [hn, cf_of_num h2]
      · simp [hn, cf_of_num h1]
end Go.Fx
