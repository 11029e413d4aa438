/- Calm operations: make, append to nothing, addresses, parts, lengths. -/
import Derived.Test.YtpncophaaedjpaaXMem3
namespace Go.Fx
variable {P : Program} {ty : Nat → Option TI} {sl : List V} {hp : List Ob}

theorem tyOf_DR (hT : TyOK P ty) {t : TypeId} {d : D} (h : tyOf ty t = some d) : DR P t d := by
  unfold tyOf at h
  cases hi : ty t with
  | none => simp [hi] at h
  | some i => simp [hi] at h; rw [← h]; exact (hT t i hi).d

theorem getD_rep (n : Nat) (z : List Int) {e : Nat} (h : e < n) : (List.replicate n z)[e]? = some z := by rw [List.getElem?_replicate]; simp [h]

theorem calm_makeSlice {o : Oper} {t et : TypeId} {x y : Operand} {ei : TI} {ks : List K} {z : List Int} {kx ky : IntKind} {n : Int} (hT : TyOK P ty) (ho : o.op = .makeSlice t x y)
    (ht : tyOf ty t = some (.sl et)) (he : ty et = some ei) (hks : ei.ks = some ks) (hz : aInts ks ei.zero = some z) (hx : evA sl x = .at (.int kx n)) (hy : evA sl y = .at (.int ky n))
    (h0 : 0 ≤ n) (hn : n ≤ 1073741824) (hb : ei.bytes ≤ 1024) (_hs : 0 < ei.size) :
    CalmOp P o sl hp (.at (.sl hp.length)) [⟨true, .rows ks (List.replicate n.toNat z)⟩] := by
  have hd := tyOf_DR hT ht
  have hTe := hT et ei he
  obtain ⟨inf, zv, hinf, hsz, hby, hzv, hcells⟩ := hTe.info
  have hkl := hTe.ks ks hks
  refine calm_new fun ι a w hops hhr => ?_
  have hvx := hops x (by simp [ho, Op.operands])
  have hvy := hops y (by simp [ho, Op.operands])
  rw [hx] at hvx; rw [hy] at hvy
  have ex : a.eval x = .int kx n := hvx
  have ey : a.eval y = .int ky n := hvy
  have hr := run_make (P := P) w t et inf zv hd hinf hzv kx ky n n h0 (Int.le_refl _) (by
    rw [hby]
    have : (ei.bytes : Int) * n ≤ 1024 * 1073741824 := Int.mul_le_mul (by omega) hn h0 (by omega)
    omega) (by omega)
  obtain ⟨l1, l2, l3⟩ := aInts_KR (ι := ι) (S := shp hp) hz hcells.AR0
  have hzl : zv.cells.size = ei.size := by have h1 := hcells.length; have h2 := hTe.zl; simp at h1; omega
  have hbs : (madeCells zv.cells (n.toNat * inf.size)).size = n.toNat * ei.size := by rw [size_madeCells, hsz]
  refine ⟨.slice (some ⟨w.heap.size, 0, none⟩) n.toNat n.toNat, _, .on w.heap.size 0 (n.toNat * ei.size), by simp [execOp, ho, ex, ey, hr]; rfl, WX.alloc w _, ?_, fun ι' hag hon => ⟨?_, ?_⟩⟩
  · intro b base room h; cases h; exact Nat.le_refl _
  · refine ⟨ks, n.toNat, ?_, .inr ⟨_, _, _, n.toNat, hon, rfl, Nat.le_refl _, ?_, ?_⟩⟩
    · rw [shp_new]; simp [shpOb]
    · rw [hkl]; exact Nat.le_refl _
    · unfold maxLen; omega
  · refine .inr ⟨_, _, _, _, et, (0, 0), hon, heap_alloc_at w _, by omega, fun _ => ⟨rfl, rfl, hbs⟩, ?_⟩
    intro e row hrow
    have hen : e < n.toNat := by have := (List.getElem?_eq_some_iff.1 hrow).1; simpa using this
    rw [getD_rep _ _ hen] at hrow
    cases hrow
    refine ⟨l1, fun o kd hok => ?_⟩
    have hos : o < ks.length := (List.getElem?_eq_some_iff.1 hok).1
    obtain ⟨c, h1, h2⟩ := l3 o kd hok
    refine ⟨c, ?_, h2⟩
    have hidx := idx_lt hen hos
    have hmod : (e * ks.length + o) % ei.size = o := by rw [← hkl, Nat.add_comm, Nat.add_mul_mod_self_right, Nat.mod_eq_of_lt hos]
    have hlt : 0 + e * ks.length + o < n.toNat * inf.size := by rw [hsz, ← hkl]; omega
    have ho2 : o < zv.cells.size := by omega
    unfold madeCells
    simp only [Array.getElem?_map, Array.getElem?_range, hlt]
    simp only [Nat.zero_add, if_true, Option.map_some, hzl, hmod]
    simp at h1
    rw [← h1]
    simp [ho2]

/-! ### appending -/
def rowCells (blk : Array Value) (start n : Nat) : List Value := (blk.toList.drop start).take n

theorem run_append_empty (w : World) (t tyy e : TypeId) (i : TypeInfo) (z : Value) (ht : P.underlying t = some (.slice e)) (hi : P.info? e = some i) (hz : i.zero = some z) (base : Option Addr)
    (a : Addr) (n c : Nat) (news : List Value) (hl : news.length = n * i.size) (hnews : ∀ j v, news[j]? = some v → w.cell? (a.add j) = some v)
    (h0 : 0 < n) (h63 : (n : Int) ≤ 9223372036854775807) (hfit : Builtin.nextslicecap n 0 * i.bytes ≤ 281474976710656) :
    (Builtin.append_ #[t, t] tyy #[.slice base 0 0, .slice (some a) n c]).run P w =
      .ok (.slice (some ⟨w.heap.size, 0, none⟩) n (grownCap w n 0 e)) (w.drew.alloc (.cells (news.toArray ++ Builtin.zeroCells z.cells (grownCap w n 0 e - n)) e)) := by
  cases base with
  | none =>
    refine run_append_nil (P := P) w t tyy e i z ht hi hz a n c news hl hnews h0 h63 ?_
    rwa [nextslicecap_zero h0] at hfit
  | some b =>
    have := run_append_grow (P := P) w t tyy e i z ht hi hz b 0 0 [] (by simp) (by simp) a n c news hl hnews (by omega) (by omega) (by simpa using hfit)
    simpa using this

theorem run_append_none (w : World) (t tyy e : TypeId) (i : TypeInfo) (ht : P.underlying t = some (.slice e)) (hi : P.info? e = some i) (base : Option Addr) (x : Option Addr) (c : Nat) :
    (Builtin.append_ #[t, t] tyy #[.slice base 0 0, .slice x 0 c]).run P w = .ok (.slice base 0 0) w := by
  have e1 := run_underlying ht w
  have e2 := run_sizeOf hi w
  cases x <;> cases base <;> simp [Builtin.append_, e1, e2, Builtin.lenOf, Builtin.firstCells, loadCells, loadCellsFrom, storeCells]

/-- What a slice's value tells: its cells. -/
theorem slRows_sound {ι : Nat → Pl} {w : World} {y : A} {ys : List (List Int)} {c : Value} {ks : List K} (hhr : HR ι hp w) (hy : slRows hp y = some ys) (hc : AR ι (shp hp) y c)
    (hk : ys ≠ [] → ∀ id, (y = .sl id ∨ ∃ s n q, y = .sub id s n q) → obKs hp id = some ks) :
    ∃ a m, c = .slice a ys.length m ∧ (0 < ys.length → ∃ ad, a = some ad ∧ ∃ news : List Value, news.length = ys.length * ks.length ∧ (∀ j v, news[j]? = some v → w.cell? (ad.add j) = some v) ∧
      ∀ e row, ys[e]? = some row → row.length = ks.length ∧ ∀ o kd, ks[o]? = some kd → ∃ c, news[e * ks.length + o]? = some c ∧ KR kd (row.getD o 0) c) := by
  -- from 'st' rows on, 'n' rows, at block b
  have key : ∀ (b base st n : Nat) (blk : Array Value) (t : TypeId) (fz : Nat × Nat) (xs : List (List Int)), w.heap[b]? = some (.cells blk t fz) → RowsR blk base ks xs → st + n ≤ xs.length → ((xs.drop st).take n).length = n →
      ∃ news : List Value, news.length = n * ks.length ∧ (∀ j v, news[j]? = some v → w.cell? ((⟨b, base + st * ks.length, none⟩ : Addr).add j) = some v) ∧
      ∀ e row, ((xs.drop st).take n)[e]? = some row → row.length = ks.length ∧ ∀ o kd, ks[o]? = some kd → ∃ c, news[e * ks.length + o]? = some c ∧ KR kd (row.getD o 0) c := by
    intro b base st n blk t fz xs hb hrows hle _
    have hcell : ∀ j, j < n * ks.length → ∃ c, blk[base + st * ks.length + j]? = some c := by
      intro j hj
      have hk0 : 0 < ks.length := by
        rcases Nat.eq_zero_or_pos ks.length with h | h
        · rw [h] at hj; simp at hj
        · exact h
      have hq : j / ks.length < n := Nat.div_lt_of_lt_mul (by rw [Nat.mul_comm]; exact hj)
      have hm : j % ks.length < ks.length := Nat.mod_lt _ hk0
      have hx : st + j / ks.length < xs.length := by omega
      obtain ⟨_, h2⟩ := hrows (st + j / ks.length) xs[st + j / ks.length] (List.getElem?_eq_getElem hx)
      obtain ⟨c, h3, _⟩ := h2 (j % ks.length) ks[j % ks.length] (List.getElem?_eq_getElem hm)
      refine ⟨c, ?_⟩
      rw [← h3]
      congr 1
      rw [Nat.add_mul]
      have := Nat.div_add_mod j ks.length
      rw [Nat.mul_comm] at this
      omega
    obtain ⟨news, hl, hn⟩ := list_of (fun j c => blk[base + st * ks.length + j]? = some c) (n * ks.length) hcell
    refine ⟨news, hl, fun j v hj => ?_, fun e row he => ?_⟩
    · rw [Addr.add_at, cell_at hb]; exact hn j v hj
    · rw [take_drop_get] at he
      split at he
      · rename_i hen
        obtain ⟨h1, h2⟩ := hrows (st + e) row he
        refine ⟨h1, fun o kd ho => ?_⟩
        obtain ⟨c, h3, h4⟩ := h2 o kd ho
        have hos : o < ks.length := (List.getElem?_eq_some_iff.1 ho).1
        have hidx := idx_lt hen hos
        have hg : news[e * ks.length + o]? = some news[e * ks.length + o] := List.getElem?_eq_getElem (by omega)
        have := hn _ _ hg
        refine ⟨c, ?_, h4⟩
        rw [hg, ← this, ← h3]
        congr 1
        rw [Nat.add_mul]; omega
      · cases he
  cases y with
  | nil =>
    simp [slRows] at hy
    subst hy
    obtain ⟨a, rfl⟩ := hc
    exact ⟨a, 0, rfl, fun h => by simp at h⟩
  | sl id =>
    simp only [slRows] at hy
    cases ho : hp[id]? with
    | none => simp [ho] at hy
    | some ob =>
      obtain ⟨own, oc⟩ := ob
      cases oc with
      | dead => simp [ho] at hy
      | box cs => simp [ho] at hy
      | rows ks' xs =>
        simp [ho] at hy
        subst hy
        obtain ⟨ks2, n, h1, h2⟩ := hc
        rw [shp_of ho] at h1
        simp only [shpOb, Shp.rows.injEq] at h1
        obtain ⟨rfl, rfl⟩ := h1
        rcases h2 with ⟨_, h3, a, rfl⟩ | ⟨b, base, room, cap, hι, rfl, hle, hroom, hml⟩
        · exact ⟨a, 0, by rw [h3], fun h => by omega⟩
        · refine ⟨_, cap, rfl, fun h => ⟨_, rfl, ?_⟩⟩
          have hks : obKs hp id = some ks := hk (by intro h'; rw [h'] at h; simp at h) id (.inl rfl)
          simp only [obKs, ho, Option.some.injEq] at hks
          subst hks
          have hob := hhr id _ ho (by rw [hι]; simp)
          rcases hob with ⟨h4, _⟩ | ⟨b', base', room', blk, t, fz, h4, h5, h6, _, h7⟩
          · rw [hι] at h4; cases h4
          · rw [hι] at h4; cases h4
            obtain ⟨news, n1, n2, n3⟩ := key b base 0 xs.length blk t fz xs h5 h7 (by omega) (by simp)
            simp only [Nat.zero_mul, Nat.add_zero, List.drop_zero, List.take_length] at n2 n3
            exact ⟨news, n1, n2, n3⟩
  | sub id st len cap =>
    simp only [slRows] at hy
    cases ho : hp[id]? with
    | none => simp [ho] at hy
    | some ob =>
      obtain ⟨own, oc⟩ := ob
      cases oc with
      | dead => simp [ho] at hy
      | box cs => simp [ho] at hy
      | rows ks' xs =>
        simp [ho] at hy
        subst hy
        obtain ⟨ks2, n, h1, hle, a, cp, rfl, _, _, hlc, h2⟩ := hc
        rw [shp_of ho] at h1
        simp only [shpOb, Shp.rows.injEq] at h1
        obtain ⟨rfl, rfl⟩ := h1
        have hlen : ((xs.drop st).take len).length = len := by simp; omega
        refine ⟨a, cp, by rw [hlen], fun h => ?_⟩
        rw [hlen] at h
        rcases h2 with h2 | ⟨b, base, room, hι, rfl, _⟩
        · omega
        · refine ⟨_, rfl, ?_⟩
          have hks : obKs hp id = some ks := hk (by intro h'; rw [h'] at hlen; simp at hlen; omega) id (.inr ⟨_, _, _, rfl⟩)
          simp only [obKs, ho, Option.some.injEq] at hks
          subst hks
          have hob := hhr id _ ho (by rw [hι]; simp)
          rcases hob with ⟨h4, _⟩ | ⟨b', base', room', blk, t, fz, h4, h5, h6, _, h7⟩
          · rw [hι] at h4; cases h4
          · rw [hι] at h4; cases h4
            rw [hlen]
            exact key b base st len blk t fz xs h5 h7 hle hlen
  | undef => simp [slRows] at hy
  | void => simp [slRows] at hy
  | bool b => simp [slRows] at hy
  | int k n => simp [slRows] at hy
  | fl k x => simp [slRows] at hy
  | raw k x => simp [slRows] at hy
  | ptr i e o => simp [slRows] at hy
  | fn f c => simp [slRows] at hy
end Go.Fx
