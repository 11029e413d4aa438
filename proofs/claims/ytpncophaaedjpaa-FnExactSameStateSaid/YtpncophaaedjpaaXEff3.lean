/- Append to a row of one's own. -/
import Derived.Test.YtpncophaaedjpaaXEff2
namespace Go.Fx
variable {P : Program} {ty : Nat → Option TI} {sl : List V} {hp : List Ob}

theorem run_append_in (w : World) (t tyy e : TypeId) (i : TypeInfo) (ht : P.underlying t = some (.slice e)) (hi : P.info? e = some i)
    (g sLen sCap : Nat) (cur : Array Value) (bt : TypeId) (hg : w.heap[g]? = some (.cells cur bt (0, 0)))
    (a : Option Addr) (m c : Nat) (news : List Value) (hl : news.length = m * i.size) (hnews : 0 < m → ∃ ad, a = some ad ∧ ∀ j u, news[j]? = some u → w.cell? (ad.add j) = some u) (h1 : ∀ u ∈ news, u.oneCell' = true)
    (hroom : sLen + m ≤ sCap) (hfit : sLen * i.size + news.length ≤ cur.size) :
    (Builtin.append_ #[t, t] tyy #[.slice (some ⟨g, 0, none⟩) sLen sCap, .slice a m c]).run P w =
      .ok (.slice (some ⟨g, 0, none⟩) (sLen + m) sCap) (w.setRow g (laid cur (sLen * i.size) news)) := by
  have hst := storeCells_run (P := P) hg hfit h1
  rcases Nat.eq_zero_or_pos m with h0 | h0
  · subst h0
    have hn : news = [] := List.eq_nil_of_length_eq_zero (by simpa using hl)
    subst hn
    have e0 : storeCells ⟨g, sLen * i.size, none⟩ [] 0 = pure () := rfl
    have hid : w.setRow g (laid cur (sLen * i.size) []) = w := by
      have := hst
      rw [e0] at this
      simpa using this.symm
    rw [hid]
    cases a <;> simp [Builtin.append_, run_underlying ht, sizeOf, typeInfo, hi, Builtin.lenOf, Builtin.firstCells, loadCells, loadCellsFrom, storeCells, Nat.add_zero] <;> omega
  · obtain ⟨ad, rfl, hc⟩ := hnews h0
    have hf := run_firstCells_some (P := P) w i.size m ad m c news hl hc
    simp [Builtin.append_, run_underlying ht, sizeOf, typeInfo, hi, Builtin.lenOf, hroom, hf, Addr.add_at, hst]

theorem KR.one {k : K} {n : Int} {c : Value} (h : KR k n c) : c.oneCell' = true := by
  cases k with
  | f k => obtain ⟨b, rfl, _⟩ := h; rfl
  | i k => obtain rfl := h; rfl
  | b => obtain ⟨b, rfl, _⟩ := h; rfl

/-- Rows as a list of cells. -/
def RowsL (cs : List Value) (ks : List K) (xs : List (List Int)) : Prop :=
  ∀ e row, xs[e]? = some row → row.length = ks.length ∧ ∀ o kd, ks[o]? = some kd → ∃ c, cs[e * ks.length + o]? = some c ∧ KR kd (row.getD o 0) c

theorem RowsL.append {cs ds : List Value} {ks : List K} {xs ys : List (List Int)} (hx : RowsL cs ks xs) (hy : RowsL ds ks ys) (hl : cs.length = xs.length * ks.length) : RowsL (cs ++ ds) ks (xs ++ ys) := by
  intro e row he
  rcases Nat.lt_or_ge e xs.length with h | h
  · rw [List.getElem?_append_left h] at he
    obtain ⟨h1, h2⟩ := hx e row he
    refine ⟨h1, fun o kd ho => ?_⟩
    obtain ⟨c, h3, h4⟩ := h2 o kd ho
    refine ⟨c, ?_, h4⟩
    rw [List.getElem?_append_left (List.getElem?_eq_some_iff.1 h3).1]; exact h3
  · rw [List.getElem?_append_right h] at he
    obtain ⟨h1, h2⟩ := hy _ row he
    refine ⟨h1, fun o kd ho => ?_⟩
    obtain ⟨c, h3, h4⟩ := h2 o kd ho
    refine ⟨c, ?_, h4⟩
    have he : e * ks.length + o = cs.length + ((e - xs.length) * ks.length + o) := by
      rw [hl, ← Nat.add_assoc, ← Nat.add_mul]; congr 2; omega
    rw [he, List.getElem?_append_right (by omega)]
    simpa using h3

theorem RowsL.all {cs : List Value} {ks : List K} {xs : List (List Int)} (h : RowsL cs ks xs) (hl : cs.length = xs.length * ks.length) : ∀ u ∈ cs, u.oneCell' = true := by
  intro u hu
  obtain ⟨j, hj, rfl⟩ := List.mem_iff_getElem.1 hu
  have hk0 : 0 < ks.length := by
    rcases Nat.eq_zero_or_pos ks.length with h0 | h0
    · rw [hl, h0] at hj; simp at hj
    · exact h0
  have hq : j / ks.length < xs.length := Nat.div_lt_of_lt_mul (by rw [Nat.mul_comm, ← hl]; exact hj)
  have hm : j % ks.length < ks.length := Nat.mod_lt _ hk0
  obtain ⟨_, h2⟩ := h (j / ks.length) _ (List.getElem?_eq_getElem hq)
  obtain ⟨c, h3, h4⟩ := h2 (j % ks.length) _ (List.getElem?_eq_getElem hm)
  have : j / ks.length * ks.length + j % ks.length = j := by have := Nat.div_add_mod j ks.length; rw [Nat.mul_comm] at this; exact this
  rw [this, List.getElem?_eq_getElem hj] at h3
  cases h3
  exact h4.one

theorem RowsL.of_block {blk : Array Value} {ks : List K} {xs : List (List Int)} (h : RowsR blk 0 ks xs) : RowsL blk.toList ks xs := by
  intro e row he
  obtain ⟨h1, h2⟩ := h e row he
  refine ⟨h1, fun o kd ho => ?_⟩
  obtain ⟨c, h3, h4⟩ := h2 o kd ho
  exact ⟨c, by rw [Nat.zero_add] at h3; simpa using h3, h4⟩

theorem RowsL.block {blk : Array Value} {ks : List K} {xs : List (List Int)} (h : RowsL blk.toList ks xs) : RowsR blk 0 ks xs := by
  intro e row he
  obtain ⟨h1, h2⟩ := h e row he
  refine ⟨h1, fun o kd ho => ?_⟩
  obtain ⟨c, h3, h4⟩ := h2 o kd ho
  exact ⟨c, by rw [Nat.zero_add]; simpa using h3, h4⟩

theorem RowsL.take {cs : List Value} {ks : List K} {xs : List (List Int)} (h : RowsL cs ks xs) : RowsL (cs.take (xs.length * ks.length)) ks xs := by
  intro e row he
  obtain ⟨h1, h2⟩ := h e row he
  have hen : e < xs.length := (List.getElem?_eq_some_iff.1 he).1
  refine ⟨h1, fun o kd ho => ?_⟩
  obtain ⟨c, h3, h4⟩ := h2 o kd ho
  refine ⟨c, ?_, h4⟩
  rw [List.getElem?_take, if_pos (idx_lt hen (List.getElem?_eq_some_iff.1 ho).1)]
  exact h3

theorem RowsL.more {cs ds : List Value} {ks : List K} {xs : List (List Int)} (h : RowsL cs ks xs) : RowsL (cs ++ ds) ks xs := by
  intro e row he
  obtain ⟨h1, h2⟩ := h e row he
  refine ⟨h1, fun o kd ho => ?_⟩
  obtain ⟨c, h3, h4⟩ := h2 o kd ho
  refine ⟨c, ?_, h4⟩
  rw [List.getElem?_append_left (List.getElem?_eq_some_iff.1 h3).1]; exact h3

theorem RowsL.len {blk : Array Value} {ks : List K} {xs : List (List Int)} (h : RowsL blk.toList ks xs) (hk : 0 < ks.length) : xs.length * ks.length ≤ blk.size := by
  rcases Nat.eq_zero_or_pos xs.length with h0 | h0
  · simp [h0]
  · obtain ⟨_, h2⟩ := h (xs.length - 1) _ (List.getElem?_eq_getElem (by omega))
    obtain ⟨c, h3, _⟩ := h2 (ks.length - 1) _ (List.getElem?_eq_getElem (by omega))
    have := (List.getElem?_eq_some_iff.1 h3).1
    simp at this
    have e : xs.length * ks.length = (xs.length - 1) * ks.length + ks.length := by
      rw [← Nat.succ_mul]; congr 1; omega
    omega

/-- What append does to a row of one's own. -/
theorem own_append {ι : Nat → Pl} {w : World} {id : Nat} {t tyy et : TypeId} {ei : TI} {ks : List K} {xs ys : List (List Int)} {c cy : Value} {ya : A} (hT : TyOK P ty) (ht : tyOf ty t = some (.sl et)) (he : ty et = some ei) (hks : ei.ks = some ks)
    (hhr : HR ι hp w) (hob : hp[id]? = some ⟨true, .rows ks xs⟩) (hc : AR ι (shp hp) (.sl id) c) (hys : slRows hp ya = some ys) (hcy : AR ι (shp hp) ya cy) (hfit : ksFit hp ks ya = true)
    (hn : xs.length + ys.length ≤ 1073741824) (hb : ei.bytes ≤ 1024) (h0 : 0 < ei.size) :
    ∃ v' w' pl, (Builtin.append_ #[t, t] tyy #[c, cy]).run P w = .ok v' w' ∧ w'.os = w.os ∧ w'.tape = w.tape ∧ w'.output = w.output ∧ w.heap.size ≤ w'.heap.size ∧
      (∀ k, k < w.heap.size → (∀ base room, ι id ≠ .on k base room) → w'.heap[k]? = w.heap[k]?) ∧
      (∀ b base room, pl = .on b base room → w.heap.size ≤ b ∨ ∃ base' room', ι id = .on b base' room') ∧
      ∀ ι' S' tgt, ι' tgt = pl → S' tgt = .rows ks (xs ++ ys).length → AR ι' S' (.sl tgt) v' ∧ ObR ι' S' w' tgt ⟨true, .rows ks (xs ++ ys)⟩ := by
  have hd := tyOf_DR hT ht
  have hTe := hT et ei he
  obtain ⟨inf, zv, hinf, hsz, hby, hzv, hcells⟩ := hTe.info
  have hkl := hTe.ks ks hks
  have hzl : zv.cells.size = ei.size := by have h1 := hcells.length; have h2 := hTe.zl; simp at h1; omega
  obtain ⟨ay, m, rfl, hcase⟩ := slRows_sound hhr hys hcy fun _ => ksFit_ks hfit
  have hnews : ∃ news : List Value, news.length = ys.length * ks.length ∧ RowsL news ks ys ∧ (0 < ys.length → ∃ ad, ay = some ad ∧ ∀ j u, news[j]? = some u → w.cell? (ad.add j) = some u) := by
    rcases Nat.eq_zero_or_pos ys.length with hy0 | hy0
    · have : ys = [] := List.eq_nil_of_length_eq_zero hy0
      subst this
      exact ⟨[], by simp, fun e row he => by simp at he, fun h => by simp at h⟩
    · obtain ⟨ad, h1, news, h2, h3, h4⟩ := hcase hy0
      exact ⟨news, h2, h4, fun _ => ⟨ad, h1, h3⟩⟩
  obtain ⟨news, n1, n2, n3⟩ := hnews
  have hone := n2.all n1
  have hbytes : (xs.length + ys.length) * ei.bytes ≤ 140737488355328 := by
    have : (xs.length + ys.length) * ei.bytes ≤ 1073741824 * 1024 := Nat.mul_le_mul hn hb
    omega
  have hml : xs.length + ys.length ≤ maxLen := by unfold maxLen; omega
  -- a new block
  have grown : ∀ (olds : List Value) (old : Nat), olds.length = xs.length * ks.length → RowsL olds ks xs → ∀ v',
      v' = .slice (some ⟨w.heap.size, 0, none⟩) (xs.length + ys.length) (grownCap w (xs.length + ys.length) old et) → ∀ ι' S' tgt,
      ι' tgt = .on w.heap.size 0 (grownCap w (xs.length + ys.length) old et * ei.size) → S' tgt = .rows ks (xs ++ ys).length → AR ι' S' (.sl tgt) v' ∧
        ObR ι' S' (w.drew.alloc (.cells (olds.toArray ++ news.toArray ++ Builtin.zeroCells zv.cells (grownCap w (xs.length + ys.length) old et - (xs.length + ys.length))) et)) tgt ⟨true, .rows ks (xs ++ ys)⟩ := by
    intro olds old hol hrl v' hv' ι' S' tgt hι hS
    have hcap := grownCap_ge w (xs.length + ys.length) old et
    have hcm := grownCap_le_maxLen w (xs.length + ys.length) old et hml
    have hbs : (olds.toArray ++ news.toArray ++ Builtin.zeroCells zv.cells (grownCap w (xs.length + ys.length) old et - (xs.length + ys.length))).size = grownCap w (xs.length + ys.length) old et * ei.size := by
      simp only [Array.size_append, List.size_toArray, size_zeroCells, hzl, n1, hol, hkl, ← Nat.add_mul]
      congr 1; omega
    subst hv'
    refine ⟨⟨ks, _, hS, .inr ⟨_, _, _, _, hι, ?_, ?_, ?_, hcm⟩⟩, .inr ⟨_, _, _, _, et, (0, 0), hι, heap_alloc_at w.drew _, by omega, fun _ => ⟨rfl, rfl, hbs⟩, RowsL.block ?_⟩⟩
    · simp
    · simpa using hcap
    · rw [hkl]; exact Nat.le_refl _
    · simp only [Array.toList_append]
      exact (hrl.append n2 hol).more
  have hXl : (xs ++ ys).length = xs.length + ys.length := by simp
  obtain ⟨ks', n, hS, hcs⟩ := hc
  rw [shp_of hob] at hS
  simp only [shpOb, Shp.rows.injEq] at hS
  obtain ⟨rfl, rfl⟩ := hS
  rcases hcs with ⟨hι, hx0, ba, rfl⟩ | ⟨b, base, room, cap, hι, rfl, hle, hroom, hcapm⟩
  · have hx : xs = [] := List.eq_nil_of_length_eq_zero hx0
    subst hx
    rcases Nat.eq_zero_or_pos ys.length with hy0 | hy0
    · have hy : ys = [] := List.eq_nil_of_length_eq_zero hy0
      subst hy
      have hr := run_append_none (P := P) w t tyy et inf hd hinf ba ay m
      refine ⟨.slice ba 0 0, w, .empty, hr, rfl, rfl, rfl, Nat.le_refl _, fun _ _ _ => rfl, (fun _ _ _ h => by cases h), fun ι' S' tgt h1 h2 => ⟨⟨ks, 0, h2, .inl ⟨h1, rfl, ba, rfl⟩⟩, .inl ⟨h1, rfl⟩⟩⟩
    · obtain ⟨ad, rfl, n4⟩ := n3 hy0
      have hfits := growslice_fits (need := ys.length) (old := 0) (bytes := ei.bytes) hy0 (by simpa using hbytes)
      have hr := run_append_empty (P := P) w t tyy et inf zv hd hinf hzv ba ad ys.length m news (by rw [n1, hsz, hkl]) n4 hy0 (by simp at hn; omega) (by rw [hby]; exact hfits)
      refine ⟨_, _, .on w.heap.size 0 (grownCap w ys.length 0 et * ei.size), hr, rfl, rfl, rfl, by simp, fun k hk _ => heap_alloc_old w.drew _ k hk, fun _ _ _ h => by cases h; exact .inl (Nat.le_refl _), ?_⟩
      have := grown [] 0 (by simp) (fun e row he => by simp at he)
      simpa using this
  · have hobr := hhr id _ hob (by rw [hι]; simp)
    rcases hobr with ⟨h1, _⟩ | ⟨b', base', room', blk, bt, fz, h1, h2, h3, h4, h5⟩
    · rw [hι] at h1; cases h1
    · rw [hι] at h1; cases h1
      obtain ⟨rfl, rfl, hbr⟩ := h4 rfl
      have hL := RowsL.of_block h5
      have hxs : xs.length * ks.length ≤ blk.size := hL.len (by omega)
      by_cases hfits : xs.length + ys.length ≤ cap
      · have hfit2 : xs.length * inf.size + news.length ≤ blk.size := by
          rw [n1, hsz, ← hkl, ← Nat.add_mul, hbr]
          exact Nat.le_trans (Nat.mul_le_mul_right _ hfits) hroom
        have hr := run_append_in (P := P) w t tyy et inf hd hinf b xs.length cap blk bt h2 ay ys.length m news (by rw [n1, hsz, hkl]) n3 hone hfits hfit2
        refine ⟨_, _, .on b 0 room, hr, rfl, rfl, rfl, by simp, fun k hk hne => setRow_other w b k _ (fun e => hne 0 room (by rw [e]; exact hι)), fun _ _ _ h => by cases h; exact .inr ⟨_, _, hι⟩, fun ι' S' tgt g1 g2 => ⟨⟨ks, _, g2, .inr ⟨b, 0, room, cap, g1, by rw [hXl], by rw [hXl]; exact hfits, hroom, hcapm⟩⟩, ?_⟩⟩
        refine .inr ⟨b, 0, room, _, bt, (0, 0), g1, setRow_heap w b blk _ bt (0, 0) h2, by rw [laid_size hfit2]; exact h3, fun _ => ⟨rfl, rfl, by rw [laid_size hfit2]; exact hbr⟩, RowsL.block ?_⟩
        simp only [laid]
        rw [hsz, ← hkl]
        exact (hL.take.append n2 (by simp; omega)).more
      · have hy0 : 0 < ys.length := by omega
        obtain ⟨ad, rfl, n4⟩ := n3 hy0
        have hol : (blk.toList.take (xs.length * ks.length)).length = xs.length * inf.size := by simp; rw [hsz, ← hkl]; omega
        have hfs := growslice_fits (need := xs.length + ys.length) (old := cap) (bytes := ei.bytes) (by omega) hbytes
        have hr := run_append_grow (P := P) w t tyy et inf zv hd hinf hzv ⟨b, 0, none⟩ xs.length cap (blk.toList.take (xs.length * ks.length)) hol (by
            intro j v hj
            rw [Addr.add_at, cell_at h2]
            rw [List.getElem?_take] at hj
            split at hj
            · simpa using hj
            · cases hj) ad ys.length m news (by rw [n1, hsz, hkl]) n4 (by omega) (by omega) (by rw [hby]; exact hfs)
        refine ⟨_, _, .on w.heap.size 0 (grownCap w (xs.length + ys.length) cap et * ei.size), hr, rfl, rfl, rfl, by simp, fun k hk _ => heap_alloc_old w.drew _ k hk, fun _ _ _ h => by cases h; exact .inl (Nat.le_refl _), ?_⟩
        exact grown _ cap (by simp; omega) hL.take _ rfl
end Go.Fx
