import Derived.Test.YtmcfcijddhgphaaXr4g2
namespace Go.Fx
set_option maxRecDepth 100000
theorem range_at {a b : Nat} {p : Nat → Bool} (h : (List.range' a b).all p = true) {j : Nat} (h1 : a ≤ j) (h2 : j < a + b) : p j = true := by
  rw [List.all_eq_true] at h
  exact h j (List.mem_range'_1.2 ⟨h1, h2⟩)
theorem all_range {n : Nat} {p : Nat → Bool} (h : (List.range n).all p = true) {j : Nat} (hj : j < n) : p j = true := by
  rw [List.all_eq_true] at h
  exact h j (List.mem_range.2 hj)

theorem A_at {i r : Nat} (hi : i < 15) (hr : r < 33) : Pure.impl_IsFinite real (fr r) = true ∧ ∀ m, m < 14 → goodA (itG (fr r) m (fx i)) = true := by
  have h : (Pure.impl_IsFinite real (fr r) && runA (fr r) 13 (fx i)) = true := by
    rcases Nat.lt_or_ge i 4 with h1 | h1
    · exact all_range (range_at tabA1 (Nat.zero_le _) (by omega)) hr
    · rcases Nat.lt_or_ge i 8 with h2 | h2
      · exact all_range (range_at tabA2 h1 (by omega)) hr
      · rcases Nat.lt_or_ge i 12 with h3 | h3
        · exact all_range (range_at tabA3 h2 (by omega)) hr
        · exact all_range (range_at tabA4 h3 (by omega)) hr
  rw [Bool.and_eq_true] at h
  exact ⟨h.1, fun m hm => runA_at h.2 m (by omega)⟩

theorem B_at {i t : Nat} (hi : i < 15) (ht : t < 10) : (∀ m, m < 100 → Pure.impl_IsFinite real (itG (ft t) m (fx i)) = true) ∧ endB t (itG (ft t) 100 (fx i)) = true := by
  have h : runB (ft t) (ends t) 100 (fx i) = true := by
    rcases Nat.lt_or_ge t 2 with h1 | h1
    · exact all_range (range_at tabB1 (Nat.zero_le _) (by omega)) hi
    · rcases Nat.lt_or_ge t 4 with h2 | h2
      · exact all_range (range_at tabB2 h1 (by omega)) hi
      · rcases Nat.lt_or_ge t 6 with h3 | h3
        · exact all_range (range_at tabB3 h2 (by omega)) hi
        · rcases Nat.lt_or_ge t 8 with h4 | h4
          · exact all_range (range_at tabB4 h3 (by omega)) hi
          · exact all_range (range_at tabB5 h4 (by omega)) hi
  obtain ⟨h1, h2⟩ := runB_at h
  refine ⟨h1, ?_⟩
  have he : (ends t).all (fun o => endB t o) = true := by
    rcases Nat.lt_or_ge t 5 with h3 | h3
    · exact range_at tabE1 (Nat.zero_le _) (by omega)
    · exact range_at tabE2 h3 (by omega)
  rw [List.all_eq_true] at he
  exact he _ h2

theorem cyc_at {r e : Int} (h : stepG r (stepG r e) = e) : ∀ n : Nat, (n % 2 = 0 → itG r n e = e) ∧ (n % 2 = 1 → itG r n e = stepG r e)
  | 0 => ⟨fun _ => rfl, fun hh => by omega⟩
  | 1 => ⟨fun hh => by omega, fun _ => rfl⟩
  | n + 2 => by
    have hh : itG r (n + 2) e = itG r n e := by
      show itG r n (stepG r (stepG r e)) = itG r n e
      rw [h]
    obtain ⟨h1, h2⟩ := cyc_at h n
    rw [hh]
    exact ⟨fun h3 => h1 (by omega), fun h3 => h2 (by omega)⟩

theorem exp_loop {r e : Int} (y1 : Int) (l : List (List Int)) (hl : l.length = 20) (hg : ∀ j, j < 20 → l.getD j [] = [itG r j e]) (h : stepG r (stepG r e) = e) (o1 : Pure.impl_LogNumber_ok real (logG r e) = true) (o2 : Pure.impl_LogNumber_ok real (logG r (stepG r e)) = true) :
    ∀ (d k n : Nat) (acc : Int), k + d = 20 → d < n → Pure.impl_GrowExponent_L0 real r y1 (Int.ofNat 20) l n acc k = (true, sum2 d acc (Pure.impl_LogNumber real (logG r (itG r k e))) (Pure.impl_LogNumber real (logG r (itG r (k + 1) e)))) := by
  intro d
  induction d with
  | zero =>
    intro k n acc hk hn
    obtain ⟨n, rfl⟩ : ∃ m, n = m + 1 := ⟨n - 1, by omega⟩
    unfold Pure.impl_GrowExponent_L0
    rw [dec_ge (show 20 ≤ k by omega)]
    rfl
  | succ d ih =>
    intro k n acc hk hn
    obtain ⟨n, rfl⟩ : ∃ m, n = m + 1 := ⟨n - 1, by omega⟩
    have hk' : k < 20 := by omega
    have e0 : ∀ z : Int, List.getD [z] 0 0 = z := fun _ => rfl
    have ok : Pure.impl_LogNumber_ok real (logG r (itG r k e)) = true := by
      obtain ⟨c1, c2⟩ := cyc_at h k
      rcases Nat.mod_two_eq_zero_or_one k with h0 | h0
      · rw [c1 h0]; exact o1
      · rw [c2 h0]; exact o2
    have per : itG r (k + 1 + 1) e = itG r k e := by
      show itG r k (stepG r (stepG r e)) = itG r k e
      rw [h]
    unfold Pure.impl_GrowExponent_L0
    rw [dec_lt hk', dec_nn, dec_lt (show k < l.length by omega), Int.toNat_natCast, hg k hk', e0, wrap_succ (by omega)]
    have eg : real.abs .f32 (real.bin .mul .f32 r (real.bin .sub .f32 1065353216 (real.bin .mul .f32 1073741824 (itG r k e)))) = logG r (itG r k e) := rfl
    rw [eg, ok]
    simp only [cond_true]
    rw [ih (k + 1) n _ (by omega) (by omega), per]
    rfl

set_option maxHeartbeats 2000000 in
theorem law_FnGrowth (x0 x1 : List (List Int)) (h0 : RowsOK BU x0) (h1 : RowsOK BU x1) : Pure.laws_FnGrowth_ok real x0 x1 = true ∧ Pure.laws_FnGrowth real x0 x1 = true := by
  unfold Pure.laws_FnGrowth_ok Pure.laws_FnGrowth
  cases Pure.laws_b10Long real x0 x1 with
  | true => exact ⟨rfl, rfl⟩
  | false =>
    obtain ⟨i, hi, ei, oi⟩ := b10At_is h0 0 15 (by omega) (by omega) (by omega)
    obtain ⟨r, hr, er, or_⟩ := b10At_is h0 1 33 (by omega) (by omega) (by omega)
    obtain ⟨s, hs, es, os⟩ := b10At_is h1 0 6 (by omega) (by omega) (by omega)
    obtain ⟨m, hm, em, om⟩ := b10At_is h1 1 9 (by omega) (by omega) (by omega)
    obtain ⟨t, ht, et, ot⟩ := b10At_is h1 2 10 (by omega) (by omega) (by omega)
    have z0 : ((0 : Nat) : Int) = 0 := rfl
    have z1 : ((1 : Nat) : Int) = 1 := rfl
    have z2 : ((2 : Nat) : Int) = 2 := rfl
    have n15 : ((15 : Nat) : Int) = 15 := rfl
    have n33 : ((33 : Nat) : Int) = 33 := rfl
    have n6 : ((6 : Nat) : Int) = 6 := rfl
    have n9 : ((9 : Nat) : Int) = 9 := rfl
    have n10 : ((10 : Nat) : Int) = 10 := rfl
    rw [z0, n15] at ei oi
    rw [z1, n33] at er or_
    rw [z0, n6] at es os
    rw [z1, n9] at em om
    rw [z2, n10] at et ot
    have wi : IntKind.wrap .i64 (1 + (i : Int)) = 1 + (i : Int) := wrap64 (by omega) (by omega)
    have wm : IntKind.wrap .i64 (1 + (m : Int)) = ((m + 1 : Nat) : Int) := by rw [wrap64 (by omega) (by omega)]; omega
    have wt : IntKind.wrap .i64 (12 + (t : Int)) = 12 + (t : Int) := wrap64 (by omega) (by omega)
    rw [ei, er, es, em, et, oi, or_, os, om, ot, wi, wm, wt]
    have qx : real.bin .quo .f32 (real.ofInt .f32 (1 + (i : Int))) 1098907648 = fx i := rfl
    have qr : real.bin .quo .f32 (real.ofInt .f32 (r : Int)) 1090519040 = fr r := rfl
    have qt : real.bin .quo .f32 (real.ofInt .f32 (12 + (t : Int))) 1090519040 = ft t := rfl
    rw [qx, qr, qt]
    obtain ⟨a1, a2⟩ := A_at hi hr
    obtain ⟨b1, b2⟩ := B_at hi ht
    -- the orbit that is told
    obtain ⟨g1, g2, g3, g4⟩ := orbit_is (x := fx i) a1 s (m + 1) (by omega) (by omega) (by omega) (fun k hk => (goodA_is (a2 k (by omega))).1)
    have hloop := law_loop (x := fx i) (fx i) x0 x1 (Pure.impl_GrowOrbit_1 real (fx i) (fr r) s ((m + 1 : Nat) : Int)) a1 s (m + 1) (by omega) (fun k hk => a2 k (by omega)) g3 g4 (m + 1) 0 (m + 2) (by omega) (by omega)
    rw [z0] at hloop
    have gz := g4 0 (by omega)
    generalize hL : Pure.impl_GrowOrbit_1 real (fx i) (fr r) s ((m + 1 : Nat) : Int) = L at *
    have elen : Nat.succ (L.length + 0) = m + 2 := by rw [g3]
    have eint : Int.ofNat L.length = Int.ofNat (m + 1) := by rw [g3]
    rw [elen, eint]
    rw [g1, g2, hloop]
    have cne : (Int.ofNat (m + 1) != ((m + 1 : Nat) : Int)) = false := by
      show (((m + 1 : Nat) : Int) != ((m + 1 : Nat) : Int)) = false
      simp
    have cpos : decide ((0 : Int) < Int.ofNat (m + 1)) = true := decide_eq_true (by show (0 : Int) < ((m + 1 : Nat) : Int); omega)
    rw [cne, cpos]
    -- the mild one
    generalize he : itG (ft t) 100 (fx i) = e at *
    unfold endB at b2
    simp only [Bool.and_eq_true, decide_eq_true_eq] at b2
    obtain ⟨⟨⟨⟨⟨⟨⟨⟨c1, c2⟩, c3⟩, c4⟩, c5⟩, c6⟩, c7⟩, c8⟩, c9⟩ := b2
    have after : ∀ k, itG (ft t) (100 + k) (fx i) = itG (ft t) k e := fun k => by rw [itG_add, he]
    have fin : ∀ k, Pure.impl_IsFinite real (itG (ft t) k (fx i)) = true := fun k => by
      rcases Nat.lt_or_ge k 100 with hk | hk
      · exact b1 k hk
      · rw [show k = 100 + (k - 100) by omega, after]
        obtain ⟨d1, d2⟩ := cyc_at c1 (k - 100)
        rcases Nat.mod_two_eq_zero_or_one (k - 100) with h | h
        · rw [d1 h]; exact c2
        · rw [d2 h]; exact c3
    have at120 : itG (ft t) (120 + 0) (fx i) = e := by
      rw [show 120 + 0 = 100 + 20 by omega, after]; exact (cyc_at c1 20).1 (by omega)
    have at121 : itG (ft t) (120 + 1) (fx i) = stepG (ft t) e := by
      rw [show 120 + 1 = 100 + 21 by omega, after]; exact (cyc_at c1 21).2 (by omega)
    have n120 : ((120 : Nat) : Int) = 120 := rfl
    have n100 : ((100 : Nat) : Int) = 100 := rfl
    have n20 : ((20 : Nat) : Int) = 20 := rfl
    have n5 : ((5 : Nat) : Int) = 5 := rfl
    obtain ⟨p1, p2, p3, p4⟩ := orbit_is (x := fx i) c4 120 5 (by omega) (by omega) (by omega) (fun k _ => fin k)
    obtain ⟨q1, q2, q3, q4⟩ := orbit_is (x := fx i) c4 120 1 (by omega) (by omega) (by omega) (fun k _ => fin k)
    obtain ⟨v1, v2, v3, v4⟩ := orbit_is (x := fx i) c4 100 20 (by omega) (by omega) (by omega) (fun k _ => fin k)
    rw [n120, n5] at p1 p2 p3 p4
    rw [n120, z1] at q1 q2 q3 q4
    rw [n100, n20] at v1 v2 v3 v4
    have e0 : ∀ z : Int, List.getD [z] 0 0 = z := fun _ => rfl
    have w5 : IntKind.wrap .i64 ((4 : Int) + 1) = 5 := by decide
    have per : Pure.impl_PeriodOf_L0 real 981668463 4 (Pure.impl_GrowOrbit_1 real (fx i) (ft t) 120 5) 5 1 = (true, true, 1) := by
      have l1 := p4 1 (by omega)
      have l0 := p4 0 (by omega)
      rw [at121] at l1
      rw [at120] at l0
      unfold Pure.impl_PeriodOf_L0
      have d1 : decide ((1 : Int) < Int.ofNat (Pure.impl_GrowOrbit_1 real (fx i) (ft t) 120 5).length) = true := by rw [p3]; rfl
      have d0 : decide ((0 : Int) < Int.ofNat (Pure.impl_GrowOrbit_1 real (fx i) (ft t) 120 5).length) = true := by rw [p3]; rfl
      have t1 : (1 : Int).toNat = 1 := rfl
      rw [d1, d0, t1, l1, l0, e0, e0, c5]
      rfl
    have perOk : Pure.impl_PeriodOf_ok real (fx i) (ft t) 981668463 120 4 = true ∧ Pure.impl_PeriodOf_1 real (fx i) (ft t) 981668463 120 4 = true ∧ Pure.impl_PeriodOf real (fx i) (ft t) 981668463 120 4 = 1 := by
      have hin : Pure.impl_in real 4 1 64 = true := by decide +kernel
      have f5 : ((4 : Int) - 1 + 2).toNat = 5 := by decide
      unfold Pure.impl_PeriodOf_ok Pure.impl_PeriodOf_1 Pure.impl_PeriodOf
      rw [hin, w5, p1, p2, f5, per]
      exact ⟨rfl, rfl, rfl⟩
    have hexp := exp_loop (r := ft t) (e := e) 20 (Pure.impl_GrowOrbit_1 real (fx i) (ft t) 100 20) v3 (fun j hj => by rw [v4 j hj, after]) c1 c7 c8 20 0 21 0 (by omega) (by omega)
    have i0 : itG (ft t) 0 e = e := rfl
    have i1 : itG (ft t) (0 + 1) e = stepG (ft t) e := rfl
    rw [z0, i0, i1] at hexp
    unfold toldE at c9
    have f20 : Nat.succ ((Pure.impl_GrowOrbit_1 real (fx i) (ft t) 100 20).length + 0) = 21 := by rw [v3]
    have i20 : Int.ofNat (Pure.impl_GrowOrbit_1 real (fx i) (ft t) 100 20).length = Int.ofNat 20 := by rw [v3]
    have hlast : (bif Pure.impl_GrowExponent_1 real (fx i) (ft t) 100 20 then real.cmp .lss .f32 (Pure.impl_GrowExponent real (fx i) (ft t) 100 20) 0 else true) = true ∧ Pure.impl_GrowExponent_ok real (fx i) (ft t) 100 20 = true := by
      unfold Pure.impl_GrowExponent_1 Pure.impl_GrowExponent Pure.impl_GrowExponent_ok Pure.impl_toldNumber
      rw [v1, v2, f20, i20, hexp]
      generalize sum2 20 0 (Pure.impl_LogNumber real (logG (ft t) e)) (Pure.impl_LogNumber real (logG (ft t) (stepG (ft t) e))) = w at *
      simp only [cond_true]
      exact ⟨c9, by first | rfl | trivial⟩
    obtain ⟨r1, r2, r3⟩ := perOk
    rw [r1, r2, r3, q1, q2, q4 0 (by omega), e0, at120, c6, hlast.2, q3, convOk_up, convOk_up]
    have one : ((1 : Int) == 1) = true := rfl
    have dz : decide ((0 : Int) < Int.ofNat 1) = true := rfl
    rw [one, dz]
    simp only [cond_true, cond_false]
    rw [hlast.1]
    cases hs0 : ((s : Int) == 0) with
    | false => exact ⟨rfl, rfl⟩
    | true =>
      have hsz : s = 0 := by simp at hs0; omega
      subst hsz
      have : real.cmp .neq .f32 (fx i) (fx i) = false := by
        have hf := (goodA_is (a2 0 (by omega))).1
        have hn := ((isfin_iff (bin_ok _ _ _ _)).1 hf).toNum
        have hn' : Num .f32 (fx i) := hn
        rw [cmp_neq hn' hn']
        simp
      have gz' : L.getD 0 [] = [fx i] := gz
      rw [gz', e0, this]
      exact ⟨rfl, rfl⟩
end Go.Fx
