import Derived.Test.YtfefhcbffepdlaaXr6sa
import Derived.Test.YtfefhcbffepdlaaXr6sb
import Derived.Test.YtfefhcbffepdlaaF4
import Derived.Test.YtfefhcbffepdlaaXRoot2
namespace Go.Fx
set_option maxRecDepth 100000
abbrev BU : List K := [.i .u8]

theorem index_finite (xs : List (List Int)) (hl : xs.length < 4611686018427387904) : ∀ (n : Nat) (i : Nat), i ≤ xs.length → xs.length - i < n →
    (Pure.slices_IndexFunc_float32_float32_finite_L0 real xs.length xs n i).1 = true ∧
    (Pure.slices_IndexFunc_float32_float32_finite_L0 real xs.length xs n i).2.1 = ((xs.drop i).any fun r => Pure.impl_finite_c1 real (r.getD 0 0)) ∧
    0 ≤ (Pure.slices_IndexFunc_float32_float32_finite_L0 real xs.length xs n i).2.2 := by
  intro n
  induction n with
  | zero => intro i _ h; omega
  | succ n ih =>
    intro i hi hn
    unfold Pure.slices_IndexFunc_float32_float32_finite_L0
    have e0 : decide (0 ≤ (i : Int)) = true := by simp
    rcases Nat.lt_or_ge i xs.length with h | h
    · have e1 : decide ((i : Int) < (xs.length : Int)) = true := by simp; exact h
      have e2 : Decidable.decide ((i : Int) < Int.ofNat xs.length) = true := e1
      rw [e1, e0, e2]
      simp only [cond_true, Int.toNat_natCast]
      have hd : xs.drop i = xs[i] :: xs.drop (i + 1) := List.drop_eq_getElem_cons h
      rw [hd]
      simp only [List.any_cons]
      rw [getD_some h]
      cases Pure.impl_finite_c1 real (xs[i].getD 0 0) with
      | true => simp
      | false =>
        simp only [cond_false, Bool.false_or]
        rw [wrap64 (by omega) (by omega)]
        have := ih (i + 1) (by omega) (by omega)
        simpa using this
    · have e1 : decide ((i : Int) < (xs.length : Int)) = false := by simp; exact h
      rw [e1]
      have : xs.drop i = [] := List.drop_eq_nil_of_le h
      simp [this]

theorem impl_finite_eq (xs : List (List Int)) (hl : xs.length < 4611686018427387904) : Pure.impl_finite_ok real xs = true ∧ Pure.impl_finite real xs = xs.all fun r => Pure.impl_IsFinite real (r.getD 0 0) := by
  obtain ⟨h1, h2, h3⟩ := index_finite xs hl (xs.length + 1) 0 (Nat.zero_le _) (by omega)
  unfold Pure.impl_finite_ok Pure.impl_finite Pure.slices_ContainsFunc_float32_float32_finite_ok Pure.slices_ContainsFunc_float32_float32_finite Pure.slices_IndexFunc_float32_float32_finite_ok Pure.slices_IndexFunc_float32_float32_finite
  refine ⟨h1, ?_⟩
  have e : xs.all (fun r => Pure.impl_IsFinite real (r.getD 0 0)) = !((xs.drop 0).any fun r => Pure.impl_finite_c1 real (r.getD 0 0)) := by
    unfold Pure.impl_finite_c1
    rw [List.drop_zero, List.all_eq_not_any_not]
    have e2 : ∀ b : Bool, (bif b then false else true) = !b := fun b => by cases b <;> rfl
    simp only [e2]
  rw [e, ← h2]
  change (bif decide ((bif (Pure.slices_IndexFunc_float32_float32_finite_L0 real xs.length xs (xs.length + 1) 0).2.1 then (Pure.slices_IndexFunc_float32_float32_finite_L0 real xs.length xs (xs.length + 1) 0).2.2 else -1) ≥ 0) then false else true) = _
  change 0 ≤ (Pure.slices_IndexFunc_float32_float32_finite_L0 real xs.length xs (xs.length + 1) 0).2.2 at h3
  generalize (Pure.slices_IndexFunc_float32_float32_finite_L0 real xs.length xs (xs.length + 1) ((0 : Nat) : Int)) = r at *
  change (bif decide ((bif r.2.1 then r.2.2 else -1) ≥ 0) then false else true) = _
  cases hr : r.2.1 with
  | true => simp only [cond_true]; rw [decide_eq_true h3]; rfl
  | false => rfl


theorem isFin {x : Int} (h : Fin .f32 x) : Pure.impl_IsFinite real x = true := (isfin_iff h.okF).2 h

def Good (l : List (List Int)) : Prop := l.length = 4 ∧ ∀ j, j < 4 → ∃ n : Int, n.natAbs ≤ 4 ∧ l.getD j [] = [real.ofInt .f32 n]

theorem spin_loop {xs : List (List Int)} (h : RowsOK BU xs) (p : Nat) (hp : p ≤ 100) : ∀ (m i f : Nat) (l : List (List Int)), i + m = 4 → m < f → Good l → ∃ l', Pure.spec_R8Spin_L0 real p xs 0 0 0 0 f i l = (true, l') ∧ Good l' := by
  intro m
  induction m with
  | zero =>
    intro i f l hi hf hl
    obtain ⟨f, rfl⟩ : ∃ g, f = g + 1 := ⟨f - 1, by omega⟩
    refine ⟨l, ?_, hl⟩
    unfold Pure.spec_R8Spin_L0
    have e1 : decide ((i : Int) < 4) = false := by simp; omega
    rw [e1]; rfl
  | succ m ih =>
    intro i f l hi hf hl
    obtain ⟨f, rfl⟩ : ∃ g, f = g + 1 := ⟨f - 1, by omega⟩
    have e1 : decide ((i : Int) < 4) = true := by simp; omega
    have ew : IntKind.wrap .i64 ((p : Int) + (i : Int)) = ((p + i : Nat) : Int) := by rw [wrap64 (by omega) (by omega)]; omega
    unfold Pure.spec_R8Spin_L0
    rw [e1, ew, wrap_succ (by omega)]
    by_cases hlt : p + i < xs.length
    · rw [dec_lt hlt, dec_nn, dec_nn, dec_lt (show i < l.length by rw [hl.1]; omega), Int.toNat_natCast, Int.toNat_natCast, getD_some hlt]
      have hr := (h.row _ (List.getElem_mem hlt)).2 0 _ rfl
      obtain ⟨g1, g2⟩ : IntKind.u8.has (xs[p + i].getD 0 0) := hr
      have m0 : IntKind.u8.min = 0 := rfl
      have m1 : IntKind.u8.max = 255 := by decide
      rw [m0] at g1
      rw [m1] at g2
      generalize xs[p + i].getD 0 0 = b at *
      have t1 : Int.tmod b 9 = b % 9 := Int.tmod_eq_emod_of_nonneg g1
      rw [wrap64 (n := b) (by omega) (by omega), t1, wrap64 (n := b % 9 - 4) (by omega) (by omega)]
      simp only [cond_true]
      refine ih (i + 1) f _ (by omega) (by omega) ⟨by rw [List.length_set]; exact hl.1, fun j hj => ?_⟩
      by_cases hij : i = j
      · subst hij
        refine ⟨b % 9 - 4, by omega, ?_⟩
        rw [List.getD_eq_getElem?_getD, List.getElem?_set, if_pos rfl, if_pos (by rw [hl.1]; omega)]; rfl
      · obtain ⟨n, n1, n2⟩ := hl.2 j hj
        refine ⟨n, n1, ?_⟩
        rw [List.getD_eq_getElem?_getD, List.getElem?_set, if_neg hij, ← List.getD_eq_getElem?_getD]; exact n2
    · rw [dec_ge (show xs.length ≤ p + i by omega)]
      simp only [cond_false, cond_true]
      exact ih (i + 1) f l (by omega) (by omega) hl

theorem good0 : Good [[1065353216], [1073741824], [3212836864], [0]] := by
  refine ⟨rfl, fun j hj => ?_⟩
  have e1 : real.ofInt .f32 1 = 1065353216 := by decide +kernel
  have e2 : real.ofInt .f32 2 = 1073741824 := by decide +kernel
  have e3 : real.ofInt .f32 (-1) = 3212836864 := by decide +kernel
  have e4 : real.ofInt .f32 0 = 0 := by decide +kernel
  match j, hj with
  | 0, _ => exact ⟨1, by decide, by rw [e1]; rfl⟩
  | 1, _ => exact ⟨2, by decide, by rw [e2]; rfl⟩
  | 2, _ => exact ⟨-1, by decide, by rw [e3]; rfl⟩
  | 3, _ => exact ⟨0, by decide, by rw [e4]; rfl⟩

structure Small4 (q : Q) : Prop where
  b0 : q.w.natAbs ≤ 4
  b1 : q.x.natAbs ≤ 4
  b2 : q.y.natAbs ≤ 4
  b3 : q.z.natAbs ≤ 4
  ne : q.w ≠ 0 ∨ q.x ≠ 0 ∨ q.y ≠ 0 ∨ q.z ≠ 0

theorem spin_is {xs : List (List Int)} (h : RowsOK BU xs) (p : Nat) (hp : p ≤ 100) : ∃ q : Q, Small4 q ∧ Pure.spec_R8Spin_ok real xs p = true ∧
    Pure.spec_R8Spin real xs p = real.ofInt .f32 q.w ∧ Pure.spec_R8Spin_1 real xs p = real.ofInt .f32 q.x ∧ Pure.spec_R8Spin_2 real xs p = real.ofInt .f32 q.y ∧ Pure.spec_R8Spin_3 real xs p = real.ofInt .f32 q.z := by
  obtain ⟨l, hl, hg⟩ := spin_loop h p hp 4 0 5 _ (by omega) (by omega) good0
  have hl' : Pure.spec_R8Spin_L0 real p xs 0 0 0 0 5 0 [[1065353216], [1073741824], [3212836864], [0]] = (true, l) := hl
  obtain ⟨n0, m0, e0⟩ := hg.2 0 (by omega)
  obtain ⟨n1, m1, e1⟩ := hg.2 1 (by omega)
  obtain ⟨n2, m2, e2⟩ := hg.2 2 (by omega)
  obtain ⟨n3, m3, e3⟩ := hg.2 3 (by omega)
  unfold Pure.spec_R8Spin_ok Pure.spec_R8Spin Pure.spec_R8Spin_1 Pure.spec_R8Spin_2 Pure.spec_R8Spin_3
  rw [hl']
  simp only
  rw [e0, e1, e2, e3]
  have g0 : ∀ z : Int, List.getD [z] 0 0 = z := fun _ => rfl
  rw [g0, g0, g0, g0]
  have hlen : Int.ofNat l.length = 4 := by rw [hg.1]; rfl
  rw [hlen]
  have o1 : real.ofInt .f32 1 = 1065353216 := by decide +kernel
  have o0 : real.ofInt .f32 0 = 0 := by decide +kernel
  cases hb : Pure.spec_l04Spin real (real.ofInt .f32 n0) (real.ofInt .f32 n1) (real.ofInt .f32 n2) (real.ofInt .f32 n3) with
  | true =>
    refine ⟨⟨n0, n1, n2, n3⟩, ⟨m0, m1, m2, m3, ?_⟩, rfl, rfl, rfl, rfl, rfl⟩
    apply Classical.byContradiction
    intro hne
    have z0 : n0 = 0 := Classical.byContradiction fun h => hne (.inl h)
    have z1 : n1 = 0 := Classical.byContradiction fun h => hne (.inr (.inl h))
    have z2 : n2 = 0 := Classical.byContradiction fun h => hne (.inr (.inr (.inl h)))
    have z3 : n3 = 0 := Classical.byContradiction fun h => hne (.inr (.inr (.inr h)))
    subst z0; subst z1; subst z2; subst z3
    have : Pure.spec_l04Spin real (real.ofInt .f32 0) (real.ofInt .f32 0) (real.ofInt .f32 0) (real.ofInt .f32 0) = false := by decide +kernel
    rw [this] at hb; cases hb
  | false => exact ⟨⟨1, 0, 0, 0⟩, ⟨by decide, by decide, by decide, by decide, .inl (by decide)⟩, rfl, o1.symm, o0.symm, o0.symm, o0.symm⟩

theorem Small4.wq {q : Q} (h : Small4 q) : WQ (real.ofInt .f32 q.w) (real.ofInt .f32 q.x) (real.ofInt .f32 q.y) (real.ofInt .f32 q.z) q 4 :=
  ⟨Wh.ofInt (by have := h.b0; omega), Wh.ofInt (by have := h.b1; omega), Wh.ofInt (by have := h.b2; omega), Wh.ofInt (by have := h.b3; omega), h.b0, h.b1, h.b2, h.b3⟩

theorem isSpin_of {x0 x1 x2 x3 : Int} (h0 : Fin .f32 x0) (h1 : Fin .f32 x1) (h2 : Fin .f32 x2) (h3 : Fin .f32 x3) (h : real.cmp .neq .f32 x0 0 = true ∨ real.cmp .neq .f32 x1 0 = true ∨ real.cmp .neq .f32 x2 0 = true ∨ real.cmp .neq .f32 x3 0 = true) :
    Pure.impl_IsSpin real x0 x1 x2 x3 = true := by
  obtain ⟨_, f2⟩ := impl_finite_eq [[x0], [x1], [x2], [x3]] (show 4 < 4611686018427387904 by decide)
  have g0 : ∀ z : Int, List.getD [z] 0 0 = z := fun _ => rfl
  simp only [List.all_cons, List.all_nil, g0, isFin h0, isFin h1, isFin h2, isFin h3, Bool.and_true] at f2
  unfold Pure.impl_IsSpin Pure.impl_Spin_numbers
  rw [f2]
  rcases h with h | h | h | h <;> rw [h] <;> simp
theorem isSpin_ok (x0 x1 x2 x3 : Int) : Pure.impl_IsSpin_ok real x0 x1 x2 x3 = true :=
  (impl_finite_eq [[x0], [x1], [x2], [x3]] (show 4 < 4611686018427387904 by decide)).1

theorem sizeSpin_ok (x0 x1 x2 x3 : Int) : Pure.impl_SizeOfSpin_ok real x0 x1 x2 x3 = true := by
  unfold Pure.impl_SizeOfSpin_ok Pure.impl_RootNumber_ok
  rw [convOk_up]
  have h := root_ok (bin_ok .add .f32 (real.bin .add .f32 (real.bin .add .f32 (real.bin .mul .f32 x0 x0) (real.bin .mul .f32 x1 x1)) (real.bin .mul .f32 x2 x2)) (real.bin .mul .f32 x3 x3))
  exact h

theorem size_is {x0 x1 x2 x3 : Int} {a : Q} {B : Nat} (h : WQ x0 x1 x2 x3 a B) (hB : 4 * (B * B) ≤ 16777216) (hn : 0 < a.n) : Pure.impl_SizeOfSpin real x0 x1 x2 x3 = rootW a.n.toNat := by
  obtain ⟨p1, p2⟩ := prods_is h hB
  unfold Pure.impl_SizeOfSpin rootW
  rw [p1.word (by omega) (by omega), Int.toNat_of_nonneg (by omega)]

theorem Small4.n_le {q : Q} (h : Small4 q) : 0 < q.n ∧ q.n ≤ 64 := by
  have h1 := (prods_is h.wq (by decide)).2
  have h2 := Q.n_pos h.ne
  omega

theorem quo_of {w : Int} {n : Nat} (hw : w.natAbs ≤ 4) (h1 : 1 ≤ n) (h2 : n ≤ 64) : Fin .f32 (quoW w n) ∧ (w ≠ 0 → real.cmp .neq .f32 (quoW w n) 0 = true) ∧ real.bin .mul .f32 (quoW w n) (quoW w n) = sqN w.natAbs n := by
  have a3 := quo_is (i := (w + 4).toNat) (n := n) (by omega) ⟨h1, h2⟩
  unfold quoB at a3
  have ew : (((w + 4).toNat : Nat) : Int) - 4 = w := by omega
  rw [ew] at a3
  simp only [Bool.and_eq_true, Bool.or_eq_true, decide_eq_true_eq] at a3
  obtain ⟨⟨c1, c2⟩, c3⟩ := a3
  unfold finB at c1
  simp only [Bool.and_eq_true, decide_eq_true_eq] at c1
  refine ⟨⟨c1.1.1, c1.1.2, c1.2⟩, fun hne => ?_, c3⟩
  rcases c2 with c2 | c2
  · have := Nat.eq_of_beq_eq_true c2
    omega
  · exact c2

theorem norm_is {q : Q} (h : Small4 q) : Pure.impl_NormSpin_ok real (real.ofInt .f32 q.w) (real.ofInt .f32 q.x) (real.ofInt .f32 q.y) (real.ofInt .f32 q.z) = true ∧ Pure.impl_NormSpin_4 real (real.ofInt .f32 q.w) (real.ofInt .f32 q.x) (real.ofInt .f32 q.y) (real.ofInt .f32 q.z) = true ∧
    Pure.impl_NormSpin real (real.ofInt .f32 q.w) (real.ofInt .f32 q.x) (real.ofInt .f32 q.y) (real.ofInt .f32 q.z) = quoW q.w q.n.toNat ∧ Pure.impl_NormSpin_1 real (real.ofInt .f32 q.w) (real.ofInt .f32 q.x) (real.ofInt .f32 q.y) (real.ofInt .f32 q.z) = quoW q.x q.n.toNat ∧
    Pure.impl_NormSpin_2 real (real.ofInt .f32 q.w) (real.ofInt .f32 q.x) (real.ofInt .f32 q.y) (real.ofInt .f32 q.z) = quoW q.y q.n.toNat ∧ Pure.impl_NormSpin_3 real (real.ofInt .f32 q.w) (real.ofInt .f32 q.x) (real.ofInt .f32 q.y) (real.ofInt .f32 q.z) = quoW q.z q.n.toNat ∧
    Pure.impl_IsSpin real (real.ofInt .f32 q.w) (real.ofInt .f32 q.x) (real.ofInt .f32 q.y) (real.ofInt .f32 q.z) = true ∧
    Pure.impl_IsSpin real (quoW q.w q.n.toNat) (quoW q.x q.n.toNat) (quoW q.y q.n.toNat) (quoW q.z q.n.toNat) = true := by
  obtain ⟨n1, n2⟩ := h.n_le
  have hw := h.wq
  obtain ⟨a1, a2, _⟩ := quo_of (n := q.n.toNat) h.b0 (by omega) (by omega)
  obtain ⟨b1, b2, _⟩ := quo_of (n := q.n.toNat) h.b1 (by omega) (by omega)
  obtain ⟨c1, c2, _⟩ := quo_of (n := q.n.toNat) h.b2 (by omega) (by omega)
  obtain ⟨d1, d2, _⟩ := quo_of (n := q.n.toNat) h.b3 (by omega) (by omega)
  have s1 : Pure.impl_IsSpin real (real.ofInt .f32 q.w) (real.ofInt .f32 q.x) (real.ofInt .f32 q.y) (real.ofInt .f32 q.z) = true := by
    refine isSpin_of hw.h0.1 hw.h1.1 hw.h2.1 hw.h3.1 ?_
    rcases h.ne with g | g | g | g
    · exact .inl (hw.h0.ne0 g)
    · exact .inr (.inl (hw.h1.ne0 g))
    · exact .inr (.inr (.inl (hw.h2.ne0 g)))
    · exact .inr (.inr (.inr (hw.h3.ne0 g)))
  have s2 : Pure.impl_IsSpin real (quoW q.w q.n.toNat) (quoW q.x q.n.toNat) (quoW q.y q.n.toNat) (quoW q.z q.n.toNat) = true := by
    refine isSpin_of a1 b1 c1 d1 ?_
    rcases h.ne with g | g | g | g
    · exact .inl (a2 g)
    · exact .inr (.inl (b2 g))
    · exact .inr (.inr (.inl (c2 g)))
    · exact .inr (.inr (.inr (d2 g)))
  have es := size_is hw (by decide) n1
  have q0 : ∀ w : Int, real.bin .quo .f32 (real.ofInt .f32 w) (rootW q.n.toNat) = quoW w q.n.toNat := fun _ => rfl
  unfold Pure.impl_NormSpin_ok Pure.impl_NormSpin_4 Pure.impl_NormSpin Pure.impl_NormSpin_1 Pure.impl_NormSpin_2 Pure.impl_NormSpin_3 Pure.impl_toldSpin_ok Pure.impl_toldSpin Pure.impl_toldSpin_1 Pure.impl_toldSpin_2 Pure.impl_toldSpin_3
  rw [es, q0, q0, q0, q0, s1, s2, isSpin_ok, isSpin_ok, sizeSpin_ok]
  exact ⟨rfl, rfl, rfl, rfl, rfl, rfl, rfl, rfl⟩

theorem norm_size {q : Q} (h : Small4 q) : real.cmp .lss .f64 (Pure.laws_r8Gap real (real.conv .f32 .f64 (Pure.impl_SizeOfSpin real (quoW q.w q.n.toNat) (quoW q.x q.n.toNat) (quoW q.y q.n.toNat) (quoW q.z q.n.toNat))) 4607182418800017408) 4562254508917369340 = true := by
  obtain ⟨n1, n2⟩ := h.n_le
  obtain ⟨_, _, a3⟩ := quo_of (n := q.n.toNat) h.b0 (by omega) (by omega)
  obtain ⟨_, _, b3⟩ := quo_of (n := q.n.toNat) h.b1 (by omega) (by omega)
  obtain ⟨_, _, c3⟩ := quo_of (n := q.n.toNat) h.b2 (by omega) (by omega)
  obtain ⟨_, _, d3⟩ := quo_of (n := q.n.toNat) h.b3 (by omega) (by omega)
  have t5 := norm_of (a := q.w.natAbs) (b := q.x.natAbs) (c := q.y.natAbs) (d := q.z.natAbs) (by have := h.b0; omega) (by have := h.b1; omega) (by have := h.b2; omega) (by have := h.b3; omega)
  have hs : q.w.natAbs * q.w.natAbs + q.x.natAbs * q.x.natAbs + q.y.natAbs * q.y.natAbs + q.z.natAbs * q.z.natAbs = q.n.toNat := by
    have e : ∀ u : Int, ((u.natAbs * u.natAbs : Nat) : Int) = u * u := fun u => Int.natAbs_mul_self
    have := e q.w; have := e q.x; have := e q.y; have := e q.z
    unfold Q.n at *
    omega
  unfold normB at t5
  rw [hs] at t5
  obtain ⟨s, hs2⟩ : ∃ s, q.n.toNat = s + 1 := ⟨q.n.toNat - 1, by omega⟩
  rw [hs2] at t5
  simp only at t5
  unfold Pure.impl_SizeOfSpin Pure.impl_products
  rw [a3, b3, c3, d3, hs2]
  exact t5

theorem add_none {n d : Int} (hn : n.natAbs ≤ 4) (hd : Fin .f32 d) : real.bin .add .f32 (real.ofInt .f32 n) (real.bin .mul .f32 0 d) = real.ofInt .f32 n := by
  obtain ⟨z1, z2⟩ := fin_zero .f32
  obtain ⟨m1, m2⟩ := (mul_rounds z1 hd).exact (has_zero .f32) (by rw [z2]; simp)
  have hw := Wh.ofInt (n := n) (by omega)
  by_cases h0 : n = 0
  · subst h0
    have hr := fv_zero_iff.1 m2
    have hm : real.bin .mul .f32 0 d = 0 ∨ real.bin .mul .f32 0 d = 2147483648 := by
      rcases hg : ng .f32 (real.bin .mul .f32 0 d) with _ | _
      · left; rw [m1.toNum.eq_word, hg, hr]; decide +kernel
      · right; rw [m1.toNum.eq_word, hg, hr]; decide +kernel
    rcases hm with hm | hm <;> rw [hm] <;> decide +kernel
  · obtain ⟨g1, g2⟩ := (add_rounds hw.1 m1).exact ⟨_, hw.1, rfl⟩ (by rw [m2]; simp)
    exact g1.toNum.fv_inj hw.1.toNum g2 (by rw [g2, hw.2]; exact Int.mul_ne_zero h0 unit_ne)

theorem between_is {a b : Q} (ha : Small4 a) (hb : Small4 b) :
    Pure.impl_BetweenSpins_ok real (real.ofInt .f32 a.w) (real.ofInt .f32 a.x) (real.ofInt .f32 a.y) (real.ofInt .f32 a.z) (real.ofInt .f32 b.w) (real.ofInt .f32 b.x) (real.ofInt .f32 b.y) (real.ofInt .f32 b.z) 0 = true ∧
    Pure.impl_BetweenSpins_4 real (real.ofInt .f32 a.w) (real.ofInt .f32 a.x) (real.ofInt .f32 a.y) (real.ofInt .f32 a.z) (real.ofInt .f32 b.w) (real.ofInt .f32 b.x) (real.ofInt .f32 b.y) (real.ofInt .f32 b.z) 0 = true ∧
    Pure.impl_BetweenSpins real (real.ofInt .f32 a.w) (real.ofInt .f32 a.x) (real.ofInt .f32 a.y) (real.ofInt .f32 a.z) (real.ofInt .f32 b.w) (real.ofInt .f32 b.x) (real.ofInt .f32 b.y) (real.ofInt .f32 b.z) 0 = quoW a.w a.n.toNat ∧
    Pure.impl_BetweenSpins_1 real (real.ofInt .f32 a.w) (real.ofInt .f32 a.x) (real.ofInt .f32 a.y) (real.ofInt .f32 a.z) (real.ofInt .f32 b.w) (real.ofInt .f32 b.x) (real.ofInt .f32 b.y) (real.ofInt .f32 b.z) 0 = quoW a.x a.n.toNat ∧
    Pure.impl_BetweenSpins_2 real (real.ofInt .f32 a.w) (real.ofInt .f32 a.x) (real.ofInt .f32 a.y) (real.ofInt .f32 a.z) (real.ofInt .f32 b.w) (real.ofInt .f32 b.x) (real.ofInt .f32 b.y) (real.ofInt .f32 b.z) 0 = quoW a.y a.n.toNat ∧
    Pure.impl_BetweenSpins_3 real (real.ofInt .f32 a.w) (real.ofInt .f32 a.x) (real.ofInt .f32 a.y) (real.ofInt .f32 a.z) (real.ofInt .f32 b.w) (real.ofInt .f32 b.x) (real.ofInt .f32 b.y) (real.ofInt .f32 b.z) 0 = quoW a.z a.n.toNat := by
  obtain ⟨k1, k2, k3, k4, k5, k6, k7, k8⟩ := norm_is ha
  obtain ⟨_, _, _, _, _, _, k9, _⟩ := norm_is hb
  have wa := ha.wq
  have wb := hb.wq
  have dn : ∀ {x y m n : Int}, Wh x m → Wh y n → m.natAbs ≤ 4 → n.natAbs ≤ 4 → Fin .f32 (real.bin .sub .f32 y x) ∧ Fin .f32 (real.bin .sub .f32 (real.neg .f32 y) x) := fun hx hy h1 h2 => ⟨(hy.sub hx (by omega)).1, (hy.neg.sub hx (by omega)).1⟩
  obtain ⟨p0, r0⟩ := dn wa.h0 wb.h0 ha.b0 hb.b0
  obtain ⟨p1, r1⟩ := dn wa.h1 wb.h1 ha.b1 hb.b1
  obtain ⟨p2, r2⟩ := dn wa.h2 wb.h2 ha.b2 hb.b2
  obtain ⟨p3, r3⟩ := dn wa.h3 wb.h3 ha.b3 hb.b3
  have fz : Pure.impl_IsFinite real 0 = true := isFin (fin_zero .f32).1
  unfold Pure.impl_BetweenSpins_ok Pure.impl_BetweenSpins_4 Pure.impl_BetweenSpins Pure.impl_BetweenSpins_1 Pure.impl_BetweenSpins_2 Pure.impl_BetweenSpins_3 Pure.impl_along Pure.impl_along_1 Pure.impl_along_2 Pure.impl_along_3
  rw [add_none ha.b0 p0, add_none ha.b1 p1, add_none ha.b2 p2, add_none ha.b3 p3, add_none ha.b0 r0, add_none ha.b1 r1, add_none ha.b2 r2, add_none ha.b3 r3, isSpin_ok, isSpin_ok, k7, k9, fz, k1, k2, k3, k4, k5, k6]
  cases real.cmp .lss .f32 (Pure.impl_products real (real.ofInt .f32 a.w) (real.ofInt .f32 a.x) (real.ofInt .f32 a.y) (real.ofInt .f32 a.z) (real.ofInt .f32 b.w) (real.ofInt .f32 b.x) (real.ofInt .f32 b.y) (real.ofInt .f32 b.z)) 0 <;> exact ⟨rfl, rfl, rfl, rfl, rfl, rfl⟩

theorem same_refl (a b c d : Int) : Pure.impl_SameSpin_ok real a b c d a b c d = true ∧ Pure.impl_SameSpin real a b c d a b c d = true := by
  have hs : ∀ v : Int, Pure.impl_SameNumber_ok real v v = true ∧ Pure.impl_SameNumber real v v = true := fun v => by
    unfold Pure.impl_SameNumber_ok Pure.impl_SameNumber
    cases hn : Pure.impl_isNaN real v with
    | true => exact ⟨rfl, rfl⟩
    | false =>
      unfold Pure.impl_isNaN at hn
      rw [hn]; simp
  generalize hxs : [[a], [b], [c], [d]] = xs
  have hl : xs.length = 4 := by rw [← hxs]; rfl
  have key := iter_all xs.length (fun _ => true) (fun n i => Pure.slices_EqualFunc_float32_float32_float32_float32_same_L0 real xs.length xs xs n i) (true, false) (false, false) (fun n i h => by
      conv => lhs; unfold Pure.slices_EqualFunc_float32_float32_float32_float32_same_L0
      rw [dec_lt' h, dec_lt h, dec_nn, (hs _).1, (hs _).2, wrap_succ (by omega)]; rfl) (fun n => by
      conv => lhs; unfold Pure.slices_EqualFunc_float32_float32_float32_float32_same_L0
      rw [dec_ge' (Nat.le_refl _)]; rfl) (xs.length + 1) 0 (by omega) (by omega)
  have hu : upAll xs.length (fun _ => true) 0 = true := by unfold upAll; rw [List.all_eq_true]; intro _ _; rfl
  rw [hu] at key
  unfold Pure.impl_SameSpin_ok Pure.impl_SameSpin Pure.impl_sameList_ok Pure.impl_Spin_numbers Pure.slices_EqualFunc_float32_float32_float32_float32_same_ok Pure.slices_EqualFunc_float32_float32_float32_float32_same
  rw [hxs]
  have e : ((Int.ofNat xs.length != Int.ofNat xs.length)) = false := by simp
  rw [e]
  change (Pure.slices_EqualFunc_float32_float32_float32_float32_same_L0 real xs.length xs xs (xs.length + 1) 0).1 = true ∧ (bif (Pure.slices_EqualFunc_float32_float32_float32_float32_same_L0 real xs.length xs xs (xs.length + 1) 0).2 then false else true) = true
  change Pure.slices_EqualFunc_float32_float32_float32_float32_same_L0 real xs.length xs xs (xs.length + 1) 0 = _ at key
  rw [key]; exact ⟨rfl, rfl⟩

set_option maxHeartbeats 2000000 in
theorem law_FnSpins (x0 x1 : List (List Int)) (h0 : RowsOK BU x0) (h1 : RowsOK BU x1) : Pure.laws_FnSpins_ok real x0 x1 = true ∧ Pure.laws_FnSpins real x0 x1 = true := by
  unfold Pure.laws_FnSpins_ok Pure.laws_FnSpins
  cases Pure.laws_r8Long real x0 x1 with
  | true => exact ⟨rfl, rfl⟩
  | false =>
    obtain ⟨a, ha, ao, a0, a1, a2, a3⟩ := spin_is h0 0 (by omega)
    obtain ⟨b, hb, bo, b0, b1, b2, b3⟩ := spin_is h0 4 (by omega)
    obtain ⟨c, hc, co, c0, c1, c2, c3⟩ := spin_is h1 0 (by omega)
    have z0 : ((0 : Nat) : Int) = 0 := rfl
    have z4 : ((4 : Nat) : Int) = 4 := rfl
    rw [z0] at ao a0 a1 a2 a3 co c0 c1 c2 c3
    rw [z4] at bo b0 b1 b2 b3
    rw [ao, bo, co, a0, a1, a2, a3, b0, b1, b2, b3, c0, c1, c2, c3]
    obtain ⟨k1, k2, k3, k4, k5, k6, k7, k8⟩ := norm_is ha
    obtain ⟨t1, t2, t3, t4, t5, t6⟩ := between_is ha hb
    have ns := norm_size ha
    obtain ⟨s1, s2⟩ := same_refl (quoW a.w a.n.toNat) (quoW a.x a.n.toNat) (quoW a.y a.n.toNat) (quoW a.z a.n.toNat)
    have wa := ha.wq
    have wb := hb.wq
    have wc := hc.wq
    have sa := size_is wa (by decide) ha.n_le.1
    have sb := size_is wb (by decide) hb.n_le.1
    have ab := times_is wa wb (by decide)
    have bc := times_is wb wc (by decide)
    have l := times_is ab wc (by decide)
    have r := times_is wa bc (by decide)
    have kab := back_is ab
    have ot := times_is (back_is wb) (back_is wa) (by decide)
    have sq := times_is wa (back_is wa) (by decide)
    have na := ha.n_le
    have nb := hb.n_le
    have nn := Q.n_mul a b
    have npos : 0 < (a.mul b).n := by rw [nn]; exact Int.mul_pos na.1 nb.1
    have sab := size_is ab (by decide) npos
    have ntn : (a.mul b).n.toNat = a.n.toNat * b.n.toNat := by
      rw [nn, Int.toNat_mul (by omega) (by omega)]
    rw [ntn] at sab
    have g3 := gap_is (m := a.n.toNat) (n := b.n.toNat) (by omega) (by omega)
    unfold gapN at g3
    have asc := Q.assoc a b c
    have cm := Q.conj_mul a b
    have mc := Q.mul_conj a
    obtain ⟨pa, _⟩ := prods_is wa (by decide)
    unfold Pure.impl_products at pa
    rw [k1, k2, k3, k4, k5, k6, k8, t1, t2, t3, t4, t5, t6, s1, s2, isSpin_ok, isSpin_ok, sizeSpin_ok, sizeSpin_ok, sizeSpin_ok, sizeSpin_ok, convOk_up, convOk_up, convOk_up, convOk_up, ns, sa, sb, sab, g3,
      l.h0.eql r.h0 (congrArg Q.w asc), l.h1.eql r.h1 (congrArg Q.x asc), l.h2.eql r.h2 (congrArg Q.y asc), l.h3.eql r.h3 (congrArg Q.z asc),
      kab.h0.eql ot.h0 (congrArg Q.w cm), kab.h1.eql ot.h1 (congrArg Q.x cm), kab.h2.eql ot.h2 (congrArg Q.y cm), kab.h3.eql ot.h3 (congrArg Q.z cm),
      sq.h0.neq pa (congrArg Q.w mc), sq.h1.neq Wh.zero (congrArg Q.x mc), sq.h2.neq Wh.zero (congrArg Q.y mc), sq.h3.neq Wh.zero (congrArg Q.z mc)]
    have z : Pure.impl_IsSpin real 0 0 0 0 = false := by decide +kernel
    rw [z]
    exact ⟨rfl, rfl⟩
end Go.Fx
