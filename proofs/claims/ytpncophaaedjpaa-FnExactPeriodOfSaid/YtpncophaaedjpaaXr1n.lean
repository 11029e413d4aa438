import Derived.Test.YtpncophaaedjpaaXr1m
namespace Go.Fx

theorem eqF32_refl (xs : List (List Int)) (hl : xs.length < 4611686018427387904) : Pure.laws_eqFloat32S_ok real xs xs = true ∧ Pure.laws_eqFloat32S real xs xs = true := by
  have key : ∀ (n i : Nat), i ≤ xs.length → xs.length - i < n → Pure.laws_eqFloat32S_L0 real xs xs n i = (true, false) := by
    intro n
    induction n with
    | zero => intro i _ h; omega
    | succ n ih =>
      intro i hi hn
      unfold Pure.laws_eqFloat32S_L0
      rcases Nat.lt_or_ge i xs.length with h | h
      · have e1 : decide ((i : Int) < Int.ofNat xs.length) = true := by simp; exact h
        have e2 : decide (0 ≤ (i : Int)) = true := by simp
        rw [e1, e2, convOk_up, sameFloat_refl, wrap64 (by omega) (by omega)]
        simp only [cond_true]
        exact ih (i + 1) (by omega) (by omega)
      · have e1 : decide ((i : Int) < Int.ofNat xs.length) = false := by simp; exact h
        rw [e1]; rfl
  have := key (xs.length + 1) 0 (by omega) (by omega)
  unfold Pure.laws_eqFloat32S_ok Pure.laws_eqFloat32S
  have e : ((Int.ofNat xs.length != Int.ofNat xs.length)) = false := by simp
  rw [e]
  change (Pure.laws_eqFloat32S_L0 real xs xs (xs.length + 1) 0).1 = true ∧ (bif (Pure.laws_eqFloat32S_L0 real xs xs (xs.length + 1) 0).2 then false else true) = true
  change Pure.laws_eqFloat32S_L0 real xs xs (xs.length + 1) 0 = (true, false) at this
  rw [this]; exact ⟨rfl, rfl⟩

theorem ofInt_notNaN (k : FloatKind) (n : Int) : real.cmp .neq k (real.ofInt k n) (real.ofInt k n) = false := by
  rw [neq_self]
  exact (ofInt_rounds k n).num.notNaN

/-- The marks. -/
def marks (k : FloatKind) (a : Int) (n : Nat) : List (List Int) := (List.range n).map fun (i : Nat) => [real.ofInt k (a + i)]

theorem marks_get {k : FloatKind} {a : Int} {n i : Nat} (h : i < n) : (marks k a n).getD i [] = [real.ofInt k (a + i)] := by
  rw [getD_some (by simp [marks]; exact h)]; simp [marks]

theorem mark_loop (a : Int) (ha : 0 ≤ a) : ∀ (n : Nat) (i : Nat) (xs : List (List Int)), i ≤ xs.length → xs.length - i < n → a + xs.length < 4611686018427387904 → (∀ j, j < i → xs.getD j [] = [real.ofInt .f32 (a + j)]) →
    Pure.laws_markFloat32S_L0 real n (a + i) i xs = (true, a + xs.length, marks .f32 a xs.length) := by
  intro n
  induction n with
  | zero => intro i xs _ h; omega
  | succ n ih =>
    intro i xs hi hn hb hx
    unfold Pure.laws_markFloat32S_L0
    rcases Nat.lt_or_ge i xs.length with h | h
    · have e1 : decide ((i : Int) < Int.ofNat xs.length) = true := by simp; exact h
      have e2 : decide (0 ≤ (i : Int)) = true := by simp
      rw [e1, e2, wrap64 (n := (i : Int) + 1) (by omega) (by omega), wrap64 (n := a + i + 1) (by omega) (by omega), Int.toNat_natCast]
      simp only [cond_true]
      have := ih (i + 1) (xs.set i [real.ofInt .f32 (a + i)]) (by simp; omega) (by simp; omega) (by simpa using hb) (fun j hj => by
        rw [List.getD_eq_getElem?_getD, List.getElem?_set]
        by_cases hij : i = j
        · subst hij; simp [h]
        · rw [if_neg hij, ← List.getD_eq_getElem?_getD]; exact hx j (by omega))
      rw [List.length_set] at this
      rw [show a + ((i : Nat) : Int) + 1 = a + ((i + 1 : Nat) : Int) by omega]
      exact this
    · have e1 : decide ((i : Int) < Int.ofNat xs.length) = false := by simp; exact h
      rw [e1]
      have hil : i = xs.length := by omega
      subst hil
      have : xs = marks .f32 a xs.length := by
        unfold marks
        apply List.ext_getElem
        · simp
        · intro j h1 h2
          have := hx j h1
          rw [getD_some h1] at this
          simp [this]
      simp only [cond_false]
      rw [← this]

theorem mark_eq (xs : List (List Int)) (hl : xs.length < 1000000000) : Pure.laws_markFloat32S_ok real xs 1 = true ∧ Pure.laws_markFloat32S real xs 1 = 1 + xs.length ∧ Pure.laws_markFloat32S_1 real xs 1 = marks .f32 1 xs.length := by
  have := mark_loop 1 (by omega) (xs.length + 1) 0 xs (by omega) (by omega) (by omega) (fun j hj => by omega)
  have e : (1 : Int) + ((0 : Nat) : Int) = 1 := rfl
  rw [e] at this
  unfold Pure.laws_markFloat32S_ok Pure.laws_markFloat32S Pure.laws_markFloat32S_1
  change (Pure.laws_markFloat32S_L0 real (xs.length + 1) 1 0 xs).1 = true ∧ (Pure.laws_markFloat32S_L0 real (xs.length + 1) 1 0 xs).2.1 = _ ∧ (Pure.laws_markFloat32S_L0 real (xs.length + 1) 1 0 xs).2.2 = _
  change Pure.laws_markFloat32S_L0 real (xs.length + 1) 1 0 xs = _ at this
  rw [this]; exact ⟨rfl, rfl, rfl⟩

theorem held_eq (m : Nat) (hm : m < 1000000000) : Pure.laws_heldFloat32S_ok real (marks .f32 1 m) 1 = true ∧ Pure.laws_heldFloat32S real (marks .f32 1 m) 1 = 1 + m := by
  have hlen : (marks .f32 1 m).length = m := by simp [marks]
  have key : ∀ (n i : Nat), i ≤ m → m - i < n → (Pure.laws_heldFloat32S_L0 real (marks .f32 1 m) n (1 + (i : Int)) i).1 = true ∧ (Pure.laws_heldFloat32S_L0 real (marks .f32 1 m) n (1 + (i : Int)) i).2.1 = false ∧ (Pure.laws_heldFloat32S_L0 real (marks .f32 1 m) n (1 + (i : Int)) i).2.2.1 = 1 + m := by
    intro n
    induction n with
    | zero => intro i _ h; omega
    | succ n ih =>
      intro i hi hn
      unfold Pure.laws_heldFloat32S_L0
      rcases Nat.lt_or_ge i m with h | h
      · have e1 : decide ((i : Int) < Int.ofNat (marks .f32 1 m).length) = true := by rw [hlen]; simp; exact h
        have e2 : decide (0 ≤ (i : Int)) = true := by simp
        have e3 : ((marks .f32 1 m).getD (i : Int).toNat []).getD 0 0 = real.ofInt .f32 (1 + i) := by
          rw [Int.toNat_natCast, marks_get h]; rfl
        rw [e1, e2, e3, ofInt_notNaN, wrap64 (n := (i : Int) + 1) (by omega) (by omega), wrap64 (n := 1 + (i : Int) + 1) (by omega) (by omega)]
        simp only [cond_true, cond_false]
        rw [show (1 : Int) + i + 1 = 1 + ((i + 1 : Nat) : Int) by omega]
        exact ih (i + 1) (by omega) (by omega)
      · have e1 : decide ((i : Int) < Int.ofNat (marks .f32 1 m).length) = false := by rw [hlen]; simp; exact h
        rw [e1]
        have : i = m := by omega
        subst this
        exact ⟨rfl, rfl, rfl⟩
  obtain ⟨h1, h2, h3⟩ := key (m + 1) 0 (by omega) (by omega)
  unfold Pure.laws_heldFloat32S_ok Pure.laws_heldFloat32S
  rw [hlen]
  change (Pure.laws_heldFloat32S_L0 real (marks .f32 1 m) (m + 1) 1 0).1 = true ∧ (bif (Pure.laws_heldFloat32S_L0 real (marks .f32 1 m) (m + 1) 1 0).2.1 then -1 else (Pure.laws_heldFloat32S_L0 real (marks .f32 1 m) (m + 1) 1 0).2.2.1) = _
  change (Pure.laws_heldFloat32S_L0 real (marks .f32 1 m) (m + 1) 1 0).1 = true at h1
  change (Pure.laws_heldFloat32S_L0 real (marks .f32 1 m) (m + 1) 1 0).2.1 = false at h2
  change (Pure.laws_heldFloat32S_L0 real (marks .f32 1 m) (m + 1) 1 0).2.2.1 = _ at h3
  rw [h1, h2, h3]; exact ⟨rfl, rfl⟩

theorem law_FnExactGrowOrbit (x0 x1 x2 x3 : Int) (_ : OkF .f32 x0) (_ : OkF .f32 x1) (_ : IntKind.i64.has x2) (_ : IntKind.i64.has x3) : Pure.laws_FnExactGrowOrbit_ok real x0 x1 x2 x3 = true ∧ Pure.laws_FnExactGrowOrbit real x0 x1 x2 x3 = true := by
  obtain ⟨b, l, g1, g2, g3, g4, g5, g6, g7, _⟩ := grow_is x0 x1 x2 x3
  unfold Pure.laws_FnExactGrowOrbit_ok Pure.laws_FnExactGrowOrbit Pure.spec_GrowOrbit_ok
  rw [g1, g2, g3, g4, g5, g6]
  obtain ⟨e1, e2⟩ := eqF32_refl l (by omega)
  obtain ⟨m1, m2, m3⟩ := mark_eq l (by omega)
  obtain ⟨h1, h2⟩ := held_eq l.length (by omega)
  rw [e1, e2, m1, m2, m3, h1, h2]
  have : decide ((1 : Int) + l.length < 0) = false := by simp; omega
  rw [this]
  simp

theorem abs_num {k : FloatKind} {x : Int} (h : Num k x) : Num k (real.abs k x) ∧ fv k (real.abs k x) = (fv k x).natAbs := by
  have hs := k.format.infRung_lt
  have hw := sw_pos k
  have e : real.abs k x = (k.format.word false (rg k x) : Nat) := by
    show rAbs k x = _
    unfold rAbs
    have e1 : x.toNat % k.format.signWeight = k.format.word false (rg k x) := rfl
    rw [e1, cf_of_num]
    have := (word_num (k := k) (b := false) h.num).notNaN
    rwa [Int.toNat_natCast] at this
  rw [e]
  refine ⟨word_num h.num, ?_⟩
  rw [word_fv h.num]
  unfold fv
  rw [sg_abs]; rfl

theorem bin_ok (op : BinOp) (k : FloatKind) (x y : Int) : OkF k (real.bin op k x y) := by
  show OkF k (rBin op k x y)
  unfold rBin
  cases h : floatBits op k x.toNat y.toNat with
  | none => exact ⟨nanOf k, by rw [cf_of_nan (isNaNb_nanOf k)]; rfl, by cases k <;> (show _ < _; decide)⟩
  | some r =>
    refine ⟨r, by rw [cf_of_num (floatBits_notNaN h)]; rfl, ?_⟩
    have := floatBits_wf h
    cases k <;> simpa [Lit.wf, FloatKind.has] using this

theorem leq_nan {k : FloatKind} {x y : Int} (h : isNaNb k y.toNat = true) : real.cmp .leq k x y = false := by
  show cmpOf .leq (k.format.order x.toNat y.toNat) = false
  rw [order_nan_right h]; rfl

/-- Near in absolute value, or both ways. -/
theorem abs_leq {d r : Int} (hd : Num .f32 d) (hr : OkF .f32 r) : real.cmp .leq .f32 (real.abs .f32 d) r = (real.cmp .leq .f32 d r && real.cmp .leq .f32 (real.neg .f32 d) r) := by
  cases hn : isNaNb .f32 r.toNat with
  | true => rw [leq_nan hn, leq_nan hn]; rfl
  | false =>
    have hr' := okF_num hr hn
    obtain ⟨a1, a2⟩ := abs_num hd
    obtain ⟨n1, n2, _⟩ := neg_num hd
    rw [cmp_leq a1 hr', cmp_leq hd hr', cmp_leq n1 hr', a2, n2, ← Bool.decide_and]
    congr 1
    exact propext ⟨fun h => by omega, fun h => by omega⟩

theorem gro_ok {r x : Int} (hx : OkF .f32 x) : ∀ k, OkF .f32 (gro r x k)
  | 0 => hx
  | _ + 1 => bin_ok _ _ _ _

theorem period_loops (near : Int) (hn : OkF .f32 near) (l : List (List Int)) (most : Int) (hl : (l.length : Int) = most + 1) (hm : 1 ≤ most) (hb : most ≤ 64) (hfin : ∀ i, i < l.length → Fin .f32 ((l.getD i []).getD 0 0)) :
    ∀ (n1 n2 i : Nat), i ≤ l.length → l.length - i < n1 → l.length - i < n2 → (Pure.impl_PeriodOf_L0 real near most l n1 i) = (Pure.spec_PeriodOf_L0 real near l n2 i) ∧ (Pure.spec_PeriodOf_L0 real near l n2 i).1 = true := by
  intro n1
  induction n1 with
  | zero => intro n2 i _ h; omega
  | succ n1 ih =>
    intro n2 i hi h1 h2
    cases n2 with
    | zero => omega
    | succ n2 =>
      unfold Pure.impl_PeriodOf_L0 Pure.spec_PeriodOf_L0
      rcases Nat.lt_or_ge i l.length with h | h
      · have e1 : decide ((i : Int) < Int.ofNat l.length) = true := by simp; exact h
        have e2 : decide (0 ≤ (i : Int)) = true := by simp
        have e3 : decide ((i : Int) ≤ most) = true := by simp; omega
        have e4 : decide ((0 : Int) < Int.ofNat l.length) = true := by simp; omega
        rw [e1, e2, e3, e4, wrap64 (n := (i : Int) + 1) (by omega) (by omega), Int.toNat_natCast]
        simp only [cond_true]
        have hd : Num .f32 (real.bin .sub .f32 ((l.getD i []).getD 0 0) ((l.getD 0 []).getD 0 0)) := (sub_rounds (hfin i h) (hfin 0 (by omega))).num
        rw [abs_leq hd hn]
        have := ih n2 (i + 1) (by omega) (by omega) (by omega)
        rw [Int.natCast_add] at this
        cases real.cmp .leq .f32 (real.bin .sub .f32 ((l.getD i []).getD 0 0) ((l.getD 0 []).getD 0 0)) near with
        | false => exact this
        | true =>
          cases real.cmp .leq .f32 (real.neg .f32 (real.bin .sub .f32 ((l.getD i []).getD 0 0) ((l.getD 0 []).getD 0 0))) near with
          | false => exact this
          | true => exact ⟨rfl, rfl⟩
      · have e1 : decide ((i : Int) < Int.ofNat l.length) = false := by simp; exact h
        have e3 : decide ((i : Int) ≤ most) = false := by simp; omega
        rw [e1, e3]
        exact ⟨rfl, rfl⟩

theorem law_FnExactPeriodOf (x0 x1 x2 x3 x4 : Int) (h0 : OkF .f32 x0) (_ : OkF .f32 x1) (h2 : OkF .f32 x2) (_ : IntKind.i64.has x3) (_ : IntKind.i64.has x4) : Pure.laws_FnExactPeriodOf_ok real x0 x1 x2 x3 x4 = true ∧ Pure.laws_FnExactPeriodOf real x0 x1 x2 x3 x4 = true := by
  unfold Pure.laws_FnExactPeriodOf_ok Pure.laws_FnExactPeriodOf Pure.spec_PeriodOf_ok Pure.impl_PeriodOf_ok Pure.spec_PeriodOf Pure.impl_PeriodOf Pure.spec_PeriodOf_1 Pure.impl_PeriodOf_1
  have ei : Pure.spec_l00In real x4 1 64 = Pure.impl_in real x4 1 64 := rfl
  rw [ei]
  cases h3 : Pure.impl_in real x4 1 64 with
  | false => exact ⟨rfl, rfl⟩
  | true =>
    have b4 : 1 ≤ x4 ∧ x4 ≤ 64 := by unfold Pure.impl_in at h3; cases h : decide (x4 ≥ 1) <;> rw [h] at h3 <;> simp at h h3; omega
    have w : IntKind.wrap .i64 (x4 + 1) = x4 + 1 := wrap64 (by omega) (by omega)
    obtain ⟨b, l, g1, g2, g3, g4, g5, g6, g7, g8⟩ := grow_is x0 x1 x3 (x4 + 1)
    rw [w, g1, g2, g3, g4, g5, g6]
    cases b with
    | false => exact ⟨rfl, rfl⟩
    | true =>
      obtain ⟨k1, k2, k3, a, c, k4, k5⟩ := g8 rfl
      have hfin : ∀ i, i < l.length → Fin .f32 ((l.getD i []).getD 0 0) := fun i hi => by
        have hl : i + c < a := by rw [k4, List.length_drop, grow_len] at hi; omega
        have : l.getD i [] = [gro x1 x0 (c + i)] := by
          rw [k4, List.getD_eq_getElem?_getD, List.getElem?_drop, ← List.getD_eq_getElem?_getD]
          exact grow_get x1 x0 (by omega)
        rw [this]
        exact (finite_iff (gro_ok h0 _)).1 (k5 _ (by omega))
      obtain ⟨p1, p2⟩ := period_loops x2 h2 l x4 (by omega) (by omega) (by omega) hfin ((x4 - 1 + 2).toNat) ((Int.ofNat l.length - 1 + 1).toNat) 1 (by omega) (by omega) (by have : Int.ofNat l.length = (l.length : Int) := rfl; omega)
      simp only [cond_true]
      change Pure.impl_PeriodOf_L0 real x2 x4 l ((x4 - 1 + 2).toNat) 1 = Pure.spec_PeriodOf_L0 real x2 l ((Int.ofNat l.length - 1 + 1).toNat) 1 at p1
      change (Pure.spec_PeriodOf_L0 real x2 l ((Int.ofNat l.length - 1 + 1).toNat) 1).1 = true at p2
      rw [p1, p2]
      simp
end Go.Fx
