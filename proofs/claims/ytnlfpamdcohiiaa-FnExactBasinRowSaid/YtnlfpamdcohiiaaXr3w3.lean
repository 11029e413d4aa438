import Derived.Test.YtnlfpamdcohiiaaXr3i
import Derived.Test.YtnlfpamdcohiiaaXr3x
namespace Go.Fx
/-- The marks of whole numbers. -/
def marksI (n : Nat) : List (List Int) := (List.range n).map fun (i : Nat) => [1 + (i : Int)]

theorem marksI_get {n i : Nat} (h : i < n) : (marksI n).getD i [] = [1 + (i : Int)] := by
  rw [getD_some (by simp [marksI]; exact h)]; simp [marksI]

theorem eqInt64S_refl (xs : List (List Int)) (hl : xs.length < 4611686018427387904) : Pure.laws_eqInt64S_ok real xs xs = true ∧ Pure.laws_eqInt64S real xs xs = true := by
  have hne : ∀ a : Int, (a != a) = false := fun a => by simp
  have key := iter_all xs.length (fun _ => true) (fun n i => Pure.laws_eqInt64S_L0 real xs xs n i) (true, false) (false, false) (fun n i h => by
      conv => lhs; unfold Pure.laws_eqInt64S_L0
      rw [dec_lt h, dec_nn, hne, wrap_succ (by omega)]; rfl) (fun n => by
      conv => lhs; unfold Pure.laws_eqInt64S_L0
      rw [dec_ge (Nat.le_refl _)]; rfl) (xs.length + 1) 0 (by omega) (by omega)
  have hu : upAll xs.length (fun _ => true) 0 = true := by unfold upAll; rw [List.all_eq_true]; intro _ _; rfl
  rw [hu] at key
  unfold Pure.laws_eqInt64S_ok Pure.laws_eqInt64S
  have e : ((Int.ofNat xs.length != Int.ofNat xs.length)) = false := by simp
  rw [e]
  change (Pure.laws_eqInt64S_L0 real xs xs (xs.length + 1) 0).1 = true ∧ (bif (Pure.laws_eqInt64S_L0 real xs xs (xs.length + 1) 0).2 then false else true) = true
  change Pure.laws_eqInt64S_L0 real xs xs (xs.length + 1) 0 = _ at key
  rw [key]; exact ⟨rfl, rfl⟩

theorem markInt64S_loop : ∀ (n : Nat) (i : Nat) (xs : List (List Int)), i ≤ xs.length → xs.length - i < n → xs.length < 1000000000 →
    (∀ j, j < i → xs.getD j [] = [1 + (j : Int)]) →
    Pure.laws_markInt64S_L0 real n (1 + (i : Int)) i xs = (true, 1 + (xs.length : Int), marksI xs.length) := by
  intro n
  induction n with
  | zero => intro i xs _ h; omega
  | succ n ih =>
    intro i xs hi hn hb hx
    unfold Pure.laws_markInt64S_L0
    rcases Nat.lt_or_ge i xs.length with h | h
    · rw [dec_lt h, dec_nn, Int.toNat_natCast, wrap_succ (by omega), wrap64 (n := 1 + (i : Int) + 1) (by omega) (by omega)]
      simp only [cond_true]
      have := ih (i + 1) (xs.set i [1 + (i : Int)]) (by simp; omega) (by simp; omega) (by simpa using hb) (fun j hj => by
        rw [List.getD_eq_getElem?_getD, List.getElem?_set]
        by_cases hij : i = j
        · subst hij; simp [h]
        · rw [if_neg hij, ← List.getD_eq_getElem?_getD]; exact hx j (by omega))
      rw [List.length_set] at this
      rw [show 1 + (i : Int) + 1 = 1 + ((i + 1 : Nat) : Int) by omega]
      exact this
    · rw [dec_ge h]
      have hil : i = xs.length := by omega
      subst hil
      have : xs = marksI xs.length := by
        apply List.ext_getElem
        · simp [marksI]
        · intro j h1 h2
          have := hx j h1
          rw [getD_some h1] at this
          rw [this]; simp [marksI]
      simp only [cond_false]
      rw [← this]

theorem markInt64S_eq (xs : List (List Int)) (hl : xs.length < 1000000000) : Pure.laws_markInt64S_ok real xs 1 = true ∧ Pure.laws_markInt64S real xs 1 = 1 + (xs.length : Int) ∧ Pure.laws_markInt64S_1 real xs 1 = marksI xs.length := by
  have := markInt64S_loop (xs.length + 1) 0 xs (by omega) (by omega) hl (fun j hj => by omega)
  have e : (1 : Int) + ((0 : Nat) : Int) = 1 := rfl
  rw [e] at this
  unfold Pure.laws_markInt64S_ok Pure.laws_markInt64S Pure.laws_markInt64S_1
  change (Pure.laws_markInt64S_L0 real (xs.length + 1) 1 0 xs).1 = true ∧ (Pure.laws_markInt64S_L0 real (xs.length + 1) 1 0 xs).2.1 = _ ∧ (Pure.laws_markInt64S_L0 real (xs.length + 1) 1 0 xs).2.2 = _
  change Pure.laws_markInt64S_L0 real (xs.length + 1) 1 0 xs = _ at this
  rw [this]; exact ⟨rfl, rfl, rfl⟩

theorem heldInt64S_eq (m : Nat) (hm : m < 1000000000) : Pure.laws_heldInt64S_ok real (marksI m) 1 = true ∧ Pure.laws_heldInt64S real (marksI m) 1 = 1 + (m : Int) := by
  have hlen : (marksI m).length = m := by simp [marksI]
  have key : ∀ (n i : Nat), i ≤ m → m - i < n → (Pure.laws_heldInt64S_L0 real (marksI m) n (1 + (i : Int)) i).1 = true ∧ (Pure.laws_heldInt64S_L0 real (marksI m) n (1 + (i : Int)) i).2.1 = false ∧ (Pure.laws_heldInt64S_L0 real (marksI m) n (1 + (i : Int)) i).2.2.1 = 1 + (m : Int) := by
    intro n
    induction n with
    | zero => intro i _ h; omega
    | succ n ih =>
      intro i hi hn
      unfold Pure.laws_heldInt64S_L0
      rcases Nat.lt_or_ge i m with h | h
      · have e0 : ∀ a : Int, List.getD [a] 0 0 = a := fun _ => rfl
        have hne : ∀ a : Int, (a != a) = false := fun a => by simp
        rw [dec_lt (show i < (marksI m).length by omega), dec_nn, Int.toNat_natCast, marksI_get h, wrap_succ (by omega), wrap64 (n := 1 + (i : Int) + 1) (by omega) (by omega), e0, hne]
        simp only [cond_true, cond_false]
        rw [show 1 + (i : Int) + 1 = 1 + ((i + 1 : Nat) : Int) by omega]
        exact ih (i + 1) (by omega) (by omega)
      · rw [dec_ge (show (marksI m).length ≤ i by omega)]
        have : i = m := by omega
        subst this
        exact ⟨rfl, rfl, rfl⟩
  obtain ⟨h1, h2, h3⟩ := key (m + 1) 0 (by omega) (by omega)
  unfold Pure.laws_heldInt64S_ok Pure.laws_heldInt64S
  rw [hlen]
  change (Pure.laws_heldInt64S_L0 real (marksI m) (m + 1) 1 0).1 = true ∧ (bif (Pure.laws_heldInt64S_L0 real (marksI m) (m + 1) 1 0).2.1 then -1 else (Pure.laws_heldInt64S_L0 real (marksI m) (m + 1) 1 0).2.2.1) = _
  change (Pure.laws_heldInt64S_L0 real (marksI m) (m + 1) 1 0).1 = true at h1
  change (Pure.laws_heldInt64S_L0 real (marksI m) (m + 1) 1 0).2.1 = false at h2
  change (Pure.laws_heldInt64S_L0 real (marksI m) (m + 1) 1 0).2.2.1 = _ at h3
  rw [h1, h2, h3]; exact ⟨rfl, rfl⟩


/-! ### rows of basins -/
def leB (e : Nat) (x : Int) : Bool := decide (0 ≤ x) && decide (x.toNat < 2 * FloatKind.f32.format.signWeight) && decide (rg .f32 x < FloatKind.f32.format.infRung) && decide ((fv .f32 x).natAbs ≤ 2 ^ e * unit .f32)
def turnB (x : Int) : Bool := leB 0 x && decide (0 ≤ fv .f32 x) && decide (fv .f32 x < unit .f32)
theorem turns_ok : ((List.range 33).all fun w => (List.range w).all fun x => turnB (real.bin .quo .f32 (real.ofInt .f32 (x : Nat)) (real.ofInt .f32 (w : Nat)))) = true := by decide +kernel
theorem kicks_ok : ((List.range 33).all fun w => (List.range w).all fun x => leB 22 (real.bin .sub .f32 (real.bin .quo .f32 (real.ofInt .f32 (x : Nat)) (real.ofInt .f32 (w : Nat))) 1056964608)) = true := by decide +kernel

theorem turn_of {x w : Nat} (h : x < w) (hw : w ≤ 32) : Turn (real.bin .quo .f32 (real.ofInt .f32 x) (real.ofInt .f32 w)) := by
  have h1 := turns_ok
  rw [List.all_eq_true] at h1
  have h2 := h1 w (List.mem_range.2 (by omega))
  rw [List.all_eq_true] at h2
  have h3 := h2 x (List.mem_range.2 h)
  unfold turnB at h3
  simp only [Bool.and_eq_true, decide_eq_true_eq] at h3
  exact ⟨(Le.const (k := .f32) (e := 0) h3.1.1).1, h3.1.2, h3.2⟩

theorem kick_of {x w : Nat} (h : x < w) (hw : w ≤ 32) : Le .f32 22 (real.bin .sub .f32 (real.bin .quo .f32 (real.ofInt .f32 x) (real.ofInt .f32 w)) 1056964608) := by
  have h1 := kicks_ok
  rw [List.all_eq_true] at h1
  have h2 := h1 w (List.mem_range.2 (by omega))
  rw [List.all_eq_true] at h2
  exact Le.const (h2 x (List.mem_range.2 h))

/-- The rests of a row, from the place 'i' on. -/
def rowR (w : Nat) (k s q n p : Int) : Nat → Nat → List (List Int)
  | 0, _ => []
  | m + 1, i => [Pure.impl_State_rest real (real.bin .quo .f32 (real.ofInt .f32 (i : Nat)) (real.ofInt .f32 (w : Nat))) k s q n p] :: rowR w k s q n p m (i + 1)

theorem rowR_len (w : Nat) (k s q n p : Int) : ∀ (m i : Nat), (rowR w k s q n p m i).length = m
  | 0, _ => rfl
  | m + 1, i => by simp [rowR, rowR_len w k s q n p m]

theorem row_loops {y w h : Nat} {s q n p : Int} (hy : y < h) (hh : h ≤ 32) (hw : w ≤ 32) (hs : Le .f32 2 s) (hq : Le .f32 0 q) (hn : 0 ≤ n ∧ n ≤ 128) (hp : 1 ≤ p ∧ p ≤ 16) :
    ∀ (m i f1 f2 : Nat) (acc : List (List Int)), i + m = w → m < f1 → m < f2 → acc.length + m < 1000000 →
    Pure.spec_l07Row_L0 real w s q n p (Pure.impl_WrapKick real (real.bin .sub .f32 (real.bin .quo .f32 (real.ofInt .f32 (y : Nat)) (real.ofInt .f32 (h : Nat))) 1056964608)) f1 i acc = (true, acc ++ rowR w (Pure.impl_WrapKick real (real.bin .sub .f32 (real.bin .quo .f32 (real.ofInt .f32 (y : Nat)) (real.ofInt .f32 (h : Nat))) 1056964608)) s q n p m i) ∧
    Pure.impl_basinRow_L0 real y w h s q n p w f2 i acc = (true, acc ++ rowR w (Pure.impl_WrapKick real (real.bin .sub .f32 (real.bin .quo .f32 (real.ofInt .f32 (y : Nat)) (real.ofInt .f32 (h : Nat))) 1056964608)) s q n p m i) := by
  obtain ⟨_, _, k3, k4⟩ := kick_is (kick_of hy hh)
  intro m
  induction m with
  | zero =>
    intro i f1 f2 acc hi h1 h2 _
    match f1, f2, h1, h2 with
    | f1 + 1, f2 + 1, _, _ =>
      unfold Pure.spec_l07Row_L0 Pure.impl_basinRow_L0
      rw [dec_ge' (show w ≤ i by omega)]
      simp [rowR]
  | succ m ih =>
    intro i f1 f2 acc hi h1 h2 hl
    match f1, f2, h1, h2 with
    | f1 + 1, f2 + 1, h1, h2 =>
      obtain ⟨r1, r2, r3⟩ := rest_is (turn_of (show i < w by omega) hw) k4 hs hq hn hp
      have e2 : decide (acc.length.succ ≤ 1073741824) = true := by simp; omega
      unfold Pure.spec_l07Row_L0 Pure.impl_basinRow_L0
      rw [dec_lt' (show i < w by omega), r1, r2, r3, k3, e2, wrap_succ (by omega)]
      simp only [cond_true]
      obtain ⟨g1, g2⟩ := ih (i + 1) f1 f2 (acc ++ [[Pure.impl_State_rest real (real.bin .quo .f32 (real.ofInt .f32 (i : Nat)) (real.ofInt .f32 (w : Nat))) (Pure.impl_WrapKick real (real.bin .sub .f32 (real.bin .quo .f32 (real.ofInt .f32 (y : Nat)) (real.ofInt .f32 (h : Nat))) 1056964608)) s q n p]]) (by omega) (by omega) (by omega) (by simp; omega)
      rw [g1, g2]
      simp [rowR]

theorem law_FnExactBasinRow (x0 x1 x2 x3 x4 x5 x6 : Int) (_ : IntKind.i64.has x0) (_ : IntKind.i64.has x1) (_ : IntKind.i64.has x2) (h3 : OkF .f32 x3) (h4 : OkF .f32 x4) (_ : IntKind.i64.has x5) (_ : IntKind.i64.has x6) :
    Pure.laws_FnExactBasinRow_ok real x0 x1 x2 x3 x4 x5 x6 = true ∧ Pure.laws_FnExactBasinRow real x0 x1 x2 x3 x4 x5 x6 = true := by
  have hi : ∃ l, l.length ≤ 1000 ∧ Pure.spec_BasinRow_ok real x0 x1 x2 x3 x4 x5 x6 = true ∧ Pure.impl_BasinRow_ok real x0 x1 x2 x3 x4 x5 x6 = true ∧ Pure.spec_BasinRow_1 real x0 x1 x2 x3 x4 x5 x6 = l ∧ Pure.impl_BasinRow_1 real x0 x1 x2 x3 x4 x5 x6 = l ∧ Pure.spec_BasinRow real x0 x1 x2 x3 x4 x5 x6 = Pure.impl_BasinRow real x0 x1 x2 x3 x4 x5 x6 := by
    have ei : ∀ a b c, Pure.spec_l00In real a b c = Pure.impl_in real a b c := fun a b c => rfl
    unfold Pure.spec_BasinRow_ok Pure.impl_BasinRow_ok Pure.spec_BasinRow Pure.impl_BasinRow Pure.spec_BasinRow_1 Pure.impl_BasinRow_1 Pure.spec_l07Grid
    rw [can_is, ei, ei, ei]
    cases ha : Pure.impl_in real x1 1 32 with
    | false => exact ⟨[], by simp, rfl, rfl, rfl, rfl, rfl⟩
    | true =>
      cases hb : Pure.impl_in real x2 1 32 with
      | false => exact ⟨[], by simp, rfl, rfl, rfl, rfl, rfl⟩
      | true =>
        have ha := in_iff.1 ha
        have hb := in_iff.1 hb
        rw [wrap64 (n := x2 - 1) (by omega) (by omega)]
        cases hc : Pure.impl_in real x0 0 (x2 - 1) with
        | false => exact ⟨[], by simp, rfl, rfl, rfl, rfl, rfl⟩
        | true =>
          cases hr : Pure.impl_restOk real x3 x4 x5 x6 with
          | false => exact ⟨[], by simp, rfl, rfl, rfl, rfl, rfl⟩
          | true =>
            have hc := in_iff.1 hc
            obtain ⟨r1, r2, r3, r4⟩ := restOk_is h3 h4 hr
            obtain ⟨y, rfl⟩ : ∃ n : Nat, x0 = n := ⟨x0.toNat, by omega⟩
            obtain ⟨w, rfl⟩ : ∃ n : Nat, x1 = n := ⟨x1.toNat, by omega⟩
            obtain ⟨h, rfl⟩ : ∃ n : Nat, x2 = n := ⟨x2.toNat, by omega⟩
            obtain ⟨g1, g2⟩ := row_loops (y := y) (w := w) (h := h) (by omega) (by omega) (by omega) r1 r2 r3 r4 w 0 (((w : Int) - 0 + 1).toNat) (((w : Int) - 0 + 1).toNat) [] (by omega) (by omega) (by omega) (by simp; omega)
            obtain ⟨k1, k2, _, _⟩ := kick_is (kick_of (x := y) (w := h) (by omega) (by omega))
            refine ⟨rowR w (Pure.impl_WrapKick real (real.bin .sub .f32 (real.bin .quo .f32 (real.ofInt .f32 (y : Nat)) (real.ofInt .f32 (h : Nat))) 1056964608)) x3 x4 x5 x6 w 0, by rw [rowR_len]; omega, ?_⟩
            unfold Pure.spec_l07Row_ok Pure.impl_basinRow_ok Pure.spec_l07Row Pure.impl_basinRow
            rw [k1, k2]
            have g1' := g1
            have g2' := g2
            change Pure.spec_l07Row_L0 real (w : Int) x3 x4 x5 x6 _ _ 0 [] = _ at g1'
            change Pure.impl_basinRow_L0 real (y : Int) (w : Int) (h : Int) x3 x4 x5 x6 (w : Int) _ 0 [] = _ at g2'
            rw [g1', g2']
            exact ⟨rfl, rfl, rfl, rfl, rfl⟩
  obtain ⟨l, hl, i1, i2, i3, i4, i5⟩ := hi
  obtain ⟨e1, e2⟩ := eqInt64S_refl l (by omega)
  obtain ⟨k1, k2, k3⟩ := markInt64S_eq l (by omega)
  obtain ⟨g1, g2⟩ := heldInt64S_eq l.length (by omega)
  unfold Pure.laws_FnExactBasinRow_ok Pure.laws_FnExactBasinRow
  rw [i1, i2, i3, i4, i5, e1, e2, k1, k2, k3, g1, g2]
  have d1 : decide ((1 : Int) + (l.length : Int) < 0) = false := by simp; omega
  rw [d1]
  simp
end Go.Fx
