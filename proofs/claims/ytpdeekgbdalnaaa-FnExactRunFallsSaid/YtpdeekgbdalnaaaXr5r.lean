import Derived.Test.YtpdeekgbdalnaaaXr5x
import Derived.Test.YtpdeekgbdalnaaaXr5k
import Derived.Test.YtpdeekgbdalnaaaXr5v
import Derived.Test.YtpdeekgbdalnaaaXFin
namespace Go.Fx
/-- The marks of rows of 3. -/
def marks3 (n : Nat) : List (List Int) := (List.range n).map fun (i : Nat) => [real.ofInt .f32 (1 + 3 * i), real.ofInt .f32 (2 + 3 * i), real.ofInt .f32 (3 + 3 * i)]

theorem marks3_get {n i : Nat} (h : i < n) : (marks3 n).getD i [] = [real.ofInt .f32 (1 + 3 * i), real.ofInt .f32 (2 + 3 * i), real.ofInt .f32 (3 + 3 * i)] := by
  rw [getD_some (by simp [marks3]; exact h)]; simp [marks3]

theorem set3 {ys : List (List Int)} {i : Nat} {a b c : Int} (h : i < ys.length) (h3 : (ys.getD i []).length = 3) :
    List.set (List.set (List.set ys i (setFrom (List.getD ys i []) 0 [a])) i (setFrom (List.getD (List.set ys i (setFrom (List.getD ys i []) 0 [a])) i []) 1 [b])) i (setFrom (List.getD (List.set (List.set ys i (setFrom (List.getD ys i []) 0 [a])) i (setFrom (List.getD (List.set ys i (setFrom (List.getD ys i []) 0 [a])) i []) 1 [b])) i []) 2 [c]) = ys.set i [a, b, c] := by
  have e0 : ∀ (l : List (List Int)) (r : List Int), i < l.length → List.getD (List.set l i r) i [] = r := fun l r h => getD_set_self h
  rw [e0 ys _ h]
  rw [e0 _ _ (by rw [List.length_set]; exact h)]
  rw [List.set_set, List.set_set]
  congr 1
  revert h3
  generalize ys.getD i [] = r
  intro h3
  match r, h3 with
  | [p0, p1, p2], _ => rfl

theorem eqFallS_refl (xs : List (List Int)) (hl : xs.length < 4611686018427387904) : Pure.laws_eqFallS_ok real xs xs = true ∧ Pure.laws_eqFallS real xs xs = true := by
  have key := iter_all xs.length (fun _ => true) (fun n i => Pure.laws_eqFallS_L0 real xs xs n i) (true, false) (false, false) (fun n i h => by
      conv => lhs; unfold Pure.laws_eqFallS_L0
      rw [dec_lt h, dec_nn, (eqFall_refl _ _ _).1, (eqFall_refl _ _ _).2, wrap_succ (by omega)]; rfl) (fun n => by
      conv => lhs; unfold Pure.laws_eqFallS_L0
      rw [dec_ge (Nat.le_refl _)]; rfl) (xs.length + 1) 0 (by omega) (by omega)
  have hu : upAll xs.length (fun _ => true) 0 = true := by unfold upAll; rw [List.all_eq_true]; intro _ _; rfl
  rw [hu] at key
  unfold Pure.laws_eqFallS_ok Pure.laws_eqFallS
  have e : ((Int.ofNat xs.length != Int.ofNat xs.length)) = false := by simp
  rw [e]
  change (Pure.laws_eqFallS_L0 real xs xs (xs.length + 1) 0).1 = true ∧ (bif (Pure.laws_eqFallS_L0 real xs xs (xs.length + 1) 0).2 then false else true) = true
  change Pure.laws_eqFallS_L0 real xs xs (xs.length + 1) 0 = _ at key
  rw [key]; exact ⟨rfl, rfl⟩

theorem markFallS_loop : ∀ (n : Nat) (i : Nat) (xs : List (List Int)), i ≤ xs.length → xs.length - i < n → xs.length < 1000000000 → (∀ j, j < xs.length → (xs.getD j []).length = 3) →
    (∀ j, j < i → xs.getD j [] = [real.ofInt .f32 (1 + 3 * j), real.ofInt .f32 (2 + 3 * j), real.ofInt .f32 (3 + 3 * j)]) →
    Pure.laws_markFallS_L0 real n (1 + 3 * i) i xs = (true, 1 + 3 * (xs.length : Int), marks3 xs.length) := by
  intro n
  induction n with
  | zero => intro i xs _ h; omega
  | succ n ih =>
    intro i xs hi hn hb h3 hx
    unfold Pure.laws_markFallS_L0
    rcases Nat.lt_or_ge i xs.length with h | h
    · rw [dec_lt h, dec_nn, Int.toNat_natCast]
      simp only [List.length_set]
      rw [dec_lt h, wrap_succ (by omega), set3 h (h3 i h)]
      have w1 : IntKind.wrap .i64 (1 + 3 * (i : Int) + 1) = 2 + 3 * (i : Int) := by rw [wrap64 (by omega) (by omega)]; omega
      have w2 : IntKind.wrap .i64 (2 + 3 * (i : Int) + 1) = 3 + 3 * (i : Int) := by rw [wrap64 (by omega) (by omega)]; omega
      have w3 : IntKind.wrap .i64 (3 + 3 * (i : Int) + 1) = 1 + 3 * ((i + 1 : Nat) : Int) := by rw [wrap64 (by omega) (by omega)]; omega
      rw [w1, w2, w3]
      simp only [cond_true]
      have := ih (i + 1) (xs.set i [real.ofInt .f32 (1 + 3 * i), real.ofInt .f32 (2 + 3 * i), real.ofInt .f32 (3 + 3 * i)]) (by simp; omega) (by simp; omega) (by simpa using hb) (fun j hj => by
        rw [List.length_set] at hj
        rw [List.getD_eq_getElem?_getD, List.getElem?_set]
        by_cases hij : i = j
        · subst hij; simp [h]
        · rw [if_neg hij, ← List.getD_eq_getElem?_getD]; exact h3 j hj) (fun j hj => by
        rw [List.getD_eq_getElem?_getD, List.getElem?_set]
        by_cases hij : i = j
        · subst hij; simp [h]
        · rw [if_neg hij, ← List.getD_eq_getElem?_getD]; exact hx j (by omega))
      rw [List.length_set] at this
      exact this
    · rw [dec_ge h]
      have hil : i = xs.length := by omega
      subst hil
      have : xs = marks3 xs.length := by
        apply List.ext_getElem
        · simp [marks3]
        · intro j h1 h2
          have := hx j h1
          rw [getD_some h1] at this
          rw [this]; simp [marks3]
      simp only [cond_false]
      rw [← this]

theorem markFallS_eq (xs : List (List Int)) (hl : xs.length < 1000000000) (h3 : ∀ j, j < xs.length → (xs.getD j []).length = 3) : Pure.laws_markFallS_ok real xs 1 = true ∧ Pure.laws_markFallS real xs 1 = 1 + 3 * (xs.length : Int) ∧ Pure.laws_markFallS_1 real xs 1 = marks3 xs.length := by
  have := markFallS_loop (xs.length + 1) 0 xs (by omega) (by omega) hl h3 (fun j hj => by omega)
  have e : (1 : Int) + 3 * ((0 : Nat) : Int) = 1 := rfl
  rw [e] at this
  unfold Pure.laws_markFallS_ok Pure.laws_markFallS Pure.laws_markFallS_1
  change (Pure.laws_markFallS_L0 real (xs.length + 1) 1 0 xs).1 = true ∧ (Pure.laws_markFallS_L0 real (xs.length + 1) 1 0 xs).2.1 = _ ∧ (Pure.laws_markFallS_L0 real (xs.length + 1) 1 0 xs).2.2 = _
  change Pure.laws_markFallS_L0 real (xs.length + 1) 1 0 xs = _ at this
  rw [this]; exact ⟨rfl, rfl, rfl⟩

theorem heldFallS_eq (m : Nat) (hm : m < 1000000000) : Pure.laws_heldFallS_ok real (marks3 m) 1 = true ∧ Pure.laws_heldFallS real (marks3 m) 1 = 1 + 3 * (m : Int) := by
  have hlen : (marks3 m).length = m := by simp [marks3]
  have key : ∀ (n i : Nat), i ≤ m → m - i < n → (Pure.laws_heldFallS_L0 real (marks3 m) n (1 + 3 * (i : Int)) i).1 = true ∧ (Pure.laws_heldFallS_L0 real (marks3 m) n (1 + 3 * (i : Int)) i).2.1 = false ∧ (Pure.laws_heldFallS_L0 real (marks3 m) n (1 + 3 * (i : Int)) i).2.2.1 = 1 + 3 * (m : Int) := by
    intro n
    induction n with
    | zero => intro i _ h; omega
    | succ n ih =>
      intro i hi hn
      unfold Pure.laws_heldFallS_L0
      rcases Nat.lt_or_ge i m with h | h
      · rw [dec_lt (show i < (marks3 m).length by omega), dec_nn, Int.toNat_natCast, marks3_get h, wrap_succ (by omega)]
        have w1 : IntKind.wrap .i64 (1 + 3 * (i : Int) + 1) = 2 + 3 * (i : Int) := by rw [wrap64 (by omega) (by omega)]; omega
        have w2 : IntKind.wrap .i64 (2 + 3 * (i : Int) + 1) = 3 + 3 * (i : Int) := by rw [wrap64 (by omega) (by omega)]; omega
        have w3 : IntKind.wrap .i64 (3 + 3 * (i : Int) + 1) = 1 + 3 * ((i + 1 : Nat) : Int) := by rw [wrap64 (by omega) (by omega)]; omega
        have e0 : ∀ a b c : Int, List.getD [a, b, c] 0 0 = a := fun _ _ _ => rfl
        have e1 : ∀ a b c : Int, List.getD [a, b, c] 1 0 = b := fun _ _ _ => rfl
        have e2 : ∀ a b c : Int, List.getD [a, b, c] 2 0 = c := fun _ _ _ => rfl
        rw [w1, w2, w3, e0, e1, e2, ofInt_notNaN, ofInt_notNaN, ofInt_notNaN]
        simp only [cond_true, cond_false]
        exact ih (i + 1) (by omega) (by omega)
      · rw [dec_ge (show (marks3 m).length ≤ i by omega)]
        have : i = m := by omega
        subst this
        exact ⟨rfl, rfl, rfl⟩
  obtain ⟨h1, h2, h3⟩ := key (m + 1) 0 (by omega) (by omega)
  unfold Pure.laws_heldFallS_ok Pure.laws_heldFallS
  rw [hlen]
  change (Pure.laws_heldFallS_L0 real (marks3 m) (m + 1) 1 0).1 = true ∧ (bif (Pure.laws_heldFallS_L0 real (marks3 m) (m + 1) 1 0).2.1 then -1 else (Pure.laws_heldFallS_L0 real (marks3 m) (m + 1) 1 0).2.2.1) = _
  change (Pure.laws_heldFallS_L0 real (marks3 m) (m + 1) 1 0).1 = true at h1
  change (Pure.laws_heldFallS_L0 real (marks3 m) (m + 1) 1 0).2.1 = false at h2
  change (Pure.laws_heldFallS_L0 real (marks3 m) (m + 1) 1 0).2.2.1 = _ at h3
  rw [h1, h2, h3]; exact ⟨rfl, rfl⟩


theorem nextHit_is (x0 x1 x2 x3 x4 x5 x6 x7 x8 : Int) (h6 : OkF .f32 x6) : Pure.spec_NextHit_ok real x0 x1 x2 x3 x4 x5 x6 x7 x8 = true ∧ Pure.impl_NextHit_ok real x0 x1 x2 x3 x4 x5 x6 x7 x8 = true ∧ Pure.spec_NextHit real x0 x1 x2 x3 x4 x5 x6 x7 x8 = Pure.impl_NextHit real x0 x1 x2 x3 x4 x5 x6 x7 x8 ∧ Pure.spec_NextHit_1 real x0 x1 x2 x3 x4 x5 x6 x7 x8 = Pure.impl_NextHit_1 real x0 x1 x2 x3 x4 x5 x6 x7 x8 := by
  obtain ⟨b1, b2⟩ := both_is x0 x1 x2 x3 x4 x5 x6
  have ei : ∀ a b c, Pure.spec_l00In real a b c = Pure.impl_in real a b c := fun a b c => rfl
  have el : Pure.spec_l02Above real x7 = Pure.impl_lengthOk real x7 := rfl
  unfold Pure.spec_NextHit_ok Pure.impl_NextHit_ok Pure.spec_NextHit Pure.impl_NextHit Pure.spec_NextHit_1 Pure.impl_NextHit_1 Pure.spec_l06Can Pure.spec_l06Hit_ok Pure.spec_l06Hit Pure.spec_l06Hit_1
  rw [b1, b2, el, ei]
  cases hb : Pure.impl_fallOk real x0 x1 x2 x3 x4 x5 x6 with
  | false => exact ⟨rfl, rfl, rfl, rfl⟩
  | true =>
    cases hl : Pure.impl_lengthOk real x7 with
    | false => exact ⟨rfl, rfl, rfl, rfl⟩
    | true =>
      cases hc : Pure.impl_in real x8 1 256 with
      | false => exact ⟨rfl, rfl, rfl, rfl⟩
      | true =>
        have hc := in_iff.1 hc
        obtain ⟨N, rfl⟩ : ∃ N : Nat, x8 = N := ⟨x8.toNat, by omega⟩
        have H := hit_loops (tick := x7) hb h6 N (by omega) N 0 (((N : Int) - 1 + 2).toNat) (((N : Int) - 0 + 1).toNat) (by omega) (by omega) (by omega)
        have e0 : ((0 + 1 : Nat) : Int) = 1 := rfl
        have e00 : ((0 : Nat) : Int) = 0 := rfl
        rw [e0, e00] at H
        generalize Pure.spec_l06Hit_L0 real x7 (N : Int) x0 x1 x2 x3 x4 x5 x6 (((N : Int) - 1 + 2).toNat) 1 = s at *
        generalize Pure.impl_NextHit_L0 real x7 (N : Int) x0 x1 x2 x3 x4 x5 x6 (((N : Int) - 0 + 1).toNat) 0 false = p at *
        rcases H with ⟨rfl, p1, p2⟩ | ⟨k, k1, k2, p1, p2, p3, p4, rfl⟩ | ⟨rfl, p1, p2, p4⟩
        · rw [p1, p2]; exact ⟨rfl, rfl, rfl, rfl⟩
        · have hend : (Pure.impl_NextHit_L2 real x0 x1 x2 x3 x4 x5 x6 21 (real.bin .mul .f32 (real.ofInt .f32 ((k : Int) - 1)) x7) (real.bin .mul .f32 (real.ofInt .f32 (k : Int)) x7) 0).1 = true := halve_ends hb h6 20 21 _ _ 0 (by omega) (by omega)
          rw [p1, p2, p3, p4, wrap64 (n := (k : Int) - 1) (by omega) (by omega), hend]
          generalize Pure.impl_NextHit_L2 real x0 x1 x2 x3 x4 x5 x6 21 (real.bin .mul .f32 (real.ofInt .f32 ((k : Int) - 1)) x7) (real.bin .mul .f32 (real.ofInt .f32 (k : Int)) x7) 0 = r
          cases r.2.1 <;> exact ⟨rfl, rfl, rfl, rfl⟩
        · rw [p1, p2, p4]; exact ⟨rfl, rfl, rfl, rfl⟩

theorem fin_mul0 {t x : Int} (ht : Fin .f32 t) (h0 : fv .f32 t = 0) (hx : Fin .f32 x) : Fin .f32 (real.bin .mul .f32 t x) ∧ fv .f32 (real.bin .mul .f32 t x) = 0 := by
  have h := mul_rounds ht hx
  rw [h0] at h
  exact h.exact (has_zero .f32) (by omega)
theorem fin_mul0' {t x : Int} (ht : Fin .f32 t) (h0 : fv .f32 t = 0) (hx : Fin .f32 x) : Fin .f32 (real.bin .mul .f32 x t) ∧ fv .f32 (real.bin .mul .f32 x t) = 0 := by
  have h := mul_rounds hx ht
  rw [h0] at h
  exact h.exact (has_zero .f32) (by omega)
theorem fin_add0 {x t : Int} (hx : Fin .f32 x) (ht : Fin .f32 t) (h0 : fv .f32 t = 0) : Fin .f32 (real.bin .add .f32 x t) := by
  have h := add_rounds hx ht
  exact (h.exact (a := fv .f32 x) ⟨x, hx, rfl⟩ (by omega)).1
theorem fin_sub0 {x t : Int} (hx : Fin .f32 x) (ht : Fin .f32 t) (h0 : fv .f32 t = 0) : Fin .f32 (real.bin .sub .f32 x t) := by
  have h := sub_rounds hx ht
  exact (h.exact (a := fv .f32 x) ⟨x, hx, rfl⟩ (by omega)).1

/-- A time at which the ball's place, speed and time are numbers. -/
def Good (x0 x1 x2 x3 a b c h : Int) : Prop := OkF .f32 h ∧ Pure.spec_l06Fall real (Pure.spec_l06Fly real x0 x1 x2 x3 a b c h) (Pure.spec_l06Fly_1 real x0 x1 x2 x3 a b c h) (Pure.spec_l06Fly_2 real x0 x1 x2 x3 a b c h) = true

theorem table_grav {x0 x1 x2 x3 : Int} (h3 : OkF .f32 x3) (h : Pure.impl_ValidTable real x0 x1 x2 x3 = true) : Fin .f32 x3 := by
  unfold Pure.impl_ValidTable Pure.impl_lengthOk at h
  simp only [Bool.cond_false_right, Bool.and_eq_true] at h
  first | exact fin_of h3 h.2.2.1 | exact fin_of h3 h.2.2.2

theorem good_zero {x0 x1 x2 x3 a b c h : Int} (h3 : OkF .f32 x3) (ha : OkF .f32 a) (hb : OkF .f32 b) (hc : OkF .f32 c) (hf : Pure.impl_fallOk real x0 x1 x2 x3 a b c = true) (hh : Fin .f32 h) (h0 : fv .f32 h = 0) : Good x0 x1 x2 x3 a b c h := by
  obtain ⟨p1, p2, p3, p4⟩ := both_parts hf
  have g := table_grav h3 p1
  have fa := fin_of ha p2
  have fb := fin_of hb p3
  have fc := fin_of hc p4
  refine ⟨hh.okF, ?_⟩
  have m1 := fin_mul0 hh h0 fb
  have hhalf : Fin .f32 1056964608 := f32_half.1
  have e0 : Fin .f32 (Pure.spec_l06Fly_2 real x0 x1 x2 x3 a b c h) := fin_add0 fc hh h0
  have m2 := fin_mul0' hh h0 g
  have e1 : Fin .f32 (Pure.spec_l06Fly_1 real x0 x1 x2 x3 a b c h) := fin_sub0 fb m2.1 m2.2
  have hg : Fin .f32 (real.bin .mul .f32 1056964608 x3) := by
    have hr := mul_rounds hhalf g
    have h1 := g.toNum.fin_iff.1 g
    have h2 := f32_half.2
    have hu : (0 : Int) < (unit .f32 : Int) := by have := unit_pos .f32; omega
    have e : 2 * (fv .f32 1056964608 * fv .f32 x3) = unit .f32 * fv .f32 x3 := by rw [← Int.mul_assoc, h2]
    rcases Int.le_total 0 (fv .f32 x3) with hp | hp
    · have hm := Int.mul_nonneg (Int.le_of_lt hu) hp
      exact (hr.within (has_zero .f32) ⟨x3, g, rfl⟩ (by rw [Int.zero_mul]; omega) (by rw [Int.mul_comm (fv .f32 x3)]; omega)).1
    · have hm := Int.mul_nonneg (Int.le_of_lt hu) (show 0 ≤ -fv .f32 x3 by omega)
      rw [Int.mul_neg] at hm
      exact (hr.within ⟨x3, g, rfl⟩ (has_zero .f32) (by rw [Int.mul_comm (fv .f32 x3)]; omega) (by rw [Int.zero_mul]; omega)).1
  have m3 := fin_mul0' hh h0 hg
  have m4 := fin_mul0' hh h0 m3.1
  have e2 : Fin .f32 (Pure.spec_l06Fly real x0 x1 x2 x3 a b c h) := fin_sub0 (fin_add0 fa m1.1 m1.2) m4.1 m4.2
  unfold Pure.spec_l06Fall
  rw [fin_is, fin_is, fin_is, isFin e0, isFin e1, isFin e2]
  rfl

theorem under_good {x0 x1 x2 x3 a b c h : Int} (hh : OkF .f32 h) (hu : Pure.spec_l06Under_1 real x0 x1 x2 x3 a b c h = true) : Good x0 x1 x2 x3 a b c h := by
  refine ⟨hh, ?_⟩
  unfold Pure.spec_l06Under_1 at hu
  simp only [Bool.cond_false_right, Bool.and_eq_true] at hu
  exact hu.1

theorem halve_good {x0 x1 x2 x3 a b c : Int} : ∀ (f : Nat) (hi lo i : Int), Good x0 x1 x2 x3 a b c lo → (Pure.spec_l06Hit_L2 real x0 x1 x2 x3 a b c f hi lo i).1 = true → (Pure.spec_l06Hit_L2 real x0 x1 x2 x3 a b c f hi lo i).2.1 = false → Good x0 x1 x2 x3 a b c (Pure.spec_l06Hit_L2 real x0 x1 x2 x3 a b c f hi lo i).2.2.1 := by
  intro f
  induction f with
  | zero => intro hi lo i _ h; exact absurd h Bool.false_ne_true
  | succ f ih =>
    intro hi lo i hg
    unfold Pure.spec_l06Hit_L2
    cases decide (i < 20) with
    | false => intro _ _; exact hg
    | true =>
      cases Pure.spec_l06Under_ok real x0 x1 x2 x3 a b c (real.bin .mul .f32 1056964608 (real.bin .add .f32 lo hi)) with
      | false => intro h; exact absurd h Bool.false_ne_true
      | true =>
        cases hu : Pure.spec_l06Under_1 real x0 x1 x2 x3 a b c (real.bin .mul .f32 1056964608 (real.bin .add .f32 lo hi)) with
        | false => intro _ h; exact absurd h.symm Bool.false_ne_true
        | true =>
          cases Pure.spec_l06Under real x0 x1 x2 x3 a b c (real.bin .mul .f32 1056964608 (real.bin .add .f32 lo hi)) with
          | true => exact ih _ _ _ hg
          | false => exact ih _ _ _ (under_good (bin_ok _ _ _ _) hu)

theorem search_good {x0 x1 x2 x3 a b c tick N : Int} : ∀ (f k : Nat), k < 1000000 → Good x0 x1 x2 x3 a b c (real.bin .mul .f32 (real.ofInt .f32 (k : Int)) tick) → N < 1000000 →
    (Pure.spec_l06Hit_L0 real tick N x0 x1 x2 x3 a b c f ((k + 1 : Nat) : Int)).1 = true → (Pure.spec_l06Hit_L0 real tick N x0 x1 x2 x3 a b c f ((k + 1 : Nat) : Int)).2.1 = true → (Pure.spec_l06Hit_L0 real tick N x0 x1 x2 x3 a b c f ((k + 1 : Nat) : Int)).2.2.2 = true →
    Good x0 x1 x2 x3 a b c (Pure.spec_l06Hit_L0 real tick N x0 x1 x2 x3 a b c f ((k + 1 : Nat) : Int)).2.2.1 := by
  intro f
  induction f with
  | zero => intro k _ _ _ h; exact absurd h Bool.false_ne_true
  | succ f ih =>
    intro k hk hg hN
    unfold Pure.spec_l06Hit_L0
    by_cases hle : ((k + 1 : Nat) : Int) ≤ N
    · rw [decide_eq_true hle]
      cases Pure.spec_l06Under_ok real x0 x1 x2 x3 a b c (real.bin .mul .f32 (real.ofInt .f32 ((k + 1 : Nat) : Int)) tick) with
      | false => intro h; exact absurd h Bool.false_ne_true
      | true =>
        cases hu : Pure.spec_l06Under_1 real x0 x1 x2 x3 a b c (real.bin .mul .f32 (real.ofInt .f32 ((k + 1 : Nat) : Int)) tick) with
        | false => intro _ _ h; exact absurd h Bool.false_ne_true
        | true =>
          cases Pure.spec_l06Under real x0 x1 x2 x3 a b c (real.bin .mul .f32 (real.ofInt .f32 ((k + 1 : Nat) : Int)) tick) with
          | false =>
            simp only [cond_true, cond_false]
            rw [wrap_succ (show k + 1 < 4611686018427387904 by omega)]
            exact ih (k + 1) (by omega) (under_good (bin_ok _ _ _ _) hu) hN
          | true =>
            have w : IntKind.wrap .i64 (((k + 1 : Nat) : Int) - 1) = (k : Int) := by rw [wrap64 (by omega) (by omega)]; omega
            rw [w]
            have hv := halve_good (x0 := x0) (x1 := x1) (x2 := x2) (x3 := x3) (a := a) (b := b) (c := c) 21 (real.bin .mul .f32 (real.ofInt .f32 ((k + 1 : Nat) : Int)) tick) (real.bin .mul .f32 (real.ofInt .f32 (k : Int)) tick) 0 hg
            simp only [cond_true]
            generalize Pure.spec_l06Hit_L2 real x0 x1 x2 x3 a b c 21 (real.bin .mul .f32 (real.ofInt .f32 ((k + 1 : Nat) : Int)) tick) (real.bin .mul .f32 (real.ofInt .f32 (k : Int)) tick) 0 = r at *
            cases h1 : r.1 with
            | false => intro h; exact absurd h Bool.false_ne_true
            | true =>
              cases h2 : r.2.1 with
              | true => intro _ _ h; exact absurd h Bool.false_ne_true
              | false => intro _ _ _; exact hv h1 h2
    · rw [decide_eq_false hle]
      intro _ h; exact absurd h Bool.false_ne_true

theorem fly_ok (x0 x1 x2 x3 x4 x5 x6 t : Int) : Pure.impl_FlyFall_ok real x0 x1 x2 x3 x4 x5 x6 t = true := by
  obtain ⟨_, b2⟩ := both_is x0 x1 x2 x3 x4 x5 x6
  unfold Pure.impl_FlyFall_ok
  rw [b2, (impl_finite_eq _ (by simp)).1]
  cases Pure.impl_fallOk real x0 x1 x2 x3 x4 x5 x6 <;> cases Pure.impl_IsFinite real t <;> rfl

theorem bounce_ok (x0 x1 x2 x3 a b c : Int) (hf : Pure.spec_l06Both real x0 x1 x2 x3 a b c = true) : Pure.spec_l06Bounce_ok real x0 x1 x2 x3 a b c = true := by
  have h := (hit_is x0 x1 x2 x3 a b c).1
  unfold Pure.spec_HitFall_ok at h
  rw [hf] at h
  exact h

theorem hit_good {x0 x1 x2 x3 a b c tick n : Int} (h3 : OkF .f32 x3) (ha : OkF .f32 a) (hb : OkF .f32 b) (hc : OkF .f32 c) (hf : Pure.impl_fallOk real x0 x1 x2 x3 a b c = true) (ht : Pure.impl_lengthOk real tick = true) (htk : OkF .f32 tick) (hn : Pure.impl_in real n 1 256 = true)
    (hh : Pure.spec_l06Hit_1 real x0 x1 x2 x3 a b c tick n = true) (hok : Pure.spec_l06Hit_ok real x0 x1 x2 x3 a b c tick n = true) : Good x0 x1 x2 x3 a b c (Pure.spec_l06Hit real x0 x1 x2 x3 a b c tick n) := by
  obtain ⟨n1, n2⟩ := in_iff.1 hn
  have ft : Fin .f32 tick := by
    unfold Pure.impl_lengthOk at ht
    simp only [Bool.cond_false_right, Bool.and_eq_true] at ht
    first | exact fin_of htk ht.1 | exact fin_of htk ht.2
  have z : Fin .f32 (real.ofInt .f32 ((0 : Nat) : Int)) ∧ fv .f32 (real.ofInt .f32 ((0 : Nat) : Int)) = 0 := by
    obtain ⟨z1, z2⟩ := ofInt_fv (k := .f32) (n := ((0 : Nat) : Int)) (by simp)
    exact ⟨z1, by rw [z2]; simp⟩
  have m0 := fin_mul0 z.1 z.2 ft
  have g := search_good (x0 := x0) (x1 := x1) (x2 := x2) (x3 := x3) (a := a) (b := b) (c := c) (tick := tick) (N := n) (Int.toNat ((n - 1) + 2)) 0 (by omega) (good_zero h3 ha hb hc hf m0.1 m0.2) (by omega)
  unfold Pure.spec_l06Hit_1 at hh
  unfold Pure.spec_l06Hit_ok at hok
  unfold Pure.spec_l06Hit
  have e0 : ((0 + 1 : Nat) : Int) = 1 := rfl
  rw [e0] at g
  generalize Pure.spec_l06Hit_L0 real tick n x0 x1 x2 x3 a b c (Int.toNat ((n - 1) + 2)) 1 = r at *
  cases h1 : r.2.1 with
  | false => rw [h1] at hh; cases hh
  | true =>
    rw [h1] at hh
    exact g hok h1 hh

theorem falls_loop {x0 x1 x2 x3 tick n : Int} (h3 : OkF .f32 x3) (htk : OkF .f32 tick) (ht : Pure.impl_lengthOk real tick = true) (hn : Pure.impl_in real n 1 256 = true) (C : Nat) (hC : C < 1000) : ∀ (m k f1 f2 : Nat), k + m = C → m < f1 → m < f2 →
    ∀ (a b c : Int) (acc : List (List Int)), OkF .f32 a → OkF .f32 b → OkF .f32 c → Pure.impl_fallOk real x0 x1 x2 x3 a b c = true → acc.length = k → (∀ r ∈ acc, r.length = 3) →
    Pure.spec_RunFalls_L0 real tick n C x0 x1 x2 x3 f1 k a b c acc = Pure.impl_RunFalls_L0 real tick n C x0 x1 x2 x3 f2 k a b c acc ∧ (Pure.impl_RunFalls_L0 real tick n C x0 x1 x2 x3 f2 k a b c acc).1 = true ∧
    (Pure.impl_RunFalls_L0 real tick n C x0 x1 x2 x3 f2 k a b c acc).2.2.1.length ≤ C ∧ (∀ r ∈ (Pure.impl_RunFalls_L0 real tick n C x0 x1 x2 x3 f2 k a b c acc).2.2.1, r.length = 3) := by
  intro m
  induction m with
  | zero =>
    intro k f1 f2 hk h1 h2 a b c acc _ _ _ _ hl hr
    obtain ⟨f1, rfl⟩ : ∃ g, f1 = g + 1 := ⟨f1 - 1, by omega⟩
    obtain ⟨f2, rfl⟩ : ∃ g, f2 = g + 1 := ⟨f2 - 1, by omega⟩
    unfold Pure.spec_RunFalls_L0 Pure.impl_RunFalls_L0
    rw [dec_ge' (show C ≤ k by omega)]
    exact ⟨rfl, rfl, by simp only [cond_false]; omega, hr⟩
  | succ m ih =>
    intro k f1 f2 hk h1 h2 a b c acc ha hb hc hf hl hr
    obtain ⟨f1, rfl⟩ : ∃ g, f1 = g + 1 := ⟨f1 - 1, by omega⟩
    obtain ⟨f2, rfl⟩ : ∃ g, f2 = g + 1 := ⟨f2 - 1, by omega⟩
    have hboth : Pure.spec_l06Both real x0 x1 x2 x3 a b c = true := (both_is x0 x1 x2 x3 a b c).1.trans hf
    have hcan : Pure.spec_l06Can real x0 x1 x2 x3 a b c tick n = true := by
      have el : Pure.spec_l02Above real tick = Pure.impl_lengthOk real tick := rfl
      have ei : Pure.spec_l00In real n 1 256 = Pure.impl_in real n 1 256 := rfl
      unfold Pure.spec_l06Can
      rw [hboth, el, ei, ht, hn]; rfl
    obtain ⟨q1, q2, q3, q4⟩ := nextHit_is x0 x1 x2 x3 a b c tick n hc
    unfold Pure.spec_NextHit_ok Pure.spec_NextHit Pure.spec_NextHit_1 at *
    rw [hcan] at q1 q3 q4
    simp only [cond_true] at q1 q3 q4
    have stop : (true, true, ([] : List (List Int)), acc) = (true, true, ([] : List (List Int)), acc) ∧ true = true ∧ ([] : List (List Int)).length ≤ C ∧ (∀ r ∈ ([] : List (List Int)), r.length = 3) := ⟨rfl, rfl, by simp, fun r hr => by cases hr⟩
    unfold Pure.spec_RunFalls_L0 Pure.impl_RunFalls_L0
    rw [dec_lt' (show k < C by omega), q1, q2, ← q3, ← q4, fly_ok, (hit_is _ _ _ _ _ _ _).2.1]
    cases hh : Pure.spec_l06Hit_1 real x0 x1 x2 x3 a b c tick n with
    | false => exact stop
    | true =>
      have G := hit_good h3 ha hb hc hf ht htk hn hh q1
      generalize Pure.spec_l06Hit real x0 x1 x2 x3 a b c tick n = h at *
      obtain ⟨G1, G2⟩ := G
      obtain ⟨_, y2, y3⟩ := fly_is hf hc G1
      rw [G2] at y2
      obtain ⟨z1, z2, z3⟩ := y3 y2
      rw [y2, z1, z2, z3]
      obtain ⟨_, _, w1, w2, w3, w4⟩ := hit_is x0 x1 x2 x3 (Pure.spec_l06Fly real x0 x1 x2 x3 a b c h) (Pure.spec_l06Fly_1 real x0 x1 x2 x3 a b c h) (Pure.spec_l06Fly_2 real x0 x1 x2 x3 a b c h)
      have hb2 : Pure.spec_l06Both real x0 x1 x2 x3 (Pure.spec_l06Fly real x0 x1 x2 x3 a b c h) (Pure.spec_l06Fly_1 real x0 x1 x2 x3 a b c h) (Pure.spec_l06Fly_2 real x0 x1 x2 x3 a b c h) = true := by
        unfold Pure.spec_l06Both at hboth ⊢
        cases ht2 : Pure.spec_l06Table real x0 x1 x2 x3 with
        | false => rw [ht2] at hboth; cases hboth
        | true => exact G2
      have hbo := bounce_ok _ _ _ _ _ _ _ hb2
      rw [hbo, ← w1, ← w2, ← w3, ← w4]
      unfold Pure.spec_HitFall Pure.spec_HitFall_1 Pure.spec_HitFall_2 Pure.spec_HitFall_3
      rw [hb2]
      simp only [cond_true]
      cases hq : Pure.spec_l06Fall real (Pure.spec_l06High real x0 x1 x2 x3 (Pure.spec_l06Fly_2 real x0 x1 x2 x3 a b c h)) (Pure.spec_l06Bounce real x0 x1 x2 x3 (Pure.spec_l06Fly real x0 x1 x2 x3 a b c h) (Pure.spec_l06Fly_1 real x0 x1 x2 x3 a b c h) (Pure.spec_l06Fly_2 real x0 x1 x2 x3 a b c h)) (Pure.spec_l06Fly_2 real x0 x1 x2 x3 a b c h) with
      | false => exact stop
      | true =>
        have e1 : decide (Nat.succ acc.length ≤ 1073741824) = true := by simp; omega
        rw [e1, wrap_succ (by omega)]
        simp only [cond_true]
        obtain ⟨o1, o2, o3⟩ := fall_parts hq
        have hf2 : Pure.impl_fallOk real x0 x1 x2 x3 (Pure.spec_l06High real x0 x1 x2 x3 (Pure.spec_l06Fly_2 real x0 x1 x2 x3 a b c h)) (Pure.spec_l06Bounce real x0 x1 x2 x3 (Pure.spec_l06Fly real x0 x1 x2 x3 a b c h) (Pure.spec_l06Fly_1 real x0 x1 x2 x3 a b c h) (Pure.spec_l06Fly_2 real x0 x1 x2 x3 a b c h)) (Pure.spec_l06Fly_2 real x0 x1 x2 x3 a b c h) = true := by
          rw [← (both_is _ _ _ _ _ _ _).1]
          unfold Pure.spec_l06Both at hboth ⊢
          cases ht2 : Pure.spec_l06Table real x0 x1 x2 x3 with
          | false => rw [ht2] at hboth; cases hboth
          | true => exact hq
        exact ih (k + 1) f1 f2 (by omega) (by omega) (by omega) _ _ _ _ (bin_ok _ _ _ _) (bin_ok _ _ _ _) (bin_ok _ _ _ _) hf2 (by simp; omega) (fun r hr2 => by
          rcases List.mem_append.1 hr2 with hr2 | hr2
          · exact hr r hr2
          · rw [List.mem_singleton] at hr2; rw [hr2]; rfl)

theorem falls_is (x0 x1 x2 x3 x4 x5 x6 x7 x8 x9 : Int) (h3 : OkF .f32 x3) (h4 : OkF .f32 x4) (h5 : OkF .f32 x5) (h6 : OkF .f32 x6) (h7 : OkF .f32 x7) : Pure.spec_RunFalls_ok real x0 x1 x2 x3 x4 x5 x6 x7 x8 x9 = true ∧ Pure.impl_RunFalls_ok real x0 x1 x2 x3 x4 x5 x6 x7 x8 x9 = true ∧
    Pure.spec_RunFalls real x0 x1 x2 x3 x4 x5 x6 x7 x8 x9 = Pure.impl_RunFalls real x0 x1 x2 x3 x4 x5 x6 x7 x8 x9 ∧ Pure.spec_RunFalls_1 real x0 x1 x2 x3 x4 x5 x6 x7 x8 x9 = Pure.impl_RunFalls_1 real x0 x1 x2 x3 x4 x5 x6 x7 x8 x9 ∧
    (Pure.impl_RunFalls_1 real x0 x1 x2 x3 x4 x5 x6 x7 x8 x9).length < 1000 ∧ (∀ r ∈ Pure.impl_RunFalls_1 real x0 x1 x2 x3 x4 x5 x6 x7 x8 x9, r.length = 3) := by
  obtain ⟨b1, b2⟩ := both_is x0 x1 x2 x3 x4 x5 x6
  have hin : ∀ a b c, Pure.spec_l00In real a b c = Pure.impl_in real a b c := fun _ _ _ => rfl
  have el : Pure.spec_l02Above real x7 = Pure.impl_lengthOk real x7 := rfl
  have nil : ([] : List (List Int)).length < 1000 ∧ (∀ r ∈ ([] : List (List Int)), r.length = 3) := ⟨by simp, fun r hr => by cases hr⟩
  unfold Pure.spec_RunFalls_ok Pure.impl_RunFalls_ok Pure.spec_RunFalls Pure.impl_RunFalls Pure.spec_RunFalls_1 Pure.impl_RunFalls_1 Pure.spec_l06Can
  rw [b1, b2, el]
  simp only [hin]
  cases hf : Pure.impl_fallOk real x0 x1 x2 x3 x4 x5 x6 with
  | false => exact ⟨rfl, rfl, rfl, rfl, nil⟩
  | true =>
    cases h9 : Pure.impl_in real x9 1 32 with
    | false => cases Pure.impl_lengthOk real x7 <;> cases Pure.impl_in real x8 1 256 <;> exact ⟨rfl, rfl, rfl, rfl, nil⟩
    | true =>
      obtain ⟨c1, c2⟩ := in_iff.1 h9
      obtain ⟨C, rfl⟩ := Int.eq_ofNat_of_zero_le (show 0 ≤ x9 by omega)
      by_cases hc : Pure.impl_lengthOk real x7 = true ∧ Pure.impl_in real x8 1 256 = true
      · rw [hc.1, hc.2]
        obtain ⟨k1, k2, k3, k4⟩ := falls_loop (x0 := x0) (x1 := x1) (x2 := x2) h3 h7 hc.1 hc.2 C (by omega) C 0 (Int.toNat (((C : Int) - 0) + 1)) (Int.toNat (((C : Int) - 0) + 1)) (by omega) (by omega) (by omega) x4 x5 x6 [] h4 h5 h6 hf rfl (fun r hr => by cases hr)
        have e00 : ((0 : Nat) : Int) = 0 := rfl
        rw [e00] at k1 k2 k3 k4
        rw [k1]
        generalize Pure.impl_RunFalls_L0 real x7 x8 C x0 x1 x2 x3 (Int.toNat (((C : Int) - 0) + 1)) 0 x4 x5 x6 [] = r at *
        rw [k2]
        refine ⟨rfl, rfl, rfl, rfl, ?_⟩
        cases r.2.1 with
        | true => exact nil
        | false => exact ⟨by simp only [cond_true, cond_false]; omega, k4⟩
      · -- the first round ends the run
        have hbad : (Pure.impl_RunFalls_L0 real x7 x8 C x0 x1 x2 x3 (Int.toNat (((C : Int) - 0) + 1)) 0 x4 x5 x6 []) = (true, true, [], []) := by
          obtain ⟨g, hg⟩ : ∃ g, Int.toNat (((C : Int) - 0) + 1) = g + 1 := ⟨C, by omega⟩
          rw [hg]
          unfold Pure.impl_RunFalls_L0
          obtain ⟨_, q2, _, _⟩ := nextHit_is x0 x1 x2 x3 x4 x5 x6 x7 x8 h6
          have q5 : Pure.impl_NextHit_1 real x0 x1 x2 x3 x4 x5 x6 x7 x8 = false := by
            unfold Pure.impl_NextHit_1
            rw [hf]
            cases e1 : Pure.impl_lengthOk real x7 with
            | false => rfl
            | true =>
              cases e2 : Pure.impl_in real x8 1 256 with
              | false => rfl
              | true => exact absurd ⟨e1, e2⟩ hc
          rw [decide_eq_true (show (0 : Int) < (C : Int) by omega), q2, fly_ok, (hit_is _ _ _ _ _ _ _).2.1, q5]
          rfl
        rw [hbad]
        have hcf : (bif Pure.impl_lengthOk real x7 then Pure.impl_in real x8 1 256 else false) = false := by
          cases e1 : Pure.impl_lengthOk real x7 with
          | false => rfl
          | true =>
            cases e2 : Pure.impl_in real x8 1 256 with
            | false => rfl
            | true => exact absurd ⟨e1, e2⟩ hc
        simp only [cond_true, hcf, cond_false, true_and]
        exact nil

theorem law_FnExactRunFalls (x0 x1 x2 x3 x4 x5 x6 x7 x8 x9 : Int) (_ : OkF .f32 x0) (_ : OkF .f32 x1) (_ : OkF .f32 x2) (h3 : OkF .f32 x3) (h4 : OkF .f32 x4) (h5 : OkF .f32 x5) (h6 : OkF .f32 x6) (h7 : OkF .f32 x7) (_ : IntKind.i64.has x8) (_ : IntKind.i64.has x9) :
    Pure.laws_FnExactRunFalls_ok real x0 x1 x2 x3 x4 x5 x6 x7 x8 x9 = true ∧ Pure.laws_FnExactRunFalls real x0 x1 x2 x3 x4 x5 x6 x7 x8 x9 = true := by
  obtain ⟨i1, i2, i3, i4, i5, i6⟩ := falls_is x0 x1 x2 x3 x4 x5 x6 x7 x8 x9 h3 h4 h5 h6 h7
  obtain ⟨e3, e4⟩ := eqFallS_refl (Pure.impl_RunFalls_1 real x0 x1 x2 x3 x4 x5 x6 x7 x8 x9) (by omega)
  obtain ⟨m1, m2, m3⟩ := markFallS_eq (Pure.impl_RunFalls_1 real x0 x1 x2 x3 x4 x5 x6 x7 x8 x9) (by omega) (fun j hj => by rw [getD_some hj]; exact i6 _ (List.getElem_mem hj))
  obtain ⟨d1, d2⟩ := heldFallS_eq (Pure.impl_RunFalls_1 real x0 x1 x2 x3 x4 x5 x6 x7 x8 x9).length (by omega)
  unfold Pure.laws_FnExactRunFalls_ok Pure.laws_FnExactRunFalls
  rw [i1, i2, i3, i4, e3, e4, m1, m2, m3, d1, d2]
  have q1 : decide (1 + 3 * ((Pure.impl_RunFalls_1 real x0 x1 x2 x3 x4 x5 x6 x7 x8 x9).length : Int) < 0) = false := by rw [decide_eq_false_iff_not]; omega
  rw [q1]
  simp
end Go.Fx
