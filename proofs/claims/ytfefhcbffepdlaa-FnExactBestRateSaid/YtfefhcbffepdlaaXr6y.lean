import Derived.Test.YtfefhcbffepdlaaXr6x
import Derived.Test.YtfefhcbffepdlaaXr6f
namespace Go.Fx
open Ieee
theorem mx_num {k : FloatKind} {x y : Int} (hx : Num k x) (hy : Num k y) : (real.mx k x y = x ∧ fv k y ≤ fv k x) ∨ (real.mx k x y = y ∧ fv k x ≤ fv k y) := by
  show (rMx k x y = x ∧ fv k y ≤ fv k x) ∨ (rMx k x y = y ∧ fv k x ≤ fv k y)
  unfold rMx
  rw [order_num hx hy]
  rcases Int.lt_trichotomy (fv k x) (fv k y) with h | h | h
  · rw [ordOf_lt h]; exact .inr ⟨rfl, by omega⟩
  · rw [ordOf_eq h]
    by_cases hg : (k.decode x.toNat).neg = true
    · exact .inr ⟨by simp only; rw [if_pos hg], by omega⟩
    · exact .inl ⟨by simp only; rw [if_neg hg], by omega⟩
  · rw [ordOf_gt h]; exact .inl ⟨rfl, by omega⟩

theorem width_fin (xs : List (List Int)) (hl : xs.length < 1000000) (hx : ∀ r ∈ xs, Fin .f32 (r.getD 0 0)) : ∀ (m i f : Nat), i + m = xs.length → m < f → ∀ w, Fin .f32 w → Fin .f32 (Pure.impl_width_L0 real xs.length xs f w i).2 := by
  intro m
  induction m with
  | zero =>
    intro i f hi h1 w hw
    obtain ⟨f, rfl⟩ : ∃ g, f = g + 1 := ⟨f - 1, by omega⟩
    unfold Pure.impl_width_L0
    rw [dec_ge' (show xs.length ≤ i by omega)]
    exact hw
  | succ m ih =>
    intro i f hi h1 w hw
    obtain ⟨f, rfl⟩ : ∃ g, f = g + 1 := ⟨f - 1, by omega⟩
    have h : i < xs.length := by omega
    unfold Pure.impl_width_L0
    rw [dec_lt h, dec_lt' h, dec_nn, Int.toNat_natCast, wrap_succ (by omega), getD_some h]
    have hxf : Fin .f32 (xs[i].getD 0 0) := hx _ (List.getElem_mem h)
    generalize xs[i].getD 0 0 = x at *
    obtain ⟨a1, a2⟩ := abs_num hxf.toNum
    have hb := hxf.toNum.fin_iff.1 hxf
    have haf : Fin .f32 (real.abs .f32 x) := a1.fin_iff.2 (by rw [a2]; omega)
    simp only [cond_true]
    cases real.cmp .gtr .f32 (real.abs .f32 x) w with
    | true => exact ih (i + 1) f (by omega) (by omega) _ haf
    | false => exact ih (i + 1) f (by omega) (by omega) _ hw

theorem resp_fin (x0 x1 x2 x3 x4 x6 x7 x8 x9 x10 : Int) {x5 : Int} (h5 : OkF .f32 x5) : Fin .f32 (Pure.impl_ResponseOf real x0 x1 x2 x3 x4 x5 x6 x7 x8 x9 x10) := by
  unfold Pure.impl_ResponseOf
  have z := f32_zero.1
  cases Pure.impl_in real x9 0 256 with
  | false => exact z
  | true =>
    cases Pure.impl_in real x10 0 (IntKind.wrap .i64 (256 - x9)) with
    | false => exact z
    | true =>
      generalize IntKind.wrap .i64 (x9 + x10) = n
      obtain ⟨_, _, _, _, _, _, _, i8⟩ := runSwing_is x0 x1 x2 x3 x4 x6 x7 x8 n h5
      cases hr : (bif (Pure.spec_l02Both real x0 x1 x2 x3 x4 x5 x6 x7 && Pure.spec_l02Tick real x8) && Pure.impl_in real n 0 256 then runT x0 x1 x2 x3 x4 x8 n.toNat x5 x6 x7 else none) with
      | none =>
        rw [hr] at i8
        have e := i8.1
        rw [e]; exact z
      | some l =>
        rw [hr] at i8
        have e := i8.1
        have e2 := i8.2
        rw [e, e2]
        simp only [cond_true]
        cases hc : (Pure.spec_l02Both real x0 x1 x2 x3 x4 x5 x6 x7 && Pure.spec_l02Tick real x8) && Pure.impl_in real n 0 256 with
        | false => rw [hc] at hr; cases hr
        | true =>
          rw [hc] at hr
          simp only [Bool.and_eq_true] at hc
          have hn := in_iff.1 hc.2
          have hl := runT_len _ _ _ _ _ hr
          have hf := heads_fin (runT_fin _ _ _ _ _ hr)
          have hlen : (List.take ((heads l).length - x9.toNat) (List.drop x9.toNat (heads l))).length < 1000000 := by simp [heads_len]; omega
          unfold Pure.impl_width
          have hw := width_fin (List.take ((heads l).length - x9.toNat) (List.drop x9.toNat (heads l))) hlen (fun r hr => hf r (List.mem_of_mem_drop (List.mem_of_mem_take hr))) (List.take ((heads l).length - x9.toNat) (List.drop x9.toNat (heads l))).length 0 (Nat.succ ((List.take ((heads l).length - x9.toNat) (List.drop x9.toNat (heads l))).length + 0)) (by omega) (by omega) 0 z
          exact hw

theorem scan_fin (x0 x1 x2 x3 b c t s n : Int) {a : Int} (ha : OkF .f32 a) (xs : List (List Int)) (N : Int) : ∀ (f : Nat) (i r : Int) (acc : List (List Int)), (∀ r ∈ acc, Fin .f32 (r.getD 0 0)) → ∀ q ∈ (Pure.impl_ScanRates_L0 real t s n N xs x0 x1 x2 x3 a b c f i r acc).2.2.1, Fin .f32 (q.getD 0 0) := by
  intro f
  induction f with
  | zero => intro i r acc _ q hq; cases hq
  | succ f ih =>
    intro i r acc hacc
    have nil : ∀ q ∈ ([] : List (List Int)), Fin .f32 (q.getD 0 0) := fun q hq => by cases hq
    unfold Pure.impl_ScanRates_L0
    cases decide (i < N) with
    | false => exact hacc
    | true =>
      cases decide (0 ≤ i) with
      | false => exact nil
      | true =>
        cases decide (i < Int.ofNat xs.length) with
        | false => exact nil
        | true =>
          simp only [cond_true]
          generalize (xs.getD i.toNat []).getD 0 0 = q
          cases Pure.impl_ResponseOf_ok real x0 x1 x2 x3 q a b c t s n with
          | false => exact nil
          | true =>
            cases Pure.impl_ResponseOf_1 real x0 x1 x2 x3 q a b c t s n with
            | false => exact nil
            | true =>
              cases decide (Nat.succ acc.length ≤ 1073741824) with
              | false => exact nil
              | true =>
                exact ih _ _ _ (fun r hr => by
                  rcases List.mem_append.1 hr with hr | hr
                  · exact hacc r hr
                  · rw [List.mem_singleton] at hr; rw [hr]; exact resp_fin x0 x1 x2 x3 q b c t s n ha)

theorem scan_len (x0 x1 x2 x3 a b c t s n : Int) (xs : List (List Int)) (hl : xs.length < 1000000) : ∀ (f i : Nat) (r : Int) (acc : List (List Int)), acc.length = i → i ≤ xs.length → (Pure.impl_ScanRates_L0 real t s n xs.length xs x0 x1 x2 x3 a b c f i r acc).1 = true → (Pure.impl_ScanRates_L0 real t s n xs.length xs x0 x1 x2 x3 a b c f i r acc).2.1 = false →
    (Pure.impl_ScanRates_L0 real t s n xs.length xs x0 x1 x2 x3 a b c f i r acc).2.2.1.length = xs.length := by
  intro f
  induction f with
  | zero => intro i r acc _ _ h; exact absurd h Bool.false_ne_true
  | succ f ih =>
    intro i r acc ha hi
    unfold Pure.impl_ScanRates_L0
    rcases Nat.lt_or_ge i xs.length with h | h
    · rw [dec_lt' h, dec_nn, dec_lt h, wrap_succ (by omega), Int.toNat_natCast]
      simp only [cond_true]
      generalize (xs.getD i []).getD 0 0 = q
      cases Pure.impl_ResponseOf_ok real x0 x1 x2 x3 q a b c t s n with
      | false => intro h; exact absurd h Bool.false_ne_true
      | true =>
        cases Pure.impl_ResponseOf_1 real x0 x1 x2 x3 q a b c t s n with
        | false => intro _ h; exact absurd h.symm Bool.false_ne_true
        | true =>
          cases decide (Nat.succ acc.length ≤ 1073741824) with
          | false => intro h; exact absurd h Bool.false_ne_true
          | true => exact ih (i + 1) _ _ (by simp; omega) (by omega)
    · rw [dec_ge' h]
      intro _ _
      simp only [cond_false]
      omega

/-- The value at a place. -/
def vat (l : List (List Int)) (j : Nat) : Int := fv .f32 ((l.getD j []).getD 0 0)

theorem best_loops (x8 l : List (List Int)) (hl : l.length < 1000000) (hf : ∀ r ∈ l, Fin .f32 (r.getD 0 0)) : ∀ (m i f1 f2 b : Nat) (M : Int), i + m = l.length → m < f1 → m < f2 → b < i → Num .f32 M → fv .f32 M = vat l b → (∀ j, j < i → vat l j ≤ vat l b) → (∀ j, j < b → vat l j < vat l b) →
    ∃ (b' : Nat) (M' : Int), Pure.spec_BestRate_L0 real x8 l f1 b i = (true, (b' : Int)) ∧ b' < l.length ∧ Pure.slices_Max_float32_float32_L0 real l f2 M i = (true, M') ∧ Num .f32 M' ∧ fv .f32 M' = vat l b' ∧ (∀ j, j < b' → vat l j < vat l b') := by
  intro m
  induction m with
  | zero =>
    intro i f1 f2 b M hi h1 h2 hb hM hv _ hlt
    obtain ⟨f1, rfl⟩ : ∃ g, f1 = g + 1 := ⟨f1 - 1, by omega⟩
    obtain ⟨f2, rfl⟩ : ∃ g, f2 = g + 1 := ⟨f2 - 1, by omega⟩
    unfold Pure.spec_BestRate_L0 Pure.slices_Max_float32_float32_L0
    rw [dec_ge (show l.length ≤ i by omega)]
    exact ⟨b, M, rfl, by omega, rfl, hM, hv, hlt⟩
  | succ m ih =>
    intro i f1 f2 b M hi h1 h2 hb hM hv hle hlt
    obtain ⟨f1, rfl⟩ : ∃ g, f1 = g + 1 := ⟨f1 - 1, by omega⟩
    obtain ⟨f2, rfl⟩ : ∃ g, f2 = g + 1 := ⟨f2 - 1, by omega⟩
    have h : i < l.length := by omega
    have hb2 : b < l.length := by omega
    have fi : Fin .f32 ((l.getD i []).getD 0 0) := by rw [getD_some h]; exact hf _ (List.getElem_mem h)
    have fb : Fin .f32 ((l.getD b []).getD 0 0) := by rw [getD_some hb2]; exact hf _ (List.getElem_mem hb2)
    unfold Pure.spec_BestRate_L0 Pure.slices_Max_float32_float32_L0
    rw [dec_lt h, dec_nn, dec_lt hb2, dec_nn, Int.toNat_natCast, Int.toNat_natCast, wrap_succ (by omega), cmp_gtr fi.toNum fb.toNum]
    simp only [cond_true]
    have hvi : fv .f32 ((l.getD i []).getD 0 0) = vat l i := rfl
    have hvb : fv .f32 ((l.getD b []).getD 0 0) = vat l b := rfl
    have hm := mx_num hM fi.toNum
    by_cases hg : vat l b < vat l i
    · have e : real.mx .f32 M ((l.getD i []).getD 0 0) = (l.getD i []).getD 0 0 := by
        rcases hm with ⟨_, q2⟩ | ⟨q1, _⟩
        · rw [hvi, hv] at q2; omega
        · exact q1
      rw [hvi, hvb, decide_eq_true hg, e]
      exact ih (i + 1) f1 f2 i _ (by omega) (by omega) (by omega) (by omega) fi.toNum rfl (fun j hj => by
        rcases Nat.lt_or_ge j i with hji | hji
        · have := hle j hji; omega
        · have : j = i := by omega
          rw [this]; exact Int.le_refl _) (fun j hj => by have := hle j hj; omega)
    · rw [hvi, hvb, decide_eq_false hg]
      have hle' : ∀ j, j < i + 1 → vat l j ≤ vat l b := fun j hj => by
        rcases Nat.lt_or_ge j i with hji | hji
        · exact hle j hji
        · have : j = i := by omega
          rw [this]; omega
      rcases hm with ⟨q1, _⟩ | ⟨q1, q2⟩
      · rw [q1]; exact ih (i + 1) f1 f2 b M (by omega) (by omega) (by omega) (by omega) hM hv hle' hlt
      · rw [q1]
        rw [hvi, hv] at q2
        exact ih (i + 1) f1 f2 b _ (by omega) (by omega) (by omega) (by omega) fi.toNum (by rw [hvi]; omega) hle' hlt

theorem index_loop (l : List (List Int)) (hl : l.length < 1000000) (hf : ∀ r ∈ l, Fin .f32 (r.getD 0 0)) {M : Int} {b : Nat} (hb : b < l.length) (hM : Num .f32 M) (hv : fv .f32 M = vat l b) (hlt : ∀ j, j < b → vat l j < vat l b) : ∀ (m i f : Nat), i + m = b → m < f →
    Pure.slices_Index_float32_float32_L0 real M l.length l f i = (true, true, (b : Int)) := by
  intro m
  induction m with
  | zero =>
    intro i f hi h1
    obtain ⟨f, rfl⟩ : ∃ g, f = g + 1 := ⟨f - 1, by omega⟩
    have e : i = b := by omega
    subst e
    have fi : Fin .f32 ((l.getD i []).getD 0 0) := by rw [getD_some hb]; exact hf _ (List.getElem_mem hb)
    unfold Pure.slices_Index_float32_float32_L0
    rw [dec_lt hb, dec_lt' hb, dec_nn, Int.toNat_natCast, cmp_eql hM fi.toNum, decide_eq_true (show fv .f32 M = fv .f32 ((l.getD i []).getD 0 0) from hv)]
    rfl
  | succ m ih =>
    intro i f hi h1
    obtain ⟨f, rfl⟩ : ∃ g, f = g + 1 := ⟨f - 1, by omega⟩
    have h : i < l.length := by omega
    have fi : Fin .f32 ((l.getD i []).getD 0 0) := by rw [getD_some h]; exact hf _ (List.getElem_mem h)
    have hne : ¬ fv .f32 M = fv .f32 ((l.getD i []).getD 0 0) := by
      have := hlt i (by omega)
      rw [hv]; show ¬ vat l b = vat l i; omega
    unfold Pure.slices_Index_float32_float32_L0
    rw [dec_lt h, dec_lt' h, dec_nn, Int.toNat_natCast, cmp_eql hM fi.toNum, decide_eq_false hne, wrap_succ (by omega)]
    exact ih (i + 1) f (by omega) (by omega)

theorem best_is (x0 x1 x2 x3 x4 x6 x7 x9 x10 x11 : Int) {x5 : Int} (h5 : OkF .f32 x5) (xs : List (List Int)) : Pure.spec_BestRate_ok real x0 x1 x2 x3 x4 x5 x6 x7 xs x9 x10 x11 = true ∧ Pure.impl_BestRate_ok real x0 x1 x2 x3 x4 x5 x6 x7 xs x9 x10 x11 = true ∧
    Pure.spec_BestRate real x0 x1 x2 x3 x4 x5 x6 x7 xs x9 x10 x11 = Pure.impl_BestRate real x0 x1 x2 x3 x4 x5 x6 x7 xs x9 x10 x11 ∧ Pure.spec_BestRate_1 real x0 x1 x2 x3 x4 x5 x6 x7 xs x9 x10 x11 = Pure.impl_BestRate_1 real x0 x1 x2 x3 x4 x5 x6 x7 xs x9 x10 x11 := by
  obtain ⟨i1, i2, i3, i4, i5, i6⟩ := scan_is x0 x1 x2 x3 x4 x6 x7 x9 x10 x11 h5 xs
  have hfin : ∀ r ∈ Pure.impl_ScanRates_1 real x0 x1 x2 x3 x4 x5 x6 x7 xs x9 x10 x11, Fin .f32 (r.getD 0 0) := by
    have nil : ∀ q ∈ ([] : List (List Int)), Fin .f32 (q.getD 0 0) := fun q hq => by cases hq
    unfold Pure.impl_ScanRates_1
    cases Pure.impl_in real (Int.ofNat xs.length) 1 32 with
    | false => exact nil
    | true =>
      cases Pure.impl_ValidPendulum real x0 x1 x2 x3 x4 with
      | false => exact nil
      | true =>
        have := scan_fin x0 x1 x2 x3 x6 x7 x9 x10 x11 h5 xs (Int.ofNat xs.length) (Nat.succ (xs.length + 0)) 0 x4 [] nil
        simp only [cond_true]
        cases (Pure.impl_ScanRates_L0 real x9 x10 x11 (Int.ofNat xs.length) xs x0 x1 x2 x3 x5 x6 x7 (Nat.succ (xs.length + 0)) 0 x4 []).2.1 with
        | true => exact nil
        | false => exact this
  have hpos : Pure.impl_ScanRates real x0 x1 x2 x3 x4 x5 x6 x7 xs x9 x10 x11 = true → 1 ≤ (Pure.impl_ScanRates_1 real x0 x1 x2 x3 x4 x5 x6 x7 xs x9 x10 x11).length := by
    unfold Pure.impl_ScanRates_ok at i2
    unfold Pure.impl_ScanRates Pure.impl_ScanRates_1
    cases hi : Pure.impl_in real (Int.ofNat xs.length) 1 32 with
    | false => intro h; cases h
    | true =>
      have hin := in_iff.1 hi
      have e : Int.ofNat xs.length = (xs.length : Int) := rfl
      rw [e] at hin
      cases hv : Pure.impl_ValidPendulum real x0 x1 x2 x3 x4 with
      | false => intro h; cases h
      | true =>
        rw [hi, hv, (pend_is x0 x1 x2 x3 x4).2] at i2
        have hlen := scan_len x0 x1 x2 x3 x5 x6 x7 x9 x10 x11 xs (by omega) (Nat.succ (xs.length + 0)) 0 x4 [] rfl (by omega) i2
        simp only [cond_true]
        change (Pure.impl_ScanRates_L0 real x9 x10 x11 (Int.ofNat xs.length) xs x0 x1 x2 x3 x5 x6 x7 (Nat.succ (xs.length + 0)) 0 x4 []).2.1 = false → (Pure.impl_ScanRates_L0 real x9 x10 x11 (Int.ofNat xs.length) xs x0 x1 x2 x3 x5 x6 x7 (Nat.succ (xs.length + 0)) 0 x4 []).2.2.1.length = xs.length at hlen
        cases hq : (Pure.impl_ScanRates_L0 real x9 x10 x11 (Int.ofNat xs.length) xs x0 x1 x2 x3 x5 x6 x7 (Nat.succ (xs.length + 0)) 0 x4 []).2.1 with
        | true => intro h; cases h
        | false => intro _; simp only [cond_false]; rw [hlen hq]; omega
  unfold Pure.spec_BestRate_ok Pure.impl_BestRate_ok Pure.spec_BestRate Pure.impl_BestRate Pure.spec_BestRate_1 Pure.impl_BestRate_1
  rw [i1, i2, i3, i4]
  generalize Pure.impl_ScanRates_1 real x0 x1 x2 x3 x4 x5 x6 x7 xs x9 x10 x11 = l at *
  cases hs : Pure.impl_ScanRates real x0 x1 x2 x3 x4 x5 x6 x7 xs x9 x10 x11 with
  | false => exact ⟨rfl, rfl, rfl, rfl⟩
  | true =>
    have hp := hpos hs
    have f0 : Fin .f32 ((l.getD 0 []).getD 0 0) := by rw [getD_some (show 0 < l.length by omega)]; exact hfin _ (List.getElem_mem _)
    have base : ∀ j, j < 1 → vat l j ≤ vat l 0 := fun j hj => by
      have : j = 0 := by omega
      subst this
      exact Int.le_refl _
    obtain ⟨b, M, q1, q2, q3, q4, q5, q6⟩ := best_loops xs l (by omega) hfin (l.length - 1) 1 (Int.toNat (((l.length : Int) - 1) + 1)) (Int.toNat (((l.length : Int) - 1) + 1)) 0 ((l.getD 0 []).getD 0 0) (by omega) (by omega) (by omega) (by omega) f0.toNum rfl base (fun j hj => absurd hj (Nat.not_lt_zero _))
    have hx := index_loop l (by omega) hfin q2 q4 q5 q6 b 0 (Nat.succ (l.length + 0)) (by omega) (by omega)
    change Pure.spec_BestRate_L0 real xs l (Int.toNat (((Int.ofNat l.length) - 1) + 1)) 0 1 = (true, (b : Int)) at q1
    change Pure.slices_Max_float32_float32_L0 real l (Int.toNat (((Int.ofNat l.length) - 1) + 1)) ((l.getD 0 []).getD 0 0) 1 = (true, M) at q3
    change Pure.slices_Index_float32_float32_L0 real M (Int.ofNat l.length) l (Nat.succ (l.length + 0)) 0 = (true, true, (b : Int)) at hx
    unfold Pure.slices_Max_float32_float32_ok Pure.slices_Index_float32_float32_ok Pure.slices_Max_float32_float32 Pure.slices_Index_float32_float32
    rw [q1, q3, hx]
    have d0 : decide (Int.ofNat l.length < 1) = false := decide_eq_false (by show ¬ (l.length : Int) < 1; omega)
    have d1 : decide (0 < Int.ofNat l.length) = true := decide_eq_true (by show 0 < (l.length : Int); omega)
    simp only [cond_true]
    rw [d0, d1, dec_nn, dec_lt q2]
    refine ⟨?_, ?_, ?_, ?_⟩ <;> first | rfl | trivial

theorem law_FnExactBestRate (x0 x1 x2 x3 x4 x5 x6 x7 : Int) (x8 : List (List Int)) (x9 x10 x11 : Int) (_ : OkF .f32 x0) (_ : OkF .f32 x1) (_ : OkF .f32 x2) (_ : OkF .f32 x3) (_ : OkF .f32 x4) (h5 : OkF .f32 x5) (_ : OkF .f32 x6) (_ : OkF .f32 x7) (h8 : RowsOK B1 x8) (_ : OkF .f32 x9) (_ : IntKind.i64.has x10) (_ : IntKind.i64.has x11) :
    Pure.laws_FnExactBestRate_ok real x0 x1 x2 x3 x4 x5 x6 x7 x8 x9 x10 x11 = true ∧ Pure.laws_FnExactBestRate real x0 x1 x2 x3 x4 x5 x6 x7 x8 x9 x10 x11 = true := by
  unfold Pure.laws_FnExactBestRate_ok Pure.laws_FnExactBestRate
  cases hs : decide (Int.ofNat x8.length > 1048576) with
  | true => exact ⟨rfl, rfl⟩
  | false =>
    have hl : x8.length ≤ 1048576 := by
      rw [decide_eq_false_iff_not] at hs
      have e : Int.ofNat x8.length = (x8.length : Int) := rfl
      omega
    obtain ⟨t1, t2⟩ := toFloat32S_eq h8 hl
    rw [t1, t2]
    obtain ⟨_, _, s3, _, _, _⟩ := scan_is x0 x1 x2 x3 x4 x6 x7 x9 x10 x11 h5 x8
    obtain ⟨i1, i2, i3, i4⟩ := best_is x0 x1 x2 x3 x4 x6 x7 x9 x10 x11 h5 x8
    obtain ⟨e5, e6⟩ := eqFloat32S_refl x8 (by omega)
    rw [i1, i2, i3, i4, e5, e6, convOk_up, sameFloat_refl]
    simp [s3]
end Go.Fx
