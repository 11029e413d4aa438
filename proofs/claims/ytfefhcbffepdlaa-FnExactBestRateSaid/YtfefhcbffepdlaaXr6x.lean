import Derived.Test.YtfefhcbffepdlaaXr6w
import Derived.Test.YtfefhcbffepdlaaF4
namespace Go.Fx
abbrev B1 : List K := [.f .f32]
theorem row1 {r : List Int} (h : r.length = 1) : [r.getD 0 0] = r := by
  match r, h with
  | [a], _ => rfl

theorem toFloat32S_eq {xs : List (List Int)} (h : RowsOK B1 xs) (hl : xs.length ≤ 1048576) : Pure.laws_toFloat32S_ok real xs = true ∧ Pure.laws_toFloat32S real xs = xs := by
  have key : ∀ (n i : Nat) (ys : List (List Int)), i ≤ xs.length → xs.length - i < n → ys.length = xs.length → (∀ j, j < i → ys.getD j [] = xs.getD j []) → Pure.laws_toFloat32S_L0 real xs n i ys = (true, xs) := by
    intro n
    induction n with
    | zero => intro i ys _ h; omega
    | succ n ih =>
      intro i ys hi hn hy hj
      unfold Pure.laws_toFloat32S_L0
      rcases Nat.lt_or_ge i xs.length with h1 | h1
      · rw [dec_lt h1, dec_nn, dec_lt (show i < ys.length by omega), wrap_succ (by omega), Int.toNat_natCast]
        simp only [cond_true]
        have hr : (xs.getD i []).length = 1 := by rw [getD_some h1]; exact (h.row _ (List.getElem_mem h1)).1
        rw [row1 hr]
        refine ih (i + 1) _ (by omega) (by omega) (by simp; omega) fun j hj' => ?_
        rw [List.getD_eq_getElem?_getD, List.getElem?_set]
        by_cases hij : i = j
        · subst hij; simp [hy, h1]
        · rw [if_neg hij, ← List.getD_eq_getElem?_getD]; exact hj j (by omega)
      · rw [dec_ge h1]
        have : ys = xs := by
          apply List.ext_getElem hy
          intro j h2 h3
          have := hj j (by omega)
          rwa [getD_some h2, getD_some h3] at this
        rw [this]; rfl
  unfold Pure.laws_toFloat32S_ok Pure.laws_toFloat32S
  have e1 : ((Int.ofNat xs.length == Int.ofNat xs.length)) = true := by simp
  have e2 : decide (Int.ofNat xs.length ≤ 1073741824) = true := by simp; omega
  rw [e1, e2]
  have := key (xs.length + 1) 0 (List.replicate xs.length [0]) (by omega) (by omega) (by simp) (fun j hj => by omega)
  change (Pure.laws_toFloat32S_L0 real xs (xs.length + 1) 0 (List.replicate xs.length [0])).1 = true ∧ (Pure.laws_toFloat32S_L0 real xs (xs.length + 1) 0 (List.replicate xs.length [0])).2 = xs
  change Pure.laws_toFloat32S_L0 real xs (xs.length + 1) 0 (List.replicate xs.length [0]) = _ at this
  rw [this]; exact ⟨rfl, rfl⟩

theorem eqFloat32S_refl (xs : List (List Int)) (hl : xs.length < 4611686018427387904) : Pure.laws_eqFloat32S_ok real xs xs = true ∧ Pure.laws_eqFloat32S real xs xs = true := by
  have key := iter_all xs.length (fun _ => true) (fun n i => Pure.laws_eqFloat32S_L0 real xs xs n i) (true, false) (false, false) (fun n i h => by
      conv => lhs; unfold Pure.laws_eqFloat32S_L0
      rw [dec_lt h, dec_nn, convOk_up, sameFloat_refl, wrap_succ (by omega)]; rfl) (fun n => by
      conv => lhs; unfold Pure.laws_eqFloat32S_L0
      rw [dec_ge (Nat.le_refl _)]; rfl) (xs.length + 1) 0 (by omega) (by omega)
  have hu : upAll xs.length (fun _ => true) 0 = true := by unfold upAll; rw [List.all_eq_true]; intro _ _; rfl
  rw [hu] at key
  unfold Pure.laws_eqFloat32S_ok Pure.laws_eqFloat32S
  have e : ((Int.ofNat xs.length != Int.ofNat xs.length)) = false := by simp
  rw [e]
  change (Pure.laws_eqFloat32S_L0 real xs xs (xs.length + 1) 0).1 = true ∧ (bif (Pure.laws_eqFloat32S_L0 real xs xs (xs.length + 1) 0).2 then false else true) = true
  change Pure.laws_eqFloat32S_L0 real xs xs (xs.length + 1) 0 = _ at key
  rw [key]; exact ⟨rfl, rfl⟩

theorem can_parts {x0 x1 x2 x3 x4 a b c t s n : Int} (h : Pure.spec_l02Can real x0 x1 x2 x3 x4 a b c t s n = true) (q : Int) : Pure.spec_l02Can real x0 x1 x2 x3 q a b c t s n = Pure.spec_l02Is real x0 x1 x2 x3 q := by
  unfold Pure.spec_l02Can Pure.spec_l02Both at h ⊢
  simp only [Bool.cond_false_right, Bool.and_eq_true] at h ⊢
  obtain ⟨⟨_, h2⟩, h3, h4, h5, h6⟩ := h
  rw [h2, h3, h4, h5, h6]
  simp

theorem scan_loop (x0 x1 x2 x3 x4 b c t s n : Int) {a : Int} (ha : OkF .f32 a) (hcan : Pure.spec_l02Can real x0 x1 x2 x3 x4 a b c t s n = true) (xs : List (List Int)) (hl : xs.length ≤ 1000) : ∀ (m i f1 f2 : Nat), i + m = xs.length → m < f1 → m < f2 → ∀ (r : Int) (acc : List (List Int)), acc.length = i → (∀ r ∈ acc, r.length = 1) →
    Pure.spec_ScanRates_L0 real t s n xs x0 x1 x2 x3 a b c f1 i r acc = Pure.impl_ScanRates_L0 real t s n xs.length xs x0 x1 x2 x3 a b c f2 i r acc ∧ (Pure.impl_ScanRates_L0 real t s n xs.length xs x0 x1 x2 x3 a b c f2 i r acc).1 = true ∧
    (Pure.impl_ScanRates_L0 real t s n xs.length xs x0 x1 x2 x3 a b c f2 i r acc).2.2.1.length ≤ xs.length ∧ (∀ q ∈ (Pure.impl_ScanRates_L0 real t s n xs.length xs x0 x1 x2 x3 a b c f2 i r acc).2.2.1, q.length = 1) := by
  intro m
  induction m with
  | zero =>
    intro i f1 f2 hi h1 h2 r acc hacc hr
    obtain ⟨f1, rfl⟩ : ∃ g, f1 = g + 1 := ⟨f1 - 1, by omega⟩
    obtain ⟨f2, rfl⟩ : ∃ g, f2 = g + 1 := ⟨f2 - 1, by omega⟩
    unfold Pure.spec_ScanRates_L0 Pure.impl_ScanRates_L0
    rw [dec_ge (show xs.length ≤ i by omega), dec_ge' (show xs.length ≤ i by omega)]
    exact ⟨rfl, rfl, by simp only [cond_false]; omega, hr⟩
  | succ m ih =>
    intro i f1 f2 hi h1 h2 r acc hacc hr
    obtain ⟨f1, rfl⟩ : ∃ g, f1 = g + 1 := ⟨f1 - 1, by omega⟩
    obtain ⟨f2, rfl⟩ : ∃ g, f2 = g + 1 := ⟨f2 - 1, by omega⟩
    have h : i < xs.length := by omega
    unfold Pure.spec_ScanRates_L0 Pure.impl_ScanRates_L0
    rw [dec_lt h, dec_lt' h, dec_nn, Int.toNat_natCast, wrap_succ (by omega)]
    generalize (xs.getD i []).getD 0 0 = q
    obtain ⟨o1, o2, o3, o4⟩ := response_is x0 x1 x2 x3 q b c t s n ha
    have hc := can_parts hcan q
    unfold Pure.spec_ResponseOf_ok at o1
    unfold Pure.spec_ResponseOf at o3
    unfold Pure.spec_ResponseOf_1 at o4
    rw [hc] at o1 o3 o4
    rw [o2, ← o3, ← o4]
    have stop : (true, true, ([] : List (List Int)), acc) = (true, true, ([] : List (List Int)), acc) ∧ true = true ∧ ([] : List (List Int)).length ≤ xs.length ∧ (∀ r ∈ ([] : List (List Int)), r.length = 1) := ⟨rfl, rfl, by simp, fun r hr => by cases hr⟩
    cases hq : Pure.spec_l02Is real x0 x1 x2 x3 q with
    | false => exact stop
    | true =>
      rw [hq] at o1
      simp only [cond_true] at o1 ⊢
      rw [o1]
      cases Pure.spec_l02Response_1 real x0 x1 x2 x3 q a b c t s n with
      | false => exact stop
      | true =>
        have e1 : decide (Nat.succ acc.length ≤ 1073741824) = true := by simp; omega
        rw [e1]
        simp only [cond_true]
        exact ih (i + 1) f1 f2 (by omega) (by omega) (by omega) _ _ (by simp; omega) (fun r hr2 => by
          rcases List.mem_append.1 hr2 with hr2 | hr2
          · exact hr r hr2
          · rw [List.mem_singleton] at hr2; rw [hr2]; rfl)

theorem scan_is (x0 x1 x2 x3 x4 x6 x7 x9 x10 x11 : Int) {x5 : Int} (h5 : OkF .f32 x5) (xs : List (List Int)) : Pure.spec_ScanRates_ok real x0 x1 x2 x3 x4 x5 x6 x7 xs x9 x10 x11 = true ∧ Pure.impl_ScanRates_ok real x0 x1 x2 x3 x4 x5 x6 x7 xs x9 x10 x11 = true ∧
    Pure.spec_ScanRates real x0 x1 x2 x3 x4 x5 x6 x7 xs x9 x10 x11 = Pure.impl_ScanRates real x0 x1 x2 x3 x4 x5 x6 x7 xs x9 x10 x11 ∧ Pure.spec_ScanRates_1 real x0 x1 x2 x3 x4 x5 x6 x7 xs x9 x10 x11 = Pure.impl_ScanRates_1 real x0 x1 x2 x3 x4 x5 x6 x7 xs x9 x10 x11 ∧
    (Pure.impl_ScanRates_1 real x0 x1 x2 x3 x4 x5 x6 x7 xs x9 x10 x11).length ≤ 32 ∧ (∀ r ∈ Pure.impl_ScanRates_1 real x0 x1 x2 x3 x4 x5 x6 x7 xs x9 x10 x11, r.length = 1) := by
  obtain ⟨p1, p2⟩ := pend_is x0 x1 x2 x3 x4
  have nil : ([] : List (List Int)).length ≤ 32 ∧ (∀ r ∈ ([] : List (List Int)), r.length = 1) := ⟨by simp, fun r hr => by cases hr⟩
  unfold Pure.spec_ScanRates_ok Pure.impl_ScanRates_ok Pure.spec_ScanRates Pure.impl_ScanRates Pure.spec_ScanRates_1 Pure.impl_ScanRates_1
  rw [p2, ← p1]
  by_cases hin : 1 ≤ xs.length ∧ xs.length ≤ 32
  · have e1 : Pure.impl_in real (Int.ofNat xs.length) 1 32 = true := in_iff.2 ⟨by show (1 : Int) ≤ (xs.length : Int); omega, by show (xs.length : Int) ≤ 32; omega⟩
    have e2 : decide (Int.ofNat xs.length < 1) = false := decide_eq_false (by show ¬ (xs.length : Int) < 1; omega)
    have e3 : decide (Int.ofNat xs.length > 32) = false := decide_eq_false (by show ¬ (xs.length : Int) > 32; omega)
    rw [e1, e2, e3]
    cases hc : Pure.spec_l02Can real x0 x1 x2 x3 x4 x5 x6 x7 x9 x10 x11 with
    | true =>
      have his : Pure.spec_l02Is real x0 x1 x2 x3 x4 = true := by rw [← can_parts hc x4]; exact hc
      obtain ⟨k1, k2, k3, k4⟩ := scan_loop x0 x1 x2 x3 x4 x6 x7 x9 x10 x11 h5 hc xs (by omega) xs.length 0 (Nat.succ (xs.length + 0)) (Nat.succ (xs.length + 0)) (by omega) (by omega) (by omega) x4 [] rfl (fun r hr => by cases hr)
      change Pure.spec_ScanRates_L0 real x9 x10 x11 xs x0 x1 x2 x3 x5 x6 x7 (Nat.succ (xs.length + 0)) 0 x4 [] = Pure.impl_ScanRates_L0 real x9 x10 x11 (Int.ofNat xs.length) xs x0 x1 x2 x3 x5 x6 x7 (Nat.succ (xs.length + 0)) 0 x4 [] at k1
      change (Pure.impl_ScanRates_L0 real x9 x10 x11 (Int.ofNat xs.length) xs x0 x1 x2 x3 x5 x6 x7 (Nat.succ (xs.length + 0)) 0 x4 []).1 = true at k2
      change (Pure.impl_ScanRates_L0 real x9 x10 x11 (Int.ofNat xs.length) xs x0 x1 x2 x3 x5 x6 x7 (Nat.succ (xs.length + 0)) 0 x4 []).2.2.1.length ≤ xs.length at k3
      change ∀ q ∈ (Pure.impl_ScanRates_L0 real x9 x10 x11 (Int.ofNat xs.length) xs x0 x1 x2 x3 x5 x6 x7 (Nat.succ (xs.length + 0)) 0 x4 []).2.2.1, q.length = 1 at k4
      rw [his, k1]
      generalize Pure.impl_ScanRates_L0 real x9 x10 x11 (Int.ofNat xs.length) xs x0 x1 x2 x3 x5 x6 x7 (Nat.succ (xs.length + 0)) 0 x4 [] = r at *
      rw [k2]
      refine ⟨rfl, rfl, rfl, rfl, ?_⟩
      cases r.2.1 with
      | true => exact nil
      | false => exact ⟨by simp only [cond_true, cond_false]; omega, k4⟩
    | false =>
      cases his : Pure.spec_l02Is real x0 x1 x2 x3 x4 with
      | false => exact ⟨rfl, rfl, rfl, rfl, nil⟩
      | true =>
        have hbad : Pure.impl_ScanRates_L0 real x9 x10 x11 (Int.ofNat xs.length) xs x0 x1 x2 x3 x5 x6 x7 (Nat.succ (xs.length + 0)) 0 x4 [] = (true, true, [], []) := by
          unfold Pure.impl_ScanRates_L0
          obtain ⟨_, o2, _, o4⟩ := response_is x0 x1 x2 x3 ((xs.getD (Int.toNat 0) []).getD 0 0) x6 x7 x9 x10 x11 h5
          have o5 : Pure.impl_ResponseOf_1 real x0 x1 x2 x3 ((xs.getD (Int.toNat 0) []).getD 0 0) x5 x6 x7 x9 x10 x11 = false := by
            rw [← o4]
            unfold Pure.spec_ResponseOf_1
            cases hq : Pure.spec_l02Can real x0 x1 x2 x3 ((xs.getD (Int.toNat 0) []).getD 0 0) x5 x6 x7 x9 x10 x11 with
            | false => rfl
            | true => rw [can_parts hq x4, his] at hc; cases hc
          have d1 : decide ((0 : Int) < Int.ofNat xs.length) = true := decide_eq_true (by show (0 : Int) < (xs.length : Int); omega)
          rw [d1, o2, o5]
          rfl
        rw [hbad]
        exact ⟨rfl, rfl, rfl, rfl, nil⟩
  · have e1 : Pure.impl_in real (Int.ofNat xs.length) 1 32 = false := in_false (fun h => hin ⟨by have := h.1; have e : Int.ofNat xs.length = (xs.length : Int) := rfl; omega, by have := h.2; have e : Int.ofNat xs.length = (xs.length : Int) := rfl; omega⟩)
    rw [e1]
    cases Pure.spec_l02Can real x0 x1 x2 x3 x4 x5 x6 x7 x9 x10 x11 with
    | false => exact ⟨rfl, rfl, rfl, rfl, nil⟩
    | true =>
      by_cases h1 : 1 ≤ xs.length
      · have e2 : decide (Int.ofNat xs.length < 1) = false := decide_eq_false (by show ¬ (xs.length : Int) < 1; omega)
        have e3 : decide (Int.ofNat xs.length > 32) = true := decide_eq_true (by show (xs.length : Int) > 32; omega)
        rw [e2, e3]
        exact ⟨rfl, rfl, rfl, rfl, nil⟩
      · have e2 : decide (Int.ofNat xs.length < 1) = true := decide_eq_true (by show (xs.length : Int) < 1; omega)
        rw [e2]
        exact ⟨rfl, rfl, rfl, rfl, nil⟩

end Go.Fx
