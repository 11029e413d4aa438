import Derived.Test.YtodilhnddnoekaaXr7u
import Derived.Test.YtodilhnddnoekaaXr7c
namespace Go.Fx
set_option maxRecDepth 100000
theorem in_is (a b c : Int) : Pure.spec_l00In real a b c = Pure.impl_in real a b c := rfl
theorem air_is (a b c d e : Int) : Pure.spec_l03Air real a b c d e = Pure.impl_flyOk real a b c d e := by
  unfold Pure.spec_l03Air Pure.impl_flyOk
  rw [vfin_is]
  rfl

def Wide (m : Nat) (p : List (List Int)) : Prop := ∀ j, j < p.length → (p.getD j []).length = m
theorem Wide.set {m : Nat} {p : List (List Int)} (h : Wide m p) {r : List Int} (hr : r.length = m) (i : Nat) : Wide m (p.set i r) := by
  intro j hj
  rw [List.length_set] at hj
  rw [List.getD_eq_getElem?_getD, List.getElem?_set]
  by_cases hij : i = j
  · subst hij; rw [if_pos rfl, if_pos hj]; exact hr
  · rw [if_neg hij, ← List.getD_eq_getElem?_getD]; exact h j hj

def FRow (r : List Int) : Prop := r.length = 3 ∧ OkF .f32 (r.getD 0 0) ∧ OkF .f32 (r.getD 1 0) ∧ OkF .f32 (r.getD 2 0)
def FRows (p : List (List Int)) : Prop := ∀ j, j < p.length → FRow (p.getD j [])
theorem FRows.set {p : List (List Int)} (h : FRows p) {r : List Int} (hr : FRow r) (i : Nat) : FRows (p.set i r) := by
  intro j hj
  rw [List.length_set] at hj
  rw [List.getD_eq_getElem?_getD, List.getElem?_set]
  by_cases hij : i = j
  · subst hij; rw [if_pos rfl, if_pos hj]; exact hr
  · rw [if_neg hij, ← List.getD_eq_getElem?_getD]; exact h j hj
theorem FRows.wide {p : List (List Int)} (h : FRows p) : Wide 3 p := fun j hj => (h j hj).1

theorem FRow.mk3 {a b c : Int} (h1 : OkF .f32 a) (h2 : OkF .f32 b) (h3 : OkF .f32 c) : FRow [a, b, c] := ⟨rfl, h1, h2, h3⟩
theorem ok_add (a b c d e f : Int) : OkF .f32 (Pure.impl_AddVectors real a b c d e f) := bin_ok .add .f32 _ _
theorem ok_add_1 (a b c d e f : Int) : OkF .f32 (Pure.impl_AddVectors_1 real a b c d e f) := bin_ok .add .f32 _ _
theorem ok_add_2 (a b c d e f : Int) : OkF .f32 (Pure.impl_AddVectors_2 real a b c d e f) := bin_ok .add .f32 _ _
theorem ok_les (a b c d e f : Int) : OkF .f32 (Pure.impl_LessVectors real a b c d e f) := bin_ok .sub .f32 _ _
theorem ok_les_1 (a b c d e f : Int) : OkF .f32 (Pure.impl_LessVectors_1 real a b c d e f) := bin_ok .sub .f32 _ _
theorem ok_les_2 (a b c d e f : Int) : OkF .f32 (Pure.impl_LessVectors_2 real a b c d e f) := bin_ok .sub .f32 _ _
theorem frow_add (a b c d e f : Int) : FRow [Pure.impl_AddVectors real a b c d e f, Pure.impl_AddVectors_1 real a b c d e f, Pure.impl_AddVectors_2 real a b c d e f] := FRow.mk3 (ok_add _ _ _ _ _ _) (ok_add_1 _ _ _ _ _ _) (ok_add_2 _ _ _ _ _ _)
theorem frow_les (a b c d e f : Int) : FRow [Pure.impl_LessVectors real a b c d e f, Pure.impl_LessVectors_1 real a b c d e f, Pure.impl_LessVectors_2 real a b c d e f] := FRow.mk3 (ok_les _ _ _ _ _ _) (ok_les_1 _ _ _ _ _ _) (ok_les_2 _ _ _ _ _ _)
theorem FRow.three {r : List Int} (h : FRow r) : FRow [r.getD 0 0, r.getD 1 0, r.getD 2 0] := FRow.mk3 h.2.1 h.2.2.1 h.2.2.2

theorem fly_eq (k1 k2 N : Int) (x2 x3 : List (List Int)) (x4 x5 x6 : Int) : ∀ (n : Nat) (i : Int) (p q : List (List Int)),
    Pure.spec_l03Fly_L0 real k1 k2 N x2 x3 x4 x5 x6 n i p q = Pure.impl_Chain_fly_L0 real k1 k2 N x2 x3 x4 x5 x6 n i p q := by
  intro n
  induction n with
  | zero => intro i p q; rfl
  | succ n ih =>
    intro i p q
    unfold Pure.spec_l03Fly_L0 Pure.impl_Chain_fly_L0
    simp only [ih]
    rfl

theorem fly_ok (k1 k2 : Int) (x2 x3 : List (List Int)) (x4 x5 x6 : Int) (N : Nat) (hN : N < 1000) (h2 : x2.length = N) : ∀ (n i : Nat) (p q : List (List Int)), i ≤ N → N - i < n → p.length = N → q.length = N → FRows p → FRows q → FRows (Pure.impl_Chain_fly_L0 real k1 k2 (Int.ofNat N) x2 x3 x4 x5 x6 n i p q).2.1 ∧ FRows (Pure.impl_Chain_fly_L0 real k1 k2 (Int.ofNat N) x2 x3 x4 x5 x6 n i p q).2.2 ∧
    (Pure.impl_Chain_fly_L0 real k1 k2 (Int.ofNat N) x2 x3 x4 x5 x6 n i p q).1 = true ∧ (Pure.impl_Chain_fly_L0 real k1 k2 (Int.ofNat N) x2 x3 x4 x5 x6 n i p q).2.1.length = N ∧ (Pure.impl_Chain_fly_L0 real k1 k2 (Int.ofNat N) x2 x3 x4 x5 x6 n i p q).2.2.length = N := by
  intro n
  induction n with
  | zero => intro i p q _ h; omega
  | succ n ih =>
    intro i p q hi hn hp hq wp wq
    unfold Pure.impl_Chain_fly_L0
    rcases Nat.lt_or_ge i N with h | h
    · rw [dec_lt h, dec_nn, dec_lt (show i < p.length by omega), dec_lt (show i < x2.length by omega), dec_lt (show i < q.length by omega), wrap_succ (by omega), Int.toNat_natCast]
      simp only [cond_true]
      generalize real.cmp .neq .f32 ((x2.getD i []).getD 0 0) 0 = b
      cases b with
      | true =>
        simp only [cond_true]
        first
          | exact ih (i + 1) _ _ (by omega) (by omega) (by rw [List.length_set]; exact hp) (by rw [List.length_set]; exact hq) (wp.set (frow_add _ _ _ _ _ _) i) (wq.set (wp i (by omega)).three i)
          | (rw [dec_lt (show i < List.length (List.set p i _) by rw [List.length_set]; omega)]
             exact ih (i + 1) _ _ (by omega) (by omega) (by rw [List.length_set]; exact hp) (by rw [List.length_set]; exact hq) (wp.set (frow_add _ _ _ _ _ _) i) (wq.set (wp i (by omega)).three i))
      | false =>
        simp only [cond_false]
        exact ih (i + 1) _ _ (by omega) (by omega) hp (by rw [List.length_set]; exact hq) wp (wq.set (wp i (by omega)).three i)
    · rw [dec_ge h]
      exact ⟨wp, wq, rfl, hp, hq⟩

theorem str_eq (x0 x1 x2 x3 : List (List Int)) (i : Int) : Pure.spec_l03Straighten real x0 x1 x2 x3 i =
    Pure.impl_Chain_straighten real x0 x1 x2 x3 ((x3.getD i.toNat []).getD 0 0) ((x3.getD i.toNat []).getD 1 0) ((x3.getD i.toNat []).getD 2 0) := rfl

theorem str_len (x0 x1 x2 x3 : List (List Int)) (a b c : Int) : (Pure.impl_Chain_straighten real x0 x1 x2 x3 a b c).length = x0.length := by
  unfold Pure.impl_Chain_straighten
  generalize real.cmp .gtr .f32 (Pure.s4_f92 real x0 a b) 0 = p
  generalize real.cmp .gtr .f32 (real.bin .add .f32 (Pure.impl_Chain_share real x0 x1 x2 x3 a) (Pure.impl_Chain_share real x0 x1 x2 x3 b)) 0 = q
  cases p with
  | false => rfl
  | true =>
    cases q with
    | false => rfl
    | true => simp only [cond_true, List.length_set]

theorem str_wide {x0 : List (List Int)} (h : FRows x0) (x1 x2 x3 : List (List Int)) (a b c : Int) : FRows (Pure.impl_Chain_straighten real x0 x1 x2 x3 a b c) := by
  unfold Pure.impl_Chain_straighten
  generalize real.cmp .gtr .f32 (Pure.s4_f92 real x0 a b) 0 = p
  generalize real.cmp .gtr .f32 (real.bin .add .f32 (Pure.impl_Chain_share real x0 x1 x2 x3 a) (Pure.impl_Chain_share real x0 x1 x2 x3 b)) 0 = q
  cases p with
  | false => exact h
  | true =>
    cases q with
    | false => exact h
    | true => exact (h.set (frow_add _ _ _ _ _ _) _).set (frow_les _ _ _ _ _ _) _

theorem long_ok (a b c : Int) : Pure.impl_LongOf_ok real a b c = true := by
  unfold Pure.impl_LongOf_ok Pure.impl_RootNumber_ok Pure.impl_InnerOf
  rw [convOk_up, root_ok (bin_ok _ _ _ _)]
  rfl

theorem str_ok (x0 x1 x2 x3 : List (List Int)) (a b : Nat) (c : Int) (ha : a < x0.length) (hb : b < x0.length) (h2 : x2.length = x0.length) : Pure.impl_Chain_straighten_ok real x0 x1 x2 x3 a b c = true := by
  unfold Pure.impl_Chain_straighten_ok Pure.impl_Chain_share_ok
  rw [dec_nn, dec_nn, dec_lt hb, dec_lt ha, dec_lt (show a < x2.length by omega), dec_lt (show b < x2.length by omega), long_ok]
  simp only [cond_true, Int.toNat_natCast]
  generalize real.cmp .gtr .f32 _ 0 = p
  generalize real.cmp .gtr .f32 _ 0 = q
  cases p with
  | false => rfl
  | true =>
    cases q with
    | false => rfl
    | true =>
      simp only [cond_true]
      exact dec_lt (by rw [List.length_set]; exact hb)

theorem spec_long_ok (a b c : Int) : Pure.spec_l01Long_ok real a b c = true := long_ok a b c

theorem spec_str_ok (x0 x1 x2 x3 : List (List Int)) (i : Nat) (hi : i < x3.length) (a b : Nat) (ea : (x3.getD i []).getD 0 0 = a) (eb : (x3.getD i []).getD 1 0 = b) (ha : a < x0.length) (hb : b < x0.length) (h2 : x2.length = x0.length) : Pure.spec_l03Straighten_ok real x0 x1 x2 x3 i = true := by
  unfold Pure.spec_l03Straighten_ok Pure.spec_l03Share_ok
  rw [dec_nn, dec_lt hi, Int.toNat_natCast, ea, eb, dec_nn, dec_nn, dec_lt hb, dec_lt ha, dec_lt (show a < x2.length by omega), dec_lt (show b < x2.length by omega), spec_long_ok]
  simp only [cond_true, Int.toNat_natCast]
  generalize real.cmp .gtr .f32 _ 0 = p
  generalize real.cmp .gtr .f32 _ 0 = q
  cases p with
  | false => rfl
  | true =>
    cases q with
    | false => rfl
    | true =>
      simp only [cond_true]
      exact dec_lt (by rw [List.length_set]; exact hb)

def RodsIn (N : Nat) (x3 : List (List Int)) : Prop := ∀ j, j < x3.length → ∃ a b : Nat, (x3.getD j []).getD 0 0 = a ∧ (x3.getD j []).getD 1 0 = b ∧ a < N ∧ b < N

theorem all_L2 (k k' k'' : Int) (x1 x2 x3 : List (List Int)) (N : Nat) (h2 : x2.length = N) (h3 : x3.length < 1000) (hr : RodsIn N x3) : ∀ (n i : Nat) (p : List (List Int)), i ≤ x3.length → x3.length - i < n → p.length = N →
    Pure.spec_l03All_L2 real k (Int.ofNat x3.length) x1 x2 x3 n i p = Pure.impl_Chain_straightenAll_L2 real k' k'' (Int.ofNat x3.length) x1 x2 x3 n i p ∧
    (Pure.impl_Chain_straightenAll_L2 real k' k'' (Int.ofNat x3.length) x1 x2 x3 n i p).1 = true ∧ (Pure.impl_Chain_straightenAll_L2 real k' k'' (Int.ofNat x3.length) x1 x2 x3 n i p).2.length = N ∧ (FRows p → FRows (Pure.impl_Chain_straightenAll_L2 real k' k'' (Int.ofNat x3.length) x1 x2 x3 n i p).2) := by
  intro n
  induction n with
  | zero => intro i p _ h; omega
  | succ n ih =>
    intro i p hi hn hp
    unfold Pure.spec_l03All_L2 Pure.impl_Chain_straightenAll_L2
    rcases Nat.lt_or_ge i x3.length with h | h
    · obtain ⟨a, b, ea, eb, ha, hb⟩ := hr i h
      have ok := str_ok p x1 x2 x3 a b ((x3.getD i []).getD 2 0) (by omega) (by omega) (by omega)
      rw [dec_lt h, dec_nn, spec_str_ok p x1 x2 x3 i h a b ea eb (by omega) (by omega) (by omega), str_eq, wrap_succ (by omega), Int.toNat_natCast, ea, eb, ok]
      simp only [cond_true]
      obtain ⟨g1, g2, g3, g4⟩ := ih (i + 1) (Pure.impl_Chain_straighten real p x1 x2 x3 a b ((x3.getD i []).getD 2 0)) (by omega) (by omega) (by rw [str_len]; exact hp)
      exact ⟨g1, g2, g3, fun hw => g4 (str_wide hw x1 x2 x3 _ _ _)⟩
    · rw [dec_ge h]
      exact ⟨rfl, rfl, hp, fun hw => hw⟩

theorem all_L0 (R : Nat) (hR : R ≤ 20) (x1 x2 x3 : List (List Int)) (N : Nat) (h2 : x2.length = N) (h3 : x3.length < 1000) (hr : RodsIn N x3) : ∀ (n r : Nat) (p : List (List Int)), r < n → r ≤ R → p.length = N →
    Pure.spec_l03All_L0 real x1 x2 x3 n r p = Pure.impl_Chain_straightenAll_L0 real R x1 x2 x3 n ((R - r : Nat) : Int) p ∧
    (Pure.impl_Chain_straightenAll_L0 real R x1 x2 x3 n ((R - r : Nat) : Int) p).1 = true ∧ (Pure.impl_Chain_straightenAll_L0 real R x1 x2 x3 n ((R - r : Nat) : Int) p).2.length = N ∧ (FRows p → FRows (Pure.impl_Chain_straightenAll_L0 real R x1 x2 x3 n ((R - r : Nat) : Int) p).2) := by
  intro n
  induction n with
  | zero => intro r p h; omega
  | succ n ih =>
    intro r p hn hi hp
    unfold Pure.spec_l03All_L0 Pure.impl_Chain_straightenAll_L0
    rcases Nat.eq_zero_or_pos r with h | h
    · subst h
      rw [decide_eq_false (show ¬ (((0 : Nat) : Int) > 0) by omega), decide_eq_false (show ¬ (((R - 0 : Nat) : Int) < (R : Int)) by omega)]
      exact ⟨rfl, rfl, hp, fun hw => hw⟩
    · obtain ⟨e1, e2, e3, e4⟩ := all_L2 (r : Int) (R : Int) ((R - r : Nat) : Int) x1 x2 x3 N h2 h3 hr (x3.length + 1) 0 p (by omega) (by omega) hp
      change Pure.spec_l03All_L2 real r (Int.ofNat x3.length) x1 x2 x3 (Nat.succ (x3.length + 0)) 0 p = _ at e1
      change (Pure.impl_Chain_straightenAll_L2 real (R : Int) ((R - r : Nat) : Int) (Int.ofNat x3.length) x1 x2 x3 (Nat.succ (x3.length + 0)) 0 p).1 = true at e2
      change (Pure.impl_Chain_straightenAll_L2 real (R : Int) ((R - r : Nat) : Int) (Int.ofNat x3.length) x1 x2 x3 (Nat.succ (x3.length + 0)) 0 p).2.length = N at e3
      rw [decide_eq_true (show ((r : Int) > 0) by omega), decide_eq_true (show (((R - r : Nat) : Int) < (R : Int)) by omega), e1]
      change (bif true then (bif (Pure.impl_Chain_straightenAll_L2 real (R : Int) ((R - r : Nat) : Int) (Int.ofNat x3.length) x1 x2 x3 (Nat.succ (x3.length + 0)) 0 p).1 then _ else _) else _) = (bif true then (bif (Pure.impl_Chain_straightenAll_L2 real (R : Int) ((R - r : Nat) : Int) (Int.ofNat x3.length) x1 x2 x3 (Nat.succ (x3.length + 0)) 0 p).1 then _ else _) else _) ∧ _
      rw [e2]
      have w1 : IntKind.wrap .i64 ((r : Int) - 1) = ((r - 1 : Nat) : Int) := by rw [wrap64 (by omega) (by omega)]; omega
      have w2 : IntKind.wrap .i64 (((R - r : Nat) : Int) + 1) = ((R - (r - 1) : Nat) : Int) := by rw [wrap64 (by omega) (by omega)]; omega
      rw [w1, w2]
      obtain ⟨g1, g2, g3, g4⟩ := ih (r - 1) _ (by omega) (by omega) e3
      exact ⟨g1, g2, g3, fun hw => g4 (e4 hw)⟩
theorem all_is (R : Nat) (hR : R ≤ 20) (x0 x1 x2 x3 : List (List Int)) (h2 : x2.length = x0.length) (h3 : x3.length < 1000) (hr : RodsIn x0.length x3) :
    Pure.spec_l03All real x0 x1 x2 x3 R = Pure.impl_Chain_straightenAll real x0 x1 x2 x3 R ∧ Pure.spec_l03All_ok real x0 x1 x2 x3 R = true ∧ Pure.impl_Chain_straightenAll_ok real x0 x1 x2 x3 R = true ∧ (Pure.impl_Chain_straightenAll real x0 x1 x2 x3 R).length = x0.length ∧ (FRows x0 → FRows (Pure.impl_Chain_straightenAll real x0 x1 x2 x3 R)) := by
  obtain ⟨e1, e2, e3, e4⟩ := all_L0 R hR x1 x2 x3 x0.length h2 h3 hr (R + 1) R x0 (by omega) (Nat.le_refl _) rfl
  unfold Pure.spec_l03All Pure.impl_Chain_straightenAll Pure.spec_l03All_ok Pure.impl_Chain_straightenAll_ok
  have ef : ((R : Int) - 0 + 1).toNat = R + 1 := by omega
  have ez : ((R - R : Nat) : Int) = 0 := by omega
  rw [ez] at e1 e2 e3 e4
  rw [ef, e1]
  exact ⟨rfl, e2, e2, e3, e4⟩

theorem fly_is (x0 x1 x2 x3 : List (List Int)) (x4 x5 x6 x7 x8 : Int) (h0 : x0.length < 1000) (h1 : x1.length = x0.length) (h2 : x2.length = x0.length) (w0 : FRows x0) (w1 : FRows x1) : FRows (Pure.impl_Chain_fly real x0 x1 x2 x3 x4 x5 x6 x7 x8) ∧ FRows (Pure.impl_Chain_fly_1 real x0 x1 x2 x3 x4 x5 x6 x7 x8) ∧
    Pure.spec_l03Fly real x0 x1 x2 x3 x4 x5 x6 x7 x8 = Pure.impl_Chain_fly real x0 x1 x2 x3 x4 x5 x6 x7 x8 ∧ Pure.spec_l03Fly_1 real x0 x1 x2 x3 x4 x5 x6 x7 x8 = Pure.impl_Chain_fly_1 real x0 x1 x2 x3 x4 x5 x6 x7 x8 ∧
    Pure.spec_l03Fly_ok real x0 x1 x2 x3 x4 x5 x6 x7 x8 = true ∧ Pure.impl_Chain_fly_ok real x0 x1 x2 x3 x4 x5 x6 x7 x8 = true ∧
    (Pure.impl_Chain_fly real x0 x1 x2 x3 x4 x5 x6 x7 x8).length = x0.length ∧ (Pure.impl_Chain_fly_1 real x0 x1 x2 x3 x4 x5 x6 x7 x8).length = x0.length := by
  obtain ⟨g1, g2, e1, e2, e3⟩ := fly_ok x7 x8 x2 x3 x4 x5 x6 x0.length h0 h2 (x0.length + 1) 0 x0 x1 (by omega) (by omega) rfl h1 w0 w1
  unfold Pure.spec_l03Fly Pure.impl_Chain_fly Pure.spec_l03Fly_1 Pure.impl_Chain_fly_1 Pure.spec_l03Fly_ok Pure.impl_Chain_fly_ok
  rw [fly_eq]
  exact ⟨g1, g2, rfl, rfl, e1, e1, e2, e3⟩

theorem Good.rods {x0 x1 x2 x3 : List (List Int)} (h : Good x0 x1 x2 x3) : RodsIn x0.length x3 := by
  intro j hj
  have hg := all_get.1 h.2.2.2.2.2.2.2 j hj
  have h0 := h.1
  unfold rGood at hg
  simp only [Bool.and_eq_true] at hg
  obtain ⟨⟨⟨g1, g2⟩, _⟩, _⟩ := hg
  rw [in_iff] at g1 g2
  have hp : x0.length ≠ 0 := by
    intro hz
    rw [hz, wrap64 (by omega) (by omega)] at g1
    omega
  rw [wrap64 (by omega) (by omega)] at g1 g2
  exact ⟨((x3.getD j []).getD 0 0).toNat, ((x3.getD j []).getD 1 0).toNat, by omega, by omega, by omega, by omega⟩

theorem step_is (x0 x1 x2 x3 : List (List Int)) (x4 x5 x6 x7 x8 : Int) (R : Nat) (hR : R ≤ 20) (h : Good x0 x1 x2 x3) (w0 : FRows x0) (w1 : FRows x1) :
    Pure.spec_l03Step_ok real x0 x1 x2 x3 x4 x5 x6 x7 x8 R = true ∧ Pure.impl_Chain_step_ok real x0 x1 x2 x3 x4 x5 x6 x7 x8 R = true ∧
    ((Pure.spec_l03Step real x0 x1 x2 x3 x4 x5 x6 x7 x8 R = false ∧ Pure.impl_Chain_step real x0 x1 x2 x3 x4 x5 x6 x7 x8 R = false ∧
        Pure.spec_l03Step_1 real x0 x1 x2 x3 x4 x5 x6 x7 x8 R = [] ∧ Pure.spec_l03Step_2 real x0 x1 x2 x3 x4 x5 x6 x7 x8 R = [] ∧ Pure.spec_l03Step_3 real x0 x1 x2 x3 x4 x5 x6 x7 x8 R = [] ∧ Pure.spec_l03Step_4 real x0 x1 x2 x3 x4 x5 x6 x7 x8 R = []) ∨
      (Pure.spec_l03Step real x0 x1 x2 x3 x4 x5 x6 x7 x8 R = true ∧ Pure.impl_Chain_step real x0 x1 x2 x3 x4 x5 x6 x7 x8 R = true ∧
        Pure.spec_l03Step_1 real x0 x1 x2 x3 x4 x5 x6 x7 x8 R = Pure.impl_Chain_step_1 real x0 x1 x2 x3 x4 x5 x6 x7 x8 R ∧ Pure.spec_l03Step_2 real x0 x1 x2 x3 x4 x5 x6 x7 x8 R = Pure.impl_Chain_fly_1 real x0 x1 x2 x3 x4 x5 x6 x7 x8 ∧
        Pure.spec_l03Step_3 real x0 x1 x2 x3 x4 x5 x6 x7 x8 R = x2 ∧ Pure.spec_l03Step_4 real x0 x1 x2 x3 x4 x5 x6 x7 x8 R = x3 ∧
        Good (Pure.impl_Chain_step_1 real x0 x1 x2 x3 x4 x5 x6 x7 x8 R) (Pure.impl_Chain_fly_1 real x0 x1 x2 x3 x4 x5 x6 x7 x8) x2 x3 ∧
        FRows (Pure.impl_Chain_step_1 real x0 x1 x2 x3 x4 x5 x6 x7 x8 R) ∧ FRows (Pure.impl_Chain_fly_1 real x0 x1 x2 x3 x4 x5 x6 x7 x8))) := by
  have h0 := h.1
  have h3 := h.2.2.2.1
  obtain ⟨g1, g2, f1, f2, f3, f4, f5, f6⟩ := fly_is x0 x1 x2 x3 x4 x5 x6 x7 x8 (by omega) h.2.1 h.2.2.1 w0 w1
  have hr : RodsIn (Pure.impl_Chain_fly real x0 x1 x2 x3 x4 x5 x6 x7 x8).length x3 := by rw [f5]; exact h.rods
  obtain ⟨a1, a2, a3, a4, a5⟩ := all_is R hR (Pure.impl_Chain_fly real x0 x1 x2 x3 x4 x5 x6 x7 x8) (Pure.impl_Chain_fly_1 real x0 x1 x2 x3 x4 x5 x6 x7 x8) x2 x3 (by rw [f5]; exact h.2.2.1) (by omega) hr
  have hown : Pure.spec_l03Own_ok real x0 x1 x2 x3 = true := by
    unfold Pure.spec_l03Own_ok
    rw [decide_eq_true (show x0.length ≤ 1073741824 by omega), decide_eq_true (show x1.length ≤ 1073741824 by have := h.2.1; omega), decide_eq_true (show x2.length ≤ 1073741824 by have := h.2.2.1; omega), decide_eq_true (show x3.length ≤ 1073741824 by omega)]
    rfl
  unfold Pure.spec_l03Step_ok Pure.impl_Chain_step_ok Pure.spec_l03Step Pure.impl_Chain_step Pure.spec_l03Step_1 Pure.spec_l03Step_2 Pure.spec_l03Step_3 Pure.spec_l03Step_4 Pure.impl_Chain_step_1 Pure.spec_l03Give_way Pure.spec_l03Give_okA Pure.spec_l03Give_okB
  rw [hown, f1, f2, f3, f4, a1, a2, a3]
  generalize Pure.impl_Chain_fly real x0 x1 x2 x3 x4 x5 x6 x7 x8 = p at *
  generalize Pure.impl_Chain_fly_1 real x0 x1 x2 x3 x4 x5 x6 x7 x8 = q at *
  generalize Pure.impl_Chain_straightenAll real p q x2 x3 R = s at *
  have hx2 := h.2.2.1
  have v1 := impl_valid p q x2 x3 (by omega) (by omega) (by omega) (by omega)
  have v2 := impl_valid s q x2 x3 (by omega) (by omega) (by omega) (by omega)
  have w1 := valid_is p q x2 x3 (by omega) (by omega) (by omega) (by omega)
  have w2 := valid_is s q x2 x3 (by omega) (by omega) (by omega) (by omega)
  rw [w1, w2, v1.1, v2.1, (spec_valid p q x2 x3).1, (spec_valid s q x2 x3).1]
  cases hv : Pure.impl_ValidChain real p q x2 x3 with
  | false => exact ⟨rfl, rfl, .inl ⟨rfl, rfl, rfl, rfl, rfl, rfl⟩⟩
  | true =>
    cases hw : Pure.impl_ValidChain real s q x2 x3 with
    | false => exact ⟨rfl, rfl, .inl ⟨rfl, rfl, rfl, rfl, rfl, rfl⟩⟩
    | true => exact ⟨rfl, rfl, .inr ⟨rfl, rfl, rfl, rfl, rfl, rfl, v2.2.1 hw, a5 g1, g2⟩⟩
end Go.Fx
