import Derived.Test.YtpdeekgbdalnaaaXr5p
import Derived.Test.YtpdeekgbdalnaaaXr5f
import Derived.Test.YtpdeekgbdalnaaaXr5i
namespace Go.Fx
/-- The marks of rows of 3. -/
def marks3 (n : Nat) : List (List Int) := (List.range n).map fun (i : Nat) => [real.ofInt .f32 (1 + 3 * i), real.ofInt .f32 (2 + 3 * i), real.ofInt .f32 (3 + 3 * i)]

theorem marks3_get {n i : Nat} (h : i < n) : (marks3 n).getD i [] = [real.ofInt .f32 (1 + 3 * i), real.ofInt .f32 (2 + 3 * i), real.ofInt .f32 (3 + 3 * i)] := by
  rw [getD_some (by simp [marks3]; exact h)]; simp [marks3]

theorem set3 {ys : List (List Int)} {i : Nat} {a b c : Int} (h : i < ys.length) (h3 : (ys.getD i []).length = 3) :
    List.set (List.set (List.set ys i (setFrom (List.getD ys i []) 0 [a])) i (setFrom (List.getD (List.set ys i (setFrom (List.getD ys i []) 0 [a])) i []) 1 [b])) i (setFrom (List.getD (List.set (List.set ys i (setFrom (List.getD ys i []) 0 [a])) i (setFrom (List.getD (List.set ys i (setFrom (List.getD ys i []) 0 [a])) i []) 1 [b])) i []) 2 [c]) = ys.set i [a, b, c] := by
  have e0 : ∀ (l : List (List Int)) (r : List Int), i < l.length → List.getD (List.set l i r) i [] = r := fun l r h => getD_set_self h
  rw [e0 ys _ h]
  rw [e0 _ _ (by rw [List.length_set]; exact h)]
  rw [List.set_set, List.set_set]
  congr 1
  revert h3
  generalize ys.getD i [] = r
  intro h3
  match r, h3 with
  | [p0, p1, p2], _ => rfl

theorem eqSwingS_refl (xs : List (List Int)) (hl : xs.length < 4611686018427387904) : Pure.laws_eqSwingS_ok real xs xs = true ∧ Pure.laws_eqSwingS real xs xs = true := by
  have key := iter_all xs.length (fun _ => true) (fun n i => Pure.laws_eqSwingS_L0 real xs xs n i) (true, false) (false, false) (fun n i h => by
      conv => lhs; unfold Pure.laws_eqSwingS_L0
      rw [dec_lt h, dec_nn, (eqSwing_refl _ _ _).1, (eqSwing_refl _ _ _).2, wrap_succ (by omega)]; rfl) (fun n => by
      conv => lhs; unfold Pure.laws_eqSwingS_L0
      rw [dec_ge (Nat.le_refl _)]; rfl) (xs.length + 1) 0 (by omega) (by omega)
  have hu : upAll xs.length (fun _ => true) 0 = true := by unfold upAll; rw [List.all_eq_true]; intro _ _; rfl
  rw [hu] at key
  unfold Pure.laws_eqSwingS_ok Pure.laws_eqSwingS
  have e : ((Int.ofNat xs.length != Int.ofNat xs.length)) = false := by simp
  rw [e]
  change (Pure.laws_eqSwingS_L0 real xs xs (xs.length + 1) 0).1 = true ∧ (bif (Pure.laws_eqSwingS_L0 real xs xs (xs.length + 1) 0).2 then false else true) = true
  change Pure.laws_eqSwingS_L0 real xs xs (xs.length + 1) 0 = _ at key
  rw [key]; exact ⟨rfl, rfl⟩

theorem markSwingS_loop : ∀ (n : Nat) (i : Nat) (xs : List (List Int)), i ≤ xs.length → xs.length - i < n → xs.length < 1000000000 → (∀ j, j < xs.length → (xs.getD j []).length = 3) →
    (∀ j, j < i → xs.getD j [] = [real.ofInt .f32 (1 + 3 * j), real.ofInt .f32 (2 + 3 * j), real.ofInt .f32 (3 + 3 * j)]) →
    Pure.laws_markSwingS_L0 real n (1 + 3 * i) i xs = (true, 1 + 3 * (xs.length : Int), marks3 xs.length) := by
  intro n
  induction n with
  | zero => intro i xs _ h; omega
  | succ n ih =>
    intro i xs hi hn hb h3 hx
    unfold Pure.laws_markSwingS_L0
    rcases Nat.lt_or_ge i xs.length with h | h
    · rw [dec_lt h, dec_nn, Int.toNat_natCast]
      simp only [List.length_set]
      rw [dec_lt h, wrap_succ (by omega), set3 h (h3 i h)]
      have w1 : IntKind.wrap .i64 (1 + 3 * (i : Int) + 1) = 2 + 3 * (i : Int) := by rw [wrap64 (by omega) (by omega)]; omega
      have w2 : IntKind.wrap .i64 (2 + 3 * (i : Int) + 1) = 3 + 3 * (i : Int) := by rw [wrap64 (by omega) (by omega)]; omega
      have w3 : IntKind.wrap .i64 (3 + 3 * (i : Int) + 1) = 1 + 3 * ((i + 1 : Nat) : Int) := by rw [wrap64 (by omega) (by omega)]; omega
      rw [w1, w2, w3]
      simp only [cond_true]
      have := ih (i + 1) (xs.set i [real.ofInt .f32 (1 + 3 * i), real.ofInt .f32 (2 + 3 * i), real.ofInt .f32 (3 + 3 * i)]) (by simp; omega) (by simp; omega) (by simpa using hb) (fun j hj => by
        rw [List.length_set] at hj
        rw [List.getD_eq_getElem?_getD, List.getElem?_set]
        by_cases hij : i = j
        · subst hij; simp [h]
        · rw [if_neg hij, ← List.getD_eq_getElem?_getD]; exact h3 j hj) (fun j hj => by
        rw [List.getD_eq_getElem?_getD, List.getElem?_set]
        by_cases hij : i = j
        · subst hij; simp [h]
        · rw [if_neg hij, ← List.getD_eq_getElem?_getD]; exact hx j (by omega))
      rw [List.length_set] at this
      exact this
    · rw [dec_ge h]
      have hil : i = xs.length := by omega
      subst hil
      have : xs = marks3 xs.length := by
        apply List.ext_getElem
        · simp [marks3]
        · intro j h1 h2
          have := hx j h1
          rw [getD_some h1] at this
          rw [this]; simp [marks3]
      simp only [cond_false]
      rw [← this]

theorem markSwingS_eq (xs : List (List Int)) (hl : xs.length < 1000000000) (h3 : ∀ j, j < xs.length → (xs.getD j []).length = 3) : Pure.laws_markSwingS_ok real xs 1 = true ∧ Pure.laws_markSwingS real xs 1 = 1 + 3 * (xs.length : Int) ∧ Pure.laws_markSwingS_1 real xs 1 = marks3 xs.length := by
  have := markSwingS_loop (xs.length + 1) 0 xs (by omega) (by omega) hl h3 (fun j hj => by omega)
  have e : (1 : Int) + 3 * ((0 : Nat) : Int) = 1 := rfl
  rw [e] at this
  unfold Pure.laws_markSwingS_ok Pure.laws_markSwingS Pure.laws_markSwingS_1
  change (Pure.laws_markSwingS_L0 real (xs.length + 1) 1 0 xs).1 = true ∧ (Pure.laws_markSwingS_L0 real (xs.length + 1) 1 0 xs).2.1 = _ ∧ (Pure.laws_markSwingS_L0 real (xs.length + 1) 1 0 xs).2.2 = _
  change Pure.laws_markSwingS_L0 real (xs.length + 1) 1 0 xs = _ at this
  rw [this]; exact ⟨rfl, rfl, rfl⟩

theorem heldSwingS_eq (m : Nat) (hm : m < 1000000000) : Pure.laws_heldSwingS_ok real (marks3 m) 1 = true ∧ Pure.laws_heldSwingS real (marks3 m) 1 = 1 + 3 * (m : Int) := by
  have hlen : (marks3 m).length = m := by simp [marks3]
  have key : ∀ (n i : Nat), i ≤ m → m - i < n → (Pure.laws_heldSwingS_L0 real (marks3 m) n (1 + 3 * (i : Int)) i).1 = true ∧ (Pure.laws_heldSwingS_L0 real (marks3 m) n (1 + 3 * (i : Int)) i).2.1 = false ∧ (Pure.laws_heldSwingS_L0 real (marks3 m) n (1 + 3 * (i : Int)) i).2.2.1 = 1 + 3 * (m : Int) := by
    intro n
    induction n with
    | zero => intro i _ h; omega
    | succ n ih =>
      intro i hi hn
      unfold Pure.laws_heldSwingS_L0
      rcases Nat.lt_or_ge i m with h | h
      · rw [dec_lt (show i < (marks3 m).length by omega), dec_nn, Int.toNat_natCast, marks3_get h, wrap_succ (by omega)]
        have w1 : IntKind.wrap .i64 (1 + 3 * (i : Int) + 1) = 2 + 3 * (i : Int) := by rw [wrap64 (by omega) (by omega)]; omega
        have w2 : IntKind.wrap .i64 (2 + 3 * (i : Int) + 1) = 3 + 3 * (i : Int) := by rw [wrap64 (by omega) (by omega)]; omega
        have w3 : IntKind.wrap .i64 (3 + 3 * (i : Int) + 1) = 1 + 3 * ((i + 1 : Nat) : Int) := by rw [wrap64 (by omega) (by omega)]; omega
        have e0 : ∀ a b c : Int, List.getD [a, b, c] 0 0 = a := fun _ _ _ => rfl
        have e1 : ∀ a b c : Int, List.getD [a, b, c] 1 0 = b := fun _ _ _ => rfl
        have e2 : ∀ a b c : Int, List.getD [a, b, c] 2 0 = c := fun _ _ _ => rfl
        rw [w1, w2, w3, e0, e1, e2, ofInt_notNaN, ofInt_notNaN, ofInt_notNaN]
        simp only [cond_true, cond_false]
        exact ih (i + 1) (by omega) (by omega)
      · rw [dec_ge (show (marks3 m).length ≤ i by omega)]
        have : i = m := by omega
        subst this
        exact ⟨rfl, rfl, rfl⟩
  obtain ⟨h1, h2, h3⟩ := key (m + 1) 0 (by omega) (by omega)
  unfold Pure.laws_heldSwingS_ok Pure.laws_heldSwingS
  rw [hlen]
  change (Pure.laws_heldSwingS_L0 real (marks3 m) (m + 1) 1 0).1 = true ∧ (bif (Pure.laws_heldSwingS_L0 real (marks3 m) (m + 1) 1 0).2.1 then -1 else (Pure.laws_heldSwingS_L0 real (marks3 m) (m + 1) 1 0).2.2.1) = _
  change (Pure.laws_heldSwingS_L0 real (marks3 m) (m + 1) 1 0).1 = true at h1
  change (Pure.laws_heldSwingS_L0 real (marks3 m) (m + 1) 1 0).2.1 = false at h2
  change (Pure.laws_heldSwingS_L0 real (marks3 m) (m + 1) 1 0).2.2.1 = _ at h3
  rw [h1, h2, h3]; exact ⟨rfl, rfl⟩


def row3 (r : List Int) : List Int := [r.getD 0 0, r.getD 1 0, r.getD 2 0]

theorem endT_last : ∀ (l : List (List Int)) (s : Int × Int × Int), 0 < l.length → endT l s = ((l.getD (l.length - 1) []).getD 0 0, (l.getD (l.length - 1) []).getD 1 0, (l.getD (l.length - 1) []).getD 2 0)
  | [], _, h => absurd h (Nat.lt_irrefl _)
  | [r], s, _ => rfl
  | r :: q :: l, s, _ => by
    unfold endT
    rw [endT_last (q :: l) _ (by simp)]
    simp only [List.length_cons, Nat.add_sub_cancel]
    rw [show l.length + 1 = (l.length) + 1 from rfl, List.getD_cons_succ]

/-- Every e-th row. -/
def pk (e : Nat) : Nat → List (List Int) → List (List Int)
  | 0, _ => []
  | m + 1, l => row3 (l.getD (e - 1) []) :: pk e m (l.drop e)

def ip (e : Nat) : Nat → List (List Int) → List (List Int)
  | _, [] => []
  | i, r :: l => bif (i + 1) % e == 0 then row3 r :: ip e (i + 1) l else ip e (i + 1) l

theorem ip_cons (e i : Nat) (r : List Int) (l : List (List Int)) : ip e i (r :: l) = bif (i + 1) % e == 0 then row3 r :: ip e (i + 1) l else ip e (i + 1) l := rfl

theorem ip_append (e : Nat) : ∀ (l1 : List (List Int)) (i : Nat) (l2 : List (List Int)), ip e i (l1 ++ l2) = ip e i l1 ++ ip e (i + l1.length) l2
  | [], i, l2 => by simp [ip]
  | r :: l1, i, l2 => by
    rw [List.cons_append, ip_cons, ip_cons]
    rw [ip_append e l1 (i + 1) l2, List.length_cons, show i + 1 + l1.length = i + (l1.length + 1) by omega]
    cases (i + 1) % e == 0 <;> rfl

theorem ip_part (e : Nat) (he : 1 ≤ e) (k : Nat) : ∀ (l : List (List Int)), l.length ≤ e → ip e (e * k + (e - l.length)) l = if l.length = 0 then [] else [row3 (l.getD (l.length - 1) [])]
  | [], _ => by unfold ip; rfl
  | [r], h => by
    unfold ip
    have : (e * k + (e - [r].length) + 1) % e = 0 := by
      simp only [List.length_cons, List.length_nil]
      rw [show e * k + (e - (0 + 1)) + 1 = e * k + e by omega, ← Nat.mul_succ, Nat.mul_mod_right]
    rw [this]
    rfl
  | r :: q :: l, h => by
    unfold ip
    simp only [List.length_cons] at h ⊢
    have : (e * k + (e - (l.length + 1 + 1)) + 1) % e = e - (l.length + 1) := by
      rw [show e * k + (e - (l.length + 1 + 1)) + 1 = e * k + (e - (l.length + 1)) by omega, Nat.mul_add_mod, Nat.mod_eq_of_lt (by omega)]
    rw [this]
    have hne : (e - (l.length + 1) == 0) = false := by rw [beq_eq_false_iff_ne]; omega
    rw [hne]
    have := ip_part e he k (q :: l) (by simp only [List.length_cons]; omega)
    simp only [List.length_cons] at this
    rw [show e * k + (e - (l.length + 1 + 1)) + 1 = e * k + (e - (l.length + 1)) by omega, cond_false, this]
    rw [if_neg (by omega), if_neg (by omega), Nat.add_sub_cancel, Nat.add_sub_cancel, List.getD_cons_succ]

theorem ip_pick (e : Nat) (he : 1 ≤ e) : ∀ (m k : Nat) (l : List (List Int)), l.length = e * m → ip e (e * k) l = pk e m l := by
  intro m
  induction m with
  | zero =>
    intro k l h
    have : l = [] := List.length_eq_zero_iff.1 (by rw [h, Nat.mul_zero])
    subst this
    rfl
  | succ m ih =>
    intro k l h
    have hle : e ≤ l.length := by rw [h, Nat.mul_succ]; omega
    have h1 : (l.take e).length = e := by rw [List.length_take]; omega
    have h2 : (l.drop e).length = e * m := by rw [List.length_drop, h, Nat.mul_succ]; omega
    have hp := ip_part e he k (l.take e) (by omega)
    rw [h1, Nat.sub_self, Nat.add_zero, if_neg (by omega)] at hp
    conv => lhs; rw [← List.take_append_drop e l]
    rw [ip_append, hp, h1, ← Nat.mul_succ, ih (k + 1) _ h2]
    conv => rhs; unfold pk
    rw [List.getD_eq_getElem?_getD, List.getElem?_take_of_lt (by omega), ← List.getD_eq_getElem?_getD]
    rfl

theorem impl_pick (l : List (List Int)) (e : Nat) (he : 1 ≤ e) (he2 : e ≤ 256) (hl : l.length < 1000000) : ∀ (m i f : Nat), i + m = l.length → m < f → ∀ acc : List (List Int), acc.length ≤ i →
    Pure.impl_SamplesOf_L0 real e l.length l f i acc = (true, acc ++ ip e i (l.drop i)) := by
  intro m
  induction m with
  | zero =>
    intro i f hi hf acc ha
    obtain ⟨f, rfl⟩ : ∃ g, f = g + 1 := ⟨f - 1, by omega⟩
    unfold Pure.impl_SamplesOf_L0
    rw [dec_ge' (show l.length ≤ i by omega), List.drop_eq_nil_of_le (by omega)]
    unfold ip
    simp
  | succ m ih =>
    intro i f hi hf acc ha
    obtain ⟨f, rfl⟩ : ∃ g, f = g + 1 := ⟨f - 1, by omega⟩
    have h : i < l.length := by omega
    have e1 : decide (Nat.succ acc.length ≤ 1073741824) = true := by simp; omega
    have e0 : ((e : Int) == 0) = false := by rw [beq_eq_false_iff_ne]; omega
    have et : (Int.tmod ((i + 1 : Nat) : Int) (e : Int) == 0) = ((i + 1) % e == 0) := by
      rw [← Int.ofNat_tmod]
      rw [Bool.eq_iff_iff, beq_iff_eq, beq_iff_eq]
      omega
    unfold Pure.impl_SamplesOf_L0
    rw [dec_lt' h, dec_nn, dec_lt h, e0, wrap_succ (by omega), et, e1, Int.toNat_natCast, getD_some h, List.drop_eq_getElem_cons h]
    simp only [cond_true, cond_false]
    conv => rhs; unfold ip
    cases (i + 1) % e == 0 with
    | true =>
      simp only [cond_true]
      rw [ih (i + 1) f (by omega) (by omega) _ (by simp; omega), List.append_assoc]
      rfl
    | false =>
      simp only [cond_false]
      rw [ih (i + 1) f (by omega) (by omega) _ (by omega)]

theorem spec_pick {x0 x1 x2 x3 x4 tick : Int} (e : Nat) (he : 1 ≤ e) (he2 : e ≤ 256) (C : Nat) (hC : C < 1000) : ∀ (m k f : Nat), k + m = C → m < f → ∀ (a b c : Int) (acc : List (List Int)), OkF .f32 a → acc.length = k →
    (Pure.spec_SamplesOf_L0 real tick e C x0 x1 x2 x3 x4 f k a b c acc).1 = true ∧
    (match runT x0 x1 x2 x3 x4 tick (e * m) a b c with
      | none => (Pure.spec_SamplesOf_L0 real tick e C x0 x1 x2 x3 x4 f k a b c acc).2.1 = true
      | some l => Pure.spec_SamplesOf_L0 real tick e C x0 x1 x2 x3 x4 f k a b c acc = (true, false, acc ++ pk e m l, [])) := by
  intro m
  induction m with
  | zero =>
    intro k f hk hf a b c acc ha hl
    obtain ⟨f, rfl⟩ : ∃ g, f = g + 1 := ⟨f - 1, by omega⟩
    unfold Pure.spec_SamplesOf_L0
    rw [dec_ge' (show C ≤ k by omega), Nat.mul_zero]
    unfold runT pk
    simp
  | succ m ih =>
    intro k f hk hf a b c acc ha hl
    obtain ⟨f, rfl⟩ : ∃ g, f = g + 1 := ⟨f - 1, by omega⟩
    obtain ⟨o1, _, o3⟩ := run_is (x0 := x0) (x1 := x1) (x2 := x2) (x3 := x3) (x4 := x4) (tick := tick) (n := (e : Int)) (by omega) (by omega) b c ha
    rw [Int.toNat_natCast] at o3
    have e1 : decide (Nat.succ acc.length ≤ 1073741824) = true := by simp; omega
    unfold Pure.spec_SamplesOf_L0
    rw [dec_lt' (show k < C by omega), o1, e1, wrap_succ (by omega), Nat.mul_succ, Nat.add_comm (e * m) e, runT_add]
    simp only [cond_true]
    cases hr : runT x0 x1 x2 x3 x4 tick e a b c with
    | none =>
      rw [hr] at o3
      rw [o3.1]
      exact ⟨rfl, rfl⟩
    | some l1 =>
      rw [hr] at o3
      obtain ⟨p1, _, p3, p4, p5, _, _⟩ := o3
      rw [p1, p3, p4, p5]
      have h1 := runT_len _ _ _ _ _ hr
      have hel := endT_last l1 (a, b, c) (by omega)
      have ha2 : OkF .f32 (endT l1 (a, b, c)).1 := by
        rw [hel]
        have hlt : l1.length - 1 < l1.length := by omega
        have hm : l1.getD (l1.length - 1) [] ∈ l1 := by rw [getD_some hlt]; exact List.getElem_mem hlt
        exact (runT_fin _ _ _ _ _ hr _ hm).1.okF
      have := ih (k + 1) f (by omega) (by omega) (endT l1 (a, b, c)).1 (endT l1 (a, b, c)).2.1 (endT l1 (a, b, c)).2.2 (acc ++ [[(endT l1 (a, b, c)).1, (endT l1 (a, b, c)).2.1, (endT l1 (a, b, c)).2.2]]) ha2 (by simp; omega)
      simp only [cond_true, Option.bind_some]
      refine ⟨this.1, ?_⟩
      have h2 := this.2
      cases hs : runT x0 x1 x2 x3 x4 tick (e * m) (endT l1 (a, b, c)).1 (endT l1 (a, b, c)).2.1 (endT l1 (a, b, c)).2.2 with
      | none => rw [hs] at h2; exact h2
      | some l2 =>
        rw [hs] at h2
        simp only [Option.map_some]
        refine h2.trans ?_
        conv => rhs; unfold pk
        have g1 : (l1 ++ l2).getD (e - 1) [] = l1.getD (l1.length - 1) [] := by
          rw [List.getD_eq_getElem?_getD, List.getElem?_append_left (by omega), ← List.getD_eq_getElem?_getD, h1]
        have g2 : (l1 ++ l2).drop e = l2 := by rw [← h1]; exact List.drop_left
        rw [g1, g2, List.append_assoc, hel]
        rfl

theorem pick_len (e : Nat) : ∀ (m : Nat) (l : List (List Int)), (pk e m l).length = m
  | 0, _ => rfl
  | m + 1, l => by unfold pk; rw [List.length_cons, pick_len e m]
theorem pick_three (e : Nat) : ∀ (m : Nat) (l : List (List Int)), ∀ r ∈ pk e m l, r.length = 3
  | 0, _, r, h => by cases h
  | m + 1, l, r, h => by
    unfold pk at h
    rcases List.mem_cons.1 h with rfl | h
    · rfl
    · exact pick_three e m _ r h

theorem samples_is (x0 x1 x2 x3 x4 x6 x7 x8 x9 x10 : Int) {x5 : Int} (h5 : OkF .f32 x5) : Pure.spec_SamplesOf_ok real x0 x1 x2 x3 x4 x5 x6 x7 x8 x9 x10 = true ∧ Pure.impl_SamplesOf_ok real x0 x1 x2 x3 x4 x5 x6 x7 x8 x9 x10 = true ∧
    Pure.spec_SamplesOf real x0 x1 x2 x3 x4 x5 x6 x7 x8 x9 x10 = Pure.impl_SamplesOf real x0 x1 x2 x3 x4 x5 x6 x7 x8 x9 x10 ∧ Pure.spec_SamplesOf_1 real x0 x1 x2 x3 x4 x5 x6 x7 x8 x9 x10 = Pure.impl_SamplesOf_1 real x0 x1 x2 x3 x4 x5 x6 x7 x8 x9 x10 ∧
    (Pure.impl_SamplesOf_1 real x0 x1 x2 x3 x4 x5 x6 x7 x8 x9 x10).length < 1000000 ∧ (∀ r ∈ Pure.impl_SamplesOf_1 real x0 x1 x2 x3 x4 x5 x6 x7 x8 x9 x10, r.length = 3) := by
  obtain ⟨w1, w2⟩ := swingOk_is x0 x1 x2 x3 x4 x5 x6 x7 x8
  have hin : ∀ a b c, Pure.spec_l00In real a b c = Pure.impl_in real a b c := fun _ _ _ => rfl
  unfold Pure.spec_SamplesOf_ok Pure.impl_SamplesOf_ok Pure.spec_SamplesOf Pure.impl_SamplesOf Pure.spec_SamplesOf_1 Pure.impl_SamplesOf_1
  rw [w1, w2]
  simp only [hin]
  have nil : ([] : List (List Int)).length < 1000000 ∧ (∀ r ∈ ([] : List (List Int)), r.length = 3) := ⟨by simp, fun r hr => by cases hr⟩
  cases Pure.spec_l02Both real x0 x1 x2 x3 x4 x5 x6 x7 with
  | false => exact ⟨rfl, rfl, rfl, rfl, nil⟩
  | true =>
    cases Pure.spec_l02Tick real x8 with
    | false => exact ⟨rfl, rfl, rfl, rfl, nil⟩
    | true =>
      cases h9 : Pure.impl_in real x9 1 256 with
      | false => exact ⟨rfl, rfl, rfl, rfl, nil⟩
      | true =>
        cases h10 : Pure.impl_in real x10 0 256 with
        | false => exact ⟨rfl, rfl, rfl, rfl, nil⟩
        | true =>
          obtain ⟨a1, a2⟩ := in_iff.1 h9
          obtain ⟨b1, b2⟩ := in_iff.1 h10
          obtain ⟨e, rfl⟩ := Int.eq_ofNat_of_zero_le (show 0 ≤ x9 by omega)
          obtain ⟨c, rfl⟩ := Int.eq_ofNat_of_zero_le b1
          have hm : e * c ≤ 256 * 256 := Nat.mul_le_mul (by omega) (by omega)
          have hw : IntKind.wrap .i64 ((e : Int) * (c : Int)) = ((e * c : Nat) : Int) := by rw [← Int.natCast_mul]; exact wrap64 (by omega) (by omega)
          rw [hw]
          by_cases hg : e * c ≤ 256
          · have hd : decide (((e * c : Nat) : Int) > 256) = false := decide_eq_false (by omega)
            rw [hd]
            obtain ⟨_, o2, o3⟩ := run_is (x0 := x0) (x1 := x1) (x2 := x2) (x3 := x3) (x4 := x4) (tick := x8) (n := ((e * c : Nat) : Int)) (by omega) (by omega) x6 x7 h5
            rw [Int.toNat_natCast] at o3
            obtain ⟨s1, s2⟩ := spec_pick (x0 := x0) (x1 := x1) (x2 := x2) (x3 := x3) (x4 := x4) (tick := x8) e (by omega) (by omega) c (by omega) c 0 (((c : Int) - 0) + 1).toNat (by omega) (by omega) x5 x6 x7 [] h5 rfl
            change (Pure.spec_SamplesOf_L0 real x8 e c x0 x1 x2 x3 x4 (((c : Int) - 0) + 1).toNat 0 x5 x6 x7 []).1 = true at s1
            rw [s1, o2]
            simp only [cond_true, cond_false, Bool.and_self]
            cases hr : runT x0 x1 x2 x3 x4 x8 (e * c) x5 x6 x7 with
            | none =>
              rw [hr] at o3 s2
              change (Pure.spec_SamplesOf_L0 real x8 e c x0 x1 x2 x3 x4 (((c : Int) - 0) + 1).toNat 0 x5 x6 x7 []).2.1 = true at s2
              rw [o3.2.1, s2]
              simp only [cond_true, cond_false, true_and]
              exact nil
            | some l =>
              rw [hr] at o3 s2
              change Pure.spec_SamplesOf_L0 real x8 e c x0 x1 x2 x3 x4 (((c : Int) - 0) + 1).toNat 0 x5 x6 x7 [] = (true, false, pk e c l, []) at s2
              have h1 := runT_len _ _ _ _ _ hr
              have ht := impl_pick l e (by omega) (by omega) (by omega) l.length 0 (Nat.succ (l.length + 0)) (by omega) (by omega) [] (by simp)
              rw [List.drop_zero, List.nil_append, show (0 : Nat) = e * 0 from (Nat.mul_zero e).symm, ip_pick e (by omega) c 0 l h1, Nat.mul_zero] at ht
              change Pure.impl_SamplesOf_L0 real e (Int.ofNat l.length) l (Nat.succ (l.length + 0)) 0 [] = _ at ht
              rw [o3.2.1, o3.2.2.2.2.2.2, s2, ht]
              simp only [cond_true, cond_false, true_and]
              exact ⟨by rw [pick_len]; omega, pick_three e c l⟩
          · have hd : decide (((e * c : Nat) : Int) > 256) = true := decide_eq_true (by omega)
            rw [hd]
            exact ⟨rfl, rfl, rfl, rfl, nil⟩

theorem law_FnExactSamplesOf (x0 x1 x2 x3 x4 x5 x6 x7 x8 x9 x10 : Int) (_ : OkF .f32 x0) (_ : OkF .f32 x1) (_ : OkF .f32 x2) (_ : OkF .f32 x3) (_ : OkF .f32 x4) (h5 : OkF .f32 x5) (_ : OkF .f32 x6) (_ : OkF .f32 x7) (_ : OkF .f32 x8) (_ : IntKind.i64.has x9) (_ : IntKind.i64.has x10) :
    Pure.laws_FnExactSamplesOf_ok real x0 x1 x2 x3 x4 x5 x6 x7 x8 x9 x10 = true ∧ Pure.laws_FnExactSamplesOf real x0 x1 x2 x3 x4 x5 x6 x7 x8 x9 x10 = true := by
  obtain ⟨i1, i2, i3, i4, i5, i6⟩ := samples_is x0 x1 x2 x3 x4 x6 x7 x8 x9 x10 h5
  obtain ⟨e3, e4⟩ := eqSwingS_refl (Pure.impl_SamplesOf_1 real x0 x1 x2 x3 x4 x5 x6 x7 x8 x9 x10) (by omega)
  obtain ⟨m1, m2, m3⟩ := markSwingS_eq (Pure.impl_SamplesOf_1 real x0 x1 x2 x3 x4 x5 x6 x7 x8 x9 x10) (by omega) (fun j hj => by rw [getD_some hj]; exact i6 _ (List.getElem_mem hj))
  obtain ⟨d1, d2⟩ := heldSwingS_eq (Pure.impl_SamplesOf_1 real x0 x1 x2 x3 x4 x5 x6 x7 x8 x9 x10).length (by omega)
  unfold Pure.laws_FnExactSamplesOf_ok Pure.laws_FnExactSamplesOf
  rw [i1, i2, i3, i4, e3, e4, m1, m2, m3, d1, d2]
  have q1 : decide (1 + 3 * ((Pure.impl_SamplesOf_1 real x0 x1 x2 x3 x4 x5 x6 x7 x8 x9 x10).length : Int) < 0) = false := by rw [decide_eq_false_iff_not]; omega
  rw [q1]
  simp
end Go.Fx
