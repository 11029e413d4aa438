import Derived.Test.YtodilhnddnoekaaXr7v
namespace Go.Fx
set_option maxRecDepth 100000
abbrev B1 : List K := [.f .f32]
abbrev B3 : List K := [.f .f32, .f .f32, .f .f32]
abbrev BR : List K := [.i .i64, .i .i64, .f .f32]
theorem row1 {r : List Int} (h : r.length = 1) : [r.getD 0 0] = r := by
  match r, h with
  | [a], _ => rfl
theorem row3 {r : List Int} (h : r.length = 3) : [r.getD 0 0, r.getD 1 0, r.getD 2 0] = r := by
  match r, h with
  | [a, b, c], _ => rfl

theorem sameFloat_refl (c : Int) : Pure.laws_sameFloat real c c = true := by
  unfold Pure.laws_sameFloat
  rw [eql_eq_not_neq, eql_eq_not_neq]
  cases real.cmp .neq .f64 c c with
  | true => rfl
  | false => simp


theorem toVectorS_eq {xs : List (List Int)} (h : RowsOK B3 xs) (hl : xs.length ≤ 1048576) : Pure.laws_toVectorS_ok real xs = true ∧ Pure.laws_toVectorS real xs = xs := by
  have key : ∀ (n i : Nat) (ys : List (List Int)), i ≤ xs.length → xs.length - i < n → ys.length = xs.length → (∀ j, j < i → ys.getD j [] = xs.getD j []) → Pure.laws_toVectorS_L0 real xs n i ys = (true, xs) := by
    intro n
    induction n with
    | zero => intro i ys _ h; omega
    | succ n ih =>
      intro i ys hi hn hy hj
      unfold Pure.laws_toVectorS_L0
      rcases Nat.lt_or_ge i xs.length with h1 | h1
      · rw [dec_lt h1, dec_nn, dec_lt (show i < ys.length by omega), wrap_succ (by omega), Int.toNat_natCast]
        simp only [cond_true]
        have hr : (xs.getD i []).length = 3 := by rw [getD_some h1]; exact (h.row _ (List.getElem_mem h1)).1
        rw [row3 hr]
        refine ih (i + 1) _ (by omega) (by omega) (by simp; omega) fun j hj' => ?_
        rw [List.getD_eq_getElem?_getD, List.getElem?_set]
        by_cases hij : i = j
        · subst hij; simp [hy, h1]
        · rw [if_neg hij, ← List.getD_eq_getElem?_getD]; exact hj j (by omega)
      · rw [dec_ge h1]
        have : ys = xs := by
          apply List.ext_getElem hy
          intro j h2 h3
          have := hj j (by omega)
          rwa [getD_some h2, getD_some h3] at this
        rw [this]; rfl
  unfold Pure.laws_toVectorS_ok Pure.laws_toVectorS
  have e1 : ((Int.ofNat xs.length == Int.ofNat xs.length)) = true := by simp
  have e2 : decide (Int.ofNat xs.length ≤ 1073741824) = true := by simp; omega
  rw [e1, e2]
  have := key (xs.length + 1) 0 (List.replicate xs.length [0, 0, 0]) (by omega) (by omega) (by simp) (fun j hj => by omega)
  change (Pure.laws_toVectorS_L0 real xs (xs.length + 1) 0 (List.replicate xs.length [0, 0, 0])).1 = true ∧ (Pure.laws_toVectorS_L0 real xs (xs.length + 1) 0 (List.replicate xs.length [0, 0, 0])).2 = xs
  change Pure.laws_toVectorS_L0 real xs (xs.length + 1) 0 (List.replicate xs.length [0, 0, 0]) = _ at this
  rw [this]; exact ⟨rfl, rfl⟩

theorem toFloat32S_eq {xs : List (List Int)} (h : RowsOK B1 xs) (hl : xs.length ≤ 1048576) : Pure.laws_toFloat32S_ok real xs = true ∧ Pure.laws_toFloat32S real xs = xs := by
  have key : ∀ (n i : Nat) (ys : List (List Int)), i ≤ xs.length → xs.length - i < n → ys.length = xs.length → (∀ j, j < i → ys.getD j [] = xs.getD j []) → Pure.laws_toFloat32S_L0 real xs n i ys = (true, xs) := by
    intro n
    induction n with
    | zero => intro i ys _ h; omega
    | succ n ih =>
      intro i ys hi hn hy hj
      unfold Pure.laws_toFloat32S_L0
      rcases Nat.lt_or_ge i xs.length with h1 | h1
      · rw [dec_lt h1, dec_nn, dec_lt (show i < ys.length by omega), wrap_succ (by omega), Int.toNat_natCast]
        simp only [cond_true]
        have hr : (xs.getD i []).length = 1 := by rw [getD_some h1]; exact (h.row _ (List.getElem_mem h1)).1
        rw [row1 hr]
        refine ih (i + 1) _ (by omega) (by omega) (by simp; omega) fun j hj' => ?_
        rw [List.getD_eq_getElem?_getD, List.getElem?_set]
        by_cases hij : i = j
        · subst hij; simp [hy, h1]
        · rw [if_neg hij, ← List.getD_eq_getElem?_getD]; exact hj j (by omega)
      · rw [dec_ge h1]
        have : ys = xs := by
          apply List.ext_getElem hy
          intro j h2 h3
          have := hj j (by omega)
          rwa [getD_some h2, getD_some h3] at this
        rw [this]; rfl
  unfold Pure.laws_toFloat32S_ok Pure.laws_toFloat32S
  have e1 : ((Int.ofNat xs.length == Int.ofNat xs.length)) = true := by simp
  have e2 : decide (Int.ofNat xs.length ≤ 1073741824) = true := by simp; omega
  rw [e1, e2]
  have := key (xs.length + 1) 0 (List.replicate xs.length [0]) (by omega) (by omega) (by simp) (fun j hj => by omega)
  change (Pure.laws_toFloat32S_L0 real xs (xs.length + 1) 0 (List.replicate xs.length [0])).1 = true ∧ (Pure.laws_toFloat32S_L0 real xs (xs.length + 1) 0 (List.replicate xs.length [0])).2 = xs
  change Pure.laws_toFloat32S_L0 real xs (xs.length + 1) 0 (List.replicate xs.length [0]) = _ at this
  rw [this]; exact ⟨rfl, rfl⟩

theorem toRodS_eq {xs : List (List Int)} (h : RowsOK BR xs) (hl : xs.length ≤ 1048576) : Pure.laws_toRodS_ok real xs = true ∧ Pure.laws_toRodS real xs = xs := by
  have key : ∀ (n i : Nat) (ys : List (List Int)), i ≤ xs.length → xs.length - i < n → ys.length = xs.length → (∀ j, j < i → ys.getD j [] = xs.getD j []) → Pure.laws_toRodS_L0 real xs n i ys = (true, xs) := by
    intro n
    induction n with
    | zero => intro i ys _ h; omega
    | succ n ih =>
      intro i ys hi hn hy hj
      unfold Pure.laws_toRodS_L0
      rcases Nat.lt_or_ge i xs.length with h1 | h1
      · rw [dec_lt h1, dec_nn, dec_lt (show i < ys.length by omega), wrap_succ (by omega), Int.toNat_natCast]
        simp only [cond_true]
        have hr : (xs.getD i []).length = 3 := by rw [getD_some h1]; exact (h.row _ (List.getElem_mem h1)).1
        rw [row3 hr]
        refine ih (i + 1) _ (by omega) (by omega) (by simp; omega) fun j hj' => ?_
        rw [List.getD_eq_getElem?_getD, List.getElem?_set]
        by_cases hij : i = j
        · subst hij; simp [hy, h1]
        · rw [if_neg hij, ← List.getD_eq_getElem?_getD]; exact hj j (by omega)
      · rw [dec_ge h1]
        have : ys = xs := by
          apply List.ext_getElem hy
          intro j h2 h3
          have := hj j (by omega)
          rwa [getD_some h2, getD_some h3] at this
        rw [this]; rfl
  unfold Pure.laws_toRodS_ok Pure.laws_toRodS
  have e1 : ((Int.ofNat xs.length == Int.ofNat xs.length)) = true := by simp
  have e2 : decide (Int.ofNat xs.length ≤ 1073741824) = true := by simp; omega
  rw [e1, e2]
  have := key (xs.length + 1) 0 (List.replicate xs.length [0, 0, 0]) (by omega) (by omega) (by simp) (fun j hj => by omega)
  change (Pure.laws_toRodS_L0 real xs (xs.length + 1) 0 (List.replicate xs.length [0, 0, 0])).1 = true ∧ (Pure.laws_toRodS_L0 real xs (xs.length + 1) 0 (List.replicate xs.length [0, 0, 0])).2 = xs
  change Pure.laws_toRodS_L0 real xs (xs.length + 1) 0 (List.replicate xs.length [0, 0, 0]) = _ at this
  rw [this]; exact ⟨rfl, rfl⟩

theorem set3 {ys : List (List Int)} {i : Nat} {a b c : Int} (h : i < ys.length) (h3 : (ys.getD i []).length = 3) :
    List.set (List.set (List.set ys i (setFrom (List.getD ys i []) 0 [a])) i (setFrom (List.getD (List.set ys i (setFrom (List.getD ys i []) 0 [a])) i []) 1 [b])) i (setFrom (List.getD (List.set (List.set ys i (setFrom (List.getD ys i []) 0 [a])) i (setFrom (List.getD (List.set ys i (setFrom (List.getD ys i []) 0 [a])) i []) 1 [b])) i []) 2 [c]) = ys.set i [a, b, c] := by
  have e0 : ∀ (l : List (List Int)) (r : List Int), i < l.length → List.getD (List.set l i r) i [] = r := fun l r h => getD_set_self h
  rw [e0 ys _ h]
  rw [e0 _ _ (by rw [List.length_set]; exact h)]
  rw [List.set_set, List.set_set]
  congr 1
  revert h3
  generalize ys.getD i [] = r
  intro h3
  match r, h3 with
  | [p0, p1, p2], _ => rfl

theorem eqVector_refl (a b c : Int) : Pure.laws_eqVector_ok real a b c a b c = true ∧ Pure.laws_eqVector real a b c a b c = true := by
  unfold Pure.laws_eqVector_ok Pure.laws_eqVector
  simp only [convOk_up, sameFloat_refl, cond_true, and_self]

theorem eqVectorS_refl (xs : List (List Int)) (hl : xs.length < 4611686018427387904) : Pure.laws_eqVectorS_ok real xs xs = true ∧ Pure.laws_eqVectorS real xs xs = true := by
  have key := iter_all xs.length (fun _ => true) (fun n i => Pure.laws_eqVectorS_L0 real xs xs n i) (true, false) (false, false) (fun n i h => by
      conv => lhs; unfold Pure.laws_eqVectorS_L0
      rw [dec_lt h, dec_nn, (eqVector_refl _ _ _).1, (eqVector_refl _ _ _).2, wrap_succ (by omega)]; rfl) (fun n => by
      conv => lhs; unfold Pure.laws_eqVectorS_L0
      rw [dec_ge (Nat.le_refl _)]; rfl) (xs.length + 1) 0 (by omega) (by omega)
  have hu : upAll xs.length (fun _ => true) 0 = true := by unfold upAll; rw [List.all_eq_true]; intro _ _; rfl
  rw [hu] at key
  unfold Pure.laws_eqVectorS_ok Pure.laws_eqVectorS
  have e : ((Int.ofNat xs.length != Int.ofNat xs.length)) = false := by simp
  rw [e]
  change (Pure.laws_eqVectorS_L0 real xs xs (xs.length + 1) 0).1 = true ∧ (bif (Pure.laws_eqVectorS_L0 real xs xs (xs.length + 1) 0).2 then false else true) = true
  change Pure.laws_eqVectorS_L0 real xs xs (xs.length + 1) 0 = _ at key
  rw [key]; exact ⟨rfl, rfl⟩

def rowVector (p : Int) : List Int := [real.ofInt .f32 (p), real.ofInt .f32 (p + 1), real.ofInt .f32 (p + 1 + 1)]
def marksVector (s n : Nat) : List (List Int) := (List.range n).map fun (i : Nat) => rowVector ((s : Int) + 3 * i)

theorem marksVector_len (s n : Nat) : (marksVector s n).length = n := by simp [marksVector]
theorem marksVector_get {s n i : Nat} (h : i < n) : (marksVector s n).getD i [] = rowVector ((s : Int) + 3 * i) := by
  rw [getD_some (by rw [marksVector_len]; exact h)]; simp [marksVector]

theorem markVectorS_loop (s : Nat) (hs : s < 1000000000) : ∀ (n : Nat) (i : Nat) (xs : List (List Int)), i ≤ xs.length → xs.length - i < n → xs.length < 1000000000 → (∀ j, j < xs.length → (xs.getD j []).length = 3) →
    (∀ j, j < i → xs.getD j [] = rowVector ((s : Int) + 3 * j)) →
    Pure.laws_markVectorS_L0 real n ((s : Int) + 3 * i) i xs = (true, (s : Int) + 3 * (xs.length : Int), marksVector s xs.length) := by
  intro n
  induction n with
  | zero => intro i xs _ h; omega
  | succ n ih =>
    intro i xs hi hn hb h3 hx
    unfold Pure.laws_markVectorS_L0
    rcases Nat.lt_or_ge i xs.length with h | h
    · rw [dec_lt h, dec_nn, Int.toNat_natCast]
      simp only [List.length_set]
      rw [dec_lt h, wrap_succ (by omega), set3 h (h3 i h)]
      have w1 : IntKind.wrap .i64 (((s : Int) + 3 * i) + 1) = ((s : Int) + 3 * i) + 1 := by rw [wrap64 (by omega) (by omega)]
      have w2 : IntKind.wrap .i64 (((s : Int) + 3 * i) + 1 + 1) = ((s : Int) + 3 * i) + 1 + 1 := by rw [wrap64 (by omega) (by omega)]
      have w3 : IntKind.wrap .i64 (((s : Int) + 3 * i) + 1 + 1 + 1) = (s : Int) + 3 * ((i + 1 : Nat) : Int) := by rw [wrap64 (by omega) (by omega)]; omega
      rw [w1, w2, w3]
      simp only [cond_true]
      have := ih (i + 1) (xs.set i (rowVector ((s : Int) + 3 * i))) (by simp; omega) (by simp; omega) (by simpa using hb) (fun j hj => by
        rw [List.length_set] at hj
        rw [List.getD_eq_getElem?_getD, List.getElem?_set]
        by_cases hij : i = j
        · subst hij; simp [h, rowVector]
        · rw [if_neg hij, ← List.getD_eq_getElem?_getD]; exact h3 j hj) (fun j hj => by
        rw [List.getD_eq_getElem?_getD, List.getElem?_set]
        by_cases hij : i = j
        · subst hij; simp [h]
        · rw [if_neg hij, ← List.getD_eq_getElem?_getD]; exact hx j (by omega))
      rw [List.length_set] at this
      exact this
    · rw [dec_ge h]
      have hil : i = xs.length := by omega
      subst hil
      have : xs = marksVector s xs.length := by
        apply List.ext_getElem
        · rw [marksVector_len]
        · intro j h1 h2
          have := hx j h1
          rw [getD_some h1] at this
          rw [this]; simp [marksVector]
      simp only [cond_false]
      rw [← this]

theorem markVectorS_eq (s : Nat) (hs : s < 1000000000) (xs : List (List Int)) (hl : xs.length < 1000000000) (h3 : ∀ j, j < xs.length → (xs.getD j []).length = 3) : Pure.laws_markVectorS_ok real xs s = true ∧ Pure.laws_markVectorS real xs s = ((s + 3 * xs.length : Nat) : Int) ∧ Pure.laws_markVectorS_1 real xs s = marksVector s xs.length := by
  have := markVectorS_loop s hs (xs.length + 1) 0 xs (by omega) (by omega) hl h3 (fun j hj => by omega)
  have e : (s : Int) + 3 * ((0 : Nat) : Int) = s := by omega
  have e2 : (s : Int) + 3 * (xs.length : Int) = ((s + 3 * xs.length : Nat) : Int) := by omega
  rw [e, e2] at this
  unfold Pure.laws_markVectorS_ok Pure.laws_markVectorS Pure.laws_markVectorS_1
  change (Pure.laws_markVectorS_L0 real (xs.length + 1) s 0 xs).1 = true ∧ (Pure.laws_markVectorS_L0 real (xs.length + 1) s 0 xs).2.1 = _ ∧ (Pure.laws_markVectorS_L0 real (xs.length + 1) s 0 xs).2.2 = _
  change Pure.laws_markVectorS_L0 real (xs.length + 1) s 0 xs = _ at this
  rw [this]; exact ⟨rfl, rfl, rfl⟩

theorem heldVectorS_eq (s : Nat) (hs : s < 1000000000) (m : Nat) (hm : m < 1000000000) : Pure.laws_heldVectorS_ok real (marksVector s m) s = true ∧ Pure.laws_heldVectorS real (marksVector s m) s = ((s + 3 * m : Nat) : Int) := by
  have hlen : (marksVector s m).length = m := marksVector_len s m
  have hne : ∀ a : Int, (a != a) = false := fun a => by simp
  have key : ∀ (n i : Nat), i ≤ m → m - i < n → (Pure.laws_heldVectorS_L0 real (marksVector s m) n ((s : Int) + 3 * (i : Int)) i).1 = true ∧ (Pure.laws_heldVectorS_L0 real (marksVector s m) n ((s : Int) + 3 * (i : Int)) i).2.1 = false ∧ (Pure.laws_heldVectorS_L0 real (marksVector s m) n ((s : Int) + 3 * (i : Int)) i).2.2.1 = (s : Int) + 3 * (m : Int) := by
    intro n
    induction n with
    | zero => intro i _ h; omega
    | succ n ih =>
      intro i hi hn
      unfold Pure.laws_heldVectorS_L0
      rcases Nat.lt_or_ge i m with h | h
      · rw [dec_lt (show i < (marksVector s m).length by omega), dec_nn, Int.toNat_natCast, marksVector_get h, wrap_succ (by omega)]
        have w1 : IntKind.wrap .i64 (((s : Int) + 3 * i) + 1) = ((s : Int) + 3 * i) + 1 := by rw [wrap64 (by omega) (by omega)]
        have w2 : IntKind.wrap .i64 (((s : Int) + 3 * i) + 1 + 1) = ((s : Int) + 3 * i) + 1 + 1 := by rw [wrap64 (by omega) (by omega)]
        have w3 : IntKind.wrap .i64 (((s : Int) + 3 * i) + 1 + 1 + 1) = (s : Int) + 3 * ((i + 1 : Nat) : Int) := by rw [wrap64 (by omega) (by omega)]; omega
        have e0 : ∀ p : Int, List.getD (rowVector p) 0 0 = real.ofInt .f32 (p) := fun _ => rfl
        have e1 : ∀ p : Int, List.getD (rowVector p) 1 0 = real.ofInt .f32 (p + 1) := fun _ => rfl
        have e2 : ∀ p : Int, List.getD (rowVector p) 2 0 = real.ofInt .f32 (p + 1 + 1) := fun _ => rfl
        rw [w1, w2, w3, e0, e1, e2, ofInt_notNaN, ofInt_notNaN, ofInt_notNaN]
        simp only [cond_true, cond_false]
        exact ih (i + 1) (by omega) (by omega)
      · rw [dec_ge (show (marksVector s m).length ≤ i by omega)]
        have : i = m := by omega
        subst this
        exact ⟨rfl, rfl, rfl⟩
  obtain ⟨h1, h2, h3⟩ := key (m + 1) 0 (by omega) (by omega)
  have e : (s : Int) + 3 * ((0 : Nat) : Int) = s := by omega
  have e2 : (s : Int) + 3 * (m : Int) = ((s + 3 * m : Nat) : Int) := by omega
  rw [e] at h1 h2 h3
  rw [e2] at h3
  unfold Pure.laws_heldVectorS_ok Pure.laws_heldVectorS
  rw [hlen]
  change (Pure.laws_heldVectorS_L0 real (marksVector s m) (m + 1) s 0).1 = true ∧ (bif (Pure.laws_heldVectorS_L0 real (marksVector s m) (m + 1) s 0).2.1 then -1 else (Pure.laws_heldVectorS_L0 real (marksVector s m) (m + 1) s 0).2.2.1) = _
  change (Pure.laws_heldVectorS_L0 real (marksVector s m) (m + 1) s 0).1 = true at h1
  change (Pure.laws_heldVectorS_L0 real (marksVector s m) (m + 1) s 0).2.1 = false at h2
  change (Pure.laws_heldVectorS_L0 real (marksVector s m) (m + 1) s 0).2.2.1 = _ at h3
  rw [h1, h2, h3]; exact ⟨rfl, rfl⟩

theorem eqFloat32S_refl (xs : List (List Int)) (hl : xs.length < 4611686018427387904) : Pure.laws_eqFloat32S_ok real xs xs = true ∧ Pure.laws_eqFloat32S real xs xs = true := by
  have key := iter_all xs.length (fun _ => true) (fun n i => Pure.laws_eqFloat32S_L0 real xs xs n i) (true, false) (false, false) (fun n i h => by
      conv => lhs; unfold Pure.laws_eqFloat32S_L0
      rw [dec_lt h, dec_nn, convOk_up, sameFloat_refl, wrap_succ (by omega)]; rfl) (fun n => by
      conv => lhs; unfold Pure.laws_eqFloat32S_L0
      rw [dec_ge (Nat.le_refl _)]; rfl) (xs.length + 1) 0 (by omega) (by omega)
  have hu : upAll xs.length (fun _ => true) 0 = true := by unfold upAll; rw [List.all_eq_true]; intro _ _; rfl
  rw [hu] at key
  unfold Pure.laws_eqFloat32S_ok Pure.laws_eqFloat32S
  have e : ((Int.ofNat xs.length != Int.ofNat xs.length)) = false := by simp
  rw [e]
  change (Pure.laws_eqFloat32S_L0 real xs xs (xs.length + 1) 0).1 = true ∧ (bif (Pure.laws_eqFloat32S_L0 real xs xs (xs.length + 1) 0).2 then false else true) = true
  change Pure.laws_eqFloat32S_L0 real xs xs (xs.length + 1) 0 = _ at key
  rw [key]; exact ⟨rfl, rfl⟩

def rowFloat32 (p : Int) : List Int := [real.ofInt .f32 (p)]
def marksFloat32 (s n : Nat) : List (List Int) := (List.range n).map fun (i : Nat) => rowFloat32 ((s : Int) + 1 * i)

theorem marksFloat32_len (s n : Nat) : (marksFloat32 s n).length = n := by simp [marksFloat32]
theorem marksFloat32_get {s n i : Nat} (h : i < n) : (marksFloat32 s n).getD i [] = rowFloat32 ((s : Int) + 1 * i) := by
  rw [getD_some (by rw [marksFloat32_len]; exact h)]; simp [marksFloat32]

theorem markFloat32S_loop (s : Nat) (hs : s < 1000000000) : ∀ (n : Nat) (i : Nat) (xs : List (List Int)), i ≤ xs.length → xs.length - i < n → xs.length < 1000000000 → (∀ j, j < xs.length → (xs.getD j []).length = 1) →
    (∀ j, j < i → xs.getD j [] = rowFloat32 ((s : Int) + 1 * j)) →
    Pure.laws_markFloat32S_L0 real n ((s : Int) + 1 * i) i xs = (true, (s : Int) + 1 * (xs.length : Int), marksFloat32 s xs.length) := by
  intro n
  induction n with
  | zero => intro i xs _ h; omega
  | succ n ih =>
    intro i xs hi hn hb h3 hx
    unfold Pure.laws_markFloat32S_L0
    rcases Nat.lt_or_ge i xs.length with h | h
    · rw [dec_lt h, dec_nn, Int.toNat_natCast, wrap_succ (by omega)]
      have w1 : IntKind.wrap .i64 (((s : Int) + 1 * i) + 1) = (s : Int) + 1 * ((i + 1 : Nat) : Int) := by rw [wrap64 (by omega) (by omega)]; omega
      rw [w1]
      simp only [cond_true]
      have := ih (i + 1) (xs.set i (rowFloat32 ((s : Int) + 1 * i))) (by simp; omega) (by simp; omega) (by simpa using hb) (fun j hj => by
        rw [List.length_set] at hj
        rw [List.getD_eq_getElem?_getD, List.getElem?_set]
        by_cases hij : i = j
        · subst hij; simp [h, rowFloat32]
        · rw [if_neg hij, ← List.getD_eq_getElem?_getD]; exact h3 j hj) (fun j hj => by
        rw [List.getD_eq_getElem?_getD, List.getElem?_set]
        by_cases hij : i = j
        · subst hij; simp [h]
        · rw [if_neg hij, ← List.getD_eq_getElem?_getD]; exact hx j (by omega))
      rw [List.length_set] at this
      exact this
    · rw [dec_ge h]
      have hil : i = xs.length := by omega
      subst hil
      have : xs = marksFloat32 s xs.length := by
        apply List.ext_getElem
        · rw [marksFloat32_len]
        · intro j h1 h2
          have := hx j h1
          rw [getD_some h1] at this
          rw [this]; simp [marksFloat32]
      simp only [cond_false]
      rw [← this]

theorem markFloat32S_eq (s : Nat) (hs : s < 1000000000) (xs : List (List Int)) (hl : xs.length < 1000000000) (h3 : ∀ j, j < xs.length → (xs.getD j []).length = 1) : Pure.laws_markFloat32S_ok real xs s = true ∧ Pure.laws_markFloat32S real xs s = ((s + 1 * xs.length : Nat) : Int) ∧ Pure.laws_markFloat32S_1 real xs s = marksFloat32 s xs.length := by
  have := markFloat32S_loop s hs (xs.length + 1) 0 xs (by omega) (by omega) hl h3 (fun j hj => by omega)
  have e : (s : Int) + 1 * ((0 : Nat) : Int) = s := by omega
  have e2 : (s : Int) + 1 * (xs.length : Int) = ((s + 1 * xs.length : Nat) : Int) := by omega
  rw [e, e2] at this
  unfold Pure.laws_markFloat32S_ok Pure.laws_markFloat32S Pure.laws_markFloat32S_1
  change (Pure.laws_markFloat32S_L0 real (xs.length + 1) s 0 xs).1 = true ∧ (Pure.laws_markFloat32S_L0 real (xs.length + 1) s 0 xs).2.1 = _ ∧ (Pure.laws_markFloat32S_L0 real (xs.length + 1) s 0 xs).2.2 = _
  change Pure.laws_markFloat32S_L0 real (xs.length + 1) s 0 xs = _ at this
  rw [this]; exact ⟨rfl, rfl, rfl⟩

theorem heldFloat32S_eq (s : Nat) (hs : s < 1000000000) (m : Nat) (hm : m < 1000000000) : Pure.laws_heldFloat32S_ok real (marksFloat32 s m) s = true ∧ Pure.laws_heldFloat32S real (marksFloat32 s m) s = ((s + 1 * m : Nat) : Int) := by
  have hlen : (marksFloat32 s m).length = m := marksFloat32_len s m
  have hne : ∀ a : Int, (a != a) = false := fun a => by simp
  have key : ∀ (n i : Nat), i ≤ m → m - i < n → (Pure.laws_heldFloat32S_L0 real (marksFloat32 s m) n ((s : Int) + 1 * (i : Int)) i).1 = true ∧ (Pure.laws_heldFloat32S_L0 real (marksFloat32 s m) n ((s : Int) + 1 * (i : Int)) i).2.1 = false ∧ (Pure.laws_heldFloat32S_L0 real (marksFloat32 s m) n ((s : Int) + 1 * (i : Int)) i).2.2.1 = (s : Int) + 1 * (m : Int) := by
    intro n
    induction n with
    | zero => intro i _ h; omega
    | succ n ih =>
      intro i hi hn
      unfold Pure.laws_heldFloat32S_L0
      rcases Nat.lt_or_ge i m with h | h
      · rw [dec_lt (show i < (marksFloat32 s m).length by omega), dec_nn, Int.toNat_natCast, marksFloat32_get h, wrap_succ (by omega)]
        have w1 : IntKind.wrap .i64 (((s : Int) + 1 * i) + 1) = (s : Int) + 1 * ((i + 1 : Nat) : Int) := by rw [wrap64 (by omega) (by omega)]; omega
        have e0 : ∀ p : Int, List.getD (rowFloat32 p) 0 0 = real.ofInt .f32 (p) := fun _ => rfl
        rw [w1, e0, ofInt_notNaN]
        simp only [cond_true, cond_false]
        exact ih (i + 1) (by omega) (by omega)
      · rw [dec_ge (show (marksFloat32 s m).length ≤ i by omega)]
        have : i = m := by omega
        subst this
        exact ⟨rfl, rfl, rfl⟩
  obtain ⟨h1, h2, h3⟩ := key (m + 1) 0 (by omega) (by omega)
  have e : (s : Int) + 1 * ((0 : Nat) : Int) = s := by omega
  have e2 : (s : Int) + 1 * (m : Int) = ((s + 1 * m : Nat) : Int) := by omega
  rw [e] at h1 h2 h3
  rw [e2] at h3
  unfold Pure.laws_heldFloat32S_ok Pure.laws_heldFloat32S
  rw [hlen]
  change (Pure.laws_heldFloat32S_L0 real (marksFloat32 s m) (m + 1) s 0).1 = true ∧ (bif (Pure.laws_heldFloat32S_L0 real (marksFloat32 s m) (m + 1) s 0).2.1 then -1 else (Pure.laws_heldFloat32S_L0 real (marksFloat32 s m) (m + 1) s 0).2.2.1) = _
  change (Pure.laws_heldFloat32S_L0 real (marksFloat32 s m) (m + 1) s 0).1 = true at h1
  change (Pure.laws_heldFloat32S_L0 real (marksFloat32 s m) (m + 1) s 0).2.1 = false at h2
  change (Pure.laws_heldFloat32S_L0 real (marksFloat32 s m) (m + 1) s 0).2.2.1 = _ at h3
  rw [h1, h2, h3]; exact ⟨rfl, rfl⟩

theorem eqRod_refl (a b c : Int) : Pure.laws_eqRod_ok real a b c a b c = true ∧ Pure.laws_eqRod real a b c a b c = true := by
  have hne : ∀ a : Int, (a != a) = false := fun a => by simp
  unfold Pure.laws_eqRod_ok Pure.laws_eqRod
  rw [hne, hne, convOk_up, sameFloat_refl]
  exact ⟨rfl, rfl⟩

theorem eqRodS_refl (xs : List (List Int)) (hl : xs.length < 4611686018427387904) : Pure.laws_eqRodS_ok real xs xs = true ∧ Pure.laws_eqRodS real xs xs = true := by
  have key := iter_all xs.length (fun _ => true) (fun n i => Pure.laws_eqRodS_L0 real xs xs n i) (true, false) (false, false) (fun n i h => by
      conv => lhs; unfold Pure.laws_eqRodS_L0
      rw [dec_lt h, dec_nn, (eqRod_refl _ _ _).1, (eqRod_refl _ _ _).2, wrap_succ (by omega)]; rfl) (fun n => by
      conv => lhs; unfold Pure.laws_eqRodS_L0
      rw [dec_ge (Nat.le_refl _)]; rfl) (xs.length + 1) 0 (by omega) (by omega)
  have hu : upAll xs.length (fun _ => true) 0 = true := by unfold upAll; rw [List.all_eq_true]; intro _ _; rfl
  rw [hu] at key
  unfold Pure.laws_eqRodS_ok Pure.laws_eqRodS
  have e : ((Int.ofNat xs.length != Int.ofNat xs.length)) = false := by simp
  rw [e]
  change (Pure.laws_eqRodS_L0 real xs xs (xs.length + 1) 0).1 = true ∧ (bif (Pure.laws_eqRodS_L0 real xs xs (xs.length + 1) 0).2 then false else true) = true
  change Pure.laws_eqRodS_L0 real xs xs (xs.length + 1) 0 = _ at key
  rw [key]; exact ⟨rfl, rfl⟩

def rowRod (p : Int) : List Int := [(p), (p + 1), real.ofInt .f32 (p + 1 + 1)]
def marksRod (s n : Nat) : List (List Int) := (List.range n).map fun (i : Nat) => rowRod ((s : Int) + 3 * i)

theorem marksRod_len (s n : Nat) : (marksRod s n).length = n := by simp [marksRod]
theorem marksRod_get {s n i : Nat} (h : i < n) : (marksRod s n).getD i [] = rowRod ((s : Int) + 3 * i) := by
  rw [getD_some (by rw [marksRod_len]; exact h)]; simp [marksRod]

theorem markRodS_loop (s : Nat) (hs : s < 1000000000) : ∀ (n : Nat) (i : Nat) (xs : List (List Int)), i ≤ xs.length → xs.length - i < n → xs.length < 1000000000 → (∀ j, j < xs.length → (xs.getD j []).length = 3) →
    (∀ j, j < i → xs.getD j [] = rowRod ((s : Int) + 3 * j)) →
    Pure.laws_markRodS_L0 real n ((s : Int) + 3 * i) i xs = (true, (s : Int) + 3 * (xs.length : Int), marksRod s xs.length) := by
  intro n
  induction n with
  | zero => intro i xs _ h; omega
  | succ n ih =>
    intro i xs hi hn hb h3 hx
    unfold Pure.laws_markRodS_L0
    rcases Nat.lt_or_ge i xs.length with h | h
    · rw [dec_lt h, dec_nn, Int.toNat_natCast]
      simp only [List.length_set]
      rw [dec_lt h, wrap_succ (by omega), set3 h (h3 i h)]
      have w1 : IntKind.wrap .i64 (((s : Int) + 3 * i) + 1) = ((s : Int) + 3 * i) + 1 := by rw [wrap64 (by omega) (by omega)]
      have w2 : IntKind.wrap .i64 (((s : Int) + 3 * i) + 1 + 1) = ((s : Int) + 3 * i) + 1 + 1 := by rw [wrap64 (by omega) (by omega)]
      have w3 : IntKind.wrap .i64 (((s : Int) + 3 * i) + 1 + 1 + 1) = (s : Int) + 3 * ((i + 1 : Nat) : Int) := by rw [wrap64 (by omega) (by omega)]; omega
      rw [w1, w2, w3]
      simp only [cond_true]
      have := ih (i + 1) (xs.set i (rowRod ((s : Int) + 3 * i))) (by simp; omega) (by simp; omega) (by simpa using hb) (fun j hj => by
        rw [List.length_set] at hj
        rw [List.getD_eq_getElem?_getD, List.getElem?_set]
        by_cases hij : i = j
        · subst hij; simp [h, rowRod]
        · rw [if_neg hij, ← List.getD_eq_getElem?_getD]; exact h3 j hj) (fun j hj => by
        rw [List.getD_eq_getElem?_getD, List.getElem?_set]
        by_cases hij : i = j
        · subst hij; simp [h]
        · rw [if_neg hij, ← List.getD_eq_getElem?_getD]; exact hx j (by omega))
      rw [List.length_set] at this
      exact this
    · rw [dec_ge h]
      have hil : i = xs.length := by omega
      subst hil
      have : xs = marksRod s xs.length := by
        apply List.ext_getElem
        · rw [marksRod_len]
        · intro j h1 h2
          have := hx j h1
          rw [getD_some h1] at this
          rw [this]; simp [marksRod]
      simp only [cond_false]
      rw [← this]

theorem markRodS_eq (s : Nat) (hs : s < 1000000000) (xs : List (List Int)) (hl : xs.length < 1000000000) (h3 : ∀ j, j < xs.length → (xs.getD j []).length = 3) : Pure.laws_markRodS_ok real xs s = true ∧ Pure.laws_markRodS real xs s = ((s + 3 * xs.length : Nat) : Int) ∧ Pure.laws_markRodS_1 real xs s = marksRod s xs.length := by
  have := markRodS_loop s hs (xs.length + 1) 0 xs (by omega) (by omega) hl h3 (fun j hj => by omega)
  have e : (s : Int) + 3 * ((0 : Nat) : Int) = s := by omega
  have e2 : (s : Int) + 3 * (xs.length : Int) = ((s + 3 * xs.length : Nat) : Int) := by omega
  rw [e, e2] at this
  unfold Pure.laws_markRodS_ok Pure.laws_markRodS Pure.laws_markRodS_1
  change (Pure.laws_markRodS_L0 real (xs.length + 1) s 0 xs).1 = true ∧ (Pure.laws_markRodS_L0 real (xs.length + 1) s 0 xs).2.1 = _ ∧ (Pure.laws_markRodS_L0 real (xs.length + 1) s 0 xs).2.2 = _
  change Pure.laws_markRodS_L0 real (xs.length + 1) s 0 xs = _ at this
  rw [this]; exact ⟨rfl, rfl, rfl⟩

theorem heldRodS_eq (s : Nat) (hs : s < 1000000000) (m : Nat) (hm : m < 1000000000) : Pure.laws_heldRodS_ok real (marksRod s m) s = true ∧ Pure.laws_heldRodS real (marksRod s m) s = ((s + 3 * m : Nat) : Int) := by
  have hlen : (marksRod s m).length = m := marksRod_len s m
  have hne : ∀ a : Int, (a != a) = false := fun a => by simp
  have key : ∀ (n i : Nat), i ≤ m → m - i < n → (Pure.laws_heldRodS_L0 real (marksRod s m) n ((s : Int) + 3 * (i : Int)) i).1 = true ∧ (Pure.laws_heldRodS_L0 real (marksRod s m) n ((s : Int) + 3 * (i : Int)) i).2.1 = false ∧ (Pure.laws_heldRodS_L0 real (marksRod s m) n ((s : Int) + 3 * (i : Int)) i).2.2.1 = (s : Int) + 3 * (m : Int) := by
    intro n
    induction n with
    | zero => intro i _ h; omega
    | succ n ih =>
      intro i hi hn
      unfold Pure.laws_heldRodS_L0
      rcases Nat.lt_or_ge i m with h | h
      · rw [dec_lt (show i < (marksRod s m).length by omega), dec_nn, Int.toNat_natCast, marksRod_get h, wrap_succ (by omega)]
        have w1 : IntKind.wrap .i64 (((s : Int) + 3 * i) + 1) = ((s : Int) + 3 * i) + 1 := by rw [wrap64 (by omega) (by omega)]
        have w2 : IntKind.wrap .i64 (((s : Int) + 3 * i) + 1 + 1) = ((s : Int) + 3 * i) + 1 + 1 := by rw [wrap64 (by omega) (by omega)]
        have w3 : IntKind.wrap .i64 (((s : Int) + 3 * i) + 1 + 1 + 1) = (s : Int) + 3 * ((i + 1 : Nat) : Int) := by rw [wrap64 (by omega) (by omega)]; omega
        have e0 : ∀ p : Int, List.getD (rowRod p) 0 0 = (p) := fun _ => rfl
        have e1 : ∀ p : Int, List.getD (rowRod p) 1 0 = (p + 1) := fun _ => rfl
        have e2 : ∀ p : Int, List.getD (rowRod p) 2 0 = real.ofInt .f32 (p + 1 + 1) := fun _ => rfl
        rw [w1, w2, w3, e0, e1, e2, hne, hne, ofInt_notNaN]
        simp only [cond_true, cond_false]
        exact ih (i + 1) (by omega) (by omega)
      · rw [dec_ge (show (marksRod s m).length ≤ i by omega)]
        have : i = m := by omega
        subst this
        exact ⟨rfl, rfl, rfl⟩
  obtain ⟨h1, h2, h3⟩ := key (m + 1) 0 (by omega) (by omega)
  have e : (s : Int) + 3 * ((0 : Nat) : Int) = s := by omega
  have e2 : (s : Int) + 3 * (m : Int) = ((s + 3 * m : Nat) : Int) := by omega
  rw [e] at h1 h2 h3
  rw [e2] at h3
  unfold Pure.laws_heldRodS_ok Pure.laws_heldRodS
  rw [hlen]
  change (Pure.laws_heldRodS_L0 real (marksRod s m) (m + 1) s 0).1 = true ∧ (bif (Pure.laws_heldRodS_L0 real (marksRod s m) (m + 1) s 0).2.1 then -1 else (Pure.laws_heldRodS_L0 real (marksRod s m) (m + 1) s 0).2.2.1) = _
  change (Pure.laws_heldRodS_L0 real (marksRod s m) (m + 1) s 0).1 = true at h1
  change (Pure.laws_heldRodS_L0 real (marksRod s m) (m + 1) s 0).2.1 = false at h2
  change (Pure.laws_heldRodS_L0 real (marksRod s m) (m + 1) s 0).2.2.1 = _ at h3
  rw [h1, h2, h3]; exact ⟨rfl, rfl⟩

end Go.Fx
