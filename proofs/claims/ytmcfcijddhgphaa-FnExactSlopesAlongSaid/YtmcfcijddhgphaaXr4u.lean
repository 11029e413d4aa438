import Derived.Test.YtmcfcijddhgphaaXr4t
import Derived.Test.YtmcfcijddhgphaaXr4h
import Derived.Test.YtmcfcijddhgphaaXWrap
import Derived.Test.YtmcfcijddhgphaaXRoot
namespace Go.Fx
theorem sameFloat_refl (c : Int) : Pure.laws_sameFloat real c c = true := by
  unfold Pure.laws_sameFloat
  rw [eql_eq_not_neq, eql_eq_not_neq]
  cases real.cmp .neq .f64 c c with
  | true => rfl
  | false => simp

theorem isFin {x : Int} (h : Fin .f32 x) : Pure.impl_IsFinite real x = true := (isfin_iff h.okF).2 h

theorem wrap_is {x : Int} (h : Fin .f32 x) : Pure.spec_l05Wrap real x = Pure.impl_WrapTurn real x ∧ Pure.spec_l05Wrap_ok real x = true ∧ Pure.impl_wrapped_ok real x = true ∧ Turn (Pure.impl_WrapTurn real x) := by
  obtain ⟨h1, h2⟩ := turn_wrap h
  obtain ⟨g1, _⟩ := turnW_is h
  unfold Pure.spec_l05Wrap Pure.impl_WrapTurn Pure.spec_l05Wrap_ok Pure.impl_wrapped_ok Pure.impl_WrapTurn_ok Pure.spec_l01Narrow Pure.spec_l01Narrow_ok
  rw [isFin h, convOk_up]
  exact ⟨h1, g1, g1, h2⟩

theorem kick_is {x : Int} (h : Le .f32 22 x) : Pure.spec_l07Kick real x = Pure.impl_WrapKick real x ∧ Pure.spec_l07Kick_ok real x = true ∧ Pure.impl_kicked_ok real x = true ∧ Le .f32 0 (Pure.impl_WrapKick real x) := by
  have h2 := kick_wrap h
  obtain ⟨g1, _⟩ := kickW_is h
  unfold Pure.spec_l07Kick Pure.impl_WrapKick Pure.spec_l07Kick_ok Pure.impl_kicked_ok Pure.impl_WrapKick_ok Pure.spec_l01Narrow Pure.spec_l01Narrow_ok
  rw [isFin h.1, convOk_up]
  exact ⟨rfl, g1, g1, h2⟩

theorem valid_is (x y : Int) : Pure.spec_l07Is real x y = Pure.impl_ValidState real x y := rfl
theorem valid_ok {x y : Int} (hx : OkF .f32 x) (hy : OkF .f32 y) (h : Pure.impl_ValidState real x y = true) : Turn x ∧ Le .f32 0 y := by
  unfold Pure.impl_ValidState at h
  simp only [Bool.cond_false_right, Bool.and_eq_true] at h
  exact state_ok hx hy h.1 h.2.1 h.2.2.1 h.2.2.2
theorem sizeOk_le {x : Int} (hx : OkF .f32 x) (h : Pure.impl_sizeOk real x = true) : Le .f32 2 x := by
  unfold Pure.impl_sizeOk at h
  simp only [Bool.cond_false_right, Bool.and_eq_true] at h
  exact size_ok hx h.1 h.2
theorem le127 {e : Nat} (h : e ≤ 127) : e ≤ top .f32 := h

theorem map_is {t k s : Int} (ht : Turn t) (hk : Le .f32 0 k) (hs : Le .f32 2 s) :
    Pure.spec_l07Map_ok real t k s = true ∧ Pure.impl_State_mapped_ok real t k s = true ∧ Pure.spec_l07Map real t k s = Pure.impl_State_damped real t k s 1065353216 ∧ Pure.spec_l07Map_1 real t k s = Pure.impl_State_damped_1 real t k s 1065353216 ∧
    Turn (Pure.impl_State_damped real t k s 1065353216) ∧ Le .f32 0 (Pure.impl_State_damped_1 real t k s 1065353216) := by
  obtain ⟨s1, s2, s3, s4⟩ := sine_is ht.fin.okF
  have s4 := s4 ht.fin
  have a1 : Le .f32 6 (real.bin .mul .f32 s (Pure.impl_SineTurns real t)) := Le.mul hs s4 (by omega) (le127 (by omega))
  have a3 : Le .f32 22 (real.bin .add .f32 k (real.bin .mul .f32 s (Pure.impl_SineTurns real t))) := Le.add (hk.mono (show 0 ≤ 6 by omega)) a1 (by omega) (le127 (by omega))
  obtain ⟨k1, k2, k3, k4⟩ := kick_is a3
  have a4 : Le .f32 1 (real.bin .add .f32 t (Pure.impl_WrapKick real (real.bin .add .f32 k (real.bin .mul .f32 s (Pure.impl_SineTurns real t))))) := Le.add ht.le k4 (by omega) (le127 (by omega))
  obtain ⟨w1, w2, w3, w4⟩ := wrap_is a4.1
  unfold Pure.spec_l07Map_ok Pure.impl_State_mapped_ok Pure.impl_State_damped_ok Pure.spec_l07Map Pure.impl_State_damped Pure.spec_l07Map_1 Pure.impl_State_damped_1
  rw [one_mul32 hk.1, s1, s2, s3, k1, k2, k3, w1, w2, w3]
  exact ⟨rfl, rfl, rfl, rfl, w4, k4⟩

theorem getD_set_self {α : Type} {l : List α} {i : Nat} {a d : α} (h : i < l.length) : (l.set i a).getD i d = a := by
  rw [List.getD_eq_getElem?_getD, List.getElem?_set, if_pos rfl, if_pos h]; rfl

/-- Whether all of a list's numbers are finite. -/
theorem index_finite (xs : List (List Int)) (hl : xs.length < 4611686018427387904) : ∀ (n : Nat) (i : Nat), i ≤ xs.length → xs.length - i < n →
    (Pure.slices_IndexFunc_float32_float32_finite_L0 real xs.length xs n i).1 = true ∧
    (Pure.slices_IndexFunc_float32_float32_finite_L0 real xs.length xs n i).2.1 = ((xs.drop i).any fun r => Pure.impl_finite_c1 real (r.getD 0 0)) ∧
    0 ≤ (Pure.slices_IndexFunc_float32_float32_finite_L0 real xs.length xs n i).2.2 := by
  intro n
  induction n with
  | zero => intro i _ h; omega
  | succ n ih =>
    intro i hi hn
    unfold Pure.slices_IndexFunc_float32_float32_finite_L0
    have e0 : decide (0 ≤ (i : Int)) = true := by simp
    rcases Nat.lt_or_ge i xs.length with h | h
    · have e1 : decide ((i : Int) < (xs.length : Int)) = true := by simp; exact h
      have e2 : Decidable.decide ((i : Int) < Int.ofNat xs.length) = true := e1
      rw [e1, e0, e2]
      simp only [cond_true, Int.toNat_natCast]
      have hd : xs.drop i = xs[i] :: xs.drop (i + 1) := List.drop_eq_getElem_cons h
      rw [hd]
      simp only [List.any_cons]
      rw [getD_some h]
      cases Pure.impl_finite_c1 real (xs[i].getD 0 0) with
      | true => simp
      | false =>
        simp only [cond_false, Bool.false_or]
        rw [wrap64 (by omega) (by omega)]
        have := ih (i + 1) (by omega) (by omega)
        simpa using this
    · have e1 : decide ((i : Int) < (xs.length : Int)) = false := by simp; exact h
      rw [e1]
      have : xs.drop i = [] := List.drop_eq_nil_of_le h
      simp [this]

theorem impl_finite_eq (xs : List (List Int)) (hl : xs.length < 4611686018427387904) : Pure.impl_finite_ok real xs = true ∧ Pure.impl_finite real xs = xs.all fun r => Pure.impl_IsFinite real (r.getD 0 0) := by
  obtain ⟨h1, h2, h3⟩ := index_finite xs hl (xs.length + 1) 0 (Nat.zero_le _) (by omega)
  unfold Pure.impl_finite_ok Pure.impl_finite Pure.slices_ContainsFunc_float32_float32_finite_ok Pure.slices_ContainsFunc_float32_float32_finite Pure.slices_IndexFunc_float32_float32_finite_ok Pure.slices_IndexFunc_float32_float32_finite
  refine ⟨h1, ?_⟩
  have e : xs.all (fun r => Pure.impl_IsFinite real (r.getD 0 0)) = !((xs.drop 0).any fun r => Pure.impl_finite_c1 real (r.getD 0 0)) := by
    unfold Pure.impl_finite_c1
    rw [List.drop_zero, List.all_eq_not_any_not]
    have e2 : ∀ b : Bool, (bif b then false else true) = !b := fun b => by cases b <;> rfl
    simp only [e2]
  rw [e, ← h2]
  change (bif decide ((bif (Pure.slices_IndexFunc_float32_float32_finite_L0 real xs.length xs (xs.length + 1) 0).2.1 then (Pure.slices_IndexFunc_float32_float32_finite_L0 real xs.length xs (xs.length + 1) 0).2.2 else -1) ≥ 0) then false else true) = _
  change 0 ≤ (Pure.slices_IndexFunc_float32_float32_finite_L0 real xs.length xs (xs.length + 1) 0).2.2 at h3
  generalize (Pure.slices_IndexFunc_float32_float32_finite_L0 real xs.length xs (xs.length + 1) ((0 : Nat) : Int)) = r at *
  change (bif decide ((bif r.2.1 then r.2.2 else -1) ≥ 0) then false else true) = _
  cases hr : r.2.1 with
  | true => simp only [cond_true]; rw [decide_eq_true h3]; rfl
  | false => rfl

/-- The marks of rows of 1. -/
def marks1 (n : Nat) : List (List Int) := (List.range n).map fun (i : Nat) => [real.ofInt .f32 (1 + 1 * i)]

theorem marks1_get {n i : Nat} (h : i < n) : (marks1 n).getD i [] = [real.ofInt .f32 (1 + 1 * i)] := by
  rw [getD_some (by simp [marks1]; exact h)]; simp [marks1]

theorem eqFloat32S_refl (xs : List (List Int)) (hl : xs.length < 4611686018427387904) : Pure.laws_eqFloat32S_ok real xs xs = true ∧ Pure.laws_eqFloat32S real xs xs = true := by
  have key := iter_all xs.length (fun _ => true) (fun n i => Pure.laws_eqFloat32S_L0 real xs xs n i) (true, false) (false, false) (fun n i h => by
      conv => lhs; unfold Pure.laws_eqFloat32S_L0
      rw [dec_lt h, dec_nn, convOk_up, sameFloat_refl, wrap_succ (by omega)]; rfl) (fun n => by
      conv => lhs; unfold Pure.laws_eqFloat32S_L0
      rw [dec_ge (Nat.le_refl _)]; rfl) (xs.length + 1) 0 (by omega) (by omega)
  have hu : upAll xs.length (fun _ => true) 0 = true := by unfold upAll; rw [List.all_eq_true]; intro _ _; rfl
  rw [hu] at key
  unfold Pure.laws_eqFloat32S_ok Pure.laws_eqFloat32S
  have e : ((Int.ofNat xs.length != Int.ofNat xs.length)) = false := by simp
  rw [e]
  change (Pure.laws_eqFloat32S_L0 real xs xs (xs.length + 1) 0).1 = true ∧ (bif (Pure.laws_eqFloat32S_L0 real xs xs (xs.length + 1) 0).2 then false else true) = true
  change Pure.laws_eqFloat32S_L0 real xs xs (xs.length + 1) 0 = _ at key
  rw [key]; exact ⟨rfl, rfl⟩

theorem markFloat32S_loop : ∀ (n : Nat) (i : Nat) (xs : List (List Int)), i ≤ xs.length → xs.length - i < n → xs.length < 1000000000 → (∀ j, j < xs.length → (xs.getD j []).length = 1) →
    (∀ j, j < i → xs.getD j [] = [real.ofInt .f32 (1 + 1 * j)]) →
    Pure.laws_markFloat32S_L0 real n (1 + 1 * i) i xs = (true, 1 + 1 * (xs.length : Int), marks1 xs.length) := by
  intro n
  induction n with
  | zero => intro i xs _ h; omega
  | succ n ih =>
    intro i xs hi hn hb h3 hx
    unfold Pure.laws_markFloat32S_L0
    rcases Nat.lt_or_ge i xs.length with h | h
    · rw [dec_lt h, dec_nn, Int.toNat_natCast]
      rw [wrap_succ (by omega)]
      have w1 : IntKind.wrap .i64 (1 + 1 * (i : Int) + 1) = 1 + 1 * ((i + 1 : Nat) : Int) := by rw [wrap64 (by omega) (by omega)]; omega
      rw [w1]
      simp only [cond_true]
      have := ih (i + 1) (xs.set i [real.ofInt .f32 (1 + 1 * i)]) (by simp; omega) (by simp; omega) (by simpa using hb) (fun j hj => by
        rw [List.length_set] at hj
        rw [List.getD_eq_getElem?_getD, List.getElem?_set]
        by_cases hij : i = j
        · subst hij; simp [h]
        · rw [if_neg hij, ← List.getD_eq_getElem?_getD]; exact h3 j hj) (fun j hj => by
        rw [List.getD_eq_getElem?_getD, List.getElem?_set]
        by_cases hij : i = j
        · subst hij; simp [h]
        · rw [if_neg hij, ← List.getD_eq_getElem?_getD]; exact hx j (by omega))
      rw [List.length_set] at this
      exact this
    · rw [dec_ge h]
      have hil : i = xs.length := by omega
      subst hil
      have : xs = marks1 xs.length := by
        apply List.ext_getElem
        · simp [marks1]
        · intro j h1 h2
          have := hx j h1
          rw [getD_some h1] at this
          rw [this]; simp [marks1]
      simp only [cond_false]
      rw [← this]

theorem markFloat32S_eq (xs : List (List Int)) (hl : xs.length < 1000000000) (h3 : ∀ j, j < xs.length → (xs.getD j []).length = 1) : Pure.laws_markFloat32S_ok real xs 1 = true ∧ Pure.laws_markFloat32S real xs 1 = 1 + 1 * (xs.length : Int) ∧ Pure.laws_markFloat32S_1 real xs 1 = marks1 xs.length := by
  have := markFloat32S_loop (xs.length + 1) 0 xs (by omega) (by omega) hl h3 (fun j hj => by omega)
  have e : (1 : Int) + 1 * ((0 : Nat) : Int) = 1 := rfl
  rw [e] at this
  unfold Pure.laws_markFloat32S_ok Pure.laws_markFloat32S Pure.laws_markFloat32S_1
  change (Pure.laws_markFloat32S_L0 real (xs.length + 1) 1 0 xs).1 = true ∧ (Pure.laws_markFloat32S_L0 real (xs.length + 1) 1 0 xs).2.1 = _ ∧ (Pure.laws_markFloat32S_L0 real (xs.length + 1) 1 0 xs).2.2 = _
  change Pure.laws_markFloat32S_L0 real (xs.length + 1) 1 0 xs = _ at this
  rw [this]; exact ⟨rfl, rfl, rfl⟩

theorem heldFloat32S_eq (m : Nat) (hm : m < 1000000000) : Pure.laws_heldFloat32S_ok real (marks1 m) 1 = true ∧ Pure.laws_heldFloat32S real (marks1 m) 1 = 1 + 1 * (m : Int) := by
  have hlen : (marks1 m).length = m := by simp [marks1]
  have key : ∀ (n i : Nat), i ≤ m → m - i < n → (Pure.laws_heldFloat32S_L0 real (marks1 m) n (1 + 1 * (i : Int)) i).1 = true ∧ (Pure.laws_heldFloat32S_L0 real (marks1 m) n (1 + 1 * (i : Int)) i).2.1 = false ∧ (Pure.laws_heldFloat32S_L0 real (marks1 m) n (1 + 1 * (i : Int)) i).2.2.1 = 1 + 1 * (m : Int) := by
    intro n
    induction n with
    | zero => intro i _ h; omega
    | succ n ih =>
      intro i hi hn
      unfold Pure.laws_heldFloat32S_L0
      rcases Nat.lt_or_ge i m with h | h
      · rw [dec_lt (show i < (marks1 m).length by omega), dec_nn, Int.toNat_natCast, marks1_get h, wrap_succ (by omega)]
        have w1 : IntKind.wrap .i64 (1 + 1 * (i : Int) + 1) = 1 + 1 * ((i + 1 : Nat) : Int) := by rw [wrap64 (by omega) (by omega)]; omega
        have e0 : ∀ a : Int, List.getD [a] 0 0 = a := fun _ => rfl
        rw [w1, e0, ofInt_notNaN]
        simp only [cond_true, cond_false]
        exact ih (i + 1) (by omega) (by omega)
      · rw [dec_ge (show (marks1 m).length ≤ i by omega)]
        have : i = m := by omega
        subst this
        exact ⟨rfl, rfl, rfl⟩
  obtain ⟨h1, h2, h3⟩ := key (m + 1) 0 (by omega) (by omega)
  unfold Pure.laws_heldFloat32S_ok Pure.laws_heldFloat32S
  rw [hlen]
  change (Pure.laws_heldFloat32S_L0 real (marks1 m) (m + 1) 1 0).1 = true ∧ (bif (Pure.laws_heldFloat32S_L0 real (marks1 m) (m + 1) 1 0).2.1 then -1 else (Pure.laws_heldFloat32S_L0 real (marks1 m) (m + 1) 1 0).2.2.1) = _
  change (Pure.laws_heldFloat32S_L0 real (marks1 m) (m + 1) 1 0).1 = true at h1
  change (Pure.laws_heldFloat32S_L0 real (marks1 m) (m + 1) 1 0).2.1 = false at h2
  change (Pure.laws_heldFloat32S_L0 real (marks1 m) (m + 1) 1 0).2.2.1 = _ at h3
  rw [h1, h2, h3]; exact ⟨rfl, rfl⟩

theorem in_iff {a b c : Int} : Pure.impl_in real a b c = true ↔ b ≤ a ∧ a ≤ c := by
  unfold Pure.impl_in
  simp only [Bool.cond_false_right, Bool.and_eq_true, decide_eq_true_eq, ge_iff_le]

theorem slopes_is {t k s : Int} (ht : Turn t) (hs : Le .f32 2 s) : Pure.spec_l07Slopes_ok real t k s = true ∧ Pure.impl_State_slopes_ok real t k s = true ∧
    Pure.spec_l07Slopes real t k s = [[Pure.impl_State_slopes real t k s], [1065353216], [Pure.impl_State_slopes_1 real t k s], [1065353216]] ∧ Le .f32 10 (Pure.impl_State_slopes real t k s) ∧ Le .f32 9 (Pure.impl_State_slopes_1 real t k s) := by
  have hq : Le .f32 0 1048576000 := Le.const (by decide +kernel)
  have h1 : Le .f32 0 1065353216 := Le.const (by decide +kernel)
  have hw : Le .f32 3 1086918619 := Le.const (by decide +kernel)
  have a1 : Le .f32 1 (real.bin .add .f32 t 1048576000) := Le.add ht.le hq (by omega) (le127 (by omega))
  obtain ⟨s1, s2, s3, s4⟩ := sine_is a1.1.okF
  have a2 : Le .f32 5 (real.bin .mul .f32 s 1086918619) := Le.mul hs hw (by omega) (le127 (by omega))
  have a3 : Le .f32 9 (real.bin .mul .f32 (real.bin .mul .f32 s 1086918619) (Pure.impl_SineTurns real (real.bin .add .f32 t 1048576000))) := Le.mul a2 (s4 a1.1) (by omega) (le127 (by omega))
  have a4 : Le .f32 10 (real.bin .add .f32 1065353216 (real.bin .mul .f32 (real.bin .mul .f32 s 1086918619) (Pure.impl_SineTurns real (real.bin .add .f32 t 1048576000)))) := Le.add (h1.mono (show 0 ≤ 9 by omega)) a3 (by omega) (le127 (by omega))
  unfold Pure.spec_l07Slopes_ok Pure.impl_State_slopes_ok Pure.spec_l07Slopes Pure.impl_State_slopes Pure.impl_State_slopes_1
  rw [s1, s2, s3]
  exact ⟨rfl, rfl, rfl, a4, a3⟩

theorem toldNumbers_is (xs : List (List Int)) (hl : xs.length < 4611686018427387904) : Pure.impl_toldNumbers_way real xs = (xs.all fun r => Pure.impl_IsFinite real (r.getD 0 0)) ∧ Pure.impl_toldNumbers_okA real xs = true ∧ Pure.impl_toldNumbers_okB real xs = true := by
  obtain ⟨h1, h2⟩ := impl_finite_eq xs hl
  unfold Pure.impl_toldNumbers_way Pure.impl_toldNumbers_okA Pure.impl_toldNumbers_okB
  exact ⟨h2, h1, h1⟩

def orb (s : Int) : Nat → Int → Int → List (List Int)
  | 0, _, _ => []
  | n + 1, t, k => [Pure.impl_State_damped real t k s 1065353216, Pure.impl_State_damped_1 real t k s 1065353216] :: orb s n (Pure.impl_State_damped real t k s 1065353216) (Pure.impl_State_damped_1 real t k s 1065353216)

theorem orb_len (s : Int) : ∀ (n : Nat) (t k : Int), (orb s n t k).length = n
  | 0, _, _ => rfl
  | n + 1, t, k => by simp [orb, orb_len s n]

theorem orb_row (s : Int) : ∀ (n : Nat) (t k : Int) (r : List Int), r ∈ orb s n t k → r.length = 2
  | 0, _, _, r, h => by simp [orb] at h
  | n + 1, t, k, r, h => by
    simp only [orb, List.mem_cons] at h
    rcases h with rfl | h
    · rfl
    · exact orb_row s n _ _ r h

theorem spec_orbit {s : Int} (hs : Le .f32 2 s) : ∀ (n fuel : Nat) (t k : Int) (acc : List (List Int)), n < fuel → n + acc.length < 1000000 → Turn t → Le .f32 0 k → Pure.spec_l07Orbit_L0 real s fuel n t k acc = (true, acc ++ orb s n t k) := by
  intro n
  induction n with
  | zero =>
    intro fuel t k acc hf _ _ _
    match fuel, hf with
    | fuel + 1, _ => unfold Pure.spec_l07Orbit_L0; simp [orb]
  | succ n ih =>
    intro fuel t k acc hf hn ht hk
    match fuel, hf with
    | fuel + 1, hf =>
      obtain ⟨d1, _, d3, d4, d5, d6⟩ := map_is ht hk hs
      unfold Pure.spec_l07Orbit_L0
      have e1 : decide (((n + 1 : Nat) : Int) > 0) = true := by simp
      have e2 : decide (acc.length.succ ≤ 1073741824) = true := by simp; omega
      rw [e1, d1, d3, d4, e2, wrap64 (n := ((n + 1 : Nat) : Int) - 1) (by omega) (by omega), show ((n + 1 : Nat) : Int) - 1 = (n : Int) by omega]
      simp only [cond_true]
      rw [ih fuel _ _ _ (by omega) (by simp; omega) d5 d6]
      simp [orb]

/-- A state and what the map makes of it. -/
def orbit (t k s : Int) (n : Nat) : List (List Int) := [t, k] :: orb s n t k

theorem orbit_len (t k s : Int) (n : Nat) : (orbit t k s n).length = n + 1 := by simp [orbit, orb_len]

theorem spec_orbit_is {t k s : Int} {n : Nat} (ht : Turn t) (hk : Le .f32 0 k) (hs : Le .f32 2 s) (hn : n ≤ 128) : Pure.spec_l07Orbit_ok real t k s n = true ∧ Pure.spec_l07Orbit real t k s n = orbit t k s n := by
  have h1 := spec_orbit hs n (((n : Int) - 0 + 1).toNat) t k [[t, k]] (by omega) (by simp; omega) ht hk
  unfold Pure.spec_l07Orbit_ok Pure.spec_l07Orbit
  rw [h1]
  exact ⟨rfl, rfl⟩

/-! ### slopes along an orbit -/
def al (s : Int) : Nat → Int → Int → Int → Int → Int → Int → Int × Int × Int × Int
  | 0, _, _, a, b, c, d => (a, b, c, d)
  | n + 1, t, k, a, b, c, d => al s n (Pure.impl_State_damped real t k s 1065353216) (Pure.impl_State_damped_1 real t k s 1065353216)
      (real.bin .add .f32 (real.bin .mul .f32 (Pure.impl_State_slopes real t k s) a) (real.bin .mul .f32 1065353216 c))
      (real.bin .add .f32 (real.bin .mul .f32 (Pure.impl_State_slopes real t k s) b) (real.bin .mul .f32 1065353216 d))
      (real.bin .add .f32 (real.bin .mul .f32 (Pure.impl_State_slopes_1 real t k s) a) (real.bin .mul .f32 1065353216 c))
      (real.bin .add .f32 (real.bin .mul .f32 (Pure.impl_State_slopes_1 real t k s) b) (real.bin .mul .f32 1065353216 d))

theorem times_is (a b c d e f g h : Int) : Pure.impl_slopes_times_ok real a b c d e f g h = true ∧ Pure.impl_slopes_times real a b c d e f g h = real.bin .add .f32 (real.bin .mul .f32 a e) (real.bin .mul .f32 b g) ∧ Pure.impl_slopes_times_1 real a b c d e f g h = real.bin .add .f32 (real.bin .mul .f32 a f) (real.bin .mul .f32 b h) ∧
    Pure.impl_slopes_times_2 real a b c d e f g h = real.bin .add .f32 (real.bin .mul .f32 c e) (real.bin .mul .f32 d g) ∧ Pure.impl_slopes_times_3 real a b c d e f g h = real.bin .add .f32 (real.bin .mul .f32 c f) (real.bin .mul .f32 d h) := by
  refine ⟨by kernel_rfl, by kernel_rfl, by kernel_rfl, by kernel_rfl, by kernel_rfl⟩

theorem impl_along {s : Int} (hs : Le .f32 2 s) (N : Nat) (hN : N < 1000000) : ∀ (n i fuel : Nat) (t k a b c d : Int), i + n = N → n < fuel → Turn t → Le .f32 0 k → Pure.impl_State_along_L0 real s N 0 0 0 0 fuel i t k a b c d = (true, al s n t k a b c d) := by
  intro n
  induction n with
  | zero =>
    intro i fuel t k a b c d hi hf _ _
    match fuel, hf with
    | fuel + 1, _ =>
      unfold Pure.impl_State_along_L0
      rw [dec_ge' (show N ≤ i by omega)]; rfl
  | succ n ih =>
    intro i fuel t k a b c d hi hf ht hk
    match fuel, hf with
    | fuel + 1, hf =>
      obtain ⟨_, d2, _, _, d5, d6⟩ := map_is ht hk hs
      obtain ⟨_, m2, _, _, _⟩ := slopes_is (k := k) ht hs
      obtain ⟨q1, q2, q3, q4, q5⟩ := times_is (Pure.impl_State_slopes real t k s) 1065353216 (Pure.impl_State_slopes_1 real t k s) 1065353216 (List.getD [a] 0 0) (List.getD [b] 0 0) (List.getD [c] 0 0) (List.getD [d] 0 0)
      unfold Pure.impl_State_along_L0
      rw [dec_lt' (show i < N by omega), d2, m2, q1, q2, q3, q4, q5, wrap_succ (by omega)]
      exact ih (i + 1) fuel _ _ _ _ _ _ (by omega) (by omega) d5 d6

theorem spec_along {s : Int} (hs : Le .f32 2 s) (N : Nat) (hN : N < 1000000) (xs : List (List Int)) (hx : xs.length = N + 1) : ∀ (n i fuel : Nat) (t k a b c d : Int), i + n = N → n < fuel → xs.drop i = [t, k] :: orb s n t k → Turn t → Le .f32 0 k →
    Pure.spec_l07Along_L0 real s N xs fuel i [[a], [b], [c], [d]] = (true, [[(al s n t k a b c d).1], [(al s n t k a b c d).2.1], [(al s n t k a b c d).2.2.1], [(al s n t k a b c d).2.2.2]]) := by
  intro n
  induction n with
  | zero =>
    intro i fuel t k a b c d hi hf _ _ _
    match fuel, hf with
    | fuel + 1, _ =>
      unfold Pure.spec_l07Along_L0
      rw [dec_ge' (show N ≤ i by omega)]; rfl
  | succ n ih =>
    intro i fuel t k a b c d hi hf hd ht hk
    match fuel, hf with
    | fuel + 1, hf =>
      obtain ⟨_, d2, _, _, d5, d6⟩ := map_is ht hk hs
      obtain ⟨m1, m2, m3, _, _⟩ := slopes_is (k := k) ht hs
      have hget : xs.getD i [] = [t, k] := by
        have h1 : (xs.drop i)[0]? = some [t, k] := by rw [hd]; rfl
        rw [List.getElem?_drop, Nat.add_zero] at h1
        rw [List.getD_eq_getElem?_getD, h1]; rfl
      have hdrop : xs.drop (i + 1) = orb s (n + 1) t k := by
        have h1 : (xs.drop i).drop 1 = orb s (n + 1) t k := by rw [hd]; rfl
        rwa [List.drop_drop] at h1
      unfold Pure.spec_l07Along_L0
      rw [dec_lt' (show i < N by omega), dec_nn, dec_lt (show i < xs.length by omega), Int.toNat_natCast, hget]
      have g0 : List.getD [t, k] 0 0 = t := rfl
      have g1 : List.getD [t, k] 1 0 = k := rfl
      rw [g0, g1, m1, m3, wrap_succ (by omega)]
      exact ih (i + 1) fuel _ _ _ _ _ _ (by omega) (by omega) hdrop d5 d6

theorem along_is {t k s : Int} {n : Nat} (ht : Turn t) (hk : Le .f32 0 k) (hs : Le .f32 2 s) (hn : n ≤ 128) : ∃ a b c d, Pure.spec_l07Along_ok real t k s n = true ∧ Pure.impl_State_along_ok real t k s n = true ∧ Pure.spec_l07Along real t k s n = [[a], [b], [c], [d]] ∧
    Pure.impl_State_along real t k s n = a ∧ Pure.impl_State_along_1 real t k s n = b ∧ Pure.impl_State_along_2 real t k s n = c ∧ Pure.impl_State_along_3 real t k s n = d := by
  obtain ⟨o1, o2⟩ := spec_orbit_is ht hk hs hn
  have h1 := spec_along hs n (by omega) (orbit t k s n) (orbit_len t k s n) n 0 (((n : Int) - 0 + 1).toNat) t k 1065353216 0 0 1065353216 (by omega) (by omega) rfl ht hk
  have h2 := impl_along hs n (by omega) n 0 (((n : Int) - 0 + 1).toNat) t k 1065353216 0 0 1065353216 (by omega) (by omega) ht hk
  have h1' : Pure.spec_l07Along_L0 real s (n : Int) (orbit t k s n) (((n : Int) - 0 + 1).toNat) 0 [[1065353216], [0], [0], [1065353216]] = _ := h1
  have h2' : Pure.impl_State_along_L0 real s (n : Int) 0 0 0 0 (((n : Int) - 0 + 1).toNat) 0 t k 1065353216 0 0 1065353216 = _ := h2
  unfold Pure.spec_l07Along_ok Pure.impl_State_along_ok Pure.spec_l07Along Pure.impl_State_along Pure.impl_State_along_1 Pure.impl_State_along_2 Pure.impl_State_along_3
  rw [o1, o2, h1', h2']
  exact ⟨_, _, _, _, rfl, rfl, rfl, rfl, rfl, rfl, rfl⟩

theorem finite4 (a b c d : Int) : Pure.spec_SlopesAlong_L0 real (Int.ofNat [[a], [b], [c], [d]].length) [[a], [b], [c], [d]] (Nat.succ ([[a], [b], [c], [d]].length + 0)) 0 = (true, !([[a], [b], [c], [d]].all fun r => Pure.impl_IsFinite real (r.getD 0 0))) := by
  have key := iter_all 4 (fun i => Pure.impl_IsFinite real (([[a], [b], [c], [d]].getD i []).getD 0 0)) (fun n i => Pure.spec_SlopesAlong_L0 real 4 [[a], [b], [c], [d]] n i) (true, false) (true, true) (fun n i h => by
      conv => lhs; unfold Pure.spec_SlopesAlong_L0
      have e1 : decide ((i : Int) < 4) = true := by simp; omega
      have e2 : decide ((i : Int) < Int.ofNat [[a], [b], [c], [d]].length) = true := by simp; omega
      rw [e1, e2, dec_nn, Int.toNat_natCast, wrap_succ (by omega)]; rfl) (fun n => by
      conv => lhs; unfold Pure.spec_SlopesAlong_L0
      rfl) 5 0 (by omega) (by omega)
  have hu : upAll 4 (fun i => Pure.impl_IsFinite real (([[a], [b], [c], [d]].getD i []).getD 0 0)) 0 = ([[a], [b], [c], [d]].all fun r => Pure.impl_IsFinite real (r.getD 0 0)) := by
    unfold upAll; simp [List.range']
  rw [hu] at key
  have : Pure.spec_SlopesAlong_L0 real (Int.ofNat [[a], [b], [c], [d]].length) [[a], [b], [c], [d]] (Nat.succ ([[a], [b], [c], [d]].length + 0)) 0 = _ := key
  rw [this]
  cases ([[a], [b], [c], [d]].all fun r => Pure.impl_IsFinite real (r.getD 0 0)) <;> rfl

theorem law_FnExactSlopesAlong (x0 x1 x2 x3 : Int) (h0 : OkF .f32 x0) (h1 : OkF .f32 x1) (h2 : OkF .f32 x2) (_ : IntKind.i64.has x3) : Pure.laws_FnExactSlopesAlong_ok real x0 x1 x2 x3 = true ∧ Pure.laws_FnExactSlopesAlong real x0 x1 x2 x3 = true := by
  have hi : ∃ l, l.length ≤ 4 ∧ (∀ j, j < l.length → (l.getD j []).length = 1) ∧ Pure.spec_SlopesAlong_ok real x0 x1 x2 x3 = true ∧ Pure.impl_SlopesAlong_ok real x0 x1 x2 x3 = true ∧ Pure.spec_SlopesAlong_1 real x0 x1 x2 x3 = l ∧ Pure.impl_SlopesAlong_1 real x0 x1 x2 x3 = l ∧ Pure.spec_SlopesAlong real x0 x1 x2 x3 = Pure.impl_SlopesAlong real x0 x1 x2 x3 := by
    have es : Pure.spec_l07Size real x2 = Pure.impl_sizeOk real x2 := rfl
    have ei : ∀ a b c, Pure.spec_l00In real a b c = Pure.impl_in real a b c := fun a b c => rfl
    unfold Pure.spec_SlopesAlong_ok Pure.impl_SlopesAlong_ok Pure.spec_SlopesAlong Pure.impl_SlopesAlong Pure.spec_SlopesAlong_1 Pure.impl_SlopesAlong_1 Pure.impl_stateOk
    rw [valid_is, es, ei]
    cases hv : Pure.impl_ValidState real x0 x1 with
    | false => exact ⟨[], by simp, by simp, rfl, rfl, rfl, rfl, rfl⟩
    | true =>
      cases hz : Pure.impl_sizeOk real x2 with
      | false => exact ⟨[], by simp, by simp, rfl, rfl, rfl, rfl, rfl⟩
      | true =>
        cases hc : Pure.impl_in real x3 0 128 with
        | false => exact ⟨[], by simp, by simp, rfl, rfl, rfl, rfl, rfl⟩
        | true =>
          obtain ⟨v1, v2⟩ := valid_ok h0 h1 hv
          have hc := in_iff.1 hc
          obtain ⟨n, rfl⟩ : ∃ n : Nat, x3 = n := ⟨x3.toNat, by omega⟩
          obtain ⟨a, b, c, d, m1, m2, m3, m4, m5, m6, m7⟩ := along_is v1 v2 (sizeOk_le h2 hz) (n := n) (by omega)
          obtain ⟨t1, t2, t3⟩ := toldNumbers_is [[a], [b], [c], [d]] (by simp)
          rw [m1, m2, m3, m4, m5, m6, m7, finite4, t1, t2, t3]
          cases ([[a], [b], [c], [d]].all fun r => Pure.impl_IsFinite real (r.getD 0 0)) with
          | false => exact ⟨[], by simp, by simp, rfl, rfl, rfl, rfl, rfl⟩
          | true =>
            refine ⟨[[a], [b], [c], [d]], by simp, fun j hj => ?_, rfl, rfl, rfl, rfl, rfl⟩
            match j, hj with
            | 0, _ => rfl
            | 1, _ => rfl
            | 2, _ => rfl
            | 3, _ => rfl
            | j + 4, hj => exact absurd hj (by show ¬ j + 4 < 4; omega)
  obtain ⟨l, hl, hl1, i1, i2, i3, i4, i5⟩ := hi
  obtain ⟨e1, e2⟩ := eqFloat32S_refl l (by omega)
  obtain ⟨k1, k2, k3⟩ := markFloat32S_eq l (by omega) hl1
  obtain ⟨g1, g2⟩ := heldFloat32S_eq l.length (by omega)
  unfold Pure.laws_FnExactSlopesAlong_ok Pure.laws_FnExactSlopesAlong
  rw [i1, i2, i3, i4, i5, e1, e2, k1, k2, k3, g1, g2]
  have d1 : decide ((1 : Int) + 1 * (l.length : Int) < 0) = false := by simp; omega
  rw [d1]
  simp
end Go.Fx
