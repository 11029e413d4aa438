import Derived.Test.YtnlfpamdcohiiaaXr3j
import Derived.Test.YtnlfpamdcohiiaaXr3t
import Derived.Test.YtnlfpamdcohiiaaXWrap
import Derived.Test.YtnlfpamdcohiiaaF3
namespace Go.Fx
theorem isFin {x : Int} (h : Fin .f32 x) : Pure.impl_IsFinite real x = true := (isfin_iff h.okF).2 h

theorem wrap_is {x : Int} (h : Fin .f32 x) : Pure.spec_l05Wrap real x = Pure.impl_WrapTurn real x ∧ Pure.spec_l05Wrap_ok real x = true ∧ Pure.impl_wrapped_ok real x = true ∧ Turn (Pure.impl_WrapTurn real x) := by
  obtain ⟨h1, h2⟩ := turn_wrap h
  obtain ⟨g1, _⟩ := turnW_is h
  unfold Pure.spec_l05Wrap Pure.impl_WrapTurn Pure.spec_l05Wrap_ok Pure.impl_wrapped_ok Pure.impl_WrapTurn_ok Pure.spec_l01Narrow Pure.spec_l01Narrow_ok
  rw [isFin h, convOk_up]
  exact ⟨h1, g1, g1, h2⟩

theorem kick_is {x : Int} (h : Le .f32 22 x) : Pure.spec_l07Kick real x = Pure.impl_WrapKick real x ∧ Pure.spec_l07Kick_ok real x = true ∧ Pure.impl_kicked_ok real x = true ∧ Le .f32 0 (Pure.impl_WrapKick real x) := by
  have h2 := kick_wrap h
  obtain ⟨g1, _⟩ := kickW_is h
  unfold Pure.spec_l07Kick Pure.impl_WrapKick Pure.spec_l07Kick_ok Pure.impl_kicked_ok Pure.impl_WrapKick_ok Pure.spec_l01Narrow Pure.spec_l01Narrow_ok
  rw [isFin h.1, convOk_up]
  exact ⟨rfl, g1, g1, h2⟩

theorem sizeOk_le {x : Int} (hx : OkF .f32 x) (h : Pure.impl_sizeOk real x = true) : Le .f32 2 x := by
  unfold Pure.impl_sizeOk at h
  simp only [Bool.cond_false_right, Bool.and_eq_true] at h
  exact size_ok hx h.1 h.2

theorem keepOk_le {x : Int} (hx : OkF .f32 x) (h : Pure.impl_shareOk real x = true) : Le .f32 0 x := by
  unfold Pure.impl_shareOk at h
  simp only [Bool.cond_false_right, Bool.and_eq_true] at h
  exact (share_ok hx h.1 h.2).1

theorem le127 {e : Nat} (h : e ≤ 127) : e ≤ top .f32 := h

theorem damp_is {t k s q : Int} (ht : Turn t) (hk : Le .f32 0 k) (hs : Le .f32 2 s) (hq : Le .f32 0 q) :
    Pure.spec_l07Damp_ok real t k s q = true ∧ Pure.impl_State_damped_ok real t k s q = true ∧ Pure.spec_l07Damp real t k s q = Pure.impl_State_damped real t k s q ∧ Pure.spec_l07Damp_1 real t k s q = Pure.impl_State_damped_1 real t k s q ∧
    Turn (Pure.impl_State_damped real t k s q) ∧ Le .f32 0 (Pure.impl_State_damped_1 real t k s q) := by
  obtain ⟨s1, s2, s3, s4⟩ := sine_is ht.fin.okF
  have s4 := s4 ht.fin
  have a1 : Le .f32 6 (real.bin .mul .f32 s (Pure.impl_SineTurns real t)) := Le.mul hs s4 (by omega) (le127 (by omega))
  have a2 : Le .f32 6 (real.bin .mul .f32 q k) := Le.mul hq hk (by omega) (le127 (by omega))
  have a3 : Le .f32 22 (real.bin .add .f32 (real.bin .mul .f32 q k) (real.bin .mul .f32 s (Pure.impl_SineTurns real t))) := Le.add a2 a1 (by omega) (le127 (by omega))
  obtain ⟨k1, k2, k3, k4⟩ := kick_is a3
  have a4 : Le .f32 1 (real.bin .add .f32 t (Pure.impl_WrapKick real (real.bin .add .f32 (real.bin .mul .f32 q k) (real.bin .mul .f32 s (Pure.impl_SineTurns real t))))) := Le.add ht.le k4 (by omega) (le127 (by omega))
  obtain ⟨w1, w2, w3, w4⟩ := wrap_is a4.1
  unfold Pure.spec_l07Damp_ok Pure.impl_State_damped_ok Pure.spec_l07Damp Pure.impl_State_damped Pure.spec_l07Damp_1 Pure.impl_State_damped_1
  rw [s1, s2, s3, k1, k2, k3, w1, w2, w3]
  exact ⟨rfl, rfl, rfl, rfl, w4, k4⟩

def dst (s q : Int) : Nat → Int → Int → Int × Int
  | 0, t, k => (t, k)
  | n + 1, t, k => dst s q n (Pure.impl_State_damped real t k s q) (Pure.impl_State_damped_1 real t k s q)

theorem dst_ok {s q : Int} (hs : Le .f32 2 s) (hq : Le .f32 0 q) : ∀ (n : Nat) (t k : Int), Turn t → Le .f32 0 k → Turn (dst s q n t k).1 ∧ Le .f32 0 (dst s q n t k).2 := by
  intro n
  induction n with
  | zero => intro t k ht hk; exact ⟨ht, hk⟩
  | succ n ih =>
    intro t k ht hk
    obtain ⟨_, _, _, _, d5, d6⟩ := damp_is ht hk hs hq
    exact ih _ _ d5 d6

theorem spec_rest {s q p : Int} (hs : Le .f32 2 s) (hq : Le .f32 0 q) : ∀ (n fuel : Nat) (t k : Int), n < fuel → n < 1000000 → Turn t → Le .f32 0 k → Pure.spec_l07Rest_L0 real s q p fuel n t k = (true, dst s q n t k) := by
  intro n
  induction n with
  | zero =>
    intro fuel t k hf _ _ _
    match fuel, hf with
    | fuel + 1, _ => rfl
  | succ n ih =>
    intro fuel t k hf hn ht hk
    match fuel, hf with
    | fuel + 1, hf =>
      obtain ⟨d1, _, d3, d4, d5, d6⟩ := damp_is ht hk hs hq
      unfold Pure.spec_l07Rest_L0
      have e1 : decide (((n + 1 : Nat) : Int) > 0) = true := by simp
      rw [e1, d1, d3, d4, wrap64 (n := ((n + 1 : Nat) : Int) - 1) (by omega) (by omega), show ((n + 1 : Nat) : Int) - 1 = (n : Int) by omega]
      simp only [cond_true]
      exact ih fuel _ _ (by omega) (by omega) d5 d6

theorem impl_rest {s q p : Int} (hs : Le .f32 2 s) (hq : Le .f32 0 q) (N : Nat) (hN : N < 1000000) : ∀ (n i fuel : Nat) (t k : Int), i + n = N → n < fuel → Turn t → Le .f32 0 k → Pure.impl_State_rest_L0 real s q p N fuel i t k = (true, dst s q n t k) := by
  intro n
  induction n with
  | zero =>
    intro i fuel t k hi hf _ _
    match fuel, hf with
    | fuel + 1, _ =>
      unfold Pure.impl_State_rest_L0
      have e1 : decide ((i : Int) < (N : Int)) = false := by simp; omega
      rw [e1]; rfl
  | succ n ih =>
    intro i fuel t k hi hf ht hk
    match fuel, hf with
    | fuel + 1, hf =>
      obtain ⟨_, d2, _, _, d5, d6⟩ := damp_is ht hk hs hq
      unfold Pure.impl_State_rest_L0
      have e1 : decide ((i : Int) < (N : Int)) = true := by simp; omega
      rw [e1, d2, wrap_succ (by omega)]
      simp only [cond_true]
      exact ih (i + 1) fuel _ _ (by omega) (by omega) d5 d6

theorem in_iff {a b c : Int} : Pure.impl_in real a b c = true ↔ b ≤ a ∧ a ≤ c := by
  unfold Pure.impl_in
  simp only [Bool.cond_false_right, Bool.and_eq_true, decide_eq_true_eq, ge_iff_le]

theorem rest_is {t k s q n p : Int} (ht : Turn t) (hk : Le .f32 0 k) (hs : Le .f32 2 s) (hq : Le .f32 0 q) (hn : 0 ≤ n ∧ n ≤ 128) (hp : 1 ≤ p ∧ p ≤ 16) :
    Pure.spec_l07Rest_ok real t k s q n p = true ∧ Pure.impl_State_rest_ok real t k s q n p = true ∧ Pure.spec_l07Rest real t k s q n p = Pure.impl_State_rest real t k s q n p := by
  obtain ⟨N, rfl⟩ : ∃ N : Nat, n = N := ⟨n.toNat, by omega⟩
  obtain ⟨m, rfl⟩ : ∃ m : Nat, p = m := ⟨p.toNat, by omega⟩
  have h1 := spec_rest (p := (m : Int)) hs hq N (((N : Int) - 0 + 1).toNat) t k (by omega) (by omega) ht hk
  have h2 := impl_rest (p := (m : Int)) hs hq N (by omega) N 0 (((N : Int) - 0 + 1).toNat) t k (by omega) (by omega) ht hk
  obtain ⟨d1, _⟩ := dst_ok hs hq N t k ht hk
  have hb : FloatKind.f32.format.binade = 8388608 := by decide
  obtain ⟨o1, o2⟩ := ofInt_fv (k := .f32) (n := (m : Int)) (by rw [hb]; omega)
  have hup := unit_pos .f32
  have hx : Fin .f32 (real.bin .mul .f32 (real.ofInt .f32 m) (dst s q N t k).1) ∧ 0 ≤ fv .f32 (real.bin .mul .f32 (real.ofInt .f32 m) (dst s q N t k).1) ∧ fv .f32 (real.bin .mul .f32 (real.ofInt .f32 m) (dst s q N t k).1) ≤ m * (unit .f32 : Int) := by
    have := d1.ge; have := d1.lt
    refine (mul_rounds o1 d1.fin).within (has_zero .f32) ⟨_, o1, o2⟩ ?_ ?_
    · rw [Int.zero_mul, o2]; exact Int.mul_nonneg (Int.mul_nonneg (by omega) (by omega)) d1.ge
    · rw [o2]; exact Int.mul_le_mul_of_nonneg_left (by omega) (Int.mul_nonneg (by omega) (by omega))
  obtain ⟨x1, x2, x3⟩ := hx
  have hm : (m : Int) * (unit .f32 : Int) ≤ 1000000 * (unit .f32 : Int) := Int.mul_le_mul_of_nonneg_right (by omega) (by omega)
  obtain ⟨f1, f2, f3, _⟩ := floor_int x1 x2 (by omega)
  have h2' : Pure.impl_State_rest_L0 real s q (m : Int) (N : Int) (((N : Int) - 0 + 1).toNat) 0 t k = (true, dst s q N t k) := h2
  unfold Pure.spec_l07Rest_ok Pure.impl_State_rest_ok Pure.spec_l07Rest Pure.impl_State_rest Pure.impl_box Pure.impl_box_ok Pure.spec_l00Min
  rw [h1, h2', convOk_up]
  simp only [f1, f2, f3, cond_true]
  exact ⟨trivial, trivial, trivial⟩

theorem can_is (a b c d : Int) : Pure.spec_l07Can real a b c d = Pure.impl_restOk real a b c d := rfl

theorem restOk_is {a b c d : Int} (ha : OkF .f32 a) (hb : OkF .f32 b) (h : Pure.impl_restOk real a b c d = true) : Le .f32 2 a ∧ Le .f32 0 b ∧ (0 ≤ c ∧ c ≤ 128) ∧ (1 ≤ d ∧ d ≤ 16) := by
  unfold Pure.impl_restOk at h
  simp only [Bool.cond_false_right, Bool.and_eq_true] at h
  exact ⟨sizeOk_le ha h.1, keepOk_le hb h.2.1, in_iff.1 h.2.2.1, in_iff.1 h.2.2.2⟩

def marksI (n : Nat) : List (List Int) := (List.range n).map fun (i : Nat) => [1 + (i : Int)]

theorem marksI_get {n i : Nat} (h : i < n) : (marksI n).getD i [] = [1 + (i : Int)] := by
  rw [getD_some (by simp [marksI]; exact h)]; simp [marksI]

theorem eqInt64S_refl (xs : List (List Int)) (hl : xs.length < 4611686018427387904) : Pure.laws_eqInt64S_ok real xs xs = true ∧ Pure.laws_eqInt64S real xs xs = true := by
  have hne : ∀ a : Int, (a != a) = false := fun a => by simp
  have key := iter_all xs.length (fun _ => true) (fun n i => Pure.laws_eqInt64S_L0 real xs xs n i) (true, false) (false, false) (fun n i h => by
      conv => lhs; unfold Pure.laws_eqInt64S_L0
      rw [dec_lt h, dec_nn, hne, wrap_succ (by omega)]; rfl) (fun n => by
      conv => lhs; unfold Pure.laws_eqInt64S_L0
      rw [dec_ge (Nat.le_refl _)]; rfl) (xs.length + 1) 0 (by omega) (by omega)
  have hu : upAll xs.length (fun _ => true) 0 = true := by unfold upAll; rw [List.all_eq_true]; intro _ _; rfl
  rw [hu] at key
  unfold Pure.laws_eqInt64S_ok Pure.laws_eqInt64S
  have e : ((Int.ofNat xs.length != Int.ofNat xs.length)) = false := by simp
  rw [e]
  change (Pure.laws_eqInt64S_L0 real xs xs (xs.length + 1) 0).1 = true ∧ (bif (Pure.laws_eqInt64S_L0 real xs xs (xs.length + 1) 0).2 then false else true) = true
  change Pure.laws_eqInt64S_L0 real xs xs (xs.length + 1) 0 = _ at key
  rw [key]; exact ⟨rfl, rfl⟩

theorem markInt64S_loop : ∀ (n : Nat) (i : Nat) (xs : List (List Int)), i ≤ xs.length → xs.length - i < n → xs.length < 1000000000 →
    (∀ j, j < i → xs.getD j [] = [1 + (j : Int)]) →
    Pure.laws_markInt64S_L0 real n (1 + (i : Int)) i xs = (true, 1 + (xs.length : Int), marksI xs.length) := by
  intro n
  induction n with
  | zero => intro i xs _ h; omega
  | succ n ih =>
    intro i xs hi hn hb hx
    unfold Pure.laws_markInt64S_L0
    rcases Nat.lt_or_ge i xs.length with h | h
    · rw [dec_lt h, dec_nn, Int.toNat_natCast, wrap_succ (by omega), wrap64 (n := 1 + (i : Int) + 1) (by omega) (by omega)]
      simp only [cond_true]
      have := ih (i + 1) (xs.set i [1 + (i : Int)]) (by simp; omega) (by simp; omega) (by simpa using hb) (fun j hj => by
        rw [List.getD_eq_getElem?_getD, List.getElem?_set]
        by_cases hij : i = j
        · subst hij; simp [h]
        · rw [if_neg hij, ← List.getD_eq_getElem?_getD]; exact hx j (by omega))
      rw [List.length_set] at this
      rw [show 1 + (i : Int) + 1 = 1 + ((i + 1 : Nat) : Int) by omega]
      exact this
    · rw [dec_ge h]
      have hil : i = xs.length := by omega
      subst hil
      have : xs = marksI xs.length := by
        apply List.ext_getElem
        · simp [marksI]
        · intro j h1 h2
          have := hx j h1
          rw [getD_some h1] at this
          rw [this]; simp [marksI]
      simp only [cond_false]
      rw [← this]

theorem markInt64S_eq (xs : List (List Int)) (hl : xs.length < 1000000000) : Pure.laws_markInt64S_ok real xs 1 = true ∧ Pure.laws_markInt64S real xs 1 = 1 + (xs.length : Int) ∧ Pure.laws_markInt64S_1 real xs 1 = marksI xs.length := by
  have := markInt64S_loop (xs.length + 1) 0 xs (by omega) (by omega) hl (fun j hj => by omega)
  have e : (1 : Int) + ((0 : Nat) : Int) = 1 := rfl
  rw [e] at this
  unfold Pure.laws_markInt64S_ok Pure.laws_markInt64S Pure.laws_markInt64S_1
  change (Pure.laws_markInt64S_L0 real (xs.length + 1) 1 0 xs).1 = true ∧ (Pure.laws_markInt64S_L0 real (xs.length + 1) 1 0 xs).2.1 = _ ∧ (Pure.laws_markInt64S_L0 real (xs.length + 1) 1 0 xs).2.2 = _
  change Pure.laws_markInt64S_L0 real (xs.length + 1) 1 0 xs = _ at this
  rw [this]; exact ⟨rfl, rfl, rfl⟩

theorem heldInt64S_eq (m : Nat) (hm : m < 1000000000) : Pure.laws_heldInt64S_ok real (marksI m) 1 = true ∧ Pure.laws_heldInt64S real (marksI m) 1 = 1 + (m : Int) := by
  have hlen : (marksI m).length = m := by simp [marksI]
  have key : ∀ (n i : Nat), i ≤ m → m - i < n → (Pure.laws_heldInt64S_L0 real (marksI m) n (1 + (i : Int)) i).1 = true ∧ (Pure.laws_heldInt64S_L0 real (marksI m) n (1 + (i : Int)) i).2.1 = false ∧ (Pure.laws_heldInt64S_L0 real (marksI m) n (1 + (i : Int)) i).2.2.1 = 1 + (m : Int) := by
    intro n
    induction n with
    | zero => intro i _ h; omega
    | succ n ih =>
      intro i hi hn
      unfold Pure.laws_heldInt64S_L0
      rcases Nat.lt_or_ge i m with h | h
      · have e0 : ∀ a : Int, List.getD [a] 0 0 = a := fun _ => rfl
        have hne : ∀ a : Int, (a != a) = false := fun a => by simp
        rw [dec_lt (show i < (marksI m).length by omega), dec_nn, Int.toNat_natCast, marksI_get h, wrap_succ (by omega), wrap64 (n := 1 + (i : Int) + 1) (by omega) (by omega), e0, hne]
        simp only [cond_true, cond_false]
        rw [show 1 + (i : Int) + 1 = 1 + ((i + 1 : Nat) : Int) by omega]
        exact ih (i + 1) (by omega) (by omega)
      · rw [dec_ge (show (marksI m).length ≤ i by omega)]
        have : i = m := by omega
        subst this
        exact ⟨rfl, rfl, rfl⟩
  obtain ⟨h1, h2, h3⟩ := key (m + 1) 0 (by omega) (by omega)
  unfold Pure.laws_heldInt64S_ok Pure.laws_heldInt64S
  rw [hlen]
  change (Pure.laws_heldInt64S_L0 real (marksI m) (m + 1) 1 0).1 = true ∧ (bif (Pure.laws_heldInt64S_L0 real (marksI m) (m + 1) 1 0).2.1 then -1 else (Pure.laws_heldInt64S_L0 real (marksI m) (m + 1) 1 0).2.2.1) = _
  change (Pure.laws_heldInt64S_L0 real (marksI m) (m + 1) 1 0).1 = true at h1
  change (Pure.laws_heldInt64S_L0 real (marksI m) (m + 1) 1 0).2.1 = false at h2
  change (Pure.laws_heldInt64S_L0 real (marksI m) (m + 1) 1 0).2.2.1 = _ at h3
  rw [h1, h2, h3]; exact ⟨rfl, rfl⟩

def leB (e : Nat) (x : Int) : Bool := decide (0 ≤ x) && decide (x.toNat < 2 * FloatKind.f32.format.signWeight) && decide (rg .f32 x < FloatKind.f32.format.infRung) && decide ((fv .f32 x).natAbs ≤ 2 ^ e * unit .f32)

def turnB (x : Int) : Bool := leB 0 x && decide (0 ≤ fv .f32 x) && decide (fv .f32 x < unit .f32)

theorem turns_ok : ((List.range 33).all fun w => (List.range w).all fun x => turnB (real.bin .quo .f32 (real.ofInt .f32 (x : Nat)) (real.ofInt .f32 (w : Nat)))) = true := by decide +kernel

theorem kicks_ok : ((List.range 33).all fun w => (List.range w).all fun x => leB 22 (real.bin .sub .f32 (real.bin .quo .f32 (real.ofInt .f32 (x : Nat)) (real.ofInt .f32 (w : Nat))) 1056964608)) = true := by decide +kernel

theorem turn_of {x w : Nat} (h : x < w) (hw : w ≤ 32) : Turn (real.bin .quo .f32 (real.ofInt .f32 x) (real.ofInt .f32 w)) := by
  have h1 := turns_ok
  rw [List.all_eq_true] at h1
  have h2 := h1 w (List.mem_range.2 (by omega))
  rw [List.all_eq_true] at h2
  have h3 := h2 x (List.mem_range.2 h)
  unfold turnB at h3
  simp only [Bool.and_eq_true, decide_eq_true_eq] at h3
  exact ⟨(Le.const (k := .f32) (e := 0) h3.1.1).1, h3.1.2, h3.2⟩

theorem kick_of {x w : Nat} (h : x < w) (hw : w ≤ 32) : Le .f32 22 (real.bin .sub .f32 (real.bin .quo .f32 (real.ofInt .f32 x) (real.ofInt .f32 w)) 1056964608) := by
  have h1 := kicks_ok
  rw [List.all_eq_true] at h1
  have h2 := h1 w (List.mem_range.2 (by omega))
  rw [List.all_eq_true] at h2
  exact Le.const (h2 x (List.mem_range.2 h))

def rowR (w : Nat) (k s q n p : Int) : Nat → Nat → List (List Int)
  | 0, _ => []
  | m + 1, i => [Pure.impl_State_rest real (real.bin .quo .f32 (real.ofInt .f32 (i : Nat)) (real.ofInt .f32 (w : Nat))) k s q n p] :: rowR w k s q n p m (i + 1)

theorem rowR_len (w : Nat) (k s q n p : Int) : ∀ (m i : Nat), (rowR w k s q n p m i).length = m
  | 0, _ => rfl
  | m + 1, i => by simp [rowR, rowR_len w k s q n p m]

theorem row_loops {y w h : Nat} {s q n p : Int} (hy : y < h) (hh : h ≤ 32) (hw : w ≤ 32) (hs : Le .f32 2 s) (hq : Le .f32 0 q) (hn : 0 ≤ n ∧ n ≤ 128) (hp : 1 ≤ p ∧ p ≤ 16) :
    ∀ (m i f1 f2 : Nat) (acc : List (List Int)), i + m = w → m < f1 → m < f2 → acc.length + m < 1000000 →
    Pure.spec_l07Row_L0 real w s q n p (Pure.impl_WrapKick real (real.bin .sub .f32 (real.bin .quo .f32 (real.ofInt .f32 (y : Nat)) (real.ofInt .f32 (h : Nat))) 1056964608)) f1 i acc = (true, acc ++ rowR w (Pure.impl_WrapKick real (real.bin .sub .f32 (real.bin .quo .f32 (real.ofInt .f32 (y : Nat)) (real.ofInt .f32 (h : Nat))) 1056964608)) s q n p m i) ∧
    Pure.impl_basinRow_L0 real y w h s q n p w f2 i acc = (true, acc ++ rowR w (Pure.impl_WrapKick real (real.bin .sub .f32 (real.bin .quo .f32 (real.ofInt .f32 (y : Nat)) (real.ofInt .f32 (h : Nat))) 1056964608)) s q n p m i) := by
  obtain ⟨_, _, k3, k4⟩ := kick_is (kick_of hy hh)
  intro m
  induction m with
  | zero =>
    intro i f1 f2 acc hi h1 h2 _
    match f1, f2, h1, h2 with
    | f1 + 1, f2 + 1, _, _ =>
      unfold Pure.spec_l07Row_L0 Pure.impl_basinRow_L0
      rw [dec_ge' (show w ≤ i by omega)]
      simp [rowR]
  | succ m ih =>
    intro i f1 f2 acc hi h1 h2 hl
    match f1, f2, h1, h2 with
    | f1 + 1, f2 + 1, h1, h2 =>
      obtain ⟨r1, r2, r3⟩ := rest_is (turn_of (show i < w by omega) hw) k4 hs hq hn hp
      have e2 : decide (acc.length.succ ≤ 1073741824) = true := by simp; omega
      unfold Pure.spec_l07Row_L0 Pure.impl_basinRow_L0
      rw [dec_lt' (show i < w by omega), r1, r2, r3, k3, e2, wrap_succ (by omega)]
      simp only [cond_true]
      obtain ⟨g1, g2⟩ := ih (i + 1) f1 f2 (acc ++ [[Pure.impl_State_rest real (real.bin .quo .f32 (real.ofInt .f32 (i : Nat)) (real.ofInt .f32 (w : Nat))) (Pure.impl_WrapKick real (real.bin .sub .f32 (real.bin .quo .f32 (real.ofInt .f32 (y : Nat)) (real.ofInt .f32 (h : Nat))) 1056964608)) s q n p]]) (by omega) (by omega) (by omega) (by simp; omega)
      rw [g1, g2]
      simp [rowR]


theorem concat_is (xs ys : List (List Int)) (h : xs.length + ys.length ≤ 1000000) : Pure.slices_Concat_int64_int64_ok real xs ys = true ∧ Pure.slices_Concat_int64_int64 real xs ys = xs ++ ys := by
  unfold Pure.slices_Concat_int64_int64_ok Pure.slices_Concat_int64_int64 Pure.slices_Grow_int64_int64_ok
  rw [Nat.zero_add]
  have w1 : IntKind.wrap IntKind.i64 (Int.ofNat xs.length) = (xs.length : Int) := wrap64 (by simp; try omega) (by simp; try omega)
  have w2 : IntKind.wrap IntKind.i64 ((xs.length : Int) + Int.ofNat ys.length) = ((xs.length + ys.length : Nat) : Int) := by
    rw [wrap64 (by simp; try omega) (by simp; try omega)]; simp
  have w3 : IntKind.wrap IntKind.i64 (((xs.length + ys.length : Nat) : Int) - 0) = ((xs.length + ys.length : Nat) : Int) := by rw [Int.sub_zero]; exact wrap64 (by omega) (by omega)
  rw [w1, w2, w3]
  refine ⟨?_, by simp⟩
  have d1 : decide ((xs.length : Int) < 0) = false := by simp
  have d2 : decide (((xs.length + ys.length : Nat) : Int) < 0) = false := by simp; omega
  have d3 : decide (((xs.length + ys.length : Nat) : Int) ≤ 1073741824) = true := by simp; omega
  have d4 : decide (xs.length ≤ 1073741824) = true := by simp; omega
  have d5 : decide ((([] ++ xs : List (List Int)).length) + ys.length ≤ 1073741824) = true := by simp; omega
  rw [d1, d2, d3, d4, d5]
  by_cases h0 : 0 < ((xs.length + ys.length : Nat) : Int)
  · have d6 : decide (0 < ((xs.length + ys.length : Nat) : Int)) = true := by rw [decide_eq_true_eq]; exact h0
    rw [d6]; rfl
  · have d7 : decide (((xs.length + ys.length : Nat) : Int) > 0) = false := by rw [decide_eq_false_iff_not]; exact h0
    rw [d7]; rfl

def rowK (w h : Nat) (s q n p : Int) (y : Nat) : List (List Int) := rowR w (Pure.impl_WrapKick real (real.bin .sub .f32 (real.bin .quo .f32 (real.ofInt .f32 (y : Nat)) (real.ofInt .f32 (h : Nat))) 1056964608)) s q n p w 0
theorem rowK_len (w h : Nat) (s q n p : Int) (y : Nat) : (rowK w h s q n p y).length = w := rowR_len ..

theorem row_is {y w h : Nat} {s q n p : Int} (hy : y < h) (hh : h ≤ 32) (hw : w ≤ 32) (hs : Le .f32 2 s) (hq : Le .f32 0 q) (hn : 0 ≤ n ∧ n ≤ 128) (hp : 1 ≤ p ∧ p ≤ 16) :
    Pure.spec_l07Row_ok real y w h s q n p = true ∧ Pure.impl_basinRow_ok real y w h s q n p = true ∧ Pure.spec_l07Row real y w h s q n p = rowK w h s q n p y ∧ Pure.impl_basinRow real y w h s q n p = rowK w h s q n p y := by
  obtain ⟨g1, g2⟩ := row_loops (y := y) (w := w) (h := h) hy hh hw hs hq hn hp w 0 (((w : Int) - 0 + 1).toNat) (((w : Int) - 0 + 1).toNat) [] (by omega) (by omega) (by omega) (by simp; omega)
  obtain ⟨k1, k2, _, _⟩ := kick_is (kick_of hy hh)
  unfold Pure.spec_l07Row_ok Pure.impl_basinRow_ok Pure.spec_l07Row Pure.impl_basinRow
  rw [k1, k2]
  change Pure.spec_l07Row_L0 real (w : Int) s q n p _ _ 0 [] = _ at g1
  change Pure.impl_basinRow_L0 real (y : Int) (w : Int) (h : Int) s q n p (w : Int) _ 0 [] = _ at g2
  rw [g1, g2]
  exact ⟨rfl, rfl, rfl, rfl⟩

def basR (w h : Nat) (s q n p : Int) : Nat → Nat → List (List Int)
  | 0, _ => []
  | m + 1, y => rowK w h s q n p y ++ basR w h s q n p m (y + 1)
theorem basR_len (w h : Nat) (s q n p : Int) : ∀ (m y : Nat), (basR w h s q n p m y).length = m * w
  | 0, _ => by simp [basR]
  | m + 1, y => by rw [basR, List.length_append, rowK_len, basR_len w h s q n p m, Nat.add_mul, Nat.one_mul, Nat.add_comm]

theorem bas_loops {w h : Nat} {s q n p : Int} (hh : h ≤ 32) (hw : w ≤ 32) (hs : Le .f32 2 s) (hq : Le .f32 0 q) (hn : 0 ≤ n ∧ n ≤ 128) (hp : 1 ≤ p ∧ p ≤ 16) :
    ∀ (m i f1 f2 : Nat) (acc : List (List Int)), i + m = h → m < f1 → m < f2 → acc.length + m * w < 1000000 →
    Pure.spec_BasinsOf_L0 real w h s q n p f1 i acc = (true, acc ++ basR w h s q n p m i) ∧
    Pure.impl_BasinsOf_L0 real w h s q n p h f2 i acc = (true, acc ++ basR w h s q n p m i) := by
  intro m
  induction m with
  | zero =>
    intro i f1 f2 acc hi h1 h2 _
    match f1, f2, h1, h2 with
    | f1 + 1, f2 + 1, _, _ =>
      unfold Pure.spec_BasinsOf_L0 Pure.impl_BasinsOf_L0
      rw [dec_ge' (show h ≤ i by omega)]
      simp [basR]
  | succ m ih =>
    intro i f1 f2 acc hi h1 h2 hl
    match f1, f2, h1, h2 with
    | f1 + 1, f2 + 1, h1, h2 =>
      rw [Nat.add_mul, Nat.one_mul] at hl
      obtain ⟨r1, r2, r3, r4⟩ := row_is (show i < h by omega) hh hw hs hq hn hp
      have hrl := rowK_len w h s q n p i
      have e2 : decide (acc.length + (rowK w h s q n p i).length ≤ 1073741824) = true := by rw [hrl]; simp; omega
      obtain ⟨c1, c2⟩ := concat_is acc (rowK w h s q n p i) (by rw [hrl]; omega)
      unfold Pure.spec_BasinsOf_L0 Pure.impl_BasinsOf_L0
      rw [dec_lt' (show i < h by omega), r1, r2, r3, r4, e2, c1, c2, wrap_succ (by omega)]
      simp only [cond_true]
      obtain ⟨g1, g2⟩ := ih (i + 1) f1 f2 (acc ++ rowK w h s q n p i) (by omega) (by omega) (by omega) (by rw [List.length_append, hrl]; omega)
      rw [g1, g2]
      simp [basR]

theorem basins_is (x0 x1 x2 x3 x4 x5 : Int) (h2 : OkF .f32 x2) (h3 : OkF .f32 x3) : ∃ l : List (List Int), l.length ≤ 1024 ∧ Pure.spec_BasinsOf_ok real x0 x1 x2 x3 x4 x5 = true ∧ Pure.impl_BasinsOf_ok real x0 x1 x2 x3 x4 x5 = true ∧
    Pure.spec_BasinsOf_1 real x0 x1 x2 x3 x4 x5 = l ∧ Pure.impl_BasinsOf_1 real x0 x1 x2 x3 x4 x5 = l ∧ Pure.spec_BasinsOf real x0 x1 x2 x3 x4 x5 = Pure.impl_BasinsOf real x0 x1 x2 x3 x4 x5 := by
  have ei : ∀ a b c, Pure.spec_l00In real a b c = Pure.impl_in real a b c := fun a b c => rfl
  unfold Pure.spec_BasinsOf_ok Pure.impl_BasinsOf_ok Pure.spec_BasinsOf Pure.impl_BasinsOf Pure.spec_BasinsOf_1 Pure.impl_BasinsOf_1 Pure.spec_l07Grid
  rw [can_is, ei, ei]
  cases ha : Pure.impl_in real x0 1 32 with
  | false => exact ⟨[], by simp, rfl, rfl, rfl, rfl, rfl⟩
  | true =>
    cases hb : Pure.impl_in real x1 1 32 with
    | false => exact ⟨[], by simp, rfl, rfl, rfl, rfl, rfl⟩
    | true =>
      cases hr : Pure.impl_restOk real x2 x3 x4 x5 with
      | false => exact ⟨[], by simp, rfl, rfl, rfl, rfl, rfl⟩
      | true =>
        have ha := in_iff.1 ha
        have hb := in_iff.1 hb
        obtain ⟨r1, r2, r3, r4⟩ := restOk_is h2 h3 hr
        obtain ⟨w, rfl⟩ : ∃ n : Nat, x0 = n := ⟨x0.toNat, by omega⟩
        obtain ⟨h, rfl⟩ : ∃ n : Nat, x1 = n := ⟨x1.toNat, by omega⟩
        have hhw : h * w ≤ 32 * 32 := Nat.mul_le_mul (by omega) (by omega)
        obtain ⟨g1, g2⟩ := bas_loops (w := w) (h := h) (by omega) (by omega) r1 r2 r3 r4 h 0 (((h : Int) - 0 + 1).toNat) (((h : Int) - 0 + 1).toNat) [] (by omega) (by omega) (by omega) (by simp only [List.length_nil]; omega)
        refine ⟨basR w h x2 x3 x4 x5 h 0, by rw [basR_len]; omega, ?_⟩
        change Pure.spec_BasinsOf_L0 real (w : Int) (h : Int) x2 x3 x4 x5 _ 0 [] = _ at g1
        change Pure.impl_BasinsOf_L0 real (w : Int) (h : Int) x2 x3 x4 x5 (h : Int) _ 0 [] = _ at g2
        rw [g1, g2]
        exact ⟨rfl, rfl, rfl, rfl, rfl⟩

theorem law_FnExactBasinsOf (x0 x1 x2 x3 x4 x5 : Int) (_ : IntKind.i64.has x0) (_ : IntKind.i64.has x1) (h2 : OkF .f32 x2) (h3 : OkF .f32 x3) (_ : IntKind.i64.has x4) (_ : IntKind.i64.has x5) :
    Pure.laws_FnExactBasinsOf_ok real x0 x1 x2 x3 x4 x5 = true ∧ Pure.laws_FnExactBasinsOf real x0 x1 x2 x3 x4 x5 = true := by
  obtain ⟨l, hl, i1, i2, i3, i4, i5⟩ := basins_is x0 x1 x2 x3 x4 x5 h2 h3
  obtain ⟨e1, e2⟩ := eqInt64S_refl l (by omega)
  obtain ⟨k1, k2, k3⟩ := markInt64S_eq l (by omega)
  obtain ⟨g1, g2⟩ := heldInt64S_eq l.length (by omega)
  unfold Pure.laws_FnExactBasinsOf_ok Pure.laws_FnExactBasinsOf
  rw [i1, i2, i3, i4, i5, e1, e2, k1, k2, k3, g1, g2]
  have d1 : decide ((1 : Int) + (l.length : Int) < 0) = false := by simp; omega
  rw [d1]
  simp
end Go.Fx
