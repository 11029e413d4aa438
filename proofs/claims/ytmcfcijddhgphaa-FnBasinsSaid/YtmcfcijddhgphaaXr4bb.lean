import Derived.Test.YtmcfcijddhgphaaXr4ba
import Derived.Test.YtmcfcijddhgphaaXr4q
import Derived.Test.YtmcfcijddhgphaaF4
namespace Go.Fx
set_option maxRecDepth 100000
abbrev BU : List K := [.i .u8]

theorem b10At_is {xs : List (List Int)} (h : RowsOK BU xs) (k n : Nat) (hk : k < 4) (h2 : 2 ≤ n) (hn : n ≤ 33) : ∃ i : Nat, i < n ∧ Pure.laws_b10At real xs k n = i ∧ Pure.laws_b10At_ok real xs k n = true := by
  unfold Pure.laws_b10At Pure.laws_b10At_ok
  rw [decide_eq_false (show ¬ ((n : Int) ≤ 1) by omega), show ((n : Int) == 0) = false by simp; omega, decide_eq_true (show (0 : Int) ≤ (k : Int) by omega)]
  by_cases hl : k < xs.length
  · rw [decide_eq_true (show (k : Int) < Int.ofNat xs.length by show (k : Int) < (xs.length : Int); omega), Int.toNat_natCast, getD_some hl]
    obtain ⟨g1, g2⟩ : IntKind.u8.has (xs[k].getD 0 0) := (h.row _ (List.getElem_mem hl)).2 0 _ rfl
    have m0 : IntKind.u8.min = 0 := rfl
    have m1 : IntKind.u8.max = 255 := by decide
    rw [m0] at g1
    rw [m1] at g2
    simp only [cond_true, cond_false]
    rw [wrap64 (by omega) (by omega)]
    have e1 : (xs[k].getD 0 0).tmod n = xs[k].getD 0 0 % n := Int.tmod_eq_emod_of_nonneg g1
    rw [e1]
    have b1 := Int.emod_nonneg (xs[k].getD 0 0) (show (n : Int) ≠ 0 by omega)
    have b2 := Int.emod_lt_of_pos (xs[k].getD 0 0) (show (0 : Int) < n by omega)
    exact ⟨(xs[k].getD 0 0 % n).toNat, by omega, by omega, by first | rfl | trivial⟩
  · rw [decide_eq_false (show ¬ (k : Int) < Int.ofNat xs.length by show ¬ (k : Int) < (xs.length : Int); omega)]
    simp only [cond_false]
    rw [wrap64 (n := (k : Int) * 37) (by omega) (by omega), wrap64 (by omega) (by omega)]
    have e1 : ((k : Int) * 37 + 11).tmod n = ((k : Int) * 37 + 11) % n := Int.tmod_eq_emod_of_nonneg (by omega)
    rw [e1]
    have b1 := Int.emod_nonneg ((k : Int) * 37 + 11) (show (n : Int) ≠ 0 by omega)
    have b2 := Int.emod_lt_of_pos ((k : Int) * 37 + 11) (show (0 : Int) < n by omega)
    exact ⟨(((k : Int) * 37 + 11) % n).toNat, by omega, by omega, by first | rfl | trivial⟩

def szB (i : Nat) : Int := real.bin .quo .f32 (real.ofInt .f32 ((i : Int) - 8)) 1098907648
def kpB (j : Nat) : Int := real.bin .quo .f32 (real.ofInt .f32 (j : Int)) 1090519040
theorem szB_all : ((List.range 17).all fun i => leB 2 (szB i) && Pure.impl_sizeOk real (szB i)) = true := by decide +kernel
theorem kpB_all : ((List.range 9).all fun j => leB 0 (kpB j) && Pure.impl_shareOk real (kpB j)) = true := by decide +kernel
theorem szB_is {i : Nat} (h : i < 17) : Le .f32 2 (szB i) ∧ Pure.impl_sizeOk real (szB i) = true := by
  have h1 := szB_all
  rw [List.all_eq_true] at h1
  have h2 := h1 i (List.mem_range.2 h)
  rw [Bool.and_eq_true] at h2
  exact ⟨Le.const h2.1, h2.2⟩
theorem kpB_is {i : Nat} (h : i < 9) : Le .f32 0 (kpB i) ∧ Pure.impl_shareOk real (kpB i) = true := by
  have h1 := kpB_all
  rw [List.all_eq_true] at h1
  have h2 := h1 i (List.mem_range.2 h)
  rw [Bool.and_eq_true] at h2
  exact ⟨Le.const h2.1, h2.2⟩

theorem restOk_of {s q n p : Int} (h1 : Pure.impl_sizeOk real s = true) (h2 : Pure.impl_shareOk real q = true) (h3 : 0 ≤ n ∧ n ≤ 128) (h4 : 1 ≤ p ∧ p ≤ 16) : Pure.impl_restOk real s q n p = true := by
  unfold Pure.impl_restOk
  rw [h1, h2, in_iff.2 h3, in_iff.2 h4]; rfl

theorem of_is {w h : Nat} {s q n p : Int} (hw : 1 ≤ w ∧ w ≤ 32) (hh : 1 ≤ h ∧ h ≤ 32) (hs : Le .f32 2 s) (hq : Le .f32 0 q) (hr : Pure.impl_restOk real s q n p = true) (hn : 0 ≤ n ∧ n ≤ 128) (hp : 1 ≤ p ∧ p ≤ 16) :
    Pure.impl_BasinsOf real w h s q n p = true ∧ Pure.impl_BasinsOf_ok real w h s q n p = true ∧ Pure.impl_BasinsOf_1 real w h s q n p = basR w h s q n p h 0 := by
  have hhw : h * w ≤ 32 * 32 := Nat.mul_le_mul (by omega) (by omega)
  obtain ⟨_, g2⟩ := bas_loops (w := w) (h := h) (by omega) (by omega) hs hq hn hp h 0 (((h : Int) - 0 + 1).toNat) (((h : Int) - 0 + 1).toNat) [] (by omega) (by omega) (by omega) (by simp only [List.length_nil]; omega)
  change Pure.impl_BasinsOf_L0 real (w : Int) (h : Int) s q n p (h : Int) _ 0 [] = _ at g2
  have i1 : Pure.impl_in real w 1 32 = true := in_iff.2 (by omega)
  have i2 : Pure.impl_in real h 1 32 = true := in_iff.2 (by omega)
  unfold Pure.impl_BasinsOf Pure.impl_BasinsOf_ok Pure.impl_BasinsOf_1
  rw [i1, i2, hr, g2]
  exact ⟨rfl, rfl, rfl⟩

theorem shared_is {w h s q n p : Int} {k : Int} (hk : 1 ≤ k ∧ k ≤ 8) : Pure.impl_BasinsShared real w h s q n p k = Pure.impl_BasinsOf real w h s q n p ∧ Pure.impl_BasinsShared_ok real w h s q n p k = Pure.impl_BasinsOf_ok real w h s q n p ∧ Pure.impl_BasinsShared_1 real w h s q n p k = Pure.impl_BasinsOf_1 real w h s q n p := by
  have i1 : Pure.impl_in real k 1 8 = true := in_iff.2 (by omega)
  unfold Pure.impl_BasinsShared Pure.impl_BasinsShared_ok Pure.impl_BasinsShared_1
  rw [i1]
  exact ⟨rfl, rfl, rfl⟩

theorem brow_is {y w h : Nat} {s q n p : Int} (hy : y < h) (hw : 1 ≤ w ∧ w ≤ 32) (hh : 1 ≤ h ∧ h ≤ 32) (hs : Le .f32 2 s) (hq : Le .f32 0 q) (hr : Pure.impl_restOk real s q n p = true) (hn : 0 ≤ n ∧ n ≤ 128) (hp : 1 ≤ p ∧ p ≤ 16) :
    Pure.impl_BasinRow real y w h s q n p = true ∧ Pure.impl_BasinRow_ok real y w h s q n p = true ∧ Pure.impl_BasinRow_1 real y w h s q n p = rowK w h s q n p y := by
  obtain ⟨_, r2, _, r4⟩ := row_is hy (by omega) (by omega) hs hq hn hp (w := w)
  have i1 : Pure.impl_in real w 1 32 = true := in_iff.2 (by omega)
  have i2 : Pure.impl_in real h 1 32 = true := in_iff.2 (by omega)
  have i3 : Pure.impl_in real y 0 ((h : Int) - 1) = true := in_iff.2 (by omega)
  unfold Pure.impl_BasinRow Pure.impl_BasinRow_ok Pure.impl_BasinRow_1
  rw [i1, i2, wrap64 (n := (h : Int) - 1) (by omega) (by omega), i3, hr, r2, r4]
  exact ⟨rfl, rfl, rfl⟩

theorem ints_refl (xs : List (List Int)) (hl : xs.length < 1000000) : Pure.laws_b10Ints_ok real xs xs = true ∧ Pure.laws_b10Ints real xs xs = true := by
  have hne : ∀ a : Int, (a != a) = false := fun a => by simp
  have key := iter_all xs.length (fun _ => true) (fun n i => Pure.laws_b10Ints_L0 real xs.length xs xs n i) (true, false) (false, false) (fun n i h => by
      conv => lhs; unfold Pure.laws_b10Ints_L0
      rw [dec_lt h, dec_lt' h, dec_nn, hne, wrap_succ (by omega)]; rfl) (fun n => by
      conv => lhs; unfold Pure.laws_b10Ints_L0
      rw [dec_ge' (Nat.le_refl _)]; rfl) (xs.length + 1) 0 (by omega) (by omega)
  have hu : upAll xs.length (fun _ => true) 0 = true := by unfold upAll; rw [List.all_eq_true]; intro _ _; rfl
  rw [hu] at key
  unfold Pure.laws_b10Ints_ok Pure.laws_b10Ints
  have e : ((Int.ofNat xs.length != Int.ofNat xs.length)) = false := by simp
  rw [e]
  change (Pure.laws_b10Ints_L0 real xs.length xs xs (xs.length + 1) 0).1 = true ∧ (bif (Pure.laws_b10Ints_L0 real xs.length xs xs (xs.length + 1) 0).2 then false else true) = true
  change Pure.laws_b10Ints_L0 real xs.length xs xs (xs.length + 1) 0 = _ at key
  rw [key]; exact ⟨rfl, rfl⟩

def kickY (h y : Nat) : Int := Pure.impl_WrapKick real (real.bin .sub .f32 (real.bin .quo .f32 (real.ofInt .f32 (y : Nat)) (real.ofInt .f32 (h : Nat))) 1056964608)
def turnX (w x : Nat) : Int := real.bin .quo .f32 (real.ofInt .f32 (x : Nat)) (real.ofInt .f32 (w : Nat))

theorem rowR_get (w : Nat) (k s q n p : Int) : ∀ (m i j : Nat), j < m → (rowR w k s q n p m i).getD j [] = [Pure.impl_State_rest real (turnX w (i + j)) k s q n p] := by
  intro m
  induction m with
  | zero => intro i j h; omega
  | succ m ih =>
    intro i j h
    cases j with
    | zero => rfl
    | succ j =>
      have := ih (i + 1) j (by omega)
      rw [show i + 1 + j = i + (j + 1) by omega] at this
      exact this

theorem rowK_get {w h : Nat} {s q n p : Int} {y x : Nat} (hx : x < w) : (rowK w h s q n p y).getD x [] = [Pure.impl_State_rest real (turnX w x) (kickY h y) s q n p] := by
  have := rowR_get w (kickY h y) s q n p w 0 x hx
  rw [Nat.zero_add] at this
  exact this

theorem getD_append_left {α : Type} {a b : List α} {i : Nat} {d : α} (h : i < a.length) : (a ++ b).getD i d = a.getD i d := by
  rw [List.getD_eq_getElem?_getD, List.getD_eq_getElem?_getD, List.getElem?_append_left h]
theorem getD_append_right {α : Type} {a b : List α} {i : Nat} {d : α} (h : a.length ≤ i) : (a ++ b).getD i d = b.getD (i - a.length) d := by
  rw [List.getD_eq_getElem?_getD, List.getD_eq_getElem?_getD, List.getElem?_append_right h]

theorem basR_get {w h : Nat} {s q n p : Int} : ∀ (m y j x : Nat), j < m → x < w → (basR w h s q n p m y).getD (j * w + x) [] = [Pure.impl_State_rest real (turnX w x) (kickY h (y + j)) s q n p] := by
  intro m
  induction m with
  | zero => intro y j x h; omega
  | succ m ih =>
    intro y j x hj hx
    have hl := rowK_len w h s q n p y
    unfold basR
    cases j with
    | zero =>
      rw [Nat.zero_mul, Nat.zero_add, getD_append_left (by omega), rowK_get hx]; rfl
    | succ j =>
      have e : (j + 1) * w + x = w + (j * w + x) := by rw [Nat.add_mul, Nat.one_mul]; omega
      rw [getD_append_right (by rw [hl, e]; omega), hl, e, Nat.add_sub_cancel_left, ih (y + 1) j x (by omega) hx]
      rw [show y + 1 + j = y + (j + 1) by omega]

theorem basR_slice {w h : Nat} {s q n p : Int} : ∀ (m y j : Nat), j < m → ((basR w h s q n p m y).drop (j * w)).take w = rowK w h s q n p (y + j) := by
  intro m
  induction m with
  | zero => intro y j h; omega
  | succ m ih =>
    intro y j hj
    have hl := rowK_len w h s q n p y
    unfold basR
    cases j with
    | zero =>
      rw [Nat.zero_mul, List.drop_zero, List.take_append_of_le_length (by omega), List.take_of_length_le (by omega)]; rfl
    | succ j =>
      have e : (j + 1) * w = (rowK w h s q n p y).length + j * w := by rw [hl, Nat.add_mul, Nat.one_mul]; omega
      rw [e, List.drop_length_add_append, ih (y + 1) j (by omega)]
      rw [show y + 1 + j = y + (j + 1) by omega]

theorem rest_range {t k s q n p : Int} (ht : Turn t) (hk : Le .f32 0 k) (hs : Le .f32 2 s) (hq : Le .f32 0 q) (hn : 0 ≤ n ∧ n ≤ 128) (hp : 1 ≤ p ∧ p ≤ 16) : 0 ≤ Pure.impl_State_rest real t k s q n p ∧ Pure.impl_State_rest real t k s q n p < p := by
  obtain ⟨N, rfl⟩ : ∃ N : Nat, n = N := ⟨n.toNat, by omega⟩
  obtain ⟨m, rfl⟩ : ∃ m : Nat, p = m := ⟨p.toNat, by omega⟩
  have h2 := impl_rest (p := (m : Int)) hs hq N (by omega) N 0 (((N : Int) - 0 + 1).toNat) t k (by omega) (by omega) ht hk
  obtain ⟨d1, _⟩ := dst_ok hs hq N t k ht hk
  have hb : FloatKind.f32.format.binade = 8388608 := by decide
  obtain ⟨o1, o2⟩ := ofInt_fv (k := .f32) (n := (m : Int)) (by rw [hb]; omega)
  have hup := unit_pos .f32
  obtain ⟨x1, x2, x3⟩ : Fin .f32 (real.bin .mul .f32 (real.ofInt .f32 m) (dst s q N t k).1) ∧ 0 ≤ fv .f32 (real.bin .mul .f32 (real.ofInt .f32 m) (dst s q N t k).1) ∧ fv .f32 (real.bin .mul .f32 (real.ofInt .f32 m) (dst s q N t k).1) ≤ m * (unit .f32 : Int) := by
    have := d1.ge; have := d1.lt
    refine (mul_rounds o1 d1.fin).within (has_zero .f32) ⟨_, o1, o2⟩ ?_ ?_
    · rw [Int.zero_mul, o2]; exact Int.mul_nonneg (Int.mul_nonneg (by omega) (by omega)) d1.ge
    · rw [o2]; exact Int.mul_le_mul_of_nonneg_left (by omega) (Int.mul_nonneg (by omega) (by omega))
  have hm : (m : Int) * (unit .f32 : Int) ≤ 1000000 * (unit .f32 : Int) := Int.mul_le_mul_of_nonneg_right (by omega) (by omega)
  obtain ⟨_, _, f3, f4⟩ := floor_int x1 x2 (by omega)
  have h2' : Pure.impl_State_rest_L0 real s q (m : Int) (N : Int) (((N : Int) - 0 + 1).toNat) 0 t k = (true, dst s q N t k) := h2
  unfold Pure.impl_State_rest Pure.impl_box
  rw [h2']
  simp only
  rw [f3, f4, wrap64 (n := (m : Int) - 1) (by omega) (by omega)]
  have hv : 0 ≤ fv .f32 (real.bin .mul .f32 (real.ofInt .f32 m) (dst s q N t k).1) / unit .f32 := Int.ediv_nonneg x2 (by omega)
  generalize fv .f32 (real.bin .mul .f32 (real.ofInt .f32 m) (dst s q N t k).1) / unit .f32 = v at *
  by_cases h : (m : Int) - 1 < v
  · rw [decide_eq_true h]; simp only [cond_true]; omega
  · rw [decide_eq_false h]; simp only [cond_false]; omega

theorem kick_zero {x : Int} (hx : Fin .f32 x) (h0 : fv .f32 x = 0) : Pure.impl_WrapKick real x = 0 := by
  have hr := fv_zero_iff.1 h0
  rcases hg : ng .f32 x with _ | _
  · have : x = 0 := by rw [hx.toNum.eq_word, hg, hr]; decide +kernel
    subst this; decide +kernel
  · have : x = 2147483648 := by rw [hx.toNum.eq_word, hg, hr]; decide +kernel
    subst this; decide +kernel

theorem drag_kick {k k' z : Int} (hk : Fin .f32 k) (hk' : Fin .f32 k') (hz : Fin .f32 z) :
    Pure.impl_WrapKick real (real.bin .add .f32 (real.bin .mul .f32 0 k) z) = Pure.impl_WrapKick real (real.bin .add .f32 (real.bin .mul .f32 0 k') z) := by
  have key : ∀ k, Fin .f32 k → Fin .f32 (real.bin .add .f32 (real.bin .mul .f32 0 k) z) ∧ fv .f32 (real.bin .add .f32 (real.bin .mul .f32 0 k) z) = fv .f32 z := by
    intro k hk
    obtain ⟨z1, z2⟩ := fin_zero .f32
    obtain ⟨m1, m2⟩ := (mul_rounds z1 hk).exact (has_zero .f32) (by rw [z2]; simp)
    exact (add_rounds m1 hz).exact ⟨z, hz, rfl⟩ (by rw [m2]; simp)
  obtain ⟨a1, a2⟩ := key k hk
  obtain ⟨b1, b2⟩ := key k' hk'
  by_cases h0 : fv .f32 z = 0
  · rw [kick_zero a1 (by rw [a2]; exact h0), kick_zero b1 (by rw [b2]; exact h0)]
  · rw [a1.toNum.fv_inj b1.toNum (by rw [a2, b2]) (by rw [a2]; exact h0)]

theorem drag_damp {t k k' s : Int} (ht : Turn t) (hk : Le .f32 0 k) (hk' : Le .f32 0 k') (hs : Le .f32 2 s) : Pure.impl_State_damped real t k s 0 = Pure.impl_State_damped real t k' s 0 ∧ Pure.impl_State_damped_1 real t k s 0 = Pure.impl_State_damped_1 real t k' s 0 := by
  obtain ⟨_, _, _, s4⟩ := sine_is ht.fin.okF
  have a1 : Le .f32 6 (real.bin .mul .f32 s (Pure.impl_SineTurns real t)) := Le.mul hs (s4 ht.fin) (by omega) (le127 (by omega))
  unfold Pure.impl_State_damped Pure.impl_State_damped_1
  rw [drag_kick hk.1 hk'.1 a1.1]
  exact ⟨rfl, rfl⟩

theorem drag_rest {t k k' s p : Int} {n : Nat} (ht : Turn t) (hk : Le .f32 0 k) (hk' : Le .f32 0 k') (hs : Le .f32 2 s) (hn : n < 128) (hp : 1 ≤ p ∧ p ≤ 16) :
    Pure.impl_State_rest real t k s 0 ((n + 1 : Nat) : Int) p = Pure.impl_State_rest real t k' s 0 ((n + 1 : Nat) : Int) p := by
  have hq : Le .f32 0 0 := Le.const (by decide +kernel)
  have h1 := impl_rest (p := p) hs hq (n + 1) (by omega) (n + 1) 0 ((((n + 1 : Nat) : Int) - 0 + 1).toNat) t k (by omega) (by omega) ht hk
  have h2 := impl_rest (p := p) hs hq (n + 1) (by omega) (n + 1) 0 ((((n + 1 : Nat) : Int) - 0 + 1).toNat) t k' (by omega) (by omega) ht hk'
  change Pure.impl_State_rest_L0 real s 0 p ((n + 1 : Nat) : Int) _ 0 t k = _ at h1
  change Pure.impl_State_rest_L0 real s 0 p ((n + 1 : Nat) : Int) _ 0 t k' = _ at h2
  unfold Pure.impl_State_rest
  rw [h1, h2]
  obtain ⟨e1, e2⟩ := drag_damp ht hk hk' hs
  have : dst s 0 (n + 1) t k = dst s 0 (n + 1) t k' := by unfold dst; rw [e1, e2]
  rw [this]

theorem valid_all : ((List.range 7).all fun w => (List.range w).all fun x => (List.range 7).all fun h => (List.range h).all fun y => Pure.impl_ValidState real (turnX w x) (kickY h y)) = true := by decide +kernel
theorem valid_of {w x h y : Nat} (hw : w < 7) (hx : x < w) (hh : h < 7) (hy : y < h) : Pure.impl_ValidState real (turnX w x) (kickY h y) = true := by
  have h1 := valid_all
  rw [List.all_eq_true] at h1
  have h2 := h1 w (List.mem_range.2 hw)
  rw [List.all_eq_true] at h2
  have h3 := h2 x (List.mem_range.2 hx)
  rw [List.all_eq_true] at h3
  have h4 := h3 h (List.mem_range.2 hh)
  rw [List.all_eq_true] at h4
  exact h4 y (List.mem_range.2 hy)

theorem rests_loop {w h y : Nat} {s q n p : Int} {x0 x1 : List (List Int)} (hw : 1 ≤ w ∧ w < 7) (hh : h < 7) (hy : y < h) (hs : Le .f32 2 s) (hq : Le .f32 0 q) (hr : Pure.impl_restOk real s q n p = true) (hn : 0 ≤ n ∧ n ≤ 128) (hp : 1 ≤ p ∧ p ≤ 16) :
    ∀ (m i f : Nat), i + m = w → m < f → Pure.laws_FnBasins_L0 real w h s q n p (kickY h y) w x0 x1 (rowK w h s q n p y) f i = (true, false) := by
  obtain ⟨_, _, _, k4⟩ := kick_is (kick_of hy (by omega))
  intro m
  induction m with
  | zero =>
    intro i f hi hf
    obtain ⟨f, rfl⟩ : ∃ g, f = g + 1 := ⟨f - 1, by omega⟩
    unfold Pure.laws_FnBasins_L0
    rw [dec_ge' (show w ≤ i by omega)]; rfl
  | succ m ih =>
    intro i f hi hf
    obtain ⟨f, rfl⟩ : ∃ g, f = g + 1 := ⟨f - 1, by omega⟩
    have hiw : i < w := by omega
    have ht := turn_of hiw (show w ≤ 32 by omega)
    obtain ⟨_, r2, _⟩ := rest_is ht k4 hs hq hn hp
    obtain ⟨g1, g2⟩ := rest_range ht k4 hs hq hn hp
    have hv := valid_of hw.2 hiw hh hy
    have hrow := rowK_get (w := w) (h := h) (s := s) (q := q) (n := n) (p := p) (y := y) hiw
    have hl := rowK_len w h s q n p y
    have e : Pure.impl_RestOf real (turnX w i) (kickY h y) s q n p = Pure.impl_State_rest real (turnX w i) (kickY h y) s q n p := by unfold Pure.impl_RestOf; rw [hv, hr]; rfl
    have e1 : Pure.impl_RestOf_1 real (turnX w i) (kickY h y) s q n p = true := by unfold Pure.impl_RestOf_1; rw [hv, hr]; rfl
    have e2 : Pure.impl_RestOf_ok real (turnX w i) (kickY h y) s q n p = true := by unfold Pure.impl_RestOf_ok; rw [hv, hr]; exact r2
    change 0 ≤ Pure.impl_State_rest real (turnX w i) (kickY h y) s q n p at g1
    change Pure.impl_State_rest real (turnX w i) (kickY h y) s q n p < p at g2
    unfold Pure.laws_FnBasins_L0
    have et : real.bin .quo .f32 (real.ofInt .f32 (i : Int)) (real.ofInt .f32 (w : Int)) = turnX w i := rfl
    rw [dec_lt' hiw, et, e, e1, e2, dec_nn, dec_lt (show i < (rowK w h s q n p y).length by omega), Int.toNat_natCast, hrow, wrap_succ (by omega)]
    have e0 : ∀ z : Int, List.getD [z] 0 0 = z := fun _ => rfl
    have hne : ∀ a : Int, (a != a) = false := fun a => by simp
    rw [e0, hne, decide_eq_false (show ¬ Pure.impl_State_rest real (turnX w i) (kickY h y) s q n p < 0 by omega), decide_eq_false (show ¬ Pure.impl_State_rest real (turnX w i) (kickY h y) s q n p ≥ p by omega)]
    exact ih (i + 1) f (by omega) (by omega)

theorem drag_loop {w h : Nat} {s p : Int} {n : Nat} {x0 x1 : List (List Int)} (hw : 1 ≤ w ∧ w < 7) (hh : 1 ≤ h ∧ h < 7) (hs : Le .f32 2 s) (hn : n < 128) (hp : 1 ≤ p ∧ p ≤ 16) :
    ∀ (m i f : Nat), i + m = h * w → m < f → Pure.laws_FnBasins_L2 real w ((h * w : Nat) : Int) x0 x1 (basR w h s 0 ((n + 1 : Nat) : Int) p h 0) f i = (true, false) := by
  have hhw : h * w ≤ 6 * 6 := Nat.mul_le_mul (by omega) (by omega)
  intro m
  induction m with
  | zero =>
    intro i f hi hf
    obtain ⟨f, rfl⟩ : ∃ g, f = g + 1 := ⟨f - 1, by omega⟩
    unfold Pure.laws_FnBasins_L2
    rw [dec_ge' (show h * w ≤ i by omega)]; rfl
  | succ m ih =>
    intro i f hi hf
    obtain ⟨f, rfl⟩ : ∃ g, f = g + 1 := ⟨f - 1, by omega⟩
    have hiw : i < h * w := by omega
    have hl := basR_len w h s 0 ((n + 1 : Nat) : Int) p h 0
    have hx : i % w < w := Nat.mod_lt _ (by omega)
    have hd : i / w < h := Nat.div_lt_of_lt_mul (by rw [Nat.mul_comm]; exact hiw)
    have hw2 : w ≤ h * w := Nat.le_mul_of_pos_left _ (by omega)
    have a1 := basR_get (w := w) (h := h) (s := s) (q := 0) (n := ((n + 1 : Nat) : Int)) (p := p) h 0 (i / w) (i % w) hd hx
    have a2 := basR_get (w := w) (h := h) (s := s) (q := 0) (n := ((n + 1 : Nat) : Int)) (p := p) h 0 0 (i % w) (by omega) hx
    rw [show i / w * w + i % w = i by rw [Nat.mul_comm]; exact Nat.div_add_mod i w, Nat.zero_add] at a1
    rw [Nat.zero_mul, Nat.zero_add, Nat.zero_add] at a2
    obtain ⟨_, _, _, k1⟩ := kick_is (kick_of hd (show h ≤ 32 by omega))
    obtain ⟨_, _, _, k2⟩ := kick_is (kick_of (show 0 < h by omega) (show h ≤ 32 by omega))
    have hr : Pure.impl_State_rest real (turnX w (i % w)) (kickY h (i / w)) s 0 ((n + 1 : Nat) : Int) p = Pure.impl_State_rest real (turnX w (i % w)) (kickY h 0) s 0 ((n + 1 : Nat) : Int) p :=
      drag_rest (turn_of hx (show w ≤ 32 by omega)) k1 k2 hs hn hp
    rw [hr] at a1
    have hmod : Int.tmod (i : Int) (w : Int) = ((i % w : Nat) : Int) := by
      rw [Int.tmod_eq_emod_of_nonneg (by omega)]; simp
    have hw0 : ((w : Int) == 0) = false := by simp; omega
    have hne : ∀ a : Int, (a != a) = false := fun a => by simp
    unfold Pure.laws_FnBasins_L2
    rw [dec_lt' hiw, hmod, dec_nn, dec_nn, hw0, dec_lt (show i < (basR w h s 0 ((n + 1 : Nat) : Int) p h 0).length by omega), dec_lt (show i % w < (basR w h s 0 ((n + 1 : Nat) : Int) p h 0).length by omega), Int.toNat_natCast, Int.toNat_natCast, a1, a2, hne, wrap_succ (by omega)]
    exact ih (i + 1) f (by omega) (by omega)
end Go.Fx
