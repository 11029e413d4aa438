import Derived.Test.YtpgpjkkncghbhaaXr2j
import Derived.Test.YtpgpjkkncghbhaaXr2t
namespace Go.Fx
set_option maxRecDepth 100000
theorem sz_small {x0 : List (List Int)} {x1 : Int} (hl : x0.length ≤ 9223372036854775807) (h : decide (Pure.laws_szRow real x0 x1 1048576 < 0) = false) : x0.length ≤ 1048576 := by
  unfold Pure.laws_szRow Pure.laws_szBallS at h
  have hw : IntKind.wrap .i64 (1048576 - Int.ofNat x0.length) = 1048576 - Int.ofNat x0.length := wrap64 (by simp; omega) (by simp; omega)
  rw [hw] at h
  cases hd : decide ((1048576 : Int) - Int.ofNat x0.length < 0) with
  | true => rw [hd] at h; simp at h
  | false => simp at hd; omega

theorem toBalls_eq {xs : List (List Int)} (h : RowsOK B3 xs) (hl : xs.length ≤ 1048576) : Pure.laws_toBallS_ok real xs = true ∧ Pure.laws_toBallS real xs = xs := by
  have key : ∀ (n i : Nat) (ys : List (List Int)), i ≤ xs.length → xs.length - i < n → ys.length = xs.length → (∀ j, j < i → ys.getD j [] = xs.getD j []) → Pure.laws_toBallS_L0 real xs n i ys = (true, xs) := by
    intro n
    induction n with
    | zero => intro i ys _ h; omega
    | succ n ih =>
      intro i ys hi hn hy hj
      unfold Pure.laws_toBallS_L0
      rcases Nat.lt_or_ge i xs.length with h1 | h1
      · rw [dec_lt h1, dec_nn, dec_lt (show i < ys.length by omega), wrap_succ (by omega), Int.toNat_natCast]
        simp only [cond_true]
        have hr : (xs.getD i []).length = 3 := by rw [getD_some h1]; exact (h.row _ (List.getElem_mem h1)).1
        rw [row3 hr]
        refine ih (i + 1) _ (by omega) (by omega) (by simp; omega) fun j hj' => ?_
        rw [List.getD_eq_getElem?_getD, List.getElem?_set]
        by_cases hij : i = j
        · subst hij; simp [hy, h1]
        · rw [if_neg hij, ← List.getD_eq_getElem?_getD]; exact hj j (by omega)
      · rw [dec_ge h1]
        have : ys = xs := by
          apply List.ext_getElem hy
          intro j h2 h3
          have := hj j (by omega)
          rwa [getD_some h2, getD_some h3] at this
        rw [this]; rfl
  unfold Pure.laws_toBallS_ok Pure.laws_toBallS
  have e1 : ((Int.ofNat xs.length == Int.ofNat xs.length)) = true := by simp
  have e2 : decide (Int.ofNat xs.length ≤ 1073741824) = true := by simp; omega
  rw [e1, e2]
  have := key (xs.length + 1) 0 (List.replicate xs.length [0, 0, 0]) (by omega) (by omega) (by simp) (fun j hj => by omega)
  change (Pure.laws_toBallS_L0 real xs (xs.length + 1) 0 (List.replicate xs.length [0, 0, 0])).1 = true ∧ (Pure.laws_toBallS_L0 real xs (xs.length + 1) 0 (List.replicate xs.length [0, 0, 0])).2 = xs
  change Pure.laws_toBallS_L0 real xs (xs.length + 1) 0 (List.replicate xs.length [0, 0, 0]) = _ at this
  rw [this]; exact ⟨rfl, rfl⟩

theorem Num.okF {k : FloatKind} {x : Int} (h : Num k x) : OkF k x := by
  refine ⟨x.toNat, ?_, ?_⟩
  · rw [cf_of_num h.notNaN]; have := h.nonneg; omega
  · have := h.word
    cases k
    · have h2 : FloatKind.f32.format.signWeight = 2147483648 := by decide
      simp [FloatKind.has]; omega
    · have h2 : FloatKind.f64.format.signWeight = 9223372036854775808 := by decide
      simp [FloatKind.has]; omega

theorem valid_eq (xs : List (List Int)) (k : Int) (hl : xs.length < 4611686018427387904) : Pure.impl_ValidRow real xs k = (upAll xs.length (ballOk xs) 0 && (Pure.impl_in real (Int.ofNat xs.length) 2 16 && Pure.impl_shareOk real k)) := by
  have h1 := valid_loop xs k hl (xs.length + 1) 0 (by omega) (by omega)
  unfold Pure.impl_ValidRow
  change Pure.impl_ValidRow_L0 real (Int.ofNat xs.length) xs k (xs.length + 1) 0 = _ at h1
  have e0 : Nat.succ (xs.length + 0) = xs.length + 1 := rfl
  rw [e0, h1]
  cases upAll xs.length (ballOk xs) 0 <;> cases Pure.impl_in real (Int.ofNat xs.length) 2 16 <;> cases Pure.impl_shareOk real k <;> rfl

theorem RowsOK.ok1 {xs : List (List Int)} (h : RowsOK B3 xs) {j o : Nat} (hj : j < xs.length) (ho : o < 3) : OkF .f32 ((xs.getD j []).getD o 0) := by
  rw [getD_some hj]
  have := (h.row _ (List.getElem_mem hj)).2 o (.f .f32) (by match o, ho with | 0, _ => rfl | 1, _ => rfl | 2, _ => rfl)
  exact this

theorem changed_end {x0 : List (List Int)} {x1 : Int} (h0 : RowsOK B3 x0) (hl : x0.length ≤ 1048576) {l : List (List Int)} (hl2 : l.length ≤ 1048576) (hr3 : ∀ j, j < l.length → (l.getD j []).length = 3) :
    Pure.laws_markBallS_ok real x0 1 = true ∧ Pure.laws_markBallS real x0 1 = 1 + 3 * (x0.length : Int) ∧ Pure.laws_markBallS_ok real l 1 = true ∧ Pure.laws_markBallS real l 1 = 1 + 3 * (l.length : Int) ∧
    (∀ k, Pure.laws_heldRow_ok real (Pure.laws_markBallS_1 real l 1) k 1 = true) ∧ (∀ k, Pure.laws_heldRow real (Pure.laws_markBallS_1 real l 1) k 1 = 1 + 3 * (l.length : Int)) := by
  obtain ⟨k1, k2, _⟩ := mark3_eq x0 (by omega) (rows3 h0)
  obtain ⟨r1, r2, r3⟩ := mark3_eq l (by omega) hr3
  obtain ⟨u1, u2⟩ := held3_eq l.length (by omega)
  refine ⟨k1, k2, r1, r2, fun k => ?_, fun k => ?_⟩
  · unfold Pure.laws_heldRow_ok; rw [r3]; exact u1
  · unfold Pure.laws_heldRow
    rw [r3, u2]
    have : decide ((1 : Int) + 3 * (l.length : Int) < 0) = false := by simp; omega
    rw [this]; rfl

theorem upAll_true {n : Nat} {p : Nat → Bool} : upAll n p 0 = true ↔ ∀ j, j < n → p j = true := by
  unfold upAll
  rw [List.all_eq_true]
  constructor
  · intro h j hj; exact h j (by rw [List.mem_range'_1]; omega)
  · intro h j hj; rw [List.mem_range'_1] at hj; exact h j (by omega)

def rev (xs : List (List Int)) : List (List Int) := (List.range xs.length).map fun j => xs.getD (xs.length - 1 - j) []
theorem rev_len (xs : List (List Int)) : (rev xs).length = xs.length := by simp [rev]
theorem rev_get {xs : List (List Int)} {j : Nat} (h : j < xs.length) : (rev xs).getD j [] = xs.getD (xs.length - 1 - j) [] := by
  rw [getD_some (by rw [rev_len]; exact h)]; simp [rev]

theorem list_ext3 {xs ys : List (List Int)} (hl : xs.length = ys.length) (h : ∀ j, j < xs.length → xs.getD j [] = ys.getD j []) : xs = ys := by
  apply List.ext_getElem hl
  intro j h1 h2
  have := h j h1
  rwa [getD_some h1, getD_some h2] at this

theorem rev_loop (xs : List (List Int)) (h3 : ∀ j, j < xs.length → (xs.getD j []).length = 3) (hn : 1 ≤ xs.length) (hn2 : xs.length < 1000000) : ∀ (f i : Nat) (ys : List (List Int)), 1 ≤ f → xs.length ≤ 2 * i + f → 2 * i ≤ xs.length → ys.length = xs.length →
    (∀ j, j < xs.length → ys.getD j [] = if j < i ∨ xs.length - 1 - i < j then xs.getD (xs.length - 1 - j) [] else xs.getD j []) →
    Pure.slices_Reverse_impl_Ball_impl_Ball_L0 real f i ((xs.length : Int) - 1 - i) ys = (true, rev xs) := by
  intro f
  induction f with
  | zero => intro i ys h; omega
  | succ f ih =>
    intro i ys _ hf hi hy hj
    unfold Pure.slices_Reverse_impl_Ball_impl_Ball_L0
    by_cases h : 2 * i < xs.length - 1
    · have e1 : (xs.length : Int) - 1 - i = ((xs.length - 1 - i : Nat) : Int) := by omega
      have hk : xs.length - 1 - i < ys.length := by omega
      have hii : i < ys.length := by omega
      have ga : ys.getD (xs.length - 1 - i) [] = xs.getD (xs.length - 1 - i) [] := by rw [hj _ (by omega), if_neg (by omega)]
      have gb : ys.getD i [] = xs.getD i [] := by rw [hj _ (by omega), if_neg (by omega)]
      have w1 : IntKind.wrap .i64 (((xs.length - 1 - i : Nat) : Int) - 1) = (xs.length : Int) - 1 - ((i + 1 : Nat) : Int) := by rw [wrap64 (by omega) (by omega)]; omega
      rw [e1, decide_eq_true (show (i : Int) < ((xs.length - 1 - i : Nat) : Int) by omega), dec_nn, dec_nn, dec_lt hk, dec_lt hii, Int.toNat_natCast, Int.toNat_natCast, ga, gb, row3 (h3 _ (by omega)), row3 (h3 _ (by omega)), wrap_succ (by omega), w1]
      rw [dec_lt (show xs.length - 1 - i < (ys.set i (xs.getD (xs.length - 1 - i) [])).length by rw [List.length_set]; exact hk)]
      simp only [cond_true]
      refine ih (i + 1) _ (by omega) (by omega) (by omega) (by simp [hy]) fun j hjl => ?_
      rw [List.getD_eq_getElem?_getD, List.getElem?_set]
      by_cases c1 : xs.length - 1 - i = j
      · rw [if_pos c1, if_pos (by rw [List.length_set]; omega), if_pos (by omega)]
        show xs.getD i [] = xs.getD (xs.length - 1 - j) []
        congr 1; omega
      · rw [if_neg c1, List.getElem?_set]
        by_cases c2 : i = j
        · rw [if_pos c2, if_pos (by omega), if_pos (by omega)]
          show xs.getD (xs.length - 1 - i) [] = xs.getD (xs.length - 1 - j) []
          rw [c2]
        · rw [if_neg c2, ← List.getD_eq_getElem?_getD, hj j hjl]
          by_cases c3 : j < i ∨ xs.length - 1 - i < j
          · rw [if_pos c3, if_pos (by omega)]
          · rw [if_neg c3, if_neg (by omega)]
    · have e0 : decide ((i : Int) < (xs.length : Int) - 1 - i) = false := decide_eq_false (by omega)
      rw [e0]
      have : ys = rev xs := list_ext3 (by rw [rev_len]; exact hy) fun j hjl => by
        rw [hj j (by omega), rev_get (by omega)]
        by_cases c3 : j < i ∨ xs.length - 1 - i < j
        · rw [if_pos c3]
        · rw [if_neg c3]; congr 1; omega
      rw [this]
      rfl

theorem rev_is (xs : List (List Int)) (h3 : ∀ j, j < xs.length → (xs.getD j []).length = 3) (hn : 1 ≤ xs.length) (hn2 : xs.length < 1000000) :
    Pure.slices_Reverse_impl_Ball_impl_Ball_ok real xs = true ∧ Pure.slices_Reverse_impl_Ball_impl_Ball real xs = rev xs := by
  have h := rev_loop xs h3 hn hn2 (xs.length) 0 xs hn (by omega) (by omega) rfl fun j hj => by rw [if_neg (by omega)]
  have z0 : ((0 : Nat) : Int) = 0 := rfl
  rw [z0, Int.sub_zero] at h
  have w1 : IntKind.wrap .i64 (Int.ofNat xs.length - 1) = (xs.length : Int) - 1 := wrap64 (by show -9223372036854775808 ≤ (xs.length : Int) - 1; omega) (by show (xs.length : Int) - 1 < 9223372036854775808; omega)
  have w2 : ((xs.length : Int) - 1 - 0 + 1).toNat = xs.length := by omega
  unfold Pure.slices_Reverse_impl_Ball_impl_Ball_ok Pure.slices_Reverse_impl_Ball_impl_Ball
  rw [w1, w2, h]
  exact ⟨rfl, rfl⟩

def mir (r : List Int) : List Int := [real.neg .f32 (r.getD 0 0), real.neg .f32 (r.getD 1 0), r.getD 2 0]
def mirs (xs : List (List Int)) (k : Nat) : List (List Int) := (List.range k).map fun j => mir (xs.getD (xs.length - 1 - j) [])
theorem mirs_len (xs : List (List Int)) (k : Nat) : (mirs xs k).length = k := by simp [mirs]
theorem mirs_get {xs : List (List Int)} {k j : Nat} (h : j < k) : (mirs xs k).getD j [] = mir (xs.getD (xs.length - 1 - j) []) := by
  rw [getD_some (by rw [mirs_len]; exact h)]; simp [mirs]
theorem mirs_succ (xs : List (List Int)) (k : Nat) : mirs xs k ++ [mir (xs.getD (xs.length - 1 - k) [])] = mirs xs (k + 1) := by
  unfold mirs; rw [List.range_succ, List.map_append]; rfl

theorem spec_loop (xs : List (List Int)) (a b c : Int) (z : List (List Int)) (hn : xs.length < 1000000) : ∀ (d k f : Nat), k + d = xs.length → d < f →
    Pure.spec_MirrorRow_L0 real xs a b c z f ((d : Int) - 1) (mirs xs k) = (true, mirs xs xs.length) := by
  intro d
  induction d with
  | zero =>
    intro k f hk hf
    obtain ⟨f, rfl⟩ : ∃ m, f = m + 1 := ⟨f - 1, by omega⟩
    obtain rfl : k = xs.length := by omega
    unfold Pure.spec_MirrorRow_L0
    rw [decide_eq_false (show ¬ (((0 : Nat) : Int) - 1 ≥ 0) by omega)]
    rfl
  | succ d ih =>
    intro k f hk hf
    obtain ⟨f, rfl⟩ : ∃ m, f = m + 1 := ⟨f - 1, by omega⟩
    have e1 : ((d + 1 : Nat) : Int) - 1 = (d : Int) := by omega
    have w1 : IntKind.wrap .i64 ((d : Int) - 1) = (d : Int) - 1 := wrap64 (by omega) (by omega)
    have hd : xs.length - 1 - k = d := by omega
    unfold Pure.spec_MirrorRow_L0
    rw [e1, decide_eq_true (show ((d : Int) ≥ 0) by omega), dec_lt (show d < xs.length by omega), decide_eq_true (show Nat.succ (mirs xs k).length ≤ 1073741824 by rw [mirs_len]; omega), Int.toNat_natCast, w1]
    simp only [cond_true]
    have hm := mirs_succ xs k
    rw [hd] at hm
    have := ih (k + 1) f (by omega) (by omega)
    rw [← hm] at this
    exact this

theorem mirs_rev (xs : List (List Int)) : mirs xs xs.length = (rev xs).map mir := by
  unfold mirs rev
  rw [List.map_map]
  rfl

theorem neg_loop (w : List (List Int)) (k : Int) (h3 : ∀ j, j < w.length → (w.getD j []).length = 3) (hn : w.length < 1000000) : ∀ (f i : Nat) (ys : List (List Int)), i ≤ w.length → w.length - i < f → ys.length = w.length →
    (∀ j, j < w.length → ys.getD j [] = if j < i then mir (w.getD j []) else w.getD j []) →
    Pure.impl_MirrorRow_c1_L0 real (Int.ofNat w.length) k f i ys = (true, w.map mir) := by
  intro f
  induction f with
  | zero => intro i ys _ h; omega
  | succ f ih =>
    intro i ys hi hf hy hj
    unfold Pure.impl_MirrorRow_c1_L0
    rcases Nat.lt_or_ge i w.length with h | h
    · have g : ys.getD i [] = w.getD i [] := by rw [hj i h, if_neg (by omega)]
      have e1 : ∀ r : List Int, (ys.set i r).getD i [] = r := fun r => getD_set_self (by omega)
      have h4 := h3 i h
      have e2 : setFrom (setFrom (w.getD i []) 0 [real.neg .f32 ((w.getD i []).getD 0 0)]) 1 [real.neg .f32 ((w.getD i []).getD 1 0)] = mir (w.getD i []) := by
        revert h4
        generalize w.getD i [] = r
        intro h4
        match r, h4 with
        | [a, b, c], _ => rfl
      rw [dec_lt h, dec_nn, dec_lt (show i < ys.length by omega), Int.toNat_natCast, e1, List.set_set, g, e2, wrap_succ (by omega)]
      simp only [cond_true]
      refine ih (i + 1) _ (by omega) (by omega) (by simp [hy]) fun j hjl => ?_
      rw [List.getD_eq_getElem?_getD, List.getElem?_set]
      by_cases c : i = j
      · subst c
        rw [if_pos rfl, if_pos (by omega), if_pos (by omega)]
        rfl
      · rw [if_neg c, ← List.getD_eq_getElem?_getD, hj j hjl]
        by_cases c2 : j < i
        · rw [if_pos c2, if_pos (by omega)]
        · rw [if_neg c2, if_neg (by omega)]
    · rw [dec_ge h]
      have : ys = w.map mir := list_ext3 (by simp [hy]) fun j hjl => by
        rw [hj j (by omega), if_pos (by omega), getD_some (show j < (w.map mir).length by simp; omega), getD_some (show j < w.length by omega)]
        simp
      rw [this]
      rfl

theorem mirror_is (xs : List (List Int)) (k : Int) (h3 : ∀ j, j < xs.length → (xs.getD j []).length = 3) (hn : 1 ≤ xs.length) (hn2 : xs.length < 1000000) :
    Pure.impl_MirrorRow_c1_ok real xs k = true ∧ Pure.impl_MirrorRow_c1 real xs k = mirs xs xs.length := by
  obtain ⟨r1, r2⟩ := rev_is xs h3 hn hn2
  have h := neg_loop (rev xs) k (fun j hj => by rw [rev_len] at hj; rw [rev_get hj]; exact h3 _ (by omega)) (by rw [rev_len]; exact hn2) (xs.length + 1) 0 (rev xs) (by omega) (by rw [rev_len]; omega) rfl fun j hj => by rw [if_neg (by omega)]
  have z0 : ((0 : Nat) : Int) = 0 := rfl
  have e1 : Nat.succ ((rev xs).length + 0) = xs.length + 1 := by rw [rev_len]
  rw [z0] at h
  unfold Pure.impl_MirrorRow_c1_ok Pure.impl_MirrorRow_c1
  rw [r1, r2, e1, h, mirs_rev]
  exact ⟨rfl, rfl⟩

theorem spec_is (xs : List (List Int)) (k : Int) (hn : 1 ≤ xs.length) (hn2 : xs.length < 1000000) : Pure.spec_MirrorRow_L0 real xs k 0 k [] (((IntKind.wrap .i64 (Int.ofNat xs.length - 1)) - 0) + 2).toNat (IntKind.wrap .i64 (Int.ofNat xs.length - 1)) [] = (true, mirs xs xs.length) := by
  have w1 : IntKind.wrap .i64 (Int.ofNat xs.length - 1) = (xs.length : Int) - 1 := wrap64 (by show -9223372036854775808 ≤ (xs.length : Int) - 1; omega) (by show (xs.length : Int) - 1 < 9223372036854775808; omega)
  have w2 : ((xs.length : Int) - 1 - 0 + 2).toNat = xs.length + 1 := by omega
  rw [w1, w2]
  exact spec_loop xs k 0 k [] hn2 xs.length 0 (xs.length + 1) (by omega) (by omega)

theorem lss_neg {x y : Int} (hx : Fin .f32 x) (hy : Fin .f32 y) : real.cmp .lss .f32 (real.neg .f32 x) (real.neg .f32 y) = real.cmp .lss .f32 y x := by
  obtain ⟨nx, vx⟩ := neg_fin hx
  obtain ⟨ny, vy⟩ := neg_fin hy
  rw [cmp_lss nx.toNum ny.toNum, cmp_lss hy.toNum hx.toNum, vx, vy]
  congr 1
  exact propext ⟨fun h => by omega, fun h => by omega⟩

theorem valid_mirs (xs : List (List Int)) (k : Int) (h0 : RowsOK B3 xs) (hl : xs.length < 1000000) (hv : Pure.impl_ValidRow real xs k = true) : Pure.impl_ValidRow real (mirs xs xs.length) k = true := by
  rw [valid_eq xs k (by omega), Bool.and_eq_true] at hv
  rw [valid_eq _ k (by rw [mirs_len]; omega), Bool.and_eq_true, mirs_len]
  refine ⟨upAll_true.2 fun j hj => ?_, hv.2⟩
  have hall := upAll_true.1 hv.1
  have fin : ∀ i, i < xs.length → Fin .f32 ((xs.getD i []).getD 0 0) ∧ Fin .f32 ((xs.getD i []).getD 1 0) ∧ Pure.spec_l02Above real ((xs.getD i []).getD 2 0) = true := fun i hi => by
    have h := hall i hi
    unfold ballOk Pure.spec_l06Ball_e at h
    rw [Bool.and_eq_true] at h
    have h1 := h.1
    revert h1
    cases ha : Pure.spec_l01Finite real ((xs.getD i []).getD 0 0) with
    | false => intro h1; cases h1
    | true =>
      cases hb : Pure.spec_l01Finite real ((xs.getD i []).getD 1 0) with
      | false => intro h1; cases h1
      | true => exact fun h1 => ⟨(isfin_iff (h0.ok1 hi (by omega))).1 ha, (isfin_iff (h0.ok1 hi (by omega))).1 hb, h1⟩
  have hj' : xs.length - 1 - j < xs.length := by omega
  obtain ⟨f1, f2, f3⟩ := fin (xs.length - 1 - j) hj'
  have m0 : ∀ r : List Int, (mir r).getD 0 0 = real.neg .f32 (r.getD 0 0) := fun _ => rfl
  have m1 : ∀ r : List Int, (mir r).getD 1 0 = real.neg .f32 (r.getD 1 0) := fun _ => rfl
  have m2 : ∀ r : List Int, (mir r).getD 2 0 = r.getD 2 0 := fun _ => rfl
  have isf : ∀ x, Fin .f32 x → Pure.spec_l01Finite real (real.neg .f32 x) = true := fun x hx => (isfin_iff (neg_fin hx).1.toNum.okF).2 (neg_fin hx).1
  unfold ballOk Pure.spec_l06Ball_e
  rw [mirs_get hj, m0, m1, m2, isf _ f1, isf _ f2, f3]
  rcases Nat.eq_zero_or_pos j with hz | hz
  · subst hz; rfl
  · obtain ⟨g1, _, _⟩ := fin (xs.length - 1 - (j - 1)) (by omega)
    rw [mirs_get (show j - 1 < xs.length by omega), m0, lss_neg f1 g1]
    have h := hall (xs.length - 1 - (j - 1)) (by omega)
    unfold ballOk at h
    rw [Bool.and_eq_true, decide_eq_true (show 0 < xs.length - 1 - (j - 1) by omega)] at h
    have e : xs.length - 1 - (j - 1) - 1 = xs.length - 1 - j := by omega
    rw [e] at h
    rw [decide_eq_true hz]
    exact h.2

theorem law_FnExactMirrorRow (x0 : List (List Int)) (x1 : Int) (h0 : RowsOK B3 x0) (_ : OkF .f32 x1) : Pure.laws_FnExactMirrorRow_ok real x0 x1 = true ∧ Pure.laws_FnExactMirrorRow real x0 x1 = true := by
  unfold Pure.laws_FnExactMirrorRow_ok Pure.laws_FnExactMirrorRow
  cases hs : decide (Pure.laws_szRow real x0 x1 1048576 < 0) with
  | true => exact ⟨rfl, rfl⟩
  | false =>
    have hl := sz_small h0.len hs
    obtain ⟨t1, t2⟩ := toBalls_eq h0 hl
    obtain ⟨v1, v2, v3, v4⟩ := valid_is x0 x1 (by omega)
    obtain ⟨e1, e2⟩ := eqRow_refl x0 x1 (by omega)
    have d0 : decide (x0.length ≤ 1073741824) = true := by simp; omega
    have hi : ∃ l q, l.length ≤ 1048576 ∧ (∀ j, j < l.length → (l.getD j []).length = 3) ∧ Pure.impl_changedRow_mirror_2 real x0 x1 = l ∧ Pure.impl_changedRow_mirror real x0 x1 = q ∧ Pure.impl_changedRow_mirror_1 real x0 x1 = Pure.spec_l06Is real x0 x1 ∧
        Pure.spec_MirrorRow real x0 x1 = q ∧ Pure.spec_MirrorRow_1 real x0 x1 = l ∧ Pure.impl_MirrorRow_ok real x0 x1 = true ∧ Pure.spec_MirrorRow_ok real x0 x1 = true := by
      unfold Pure.impl_changedRow_mirror_2 Pure.impl_changedRow_mirror Pure.impl_changedRow_mirror_1 Pure.impl_MirrorRow_ok Pure.impl_changedRow_mirror_ok Pure.spec_MirrorRow Pure.spec_MirrorRow_1 Pure.spec_MirrorRow_ok
      rw [v1, v2, v3, d0]
      cases hb : Pure.impl_ValidRow real x0 x1 with
      | false => exact ⟨[], 0, by simp, by simp, rfl, rfl, rfl, rfl, rfl, rfl, rfl⟩
      | true =>
        have hlen := v4 hb
        obtain ⟨c1, c2⟩ := mirror_is x0 x1 (rows3 h0) (by omega) (by omega)
        have hv := valid_mirs x0 x1 h0 (by omega) hb
        obtain ⟨w1, _⟩ := valid_is (mirs x0 x0.length) x1 (by rw [mirs_len]; omega)
        have hsp := spec_is x0 x1 (by omega) (by omega)
        rw [c1, c2, hv, w1]
        refine ⟨mirs x0 x0.length, x1, by rw [mirs_len]; omega, fun j hj => ?_, rfl, rfl, rfl, rfl, ?_, ?_, ?_⟩
        · rw [mirs_len] at hj
          rw [mirs_get hj]; rfl
        · rw [hsp]; rfl
        · first | rfl | trivial
        · rw [hsp]; rfl
    obtain ⟨l, q, hll, hl3, i1, i2, i3, i4, i5, i6, i7⟩ := hi
    obtain ⟨q1, q2⟩ := eqRow_refl l q (by omega)
    obtain ⟨c1, c2, c3, c4, c5, c6⟩ := changed_end (x1 := x1) h0 hl hll hl3
    unfold Pure.laws_toRow_ok Pure.laws_markRow_ok
    rw [t1, t2, i1, i2, i3, i4, i5, i6, i7, q1, q2, e1, e2, c1, c2, c3, c4, c5, c6]
    have d1 : decide ((1 : Int) + 3 * (x0.length : Int) < 0) = false := by simp; omega
    have d2 : decide ((1 : Int) + 3 * (l.length : Int) < 0) = false := by simp; omega
    rw [d1, d2]
    simp
end Go.Fx
