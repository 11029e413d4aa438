import Derived.Test.YtmcfcijddhgphaaXr4u
import Derived.Test.YtmcfcijddhgphaaXr4i
import Derived.Test.YtmcfcijddhgphaaXRoot2
namespace Go.Fx
theorem impl_orbit {s : Int} (hs : Le .f32 2 s) (N : Nat) (hN : N < 1000000) : ∀ (n i fuel : Nat) (t k : Int) (acc : List (List Int)), i + n = N → n < fuel → n + acc.length < 1000000 → Turn t → Le .f32 0 k → Pure.impl_State_orbit_L0 real s N fuel i t k acc = (true, acc ++ orb s n t k) := by
  intro n
  induction n with
  | zero =>
    intro i fuel t k acc hi hf _ _ _
    match fuel, hf with
    | fuel + 1, _ =>
      unfold Pure.impl_State_orbit_L0
      have e1 : decide ((i : Int) < (N : Int)) = false := by simp; omega
      rw [e1]; simp [orb]
  | succ n ih =>
    intro i fuel t k acc hi hf hn ht hk
    match fuel, hf with
    | fuel + 1, hf =>
      obtain ⟨_, d2, _, _, d5, d6⟩ := map_is ht hk hs
      unfold Pure.impl_State_orbit_L0
      have e1 : decide ((i : Int) < (N : Int)) = true := by simp; omega
      have e2 : decide (acc.length.succ ≤ 1073741824) = true := by simp; omega
      rw [e1, d2, e2, wrap_succ (by omega)]
      simp only [cond_true]
      rw [ih (i + 1) fuel _ _ _ (by omega) (by omega) (by simp; omega) d5 d6]
      simp [orb]


theorem impl_orbit_is {t k s : Int} {n : Nat} (ht : Turn t) (hk : Le .f32 0 k) (hs : Le .f32 2 s) (hn : n ≤ 128) :
    Pure.impl_State_orbit_ok real t k s n = true ∧ Pure.impl_State_orbit real t k s n = orbit t k s n := by
  have h2 : Pure.impl_State_orbit_L0 real s (n : Int) (((n : Int) - 0 + 1).toNat) 0 t k [[t, k]] = _ := impl_orbit hs n (by omega) n 0 (((n : Int) - 0 + 1).toNat) t k [[t, k]] (by omega) (by omega) (by simp; omega) ht hk
  unfold Pure.impl_State_orbit_ok Pure.impl_State_orbit
  rw [h2]
  exact ⟨rfl, rfl⟩

theorem orb_good {s : Int} (hs : Le .f32 2 s) : ∀ (n : Nat) (t k : Int), Turn t → Le .f32 0 k → ∀ r ∈ orb s n t k, Turn (r.getD 0 0) ∧ Le .f32 0 (r.getD 1 0) := by
  intro n
  induction n with
  | zero => intro t k _ _ r hr; cases hr
  | succ n ih =>
    intro t k ht hk r hr
    obtain ⟨_, _, _, _, d5, d6⟩ := map_is ht hk hs
    unfold orb at hr
    rcases List.mem_cons.1 hr with rfl | hr
    · exact ⟨d5, d6⟩
    · exact ih _ _ d5 d6 r hr

theorem orbit_good {t k s : Int} {n : Nat} (ht : Turn t) (hk : Le .f32 0 k) (hs : Le .f32 2 s) : ∀ r ∈ orbit t k s n, Turn (r.getD 0 0) ∧ Le .f32 0 (r.getD 1 0) := by
  intro r hr
  unfold orbit at hr
  rcases List.mem_cons.1 hr with rfl | hr
  · exact ⟨ht, hk⟩
  · exact orb_good hs n t k ht hk r hr

theorem apart_is {a b : Int} (ha : Fin .f32 a) (hb : Fin .f32 b) : Pure.spec_l05Apart_ok real a b = true ∧ Pure.impl_apart_ok real a b = true ∧ Pure.spec_l05Apart real a b = Pure.impl_apart real a b := by
  obtain ⟨w1, w2, w3, _⟩ := wrap_is ha
  obtain ⟨v1, v2, v3, _⟩ := wrap_is hb
  unfold Pure.spec_l05Apart_ok Pure.impl_apart_ok Pure.spec_l05Apart Pure.impl_apart
  rw [w1, w2, w3, v1, v2, v3]
  exact ⟨rfl, rfl, rfl⟩

theorem far_is {a b c d : Int} (ha : Fin .f32 a) (hb : Fin .f32 b) (hc : Fin .f32 c) (hd : Fin .f32 d) : Pure.spec_l07Far_ok real a b c d = true ∧ Pure.impl_State_far_ok real a b c d = true ∧ Pure.spec_l07Far real a b c d = Pure.impl_State_far real a b c d := by
  obtain ⟨w1, w2, w3⟩ := apart_is ha hc
  obtain ⟨v1, v2, v3⟩ := apart_is hb hd
  have h := root_ok (bin_ok .add .f32 (real.bin .mul .f32 (Pure.impl_apart real a c) (Pure.impl_apart real a c)) (real.bin .mul .f32 (Pure.impl_apart real b d) (Pure.impl_apart real b d)))
  unfold Pure.spec_l07Far_ok Pure.impl_State_far_ok Pure.spec_l07Far Pure.impl_State_far Pure.spec_l01Sqrt_ok Pure.impl_RootNumber_ok Pure.spec_l01Narrow_ok Pure.spec_l01Sqrt Pure.impl_RootNumber Pure.spec_l01Narrow
  rw [w1, w2, w3, v1, v2, v3, convOk_up, h]
  exact ⟨rfl, rfl, rfl⟩

theorem return_loop {near a b : Int} (ha : Fin .f32 a) (hb : Fin .f32 b) (l : List (List Int)) (hl : l.length < 1000000) (hr : ∀ r ∈ l, Turn (r.getD 0 0) ∧ Le .f32 0 (r.getD 1 0)) : ∀ (m i f1 f2 : Nat), i + m = l.length → 1 ≤ i → m < f1 → m < f2 →
    Pure.spec_ReturnOf_L0 real near a b l f1 i = Pure.impl_ReturnOf_L0 real near l.length a b l f2 i ∧ (Pure.impl_ReturnOf_L0 real near l.length a b l f2 i).1 = true := by
  intro m
  induction m with
  | zero =>
    intro i f1 f2 hi h0 h1 h2
    obtain ⟨f1, rfl⟩ : ∃ g, f1 = g + 1 := ⟨f1 - 1, by omega⟩
    obtain ⟨f2, rfl⟩ : ∃ g, f2 = g + 1 := ⟨f2 - 1, by omega⟩
    unfold Pure.spec_ReturnOf_L0 Pure.impl_ReturnOf_L0
    rw [dec_ge (show l.length ≤ i by omega), dec_ge' (show l.length ≤ i by omega)]
    exact ⟨rfl, rfl⟩
  | succ m ih =>
    intro i f1 f2 hi h0 h1 h2
    obtain ⟨f1, rfl⟩ : ∃ g, f1 = g + 1 := ⟨f1 - 1, by omega⟩
    obtain ⟨f2, rfl⟩ : ∃ g, f2 = g + 1 := ⟨f2 - 1, by omega⟩
    have h : i < l.length := by omega
    obtain ⟨g1, g2⟩ := hr _ (List.getElem_mem h)
    obtain ⟨q1, q2, q3⟩ := far_is ha hb g1.fin g2.1
    have e0 : decide ((i : Int) > 0) = true := by simp; omega
    unfold Pure.spec_ReturnOf_L0 Pure.impl_ReturnOf_L0
    rw [dec_lt h, dec_lt' h, dec_nn, Int.toNat_natCast, wrap_succ (by omega), getD_some h, q1, q2, q3, e0]
    simp only [cond_true]
    cases real.cmp .leq .f32 (Pure.impl_State_far real a b (l[i].getD 0 0) (l[i].getD 1 0)) near with
    | true => exact ⟨rfl, rfl⟩
    | false => exact ih (i + 1) f1 f2 (by omega) (by omega) (by omega) (by omega)

theorem return_is (x0 x1 x2 x3 x4 : Int) (h0 : OkF .f32 x0) (h1 : OkF .f32 x1) (h2 : OkF .f32 x2) : Pure.spec_ReturnOf_ok real x0 x1 x2 x3 x4 = true ∧ Pure.impl_ReturnOf_ok real x0 x1 x2 x3 x4 = true ∧
    Pure.spec_ReturnOf real x0 x1 x2 x3 x4 = Pure.impl_ReturnOf real x0 x1 x2 x3 x4 ∧ Pure.spec_ReturnOf_1 real x0 x1 x2 x3 x4 = Pure.impl_ReturnOf_1 real x0 x1 x2 x3 x4 ∧ Pure.spec_ReturnOf_2 real x0 x1 x2 x3 x4 = Pure.impl_ReturnOf_2 real x0 x1 x2 x3 x4 := by
  have es : Pure.spec_l07Size real x2 = Pure.impl_sizeOk real x2 := rfl
  have ei : ∀ a b c, Pure.spec_l00In real a b c = Pure.impl_in real a b c := fun a b c => rfl
  unfold Pure.spec_ReturnOf_ok Pure.impl_ReturnOf_ok Pure.spec_ReturnOf Pure.impl_ReturnOf Pure.spec_ReturnOf_1 Pure.impl_ReturnOf_1 Pure.spec_ReturnOf_2 Pure.impl_ReturnOf_2 Pure.impl_stateOk
  rw [valid_is, es, ei]
  cases hv : Pure.impl_ValidState real x0 x1 with
  | false => exact ⟨rfl, rfl, rfl, rfl, rfl⟩
  | true =>
    cases hz : Pure.impl_sizeOk real x2 with
    | false => exact ⟨rfl, rfl, rfl, rfl, rfl⟩
    | true =>
      cases hc : Pure.impl_in real x4 1 128 with
      | false => exact ⟨rfl, rfl, rfl, rfl, rfl⟩
      | true =>
        obtain ⟨v1, v2⟩ := valid_ok h0 h1 hv
        have hc := in_iff.1 hc
        obtain ⟨n, rfl⟩ : ∃ n : Nat, x4 = n := ⟨x4.toNat, by omega⟩
        obtain ⟨m1, m2⟩ := spec_orbit_is v1 v2 (sizeOk_le h2 hz) (n := n) (by omega)
        obtain ⟨m3, m4⟩ := impl_orbit_is v1 v2 (sizeOk_le h2 hz) (n := n) (by omega)
        rw [m1, m2, m3, m4]
        have hlen := orbit_len x0 x1 x2 n
        have hg := orbit_good v1 v2 (sizeOk_le h2 hz) (n := n)
        obtain ⟨k1, k2⟩ := return_loop (near := x3) v1.fin v2.1 (orbit x0 x1 x2 n) (by omega) hg n 1 (Int.toNat (((orbit x0 x1 x2 n).length : Int) - 1 + 1)) (orbit x0 x1 x2 n).length (by omega) (by omega) (by omega) (by omega)
        have first : Pure.impl_ReturnOf_L0 real x3 (orbit x0 x1 x2 n).length x0 x1 (orbit x0 x1 x2 n) (Nat.succ ((orbit x0 x1 x2 n).length + 0)) 0 = Pure.impl_ReturnOf_L0 real x3 (orbit x0 x1 x2 n).length x0 x1 (orbit x0 x1 x2 n) (orbit x0 x1 x2 n).length ((1 : Nat) : Int) := by
          have h : 0 < (orbit x0 x1 x2 n).length := by omega
          obtain ⟨g1, g2⟩ := hg _ (List.getElem_mem h)
          obtain ⟨_, q2, _⟩ := far_is v1.fin v2.1 g1.fin g2.1
          have w := wrap_succ (i := 0) (by omega)
          have d1 := dec_lt' h
          have d2 := dec_lt h
          have d3 := dec_nn 0
          have e0 : ((0 : Nat) : Int) = 0 := rfl
          rw [e0] at w d1 d2 d3
          conv => lhs; unfold Pure.impl_ReturnOf_L0
          have et : Int.toNat 0 = 0 := rfl
          rw [d1, d2, d3, w, et, getD_some h, q2]
          have e1 : decide ((0 : Int) > 0) = false := rfl
          rw [e1]
          rfl
        have first' : Pure.impl_ReturnOf_L0 real x3 (Int.ofNat (orbit x0 x1 x2 n).length) x0 x1 (orbit x0 x1 x2 n) (Nat.succ ((orbit x0 x1 x2 n).length + 0)) 0 = _ := first
        have k1' : Pure.spec_ReturnOf_L0 real x3 x0 x1 (orbit x0 x1 x2 n) (Int.toNat (((Int.ofNat (orbit x0 x1 x2 n).length) - 1) + 1)) 1 = _ := k1
        rw [first', k1', k2]
        exact ⟨rfl, rfl, rfl, rfl, rfl⟩

theorem law_FnExactReturnOf (x0 x1 x2 x3 x4 : Int) (h0 : OkF .f32 x0) (h1 : OkF .f32 x1) (h2 : OkF .f32 x2) (_ : OkF .f32 x3) (_ : IntKind.i64.has x4) : Pure.laws_FnExactReturnOf_ok real x0 x1 x2 x3 x4 = true ∧ Pure.laws_FnExactReturnOf real x0 x1 x2 x3 x4 = true := by
  obtain ⟨i1, i2, i3, i4, i5⟩ := return_is x0 x1 x2 x3 x4 h0 h1 h2
  unfold Pure.laws_FnExactReturnOf_ok Pure.laws_FnExactReturnOf
  rw [i1, i2, i3, i4, i5, convOk_up, sameFloat_refl]
  simp
end Go.Fx
