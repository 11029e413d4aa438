import Derived.Test.YtmcfcijddhgphaaXr4u
import Derived.Test.YtmcfcijddhgphaaXr4i
import Derived.Test.YtmcfcijddhgphaaXRoot2
namespace Go.Fx
theorem impl_orbit {s : Int} (hs : Le .f32 2 s) (N : Nat) (hN : N < 1000000) : ∀ (n i fuel : Nat) (t k : Int) (acc : List (List Int)), i + n = N → n < fuel → n + acc.length < 1000000 → Turn t → Le .f32 0 k → Pure.impl_State_orbit_L0 real s N fuel i t k acc = (true, acc ++ orb s n t k) := by
  intro n
  induction n with
  | zero =>
    intro i fuel t k acc hi hf _ _ _
    match fuel, hf with
    | fuel + 1, _ =>
      unfold Pure.impl_State_orbit_L0
      have e1 : decide ((i : Int) < (N : Int)) = false := by simp; omega
      rw [e1]; simp [orb]
  | succ n ih =>
    intro i fuel t k acc hi hf hn ht hk
    match fuel, hf with
    | fuel + 1, hf =>
      obtain ⟨_, d2, _, _, d5, d6⟩ := map_is ht hk hs
      unfold Pure.impl_State_orbit_L0
      have e1 : decide ((i : Int) < (N : Int)) = true := by simp; omega
      have e2 : decide (acc.length.succ ≤ 1073741824) = true := by simp; omega
      rw [e1, d2, e2, wrap_succ (by omega)]
      simp only [cond_true]
      rw [ih (i + 1) fuel _ _ _ (by omega) (by omega) (by simp; omega) d5 d6]
      simp [orb]


theorem impl_orbit_is {t k s : Int} {n : Nat} (ht : Turn t) (hk : Le .f32 0 k) (hs : Le .f32 2 s) (hn : n ≤ 128) :
    Pure.impl_State_orbit_ok real t k s n = true ∧ Pure.impl_State_orbit real t k s n = orbit t k s n := by
  have h2 : Pure.impl_State_orbit_L0 real s (n : Int) (((n : Int) - 0 + 1).toNat) 0 t k [[t, k]] = _ := impl_orbit hs n (by omega) n 0 (((n : Int) - 0 + 1).toNat) t k [[t, k]] (by omega) (by omega) (by simp; omega) ht hk
  unfold Pure.impl_State_orbit_ok Pure.impl_State_orbit
  rw [h2]
  exact ⟨rfl, rfl⟩

theorem orb_good {s : Int} (hs : Le .f32 2 s) : ∀ (n : Nat) (t k : Int), Turn t → Le .f32 0 k → ∀ r ∈ orb s n t k, Turn (r.getD 0 0) ∧ Le .f32 0 (r.getD 1 0) := by
  intro n
  induction n with
  | zero => intro t k _ _ r hr; cases hr
  | succ n ih =>
    intro t k ht hk r hr
    obtain ⟨_, _, _, _, d5, d6⟩ := map_is ht hk hs
    unfold orb at hr
    rcases List.mem_cons.1 hr with rfl | hr
    · exact ⟨d5, d6⟩
    · exact ih _ _ d5 d6 r hr

theorem orbit_good {t k s : Int} {n : Nat} (ht : Turn t) (hk : Le .f32 0 k) (hs : Le .f32 2 s) : ∀ r ∈ orbit t k s n, Turn (r.getD 0 0) ∧ Le .f32 0 (r.getD 1 0) := by
  intro r hr
  unfold orbit at hr
  rcases List.mem_cons.1 hr with rfl | hr
  · exact ⟨ht, hk⟩
  · exact orb_good hs n t k ht hk r hr

theorem apart_is {a b : Int} (ha : Fin .f32 a) (hb : Fin .f32 b) : Pure.spec_l05Apart_ok real a b = true ∧ Pure.impl_apart_ok real a b = true ∧ Pure.spec_l05Apart real a b = Pure.impl_apart real a b := by
  obtain ⟨w1, w2, w3, _⟩ := wrap_is ha
  obtain ⟨v1, v2, v3, _⟩ := wrap_is hb
  unfold Pure.spec_l05Apart_ok Pure.impl_apart_ok Pure.spec_l05Apart Pure.impl_apart
  rw [w1, w2, w3, v1, v2, v3]
  exact ⟨rfl, rfl, rfl⟩

theorem far_is {a b c d : Int} (ha : Fin .f32 a) (hb : Fin .f32 b) (hc : Fin .f32 c) (hd : Fin .f32 d) : Pure.spec_l07Far_ok real a b c d = true ∧ Pure.impl_State_far_ok real a b c d = true ∧ Pure.spec_l07Far real a b c d = Pure.impl_State_far real a b c d := by
  obtain ⟨w1, w2, w3⟩ := apart_is ha hc
  obtain ⟨v1, v2, v3⟩ := apart_is hb hd
  have h := root_ok (bin_ok .add .f32 (real.bin .mul .f32 (Pure.impl_apart real a c) (Pure.impl_apart real a c)) (real.bin .mul .f32 (Pure.impl_apart real b d) (Pure.impl_apart real b d)))
  unfold Pure.spec_l07Far_ok Pure.impl_State_far_ok Pure.spec_l07Far Pure.impl_State_far Pure.spec_l01Sqrt_ok Pure.impl_RootNumber_ok Pure.spec_l01Narrow_ok Pure.spec_l01Sqrt Pure.impl_RootNumber Pure.spec_l01Narrow
  rw [w1, w2, w3, v1, v2, v3, convOk_up, h]
  exact ⟨rfl, rfl, rfl⟩

end Go.Fx
