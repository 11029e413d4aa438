import Derived.Test.YtmcfcijddhgphaaXWrap
/- Rounding: to the nearest. -/
namespace Go.Fx
open Ieee

theorem cut_near {neg : Bool} {n drop j : Nat} (h : 2 * n < (2 * j + 1) * 2 ^ drop) : Toward.even.cut neg n drop ≤ j := by
  rw [cut_eq]
  have hg : 0 < 2 ^ drop := Nat.two_pow_pos drop
  generalize 2 ^ drop = g at h hg
  have hd := Nat.div_add_mod n g
  have hm := Nat.mod_lt n hg
  generalize n / g = q at *
  generalize n % g = m at *
  have hb : (decide (g < 2 * m) || (g == 2 * m && q % 2 == 1)).toNat ≤ 1 := Bool.toNat_le _
  rcases Nat.lt_or_ge q j with hq | hq
  · omega
  · rcases Nat.eq_or_lt_of_le hq with rfl | hq
    · rw [Nat.add_mul, Nat.mul_assoc, Nat.mul_comm j g] at h
      have b1 : (decide (g < 2 * m) || (g == 2 * m && j % 2 == 1)) = false := by
        rw [decide_eq_false (by omega)]
        have : (g == 2 * m) = false := by simp; omega
        rw [this]; rfl
      rw [b1]; simp
    · exfalso
      have : g * (j + 1) ≤ g * q := Nat.mul_le_mul_left _ hq
      rw [Nat.add_mul, Nat.mul_assoc, Nat.mul_comm j g] at h
      rw [Nat.mul_succ] at this
      omega

theorem near_cut {neg : Bool} {n drop j : Nat} (h : (2 * j + 1) * 2 ^ drop < 2 * n) : j + 1 ≤ Toward.even.cut neg n drop := by
  rw [cut_eq]
  have hg : 0 < 2 ^ drop := Nat.two_pow_pos drop
  generalize 2 ^ drop = g at h hg
  have hd := Nat.div_add_mod n g
  have hm := Nat.mod_lt n hg
  generalize n / g = q at *
  generalize n % g = m at *
  rw [Nat.add_mul, Nat.mul_assoc, Nat.mul_comm j g] at h
  rcases Nat.lt_or_ge j q with hq | hq
  · omega
  · rcases Nat.eq_or_lt_of_le hq with rfl | hq
    · rw [decide_eq_true (show g < 2 * m by omega)]; simp
    · exfalso
      have : g * (q + 1) ≤ g * j := Nat.mul_le_mul_left _ hq
      rw [Nat.mul_succ] at this
      omega

theorem kept_near (f : Format) {mag : Nat} (place : Int) (hm : mag ≠ 0) : ∃ d k, rung0 f mag place = d * f.binade + k ∧
    (∀ j, downTo f mag place (j * 2 ^ d) → j ≤ k) ∧
    (∀ j, 2 * (mag * 2 ^ (place - f.leastPlace).toNat) < (2 * j + 1) * 2 ^ d * 2 ^ (f.leastPlace - place).toNat → k ≤ j) ∧
    (∀ j, (2 * j + 1) * 2 ^ d * 2 ^ (f.leastPlace - place).toNat < 2 * (mag * 2 ^ (place - f.leastPlace).toNat) → j + 1 ≤ k) ∧
    (d = 0 ∨ downTo f mag place (f.binade * 2 ^ d)) ∧ k ≤ 2 * f.binade := by
  have hl1 : 2 ^ mag.log2 ≤ mag := Nat.log2_self_le hm
  have hl2 : mag < 2 ^ (mag.log2 + 1) := Nat.lt_log2_self
  have hbd : f.binade = 2 ^ f.fractionBits := rfl
  unfold downTo
  generalize hL : mag.log2 = L at hl1 hl2
  generalize hl : f.leastPlace = lp
  obtain ⟨last, hlast⟩ : ∃ last, last = max (place + L - f.fractionBits) lp := ⟨_, rfl⟩
  obtain ⟨n, hn⟩ : ∃ n, n = mag <<< (place - last).toNat := ⟨_, rfl⟩
  obtain ⟨u, hu1, hu2⟩ : ∃ u, mag * 2 ^ (place - lp).toNat = n * 2 ^ u ∧ ∀ c, c * 2 ^ (last - lp).toNat * 2 ^ (lp - place).toNat = (c * 2 ^ (last - place).toNat) * 2 ^ u := by
    rw [hn, Nat.shiftLeft_eq]
    rcases Int.le_total place last with h | h
    · refine ⟨(place - lp).toNat, ?_, fun c => ?_⟩
      · rw [show (place - last).toNat = 0 by omega, Nat.pow_zero, Nat.mul_one]
      · rw [Nat.mul_assoc, Nat.mul_assoc, two_mul_two, two_mul_two]; congr 2; omega
    · refine ⟨(last - lp).toNat, ?_, fun c => ?_⟩
      · rw [Nat.mul_assoc, two_mul_two]; congr 2; omega
      · rw [show (last - place).toNat = 0 by omega, Nat.pow_zero, Nat.mul_one, show (lp - place).toNat = 0 by omega, Nat.pow_zero, Nat.mul_one]
  have hu0 : 0 < 2 ^ u := Nat.two_pow_pos u
  refine ⟨(last - lp).toNat, Toward.even.cut false n (last - place).toNat, ?_, fun j hj => ?_, fun j hj => ?_, fun j hj => ?_, ?_, ?_⟩
  · unfold rung0; simp only [hL, hl, ← hlast, hn]
  · rw [hu1, hu2] at hj
    exact le_cut (Nat.le_of_mul_le_mul_right hj hu0)
  · rw [hu1, hu2, ← Nat.mul_assoc] at hj
    exact cut_near (Nat.lt_of_mul_lt_mul_right hj)
  · rw [hu1, hu2, ← Nat.mul_assoc] at hj
    exact near_cut (Nat.lt_of_mul_lt_mul_right hj)
  · rcases Int.le_total (place + L - f.fractionBits) lp with h | h
    · left; omega
    · right
      rw [hbd, two_mul_two, two_mul_two]
      refine Nat.le_trans ?_ (Nat.mul_le_mul_right _ hl1)
      rw [two_mul_two]
      exact Nat.pow_le_pow_right (by omega) (by omega)
  · refine cut_le ?_
    rw [hn, Nat.shiftLeft_eq, hbd, show 2 * 2 ^ f.fractionBits = 2 ^ (f.fractionBits + 1) by rw [Nat.pow_succ]; omega, two_mul_two]
    refine Nat.le_trans (Nat.mul_le_mul_right _ (Nat.le_of_lt hl2)) ?_
    rw [two_mul_two]
    exact Nat.pow_le_pow_right (by omega) (by omega)

theorem rung0_near {f : Format} {mag : Nat} {place : Int} {r : Nat} (hm : mag ≠ 0)
    (h : 2 * (mag * 2 ^ (place - f.leastPlace).toNat) < (rv f r + rv f (r + 1)) * 2 ^ (f.leastPlace - place).toNat) : rung0 f mag place ≤ r := by
  have hlt := rv_lt_succ f r
  have hp : 0 < 2 ^ (f.leastPlace - place).toNat := Nat.two_pow_pos _
  have h1 : rung0 f mag place ≤ r + 1 := rung0_le hm (by
    unfold upTo
    have : (rv f r + rv f (r + 1)) * 2 ^ (f.leastPlace - place).toNat ≤ (2 * rv f (r + 1)) * 2 ^ (f.leastPlace - place).toNat := Nat.mul_le_mul_right _ (by omega)
    rw [Nat.mul_assoc] at this
    omega)
  rcases Nat.lt_or_ge r (rung0 f mag place) with h2 | h2
  · exfalso
    have he : rung0 f mag place = r + 1 := by omega
    obtain ⟨d, k, e1, up, nr, fr, low, high⟩ := kept_near f place hm
    obtain ⟨d0, k0, g1, g2, g3, g4, g5⟩ := rv_succ f r
    have hb := binade_pos f
    have e2 : d * f.binade + k = d0 * f.binade + k0 + 1 := by omega
    have hx : (2 * k0 + 1) * 2 ^ d0 = rv f r + rv f (r + 1) := by rw [g1, g2, ← Nat.add_mul]; congr 1; omega
    rcases Nat.lt_trichotomy d d0 with hd | hd | hd
    · obtain ⟨t, rfl⟩ : ∃ t, d0 = d + 1 + t := ⟨d0 - d - 1, by omega⟩
      rw [Nat.add_mul, Nat.add_mul, Nat.one_mul] at e2
      have : f.binade ≤ k0 := by omega
      omega
    · subst hd
      have := nr k0 (by rw [hx]; exact h)
      omega
    · have hl : downTo f mag place (f.binade * 2 ^ d) := by
        rcases low with h0 | h0
        · omega
        · exact h0
      unfold downTo at hl
      have h3 : rv f (r + 1) ≤ f.binade * 2 ^ d := by
        rw [g2]
        obtain ⟨t, rfl⟩ : ∃ t, d = d0 + 1 + t := ⟨d - d0 - 1, by omega⟩
        refine Nat.le_trans (Nat.mul_le_mul_right _ (show k0 + 1 ≤ f.binade * 2 by omega)) ?_
        rw [Nat.mul_assoc, ← Nat.pow_succ']
        exact Nat.mul_le_mul_left _ (Nat.pow_le_pow_right (by omega) (by omega))
      have h4 : (rv f r + rv f (r + 1)) * 2 ^ (f.leastPlace - place).toNat < (2 * rv f (r + 1)) * 2 ^ (f.leastPlace - place).toNat := Nat.mul_lt_mul_of_pos_right (by omega) hp
      have h5 : (2 * rv f (r + 1)) * 2 ^ (f.leastPlace - place).toNat ≤ (2 * (f.binade * 2 ^ d)) * 2 ^ (f.leastPlace - place).toNat := Nat.mul_le_mul_right _ (by omega)
      rw [Nat.mul_assoc 2 (f.binade * 2 ^ d)] at h5
      omega
  · exact h2

theorem near_rung0 {f : Format} {mag : Nat} {place : Int} {r : Nat} (hm : mag ≠ 0)
    (h : (rv f r + rv f (r + 1)) * 2 ^ (f.leastPlace - place).toNat < 2 * (mag * 2 ^ (place - f.leastPlace).toNat)) : r + 1 ≤ rung0 f mag place := by
  have hlt := rv_lt_succ f r
  have h1 : r ≤ rung0 f mag place := le_rung0 hm (by
    unfold downTo
    have : (2 * rv f r) * 2 ^ (f.leastPlace - place).toNat ≤ (rv f r + rv f (r + 1)) * 2 ^ (f.leastPlace - place).toNat := Nat.mul_le_mul_right _ (by omega)
    rw [Nat.mul_assoc] at this
    omega)
  rcases Nat.lt_or_ge r (rung0 f mag place) with h2 | h2
  · exact h2
  · exfalso
    have he : rung0 f mag place = r := by omega
    obtain ⟨d, k, e1, up, nr, fr, low, high⟩ := kept_near f place hm
    obtain ⟨d0, k0, g1, g2, g3, g4, g5⟩ := rv_succ f r
    have hb := binade_pos f
    have e2 : d * f.binade + k = d0 * f.binade + k0 := by omega
    have hx : (2 * k0 + 1) * 2 ^ d0 = rv f r + rv f (r + 1) := by rw [g1, g2, ← Nat.add_mul]; congr 1; omega
    rcases Nat.lt_trichotomy d d0 with hd | hd | hd
    · obtain ⟨t, rfl⟩ : ∃ t, d0 = d + 1 + t := ⟨d0 - d - 1, by omega⟩
      rw [Nat.add_mul, Nat.add_mul, Nat.one_mul] at e2
      have hk0 : f.binade ≤ k0 := by omega
      have ht : t * f.binade = 0 := by omega
      have ht0 : t = 0 := by
        rcases Nat.mul_eq_zero.1 ht with h0 | h0
        · exact h0
        · omega
      subst ht0
      have := fr (2 * f.binade) (by
        refine Nat.lt_of_le_of_lt (Nat.mul_le_mul_right _ ?_) h
        rw [← hx, Nat.add_zero, Nat.pow_succ, Nat.mul_comm (2 ^ d) 2, ← Nat.mul_assoc (2 * k0 + 1)]
        exact Nat.mul_le_mul_right _ (by omega))
      omega
    · subst hd
      have := fr k0 (by rw [hx]; exact h)
      omega
    · have hl : downTo f mag place (f.binade * 2 ^ d) := by
        rcases low with h0 | h0
        · omega
        · exact h0
      have := up _ hl
      obtain ⟨t, rfl⟩ : ∃ t, d = d0 + 1 + t := ⟨d - d0 - 1, by omega⟩
      rw [Nat.add_mul, Nat.add_mul, Nat.one_mul] at e2
      omega

structure Nears (k : FloatKind) (s : Int) (r : Int) : Prop where
  near : ∀ a, a ≤ k.format.infRung → 2 * s.natAbs < rv k.format a + rv k.format (a + 1) → rg k r ≤ a
  far : ∀ a, a < k.format.infRung → rv k.format a + rv k.format (a + 1) < 2 * s.natAbs → a + 1 ≤ rg k r

theorem Nears.of {k : FloatKind} {neg : Bool} {mag : Nat} {place s : Int} (h2 : k.format.leastPlace ≤ place) (hs : s.natAbs = mag * 2 ^ (place - k.format.leastPlace).toNat) :
    Nears k s (k.format.nearest neg mag place : Nat) := by
  rw [nearest_rung]
  have hri := rung_le_inf k.format mag place
  have hz : (k.format.leastPlace - place).toNat = 0 := by omega
  constructor
  · intro a ha h
    rw [(word_rg hri).1]
    unfold rung
    split
    · omega
    · rename_i hm
      have := rung0_near (f := k.format) (place := place) (r := a) hm (by rw [hz, Nat.pow_zero, Nat.mul_one, ← hs]; exact h)
      omega
  · intro a ha h
    rw [(word_rg hri).1]
    unfold rung
    split
    · rename_i hm
      subst hm
      omega
    · rename_i hm
      have := near_rung0 (f := k.format) (place := place) (r := a) hm (by rw [hz, Nat.pow_zero, Nat.mul_one, ← hs]; exact h)
      omega

theorem sum_near {k : FloatKind} {s t : Bool} {m n : Nat} {i j : Int} (hi : k.format.leastPlace ≤ i) (hj : k.format.leastPlace ≤ j) :
    ∃ d, (Datum.number s m i).sum (.number t n j) = some d ∧ Nears k (sg s (m * 2 ^ (i - k.format.leastPlace).toNat) + sg t (n * 2 ^ (j - k.format.leastPlace).toNat)) (k.format.write d : Nat) := by
  refine ⟨_, rfl, ?_⟩
  simp only [Format.write]
  generalize hlp : k.format.leastPlace = lp at *
  generalize hb : min i j = base
  have e : sg s (m * 2 ^ (i - lp).toNat) + sg t (n * 2 ^ (j - lp).toNat) = (signed s m (i - base).toNat + signed t n (j - base).toNat) * (2 ^ (base - lp).toNat : Nat) := by
    rw [signed_eq, signed_eq, Int.add_mul, ← sg_mul, ← sg_mul, Nat.mul_assoc, Nat.mul_assoc, two_mul_two, two_mul_two]
    congr 4 <;> omega
  rw [e]
  generalize signed s m (i - base).toNat + signed t n (j - base).toNat = total
  refine Nears.of (by omega) ?_
  rw [Int.natAbs_mul, Int.natAbs_natCast, hlp]

theorem add_near {k : FloatKind} {x y : Int} (hx : Fin k x) (hy : Fin k y) : Nears k (fv k x + fv k y) (real.bin .add k x y) := by
  obtain ⟨m, i, r1, r2, r3⟩ := fv_read hx
  obtain ⟨n, j, s1, s2, s3⟩ := fv_read hy
  obtain ⟨d, h1, h2⟩ := sum_near (k := k) (s := ng k x) (t := ng k y) (m := m) (n := n) r2 s2
  rw [← r3, ← s3] at h2
  have : real.bin .add k x y = (k.format.write d : Nat) := by
    show rBin .add k x y = _
    unfold rBin floatBits Format.add
    simp only [r1, s1, h1, Option.map_some, Option.getD_some]
  rw [this]; exact h2

theorem sub_near {k : FloatKind} {x y : Int} (hx : Fin k x) (hy : Fin k y) : Nears k (fv k x - fv k y) (real.bin .sub k x y) := by
  obtain ⟨m, i, r1, r2, r3⟩ := fv_read hx
  obtain ⟨n, j, s1, s2, s3⟩ := fv_read hy
  obtain ⟨d, h1, h2⟩ := sum_near (k := k) (s := ng k x) (t := !ng k y) (m := m) (n := n) r2 s2
  have e : sg (!ng k y) (n * 2 ^ (j - k.format.leastPlace).toNat) = - fv k y := by rw [s3]; cases ng k y <;> simp [sg]
  rw [← r3, e, ← Int.sub_eq_add_neg] at h2
  have : real.bin .sub k x y = (k.format.write d : Nat) := by
    show rBin .sub k x y = _
    unfold rBin floatBits Format.sub
    simp only [r1, s1, Datum.opposite, h1, Option.map_some, Option.getD_some]
  rw [this]; exact h2

theorem sub_fin {x y : Int} {e : Nat} (hx : Le .f32 e x) (he : e ≤ 100) (hy : Fin .f32 y) : Fin .f32 (real.bin .sub .f32 x y) := by
  have hn := (sub_near hx.1 hy).near (FloatKind.f32.format.infRung - 1) (by omega)
  have hnum := (sub_rounds hx.1 hy).num
  refine ⟨hnum.nonneg, hnum.word, ?_⟩
  have hi : 0 < FloatKind.f32.format.infRung := by decide
  suffices rg .f32 (real.bin .sub .f32 x y) ≤ FloatKind.f32.format.infRung - 1 by omega
  apply hn
  have hyr : rv FloatKind.f32.format (rg .f32 y) ≤ rv FloatKind.f32.format (FloatKind.f32.format.infRung - 1) := rv_mono _ (by have := hy.fin; omega)
  have hya : (fv .f32 y).natAbs = rv FloatKind.f32.format (rg .f32 y) := by unfold fv; exact sg_abs _ _
  have hxa := hx.2
  have hp : 2 ^ e * unit .f32 ≤ 2 ^ 249 := by rw [unit32, two_mul_two]; exact Nat.pow_le_pow_right (by omega) (by omega)
  have hb : 2 * rv FloatKind.f32.format (FloatKind.f32.format.infRung - 1) + 2 * 2 ^ 249 < rv FloatKind.f32.format (FloatKind.f32.format.infRung - 1) + rv FloatKind.f32.format (FloatKind.f32.format.infRung - 1 + 1) := by decide +kernel
  generalize rv FloatKind.f32.format (FloatKind.f32.format.infRung - 1 + 1) = A at *
  generalize rv FloatKind.f32.format (FloatKind.f32.format.infRung - 1) = B at *
  generalize (2 : Nat) ^ 249 = C at *
  omega
end Go.Fx
