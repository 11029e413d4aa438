/- What the other texts of this claim stand on: an evaluator of loaded code, and floats. -/
import Derived.Test.YtnlfpamdcohiiaaF1
import Derived.Test.YtnlfpamdcohiiaaF4
/- Rounding: a number not above a word's number is not rounded above that word, nor one not below it below. -/
namespace Go.Fx
open Ieee

theorem min_gap {n drop : Nat} (h : n.log2 + 2 < drop) : n < 2 ^ drop ∧ 2 * n < 2 ^ (n.log2 + 2) := by
  have h1 : n < 2 ^ (n.log2 + 1) := Nat.lt_log2_self
  have h2 : 2 ^ (n.log2 + 2) = 2 * 2 ^ (n.log2 + 1) := by rw [Nat.pow_succ]; omega
  have h3 : 2 ^ (n.log2 + 2) ≤ 2 ^ drop := Nat.pow_le_pow_right (by omega) (by omega)
  omega

theorem cut_eq (neg : Bool) (n drop : Nat) : Toward.even.cut neg n drop = n / 2 ^ drop + (decide (2 ^ drop < 2 * (n % 2 ^ drop)) || (2 ^ drop == 2 * (n % 2 ^ drop) && n / 2 ^ drop % 2 == 1)).toNat := by
  unfold Toward.cut
  rcases Nat.lt_or_ge (n.log2 + 2) drop with h | h
  · obtain ⟨h1, h2⟩ := min_gap h
    have hp : 2 ^ (n.log2 + 2) ≤ 2 ^ drop := Nat.pow_le_pow_right (by omega) (by omega)
    have e1 : min drop (n.log2 + 2) = n.log2 + 2 := by omega
    simp only [e1, Nat.shiftLeft_eq, Nat.one_mul]
    rw [Nat.div_eq_of_lt (by omega), Nat.mod_eq_of_lt (by omega), Nat.div_eq_of_lt h1, Nat.mod_eq_of_lt h1]
    have key : ∀ g : Nat, 2 * n < g → (decide (g < 2 * n) || (g == 2 * n && 0 % 2 == 1)) = false := fun g hg => by
      rw [decide_eq_false (by omega)]; simp
    rw [key _ (by omega), key _ (by omega)]
  · have e1 : min drop (n.log2 + 2) = drop := by omega
    simp only [e1, Nat.shiftLeft_eq, Nat.one_mul]

theorem cut_le {neg : Bool} {n drop j : Nat} (h : n ≤ j * 2 ^ drop) : Toward.even.cut neg n drop ≤ j := by
  rw [cut_eq]
  have hg : 0 < 2 ^ drop := Nat.two_pow_pos drop
  generalize 2 ^ drop = g at h hg
  have hd := Nat.div_add_mod n g
  have hm := Nat.mod_lt n hg
  have hle : n / g ≤ j := Nat.div_le_of_le_mul (by rw [Nat.mul_comm]; exact h)
  rcases Nat.lt_or_ge (n / g) j with hlt | hge
  · have : (decide (g < 2 * (n % g)) || (g == 2 * (n % g) && n / g % 2 == 1)).toNat ≤ 1 := Bool.toNat_le _
    omega
  · have he : n / g = j := by omega
    have h0 : n % g = 0 := by rw [he, Nat.mul_comm] at hd; omega
    rw [h0]
    have b1 : (decide (g < 2 * 0) || (g == 2 * 0 && n / g % 2 == 1)) = false := by
      rw [decide_eq_false (by omega)]
      have : (g == 2 * 0) = false := by simp; omega
      rw [this]; rfl
    rw [b1]
    simp
    omega

theorem le_cut {neg : Bool} {n drop j : Nat} (h : j * 2 ^ drop ≤ n) : j ≤ Toward.even.cut neg n drop := by
  rw [cut_eq]
  have : j ≤ n / 2 ^ drop := (Nat.le_div_iff_mul_le (Nat.two_pow_pos drop)).2 h
  omega

def rv (f : Format) (r : Nat) : Nat := if r < f.binade then r else (f.binade + r % f.binade) * 2 ^ (r / f.binade - 1)

theorem binade_pos (f : Format) : 0 < f.binade := Nat.two_pow_pos _

theorem rv_digits (f : Format) {d k : Nat} (h1 : k < 2 * f.binade) (h2 : d = 0 ∨ f.binade ≤ k) : rv f (d * f.binade + k) = k * 2 ^ d := by
  have hb := binade_pos f
  unfold rv
  rcases Nat.lt_or_ge k f.binade with hk | hk
  · have : d = 0 := by omega
    subst this
    rw [if_pos (by omega)]; simp
  · have e : d * f.binade + k = (k - f.binade) + f.binade * (d + 1) := by rw [Nat.mul_succ, Nat.mul_comm]; omega
    rw [if_neg (by have := Nat.zero_le (d * f.binade); omega), e, Nat.add_mul_mod_self_left, Nat.add_mul_div_left _ _ hb, Nat.mod_eq_of_lt (by omega), Nat.div_eq_of_lt (by omega)]
    rw [show f.binade + (k - f.binade) = k by omega, show 0 + (d + 1) - 1 = d by omega]

theorem rung_digits (f : Format) (r : Nat) : ∃ d k, r = d * f.binade + k ∧ k < 2 * f.binade ∧ (d = 0 ∨ f.binade ≤ k) := by
  have hb := binade_pos f
  rcases Nat.lt_or_ge r f.binade with h | h
  · exact ⟨0, r, by simp, by omega, .inl rfl⟩
  · refine ⟨r / f.binade - 1, f.binade + r % f.binade, ?_, ?_, .inr (by omega)⟩
    · have hd := Nat.div_add_mod r f.binade
      have h1 : 1 ≤ r / f.binade := (Nat.le_div_iff_mul_le hb).2 (by omega)
      generalize hq : r / f.binade = q at *
      obtain ⟨q', rfl⟩ : ∃ q', q = q' + 1 := ⟨q - 1, by omega⟩
      rw [Nat.mul_succ, Nat.mul_comm] at hd
      simp only [Nat.add_sub_cancel]
      omega
    · have := Nat.mod_lt r hb
      omega

theorem rv_succ (f : Format) (r : Nat) : ∃ d k, rv f r = k * 2 ^ d ∧ rv f (r + 1) = (k + 1) * 2 ^ d ∧ r = d * f.binade + k ∧ k < 2 * f.binade ∧ (d = 0 ∨ f.binade ≤ k) := by
  obtain ⟨d, k, rfl, h1, h2⟩ := rung_digits f r
  have hb := binade_pos f
  refine ⟨d, k, rv_digits f h1 h2, ?_, rfl, h1, h2⟩
  rcases Nat.lt_or_ge (k + 1) (2 * f.binade) with hk | hk
  · rw [Nat.add_assoc]; exact rv_digits f hk (by omega)
  · have e : d * f.binade + k + 1 = (d + 1) * f.binade + f.binade := by rw [Nat.add_mul]; omega
    rw [e, rv_digits f (by omega) (.inr (Nat.le_refl _)), Nat.pow_succ]
    have : k + 1 = f.binade * 2 := by omega
    rw [this, Nat.mul_assoc, Nat.mul_comm 2]

theorem rv_lt_succ (f : Format) (r : Nat) : rv f r < rv f (r + 1) := by
  obtain ⟨d, k, h1, h2, _⟩ := rv_succ f r
  rw [h1, h2]
  exact (Nat.mul_lt_mul_right (Nat.two_pow_pos d)).2 (Nat.lt_succ_self k)

theorem rv_mono (f : Format) {r s : Nat} (h : r ≤ s) : rv f r ≤ rv f s := by
  induction h with
  | refl => exact Nat.le_refl _
  | step _ ih => exact Nat.le_trans ih (Nat.le_of_lt (rv_lt_succ f _))

theorem rv_strict (f : Format) {r s : Nat} (h : r < s) : rv f r < rv f s := Nat.lt_of_lt_of_le (rv_lt_succ f r) (rv_mono f h)

theorem rv_le_iff (f : Format) {r s : Nat} : rv f r ≤ rv f s ↔ r ≤ s := by
  refine ⟨fun h => ?_, rv_mono f⟩
  rcases Nat.lt_or_ge s r with h' | h'
  · have := rv_strict f h'; omega
  · exact h'

theorem rv_zero (f : Format) : rv f 0 = 0 := by unfold rv; rw [if_pos (binade_pos f)]

def rung0 (f : Format) (mag : Nat) (place : Int) : Nat :=
  let last := max (place + mag.log2 - f.fractionBits) f.leastPlace
  (last - f.leastPlace).toNat * f.binade + Toward.even.cut false (mag <<< (place - last).toNat) (last - place).toNat

def rung (f : Format) (mag : Nat) (place : Int) : Nat := if mag = 0 then 0 else min (rung0 f mag place) f.infRung

theorem nearest_rung (f : Format) (neg : Bool) (mag : Nat) (place : Int) : f.nearest neg mag place = f.word neg (rung f mag place) := by
  unfold Format.nearest rung rung0
  split
  · rfl
  · have e : ∀ a b, Toward.even.cut neg a b = Toward.even.cut false a b := fun a b => rfl
    simp only [e]

def upTo (f : Format) (mag : Nat) (place : Int) (v : Nat) : Prop := mag * 2 ^ (place - f.leastPlace).toNat ≤ v * 2 ^ (f.leastPlace - place).toNat
def downTo (f : Format) (mag : Nat) (place : Int) (v : Nat) : Prop := v * 2 ^ (f.leastPlace - place).toNat ≤ mag * 2 ^ (place - f.leastPlace).toNat

theorem two_mul_two (a b : Nat) : 2 ^ a * 2 ^ b = 2 ^ (a + b) := (Nat.pow_add 2 a b).symm

theorem pw_le (a b c : Nat) (h : a + b ≤ c) : 2 ^ a * 2 ^ b ≤ 2 ^ c := by
  rw [two_mul_two]; exact Nat.pow_le_pow_right (by omega) h

structure Kept (f : Format) (mag : Nat) (place : Int) (d k : Nat) : Prop where
  rung : rung0 f mag place = d * f.binade + k
  up : ∀ j, downTo f mag place (j * 2 ^ d) → j ≤ k
  down : ∀ j, upTo f mag place (j * 2 ^ d) → k ≤ j
  low : d = 0 ∨ downTo f mag place (f.binade * 2 ^ d)
  high : k ≤ 2 * f.binade

theorem kept (f : Format) {mag : Nat} (place : Int) (hm : mag ≠ 0) : ∃ d k, Kept f mag place d k := by
  have hb := binade_pos f
  have hbd : f.binade = 2 ^ f.fractionBits := rfl
  have hl1 : 2 ^ mag.log2 ≤ mag := Nat.log2_self_le hm
  have hl2 : mag < 2 ^ (mag.log2 + 1) := Nat.lt_log2_self
  generalize hL : mag.log2 = L at hl1 hl2
  generalize hl : f.leastPlace = lp
  obtain ⟨last, hlast⟩ : ∃ last, last = max (place + L - f.fractionBits) lp := ⟨_, rfl⟩
  refine ⟨(last - lp).toNat, Toward.even.cut false (mag <<< (place - last).toNat) (last - place).toNat, ?_, fun j hj => ?_, fun j hj => ?_, ?_, ?_⟩
  · unfold rung0; simp only [hL, hl, ← hlast]
  · refine le_cut ?_
    unfold downTo at hj
    rw [hl] at hj
    rw [Nat.shiftLeft_eq]
    rcases Int.le_total place last with h | h
    · rw [show (place - last).toNat = 0 by omega, Nat.pow_zero, Nat.mul_one]
      rcases Int.le_total place lp with h2 | h2
      · rw [show (place - lp).toNat = 0 by omega, Nat.pow_zero, Nat.mul_one, Nat.mul_assoc, two_mul_two] at hj
        rw [show (last - place).toNat = (last - lp).toNat + (lp - place).toNat by omega]; exact hj
      · rw [show (lp - place).toNat = 0 by omega, Nat.pow_zero, Nat.mul_one] at hj
        rw [show (last - lp).toNat = (last - place).toNat + (place - lp).toNat by omega, ← two_mul_two, ← Nat.mul_assoc] at hj
        exact Nat.le_of_mul_le_mul_right hj (Nat.two_pow_pos _)
    · rw [show (last - place).toNat = 0 by omega, Nat.pow_zero, Nat.mul_one]
      rw [show (lp - place).toNat = 0 by omega, Nat.pow_zero, Nat.mul_one, show (place - lp).toNat = (place - last).toNat + (last - lp).toNat by omega, ← two_mul_two, ← Nat.mul_assoc] at hj
      exact Nat.le_of_mul_le_mul_right hj (Nat.two_pow_pos _)
  · refine cut_le ?_
    unfold upTo at hj
    rw [hl] at hj
    rw [Nat.shiftLeft_eq]
    rcases Int.le_total place last with h | h
    · rw [show (place - last).toNat = 0 by omega, Nat.pow_zero, Nat.mul_one]
      rcases Int.le_total place lp with h2 | h2
      · rw [show (place - lp).toNat = 0 by omega, Nat.pow_zero, Nat.mul_one, Nat.mul_assoc, two_mul_two] at hj
        rw [show (last - place).toNat = (last - lp).toNat + (lp - place).toNat by omega]; exact hj
      · rw [show (lp - place).toNat = 0 by omega, Nat.pow_zero, Nat.mul_one] at hj
        rw [show (last - lp).toNat = (last - place).toNat + (place - lp).toNat by omega, ← two_mul_two, ← Nat.mul_assoc] at hj
        exact Nat.le_of_mul_le_mul_right hj (Nat.two_pow_pos _)
    · rw [show (last - place).toNat = 0 by omega, Nat.pow_zero, Nat.mul_one]
      rw [show (lp - place).toNat = 0 by omega, Nat.pow_zero, Nat.mul_one, show (place - lp).toNat = (place - last).toNat + (last - lp).toNat by omega, ← two_mul_two, ← Nat.mul_assoc] at hj
      exact Nat.le_of_mul_le_mul_right hj (Nat.two_pow_pos _)
  · rcases Int.le_total (place + L - f.fractionBits) lp with h | h
    · left; omega
    · right
      unfold downTo
      rw [hl, hbd, two_mul_two, two_mul_two]
      refine Nat.le_trans ?_ (Nat.mul_le_mul_right _ hl1)
      rw [two_mul_two]
      exact Nat.pow_le_pow_right (by omega) (by omega)
  · refine cut_le ?_
    rw [Nat.shiftLeft_eq, hbd, show 2 * 2 ^ f.fractionBits = 2 ^ (f.fractionBits + 1) by rw [Nat.pow_succ]; omega, two_mul_two]
    refine Nat.le_trans (Nat.mul_le_mul_right _ (Nat.le_of_lt hl2)) ?_
    rw [two_mul_two]
    exact Nat.pow_le_pow_right (by omega) (by omega)

theorem upTo_mono {f : Format} {mag : Nat} {place : Int} {v u : Nat} (h : upTo f mag place v) (hv : v ≤ u) : upTo f mag place u :=
  Nat.le_trans h (Nat.mul_le_mul_right _ hv)
theorem downTo_mono {f : Format} {mag : Nat} {place : Int} {v u : Nat} (h : downTo f mag place v) (hv : u ≤ v) : downTo f mag place u :=
  Nat.le_trans (Nat.mul_le_mul_right _ hv) h

theorem rung0_le {f : Format} {mag : Nat} {place : Int} {r : Nat} (hm : mag ≠ 0) (h : upTo f mag place (rv f r)) : rung0 f mag place ≤ r := by
  obtain ⟨d, k, K⟩ := kept f place hm
  rw [K.rung]
  rcases Nat.lt_or_ge r (d * f.binade + k) with hlt | hge
  · exfalso
    have hb := binade_pos f
    have hk0 : 0 < k := by
      rcases Nat.eq_zero_or_pos k with h0 | h0
      · have hd : 0 < d := by
          rcases Nat.eq_zero_or_pos d with hd | hd
          · subst hd; subst h0; simp at hlt
          · exact hd
        rcases K.low with hl | hl
        · omega
        · have := K.up _ hl; omega
      · exact h0
    -- the rung before
    have hle : rv f r ≤ rv f (d * f.binade + (k - 1)) := rv_mono f (by omega)
    rcases Nat.lt_or_ge (k - 1) f.binade with h1 | h1
    · rcases Nat.eq_zero_or_pos d with hd | hd
      · subst hd
        have := K.down (k - 1) (upTo_mono h (by rw [rv_digits f (by omega) (.inl rfl)] at hle; exact hle))
        omega
      · -- the least of a binade: the number is not below it
        have hkb : k = f.binade := by
          rcases K.low with hl | hl
          · omega
          · have := K.up _ hl; omega
        have hl : downTo f mag place (f.binade * 2 ^ d) := by
          rcases K.low with hl | hl
          · omega
          · exact hl
        have hs : rv f r < f.binade * 2 ^ d := by
          have := rv_strict f hlt
          rw [hkb, rv_digits f (by omega) (.inr (Nat.le_refl _))] at this
          exact this
        have h2 := Nat.lt_of_lt_of_le ((Nat.mul_lt_mul_right (Nat.two_pow_pos (f.leastPlace - place).toNat)).2 hs) hl
        exact absurd h (Nat.not_le.2 h2)
    · have hk2 := K.high
      have := K.down (k - 1) (upTo_mono h (by rw [rv_digits f (by omega) (.inr h1)] at hle; exact hle))
      omega
  · exact hge

theorem le_rung0 {f : Format} {mag : Nat} {place : Int} {r : Nat} (hm : mag ≠ 0) (h : downTo f mag place (rv f r)) : r ≤ rung0 f mag place := by
  obtain ⟨d, k, K⟩ := kept f place hm
  rw [K.rung]
  rcases Nat.lt_or_ge (d * f.binade + k) r with hlt | hge
  · exfalso
    have hb := binade_pos f
    have hk2 := K.high
    have hlow : d = 0 ∨ f.binade ≤ k := by
      rcases K.low with hl | hl
      · exact .inl hl
      · exact .inr (K.up _ hl)
    have hge : (k + 1) * 2 ^ d ≤ rv f r := by
      refine Nat.le_trans ?_ (rv_mono f (show d * f.binade + k + 1 ≤ r from hlt))
      rcases Nat.lt_or_ge k (2 * f.binade) with h1 | h1
      · have h3 := rv_succ f (d * f.binade + k)
        obtain ⟨d', k', e1, e2, e3, e4, e5⟩ := h3
        have e6 := rv_digits f h1 hlow
        rw [e1] at e6
        have e7 := rv_lt_succ f (d * f.binade + k)
        -- the same digits
        rcases Nat.lt_or_ge (k + 1) (2 * f.binade) with h4 | h4
        · rw [Nat.add_assoc, rv_digits f h4 (by omega)]; exact Nat.le_refl _
        · have e : d * f.binade + k + 1 = (d + 1) * f.binade + f.binade := by rw [Nat.add_mul]; omega
          rw [e, rv_digits f (by omega) (.inr (Nat.le_refl _)), Nat.pow_succ]
          have : k + 1 = f.binade * 2 := by omega
          rw [this, Nat.mul_assoc, Nat.mul_comm 2]
          exact Nat.le_refl _
      · have e : d * f.binade + k + 1 = (d + 1) * f.binade + (f.binade + 1) := by rw [Nat.add_mul]; omega
        rcases Nat.lt_or_ge (f.binade + 1) (2 * f.binade) with h4 | h4
        · rw [e, rv_digits f h4 (.inr (by omega)), Nat.pow_succ, ← Nat.mul_assoc, Nat.mul_right_comm]
          exact Nat.mul_le_mul_right _ (by omega)
        · have hb1 : f.binade = 1 := by omega
          have e2 : d * f.binade + k + 1 = (d + 2) * f.binade + f.binade := by rw [Nat.add_mul]; omega
          rw [e2, rv_digits f (by omega) (.inr (Nat.le_refl _)), Nat.pow_add]
          have : k = 2 := by omega
          rw [this, hb1, Nat.one_mul, Nat.mul_comm]
          exact Nat.mul_le_mul_left _ (by decide)
    have := K.up (k + 1) (downTo_mono h hge)
    omega
  · exact hge

theorem rung_le {f : Format} {mag : Nat} {place : Int} {r : Nat} (h : upTo f mag place (rv f r)) : rung f mag place ≤ r := by
  unfold rung
  split
  · omega
  · rename_i hm
    have := rung0_le hm h
    omega

theorem le_rung {f : Format} {mag : Nat} {place : Int} {r : Nat} (hr : r ≤ f.infRung) (h : downTo f mag place (rv f r)) : r ≤ rung f mag place := by
  unfold rung
  split
  · rename_i hm
    subst hm
    unfold downTo at h
    rw [Nat.zero_mul] at h
    have h0 : rv f r = 0 := by
      rcases Nat.eq_zero_or_pos (rv f r) with h0 | h0
      · exact h0
      · have := Nat.mul_pos h0 (Nat.two_pow_pos (f.leastPlace - place).toNat); omega
    rcases Nat.eq_zero_or_pos r with hr0 | hr0
    · omega
    · have := rv_strict f hr0; rw [rv_zero] at this; omega
  · rename_i hm
    have := le_rung0 hm h
    omega

end Go.Fx

/- Numbers of words as whole numbers of least units; what the operations do to them. -/
namespace Go.Fx
open Ieee

def rg (k : FloatKind) (x : Int) : Nat := x.toNat % k.format.signWeight
def ng (k : FloatKind) (x : Int) : Bool := x.toNat / k.format.signWeight % 2 == 1
structure Num (k : FloatKind) (x : Int) : Prop where
  nonneg : 0 ≤ x
  word : x.toNat < 2 * k.format.signWeight
  num : rg k x ≤ k.format.infRung
structure Fin (k : FloatKind) (x : Int) : Prop where
  nonneg : 0 ≤ x
  word : x.toNat < 2 * k.format.signWeight
  fin : rg k x < k.format.infRung
theorem Fin.toNum {k : FloatKind} {x : Int} (h : Fin k x) : Num k x := ⟨h.nonneg, h.word, Nat.le_of_lt h.fin⟩

def sg (b : Bool) (n : Nat) : Int := bif b then -(n : Int) else n
def fv (k : FloatKind) (x : Int) : Int := sg (ng k x) (rv k.format (rg k x))

def big (k : FloatKind) : Nat := rv k.format k.format.infRung

theorem sw_pos (k : FloatKind) : 0 < k.format.signWeight := Nat.two_pow_pos _

theorem read_num {k : FloatKind} {x : Int} (h : rg k x < k.format.infRung) : ∃ m e, k.format.read x.toNat = .number (ng k x) m e ∧ k.format.leastPlace ≤ e ∧ m * 2 ^ (e - k.format.leastPlace).toNat = rv k.format (rg k x) := by
  unfold Format.read rv
  have e0 : x.toNat % k.format.signWeight = rg k x := rfl
  simp only [e0, if_pos h]
  split
  · exact ⟨_, _, rfl, Int.le_refl _, by simp⟩
  · refine ⟨_, _, rfl, by omega, ?_⟩
    congr 2
    omega

theorem read_inf {k : FloatKind} {x : Int} (h : rg k x = k.format.infRung) (hb : k.format.binade ≤ k.format.infRung) : k.format.read x.toNat = .infinity (ng k x) := by
  unfold Format.read
  have e0 : x.toNat % k.format.signWeight = rg k x := rfl
  simp only [e0]
  rw [if_neg (by omega), if_neg (by omega), if_pos h]
  rfl

theorem binade_le_inf (k : FloatKind) : k.format.binade ≤ k.format.infRung := by cases k <;> decide

theorem isNaNb_rg (k : FloatKind) (x : Int) : isNaNb k x.toNat = decide (k.format.infRung < rg k x) := by
  unfold isNaNb Format.read
  have e0 : x.toNat % k.format.signWeight = rg k x := rfl
  have := binade_le_inf k
  simp only [e0]
  split
  · rw [decide_eq_false (by omega)]; rfl
  · split
    · rw [decide_eq_false (by omega)]; rfl
    · split
      · rw [decide_eq_false (by omega)]; rfl
      · rw [decide_eq_true (by omega)]; rfl

theorem Num.notNaN {k : FloatKind} {x : Int} (h : Num k x) : isNaNb k x.toNat = false := by rw [isNaNb_rg, decide_eq_false (Nat.not_lt.2 h.num)]

theorem word_rg {k : FloatKind} {b : Bool} {r : Nat} (h : r ≤ k.format.infRung) : rg k (k.format.word b r : Nat) = r ∧ ng k (k.format.word b r : Nat) = b ∧ k.format.word b r < 2 * k.format.signWeight := by
  have hs := k.format.infRung_lt
  have hw := sw_pos k
  unfold rg ng Format.word
  cases b with
  | true =>
    simp only [if_true, Int.toNat_natCast]
    rw [Nat.add_mod_left, Nat.mod_eq_of_lt (by omega), Nat.add_div_left _ hw, Nat.div_eq_of_lt (by omega)]
    exact ⟨rfl, rfl, by omega⟩
  | false =>
    simp only [Bool.false_eq_true, if_false, Int.toNat_natCast]
    rw [Nat.mod_eq_of_lt (by omega), Nat.div_eq_of_lt (by omega)]
    exact ⟨rfl, rfl, by omega⟩

theorem word_num {k : FloatKind} {b : Bool} {r : Nat} (h : r ≤ k.format.infRung) : Num k (k.format.word b r : Nat) :=
  ⟨by omega, by rw [Int.toNat_natCast]; exact (word_rg h).2.2, by rw [(word_rg h).1]; exact h⟩

theorem word_fv {k : FloatKind} {b : Bool} {r : Nat} (h : r ≤ k.format.infRung) : fv k (k.format.word b r : Nat) = sg b (rv k.format r) := by
  unfold fv; rw [(word_rg h).1, (word_rg h).2.1]

theorem Num.eq_word {k : FloatKind} {x : Int} (h : Num k x) : x = (k.format.word (ng k x) (rg k x) : Nat) := by
  have hw := sw_pos k
  have h0 := h.nonneg
  have h1 := h.word
  have hx : x = (x.toNat : Nat) := by omega
  generalize x.toNat = n at *
  subst hx
  unfold rg ng Format.word
  simp only [Int.toNat_natCast]
  have hd := Nat.div_add_mod n k.format.signWeight
  rcases Nat.lt_or_ge n k.format.signWeight with hl | hl
  · rw [Nat.div_eq_of_lt hl, Nat.mod_eq_of_lt hl]; simp
  · have : n / k.format.signWeight = 1 := by
      apply Nat.div_eq_of_lt_le <;> omega
    rw [this] at hd ⊢
    simp; omega

theorem Num.ext {k : FloatKind} {x y : Int} (hx : Num k x) (hy : Num k y) (h1 : ng k x = ng k y) (h2 : rg k x = rg k y) : x = y := by
  rw [hx.eq_word, hy.eq_word, h1, h2]

theorem sg_abs (b : Bool) (n : Nat) : (sg b n).natAbs = n := by cases b <;> simp [sg]

theorem rv_inj {f : Format} {r s : Nat} (h : rv f r = rv f s) : r = s :=
  Nat.le_antisymm ((rv_le_iff f).1 (Nat.le_of_eq h)) ((rv_le_iff f).1 (Nat.le_of_eq h.symm))

theorem rv_eq_zero {f : Format} {r : Nat} : rv f r = 0 ↔ r = 0 := by
  constructor
  · intro h; exact rv_inj (by rw [h, rv_zero])
  · rintro rfl; exact rv_zero f

theorem Num.fv_inj {k : FloatKind} {x y : Int} (hx : Num k x) (hy : Num k y) (h : fv k x = fv k y) (h0 : fv k x ≠ 0) : x = y := by
  have ha : (fv k x).natAbs = (fv k y).natAbs := by rw [h]
  unfold fv at h h0 ha
  rw [sg_abs, sg_abs] at ha
  have hr := rv_inj ha
  refine hx.ext hy ?_ hr
  rw [ha] at h h0
  cases h1 : ng k x <;> cases h2 : ng k y <;> simp [h1, h2, sg] at h h0 ⊢ <;> omega

theorem fv_zero_iff {k : FloatKind} {x : Int} : fv k x = 0 ↔ rg k x = 0 := by
  unfold fv
  constructor
  · intro h
    have := congrArg Int.natAbs h
    rw [sg_abs] at this
    exact rv_eq_zero.1 this
  · intro h; rw [h, rv_zero]; cases ng k x <;> rfl

theorem Num.fin_iff {k : FloatKind} {x : Int} (h : Num k x) : Fin k x ↔ -(big k : Int) < fv k x ∧ fv k x < big k := by
  have hr := rv_mono k.format h.num
  constructor
  · intro hf
    have := rv_strict k.format hf.fin
    unfold fv big
    cases ng k x <;> simp [sg] <;> omega
  · rintro ⟨h1, h2⟩
    refine ⟨h.nonneg, h.word, ?_⟩
    rcases Nat.lt_or_ge (rg k x) k.format.infRung with h3 | h3
    · exact h3
    · have : rg k x = k.format.infRung := Nat.le_antisymm h.num h3
      unfold fv at h1 h2
      rw [this] at h1 h2
      unfold big at h1 h2
      cases hn : ng k x <;> simp [sg, hn] at h1 h2

theorem upTo_unit {f : Format} {mag : Nat} {place u : Int} {v : Nat} (h1 : u ≤ place) (h2 : u ≤ f.leastPlace) : upTo f mag place v ↔ mag * 2 ^ (place - u).toNat ≤ v * 2 ^ (f.leastPlace - u).toNat := by
  unfold upTo
  rcases Int.le_total place f.leastPlace with h | h
  · rw [show (place - f.leastPlace).toNat = 0 by omega, Nat.pow_zero, Nat.mul_one, show (f.leastPlace - u).toNat = (f.leastPlace - place).toNat + (place - u).toNat by omega, ← two_mul_two, ← Nat.mul_assoc]
    exact (Nat.mul_le_mul_right_iff (Nat.two_pow_pos _)).symm
  · rw [show (f.leastPlace - place).toNat = 0 by omega, Nat.pow_zero, Nat.mul_one, show (place - u).toNat = (place - f.leastPlace).toNat + (f.leastPlace - u).toNat by omega, ← two_mul_two, ← Nat.mul_assoc]
    exact (Nat.mul_le_mul_right_iff (Nat.two_pow_pos _)).symm

theorem downTo_unit {f : Format} {mag : Nat} {place u : Int} {v : Nat} (h1 : u ≤ place) (h2 : u ≤ f.leastPlace) : downTo f mag place v ↔ v * 2 ^ (f.leastPlace - u).toNat ≤ mag * 2 ^ (place - u).toNat := by
  unfold downTo
  rcases Int.le_total place f.leastPlace with h | h
  · rw [show (place - f.leastPlace).toNat = 0 by omega, Nat.pow_zero, Nat.mul_one, show (f.leastPlace - u).toNat = (f.leastPlace - place).toNat + (place - u).toNat by omega, ← two_mul_two, ← Nat.mul_assoc]
    exact (Nat.mul_le_mul_right_iff (Nat.two_pow_pos _)).symm
  · rw [show (f.leastPlace - place).toNat = 0 by omega, Nat.pow_zero, Nat.mul_one, show (place - u).toNat = (place - f.leastPlace).toNat + (f.leastPlace - u).toNat by omega, ← two_mul_two, ← Nat.mul_assoc]
    exact (Nat.mul_le_mul_right_iff (Nat.two_pow_pos _)).symm

structure Rounds (k : FloatKind) (s : Int) (c : Nat) (r : Int) : Prop where
  num : Num k r
  le : ∀ z, Num k z → s ≤ fv k z * c → fv k r ≤ fv k z
  ge : ∀ z, Num k z → fv k z * c ≤ s → fv k z ≤ fv k r

theorem rung_le_inf (f : Format) (mag : Nat) (place : Int) : rung f mag place ≤ f.infRung := by
  unfold rung; split
  · omega
  · exact Nat.min_le_right _ _

theorem Rounds.of {k : FloatKind} {neg : Bool} {mag : Nat} {place u s : Int} (h1 : u ≤ place) (h2 : u ≤ k.format.leastPlace) (hs : s.natAbs = mag * 2 ^ (place - u).toNat) (hn : s ≠ 0 → neg = decide (s < 0)) :
    Rounds k s (2 ^ (k.format.leastPlace - u).toNat) (k.format.nearest neg mag place : Nat) := by
  rw [nearest_rung]
  have hri := rung_le_inf k.format mag place
  have hc : 0 < 2 ^ (k.format.leastPlace - u).toNat := Nat.two_pow_pos _
  generalize hcc : 2 ^ (k.format.leastPlace - u).toNat = c at hc
  have hup : ∀ r, s.natAbs ≤ rv k.format r * c → rung k.format mag place ≤ r := fun r h => rung_le ((upTo_unit h1 h2).2 (by rw [hcc, ← hs]; exact h))
  have hdn : ∀ r, r ≤ k.format.infRung → rv k.format r * c ≤ s.natAbs → r ≤ rung k.format mag place := fun r hr h => le_rung hr ((downTo_unit h1 h2).2 (by rw [hcc, ← hs]; exact h))
  generalize rung k.format mag place = q at *
  have hN : ∀ z : Int, fv k z * (c : Int) = sg (ng k z) (rv k.format (rg k z) * c) := fun z => by
    unfold fv; cases ng k z <;> simp [sg, Int.neg_mul]
  have hz0 : ∀ r, rv k.format r * c = 0 → rv k.format r = 0 := fun r h => by
    rcases Nat.eq_zero_or_pos (rv k.format r) with h4 | h4
    · exact h4
    · have := Nat.mul_pos h4 hc; omega
  have hq0 : s = 0 → sg neg (rv k.format q) = 0 := fun hs0 => by
    have := hup 0 (by rw [hs0]; simp)
    have hq : q = 0 := by omega
    rw [hq, rv_zero]; cases neg <;> rfl
  refine ⟨word_num hri, fun z hz h => ?_, fun z hz h => ?_⟩
  · rw [word_fv hri]
    rw [hN] at h
    unfold fv
    have h5 := hup (rg k z); have h6 := hdn (rg k z) hz.num; have h7 := hz0 (rg k z)
    generalize rv k.format (rg k z) * c = N at *
    by_cases hs0 : s = 0
    · rw [hq0 hs0]
      cases hz' : ng k z with
      | false => simp [sg]
      | true => rw [hz'] at h; simp only [sg, cond_true] at h ⊢; have := h7 (by omega); omega
    · rw [hn hs0]
      by_cases hneg : s < 0
      · rw [decide_eq_true hneg]
        cases hz' : ng k z with
        | false => simp only [sg, cond_true, cond_false]; omega
        | true =>
          rw [hz'] at h
          simp only [sg, cond_true] at h ⊢
          have := rv_mono k.format (h6 (by omega))
          omega
      · rw [decide_eq_false hneg]
        cases hz' : ng k z with
        | true => rw [hz'] at h; simp only [sg, cond_true] at h; exfalso; omega
        | false =>
          rw [hz'] at h
          simp only [sg, cond_false] at h ⊢
          have := rv_mono k.format (h5 (by omega))
          omega
  · rw [word_fv hri]
    rw [hN] at h
    unfold fv
    have h5 := hup (rg k z); have h6 := hdn (rg k z) hz.num; have h7 := hz0 (rg k z)
    generalize rv k.format (rg k z) * c = N at *
    by_cases hs0 : s = 0
    · rw [hq0 hs0]
      cases hz' : ng k z with
      | true => simp only [sg, cond_true]; omega
      | false => rw [hz'] at h; simp only [sg, cond_false] at h ⊢; have := h7 (by omega); omega
    · rw [hn hs0]
      by_cases hneg : s < 0
      · rw [decide_eq_true hneg]
        cases hz' : ng k z with
        | false => rw [hz'] at h; simp only [sg, cond_false] at h; exfalso; omega
        | true =>
          rw [hz'] at h
          simp only [sg, cond_true] at h ⊢
          have := rv_mono k.format (h5 (by omega))
          omega
      · rw [decide_eq_false hneg]
        cases hz' : ng k z with
        | true => simp only [sg, cond_true, cond_false]; omega
        | false =>
          rw [hz'] at h
          simp only [sg, cond_false] at h ⊢
          have := rv_mono k.format (h6 (by omega))
          omega
end Go.Fx

/- The operations on floats, told by the numbers of the words. -/
namespace Go.Fx
open Ieee

theorem fv_read {k : FloatKind} {x : Int} (h : Fin k x) : ∃ m e, k.format.read x.toNat = .number (ng k x) m e ∧ k.format.leastPlace ≤ e ∧ fv k x = sg (ng k x) (m * 2 ^ (e - k.format.leastPlace).toNat) := by
  obtain ⟨m, e, h1, h2, h3⟩ := read_num h.fin
  exact ⟨m, e, h1, h2, by unfold fv; rw [h3]⟩

theorem sg_mul (b : Bool) (n c : Nat) : sg b (n * c) = sg b n * c := by cases b <;> simp [sg, Int.neg_mul]

theorem signed_eq (s : Bool) (m u : Nat) : signed s m u = sg s (m * 2 ^ u) := by
  unfold signed sg
  rw [Nat.shiftLeft_eq]
  cases s <;> simp

def ordOf (a b : Int) : Ordering := if a < b then .lt else if a = b then .eq else .gt

theorem compare_int (a b : Int) : compare a b = ordOf a b := by
  unfold ordOf
  simp only [compare, compareOfLessAndEq]

theorem ordOf_scale {a b : Int} {c : Nat} (hc : 0 < c) : ordOf (a * c) (b * c) = ordOf a b := by
  have hc' : (0 : Int) < c := by omega
  unfold ordOf
  have h1 : a * (c : Int) < b * c ↔ a < b := Int.mul_lt_mul_right hc'
  have h2 : a * (c : Int) = b * c ↔ a = b := ⟨fun h => Int.eq_of_mul_eq_mul_right (by omega) h, fun h => by rw [h]⟩
  simp only [h1, h2]

theorem ordOf_lt {a b : Int} (h : a < b) : ordOf a b = .lt := by unfold ordOf; rw [if_pos h]
theorem ordOf_gt {a b : Int} (h : b < a) : ordOf a b = .gt := by unfold ordOf; rw [if_neg (by omega), if_neg (by omega)]
theorem ordOf_eq {a b : Int} (h : a = b) : ordOf a b = .eq := by unfold ordOf; rw [if_neg (by omega), if_pos h]

theorem fv_scaled {k : FloatKind} {x : Int} {m : Nat} {e base : Int} (h : fv k x = sg (ng k x) (m * 2 ^ (e - k.format.leastPlace).toNat)) (h1 : base ≤ e) (h2 : k.format.leastPlace ≤ base) :
    sg (ng k x) (m * 2 ^ (e - base).toNat) * (2 ^ (base - k.format.leastPlace).toNat : Nat) = fv k x := by
  rw [h, ← sg_mul, Nat.mul_assoc, two_mul_two]
  congr 3; omega

theorem order_num {k : FloatKind} {x y : Int} (hx : Num k x) (hy : Num k y) : k.format.order x.toNat y.toNat = some (ordOf (fv k x) (fv k y)) := by
  unfold Format.order
  have hbi := binade_le_inf k
  rcases Nat.lt_or_ge (rg k x) k.format.infRung with h1 | h1
  · have fx : Fin k x := ⟨hx.nonneg, hx.word, h1⟩
    obtain ⟨m, i, r1, r2, r3⟩ := fv_read fx
    rw [r1]
    rcases Nat.lt_or_ge (rg k y) k.format.infRung with h2 | h2
    · have fy : Fin k y := ⟨hy.nonneg, hy.word, h2⟩
      obtain ⟨n, j, s1, s2, s3⟩ := fv_read fy
      rw [s1]
      simp only [Datum.order]
      rw [compare_int, signed_eq, signed_eq, ← ordOf_scale (Nat.two_pow_pos (min i j - k.format.leastPlace).toNat), fv_scaled r3 (by omega) (by omega), fv_scaled s3 (by omega) (by omega)]
    · have e2 : rg k y = k.format.infRung := Nat.le_antisymm hy.num h2
      rw [read_inf e2 hbi]
      simp only [Datum.order]
      obtain ⟨l1, l2⟩ := hx.fin_iff.1 fx
      have : fv k y = sg (ng k y) (big k) := by unfold fv big; rw [e2]
      rw [this]
      cases ng k y with
      | true => rw [ordOf_gt (by simp only [sg, cond_true]; omega)]; rfl
      | false => rw [ordOf_lt (by simp only [sg, cond_false]; omega)]; rfl
  · have e1 : rg k x = k.format.infRung := Nat.le_antisymm hx.num h1
    rw [read_inf e1 hbi]
    have vx : fv k x = sg (ng k x) (big k) := by unfold fv big; rw [e1]
    rw [vx]
    rcases Nat.lt_or_ge (rg k y) k.format.infRung with h2 | h2
    · have fy : Fin k y := ⟨hy.nonneg, hy.word, h2⟩
      obtain ⟨n, j, s1, s2, s3⟩ := fv_read fy
      rw [s1]
      simp only [Datum.order]
      obtain ⟨l1, l2⟩ := hy.fin_iff.1 fy
      cases ng k x with
      | true => rw [ordOf_lt (by simp only [sg, cond_true]; omega)]; rfl
      | false => rw [ordOf_gt (by simp only [sg, cond_false]; omega)]; rfl
    · have e2 : rg k y = k.format.infRung := Nat.le_antisymm hy.num h2
      rw [read_inf e2 hbi]
      have vy : fv k y = sg (ng k y) (big k) := by unfold fv big; rw [e2]
      rw [vy]
      have hb : 0 < big k := by cases k <;> decide +kernel
      simp only [Datum.order]
      cases ng k x <;> cases ng k y
      · rw [ordOf_eq rfl]; rfl
      · rw [ordOf_gt (by simp only [sg, cond_true, cond_false]; omega)]; rfl
      · rw [ordOf_lt (by simp only [sg, cond_true, cond_false]; omega)]; rfl
      · rw [ordOf_eq rfl]; rfl

section
variable {k : FloatKind} {x y : Int}
theorem cmp_lss (hx : Num k x) (hy : Num k y) : real.cmp .lss k x y = decide (fv k x < fv k y) := by
  show cmpOf .lss (k.format.order x.toNat y.toNat) = _
  rw [order_num hx hy]; unfold cmpOf ordOf
  by_cases h1 : fv k x < fv k y
  · simp [h1]
  · by_cases h2 : fv k x = fv k y <;> simp [h1, h2]
theorem cmp_leq (hx : Num k x) (hy : Num k y) : real.cmp .leq k x y = decide (fv k x ≤ fv k y) := by
  show cmpOf .leq (k.format.order x.toNat y.toNat) = _
  rw [order_num hx hy]; unfold cmpOf ordOf
  by_cases h1 : fv k x < fv k y
  · simp [h1]; omega
  · by_cases h2 : fv k x = fv k y
    · simp [h2]
    · simp [h1, h2]; omega
theorem cmp_gtr (hx : Num k x) (hy : Num k y) : real.cmp .gtr k x y = decide (fv k y < fv k x) := by
  show cmpOf .gtr (k.format.order x.toNat y.toNat) = _
  rw [order_num hx hy]; unfold cmpOf ordOf
  by_cases h1 : fv k x < fv k y
  · simp [h1]; omega
  · by_cases h2 : fv k x = fv k y
    · simp [h2]
    · simp [h1, h2]; omega
theorem cmp_geq (hx : Num k x) (hy : Num k y) : real.cmp .geq k x y = decide (fv k y ≤ fv k x) := by
  show cmpOf .geq (k.format.order x.toNat y.toNat) = _
  rw [order_num hx hy]; unfold cmpOf ordOf
  by_cases h1 : fv k x < fv k y
  · simp [h1]
  · by_cases h2 : fv k x = fv k y
    · simp [h2]
    · simp [h1, h2]; omega
theorem cmp_eql (hx : Num k x) (hy : Num k y) : real.cmp .eql k x y = decide (fv k x = fv k y) := by
  show cmpOf .eql (k.format.order x.toNat y.toNat) = _
  rw [order_num hx hy]; unfold cmpOf ordOf
  by_cases h1 : fv k x < fv k y
  · simp [h1]; omega
  · by_cases h2 : fv k x = fv k y <;> simp [h1, h2]
theorem cmp_neq (hx : Num k x) (hy : Num k y) : real.cmp .neq k x y = !decide (fv k x = fv k y) := by
  show cmpOf .neq (k.format.order x.toNat y.toNat) = _
  rw [order_num hx hy]; unfold cmpOf ordOf
  by_cases h1 : fv k x < fv k y
  · have : ¬ fv k x = fv k y := by omega
    simp [h1, this]
  · by_cases h2 : fv k x = fv k y <;> simp [h1, h2]
end

theorem Rounds.one {k : FloatKind} {s r : Int} (h : Rounds k s (2 ^ (k.format.leastPlace - k.format.leastPlace).toNat) r) : Rounds k s 1 r := by
  rwa [Int.sub_self, Int.toNat_zero, Nat.pow_zero] at h

theorem sum_rounds {k : FloatKind} {s t : Bool} {m n : Nat} {i j : Int} (hi : k.format.leastPlace ≤ i) (hj : k.format.leastPlace ≤ j) :
    ∃ d, (Datum.number s m i).sum (.number t n j) = some d ∧ Rounds k (sg s (m * 2 ^ (i - k.format.leastPlace).toNat) + sg t (n * 2 ^ (j - k.format.leastPlace).toNat)) 1 (k.format.write d : Nat) := by
  refine ⟨_, rfl, ?_⟩
  apply Rounds.one
  simp only [Format.write]
  generalize hlp : k.format.leastPlace = lp at *
  generalize hb : min i j = base
  have e : sg s (m * 2 ^ (i - lp).toNat) + sg t (n * 2 ^ (j - lp).toNat) = (signed s m (i - base).toNat + signed t n (j - base).toNat) * (2 ^ (base - lp).toNat : Nat) := by
    rw [signed_eq, signed_eq, Int.add_mul, ← sg_mul, ← sg_mul, Nat.mul_assoc, Nat.mul_assoc, two_mul_two, two_mul_two]
    congr 4 <;> omega
  rw [e]
  generalize signed s m (i - base).toNat + signed t n (j - base).toNat = total
  have hc : 0 < 2 ^ (base - lp).toNat := Nat.two_pow_pos _
  rw [← hlp]
  refine Rounds.of (u := k.format.leastPlace) (by omega) (Int.le_refl _) ?_ fun h => ?_
  · rw [Int.natAbs_mul, Int.natAbs_natCast, hlp]
  · rw [hlp] at h
    have ht : total ≠ 0 := fun h0 => h (by rw [h0]; simp)
    rw [if_neg ht]
    congr 1
    have hc' : (0 : Int) < (2 ^ (base - lp).toNat : Nat) := by omega
    rw [hlp]
    exact propext ⟨fun h => Int.mul_neg_of_neg_of_pos h hc', fun h => by
      rcases Int.lt_or_le total 0 with h1 | h1
      · exact h1
      · have := Int.mul_nonneg h1 (Int.le_of_lt hc'); omega⟩

theorem add_rounds {k : FloatKind} {x y : Int} (hx : Fin k x) (hy : Fin k y) : Rounds k (fv k x + fv k y) 1 (real.bin .add k x y) := by
  obtain ⟨m, i, r1, r2, r3⟩ := fv_read hx
  obtain ⟨n, j, s1, s2, s3⟩ := fv_read hy
  obtain ⟨d, h1, h2⟩ := sum_rounds (k := k) (s := ng k x) (t := ng k y) (m := m) (n := n) r2 s2
  rw [← r3, ← s3] at h2
  have : real.bin .add k x y = (k.format.write d : Nat) := by
    show rBin .add k x y = _
    unfold rBin floatBits Format.add
    simp only [r1, s1, h1, Option.map_some, Option.getD_some]
  rw [this]; exact h2

theorem sub_rounds {k : FloatKind} {x y : Int} (hx : Fin k x) (hy : Fin k y) : Rounds k (fv k x - fv k y) 1 (real.bin .sub k x y) := by
  obtain ⟨m, i, r1, r2, r3⟩ := fv_read hx
  obtain ⟨n, j, s1, s2, s3⟩ := fv_read hy
  obtain ⟨d, h1, h2⟩ := sum_rounds (k := k) (s := ng k x) (t := !ng k y) (m := m) (n := n) r2 s2
  have e : sg (!ng k y) (n * 2 ^ (j - k.format.leastPlace).toNat) = - fv k y := by rw [s3]; cases ng k y <;> simp [sg]
  rw [← r3, e, ← Int.sub_eq_add_neg] at h2
  have : real.bin .sub k x y = (k.format.write d : Nat) := by
    show rBin .sub k x y = _
    unfold rBin floatBits Format.sub
    simp only [r1, s1, Datum.opposite, h1, Option.map_some, Option.getD_some]
  rw [this]; exact h2

def unit (k : FloatKind) : Nat := 2 ^ (-k.format.leastPlace).toNat

theorem lp_neg (k : FloatKind) : k.format.leastPlace < 0 := by cases k <;> decide

theorem mul_rounds {k : FloatKind} {x y : Int} (hx : Fin k x) (hy : Fin k y) : Rounds k (fv k x * fv k y) (unit k) (real.bin .mul k x y) := by
  obtain ⟨m, i, r1, r2, r3⟩ := fv_read hx
  obtain ⟨n, j, s1, s2, s3⟩ := fv_read hy
  have : real.bin .mul k x y = (k.format.nearest (ng k x ^^ ng k y) (m * n) (i + j) : Nat) := by
    show rBin .mul k x y = _
    unfold rBin floatBits Format.mul
    simp only [r1, s1, Datum.product, Option.map_some, Option.getD_some, Format.write]
  rw [this]
  have hl := lp_neg k
  have hc : unit k = 2 ^ (k.format.leastPlace - 2 * k.format.leastPlace).toNat := by unfold unit; congr 2; omega
  rw [hc]
  have hp : fv k x * fv k y = sg (ng k x ^^ ng k y) (m * n * 2 ^ (i + j - 2 * k.format.leastPlace).toNat) := by
    rw [r3, s3]
    have e1 : m * n * 2 ^ (i + j - 2 * k.format.leastPlace).toNat = (m * 2 ^ (i - k.format.leastPlace).toNat) * (n * 2 ^ (j - k.format.leastPlace).toNat) := by
      rw [show (i + j - 2 * k.format.leastPlace).toNat = (i - k.format.leastPlace).toNat + (j - k.format.leastPlace).toNat by omega, ← two_mul_two]
      simp only [Nat.mul_assoc, Nat.mul_left_comm]
    rw [e1]
    generalize m * 2 ^ (i - k.format.leastPlace).toNat = a
    generalize n * 2 ^ (j - k.format.leastPlace).toNat = b
    cases ng k x <;> cases ng k y <;> simp [sg, Int.neg_mul, Int.mul_neg, Int.natCast_mul]
  rw [hp]
  refine Rounds.of (u := 2 * k.format.leastPlace) (by omega) (by omega) (sg_abs _ _) fun h => ?_
  generalize m * n * 2 ^ (i + j - 2 * k.format.leastPlace).toNat = a at h
  cases hx' : ng k x ^^ ng k y
  · exact (decide_eq_false (by simp only [sg, cond_false]; omega)).symm
  · rw [hx'] at h; simp [sg] at h ⊢; omega

theorem Rounds.eq {k : FloatKind} {s r z : Int} {c : Nat} (h : Rounds k s c r) (hz : Num k z) (he : s = fv k z * c) : fv k r = fv k z :=
  Int.le_antisymm (h.le z hz (Int.le_of_eq he)) (h.ge z hz (Int.le_of_eq he.symm))

theorem rep {f : Format} : ∀ (d m : Nat), m ≤ 2 * f.binade → ∃ r, rv f r = m * 2 ^ d
  | 0, m, h => by
    have hb := binade_pos f
    rcases Nat.lt_or_ge m (2 * f.binade) with h1 | h1
    · exact ⟨0 * f.binade + m, rv_digits f h1 (.inl rfl)⟩
    · have : m = 2 * f.binade := by omega
      exact ⟨1 * f.binade + f.binade, by rw [rv_digits f (by omega) (.inr (Nat.le_refl _)), this]; omega⟩
  | d + 1, m, h => by
    have hb := binade_pos f
    rcases Nat.lt_or_ge m f.binade with h1 | h1
    · obtain ⟨r, hr⟩ := rep (f := f) d (2 * m) (by omega)
      exact ⟨r, by rw [hr, Nat.pow_succ, Nat.mul_comm 2 m, Nat.mul_assoc, Nat.mul_comm 2]⟩
    · rcases Nat.lt_or_ge m (2 * f.binade) with h2 | h2
      · exact ⟨(d + 1) * f.binade + m, rv_digits f h2 (.inr h1)⟩
      · have : m = 2 * f.binade := by omega
        refine ⟨(d + 2) * f.binade + f.binade, ?_⟩
        rw [rv_digits f (by omega) (.inr (Nat.le_refl _)), this, Nat.pow_succ 2 (d + 1), Nat.mul_comm 2, Nat.mul_assoc, Nat.mul_comm 2 (2 ^ (d + 1))]

theorem rep_word {k : FloatKind} {d m : Nat} (neg : Bool) (h : m ≤ 2 * k.format.binade) (hb : m * 2 ^ d ≤ big k) : ∃ z, Num k z ∧ fv k z = sg neg (m * 2 ^ d) := by
  obtain ⟨r, hr⟩ := rep (f := k.format) d m h
  have hri : r ≤ k.format.infRung := by
    unfold big at hb; rw [← hr] at hb; exact (rv_le_iff _).1 hb
  exact ⟨_, word_num hri, by rw [word_fv hri, hr]⟩
end Go.Fx

/- Conversions between the floats, from and to whole numbers; whole parts. -/
namespace Go.Fx
open Ieee

theorem read_number {k : FloatKind} {x : Int} {g : Bool} {m : Nat} {e : Int} (h : k.format.read x.toNat = .number g m e) : rg k x < k.format.infRung ∧ g = ng k x ∧ k.format.leastPlace ≤ e ∧ m * 2 ^ (e - k.format.leastPlace).toNat = rv k.format (rg k x) := by
  have hbi := binade_le_inf k
  rcases Nat.lt_or_ge (rg k x) k.format.infRung with h1 | h1
  · obtain ⟨m', e', r1, r2, r3⟩ := read_num h1
    rw [h] at r1
    cases r1
    exact ⟨h1, rfl, r2, r3⟩
  · exfalso
    rcases Nat.eq_or_lt_of_le h1 with h2 | h2
    · rw [read_inf h2.symm hbi] at h; cases h
    · have : isNaNb k x.toNat = true := by rw [isNaNb_rg, decide_eq_true h2]
      obtain ⟨s, t, hr⟩ := read_nan this
      rw [hr] at h; cases h

theorem fin_notInf {k : FloatKind} {x : Int} (h : Fin k x) : (k.format.read x.toNat).isInfinity = false := by
  obtain ⟨m, e, h1, _⟩ := read_num h.fin
  rw [h1]; rfl

theorem up_rounds {x : Int} (h : Fin .f32 x) : ∃ m e, FloatKind.f32.format.read x.toNat = .number (ng .f32 x) m e ∧ Rounds .f64 (fv .f32 x * (2 ^ 925 : Nat)) 1 (FloatKind.f64.format.nearest (ng .f32 x) m e : Nat) := by
  obtain ⟨m, e, h1, h2, h3⟩ := read_num h.fin
  refine ⟨m, e, h1, ?_⟩
  have hl : FloatKind.f32.format.leastPlace = -149 := by decide
  have hl2 : FloatKind.f64.format.leastPlace = -1074 := by decide
  rw [hl] at h2 h3
  apply Rounds.one
  have e1 : fv .f32 x * (2 ^ 925 : Nat) = sg (ng .f32 x) (m * 2 ^ (e - -1074).toNat) := by
    unfold fv
    rw [← h3, ← sg_mul, Nat.mul_assoc, two_mul_two (e - -149).toNat 925]
    congr 3; omega
  refine Rounds.of (u := FloatKind.f64.format.leastPlace) (by omega) (Int.le_refl _) ?_ fun hne => ?_
  · rw [e1, sg_abs, hl2]
  · rw [e1] at hne ⊢
    cases hn : ng .f32 x
    · exact (decide_eq_false (by simp only [sg, cond_false]; omega)).symm
    · rw [hn] at hne
      simp only [sg, cond_true] at hne ⊢
      exact (decide_eq_true (by omega)).symm

theorem big32 : big .f32 = 2 ^ 277 := by decide +kernel
theorem big64 : big .f64 = 2 ^ 2098 := by decide +kernel

theorem rv32_digits (r : Nat) : ∃ m d, m ≤ 2 * FloatKind.f64.format.binade ∧ rv FloatKind.f32.format r = m * 2 ^ d := by
  obtain ⟨d, k, rfl, h1, h2⟩ := rung_digits FloatKind.f32.format r
  refine ⟨k, d, ?_, rv_digits _ h1 h2⟩
  have e1 : FloatKind.f32.format.binade = 8388608 := by decide
  have e2 : FloatKind.f64.format.binade = 4503599627370496 := by decide
  omega

theorem up_word {x : Int} (h : Fin .f32 x) : ∃ z, Fin .f64 z ∧ fv .f64 z = fv .f32 x * (2 ^ 925 : Nat) := by
  obtain ⟨m, d, h1, h2⟩ := rv32_digits (rg .f32 x)
  have hlt : rv FloatKind.f32.format (rg .f32 x) < big .f32 := rv_strict _ h.fin
  have hb : m * 2 ^ (d + 925) ≤ big .f64 := by
    rw [← two_mul_two, ← Nat.mul_assoc, ← h2, big64]
    refine Nat.le_trans (Nat.mul_le_mul_right _ (Nat.le_of_lt hlt)) ?_
    rw [big32]
    exact pw_le 277 925 2098 (by omega)
  obtain ⟨z, hz, hv⟩ := rep_word (k := .f64) (ng .f32 x) h1 hb
  have hv' : fv .f64 z = fv .f32 x * (2 ^ 925 : Nat) := by
    rw [hv, ← two_mul_two, ← Nat.mul_assoc, ← h2, sg_mul]; rfl
  refine ⟨z, hz.fin_iff.2 ?_, hv'⟩
  rw [hv', big64]
  obtain ⟨l1, l2⟩ := h.toNum.fin_iff.1 h
  rw [big32] at l1 l2
  have hc : (0 : Int) < ((2 ^ 925 : Nat) : Int) := by exact_mod_cast Nat.two_pow_pos 925
  have hb2 : ((2 ^ 277 : Nat) : Int) * ((2 ^ 925 : Nat) : Int) ≤ ((2 ^ 2098 : Nat) : Int) := by exact_mod_cast pw_le 277 925 2098 (by omega)
  generalize ((2 ^ 925 : Nat) : Int) = C at *
  generalize ((2 ^ 277 : Nat) : Int) = A at *
  generalize ((2 ^ 2098 : Nat) : Int) = B at *
  have g1 := Int.mul_lt_mul_of_pos_right l1 hc
  have g2 := Int.mul_lt_mul_of_pos_right l2 hc
  rw [Int.neg_mul] at g1
  constructor <;> omega

theorem conv_up {x : Int} (h : Fin .f32 x) : Fin .f64 (real.conv .f32 .f64 x) ∧ fv .f64 (real.conv .f32 .f64 x) = fv .f32 x * (2 ^ 925 : Nat) := by
  obtain ⟨m, e, h1, h2⟩ := up_rounds h
  obtain ⟨z, hz, hv⟩ := up_word h
  have hr : real.conv .f32 .f64 x = (FloatKind.f64.format.nearest (ng .f32 x) m e : Nat) := by
    show rConv .f32 .f64 x = _
    unfold rConv FloatKind.decode
    rw [if_neg (by decide), h1]
    rfl
  rw [hr]
  have he := h2.eq hz.toNum (by rw [hv]; omega)
  have hf := hz.toNum.fin_iff.1 hz
  exact ⟨h2.num.fin_iff.2 (by rw [he]; exact hf), by rw [he, hv]⟩

theorem convOk_up (x : Int) : real.convOk .f32 .f64 x = true := by
  show rConvOk .f32 .f64 x = true
  unfold rConvOk FloatKind.decode FloatKind.encode
  rw [if_neg (by decide)]
  split
  · rename_i g m e hr
    obtain ⟨h1, rfl, _⟩ := read_number hr
    by_cases hw : 0 ≤ x ∧ x.toNat < 2 * FloatKind.f32.format.signWeight
    · have hf : Fin .f32 x := ⟨hw.1, hw.2, h1⟩
      obtain ⟨m', e', r1, r2⟩ := up_rounds hf
      rw [hr] at r1
      cases r1
      obtain ⟨z, hz, hv⟩ := up_word hf
      have he := r2.eq hz.toNum (by rw [hv]; omega)
      have hfin : Fin .f64 (FloatKind.f64.format.nearest (ng .f32 x) m e : Nat) := r2.num.fin_iff.2 (by rw [he]; exact hz.toNum.fin_iff.1 hz)
      have := fin_notInf hfin
      rw [Int.toNat_natCast] at this
      simp only [Format.write]
      rw [this]; rfl
    · -- the bits above the word are not read
      have key : ∀ y : Int, 0 ≤ y → y.toNat < 2 * FloatKind.f32.format.signWeight → FloatKind.f32.format.read y.toNat = .number (ng .f32 x) m e → (!(FloatKind.f64.format.read (FloatKind.f64.format.write (.number (ng .f32 x) m e))).isInfinity) = true := by
        intro y hy0 hy1 hry
        obtain ⟨k1, k2, _⟩ := read_number hry
        have hf : Fin .f32 y := ⟨hy0, hy1, k1⟩
        obtain ⟨m', e', r1, r2⟩ := up_rounds hf
        rw [hry] at r1
        rw [← k2] at r1 r2
        cases r1
        obtain ⟨z, hz, hv⟩ := up_word hf
        have he := r2.eq hz.toNum (by rw [hv]; omega)
        have hfin : Fin .f64 (FloatKind.f64.format.nearest (ng .f32 x) m e : Nat) := r2.num.fin_iff.2 (by rw [he]; exact hz.toNum.fin_iff.1 hz)
        have := fin_notInf hfin
        rw [Int.toNat_natCast] at this
        simp only [Format.write]
        rw [this]; rfl
      have hs := sw_pos .f32
      refine key ((x.toNat % (2 * FloatKind.f32.format.signWeight) : Nat) : Int) (by omega) (by rw [Int.toNat_natCast]; exact Nat.mod_lt _ (by omega)) ?_
      rw [Int.toNat_natCast, ← hr]
      unfold Format.read
      have e1 : x.toNat % (2 * FloatKind.f32.format.signWeight) % FloatKind.f32.format.signWeight = x.toNat % FloatKind.f32.format.signWeight := Nat.mod_mod_of_dvd _ ⟨2, Nat.mul_comm _ _⟩
      have e2 : x.toNat % (2 * FloatKind.f32.format.signWeight) / FloatKind.f32.format.signWeight % 2 = x.toNat / FloatKind.f32.format.signWeight % 2 := by
        rw [Nat.mul_comm 2, Nat.mod_mul_right_div_self, Nat.mod_mod]
      rw [e1, e2]
  · rfl
end Go.Fx

/- Whole parts; from and to whole numbers; from 64 to 32 bits. -/
namespace Go.Fx
open Ieee

theorem cut_down_eq (neg : Bool) (n drop : Nat) : Toward.down.cut neg n drop = n / 2 ^ drop + (neg && n % 2 ^ drop != 0).toNat := by
  unfold Toward.cut
  rcases Nat.lt_or_ge (n.log2 + 2) drop with h | h
  · obtain ⟨h1, h2⟩ := min_gap h
    have e1 : min drop (n.log2 + 2) = n.log2 + 2 := by omega
    simp only [e1, Nat.shiftLeft_eq, Nat.one_mul]
    rw [Nat.div_eq_of_lt (by omega), Nat.mod_eq_of_lt (by omega), Nat.div_eq_of_lt h1, Nat.mod_eq_of_lt h1]
  · have e1 : min drop (n.log2 + 2) = drop := by omega
    simp only [e1, Nat.shiftLeft_eq, Nat.one_mul]

theorem cut_zero_eq (neg : Bool) (n drop : Nat) : Toward.zero.cut neg n drop = n / 2 ^ drop := by
  unfold Toward.cut
  rcases Nat.lt_or_ge (n.log2 + 2) drop with h | h
  · obtain ⟨h1, h2⟩ := min_gap h
    have e1 : min drop (n.log2 + 2) = n.log2 + 2 := by omega
    simp only [e1, Nat.shiftLeft_eq, Nat.one_mul]
    rw [Nat.div_eq_of_lt (by omega), Nat.div_eq_of_lt h1]; rfl
  · have e1 : min drop (n.log2 + 2) = drop := by omega
    simp only [e1, Nat.shiftLeft_eq, Nat.one_mul]; rfl

theorem unit_pos (k : FloatKind) : 0 < unit k := Nat.two_pow_pos _

theorem tdiv_sg (s : Bool) (a b : Nat) : (sg s a).tdiv (b : Int) = sg s (a / b) := by
  cases s
  · simp [sg]
  · simp [sg, Int.neg_tdiv]

theorem ediv_sg (s : Bool) (a b : Nat) (hb : 0 < b) : (sg s a) / (b : Int) = sg s (a / b + (s && a % b != 0).toNat) := by
  cases s
  · simp [sg]
  · simp only [sg, cond_true, Bool.true_and]
    have hd := Nat.div_add_mod a b
    have hm := Nat.mod_lt a hb
    generalize a / b = q at *
    generalize hr : a % b = r at *
    have hb' : (0 : Int) < b := by omega
    have e : (a : Int) = b * q + r := by rw [← hd]; simp
    rcases Nat.eq_zero_or_pos r with h0 | h0
    · have : (r != 0) = false := by simp [h0]
      rw [this, e, h0]
      simp only [Bool.toNat_false, Nat.add_zero, Int.natCast_zero, Int.add_zero]
      rw [← Int.mul_neg]
      exact Int.mul_ediv_cancel_left _ (by omega)
    · have : (r != 0) = true := by simp; omega
      rw [this, e]
      simp only [Bool.toNat_true]
      have e2 : -((b : Int) * q + r) = (b - r) + b * (-((q : Int) + 1)) := by rw [Int.mul_neg, Int.mul_add]; omega
      rw [e2, Int.add_mul_ediv_left _ _ (by omega), Int.ediv_eq_zero_of_lt (by omega) (by omega)]
      omega

theorem fv_parts {k : FloatKind} {x : Int} (h : Fin k x) : ∃ m e, k.format.read x.toNat = .number (ng k x) m e ∧ k.format.leastPlace ≤ e ∧ fv k x = sg (ng k x) (m * 2 ^ (e - k.format.leastPlace).toNat) ∧ m < 2 * k.format.binade ∧ (m * 2 ^ (e - k.format.leastPlace).toNat < big k) := by
  obtain ⟨m, e, h1, h2, h3⟩ := read_num h.fin
  refine ⟨m, e, h1, h2, by unfold fv; rw [h3], ?_, by rw [h3]; exact rv_strict _ h.fin⟩
  unfold Format.read at h1
  have hb := binade_pos k.format
  have e0 : x.toNat % k.format.signWeight = rg k x := rfl
  simp only [e0] at h1
  split at h1
  · cases h1; omega
  · split at h1
    · cases h1
      have := Nat.mod_lt (rg k x) hb
      omega
    · split at h1 <;> cases h1

theorem whole_word {k : FloatKind} (h1 : 1 ≤ k.format.fractionBits) {s : Bool} {n drop : Nat} (hn : n < 2 * k.format.binade) (hd : 0 < drop) (hu : 2 * k.format.binade * unit k < big k) {mag : Nat} (hm : mag ≤ n / 2 ^ drop + 1) :
    ∃ z, Fin k z ∧ fv k z = sg s (mag * unit k) := by
  have hb := binade_pos k.format
  have hle : n / 2 ^ drop ≤ n / 2 := Nat.div_le_div_left (by have := Nat.pow_le_pow_right (show 0 < 2 by omega) hd; simpa using this) (by omega)
  have hbe : 2 ≤ k.format.binade := by
    show 2 ≤ 2 ^ k.format.fractionBits
    have := Nat.pow_le_pow_right (show 0 < 2 by omega) h1
    simpa using this
  have hmb : mag ≤ 2 * k.format.binade := by omega
  have hlt : mag * unit k < big k := Nat.lt_of_le_of_lt (Nat.mul_le_mul_right _ hmb) hu
  obtain ⟨z, hz, hv⟩ := rep_word (k := k) s hmb (show mag * 2 ^ (-k.format.leastPlace).toNat ≤ big k from Nat.le_of_lt hlt)
  refine ⟨z, hz.fin_iff.2 ?_, hv⟩
  rw [hv]
  change -(big k : Int) < sg s (mag * unit k) ∧ sg s (mag * unit k) < big k
  cases s <;> simp only [sg, cond_true, cond_false] <;> omega

theorem nearest_whole {k : FloatKind} {s : Bool} {mag : Nat} {z : Int} (hz : Fin k z) (hv : fv k z = sg s (mag * unit k)) : Fin k (k.format.nearest s mag 0 : Nat) ∧ fv k (k.format.nearest s mag 0 : Nat) = sg s (mag * unit k) := by
  have hl := lp_neg k
  have hr : Rounds k (sg s (mag * unit k)) 1 (k.format.nearest s mag 0 : Nat) := by
    apply Rounds.one
    refine Rounds.of (by omega) (Int.le_refl _) ?_ fun h => ?_
    · rw [sg_abs]; unfold unit; congr 2; omega
    · generalize mag * unit k = a at h
      cases s
      · exact (decide_eq_false (by simp only [sg, cond_false]; omega)).symm
      · simp only [sg, cond_true] at h ⊢
        exact (decide_eq_true (by omega)).symm
  have he := hr.eq hz.toNum (by rw [hv]; omega)
  exact ⟨hr.num.fin_iff.2 (by rw [he]; exact hz.toNum.fin_iff.1 hz), by rw [he, hv]⟩

theorem bounds_ok (k : FloatKind) : 1 ≤ k.format.fractionBits ∧ 2 * k.format.binade * unit k < big k := by cases k <;> decide +kernel

theorem integral_cut {k : FloatKind} {x : Int} (h : Fin k x) (way : Toward) (hw : way = .down ∨ way = .zero) : ∃ s mag, (k.format.read x.toNat).integral way = .number s mag 0 ∧
    Fin k (k.format.nearest s mag 0 : Nat) ∧ fv k (k.format.nearest s mag 0 : Nat) = sg s (mag * unit k) ∧ sg s mag = (if way = .down then fv k x / unit k else (fv k x).tdiv (unit k)) := by
  obtain ⟨m, e, r1, r2, r3, r4, r5⟩ := fv_parts h
  obtain ⟨b1, b2⟩ := bounds_ok k
  have hl := lp_neg k
  have hu := unit_pos k
  rw [r1]
  simp only [Datum.integral]
  refine ⟨_, _, rfl, ?_⟩
  rw [r3, Nat.shiftLeft_eq]
  rw [ediv_sg _ _ _ hu, tdiv_sg]
  rcases Int.lt_or_le e 0 with he | he
  · -- digits behind the point
    rw [show e.toNat = 0 by omega, Nat.pow_zero, Nat.mul_one]
    have hsplit : unit k = 2 ^ (-e).toNat * 2 ^ (e - k.format.leastPlace).toNat := by unfold unit; rw [two_mul_two]; congr 1; omega
    have hdiv : m * 2 ^ (e - k.format.leastPlace).toNat / unit k = m / 2 ^ (-e).toNat := by rw [hsplit]; exact Nat.mul_div_mul_right _ _ (Nat.two_pow_pos _)
    have hmod : (m * 2 ^ (e - k.format.leastPlace).toNat % unit k != 0) = (m % 2 ^ (-e).toNat != 0) := by
      rw [hsplit, Nat.mul_mod_mul_right]
      have := Nat.two_pow_pos (e - k.format.leastPlace).toNat
      generalize m % 2 ^ (-e).toNat = a
      generalize 2 ^ (e - k.format.leastPlace).toNat = c at *
      rcases Nat.eq_zero_or_pos a with h0 | h0
      · simp [h0]
      · have := Nat.mul_pos h0 this
        have e1 : (a * c != 0) = true := by simp; omega
        have e2 : (a != 0) = true := by simp; omega
        rw [e1, e2]
    rw [hdiv, hmod]
    rcases hw with rfl | rfl
    · rw [cut_down_eq, if_pos rfl]
      obtain ⟨z, hz, hv⟩ := whole_word (k := k) b1 (s := ng k x) (mag := m / 2 ^ (-e).toNat + (ng k x && m % 2 ^ (-e).toNat != 0).toNat) r4 (show 0 < (-e).toNat by omega) b2 (by have := Bool.toNat_le (ng k x && m % 2 ^ (-e).toNat != 0); omega)
      obtain ⟨k1, k2⟩ := nearest_whole hz hv
      exact ⟨k1, k2, rfl⟩
    · rw [cut_zero_eq, if_neg (by decide)]
      obtain ⟨z, hz, hv⟩ := whole_word (k := k) b1 (s := ng k x) (mag := m / 2 ^ (-e).toNat) r4 (show 0 < (-e).toNat by omega) b2 (by omega)
      obtain ⟨k1, k2⟩ := nearest_whole hz hv
      exact ⟨k1, k2, rfl⟩
  · -- whole already
    have hx : m * 2 ^ (e - k.format.leastPlace).toNat = m * 2 ^ e.toNat * unit k := by unfold unit; rw [Nat.mul_assoc, two_mul_two]; congr 2; omega
    have e0 : (-e).toNat = 0 := by omega
    rw [hx, Nat.mul_div_cancel _ hu, Nat.mul_mod_left, e0]
    have hv : fv k x = sg (ng k x) (m * 2 ^ e.toNat * unit k) := by rw [r3, hx]
    obtain ⟨k1, k2⟩ := nearest_whole h hv
    rcases hw with rfl | rfl
    · rw [cut_down_eq, if_pos rfl, Nat.pow_zero, Nat.div_one, Nat.mod_one]
      simp only [bne_self_eq_false, Bool.and_false, Bool.toNat_false, Nat.add_zero]
      exact ⟨k1, k2, trivial⟩
    · rw [cut_zero_eq, if_neg (by decide), Nat.pow_zero, Nat.div_one]
      exact ⟨k1, k2, rfl⟩

theorem integral_real {x : Int} (way : Toward) {s : Bool} {mag : Nat} (h : Fin .f64 x) (he : (FloatKind.f64.format.read x.toNat).integral way = .number s mag 0) : real.integral way x = (FloatKind.f64.format.nearest s mag 0 : Nat) := by
  obtain ⟨m, e, r1, _⟩ := fv_read h
  show rIntegral way x = _
  unfold rIntegral FloatKind.decode FloatKind.encode
  rw [r1] at he ⊢
  simp only [he]
  rfl

theorem floor_fv {x : Int} (h : Fin .f64 x) : Fin .f64 (real.integral .down x) ∧ fv .f64 (real.integral .down x) = fv .f64 x / unit .f64 * unit .f64 := by
  obtain ⟨s, mag, h1, h2, h3, h4⟩ := integral_cut h .down (.inl rfl)
  rw [integral_real _ h h1]
  rw [if_pos rfl] at h4
  exact ⟨h2, by rw [h3, ← h4, sg_mul]⟩

theorem trunc_fv {x : Int} (h : Fin .f64 x) : Fin .f64 (real.integral .zero x) ∧ fv .f64 (real.integral .zero x) = (fv .f64 x).tdiv (unit .f64) * unit .f64 := by
  obtain ⟨s, mag, h1, h2, h3, h4⟩ := integral_cut h .zero (.inr rfl)
  rw [integral_real _ h h1]
  rw [if_neg (by decide)] at h4
  exact ⟨h2, by rw [h3, ← h4, sg_mul]⟩

theorem toInt_eq {k : FloatKind} {x : Int} (h : Fin k x) (d : IntKind) : floatToIntVal k x.toNat d = if d.min ≤ (fv k x).tdiv (unit k) ∧ (fv k x).tdiv (unit k) ≤ d.max then some ((fv k x).tdiv (unit k)) else none := by
  obtain ⟨s, mag, h1, h2, h3, h4⟩ := integral_cut h .zero (.inr rfl)
  rw [if_neg (by decide)] at h4
  unfold floatToIntVal FloatKind.decode Datum.toInt
  rw [h1]
  simp only [signed_eq, Nat.pow_zero, Nat.mul_one, h4]

theorem toInt_ok {k : FloatKind} {x : Int} (h : Fin k x) (d : IntKind) (h1 : d.min ≤ (fv k x).tdiv (unit k)) (h2 : (fv k x).tdiv (unit k) ≤ d.max) : real.toIntOk k d x = true ∧ real.toInt k d x = (fv k x).tdiv (unit k) := by
  have := toInt_eq h d
  rw [if_pos ⟨h1, h2⟩] at this
  constructor
  · show rToIntOk k d x = true
    unfold rToIntOk; rw [this]; rfl
  · show rToInt k d x = _
    unfold rToInt; rw [this]; rfl

theorem ofInt_rounds (k : FloatKind) (n : Int) : Rounds k (n * unit k) 1 (real.ofInt k n) := by
  have hl := lp_neg k
  show Rounds k (n * unit k) 1 (k.format.nearest (n < 0) n.natAbs 0 : Nat)
  apply Rounds.one
  refine Rounds.of (by omega) (Int.le_refl _) ?_ fun h => ?_
  · rw [Int.natAbs_mul, Int.natAbs_natCast]; unfold unit; congr 2; omega
  · have hu : (0 : Int) < unit k := by have := unit_pos k; omega
    congr 1
    exact propext ⟨fun h => Int.mul_neg_of_neg_of_pos h hu, fun h => by
      rcases Int.lt_or_le n 0 with h1 | h1
      · exact h1
      · have := Int.mul_nonneg h1 (Int.le_of_lt hu); omega⟩

theorem ofInt_fv {k : FloatKind} {n : Int} (h : n.natAbs ≤ 2 * k.format.binade) : Fin k (real.ofInt k n) ∧ fv k (real.ofInt k n) = n * unit k := by
  have hr := ofInt_rounds k n
  obtain ⟨b1, b2⟩ := bounds_ok k
  have hlt : n.natAbs * unit k < big k := Nat.lt_of_le_of_lt (Nat.mul_le_mul_right _ h) b2
  obtain ⟨z, hz, hv⟩ := rep_word (k := k) (decide (n < 0)) h (show n.natAbs * 2 ^ (-k.format.leastPlace).toNat ≤ big k from Nat.le_of_lt hlt)
  have hv' : fv k z = n * unit k := by
    rw [hv]
    change sg (decide (n < 0)) (n.natAbs * unit k) = _
    rw [sg_mul]
    congr 1
    rcases Int.lt_or_le n 0 with h1 | h1
    · rw [decide_eq_true h1]; simp only [sg, cond_true]; omega
    · rw [decide_eq_false (by omega)]; simp only [sg, cond_false]; omega
  have he := hr.eq hz (by rw [hv']; omega)
  refine ⟨hr.num.fin_iff.2 ?_, by rw [he, hv']⟩
  rw [he, hv]
  change -(big k : Int) < sg _ (n.natAbs * unit k) ∧ sg _ (n.natAbs * unit k) < big k
  generalize decide (n < 0) = s
  cases s <;> simp only [sg, cond_true, cond_false] <;> omega

theorem down_rounds {x : Int} (h : Fin .f64 x) : Rounds .f32 (fv .f64 x) (2 ^ 925) (real.conv .f64 .f32 x) := by
  obtain ⟨m, e, h1, h2, h3⟩ := fv_read h
  have hl : FloatKind.f32.format.leastPlace = -149 := by decide
  have hl2 : FloatKind.f64.format.leastPlace = -1074 := by decide
  rw [hl2] at h2 h3
  have hr : real.conv .f64 .f32 x = (FloatKind.f32.format.nearest (ng .f64 x) m e : Nat) := by
    show rConv .f64 .f32 x = _
    unfold rConv FloatKind.decode
    rw [if_neg (by decide), h1]
    rfl
  rw [hr]
  have hc : (925 : Nat) = (FloatKind.f32.format.leastPlace - -1074).toNat := by rw [hl]; rfl
  rw [hc]
  refine Rounds.of (u := -1074) h2 (by omega) ?_ fun hne => ?_
  · rw [h3, sg_abs]
  · rw [h3] at hne ⊢
    generalize m * 2 ^ (e - -1074).toNat = a at hne
    cases hn : ng .f64 x
    · exact (decide_eq_false (by simp only [sg, cond_false]; omega)).symm
    · rw [hn] at hne
      simp only [sg, cond_true] at hne ⊢
      exact (decide_eq_true (by omega)).symm

theorem convOk_down {x : Int} (h : Fin .f64 x) (hf : Fin .f32 (real.conv .f64 .f32 x)) : real.convOk .f64 .f32 x = true := by
  obtain ⟨m, e, h1, h2, h3⟩ := fv_read h
  have hr : real.conv .f64 .f32 x = (FloatKind.f32.format.nearest (ng .f64 x) m e : Nat) := by
    show rConv .f64 .f32 x = _
    unfold rConv FloatKind.decode
    rw [if_neg (by decide), h1]
    rfl
  rw [hr] at hf
  have := fin_notInf hf
  rw [Int.toNat_natCast] at this
  show rConvOk .f64 .f32 x = true
  unfold rConvOk FloatKind.decode FloatKind.encode
  rw [if_neg (by decide), h1]
  simp only [Format.write]
  rw [this]; rfl
end Go.Fx

/- Signs; sums of few parts; what is left of a number beside the nearest whole one. -/
namespace Go.Fx
open Ieee

theorem xor_two_pow_lt {a e : Nat} (h : a < 2 ^ e) : a ^^^ 2 ^ e = 2 ^ e + a := by
  have e1 : a ^^^ 2 ^ e = a ||| 2 ^ e := by
    apply Nat.eq_of_testBit_eq
    intro i
    simp only [Nat.testBit_xor, Nat.testBit_or, Nat.testBit_two_pow]
    by_cases hi : e = i
    · subst hi
      rw [Nat.testBit_lt_two_pow h]; simp
    · simp [hi]
  have e2 := Nat.two_pow_add_eq_or_of_lt h 1
  rw [Nat.mul_one] at e2
  rw [e1, e2, Nat.or_comm]

theorem neg_word {k : FloatKind} {b : Bool} {r : Nat} (h : r ≤ k.format.infRung) : Op.negFloat k (k.format.word b r) = k.format.word (!b) r := by
  have hs := k.format.infRung_lt
  have hr : r < 2 ^ (k.format.exponentBits + k.format.fractionBits) := Nat.lt_of_le_of_lt h hs
  unfold Op.negFloat Format.word Format.signWeight
  cases b with
  | false => simp only [Bool.false_eq_true, if_false, Bool.not_false, if_true]; exact xor_two_pow_lt hr
  | true =>
    simp only [if_true, Bool.not_true, Bool.false_eq_true, if_false]
    rw [← xor_two_pow_lt hr, Nat.xor_assoc, Nat.xor_self, Nat.xor_zero]

theorem neg_num {k : FloatKind} {x : Int} (h : Num k x) : Num k (real.neg k x) ∧ fv k (real.neg k x) = - fv k x ∧ rg k (real.neg k x) = rg k x ∧ ng k (real.neg k x) = !ng k x := by
  have e : real.neg k x = (k.format.word (!ng k x) (rg k x) : Nat) := by
    show rNeg k x = _
    unfold rNeg
    have hx := h.eq_word
    have h1 : x.toNat = k.format.word (ng k x) (rg k x) := by rw [hx, Int.toNat_natCast, ← hx]
    rw [h1, neg_word h.num, cf_of_num]
    have := (word_num (k := k) (b := !ng k x) h.num).notNaN
    rwa [Int.toNat_natCast] at this
  rw [e]
  refine ⟨word_num h.num, ?_, (word_rg h.num).1, (word_rg h.num).2.1⟩
  rw [word_fv h.num]
  unfold fv
  cases ng k x <;> simp [sg]

theorem neg_fin {k : FloatKind} {x : Int} (h : Fin k x) : Fin k (real.neg k x) ∧ fv k (real.neg k x) = - fv k x := by
  obtain ⟨h1, h2, h3, _⟩ := neg_num h.toNum
  exact ⟨⟨h1.nonneg, h1.word, by rw [h3]; exact h.fin⟩, h2⟩

def Has (k : FloatKind) (v : Int) : Prop := ∃ z, Fin k z ∧ fv k z = v

theorem Has.neg {k : FloatKind} {v : Int} (h : Has k v) : Has k (-v) := by
  obtain ⟨z, h1, h2⟩ := h
  obtain ⟨g1, g2⟩ := neg_fin h1
  exact ⟨_, g1, by rw [g2, h2]⟩

theorem Rounds.within {k : FloatKind} {s r a b : Int} {c : Nat} (h : Rounds k s c r) (ha : Has k a) (hb : Has k b) (h1 : a * c ≤ s) (h2 : s ≤ b * c) : Fin k r ∧ a ≤ fv k r ∧ fv k r ≤ b := by
  obtain ⟨za, a1, a2⟩ := ha
  obtain ⟨zb, b1, b2⟩ := hb
  have h3 := h.ge za a1.toNum (by rw [a2]; exact h1)
  have h4 := h.le zb b1.toNum (by rw [b2]; exact h2)
  rw [a2] at h3; rw [b2] at h4
  refine ⟨h.num.fin_iff.2 ⟨?_, ?_⟩, h3, h4⟩
  · have := (a1.toNum.fin_iff.1 a1).1; rw [a2] at this; omega
  · have := (b1.toNum.fin_iff.1 b1).2; rw [b2] at this; omega

theorem Rounds.exact {k : FloatKind} {s r a : Int} {c : Nat} (h : Rounds k s c r) (ha : Has k a) (h1 : s = a * c) : Fin k r ∧ fv k r = a := by
  obtain ⟨h2, h3, h4⟩ := h.within ha ha (by omega) (by omega)
  exact ⟨h2, Int.le_antisymm h4 h3⟩

theorem Has.digits {k : FloatKind} (neg : Bool) {m d : Nat} (h : m ≤ 2 * k.format.binade) (hb : m * 2 ^ d < big k) : Has k (sg neg (m * 2 ^ d)) := by
  obtain ⟨z, h1, h2⟩ := rep_word (k := k) neg h (Nat.le_of_lt hb)
  refine ⟨z, h1.fin_iff.2 ?_, h2⟩
  rw [h2]
  cases neg <;> simp only [sg, cond_true, cond_false] <;> omega

theorem Has.up {v : Int} (h : Has .f32 v) : Has .f64 (v * (2 ^ 925 : Nat)) := by
  obtain ⟨z, h1, h2⟩ := h
  obtain ⟨w, g1, g2⟩ := up_word h1
  exact ⟨w, g1, by rw [g2, h2]⟩

theorem has_one : Has .f64 (unit .f64) := ⟨4607182418800017408, ⟨by decide, by decide +kernel, by decide +kernel⟩, by decide +kernel⟩
theorem has_zero (k : FloatKind) : Has k 0 := ⟨0, ⟨by decide, by cases k <;> decide +kernel, by cases k <;> decide +kernel⟩, by cases k <;> decide +kernel⟩
theorem unit64 : (unit .f64 : Int) = (2 ^ 149 : Nat) * (2 ^ 925 : Nat) := by decide +kernel

end Go.Fx

/- Small facts for the laws. -/
namespace Go.Fx

theorem wrap64 {n : Int} (h0 : -9223372036854775808 ≤ n) (h1 : n < 9223372036854775808) : IntKind.wrap .i64 n = n := by
  have hb : IntKind.i64.bits = 64 := rfl
  unfold IntKind.wrap
  simp only [hb, IntKind.signed, Bool.true_and, decide_eq_true_eq, ge_iff_le]
  have e1 : (2 : Int) ^ 64 = 18446744073709551616 := by decide
  have e2 : (2 : Int) ^ (64 - 1) = 9223372036854775808 := by decide
  rw [e1, e2]
  rcases Int.lt_or_le n 0 with h | h
  · have : n % 18446744073709551616 = n + 18446744073709551616 := by omega
    rw [this, if_pos (by omega)]; omega
  · have : n % 18446744073709551616 = n := by omega
    rw [this, if_neg (by omega)]

theorem getD_some {α : Type} {l : List α} {i : Nat} {d : α} (h : i < l.length) : l.getD i d = l[i] := by
  rw [List.getD_eq_getElem?_getD, List.getElem?_eq_getElem h]; rfl
end Go.Fx

/- Facts for the laws: floats that came in, marks, loops that count up. -/
namespace Go.Fx

theorem const_zero32 : Fin .f32 0 ∧ fv .f32 0 = 0 := ⟨⟨by decide, by decide +kernel, by decide +kernel⟩, by decide +kernel⟩

theorem okF_num {k : FloatKind} {x : Int} (h : OkF k x) (hn : isNaNb k x.toNat = false) : Num k x := by
  obtain ⟨b, rfl, hb⟩ := h
  rw [Int.toNat_natCast, isNaNb_cf] at hn
  rw [cf_of_num hn]
  refine ⟨by omega, ?_, ?_⟩
  · rw [Int.toNat_natCast]
    cases k
    · simp [FloatKind.has] at hb
      have : FloatKind.f32.format.signWeight = 2147483648 := by decide
      omega
    · simp [FloatKind.has] at hb
      have : FloatKind.f64.format.signWeight = 9223372036854775808 := by decide
      omega
  · have := isNaNb_rg k (b : Int)
    rw [Int.toNat_natCast, hn] at this
    simpa using this.symm

theorem isfin_iff {x : Int} (h : OkF .f32 x) : real.cmp .eql .f32 (real.bin .sub .f32 x x) 0 = true ↔ Fin .f32 x := by
  cases hn : isNaNb .f32 x.toNat with
  | true =>
    have hs : real.bin .sub .f32 x x = (nanOf .f32 : Nat) := by
      show rBin .sub .f32 x x = _
      unfold rBin
      rw [floatBits_nan_left hn]; rfl
    rw [hs]
    have hc : real.cmp .eql .f32 (nanOf .f32 : Nat) 0 = false := by decide +kernel
    rw [hc]
    constructor
    · intro h; cases h
    · intro hf
      have := hf.toNum.notNaN
      rw [hn] at this; cases this
  | false =>
    have hnum := okF_num h hn
    constructor
    · intro hc
      rcases Nat.lt_or_ge (rg .f32 x) FloatKind.f32.format.infRung with h1 | h1
      · exact ⟨hnum.nonneg, hnum.word, h1⟩
      · exfalso
        have e := Nat.le_antisymm hnum.num h1
        have hr := read_inf e (binade_le_inf .f32)
        have hs : real.bin .sub .f32 x x = (nanOf .f32 : Nat) := by
          show rBin .sub .f32 x x = _
          unfold rBin floatBits Ieee.Format.sub
          simp only [hr, Ieee.Datum.opposite, Ieee.Datum.sum]
          cases ng .f32 x <;> rfl
        rw [hs] at hc
        have hc2 : real.cmp .eql .f32 (nanOf .f32 : Nat) 0 = false := by decide +kernel
        rw [hc2] at hc; cases hc
    · intro hf
      obtain ⟨z1, z2⟩ := const_zero32
      obtain ⟨r1, r2⟩ := (sub_rounds hf hf).exact (has_zero .f32) (by omega)
      rw [cmp_eql r1.toNum z1.toNum, r2, z2]; rfl

def marks (k : FloatKind) (a : Int) (n : Nat) : List (List Int) := (List.range n).map fun (i : Nat) => [real.ofInt k (a + i)]

theorem abs_num {k : FloatKind} {x : Int} (h : Num k x) : Num k (real.abs k x) ∧ fv k (real.abs k x) = (fv k x).natAbs := by
  have hs := k.format.infRung_lt
  have hw := sw_pos k
  have e : real.abs k x = (k.format.word false (rg k x) : Nat) := by
    show rAbs k x = _
    unfold rAbs
    have e1 : x.toNat % k.format.signWeight = k.format.word false (rg k x) := rfl
    rw [e1, cf_of_num]
    have := (word_num (k := k) (b := false) h.num).notNaN
    rwa [Int.toNat_natCast] at this
  rw [e]
  refine ⟨word_num h.num, ?_⟩
  rw [word_fv h.num]
  unfold fv
  rw [sg_abs]; rfl

theorem wrap_succ {i : Nat} (h : i < 4611686018427387904) : IntKind.wrap .i64 ((i : Int) + 1) = ((i + 1 : Nat) : Int) := by
  rw [wrap64 (by omega) (by omega)]; rfl
end Go.Fx

/- Half of a number: taken by a division or by a product. -/
namespace Go.Fx
open Ieee

end Go.Fx

/- Bounds of floats: products, sums, quotients, conversions. -/
namespace Go.Fx
open Ieee

theorem quo_bound {k : FloatKind} {x y a : Int} (hx : Fin k x) (hy : Fin k y) (hy0 : fv k y ≠ 0) (ha : Has k a) (ha0 : 0 ≤ a) (h : 2 * ((fv k x).natAbs : Int) * unit k ≤ a * (fv k y).natAbs) :
    Fin k (real.bin .quo k x y) ∧ -a ≤ fv k (real.bin .quo k x y) ∧ fv k (real.bin .quo k x y) ≤ a := by
  obtain ⟨m, i, hr, hi, hv⟩ := fv_read hx
  obtain ⟨n, j, hr2, hj, hv2⟩ := fv_read hy
  have hn0 : n ≠ 0 := by
    intro h0; subst h0; apply hy0; rw [hv2]; simp; cases ng k y <;> rfl
  have hlp := lp_neg k
  obtain ⟨A, rfl⟩ : ∃ A : Nat, a = A := ⟨a.toNat, by omega⟩
  rw [hv, sg_abs, hv2, sg_abs] at h
  unfold unit at h
  generalize hlpe : k.format.leastPlace = lp at *
  have e : real.bin .quo k x y = (k.format.nearest (ng k x ^^ ng k y) (2 * ((m <<< (k.format.fractionBits + 2 + n.log2 - m.log2)) / n) + ((m <<< (k.format.fractionBits + 2 + n.log2 - m.log2)) % n != 0).toNat) (i - j - ((k.format.fractionBits + 2 + n.log2 - m.log2 : Nat) : Int) - 1) : Nat) := by
    show rBin .quo k x y = _
    unfold rBin floatBits Format.div
    simp only [hr, hr2, Datum.quotient]
    rw [if_neg hn0]
    rfl
  rw [e]
  have hD : m ≠ 0 → n ≤ m <<< (k.format.fractionBits + 2 + n.log2 - m.log2) := by
    intro hm
    rw [Nat.shiftLeft_eq]
    have h1 : 2 ^ m.log2 ≤ m := Nat.log2_self_le hm
    have h2 : n < 2 ^ (n.log2 + 1) := Nat.lt_log2_self
    have h3 : 2 ^ (n.log2 + 1) ≤ 2 ^ m.log2 * 2 ^ (k.format.fractionBits + 2 + n.log2 - m.log2) := by
      rw [← Nat.pow_add]; exact Nat.pow_le_pow_right (by omega) (by omega)
    have h4 := Nat.mul_le_mul_right (2 ^ (k.format.fractionBits + 2 + n.log2 - m.log2)) h1
    omega
  generalize hmore : k.format.fractionBits + 2 + n.log2 - m.log2 = more at *
  generalize hDe : m <<< more = D at *
  rw [Nat.shiftLeft_eq] at hDe
  have hmag : (2 * (D / n) + (D % n != 0).toNat) * n ≤ 4 * D := by
    have h1 := Nat.div_add_mod D n
    rw [Nat.add_mul, Nat.mul_assoc, Nat.mul_comm (D / n) n]
    rcases Nat.eq_zero_or_pos (D % n) with h0 | h0
    · rw [h0]; simp; omega
    · have hb : (D % n != 0).toNat ≤ 1 := by cases (D % n != 0) <;> simp
      have hm : m ≠ 0 := by intro hm0; subst hm0; rw [Nat.zero_mul] at hDe; subst hDe; simp at h0
      have := hD hm
      have h2 := Nat.mul_le_mul_right n hb
      omega
  generalize 2 * (D / n) + (D % n != 0).toNat = mag at *
  generalize hpl : i - j - (more : Int) - 1 = place
  generalize (ng k x ^^ ng k y) = g
  obtain ⟨u, hu1, hu2⟩ : ∃ u : Int, u ≤ place ∧ u ≤ lp := ⟨min place lp, by omega, by omega⟩
  have hR := Rounds.of (k := k) (neg := g) (mag := mag) (place := place) (u := u) (s := sg g (mag * 2 ^ (place - u).toNat)) hu1 (by rw [hlpe]; exact hu2) (sg_abs _ _) (fun h0 => by
    cases g with
    | false => simp only [sg, cond_false] at h0 ⊢; symm; apply decide_eq_false; omega
    | true => simp only [sg, cond_true] at h0 ⊢; symm; apply decide_eq_true; omega)
  rw [hlpe] at hR
  have key : mag * 2 ^ (place - u).toNat ≤ A * 2 ^ (lp - u).toNat := by
    have hpos : 0 < n * 2 ^ (j - lp).toNat := Nat.mul_pos (by omega) (Nat.two_pow_pos _)
    apply Nat.le_of_mul_le_mul_right _ hpos
    have k1 : 2 * (m * 2 ^ (i - lp).toNat) * 2 ^ (-lp).toNat ≤ A * (n * 2 ^ (j - lp).toNat) := by exact_mod_cast h
    have k2 := Nat.mul_le_mul_right (2 ^ (lp - u).toNat) k1
    have k3 := Nat.mul_le_mul_right (2 ^ (place - u).toNat * 2 ^ (j - lp).toNat) hmag
    have e1 : mag * 2 ^ (place - u).toNat * (n * 2 ^ (j - lp).toNat) = mag * n * (2 ^ (place - u).toNat * 2 ^ (j - lp).toNat) := by ac_rfl
    have e2 : A * 2 ^ (lp - u).toNat * (n * 2 ^ (j - lp).toNat) = A * (n * 2 ^ (j - lp).toNat) * 2 ^ (lp - u).toNat := by ac_rfl
    rw [e1, e2]
    refine Nat.le_trans k3 (Nat.le_trans ?_ k2)
    apply Nat.le_of_eq
    rw [← hDe]
    have p1 : 2 ^ more * (2 ^ (place - u).toNat * 2 ^ (j - lp).toNat) * 2 = 2 ^ (i - lp).toNat * 2 ^ (-lp).toNat * 2 ^ (lp - u).toNat := by
      rw [two_mul_two, two_mul_two, two_mul_two, two_mul_two, ← Nat.pow_succ]
      congr 1; omega
    have e3 : 4 * (m * 2 ^ more) * (2 ^ (place - u).toNat * 2 ^ (j - lp).toNat) = 2 * m * (2 ^ more * (2 ^ (place - u).toNat * 2 ^ (j - lp).toNat) * 2) := by
      rw [show (4 : Nat) = 2 * 2 by rfl]; ac_rfl
    rw [e3, p1]; ac_rfl
  have key2 : (mag : Int) * (2 : Int) ^ (place - u).toNat ≤ A * (2 : Int) ^ (lp - u).toNat := by exact_mod_cast key
  refine hR.within ha.neg ha ?_ ?_
  · have : -((A * 2 ^ (lp - u).toNat : Nat) : Int) ≤ sg g (mag * 2 ^ (place - u).toNat) := by cases g <;> simp only [sg, cond_true, cond_false] <;> omega
    rw [Int.neg_mul]; exact_mod_cast this
  · have : sg g (mag * 2 ^ (place - u).toNat) ≤ ((A * 2 ^ (lp - u).toNat : Nat) : Int) := by cases g <;> simp only [sg, cond_true, cond_false] <;> omega
    exact_mod_cast this

def Le (k : FloatKind) (e : Nat) (x : Int) : Prop := Fin k x ∧ (fv k x).natAbs ≤ 2 ^ e * unit k

def top : FloatKind → Nat
  | .f32 => 127
  | .f64 => 1000

theorem pw_lt (a b : Nat) (h : a < b) : 2 ^ a < 2 ^ b := Nat.pow_lt_pow_right (by omega) h
theorem pw_eq (a b c : Nat) (h : a + b = c) : 2 ^ a * 2 ^ b = 2 ^ c := by rw [two_mul_two, h]
theorem unit32 : unit .f32 = 2 ^ 149 := by decide +kernel
theorem unit64' : unit .f64 = 2 ^ 1074 := by decide +kernel

theorem has_two {k : FloatKind} {e : Nat} (h : e ≤ top k) : Has k ((2 ^ e * unit k : Nat) : Int) := by
  cases k with
  | f32 =>
    rw [unit32, two_mul_two, ← Nat.one_mul (2 ^ (e + 149))]
    have : e ≤ 127 := h
    exact Has.digits (k := .f32) false (m := 1) (d := e + 149) (by decide) (by
      rw [Nat.one_mul, big32]; exact pw_lt (e + 149) 277 (by omega))
  | f64 =>
    have h1 : 2 ^ e * unit .f64 = 2 ^ (e + 1074) := (congrArg (fun n => 2 ^ e * n) unit64').trans (two_mul_two e 1074)
    rw [h1, ← Nat.one_mul (2 ^ (e + 1074))]
    have : e ≤ 1000 := h
    exact Has.digits (k := .f64) false (m := 1) (d := e + 1074) (by decide) (by
      rw [Nat.one_mul, big64]; exact pw_lt (e + 1074) 2098 (by omega))

theorem Le.fin {k : FloatKind} {e : Nat} {x : Int} (h : Le k e x) : Fin k x := h.1
theorem Le.mono {k : FloatKind} {e d : Nat} {x : Int} (h : Le k e x) (hd : e ≤ d) : Le k d x :=
  ⟨h.1, Nat.le_trans h.2 (Nat.mul_le_mul_right _ (Nat.pow_le_pow_right (by omega) hd))⟩

theorem Le.of_rounds {k : FloatKind} {e : Nat} {s r : Int} {c : Nat} (h : Rounds k s c r) (he : e ≤ top k) (hs : s.natAbs ≤ 2 ^ e * unit k * c) : Le k e r := by
  have ht := has_two he
  obtain ⟨h1, h2, h3⟩ := h.within ht.neg ht (by rw [Int.neg_mul]; have : ((2 ^ e * unit k * c : Nat) : Int) = ((2 ^ e * unit k : Nat) : Int) * c := by push_cast; rfl
                                                omega) (by have : ((2 ^ e * unit k * c : Nat) : Int) = ((2 ^ e * unit k : Nat) : Int) * c := by push_cast; rfl
                                                           omega)
  exact ⟨h1, by omega⟩

theorem Le.add {k : FloatKind} {d e : Nat} {x y : Int} (hx : Le k d x) (hy : Le k d y) (he : d + 1 ≤ e) (ht : e ≤ top k) : Le k e (real.bin .add k x y) :=
  Le.of_rounds (add_rounds hx.1 hy.1) ht (by
    rw [Nat.mul_one]
    have h1 := hx.2; have h2 := hy.2
    have h3 : 2 ^ (d + 1) ≤ 2 ^ e := Nat.pow_le_pow_right (by omega) he
    have h4 := Nat.mul_le_mul_right (unit k) h3
    have h5 : 2 ^ (d + 1) * unit k = 2 * (2 ^ d * unit k) := by rw [Nat.pow_succ, Nat.mul_comm (2 ^ d) 2, Nat.mul_assoc]
    omega)

theorem Le.sub {k : FloatKind} {d e : Nat} {x y : Int} (hx : Le k d x) (hy : Le k d y) (he : d + 1 ≤ e) (ht : e ≤ top k) : Le k e (real.bin .sub k x y) :=
  Le.of_rounds (sub_rounds hx.1 hy.1) ht (by
    rw [Nat.mul_one]
    have h1 := hx.2; have h2 := hy.2
    have h3 : 2 ^ (d + 1) ≤ 2 ^ e := Nat.pow_le_pow_right (by omega) he
    have h4 := Nat.mul_le_mul_right (unit k) h3
    have h5 : 2 ^ (d + 1) * unit k = 2 * (2 ^ d * unit k) := by rw [Nat.pow_succ, Nat.mul_comm (2 ^ d) 2, Nat.mul_assoc]
    omega)

theorem Le.mul {k : FloatKind} {a b e : Nat} {x y : Int} (hx : Le k a x) (hy : Le k b y) (he : a + b ≤ e) (ht : e ≤ top k) : Le k e (real.bin .mul k x y) :=
  Le.of_rounds (mul_rounds hx.1 hy.1) ht (by
    rw [Int.natAbs_mul]
    refine Nat.le_trans (Nat.mul_le_mul hx.2 hy.2) ?_
    have h3 : 2 ^ (a + b) ≤ 2 ^ e := Nat.pow_le_pow_right (by omega) he
    have h4 := Nat.mul_le_mul_right (unit k * unit k) h3
    rw [← two_mul_two] at h4
    have e1 : 2 ^ a * unit k * (2 ^ b * unit k) = 2 ^ a * 2 ^ b * (unit k * unit k) := by ac_rfl
    have e2 : 2 ^ e * unit k * unit k = 2 ^ e * (unit k * unit k) := by ac_rfl
    omega)

theorem Le.quo {k : FloatKind} {a b e : Nat} {x y : Int} (hx : Le k a x) (hy : Fin k y) (hb : 2 ^ (b + 1) * unit k ≤ (fv k y).natAbs) (he : a ≤ e + b) (ht : e ≤ top k) : Le k e (real.bin .quo k x y) := by
  have hu := unit_pos k
  have hp : 0 < 2 ^ (b + 1) * unit k := Nat.mul_pos (Nat.two_pow_pos _) hu
  have hy0 : fv k y ≠ 0 := by intro h; rw [h] at hb; simp at hb; omega
  obtain ⟨h1, h2, h3⟩ := quo_bound hx.1 hy hy0 (has_two ht) (by omega) (by
    have h1 : 2 * (fv k x).natAbs * unit k ≤ 2 ^ e * unit k * (fv k y).natAbs := by
      refine Nat.le_trans ?_ (Nat.mul_le_mul_left _ hb)
      have := Nat.mul_le_mul_right (unit k) (Nat.mul_le_mul_left 2 hx.2)
      refine Nat.le_trans this ?_
      have h3 : 2 ^ (a + 1) ≤ 2 ^ (e + (b + 1)) := Nat.pow_le_pow_right (by omega) (by omega)
      have h4 := Nat.mul_le_mul_right (unit k * unit k) h3
      rw [← two_mul_two e, Nat.pow_succ] at h4
      have e1 : 2 * (2 ^ a * unit k) * unit k = 2 ^ a * 2 * (unit k * unit k) := by ac_rfl
      have e2 : 2 ^ e * unit k * (2 ^ (b + 1) * unit k) = 2 ^ e * 2 ^ (b + 1) * (unit k * unit k) := by ac_rfl
      omega
    exact_mod_cast h1)
  exact ⟨h1, by omega⟩

theorem Le.neg {k : FloatKind} {e : Nat} {x : Int} (h : Le k e x) : Le k e (real.neg k x) := by
  obtain ⟨h1, h2⟩ := neg_fin h.1
  exact ⟨h1, by rw [h2, Int.natAbs_neg]; exact h.2⟩

theorem Le.up {e : Nat} {x : Int} (h : Le .f32 e x) : Le .f64 e (real.conv .f32 .f64 x) := by
  obtain ⟨h1, h2⟩ := conv_up h.1
  refine ⟨h1, ?_⟩
  rw [h2, Int.natAbs_mul]
  have h3 := Nat.mul_le_mul_right (2 ^ 925) h.2
  have e1 : ((2 ^ 925 : Nat) : Int).natAbs = 2 ^ 925 := Int.natAbs_natCast _
  rw [e1]
  have e2 : 2 ^ e * unit .f32 * 2 ^ 925 = 2 ^ e * unit .f64 := by rw [unit32, unit64', Nat.mul_assoc, pw_eq 149 925 1074 rfl]
  rw [e2] at h3; exact h3

theorem Le.down {e : Nat} {x : Int} (h : Le .f64 e x) (he : e ≤ 127) : Le .f32 e (real.conv .f64 .f32 x) ∧ real.convOk .f64 .f32 x = true := by
  have hr := down_rounds h.1
  have hl : Le .f32 e (real.conv .f64 .f32 x) := Le.of_rounds hr he (by
    have e2 : 2 ^ e * unit .f32 * 2 ^ 925 = 2 ^ e * unit .f64 := by rw [unit32, unit64', Nat.mul_assoc, pw_eq 149 925 1074 rfl]
    rw [e2]; exact h.2)
  exact ⟨hl, convOk_down h.1 hl.1⟩

theorem Le.const {k : FloatKind} {c : Int} {e : Nat} (h : (decide (0 ≤ c) && decide (c.toNat < 2 * k.format.signWeight) && decide (rg k c < k.format.infRung) && decide ((fv k c).natAbs ≤ 2 ^ e * unit k)) = true) : Le k e c := by
  simp only [Bool.and_eq_true, decide_eq_true_eq] at h
  exact ⟨⟨h.1.1.1, h.1.1.2, h.1.2⟩, h.2⟩
end Go.Fx

