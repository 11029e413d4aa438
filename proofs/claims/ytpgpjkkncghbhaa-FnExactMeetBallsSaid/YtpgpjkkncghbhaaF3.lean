/- What the other texts of this claim stand on: an evaluator of loaded code, and floats. -/
import Derived.Test.YtpgpjkkncghbhaaF1
import Derived.Test.YtpgpjkkncghbhaaF4
/- Rounding: a number not above a word's number is not rounded above that word, nor one not below it below. -/
namespace Go.Fx
open Ieee

theorem min_gap {n drop : Nat} (h : n.log2 + 2 < drop) : n < 2 ^ drop ∧ 2 * n < 2 ^ (n.log2 + 2) := by
  have h1 : n < 2 ^ (n.log2 + 1) := Nat.lt_log2_self
  have h2 : 2 ^ (n.log2 + 2) = 2 * 2 ^ (n.log2 + 1) := by rw [Nat.pow_succ]; omega
  have h3 : 2 ^ (n.log2 + 2) ≤ 2 ^ drop := Nat.pow_le_pow_right (by omega) (by omega)
  omega

theorem cut_eq (neg : Bool) (n drop : Nat) : Toward.even.cut neg n drop = n / 2 ^ drop + (decide (2 ^ drop < 2 * (n % 2 ^ drop)) || (2 ^ drop == 2 * (n % 2 ^ drop) && n / 2 ^ drop % 2 == 1)).toNat := by
  unfold Toward.cut
  rcases Nat.lt_or_ge (n.log2 + 2) drop with h | h
  · obtain ⟨h1, h2⟩ := min_gap h
    have hp : 2 ^ (n.log2 + 2) ≤ 2 ^ drop := Nat.pow_le_pow_right (by omega) (by omega)
    have e1 : min drop (n.log2 + 2) = n.log2 + 2 := by omega
    simp only [e1, Nat.shiftLeft_eq, Nat.one_mul]
    rw [Nat.div_eq_of_lt (by omega), Nat.mod_eq_of_lt (by omega), Nat.div_eq_of_lt h1, Nat.mod_eq_of_lt h1]
    have key : ∀ g : Nat, 2 * n < g → (decide (g < 2 * n) || (g == 2 * n && 0 % 2 == 1)) = false := fun g hg => by
      rw [decide_eq_false (by omega)]; simp
    rw [key _ (by omega), key _ (by omega)]
  · have e1 : min drop (n.log2 + 2) = drop := by omega
    simp only [e1, Nat.shiftLeft_eq, Nat.one_mul]

theorem cut_le {neg : Bool} {n drop j : Nat} (h : n ≤ j * 2 ^ drop) : Toward.even.cut neg n drop ≤ j := by
  rw [cut_eq]
  have hg : 0 < 2 ^ drop := Nat.two_pow_pos drop
  generalize 2 ^ drop = g at h hg
  have hd := Nat.div_add_mod n g
  have hm := Nat.mod_lt n hg
  have hle : n / g ≤ j := Nat.div_le_of_le_mul (by rw [Nat.mul_comm]; exact h)
  rcases Nat.lt_or_ge (n / g) j with hlt | hge
  · have : (decide (g < 2 * (n % g)) || (g == 2 * (n % g) && n / g % 2 == 1)).toNat ≤ 1 := Bool.toNat_le _
    omega
  · have he : n / g = j := by omega
    have h0 : n % g = 0 := by rw [he, Nat.mul_comm] at hd; omega
    rw [h0]
    have b1 : (decide (g < 2 * 0) || (g == 2 * 0 && n / g % 2 == 1)) = false := by
      rw [decide_eq_false (by omega)]
      have : (g == 2 * 0) = false := by simp; omega
      rw [this]; rfl
    rw [b1]
    simp
    omega

theorem le_cut {neg : Bool} {n drop j : Nat} (h : j * 2 ^ drop ≤ n) : j ≤ Toward.even.cut neg n drop := by
  rw [cut_eq]
  have : j ≤ n / 2 ^ drop := (Nat.le_div_iff_mul_le (Nat.two_pow_pos drop)).2 h
  omega

def rv (f : Format) (r : Nat) : Nat := if r < f.binade then r else (f.binade + r % f.binade) * 2 ^ (r / f.binade - 1)

theorem binade_pos (f : Format) : 0 < f.binade := Nat.two_pow_pos _

theorem rv_digits (f : Format) {d k : Nat} (h1 : k < 2 * f.binade) (h2 : d = 0 ∨ f.binade ≤ k) : rv f (d * f.binade + k) = k * 2 ^ d := by
  have hb := binade_pos f
  unfold rv
  rcases Nat.lt_or_ge k f.binade with hk | hk
  · have : d = 0 := by omega
    subst this
    rw [if_pos (by omega)]; simp
  · have e : d * f.binade + k = (k - f.binade) + f.binade * (d + 1) := by rw [Nat.mul_succ, Nat.mul_comm]; omega
    rw [if_neg (by have := Nat.zero_le (d * f.binade); omega), e, Nat.add_mul_mod_self_left, Nat.add_mul_div_left _ _ hb, Nat.mod_eq_of_lt (by omega), Nat.div_eq_of_lt (by omega)]
    rw [show f.binade + (k - f.binade) = k by omega, show 0 + (d + 1) - 1 = d by omega]

theorem rung_digits (f : Format) (r : Nat) : ∃ d k, r = d * f.binade + k ∧ k < 2 * f.binade ∧ (d = 0 ∨ f.binade ≤ k) := by
  have hb := binade_pos f
  rcases Nat.lt_or_ge r f.binade with h | h
  · exact ⟨0, r, by simp, by omega, .inl rfl⟩
  · refine ⟨r / f.binade - 1, f.binade + r % f.binade, ?_, ?_, .inr (by omega)⟩
    · have hd := Nat.div_add_mod r f.binade
      have h1 : 1 ≤ r / f.binade := (Nat.le_div_iff_mul_le hb).2 (by omega)
      generalize hq : r / f.binade = q at *
      obtain ⟨q', rfl⟩ : ∃ q', q = q' + 1 := ⟨q - 1, by omega⟩
      rw [Nat.mul_succ, Nat.mul_comm] at hd
      simp only [Nat.add_sub_cancel]
      omega
    · have := Nat.mod_lt r hb
      omega

theorem rv_succ (f : Format) (r : Nat) : ∃ d k, rv f r = k * 2 ^ d ∧ rv f (r + 1) = (k + 1) * 2 ^ d ∧ r = d * f.binade + k ∧ k < 2 * f.binade ∧ (d = 0 ∨ f.binade ≤ k) := by
  obtain ⟨d, k, rfl, h1, h2⟩ := rung_digits f r
  have hb := binade_pos f
  refine ⟨d, k, rv_digits f h1 h2, ?_, rfl, h1, h2⟩
  rcases Nat.lt_or_ge (k + 1) (2 * f.binade) with hk | hk
  · rw [Nat.add_assoc]; exact rv_digits f hk (by omega)
  · have e : d * f.binade + k + 1 = (d + 1) * f.binade + f.binade := by rw [Nat.add_mul]; omega
    rw [e, rv_digits f (by omega) (.inr (Nat.le_refl _)), Nat.pow_succ]
    have : k + 1 = f.binade * 2 := by omega
    rw [this, Nat.mul_assoc, Nat.mul_comm 2]

theorem rv_lt_succ (f : Format) (r : Nat) : rv f r < rv f (r + 1) := by
  obtain ⟨d, k, h1, h2, _⟩ := rv_succ f r
  rw [h1, h2]
  exact (Nat.mul_lt_mul_right (Nat.two_pow_pos d)).2 (Nat.lt_succ_self k)

theorem rv_mono (f : Format) {r s : Nat} (h : r ≤ s) : rv f r ≤ rv f s := by
  induction h with
  | refl => exact Nat.le_refl _
  | step _ ih => exact Nat.le_trans ih (Nat.le_of_lt (rv_lt_succ f _))

theorem rv_strict (f : Format) {r s : Nat} (h : r < s) : rv f r < rv f s := Nat.lt_of_lt_of_le (rv_lt_succ f r) (rv_mono f h)

theorem rv_le_iff (f : Format) {r s : Nat} : rv f r ≤ rv f s ↔ r ≤ s := by
  refine ⟨fun h => ?_, rv_mono f⟩
  rcases Nat.lt_or_ge s r with h' | h'
  · have := rv_strict f h'; omega
  · exact h'

theorem rv_zero (f : Format) : rv f 0 = 0 := by unfold rv; rw [if_pos (binade_pos f)]

def rung0 (f : Format) (mag : Nat) (place : Int) : Nat :=
  let last := max (place + mag.log2 - f.fractionBits) f.leastPlace
  (last - f.leastPlace).toNat * f.binade + Toward.even.cut false (mag <<< (place - last).toNat) (last - place).toNat

def rung (f : Format) (mag : Nat) (place : Int) : Nat := if mag = 0 then 0 else min (rung0 f mag place) f.infRung

theorem nearest_rung (f : Format) (neg : Bool) (mag : Nat) (place : Int) : f.nearest neg mag place = f.word neg (rung f mag place) := by
  unfold Format.nearest rung rung0
  split
  · rfl
  · have e : ∀ a b, Toward.even.cut neg a b = Toward.even.cut false a b := fun a b => rfl
    simp only [e]

def upTo (f : Format) (mag : Nat) (place : Int) (v : Nat) : Prop := mag * 2 ^ (place - f.leastPlace).toNat ≤ v * 2 ^ (f.leastPlace - place).toNat
def downTo (f : Format) (mag : Nat) (place : Int) (v : Nat) : Prop := v * 2 ^ (f.leastPlace - place).toNat ≤ mag * 2 ^ (place - f.leastPlace).toNat

theorem two_mul_two (a b : Nat) : 2 ^ a * 2 ^ b = 2 ^ (a + b) := (Nat.pow_add 2 a b).symm

theorem pw_le (a b c : Nat) (h : a + b ≤ c) : 2 ^ a * 2 ^ b ≤ 2 ^ c := by
  rw [two_mul_two]; exact Nat.pow_le_pow_right (by omega) h

structure Kept (f : Format) (mag : Nat) (place : Int) (d k : Nat) : Prop where
  rung : rung0 f mag place = d * f.binade + k
  up : ∀ j, downTo f mag place (j * 2 ^ d) → j ≤ k
  down : ∀ j, upTo f mag place (j * 2 ^ d) → k ≤ j
  low : d = 0 ∨ downTo f mag place (f.binade * 2 ^ d)
  high : k ≤ 2 * f.binade

theorem kept (f : Format) {mag : Nat} (place : Int) (hm : mag ≠ 0) : ∃ d k, Kept f mag place d k := by
  have hb := binade_pos f
  have hbd : f.binade = 2 ^ f.fractionBits := rfl
  have hl1 : 2 ^ mag.log2 ≤ mag := Nat.log2_self_le hm
  have hl2 : mag < 2 ^ (mag.log2 + 1) := Nat.lt_log2_self
  generalize hL : mag.log2 = L at hl1 hl2
  generalize hl : f.leastPlace = lp
  obtain ⟨last, hlast⟩ : ∃ last, last = max (place + L - f.fractionBits) lp := ⟨_, rfl⟩
  refine ⟨(last - lp).toNat, Toward.even.cut false (mag <<< (place - last).toNat) (last - place).toNat, ?_, fun j hj => ?_, fun j hj => ?_, ?_, ?_⟩
  · unfold rung0; simp only [hL, hl, ← hlast]
  · refine le_cut ?_
    unfold downTo at hj
    rw [hl] at hj
    rw [Nat.shiftLeft_eq]
    rcases Int.le_total place last with h | h
    · rw [show (place - last).toNat = 0 by omega, Nat.pow_zero, Nat.mul_one]
      rcases Int.le_total place lp with h2 | h2
      · rw [show (place - lp).toNat = 0 by omega, Nat.pow_zero, Nat.mul_one, Nat.mul_assoc, two_mul_two] at hj
        rw [show (last - place).toNat = (last - lp).toNat + (lp - place).toNat by omega]; exact hj
      · rw [show (lp - place).toNat = 0 by omega, Nat.pow_zero, Nat.mul_one] at hj
        rw [show (last - lp).toNat = (last - place).toNat + (place - lp).toNat by omega, ← two_mul_two, ← Nat.mul_assoc] at hj
        exact Nat.le_of_mul_le_mul_right hj (Nat.two_pow_pos _)
    · rw [show (last - place).toNat = 0 by omega, Nat.pow_zero, Nat.mul_one]
      rw [show (lp - place).toNat = 0 by omega, Nat.pow_zero, Nat.mul_one, show (place - lp).toNat = (place - last).toNat + (last - lp).toNat by omega, ← two_mul_two, ← Nat.mul_assoc] at hj
      exact Nat.le_of_mul_le_mul_right hj (Nat.two_pow_pos _)
  · refine cut_le ?_
    unfold upTo at hj
    rw [hl] at hj
    rw [Nat.shiftLeft_eq]
    rcases Int.le_total place last with h | h
    · rw [show (place - last).toNat = 0 by omega, Nat.pow_zero, Nat.mul_one]
      rcases Int.le_total place lp with h2 | h2
      · rw [show (place - lp).toNat = 0 by omega, Nat.pow_zero, Nat.mul_one, Nat.mul_assoc, two_mul_two] at hj
        rw [show (last - place).toNat = (last - lp).toNat + (lp - place).toNat by omega]; exact hj
      · rw [show (lp - place).toNat = 0 by omega, Nat.pow_zero, Nat.mul_one] at hj
        rw [show (last - lp).toNat = (last - place).toNat + (place - lp).toNat by omega, ← two_mul_two, ← Nat.mul_assoc] at hj
        exact Nat.le_of_mul_le_mul_right hj (Nat.two_pow_pos _)
    · rw [show (last - place).toNat = 0 by omega, Nat.pow_zero, Nat.mul_one]
      rw [show (lp - place).toNat = 0 by omega, Nat.pow_zero, Nat.mul_one, show (place - lp).toNat = (place - last).toNat + (last - lp).toNat by omega, ← two_mul_two, ← Nat.mul_assoc] at hj
      exact Nat.le_of_mul_le_mul_right hj (Nat.two_pow_pos _)
  · rcases Int.le_total (place + L - f.fractionBits) lp with h | h
    · left; omega
    · right
      unfold downTo
      rw [hl, hbd, two_mul_two, two_mul_two]
      refine Nat.le_trans ?_ (Nat.mul_le_mul_right _ hl1)
      rw [two_mul_two]
      exact Nat.pow_le_pow_right (by omega) (by omega)
  · refine cut_le ?_
    rw [Nat.shiftLeft_eq, hbd, show 2 * 2 ^ f.fractionBits = 2 ^ (f.fractionBits + 1) by rw [Nat.pow_succ]; omega, two_mul_two]
    refine Nat.le_trans (Nat.mul_le_mul_right _ (Nat.le_of_lt hl2)) ?_
    rw [two_mul_two]
    exact Nat.pow_le_pow_right (by omega) (by omega)

theorem upTo_mono {f : Format} {mag : Nat} {place : Int} {v u : Nat} (h : upTo f mag place v) (hv : v ≤ u) : upTo f mag place u :=
  Nat.le_trans h (Nat.mul_le_mul_right _ hv)
theorem downTo_mono {f : Format} {mag : Nat} {place : Int} {v u : Nat} (h : downTo f mag place v) (hv : u ≤ v) : downTo f mag place u :=
  Nat.le_trans (Nat.mul_le_mul_right _ hv) h

theorem rung0_le {f : Format} {mag : Nat} {place : Int} {r : Nat} (hm : mag ≠ 0) (h : upTo f mag place (rv f r)) : rung0 f mag place ≤ r := by
  obtain ⟨d, k, K⟩ := kept f place hm
  rw [K.rung]
  rcases Nat.lt_or_ge r (d * f.binade + k) with hlt | hge
  · exfalso
    have hb := binade_pos f
    have hk0 : 0 < k := by
      rcases Nat.eq_zero_or_pos k with h0 | h0
      · have hd : 0 < d := by
          rcases Nat.eq_zero_or_pos d with hd | hd
          · subst hd; subst h0; simp at hlt
          · exact hd
        rcases K.low with hl | hl
        · omega
        · have := K.up _ hl; omega
      · exact h0
    -- the rung before
    have hle : rv f r ≤ rv f (d * f.binade + (k - 1)) := rv_mono f (by omega)
    rcases Nat.lt_or_ge (k - 1) f.binade with h1 | h1
    · rcases Nat.eq_zero_or_pos d with hd | hd
      · subst hd
        have := K.down (k - 1) (upTo_mono h (by rw [rv_digits f (by omega) (.inl rfl)] at hle; exact hle))
        omega
      · -- the least of a binade: the number is not below it
        have hkb : k = f.binade := by
          rcases K.low with hl | hl
          · omega
          · have := K.up _ hl; omega
        have hl : downTo f mag place (f.binade * 2 ^ d) := by
          rcases K.low with hl | hl
          · omega
          · exact hl
        have hs : rv f r < f.binade * 2 ^ d := by
          have := rv_strict f hlt
          rw [hkb, rv_digits f (by omega) (.inr (Nat.le_refl _))] at this
          exact this
        have h2 := Nat.lt_of_lt_of_le ((Nat.mul_lt_mul_right (Nat.two_pow_pos (f.leastPlace - place).toNat)).2 hs) hl
        exact absurd h (Nat.not_le.2 h2)
    · have hk2 := K.high
      have := K.down (k - 1) (upTo_mono h (by rw [rv_digits f (by omega) (.inr h1)] at hle; exact hle))
      omega
  · exact hge

theorem le_rung0 {f : Format} {mag : Nat} {place : Int} {r : Nat} (hm : mag ≠ 0) (h : downTo f mag place (rv f r)) : r ≤ rung0 f mag place := by
  obtain ⟨d, k, K⟩ := kept f place hm
  rw [K.rung]
  rcases Nat.lt_or_ge (d * f.binade + k) r with hlt | hge
  · exfalso
    have hb := binade_pos f
    have hk2 := K.high
    have hlow : d = 0 ∨ f.binade ≤ k := by
      rcases K.low with hl | hl
      · exact .inl hl
      · exact .inr (K.up _ hl)
    have hge : (k + 1) * 2 ^ d ≤ rv f r := by
      refine Nat.le_trans ?_ (rv_mono f (show d * f.binade + k + 1 ≤ r from hlt))
      rcases Nat.lt_or_ge k (2 * f.binade) with h1 | h1
      · have h3 := rv_succ f (d * f.binade + k)
        obtain ⟨d', k', e1, e2, e3, e4, e5⟩ := h3
        have e6 := rv_digits f h1 hlow
        rw [e1] at e6
        have e7 := rv_lt_succ f (d * f.binade + k)
        -- the same digits
        rcases Nat.lt_or_ge (k + 1) (2 * f.binade) with h4 | h4
        · rw [Nat.add_assoc, rv_digits f h4 (by omega)]; exact Nat.le_refl _
        · have e : d * f.binade + k + 1 = (d + 1) * f.binade + f.binade := by rw [Nat.add_mul]; omega
          rw [e, rv_digits f (by omega) (.inr (Nat.le_refl _)), Nat.pow_succ]
          have : k + 1 = f.binade * 2 := by omega
          rw [this, Nat.mul_assoc, Nat.mul_comm 2]
          exact Nat.le_refl _
      · have e : d * f.binade + k + 1 = (d + 1) * f.binade + (f.binade + 1) := by rw [Nat.add_mul]; omega
        rcases Nat.lt_or_ge (f.binade + 1) (2 * f.binade) with h4 | h4
        · rw [e, rv_digits f h4 (.inr (by omega)), Nat.pow_succ, ← Nat.mul_assoc, Nat.mul_right_comm]
          exact Nat.mul_le_mul_right _ (by omega)
        · have hb1 : f.binade = 1 := by omega
          have e2 : d * f.binade + k + 1 = (d + 2) * f.binade + f.binade := by rw [Nat.add_mul]; omega
          rw [e2, rv_digits f (by omega) (.inr (Nat.le_refl _)), Nat.pow_add]
          have : k = 2 := by omega
          rw [this, hb1, Nat.one_mul, Nat.mul_comm]
          exact Nat.mul_le_mul_left _ (by decide)
    have := K.up (k + 1) (downTo_mono h hge)
    omega
  · exact hge

theorem rung_le {f : Format} {mag : Nat} {place : Int} {r : Nat} (h : upTo f mag place (rv f r)) : rung f mag place ≤ r := by
  unfold rung
  split
  · omega
  · rename_i hm
    have := rung0_le hm h
    omega

theorem le_rung {f : Format} {mag : Nat} {place : Int} {r : Nat} (hr : r ≤ f.infRung) (h : downTo f mag place (rv f r)) : r ≤ rung f mag place := by
  unfold rung
  split
  · rename_i hm
    subst hm
    unfold downTo at h
    rw [Nat.zero_mul] at h
    have h0 : rv f r = 0 := by
      rcases Nat.eq_zero_or_pos (rv f r) with h0 | h0
      · exact h0
      · have := Nat.mul_pos h0 (Nat.two_pow_pos (f.leastPlace - place).toNat); omega
    rcases Nat.eq_zero_or_pos r with hr0 | hr0
    · omega
    · have := rv_strict f hr0; rw [rv_zero] at this; omega
  · rename_i hm
    have := le_rung0 hm h
    omega

end Go.Fx

/- Numbers of words as whole numbers of least units; what the operations do to them. -/
namespace Go.Fx
open Ieee

def rg (k : FloatKind) (x : Int) : Nat := x.toNat % k.format.signWeight
def ng (k : FloatKind) (x : Int) : Bool := x.toNat / k.format.signWeight % 2 == 1
structure Num (k : FloatKind) (x : Int) : Prop where
  nonneg : 0 ≤ x
  word : x.toNat < 2 * k.format.signWeight
  num : rg k x ≤ k.format.infRung
structure Fin (k : FloatKind) (x : Int) : Prop where
  nonneg : 0 ≤ x
  word : x.toNat < 2 * k.format.signWeight
  fin : rg k x < k.format.infRung
theorem Fin.toNum {k : FloatKind} {x : Int} (h : Fin k x) : Num k x := ⟨h.nonneg, h.word, Nat.le_of_lt h.fin⟩

def sg (b : Bool) (n : Nat) : Int := bif b then -(n : Int) else n
def fv (k : FloatKind) (x : Int) : Int := sg (ng k x) (rv k.format (rg k x))

def big (k : FloatKind) : Nat := rv k.format k.format.infRung

theorem sw_pos (k : FloatKind) : 0 < k.format.signWeight := Nat.two_pow_pos _

theorem read_num {k : FloatKind} {x : Int} (h : rg k x < k.format.infRung) : ∃ m e, k.format.read x.toNat = .number (ng k x) m e ∧ k.format.leastPlace ≤ e ∧ m * 2 ^ (e - k.format.leastPlace).toNat = rv k.format (rg k x) := by
  unfold Format.read rv
  have e0 : x.toNat % k.format.signWeight = rg k x := rfl
  simp only [e0, if_pos h]
  split
  · exact ⟨_, _, rfl, Int.le_refl _, by simp⟩
  · refine ⟨_, _, rfl, by omega, ?_⟩
    congr 2
    omega

theorem read_inf {k : FloatKind} {x : Int} (h : rg k x = k.format.infRung) (hb : k.format.binade ≤ k.format.infRung) : k.format.read x.toNat = .infinity (ng k x) := by
  unfold Format.read
  have e0 : x.toNat % k.format.signWeight = rg k x := rfl
  simp only [e0]
  rw [if_neg (by omega), if_neg (by omega), if_pos h]
  rfl

theorem binade_le_inf (k : FloatKind) : k.format.binade ≤ k.format.infRung := by cases k <;> decide

theorem isNaNb_rg (k : FloatKind) (x : Int) : isNaNb k x.toNat = decide (k.format.infRung < rg k x) := by
  unfold isNaNb Format.read
  have e0 : x.toNat % k.format.signWeight = rg k x := rfl
  have := binade_le_inf k
  simp only [e0]
  split
  · rw [decide_eq_false (by omega)]; rfl
  · split
    · rw [decide_eq_false (by omega)]; rfl
    · split
      · rw [decide_eq_false (by omega)]; rfl
      · rw [decide_eq_true (by omega)]; rfl

theorem Num.notNaN {k : FloatKind} {x : Int} (h : Num k x) : isNaNb k x.toNat = false := by rw [isNaNb_rg, decide_eq_false (Nat.not_lt.2 h.num)]

theorem word_rg {k : FloatKind} {b : Bool} {r : Nat} (h : r ≤ k.format.infRung) : rg k (k.format.word b r : Nat) = r ∧ ng k (k.format.word b r : Nat) = b ∧ k.format.word b r < 2 * k.format.signWeight := by
  have hs := k.format.infRung_lt
  have hw := sw_pos k
  unfold rg ng Format.word
  cases b with
  | true =>
    simp only [if_true, Int.toNat_natCast]
    rw [Nat.add_mod_left, Nat.mod_eq_of_lt (by omega), Nat.add_div_left _ hw, Nat.div_eq_of_lt (by omega)]
    exact ⟨rfl, rfl, by omega⟩
  | false =>
    simp only [Bool.false_eq_true, if_false, Int.toNat_natCast]
    rw [Nat.mod_eq_of_lt (by omega), Nat.div_eq_of_lt (by omega)]
    exact ⟨rfl, rfl, by omega⟩

theorem word_num {k : FloatKind} {b : Bool} {r : Nat} (h : r ≤ k.format.infRung) : Num k (k.format.word b r : Nat) :=
  ⟨by omega, by rw [Int.toNat_natCast]; exact (word_rg h).2.2, by rw [(word_rg h).1]; exact h⟩

theorem word_fv {k : FloatKind} {b : Bool} {r : Nat} (h : r ≤ k.format.infRung) : fv k (k.format.word b r : Nat) = sg b (rv k.format r) := by
  unfold fv; rw [(word_rg h).1, (word_rg h).2.1]

theorem Num.eq_word {k : FloatKind} {x : Int} (h : Num k x) : x = (k.format.word (ng k x) (rg k x) : Nat) := by
  have hw := sw_pos k
  have h0 := h.nonneg
  have h1 := h.word
  have hx : x = (x.toNat : Nat) := by omega
  generalize x.toNat = n at *
  subst hx
  unfold rg ng Format.word
  simp only [Int.toNat_natCast]
  have hd := Nat.div_add_mod n k.format.signWeight
  rcases Nat.lt_or_ge n k.format.signWeight with hl | hl
  · rw [Nat.div_eq_of_lt hl, Nat.mod_eq_of_lt hl]; simp
  · have : n / k.format.signWeight = 1 := by
      apply Nat.div_eq_of_lt_le <;> omega
    rw [this] at hd ⊢
    simp; omega

theorem Num.ext {k : FloatKind} {x y : Int} (hx : Num k x) (hy : Num k y) (h1 : ng k x = ng k y) (h2 : rg k x = rg k y) : x = y := by
  rw [hx.eq_word, hy.eq_word, h1, h2]

theorem sg_abs (b : Bool) (n : Nat) : (sg b n).natAbs = n := by cases b <;> simp [sg]

theorem Num.fin_iff {k : FloatKind} {x : Int} (h : Num k x) : Fin k x ↔ -(big k : Int) < fv k x ∧ fv k x < big k := by
  have hr := rv_mono k.format h.num
  constructor
  · intro hf
    have := rv_strict k.format hf.fin
    unfold fv big
    cases ng k x <;> simp [sg] <;> omega
  · rintro ⟨h1, h2⟩
    refine ⟨h.nonneg, h.word, ?_⟩
    rcases Nat.lt_or_ge (rg k x) k.format.infRung with h3 | h3
    · exact h3
    · have : rg k x = k.format.infRung := Nat.le_antisymm h.num h3
      unfold fv at h1 h2
      rw [this] at h1 h2
      unfold big at h1 h2
      cases hn : ng k x <;> simp [sg, hn] at h1 h2

theorem upTo_unit {f : Format} {mag : Nat} {place u : Int} {v : Nat} (h1 : u ≤ place) (h2 : u ≤ f.leastPlace) : upTo f mag place v ↔ mag * 2 ^ (place - u).toNat ≤ v * 2 ^ (f.leastPlace - u).toNat := by
  unfold upTo
  rcases Int.le_total place f.leastPlace with h | h
  · rw [show (place - f.leastPlace).toNat = 0 by omega, Nat.pow_zero, Nat.mul_one, show (f.leastPlace - u).toNat = (f.leastPlace - place).toNat + (place - u).toNat by omega, ← two_mul_two, ← Nat.mul_assoc]
    exact (Nat.mul_le_mul_right_iff (Nat.two_pow_pos _)).symm
  · rw [show (f.leastPlace - place).toNat = 0 by omega, Nat.pow_zero, Nat.mul_one, show (place - u).toNat = (place - f.leastPlace).toNat + (f.leastPlace - u).toNat by omega, ← two_mul_two, ← Nat.mul_assoc]
    exact (Nat.mul_le_mul_right_iff (Nat.two_pow_pos _)).symm

theorem downTo_unit {f : Format} {mag : Nat} {place u : Int} {v : Nat} (h1 : u ≤ place) (h2 : u ≤ f.leastPlace) : downTo f mag place v ↔ v * 2 ^ (f.leastPlace - u).toNat ≤ mag * 2 ^ (place - u).toNat := by
  unfold downTo
  rcases Int.le_total place f.leastPlace with h | h
  · rw [show (place - f.leastPlace).toNat = 0 by omega, Nat.pow_zero, Nat.mul_one, show (f.leastPlace - u).toNat = (f.leastPlace - place).toNat + (place - u).toNat by omega, ← two_mul_two, ← Nat.mul_assoc]
    exact (Nat.mul_le_mul_right_iff (Nat.two_pow_pos _)).symm
  · rw [show (f.leastPlace - place).toNat = 0 by omega, Nat.pow_zero, Nat.mul_one, show (place - u).toNat = (place - f.leastPlace).toNat + (f.leastPlace - u).toNat by omega, ← two_mul_two, ← Nat.mul_assoc]
    exact (Nat.mul_le_mul_right_iff (Nat.two_pow_pos _)).symm

structure Rounds (k : FloatKind) (s : Int) (c : Nat) (r : Int) : Prop where
  num : Num k r
  le : ∀ z, Num k z → s ≤ fv k z * c → fv k r ≤ fv k z
  ge : ∀ z, Num k z → fv k z * c ≤ s → fv k z ≤ fv k r

theorem rung_le_inf (f : Format) (mag : Nat) (place : Int) : rung f mag place ≤ f.infRung := by
  unfold rung; split
  · omega
  · exact Nat.min_le_right _ _

theorem Rounds.of {k : FloatKind} {neg : Bool} {mag : Nat} {place u s : Int} (h1 : u ≤ place) (h2 : u ≤ k.format.leastPlace) (hs : s.natAbs = mag * 2 ^ (place - u).toNat) (hn : s ≠ 0 → neg = decide (s < 0)) :
    Rounds k s (2 ^ (k.format.leastPlace - u).toNat) (k.format.nearest neg mag place : Nat) := by
  rw [nearest_rung]
  have hri := rung_le_inf k.format mag place
  have hc : 0 < 2 ^ (k.format.leastPlace - u).toNat := Nat.two_pow_pos _
  generalize hcc : 2 ^ (k.format.leastPlace - u).toNat = c at hc
  have hup : ∀ r, s.natAbs ≤ rv k.format r * c → rung k.format mag place ≤ r := fun r h => rung_le ((upTo_unit h1 h2).2 (by rw [hcc, ← hs]; exact h))
  have hdn : ∀ r, r ≤ k.format.infRung → rv k.format r * c ≤ s.natAbs → r ≤ rung k.format mag place := fun r hr h => le_rung hr ((downTo_unit h1 h2).2 (by rw [hcc, ← hs]; exact h))
  generalize rung k.format mag place = q at *
  have hN : ∀ z : Int, fv k z * (c : Int) = sg (ng k z) (rv k.format (rg k z) * c) := fun z => by
    unfold fv; cases ng k z <;> simp [sg, Int.neg_mul]
  have hz0 : ∀ r, rv k.format r * c = 0 → rv k.format r = 0 := fun r h => by
    rcases Nat.eq_zero_or_pos (rv k.format r) with h4 | h4
    · exact h4
    · have := Nat.mul_pos h4 hc; omega
  have hq0 : s = 0 → sg neg (rv k.format q) = 0 := fun hs0 => by
    have := hup 0 (by rw [hs0]; simp)
    have hq : q = 0 := by omega
    rw [hq, rv_zero]; cases neg <;> rfl
  refine ⟨word_num hri, fun z hz h => ?_, fun z hz h => ?_⟩
  · rw [word_fv hri]
    rw [hN] at h
    unfold fv
    have h5 := hup (rg k z); have h6 := hdn (rg k z) hz.num; have h7 := hz0 (rg k z)
    generalize rv k.format (rg k z) * c = N at *
    by_cases hs0 : s = 0
    · rw [hq0 hs0]
      cases hz' : ng k z with
      | false => simp [sg]
      | true => rw [hz'] at h; simp only [sg, cond_true] at h ⊢; have := h7 (by omega); omega
    · rw [hn hs0]
      by_cases hneg : s < 0
      · rw [decide_eq_true hneg]
        cases hz' : ng k z with
        | false => simp only [sg, cond_true, cond_false]; omega
        | true =>
          rw [hz'] at h
          simp only [sg, cond_true] at h ⊢
          have := rv_mono k.format (h6 (by omega))
          omega
      · rw [decide_eq_false hneg]
        cases hz' : ng k z with
        | true => rw [hz'] at h; simp only [sg, cond_true] at h; exfalso; omega
        | false =>
          rw [hz'] at h
          simp only [sg, cond_false] at h ⊢
          have := rv_mono k.format (h5 (by omega))
          omega
  · rw [word_fv hri]
    rw [hN] at h
    unfold fv
    have h5 := hup (rg k z); have h6 := hdn (rg k z) hz.num; have h7 := hz0 (rg k z)
    generalize rv k.format (rg k z) * c = N at *
    by_cases hs0 : s = 0
    · rw [hq0 hs0]
      cases hz' : ng k z with
      | true => simp only [sg, cond_true]; omega
      | false => rw [hz'] at h; simp only [sg, cond_false] at h ⊢; have := h7 (by omega); omega
    · rw [hn hs0]
      by_cases hneg : s < 0
      · rw [decide_eq_true hneg]
        cases hz' : ng k z with
        | false => rw [hz'] at h; simp only [sg, cond_false] at h; exfalso; omega
        | true =>
          rw [hz'] at h
          simp only [sg, cond_true] at h ⊢
          have := rv_mono k.format (h5 (by omega))
          omega
      · rw [decide_eq_false hneg]
        cases hz' : ng k z with
        | true => simp only [sg, cond_true, cond_false]; omega
        | false =>
          rw [hz'] at h
          simp only [sg, cond_false] at h ⊢
          have := rv_mono k.format (h6 (by omega))
          omega
end Go.Fx

/- The operations on floats, told by the numbers of the words. -/
namespace Go.Fx
open Ieee

theorem sg_mul (b : Bool) (n c : Nat) : sg b (n * c) = sg b n * c := by cases b <;> simp [sg, Int.neg_mul]

section
variable {k : FloatKind} {x y : Int}
end

theorem Rounds.one {k : FloatKind} {s r : Int} (h : Rounds k s (2 ^ (k.format.leastPlace - k.format.leastPlace).toNat) r) : Rounds k s 1 r := by
  rwa [Int.sub_self, Int.toNat_zero, Nat.pow_zero] at h

def unit (k : FloatKind) : Nat := 2 ^ (-k.format.leastPlace).toNat

theorem lp_neg (k : FloatKind) : k.format.leastPlace < 0 := by cases k <;> decide

theorem Rounds.eq {k : FloatKind} {s r z : Int} {c : Nat} (h : Rounds k s c r) (hz : Num k z) (he : s = fv k z * c) : fv k r = fv k z :=
  Int.le_antisymm (h.le z hz (Int.le_of_eq he)) (h.ge z hz (Int.le_of_eq he.symm))

theorem rep {f : Format} : ∀ (d m : Nat), m ≤ 2 * f.binade → ∃ r, rv f r = m * 2 ^ d
  | 0, m, h => by
    have hb := binade_pos f
    rcases Nat.lt_or_ge m (2 * f.binade) with h1 | h1
    · exact ⟨0 * f.binade + m, rv_digits f h1 (.inl rfl)⟩
    · have : m = 2 * f.binade := by omega
      exact ⟨1 * f.binade + f.binade, by rw [rv_digits f (by omega) (.inr (Nat.le_refl _)), this]; omega⟩
  | d + 1, m, h => by
    have hb := binade_pos f
    rcases Nat.lt_or_ge m f.binade with h1 | h1
    · obtain ⟨r, hr⟩ := rep (f := f) d (2 * m) (by omega)
      exact ⟨r, by rw [hr, Nat.pow_succ, Nat.mul_comm 2 m, Nat.mul_assoc, Nat.mul_comm 2]⟩
    · rcases Nat.lt_or_ge m (2 * f.binade) with h2 | h2
      · exact ⟨(d + 1) * f.binade + m, rv_digits f h2 (.inr h1)⟩
      · have : m = 2 * f.binade := by omega
        refine ⟨(d + 2) * f.binade + f.binade, ?_⟩
        rw [rv_digits f (by omega) (.inr (Nat.le_refl _)), this, Nat.pow_succ 2 (d + 1), Nat.mul_comm 2, Nat.mul_assoc, Nat.mul_comm 2 (2 ^ (d + 1))]

theorem rep_word {k : FloatKind} {d m : Nat} (neg : Bool) (h : m ≤ 2 * k.format.binade) (hb : m * 2 ^ d ≤ big k) : ∃ z, Num k z ∧ fv k z = sg neg (m * 2 ^ d) := by
  obtain ⟨r, hr⟩ := rep (f := k.format) d m h
  have hri : r ≤ k.format.infRung := by
    unfold big at hb; rw [← hr] at hb; exact (rv_le_iff _).1 hb
  exact ⟨_, word_num hri, by rw [word_fv hri, hr]⟩
end Go.Fx

/- Conversions between the floats, from and to whole numbers; whole parts. -/
namespace Go.Fx
open Ieee

theorem read_number {k : FloatKind} {x : Int} {g : Bool} {m : Nat} {e : Int} (h : k.format.read x.toNat = .number g m e) : rg k x < k.format.infRung ∧ g = ng k x ∧ k.format.leastPlace ≤ e ∧ m * 2 ^ (e - k.format.leastPlace).toNat = rv k.format (rg k x) := by
  have hbi := binade_le_inf k
  rcases Nat.lt_or_ge (rg k x) k.format.infRung with h1 | h1
  · obtain ⟨m', e', r1, r2, r3⟩ := read_num h1
    rw [h] at r1
    cases r1
    exact ⟨h1, rfl, r2, r3⟩
  · exfalso
    rcases Nat.eq_or_lt_of_le h1 with h2 | h2
    · rw [read_inf h2.symm hbi] at h; cases h
    · have : isNaNb k x.toNat = true := by rw [isNaNb_rg, decide_eq_true h2]
      obtain ⟨s, t, hr⟩ := read_nan this
      rw [hr] at h; cases h

theorem fin_notInf {k : FloatKind} {x : Int} (h : Fin k x) : (k.format.read x.toNat).isInfinity = false := by
  obtain ⟨m, e, h1, _⟩ := read_num h.fin
  rw [h1]; rfl

theorem up_rounds {x : Int} (h : Fin .f32 x) : ∃ m e, FloatKind.f32.format.read x.toNat = .number (ng .f32 x) m e ∧ Rounds .f64 (fv .f32 x * (2 ^ 925 : Nat)) 1 (FloatKind.f64.format.nearest (ng .f32 x) m e : Nat) := by
  obtain ⟨m, e, h1, h2, h3⟩ := read_num h.fin
  refine ⟨m, e, h1, ?_⟩
  have hl : FloatKind.f32.format.leastPlace = -149 := by decide
  have hl2 : FloatKind.f64.format.leastPlace = -1074 := by decide
  rw [hl] at h2 h3
  apply Rounds.one
  have e1 : fv .f32 x * (2 ^ 925 : Nat) = sg (ng .f32 x) (m * 2 ^ (e - -1074).toNat) := by
    unfold fv
    rw [← h3, ← sg_mul, Nat.mul_assoc, two_mul_two (e - -149).toNat 925]
    congr 3; omega
  refine Rounds.of (u := FloatKind.f64.format.leastPlace) (by omega) (Int.le_refl _) ?_ fun hne => ?_
  · rw [e1, sg_abs, hl2]
  · rw [e1] at hne ⊢
    cases hn : ng .f32 x
    · exact (decide_eq_false (by simp only [sg, cond_false]; omega)).symm
    · rw [hn] at hne
      simp only [sg, cond_true] at hne ⊢
      exact (decide_eq_true (by omega)).symm

theorem big32 : big .f32 = 2 ^ 277 := by decide +kernel
theorem big64 : big .f64 = 2 ^ 2098 := by decide +kernel

theorem rv32_digits (r : Nat) : ∃ m d, m ≤ 2 * FloatKind.f64.format.binade ∧ rv FloatKind.f32.format r = m * 2 ^ d := by
  obtain ⟨d, k, rfl, h1, h2⟩ := rung_digits FloatKind.f32.format r
  refine ⟨k, d, ?_, rv_digits _ h1 h2⟩
  have e1 : FloatKind.f32.format.binade = 8388608 := by decide
  have e2 : FloatKind.f64.format.binade = 4503599627370496 := by decide
  omega

theorem up_word {x : Int} (h : Fin .f32 x) : ∃ z, Fin .f64 z ∧ fv .f64 z = fv .f32 x * (2 ^ 925 : Nat) := by
  obtain ⟨m, d, h1, h2⟩ := rv32_digits (rg .f32 x)
  have hlt : rv FloatKind.f32.format (rg .f32 x) < big .f32 := rv_strict _ h.fin
  have hb : m * 2 ^ (d + 925) ≤ big .f64 := by
    rw [← two_mul_two, ← Nat.mul_assoc, ← h2, big64]
    refine Nat.le_trans (Nat.mul_le_mul_right _ (Nat.le_of_lt hlt)) ?_
    rw [big32]
    exact pw_le 277 925 2098 (by omega)
  obtain ⟨z, hz, hv⟩ := rep_word (k := .f64) (ng .f32 x) h1 hb
  have hv' : fv .f64 z = fv .f32 x * (2 ^ 925 : Nat) := by
    rw [hv, ← two_mul_two, ← Nat.mul_assoc, ← h2, sg_mul]; rfl
  refine ⟨z, hz.fin_iff.2 ?_, hv'⟩
  rw [hv', big64]
  obtain ⟨l1, l2⟩ := h.toNum.fin_iff.1 h
  rw [big32] at l1 l2
  have hc : (0 : Int) < ((2 ^ 925 : Nat) : Int) := by exact_mod_cast Nat.two_pow_pos 925
  have hb2 : ((2 ^ 277 : Nat) : Int) * ((2 ^ 925 : Nat) : Int) ≤ ((2 ^ 2098 : Nat) : Int) := by exact_mod_cast pw_le 277 925 2098 (by omega)
  generalize ((2 ^ 925 : Nat) : Int) = C at *
  generalize ((2 ^ 277 : Nat) : Int) = A at *
  generalize ((2 ^ 2098 : Nat) : Int) = B at *
  have g1 := Int.mul_lt_mul_of_pos_right l1 hc
  have g2 := Int.mul_lt_mul_of_pos_right l2 hc
  rw [Int.neg_mul] at g1
  constructor <;> omega

theorem convOk_up (x : Int) : real.convOk .f32 .f64 x = true := by
  show rConvOk .f32 .f64 x = true
  unfold rConvOk FloatKind.decode FloatKind.encode
  rw [if_neg (by decide)]
  split
  · rename_i g m e hr
    obtain ⟨h1, rfl, _⟩ := read_number hr
    by_cases hw : 0 ≤ x ∧ x.toNat < 2 * FloatKind.f32.format.signWeight
    · have hf : Fin .f32 x := ⟨hw.1, hw.2, h1⟩
      obtain ⟨m', e', r1, r2⟩ := up_rounds hf
      rw [hr] at r1
      cases r1
      obtain ⟨z, hz, hv⟩ := up_word hf
      have he := r2.eq hz.toNum (by rw [hv]; omega)
      have hfin : Fin .f64 (FloatKind.f64.format.nearest (ng .f32 x) m e : Nat) := r2.num.fin_iff.2 (by rw [he]; exact hz.toNum.fin_iff.1 hz)
      have := fin_notInf hfin
      rw [Int.toNat_natCast] at this
      simp only [Format.write]
      rw [this]; rfl
    · -- the bits above the word are not read
      have key : ∀ y : Int, 0 ≤ y → y.toNat < 2 * FloatKind.f32.format.signWeight → FloatKind.f32.format.read y.toNat = .number (ng .f32 x) m e → (!(FloatKind.f64.format.read (FloatKind.f64.format.write (.number (ng .f32 x) m e))).isInfinity) = true := by
        intro y hy0 hy1 hry
        obtain ⟨k1, k2, _⟩ := read_number hry
        have hf : Fin .f32 y := ⟨hy0, hy1, k1⟩
        obtain ⟨m', e', r1, r2⟩ := up_rounds hf
        rw [hry] at r1
        rw [← k2] at r1 r2
        cases r1
        obtain ⟨z, hz, hv⟩ := up_word hf
        have he := r2.eq hz.toNum (by rw [hv]; omega)
        have hfin : Fin .f64 (FloatKind.f64.format.nearest (ng .f32 x) m e : Nat) := r2.num.fin_iff.2 (by rw [he]; exact hz.toNum.fin_iff.1 hz)
        have := fin_notInf hfin
        rw [Int.toNat_natCast] at this
        simp only [Format.write]
        rw [this]; rfl
      have hs := sw_pos .f32
      refine key ((x.toNat % (2 * FloatKind.f32.format.signWeight) : Nat) : Int) (by omega) (by rw [Int.toNat_natCast]; exact Nat.mod_lt _ (by omega)) ?_
      rw [Int.toNat_natCast, ← hr]
      unfold Format.read
      have e1 : x.toNat % (2 * FloatKind.f32.format.signWeight) % FloatKind.f32.format.signWeight = x.toNat % FloatKind.f32.format.signWeight := Nat.mod_mod_of_dvd _ ⟨2, Nat.mul_comm _ _⟩
      have e2 : x.toNat % (2 * FloatKind.f32.format.signWeight) / FloatKind.f32.format.signWeight % 2 = x.toNat / FloatKind.f32.format.signWeight % 2 := by
        rw [Nat.mul_comm 2, Nat.mod_mul_right_div_self, Nat.mod_mod]
      rw [e1, e2]
  · rfl
end Go.Fx

/- Whole parts; from and to whole numbers; from 64 to 32 bits. -/
namespace Go.Fx
open Ieee

theorem unit_pos (k : FloatKind) : 0 < unit k := Nat.two_pow_pos _

theorem ofInt_rounds (k : FloatKind) (n : Int) : Rounds k (n * unit k) 1 (real.ofInt k n) := by
  have hl := lp_neg k
  show Rounds k (n * unit k) 1 (k.format.nearest (n < 0) n.natAbs 0 : Nat)
  apply Rounds.one
  refine Rounds.of (by omega) (Int.le_refl _) ?_ fun h => ?_
  · rw [Int.natAbs_mul, Int.natAbs_natCast]; unfold unit; congr 2; omega
  · have hu : (0 : Int) < unit k := by have := unit_pos k; omega
    congr 1
    exact propext ⟨fun h => Int.mul_neg_of_neg_of_pos h hu, fun h => by
      rcases Int.lt_or_le n 0 with h1 | h1
      · exact h1
      · have := Int.mul_nonneg h1 (Int.le_of_lt hu); omega⟩

end Go.Fx

/- Signs; sums of few parts; what is left of a number beside the nearest whole one. -/
namespace Go.Fx
open Ieee

theorem xor_two_pow_lt {a e : Nat} (h : a < 2 ^ e) : a ^^^ 2 ^ e = 2 ^ e + a := by
  have e1 : a ^^^ 2 ^ e = a ||| 2 ^ e := by
    apply Nat.eq_of_testBit_eq
    intro i
    simp only [Nat.testBit_xor, Nat.testBit_or, Nat.testBit_two_pow]
    by_cases hi : e = i
    · subst hi
      rw [Nat.testBit_lt_two_pow h]; simp
    · simp [hi]
  have e2 := Nat.two_pow_add_eq_or_of_lt h 1
  rw [Nat.mul_one] at e2
  rw [e1, e2, Nat.or_comm]

theorem neg_word {k : FloatKind} {b : Bool} {r : Nat} (h : r ≤ k.format.infRung) : Op.negFloat k (k.format.word b r) = k.format.word (!b) r := by
  have hs := k.format.infRung_lt
  have hr : r < 2 ^ (k.format.exponentBits + k.format.fractionBits) := Nat.lt_of_le_of_lt h hs
  unfold Op.negFloat Format.word Format.signWeight
  cases b with
  | false => simp only [Bool.false_eq_true, if_false, Bool.not_false, if_true]; exact xor_two_pow_lt hr
  | true =>
    simp only [if_true, Bool.not_true, Bool.false_eq_true, if_false]
    rw [← xor_two_pow_lt hr, Nat.xor_assoc, Nat.xor_self, Nat.xor_zero]

theorem neg_num {k : FloatKind} {x : Int} (h : Num k x) : Num k (real.neg k x) ∧ fv k (real.neg k x) = - fv k x ∧ rg k (real.neg k x) = rg k x ∧ ng k (real.neg k x) = !ng k x := by
  have e : real.neg k x = (k.format.word (!ng k x) (rg k x) : Nat) := by
    show rNeg k x = _
    unfold rNeg
    have hx := h.eq_word
    have h1 : x.toNat = k.format.word (ng k x) (rg k x) := by rw [hx, Int.toNat_natCast, ← hx]
    rw [h1, neg_word h.num, cf_of_num]
    have := (word_num (k := k) (b := !ng k x) h.num).notNaN
    rwa [Int.toNat_natCast] at this
  rw [e]
  refine ⟨word_num h.num, ?_, (word_rg h.num).1, (word_rg h.num).2.1⟩
  rw [word_fv h.num]
  unfold fv
  cases ng k x <;> simp [sg]

theorem neg_fin {k : FloatKind} {x : Int} (h : Fin k x) : Fin k (real.neg k x) ∧ fv k (real.neg k x) = - fv k x := by
  obtain ⟨h1, h2, h3, _⟩ := neg_num h.toNum
  exact ⟨⟨h1.nonneg, h1.word, by rw [h3]; exact h.fin⟩, h2⟩

def Has (k : FloatKind) (v : Int) : Prop := ∃ z, Fin k z ∧ fv k z = v

theorem Has.neg {k : FloatKind} {v : Int} (h : Has k v) : Has k (-v) := by
  obtain ⟨z, h1, h2⟩ := h
  obtain ⟨g1, g2⟩ := neg_fin h1
  exact ⟨_, g1, by rw [g2, h2]⟩

theorem Rounds.within {k : FloatKind} {s r a b : Int} {c : Nat} (h : Rounds k s c r) (ha : Has k a) (hb : Has k b) (h1 : a * c ≤ s) (h2 : s ≤ b * c) : Fin k r ∧ a ≤ fv k r ∧ fv k r ≤ b := by
  obtain ⟨za, a1, a2⟩ := ha
  obtain ⟨zb, b1, b2⟩ := hb
  have h3 := h.ge za a1.toNum (by rw [a2]; exact h1)
  have h4 := h.le zb b1.toNum (by rw [b2]; exact h2)
  rw [a2] at h3; rw [b2] at h4
  refine ⟨h.num.fin_iff.2 ⟨?_, ?_⟩, h3, h4⟩
  · have := (a1.toNum.fin_iff.1 a1).1; rw [a2] at this; omega
  · have := (b1.toNum.fin_iff.1 b1).2; rw [b2] at this; omega

theorem Rounds.exact {k : FloatKind} {s r a : Int} {c : Nat} (h : Rounds k s c r) (ha : Has k a) (h1 : s = a * c) : Fin k r ∧ fv k r = a := by
  obtain ⟨h2, h3, h4⟩ := h.within ha ha (by omega) (by omega)
  exact ⟨h2, Int.le_antisymm h4 h3⟩

theorem Has.digits {k : FloatKind} (neg : Bool) {m d : Nat} (h : m ≤ 2 * k.format.binade) (hb : m * 2 ^ d < big k) : Has k (sg neg (m * 2 ^ d)) := by
  obtain ⟨z, h1, h2⟩ := rep_word (k := k) neg h (Nat.le_of_lt hb)
  refine ⟨z, h1.fin_iff.2 ?_, h2⟩
  rw [h2]
  cases neg <;> simp only [sg, cond_true, cond_false] <;> omega

theorem Has.up {v : Int} (h : Has .f32 v) : Has .f64 (v * (2 ^ 925 : Nat)) := by
  obtain ⟨z, h1, h2⟩ := h
  obtain ⟨w, g1, g2⟩ := up_word h1
  exact ⟨w, g1, by rw [g2, h2]⟩

end Go.Fx

/- Small facts for the laws. -/
namespace Go.Fx

theorem eql_eq_not_neq (k : FloatKind) (x y : Int) : real.cmp .eql k x y = !real.cmp .neq k x y := by
  show cmpOf .eql (k.format.order x.toNat y.toNat) = !cmpOf .neq (k.format.order x.toNat y.toNat)
  unfold cmpOf
  cases k.format.order x.toNat y.toNat with
  | none => rfl
  | some o => cases o <;> rfl

theorem wrap64 {n : Int} (h0 : -9223372036854775808 ≤ n) (h1 : n < 9223372036854775808) : IntKind.wrap .i64 n = n := by
  have hb : IntKind.i64.bits = 64 := rfl
  unfold IntKind.wrap
  simp only [hb, IntKind.signed, Bool.true_and, decide_eq_true_eq, ge_iff_le]
  have e1 : (2 : Int) ^ 64 = 18446744073709551616 := by decide
  have e2 : (2 : Int) ^ (64 - 1) = 9223372036854775808 := by decide
  rw [e1, e2]
  rcases Int.lt_or_le n 0 with h | h
  · have : n % 18446744073709551616 = n + 18446744073709551616 := by omega
    rw [this, if_pos (by omega)]; omega
  · have : n % 18446744073709551616 = n := by omega
    rw [this, if_neg (by omega)]

theorem getD_some {α : Type} {l : List α} {i : Nat} {d : α} (h : i < l.length) : l.getD i d = l[i] := by
  rw [List.getD_eq_getElem?_getD, List.getElem?_eq_getElem h]; rfl
end Go.Fx

/- Facts for the laws: floats that came in, marks, loops that count up. -/
namespace Go.Fx

theorem ofInt_notNaN (k : FloatKind) (n : Int) : real.cmp .neq k (real.ofInt k n) (real.ofInt k n) = false := by
  rw [neq_self]
  exact (ofInt_rounds k n).num.notNaN

def marks (k : FloatKind) (a : Int) (n : Nat) : List (List Int) := (List.range n).map fun (i : Nat) => [real.ofInt k (a + i)]

def upAll (len : Nat) (p : Nat → Bool) (i : Nat) : Bool := (List.range' i (len - i)).all p

theorem upAll_end {len : Nat} {p : Nat → Bool} : upAll len p len = true := by unfold upAll; simp
theorem upAll_step {len : Nat} {p : Nat → Bool} {i : Nat} (h : i < len) : upAll len p i = (p i && upAll len p (i + 1)) := by
  unfold upAll
  rw [show len - i = (len - (i + 1)) + 1 by omega, List.range'_succ, List.all_cons]
theorem iter_all {R : Type} (len : Nat) (p : Nat → Bool) (L : Nat → Nat → R) (yes no : R) (h1 : ∀ n i, i < len → L (n + 1) i = bif p i then L n (i + 1) else no) (h2 : ∀ n, L (n + 1) len = yes) :
    ∀ (n i : Nat), i ≤ len → len - i < n → L n i = bif upAll len p i then yes else no := by
  intro n
  induction n with
  | zero => intro i _ h; omega
  | succ n ih =>
    intro i hi hn
    rcases Nat.lt_or_ge i len with h | h
    · rw [h1 n i h, upAll_step h]
      cases p i with
      | false => rfl
      | true => rw [ih (i + 1) (by omega) (by omega)]; rfl
    · have : i = len := by omega
      subst this
      rw [h2, upAll_end]; rfl

theorem dec_lt {i len : Nat} (h : i < len) : decide ((i : Int) < Int.ofNat len) = true := by simp; exact h
theorem dec_ge {i len : Nat} (h : len ≤ i) : decide ((i : Int) < Int.ofNat len) = false := by simp; exact h
theorem dec_nn (i : Nat) : decide (0 ≤ (i : Int)) = true := by simp
theorem wrap_succ {i : Nat} (h : i < 4611686018427387904) : IntKind.wrap .i64 ((i : Int) + 1) = ((i + 1 : Nat) : Int) := by
  rw [wrap64 (by omega) (by omega)]; rfl
end Go.Fx

