/- Small facts on canonical bits. -/
import Derived.Test.YtpncophaaedjpaaXRow
import Derived.Laws.Runes
namespace Go.Fx

theorem order_self {k : FloatKind} {b : Nat} (h : isNaNb k b = false) : k.format.order b b = some .eq := by
  unfold Ieee.Format.order
  unfold isNaNb at h
  generalize k.format.read b = d at h
  cases d with
  | nan s t => cases h
  | infinity s => cases s <;> rfl
  | number s m i => simp [Ieee.Datum.order]

theorem neq_self (k : FloatKind) (x : Int) : real.cmp .neq k x x = isNaNb k x.toNat := by
  show rCmp .neq k x x = _
  unfold rCmp
  cases h : isNaNb k x.toNat with
  | true => rw [order_nan_left h]; rfl
  | false => rw [order_self h]; rfl

theorem OkF.range32 {x : Int} (h : OkF .f32 x) : 0 ≤ x ∧ x < 4294967296 := by
  obtain ⟨b, rfl, hb⟩ := h
  refine ⟨by omega, ?_⟩
  have h1 : b < 4294967296 := by simpa [FloatKind.has] using hb
  unfold cf
  split
  · have : nanOf .f32 = 2143289344 ∨ nanOf .f32 < 4294967296 := by decide
    omega
  · omega

theorem OkF.nan {k : FloatKind} {x : Int} (h : OkF k x) (hn : isNaNb k x.toNat = true) : x = (nanOf k : Nat) := by
  obtain ⟨b, rfl, hb⟩ := h
  rw [Int.toNat_natCast, isNaNb_cf] at hn
  rw [cf_of_nan hn]

theorem bits32 {x : Int} (h : OkF .f32 x) : (bif isNaNb .f32 x.toNat then 2143289344 else IntKind.wrap IntKind.i64 x) = x := by
  cases hn : isNaNb .f32 x.toNat with
  | true => rw [h.nan hn]; rfl
  | false =>
    obtain ⟨h0, h1⟩ := h.range32
    exact wrap_small x h0 (by omega)

/-- Both ways to tell the same number say so of canonical bits. -/
theorem same32 {x y : Int} (hx : OkF .f32 x) (hy : OkF .f32 y) : (bif isNaNb .f32 x.toNat then isNaNb .f32 y.toNat else bif isNaNb .f32 y.toNat then false else x == y) = (x == y) := by
  cases h1 : isNaNb .f32 x.toNat with
  | true =>
    cases h2 : isNaNb .f32 y.toNat with
    | true => rw [hx.nan h1, hy.nan h2]; rfl
    | false =>
      have : x ≠ y := fun e => by rw [e, h2] at h1; cases h1
      simp [this]
  | false =>
    cases h2 : isNaNb .f32 y.toNat with
    | true =>
      have : x ≠ y := fun e => by rw [e, h2] at h1; cases h1
      simp [this]
    | false => rfl
end Go.Fx
