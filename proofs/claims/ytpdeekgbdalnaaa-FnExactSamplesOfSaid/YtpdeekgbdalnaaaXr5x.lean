import Derived.Test.YtpdeekgbdalnaaaXr5n
import Derived.Test.YtpdeekgbdalnaaaXr5c
import Derived.Test.YtpdeekgbdalnaaaXr5u
import Derived.Test.YtpdeekgbdalnaaaXFin
namespace Go.Fx

theorem in_iff {a b c : Int} : Pure.impl_in real a b c = true ↔ b ≤ a ∧ a ≤ c := by
  unfold Pure.impl_in
  simp only [Bool.cond_false_right, Bool.and_eq_true, decide_eq_true_eq, ge_iff_le]

/-! ### halving -/
end Go.Fx
