import Derived.Test.YtpdeekgbdalnaaaXr5e
import Derived.KernelRfl
namespace Go.Fx
open Go.Proofs
set_option maxRecDepth 100000
def Pure.spec_l00In (F : FOps) (x0 : Int) (x1 : Int) (x2 : Int) : Bool := bif Decidable.decide (x0 ≥ x1) then Decidable.decide (x0 ≤ x2) else false
def c_spec_l00In (F : FOps) : Con
  | [V.at (A.int IntKind.i64 x0), V.at (A.int IntKind.i64 x1), V.at (A.int IntKind.i64 x2)], [] => some (true, ⟨V.at (A.bool (Pure.spec_l00In F x0 x1 x2)), none, []⟩)
  | _, _ => none
theorem e_spec_l00In (F : FOps) (x0 : Int) (x1 : Int) (x2 : Int) : evFn (cxS F tyl [] [] [] 0) Try.f93 false [V.at (A.int IntKind.i64 x0), V.at (A.int IntKind.i64 x1), V.at (A.int IntKind.i64 x2)] [] = some ⟨V.at (A.bool (Pure.spec_l00In F x0 x1 x2)), none, []⟩ := by
  have h0 : evFn (cxS F tyl [] [] [] 0) Try.f93 false [V.at (A.int IntKind.i64 x0), V.at (A.int IntKind.i64 x1), V.at (A.int IntKind.i64 x2)] [] = bif Decidable.decide (x0 ≥ x1) then some ⟨V.at (A.bool (Decidable.decide (x0 ≤ x2))), none, []⟩ else some ⟨V.at (A.bool false), none, []⟩ := by kernel_rfl
  rw [h0]
  unfold Pure.spec_l00In
  cases (Decidable.decide (x0 ≥ x1)) with
  | true =>
    rfl
  | false =>
    rfl
theorem ok_spec_l00In : CallOK Try.prog 93 (c_spec_l00In real) := by
  refine callOK_of fun args h ret hc => ?_
  unfold c_spec_l00In at hc
  split at hc
  · rename_i x0 x1 x2
    obtain ⟨_, rfl⟩ := some_ret hc
    exact holds_ev prog_ok allOK_nil Try.func93 rfl rfl smL_nil rfl (e_spec_l00In real x0 x1 x2)
  · cases hc
def Pure.impl_in (F : FOps) (x0 : Int) (x1 : Int) (x2 : Int) : Bool := bif Decidable.decide (x0 ≥ x1) then Decidable.decide (x0 ≤ x2) else false
def c_impl_in (F : FOps) : Con
  | [V.at (A.int IntKind.i64 x0), V.at (A.int IntKind.i64 x1), V.at (A.int IntKind.i64 x2)], [] => some (true, ⟨V.at (A.bool (Pure.impl_in F x0 x1 x2)), none, []⟩)
  | _, _ => none
theorem e_impl_in (F : FOps) (x0 : Int) (x1 : Int) (x2 : Int) : evFn (cxS F tyl [] [] [] 0) Try.f68 false [V.at (A.int IntKind.i64 x0), V.at (A.int IntKind.i64 x1), V.at (A.int IntKind.i64 x2)] [] = some ⟨V.at (A.bool (Pure.impl_in F x0 x1 x2)), none, []⟩ := by
  have h0 : evFn (cxS F tyl [] [] [] 0) Try.f68 false [V.at (A.int IntKind.i64 x0), V.at (A.int IntKind.i64 x1), V.at (A.int IntKind.i64 x2)] [] = bif Decidable.decide (x0 ≥ x1) then some ⟨V.at (A.bool (Decidable.decide (x0 ≤ x2))), none, []⟩ else some ⟨V.at (A.bool false), none, []⟩ := by kernel_rfl
  rw [h0]
  unfold Pure.impl_in
  cases (Decidable.decide (x0 ≥ x1)) with
  | true =>
    rfl
  | false =>
    rfl
theorem ok_impl_in : CallOK Try.prog 68 (c_impl_in real) := by
  refine callOK_of fun args h ret hc => ?_
  unfold c_impl_in at hc
  split at hc
  · rename_i x0 x1 x2
    obtain ⟨_, rfl⟩ := some_ret hc
    exact holds_ev prog_ok allOK_nil Try.func68 rfl rfl smL_nil rfl (e_impl_in real x0 x1 x2)
  · cases hc
end Go.Fx
