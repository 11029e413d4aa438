/- Proved: the law FnExactValidState returns true at every input, and leaves its argument as it was. Conditions: none. -/
import Derived.Test.YtpncophaaedjpaaXr1b
import Derived.Test.YtpncophaaedjpaaXRow
import Derived.Test.YtpncophaaedjpaaRows
namespace Go.Fx
open Go.Proofs
theorem law_FnExactValidState (x0 x1 : Int) (_ : OkF .f32 x0) (_ : OkF .f32 x1) : Pure.laws_FnExactValidState real x0 x1 = true := by
  simp [Pure.laws_FnExactValidState, Pure.spec_l07Is, Pure.impl_ValidState]
theorem c_laws_FnExactValidState_eq (x0 : Int) (x1 : Int) (h : Pure.laws_FnExactValidState real x0 x1 = true) : c_laws_FnExactValidState real [V.agg [A.fl FloatKind.f32 x0, A.fl FloatKind.f32 x1]] [] = some ⟨.at (.bool true), none, []⟩ := by
  simp only [c_laws_FnExactValidState, h]
end Go.Fx
namespace Go.Proofs.Ytpncophaaedjpaa
open Go.ChangeShapes Go.WideShapes Go.ChangeAt Go.RowKit Go.Fx
theorem Try.own : ownKnob Try.prog.godebug = none := by kernel_rfl
theorem Try.laidOut : laidOutB Try.prog = true := by kernel_rfl
set_option maxRecDepth 100000 in
theorem FnExactValidState_lifted (os : Os) (started : os.Started) (H : Type) (enc : TypeId × Value → H) :
    ReturnsInHanded {} Try.checked os 3 .any (Rows.fnExactValidStateSpec.pre6 enc Try.prog Try.f3 Rows.fnExactValidStateRow.domain false) (Rows.fnExactValidStateSpec.post enc Try.prog Try.f3 false true false false) := by
  refine returnsInHanded_of_change (C := Try.checked) Try.own started (by kernel_rfl) Try.func3
    (ChangeSpec.witness6 (enc := enc) (C := Try.checked) false ⟨#[], #[.agg #[.float .f32 0, .float .f32 0]], []⟩ 8 (by kernel_rfl) (by kernel_rfl) (by kernel_rfl) (by kernel_rfl)) ?_
  intro W base args ds gs before hval0 hW _ _
  have hval : ∀ (j : Nat) t v, Try.f3.params[j]? = some t → args[j]? = some v → Value.okWide Try.prog W .any base t v := hval0
  have hW1 := hW
  obtain ⟨p, q, hA0, _, _, _, _⟩ := hW
  have hA : DataW.TrodAll enc Try.prog W 0 (fun _ => true) true Try.f3.params.toList args.toList ds p := hA0
  rw [Try.params3] at hA hval
  obtain ⟨v0, w0, d0, k0, a0, b0, e0, rfl, rfl, _, h0⟩ := trodAll_cons hA
  obtain ⟨rfl, rfl, rfl⟩ := trodAll_nil h0
  have hargs : args = #[v0] := by cases args; simp_all
  subst hargs
  obtain ⟨⟨l0⟩, rfl, t0⟩ := open_flat (ks := [K.f FloatKind.f32, K.f FloatKind.f32]) (by kernel_rfl) (hval 0 24 v0 rfl rfl)
  have s0 : F2 KO [K.f FloatKind.f32, K.f FloatKind.f32] l0 := t0
  obtain ⟨m0a, m0b, y0a, y0b, rfl⟩ := F2_list2 s0
  obtain ⟨c0a, rfl, gc0a⟩ := y0a
  obtain ⟨c0b, rfl, gc0b⟩ := y0b
  have hl := law_FnExactValidState (cf .f32 c0a : Nat) (cf .f32 c0b : Nat) ⟨c0a, rfl, gc0a⟩ ⟨c0b, rfl, gc0b⟩
  have hh : Holds Try.prog 3 _ _ _ _ := ok_laws_FnExactValidState _ _ _ _ (c_laws_FnExactValidState_eq (cf .f32 c0a : Nat) (cf .f32 c0b : Nat) hl)
  refine Calls.mono (calls_of_holds (ι := fun _ => .off) Try.func3 rfl rfl hh ?_ (fun id ob h => by simp at h)) (fun e W1 ⟨he, hb⟩ => ?_)
  · exact ⟨⟨_, rfl, ⟨c0a, rfl, rfl⟩, ⟨c0b, rfl, rfl⟩, trivial⟩, trivial⟩
  subst he
  exact ⟨_, rfl, law_post Try.laidOut (by kernel_rfl) rfl Try.underlying4 rfl ⟨rfl, rfl, rfl⟩ hW1 hb⟩

theorem FnExactValidState_holds : Rows.FnExactValidStateSaid :=
  OpenClaim.holds_of_wide 3 Try.f3 rfl rfl rfl rfl rfl rfl rfl ⟨rfl, rfl, rfl, rfl, rfl⟩ rfl rfl rfl rfl rfl (by kernel_rfl) Try.func3 (by kernel_rfl)
    (of_decide_eq_true (by kernel_rfl)) (by unfold Func.isWrapper; first | (rw [if_pos (by decide +kernel)]; kernel_rfl) | (rw [if_neg (by decide +kernel)]; exact ⟨rfl, rfl⟩))
    (fun os started H enc _ => FnExactValidState_lifted os started H enc)

#print axioms FnExactValidState_holds
end Go.Proofs.Ytpncophaaedjpaa
