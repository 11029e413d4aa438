/- Proved: the law FnExactWrapKick returns true at every input, and leaves its arguments as they were. Conditions: none. -/
import Derived.Test.YtpncophaaedjpaaXr1l
import Derived.Test.YtpncophaaedjpaaF2
import Derived.Test.YtpncophaaedjpaaRows
namespace Go.Fx
open Go.Proofs
theorem c_laws_FnExactWrapKick_eq (x0 : Int) (h : Pure.laws_FnExactWrapKick_ok real x0 = true ∧ Pure.laws_FnExactWrapKick real x0 = true) : c_laws_FnExactWrapKick real [V.at (A.fl FloatKind.f32 x0)] [] = some (true, ⟨.at (.bool true), none, []⟩) := by
  simp only [c_laws_FnExactWrapKick, h.1, h.2]
end Go.Fx
namespace Go.Proofs.Ytpncophaaedjpaa
open Go.ChangeShapes Go.WideShapes Go.ChangeAt Go.RowKit Go.Fx
theorem own0 : ownKnob Try.prog.godebug = none := by kernel_rfl
theorem laid0 : laidOutB Try.prog = true := by kernel_rfl
set_option maxRecDepth 100000 in
theorem FnExactWrapKick_lifted (os : Os) (started : os.Started) (H : Type) (enc : TypeId × Value → H) :
    ReturnsInHanded {} Try.checked os 8 .any (Rows.fnExactWrapKickSpec.pre6 enc Try.prog Try.f8 Rows.fnExactWrapKickRow.domain false) (Rows.fnExactWrapKickSpec.post enc Try.prog Try.f8 false true false false) := by
  refine returnsInHanded_of_change (C := Try.checked) own0 started (by kernel_rfl) Try.func8
    (ChangeSpec.witness6 (enc := enc) (C := Try.checked) false ⟨#[], #[.float .f32 0], []⟩ 8 (by kernel_rfl) (by kernel_rfl) (by kernel_rfl) (by kernel_rfl)) ?_
  intro W base args ds gs before hval0 hW _ _
  have hval : ∀ (j : Nat) t v, Try.f8.params[j]? = some t → args[j]? = some v → Value.okWide Try.prog W .any base t v := hval0
  have hW1 := hW
  obtain ⟨p, q, hA0, _, _, _, _⟩ := hW
  have hA : DataW.TrodAll enc Try.prog W 0 (fun _ => true) true Try.f8.params.toList args.toList ds p := hA0
  rw [Try.params8] at hA hval
  obtain ⟨v0, w0, d0, k0, a0, b0, e0, rfl, rfl, _, h0⟩ := trodAll_cons hA
  obtain ⟨rfl, rfl, rfl⟩ := trodAll_nil h0
  have hargs : args = #[v0] := by cases args; simp_all
  subst hargs
  obtain ⟨c0, rfl, gc0⟩ := open_scalar (k := K.f FloatKind.f32) (by kernel_rfl) (hval 0 22 v0 rfl rfl)
  have hl := law_FnExactWrapKick (cf .f32 c0 : Nat) ⟨c0, rfl, gc0⟩
  have hh : Holds Try.prog 8 _ _ _ _ := ok_laws_FnExactWrapKick.1 _ _ _ _ (c_laws_FnExactWrapKick_eq (cf .f32 c0 : Nat) hl)
  refine Calls.mono (calls_of_holds (ι := fun _ => .off) Try.func8 rfl rfl hh ?_ (fun id ob h => by simp at h)) (fun e W1 ⟨he, hb⟩ => ?_)
  · exact ⟨⟨c0, rfl, rfl⟩, trivial⟩
  subst he
  exact ⟨_, rfl, law_post laid0 (by kernel_rfl) rfl Try.underlying4 rfl ⟨rfl, rfl, rfl⟩ hW1 hb⟩

theorem FnExactWrapKick_holds : Rows.FnExactWrapKickSaid :=
  OpenClaim.holds_of_wide 8 Try.f8 rfl rfl rfl rfl rfl rfl rfl ⟨rfl, rfl, rfl, rfl, rfl⟩ rfl rfl rfl rfl rfl (by kernel_rfl) Try.func8 (by kernel_rfl)
    (of_decide_eq_true (by kernel_rfl)) (by unfold Func.isWrapper; first | (rw [if_pos (by decide +kernel)]; kernel_rfl) | (rw [if_neg (by decide +kernel)]; exact ⟨rfl, rfl⟩))
    (fun os started H enc _ => FnExactWrapKick_lifted os started H enc)

#print axioms FnExactWrapKick_holds
end Go.Proofs.Ytpncophaaedjpaa
