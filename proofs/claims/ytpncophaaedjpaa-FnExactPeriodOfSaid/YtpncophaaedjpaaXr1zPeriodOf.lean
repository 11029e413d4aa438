/- Proved: the law FnExactPeriodOf returns true at every input, and leaves its arguments as they were. Conditions: none. -/
import Derived.Test.YtpncophaaedjpaaXr1n
import Derived.Test.YtpncophaaedjpaaF2
import Derived.Test.YtpncophaaedjpaaRows
namespace Go.Fx
open Go.Proofs
theorem c_laws_FnExactPeriodOf_eq (x0 : Int) (x1 : Int) (x2 : Int) (x3 : Int) (x4 : Int) (h : Pure.laws_FnExactPeriodOf_ok real x0 x1 x2 x3 x4 = true ∧ Pure.laws_FnExactPeriodOf real x0 x1 x2 x3 x4 = true) : c_laws_FnExactPeriodOf real [V.at (A.fl FloatKind.f32 x0), V.at (A.fl FloatKind.f32 x1), V.at (A.fl FloatKind.f32 x2), V.at (A.int IntKind.i64 x3), V.at (A.int IntKind.i64 x4)] [] = some (true, ⟨.at (.bool true), none, []⟩) := by
  simp only [c_laws_FnExactPeriodOf, h.1, h.2]
end Go.Fx
namespace Go.Proofs.Ytpncophaaedjpaa
open Go.ChangeShapes Go.WideShapes Go.ChangeAt Go.RowKit Go.Fx
theorem own0 : ownKnob Try.prog.godebug = none := by kernel_rfl
theorem laid0 : laidOutB Try.prog = true := by kernel_rfl
set_option maxRecDepth 100000 in
theorem FnExactPeriodOf_lifted (os : Os) (started : os.Started) (H : Type) (enc : TypeId × Value → H) :
    ReturnsInHanded {} Try.checked os 6 .any (Rows.fnExactPeriodOfSpec.pre6 enc Try.prog Try.f6 Rows.fnExactPeriodOfRow.domain false) (Rows.fnExactPeriodOfSpec.post enc Try.prog Try.f6 false true false false) := by
  refine returnsInHanded_of_change (C := Try.checked) own0 started (by kernel_rfl) Try.func6
    (ChangeSpec.witness6 (enc := enc) (C := Try.checked) false ⟨#[], #[.float .f32 0, .float .f32 0, .float .f32 0, .int .i64 0, .int .i64 0], []⟩ 8 (by kernel_rfl) (by kernel_rfl) (by kernel_rfl) (by kernel_rfl)) ?_
  intro W base args ds gs before hval0 hW _ _
  have hval : ∀ (j : Nat) t v, Try.f6.params[j]? = some t → args[j]? = some v → Value.okWide Try.prog W .any base t v := hval0
  have hW1 := hW
  obtain ⟨p, q, hA0, _, _, _, _⟩ := hW
  have hA : DataW.TrodAll enc Try.prog W 0 (fun _ => true) true Try.f6.params.toList args.toList ds p := hA0
  rw [Try.params6] at hA hval
  obtain ⟨v0, w0, d0, k0, a0, b0, e0, rfl, rfl, _, h0⟩ := trodAll_cons hA
  obtain ⟨v1, w1, d1, k1, a1, b1, e1, rfl, rfl, _, h1⟩ := trodAll_cons h0
  subst e1
  obtain ⟨v2, w2, d2, k2, a2, b2, e2, rfl, rfl, _, h2⟩ := trodAll_cons h1
  subst e2
  obtain ⟨v3, w3, d3, k3, a3, b3, e3, rfl, rfl, _, h3⟩ := trodAll_cons h2
  subst e3
  obtain ⟨v4, w4, d4, k4, a4, b4, e4, rfl, rfl, _, h4⟩ := trodAll_cons h3
  subst e4
  obtain ⟨rfl, rfl, rfl⟩ := trodAll_nil h4
  have hargs : args = #[v0, v1, v2, v3, v4] := by cases args; simp_all
  subst hargs
  obtain ⟨c0, rfl, gc0⟩ := open_scalar (k := K.f FloatKind.f32) (by kernel_rfl) (hval 0 22 v0 rfl rfl)
  obtain ⟨c1, rfl, gc1⟩ := open_scalar (k := K.f FloatKind.f32) (by kernel_rfl) (hval 1 22 v1 rfl rfl)
  obtain ⟨c2, rfl, gc2⟩ := open_scalar (k := K.f FloatKind.f32) (by kernel_rfl) (hval 2 22 v2 rfl rfl)
  obtain ⟨c3, rfl, gc3⟩ := open_scalar (k := K.i IntKind.i64) (by kernel_rfl) (hval 3 2 v3 rfl rfl)
  obtain ⟨c4, rfl, gc4⟩ := open_scalar (k := K.i IntKind.i64) (by kernel_rfl) (hval 4 2 v4 rfl rfl)
  have hl := law_FnExactPeriodOf (cf .f32 c0 : Nat) (cf .f32 c1 : Nat) (cf .f32 c2 : Nat) (c3) (c4) ⟨c0, rfl, gc0⟩ ⟨c1, rfl, gc1⟩ ⟨c2, rfl, gc2⟩ gc3 gc4
  have hh : Holds Try.prog 6 _ _ _ _ := ok_laws_FnExactPeriodOf.1 _ _ _ _ (c_laws_FnExactPeriodOf_eq (cf .f32 c0 : Nat) (cf .f32 c1 : Nat) (cf .f32 c2 : Nat) (c3) (c4) hl)
  refine Calls.mono (calls_of_holds (ι := fun _ => .off) Try.func6 rfl rfl hh ?_ (fun id ob h => by simp at h)) (fun e W1 ⟨he, hb⟩ => ?_)
  · exact ⟨⟨c0, rfl, rfl⟩, ⟨c1, rfl, rfl⟩, ⟨c2, rfl, rfl⟩, rfl, rfl, trivial⟩
  subst he
  exact ⟨_, rfl, law_post laid0 (by kernel_rfl) rfl Try.underlying4 rfl ⟨rfl, rfl, rfl⟩ hW1 hb⟩

theorem FnExactPeriodOf_holds : Rows.FnExactPeriodOfSaid :=
  OpenClaim.holds_of_wide 6 Try.f6 rfl rfl rfl rfl rfl rfl rfl ⟨rfl, rfl, rfl, rfl, rfl⟩ rfl rfl rfl rfl rfl (by kernel_rfl) Try.func6 (by kernel_rfl)
    (of_decide_eq_true (by kernel_rfl)) (by unfold Func.isWrapper; first | (rw [if_pos (by decide +kernel)]; kernel_rfl) | (rw [if_neg (by decide +kernel)]; exact ⟨rfl, rfl⟩))
    (fun os started H enc _ => FnExactPeriodOf_lifted os started H enc)

#print axioms FnExactPeriodOf_holds
end Go.Proofs.Ytpncophaaedjpaa
