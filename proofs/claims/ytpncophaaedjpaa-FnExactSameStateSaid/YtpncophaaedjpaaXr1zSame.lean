/- Proved: the law FnExactSameState returns true at every input, and leaves its arguments as they were. Conditions: none. -/
import Derived.Test.YtpncophaaedjpaaXr1c
import Derived.Test.YtpncophaaedjpaaXLaw
import Derived.Test.YtpncophaaedjpaaRows
namespace Go.Fx
open Go.Proofs
theorem law_FnExactSameState (x0 x1 x2 x3 : Int) (h0 : OkF .f32 x0) (h1 : OkF .f32 x1) (h2 : OkF .f32 x2) (h3 : OkF .f32 x3) : Pure.laws_FnExactSameState real x0 x1 x2 x3 = true := by
  have i : ∀ x y, OkF .f32 x → OkF .f32 y → Pure.impl_SameNumber real x y = (x == y) := fun x y hx hy => by
    unfold Pure.impl_SameNumber
    rw [neq_self, neq_self]
    exact same32 hx hy
  have b : ∀ x, OkF .f32 x → Pure.spec_l01Bits real x = x := fun x hx => by
    unfold Pure.spec_l01Bits
    rw [neq_self]
    exact bits32 hx
  have s : ∀ x y, OkF .f32 x → OkF .f32 y → Pure.spec_l01Same real x y = (x == y) := fun x y hx hy => by
    unfold Pure.spec_l01Same
    rw [b x hx, b y hy]
  unfold Pure.laws_FnExactSameState Pure.impl_SameState Pure.spec_SameState
  rw [i x0 x2 h0 h2, i x1 x3 h1 h3, s x0 x2 h0 h2, s x1 x3 h1 h3]
  simp
theorem c_laws_FnExactSameState_eq (x0 : Int) (x1 : Int) (x2 : Int) (x3 : Int) (h : Pure.laws_FnExactSameState real x0 x1 x2 x3 = true) : c_laws_FnExactSameState real [V.agg [A.fl FloatKind.f32 x0, A.fl FloatKind.f32 x1], V.agg [A.fl FloatKind.f32 x2, A.fl FloatKind.f32 x3]] [] = some ⟨.at (.bool true), none, []⟩ := by
  simp only [c_laws_FnExactSameState, h]
end Go.Fx
namespace Go.Proofs.Ytpncophaaedjpaa
open Go.ChangeShapes Go.WideShapes Go.ChangeAt Go.RowKit Go.Fx
theorem own0 : ownKnob Try.prog.godebug = none := by kernel_rfl
theorem laid0 : laidOutB Try.prog = true := by kernel_rfl
set_option maxRecDepth 100000 in
theorem FnExactSameState_lifted (os : Os) (started : os.Started) (H : Type) (enc : TypeId × Value → H) :
    ReturnsInHanded {} Try.checked os 4 .any (Rows.fnExactSameStateSpec.pre6 enc Try.prog Try.f4 Rows.fnExactSameStateRow.domain false) (Rows.fnExactSameStateSpec.post enc Try.prog Try.f4 false true false false) := by
  refine returnsInHanded_of_change (C := Try.checked) own0 started (by kernel_rfl) Try.func4
    (ChangeSpec.witness6 (enc := enc) (C := Try.checked) false ⟨#[], #[.agg #[.float .f32 0, .float .f32 0], .agg #[.float .f32 0, .float .f32 0]], []⟩ 8 (by kernel_rfl) (by kernel_rfl) (by kernel_rfl) (by kernel_rfl)) ?_
  intro W base args ds gs before hval0 hW _ _
  have hval : ∀ (j : Nat) t v, Try.f4.params[j]? = some t → args[j]? = some v → Value.okWide Try.prog W .any base t v := hval0
  have hW1 := hW
  obtain ⟨p, q, hA0, _, _, _, _⟩ := hW
  have hA : DataW.TrodAll enc Try.prog W 0 (fun _ => true) true Try.f4.params.toList args.toList ds p := hA0
  rw [Try.params4] at hA hval
  obtain ⟨v0, w0, d0, k0, a0, b0, e0, rfl, rfl, _, h0⟩ := trodAll_cons hA
  obtain ⟨v1, w1, d1, k1, a1, b1, e1, rfl, rfl, _, h1⟩ := trodAll_cons h0
  subst e1
  obtain ⟨rfl, rfl, rfl⟩ := trodAll_nil h1
  have hargs : args = #[v0, v1] := by cases args; simp_all
  subst hargs
  obtain ⟨⟨l0⟩, rfl, t0⟩ := open_flat (ks := [K.f FloatKind.f32, K.f FloatKind.f32]) (by kernel_rfl) (hval 0 24 v0 rfl rfl)
  have s0 : F2 KO [K.f FloatKind.f32, K.f FloatKind.f32] l0 := t0
  obtain ⟨m0a, m0b, y0a, y0b, rfl⟩ := F2_list2 s0
  obtain ⟨c0a, rfl, gc0a⟩ := y0a
  obtain ⟨c0b, rfl, gc0b⟩ := y0b
  obtain ⟨⟨l1⟩, rfl, t1⟩ := open_flat (ks := [K.f FloatKind.f32, K.f FloatKind.f32]) (by kernel_rfl) (hval 1 24 v1 rfl rfl)
  have s1 : F2 KO [K.f FloatKind.f32, K.f FloatKind.f32] l1 := t1
  obtain ⟨m1a, m1b, y1a, y1b, rfl⟩ := F2_list2 s1
  obtain ⟨c1a, rfl, gc1a⟩ := y1a
  obtain ⟨c1b, rfl, gc1b⟩ := y1b
  have hl := law_FnExactSameState (cf .f32 c0a : Nat) (cf .f32 c0b : Nat) (cf .f32 c1a : Nat) (cf .f32 c1b : Nat) ⟨c0a, rfl, gc0a⟩ ⟨c0b, rfl, gc0b⟩ ⟨c1a, rfl, gc1a⟩ ⟨c1b, rfl, gc1b⟩
  have hh : Holds Try.prog 4 _ _ _ _ := ok_laws_FnExactSameState _ _ _ _ (c_laws_FnExactSameState_eq (cf .f32 c0a : Nat) (cf .f32 c0b : Nat) (cf .f32 c1a : Nat) (cf .f32 c1b : Nat) hl)
  refine Calls.mono (calls_of_holds (ι := fun _ => .off) Try.func4 rfl rfl hh ?_ (fun id ob h => by simp at h)) (fun e W1 ⟨he, hb⟩ => ?_)
  · exact ⟨⟨_, rfl, ⟨c0a, rfl, rfl⟩, ⟨c0b, rfl, rfl⟩, trivial⟩, ⟨_, rfl, ⟨c1a, rfl, rfl⟩, ⟨c1b, rfl, rfl⟩, trivial⟩, trivial⟩
  subst he
  exact ⟨_, rfl, law_post laid0 (by kernel_rfl) rfl Try.underlying4 rfl ⟨rfl, rfl, rfl⟩ hW1 hb⟩

theorem FnExactSameState_holds : Rows.FnExactSameStateSaid :=
  OpenClaim.holds_of_wide 4 Try.f4 rfl rfl rfl rfl rfl rfl rfl ⟨rfl, rfl, rfl, rfl, rfl⟩ rfl rfl rfl rfl rfl (by kernel_rfl) Try.func4 (by kernel_rfl)
    (of_decide_eq_true (by kernel_rfl)) (by unfold Func.isWrapper; first | (rw [if_pos (by decide +kernel)]; kernel_rfl) | (rw [if_neg (by decide +kernel)]; exact ⟨rfl, rfl⟩))
    (fun os started H enc _ => FnExactSameState_lifted os started H enc)

#print axioms FnExactSameState_holds
end Go.Proofs.Ytpncophaaedjpaa
