import Derived.Test.YtpdeekgbdalnaaaXr5td
import Derived.Test.YtpdeekgbdalnaaaF4
/- Proved: the law FnTables returns true at every input, and leaves its arguments as they were. Conditions: none. -/
import Derived.Test.YtpdeekgbdalnaaaRows
namespace Go.Fx
open Go.Proofs
theorem c_laws_FnTables_eq (x0 : List (List Int)) (x1 : List (List Int)) (h : Pure.laws_FnTables_ok real x0 x1 = true ∧ Pure.laws_FnTables real x0 x1 = true) : c_laws_FnTables real [V.at (A.sl 0), V.at (A.sl 1)] [⟨false, OC.rows [K.i IntKind.u8] x0⟩, ⟨false, OC.rows [K.i IntKind.u8] x1⟩] = some (true, ⟨.at (.bool true), none, []⟩) := by
  simp only [c_laws_FnTables, h.1, h.2]
end Go.Fx
namespace Go.Proofs.Ytpdeekgbdalnaaa
open Go.ChangeShapes Go.WideShapes Go.ChangeAt Go.RowKit Go.Fx
theorem own0 : ownKnob Try.prog.godebug = none := by kernel_rfl
theorem laid0 : laidOutB Try.prog = true := by kernel_rfl
set_option maxRecDepth 100000 in
theorem FnTables_lifted (os : Os) (started : os.Started) (H : Type) (enc : TypeId × Value → H) :
    ReturnsInHanded {} Try.checked os 5 .any (Rows.fnTablesSpec.pre6 enc Try.prog Try.f5 Rows.fnTablesRow.domain false) (Rows.fnTablesSpec.post enc Try.prog Try.f5 false true false false) := by
  refine returnsInHanded_of_change (C := Try.checked) own0 started (by kernel_rfl) Try.func5
    (ChangeSpec.witness6 (enc := enc) (C := Try.checked) false ⟨#[], #[.slice none 0 0, .slice none 0 0], []⟩ 8 (by kernel_rfl) (by kernel_rfl) (by kernel_rfl) (by kernel_rfl)) ?_
  intro W base args ds gs before hval0 hW _ _
  have hval : ∀ (j : Nat) t v, Try.f5.params[j]? = some t → args[j]? = some v → Value.okWide Try.prog W .any base t v := hval0
  have hW1 := hW
  obtain ⟨p, q, hA0, _, _, _, _⟩ := hW
  have hA : DataW.TrodAll enc Try.prog W 0 (fun _ => true) true Try.f5.params.toList args.toList ds p := hA0
  rw [Try.params5] at hA hval
  obtain ⟨v0, w0, d0, k0, a0, b0, e0, rfl, rfl, r0, h0⟩ := trodAll_cons hA
  obtain ⟨v1, w1, d1, k1, a1, b1, e1, rfl, rfl, r1, h1⟩ := trodAll_cons h0
  subst e1
  obtain ⟨rfl, rfl, rfl⟩ := trodAll_nil h1
  have hargs : args = #[v0, v1] := by cases args; simp_all
  subst hargs
  have q0 := one_of (by kernel_rfl) (hval 0 32 v0 rfl rfl)
  obtain ⟨z0, r0⟩ := r0
  rw [q0] at r0
  have s0 : F2 (LeafR W) [.sl [K.i IntKind.u8]] [v0] := trod_leaves _ 8 32 _ _ _ (by kernel_rfl) r0
  obtain ⟨y0a, _⟩ := s0
  obtain ⟨p0a, x0a, g0a, ha0a, ho0a⟩ := leaf_sl y0a
  have q1 := one_of (by kernel_rfl) (hval 1 32 v1 rfl rfl)
  obtain ⟨z1, r1⟩ := r1
  rw [q1] at r1
  have s1 : F2 (LeafR W) [.sl [K.i IntKind.u8]] [v1] := trod_leaves _ 8 32 _ _ _ (by kernel_rfl) r1
  obtain ⟨y1a, _⟩ := s1
  obtain ⟨p1a, x1a, g1a, ha1a, ho1a⟩ := leaf_sl y1a
  have hl := law_FnTables (x0a) (x1a) g0a g1a
  have hh : Holds Try.prog 5 _ _ _ _ := ok_laws_FnTables.1 _ _ _ _ (c_laws_FnTables_eq (x0a) (x1a) hl)
  refine Calls.mono (calls_of_holds (ι := plc [p0a, p1a]) Try.func5 rfl rfl hh ?_ (hr_of ?_)) (fun e W1 ⟨he, hb⟩ => ?_)
  · exact ⟨ha0a _ _ 0 rfl rfl, ha1a _ _ 1 rfl rfl, trivial⟩
  · exact ⟨ho0a _ _ 0 rfl, ho1a _ _ 1 rfl, trivial⟩
  subst he
  exact ⟨_, rfl, law_post laid0 (by kernel_rfl) rfl Try.underlying4 rfl ⟨rfl, rfl, rfl⟩ hW1 hb⟩

theorem FnTables_holds : Rows.FnTablesSaid :=
  OpenClaim.holds_of_wide 5 Try.f5 rfl rfl rfl rfl rfl rfl rfl ⟨rfl, rfl, rfl, rfl, rfl⟩ rfl rfl rfl rfl rfl (by kernel_rfl) Try.func5 (by kernel_rfl)
    (of_decide_eq_true (by kernel_rfl)) (by unfold Func.isWrapper; first | (rw [if_pos (by decide +kernel)]; kernel_rfl) | (rw [if_neg (by decide +kernel)]; exact ⟨rfl, rfl⟩))
    (fun os started H enc _ => FnTables_lifted os started H enc)

#print axioms FnTables_holds
end Go.Proofs.Ytpdeekgbdalnaaa
