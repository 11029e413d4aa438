import Derived.Test.YtnlfpamdcohiiaaXr3bx
import Derived.Test.YtnlfpamdcohiiaaF4
/- Proved: the law FnExactBoxesOf returns true at every input, and leaves its arguments as they were. Conditions: none. -/
import Derived.Test.YtnlfpamdcohiiaaRows
namespace Go.Fx
open Go.Proofs
theorem c_laws_FnExactBoxesOf_eq (x0 : Int) (x1 : Int) (x2 : Int) (x3 : Int) (x4 : Int) (h : Pure.laws_FnExactBoxesOf_ok real x0 x1 x2 x3 x4 = true ∧ Pure.laws_FnExactBoxesOf real x0 x1 x2 x3 x4 = true) : c_laws_FnExactBoxesOf real [V.agg [A.fl FloatKind.f32 x0, A.fl FloatKind.f32 x1], V.at (A.fl FloatKind.f32 x2), V.at (A.int IntKind.i64 x3), V.at (A.int IntKind.i64 x4)] [] = some (true, ⟨.at (.bool true), none, []⟩) := by
  simp only [c_laws_FnExactBoxesOf, h.1, h.2]
end Go.Fx
namespace Go.Proofs.Ytnlfpamdcohiiaa
open Go.ChangeShapes Go.WideShapes Go.ChangeAt Go.RowKit Go.Fx
theorem own0 : ownKnob Try.prog.godebug = none := by kernel_rfl
theorem laid0 : laidOutB Try.prog = true := by kernel_rfl
set_option maxRecDepth 100000 in
theorem FnExactBoxesOf_lifted (os : Os) (started : os.Started) (H : Type) (enc : TypeId × Value → H) :
    ReturnsInHanded {} Try.checked os 10 .any (Rows.fnExactBoxesOfSpec.pre6 enc Try.prog Try.f10 Rows.fnExactBoxesOfRow.domain false) (Rows.fnExactBoxesOfSpec.post enc Try.prog Try.f10 false true false false) := by
  refine returnsInHanded_of_change (C := Try.checked) own0 started (by kernel_rfl) Try.func10
    (ChangeSpec.witness6 (enc := enc) (C := Try.checked) false ⟨#[], #[.agg #[.float .f32 0, .float .f32 0], .float .f32 0, .int .i64 0, .int .i64 0], []⟩ 8 (by kernel_rfl) (by kernel_rfl) (by kernel_rfl) (by kernel_rfl)) ?_
  intro W base args ds gs before hval0 hW _ _
  have hval : ∀ (j : Nat) t v, Try.f10.params[j]? = some t → args[j]? = some v → Value.okWide Try.prog W .any base t v := hval0
  have hW1 := hW
  obtain ⟨p, q, hA0, _, _, _, _⟩ := hW
  have hA : DataW.TrodAll enc Try.prog W 0 (fun _ => true) true Try.f10.params.toList args.toList ds p := hA0
  rw [Try.params10] at hA hval
  obtain ⟨v0, w0, d0, k0, a0, b0, e0, rfl, rfl, r0, h0⟩ := trodAll_cons hA
  obtain ⟨v1, w1, d1, k1, a1, b1, e1, rfl, rfl, r1, h1⟩ := trodAll_cons h0
  subst e1
  obtain ⟨v2, w2, d2, k2, a2, b2, e2, rfl, rfl, r2, h2⟩ := trodAll_cons h1
  subst e2
  obtain ⟨v3, w3, d3, k3, a3, b3, e3, rfl, rfl, r3, h3⟩ := trodAll_cons h2
  subst e3
  obtain ⟨rfl, rfl, rfl⟩ := trodAll_nil h3
  have hargs : args = #[v0, v1, v2, v3] := by cases args; simp_all
  subst hargs
  obtain ⟨⟨l0⟩, rfl⟩ := agg_of (by kernel_rfl) (hval 0 24 v0 rfl rfl)
  obtain ⟨z0, r0⟩ := r0
  have s0 : F2 (LeafR W) [.sc (.f .f32), .sc (.f .f32)] l0 := trod_leaves _ 8 24 _ _ _ (by kernel_rfl) r0
  obtain ⟨m0a, m0b, y0a, y0b, rfl⟩ := F2_list2 s0
  obtain ⟨c0a, rfl, g0a⟩ := y0a
  obtain ⟨c0b, rfl, g0b⟩ := y0b
  have q1 := one_of (by kernel_rfl) (hval 1 22 v1 rfl rfl)
  obtain ⟨z1, r1⟩ := r1
  rw [q1] at r1
  have s1 : F2 (LeafR W) [.sc (.f .f32)] [v1] := trod_leaves _ 8 22 _ _ _ (by kernel_rfl) r1
  obtain ⟨y1a, _⟩ := s1
  obtain ⟨c1a, rfl, g1a⟩ := y1a
  have q2 := one_of (by kernel_rfl) (hval 2 2 v2 rfl rfl)
  obtain ⟨z2, r2⟩ := r2
  rw [q2] at r2
  have s2 : F2 (LeafR W) [.sc (.i .i64)] [v2] := trod_leaves _ 8 2 _ _ _ (by kernel_rfl) r2
  obtain ⟨y2a, _⟩ := s2
  obtain ⟨c2a, rfl, g2a⟩ := y2a
  have q3 := one_of (by kernel_rfl) (hval 3 2 v3 rfl rfl)
  obtain ⟨z3, r3⟩ := r3
  rw [q3] at r3
  have s3 : F2 (LeafR W) [.sc (.i .i64)] [v3] := trod_leaves _ 8 2 _ _ _ (by kernel_rfl) r3
  obtain ⟨y3a, _⟩ := s3
  obtain ⟨c3a, rfl, g3a⟩ := y3a
  have hl := law_FnExactBoxesOf (cf .f32 c0a : Nat) (cf .f32 c0b : Nat) (cf .f32 c1a : Nat) (c2a) (c3a) ⟨c0a, rfl, g0a⟩ ⟨c0b, rfl, g0b⟩ ⟨c1a, rfl, g1a⟩ g2a g3a
  have hh : Holds Try.prog 10 _ _ _ _ := ok_laws_FnExactBoxesOf.1 _ _ _ _ (c_laws_FnExactBoxesOf_eq (cf .f32 c0a : Nat) (cf .f32 c0b : Nat) (cf .f32 c1a : Nat) (c2a) (c3a) hl)
  refine Calls.mono (calls_of_holds (ι := plc []) Try.func10 rfl rfl hh ?_ (hr_of ?_)) (fun e W1 ⟨he, hb⟩ => ?_)
  · exact ⟨⟨_, rfl, ⟨c0a, rfl, rfl⟩, ⟨c0b, rfl, rfl⟩, trivial⟩, ⟨c1a, rfl, rfl⟩, rfl, rfl, trivial⟩
  · exact trivial
  subst he
  exact ⟨_, rfl, law_post laid0 (by kernel_rfl) rfl Try.underlying4 rfl ⟨rfl, rfl, rfl⟩ hW1 hb⟩

theorem FnExactBoxesOf_holds : Rows.FnExactBoxesOfSaid :=
  OpenClaim.holds_of_wide 10 Try.f10 rfl rfl rfl rfl rfl rfl rfl ⟨rfl, rfl, rfl, rfl, rfl⟩ rfl rfl rfl rfl rfl (by kernel_rfl) Try.func10 (by kernel_rfl)
    (of_decide_eq_true (by kernel_rfl)) (by unfold Func.isWrapper; first | (rw [if_pos (by decide +kernel)]; kernel_rfl) | (rw [if_neg (by decide +kernel)]; exact ⟨rfl, rfl⟩))
    (fun os started H enc _ => FnExactBoxesOf_lifted os started H enc)

#print axioms FnExactBoxesOf_holds
end Go.Proofs.Ytnlfpamdcohiiaa
