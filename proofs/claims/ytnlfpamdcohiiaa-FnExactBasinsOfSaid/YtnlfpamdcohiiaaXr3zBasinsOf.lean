import Derived.Test.YtnlfpamdcohiiaaXr3ba
import Derived.Test.YtnlfpamdcohiiaaF4
/- Proved: the law FnExactBasinsOf returns true at every input, and leaves its arguments as they were. Conditions: none. -/
import Derived.Test.YtnlfpamdcohiiaaRows
namespace Go.Fx
open Go.Proofs
theorem c_laws_FnExactBasinsOf_eq (x0 : Int) (x1 : Int) (x2 : Int) (x3 : Int) (x4 : Int) (x5 : Int) (h : Pure.laws_FnExactBasinsOf_ok real x0 x1 x2 x3 x4 x5 = true ∧ Pure.laws_FnExactBasinsOf real x0 x1 x2 x3 x4 x5 = true) : c_laws_FnExactBasinsOf real [V.at (A.int IntKind.i64 x0), V.at (A.int IntKind.i64 x1), V.at (A.fl FloatKind.f32 x2), V.at (A.fl FloatKind.f32 x3), V.at (A.int IntKind.i64 x4), V.at (A.int IntKind.i64 x5)] [] = some (true, ⟨.at (.bool true), none, []⟩) := by
  simp only [c_laws_FnExactBasinsOf, h.1, h.2]
end Go.Fx
namespace Go.Proofs.Ytnlfpamdcohiiaa
open Go.ChangeShapes Go.WideShapes Go.ChangeAt Go.RowKit Go.Fx
theorem own0 : ownKnob Try.prog.godebug = none := by kernel_rfl
theorem laid0 : laidOutB Try.prog = true := by kernel_rfl
set_option maxRecDepth 100000 in
theorem FnExactBasinsOf_lifted (os : Os) (started : os.Started) (H : Type) (enc : TypeId × Value → H) :
    ReturnsInHanded {} Try.checked os 14 .any (Rows.fnExactBasinsOfSpec.pre6 enc Try.prog Try.f14 Rows.fnExactBasinsOfRow.domain false) (Rows.fnExactBasinsOfSpec.post enc Try.prog Try.f14 false true false false) := by
  refine returnsInHanded_of_change (C := Try.checked) own0 started (by kernel_rfl) Try.func14
    (ChangeSpec.witness6 (enc := enc) (C := Try.checked) false ⟨#[], #[.int .i64 0, .int .i64 0, .float .f32 0, .float .f32 0, .int .i64 0, .int .i64 0], []⟩ 8 (by kernel_rfl) (by kernel_rfl) (by kernel_rfl) (by kernel_rfl)) ?_
  intro W base args ds gs before hval0 hW _ _
  have hval : ∀ (j : Nat) t v, Try.f14.params[j]? = some t → args[j]? = some v → Value.okWide Try.prog W .any base t v := hval0
  have hW1 := hW
  obtain ⟨p, q, hA0, _, _, _, _⟩ := hW
  have hA : DataW.TrodAll enc Try.prog W 0 (fun _ => true) true Try.f14.params.toList args.toList ds p := hA0
  rw [Try.params14] at hA hval
  obtain ⟨v0, w0, d0, k0, a0, b0, e0, rfl, rfl, r0, h0⟩ := trodAll_cons hA
  obtain ⟨v1, w1, d1, k1, a1, b1, e1, rfl, rfl, r1, h1⟩ := trodAll_cons h0
  subst e1
  obtain ⟨v2, w2, d2, k2, a2, b2, e2, rfl, rfl, r2, h2⟩ := trodAll_cons h1
  subst e2
  obtain ⟨v3, w3, d3, k3, a3, b3, e3, rfl, rfl, r3, h3⟩ := trodAll_cons h2
  subst e3
  obtain ⟨v4, w4, d4, k4, a4, b4, e4, rfl, rfl, r4, h4⟩ := trodAll_cons h3
  subst e4
  obtain ⟨v5, w5, d5, k5, a5, b5, e5, rfl, rfl, r5, h5⟩ := trodAll_cons h4
  subst e5
  obtain ⟨rfl, rfl, rfl⟩ := trodAll_nil h5
  have hargs : args = #[v0, v1, v2, v3, v4, v5] := by cases args; simp_all
  subst hargs
  have q0 := one_of (by kernel_rfl) (hval 0 2 v0 rfl rfl)
  obtain ⟨z0, r0⟩ := r0
  rw [q0] at r0
  have s0 : F2 (LeafR W) [.sc (.i .i64)] [v0] := trod_leaves _ 8 2 _ _ _ (by kernel_rfl) r0
  obtain ⟨y0a, _⟩ := s0
  obtain ⟨c0a, rfl, g0a⟩ := y0a
  have q1 := one_of (by kernel_rfl) (hval 1 2 v1 rfl rfl)
  obtain ⟨z1, r1⟩ := r1
  rw [q1] at r1
  have s1 : F2 (LeafR W) [.sc (.i .i64)] [v1] := trod_leaves _ 8 2 _ _ _ (by kernel_rfl) r1
  obtain ⟨y1a, _⟩ := s1
  obtain ⟨c1a, rfl, g1a⟩ := y1a
  have q2 := one_of (by kernel_rfl) (hval 2 22 v2 rfl rfl)
  obtain ⟨z2, r2⟩ := r2
  rw [q2] at r2
  have s2 : F2 (LeafR W) [.sc (.f .f32)] [v2] := trod_leaves _ 8 22 _ _ _ (by kernel_rfl) r2
  obtain ⟨y2a, _⟩ := s2
  obtain ⟨c2a, rfl, g2a⟩ := y2a
  have q3 := one_of (by kernel_rfl) (hval 3 22 v3 rfl rfl)
  obtain ⟨z3, r3⟩ := r3
  rw [q3] at r3
  have s3 : F2 (LeafR W) [.sc (.f .f32)] [v3] := trod_leaves _ 8 22 _ _ _ (by kernel_rfl) r3
  obtain ⟨y3a, _⟩ := s3
  obtain ⟨c3a, rfl, g3a⟩ := y3a
  have q4 := one_of (by kernel_rfl) (hval 4 2 v4 rfl rfl)
  obtain ⟨z4, r4⟩ := r4
  rw [q4] at r4
  have s4 : F2 (LeafR W) [.sc (.i .i64)] [v4] := trod_leaves _ 8 2 _ _ _ (by kernel_rfl) r4
  obtain ⟨y4a, _⟩ := s4
  obtain ⟨c4a, rfl, g4a⟩ := y4a
  have q5 := one_of (by kernel_rfl) (hval 5 2 v5 rfl rfl)
  obtain ⟨z5, r5⟩ := r5
  rw [q5] at r5
  have s5 : F2 (LeafR W) [.sc (.i .i64)] [v5] := trod_leaves _ 8 2 _ _ _ (by kernel_rfl) r5
  obtain ⟨y5a, _⟩ := s5
  obtain ⟨c5a, rfl, g5a⟩ := y5a
  have hl := law_FnExactBasinsOf (c0a) (c1a) (cf .f32 c2a : Nat) (cf .f32 c3a : Nat) (c4a) (c5a) g0a g1a ⟨c2a, rfl, g2a⟩ ⟨c3a, rfl, g3a⟩ g4a g5a
  have hh : Holds Try.prog 14 _ _ _ _ := ok_laws_FnExactBasinsOf.1 _ _ _ _ (c_laws_FnExactBasinsOf_eq (c0a) (c1a) (cf .f32 c2a : Nat) (cf .f32 c3a : Nat) (c4a) (c5a) hl)
  refine Calls.mono (calls_of_holds (ι := plc []) Try.func14 rfl rfl hh ?_ (hr_of ?_)) (fun e W1 ⟨he, hb⟩ => ?_)
  · exact ⟨rfl, rfl, ⟨c2a, rfl, rfl⟩, ⟨c3a, rfl, rfl⟩, rfl, rfl, trivial⟩
  · exact trivial
  subst he
  exact ⟨_, rfl, law_post laid0 (by kernel_rfl) rfl Try.underlying4 rfl ⟨rfl, rfl, rfl⟩ hW1 hb⟩

theorem FnExactBasinsOf_holds : Rows.FnExactBasinsOfSaid :=
  OpenClaim.holds_of_wide 14 Try.f14 rfl rfl rfl rfl rfl rfl rfl ⟨rfl, rfl, rfl, rfl, rfl⟩ rfl rfl rfl rfl rfl (by kernel_rfl) Try.func14 (by kernel_rfl)
    (of_decide_eq_true (by kernel_rfl)) (by unfold Func.isWrapper; first | (rw [if_pos (by decide +kernel)]; kernel_rfl) | (rw [if_neg (by decide +kernel)]; exact ⟨rfl, rfl⟩))
    (fun os started H enc _ => FnExactBasinsOf_lifted os started H enc)

#print axioms FnExactBasinsOf_holds
end Go.Proofs.Ytnlfpamdcohiiaa
