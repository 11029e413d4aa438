import Derived.Test.YtfefhcbffepdlaaXr6m
import Derived.Test.YtfefhcbffepdlaaF4
/- Proved: the law FnExactStepTop returns true at every input, and leaves its arguments as they were. Conditions: none. -/
import Derived.Test.YtfefhcbffepdlaaRows
namespace Go.Fx
open Go.Proofs
theorem c_laws_FnExactStepTop_eq (x0 : Int) (x1 : Int) (x2 : Int) (x3 : Int) (x4 : Int) (x5 : Int) (x6 : Int) (x7 : Int) (x8 : Int) (x9 : Int) (x10 : Int) (x11 : Int) (x12 : Int) (x13 : Int) (h : Pure.laws_FnExactStepTop_ok real x0 x1 x2 x3 x4 x5 x6 x7 x8 x9 x10 x11 x12 x13 = true ∧ Pure.laws_FnExactStepTop real x0 x1 x2 x3 x4 x5 x6 x7 x8 x9 x10 x11 x12 x13 = true) : c_laws_FnExactStepTop real [V.agg [A.fl FloatKind.f32 x0, A.fl FloatKind.f32 x1, A.fl FloatKind.f32 x2, A.fl FloatKind.f32 x3, A.fl FloatKind.f32 x4, A.fl FloatKind.f32 x5, A.fl FloatKind.f32 x6, A.fl FloatKind.f32 x7, A.fl FloatKind.f32 x8, A.fl FloatKind.f32 x9], V.agg [A.fl FloatKind.f32 x10, A.fl FloatKind.f32 x11, A.fl FloatKind.f32 x12], V.at (A.fl FloatKind.f32 x13)] [] = some (true, ⟨.at (.bool true), none, []⟩) := by
  simp only [c_laws_FnExactStepTop, h.1, h.2]
end Go.Fx
namespace Go.Proofs.Ytfefhcbffepdlaa
open Go.ChangeShapes Go.WideShapes Go.ChangeAt Go.RowKit Go.Fx
theorem own0 : ownKnob Try.prog.godebug = none := by kernel_rfl
theorem laid0 : laidOutB Try.prog = true := by kernel_rfl
set_option maxRecDepth 100000 in
theorem FnExactStepTop_lifted (os : Os) (started : os.Started) (H : Type) (enc : TypeId × Value → H) :
    ReturnsInHanded {} Try.checked os 5 .any (Rows.fnExactStepTopSpec.pre6 enc Try.prog Try.f5 Rows.fnExactStepTopRow.domain false) (Rows.fnExactStepTopSpec.post enc Try.prog Try.f5 false true false false) := by
  refine returnsInHanded_of_change (C := Try.checked) own0 started (by kernel_rfl) Try.func5
    (ChangeSpec.witness6 (enc := enc) (C := Try.checked) false ⟨#[], #[.agg #[.float .f32 0, .float .f32 0, .float .f32 0, .float .f32 0, .float .f32 0, .float .f32 0, .float .f32 0, .float .f32 0, .float .f32 0, .float .f32 0], .agg #[.float .f32 0, .float .f32 0, .float .f32 0], .float .f32 0], []⟩ 8 (by kernel_rfl) (by kernel_rfl) (by kernel_rfl) (by kernel_rfl)) ?_
  intro W base args ds gs before hval0 hW _ _
  have hval : ∀ (j : Nat) t v, Try.f5.params[j]? = some t → args[j]? = some v → Value.okWide Try.prog W .any base t v := hval0
  have hW1 := hW
  obtain ⟨p, q, hA0, _, _, _, _⟩ := hW
  have hA : DataW.TrodAll enc Try.prog W 0 (fun _ => true) true Try.f5.params.toList args.toList ds p := hA0
  rw [Try.params5] at hA hval
  obtain ⟨v0, w0, d0, k0, a0, b0, e0, rfl, rfl, r0, h0⟩ := trodAll_cons hA
  obtain ⟨v1, w1, d1, k1, a1, b1, e1, rfl, rfl, r1, h1⟩ := trodAll_cons h0
  subst e1
  obtain ⟨v2, w2, d2, k2, a2, b2, e2, rfl, rfl, r2, h2⟩ := trodAll_cons h1
  subst e2
  obtain ⟨rfl, rfl, rfl⟩ := trodAll_nil h2
  have hargs : args = #[v0, v1, v2] := by cases args; simp_all
  subst hargs
  obtain ⟨⟨l0⟩, rfl⟩ := agg_of (by kernel_rfl) (hval 0 44 v0 rfl rfl)
  obtain ⟨z0, r0⟩ := r0
  have s0 : F2 (LeafR W) [.sc (.f .f32), .sc (.f .f32), .sc (.f .f32), .sc (.f .f32), .sc (.f .f32), .sc (.f .f32), .sc (.f .f32), .sc (.f .f32), .sc (.f .f32), .sc (.f .f32)] l0 := trod_leaves _ 8 44 _ _ _ (by kernel_rfl) r0
  obtain ⟨m0a, m0b, m0c, m0d, m0e, m0f, m0g, m0h, m0i, m0j, y0a, y0b, y0c, y0d, y0e, y0f, y0g, y0h, y0i, y0j, rfl⟩ := F2_list10 s0
  obtain ⟨c0a, rfl, g0a⟩ := y0a
  obtain ⟨c0b, rfl, g0b⟩ := y0b
  obtain ⟨c0c, rfl, g0c⟩ := y0c
  obtain ⟨c0d, rfl, g0d⟩ := y0d
  obtain ⟨c0e, rfl, g0e⟩ := y0e
  obtain ⟨c0f, rfl, g0f⟩ := y0f
  obtain ⟨c0g, rfl, g0g⟩ := y0g
  obtain ⟨c0h, rfl, g0h⟩ := y0h
  obtain ⟨c0i, rfl, g0i⟩ := y0i
  obtain ⟨c0j, rfl, g0j⟩ := y0j
  obtain ⟨⟨l1⟩, rfl⟩ := agg_of (by kernel_rfl) (hval 1 42 v1 rfl rfl)
  obtain ⟨z1, r1⟩ := r1
  have s1 : F2 (LeafR W) [.sc (.f .f32), .sc (.f .f32), .sc (.f .f32)] l1 := trod_leaves _ 8 42 _ _ _ (by kernel_rfl) r1
  obtain ⟨m1a, m1b, m1c, y1a, y1b, y1c, rfl⟩ := F2_list3 s1
  obtain ⟨c1a, rfl, g1a⟩ := y1a
  obtain ⟨c1b, rfl, g1b⟩ := y1b
  obtain ⟨c1c, rfl, g1c⟩ := y1c
  have q2 := one_of (by kernel_rfl) (hval 2 24 v2 rfl rfl)
  obtain ⟨z2, r2⟩ := r2
  rw [q2] at r2
  have s2 : F2 (LeafR W) [.sc (.f .f32)] [v2] := trod_leaves _ 8 24 _ _ _ (by kernel_rfl) r2
  obtain ⟨y2a, _⟩ := s2
  obtain ⟨c2a, rfl, g2a⟩ := y2a
  have hl := law_FnExactStepTop (cf .f32 c0a : Nat) (cf .f32 c0b : Nat) (cf .f32 c0c : Nat) (cf .f32 c0d : Nat) (cf .f32 c0e : Nat) (cf .f32 c0f : Nat) (cf .f32 c0g : Nat) (cf .f32 c0h : Nat) (cf .f32 c0i : Nat) (cf .f32 c0j : Nat) (cf .f32 c1a : Nat) (cf .f32 c1b : Nat) (cf .f32 c1c : Nat) (cf .f32 c2a : Nat) ⟨c0a, rfl, g0a⟩ ⟨c0b, rfl, g0b⟩ ⟨c0c, rfl, g0c⟩ ⟨c0d, rfl, g0d⟩ ⟨c0e, rfl, g0e⟩ ⟨c0f, rfl, g0f⟩ ⟨c0g, rfl, g0g⟩ ⟨c0h, rfl, g0h⟩ ⟨c0i, rfl, g0i⟩ ⟨c0j, rfl, g0j⟩ ⟨c1a, rfl, g1a⟩ ⟨c1b, rfl, g1b⟩ ⟨c1c, rfl, g1c⟩ ⟨c2a, rfl, g2a⟩
  have hh : Holds Try.prog 5 _ _ _ _ := ok_laws_FnExactStepTop.1 _ _ _ _ (c_laws_FnExactStepTop_eq (cf .f32 c0a : Nat) (cf .f32 c0b : Nat) (cf .f32 c0c : Nat) (cf .f32 c0d : Nat) (cf .f32 c0e : Nat) (cf .f32 c0f : Nat) (cf .f32 c0g : Nat) (cf .f32 c0h : Nat) (cf .f32 c0i : Nat) (cf .f32 c0j : Nat) (cf .f32 c1a : Nat) (cf .f32 c1b : Nat) (cf .f32 c1c : Nat) (cf .f32 c2a : Nat) hl)
  refine Calls.mono (calls_of_holds (ι := plc []) Try.func5 rfl rfl hh ?_ (hr_of ?_)) (fun e W1 ⟨he, hb⟩ => ?_)
  · exact ⟨⟨_, rfl, ⟨c0a, rfl, rfl⟩, ⟨c0b, rfl, rfl⟩, ⟨c0c, rfl, rfl⟩, ⟨c0d, rfl, rfl⟩, ⟨c0e, rfl, rfl⟩, ⟨c0f, rfl, rfl⟩, ⟨c0g, rfl, rfl⟩, ⟨c0h, rfl, rfl⟩, ⟨c0i, rfl, rfl⟩, ⟨c0j, rfl, rfl⟩, trivial⟩, ⟨_, rfl, ⟨c1a, rfl, rfl⟩, ⟨c1b, rfl, rfl⟩, ⟨c1c, rfl, rfl⟩, trivial⟩, ⟨c2a, rfl, rfl⟩, trivial⟩
  · exact trivial
  subst he
  exact ⟨_, rfl, law_post laid0 (by kernel_rfl) rfl Try.underlying4 rfl ⟨rfl, rfl, rfl⟩ hW1 hb⟩

theorem FnExactStepTop_holds : Rows.FnExactStepTopSaid :=
  OpenClaim.holds_of_wide 5 Try.f5 rfl rfl rfl rfl rfl rfl rfl ⟨rfl, rfl, rfl, rfl, rfl⟩ rfl rfl rfl rfl rfl (by kernel_rfl) Try.func5 (by kernel_rfl)
    (of_decide_eq_true (by kernel_rfl)) (by unfold Func.isWrapper; first | (rw [if_pos (by decide +kernel)]; kernel_rfl) | (rw [if_neg (by decide +kernel)]; exact ⟨rfl, rfl⟩))
    (fun os started H enc _ => FnExactStepTop_lifted os started H enc)

#print axioms FnExactStepTop_holds
end Go.Proofs.Ytfefhcbffepdlaa
