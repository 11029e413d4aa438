import Derived.Test.YtodilhnddnoekaaXr7r
import Derived.Test.YtodilhnddnoekaaF4
/- Proved: the law FnExactRunChain returns true at every input, and leaves its arguments as they were. Conditions: none. -/
import Derived.Test.YtodilhnddnoekaaRows
namespace Go.Fx
open Go.Proofs
theorem c_laws_FnExactRunChain_eq (x0 : List (List Int)) (x1 : List (List Int)) (x2 : List (List Int)) (x3 : List (List Int)) (x4 : Int) (x5 : Int) (x6 : Int) (x7 : Int) (x8 : Int) (x9 : Int) (x10 : Int) (h : Pure.laws_FnExactRunChain_ok real x0 x1 x2 x3 x4 x5 x6 x7 x8 x9 x10 = true ∧ Pure.laws_FnExactRunChain real x0 x1 x2 x3 x4 x5 x6 x7 x8 x9 x10 = true) : c_laws_FnExactRunChain real [V.agg [A.sl 0, A.sl 1, A.sl 2, A.sl 3], V.agg [A.fl FloatKind.f32 x4, A.fl FloatKind.f32 x5, A.fl FloatKind.f32 x6], V.at (A.fl FloatKind.f32 x7), V.at (A.fl FloatKind.f32 x8), V.at (A.int IntKind.i64 x9), V.at (A.int IntKind.i64 x10)] [⟨false, OC.rows [K.f FloatKind.f32, K.f FloatKind.f32, K.f FloatKind.f32] x0⟩, ⟨false, OC.rows [K.f FloatKind.f32, K.f FloatKind.f32, K.f FloatKind.f32] x1⟩, ⟨false, OC.rows [K.f FloatKind.f32] x2⟩, ⟨false, OC.rows [K.i IntKind.i64, K.i IntKind.i64, K.f FloatKind.f32] x3⟩] = some (true, ⟨.at (.bool true), none, []⟩) := by
  simp only [c_laws_FnExactRunChain, h.1, h.2]
end Go.Fx
namespace Go.Proofs.Ytodilhnddnoekaa
open Go.ChangeShapes Go.WideShapes Go.ChangeAt Go.RowKit Go.Fx
theorem own0 : ownKnob Try.prog.godebug = none := by kernel_rfl
theorem laid0 : laidOutB Try.prog = true := by kernel_rfl
set_option maxRecDepth 100000 in
theorem FnExactRunChain_lifted (os : Os) (started : os.Started) (H : Type) (enc : TypeId × Value → H) :
    ReturnsInHanded {} Try.checked os 5 .any (Rows.fnExactRunChainSpec.pre6 enc Try.prog Try.f5 Rows.fnExactRunChainRow.domain false) (Rows.fnExactRunChainSpec.post enc Try.prog Try.f5 false true false false) := by
  refine returnsInHanded_of_change (C := Try.checked) own0 started (by kernel_rfl) Try.func5
    (ChangeSpec.witness6 (enc := enc) (C := Try.checked) false ⟨#[], #[.agg #[.slice none 0 0, .slice none 0 0, .slice none 0 0, .slice none 0 0], .agg #[.float .f32 0, .float .f32 0, .float .f32 0], .float .f32 0, .float .f32 0, .int .i64 0, .int .i64 0], []⟩ 8 (by kernel_rfl) (by kernel_rfl) (by kernel_rfl) (by kernel_rfl)) ?_
  intro W base args ds gs before hval0 hW _ _
  have hval : ∀ (j : Nat) t v, Try.f5.params[j]? = some t → args[j]? = some v → Value.okWide Try.prog W .any base t v := hval0
  have hW1 := hW
  obtain ⟨p, q, hA0, _, _, _, _⟩ := hW
  have hA : DataW.TrodAll enc Try.prog W 0 (fun _ => true) true Try.f5.params.toList args.toList ds p := hA0
  rw [Try.params5] at hA hval
  obtain ⟨v0, w0, d0, k0, a0, b0, e0, rfl, rfl, r0, h0⟩ := trodAll_cons hA
  obtain ⟨v1, w1, d1, k1, a1, b1, e1, rfl, rfl, r1, h1⟩ := trodAll_cons h0
  subst e1
  obtain ⟨v2, w2, d2, k2, a2, b2, e2, rfl, rfl, r2, h2⟩ := trodAll_cons h1
  subst e2
  obtain ⟨v3, w3, d3, k3, a3, b3, e3, rfl, rfl, r3, h3⟩ := trodAll_cons h2
  subst e3
  obtain ⟨v4, w4, d4, k4, a4, b4, e4, rfl, rfl, r4, h4⟩ := trodAll_cons h3
  subst e4
  obtain ⟨v5, w5, d5, k5, a5, b5, e5, rfl, rfl, r5, h5⟩ := trodAll_cons h4
  subst e5
  obtain ⟨rfl, rfl, rfl⟩ := trodAll_nil h5
  have hargs : args = #[v0, v1, v2, v3, v4, v5] := by cases args; simp_all
  subst hargs
  obtain ⟨⟨l0⟩, rfl⟩ := agg_of (by kernel_rfl) (hval 0 26 v0 rfl rfl)
  obtain ⟨z0, r0⟩ := r0
  have s0 : F2 (LeafR W) [.sl [K.f FloatKind.f32, K.f FloatKind.f32, K.f FloatKind.f32], .sl [K.f FloatKind.f32, K.f FloatKind.f32, K.f FloatKind.f32], .sl [K.f FloatKind.f32], .sl [K.i IntKind.i64, K.i IntKind.i64, K.f FloatKind.f32]] l0 := trod_leaves _ 8 26 _ _ _ (by kernel_rfl) r0
  obtain ⟨m0a, m0b, m0c, m0d, y0a, y0b, y0c, y0d, rfl⟩ := F2_list4 s0
  obtain ⟨p0a, x0a, g0a, ha0a, ho0a⟩ := leaf_sl y0a
  obtain ⟨p0b, x0b, g0b, ha0b, ho0b⟩ := leaf_sl y0b
  obtain ⟨p0c, x0c, g0c, ha0c, ho0c⟩ := leaf_sl y0c
  obtain ⟨p0d, x0d, g0d, ha0d, ho0d⟩ := leaf_sl y0d
  obtain ⟨⟨l1⟩, rfl⟩ := agg_of (by kernel_rfl) (hval 1 29 v1 rfl rfl)
  obtain ⟨z1, r1⟩ := r1
  have s1 : F2 (LeafR W) [.sc (.f .f32), .sc (.f .f32), .sc (.f .f32)] l1 := trod_leaves _ 8 29 _ _ _ (by kernel_rfl) r1
  obtain ⟨m1a, m1b, m1c, y1a, y1b, y1c, rfl⟩ := F2_list3 s1
  obtain ⟨c1a, rfl, g1a⟩ := y1a
  obtain ⟨c1b, rfl, g1b⟩ := y1b
  obtain ⟨c1c, rfl, g1c⟩ := y1c
  have q2 := one_of (by kernel_rfl) (hval 2 27 v2 rfl rfl)
  obtain ⟨z2, r2⟩ := r2
  rw [q2] at r2
  have s2 : F2 (LeafR W) [.sc (.f .f32)] [v2] := trod_leaves _ 8 27 _ _ _ (by kernel_rfl) r2
  obtain ⟨y2a, _⟩ := s2
  obtain ⟨c2a, rfl, g2a⟩ := y2a
  have q3 := one_of (by kernel_rfl) (hval 3 27 v3 rfl rfl)
  obtain ⟨z3, r3⟩ := r3
  rw [q3] at r3
  have s3 : F2 (LeafR W) [.sc (.f .f32)] [v3] := trod_leaves _ 8 27 _ _ _ (by kernel_rfl) r3
  obtain ⟨y3a, _⟩ := s3
  obtain ⟨c3a, rfl, g3a⟩ := y3a
  have q4 := one_of (by kernel_rfl) (hval 4 2 v4 rfl rfl)
  obtain ⟨z4, r4⟩ := r4
  rw [q4] at r4
  have s4 : F2 (LeafR W) [.sc (.i .i64)] [v4] := trod_leaves _ 8 2 _ _ _ (by kernel_rfl) r4
  obtain ⟨y4a, _⟩ := s4
  obtain ⟨c4a, rfl, g4a⟩ := y4a
  have q5 := one_of (by kernel_rfl) (hval 5 2 v5 rfl rfl)
  obtain ⟨z5, r5⟩ := r5
  rw [q5] at r5
  have s5 : F2 (LeafR W) [.sc (.i .i64)] [v5] := trod_leaves _ 8 2 _ _ _ (by kernel_rfl) r5
  obtain ⟨y5a, _⟩ := s5
  obtain ⟨c5a, rfl, g5a⟩ := y5a
  have hl := law_FnExactRunChain (x0a) (x0b) (x0c) (x0d) (cf .f32 c1a : Nat) (cf .f32 c1b : Nat) (cf .f32 c1c : Nat) (cf .f32 c2a : Nat) (cf .f32 c3a : Nat) (c4a) (c5a) g0a g0b g0c g0d ⟨c1a, rfl, g1a⟩ ⟨c1b, rfl, g1b⟩ ⟨c1c, rfl, g1c⟩ ⟨c2a, rfl, g2a⟩ ⟨c3a, rfl, g3a⟩ g4a g5a
  have hh : Holds Try.prog 5 _ _ _ _ := ok_laws_FnExactRunChain.1 _ _ _ _ (c_laws_FnExactRunChain_eq (x0a) (x0b) (x0c) (x0d) (cf .f32 c1a : Nat) (cf .f32 c1b : Nat) (cf .f32 c1c : Nat) (cf .f32 c2a : Nat) (cf .f32 c3a : Nat) (c4a) (c5a) hl)
  refine Calls.mono (calls_of_holds (ι := plc [p0a, p0b, p0c, p0d]) Try.func5 rfl rfl hh ?_ (hr_of ?_)) (fun e W1 ⟨he, hb⟩ => ?_)
  · exact ⟨⟨_, rfl, ha0a _ _ 0 rfl rfl, ha0b _ _ 1 rfl rfl, ha0c _ _ 2 rfl rfl, ha0d _ _ 3 rfl rfl, trivial⟩, ⟨_, rfl, ⟨c1a, rfl, rfl⟩, ⟨c1b, rfl, rfl⟩, ⟨c1c, rfl, rfl⟩, trivial⟩, ⟨c2a, rfl, rfl⟩, ⟨c3a, rfl, rfl⟩, rfl, rfl, trivial⟩
  · exact ⟨ho0a _ _ 0 rfl, ho0b _ _ 1 rfl, ho0c _ _ 2 rfl, ho0d _ _ 3 rfl, trivial⟩
  subst he
  exact ⟨_, rfl, law_post laid0 (by kernel_rfl) rfl Try.underlying4 rfl ⟨rfl, rfl, rfl⟩ hW1 hb⟩

theorem FnExactRunChain_holds : Rows.FnExactRunChainSaid :=
  OpenClaim.holds_of_wide 5 Try.f5 rfl rfl rfl rfl rfl rfl rfl ⟨rfl, rfl, rfl, rfl, rfl⟩ rfl rfl rfl rfl rfl (by kernel_rfl) Try.func5 (by kernel_rfl)
    (of_decide_eq_true (by kernel_rfl)) (by unfold Func.isWrapper; first | (rw [if_pos (by decide +kernel)]; kernel_rfl) | (rw [if_neg (by decide +kernel)]; exact ⟨rfl, rfl⟩))
    (fun os started H enc _ => FnExactRunChain_lifted os started H enc)

#print axioms FnExactRunChain_holds
end Go.Proofs.Ytodilhnddnoekaa
