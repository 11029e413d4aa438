/- Proved: the law FnExactSetBall returns true at every input, and leaves its arguments as they were. Conditions: none. -/
import Derived.Test.YtpgpjkkncghbhaaXr2s
import Derived.Test.YtpgpjkkncghbhaaF4
import Derived.Test.YtpgpjkkncghbhaaRows
namespace Go.Fx
open Go.Proofs
theorem c_laws_FnExactSetBall_eq (x0 : List (List Int)) (x1 : Int) (x2 : Int) (x3 : Int) (x4 : Int) (x5 : Int) (h : Pure.laws_FnExactSetBall_ok real x0 x1 x2 x3 x4 x5 = true ∧ Pure.laws_FnExactSetBall real x0 x1 x2 x3 x4 x5 = true) : c_laws_FnExactSetBall real [V.agg [A.sl 0, A.fl FloatKind.f32 x1], V.at (A.int IntKind.i64 x2), V.agg [A.fl FloatKind.f32 x3, A.fl FloatKind.f32 x4, A.fl FloatKind.f32 x5]] [⟨false, OC.rows [K.f FloatKind.f32, K.f FloatKind.f32, K.f FloatKind.f32] x0⟩] = some (true, ⟨.at (.bool true), none, []⟩) := by
  simp only [c_laws_FnExactSetBall, h.1, h.2]
end Go.Fx
namespace Go.Proofs.Ytpgpjkkncghbhaa
open Go.ChangeShapes Go.WideShapes Go.ChangeAt Go.RowKit Go.Fx
theorem own0 : ownKnob Try.prog.godebug = none := by kernel_rfl
theorem laid0 : laidOutB Try.prog = true := by kernel_rfl
set_option maxRecDepth 100000 in
theorem FnExactSetBall_lifted (os : Os) (started : os.Started) (H : Type) (enc : TypeId × Value → H) :
    ReturnsInHanded {} Try.checked os 10 .any (Rows.fnExactSetBallSpec.pre6 enc Try.prog Try.f10 Rows.fnExactSetBallRow.domain false) (Rows.fnExactSetBallSpec.post enc Try.prog Try.f10 false true false false) := by
  refine returnsInHanded_of_change (C := Try.checked) own0 started (by kernel_rfl) Try.func10
    (ChangeSpec.witness6 (enc := enc) (C := Try.checked) false ⟨#[], #[.agg #[.slice none 0 0, .float .f32 0], .int .i64 0, .agg #[.float .f32 0, .float .f32 0, .float .f32 0]], []⟩ 8 (by kernel_rfl) (by kernel_rfl) (by kernel_rfl) (by kernel_rfl)) ?_
  intro W base args ds gs before hval0 hW _ _
  have hval : ∀ (j : Nat) t v, Try.f10.params[j]? = some t → args[j]? = some v → Value.okWide Try.prog W .any base t v := hval0
  have hW1 := hW
  obtain ⟨p, q, hA0, _, _, _, _⟩ := hW
  have hA : DataW.TrodAll enc Try.prog W 0 (fun _ => true) true Try.f10.params.toList args.toList ds p := hA0
  rw [Try.params10] at hA hval
  obtain ⟨v0, w0, d0, k0, a0, b0, e0, rfl, rfl, r0, h0⟩ := trodAll_cons hA
  obtain ⟨v1, w1, d1, k1, a1, b1, e1, rfl, rfl, r1, h1⟩ := trodAll_cons h0
  subst e1
  obtain ⟨v2, w2, d2, k2, a2, b2, e2, rfl, rfl, r2, h2⟩ := trodAll_cons h1
  subst e2
  obtain ⟨rfl, rfl, rfl⟩ := trodAll_nil h2
  have hargs : args = #[v0, v1, v2] := by cases args; simp_all
  subst hargs
  obtain ⟨⟨l0⟩, rfl⟩ := agg_of (by kernel_rfl) (hval 0 33 v0 rfl rfl)
  obtain ⟨z0, r0⟩ := r0
  have s0 : F2 (LeafR W) [.sl [K.f FloatKind.f32, K.f FloatKind.f32, K.f FloatKind.f32], .sc (.f .f32)] l0 := trod_leaves _ 8 33 _ _ _ (by kernel_rfl) r0
  obtain ⟨m0a, m0b, y0a, y0b, rfl⟩ := F2_list2 s0
  obtain ⟨p0a, x0a, g0a, ha0a, ho0a⟩ := leaf_sl y0a
  obtain ⟨c0b, rfl, g0b⟩ := y0b
  have q1 := one_of (by kernel_rfl) (hval 1 2 v1 rfl rfl)
  obtain ⟨z1, r1⟩ := r1
  rw [q1] at r1
  have s1 : F2 (LeafR W) [.sc (.i .i64)] [v1] := trod_leaves _ 8 2 _ _ _ (by kernel_rfl) r1
  obtain ⟨y1a, _⟩ := s1
  obtain ⟨c1a, rfl, g1a⟩ := y1a
  obtain ⟨⟨l2⟩, rfl⟩ := agg_of (by kernel_rfl) (hval 2 48 v2 rfl rfl)
  obtain ⟨z2, r2⟩ := r2
  have s2 : F2 (LeafR W) [.sc (.f .f32), .sc (.f .f32), .sc (.f .f32)] l2 := trod_leaves _ 8 48 _ _ _ (by kernel_rfl) r2
  obtain ⟨m2a, m2b, m2c, y2a, y2b, y2c, rfl⟩ := F2_list3 s2
  obtain ⟨c2a, rfl, g2a⟩ := y2a
  obtain ⟨c2b, rfl, g2b⟩ := y2b
  obtain ⟨c2c, rfl, g2c⟩ := y2c
  have hl := law_FnExactSetBall (x0a) (cf .f32 c0b : Nat) (c1a) (cf .f32 c2a : Nat) (cf .f32 c2b : Nat) (cf .f32 c2c : Nat) g0a ⟨c0b, rfl, g0b⟩ g1a ⟨c2a, rfl, g2a⟩ ⟨c2b, rfl, g2b⟩ ⟨c2c, rfl, g2c⟩
  have hh : Holds Try.prog 10 _ _ _ _ := ok_laws_FnExactSetBall.1 _ _ _ _ (c_laws_FnExactSetBall_eq (x0a) (cf .f32 c0b : Nat) (c1a) (cf .f32 c2a : Nat) (cf .f32 c2b : Nat) (cf .f32 c2c : Nat) hl)
  refine Calls.mono (calls_of_holds (ι := plc [p0a]) Try.func10 rfl rfl hh ?_ (hr_of ?_)) (fun e W1 ⟨he, hb⟩ => ?_)
  · exact ⟨⟨_, rfl, ha0a _ _ 0 rfl rfl, ⟨c0b, rfl, rfl⟩, trivial⟩, rfl, ⟨_, rfl, ⟨c2a, rfl, rfl⟩, ⟨c2b, rfl, rfl⟩, ⟨c2c, rfl, rfl⟩, trivial⟩, trivial⟩
  · exact ⟨ho0a _ _ 0 rfl, trivial⟩
  subst he
  exact ⟨_, rfl, law_post laid0 (by kernel_rfl) rfl Try.underlying4 rfl ⟨rfl, rfl, rfl⟩ hW1 hb⟩

theorem FnExactSetBall_holds : Rows.FnExactSetBallSaid :=
  OpenClaim.holds_of_wide 10 Try.f10 rfl rfl rfl rfl rfl rfl rfl ⟨rfl, rfl, rfl, rfl, rfl⟩ rfl rfl rfl rfl rfl (by kernel_rfl) Try.func10 (by kernel_rfl)
    (of_decide_eq_true (by kernel_rfl)) (by unfold Func.isWrapper; first | (rw [if_pos (by decide +kernel)]; kernel_rfl) | (rw [if_neg (by decide +kernel)]; exact ⟨rfl, rfl⟩))
    (fun os started H enc _ => FnExactSetBall_lifted os started H enc)

#print axioms FnExactSetBall_holds
end Go.Proofs.Ytpgpjkkncghbhaa
