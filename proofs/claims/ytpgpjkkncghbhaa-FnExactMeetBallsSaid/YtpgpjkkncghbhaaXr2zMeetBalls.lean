import Derived.Test.YtpgpjkkncghbhaaXr2u
import Derived.Test.YtpgpjkkncghbhaaF4
/- Proved: the law FnExactMeetBalls returns true at every input, and leaves its arguments as they were. Conditions: none. -/
import Derived.Test.YtpgpjkkncghbhaaRows
namespace Go.Fx
open Go.Proofs
theorem c_laws_FnExactMeetBalls_eq (x0 : List (List Int)) (x1 : Int) (x2 : Int) (h : Pure.laws_FnExactMeetBalls_ok real x0 x1 x2 = true ∧ Pure.laws_FnExactMeetBalls real x0 x1 x2 = true) : c_laws_FnExactMeetBalls real [V.agg [A.sl 0, A.fl FloatKind.f32 x1], V.at (A.int IntKind.i64 x2)] [⟨false, OC.rows [K.f FloatKind.f32, K.f FloatKind.f32, K.f FloatKind.f32] x0⟩] = some (true, ⟨.at (.bool true), none, []⟩) := by
  simp only [c_laws_FnExactMeetBalls, h.1, h.2]
end Go.Fx
namespace Go.Proofs.Ytpgpjkkncghbhaa
open Go.ChangeShapes Go.WideShapes Go.ChangeAt Go.RowKit Go.Fx
theorem own0 : ownKnob Try.prog.godebug = none := by kernel_rfl
theorem laid0 : laidOutB Try.prog = true := by kernel_rfl
set_option maxRecDepth 100000 in
theorem FnExactMeetBalls_lifted (os : Os) (started : os.Started) (H : Type) (enc : TypeId × Value → H) :
    ReturnsInHanded {} Try.checked os 13 .any (Rows.fnExactMeetBallsSpec.pre6 enc Try.prog Try.f13 Rows.fnExactMeetBallsRow.domain false) (Rows.fnExactMeetBallsSpec.post enc Try.prog Try.f13 false true false false) := by
  refine returnsInHanded_of_change (C := Try.checked) own0 started (by kernel_rfl) Try.func13
    (ChangeSpec.witness6 (enc := enc) (C := Try.checked) false ⟨#[], #[.agg #[.slice none 0 0, .float .f32 0], .int .i64 0], []⟩ 8 (by kernel_rfl) (by kernel_rfl) (by kernel_rfl) (by kernel_rfl)) ?_
  intro W base args ds gs before hval0 hW _ _
  have hval : ∀ (j : Nat) t v, Try.f13.params[j]? = some t → args[j]? = some v → Value.okWide Try.prog W .any base t v := hval0
  have hW1 := hW
  obtain ⟨p, q, hA0, _, _, _, _⟩ := hW
  have hA : DataW.TrodAll enc Try.prog W 0 (fun _ => true) true Try.f13.params.toList args.toList ds p := hA0
  rw [Try.params13] at hA hval
  obtain ⟨v0, w0, d0, k0, a0, b0, e0, rfl, rfl, r0, h0⟩ := trodAll_cons hA
  obtain ⟨v1, w1, d1, k1, a1, b1, e1, rfl, rfl, r1, h1⟩ := trodAll_cons h0
  subst e1
  obtain ⟨rfl, rfl, rfl⟩ := trodAll_nil h1
  have hargs : args = #[v0, v1] := by cases args; simp_all
  subst hargs
  obtain ⟨⟨l0⟩, rfl⟩ := agg_of (by kernel_rfl) (hval 0 33 v0 rfl rfl)
  obtain ⟨z0, r0⟩ := r0
  have s0 : F2 (LeafR W) [.sl [K.f FloatKind.f32, K.f FloatKind.f32, K.f FloatKind.f32], .sc (.f .f32)] l0 := trod_leaves _ 8 33 _ _ _ (by kernel_rfl) r0
  obtain ⟨m0a, m0b, y0a, y0b, rfl⟩ := F2_list2 s0
  obtain ⟨p0a, x0a, g0a, ha0a, ho0a⟩ := leaf_sl y0a
  obtain ⟨c0b, rfl, g0b⟩ := y0b
  have q1 := one_of (by kernel_rfl) (hval 1 2 v1 rfl rfl)
  obtain ⟨z1, r1⟩ := r1
  rw [q1] at r1
  have s1 : F2 (LeafR W) [.sc (.i .i64)] [v1] := trod_leaves _ 8 2 _ _ _ (by kernel_rfl) r1
  obtain ⟨y1a, _⟩ := s1
  obtain ⟨c1a, rfl, g1a⟩ := y1a
  have hl := law_FnExactMeetBalls (x0a) (cf .f32 c0b : Nat) (c1a) g0a ⟨c0b, rfl, g0b⟩ g1a
  have hh : Holds Try.prog 13 _ _ _ _ := ok_laws_FnExactMeetBalls.1 _ _ _ _ (c_laws_FnExactMeetBalls_eq (x0a) (cf .f32 c0b : Nat) (c1a) hl)
  refine Calls.mono (calls_of_holds (ι := plc [p0a]) Try.func13 rfl rfl hh ?_ (hr_of ?_)) (fun e W1 ⟨he, hb⟩ => ?_)
  · exact ⟨⟨_, rfl, ha0a _ _ 0 rfl rfl, ⟨c0b, rfl, rfl⟩, trivial⟩, rfl, trivial⟩
  · exact ⟨ho0a _ _ 0 rfl, trivial⟩
  subst he
  exact ⟨_, rfl, law_post laid0 (by kernel_rfl) rfl Try.underlying4 rfl ⟨rfl, rfl, rfl⟩ hW1 hb⟩

theorem FnExactMeetBalls_holds : Rows.FnExactMeetBallsSaid :=
  OpenClaim.holds_of_wide 13 Try.f13 rfl rfl rfl rfl rfl rfl rfl ⟨rfl, rfl, rfl, rfl, rfl⟩ rfl rfl rfl rfl rfl (by kernel_rfl) Try.func13 (by kernel_rfl)
    (of_decide_eq_true (by kernel_rfl)) (by unfold Func.isWrapper; first | (rw [if_pos (by decide +kernel)]; kernel_rfl) | (rw [if_neg (by decide +kernel)]; exact ⟨rfl, rfl⟩))
    (fun os started H enc _ => FnExactMeetBalls_lifted os started H enc)

#print axioms FnExactMeetBalls_holds
end Go.Proofs.Ytpgpjkkncghbhaa
