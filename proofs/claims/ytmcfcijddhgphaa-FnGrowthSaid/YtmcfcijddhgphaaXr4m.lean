import Derived.Test.YtmcfcijddhgphaaXr4k
import Derived.KernelRfl
namespace Go.Fx
open Go.Proofs
set_option maxRecDepth 100000
def Pure.laws_b10Long (F : FOps) (x0 x1 : List (List Int)) : Bool := bif decide ((Int.ofNat x0.length) > 1048576) then true else decide ((Int.ofNat x1.length) > 1048576)
def c_laws_b10Long (F : FOps) : Con
  | [V.at (A.sl 0), V.at (A.sl 1)], [⟨false, .rows [K.i .u8] x0⟩, ⟨false, .rows [K.i .u8] x1⟩] => some (true, ⟨V.at (A.bool (Pure.laws_b10Long F x0 x1)), none, []⟩)
  | _, _ => none
theorem e_laws_b10Long (F : FOps) (x0 x1 : List (List Int)) : evFn (cxS F tyl [] [] [] 0) Try.f12 false [V.at (A.sl 0), V.at (A.sl 1)] [⟨false, .rows [K.i .u8] x0⟩, ⟨false, .rows [K.i .u8] x1⟩] = some ⟨V.at (A.bool (Pure.laws_b10Long F x0 x1)), none, []⟩ := by
  have h0 : evFn (cxS F tyl [] [] [] 0) Try.f12 false [V.at (A.sl 0), V.at (A.sl 1)] [⟨false, .rows [K.i .u8] x0⟩, ⟨false, .rows [K.i .u8] x1⟩] = bif decide ((Int.ofNat x0.length) > 1048576) then some ⟨V.at (A.bool true), none, []⟩ else some ⟨V.at (A.bool (decide ((Int.ofNat x1.length) > 1048576))), none, []⟩ := by kernel_rfl
  rw [h0]
  unfold Pure.laws_b10Long
  cases (decide ((Int.ofNat x0.length) > 1048576)) with
  | true =>
    rfl
  | false =>
    rfl
theorem ok_laws_b10Long : CallOK Try.prog 12 (c_laws_b10Long real) := by
  refine callOK_of fun args h ret hc => ?_
  unfold c_laws_b10Long at hc
  split at hc
  · rename_i x0 x1
    obtain ⟨_, rfl⟩ := some_ret hc
    exact holds_ev prog_ok allOK_nil Try.func12 rfl rfl smL_nil rfl (e_laws_b10Long real x0 x1)
  · cases hc
def Pure.laws_b10At (F : FOps) (x0 : List (List Int)) (x1 x2 : Int) : Int := bif decide (x2 ≤ 1) then 0 else bif decide (x1 < (Int.ofNat x0.length)) then Int.tmod (IntKind.wrap .i64 ((x0.getD x1.toNat []).getD 0 0)) x2 else Int.tmod (IntKind.wrap .i64 ((IntKind.wrap .i64 (x1 * 37)) + 11)) x2
def Pure.laws_b10At_ok (F : FOps) (x0 : List (List Int)) (x1 x2 : Int) : Bool := bif decide (x2 ≤ 1) then true else bif decide (x1 < (Int.ofNat x0.length)) then bif decide (0 ≤ x1) then bif x2 == 0 then false else true else false else bif x2 == 0 then false else true
def c_laws_b10At (F : FOps) : Con
  | [V.at (A.sl 0), V.at (A.int .i64 x1), V.at (A.int .i64 x2)], [⟨false, .rows [K.i .u8] x0⟩] => some (Pure.laws_b10At_ok F x0 x1 x2, ⟨V.at (A.int .i64 (Pure.laws_b10At F x0 x1 x2)), none, []⟩)
  | _, _ => none
theorem e_laws_b10At (F : FOps) (x0 : List (List Int)) (x1 x2 : Int) : Pure.laws_b10At_ok F x0 x1 x2 = true → evFn (cxS F tyl [] [] [] 0) Try.f13 false [V.at (A.sl 0), V.at (A.int .i64 x1), V.at (A.int .i64 x2)] [⟨false, .rows [K.i .u8] x0⟩] = some ⟨V.at (A.int .i64 (Pure.laws_b10At F x0 x1 x2)), none, []⟩ := by
  have h0 : evFn (cxS F tyl [] [] [] 0) Try.f13 false [V.at (A.sl 0), V.at (A.int .i64 x1), V.at (A.int .i64 x2)] [⟨false, .rows [K.i .u8] x0⟩] = bif decide (x2 ≤ 1) then some ⟨V.at (A.int .i64 0), none, []⟩ else bif decide (x1 < (Int.ofNat x0.length)) then bif decide (0 ≤ x1) then bif decide (x1 < (Int.ofNat x0.length)) then bif Bool.not (x2 == 0) then some ⟨V.at (A.int .i64 (Int.tmod (IntKind.wrap .i64 ((x0.getD x1.toNat []).getD 0 0)) x2)), none, []⟩ else none else none else none else bif Bool.not (x2 == 0) then some ⟨V.at (A.int .i64 (Int.tmod (IntKind.wrap .i64 ((IntKind.wrap .i64 (x1 * 37)) + 11)) x2)), none, []⟩ else none := by kernel_rfl
  rw [h0]
  unfold Pure.laws_b10At Pure.laws_b10At_ok
  cases (decide (x2 ≤ 1)) with
  | true =>
    intro _; rfl
  | false =>
    cases (decide (x1 < (Int.ofNat x0.length))) with
    | true =>
      cases (decide (0 ≤ x1)) with
      | true =>
        cases (x2 == 0) with
        | true =>
          intro h; exact absurd h Bool.false_ne_true
        | false =>
          intro _; rfl
      | false =>
        intro h; exact absurd h Bool.false_ne_true
    | false =>
      cases (x2 == 0) with
      | true =>
        intro h; exact absurd h Bool.false_ne_true
      | false =>
        intro _; rfl
theorem ok_laws_b10At : CallOK Try.prog 13 (c_laws_b10At real) := by
  refine callOK_of fun args h ret hc => ?_
  unfold c_laws_b10At at hc
  split at hc
  · rename_i x1 x2 x0
    obtain ⟨hok, rfl⟩ := some_ret hc
    exact holds_ev prog_ok allOK_nil Try.func13 rfl rfl smL_nil rfl (e_laws_b10At real x0 x1 x2 hok)
  · cases hc
end Go.Fx
