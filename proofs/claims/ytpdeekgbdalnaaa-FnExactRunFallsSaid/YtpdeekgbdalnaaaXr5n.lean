import Derived.Test.YtpdeekgbdalnaaaXr5d
import Derived.KernelRfl
namespace Go.Fx
open Go.Proofs
set_option maxRecDepth 100000
def Pure.spec_l00In (F : FOps) (x0 : Int) (x1 : Int) (x2 : Int) : Bool := bif Decidable.decide (x0 ≥ x1) then Decidable.decide (x0 ≤ x2) else false
def c_spec_l00In (F : FOps) : Con
  | [V.at (A.int IntKind.i64 x0), V.at (A.int IntKind.i64 x1), V.at (A.int IntKind.i64 x2)], [] => some (true, ⟨V.at (A.bool (Pure.spec_l00In F x0 x1 x2)), none, []⟩)
  | _, _ => none
theorem e_spec_l00In (F : FOps) (x0 : Int) (x1 : Int) (x2 : Int) : evFn (cxS F tyl [] [] [] 0) Try.f93 false [V.at (A.int IntKind.i64 x0), V.at (A.int IntKind.i64 x1), V.at (A.int IntKind.i64 x2)] [] = some ⟨V.at (A.bool (Pure.spec_l00In F x0 x1 x2)), none, []⟩ := by
  have h0 : evFn (cxS F tyl [] [] [] 0) Try.f93 false [V.at (A.int IntKind.i64 x0), V.at (A.int IntKind.i64 x1), V.at (A.int IntKind.i64 x2)] [] = bif Decidable.decide (x0 ≥ x1) then some ⟨V.at (A.bool (Decidable.decide (x0 ≤ x2))), none, []⟩ else some ⟨V.at (A.bool false), none, []⟩ := by kernel_rfl
  rw [h0]
  unfold Pure.spec_l00In
  cases (Decidable.decide (x0 ≥ x1)) with
  | true =>
    rfl
  | false =>
    rfl
theorem ok_spec_l00In : CallOK Try.prog 93 (c_spec_l00In real) := by
  refine callOK_of fun args h ret hc => ?_
  unfold c_spec_l00In at hc
  split at hc
  · rename_i x0 x1 x2
    obtain ⟨_, rfl⟩ := some_ret hc
    exact holds_ev prog_ok allOK_nil Try.func93 rfl rfl smL_nil rfl (e_spec_l00In real x0 x1 x2)
  · cases hc
def Pure.spec_l06Can (F : FOps) (x0 : Int) (x1 : Int) (x2 : Int) (x3 : Int) (x4 : Int) (x5 : Int) (x6 : Int) (x7 : Int) (x8 : Int) : Bool := bif Pure.spec_l06Both F x0 x1 x2 x3 x4 x5 x6 then bif Pure.spec_l02Above F x7 then Pure.spec_l00In F x8 1 256 else false else false
def c_spec_l06Can (F : FOps) : Con
  | [V.at (A.ptr 0 0 0), V.at (A.ptr 1 0 0), V.at (A.fl FloatKind.f32 x7), V.at (A.int IntKind.i64 x8)], [⟨false, OC.box [A.fl FloatKind.f32 x0, A.fl FloatKind.f32 x1, A.fl FloatKind.f32 x2, A.fl FloatKind.f32 x3]⟩, ⟨false, OC.box [A.fl FloatKind.f32 x4, A.fl FloatKind.f32 x5, A.fl FloatKind.f32 x6]⟩] => some (true, ⟨V.at (A.bool (Pure.spec_l06Can F x0 x1 x2 x3 x4 x5 x6 x7 x8)), none, []⟩)
  | _, _ => none
theorem e_spec_l06Can (F : FOps) (x0 : Int) (x1 : Int) (x2 : Int) (x3 : Int) (x4 : Int) (x5 : Int) (x6 : Int) (x7 : Int) (x8 : Int) : evFn (cxS F tyl [(72, c_spec_l06Both F), (98, c_spec_l02Above F), (93, c_spec_l00In F)] [] [] 0) Try.f81 false [V.at (A.ptr 0 0 0), V.at (A.ptr 1 0 0), V.at (A.fl FloatKind.f32 x7), V.at (A.int IntKind.i64 x8)] [⟨false, OC.box [A.fl FloatKind.f32 x0, A.fl FloatKind.f32 x1, A.fl FloatKind.f32 x2, A.fl FloatKind.f32 x3]⟩, ⟨false, OC.box [A.fl FloatKind.f32 x4, A.fl FloatKind.f32 x5, A.fl FloatKind.f32 x6]⟩] = some ⟨V.at (A.bool (Pure.spec_l06Can F x0 x1 x2 x3 x4 x5 x6 x7 x8)), none, []⟩ := by
  have h0 : evFn (cxS F tyl [(72, c_spec_l06Both F), (98, c_spec_l02Above F), (93, c_spec_l00In F)] [] [] 0) Try.f81 false [V.at (A.ptr 0 0 0), V.at (A.ptr 1 0 0), V.at (A.fl FloatKind.f32 x7), V.at (A.int IntKind.i64 x8)] [⟨false, OC.box [A.fl FloatKind.f32 x0, A.fl FloatKind.f32 x1, A.fl FloatKind.f32 x2, A.fl FloatKind.f32 x3]⟩, ⟨false, OC.box [A.fl FloatKind.f32 x4, A.fl FloatKind.f32 x5, A.fl FloatKind.f32 x6]⟩] = bif Pure.spec_l06Both F x0 x1 x2 x3 x4 x5 x6 then bif Pure.spec_l02Above F x7 then some ⟨V.at (A.bool (Pure.spec_l00In F x8 1 256)), none, []⟩ else some ⟨V.at (A.bool false), none, []⟩ else some ⟨V.at (A.bool false), none, []⟩ := by kernel_rfl
  rw [h0]
  unfold Pure.spec_l06Can
  cases (Pure.spec_l06Both F x0 x1 x2 x3 x4 x5 x6) with
  | true =>
    cases (Pure.spec_l02Above F x7) with
    | true =>
      rfl
    | false =>
      rfl
  | false =>
    rfl
theorem ok_spec_l06Can : CallOK Try.prog 81 (c_spec_l06Can real) := by
  refine callOK_of fun args h ret hc => ?_
  unfold c_spec_l06Can at hc
  split at hc
  · rename_i x7 x8 x0 x1 x2 x3 x4 x5 x6
    obtain ⟨_, rfl⟩ := some_ret hc
    exact holds_ev prog_ok (allOK_cons ok_spec_l06Both (allOK_cons ok_spec_l02Above (allOK_cons ok_spec_l00In allOK_nil))) Try.func81 rfl rfl smL_nil rfl (e_spec_l06Can real x0 x1 x2 x3 x4 x5 x6 x7 x8)
  · cases hc
def Pure.spec_l06Fly (F : FOps) (x0 : Int) (x1 : Int) (x2 : Int) (x3 : Int) (x4 : Int) (x5 : Int) (x6 : Int) (x7 : Int) : Int := FOps.bin F BinOp.sub FloatKind.f32 (FOps.bin F BinOp.add FloatKind.f32 x4 (FOps.bin F BinOp.mul FloatKind.f32 x7 x5)) (FOps.bin F BinOp.mul FloatKind.f32 (FOps.bin F BinOp.mul FloatKind.f32 (FOps.bin F BinOp.mul FloatKind.f32 1056964608 x3) x7) x7)
def Pure.spec_l06Fly_1 (F : FOps) (x0 : Int) (x1 : Int) (x2 : Int) (x3 : Int) (x4 : Int) (x5 : Int) (x6 : Int) (x7 : Int) : Int := FOps.bin F BinOp.sub FloatKind.f32 x5 (FOps.bin F BinOp.mul FloatKind.f32 x3 x7)
def Pure.spec_l06Fly_2 (F : FOps) (x0 : Int) (x1 : Int) (x2 : Int) (x3 : Int) (x4 : Int) (x5 : Int) (x6 : Int) (x7 : Int) : Int := FOps.bin F BinOp.add FloatKind.f32 x6 x7
def c_spec_l06Fly (F : FOps) : Con
  | [V.at (A.ptr 0 0 0), V.agg [A.fl FloatKind.f32 x4, A.fl FloatKind.f32 x5, A.fl FloatKind.f32 x6], V.at (A.fl FloatKind.f32 x7)], [⟨false, OC.box [A.fl FloatKind.f32 x0, A.fl FloatKind.f32 x1, A.fl FloatKind.f32 x2, A.fl FloatKind.f32 x3]⟩] => some (true, ⟨V.agg [A.fl FloatKind.f32 (Pure.spec_l06Fly F x0 x1 x2 x3 x4 x5 x6 x7), A.fl FloatKind.f32 (Pure.spec_l06Fly_1 F x0 x1 x2 x3 x4 x5 x6 x7), A.fl FloatKind.f32 (Pure.spec_l06Fly_2 F x0 x1 x2 x3 x4 x5 x6 x7)], none, []⟩)
  | _, _ => none
theorem e_spec_l06Fly (F : FOps) (x0 : Int) (x1 : Int) (x2 : Int) (x3 : Int) (x4 : Int) (x5 : Int) (x6 : Int) (x7 : Int) : evFn (cxS F tyl [] [] [] 0) Try.f96 false [V.at (A.ptr 0 0 0), V.agg [A.fl FloatKind.f32 x4, A.fl FloatKind.f32 x5, A.fl FloatKind.f32 x6], V.at (A.fl FloatKind.f32 x7)] [⟨false, OC.box [A.fl FloatKind.f32 x0, A.fl FloatKind.f32 x1, A.fl FloatKind.f32 x2, A.fl FloatKind.f32 x3]⟩] = some ⟨V.agg [A.fl FloatKind.f32 (Pure.spec_l06Fly F x0 x1 x2 x3 x4 x5 x6 x7), A.fl FloatKind.f32 (Pure.spec_l06Fly_1 F x0 x1 x2 x3 x4 x5 x6 x7), A.fl FloatKind.f32 (Pure.spec_l06Fly_2 F x0 x1 x2 x3 x4 x5 x6 x7)], none, []⟩ := by
  kernel_rfl
theorem ok_spec_l06Fly : CallOK Try.prog 96 (c_spec_l06Fly real) := by
  refine callOK_of fun args h ret hc => ?_
  unfold c_spec_l06Fly at hc
  split at hc
  · rename_i x4 x5 x6 x7 x0 x1 x2 x3
    obtain ⟨_, rfl⟩ := some_ret hc
    exact holds_ev prog_ok allOK_nil Try.func96 rfl rfl smL_nil rfl (e_spec_l06Fly real x0 x1 x2 x3 x4 x5 x6 x7)
  · cases hc
def Pure.spec_l06Under (F : FOps) (x0 : Int) (x1 : Int) (x2 : Int) (x3 : Int) (x4 : Int) (x5 : Int) (x6 : Int) (x7 : Int) : Bool := FOps.cmp F BinOp.lss FloatKind.f32 (Pure.spec_l06Fly F x0 x1 x2 x3 x4 x5 x6 x7) (Pure.spec_l06High F x0 x1 x2 x3 (Pure.spec_l06Fly_2 F x0 x1 x2 x3 x4 x5 x6 x7))
def Pure.spec_l06Under_1 (F : FOps) (x0 : Int) (x1 : Int) (x2 : Int) (x3 : Int) (x4 : Int) (x5 : Int) (x6 : Int) (x7 : Int) : Bool := bif Pure.spec_l06Fall F (Pure.spec_l06Fly F x0 x1 x2 x3 x4 x5 x6 x7) (Pure.spec_l06Fly_1 F x0 x1 x2 x3 x4 x5 x6 x7) (Pure.spec_l06Fly_2 F x0 x1 x2 x3 x4 x5 x6 x7) then Pure.spec_l01Finite F (Pure.spec_l06High F x0 x1 x2 x3 (Pure.spec_l06Fly_2 F x0 x1 x2 x3 x4 x5 x6 x7)) else false
def Pure.spec_l06Under_ok (F : FOps) (x0 : Int) (x1 : Int) (x2 : Int) (x3 : Int) (x4 : Int) (x5 : Int) (x6 : Int) (x7 : Int) : Bool := Pure.spec_l06High_ok F x0 x1 x2 x3 (Pure.spec_l06Fly_2 F x0 x1 x2 x3 x4 x5 x6 x7)
def c_spec_l06Under (F : FOps) : Con
  | [V.at (A.ptr 0 0 0), V.agg [A.fl FloatKind.f32 x4, A.fl FloatKind.f32 x5, A.fl FloatKind.f32 x6], V.at (A.fl FloatKind.f32 x7)], [⟨false, OC.box [A.fl FloatKind.f32 x0, A.fl FloatKind.f32 x1, A.fl FloatKind.f32 x2, A.fl FloatKind.f32 x3]⟩] => some (Pure.spec_l06Under_ok F x0 x1 x2 x3 x4 x5 x6 x7, ⟨V.tup [(false, [A.bool (Pure.spec_l06Under F x0 x1 x2 x3 x4 x5 x6 x7)]), (false, [A.bool (Pure.spec_l06Under_1 F x0 x1 x2 x3 x4 x5 x6 x7)])], none, []⟩)
  | _, _ => none
theorem e_spec_l06Under (F : FOps) (x0 : Int) (x1 : Int) (x2 : Int) (x3 : Int) (x4 : Int) (x5 : Int) (x6 : Int) (x7 : Int) : Pure.spec_l06Under_ok F x0 x1 x2 x3 x4 x5 x6 x7 = true → evFn (cxS F tyl [(96, c_spec_l06Fly F), (61, c_spec_l06High F), (74, c_spec_l06Fall F), (59, c_spec_l01Finite F)] [] [] 0) Try.f112 false [V.at (A.ptr 0 0 0), V.agg [A.fl FloatKind.f32 x4, A.fl FloatKind.f32 x5, A.fl FloatKind.f32 x6], V.at (A.fl FloatKind.f32 x7)] [⟨false, OC.box [A.fl FloatKind.f32 x0, A.fl FloatKind.f32 x1, A.fl FloatKind.f32 x2, A.fl FloatKind.f32 x3]⟩] = some ⟨V.tup [(false, [A.bool (Pure.spec_l06Under F x0 x1 x2 x3 x4 x5 x6 x7)]), (false, [A.bool (Pure.spec_l06Under_1 F x0 x1 x2 x3 x4 x5 x6 x7)])], none, []⟩ := by
  have h0 : evFn (cxS F tyl [(96, c_spec_l06Fly F), (61, c_spec_l06High F), (74, c_spec_l06Fall F), (59, c_spec_l01Finite F)] [] [] 0) Try.f112 false [V.at (A.ptr 0 0 0), V.agg [A.fl FloatKind.f32 x4, A.fl FloatKind.f32 x5, A.fl FloatKind.f32 x6], V.at (A.fl FloatKind.f32 x7)] [⟨false, OC.box [A.fl FloatKind.f32 x0, A.fl FloatKind.f32 x1, A.fl FloatKind.f32 x2, A.fl FloatKind.f32 x3]⟩] = bif Pure.spec_l06High_ok F x0 x1 x2 x3 (Pure.spec_l06Fly_2 F x0 x1 x2 x3 x4 x5 x6 x7) then bif Pure.spec_l06Fall F (Pure.spec_l06Fly F x0 x1 x2 x3 x4 x5 x6 x7) (Pure.spec_l06Fly_1 F x0 x1 x2 x3 x4 x5 x6 x7) (Pure.spec_l06Fly_2 F x0 x1 x2 x3 x4 x5 x6 x7) then some ⟨V.tup [(false, [A.bool (FOps.cmp F BinOp.lss FloatKind.f32 (Pure.spec_l06Fly F x0 x1 x2 x3 x4 x5 x6 x7) (Pure.spec_l06High F x0 x1 x2 x3 (Pure.spec_l06Fly_2 F x0 x1 x2 x3 x4 x5 x6 x7)))]), (false, [A.bool (Pure.spec_l01Finite F (Pure.spec_l06High F x0 x1 x2 x3 (Pure.spec_l06Fly_2 F x0 x1 x2 x3 x4 x5 x6 x7)))])], none, []⟩ else some ⟨V.tup [(false, [A.bool (FOps.cmp F BinOp.lss FloatKind.f32 (Pure.spec_l06Fly F x0 x1 x2 x3 x4 x5 x6 x7) (Pure.spec_l06High F x0 x1 x2 x3 (Pure.spec_l06Fly_2 F x0 x1 x2 x3 x4 x5 x6 x7)))]), (false, [A.bool false])], none, []⟩ else none := by kernel_rfl
  rw [h0]
  unfold Pure.spec_l06Under Pure.spec_l06Under_1 Pure.spec_l06Under_ok
  cases (Pure.spec_l06High_ok F x0 x1 x2 x3 (Pure.spec_l06Fly_2 F x0 x1 x2 x3 x4 x5 x6 x7)) with
  | true =>
    cases (Pure.spec_l06Fall F (Pure.spec_l06Fly F x0 x1 x2 x3 x4 x5 x6 x7) (Pure.spec_l06Fly_1 F x0 x1 x2 x3 x4 x5 x6 x7) (Pure.spec_l06Fly_2 F x0 x1 x2 x3 x4 x5 x6 x7)) with
    | true =>
      intro _; rfl
    | false =>
      intro _; rfl
  | false =>
    intro h; exact absurd h Bool.false_ne_true
theorem ok_spec_l06Under : CallOK Try.prog 112 (c_spec_l06Under real) := by
  refine callOK_of fun args h ret hc => ?_
  unfold c_spec_l06Under at hc
  split at hc
  · rename_i x4 x5 x6 x7 x0 x1 x2 x3
    obtain ⟨hok, rfl⟩ := some_ret hc
    exact holds_ev prog_ok (allOK_cons ok_spec_l06Fly (allOK_cons ok_spec_l06High (allOK_cons ok_spec_l06Fall (allOK_cons ok_spec_l01Finite allOK_nil)))) Try.func112 rfl rfl smL_nil rfl (e_spec_l06Under real x0 x1 x2 x3 x4 x5 x6 x7 hok)
  · cases hc
def Pure.spec_l06Hit_L2 (F : FOps) (y3 : Int) (y4 : Int) (y5 : Int) (y6 : Int) (y7 : Int) (y8 : Int) (y9 : Int) : Nat → Int → Int → Int → (Bool × Bool × Int × Int)
  | 0, _, _, _ => (false, false, 0, 0)
  | n + 1, y0, y1, y2 => bif (Decidable.decide (y2 < 20)) then (bif (Pure.spec_l06Under_ok F y3 y4 y5 y6 y7 y8 y9 (FOps.bin F BinOp.mul FloatKind.f32 1056964608 (FOps.bin F BinOp.add FloatKind.f32 y1 y0))) then (bif (Pure.spec_l06Under_1 F y3 y4 y5 y6 y7 y8 y9 (FOps.bin F BinOp.mul FloatKind.f32 1056964608 (FOps.bin F BinOp.add FloatKind.f32 y1 y0))) then (bif (Pure.spec_l06Under F y3 y4 y5 y6 y7 y8 y9 (FOps.bin F BinOp.mul FloatKind.f32 1056964608 (FOps.bin F BinOp.add FloatKind.f32 y1 y0))) then (Pure.spec_l06Hit_L2 F y3 y4 y5 y6 y7 y8 y9 n (FOps.bin F BinOp.mul FloatKind.f32 1056964608 (FOps.bin F BinOp.add FloatKind.f32 y1 y0)) y1 (IntKind.wrap IntKind.i64 (y2 + 1))) else (Pure.spec_l06Hit_L2 F y3 y4 y5 y6 y7 y8 y9 n y0 (FOps.bin F BinOp.mul FloatKind.f32 1056964608 (FOps.bin F BinOp.add FloatKind.f32 y1 y0)) (IntKind.wrap IntKind.i64 (y2 + 1)))) else ((true, true, 0, y1))) else ((false, false, 0, 0))) else ((true, false, y1, 0))
def R_spec_l06Hit_L2 (y3 : Int) (y4 : Int) (y5 : Int) (y6 : Int) (r : (Bool × Bool × Int × Int)) : Bool × Bool × (Ex × List V × List Ob) × (Ex × List V × List Ob) := ((r).1, (r).2.1, (Ex.normal, [V.at A.undef, V.at A.undef, V.at (A.fl FloatKind.f32 (r).2.2.1)], [⟨false, OC.box [A.fl FloatKind.f32 y3, A.fl FloatKind.f32 y4, A.fl FloatKind.f32 y5, A.fl FloatKind.f32 y6]⟩]), (Ex.ret, [V.at (A.fl FloatKind.f32 0), V.at (A.bool false), V.at (A.fl FloatKind.f32 (r).2.2.2)], [⟨false, OC.box [A.fl FloatKind.f32 y3, A.fl FloatKind.f32 y4, A.fl FloatKind.f32 y5, A.fl FloatKind.f32 y6]⟩]))
def S_spec_l06Hit_L2 (F : FOps) : Sm := ⟨[0, 5, 11, 14, 15], [84, 0, 22, 22, 3], [8, 9, 14], fun vals hp => match vals, hp with
  | [V.at (A.ptr 0 0 0), V.at (A.ptr 1 0 0), V.at (A.fl FloatKind.f32 y0), V.at (A.fl FloatKind.f32 y1), V.at (A.int IntKind.i64 y2)], [⟨false, OC.box [A.fl FloatKind.f32 y3, A.fl FloatKind.f32 y4, A.fl FloatKind.f32 y5, A.fl FloatKind.f32 y6]⟩, ⟨true, OC.box [A.fl FloatKind.f32 y7, A.fl FloatKind.f32 y8, A.fl FloatKind.f32 y9]⟩] => some (R_spec_l06Hit_L2 y3 y4 y5 y6 (Pure.spec_l06Hit_L2 F y3 y4 y5 y6 y7 y8 y9 (20 - y2 + 1).toNat y0 y1 y2))
  | _, _ => none⟩
theorem l_spec_l06Hit_L2 (F : FOps) (y3 : Int) (y4 : Int) (y5 : Int) (y6 : Int) (y7 : Int) (y8 : Int) (y9 : Int) : ∀ (fuel : Nat) (y0 : Int) (y1 : Int) (y2 : Int), (Pure.spec_l06Hit_L2 F y3 y4 y5 y6 y7 y8 y9 fuel y0 y1 y2).1 = true → loopOf (cxS F tyl [(112, c_spec_l06Under F)] [] [] 0) 1 65 2 [0, 5, 11, 14, 15] [84, 0, 22, 22, 3] [8, 9, 14] (loopB 2 (codeOf Try.f82)) fuel [V.at (A.ptr 0 0 0), V.at (A.ptr 1 0 0), V.at (A.fl FloatKind.f32 y0), V.at (A.fl FloatKind.f32 y1), V.at (A.int IntKind.i64 y2)] [⟨false, OC.box [A.fl FloatKind.f32 y3, A.fl FloatKind.f32 y4, A.fl FloatKind.f32 y5, A.fl FloatKind.f32 y6]⟩, ⟨true, OC.box [A.fl FloatKind.f32 y7, A.fl FloatKind.f32 y8, A.fl FloatKind.f32 y9]⟩] = resOf (R_spec_l06Hit_L2 y3 y4 y5 y6 (Pure.spec_l06Hit_L2 F y3 y4 y5 y6 y7 y8 y9 fuel y0 y1 y2)) := by
  intro fuel
  induction fuel with
  | zero => intro y0 y1 y2 h; exact absurd h Bool.false_ne_true
  | succ n ih =>
    intro y0 y1 y2
    have h0 : roundOf (cxS F tyl [(112, c_spec_l06Under F)] [] [] 0) 1 65 2 [0, 5, 11, 14, 15] [84, 0, 22, 22, 3] [8, 9, 14] (loopB 2 (codeOf Try.f82)) [V.at (A.ptr 0 0 0), V.at (A.ptr 1 0 0), V.at (A.fl FloatKind.f32 y0), V.at (A.fl FloatKind.f32 y1), V.at (A.int IntKind.i64 y2)] [⟨false, OC.box [A.fl FloatKind.f32 y3, A.fl FloatKind.f32 y4, A.fl FloatKind.f32 y5, A.fl FloatKind.f32 y6]⟩, ⟨true, OC.box [A.fl FloatKind.f32 y7, A.fl FloatKind.f32 y8, A.fl FloatKind.f32 y9]⟩] = (bif Decidable.decide (y2 < 20) then bif Pure.spec_l06Under_ok F y3 y4 y5 y6 y7 y8 y9 (FOps.bin F BinOp.mul FloatKind.f32 1056964608 (FOps.bin F BinOp.add FloatKind.f32 y1 y0)) then bif Bool.not (Pure.spec_l06Under_1 F y3 y4 y5 y6 y7 y8 y9 (FOps.bin F BinOp.mul FloatKind.f32 1056964608 (FOps.bin F BinOp.add FloatKind.f32 y1 y0))) then some (false, (Ex.ret, ([V.at (A.fl FloatKind.f32 0), V.at (A.bool false), V.at (A.fl FloatKind.f32 y1)], [⟨false, OC.box [A.fl FloatKind.f32 y3, A.fl FloatKind.f32 y4, A.fl FloatKind.f32 y5, A.fl FloatKind.f32 y6]⟩]))) else bif Pure.spec_l06Under F y3 y4 y5 y6 y7 y8 y9 (FOps.bin F BinOp.mul FloatKind.f32 1056964608 (FOps.bin F BinOp.add FloatKind.f32 y1 y0)) then some (true, (Ex.normal, ([V.at (A.ptr 0 0 0), V.at (A.ptr 1 0 0), V.at (A.fl FloatKind.f32 (FOps.bin F BinOp.mul FloatKind.f32 1056964608 (FOps.bin F BinOp.add FloatKind.f32 y1 y0))), V.at (A.fl FloatKind.f32 y1), V.at (A.int IntKind.i64 (IntKind.wrap IntKind.i64 (y2 + 1)))], [⟨false, OC.box [A.fl FloatKind.f32 y3, A.fl FloatKind.f32 y4, A.fl FloatKind.f32 y5, A.fl FloatKind.f32 y6]⟩, ⟨true, OC.box [A.fl FloatKind.f32 y7, A.fl FloatKind.f32 y8, A.fl FloatKind.f32 y9]⟩]))) else some (true, (Ex.normal, ([V.at (A.ptr 0 0 0), V.at (A.ptr 1 0 0), V.at (A.fl FloatKind.f32 y0), V.at (A.fl FloatKind.f32 (FOps.bin F BinOp.mul FloatKind.f32 1056964608 (FOps.bin F BinOp.add FloatKind.f32 y1 y0))), V.at (A.int IntKind.i64 (IntKind.wrap IntKind.i64 (y2 + 1)))], [⟨false, OC.box [A.fl FloatKind.f32 y3, A.fl FloatKind.f32 y4, A.fl FloatKind.f32 y5, A.fl FloatKind.f32 y6]⟩, ⟨true, OC.box [A.fl FloatKind.f32 y7, A.fl FloatKind.f32 y8, A.fl FloatKind.f32 y9]⟩]))) else none else some (false, (Ex.normal, ([V.at A.undef, V.at A.undef, V.at (A.fl FloatKind.f32 y1)], [⟨false, OC.box [A.fl FloatKind.f32 y3, A.fl FloatKind.f32 y4, A.fl FloatKind.f32 y5, A.fl FloatKind.f32 y6]⟩])))) := by kernel_rfl
    unfold loopOf
    rw [h0]
    unfold Pure.spec_l06Hit_L2
    cases (Decidable.decide (y2 < 20)) with
    | true =>
      cases (Pure.spec_l06Under_ok F y3 y4 y5 y6 y7 y8 y9 (FOps.bin F BinOp.mul FloatKind.f32 1056964608 (FOps.bin F BinOp.add FloatKind.f32 y1 y0))) with
      | true =>
        cases (Pure.spec_l06Under_1 F y3 y4 y5 y6 y7 y8 y9 (FOps.bin F BinOp.mul FloatKind.f32 1056964608 (FOps.bin F BinOp.add FloatKind.f32 y1 y0))) with
        | true =>
          cases (Pure.spec_l06Under F y3 y4 y5 y6 y7 y8 y9 (FOps.bin F BinOp.mul FloatKind.f32 1056964608 (FOps.bin F BinOp.add FloatKind.f32 y1 y0))) with
          | true =>
            exact ih _ _ _
          | false =>
            exact ih _ _ _
        | false =>
          intro _; rfl
      | false =>
        intro h; exact absurd h Bool.false_ne_true
    | false =>
      intro _; rfl
theorem t_spec_l06Hit_L2 : SmTo Try.prog 1 65 (S_spec_l06Hit_L2 real) 2 (.loop (loopB 2 (codeOf Try.f82))) := by
  refine smTo_ev (cl := [(112, c_spec_l06Under real)]) (ef := []) (sm := []) (un := 0) prog_ok (allOK_cons ok_spec_l06Under allOK_nil) smL_nil ?_
  intro vals hp q r h hq
  unfold S_spec_l06Hit_L2 at h
  dsimp only at h
  split at h
  · rename_i y0 y1 y2 y3 y4 y5 y6 y7 y8 y9
    obtain rfl := Option.some.inj h
    have h1 := hq
    unfold resOf at h1
    rw [chk_some] at h1
    exact ⟨_, (l_spec_l06Hit_L2 real y3 y4 y5 y6 y7 y8 y9 _ y0 y1 y2 h1.1).trans hq⟩
  · cases h
def Pure.spec_l06Hit_L0 (F : FOps) (y0 : Int) (y1 : Int) (y3 : Int) (y4 : Int) (y5 : Int) (y6 : Int) (y7 : Int) (y8 : Int) (y9 : Int) : Nat → Int → (Bool × Bool × Int × Bool)
  | 0, _ => (false, false, 0, false)
  | n + 1, y2 => bif (Decidable.decide (y2 ≤ y1)) then (bif (Pure.spec_l06Under_ok F y3 y4 y5 y6 y7 y8 y9 (FOps.bin F BinOp.mul FloatKind.f32 (FOps.ofInt F FloatKind.f32 y2) y0)) then (bif (Pure.spec_l06Under_1 F y3 y4 y5 y6 y7 y8 y9 (FOps.bin F BinOp.mul FloatKind.f32 (FOps.ofInt F FloatKind.f32 y2) y0)) then (bif (Pure.spec_l06Under F y3 y4 y5 y6 y7 y8 y9 (FOps.bin F BinOp.mul FloatKind.f32 (FOps.ofInt F FloatKind.f32 y2) y0)) then (bif (Prod.fst (Pure.spec_l06Hit_L2 F y3 y4 y5 y6 y7 y8 y9 21 (FOps.bin F BinOp.mul FloatKind.f32 (FOps.ofInt F FloatKind.f32 y2) y0) (FOps.bin F BinOp.mul FloatKind.f32 (FOps.ofInt F FloatKind.f32 (IntKind.wrap IntKind.i64 (y2 - 1))) y0) 0)) then (bif (Prod.fst (Prod.snd (Pure.spec_l06Hit_L2 F y3 y4 y5 y6 y7 y8 y9 21 (FOps.bin F BinOp.mul FloatKind.f32 (FOps.ofInt F FloatKind.f32 y2) y0) (FOps.bin F BinOp.mul FloatKind.f32 (FOps.ofInt F FloatKind.f32 (IntKind.wrap IntKind.i64 (y2 - 1))) y0) 0))) then ((true, true, 0, false)) else ((true, true, Prod.fst (Prod.snd (Prod.snd (Pure.spec_l06Hit_L2 F y3 y4 y5 y6 y7 y8 y9 21 (FOps.bin F BinOp.mul FloatKind.f32 (FOps.ofInt F FloatKind.f32 y2) y0) (FOps.bin F BinOp.mul FloatKind.f32 (FOps.ofInt F FloatKind.f32 (IntKind.wrap IntKind.i64 (y2 - 1))) y0) 0))), true))) else ((false, false, 0, false))) else (Pure.spec_l06Hit_L0 F y0 y1 y3 y4 y5 y6 y7 y8 y9 n (IntKind.wrap IntKind.i64 (y2 + 1)))) else ((true, true, 0, false))) else ((false, false, 0, false))) else ((true, false, 0, false))
def R_spec_l06Hit_L0 (y3 : Int) (y4 : Int) (y5 : Int) (y6 : Int) (r : (Bool × Bool × Int × Bool)) : Bool × Bool × (Ex × List V × List Ob) × (Ex × List V × List Ob) := ((r).1, (r).2.1, (Ex.normal, [V.at A.undef, V.at A.undef], [⟨false, OC.box [A.fl FloatKind.f32 y3, A.fl FloatKind.f32 y4, A.fl FloatKind.f32 y5, A.fl FloatKind.f32 y6]⟩]), (Ex.ret, [V.at (A.fl FloatKind.f32 (r).2.2.1), V.at (A.bool (r).2.2.2)], [⟨false, OC.box [A.fl FloatKind.f32 y3, A.fl FloatKind.f32 y4, A.fl FloatKind.f32 y5, A.fl FloatKind.f32 y6]⟩]))
def S_spec_l06Hit_L0 (F : FOps) : Sm := ⟨[0, 2, 3, 5, 10], [84, 22, 2, 0, 2], [8, 9], fun vals hp => match vals, hp with
  | [V.at (A.ptr 0 0 0), V.at (A.fl FloatKind.f32 y0), V.at (A.int IntKind.i64 y1), V.at (A.ptr 1 0 0), V.at (A.int IntKind.i64 y2)], [⟨false, OC.box [A.fl FloatKind.f32 y3, A.fl FloatKind.f32 y4, A.fl FloatKind.f32 y5, A.fl FloatKind.f32 y6]⟩, ⟨true, OC.box [A.fl FloatKind.f32 y7, A.fl FloatKind.f32 y8, A.fl FloatKind.f32 y9]⟩] => some (R_spec_l06Hit_L0 y3 y4 y5 y6 (Pure.spec_l06Hit_L0 F y0 y1 y3 y4 y5 y6 y7 y8 y9 (y1 - y2 + 2).toNat y2))
  | _, _ => none⟩
theorem l_spec_l06Hit_L0 (F : FOps) (y0 : Int) (y1 : Int) (y3 : Int) (y4 : Int) (y5 : Int) (y6 : Int) (y7 : Int) (y8 : Int) (y9 : Int) : ∀ (fuel : Nat) (y2 : Int), (Pure.spec_l06Hit_L0 F y0 y1 y3 y4 y5 y6 y7 y8 y9 fuel y2).1 = true → loopOf (cxS F tyl [(112, c_spec_l06Under F)] [] [(2, S_spec_l06Hit_L2 F)] 0) 1 65 0 [0, 2, 3, 5, 10] [84, 22, 2, 0, 2] [8, 9] (loopB 0 (codeOf Try.f82)) fuel [V.at (A.ptr 0 0 0), V.at (A.fl FloatKind.f32 y0), V.at (A.int IntKind.i64 y1), V.at (A.ptr 1 0 0), V.at (A.int IntKind.i64 y2)] [⟨false, OC.box [A.fl FloatKind.f32 y3, A.fl FloatKind.f32 y4, A.fl FloatKind.f32 y5, A.fl FloatKind.f32 y6]⟩, ⟨true, OC.box [A.fl FloatKind.f32 y7, A.fl FloatKind.f32 y8, A.fl FloatKind.f32 y9]⟩] = resOf (R_spec_l06Hit_L0 y3 y4 y5 y6 (Pure.spec_l06Hit_L0 F y0 y1 y3 y4 y5 y6 y7 y8 y9 fuel y2)) := by
  intro fuel
  induction fuel with
  | zero => intro y2 h; exact absurd h Bool.false_ne_true
  | succ n ih =>
    intro y2
    have h0 : roundOf (cxS F tyl [(112, c_spec_l06Under F)] [] [(2, S_spec_l06Hit_L2 F)] 0) 1 65 0 [0, 2, 3, 5, 10] [84, 22, 2, 0, 2] [8, 9] (loopB 0 (codeOf Try.f82)) [V.at (A.ptr 0 0 0), V.at (A.fl FloatKind.f32 y0), V.at (A.int IntKind.i64 y1), V.at (A.ptr 1 0 0), V.at (A.int IntKind.i64 y2)] [⟨false, OC.box [A.fl FloatKind.f32 y3, A.fl FloatKind.f32 y4, A.fl FloatKind.f32 y5, A.fl FloatKind.f32 y6]⟩, ⟨true, OC.box [A.fl FloatKind.f32 y7, A.fl FloatKind.f32 y8, A.fl FloatKind.f32 y9]⟩] = (bif Decidable.decide (y2 ≤ y1) then bif Pure.spec_l06Under_ok F y3 y4 y5 y6 y7 y8 y9 (FOps.bin F BinOp.mul FloatKind.f32 (FOps.ofInt F FloatKind.f32 y2) y0) then bif Bool.not (Pure.spec_l06Under_1 F y3 y4 y5 y6 y7 y8 y9 (FOps.bin F BinOp.mul FloatKind.f32 (FOps.ofInt F FloatKind.f32 y2) y0)) then some (false, (Ex.ret, ([V.at (A.fl FloatKind.f32 0), V.at (A.bool false)], [⟨false, OC.box [A.fl FloatKind.f32 y3, A.fl FloatKind.f32 y4, A.fl FloatKind.f32 y5, A.fl FloatKind.f32 y6]⟩]))) else bif Bool.not (Pure.spec_l06Under F y3 y4 y5 y6 y7 y8 y9 (FOps.bin F BinOp.mul FloatKind.f32 (FOps.ofInt F FloatKind.f32 y2) y0)) then some (true, (Ex.normal, ([V.at (A.ptr 0 0 0), V.at (A.fl FloatKind.f32 y0), V.at (A.int IntKind.i64 y1), V.at (A.ptr 1 0 0), V.at (A.int IntKind.i64 (IntKind.wrap IntKind.i64 (y2 + 1)))], [⟨false, OC.box [A.fl FloatKind.f32 y3, A.fl FloatKind.f32 y4, A.fl FloatKind.f32 y5, A.fl FloatKind.f32 y6]⟩, ⟨true, OC.box [A.fl FloatKind.f32 y7, A.fl FloatKind.f32 y8, A.fl FloatKind.f32 y9]⟩]))) else bif Prod.fst (Pure.spec_l06Hit_L2 F y3 y4 y5 y6 y7 y8 y9 21 (FOps.bin F BinOp.mul FloatKind.f32 (FOps.ofInt F FloatKind.f32 y2) y0) (FOps.bin F BinOp.mul FloatKind.f32 (FOps.ofInt F FloatKind.f32 (IntKind.wrap IntKind.i64 (y2 - 1))) y0) 0) then bif Prod.fst (Prod.snd (Pure.spec_l06Hit_L2 F y3 y4 y5 y6 y7 y8 y9 21 (FOps.bin F BinOp.mul FloatKind.f32 (FOps.ofInt F FloatKind.f32 y2) y0) (FOps.bin F BinOp.mul FloatKind.f32 (FOps.ofInt F FloatKind.f32 (IntKind.wrap IntKind.i64 (y2 - 1))) y0) 0)) then some (false, (Ex.ret, ([V.at (A.fl FloatKind.f32 0), V.at (A.bool false)], [⟨false, OC.box [A.fl FloatKind.f32 y3, A.fl FloatKind.f32 y4, A.fl FloatKind.f32 y5, A.fl FloatKind.f32 y6]⟩]))) else some (false, (Ex.ret, ([V.at (A.fl FloatKind.f32 (Prod.fst (Prod.snd (Prod.snd (Pure.spec_l06Hit_L2 F y3 y4 y5 y6 y7 y8 y9 21 (FOps.bin F BinOp.mul FloatKind.f32 (FOps.ofInt F FloatKind.f32 y2) y0) (FOps.bin F BinOp.mul FloatKind.f32 (FOps.ofInt F FloatKind.f32 (IntKind.wrap IntKind.i64 (y2 - 1))) y0) 0))))), V.at (A.bool true)], [⟨false, OC.box [A.fl FloatKind.f32 y3, A.fl FloatKind.f32 y4, A.fl FloatKind.f32 y5, A.fl FloatKind.f32 y6]⟩]))) else none else none else some (false, (Ex.normal, ([V.at A.undef, V.at A.undef], [⟨false, OC.box [A.fl FloatKind.f32 y3, A.fl FloatKind.f32 y4, A.fl FloatKind.f32 y5, A.fl FloatKind.f32 y6]⟩])))) := by kernel_rfl
    unfold loopOf
    rw [h0]
    unfold Pure.spec_l06Hit_L0
    cases (Decidable.decide (y2 ≤ y1)) with
    | true =>
      cases (Pure.spec_l06Under_ok F y3 y4 y5 y6 y7 y8 y9 (FOps.bin F BinOp.mul FloatKind.f32 (FOps.ofInt F FloatKind.f32 y2) y0)) with
      | true =>
        cases (Pure.spec_l06Under_1 F y3 y4 y5 y6 y7 y8 y9 (FOps.bin F BinOp.mul FloatKind.f32 (FOps.ofInt F FloatKind.f32 y2) y0)) with
        | true =>
          cases (Pure.spec_l06Under F y3 y4 y5 y6 y7 y8 y9 (FOps.bin F BinOp.mul FloatKind.f32 (FOps.ofInt F FloatKind.f32 y2) y0)) with
          | true =>
            cases (Prod.fst (Pure.spec_l06Hit_L2 F y3 y4 y5 y6 y7 y8 y9 21 (FOps.bin F BinOp.mul FloatKind.f32 (FOps.ofInt F FloatKind.f32 y2) y0) (FOps.bin F BinOp.mul FloatKind.f32 (FOps.ofInt F FloatKind.f32 (IntKind.wrap IntKind.i64 (y2 - 1))) y0) 0)) with
            | true =>
              cases (Prod.fst (Prod.snd (Pure.spec_l06Hit_L2 F y3 y4 y5 y6 y7 y8 y9 21 (FOps.bin F BinOp.mul FloatKind.f32 (FOps.ofInt F FloatKind.f32 y2) y0) (FOps.bin F BinOp.mul FloatKind.f32 (FOps.ofInt F FloatKind.f32 (IntKind.wrap IntKind.i64 (y2 - 1))) y0) 0))) with
              | true =>
                intro _; rfl
              | false =>
                intro _; rfl
            | false =>
              intro h; exact absurd h Bool.false_ne_true
          | false =>
            exact ih _
        | false =>
          intro _; rfl
      | false =>
        intro h; exact absurd h Bool.false_ne_true
    | false =>
      intro _; rfl
theorem t_spec_l06Hit_L0 : SmTo Try.prog 1 65 (S_spec_l06Hit_L0 real) 0 (.loop (loopB 0 (codeOf Try.f82))) := by
  refine smTo_ev (cl := [(112, c_spec_l06Under real)]) (ef := []) (sm := [(2, S_spec_l06Hit_L2 real)]) (un := 0) prog_ok (allOK_cons ok_spec_l06Under allOK_nil) (smL_cons (body := .loop (loopB 2 (codeOf Try.f82))) (by kernel_rfl) t_spec_l06Hit_L2 smL_nil) ?_
  intro vals hp q r h hq
  unfold S_spec_l06Hit_L0 at h
  dsimp only at h
  split at h
  · rename_i y0 y1 y2 y3 y4 y5 y6 y7 y8 y9
    obtain rfl := Option.some.inj h
    have h1 := hq
    unfold resOf at h1
    rw [chk_some] at h1
    exact ⟨_, (l_spec_l06Hit_L0 real y0 y1 y3 y4 y5 y6 y7 y8 y9 _ y2 h1.1).trans hq⟩
  · cases h
def Pure.spec_l06Hit (F : FOps) (x0 : Int) (x1 : Int) (x2 : Int) (x3 : Int) (x4 : Int) (x5 : Int) (x6 : Int) (x7 : Int) (x8 : Int) : Int := bif Prod.fst (Prod.snd (Pure.spec_l06Hit_L0 F x7 x8 x0 x1 x2 x3 x4 x5 x6 (Int.toNat ((x8 - 1) + 2)) 1)) then Prod.fst (Prod.snd (Prod.snd (Pure.spec_l06Hit_L0 F x7 x8 x0 x1 x2 x3 x4 x5 x6 (Int.toNat ((x8 - 1) + 2)) 1))) else 0
def Pure.spec_l06Hit_1 (F : FOps) (x0 : Int) (x1 : Int) (x2 : Int) (x3 : Int) (x4 : Int) (x5 : Int) (x6 : Int) (x7 : Int) (x8 : Int) : Bool := bif Prod.fst (Prod.snd (Pure.spec_l06Hit_L0 F x7 x8 x0 x1 x2 x3 x4 x5 x6 (Int.toNat ((x8 - 1) + 2)) 1)) then Prod.snd (Prod.snd (Prod.snd (Pure.spec_l06Hit_L0 F x7 x8 x0 x1 x2 x3 x4 x5 x6 (Int.toNat ((x8 - 1) + 2)) 1))) else false
def Pure.spec_l06Hit_ok (F : FOps) (x0 : Int) (x1 : Int) (x2 : Int) (x3 : Int) (x4 : Int) (x5 : Int) (x6 : Int) (x7 : Int) (x8 : Int) : Bool := Prod.fst (Pure.spec_l06Hit_L0 F x7 x8 x0 x1 x2 x3 x4 x5 x6 (Int.toNat ((x8 - 1) + 2)) 1)
def c_spec_l06Hit (F : FOps) : Con
  | [V.at (A.ptr 0 0 0), V.agg [A.fl FloatKind.f32 x4, A.fl FloatKind.f32 x5, A.fl FloatKind.f32 x6], V.at (A.fl FloatKind.f32 x7), V.at (A.int IntKind.i64 x8)], [⟨false, OC.box [A.fl FloatKind.f32 x0, A.fl FloatKind.f32 x1, A.fl FloatKind.f32 x2, A.fl FloatKind.f32 x3]⟩] => some (Pure.spec_l06Hit_ok F x0 x1 x2 x3 x4 x5 x6 x7 x8, ⟨V.tup [(false, [A.fl FloatKind.f32 (Pure.spec_l06Hit F x0 x1 x2 x3 x4 x5 x6 x7 x8)]), (false, [A.bool (Pure.spec_l06Hit_1 F x0 x1 x2 x3 x4 x5 x6 x7 x8)])], none, []⟩)
  | _, _ => none
theorem e_spec_l06Hit (F : FOps) (x0 : Int) (x1 : Int) (x2 : Int) (x3 : Int) (x4 : Int) (x5 : Int) (x6 : Int) (x7 : Int) (x8 : Int) : Pure.spec_l06Hit_ok F x0 x1 x2 x3 x4 x5 x6 x7 x8 = true → evFn (cxS F tyl [(112, c_spec_l06Under F)] [] [(0, S_spec_l06Hit_L0 F)] 0) Try.f82 false [V.at (A.ptr 0 0 0), V.agg [A.fl FloatKind.f32 x4, A.fl FloatKind.f32 x5, A.fl FloatKind.f32 x6], V.at (A.fl FloatKind.f32 x7), V.at (A.int IntKind.i64 x8)] [⟨false, OC.box [A.fl FloatKind.f32 x0, A.fl FloatKind.f32 x1, A.fl FloatKind.f32 x2, A.fl FloatKind.f32 x3]⟩] = some ⟨V.tup [(false, [A.fl FloatKind.f32 (Pure.spec_l06Hit F x0 x1 x2 x3 x4 x5 x6 x7 x8)]), (false, [A.bool (Pure.spec_l06Hit_1 F x0 x1 x2 x3 x4 x5 x6 x7 x8)])], none, []⟩ := by
  have h0 : evFn (cxS F tyl [(112, c_spec_l06Under F)] [] [(0, S_spec_l06Hit_L0 F)] 0) Try.f82 false [V.at (A.ptr 0 0 0), V.agg [A.fl FloatKind.f32 x4, A.fl FloatKind.f32 x5, A.fl FloatKind.f32 x6], V.at (A.fl FloatKind.f32 x7), V.at (A.int IntKind.i64 x8)] [⟨false, OC.box [A.fl FloatKind.f32 x0, A.fl FloatKind.f32 x1, A.fl FloatKind.f32 x2, A.fl FloatKind.f32 x3]⟩] = bif Prod.fst (Pure.spec_l06Hit_L0 F x7 x8 x0 x1 x2 x3 x4 x5 x6 (Int.toNat ((x8 - 1) + 2)) 1) then bif Prod.fst (Prod.snd (Pure.spec_l06Hit_L0 F x7 x8 x0 x1 x2 x3 x4 x5 x6 (Int.toNat ((x8 - 1) + 2)) 1)) then some ⟨V.tup [(false, [A.fl FloatKind.f32 (Prod.fst (Prod.snd (Prod.snd (Pure.spec_l06Hit_L0 F x7 x8 x0 x1 x2 x3 x4 x5 x6 (Int.toNat ((x8 - 1) + 2)) 1))))]), (false, [A.bool (Prod.snd (Prod.snd (Prod.snd (Pure.spec_l06Hit_L0 F x7 x8 x0 x1 x2 x3 x4 x5 x6 (Int.toNat ((x8 - 1) + 2)) 1))))])], none, []⟩ else some ⟨V.tup [(false, [A.fl FloatKind.f32 0]), (false, [A.bool false])], none, []⟩ else none := by kernel_rfl
  rw [h0]
  unfold Pure.spec_l06Hit Pure.spec_l06Hit_1 Pure.spec_l06Hit_ok
  cases (Prod.fst (Pure.spec_l06Hit_L0 F x7 x8 x0 x1 x2 x3 x4 x5 x6 (Int.toNat ((x8 - 1) + 2)) 1)) with
  | true =>
    cases (Prod.fst (Prod.snd (Pure.spec_l06Hit_L0 F x7 x8 x0 x1 x2 x3 x4 x5 x6 (Int.toNat ((x8 - 1) + 2)) 1))) with
    | true =>
      intro _; rfl
    | false =>
      intro _; rfl
  | false =>
    intro h; exact absurd h Bool.false_ne_true
theorem ok_spec_l06Hit : CallOK Try.prog 82 (c_spec_l06Hit real) := by
  refine callOK_of fun args h ret hc => ?_
  unfold c_spec_l06Hit at hc
  split at hc
  · rename_i x4 x5 x6 x7 x8 x0 x1 x2 x3
    obtain ⟨hok, rfl⟩ := some_ret hc
    exact holds_ev prog_ok (allOK_cons ok_spec_l06Under allOK_nil) Try.func82 rfl rfl (smL_cons (body := .loop (loopB 0 (codeOf Try.f82))) (by kernel_rfl) t_spec_l06Hit_L0 smL_nil) rfl (e_spec_l06Hit real x0 x1 x2 x3 x4 x5 x6 x7 x8 hok)
  · cases hc
def Pure.spec_NextHit (F : FOps) (x0 : Int) (x1 : Int) (x2 : Int) (x3 : Int) (x4 : Int) (x5 : Int) (x6 : Int) (x7 : Int) (x8 : Int) : Int := bif Pure.spec_l06Can F x0 x1 x2 x3 x4 x5 x6 x7 x8 then Pure.spec_l06Hit F x0 x1 x2 x3 x4 x5 x6 x7 x8 else 0
def Pure.spec_NextHit_1 (F : FOps) (x0 : Int) (x1 : Int) (x2 : Int) (x3 : Int) (x4 : Int) (x5 : Int) (x6 : Int) (x7 : Int) (x8 : Int) : Bool := bif Pure.spec_l06Can F x0 x1 x2 x3 x4 x5 x6 x7 x8 then Pure.spec_l06Hit_1 F x0 x1 x2 x3 x4 x5 x6 x7 x8 else false
def Pure.spec_NextHit_ok (F : FOps) (x0 : Int) (x1 : Int) (x2 : Int) (x3 : Int) (x4 : Int) (x5 : Int) (x6 : Int) (x7 : Int) (x8 : Int) : Bool := bif Pure.spec_l06Can F x0 x1 x2 x3 x4 x5 x6 x7 x8 then Pure.spec_l06Hit_ok F x0 x1 x2 x3 x4 x5 x6 x7 x8 else true
def Pure.impl_in (F : FOps) (x0 : Int) (x1 : Int) (x2 : Int) : Bool := bif Decidable.decide (x0 ≥ x1) then Decidable.decide (x0 ≤ x2) else false
def c_impl_in (F : FOps) : Con
  | [V.at (A.int IntKind.i64 x0), V.at (A.int IntKind.i64 x1), V.at (A.int IntKind.i64 x2)], [] => some (true, ⟨V.at (A.bool (Pure.impl_in F x0 x1 x2)), none, []⟩)
  | _, _ => none
theorem e_impl_in (F : FOps) (x0 : Int) (x1 : Int) (x2 : Int) : evFn (cxS F tyl [] [] [] 0) Try.f68 false [V.at (A.int IntKind.i64 x0), V.at (A.int IntKind.i64 x1), V.at (A.int IntKind.i64 x2)] [] = some ⟨V.at (A.bool (Pure.impl_in F x0 x1 x2)), none, []⟩ := by
  have h0 : evFn (cxS F tyl [] [] [] 0) Try.f68 false [V.at (A.int IntKind.i64 x0), V.at (A.int IntKind.i64 x1), V.at (A.int IntKind.i64 x2)] [] = bif Decidable.decide (x0 ≥ x1) then some ⟨V.at (A.bool (Decidable.decide (x0 ≤ x2))), none, []⟩ else some ⟨V.at (A.bool false), none, []⟩ := by kernel_rfl
  rw [h0]
  unfold Pure.impl_in
  cases (Decidable.decide (x0 ≥ x1)) with
  | true =>
    rfl
  | false =>
    rfl
theorem ok_impl_in : CallOK Try.prog 68 (c_impl_in real) := by
  refine callOK_of fun args h ret hc => ?_
  unfold c_impl_in at hc
  split at hc
  · rename_i x0 x1 x2
    obtain ⟨_, rfl⟩ := some_ret hc
    exact holds_ev prog_ok allOK_nil Try.func68 rfl rfl smL_nil rfl (e_impl_in real x0 x1 x2)
  · cases hc
def Pure.impl_FlyFall (F : FOps) (x0 : Int) (x1 : Int) (x2 : Int) (x3 : Int) (x4 : Int) (x5 : Int) (x6 : Int) (x7 : Int) : Int := bif Pure.impl_fallOk F x0 x1 x2 x3 x4 x5 x6 then bif Pure.impl_IsFinite F x7 then bif Pure.impl_finite F [[FOps.bin F BinOp.sub FloatKind.f32 (FOps.bin F BinOp.add FloatKind.f32 x4 (FOps.bin F BinOp.mul FloatKind.f32 x7 x5)) (FOps.bin F BinOp.mul FloatKind.f32 (FOps.bin F BinOp.mul FloatKind.f32 (FOps.bin F BinOp.quo FloatKind.f32 x3 1073741824) x7) x7)], [FOps.bin F BinOp.sub FloatKind.f32 x5 (FOps.bin F BinOp.mul FloatKind.f32 x3 x7)], [FOps.bin F BinOp.add FloatKind.f32 x6 x7]] then FOps.bin F BinOp.sub FloatKind.f32 (FOps.bin F BinOp.add FloatKind.f32 x4 (FOps.bin F BinOp.mul FloatKind.f32 x7 x5)) (FOps.bin F BinOp.mul FloatKind.f32 (FOps.bin F BinOp.mul FloatKind.f32 (FOps.bin F BinOp.quo FloatKind.f32 x3 1073741824) x7) x7) else 0 else 0 else 0
def Pure.impl_FlyFall_1 (F : FOps) (x0 : Int) (x1 : Int) (x2 : Int) (x3 : Int) (x4 : Int) (x5 : Int) (x6 : Int) (x7 : Int) : Int := bif Pure.impl_fallOk F x0 x1 x2 x3 x4 x5 x6 then bif Pure.impl_IsFinite F x7 then bif Pure.impl_finite F [[FOps.bin F BinOp.sub FloatKind.f32 (FOps.bin F BinOp.add FloatKind.f32 x4 (FOps.bin F BinOp.mul FloatKind.f32 x7 x5)) (FOps.bin F BinOp.mul FloatKind.f32 (FOps.bin F BinOp.mul FloatKind.f32 (FOps.bin F BinOp.quo FloatKind.f32 x3 1073741824) x7) x7)], [FOps.bin F BinOp.sub FloatKind.f32 x5 (FOps.bin F BinOp.mul FloatKind.f32 x3 x7)], [FOps.bin F BinOp.add FloatKind.f32 x6 x7]] then FOps.bin F BinOp.sub FloatKind.f32 x5 (FOps.bin F BinOp.mul FloatKind.f32 x3 x7) else 0 else 0 else 0
def Pure.impl_FlyFall_2 (F : FOps) (x0 : Int) (x1 : Int) (x2 : Int) (x3 : Int) (x4 : Int) (x5 : Int) (x6 : Int) (x7 : Int) : Int := bif Pure.impl_fallOk F x0 x1 x2 x3 x4 x5 x6 then bif Pure.impl_IsFinite F x7 then bif Pure.impl_finite F [[FOps.bin F BinOp.sub FloatKind.f32 (FOps.bin F BinOp.add FloatKind.f32 x4 (FOps.bin F BinOp.mul FloatKind.f32 x7 x5)) (FOps.bin F BinOp.mul FloatKind.f32 (FOps.bin F BinOp.mul FloatKind.f32 (FOps.bin F BinOp.quo FloatKind.f32 x3 1073741824) x7) x7)], [FOps.bin F BinOp.sub FloatKind.f32 x5 (FOps.bin F BinOp.mul FloatKind.f32 x3 x7)], [FOps.bin F BinOp.add FloatKind.f32 x6 x7]] then FOps.bin F BinOp.add FloatKind.f32 x6 x7 else 0 else 0 else 0
def Pure.impl_FlyFall_3 (F : FOps) (x0 : Int) (x1 : Int) (x2 : Int) (x3 : Int) (x4 : Int) (x5 : Int) (x6 : Int) (x7 : Int) : Bool := bif Pure.impl_fallOk F x0 x1 x2 x3 x4 x5 x6 then bif Pure.impl_IsFinite F x7 then Pure.impl_finite F [[FOps.bin F BinOp.sub FloatKind.f32 (FOps.bin F BinOp.add FloatKind.f32 x4 (FOps.bin F BinOp.mul FloatKind.f32 x7 x5)) (FOps.bin F BinOp.mul FloatKind.f32 (FOps.bin F BinOp.mul FloatKind.f32 (FOps.bin F BinOp.quo FloatKind.f32 x3 1073741824) x7) x7)], [FOps.bin F BinOp.sub FloatKind.f32 x5 (FOps.bin F BinOp.mul FloatKind.f32 x3 x7)], [FOps.bin F BinOp.add FloatKind.f32 x6 x7]] else false else false
def Pure.impl_FlyFall_ok (F : FOps) (x0 : Int) (x1 : Int) (x2 : Int) (x3 : Int) (x4 : Int) (x5 : Int) (x6 : Int) (x7 : Int) : Bool := bif Pure.impl_fallOk_ok F x0 x1 x2 x3 x4 x5 x6 then bif Pure.impl_fallOk F x0 x1 x2 x3 x4 x5 x6 then bif Pure.impl_IsFinite F x7 then Pure.impl_finite_ok F [[FOps.bin F BinOp.sub FloatKind.f32 (FOps.bin F BinOp.add FloatKind.f32 x4 (FOps.bin F BinOp.mul FloatKind.f32 x7 x5)) (FOps.bin F BinOp.mul FloatKind.f32 (FOps.bin F BinOp.mul FloatKind.f32 (FOps.bin F BinOp.quo FloatKind.f32 x3 1073741824) x7) x7)], [FOps.bin F BinOp.sub FloatKind.f32 x5 (FOps.bin F BinOp.mul FloatKind.f32 x3 x7)], [FOps.bin F BinOp.add FloatKind.f32 x6 x7]] else true else true else false
def c_impl_FlyFall (F : FOps) : Con
  | [V.agg [A.fl FloatKind.f32 x0, A.fl FloatKind.f32 x1, A.fl FloatKind.f32 x2, A.fl FloatKind.f32 x3], V.agg [A.fl FloatKind.f32 x4, A.fl FloatKind.f32 x5, A.fl FloatKind.f32 x6], V.at (A.fl FloatKind.f32 x7)], [] => some (Pure.impl_FlyFall_ok F x0 x1 x2 x3 x4 x5 x6 x7, ⟨V.tup [(true, [A.fl FloatKind.f32 (Pure.impl_FlyFall F x0 x1 x2 x3 x4 x5 x6 x7), A.fl FloatKind.f32 (Pure.impl_FlyFall_1 F x0 x1 x2 x3 x4 x5 x6 x7), A.fl FloatKind.f32 (Pure.impl_FlyFall_2 F x0 x1 x2 x3 x4 x5 x6 x7)]), (false, [A.bool (Pure.impl_FlyFall_3 F x0 x1 x2 x3 x4 x5 x6 x7)])], none, []⟩)
  | _, _ => none
theorem e_impl_FlyFall (F : FOps) (x0 : Int) (x1 : Int) (x2 : Int) (x3 : Int) (x4 : Int) (x5 : Int) (x6 : Int) (x7 : Int) : Pure.impl_FlyFall_ok F x0 x1 x2 x3 x4 x5 x6 x7 = true → evFn (cxS F tyl [(66, c_impl_fallOk F), (62, c_impl_IsFinite F), (70, c_impl_finite F)] [] [] 0) Try.f25 false [V.agg [A.fl FloatKind.f32 x0, A.fl FloatKind.f32 x1, A.fl FloatKind.f32 x2, A.fl FloatKind.f32 x3], V.agg [A.fl FloatKind.f32 x4, A.fl FloatKind.f32 x5, A.fl FloatKind.f32 x6], V.at (A.fl FloatKind.f32 x7)] [] = some ⟨V.tup [(true, [A.fl FloatKind.f32 (Pure.impl_FlyFall F x0 x1 x2 x3 x4 x5 x6 x7), A.fl FloatKind.f32 (Pure.impl_FlyFall_1 F x0 x1 x2 x3 x4 x5 x6 x7), A.fl FloatKind.f32 (Pure.impl_FlyFall_2 F x0 x1 x2 x3 x4 x5 x6 x7)]), (false, [A.bool (Pure.impl_FlyFall_3 F x0 x1 x2 x3 x4 x5 x6 x7)])], none, []⟩ := by
  have h0 : evFn (cxS F tyl [(66, c_impl_fallOk F), (62, c_impl_IsFinite F), (70, c_impl_finite F)] [] [] 0) Try.f25 false [V.agg [A.fl FloatKind.f32 x0, A.fl FloatKind.f32 x1, A.fl FloatKind.f32 x2, A.fl FloatKind.f32 x3], V.agg [A.fl FloatKind.f32 x4, A.fl FloatKind.f32 x5, A.fl FloatKind.f32 x6], V.at (A.fl FloatKind.f32 x7)] [] = bif Pure.impl_fallOk_ok F x0 x1 x2 x3 x4 x5 x6 then bif Bool.not (Pure.impl_fallOk F x0 x1 x2 x3 x4 x5 x6) then some ⟨V.tup [(true, [A.fl FloatKind.f32 0, A.fl FloatKind.f32 0, A.fl FloatKind.f32 0]), (false, [A.bool false])], none, []⟩ else bif Bool.not (Pure.impl_IsFinite F x7) then some ⟨V.tup [(true, [A.fl FloatKind.f32 0, A.fl FloatKind.f32 0, A.fl FloatKind.f32 0]), (false, [A.bool false])], none, []⟩ else bif Pure.impl_finite_ok F [[FOps.bin F BinOp.sub FloatKind.f32 (FOps.bin F BinOp.add FloatKind.f32 x4 (FOps.bin F BinOp.mul FloatKind.f32 x7 x5)) (FOps.bin F BinOp.mul FloatKind.f32 (FOps.bin F BinOp.mul FloatKind.f32 (FOps.bin F BinOp.quo FloatKind.f32 x3 1073741824) x7) x7)], [FOps.bin F BinOp.sub FloatKind.f32 x5 (FOps.bin F BinOp.mul FloatKind.f32 x3 x7)], [FOps.bin F BinOp.add FloatKind.f32 x6 x7]] then bif Bool.not (Pure.impl_finite F [[FOps.bin F BinOp.sub FloatKind.f32 (FOps.bin F BinOp.add FloatKind.f32 x4 (FOps.bin F BinOp.mul FloatKind.f32 x7 x5)) (FOps.bin F BinOp.mul FloatKind.f32 (FOps.bin F BinOp.mul FloatKind.f32 (FOps.bin F BinOp.quo FloatKind.f32 x3 1073741824) x7) x7)], [FOps.bin F BinOp.sub FloatKind.f32 x5 (FOps.bin F BinOp.mul FloatKind.f32 x3 x7)], [FOps.bin F BinOp.add FloatKind.f32 x6 x7]]) then some ⟨V.tup [(true, [A.fl FloatKind.f32 0, A.fl FloatKind.f32 0, A.fl FloatKind.f32 0]), (false, [A.bool false])], none, []⟩ else some ⟨V.tup [(true, [A.fl FloatKind.f32 (FOps.bin F BinOp.sub FloatKind.f32 (FOps.bin F BinOp.add FloatKind.f32 x4 (FOps.bin F BinOp.mul FloatKind.f32 x7 x5)) (FOps.bin F BinOp.mul FloatKind.f32 (FOps.bin F BinOp.mul FloatKind.f32 (FOps.bin F BinOp.quo FloatKind.f32 x3 1073741824) x7) x7)), A.fl FloatKind.f32 (FOps.bin F BinOp.sub FloatKind.f32 x5 (FOps.bin F BinOp.mul FloatKind.f32 x3 x7)), A.fl FloatKind.f32 (FOps.bin F BinOp.add FloatKind.f32 x6 x7)]), (false, [A.bool true])], none, []⟩ else none else none := by kernel_rfl
  rw [h0]
  unfold Pure.impl_FlyFall Pure.impl_FlyFall_1 Pure.impl_FlyFall_2 Pure.impl_FlyFall_3 Pure.impl_FlyFall_ok
  cases (Pure.impl_fallOk_ok F x0 x1 x2 x3 x4 x5 x6) with
  | true =>
    cases (Pure.impl_fallOk F x0 x1 x2 x3 x4 x5 x6) with
    | true =>
      cases (Pure.impl_IsFinite F x7) with
      | true =>
        cases (Pure.impl_finite_ok F [[FOps.bin F BinOp.sub FloatKind.f32 (FOps.bin F BinOp.add FloatKind.f32 x4 (FOps.bin F BinOp.mul FloatKind.f32 x7 x5)) (FOps.bin F BinOp.mul FloatKind.f32 (FOps.bin F BinOp.mul FloatKind.f32 (FOps.bin F BinOp.quo FloatKind.f32 x3 1073741824) x7) x7)], [FOps.bin F BinOp.sub FloatKind.f32 x5 (FOps.bin F BinOp.mul FloatKind.f32 x3 x7)], [FOps.bin F BinOp.add FloatKind.f32 x6 x7]]) with
        | true =>
          cases (Pure.impl_finite F [[FOps.bin F BinOp.sub FloatKind.f32 (FOps.bin F BinOp.add FloatKind.f32 x4 (FOps.bin F BinOp.mul FloatKind.f32 x7 x5)) (FOps.bin F BinOp.mul FloatKind.f32 (FOps.bin F BinOp.mul FloatKind.f32 (FOps.bin F BinOp.quo FloatKind.f32 x3 1073741824) x7) x7)], [FOps.bin F BinOp.sub FloatKind.f32 x5 (FOps.bin F BinOp.mul FloatKind.f32 x3 x7)], [FOps.bin F BinOp.add FloatKind.f32 x6 x7]]) with
          | true =>
            intro _; rfl
          | false =>
            intro _; rfl
        | false =>
          intro h; exact absurd h Bool.false_ne_true
      | false =>
        intro _; rfl
    | false =>
      intro _; rfl
  | false =>
    intro h; exact absurd h Bool.false_ne_true
theorem ok_impl_FlyFall : CallOK Try.prog 25 (c_impl_FlyFall real) := by
  refine callOK_of fun args h ret hc => ?_
  unfold c_impl_FlyFall at hc
  split at hc
  · rename_i x0 x1 x2 x3 x4 x5 x6 x7
    obtain ⟨hok, rfl⟩ := some_ret hc
    exact holds_ev prog_ok (allOK_cons ok_impl_fallOk (allOK_cons ok_impl_IsFinite (allOK_cons ok_impl_finite allOK_nil))) Try.func25 rfl rfl smL_nil rfl (e_impl_FlyFall real x0 x1 x2 x3 x4 x5 x6 x7 hok)
  · cases hc
def Pure.impl_under (F : FOps) (x0 : Int) (x1 : Int) (x2 : Int) (x3 : Int) (x4 : Int) (x5 : Int) (x6 : Int) (x7 : Int) : Bool := FOps.cmp F BinOp.lss FloatKind.f32 (Pure.impl_FlyFall F x0 x1 x2 x3 x4 x5 x6 x7) (Pure.impl_TableAt F x0 x1 x2 x3 (Pure.impl_FlyFall_2 F x0 x1 x2 x3 x4 x5 x6 x7))
def Pure.impl_under_1 (F : FOps) (x0 : Int) (x1 : Int) (x2 : Int) (x3 : Int) (x4 : Int) (x5 : Int) (x6 : Int) (x7 : Int) : Bool := bif Pure.impl_FlyFall_3 F x0 x1 x2 x3 x4 x5 x6 x7 then Pure.impl_TableAt_1 F x0 x1 x2 x3 (Pure.impl_FlyFall_2 F x0 x1 x2 x3 x4 x5 x6 x7) else false
def Pure.impl_under_ok (F : FOps) (x0 : Int) (x1 : Int) (x2 : Int) (x3 : Int) (x4 : Int) (x5 : Int) (x6 : Int) (x7 : Int) : Bool := bif Pure.impl_FlyFall_ok F x0 x1 x2 x3 x4 x5 x6 x7 then Pure.impl_TableAt_ok F x0 x1 x2 x3 (Pure.impl_FlyFall_2 F x0 x1 x2 x3 x4 x5 x6 x7) else false
def c_impl_under (F : FOps) : Con
  | [V.agg [A.fl FloatKind.f32 x0, A.fl FloatKind.f32 x1, A.fl FloatKind.f32 x2, A.fl FloatKind.f32 x3], V.agg [A.fl FloatKind.f32 x4, A.fl FloatKind.f32 x5, A.fl FloatKind.f32 x6], V.at (A.fl FloatKind.f32 x7)], [] => some (Pure.impl_under_ok F x0 x1 x2 x3 x4 x5 x6 x7, ⟨V.tup [(false, [A.bool (Pure.impl_under F x0 x1 x2 x3 x4 x5 x6 x7)]), (false, [A.bool (Pure.impl_under_1 F x0 x1 x2 x3 x4 x5 x6 x7)])], none, []⟩)
  | _, _ => none
theorem e_impl_under (F : FOps) (x0 : Int) (x1 : Int) (x2 : Int) (x3 : Int) (x4 : Int) (x5 : Int) (x6 : Int) (x7 : Int) : Pure.impl_under_ok F x0 x1 x2 x3 x4 x5 x6 x7 = true → evFn (cxS F tyl [(25, c_impl_FlyFall F), (17, c_impl_TableAt F)] [] [] 0) Try.f69 false [V.agg [A.fl FloatKind.f32 x0, A.fl FloatKind.f32 x1, A.fl FloatKind.f32 x2, A.fl FloatKind.f32 x3], V.agg [A.fl FloatKind.f32 x4, A.fl FloatKind.f32 x5, A.fl FloatKind.f32 x6], V.at (A.fl FloatKind.f32 x7)] [] = some ⟨V.tup [(false, [A.bool (Pure.impl_under F x0 x1 x2 x3 x4 x5 x6 x7)]), (false, [A.bool (Pure.impl_under_1 F x0 x1 x2 x3 x4 x5 x6 x7)])], none, []⟩ := by
  have h0 : evFn (cxS F tyl [(25, c_impl_FlyFall F), (17, c_impl_TableAt F)] [] [] 0) Try.f69 false [V.agg [A.fl FloatKind.f32 x0, A.fl FloatKind.f32 x1, A.fl FloatKind.f32 x2, A.fl FloatKind.f32 x3], V.agg [A.fl FloatKind.f32 x4, A.fl FloatKind.f32 x5, A.fl FloatKind.f32 x6], V.at (A.fl FloatKind.f32 x7)] [] = bif Pure.impl_FlyFall_ok F x0 x1 x2 x3 x4 x5 x6 x7 then bif Pure.impl_TableAt_ok F x0 x1 x2 x3 (Pure.impl_FlyFall_2 F x0 x1 x2 x3 x4 x5 x6 x7) then bif Pure.impl_FlyFall_3 F x0 x1 x2 x3 x4 x5 x6 x7 then some ⟨V.tup [(false, [A.bool (FOps.cmp F BinOp.lss FloatKind.f32 (Pure.impl_FlyFall F x0 x1 x2 x3 x4 x5 x6 x7) (Pure.impl_TableAt F x0 x1 x2 x3 (Pure.impl_FlyFall_2 F x0 x1 x2 x3 x4 x5 x6 x7)))]), (false, [A.bool (Pure.impl_TableAt_1 F x0 x1 x2 x3 (Pure.impl_FlyFall_2 F x0 x1 x2 x3 x4 x5 x6 x7))])], none, []⟩ else some ⟨V.tup [(false, [A.bool (FOps.cmp F BinOp.lss FloatKind.f32 (Pure.impl_FlyFall F x0 x1 x2 x3 x4 x5 x6 x7) (Pure.impl_TableAt F x0 x1 x2 x3 (Pure.impl_FlyFall_2 F x0 x1 x2 x3 x4 x5 x6 x7)))]), (false, [A.bool false])], none, []⟩ else none else none := by kernel_rfl
  rw [h0]
  unfold Pure.impl_under Pure.impl_under_1 Pure.impl_under_ok
  cases (Pure.impl_FlyFall_ok F x0 x1 x2 x3 x4 x5 x6 x7) with
  | true =>
    cases (Pure.impl_TableAt_ok F x0 x1 x2 x3 (Pure.impl_FlyFall_2 F x0 x1 x2 x3 x4 x5 x6 x7)) with
    | true =>
      cases (Pure.impl_FlyFall_3 F x0 x1 x2 x3 x4 x5 x6 x7) with
      | true =>
        intro _; rfl
      | false =>
        intro _; rfl
    | false =>
      intro h; exact absurd h Bool.false_ne_true
  | false =>
    intro h; exact absurd h Bool.false_ne_true
theorem ok_impl_under : CallOK Try.prog 69 (c_impl_under real) := by
  refine callOK_of fun args h ret hc => ?_
  unfold c_impl_under at hc
  split at hc
  · rename_i x0 x1 x2 x3 x4 x5 x6 x7
    obtain ⟨hok, rfl⟩ := some_ret hc
    exact holds_ev prog_ok (allOK_cons ok_impl_FlyFall (allOK_cons ok_impl_TableAt allOK_nil)) Try.func69 rfl rfl smL_nil rfl (e_impl_under real x0 x1 x2 x3 x4 x5 x6 x7 hok)
  · cases hc
def Pure.impl_NextHit_L0 (F : FOps) (y0 : Int) (y1 : Int) (y4 : Int) (y5 : Int) (y6 : Int) (y7 : Int) (y8 : Int) (y9 : Int) (y10 : Int) : Nat → Int → Bool → (Bool × Bool × Int × Bool × Int × Bool)
  | 0, _, _ => (false, false, 0, false, 0, false)
  | n + 1, y2, y3 => bif (Decidable.decide (y2 < y1)) then (bif y3 then ((true, false, y2, y3, 0, false)) else (bif (Pure.impl_under_ok F y4 y5 y6 y7 y8 y9 y10 (FOps.bin F BinOp.mul FloatKind.f32 (FOps.ofInt F FloatKind.f32 (IntKind.wrap IntKind.i64 (y2 + 1))) y0)) then (bif (Pure.impl_under_1 F y4 y5 y6 y7 y8 y9 y10 (FOps.bin F BinOp.mul FloatKind.f32 (FOps.ofInt F FloatKind.f32 (IntKind.wrap IntKind.i64 (y2 + 1))) y0)) then (Pure.impl_NextHit_L0 F y0 y1 y4 y5 y6 y7 y8 y9 y10 n (IntKind.wrap IntKind.i64 (y2 + 1)) (Pure.impl_under F y4 y5 y6 y7 y8 y9 y10 (FOps.bin F BinOp.mul FloatKind.f32 (FOps.ofInt F FloatKind.f32 (IntKind.wrap IntKind.i64 (y2 + 1))) y0))) else ((true, true, 0, false, IntKind.wrap IntKind.i64 (y2 + 1), Pure.impl_under F y4 y5 y6 y7 y8 y9 y10 (FOps.bin F BinOp.mul FloatKind.f32 (FOps.ofInt F FloatKind.f32 (IntKind.wrap IntKind.i64 (y2 + 1))) y0)))) else ((false, false, 0, false, 0, false)))) else ((true, false, y2, y3, 0, false))
def R_impl_NextHit_L0 (y0 : Int) (y4 : Int) (y5 : Int) (y6 : Int) (y7 : Int) (y8 : Int) (y9 : Int) (y10 : Int) (r : (Bool × Bool × Int × Bool × Int × Bool)) : Bool × Bool × (Ex × List V × List Ob) × (Ex × List V × List Ob) := ((r).1, (r).2.1, (Ex.normal, [V.at (A.fl FloatKind.f32 y0), V.at (A.ptr 0 0 0), V.at (A.ptr 1 0 0), V.at A.undef, V.at A.undef, V.at (A.int IntKind.i64 (r).2.2.1), V.at (A.bool (r).2.2.2.1)], [⟨true, OC.box [A.fl FloatKind.f32 y4, A.fl FloatKind.f32 y5, A.fl FloatKind.f32 y6, A.fl FloatKind.f32 y7]⟩, ⟨true, OC.box [A.fl FloatKind.f32 y8, A.fl FloatKind.f32 y9, A.fl FloatKind.f32 y10]⟩]), (Ex.ret, [V.at (A.fl FloatKind.f32 y0), V.at (A.ptr 0 0 0), V.at (A.ptr 1 0 0), V.at (A.fl FloatKind.f32 0), V.at (A.bool false), V.at (A.int IntKind.i64 (r).2.2.2.2.1), V.at (A.bool (r).2.2.2.2.2)], [⟨true, OC.box [A.fl FloatKind.f32 y4, A.fl FloatKind.f32 y5, A.fl FloatKind.f32 y6, A.fl FloatKind.f32 y7]⟩, ⟨true, OC.box [A.fl FloatKind.f32 y8, A.fl FloatKind.f32 y9, A.fl FloatKind.f32 y10]⟩]))
def S_impl_NextHit_L0 (F : FOps) : Sm := ⟨[2, 3, 4, 5, 10, 11], [22, 2, 0, 0, 2, 4], [2, 4, 5, 8, 9, 10, 11], fun vals hp => match vals, hp with
  | [V.at (A.fl FloatKind.f32 y0), V.at (A.int IntKind.i64 y1), V.at (A.ptr 0 0 0), V.at (A.ptr 1 0 0), V.at (A.int IntKind.i64 y2), V.at (A.bool y3)], [⟨true, OC.box [A.fl FloatKind.f32 y4, A.fl FloatKind.f32 y5, A.fl FloatKind.f32 y6, A.fl FloatKind.f32 y7]⟩, ⟨true, OC.box [A.fl FloatKind.f32 y8, A.fl FloatKind.f32 y9, A.fl FloatKind.f32 y10]⟩] => some (R_impl_NextHit_L0 y0 y4 y5 y6 y7 y8 y9 y10 (Pure.impl_NextHit_L0 F y0 y1 y4 y5 y6 y7 y8 y9 y10 (y1 - y2 + 1).toNat y2 y3))
  | _, _ => none⟩
theorem l_impl_NextHit_L0 (F : FOps) (y0 : Int) (y1 : Int) (y4 : Int) (y5 : Int) (y6 : Int) (y7 : Int) (y8 : Int) (y9 : Int) (y10 : Int) : ∀ (fuel : Nat) (y2 : Int) (y3 : Bool), (Pure.impl_NextHit_L0 F y0 y1 y4 y5 y6 y7 y8 y9 y10 fuel y2 y3).1 = true → loopOf (cxS F tyl [(66, c_impl_fallOk F), (67, c_impl_lengthOk F), (68, c_impl_in F), (69, c_impl_under F)] [] [] 0) 0 82 0 [2, 3, 4, 5, 10, 11] [22, 2, 0, 0, 2, 4] [2, 4, 5, 8, 9, 10, 11] (loopB 0 (codeOf Try.f23)) fuel [V.at (A.fl FloatKind.f32 y0), V.at (A.int IntKind.i64 y1), V.at (A.ptr 0 0 0), V.at (A.ptr 1 0 0), V.at (A.int IntKind.i64 y2), V.at (A.bool y3)] [⟨true, OC.box [A.fl FloatKind.f32 y4, A.fl FloatKind.f32 y5, A.fl FloatKind.f32 y6, A.fl FloatKind.f32 y7]⟩, ⟨true, OC.box [A.fl FloatKind.f32 y8, A.fl FloatKind.f32 y9, A.fl FloatKind.f32 y10]⟩] = resOf (R_impl_NextHit_L0 y0 y4 y5 y6 y7 y8 y9 y10 (Pure.impl_NextHit_L0 F y0 y1 y4 y5 y6 y7 y8 y9 y10 fuel y2 y3)) := by
  intro fuel
  induction fuel with
  | zero => intro y2 y3 h; exact absurd h Bool.false_ne_true
  | succ n ih =>
    intro y2 y3
    have h0 : roundOf (cxS F tyl [(66, c_impl_fallOk F), (67, c_impl_lengthOk F), (68, c_impl_in F), (69, c_impl_under F)] [] [] 0) 0 82 0 [2, 3, 4, 5, 10, 11] [22, 2, 0, 0, 2, 4] [2, 4, 5, 8, 9, 10, 11] (loopB 0 (codeOf Try.f23)) [V.at (A.fl FloatKind.f32 y0), V.at (A.int IntKind.i64 y1), V.at (A.ptr 0 0 0), V.at (A.ptr 1 0 0), V.at (A.int IntKind.i64 y2), V.at (A.bool y3)] [⟨true, OC.box [A.fl FloatKind.f32 y4, A.fl FloatKind.f32 y5, A.fl FloatKind.f32 y6, A.fl FloatKind.f32 y7]⟩, ⟨true, OC.box [A.fl FloatKind.f32 y8, A.fl FloatKind.f32 y9, A.fl FloatKind.f32 y10]⟩] = (bif Decidable.decide (y2 < y1) then bif Bool.not y3 then bif Pure.impl_under_ok F y4 y5 y6 y7 y8 y9 y10 (FOps.bin F BinOp.mul FloatKind.f32 (FOps.ofInt F FloatKind.f32 (IntKind.wrap IntKind.i64 (y2 + 1))) y0) then bif Bool.not (Pure.impl_under_1 F y4 y5 y6 y7 y8 y9 y10 (FOps.bin F BinOp.mul FloatKind.f32 (FOps.ofInt F FloatKind.f32 (IntKind.wrap IntKind.i64 (y2 + 1))) y0)) then some (false, (Ex.ret, ([V.at (A.fl FloatKind.f32 y0), V.at (A.ptr 0 0 0), V.at (A.ptr 1 0 0), V.at (A.fl FloatKind.f32 0), V.at (A.bool false), V.at (A.int IntKind.i64 (IntKind.wrap IntKind.i64 (y2 + 1))), V.at (A.bool (Pure.impl_under F y4 y5 y6 y7 y8 y9 y10 (FOps.bin F BinOp.mul FloatKind.f32 (FOps.ofInt F FloatKind.f32 (IntKind.wrap IntKind.i64 (y2 + 1))) y0)))], [⟨true, OC.box [A.fl FloatKind.f32 y4, A.fl FloatKind.f32 y5, A.fl FloatKind.f32 y6, A.fl FloatKind.f32 y7]⟩, ⟨true, OC.box [A.fl FloatKind.f32 y8, A.fl FloatKind.f32 y9, A.fl FloatKind.f32 y10]⟩]))) else some (true, (Ex.normal, ([V.at (A.fl FloatKind.f32 y0), V.at (A.int IntKind.i64 y1), V.at (A.ptr 0 0 0), V.at (A.ptr 1 0 0), V.at (A.int IntKind.i64 (IntKind.wrap IntKind.i64 (y2 + 1))), V.at (A.bool (Pure.impl_under F y4 y5 y6 y7 y8 y9 y10 (FOps.bin F BinOp.mul FloatKind.f32 (FOps.ofInt F FloatKind.f32 (IntKind.wrap IntKind.i64 (y2 + 1))) y0)))], [⟨true, OC.box [A.fl FloatKind.f32 y4, A.fl FloatKind.f32 y5, A.fl FloatKind.f32 y6, A.fl FloatKind.f32 y7]⟩, ⟨true, OC.box [A.fl FloatKind.f32 y8, A.fl FloatKind.f32 y9, A.fl FloatKind.f32 y10]⟩]))) else none else some (false, (Ex.normal, ([V.at (A.fl FloatKind.f32 y0), V.at (A.ptr 0 0 0), V.at (A.ptr 1 0 0), V.at A.undef, V.at A.undef, V.at (A.int IntKind.i64 y2), V.at (A.bool y3)], [⟨true, OC.box [A.fl FloatKind.f32 y4, A.fl FloatKind.f32 y5, A.fl FloatKind.f32 y6, A.fl FloatKind.f32 y7]⟩, ⟨true, OC.box [A.fl FloatKind.f32 y8, A.fl FloatKind.f32 y9, A.fl FloatKind.f32 y10]⟩]))) else some (false, (Ex.normal, ([V.at (A.fl FloatKind.f32 y0), V.at (A.ptr 0 0 0), V.at (A.ptr 1 0 0), V.at A.undef, V.at A.undef, V.at (A.int IntKind.i64 y2), V.at (A.bool y3)], [⟨true, OC.box [A.fl FloatKind.f32 y4, A.fl FloatKind.f32 y5, A.fl FloatKind.f32 y6, A.fl FloatKind.f32 y7]⟩, ⟨true, OC.box [A.fl FloatKind.f32 y8, A.fl FloatKind.f32 y9, A.fl FloatKind.f32 y10]⟩])))) := by kernel_rfl
    unfold loopOf
    rw [h0]
    unfold Pure.impl_NextHit_L0
    cases (Decidable.decide (y2 < y1)) with
    | true =>
      cases y3 with
      | true =>
        intro _; rfl
      | false =>
        cases (Pure.impl_under_ok F y4 y5 y6 y7 y8 y9 y10 (FOps.bin F BinOp.mul FloatKind.f32 (FOps.ofInt F FloatKind.f32 (IntKind.wrap IntKind.i64 (y2 + 1))) y0)) with
        | true =>
          cases (Pure.impl_under_1 F y4 y5 y6 y7 y8 y9 y10 (FOps.bin F BinOp.mul FloatKind.f32 (FOps.ofInt F FloatKind.f32 (IntKind.wrap IntKind.i64 (y2 + 1))) y0)) with
          | true =>
            exact ih _ _
          | false =>
            intro _; rfl
        | false =>
          intro h; exact absurd h Bool.false_ne_true
    | false =>
      intro _; rfl
theorem t_impl_NextHit_L0 : SmTo Try.prog 0 82 (S_impl_NextHit_L0 real) 0 (.loop (loopB 0 (codeOf Try.f23))) := by
  refine smTo_ev (cl := [(66, c_impl_fallOk real), (67, c_impl_lengthOk real), (68, c_impl_in real), (69, c_impl_under real)]) (ef := []) (sm := []) (un := 0) prog_ok (allOK_cons ok_impl_fallOk (allOK_cons ok_impl_lengthOk (allOK_cons ok_impl_in (allOK_cons ok_impl_under allOK_nil)))) smL_nil ?_
  intro vals hp q r h hq
  unfold S_impl_NextHit_L0 at h
  dsimp only at h
  split at h
  · rename_i y0 y1 y2 y3 y4 y5 y6 y7 y8 y9 y10
    obtain rfl := Option.some.inj h
    have h1 := hq
    unfold resOf at h1
    rw [chk_some] at h1
    exact ⟨_, (l_impl_NextHit_L0 real y0 y1 y4 y5 y6 y7 y8 y9 y10 _ y2 y3 h1.1).trans hq⟩
  · cases h
def Pure.impl_NextHit_L2 (F : FOps) (y3 : Int) (y4 : Int) (y5 : Int) (y6 : Int) (y7 : Int) (y8 : Int) (y9 : Int) : Nat → Int → Int → Int → (Bool × Bool × Int × Int)
  | 0, _, _, _ => (false, false, 0, 0)
  | n + 1, y0, y1, y2 => bif (Decidable.decide (y2 < 20)) then (bif (Pure.impl_under_ok F y3 y4 y5 y6 y7 y8 y9 (FOps.bin F BinOp.quo FloatKind.f32 (FOps.bin F BinOp.add FloatKind.f32 y0 y1) 1073741824)) then (bif (Pure.impl_under_1 F y3 y4 y5 y6 y7 y8 y9 (FOps.bin F BinOp.quo FloatKind.f32 (FOps.bin F BinOp.add FloatKind.f32 y0 y1) 1073741824)) then (bif (Pure.impl_under F y3 y4 y5 y6 y7 y8 y9 (FOps.bin F BinOp.quo FloatKind.f32 (FOps.bin F BinOp.add FloatKind.f32 y0 y1) 1073741824)) then (Pure.impl_NextHit_L2 F y3 y4 y5 y6 y7 y8 y9 n y0 (FOps.bin F BinOp.quo FloatKind.f32 (FOps.bin F BinOp.add FloatKind.f32 y0 y1) 1073741824) (IntKind.wrap IntKind.i64 (y2 + 1))) else (Pure.impl_NextHit_L2 F y3 y4 y5 y6 y7 y8 y9 n (FOps.bin F BinOp.quo FloatKind.f32 (FOps.bin F BinOp.add FloatKind.f32 y0 y1) 1073741824) y1 (IntKind.wrap IntKind.i64 (y2 + 1)))) else ((true, true, 0, y0))) else ((false, false, 0, 0))) else ((true, false, y0, 0))
def R_impl_NextHit_L2 (r : (Bool × Bool × Int × Int)) : Bool × Bool × (Ex × List V × List Ob) × (Ex × List V × List Ob) := ((r).1, (r).2.1, (Ex.normal, [V.at A.undef, V.at A.undef, V.at (A.fl FloatKind.f32 (r).2.2.1)], []), (Ex.ret, [V.at (A.fl FloatKind.f32 0), V.at (A.bool false), V.at (A.fl FloatKind.f32 (r).2.2.2)], []))
def S_impl_NextHit_L2 (F : FOps) : Sm := ⟨[4, 5, 13, 14, 62], [0, 0, 22, 22, 3], [8, 9, 13], fun vals hp => match vals, hp with
  | [V.at (A.ptr 0 0 0), V.at (A.ptr 1 0 0), V.at (A.fl FloatKind.f32 y0), V.at (A.fl FloatKind.f32 y1), V.at (A.int IntKind.i64 y2)], [⟨true, OC.box [A.fl FloatKind.f32 y3, A.fl FloatKind.f32 y4, A.fl FloatKind.f32 y5, A.fl FloatKind.f32 y6]⟩, ⟨true, OC.box [A.fl FloatKind.f32 y7, A.fl FloatKind.f32 y8, A.fl FloatKind.f32 y9]⟩] => some (R_impl_NextHit_L2  (Pure.impl_NextHit_L2 F y3 y4 y5 y6 y7 y8 y9 (20 - y2 + 1).toNat y0 y1 y2))
  | _, _ => none⟩
theorem l_impl_NextHit_L2 (F : FOps) (y3 : Int) (y4 : Int) (y5 : Int) (y6 : Int) (y7 : Int) (y8 : Int) (y9 : Int) : ∀ (fuel : Nat) (y0 : Int) (y1 : Int) (y2 : Int), (Pure.impl_NextHit_L2 F y3 y4 y5 y6 y7 y8 y9 fuel y0 y1 y2).1 = true → loopOf (cxS F tyl [(66, c_impl_fallOk F), (67, c_impl_lengthOk F), (68, c_impl_in F), (69, c_impl_under F)] [] [] 0) 0 82 2 [4, 5, 13, 14, 62] [0, 0, 22, 22, 3] [8, 9, 13] (loopB 2 (codeOf Try.f23)) fuel [V.at (A.ptr 0 0 0), V.at (A.ptr 1 0 0), V.at (A.fl FloatKind.f32 y0), V.at (A.fl FloatKind.f32 y1), V.at (A.int IntKind.i64 y2)] [⟨true, OC.box [A.fl FloatKind.f32 y3, A.fl FloatKind.f32 y4, A.fl FloatKind.f32 y5, A.fl FloatKind.f32 y6]⟩, ⟨true, OC.box [A.fl FloatKind.f32 y7, A.fl FloatKind.f32 y8, A.fl FloatKind.f32 y9]⟩] = resOf (R_impl_NextHit_L2  (Pure.impl_NextHit_L2 F y3 y4 y5 y6 y7 y8 y9 fuel y0 y1 y2)) := by
  intro fuel
  induction fuel with
  | zero => intro y0 y1 y2 h; exact absurd h Bool.false_ne_true
  | succ n ih =>
    intro y0 y1 y2
    have h0 : roundOf (cxS F tyl [(66, c_impl_fallOk F), (67, c_impl_lengthOk F), (68, c_impl_in F), (69, c_impl_under F)] [] [] 0) 0 82 2 [4, 5, 13, 14, 62] [0, 0, 22, 22, 3] [8, 9, 13] (loopB 2 (codeOf Try.f23)) [V.at (A.ptr 0 0 0), V.at (A.ptr 1 0 0), V.at (A.fl FloatKind.f32 y0), V.at (A.fl FloatKind.f32 y1), V.at (A.int IntKind.i64 y2)] [⟨true, OC.box [A.fl FloatKind.f32 y3, A.fl FloatKind.f32 y4, A.fl FloatKind.f32 y5, A.fl FloatKind.f32 y6]⟩, ⟨true, OC.box [A.fl FloatKind.f32 y7, A.fl FloatKind.f32 y8, A.fl FloatKind.f32 y9]⟩] = (bif Decidable.decide (y2 < 20) then bif Pure.impl_under_ok F y3 y4 y5 y6 y7 y8 y9 (FOps.bin F BinOp.quo FloatKind.f32 (FOps.bin F BinOp.add FloatKind.f32 y0 y1) 1073741824) then bif Bool.not (Pure.impl_under_1 F y3 y4 y5 y6 y7 y8 y9 (FOps.bin F BinOp.quo FloatKind.f32 (FOps.bin F BinOp.add FloatKind.f32 y0 y1) 1073741824)) then some (false, (Ex.ret, ([V.at (A.fl FloatKind.f32 0), V.at (A.bool false), V.at (A.fl FloatKind.f32 y0)], []))) else bif Pure.impl_under F y3 y4 y5 y6 y7 y8 y9 (FOps.bin F BinOp.quo FloatKind.f32 (FOps.bin F BinOp.add FloatKind.f32 y0 y1) 1073741824) then some (true, (Ex.normal, ([V.at (A.ptr 0 0 0), V.at (A.ptr 1 0 0), V.at (A.fl FloatKind.f32 y0), V.at (A.fl FloatKind.f32 (FOps.bin F BinOp.quo FloatKind.f32 (FOps.bin F BinOp.add FloatKind.f32 y0 y1) 1073741824)), V.at (A.int IntKind.i64 (IntKind.wrap IntKind.i64 (y2 + 1)))], [⟨true, OC.box [A.fl FloatKind.f32 y3, A.fl FloatKind.f32 y4, A.fl FloatKind.f32 y5, A.fl FloatKind.f32 y6]⟩, ⟨true, OC.box [A.fl FloatKind.f32 y7, A.fl FloatKind.f32 y8, A.fl FloatKind.f32 y9]⟩]))) else some (true, (Ex.normal, ([V.at (A.ptr 0 0 0), V.at (A.ptr 1 0 0), V.at (A.fl FloatKind.f32 (FOps.bin F BinOp.quo FloatKind.f32 (FOps.bin F BinOp.add FloatKind.f32 y0 y1) 1073741824)), V.at (A.fl FloatKind.f32 y1), V.at (A.int IntKind.i64 (IntKind.wrap IntKind.i64 (y2 + 1)))], [⟨true, OC.box [A.fl FloatKind.f32 y3, A.fl FloatKind.f32 y4, A.fl FloatKind.f32 y5, A.fl FloatKind.f32 y6]⟩, ⟨true, OC.box [A.fl FloatKind.f32 y7, A.fl FloatKind.f32 y8, A.fl FloatKind.f32 y9]⟩]))) else none else some (false, (Ex.normal, ([V.at A.undef, V.at A.undef, V.at (A.fl FloatKind.f32 y0)], [])))) := by kernel_rfl
    unfold loopOf
    rw [h0]
    unfold Pure.impl_NextHit_L2
    cases (Decidable.decide (y2 < 20)) with
    | true =>
      cases (Pure.impl_under_ok F y3 y4 y5 y6 y7 y8 y9 (FOps.bin F BinOp.quo FloatKind.f32 (FOps.bin F BinOp.add FloatKind.f32 y0 y1) 1073741824)) with
      | true =>
        cases (Pure.impl_under_1 F y3 y4 y5 y6 y7 y8 y9 (FOps.bin F BinOp.quo FloatKind.f32 (FOps.bin F BinOp.add FloatKind.f32 y0 y1) 1073741824)) with
        | true =>
          cases (Pure.impl_under F y3 y4 y5 y6 y7 y8 y9 (FOps.bin F BinOp.quo FloatKind.f32 (FOps.bin F BinOp.add FloatKind.f32 y0 y1) 1073741824)) with
          | true =>
            exact ih _ _ _
          | false =>
            exact ih _ _ _
        | false =>
          intro _; rfl
      | false =>
        intro h; exact absurd h Bool.false_ne_true
    | false =>
      intro _; rfl
theorem t_impl_NextHit_L2 : SmTo Try.prog 0 82 (S_impl_NextHit_L2 real) 2 (.loop (loopB 2 (codeOf Try.f23))) := by
  refine smTo_ev (cl := [(66, c_impl_fallOk real), (67, c_impl_lengthOk real), (68, c_impl_in real), (69, c_impl_under real)]) (ef := []) (sm := []) (un := 0) prog_ok (allOK_cons ok_impl_fallOk (allOK_cons ok_impl_lengthOk (allOK_cons ok_impl_in (allOK_cons ok_impl_under allOK_nil)))) smL_nil ?_
  intro vals hp q r h hq
  unfold S_impl_NextHit_L2 at h
  dsimp only at h
  split at h
  · rename_i y0 y1 y2 y3 y4 y5 y6 y7 y8 y9
    obtain rfl := Option.some.inj h
    have h1 := hq
    unfold resOf at h1
    rw [chk_some] at h1
    exact ⟨_, (l_impl_NextHit_L2 real y3 y4 y5 y6 y7 y8 y9 _ y0 y1 y2 h1.1).trans hq⟩
  · cases h
def Pure.impl_NextHit (F : FOps) (x0 : Int) (x1 : Int) (x2 : Int) (x3 : Int) (x4 : Int) (x5 : Int) (x6 : Int) (x7 : Int) (x8 : Int) : Int := bif Pure.impl_fallOk F x0 x1 x2 x3 x4 x5 x6 then bif Pure.impl_lengthOk F x7 then bif Pure.impl_in F x8 1 256 then bif Prod.fst (Prod.snd (Pure.impl_NextHit_L0 F x7 x8 x0 x1 x2 x3 x4 x5 x6 (Int.toNat ((x8 - 0) + 1)) 0 false)) then 0 else bif Prod.fst (Prod.snd (Prod.snd (Prod.snd (Pure.impl_NextHit_L0 F x7 x8 x0 x1 x2 x3 x4 x5 x6 (Int.toNat ((x8 - 0) + 1)) 0 false)))) then bif Prod.fst (Prod.snd (Pure.impl_NextHit_L2 F x0 x1 x2 x3 x4 x5 x6 21 (FOps.bin F BinOp.mul FloatKind.f32 (FOps.ofInt F FloatKind.f32 (IntKind.wrap IntKind.i64 ((Prod.fst (Prod.snd (Prod.snd (Pure.impl_NextHit_L0 F x7 x8 x0 x1 x2 x3 x4 x5 x6 (Int.toNat ((x8 - 0) + 1)) 0 false)))) - 1))) x7) (FOps.bin F BinOp.mul FloatKind.f32 (FOps.ofInt F FloatKind.f32 (Prod.fst (Prod.snd (Prod.snd (Pure.impl_NextHit_L0 F x7 x8 x0 x1 x2 x3 x4 x5 x6 (Int.toNat ((x8 - 0) + 1)) 0 false))))) x7) 0)) then 0 else Prod.fst (Prod.snd (Prod.snd (Pure.impl_NextHit_L2 F x0 x1 x2 x3 x4 x5 x6 21 (FOps.bin F BinOp.mul FloatKind.f32 (FOps.ofInt F FloatKind.f32 (IntKind.wrap IntKind.i64 ((Prod.fst (Prod.snd (Prod.snd (Pure.impl_NextHit_L0 F x7 x8 x0 x1 x2 x3 x4 x5 x6 (Int.toNat ((x8 - 0) + 1)) 0 false)))) - 1))) x7) (FOps.bin F BinOp.mul FloatKind.f32 (FOps.ofInt F FloatKind.f32 (Prod.fst (Prod.snd (Prod.snd (Pure.impl_NextHit_L0 F x7 x8 x0 x1 x2 x3 x4 x5 x6 (Int.toNat ((x8 - 0) + 1)) 0 false))))) x7) 0))) else 0 else 0 else 0 else 0
def Pure.impl_NextHit_1 (F : FOps) (x0 : Int) (x1 : Int) (x2 : Int) (x3 : Int) (x4 : Int) (x5 : Int) (x6 : Int) (x7 : Int) (x8 : Int) : Bool := bif Pure.impl_fallOk F x0 x1 x2 x3 x4 x5 x6 then bif Pure.impl_lengthOk F x7 then bif Pure.impl_in F x8 1 256 then bif Prod.fst (Prod.snd (Pure.impl_NextHit_L0 F x7 x8 x0 x1 x2 x3 x4 x5 x6 (Int.toNat ((x8 - 0) + 1)) 0 false)) then false else bif Prod.fst (Prod.snd (Prod.snd (Prod.snd (Pure.impl_NextHit_L0 F x7 x8 x0 x1 x2 x3 x4 x5 x6 (Int.toNat ((x8 - 0) + 1)) 0 false)))) then bif Prod.fst (Prod.snd (Pure.impl_NextHit_L2 F x0 x1 x2 x3 x4 x5 x6 21 (FOps.bin F BinOp.mul FloatKind.f32 (FOps.ofInt F FloatKind.f32 (IntKind.wrap IntKind.i64 ((Prod.fst (Prod.snd (Prod.snd (Pure.impl_NextHit_L0 F x7 x8 x0 x1 x2 x3 x4 x5 x6 (Int.toNat ((x8 - 0) + 1)) 0 false)))) - 1))) x7) (FOps.bin F BinOp.mul FloatKind.f32 (FOps.ofInt F FloatKind.f32 (Prod.fst (Prod.snd (Prod.snd (Pure.impl_NextHit_L0 F x7 x8 x0 x1 x2 x3 x4 x5 x6 (Int.toNat ((x8 - 0) + 1)) 0 false))))) x7) 0)) then false else true else false else false else false else false
def Pure.impl_NextHit_ok (F : FOps) (x0 : Int) (x1 : Int) (x2 : Int) (x3 : Int) (x4 : Int) (x5 : Int) (x6 : Int) (x7 : Int) (x8 : Int) : Bool := bif Pure.impl_fallOk_ok F x0 x1 x2 x3 x4 x5 x6 then bif Pure.impl_fallOk F x0 x1 x2 x3 x4 x5 x6 then bif Pure.impl_lengthOk F x7 then bif Pure.impl_in F x8 1 256 then bif Prod.fst (Pure.impl_NextHit_L0 F x7 x8 x0 x1 x2 x3 x4 x5 x6 (Int.toNat ((x8 - 0) + 1)) 0 false) then bif Prod.fst (Prod.snd (Pure.impl_NextHit_L0 F x7 x8 x0 x1 x2 x3 x4 x5 x6 (Int.toNat ((x8 - 0) + 1)) 0 false)) then true else bif Prod.fst (Prod.snd (Prod.snd (Prod.snd (Pure.impl_NextHit_L0 F x7 x8 x0 x1 x2 x3 x4 x5 x6 (Int.toNat ((x8 - 0) + 1)) 0 false)))) then Prod.fst (Pure.impl_NextHit_L2 F x0 x1 x2 x3 x4 x5 x6 21 (FOps.bin F BinOp.mul FloatKind.f32 (FOps.ofInt F FloatKind.f32 (IntKind.wrap IntKind.i64 ((Prod.fst (Prod.snd (Prod.snd (Pure.impl_NextHit_L0 F x7 x8 x0 x1 x2 x3 x4 x5 x6 (Int.toNat ((x8 - 0) + 1)) 0 false)))) - 1))) x7) (FOps.bin F BinOp.mul FloatKind.f32 (FOps.ofInt F FloatKind.f32 (Prod.fst (Prod.snd (Prod.snd (Pure.impl_NextHit_L0 F x7 x8 x0 x1 x2 x3 x4 x5 x6 (Int.toNat ((x8 - 0) + 1)) 0 false))))) x7) 0) else true else false else true else true else true else false
def c_impl_NextHit (F : FOps) : Con
  | [V.agg [A.fl FloatKind.f32 x0, A.fl FloatKind.f32 x1, A.fl FloatKind.f32 x2, A.fl FloatKind.f32 x3], V.agg [A.fl FloatKind.f32 x4, A.fl FloatKind.f32 x5, A.fl FloatKind.f32 x6], V.at (A.fl FloatKind.f32 x7), V.at (A.int IntKind.i64 x8)], [] => some (Pure.impl_NextHit_ok F x0 x1 x2 x3 x4 x5 x6 x7 x8, ⟨V.tup [(false, [A.fl FloatKind.f32 (Pure.impl_NextHit F x0 x1 x2 x3 x4 x5 x6 x7 x8)]), (false, [A.bool (Pure.impl_NextHit_1 F x0 x1 x2 x3 x4 x5 x6 x7 x8)])], none, []⟩)
  | _, _ => none
theorem e_impl_NextHit (F : FOps) (x0 : Int) (x1 : Int) (x2 : Int) (x3 : Int) (x4 : Int) (x5 : Int) (x6 : Int) (x7 : Int) (x8 : Int) : Pure.impl_NextHit_ok F x0 x1 x2 x3 x4 x5 x6 x7 x8 = true → evFn (cxS F tyl [(66, c_impl_fallOk F), (67, c_impl_lengthOk F), (68, c_impl_in F), (69, c_impl_under F)] [] [(0, S_impl_NextHit_L0 F), (2, S_impl_NextHit_L2 F)] 0) Try.f23 false [V.agg [A.fl FloatKind.f32 x0, A.fl FloatKind.f32 x1, A.fl FloatKind.f32 x2, A.fl FloatKind.f32 x3], V.agg [A.fl FloatKind.f32 x4, A.fl FloatKind.f32 x5, A.fl FloatKind.f32 x6], V.at (A.fl FloatKind.f32 x7), V.at (A.int IntKind.i64 x8)] [] = some ⟨V.tup [(false, [A.fl FloatKind.f32 (Pure.impl_NextHit F x0 x1 x2 x3 x4 x5 x6 x7 x8)]), (false, [A.bool (Pure.impl_NextHit_1 F x0 x1 x2 x3 x4 x5 x6 x7 x8)])], none, []⟩ := by
  have h0 : evFn (cxS F tyl [(66, c_impl_fallOk F), (67, c_impl_lengthOk F), (68, c_impl_in F), (69, c_impl_under F)] [] [(0, S_impl_NextHit_L0 F), (2, S_impl_NextHit_L2 F)] 0) Try.f23 false [V.agg [A.fl FloatKind.f32 x0, A.fl FloatKind.f32 x1, A.fl FloatKind.f32 x2, A.fl FloatKind.f32 x3], V.agg [A.fl FloatKind.f32 x4, A.fl FloatKind.f32 x5, A.fl FloatKind.f32 x6], V.at (A.fl FloatKind.f32 x7), V.at (A.int IntKind.i64 x8)] [] = bif Pure.impl_fallOk_ok F x0 x1 x2 x3 x4 x5 x6 then bif Bool.not (Pure.impl_fallOk F x0 x1 x2 x3 x4 x5 x6) then some ⟨V.tup [(false, [A.fl FloatKind.f32 0]), (false, [A.bool false])], none, []⟩ else bif Bool.not (Pure.impl_lengthOk F x7) then some ⟨V.tup [(false, [A.fl FloatKind.f32 0]), (false, [A.bool false])], none, []⟩ else bif Bool.not (Pure.impl_in F x8 1 256) then some ⟨V.tup [(false, [A.fl FloatKind.f32 0]), (false, [A.bool false])], none, []⟩ else bif Prod.fst (Pure.impl_NextHit_L0 F x7 x8 x0 x1 x2 x3 x4 x5 x6 (Int.toNat ((x8 - 0) + 1)) 0 false) then bif Prod.fst (Prod.snd (Pure.impl_NextHit_L0 F x7 x8 x0 x1 x2 x3 x4 x5 x6 (Int.toNat ((x8 - 0) + 1)) 0 false)) then some ⟨V.tup [(false, [A.fl FloatKind.f32 0]), (false, [A.bool false])], none, []⟩ else bif Bool.not (Prod.fst (Prod.snd (Prod.snd (Prod.snd (Pure.impl_NextHit_L0 F x7 x8 x0 x1 x2 x3 x4 x5 x6 (Int.toNat ((x8 - 0) + 1)) 0 false))))) then some ⟨V.tup [(false, [A.fl FloatKind.f32 0]), (false, [A.bool false])], none, []⟩ else bif Prod.fst (Pure.impl_NextHit_L2 F x0 x1 x2 x3 x4 x5 x6 21 (FOps.bin F BinOp.mul FloatKind.f32 (FOps.ofInt F FloatKind.f32 (IntKind.wrap IntKind.i64 ((Prod.fst (Prod.snd (Prod.snd (Pure.impl_NextHit_L0 F x7 x8 x0 x1 x2 x3 x4 x5 x6 (Int.toNat ((x8 - 0) + 1)) 0 false)))) - 1))) x7) (FOps.bin F BinOp.mul FloatKind.f32 (FOps.ofInt F FloatKind.f32 (Prod.fst (Prod.snd (Prod.snd (Pure.impl_NextHit_L0 F x7 x8 x0 x1 x2 x3 x4 x5 x6 (Int.toNat ((x8 - 0) + 1)) 0 false))))) x7) 0) then bif Prod.fst (Prod.snd (Pure.impl_NextHit_L2 F x0 x1 x2 x3 x4 x5 x6 21 (FOps.bin F BinOp.mul FloatKind.f32 (FOps.ofInt F FloatKind.f32 (IntKind.wrap IntKind.i64 ((Prod.fst (Prod.snd (Prod.snd (Pure.impl_NextHit_L0 F x7 x8 x0 x1 x2 x3 x4 x5 x6 (Int.toNat ((x8 - 0) + 1)) 0 false)))) - 1))) x7) (FOps.bin F BinOp.mul FloatKind.f32 (FOps.ofInt F FloatKind.f32 (Prod.fst (Prod.snd (Prod.snd (Pure.impl_NextHit_L0 F x7 x8 x0 x1 x2 x3 x4 x5 x6 (Int.toNat ((x8 - 0) + 1)) 0 false))))) x7) 0)) then some ⟨V.tup [(false, [A.fl FloatKind.f32 0]), (false, [A.bool false])], none, []⟩ else some ⟨V.tup [(false, [A.fl FloatKind.f32 (Prod.fst (Prod.snd (Prod.snd (Pure.impl_NextHit_L2 F x0 x1 x2 x3 x4 x5 x6 21 (FOps.bin F BinOp.mul FloatKind.f32 (FOps.ofInt F FloatKind.f32 (IntKind.wrap IntKind.i64 ((Prod.fst (Prod.snd (Prod.snd (Pure.impl_NextHit_L0 F x7 x8 x0 x1 x2 x3 x4 x5 x6 (Int.toNat ((x8 - 0) + 1)) 0 false)))) - 1))) x7) (FOps.bin F BinOp.mul FloatKind.f32 (FOps.ofInt F FloatKind.f32 (Prod.fst (Prod.snd (Prod.snd (Pure.impl_NextHit_L0 F x7 x8 x0 x1 x2 x3 x4 x5 x6 (Int.toNat ((x8 - 0) + 1)) 0 false))))) x7) 0))))]), (false, [A.bool true])], none, []⟩ else none else none else none := by kernel_rfl
  rw [h0]
  unfold Pure.impl_NextHit Pure.impl_NextHit_1 Pure.impl_NextHit_ok
  cases (Pure.impl_fallOk_ok F x0 x1 x2 x3 x4 x5 x6) with
  | true =>
    cases (Pure.impl_fallOk F x0 x1 x2 x3 x4 x5 x6) with
    | true =>
      cases (Pure.impl_lengthOk F x7) with
      | true =>
        cases (Pure.impl_in F x8 1 256) with
        | true =>
          cases (Prod.fst (Pure.impl_NextHit_L0 F x7 x8 x0 x1 x2 x3 x4 x5 x6 (Int.toNat ((x8 - 0) + 1)) 0 false)) with
          | true =>
            cases (Prod.fst (Prod.snd (Pure.impl_NextHit_L0 F x7 x8 x0 x1 x2 x3 x4 x5 x6 (Int.toNat ((x8 - 0) + 1)) 0 false))) with
            | true =>
              intro _; rfl
            | false =>
              cases (Prod.fst (Prod.snd (Prod.snd (Prod.snd (Pure.impl_NextHit_L0 F x7 x8 x0 x1 x2 x3 x4 x5 x6 (Int.toNat ((x8 - 0) + 1)) 0 false))))) with
              | true =>
                cases (Prod.fst (Pure.impl_NextHit_L2 F x0 x1 x2 x3 x4 x5 x6 21 (FOps.bin F BinOp.mul FloatKind.f32 (FOps.ofInt F FloatKind.f32 (IntKind.wrap IntKind.i64 ((Prod.fst (Prod.snd (Prod.snd (Pure.impl_NextHit_L0 F x7 x8 x0 x1 x2 x3 x4 x5 x6 (Int.toNat ((x8 - 0) + 1)) 0 false)))) - 1))) x7) (FOps.bin F BinOp.mul FloatKind.f32 (FOps.ofInt F FloatKind.f32 (Prod.fst (Prod.snd (Prod.snd (Pure.impl_NextHit_L0 F x7 x8 x0 x1 x2 x3 x4 x5 x6 (Int.toNat ((x8 - 0) + 1)) 0 false))))) x7) 0)) with
                | true =>
                  cases (Prod.fst (Prod.snd (Pure.impl_NextHit_L2 F x0 x1 x2 x3 x4 x5 x6 21 (FOps.bin F BinOp.mul FloatKind.f32 (FOps.ofInt F FloatKind.f32 (IntKind.wrap IntKind.i64 ((Prod.fst (Prod.snd (Prod.snd (Pure.impl_NextHit_L0 F x7 x8 x0 x1 x2 x3 x4 x5 x6 (Int.toNat ((x8 - 0) + 1)) 0 false)))) - 1))) x7) (FOps.bin F BinOp.mul FloatKind.f32 (FOps.ofInt F FloatKind.f32 (Prod.fst (Prod.snd (Prod.snd (Pure.impl_NextHit_L0 F x7 x8 x0 x1 x2 x3 x4 x5 x6 (Int.toNat ((x8 - 0) + 1)) 0 false))))) x7) 0))) with
                  | true =>
                    intro _; rfl
                  | false =>
                    intro _; rfl
                | false =>
                  intro h; exact absurd h Bool.false_ne_true
              | false =>
                intro _; rfl
          | false =>
            intro h; exact absurd h Bool.false_ne_true
        | false =>
          intro _; rfl
      | false =>
        intro _; rfl
    | false =>
      intro _; rfl
  | false =>
    intro h; exact absurd h Bool.false_ne_true
theorem ok_impl_NextHit : CallOK Try.prog 23 (c_impl_NextHit real) := by
  refine callOK_of fun args h ret hc => ?_
  unfold c_impl_NextHit at hc
  split at hc
  · rename_i x0 x1 x2 x3 x4 x5 x6 x7 x8
    obtain ⟨hok, rfl⟩ := some_ret hc
    exact holds_ev prog_ok (allOK_cons ok_impl_fallOk (allOK_cons ok_impl_lengthOk (allOK_cons ok_impl_in (allOK_cons ok_impl_under allOK_nil)))) Try.func23 rfl rfl (smL_cons (body := .loop (loopB 0 (codeOf Try.f23))) (by kernel_rfl) t_impl_NextHit_L0 (smL_cons (body := .loop (loopB 2 (codeOf Try.f23))) (by kernel_rfl) t_impl_NextHit_L2 smL_nil)) rfl (e_impl_NextHit real x0 x1 x2 x3 x4 x5 x6 x7 x8 hok)
  · cases hc
end Go.Fx
