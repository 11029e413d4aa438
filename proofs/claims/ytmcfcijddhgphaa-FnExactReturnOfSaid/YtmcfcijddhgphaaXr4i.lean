import Derived.Test.YtmcfcijddhgphaaXr4h
import Derived.KernelRfl
namespace Go.Fx
open Go.Proofs
set_option maxRecDepth 100000
def Pure.spec_l05Apart (F : FOps) (x0 : Int) (x1 : Int) : Int := bif FOps.cmp F BinOp.gtr FloatKind.f32 (FOps.bin F BinOp.sub FloatKind.f32 (Pure.spec_l05Wrap F x1) (Pure.spec_l05Wrap F x0)) 1056964608 then FOps.bin F BinOp.sub FloatKind.f32 (FOps.bin F BinOp.sub FloatKind.f32 (Pure.spec_l05Wrap F x1) (Pure.spec_l05Wrap F x0)) 1065353216 else bif FOps.cmp F BinOp.leq FloatKind.f32 (FOps.bin F BinOp.sub FloatKind.f32 (Pure.spec_l05Wrap F x1) (Pure.spec_l05Wrap F x0)) 3204448256 then FOps.bin F BinOp.add FloatKind.f32 (FOps.bin F BinOp.sub FloatKind.f32 (Pure.spec_l05Wrap F x1) (Pure.spec_l05Wrap F x0)) 1065353216 else FOps.bin F BinOp.sub FloatKind.f32 (Pure.spec_l05Wrap F x1) (Pure.spec_l05Wrap F x0)
def Pure.spec_l05Apart_ok (F : FOps) (x0 : Int) (x1 : Int) : Bool := bif Pure.spec_l05Wrap_ok F x1 then Pure.spec_l05Wrap_ok F x0 else false
def c_spec_l05Apart (F : FOps) : Con
  | [V.at (A.fl FloatKind.f32 x0), V.at (A.fl FloatKind.f32 x1)], [] => some (Pure.spec_l05Apart_ok F x0 x1, ⟨V.at (A.fl FloatKind.f32 (Pure.spec_l05Apart F x0 x1)), none, []⟩)
  | _, _ => none
theorem e_spec_l05Apart (F : FOps) (x0 : Int) (x1 : Int) : Pure.spec_l05Apart_ok F x0 x1 = true → evFn (cxS F tyl [(87, c_spec_l05Wrap F)] [] [] 0) Try.f86 false [V.at (A.fl FloatKind.f32 x0), V.at (A.fl FloatKind.f32 x1)] [] = some ⟨V.at (A.fl FloatKind.f32 (Pure.spec_l05Apart F x0 x1)), none, []⟩ := by
  have h0 : evFn (cxS F tyl [(87, c_spec_l05Wrap F)] [] [] 0) Try.f86 false [V.at (A.fl FloatKind.f32 x0), V.at (A.fl FloatKind.f32 x1)] [] = bif Pure.spec_l05Wrap_ok F x1 then bif Pure.spec_l05Wrap_ok F x0 then bif FOps.cmp F BinOp.gtr FloatKind.f32 (FOps.bin F BinOp.sub FloatKind.f32 (Pure.spec_l05Wrap F x1) (Pure.spec_l05Wrap F x0)) 1056964608 then some ⟨V.at (A.fl FloatKind.f32 (FOps.bin F BinOp.sub FloatKind.f32 (FOps.bin F BinOp.sub FloatKind.f32 (Pure.spec_l05Wrap F x1) (Pure.spec_l05Wrap F x0)) 1065353216)), none, []⟩ else bif FOps.cmp F BinOp.leq FloatKind.f32 (FOps.bin F BinOp.sub FloatKind.f32 (Pure.spec_l05Wrap F x1) (Pure.spec_l05Wrap F x0)) 3204448256 then some ⟨V.at (A.fl FloatKind.f32 (FOps.bin F BinOp.add FloatKind.f32 (FOps.bin F BinOp.sub FloatKind.f32 (Pure.spec_l05Wrap F x1) (Pure.spec_l05Wrap F x0)) 1065353216)), none, []⟩ else some ⟨V.at (A.fl FloatKind.f32 (FOps.bin F BinOp.sub FloatKind.f32 (Pure.spec_l05Wrap F x1) (Pure.spec_l05Wrap F x0))), none, []⟩ else none else none := by kernel_rfl
  rw [h0]
  unfold Pure.spec_l05Apart Pure.spec_l05Apart_ok
  cases (Pure.spec_l05Wrap_ok F x1) with
  | true =>
    cases (Pure.spec_l05Wrap_ok F x0) with
    | true =>
      cases (FOps.cmp F BinOp.gtr FloatKind.f32 (FOps.bin F BinOp.sub FloatKind.f32 (Pure.spec_l05Wrap F x1) (Pure.spec_l05Wrap F x0)) 1056964608) with
      | true =>
        intro _; rfl
      | false =>
        cases (FOps.cmp F BinOp.leq FloatKind.f32 (FOps.bin F BinOp.sub FloatKind.f32 (Pure.spec_l05Wrap F x1) (Pure.spec_l05Wrap F x0)) 3204448256) with
        | true =>
          intro _; rfl
        | false =>
          intro _; rfl
    | false =>
      intro h; exact absurd h Bool.false_ne_true
  | false =>
    intro h; exact absurd h Bool.false_ne_true
theorem ok_spec_l05Apart : CallOK Try.prog 86 (c_spec_l05Apart real) := by
  refine callOK_of fun args h ret hc => ?_
  unfold c_spec_l05Apart at hc
  split at hc
  · rename_i x0 x1
    obtain ⟨hok, rfl⟩ := some_ret hc
    exact holds_ev prog_ok (allOK_cons ok_spec_l05Wrap allOK_nil) Try.func86 rfl rfl smL_nil rfl (e_spec_l05Apart real x0 x1 hok)
  · cases hc
def c_math_sqrt (F : FOps) : Con
  | [V.at (A.fl FloatKind.f64 x)], [] => some (true, ⟨V.at (A.fl FloatKind.f64 (F.sqrt x)), none, []⟩)
  | _, _ => none
theorem ok_math_sqrt : CallOK Try.prog 126 (c_math_sqrt real) := by
  refine callOK_of fun args h ret hc => ?_
  unfold c_math_sqrt at hc
  split at hc
  · rename_i x
    obtain ⟨_, rfl⟩ := some_ret hc
    exact ext_sqrt Try.func126 rfl rfl (by kernel_rfl) (by kernel_rfl) x
  · cases hc
def c_math_Sqrt (F : FOps) : Con
  | [V.at (A.fl FloatKind.f64 x0)], [] => some (true, ⟨V.at (A.fl FloatKind.f64 (FOps.sqrt F x0)), none, []⟩)
  | _, _ => none
theorem e_math_Sqrt (F : FOps) (x0 : Int) : evFn (cxS F tyl [(126, c_math_sqrt F)] [] [] 0) Try.f114 false [V.at (A.fl FloatKind.f64 x0)] [] = some ⟨V.at (A.fl FloatKind.f64 (FOps.sqrt F x0)), none, []⟩ := by
  kernel_rfl
theorem ok_math_Sqrt : CallOK Try.prog 114 (c_math_Sqrt real) := by
  refine callOK_of fun args h ret hc => ?_
  unfold c_math_Sqrt at hc
  split at hc
  · rename_i x0
    obtain ⟨_, rfl⟩ := some_ret hc
    exact holds_ev prog_ok (allOK_cons ok_math_sqrt allOK_nil) Try.func114 rfl rfl smL_nil rfl (e_math_Sqrt real x0)
  · cases hc
def Pure.spec_l01Sqrt (F : FOps) (x0 : Int) : Int := Pure.spec_l01Narrow F (FOps.sqrt F (FOps.conv F FloatKind.f32 FloatKind.f64 x0))
def Pure.spec_l01Sqrt_ok (F : FOps) (x0 : Int) : Bool := bif FOps.convOk F FloatKind.f32 FloatKind.f64 x0 then Pure.spec_l01Narrow_ok F (FOps.sqrt F (FOps.conv F FloatKind.f32 FloatKind.f64 x0)) else false
def c_spec_l01Sqrt (F : FOps) : Con
  | [V.at (A.fl FloatKind.f32 x0)], [] => some (Pure.spec_l01Sqrt_ok F x0, ⟨V.at (A.fl FloatKind.f32 (Pure.spec_l01Sqrt F x0)), none, []⟩)
  | _, _ => none
theorem e_spec_l01Sqrt (F : FOps) (x0 : Int) : Pure.spec_l01Sqrt_ok F x0 = true → evFn (cxS F tyl [(114, c_math_Sqrt F), (100, c_spec_l01Narrow F)] [] [] 0) Try.f81 false [V.at (A.fl FloatKind.f32 x0)] [] = some ⟨V.at (A.fl FloatKind.f32 (Pure.spec_l01Sqrt F x0)), none, []⟩ := by
  have h0 : evFn (cxS F tyl [(114, c_math_Sqrt F), (100, c_spec_l01Narrow F)] [] [] 0) Try.f81 false [V.at (A.fl FloatKind.f32 x0)] [] = bif FOps.convOk F FloatKind.f32 FloatKind.f64 x0 then bif Pure.spec_l01Narrow_ok F (FOps.sqrt F (FOps.conv F FloatKind.f32 FloatKind.f64 x0)) then some ⟨V.at (A.fl FloatKind.f32 (Pure.spec_l01Narrow F (FOps.sqrt F (FOps.conv F FloatKind.f32 FloatKind.f64 x0)))), none, []⟩ else none else none := by kernel_rfl
  rw [h0]
  unfold Pure.spec_l01Sqrt Pure.spec_l01Sqrt_ok
  cases (FOps.convOk F FloatKind.f32 FloatKind.f64 x0) with
  | true =>
    cases (Pure.spec_l01Narrow_ok F (FOps.sqrt F (FOps.conv F FloatKind.f32 FloatKind.f64 x0))) with
    | true =>
      intro _; rfl
    | false =>
      intro h; exact absurd h Bool.false_ne_true
  | false =>
    intro h; exact absurd h Bool.false_ne_true
theorem ok_spec_l01Sqrt : CallOK Try.prog 81 (c_spec_l01Sqrt real) := by
  refine callOK_of fun args h ret hc => ?_
  unfold c_spec_l01Sqrt at hc
  split at hc
  · rename_i x0
    obtain ⟨hok, rfl⟩ := some_ret hc
    exact holds_ev prog_ok (allOK_cons ok_math_Sqrt (allOK_cons ok_spec_l01Narrow allOK_nil)) Try.func81 rfl rfl smL_nil rfl (e_spec_l01Sqrt real x0 hok)
  · cases hc
def Pure.spec_l07Far (F : FOps) (x0 : Int) (x1 : Int) (x2 : Int) (x3 : Int) : Int := Pure.spec_l01Sqrt F (FOps.bin F BinOp.add FloatKind.f32 (FOps.bin F BinOp.mul FloatKind.f32 (Pure.spec_l05Apart F x0 x2) (Pure.spec_l05Apart F x0 x2)) (FOps.bin F BinOp.mul FloatKind.f32 (Pure.spec_l05Apart F x1 x3) (Pure.spec_l05Apart F x1 x3)))
def Pure.spec_l07Far_ok (F : FOps) (x0 : Int) (x1 : Int) (x2 : Int) (x3 : Int) : Bool := bif Pure.spec_l05Apart_ok F x0 x2 then bif Pure.spec_l05Apart_ok F x1 x3 then Pure.spec_l01Sqrt_ok F (FOps.bin F BinOp.add FloatKind.f32 (FOps.bin F BinOp.mul FloatKind.f32 (Pure.spec_l05Apart F x0 x2) (Pure.spec_l05Apart F x0 x2)) (FOps.bin F BinOp.mul FloatKind.f32 (Pure.spec_l05Apart F x1 x3) (Pure.spec_l05Apart F x1 x3))) else false else false
def c_spec_l07Far (F : FOps) : Con
  | [V.agg [A.fl FloatKind.f32 x0, A.fl FloatKind.f32 x1], V.agg [A.fl FloatKind.f32 x2, A.fl FloatKind.f32 x3]], [] => some (Pure.spec_l07Far_ok F x0 x1 x2 x3, ⟨V.at (A.fl FloatKind.f32 (Pure.spec_l07Far F x0 x1 x2 x3)), none, []⟩)
  | _, _ => none
theorem e_spec_l07Far (F : FOps) (x0 : Int) (x1 : Int) (x2 : Int) (x3 : Int) : Pure.spec_l07Far_ok F x0 x1 x2 x3 = true → evFn (cxS F tyl [(86, c_spec_l05Apart F), (81, c_spec_l01Sqrt F)] [] [] 0) Try.f77 false [V.agg [A.fl FloatKind.f32 x0, A.fl FloatKind.f32 x1], V.agg [A.fl FloatKind.f32 x2, A.fl FloatKind.f32 x3]] [] = some ⟨V.at (A.fl FloatKind.f32 (Pure.spec_l07Far F x0 x1 x2 x3)), none, []⟩ := by
  have h0 : evFn (cxS F tyl [(86, c_spec_l05Apart F), (81, c_spec_l01Sqrt F)] [] [] 0) Try.f77 false [V.agg [A.fl FloatKind.f32 x0, A.fl FloatKind.f32 x1], V.agg [A.fl FloatKind.f32 x2, A.fl FloatKind.f32 x3]] [] = bif Pure.spec_l05Apart_ok F x0 x2 then bif Pure.spec_l05Apart_ok F x1 x3 then bif Pure.spec_l01Sqrt_ok F (FOps.bin F BinOp.add FloatKind.f32 (FOps.bin F BinOp.mul FloatKind.f32 (Pure.spec_l05Apart F x0 x2) (Pure.spec_l05Apart F x0 x2)) (FOps.bin F BinOp.mul FloatKind.f32 (Pure.spec_l05Apart F x1 x3) (Pure.spec_l05Apart F x1 x3))) then some ⟨V.at (A.fl FloatKind.f32 (Pure.spec_l01Sqrt F (FOps.bin F BinOp.add FloatKind.f32 (FOps.bin F BinOp.mul FloatKind.f32 (Pure.spec_l05Apart F x0 x2) (Pure.spec_l05Apart F x0 x2)) (FOps.bin F BinOp.mul FloatKind.f32 (Pure.spec_l05Apart F x1 x3) (Pure.spec_l05Apart F x1 x3))))), none, []⟩ else none else none else none := by kernel_rfl
  rw [h0]
  unfold Pure.spec_l07Far Pure.spec_l07Far_ok
  cases (Pure.spec_l05Apart_ok F x0 x2) with
  | true =>
    cases (Pure.spec_l05Apart_ok F x1 x3) with
    | true =>
      cases (Pure.spec_l01Sqrt_ok F (FOps.bin F BinOp.add FloatKind.f32 (FOps.bin F BinOp.mul FloatKind.f32 (Pure.spec_l05Apart F x0 x2) (Pure.spec_l05Apart F x0 x2)) (FOps.bin F BinOp.mul FloatKind.f32 (Pure.spec_l05Apart F x1 x3) (Pure.spec_l05Apart F x1 x3)))) with
      | true =>
        intro _; rfl
      | false =>
        intro h; exact absurd h Bool.false_ne_true
    | false =>
      intro h; exact absurd h Bool.false_ne_true
  | false =>
    intro h; exact absurd h Bool.false_ne_true
theorem ok_spec_l07Far : CallOK Try.prog 77 (c_spec_l07Far real) := by
  refine callOK_of fun args h ret hc => ?_
  unfold c_spec_l07Far at hc
  split at hc
  · rename_i x0 x1 x2 x3
    obtain ⟨hok, rfl⟩ := some_ret hc
    exact holds_ev prog_ok (allOK_cons ok_spec_l05Apart (allOK_cons ok_spec_l01Sqrt allOK_nil)) Try.func77 rfl rfl smL_nil rfl (e_spec_l07Far real x0 x1 x2 x3 hok)
  · cases hc
def Pure.spec_ReturnOf_L0 (F : FOps) (y0 : Int) (y2 : Int) (y3 : Int) (y4 : List (List Int)) : Nat → Int → (Bool × Bool × Int × Int)
  | 0, _ => (false, false, 0, 0)
  | n + 1, y1 => bif (Decidable.decide (y1 < (Int.ofNat (List.length y4)))) then (bif (Decidable.decide (0 ≤ y1)) then (bif (Decidable.decide (y1 < (Int.ofNat (List.length y4)))) then (bif (Pure.spec_l07Far_ok F y2 y3 (List.getD (List.getD y4 (Int.toNat y1) []) 0 0) (List.getD (List.getD y4 (Int.toNat y1) []) 1 0)) then (bif (FOps.cmp F BinOp.leq FloatKind.f32 (Pure.spec_l07Far F y2 y3 (List.getD (List.getD y4 (Int.toNat y1) []) 0 0) (List.getD (List.getD y4 (Int.toNat y1) []) 1 0)) y0) then ((true, true, y1, Pure.spec_l07Far F y2 y3 (List.getD (List.getD y4 (Int.toNat y1) []) 0 0) (List.getD (List.getD y4 (Int.toNat y1) []) 1 0))) else (Pure.spec_ReturnOf_L0 F y0 y2 y3 y4 n (IntKind.wrap IntKind.i64 (y1 + 1)))) else ((false, false, 0, 0))) else ((false, false, 0, 0))) else ((false, false, 0, 0))) else ((true, false, 0, 0))
def R_spec_ReturnOf_L0 (r : (Bool × Bool × Int × Int)) : Bool × Bool × (Ex × List V × List Ob) × (Ex × List V × List Ob) := ((r).1, (r).2.1, (Ex.normal, [V.at A.undef, V.at A.undef, V.at A.undef], []), (Ex.ret, [V.at (A.int IntKind.i64 (r).2.2.1), V.at (A.fl FloatKind.f32 (r).2.2.2), V.at (A.bool true)], []))
def S_spec_ReturnOf_L0 (F : FOps) : Sm := ⟨[2, 4, 11, 12], [24, 0, 84, 3], [8, 9, 10], fun vals hp => match vals, hp with
  | [V.at (A.fl FloatKind.f32 y0), V.at (A.ptr 0 0 0), V.at (A.sl 1), V.at (A.int IntKind.i64 y1)], [⟨true, OC.box [A.fl FloatKind.f32 y2, A.fl FloatKind.f32 y3]⟩, ⟨true, OC.rows [K.f FloatKind.f32, K.f FloatKind.f32] y4⟩] => some (R_spec_ReturnOf_L0  (Pure.spec_ReturnOf_L0 F y0 y2 y3 y4 ((Int.ofNat (List.length y4)) - y1 + 1).toNat y1))
  | _, _ => none⟩
theorem l_spec_ReturnOf_L0 (F : FOps) (y0 : Int) (y2 : Int) (y3 : Int) (y4 : List (List Int)) : ∀ (fuel : Nat) (y1 : Int), (Pure.spec_ReturnOf_L0 F y0 y2 y3 y4 fuel y1).1 = true → loopOf (cxS F tyl [(66, c_spec_l07Is F), (67, c_spec_l07Size F), (68, c_spec_l07Count F), (76, c_spec_l07Orbit F), (77, c_spec_l07Far F)] [] [] 0) 0 48 0 [2, 4, 11, 12] [24, 0, 84, 3] [8, 9, 10] (loopB 0 (codeOf Try.f40)) fuel [V.at (A.fl FloatKind.f32 y0), V.at (A.ptr 0 0 0), V.at (A.sl 1), V.at (A.int IntKind.i64 y1)] [⟨true, OC.box [A.fl FloatKind.f32 y2, A.fl FloatKind.f32 y3]⟩, ⟨true, OC.rows [K.f FloatKind.f32, K.f FloatKind.f32] y4⟩] = resOf (R_spec_ReturnOf_L0  (Pure.spec_ReturnOf_L0 F y0 y2 y3 y4 fuel y1)) := by
  intro fuel
  induction fuel with
  | zero => intro y1 h; exact absurd h Bool.false_ne_true
  | succ n ih =>
    intro y1
    have h0 : roundOf (cxS F tyl [(66, c_spec_l07Is F), (67, c_spec_l07Size F), (68, c_spec_l07Count F), (76, c_spec_l07Orbit F), (77, c_spec_l07Far F)] [] [] 0) 0 48 0 [2, 4, 11, 12] [24, 0, 84, 3] [8, 9, 10] (loopB 0 (codeOf Try.f40)) [V.at (A.fl FloatKind.f32 y0), V.at (A.ptr 0 0 0), V.at (A.sl 1), V.at (A.int IntKind.i64 y1)] [⟨true, OC.box [A.fl FloatKind.f32 y2, A.fl FloatKind.f32 y3]⟩, ⟨true, OC.rows [K.f FloatKind.f32, K.f FloatKind.f32] y4⟩] = (bif Decidable.decide (y1 < (Int.ofNat (List.length y4))) then bif Decidable.decide (0 ≤ y1) then bif Decidable.decide (y1 < (Int.ofNat (List.length y4))) then bif Pure.spec_l07Far_ok F y2 y3 (List.getD (List.getD y4 (Int.toNat y1) []) 0 0) (List.getD (List.getD y4 (Int.toNat y1) []) 1 0) then bif FOps.cmp F BinOp.leq FloatKind.f32 (Pure.spec_l07Far F y2 y3 (List.getD (List.getD y4 (Int.toNat y1) []) 0 0) (List.getD (List.getD y4 (Int.toNat y1) []) 1 0)) y0 then some (false, (Ex.ret, ([V.at (A.int IntKind.i64 y1), V.at (A.fl FloatKind.f32 (Pure.spec_l07Far F y2 y3 (List.getD (List.getD y4 (Int.toNat y1) []) 0 0) (List.getD (List.getD y4 (Int.toNat y1) []) 1 0))), V.at (A.bool true)], []))) else some (true, (Ex.normal, ([V.at (A.fl FloatKind.f32 y0), V.at (A.ptr 0 0 0), V.at (A.sl 1), V.at (A.int IntKind.i64 (IntKind.wrap IntKind.i64 (y1 + 1)))], [⟨true, OC.box [A.fl FloatKind.f32 y2, A.fl FloatKind.f32 y3]⟩, ⟨true, OC.rows [K.f FloatKind.f32, K.f FloatKind.f32] y4⟩]))) else none else none else none else some (false, (Ex.normal, ([V.at A.undef, V.at A.undef, V.at A.undef], [])))) := by kernel_rfl
    unfold loopOf
    rw [h0]
    unfold Pure.spec_ReturnOf_L0
    cases (Decidable.decide (y1 < (Int.ofNat (List.length y4)))) with
    | true =>
      cases (Decidable.decide (0 ≤ y1)) with
      | true =>
        cases (Pure.spec_l07Far_ok F y2 y3 (List.getD (List.getD y4 (Int.toNat y1) []) 0 0) (List.getD (List.getD y4 (Int.toNat y1) []) 1 0)) with
        | true =>
          cases (FOps.cmp F BinOp.leq FloatKind.f32 (Pure.spec_l07Far F y2 y3 (List.getD (List.getD y4 (Int.toNat y1) []) 0 0) (List.getD (List.getD y4 (Int.toNat y1) []) 1 0)) y0) with
          | true =>
            intro _; rfl
          | false =>
            exact ih _
        | false =>
          intro h; exact absurd h Bool.false_ne_true
      | false =>
        intro h; exact absurd h Bool.false_ne_true
    | false =>
      intro _; rfl
theorem t_spec_ReturnOf_L0 : SmTo Try.prog 0 48 (S_spec_ReturnOf_L0 real) 0 (.loop (loopB 0 (codeOf Try.f40))) := by
  refine smTo_ev (cl := [(66, c_spec_l07Is real), (67, c_spec_l07Size real), (68, c_spec_l07Count real), (76, c_spec_l07Orbit real), (77, c_spec_l07Far real)]) (ef := []) (sm := []) (un := 0) prog_ok (allOK_cons ok_spec_l07Is (allOK_cons ok_spec_l07Size (allOK_cons ok_spec_l07Count (allOK_cons ok_spec_l07Orbit (allOK_cons ok_spec_l07Far allOK_nil))))) smL_nil ?_
  intro vals hp q r h hq
  unfold S_spec_ReturnOf_L0 at h
  dsimp only at h
  split at h
  · rename_i y0 y1 y2 y3 y4
    obtain rfl := Option.some.inj h
    have h1 := hq
    unfold resOf at h1
    rw [chk_some] at h1
    exact ⟨_, (l_spec_ReturnOf_L0 real y0 y2 y3 y4 _ y1 h1.1).trans hq⟩
  · cases h
def Pure.spec_ReturnOf (F : FOps) (x0 : Int) (x1 : Int) (x2 : Int) (x3 : Int) (x4 : Int) : Int := bif Pure.spec_l07Is F x0 x1 then bif Pure.spec_l07Size F x2 then bif Pure.spec_l00In F x4 1 128 then bif Prod.fst (Prod.snd (Pure.spec_ReturnOf_L0 F x3 x0 x1 (Pure.spec_l07Orbit F x0 x1 x2 x4) (Int.toNat (((Int.ofNat (List.length (Pure.spec_l07Orbit F x0 x1 x2 x4))) - 1) + 1)) 1)) then Prod.fst (Prod.snd (Prod.snd (Pure.spec_ReturnOf_L0 F x3 x0 x1 (Pure.spec_l07Orbit F x0 x1 x2 x4) (Int.toNat (((Int.ofNat (List.length (Pure.spec_l07Orbit F x0 x1 x2 x4))) - 1) + 1)) 1))) else 0 else 0 else 0 else 0
def Pure.spec_ReturnOf_1 (F : FOps) (x0 : Int) (x1 : Int) (x2 : Int) (x3 : Int) (x4 : Int) : Int := bif Pure.spec_l07Is F x0 x1 then bif Pure.spec_l07Size F x2 then bif Pure.spec_l00In F x4 1 128 then bif Prod.fst (Prod.snd (Pure.spec_ReturnOf_L0 F x3 x0 x1 (Pure.spec_l07Orbit F x0 x1 x2 x4) (Int.toNat (((Int.ofNat (List.length (Pure.spec_l07Orbit F x0 x1 x2 x4))) - 1) + 1)) 1)) then Prod.snd (Prod.snd (Prod.snd (Pure.spec_ReturnOf_L0 F x3 x0 x1 (Pure.spec_l07Orbit F x0 x1 x2 x4) (Int.toNat (((Int.ofNat (List.length (Pure.spec_l07Orbit F x0 x1 x2 x4))) - 1) + 1)) 1))) else 0 else 0 else 0 else 0
def Pure.spec_ReturnOf_2 (F : FOps) (x0 : Int) (x1 : Int) (x2 : Int) (x3 : Int) (x4 : Int) : Bool := bif Pure.spec_l07Is F x0 x1 then bif Pure.spec_l07Size F x2 then bif Pure.spec_l00In F x4 1 128 then Prod.fst (Prod.snd (Pure.spec_ReturnOf_L0 F x3 x0 x1 (Pure.spec_l07Orbit F x0 x1 x2 x4) (Int.toNat (((Int.ofNat (List.length (Pure.spec_l07Orbit F x0 x1 x2 x4))) - 1) + 1)) 1)) else false else false else false
def Pure.spec_ReturnOf_ok (F : FOps) (x0 : Int) (x1 : Int) (x2 : Int) (x3 : Int) (x4 : Int) : Bool := bif Pure.spec_l07Is F x0 x1 then bif Pure.spec_l07Size F x2 then bif Pure.spec_l00In F x4 1 128 then bif Pure.spec_l07Orbit_ok F x0 x1 x2 x4 then Prod.fst (Pure.spec_ReturnOf_L0 F x3 x0 x1 (Pure.spec_l07Orbit F x0 x1 x2 x4) (Int.toNat (((Int.ofNat (List.length (Pure.spec_l07Orbit F x0 x1 x2 x4))) - 1) + 1)) 1) else false else true else true else true
def c_spec_ReturnOf (F : FOps) : Con
  | [V.agg [A.fl FloatKind.f32 x0, A.fl FloatKind.f32 x1], V.at (A.fl FloatKind.f32 x2), V.at (A.fl FloatKind.f32 x3), V.at (A.int IntKind.i64 x4)], [] => some (Pure.spec_ReturnOf_ok F x0 x1 x2 x3 x4, ⟨V.tup [(false, [A.int IntKind.i64 (Pure.spec_ReturnOf F x0 x1 x2 x3 x4)]), (false, [A.fl FloatKind.f32 (Pure.spec_ReturnOf_1 F x0 x1 x2 x3 x4)]), (false, [A.bool (Pure.spec_ReturnOf_2 F x0 x1 x2 x3 x4)])], none, []⟩)
  | _, _ => none
theorem e_spec_ReturnOf (F : FOps) (x0 : Int) (x1 : Int) (x2 : Int) (x3 : Int) (x4 : Int) : Pure.spec_ReturnOf_ok F x0 x1 x2 x3 x4 = true → evFn (cxS F tyl [(66, c_spec_l07Is F), (67, c_spec_l07Size F), (68, c_spec_l07Count F), (76, c_spec_l07Orbit F), (77, c_spec_l07Far F)] [] [(0, S_spec_ReturnOf_L0 F)] 0) Try.f40 false [V.agg [A.fl FloatKind.f32 x0, A.fl FloatKind.f32 x1], V.at (A.fl FloatKind.f32 x2), V.at (A.fl FloatKind.f32 x3), V.at (A.int IntKind.i64 x4)] [] = some ⟨V.tup [(false, [A.int IntKind.i64 (Pure.spec_ReturnOf F x0 x1 x2 x3 x4)]), (false, [A.fl FloatKind.f32 (Pure.spec_ReturnOf_1 F x0 x1 x2 x3 x4)]), (false, [A.bool (Pure.spec_ReturnOf_2 F x0 x1 x2 x3 x4)])], none, []⟩ := by
  have h0 : evFn (cxS F tyl [(66, c_spec_l07Is F), (67, c_spec_l07Size F), (68, c_spec_l07Count F), (76, c_spec_l07Orbit F), (77, c_spec_l07Far F)] [] [(0, S_spec_ReturnOf_L0 F)] 0) Try.f40 false [V.agg [A.fl FloatKind.f32 x0, A.fl FloatKind.f32 x1], V.at (A.fl FloatKind.f32 x2), V.at (A.fl FloatKind.f32 x3), V.at (A.int IntKind.i64 x4)] [] = bif Bool.not (Pure.spec_l07Is F x0 x1) then some ⟨V.tup [(false, [A.int IntKind.i64 0]), (false, [A.fl FloatKind.f32 0]), (false, [A.bool false])], none, []⟩ else bif Bool.not (Pure.spec_l07Size F x2) then some ⟨V.tup [(false, [A.int IntKind.i64 0]), (false, [A.fl FloatKind.f32 0]), (false, [A.bool false])], none, []⟩ else bif Bool.not (Pure.spec_l00In F x4 1 128) then some ⟨V.tup [(false, [A.int IntKind.i64 0]), (false, [A.fl FloatKind.f32 0]), (false, [A.bool false])], none, []⟩ else bif Pure.spec_l07Orbit_ok F x0 x1 x2 x4 then bif Prod.fst (Pure.spec_ReturnOf_L0 F x3 x0 x1 (Pure.spec_l07Orbit F x0 x1 x2 x4) (Int.toNat (((Int.ofNat (List.length (Pure.spec_l07Orbit F x0 x1 x2 x4))) - 1) + 1)) 1) then bif Prod.fst (Prod.snd (Pure.spec_ReturnOf_L0 F x3 x0 x1 (Pure.spec_l07Orbit F x0 x1 x2 x4) (Int.toNat (((Int.ofNat (List.length (Pure.spec_l07Orbit F x0 x1 x2 x4))) - 1) + 1)) 1)) then some ⟨V.tup [(false, [A.int IntKind.i64 (Prod.fst (Prod.snd (Prod.snd (Pure.spec_ReturnOf_L0 F x3 x0 x1 (Pure.spec_l07Orbit F x0 x1 x2 x4) (Int.toNat (((Int.ofNat (List.length (Pure.spec_l07Orbit F x0 x1 x2 x4))) - 1) + 1)) 1))))]), (false, [A.fl FloatKind.f32 (Prod.snd (Prod.snd (Prod.snd (Pure.spec_ReturnOf_L0 F x3 x0 x1 (Pure.spec_l07Orbit F x0 x1 x2 x4) (Int.toNat (((Int.ofNat (List.length (Pure.spec_l07Orbit F x0 x1 x2 x4))) - 1) + 1)) 1))))]), (false, [A.bool true])], none, []⟩ else some ⟨V.tup [(false, [A.int IntKind.i64 0]), (false, [A.fl FloatKind.f32 0]), (false, [A.bool false])], none, []⟩ else none else none := by kernel_rfl
  rw [h0]
  unfold Pure.spec_ReturnOf Pure.spec_ReturnOf_1 Pure.spec_ReturnOf_2 Pure.spec_ReturnOf_ok
  cases (Pure.spec_l07Is F x0 x1) with
  | true =>
    cases (Pure.spec_l07Size F x2) with
    | true =>
      cases (Pure.spec_l00In F x4 1 128) with
      | true =>
        cases (Pure.spec_l07Orbit_ok F x0 x1 x2 x4) with
        | true =>
          cases (Prod.fst (Pure.spec_ReturnOf_L0 F x3 x0 x1 (Pure.spec_l07Orbit F x0 x1 x2 x4) (Int.toNat (((Int.ofNat (List.length (Pure.spec_l07Orbit F x0 x1 x2 x4))) - 1) + 1)) 1)) with
          | true =>
            cases (Prod.fst (Prod.snd (Pure.spec_ReturnOf_L0 F x3 x0 x1 (Pure.spec_l07Orbit F x0 x1 x2 x4) (Int.toNat (((Int.ofNat (List.length (Pure.spec_l07Orbit F x0 x1 x2 x4))) - 1) + 1)) 1))) with
            | true =>
              intro _; rfl
            | false =>
              intro _; rfl
          | false =>
            intro h; exact absurd h Bool.false_ne_true
        | false =>
          intro h; exact absurd h Bool.false_ne_true
      | false =>
        intro _; rfl
    | false =>
      intro _; rfl
  | false =>
    intro _; rfl
theorem ok_spec_ReturnOf : CallOK Try.prog 40 (c_spec_ReturnOf real) := by
  refine callOK_of fun args h ret hc => ?_
  unfold c_spec_ReturnOf at hc
  split at hc
  · rename_i x0 x1 x2 x3 x4
    obtain ⟨hok, rfl⟩ := some_ret hc
    exact holds_ev prog_ok (allOK_cons ok_spec_l07Is (allOK_cons ok_spec_l07Size (allOK_cons ok_spec_l07Count (allOK_cons ok_spec_l07Orbit (allOK_cons ok_spec_l07Far allOK_nil))))) Try.func40 rfl rfl (smL_cons (body := .loop (loopB 0 (codeOf Try.f40))) (by kernel_rfl) t_spec_ReturnOf_L0 smL_nil) rfl (e_spec_ReturnOf real x0 x1 x2 x3 x4 hok)
  · cases hc
def Pure.impl_State_orbit_L0 (F : FOps) (y0 : Int) (y1 : Int) : Nat → Int → Int → Int → (List (List Int)) → (Bool × (List (List Int)))
  | 0, _, _, _, _ => (false, [])
  | n + 1, y2, y3, y4, y5 => bif (Decidable.decide (y2 < y1)) then (bif (Pure.impl_State_mapped_ok F y3 y4 y0) then (bif (Decidable.decide ((Nat.succ (List.length y5)) ≤ 1073741824)) then (Pure.impl_State_orbit_L0 F y0 y1 n (IntKind.wrap IntKind.i64 (y2 + 1)) (Pure.impl_State_damped F y3 y4 y0 1065353216) (Pure.impl_State_damped_1 F y3 y4 y0 1065353216) (y5 ++ [[Pure.impl_State_damped F y3 y4 y0 1065353216, Pure.impl_State_damped_1 F y3 y4 y0 1065353216]])) else ((false, []))) else ((false, []))) else ((true, y5))
def R_impl_State_orbit_L0 (r : (Bool × (List (List Int)))) : Bool × Bool × (Ex × List V × List Ob) × (Ex × List V × List Ob) := ((r).1, false, (Ex.normal, [V.at (A.sl 0)], [⟨true, OC.rows [K.f FloatKind.f32, K.f FloatKind.f32] (r).2⟩]), (Ex.normal, [V.at (A.sl 0)], [⟨true, OC.rows [K.f FloatKind.f32, K.f FloatKind.f32] (r).2⟩]))
def S_impl_State_orbit_L0 (F : FOps) : Sm := ⟨[1, 3, 7, 10, 11], [24, 0, 84, 2, 2], [7], fun vals hp => match vals, hp with
  | [V.at (A.fl FloatKind.f32 y0), V.at (A.ptr 0 0 0), V.at (A.sl 1), V.at (A.int IntKind.i64 y1), V.at (A.int IntKind.i64 y2)], [⟨true, OC.box [A.fl FloatKind.f32 y3, A.fl FloatKind.f32 y4]⟩, ⟨true, OC.rows [K.f FloatKind.f32, K.f FloatKind.f32] y5⟩] => some (R_impl_State_orbit_L0  (Pure.impl_State_orbit_L0 F y0 y1 (y1 - y2 + 1).toNat y2 y3 y4 y5))
  | _, _ => none⟩
theorem l_impl_State_orbit_L0 (F : FOps) (y0 : Int) (y1 : Int) : ∀ (fuel : Nat) (y2 : Int) (y3 : Int) (y4 : Int) (y5 : List (List Int)), (Pure.impl_State_orbit_L0 F y0 y1 fuel y2 y3 y4 y5).1 = true → loopOf (cxS F tyl [(85, c_impl_State_mapped F)] [] [] 0) 0 22 0 [1, 3, 7, 10, 11] [24, 0, 84, 2, 2] [7] (loopB 0 (codeOf Try.f78)) fuel [V.at (A.fl FloatKind.f32 y0), V.at (A.ptr 0 0 0), V.at (A.sl 1), V.at (A.int IntKind.i64 y1), V.at (A.int IntKind.i64 y2)] [⟨true, OC.box [A.fl FloatKind.f32 y3, A.fl FloatKind.f32 y4]⟩, ⟨true, OC.rows [K.f FloatKind.f32, K.f FloatKind.f32] y5⟩] = resOf (R_impl_State_orbit_L0  (Pure.impl_State_orbit_L0 F y0 y1 fuel y2 y3 y4 y5)) := by
  intro fuel
  induction fuel with
  | zero => intro y2 y3 y4 y5 h; exact absurd h Bool.false_ne_true
  | succ n ih =>
    intro y2 y3 y4 y5
    have h0 : roundOf (cxS F tyl [(85, c_impl_State_mapped F)] [] [] 0) 0 22 0 [1, 3, 7, 10, 11] [24, 0, 84, 2, 2] [7] (loopB 0 (codeOf Try.f78)) [V.at (A.fl FloatKind.f32 y0), V.at (A.ptr 0 0 0), V.at (A.sl 1), V.at (A.int IntKind.i64 y1), V.at (A.int IntKind.i64 y2)] [⟨true, OC.box [A.fl FloatKind.f32 y3, A.fl FloatKind.f32 y4]⟩, ⟨true, OC.rows [K.f FloatKind.f32, K.f FloatKind.f32] y5⟩] = (bif Decidable.decide (y2 < y1) then bif Pure.impl_State_mapped_ok F y3 y4 y0 then bif Decidable.decide ((Nat.succ (List.length y5)) ≤ 1073741824) then some (true, (Ex.normal, ([V.at (A.fl FloatKind.f32 y0), V.at (A.ptr 0 0 0), V.at (A.sl 1), V.at (A.int IntKind.i64 y1), V.at (A.int IntKind.i64 (IntKind.wrap IntKind.i64 (y2 + 1)))], [⟨true, OC.box [A.fl FloatKind.f32 (Pure.impl_State_damped F y3 y4 y0 1065353216), A.fl FloatKind.f32 (Pure.impl_State_damped_1 F y3 y4 y0 1065353216)]⟩, ⟨true, OC.rows [K.f FloatKind.f32, K.f FloatKind.f32] (y5 ++ [[Pure.impl_State_damped F y3 y4 y0 1065353216, Pure.impl_State_damped_1 F y3 y4 y0 1065353216]])⟩]))) else none else none else some (false, (Ex.normal, ([V.at (A.sl 0)], [⟨true, OC.rows [K.f FloatKind.f32, K.f FloatKind.f32] y5⟩])))) := by kernel_rfl
    unfold loopOf
    rw [h0]
    unfold Pure.impl_State_orbit_L0
    cases (Decidable.decide (y2 < y1)) with
    | true =>
      cases (Pure.impl_State_mapped_ok F y3 y4 y0) with
      | true =>
        cases (Decidable.decide ((Nat.succ (List.length y5)) ≤ 1073741824)) with
        | true =>
          exact ih _ _ _ _
        | false =>
          intro h; exact absurd h Bool.false_ne_true
      | false =>
        intro h; exact absurd h Bool.false_ne_true
    | false =>
      intro _; rfl
theorem t_impl_State_orbit_L0 : SmTo Try.prog 0 22 (S_impl_State_orbit_L0 real) 0 (.loop (loopB 0 (codeOf Try.f78))) := by
  refine smTo_ev (cl := [(85, c_impl_State_mapped real)]) (ef := []) (sm := []) (un := 0) prog_ok (allOK_cons ok_impl_State_mapped allOK_nil) smL_nil ?_
  intro vals hp q r h hq
  unfold S_impl_State_orbit_L0 at h
  dsimp only at h
  split at h
  · rename_i y0 y1 y2 y3 y4 y5
    obtain rfl := Option.some.inj h
    have h1 := hq
    unfold resOf at h1
    rw [chk_some] at h1
    exact ⟨_, (l_impl_State_orbit_L0 real y0 y1 _ y2 y3 y4 y5 h1.1).trans hq⟩
  · cases h
def Pure.impl_State_orbit (F : FOps) (x0 : Int) (x1 : Int) (x2 : Int) (x3 : Int) : List (List Int) := Prod.snd (Pure.impl_State_orbit_L0 F x2 x3 (Int.toNat ((x3 - 0) + 1)) 0 x0 x1 [[x0, x1]])
def Pure.impl_State_orbit_ok (F : FOps) (x0 : Int) (x1 : Int) (x2 : Int) (x3 : Int) : Bool := Prod.fst (Pure.impl_State_orbit_L0 F x2 x3 (Int.toNat ((x3 - 0) + 1)) 0 x0 x1 [[x0, x1]])
def c_impl_State_orbit (F : FOps) : Con
  | [V.agg [A.fl FloatKind.f32 x0, A.fl FloatKind.f32 x1], V.at (A.fl FloatKind.f32 x2), V.at (A.int IntKind.i64 x3)], [] => some (Pure.impl_State_orbit_ok F x0 x1 x2 x3, ⟨V.at (A.sl 0), none, [⟨true, OC.rows [K.f FloatKind.f32, K.f FloatKind.f32] (Pure.impl_State_orbit F x0 x1 x2 x3)⟩]⟩)
  | _, _ => none
theorem e_impl_State_orbit (F : FOps) (x0 : Int) (x1 : Int) (x2 : Int) (x3 : Int) : Pure.impl_State_orbit_ok F x0 x1 x2 x3 = true → evFn (cxS F tyl [(85, c_impl_State_mapped F)] [] [(0, S_impl_State_orbit_L0 F)] 0) Try.f78 false [V.agg [A.fl FloatKind.f32 x0, A.fl FloatKind.f32 x1], V.at (A.fl FloatKind.f32 x2), V.at (A.int IntKind.i64 x3)] [] = some ⟨V.at (A.sl 0), none, [⟨true, OC.rows [K.f FloatKind.f32, K.f FloatKind.f32] (Pure.impl_State_orbit F x0 x1 x2 x3)⟩]⟩ := by
  have h0 : evFn (cxS F tyl [(85, c_impl_State_mapped F)] [] [(0, S_impl_State_orbit_L0 F)] 0) Try.f78 false [V.agg [A.fl FloatKind.f32 x0, A.fl FloatKind.f32 x1], V.at (A.fl FloatKind.f32 x2), V.at (A.int IntKind.i64 x3)] [] = bif Prod.fst (Pure.impl_State_orbit_L0 F x2 x3 (Int.toNat ((x3 - 0) + 1)) 0 x0 x1 [[x0, x1]]) then some ⟨V.at (A.sl 0), none, [⟨true, OC.rows [K.f FloatKind.f32, K.f FloatKind.f32] (Prod.snd (Pure.impl_State_orbit_L0 F x2 x3 (Int.toNat ((x3 - 0) + 1)) 0 x0 x1 [[x0, x1]]))⟩]⟩ else none := by kernel_rfl
  rw [h0]
  unfold Pure.impl_State_orbit Pure.impl_State_orbit_ok
  cases (Prod.fst (Pure.impl_State_orbit_L0 F x2 x3 (Int.toNat ((x3 - 0) + 1)) 0 x0 x1 [[x0, x1]])) with
  | true =>
    intro _; rfl
  | false =>
    intro h; exact absurd h Bool.false_ne_true
theorem ok_impl_State_orbit : CallOK Try.prog 78 (c_impl_State_orbit real) := by
  refine callOK_of fun args h ret hc => ?_
  unfold c_impl_State_orbit at hc
  split at hc
  · rename_i x0 x1 x2 x3
    obtain ⟨hok, rfl⟩ := some_ret hc
    exact holds_ev prog_ok (allOK_cons ok_impl_State_mapped allOK_nil) Try.func78 rfl rfl (smL_cons (body := .loop (loopB 0 (codeOf Try.f78))) (by kernel_rfl) t_impl_State_orbit_L0 smL_nil) rfl (e_impl_State_orbit real x0 x1 x2 x3 hok)
  · cases hc
def Pure.impl_apart (F : FOps) (x0 : Int) (x1 : Int) : Int := bif FOps.cmp F BinOp.gtr FloatKind.f32 (FOps.bin F BinOp.sub FloatKind.f32 (Pure.impl_WrapTurn F x1) (Pure.impl_WrapTurn F x0)) 1056964608 then FOps.bin F BinOp.sub FloatKind.f32 (FOps.bin F BinOp.sub FloatKind.f32 (Pure.impl_WrapTurn F x1) (Pure.impl_WrapTurn F x0)) 1065353216 else bif FOps.cmp F BinOp.leq FloatKind.f32 (FOps.bin F BinOp.sub FloatKind.f32 (Pure.impl_WrapTurn F x1) (Pure.impl_WrapTurn F x0)) 3204448256 then FOps.bin F BinOp.add FloatKind.f32 (FOps.bin F BinOp.sub FloatKind.f32 (Pure.impl_WrapTurn F x1) (Pure.impl_WrapTurn F x0)) 1065353216 else FOps.bin F BinOp.sub FloatKind.f32 (Pure.impl_WrapTurn F x1) (Pure.impl_WrapTurn F x0)
def Pure.impl_apart_ok (F : FOps) (x0 : Int) (x1 : Int) : Bool := bif Pure.impl_wrapped_ok F x1 then Pure.impl_wrapped_ok F x0 else false
def c_impl_apart (F : FOps) : Con
  | [V.at (A.fl FloatKind.f32 x0), V.at (A.fl FloatKind.f32 x1)], [] => some (Pure.impl_apart_ok F x0 x1, ⟨V.at (A.fl FloatKind.f32 (Pure.impl_apart F x0 x1)), none, []⟩)
  | _, _ => none
theorem e_impl_apart (F : FOps) (x0 : Int) (x1 : Int) : Pure.impl_apart_ok F x0 x1 = true → evFn (cxS F tyl [(94, c_impl_wrapped F)] [] [] 0) Try.f50 false [V.at (A.fl FloatKind.f32 x0), V.at (A.fl FloatKind.f32 x1)] [] = some ⟨V.at (A.fl FloatKind.f32 (Pure.impl_apart F x0 x1)), none, []⟩ := by
  have h0 : evFn (cxS F tyl [(94, c_impl_wrapped F)] [] [] 0) Try.f50 false [V.at (A.fl FloatKind.f32 x0), V.at (A.fl FloatKind.f32 x1)] [] = bif Pure.impl_wrapped_ok F x1 then bif Pure.impl_wrapped_ok F x0 then bif FOps.cmp F BinOp.gtr FloatKind.f32 (FOps.bin F BinOp.sub FloatKind.f32 (Pure.impl_WrapTurn F x1) (Pure.impl_WrapTurn F x0)) 1056964608 then some ⟨V.at (A.fl FloatKind.f32 (FOps.bin F BinOp.sub FloatKind.f32 (FOps.bin F BinOp.sub FloatKind.f32 (Pure.impl_WrapTurn F x1) (Pure.impl_WrapTurn F x0)) 1065353216)), none, []⟩ else bif FOps.cmp F BinOp.leq FloatKind.f32 (FOps.bin F BinOp.sub FloatKind.f32 (Pure.impl_WrapTurn F x1) (Pure.impl_WrapTurn F x0)) 3204448256 then some ⟨V.at (A.fl FloatKind.f32 (FOps.bin F BinOp.add FloatKind.f32 (FOps.bin F BinOp.sub FloatKind.f32 (Pure.impl_WrapTurn F x1) (Pure.impl_WrapTurn F x0)) 1065353216)), none, []⟩ else some ⟨V.at (A.fl FloatKind.f32 (FOps.bin F BinOp.sub FloatKind.f32 (Pure.impl_WrapTurn F x1) (Pure.impl_WrapTurn F x0))), none, []⟩ else none else none := by kernel_rfl
  rw [h0]
  unfold Pure.impl_apart Pure.impl_apart_ok
  cases (Pure.impl_wrapped_ok F x1) with
  | true =>
    cases (Pure.impl_wrapped_ok F x0) with
    | true =>
      cases (FOps.cmp F BinOp.gtr FloatKind.f32 (FOps.bin F BinOp.sub FloatKind.f32 (Pure.impl_WrapTurn F x1) (Pure.impl_WrapTurn F x0)) 1056964608) with
      | true =>
        intro _; rfl
      | false =>
        cases (FOps.cmp F BinOp.leq FloatKind.f32 (FOps.bin F BinOp.sub FloatKind.f32 (Pure.impl_WrapTurn F x1) (Pure.impl_WrapTurn F x0)) 3204448256) with
        | true =>
          intro _; rfl
        | false =>
          intro _; rfl
    | false =>
      intro h; exact absurd h Bool.false_ne_true
  | false =>
    intro h; exact absurd h Bool.false_ne_true
theorem ok_impl_apart : CallOK Try.prog 50 (c_impl_apart real) := by
  refine callOK_of fun args h ret hc => ?_
  unfold c_impl_apart at hc
  split at hc
  · rename_i x0 x1
    obtain ⟨hok, rfl⟩ := some_ret hc
    exact holds_ev prog_ok (allOK_cons ok_impl_wrapped allOK_nil) Try.func50 rfl rfl smL_nil rfl (e_impl_apart real x0 x1 hok)
  · cases hc
def Pure.impl_RootNumber (F : FOps) (x0 : Int) : Int := FOps.conv F FloatKind.f64 FloatKind.f32 (FOps.sqrt F (FOps.conv F FloatKind.f32 FloatKind.f64 x0))
def Pure.impl_RootNumber_ok (F : FOps) (x0 : Int) : Bool := bif FOps.convOk F FloatKind.f32 FloatKind.f64 x0 then FOps.convOk F FloatKind.f64 FloatKind.f32 (FOps.sqrt F (FOps.conv F FloatKind.f32 FloatKind.f64 x0)) else false
def c_impl_RootNumber (F : FOps) : Con
  | [V.at (A.fl FloatKind.f32 x0)], [] => some (Pure.impl_RootNumber_ok F x0, ⟨V.at (A.fl FloatKind.f32 (Pure.impl_RootNumber F x0)), none, []⟩)
  | _, _ => none
theorem e_impl_RootNumber (F : FOps) (x0 : Int) : Pure.impl_RootNumber_ok F x0 = true → evFn (cxS F tyl [(114, c_math_Sqrt F)] [] [] 0) Try.f83 false [V.at (A.fl FloatKind.f32 x0)] [] = some ⟨V.at (A.fl FloatKind.f32 (Pure.impl_RootNumber F x0)), none, []⟩ := by
  have h0 : evFn (cxS F tyl [(114, c_math_Sqrt F)] [] [] 0) Try.f83 false [V.at (A.fl FloatKind.f32 x0)] [] = bif FOps.convOk F FloatKind.f32 FloatKind.f64 x0 then bif FOps.convOk F FloatKind.f64 FloatKind.f32 (FOps.sqrt F (FOps.conv F FloatKind.f32 FloatKind.f64 x0)) then some ⟨V.at (A.fl FloatKind.f32 (FOps.conv F FloatKind.f64 FloatKind.f32 (FOps.sqrt F (FOps.conv F FloatKind.f32 FloatKind.f64 x0)))), none, []⟩ else none else none := by kernel_rfl
  rw [h0]
  unfold Pure.impl_RootNumber Pure.impl_RootNumber_ok
  cases (FOps.convOk F FloatKind.f32 FloatKind.f64 x0) with
  | true =>
    cases (FOps.convOk F FloatKind.f64 FloatKind.f32 (FOps.sqrt F (FOps.conv F FloatKind.f32 FloatKind.f64 x0))) with
    | true =>
      intro _; rfl
    | false =>
      intro h; exact absurd h Bool.false_ne_true
  | false =>
    intro h; exact absurd h Bool.false_ne_true
theorem ok_impl_RootNumber : CallOK Try.prog 83 (c_impl_RootNumber real) := by
  refine callOK_of fun args h ret hc => ?_
  unfold c_impl_RootNumber at hc
  split at hc
  · rename_i x0
    obtain ⟨hok, rfl⟩ := some_ret hc
    exact holds_ev prog_ok (allOK_cons ok_math_Sqrt allOK_nil) Try.func83 rfl rfl smL_nil rfl (e_impl_RootNumber real x0 hok)
  · cases hc
def Pure.impl_State_far (F : FOps) (x0 : Int) (x1 : Int) (x2 : Int) (x3 : Int) : Int := Pure.impl_RootNumber F (FOps.bin F BinOp.add FloatKind.f32 (FOps.bin F BinOp.mul FloatKind.f32 (Pure.impl_apart F x0 x2) (Pure.impl_apart F x0 x2)) (FOps.bin F BinOp.mul FloatKind.f32 (Pure.impl_apart F x1 x3) (Pure.impl_apart F x1 x3)))
def Pure.impl_State_far_ok (F : FOps) (x0 : Int) (x1 : Int) (x2 : Int) (x3 : Int) : Bool := bif Pure.impl_apart_ok F x0 x2 then bif Pure.impl_apart_ok F x1 x3 then Pure.impl_RootNumber_ok F (FOps.bin F BinOp.add FloatKind.f32 (FOps.bin F BinOp.mul FloatKind.f32 (Pure.impl_apart F x0 x2) (Pure.impl_apart F x0 x2)) (FOps.bin F BinOp.mul FloatKind.f32 (Pure.impl_apart F x1 x3) (Pure.impl_apart F x1 x3))) else false else false
def c_impl_State_far (F : FOps) : Con
  | [V.agg [A.fl FloatKind.f32 x0, A.fl FloatKind.f32 x1], V.agg [A.fl FloatKind.f32 x2, A.fl FloatKind.f32 x3]], [] => some (Pure.impl_State_far_ok F x0 x1 x2 x3, ⟨V.at (A.fl FloatKind.f32 (Pure.impl_State_far F x0 x1 x2 x3)), none, []⟩)
  | _, _ => none
theorem e_impl_State_far (F : FOps) (x0 : Int) (x1 : Int) (x2 : Int) (x3 : Int) : Pure.impl_State_far_ok F x0 x1 x2 x3 = true → evFn (cxS F tyl [(50, c_impl_apart F), (83, c_impl_RootNumber F)] [] [] 0) Try.f79 false [V.agg [A.fl FloatKind.f32 x0, A.fl FloatKind.f32 x1], V.agg [A.fl FloatKind.f32 x2, A.fl FloatKind.f32 x3]] [] = some ⟨V.at (A.fl FloatKind.f32 (Pure.impl_State_far F x0 x1 x2 x3)), none, []⟩ := by
  have h0 : evFn (cxS F tyl [(50, c_impl_apart F), (83, c_impl_RootNumber F)] [] [] 0) Try.f79 false [V.agg [A.fl FloatKind.f32 x0, A.fl FloatKind.f32 x1], V.agg [A.fl FloatKind.f32 x2, A.fl FloatKind.f32 x3]] [] = bif Pure.impl_apart_ok F x0 x2 then bif Pure.impl_apart_ok F x1 x3 then bif Pure.impl_RootNumber_ok F (FOps.bin F BinOp.add FloatKind.f32 (FOps.bin F BinOp.mul FloatKind.f32 (Pure.impl_apart F x0 x2) (Pure.impl_apart F x0 x2)) (FOps.bin F BinOp.mul FloatKind.f32 (Pure.impl_apart F x1 x3) (Pure.impl_apart F x1 x3))) then some ⟨V.at (A.fl FloatKind.f32 (Pure.impl_RootNumber F (FOps.bin F BinOp.add FloatKind.f32 (FOps.bin F BinOp.mul FloatKind.f32 (Pure.impl_apart F x0 x2) (Pure.impl_apart F x0 x2)) (FOps.bin F BinOp.mul FloatKind.f32 (Pure.impl_apart F x1 x3) (Pure.impl_apart F x1 x3))))), none, []⟩ else none else none else none := by kernel_rfl
  rw [h0]
  unfold Pure.impl_State_far Pure.impl_State_far_ok
  cases (Pure.impl_apart_ok F x0 x2) with
  | true =>
    cases (Pure.impl_apart_ok F x1 x3) with
    | true =>
      cases (Pure.impl_RootNumber_ok F (FOps.bin F BinOp.add FloatKind.f32 (FOps.bin F BinOp.mul FloatKind.f32 (Pure.impl_apart F x0 x2) (Pure.impl_apart F x0 x2)) (FOps.bin F BinOp.mul FloatKind.f32 (Pure.impl_apart F x1 x3) (Pure.impl_apart F x1 x3)))) with
      | true =>
        intro _; rfl
      | false =>
        intro h; exact absurd h Bool.false_ne_true
    | false =>
      intro h; exact absurd h Bool.false_ne_true
  | false =>
    intro h; exact absurd h Bool.false_ne_true
theorem ok_impl_State_far : CallOK Try.prog 79 (c_impl_State_far real) := by
  refine callOK_of fun args h ret hc => ?_
  unfold c_impl_State_far at hc
  split at hc
  · rename_i x0 x1 x2 x3
    obtain ⟨hok, rfl⟩ := some_ret hc
    exact holds_ev prog_ok (allOK_cons ok_impl_apart (allOK_cons ok_impl_RootNumber allOK_nil)) Try.func79 rfl rfl smL_nil rfl (e_impl_State_far real x0 x1 x2 x3 hok)
  · cases hc
def Pure.impl_ReturnOf_L0 (F : FOps) (y0 : Int) (y1 : Int) (y3 : Int) (y4 : Int) (y5 : List (List Int)) : Nat → Int → (Bool × Bool × Int × Int)
  | 0, _ => (false, false, 0, 0)
  | n + 1, y2 => bif (Decidable.decide (y2 < y1)) then (bif (Decidable.decide (0 ≤ y2)) then (bif (Decidable.decide (y2 < (Int.ofNat (List.length y5)))) then (bif (Pure.impl_State_far_ok F y3 y4 (List.getD (List.getD y5 (Int.toNat y2) []) 0 0) (List.getD (List.getD y5 (Int.toNat y2) []) 1 0)) then (bif (Decidable.decide (y2 > 0)) then (bif (FOps.cmp F BinOp.leq FloatKind.f32 (Pure.impl_State_far F y3 y4 (List.getD (List.getD y5 (Int.toNat y2) []) 0 0) (List.getD (List.getD y5 (Int.toNat y2) []) 1 0)) y0) then ((true, true, y2, Pure.impl_State_far F y3 y4 (List.getD (List.getD y5 (Int.toNat y2) []) 0 0) (List.getD (List.getD y5 (Int.toNat y2) []) 1 0))) else (Pure.impl_ReturnOf_L0 F y0 y1 y3 y4 y5 n (IntKind.wrap IntKind.i64 (y2 + 1)))) else (Pure.impl_ReturnOf_L0 F y0 y1 y3 y4 y5 n (IntKind.wrap IntKind.i64 (y2 + 1)))) else ((false, false, 0, 0))) else ((false, false, 0, 0))) else ((false, false, 0, 0))) else ((true, false, 0, 0))
def R_impl_ReturnOf_L0 (r : (Bool × Bool × Int × Int)) : Bool × Bool × (Ex × List V × List Ob) × (Ex × List V × List Ob) := ((r).1, (r).2.1, (Ex.normal, [V.at A.undef, V.at A.undef, V.at A.undef], []), (Ex.ret, [V.at (A.int IntKind.i64 (r).2.2.1), V.at (A.fl FloatKind.f32 (r).2.2.2), V.at (A.bool true)], []))
def S_impl_ReturnOf_L0 (F : FOps) : Sm := ⟨[2, 4, 26, 27, 28], [24, 0, 84, 3, 3], [8, 9, 10], fun vals hp => match vals, hp with
  | [V.at (A.fl FloatKind.f32 y0), V.at (A.ptr 0 0 0), V.at (A.sl 1), V.at (A.int IntKind.i64 y1), V.at (A.int IntKind.i64 y2)], [⟨true, OC.box [A.fl FloatKind.f32 y3, A.fl FloatKind.f32 y4]⟩, ⟨true, OC.rows [K.f FloatKind.f32, K.f FloatKind.f32] y5⟩] => some (R_impl_ReturnOf_L0  (Pure.impl_ReturnOf_L0 F y0 y1 y3 y4 y5 (y1 - y2 + 1).toNat y2))
  | _, _ => none⟩
theorem l_impl_ReturnOf_L0 (F : FOps) (y0 : Int) (y1 : Int) (y3 : Int) (y4 : Int) (y5 : List (List Int)) : ∀ (fuel : Nat) (y2 : Int), (Pure.impl_ReturnOf_L0 F y0 y1 y3 y4 y5 fuel y2).1 = true → loopOf (cxS F tyl [(71, c_impl_stateOk F), (51, c_impl_in F), (78, c_impl_State_orbit F), (79, c_impl_State_far F)] [] [] 0) 0 46 0 [2, 4, 26, 27, 28] [24, 0, 84, 3, 3] [8, 9, 10] (loopB 0 (codeOf Try.f41)) fuel [V.at (A.fl FloatKind.f32 y0), V.at (A.ptr 0 0 0), V.at (A.sl 1), V.at (A.int IntKind.i64 y1), V.at (A.int IntKind.i64 y2)] [⟨true, OC.box [A.fl FloatKind.f32 y3, A.fl FloatKind.f32 y4]⟩, ⟨true, OC.rows [K.f FloatKind.f32, K.f FloatKind.f32] y5⟩] = resOf (R_impl_ReturnOf_L0  (Pure.impl_ReturnOf_L0 F y0 y1 y3 y4 y5 fuel y2)) := by
  intro fuel
  induction fuel with
  | zero => intro y2 h; exact absurd h Bool.false_ne_true
  | succ n ih =>
    intro y2
    have h0 : roundOf (cxS F tyl [(71, c_impl_stateOk F), (51, c_impl_in F), (78, c_impl_State_orbit F), (79, c_impl_State_far F)] [] [] 0) 0 46 0 [2, 4, 26, 27, 28] [24, 0, 84, 3, 3] [8, 9, 10] (loopB 0 (codeOf Try.f41)) [V.at (A.fl FloatKind.f32 y0), V.at (A.ptr 0 0 0), V.at (A.sl 1), V.at (A.int IntKind.i64 y1), V.at (A.int IntKind.i64 y2)] [⟨true, OC.box [A.fl FloatKind.f32 y3, A.fl FloatKind.f32 y4]⟩, ⟨true, OC.rows [K.f FloatKind.f32, K.f FloatKind.f32] y5⟩] = (bif Decidable.decide (y2 < y1) then bif Decidable.decide (0 ≤ y2) then bif Decidable.decide (y2 < (Int.ofNat (List.length y5))) then bif Pure.impl_State_far_ok F y3 y4 (List.getD (List.getD y5 (Int.toNat y2) []) 0 0) (List.getD (List.getD y5 (Int.toNat y2) []) 1 0) then bif Decidable.decide (y2 > 0) then bif FOps.cmp F BinOp.leq FloatKind.f32 (Pure.impl_State_far F y3 y4 (List.getD (List.getD y5 (Int.toNat y2) []) 0 0) (List.getD (List.getD y5 (Int.toNat y2) []) 1 0)) y0 then some (false, (Ex.ret, ([V.at (A.int IntKind.i64 y2), V.at (A.fl FloatKind.f32 (Pure.impl_State_far F y3 y4 (List.getD (List.getD y5 (Int.toNat y2) []) 0 0) (List.getD (List.getD y5 (Int.toNat y2) []) 1 0))), V.at (A.bool true)], []))) else some (true, (Ex.normal, ([V.at (A.fl FloatKind.f32 y0), V.at (A.ptr 0 0 0), V.at (A.sl 1), V.at (A.int IntKind.i64 y1), V.at (A.int IntKind.i64 (IntKind.wrap IntKind.i64 (y2 + 1)))], [⟨true, OC.box [A.fl FloatKind.f32 y3, A.fl FloatKind.f32 y4]⟩, ⟨true, OC.rows [K.f FloatKind.f32, K.f FloatKind.f32] y5⟩]))) else some (true, (Ex.normal, ([V.at (A.fl FloatKind.f32 y0), V.at (A.ptr 0 0 0), V.at (A.sl 1), V.at (A.int IntKind.i64 y1), V.at (A.int IntKind.i64 (IntKind.wrap IntKind.i64 (y2 + 1)))], [⟨true, OC.box [A.fl FloatKind.f32 y3, A.fl FloatKind.f32 y4]⟩, ⟨true, OC.rows [K.f FloatKind.f32, K.f FloatKind.f32] y5⟩]))) else none else none else none else some (false, (Ex.normal, ([V.at A.undef, V.at A.undef, V.at A.undef], [])))) := by kernel_rfl
    unfold loopOf
    rw [h0]
    unfold Pure.impl_ReturnOf_L0
    cases (Decidable.decide (y2 < y1)) with
    | true =>
      cases (Decidable.decide (0 ≤ y2)) with
      | true =>
        cases (Decidable.decide (y2 < (Int.ofNat (List.length y5)))) with
        | true =>
          cases (Pure.impl_State_far_ok F y3 y4 (List.getD (List.getD y5 (Int.toNat y2) []) 0 0) (List.getD (List.getD y5 (Int.toNat y2) []) 1 0)) with
          | true =>
            cases (Decidable.decide (y2 > 0)) with
            | true =>
              cases (FOps.cmp F BinOp.leq FloatKind.f32 (Pure.impl_State_far F y3 y4 (List.getD (List.getD y5 (Int.toNat y2) []) 0 0) (List.getD (List.getD y5 (Int.toNat y2) []) 1 0)) y0) with
              | true =>
                intro _; rfl
              | false =>
                exact ih _
            | false =>
              exact ih _
          | false =>
            intro h; exact absurd h Bool.false_ne_true
        | false =>
          intro h; exact absurd h Bool.false_ne_true
      | false =>
        intro h; exact absurd h Bool.false_ne_true
    | false =>
      intro _; rfl
theorem t_impl_ReturnOf_L0 : SmTo Try.prog 0 46 (S_impl_ReturnOf_L0 real) 0 (.loop (loopB 0 (codeOf Try.f41))) := by
  refine smTo_ev (cl := [(71, c_impl_stateOk real), (51, c_impl_in real), (78, c_impl_State_orbit real), (79, c_impl_State_far real)]) (ef := []) (sm := []) (un := 0) prog_ok (allOK_cons ok_impl_stateOk (allOK_cons ok_impl_in (allOK_cons ok_impl_State_orbit (allOK_cons ok_impl_State_far allOK_nil)))) smL_nil ?_
  intro vals hp q r h hq
  unfold S_impl_ReturnOf_L0 at h
  dsimp only at h
  split at h
  · rename_i y0 y1 y2 y3 y4 y5
    obtain rfl := Option.some.inj h
    have h1 := hq
    unfold resOf at h1
    rw [chk_some] at h1
    exact ⟨_, (l_impl_ReturnOf_L0 real y0 y1 y3 y4 y5 _ y2 h1.1).trans hq⟩
  · cases h
def Pure.impl_ReturnOf (F : FOps) (x0 : Int) (x1 : Int) (x2 : Int) (x3 : Int) (x4 : Int) : Int := bif Pure.impl_stateOk F x0 x1 x2 then bif Pure.impl_in F x4 1 128 then bif Prod.fst (Prod.snd (Pure.impl_ReturnOf_L0 F x3 (Int.ofNat (List.length (Pure.impl_State_orbit F x0 x1 x2 x4))) x0 x1 (Pure.impl_State_orbit F x0 x1 x2 x4) (Nat.succ ((List.length (Pure.impl_State_orbit F x0 x1 x2 x4)) + 0)) 0)) then Prod.fst (Prod.snd (Prod.snd (Pure.impl_ReturnOf_L0 F x3 (Int.ofNat (List.length (Pure.impl_State_orbit F x0 x1 x2 x4))) x0 x1 (Pure.impl_State_orbit F x0 x1 x2 x4) (Nat.succ ((List.length (Pure.impl_State_orbit F x0 x1 x2 x4)) + 0)) 0))) else 0 else 0 else 0
def Pure.impl_ReturnOf_1 (F : FOps) (x0 : Int) (x1 : Int) (x2 : Int) (x3 : Int) (x4 : Int) : Int := bif Pure.impl_stateOk F x0 x1 x2 then bif Pure.impl_in F x4 1 128 then bif Prod.fst (Prod.snd (Pure.impl_ReturnOf_L0 F x3 (Int.ofNat (List.length (Pure.impl_State_orbit F x0 x1 x2 x4))) x0 x1 (Pure.impl_State_orbit F x0 x1 x2 x4) (Nat.succ ((List.length (Pure.impl_State_orbit F x0 x1 x2 x4)) + 0)) 0)) then Prod.snd (Prod.snd (Prod.snd (Pure.impl_ReturnOf_L0 F x3 (Int.ofNat (List.length (Pure.impl_State_orbit F x0 x1 x2 x4))) x0 x1 (Pure.impl_State_orbit F x0 x1 x2 x4) (Nat.succ ((List.length (Pure.impl_State_orbit F x0 x1 x2 x4)) + 0)) 0))) else 0 else 0 else 0
def Pure.impl_ReturnOf_2 (F : FOps) (x0 : Int) (x1 : Int) (x2 : Int) (x3 : Int) (x4 : Int) : Bool := bif Pure.impl_stateOk F x0 x1 x2 then bif Pure.impl_in F x4 1 128 then Prod.fst (Prod.snd (Pure.impl_ReturnOf_L0 F x3 (Int.ofNat (List.length (Pure.impl_State_orbit F x0 x1 x2 x4))) x0 x1 (Pure.impl_State_orbit F x0 x1 x2 x4) (Nat.succ ((List.length (Pure.impl_State_orbit F x0 x1 x2 x4)) + 0)) 0)) else false else false
def Pure.impl_ReturnOf_ok (F : FOps) (x0 : Int) (x1 : Int) (x2 : Int) (x3 : Int) (x4 : Int) : Bool := bif Pure.impl_stateOk F x0 x1 x2 then bif Pure.impl_in F x4 1 128 then bif Pure.impl_State_orbit_ok F x0 x1 x2 x4 then Prod.fst (Pure.impl_ReturnOf_L0 F x3 (Int.ofNat (List.length (Pure.impl_State_orbit F x0 x1 x2 x4))) x0 x1 (Pure.impl_State_orbit F x0 x1 x2 x4) (Nat.succ ((List.length (Pure.impl_State_orbit F x0 x1 x2 x4)) + 0)) 0) else false else true else true
def c_impl_ReturnOf (F : FOps) : Con
  | [V.agg [A.fl FloatKind.f32 x0, A.fl FloatKind.f32 x1], V.at (A.fl FloatKind.f32 x2), V.at (A.fl FloatKind.f32 x3), V.at (A.int IntKind.i64 x4)], [] => some (Pure.impl_ReturnOf_ok F x0 x1 x2 x3 x4, ⟨V.tup [(false, [A.int IntKind.i64 (Pure.impl_ReturnOf F x0 x1 x2 x3 x4)]), (false, [A.fl FloatKind.f32 (Pure.impl_ReturnOf_1 F x0 x1 x2 x3 x4)]), (false, [A.bool (Pure.impl_ReturnOf_2 F x0 x1 x2 x3 x4)])], none, []⟩)
  | _, _ => none
theorem e_impl_ReturnOf (F : FOps) (x0 : Int) (x1 : Int) (x2 : Int) (x3 : Int) (x4 : Int) : Pure.impl_ReturnOf_ok F x0 x1 x2 x3 x4 = true → evFn (cxS F tyl [(71, c_impl_stateOk F), (51, c_impl_in F), (78, c_impl_State_orbit F), (79, c_impl_State_far F)] [] [(0, S_impl_ReturnOf_L0 F)] 0) Try.f41 false [V.agg [A.fl FloatKind.f32 x0, A.fl FloatKind.f32 x1], V.at (A.fl FloatKind.f32 x2), V.at (A.fl FloatKind.f32 x3), V.at (A.int IntKind.i64 x4)] [] = some ⟨V.tup [(false, [A.int IntKind.i64 (Pure.impl_ReturnOf F x0 x1 x2 x3 x4)]), (false, [A.fl FloatKind.f32 (Pure.impl_ReturnOf_1 F x0 x1 x2 x3 x4)]), (false, [A.bool (Pure.impl_ReturnOf_2 F x0 x1 x2 x3 x4)])], none, []⟩ := by
  have h0 : evFn (cxS F tyl [(71, c_impl_stateOk F), (51, c_impl_in F), (78, c_impl_State_orbit F), (79, c_impl_State_far F)] [] [(0, S_impl_ReturnOf_L0 F)] 0) Try.f41 false [V.agg [A.fl FloatKind.f32 x0, A.fl FloatKind.f32 x1], V.at (A.fl FloatKind.f32 x2), V.at (A.fl FloatKind.f32 x3), V.at (A.int IntKind.i64 x4)] [] = bif Bool.not (Pure.impl_stateOk F x0 x1 x2) then some ⟨V.tup [(false, [A.int IntKind.i64 0]), (false, [A.fl FloatKind.f32 0]), (false, [A.bool false])], none, []⟩ else bif Bool.not (Pure.impl_in F x4 1 128) then some ⟨V.tup [(false, [A.int IntKind.i64 0]), (false, [A.fl FloatKind.f32 0]), (false, [A.bool false])], none, []⟩ else bif Pure.impl_State_orbit_ok F x0 x1 x2 x4 then bif Prod.fst (Pure.impl_ReturnOf_L0 F x3 (Int.ofNat (List.length (Pure.impl_State_orbit F x0 x1 x2 x4))) x0 x1 (Pure.impl_State_orbit F x0 x1 x2 x4) (Nat.succ ((List.length (Pure.impl_State_orbit F x0 x1 x2 x4)) + 0)) 0) then bif Prod.fst (Prod.snd (Pure.impl_ReturnOf_L0 F x3 (Int.ofNat (List.length (Pure.impl_State_orbit F x0 x1 x2 x4))) x0 x1 (Pure.impl_State_orbit F x0 x1 x2 x4) (Nat.succ ((List.length (Pure.impl_State_orbit F x0 x1 x2 x4)) + 0)) 0)) then some ⟨V.tup [(false, [A.int IntKind.i64 (Prod.fst (Prod.snd (Prod.snd (Pure.impl_ReturnOf_L0 F x3 (Int.ofNat (List.length (Pure.impl_State_orbit F x0 x1 x2 x4))) x0 x1 (Pure.impl_State_orbit F x0 x1 x2 x4) (Nat.succ ((List.length (Pure.impl_State_orbit F x0 x1 x2 x4)) + 0)) 0))))]), (false, [A.fl FloatKind.f32 (Prod.snd (Prod.snd (Prod.snd (Pure.impl_ReturnOf_L0 F x3 (Int.ofNat (List.length (Pure.impl_State_orbit F x0 x1 x2 x4))) x0 x1 (Pure.impl_State_orbit F x0 x1 x2 x4) (Nat.succ ((List.length (Pure.impl_State_orbit F x0 x1 x2 x4)) + 0)) 0))))]), (false, [A.bool true])], none, []⟩ else some ⟨V.tup [(false, [A.int IntKind.i64 0]), (false, [A.fl FloatKind.f32 0]), (false, [A.bool false])], none, []⟩ else none else none := by kernel_rfl
  rw [h0]
  unfold Pure.impl_ReturnOf Pure.impl_ReturnOf_1 Pure.impl_ReturnOf_2 Pure.impl_ReturnOf_ok
  cases (Pure.impl_stateOk F x0 x1 x2) with
  | true =>
    cases (Pure.impl_in F x4 1 128) with
    | true =>
      cases (Pure.impl_State_orbit_ok F x0 x1 x2 x4) with
      | true =>
        cases (Prod.fst (Pure.impl_ReturnOf_L0 F x3 (Int.ofNat (List.length (Pure.impl_State_orbit F x0 x1 x2 x4))) x0 x1 (Pure.impl_State_orbit F x0 x1 x2 x4) (Nat.succ ((List.length (Pure.impl_State_orbit F x0 x1 x2 x4)) + 0)) 0)) with
        | true =>
          cases (Prod.fst (Prod.snd (Pure.impl_ReturnOf_L0 F x3 (Int.ofNat (List.length (Pure.impl_State_orbit F x0 x1 x2 x4))) x0 x1 (Pure.impl_State_orbit F x0 x1 x2 x4) (Nat.succ ((List.length (Pure.impl_State_orbit F x0 x1 x2 x4)) + 0)) 0))) with
          | true =>
            intro _; rfl
          | false =>
            intro _; rfl
        | false =>
          intro h; exact absurd h Bool.false_ne_true
      | false =>
        intro h; exact absurd h Bool.false_ne_true
    | false =>
      intro _; rfl
  | false =>
    intro _; rfl
theorem ok_impl_ReturnOf : CallOK Try.prog 41 (c_impl_ReturnOf real) := by
  refine callOK_of fun args h ret hc => ?_
  unfold c_impl_ReturnOf at hc
  split at hc
  · rename_i x0 x1 x2 x3 x4
    obtain ⟨hok, rfl⟩ := some_ret hc
    exact holds_ev prog_ok (allOK_cons ok_impl_stateOk (allOK_cons ok_impl_in (allOK_cons ok_impl_State_orbit (allOK_cons ok_impl_State_far allOK_nil)))) Try.func41 rfl rfl (smL_cons (body := .loop (loopB 0 (codeOf Try.f41))) (by kernel_rfl) t_impl_ReturnOf_L0 smL_nil) rfl (e_impl_ReturnOf real x0 x1 x2 x3 x4 hok)
  · cases hc
def Pure.laws_FnExactReturnOf (F : FOps) (x0 : Int) (x1 : Int) (x2 : Int) (x3 : Int) (x4 : Int) : Bool := bif (Pure.impl_ReturnOf F x0 x1 x2 x3 x4) != (Pure.spec_ReturnOf F x0 x1 x2 x3 x4) then false else bif Pure.laws_sameFloat F (FOps.conv F FloatKind.f32 FloatKind.f64 (Pure.impl_ReturnOf_1 F x0 x1 x2 x3 x4)) (FOps.conv F FloatKind.f32 FloatKind.f64 (Pure.spec_ReturnOf_1 F x0 x1 x2 x3 x4)) then (Pure.impl_ReturnOf_2 F x0 x1 x2 x3 x4) == (Pure.spec_ReturnOf_2 F x0 x1 x2 x3 x4) else false
def Pure.laws_FnExactReturnOf_ok (F : FOps) (x0 : Int) (x1 : Int) (x2 : Int) (x3 : Int) (x4 : Int) : Bool := bif Pure.spec_ReturnOf_ok F x0 x1 x2 x3 x4 then bif Pure.impl_ReturnOf_ok F x0 x1 x2 x3 x4 then bif (Pure.impl_ReturnOf F x0 x1 x2 x3 x4) != (Pure.spec_ReturnOf F x0 x1 x2 x3 x4) then true else bif FOps.convOk F FloatKind.f32 FloatKind.f64 (Pure.impl_ReturnOf_1 F x0 x1 x2 x3 x4) then FOps.convOk F FloatKind.f32 FloatKind.f64 (Pure.spec_ReturnOf_1 F x0 x1 x2 x3 x4) else false else false else false
def c_laws_FnExactReturnOf (F : FOps) : Con
  | [V.agg [A.fl FloatKind.f32 x0, A.fl FloatKind.f32 x1], V.at (A.fl FloatKind.f32 x2), V.at (A.fl FloatKind.f32 x3), V.at (A.int IntKind.i64 x4)], [] => some (Pure.laws_FnExactReturnOf_ok F x0 x1 x2 x3 x4, ⟨V.at (A.bool (Pure.laws_FnExactReturnOf F x0 x1 x2 x3 x4)), none, []⟩)
  | _, _ => none
theorem e_laws_FnExactReturnOf (F : FOps) (x0 : Int) (x1 : Int) (x2 : Int) (x3 : Int) (x4 : Int) : Pure.laws_FnExactReturnOf_ok F x0 x1 x2 x3 x4 = true → evFn (cxS F tyl [(31, c_laws_toState F), (40, c_spec_ReturnOf F), (41, c_impl_ReturnOf F), (24, c_laws_sameFloat F)] [] [] 0) Try.f9 false [V.agg [A.fl FloatKind.f32 x0, A.fl FloatKind.f32 x1], V.at (A.fl FloatKind.f32 x2), V.at (A.fl FloatKind.f32 x3), V.at (A.int IntKind.i64 x4)] [] = some ⟨V.at (A.bool (Pure.laws_FnExactReturnOf F x0 x1 x2 x3 x4)), none, []⟩ := by
  have h0 : evFn (cxS F tyl [(31, c_laws_toState F), (40, c_spec_ReturnOf F), (41, c_impl_ReturnOf F), (24, c_laws_sameFloat F)] [] [] 0) Try.f9 false [V.agg [A.fl FloatKind.f32 x0, A.fl FloatKind.f32 x1], V.at (A.fl FloatKind.f32 x2), V.at (A.fl FloatKind.f32 x3), V.at (A.int IntKind.i64 x4)] [] = bif Pure.spec_ReturnOf_ok F x0 x1 x2 x3 x4 then bif Pure.impl_ReturnOf_ok F x0 x1 x2 x3 x4 then bif (Pure.impl_ReturnOf F x0 x1 x2 x3 x4) != (Pure.spec_ReturnOf F x0 x1 x2 x3 x4) then some ⟨V.at (A.bool false), none, []⟩ else bif FOps.convOk F FloatKind.f32 FloatKind.f64 (Pure.impl_ReturnOf_1 F x0 x1 x2 x3 x4) then bif FOps.convOk F FloatKind.f32 FloatKind.f64 (Pure.spec_ReturnOf_1 F x0 x1 x2 x3 x4) then bif Bool.not (Pure.laws_sameFloat F (FOps.conv F FloatKind.f32 FloatKind.f64 (Pure.impl_ReturnOf_1 F x0 x1 x2 x3 x4)) (FOps.conv F FloatKind.f32 FloatKind.f64 (Pure.spec_ReturnOf_1 F x0 x1 x2 x3 x4))) then some ⟨V.at (A.bool false), none, []⟩ else bif Bool.not ((Pure.impl_ReturnOf_2 F x0 x1 x2 x3 x4) == (Pure.spec_ReturnOf_2 F x0 x1 x2 x3 x4)) then some ⟨V.at (A.bool false), none, []⟩ else some ⟨V.at (A.bool true), none, []⟩ else none else none else none else none := by kernel_rfl
  rw [h0]
  unfold Pure.laws_FnExactReturnOf Pure.laws_FnExactReturnOf_ok
  cases (Pure.spec_ReturnOf_ok F x0 x1 x2 x3 x4) with
  | true =>
    cases (Pure.impl_ReturnOf_ok F x0 x1 x2 x3 x4) with
    | true =>
      cases ((Pure.impl_ReturnOf F x0 x1 x2 x3 x4) != (Pure.spec_ReturnOf F x0 x1 x2 x3 x4)) with
      | true =>
        intro _; rfl
      | false =>
        cases (FOps.convOk F FloatKind.f32 FloatKind.f64 (Pure.impl_ReturnOf_1 F x0 x1 x2 x3 x4)) with
        | true =>
          cases (FOps.convOk F FloatKind.f32 FloatKind.f64 (Pure.spec_ReturnOf_1 F x0 x1 x2 x3 x4)) with
          | true =>
            cases (Pure.laws_sameFloat F (FOps.conv F FloatKind.f32 FloatKind.f64 (Pure.impl_ReturnOf_1 F x0 x1 x2 x3 x4)) (FOps.conv F FloatKind.f32 FloatKind.f64 (Pure.spec_ReturnOf_1 F x0 x1 x2 x3 x4))) with
            | true =>
              cases ((Pure.impl_ReturnOf_2 F x0 x1 x2 x3 x4) == (Pure.spec_ReturnOf_2 F x0 x1 x2 x3 x4)) with
              | true =>
                intro _; rfl
              | false =>
                intro _; rfl
            | false =>
              intro _; rfl
          | false =>
            intro h; exact absurd h Bool.false_ne_true
        | false =>
          intro h; exact absurd h Bool.false_ne_true
    | false =>
      intro h; exact absurd h Bool.false_ne_true
  | false =>
    intro h; exact absurd h Bool.false_ne_true
theorem ok_laws_FnExactReturnOf : CallOK Try.prog 9 (c_laws_FnExactReturnOf real) := by
  refine callOK_of fun args h ret hc => ?_
  unfold c_laws_FnExactReturnOf at hc
  split at hc
  · rename_i x0 x1 x2 x3 x4
    obtain ⟨hok, rfl⟩ := some_ret hc
    exact holds_ev prog_ok (allOK_cons ok_laws_toState (allOK_cons ok_spec_ReturnOf (allOK_cons ok_impl_ReturnOf (allOK_cons ok_laws_sameFloat allOK_nil)))) Try.func9 rfl rfl smL_nil rfl (e_laws_FnExactReturnOf real x0 x1 x2 x3 x4 hok)
  · cases hc
end Go.Fx
