import Derived.Test.YtpdeekgbdalnaaaXr5f
import Derived.KernelRfl
namespace Go.Fx
open Go.Proofs
set_option maxRecDepth 100000
def c_math_Float32bits (_ : FOps) : Con
  | [V.at (A.fl FloatKind.f32 x)], [] => some (true, ⟨V.at (A.raw FloatKind.f32 x), none, []⟩)
  | _, _ => none
theorem ok_math_Float32bits : CallOK Try.prog 115 (c_math_Float32bits real) := by
  refine callOK_of fun args h ret hc => ?_
  unfold c_math_Float32bits at hc
  split at hc
  · rename_i x
    obtain ⟨_, rfl⟩ := some_ret hc
    exact ext_bits32 Try.func115 rfl rfl (by kernel_rfl) (by kernel_rfl) x
  · cases hc
def c_math_Float32frombits (_ : FOps) : Con
  | [V.at (A.raw FloatKind.f32 x)], [] => some (true, ⟨V.at (A.fl FloatKind.f32 x), none, []⟩)
  | _, _ => none
theorem ok_math_Float32frombits : CallOK Try.prog 114 (c_math_Float32frombits real) := by
  refine callOK_of fun args h ret hc => ?_
  unfold c_math_Float32frombits at hc
  split at hc
  · rename_i x
    obtain ⟨_, rfl⟩ := some_ret hc
    exact ext_from32 Try.func114 rfl rfl (by kernel_rfl) (by kernel_rfl) x
  · cases hc
def c_impl_abs (F : FOps) : Con
  | [V.at (A.fl FloatKind.f32 x0)], [] => some (true, ⟨V.at (A.fl FloatKind.f32 (FOps.abs F FloatKind.f32 x0)), none, []⟩)
  | _, _ => none
theorem e_impl_abs (F : FOps) (x0 : Int) : evFn (cxS F tyl [(115, c_math_Float32bits F), (114, c_math_Float32frombits F)] [] [] 0) Try.f94 false [V.at (A.fl FloatKind.f32 x0)] [] = some ⟨V.at (A.fl FloatKind.f32 (FOps.abs F FloatKind.f32 x0)), none, []⟩ := by
  kernel_rfl
theorem ok_impl_abs : CallOK Try.prog 94 (c_impl_abs real) := by
  refine callOK_of fun args h ret hc => ?_
  unfold c_impl_abs at hc
  split at hc
  · rename_i x0
    obtain ⟨_, rfl⟩ := some_ret hc
    exact holds_ev prog_ok (allOK_cons ok_math_Float32bits (allOK_cons ok_math_Float32frombits allOK_nil)) Try.func94 rfl rfl smL_nil rfl (e_impl_abs real x0)
  · cases hc
def Pure.spec_SwingsApart_L0 (F : FOps) (y1 : List (List Int)) (y2 : List (List Int)) : Nat → Int → (List (List Int)) → (Bool × Bool × (List (List Int)) × (List (List Int)))
  | 0, _, _ => (false, false, [], [])
  | n + 1, y0, y3 => bif (Decidable.decide (y0 < (Int.ofNat (List.length y1)))) then (bif (Decidable.decide (0 ≤ y0)) then (bif (Decidable.decide (y0 < (Int.ofNat (List.length y1)))) then (bif (Decidable.decide (0 ≤ y0)) then (bif (Decidable.decide (y0 < (Int.ofNat (List.length y2)))) then (bif (FOps.cmp F BinOp.leq FloatKind.f32 (FOps.bin F BinOp.sub FloatKind.f32 (List.getD (List.getD y1 (Int.toNat y0) []) 0 0) (List.getD (List.getD y2 (Int.toNat y0) []) 0 0)) 0) then (bif (Pure.spec_l01Finite F (FOps.bin F BinOp.sub FloatKind.f32 0 (FOps.bin F BinOp.sub FloatKind.f32 (List.getD (List.getD y1 (Int.toNat y0) []) 0 0) (List.getD (List.getD y2 (Int.toNat y0) []) 0 0)))) then (bif (Decidable.decide ((Nat.succ (List.length y3)) ≤ 1073741824)) then (Pure.spec_SwingsApart_L0 F y1 y2 n (IntKind.wrap IntKind.i64 (y0 + 1)) (y3 ++ [[FOps.bin F BinOp.sub FloatKind.f32 0 (FOps.bin F BinOp.sub FloatKind.f32 (List.getD (List.getD y1 (Int.toNat y0) []) 0 0) (List.getD (List.getD y2 (Int.toNat y0) []) 0 0))]])) else ((false, false, [], []))) else ((true, true, [], y3))) else (bif (Pure.spec_l01Finite F (FOps.bin F BinOp.sub FloatKind.f32 (List.getD (List.getD y1 (Int.toNat y0) []) 0 0) (List.getD (List.getD y2 (Int.toNat y0) []) 0 0))) then (bif (Decidable.decide ((Nat.succ (List.length y3)) ≤ 1073741824)) then (Pure.spec_SwingsApart_L0 F y1 y2 n (IntKind.wrap IntKind.i64 (y0 + 1)) (y3 ++ [[FOps.bin F BinOp.sub FloatKind.f32 (List.getD (List.getD y1 (Int.toNat y0) []) 0 0) (List.getD (List.getD y2 (Int.toNat y0) []) 0 0)]])) else ((false, false, [], []))) else ((true, true, [], y3)))) else ((false, false, [], []))) else ((false, false, [], []))) else ((false, false, [], []))) else ((false, false, [], []))) else ((true, false, y3, []))
def R_spec_SwingsApart_L0 (r : (Bool × Bool × (List (List Int)) × (List (List Int)))) : Bool × Bool × (Ex × List V × List Ob) × (Ex × List V × List Ob) := ((r).1, (r).2.1, (Ex.normal, [V.at A.undef, V.at A.undef, V.at (A.sl 0)], [⟨true, OC.rows [K.f FloatKind.f32] (r).2.2.1⟩]), (Ex.ret, [V.at A.nil, V.at (A.bool false), V.at (A.sl 0)], [⟨true, OC.rows [K.f FloatKind.f32] (r).2.2.2⟩]))
def S_spec_SwingsApart_L0 (F : FOps) : Sm := ⟨[13, 16, 18, 19], [63, 63, 63, 3], [10, 11, 18], fun vals hp => match vals, hp with
  | [V.at (A.sl 0), V.at (A.sl 1), V.at (A.sl 2), V.at (A.int IntKind.i64 y0)], [⟨true, OC.rows [K.f FloatKind.f32] y1⟩, ⟨true, OC.rows [K.f FloatKind.f32] y2⟩, ⟨true, OC.rows [K.f FloatKind.f32] y3⟩] => some (R_spec_SwingsApart_L0  (Pure.spec_SwingsApart_L0 F y1 y2 ((Int.ofNat (List.length y1)) - y0 + 1).toNat y0 y3))
  | _, _ => none⟩
theorem l_spec_SwingsApart_L0 (F : FOps) (y1 : List (List Int)) (y2 : List (List Int)) : ∀ (fuel : Nat) (y0 : Int) (y3 : List (List Int)), (Pure.spec_SwingsApart_L0 F y1 y2 fuel y0 y3).1 = true → loopOf (cxS F tyl [(38, c_spec_RunSwing F), (59, c_spec_l01Finite F)] [] [] 0) 0 73 0 [13, 16, 18, 19] [63, 63, 63, 3] [10, 11, 18] (loopB 0 (codeOf Try.f52)) fuel [V.at (A.sl 0), V.at (A.sl 1), V.at (A.sl 2), V.at (A.int IntKind.i64 y0)] [⟨true, OC.rows [K.f FloatKind.f32] y1⟩, ⟨true, OC.rows [K.f FloatKind.f32] y2⟩, ⟨true, OC.rows [K.f FloatKind.f32] y3⟩] = resOf (R_spec_SwingsApart_L0  (Pure.spec_SwingsApart_L0 F y1 y2 fuel y0 y3)) := by
  intro fuel
  induction fuel with
  | zero => intro y0 y3 h; exact absurd h Bool.false_ne_true
  | succ n ih =>
    intro y0 y3
    have h0 : roundOf (cxS F tyl [(38, c_spec_RunSwing F), (59, c_spec_l01Finite F)] [] [] 0) 0 73 0 [13, 16, 18, 19] [63, 63, 63, 3] [10, 11, 18] (loopB 0 (codeOf Try.f52)) [V.at (A.sl 0), V.at (A.sl 1), V.at (A.sl 2), V.at (A.int IntKind.i64 y0)] [⟨true, OC.rows [K.f FloatKind.f32] y1⟩, ⟨true, OC.rows [K.f FloatKind.f32] y2⟩, ⟨true, OC.rows [K.f FloatKind.f32] y3⟩] = (bif Decidable.decide (y0 < (Int.ofNat (List.length y1))) then bif Decidable.decide (0 ≤ y0) then bif Decidable.decide (y0 < (Int.ofNat (List.length y1))) then bif Decidable.decide (0 ≤ y0) then bif Decidable.decide (y0 < (Int.ofNat (List.length y2))) then bif FOps.cmp F BinOp.leq FloatKind.f32 (FOps.bin F BinOp.sub FloatKind.f32 (List.getD (List.getD y1 (Int.toNat y0) []) 0 0) (List.getD (List.getD y2 (Int.toNat y0) []) 0 0)) 0 then bif Bool.not (Pure.spec_l01Finite F (FOps.bin F BinOp.sub FloatKind.f32 0 (FOps.bin F BinOp.sub FloatKind.f32 (List.getD (List.getD y1 (Int.toNat y0) []) 0 0) (List.getD (List.getD y2 (Int.toNat y0) []) 0 0)))) then some (false, (Ex.ret, ([V.at A.nil, V.at (A.bool false), V.at (A.sl 0)], [⟨true, OC.rows [K.f FloatKind.f32] y3⟩]))) else bif Decidable.decide ((Nat.succ (List.length y3)) ≤ 1073741824) then some (true, (Ex.normal, ([V.at (A.sl 0), V.at (A.sl 1), V.at (A.sl 2), V.at (A.int IntKind.i64 (IntKind.wrap IntKind.i64 (y0 + 1)))], [⟨true, OC.rows [K.f FloatKind.f32] y1⟩, ⟨true, OC.rows [K.f FloatKind.f32] y2⟩, ⟨true, OC.rows [K.f FloatKind.f32] (y3 ++ [[FOps.bin F BinOp.sub FloatKind.f32 0 (FOps.bin F BinOp.sub FloatKind.f32 (List.getD (List.getD y1 (Int.toNat y0) []) 0 0) (List.getD (List.getD y2 (Int.toNat y0) []) 0 0))]])⟩]))) else none else bif Bool.not (Pure.spec_l01Finite F (FOps.bin F BinOp.sub FloatKind.f32 (List.getD (List.getD y1 (Int.toNat y0) []) 0 0) (List.getD (List.getD y2 (Int.toNat y0) []) 0 0))) then some (false, (Ex.ret, ([V.at A.nil, V.at (A.bool false), V.at (A.sl 0)], [⟨true, OC.rows [K.f FloatKind.f32] y3⟩]))) else bif Decidable.decide ((Nat.succ (List.length y3)) ≤ 1073741824) then some (true, (Ex.normal, ([V.at (A.sl 0), V.at (A.sl 1), V.at (A.sl 2), V.at (A.int IntKind.i64 (IntKind.wrap IntKind.i64 (y0 + 1)))], [⟨true, OC.rows [K.f FloatKind.f32] y1⟩, ⟨true, OC.rows [K.f FloatKind.f32] y2⟩, ⟨true, OC.rows [K.f FloatKind.f32] (y3 ++ [[FOps.bin F BinOp.sub FloatKind.f32 (List.getD (List.getD y1 (Int.toNat y0) []) 0 0) (List.getD (List.getD y2 (Int.toNat y0) []) 0 0)]])⟩]))) else none else none else none else none else none else some (false, (Ex.normal, ([V.at A.undef, V.at A.undef, V.at (A.sl 0)], [⟨true, OC.rows [K.f FloatKind.f32] y3⟩])))) := by kernel_rfl
    unfold loopOf
    rw [h0]
    unfold Pure.spec_SwingsApart_L0
    cases (Decidable.decide (y0 < (Int.ofNat (List.length y1)))) with
    | true =>
      cases (Decidable.decide (0 ≤ y0)) with
      | true =>
        cases (Decidable.decide (y0 < (Int.ofNat (List.length y2)))) with
        | true =>
          cases (FOps.cmp F BinOp.leq FloatKind.f32 (FOps.bin F BinOp.sub FloatKind.f32 (List.getD (List.getD y1 (Int.toNat y0) []) 0 0) (List.getD (List.getD y2 (Int.toNat y0) []) 0 0)) 0) with
          | true =>
            cases (Pure.spec_l01Finite F (FOps.bin F BinOp.sub FloatKind.f32 0 (FOps.bin F BinOp.sub FloatKind.f32 (List.getD (List.getD y1 (Int.toNat y0) []) 0 0) (List.getD (List.getD y2 (Int.toNat y0) []) 0 0)))) with
            | true =>
              cases (Decidable.decide ((Nat.succ (List.length y3)) ≤ 1073741824)) with
              | true =>
                exact ih _ _
              | false =>
                intro h; exact absurd h Bool.false_ne_true
            | false =>
              intro _; rfl
          | false =>
            cases (Pure.spec_l01Finite F (FOps.bin F BinOp.sub FloatKind.f32 (List.getD (List.getD y1 (Int.toNat y0) []) 0 0) (List.getD (List.getD y2 (Int.toNat y0) []) 0 0))) with
            | true =>
              cases (Decidable.decide ((Nat.succ (List.length y3)) ≤ 1073741824)) with
              | true =>
                exact ih _ _
              | false =>
                intro h; exact absurd h Bool.false_ne_true
            | false =>
              intro _; rfl
        | false =>
          intro h; exact absurd h Bool.false_ne_true
      | false =>
        intro h; exact absurd h Bool.false_ne_true
    | false =>
      intro _; rfl
theorem t_spec_SwingsApart_L0 : SmTo Try.prog 0 73 (S_spec_SwingsApart_L0 real) 0 (.loop (loopB 0 (codeOf Try.f52))) := by
  refine smTo_ev (cl := [(38, c_spec_RunSwing real), (59, c_spec_l01Finite real)]) (ef := []) (sm := []) (un := 0) prog_ok (allOK_cons ok_spec_RunSwing (allOK_cons ok_spec_l01Finite allOK_nil)) smL_nil ?_
  intro vals hp q r h hq
  unfold S_spec_SwingsApart_L0 at h
  dsimp only at h
  split at h
  · rename_i y0 y1 y2 y3
    obtain rfl := Option.some.inj h
    have h1 := hq
    unfold resOf at h1
    rw [chk_some] at h1
    exact ⟨_, (l_spec_SwingsApart_L0 real y1 y2 _ y0 y3 h1.1).trans hq⟩
  · cases h
def Pure.spec_SwingsApart (F : FOps) (x0 : Int) (x1 : Int) (x2 : Int) (x3 : Int) (x4 : Int) (x5 : Int) (x6 : Int) (x7 : Int) (x8 : Int) (x9 : Int) (x10 : Int) (x11 : Int) (x12 : Int) : Bool := bif Pure.spec_RunSwing_3 F x0 x1 x2 x3 x4 x5 x6 x7 x11 x12 then bif Pure.spec_RunSwing_3 F x0 x1 x2 x3 x4 x8 x9 x10 x11 x12 then bif Prod.fst (Prod.snd (Pure.spec_SwingsApart_L0 F (Pure.spec_RunSwing_4 F x0 x1 x2 x3 x4 x5 x6 x7 x11 x12) (Pure.spec_RunSwing_4 F x0 x1 x2 x3 x4 x8 x9 x10 x11 x12) (Nat.succ ((List.length (Pure.spec_RunSwing_4 F x0 x1 x2 x3 x4 x5 x6 x7 x11 x12)) + 0)) 0 [])) then false else true else false else false
def Pure.spec_SwingsApart_1 (F : FOps) (x0 : Int) (x1 : Int) (x2 : Int) (x3 : Int) (x4 : Int) (x5 : Int) (x6 : Int) (x7 : Int) (x8 : Int) (x9 : Int) (x10 : Int) (x11 : Int) (x12 : Int) : List (List Int) := bif Pure.spec_RunSwing_3 F x0 x1 x2 x3 x4 x5 x6 x7 x11 x12 then bif Pure.spec_RunSwing_3 F x0 x1 x2 x3 x4 x8 x9 x10 x11 x12 then bif Prod.fst (Prod.snd (Pure.spec_SwingsApart_L0 F (Pure.spec_RunSwing_4 F x0 x1 x2 x3 x4 x5 x6 x7 x11 x12) (Pure.spec_RunSwing_4 F x0 x1 x2 x3 x4 x8 x9 x10 x11 x12) (Nat.succ ((List.length (Pure.spec_RunSwing_4 F x0 x1 x2 x3 x4 x5 x6 x7 x11 x12)) + 0)) 0 [])) then [] else Prod.fst (Prod.snd (Prod.snd (Pure.spec_SwingsApart_L0 F (Pure.spec_RunSwing_4 F x0 x1 x2 x3 x4 x5 x6 x7 x11 x12) (Pure.spec_RunSwing_4 F x0 x1 x2 x3 x4 x8 x9 x10 x11 x12) (Nat.succ ((List.length (Pure.spec_RunSwing_4 F x0 x1 x2 x3 x4 x5 x6 x7 x11 x12)) + 0)) 0 []))) else [] else []
def Pure.spec_SwingsApart_ok (F : FOps) (x0 : Int) (x1 : Int) (x2 : Int) (x3 : Int) (x4 : Int) (x5 : Int) (x6 : Int) (x7 : Int) (x8 : Int) (x9 : Int) (x10 : Int) (x11 : Int) (x12 : Int) : Bool := bif Pure.spec_RunSwing_ok F x0 x1 x2 x3 x4 x5 x6 x7 x11 x12 then bif Pure.spec_RunSwing_ok F x0 x1 x2 x3 x4 x8 x9 x10 x11 x12 then bif Pure.spec_RunSwing_3 F x0 x1 x2 x3 x4 x5 x6 x7 x11 x12 then bif Pure.spec_RunSwing_3 F x0 x1 x2 x3 x4 x8 x9 x10 x11 x12 then Prod.fst (Pure.spec_SwingsApart_L0 F (Pure.spec_RunSwing_4 F x0 x1 x2 x3 x4 x5 x6 x7 x11 x12) (Pure.spec_RunSwing_4 F x0 x1 x2 x3 x4 x8 x9 x10 x11 x12) (Nat.succ ((List.length (Pure.spec_RunSwing_4 F x0 x1 x2 x3 x4 x5 x6 x7 x11 x12)) + 0)) 0 []) else true else true else false else false
def c_spec_SwingsApart (F : FOps) : Con
  | [V.agg [A.fl FloatKind.f32 x0, A.fl FloatKind.f32 x1, A.fl FloatKind.f32 x2, A.fl FloatKind.f32 x3, A.fl FloatKind.f32 x4], V.agg [A.fl FloatKind.f32 x5, A.fl FloatKind.f32 x6, A.fl FloatKind.f32 x7], V.agg [A.fl FloatKind.f32 x8, A.fl FloatKind.f32 x9, A.fl FloatKind.f32 x10], V.at (A.fl FloatKind.f32 x11), V.at (A.int IntKind.i64 x12)], [] => some (Pure.spec_SwingsApart_ok F x0 x1 x2 x3 x4 x5 x6 x7 x8 x9 x10 x11 x12, ⟨V.tup [(false, [A.sl 0]), (false, [A.bool (Pure.spec_SwingsApart F x0 x1 x2 x3 x4 x5 x6 x7 x8 x9 x10 x11 x12)])], none, [⟨true, OC.rows [K.f FloatKind.f32] (Pure.spec_SwingsApart_1 F x0 x1 x2 x3 x4 x5 x6 x7 x8 x9 x10 x11 x12)⟩]⟩)
  | _, _ => none
theorem e_spec_SwingsApart (F : FOps) (x0 : Int) (x1 : Int) (x2 : Int) (x3 : Int) (x4 : Int) (x5 : Int) (x6 : Int) (x7 : Int) (x8 : Int) (x9 : Int) (x10 : Int) (x11 : Int) (x12 : Int) : Pure.spec_SwingsApart_ok F x0 x1 x2 x3 x4 x5 x6 x7 x8 x9 x10 x11 x12 = true → evFn (cxS F tyl [(38, c_spec_RunSwing F), (59, c_spec_l01Finite F)] [] [(0, S_spec_SwingsApart_L0 F)] 0) Try.f52 false [V.agg [A.fl FloatKind.f32 x0, A.fl FloatKind.f32 x1, A.fl FloatKind.f32 x2, A.fl FloatKind.f32 x3, A.fl FloatKind.f32 x4], V.agg [A.fl FloatKind.f32 x5, A.fl FloatKind.f32 x6, A.fl FloatKind.f32 x7], V.agg [A.fl FloatKind.f32 x8, A.fl FloatKind.f32 x9, A.fl FloatKind.f32 x10], V.at (A.fl FloatKind.f32 x11), V.at (A.int IntKind.i64 x12)] [] = some ⟨V.tup [(false, [A.sl 0]), (false, [A.bool (Pure.spec_SwingsApart F x0 x1 x2 x3 x4 x5 x6 x7 x8 x9 x10 x11 x12)])], none, [⟨true, OC.rows [K.f FloatKind.f32] (Pure.spec_SwingsApart_1 F x0 x1 x2 x3 x4 x5 x6 x7 x8 x9 x10 x11 x12)⟩]⟩ := by
  have h0 : evFn (cxS F tyl [(38, c_spec_RunSwing F), (59, c_spec_l01Finite F)] [] [(0, S_spec_SwingsApart_L0 F)] 0) Try.f52 false [V.agg [A.fl FloatKind.f32 x0, A.fl FloatKind.f32 x1, A.fl FloatKind.f32 x2, A.fl FloatKind.f32 x3, A.fl FloatKind.f32 x4], V.agg [A.fl FloatKind.f32 x5, A.fl FloatKind.f32 x6, A.fl FloatKind.f32 x7], V.agg [A.fl FloatKind.f32 x8, A.fl FloatKind.f32 x9, A.fl FloatKind.f32 x10], V.at (A.fl FloatKind.f32 x11), V.at (A.int IntKind.i64 x12)] [] = bif Pure.spec_RunSwing_ok F x0 x1 x2 x3 x4 x5 x6 x7 x11 x12 then bif Pure.spec_RunSwing_ok F x0 x1 x2 x3 x4 x8 x9 x10 x11 x12 then bif Bool.not (Pure.spec_RunSwing_3 F x0 x1 x2 x3 x4 x5 x6 x7 x11 x12) then some ⟨V.tup [(false, [A.sl 0]), (false, [A.bool false])], none, [⟨true, OC.rows [K.f FloatKind.f32] []⟩]⟩ else bif Bool.not (Pure.spec_RunSwing_3 F x0 x1 x2 x3 x4 x8 x9 x10 x11 x12) then some ⟨V.tup [(false, [A.sl 0]), (false, [A.bool false])], none, [⟨true, OC.rows [K.f FloatKind.f32] []⟩]⟩ else bif Prod.fst (Pure.spec_SwingsApart_L0 F (Pure.spec_RunSwing_4 F x0 x1 x2 x3 x4 x5 x6 x7 x11 x12) (Pure.spec_RunSwing_4 F x0 x1 x2 x3 x4 x8 x9 x10 x11 x12) (Nat.succ ((List.length (Pure.spec_RunSwing_4 F x0 x1 x2 x3 x4 x5 x6 x7 x11 x12)) + 0)) 0 []) then bif Prod.fst (Prod.snd (Pure.spec_SwingsApart_L0 F (Pure.spec_RunSwing_4 F x0 x1 x2 x3 x4 x5 x6 x7 x11 x12) (Pure.spec_RunSwing_4 F x0 x1 x2 x3 x4 x8 x9 x10 x11 x12) (Nat.succ ((List.length (Pure.spec_RunSwing_4 F x0 x1 x2 x3 x4 x5 x6 x7 x11 x12)) + 0)) 0 [])) then some ⟨V.tup [(false, [A.sl 0]), (false, [A.bool false])], none, [⟨true, OC.rows [K.f FloatKind.f32] []⟩]⟩ else some ⟨V.tup [(false, [A.sl 0]), (false, [A.bool true])], none, [⟨true, OC.rows [K.f FloatKind.f32] (Prod.fst (Prod.snd (Prod.snd (Pure.spec_SwingsApart_L0 F (Pure.spec_RunSwing_4 F x0 x1 x2 x3 x4 x5 x6 x7 x11 x12) (Pure.spec_RunSwing_4 F x0 x1 x2 x3 x4 x8 x9 x10 x11 x12) (Nat.succ ((List.length (Pure.spec_RunSwing_4 F x0 x1 x2 x3 x4 x5 x6 x7 x11 x12)) + 0)) 0 []))))⟩]⟩ else none else none else none := by kernel_rfl
  rw [h0]
  unfold Pure.spec_SwingsApart Pure.spec_SwingsApart_1 Pure.spec_SwingsApart_ok
  cases (Pure.spec_RunSwing_ok F x0 x1 x2 x3 x4 x5 x6 x7 x11 x12) with
  | true =>
    cases (Pure.spec_RunSwing_ok F x0 x1 x2 x3 x4 x8 x9 x10 x11 x12) with
    | true =>
      cases (Pure.spec_RunSwing_3 F x0 x1 x2 x3 x4 x5 x6 x7 x11 x12) with
      | true =>
        cases (Pure.spec_RunSwing_3 F x0 x1 x2 x3 x4 x8 x9 x10 x11 x12) with
        | true =>
          cases (Prod.fst (Pure.spec_SwingsApart_L0 F (Pure.spec_RunSwing_4 F x0 x1 x2 x3 x4 x5 x6 x7 x11 x12) (Pure.spec_RunSwing_4 F x0 x1 x2 x3 x4 x8 x9 x10 x11 x12) (Nat.succ ((List.length (Pure.spec_RunSwing_4 F x0 x1 x2 x3 x4 x5 x6 x7 x11 x12)) + 0)) 0 [])) with
          | true =>
            cases (Prod.fst (Prod.snd (Pure.spec_SwingsApart_L0 F (Pure.spec_RunSwing_4 F x0 x1 x2 x3 x4 x5 x6 x7 x11 x12) (Pure.spec_RunSwing_4 F x0 x1 x2 x3 x4 x8 x9 x10 x11 x12) (Nat.succ ((List.length (Pure.spec_RunSwing_4 F x0 x1 x2 x3 x4 x5 x6 x7 x11 x12)) + 0)) 0 []))) with
            | true =>
              intro _; rfl
            | false =>
              intro _; rfl
          | false =>
            intro h; exact absurd h Bool.false_ne_true
        | false =>
          intro _; rfl
      | false =>
        intro _; rfl
    | false =>
      intro h; exact absurd h Bool.false_ne_true
  | false =>
    intro h; exact absurd h Bool.false_ne_true
theorem ok_spec_SwingsApart : CallOK Try.prog 52 (c_spec_SwingsApart real) := by
  refine callOK_of fun args h ret hc => ?_
  unfold c_spec_SwingsApart at hc
  split at hc
  · rename_i x0 x1 x2 x3 x4 x5 x6 x7 x8 x9 x10 x11 x12
    obtain ⟨hok, rfl⟩ := some_ret hc
    exact holds_ev prog_ok (allOK_cons ok_spec_RunSwing (allOK_cons ok_spec_l01Finite allOK_nil)) Try.func52 rfl rfl (smL_cons (body := .loop (loopB 0 (codeOf Try.f52))) (by kernel_rfl) t_spec_SwingsApart_L0 smL_nil) rfl (e_spec_SwingsApart real x0 x1 x2 x3 x4 x5 x6 x7 x8 x9 x10 x11 x12 hok)
  · cases hc
def Pure.impl_toldNumbers_way (F : FOps) (x0 : List (List Int)) : Bool := Pure.impl_finite F x0
def Pure.impl_toldNumbers_okA (F : FOps) (x0 : List (List Int)) : Bool := Pure.impl_finite_ok F x0
def Pure.impl_toldNumbers_okB (F : FOps) (x0 : List (List Int)) : Bool := Pure.impl_finite_ok F x0
def c2_impl_toldNumbers (F : FOps) : Con2
  | [V.at (A.sl 0)], [⟨false, OC.rows [K.f FloatKind.f32] x0⟩] => some (Pure.impl_toldNumbers_way F x0, (Pure.impl_toldNumbers_okA F x0, ⟨V.tup [(false, [A.sl 0]), (false, [A.bool true])], none, []⟩), (Pure.impl_toldNumbers_okB F x0, ⟨V.tup [(false, [A.sl 1]), (false, [A.bool false])], none, [⟨true, OC.rows [K.f FloatKind.f32] []⟩]⟩))
  | _, _ => none
theorem e2_impl_toldNumbers_true (F : FOps) (x0 : List (List Int)) : Pure.impl_toldNumbers_way F x0 = true → Pure.impl_toldNumbers_okA F x0 = true → evFn (cxS F tyl [(70, c_impl_finite F)] [] [] 0) Try.f95 false [V.at (A.sl 0)] [⟨false, OC.rows [K.f FloatKind.f32] x0⟩] = some ⟨V.tup [(false, [A.sl 0]), (false, [A.bool true])], none, []⟩ := by
  have h0 : evFn (cxS F tyl [(70, c_impl_finite F)] [] [] 0) Try.f95 false [V.at (A.sl 0)] [⟨false, OC.rows [K.f FloatKind.f32] x0⟩] = bif Pure.impl_finite_ok F x0 then bif Bool.not (Pure.impl_finite F x0) then some ⟨V.tup [(false, [A.sl 1]), (false, [A.bool false])], none, [⟨true, OC.rows [K.f FloatKind.f32] []⟩]⟩ else some ⟨V.tup [(false, [A.sl 0]), (false, [A.bool true])], none, []⟩ else none := by kernel_rfl
  rw [h0]
  unfold Pure.impl_toldNumbers_way Pure.impl_toldNumbers_okA
  cases (Pure.impl_finite_ok F x0) with
  | true =>
    cases (Pure.impl_finite F x0) with
    | true =>
      intro h1 h2; first | rfl | cases h1 | cases h2
    | false =>
      intro h1 h2; first | rfl | cases h1 | cases h2
  | false =>
    intro h1 h2; first | rfl | cases h1 | cases h2
theorem e2_impl_toldNumbers_false (F : FOps) (x0 : List (List Int)) : Pure.impl_toldNumbers_way F x0 = false → Pure.impl_toldNumbers_okB F x0 = true → evFn (cxS F tyl [(70, c_impl_finite F)] [] [] 0) Try.f95 false [V.at (A.sl 0)] [⟨false, OC.rows [K.f FloatKind.f32] x0⟩] = some ⟨V.tup [(false, [A.sl 1]), (false, [A.bool false])], none, [⟨true, OC.rows [K.f FloatKind.f32] []⟩]⟩ := by
  have h0 : evFn (cxS F tyl [(70, c_impl_finite F)] [] [] 0) Try.f95 false [V.at (A.sl 0)] [⟨false, OC.rows [K.f FloatKind.f32] x0⟩] = bif Pure.impl_finite_ok F x0 then bif Bool.not (Pure.impl_finite F x0) then some ⟨V.tup [(false, [A.sl 1]), (false, [A.bool false])], none, [⟨true, OC.rows [K.f FloatKind.f32] []⟩]⟩ else some ⟨V.tup [(false, [A.sl 0]), (false, [A.bool true])], none, []⟩ else none := by kernel_rfl
  rw [h0]
  unfold Pure.impl_toldNumbers_way Pure.impl_toldNumbers_okB
  cases (Pure.impl_finite_ok F x0) with
  | true =>
    cases (Pure.impl_finite F x0) with
    | true =>
      intro h1 h2; first | rfl | cases h1 | cases h2
    | false =>
      intro h1 h2; first | rfl | cases h1 | cases h2
  | false =>
    intro h1 h2; first | rfl | cases h1 | cases h2
theorem ok2_impl_toldNumbers : TwoOK Try.prog 95 (c2_impl_toldNumbers real) := by
  intro args h b x y r news hc hb
  unfold c2_impl_toldNumbers at hc
  split at hc
  · rename_i x0
    obtain ⟨rfl, rfl, rfl⟩ := two_ret hc
    cases hq : Pure.impl_toldNumbers_way real x0 with
    | true =>
      rw [hq] at hb
      obtain ⟨hok, hr⟩ := ret_two hb
      have he := e2_impl_toldNumbers_true real x0 hq hok
      rw [hr] at he
      exact holds_ev prog_ok (allOK_cons ok_impl_finite allOK_nil) Try.func95 rfl rfl smL_nil rfl he
    | false =>
      rw [hq] at hb
      obtain ⟨hok, hr⟩ := ret_two hb
      have he := e2_impl_toldNumbers_false real x0 hq hok
      rw [hr] at he
      exact holds_ev prog_ok (allOK_cons ok_impl_finite allOK_nil) Try.func95 rfl rfl smL_nil rfl he
  · cases hc
def Pure.impl_SwingsApart_L0 (F : FOps) (y0 : Int) (y2 : List (List Int)) (y4 : List (List Int)) : Nat → Int → (List (List Int)) → (Bool × (List (List Int)))
  | 0, _, _ => (false, [])
  | n + 1, y1, y3 => bif (Decidable.decide (y1 < y0)) then (bif (Decidable.decide (0 ≤ y1)) then (bif (Decidable.decide (y1 < (Int.ofNat (List.length y4)))) then (bif (Decidable.decide (0 ≤ y1)) then (bif (Decidable.decide (y1 < (Int.ofNat (List.length y2)))) then (bif (Decidable.decide ((Nat.succ (List.length y3)) ≤ 1073741824)) then (Pure.impl_SwingsApart_L0 F y0 y2 y4 n (IntKind.wrap IntKind.i64 (y1 + 1)) (y3 ++ [[FOps.abs F FloatKind.f32 (FOps.bin F BinOp.sub FloatKind.f32 (List.getD (List.getD y4 (Int.toNat y1) []) 0 0) (List.getD (List.getD y2 (Int.toNat y1) []) 0 0))]])) else ((false, []))) else ((false, []))) else ((false, []))) else ((false, []))) else ((false, []))) else ((true, y3))
def R_impl_SwingsApart_L0 (r : (Bool × (List (List Int)))) : Bool × Bool × (Ex × List V × List Ob) × (Ex × List V × List Ob) := ((r).1, false, (Ex.normal, [V.at (A.sl 0)], [⟨true, OC.rows [K.f FloatKind.f32] (r).2⟩]), (Ex.normal, [V.at (A.sl 0)], [⟨true, OC.rows [K.f FloatKind.f32] (r).2⟩]))
def S_impl_SwingsApart_L0 (F : FOps) : Sm := ⟨[16, 18, 46, 47, 48], [63, 63, 63, 3, 3], [18], fun vals hp => match vals, hp with
  | [V.at (A.sl 0), V.at (A.sl 1), V.at (A.sl 2), V.at (A.int IntKind.i64 y0), V.at (A.int IntKind.i64 y1)], [⟨true, OC.rows [K.f FloatKind.f32] y2⟩, ⟨true, OC.rows [K.f FloatKind.f32] y3⟩, ⟨true, OC.rows [K.f FloatKind.f32] y4⟩] => some (R_impl_SwingsApart_L0  (Pure.impl_SwingsApart_L0 F y0 y2 y4 (y0 - y1 + 1).toNat y1 y3))
  | _, _ => none⟩
theorem l_impl_SwingsApart_L0 (F : FOps) (y0 : Int) (y2 : List (List Int)) (y4 : List (List Int)) : ∀ (fuel : Nat) (y1 : Int) (y3 : List (List Int)), (Pure.impl_SwingsApart_L0 F y0 y2 y4 fuel y1 y3).1 = true → loopOf (cxS F tyl [(39, c_impl_RunSwing F), (94, c_impl_abs F)] [] [] 0 [(95, c2_impl_toldNumbers F)]) 0 68 0 [16, 18, 46, 47, 48] [63, 63, 63, 3, 3] [18] (loopB 0 (codeOf Try.f53)) fuel [V.at (A.sl 0), V.at (A.sl 1), V.at (A.sl 2), V.at (A.int IntKind.i64 y0), V.at (A.int IntKind.i64 y1)] [⟨true, OC.rows [K.f FloatKind.f32] y2⟩, ⟨true, OC.rows [K.f FloatKind.f32] y3⟩, ⟨true, OC.rows [K.f FloatKind.f32] y4⟩] = resOf (R_impl_SwingsApart_L0  (Pure.impl_SwingsApart_L0 F y0 y2 y4 fuel y1 y3)) := by
  intro fuel
  induction fuel with
  | zero => intro y1 y3 h; exact absurd h Bool.false_ne_true
  | succ n ih =>
    intro y1 y3
    have h0 : roundOf (cxS F tyl [(39, c_impl_RunSwing F), (94, c_impl_abs F)] [] [] 0 [(95, c2_impl_toldNumbers F)]) 0 68 0 [16, 18, 46, 47, 48] [63, 63, 63, 3, 3] [18] (loopB 0 (codeOf Try.f53)) [V.at (A.sl 0), V.at (A.sl 1), V.at (A.sl 2), V.at (A.int IntKind.i64 y0), V.at (A.int IntKind.i64 y1)] [⟨true, OC.rows [K.f FloatKind.f32] y2⟩, ⟨true, OC.rows [K.f FloatKind.f32] y3⟩, ⟨true, OC.rows [K.f FloatKind.f32] y4⟩] = (bif Decidable.decide (y1 < y0) then bif Decidable.decide (0 ≤ y1) then bif Decidable.decide (y1 < (Int.ofNat (List.length y4))) then bif Decidable.decide (0 ≤ y1) then bif Decidable.decide (y1 < (Int.ofNat (List.length y2))) then bif Decidable.decide ((Nat.succ (List.length y3)) ≤ 1073741824) then some (true, (Ex.normal, ([V.at (A.sl 0), V.at (A.sl 1), V.at (A.sl 2), V.at (A.int IntKind.i64 y0), V.at (A.int IntKind.i64 (IntKind.wrap IntKind.i64 (y1 + 1)))], [⟨true, OC.rows [K.f FloatKind.f32] y2⟩, ⟨true, OC.rows [K.f FloatKind.f32] (y3 ++ [[FOps.abs F FloatKind.f32 (FOps.bin F BinOp.sub FloatKind.f32 (List.getD (List.getD y4 (Int.toNat y1) []) 0 0) (List.getD (List.getD y2 (Int.toNat y1) []) 0 0))]])⟩, ⟨true, OC.rows [K.f FloatKind.f32] y4⟩]))) else none else none else none else none else none else some (false, (Ex.normal, ([V.at (A.sl 0)], [⟨true, OC.rows [K.f FloatKind.f32] y3⟩])))) := by kernel_rfl
    unfold loopOf
    rw [h0]
    unfold Pure.impl_SwingsApart_L0
    cases (Decidable.decide (y1 < y0)) with
    | true =>
      cases (Decidable.decide (0 ≤ y1)) with
      | true =>
        cases (Decidable.decide (y1 < (Int.ofNat (List.length y4)))) with
        | true =>
          cases (Decidable.decide (y1 < (Int.ofNat (List.length y2)))) with
          | true =>
            cases (Decidable.decide ((Nat.succ (List.length y3)) ≤ 1073741824)) with
            | true =>
              exact ih _ _
            | false =>
              intro h; exact absurd h Bool.false_ne_true
          | false =>
            intro h; exact absurd h Bool.false_ne_true
        | false =>
          intro h; exact absurd h Bool.false_ne_true
      | false =>
        intro h; exact absurd h Bool.false_ne_true
    | false =>
      intro _; rfl
theorem t_impl_SwingsApart_L0 : SmTo Try.prog 0 68 (S_impl_SwingsApart_L0 real) 0 (.loop (loopB 0 (codeOf Try.f53))) := by
  refine smTo_ev2 (cl := [(39, c_impl_RunSwing real), (94, c_impl_abs real)]) (ef := []) (sm := []) (un := 0) (tw := [(95, c2_impl_toldNumbers real)]) prog_ok (allOK_cons ok_impl_RunSwing (allOK_cons ok_impl_abs allOK_nil)) (allTwo_cons ok2_impl_toldNumbers allTwo_nil) smL_nil ?_
  intro vals hp q r h hq
  unfold S_impl_SwingsApart_L0 at h
  dsimp only at h
  split at h
  · rename_i y0 y1 y2 y3 y4
    obtain rfl := Option.some.inj h
    have h1 := hq
    unfold resOf at h1
    rw [chk_some] at h1
    exact ⟨_, (l_impl_SwingsApart_L0 real y0 y2 y4 _ y1 y3 h1.1).trans hq⟩
  · cases h
def Pure.impl_SwingsApart (F : FOps) (x0 : Int) (x1 : Int) (x2 : Int) (x3 : Int) (x4 : Int) (x5 : Int) (x6 : Int) (x7 : Int) (x8 : Int) (x9 : Int) (x10 : Int) (x11 : Int) (x12 : Int) : Bool := bif Pure.impl_RunSwing_3 F x0 x1 x2 x3 x4 x5 x6 x7 x11 x12 then bif Pure.impl_RunSwing_3 F x0 x1 x2 x3 x4 x8 x9 x10 x11 x12 then Pure.impl_toldNumbers_way F (Prod.snd (Pure.impl_SwingsApart_L0 F (Int.ofNat (List.length (Pure.impl_RunSwing_4 F x0 x1 x2 x3 x4 x5 x6 x7 x11 x12))) (Pure.impl_RunSwing_4 F x0 x1 x2 x3 x4 x8 x9 x10 x11 x12) (Pure.impl_RunSwing_4 F x0 x1 x2 x3 x4 x5 x6 x7 x11 x12) (Nat.succ ((List.length (Pure.impl_RunSwing_4 F x0 x1 x2 x3 x4 x5 x6 x7 x11 x12)) + 0)) 0 [])) else false else false
def Pure.impl_SwingsApart_1 (F : FOps) (x0 : Int) (x1 : Int) (x2 : Int) (x3 : Int) (x4 : Int) (x5 : Int) (x6 : Int) (x7 : Int) (x8 : Int) (x9 : Int) (x10 : Int) (x11 : Int) (x12 : Int) : List (List Int) := bif Pure.impl_RunSwing_3 F x0 x1 x2 x3 x4 x5 x6 x7 x11 x12 then bif Pure.impl_RunSwing_3 F x0 x1 x2 x3 x4 x8 x9 x10 x11 x12 then bif Pure.impl_toldNumbers_way F (Prod.snd (Pure.impl_SwingsApart_L0 F (Int.ofNat (List.length (Pure.impl_RunSwing_4 F x0 x1 x2 x3 x4 x5 x6 x7 x11 x12))) (Pure.impl_RunSwing_4 F x0 x1 x2 x3 x4 x8 x9 x10 x11 x12) (Pure.impl_RunSwing_4 F x0 x1 x2 x3 x4 x5 x6 x7 x11 x12) (Nat.succ ((List.length (Pure.impl_RunSwing_4 F x0 x1 x2 x3 x4 x5 x6 x7 x11 x12)) + 0)) 0 [])) then Prod.snd (Pure.impl_SwingsApart_L0 F (Int.ofNat (List.length (Pure.impl_RunSwing_4 F x0 x1 x2 x3 x4 x5 x6 x7 x11 x12))) (Pure.impl_RunSwing_4 F x0 x1 x2 x3 x4 x8 x9 x10 x11 x12) (Pure.impl_RunSwing_4 F x0 x1 x2 x3 x4 x5 x6 x7 x11 x12) (Nat.succ ((List.length (Pure.impl_RunSwing_4 F x0 x1 x2 x3 x4 x5 x6 x7 x11 x12)) + 0)) 0 []) else [] else [] else []
def Pure.impl_SwingsApart_ok (F : FOps) (x0 : Int) (x1 : Int) (x2 : Int) (x3 : Int) (x4 : Int) (x5 : Int) (x6 : Int) (x7 : Int) (x8 : Int) (x9 : Int) (x10 : Int) (x11 : Int) (x12 : Int) : Bool := bif Pure.impl_RunSwing_ok F x0 x1 x2 x3 x4 x5 x6 x7 x11 x12 then bif Pure.impl_RunSwing_ok F x0 x1 x2 x3 x4 x8 x9 x10 x11 x12 then bif Pure.impl_RunSwing_3 F x0 x1 x2 x3 x4 x5 x6 x7 x11 x12 then bif Pure.impl_RunSwing_3 F x0 x1 x2 x3 x4 x8 x9 x10 x11 x12 then bif Prod.fst (Pure.impl_SwingsApart_L0 F (Int.ofNat (List.length (Pure.impl_RunSwing_4 F x0 x1 x2 x3 x4 x5 x6 x7 x11 x12))) (Pure.impl_RunSwing_4 F x0 x1 x2 x3 x4 x8 x9 x10 x11 x12) (Pure.impl_RunSwing_4 F x0 x1 x2 x3 x4 x5 x6 x7 x11 x12) (Nat.succ ((List.length (Pure.impl_RunSwing_4 F x0 x1 x2 x3 x4 x5 x6 x7 x11 x12)) + 0)) 0 []) then bif Pure.impl_toldNumbers_way F (Prod.snd (Pure.impl_SwingsApart_L0 F (Int.ofNat (List.length (Pure.impl_RunSwing_4 F x0 x1 x2 x3 x4 x5 x6 x7 x11 x12))) (Pure.impl_RunSwing_4 F x0 x1 x2 x3 x4 x8 x9 x10 x11 x12) (Pure.impl_RunSwing_4 F x0 x1 x2 x3 x4 x5 x6 x7 x11 x12) (Nat.succ ((List.length (Pure.impl_RunSwing_4 F x0 x1 x2 x3 x4 x5 x6 x7 x11 x12)) + 0)) 0 [])) then Pure.impl_toldNumbers_okA F (Prod.snd (Pure.impl_SwingsApart_L0 F (Int.ofNat (List.length (Pure.impl_RunSwing_4 F x0 x1 x2 x3 x4 x5 x6 x7 x11 x12))) (Pure.impl_RunSwing_4 F x0 x1 x2 x3 x4 x8 x9 x10 x11 x12) (Pure.impl_RunSwing_4 F x0 x1 x2 x3 x4 x5 x6 x7 x11 x12) (Nat.succ ((List.length (Pure.impl_RunSwing_4 F x0 x1 x2 x3 x4 x5 x6 x7 x11 x12)) + 0)) 0 [])) else Pure.impl_toldNumbers_okB F (Prod.snd (Pure.impl_SwingsApart_L0 F (Int.ofNat (List.length (Pure.impl_RunSwing_4 F x0 x1 x2 x3 x4 x5 x6 x7 x11 x12))) (Pure.impl_RunSwing_4 F x0 x1 x2 x3 x4 x8 x9 x10 x11 x12) (Pure.impl_RunSwing_4 F x0 x1 x2 x3 x4 x5 x6 x7 x11 x12) (Nat.succ ((List.length (Pure.impl_RunSwing_4 F x0 x1 x2 x3 x4 x5 x6 x7 x11 x12)) + 0)) 0 [])) else false else true else true else false else false
def c_impl_SwingsApart (F : FOps) : Con
  | [V.agg [A.fl FloatKind.f32 x0, A.fl FloatKind.f32 x1, A.fl FloatKind.f32 x2, A.fl FloatKind.f32 x3, A.fl FloatKind.f32 x4], V.agg [A.fl FloatKind.f32 x5, A.fl FloatKind.f32 x6, A.fl FloatKind.f32 x7], V.agg [A.fl FloatKind.f32 x8, A.fl FloatKind.f32 x9, A.fl FloatKind.f32 x10], V.at (A.fl FloatKind.f32 x11), V.at (A.int IntKind.i64 x12)], [] => some (Pure.impl_SwingsApart_ok F x0 x1 x2 x3 x4 x5 x6 x7 x8 x9 x10 x11 x12, ⟨V.tup [(false, [A.sl 0]), (false, [A.bool (Pure.impl_SwingsApart F x0 x1 x2 x3 x4 x5 x6 x7 x8 x9 x10 x11 x12)])], none, [⟨true, OC.rows [K.f FloatKind.f32] (Pure.impl_SwingsApart_1 F x0 x1 x2 x3 x4 x5 x6 x7 x8 x9 x10 x11 x12)⟩]⟩)
  | _, _ => none
theorem e_impl_SwingsApart (F : FOps) (x0 : Int) (x1 : Int) (x2 : Int) (x3 : Int) (x4 : Int) (x5 : Int) (x6 : Int) (x7 : Int) (x8 : Int) (x9 : Int) (x10 : Int) (x11 : Int) (x12 : Int) : Pure.impl_SwingsApart_ok F x0 x1 x2 x3 x4 x5 x6 x7 x8 x9 x10 x11 x12 = true → evFn (cxS F tyl [(39, c_impl_RunSwing F), (94, c_impl_abs F)] [] [(0, S_impl_SwingsApart_L0 F)] 0 [(95, c2_impl_toldNumbers F)]) Try.f53 false [V.agg [A.fl FloatKind.f32 x0, A.fl FloatKind.f32 x1, A.fl FloatKind.f32 x2, A.fl FloatKind.f32 x3, A.fl FloatKind.f32 x4], V.agg [A.fl FloatKind.f32 x5, A.fl FloatKind.f32 x6, A.fl FloatKind.f32 x7], V.agg [A.fl FloatKind.f32 x8, A.fl FloatKind.f32 x9, A.fl FloatKind.f32 x10], V.at (A.fl FloatKind.f32 x11), V.at (A.int IntKind.i64 x12)] [] = some ⟨V.tup [(false, [A.sl 0]), (false, [A.bool (Pure.impl_SwingsApart F x0 x1 x2 x3 x4 x5 x6 x7 x8 x9 x10 x11 x12)])], none, [⟨true, OC.rows [K.f FloatKind.f32] (Pure.impl_SwingsApart_1 F x0 x1 x2 x3 x4 x5 x6 x7 x8 x9 x10 x11 x12)⟩]⟩ := by
  have h0 : evFn (cxS F tyl [(39, c_impl_RunSwing F), (94, c_impl_abs F)] [] [(0, S_impl_SwingsApart_L0 F)] 0 [(95, c2_impl_toldNumbers F)]) Try.f53 false [V.agg [A.fl FloatKind.f32 x0, A.fl FloatKind.f32 x1, A.fl FloatKind.f32 x2, A.fl FloatKind.f32 x3, A.fl FloatKind.f32 x4], V.agg [A.fl FloatKind.f32 x5, A.fl FloatKind.f32 x6, A.fl FloatKind.f32 x7], V.agg [A.fl FloatKind.f32 x8, A.fl FloatKind.f32 x9, A.fl FloatKind.f32 x10], V.at (A.fl FloatKind.f32 x11), V.at (A.int IntKind.i64 x12)] [] = bif Pure.impl_RunSwing_ok F x0 x1 x2 x3 x4 x5 x6 x7 x11 x12 then bif Pure.impl_RunSwing_ok F x0 x1 x2 x3 x4 x8 x9 x10 x11 x12 then bif Bool.not (Pure.impl_RunSwing_3 F x0 x1 x2 x3 x4 x5 x6 x7 x11 x12) then some ⟨V.tup [(false, [A.sl 0]), (false, [A.bool false])], none, [⟨true, OC.rows [K.f FloatKind.f32] []⟩]⟩ else bif Bool.not (Pure.impl_RunSwing_3 F x0 x1 x2 x3 x4 x8 x9 x10 x11 x12) then some ⟨V.tup [(false, [A.sl 0]), (false, [A.bool false])], none, [⟨true, OC.rows [K.f FloatKind.f32] []⟩]⟩ else bif Prod.fst (Pure.impl_SwingsApart_L0 F (Int.ofNat (List.length (Pure.impl_RunSwing_4 F x0 x1 x2 x3 x4 x5 x6 x7 x11 x12))) (Pure.impl_RunSwing_4 F x0 x1 x2 x3 x4 x8 x9 x10 x11 x12) (Pure.impl_RunSwing_4 F x0 x1 x2 x3 x4 x5 x6 x7 x11 x12) (Nat.succ ((List.length (Pure.impl_RunSwing_4 F x0 x1 x2 x3 x4 x5 x6 x7 x11 x12)) + 0)) 0 []) then bif Pure.impl_toldNumbers_way F (Prod.snd (Pure.impl_SwingsApart_L0 F (Int.ofNat (List.length (Pure.impl_RunSwing_4 F x0 x1 x2 x3 x4 x5 x6 x7 x11 x12))) (Pure.impl_RunSwing_4 F x0 x1 x2 x3 x4 x8 x9 x10 x11 x12) (Pure.impl_RunSwing_4 F x0 x1 x2 x3 x4 x5 x6 x7 x11 x12) (Nat.succ ((List.length (Pure.impl_RunSwing_4 F x0 x1 x2 x3 x4 x5 x6 x7 x11 x12)) + 0)) 0 [])) then bif Pure.impl_toldNumbers_okA F (Prod.snd (Pure.impl_SwingsApart_L0 F (Int.ofNat (List.length (Pure.impl_RunSwing_4 F x0 x1 x2 x3 x4 x5 x6 x7 x11 x12))) (Pure.impl_RunSwing_4 F x0 x1 x2 x3 x4 x8 x9 x10 x11 x12) (Pure.impl_RunSwing_4 F x0 x1 x2 x3 x4 x5 x6 x7 x11 x12) (Nat.succ ((List.length (Pure.impl_RunSwing_4 F x0 x1 x2 x3 x4 x5 x6 x7 x11 x12)) + 0)) 0 [])) then some ⟨V.tup [(false, [A.sl 0]), (false, [A.bool true])], none, [⟨true, OC.rows [K.f FloatKind.f32] (Prod.snd (Pure.impl_SwingsApart_L0 F (Int.ofNat (List.length (Pure.impl_RunSwing_4 F x0 x1 x2 x3 x4 x5 x6 x7 x11 x12))) (Pure.impl_RunSwing_4 F x0 x1 x2 x3 x4 x8 x9 x10 x11 x12) (Pure.impl_RunSwing_4 F x0 x1 x2 x3 x4 x5 x6 x7 x11 x12) (Nat.succ ((List.length (Pure.impl_RunSwing_4 F x0 x1 x2 x3 x4 x5 x6 x7 x11 x12)) + 0)) 0 []))⟩]⟩ else none else bif Pure.impl_toldNumbers_okB F (Prod.snd (Pure.impl_SwingsApart_L0 F (Int.ofNat (List.length (Pure.impl_RunSwing_4 F x0 x1 x2 x3 x4 x5 x6 x7 x11 x12))) (Pure.impl_RunSwing_4 F x0 x1 x2 x3 x4 x8 x9 x10 x11 x12) (Pure.impl_RunSwing_4 F x0 x1 x2 x3 x4 x5 x6 x7 x11 x12) (Nat.succ ((List.length (Pure.impl_RunSwing_4 F x0 x1 x2 x3 x4 x5 x6 x7 x11 x12)) + 0)) 0 [])) then some ⟨V.tup [(false, [A.sl 0]), (false, [A.bool false])], none, [⟨true, OC.rows [K.f FloatKind.f32] []⟩]⟩ else none else none else none else none := by kernel_rfl
  rw [h0]
  unfold Pure.impl_SwingsApart Pure.impl_SwingsApart_1 Pure.impl_SwingsApart_ok
  cases (Pure.impl_RunSwing_ok F x0 x1 x2 x3 x4 x5 x6 x7 x11 x12) with
  | true =>
    cases (Pure.impl_RunSwing_ok F x0 x1 x2 x3 x4 x8 x9 x10 x11 x12) with
    | true =>
      cases (Pure.impl_RunSwing_3 F x0 x1 x2 x3 x4 x5 x6 x7 x11 x12) with
      | true =>
        cases (Pure.impl_RunSwing_3 F x0 x1 x2 x3 x4 x8 x9 x10 x11 x12) with
        | true =>
          cases (Prod.fst (Pure.impl_SwingsApart_L0 F (Int.ofNat (List.length (Pure.impl_RunSwing_4 F x0 x1 x2 x3 x4 x5 x6 x7 x11 x12))) (Pure.impl_RunSwing_4 F x0 x1 x2 x3 x4 x8 x9 x10 x11 x12) (Pure.impl_RunSwing_4 F x0 x1 x2 x3 x4 x5 x6 x7 x11 x12) (Nat.succ ((List.length (Pure.impl_RunSwing_4 F x0 x1 x2 x3 x4 x5 x6 x7 x11 x12)) + 0)) 0 [])) with
          | true =>
            cases (Pure.impl_toldNumbers_way F (Prod.snd (Pure.impl_SwingsApart_L0 F (Int.ofNat (List.length (Pure.impl_RunSwing_4 F x0 x1 x2 x3 x4 x5 x6 x7 x11 x12))) (Pure.impl_RunSwing_4 F x0 x1 x2 x3 x4 x8 x9 x10 x11 x12) (Pure.impl_RunSwing_4 F x0 x1 x2 x3 x4 x5 x6 x7 x11 x12) (Nat.succ ((List.length (Pure.impl_RunSwing_4 F x0 x1 x2 x3 x4 x5 x6 x7 x11 x12)) + 0)) 0 []))) with
            | true =>
              cases (Pure.impl_toldNumbers_okA F (Prod.snd (Pure.impl_SwingsApart_L0 F (Int.ofNat (List.length (Pure.impl_RunSwing_4 F x0 x1 x2 x3 x4 x5 x6 x7 x11 x12))) (Pure.impl_RunSwing_4 F x0 x1 x2 x3 x4 x8 x9 x10 x11 x12) (Pure.impl_RunSwing_4 F x0 x1 x2 x3 x4 x5 x6 x7 x11 x12) (Nat.succ ((List.length (Pure.impl_RunSwing_4 F x0 x1 x2 x3 x4 x5 x6 x7 x11 x12)) + 0)) 0 []))) with
              | true =>
                intro _; rfl
              | false =>
                intro h; exact absurd h Bool.false_ne_true
            | false =>
              cases (Pure.impl_toldNumbers_okB F (Prod.snd (Pure.impl_SwingsApart_L0 F (Int.ofNat (List.length (Pure.impl_RunSwing_4 F x0 x1 x2 x3 x4 x5 x6 x7 x11 x12))) (Pure.impl_RunSwing_4 F x0 x1 x2 x3 x4 x8 x9 x10 x11 x12) (Pure.impl_RunSwing_4 F x0 x1 x2 x3 x4 x5 x6 x7 x11 x12) (Nat.succ ((List.length (Pure.impl_RunSwing_4 F x0 x1 x2 x3 x4 x5 x6 x7 x11 x12)) + 0)) 0 []))) with
              | true =>
                intro _; rfl
              | false =>
                intro h; exact absurd h Bool.false_ne_true
          | false =>
            intro h; exact absurd h Bool.false_ne_true
        | false =>
          intro _; rfl
      | false =>
        intro _; rfl
    | false =>
      intro h; exact absurd h Bool.false_ne_true
  | false =>
    intro h; exact absurd h Bool.false_ne_true
theorem ok_impl_SwingsApart : CallOK Try.prog 53 (c_impl_SwingsApart real) := by
  refine callOK_of fun args h ret hc => ?_
  unfold c_impl_SwingsApart at hc
  split at hc
  · rename_i x0 x1 x2 x3 x4 x5 x6 x7 x8 x9 x10 x11 x12
    obtain ⟨hok, rfl⟩ := some_ret hc
    exact holds_ev2 prog_ok (allOK_cons ok_impl_RunSwing (allOK_cons ok_impl_abs allOK_nil)) (allTwo_cons ok2_impl_toldNumbers allTwo_nil) Try.func53 rfl rfl (smL_cons (body := .loop (loopB 0 (codeOf Try.f53))) (by kernel_rfl) t_impl_SwingsApart_L0 smL_nil) rfl (e_impl_SwingsApart real x0 x1 x2 x3 x4 x5 x6 x7 x8 x9 x10 x11 x12 hok)
  · cases hc
def Pure.laws_FnExactSwingsApart (F : FOps) (x0 : Int) (x1 : Int) (x2 : Int) (x3 : Int) (x4 : Int) (x5 : Int) (x6 : Int) (x7 : Int) (x8 : Int) (x9 : Int) (x10 : Int) (x11 : Int) (x12 : Int) : Bool := bif Pure.laws_eqFloat32S F (Pure.impl_SwingsApart_1 F x0 x1 x2 x3 x4 x5 x6 x7 x8 x9 x10 x11 x12) (Pure.spec_SwingsApart_1 F x0 x1 x2 x3 x4 x5 x6 x7 x8 x9 x10 x11 x12) then bif (Pure.impl_SwingsApart F x0 x1 x2 x3 x4 x5 x6 x7 x8 x9 x10 x11 x12) == (Pure.spec_SwingsApart F x0 x1 x2 x3 x4 x5 x6 x7 x8 x9 x10 x11 x12) then bif Decidable.decide ((Pure.laws_heldFloat32S F (Pure.laws_markFloat32S_1 F (Pure.impl_SwingsApart_1 F x0 x1 x2 x3 x4 x5 x6 x7 x8 x9 x10 x11 x12) 1) 1) < 0) then false else bif (Pure.laws_heldFloat32S F (Pure.laws_markFloat32S_1 F (Pure.impl_SwingsApart_1 F x0 x1 x2 x3 x4 x5 x6 x7 x8 x9 x10 x11 x12) 1) 1) != (Pure.laws_markFloat32S F (Pure.impl_SwingsApart_1 F x0 x1 x2 x3 x4 x5 x6 x7 x8 x9 x10 x11 x12) 1) then false else true else false else false
def Pure.laws_FnExactSwingsApart_ok (F : FOps) (x0 : Int) (x1 : Int) (x2 : Int) (x3 : Int) (x4 : Int) (x5 : Int) (x6 : Int) (x7 : Int) (x8 : Int) (x9 : Int) (x10 : Int) (x11 : Int) (x12 : Int) : Bool := bif Pure.spec_SwingsApart_ok F x0 x1 x2 x3 x4 x5 x6 x7 x8 x9 x10 x11 x12 then bif Pure.impl_SwingsApart_ok F x0 x1 x2 x3 x4 x5 x6 x7 x8 x9 x10 x11 x12 then bif Pure.laws_eqFloat32S_ok F (Pure.impl_SwingsApart_1 F x0 x1 x2 x3 x4 x5 x6 x7 x8 x9 x10 x11 x12) (Pure.spec_SwingsApart_1 F x0 x1 x2 x3 x4 x5 x6 x7 x8 x9 x10 x11 x12) then bif Pure.laws_eqFloat32S F (Pure.impl_SwingsApart_1 F x0 x1 x2 x3 x4 x5 x6 x7 x8 x9 x10 x11 x12) (Pure.spec_SwingsApart_1 F x0 x1 x2 x3 x4 x5 x6 x7 x8 x9 x10 x11 x12) then bif (Pure.impl_SwingsApart F x0 x1 x2 x3 x4 x5 x6 x7 x8 x9 x10 x11 x12) == (Pure.spec_SwingsApart F x0 x1 x2 x3 x4 x5 x6 x7 x8 x9 x10 x11 x12) then bif Pure.laws_markFloat32S_ok F (Pure.impl_SwingsApart_1 F x0 x1 x2 x3 x4 x5 x6 x7 x8 x9 x10 x11 x12) 1 then Pure.laws_heldFloat32S_ok F (Pure.laws_markFloat32S_1 F (Pure.impl_SwingsApart_1 F x0 x1 x2 x3 x4 x5 x6 x7 x8 x9 x10 x11 x12) 1) 1 else false else true else true else false else false else false
def c_laws_FnExactSwingsApart (F : FOps) : Con
  | [V.agg [A.fl FloatKind.f32 x0, A.fl FloatKind.f32 x1, A.fl FloatKind.f32 x2, A.fl FloatKind.f32 x3, A.fl FloatKind.f32 x4], V.agg [A.fl FloatKind.f32 x5, A.fl FloatKind.f32 x6, A.fl FloatKind.f32 x7], V.agg [A.fl FloatKind.f32 x8, A.fl FloatKind.f32 x9, A.fl FloatKind.f32 x10], V.at (A.fl FloatKind.f32 x11), V.at (A.int IntKind.i64 x12)], [] => some (Pure.laws_FnExactSwingsApart_ok F x0 x1 x2 x3 x4 x5 x6 x7 x8 x9 x10 x11 x12, ⟨V.at (A.bool (Pure.laws_FnExactSwingsApart F x0 x1 x2 x3 x4 x5 x6 x7 x8 x9 x10 x11 x12)), none, []⟩)
  | _, _ => none
theorem e_laws_FnExactSwingsApart (F : FOps) (x0 : Int) (x1 : Int) (x2 : Int) (x3 : Int) (x4 : Int) (x5 : Int) (x6 : Int) (x7 : Int) (x8 : Int) (x9 : Int) (x10 : Int) (x11 : Int) (x12 : Int) : Pure.laws_FnExactSwingsApart_ok F x0 x1 x2 x3 x4 x5 x6 x7 x8 x9 x10 x11 x12 = true → evFn (cxS F tyl [(33, c_laws_toPendulum F), (34, c_laws_toSwing F), (52, c_spec_SwingsApart F), (53, c_impl_SwingsApart F), (40, c_laws_eqFloat32S F), (41, c_laws_markFloat32S F), (42, c_laws_heldFloat32S F)] [41] [] 0) Try.f13 false [V.agg [A.fl FloatKind.f32 x0, A.fl FloatKind.f32 x1, A.fl FloatKind.f32 x2, A.fl FloatKind.f32 x3, A.fl FloatKind.f32 x4], V.agg [A.fl FloatKind.f32 x5, A.fl FloatKind.f32 x6, A.fl FloatKind.f32 x7], V.agg [A.fl FloatKind.f32 x8, A.fl FloatKind.f32 x9, A.fl FloatKind.f32 x10], V.at (A.fl FloatKind.f32 x11), V.at (A.int IntKind.i64 x12)] [] = some ⟨V.at (A.bool (Pure.laws_FnExactSwingsApart F x0 x1 x2 x3 x4 x5 x6 x7 x8 x9 x10 x11 x12)), none, []⟩ := by
  have h0 : evFn (cxS F tyl [(33, c_laws_toPendulum F), (34, c_laws_toSwing F), (52, c_spec_SwingsApart F), (53, c_impl_SwingsApart F), (40, c_laws_eqFloat32S F), (41, c_laws_markFloat32S F), (42, c_laws_heldFloat32S F)] [41] [] 0) Try.f13 false [V.agg [A.fl FloatKind.f32 x0, A.fl FloatKind.f32 x1, A.fl FloatKind.f32 x2, A.fl FloatKind.f32 x3, A.fl FloatKind.f32 x4], V.agg [A.fl FloatKind.f32 x5, A.fl FloatKind.f32 x6, A.fl FloatKind.f32 x7], V.agg [A.fl FloatKind.f32 x8, A.fl FloatKind.f32 x9, A.fl FloatKind.f32 x10], V.at (A.fl FloatKind.f32 x11), V.at (A.int IntKind.i64 x12)] [] = bif Pure.spec_SwingsApart_ok F x0 x1 x2 x3 x4 x5 x6 x7 x8 x9 x10 x11 x12 then bif Pure.impl_SwingsApart_ok F x0 x1 x2 x3 x4 x5 x6 x7 x8 x9 x10 x11 x12 then bif Pure.laws_eqFloat32S_ok F (Pure.impl_SwingsApart_1 F x0 x1 x2 x3 x4 x5 x6 x7 x8 x9 x10 x11 x12) (Pure.spec_SwingsApart_1 F x0 x1 x2 x3 x4 x5 x6 x7 x8 x9 x10 x11 x12) then bif Bool.not (Pure.laws_eqFloat32S F (Pure.impl_SwingsApart_1 F x0 x1 x2 x3 x4 x5 x6 x7 x8 x9 x10 x11 x12) (Pure.spec_SwingsApart_1 F x0 x1 x2 x3 x4 x5 x6 x7 x8 x9 x10 x11 x12)) then some ⟨V.at (A.bool false), none, []⟩ else bif Bool.not ((Pure.impl_SwingsApart F x0 x1 x2 x3 x4 x5 x6 x7 x8 x9 x10 x11 x12) == (Pure.spec_SwingsApart F x0 x1 x2 x3 x4 x5 x6 x7 x8 x9 x10 x11 x12)) then some ⟨V.at (A.bool false), none, []⟩ else bif Pure.laws_markFloat32S_ok F (Pure.impl_SwingsApart_1 F x0 x1 x2 x3 x4 x5 x6 x7 x8 x9 x10 x11 x12) 1 then bif Pure.laws_heldFloat32S_ok F (Pure.laws_markFloat32S_1 F (Pure.impl_SwingsApart_1 F x0 x1 x2 x3 x4 x5 x6 x7 x8 x9 x10 x11 x12) 1) 1 then bif Decidable.decide ((Pure.laws_heldFloat32S F (Pure.laws_markFloat32S_1 F (Pure.impl_SwingsApart_1 F x0 x1 x2 x3 x4 x5 x6 x7 x8 x9 x10 x11 x12) 1) 1) < 0) then some ⟨V.at (A.bool false), none, []⟩ else bif (Pure.laws_heldFloat32S F (Pure.laws_markFloat32S_1 F (Pure.impl_SwingsApart_1 F x0 x1 x2 x3 x4 x5 x6 x7 x8 x9 x10 x11 x12) 1) 1) != (Pure.laws_markFloat32S F (Pure.impl_SwingsApart_1 F x0 x1 x2 x3 x4 x5 x6 x7 x8 x9 x10 x11 x12) 1) then some ⟨V.at (A.bool false), none, []⟩ else bif Pure.impl_SwingsApart_ok F x0 x1 x2 x3 x4 x5 x6 x7 x8 x9 x10 x11 x12 then bif Pure.laws_eqFloat32S_ok F (Pure.impl_SwingsApart_1 F x0 x1 x2 x3 x4 x5 x6 x7 x8 x9 x10 x11 x12) (Pure.spec_SwingsApart_1 F x0 x1 x2 x3 x4 x5 x6 x7 x8 x9 x10 x11 x12) then bif Bool.not (Pure.laws_eqFloat32S F (Pure.impl_SwingsApart_1 F x0 x1 x2 x3 x4 x5 x6 x7 x8 x9 x10 x11 x12) (Pure.spec_SwingsApart_1 F x0 x1 x2 x3 x4 x5 x6 x7 x8 x9 x10 x11 x12)) then some ⟨V.at (A.bool false), none, []⟩ else bif Bool.not ((Pure.impl_SwingsApart F x0 x1 x2 x3 x4 x5 x6 x7 x8 x9 x10 x11 x12) == (Pure.spec_SwingsApart F x0 x1 x2 x3 x4 x5 x6 x7 x8 x9 x10 x11 x12)) then some ⟨V.at (A.bool false), none, []⟩ else bif Pure.laws_heldFloat32S_ok F (Pure.laws_markFloat32S_1 F (Pure.impl_SwingsApart_1 F x0 x1 x2 x3 x4 x5 x6 x7 x8 x9 x10 x11 x12) 1) 1 then bif Decidable.decide ((Pure.laws_heldFloat32S F (Pure.laws_markFloat32S_1 F (Pure.impl_SwingsApart_1 F x0 x1 x2 x3 x4 x5 x6 x7 x8 x9 x10 x11 x12) 1) 1) < 0) then some ⟨V.at (A.bool false), none, []⟩ else bif (Pure.laws_heldFloat32S F (Pure.laws_markFloat32S_1 F (Pure.impl_SwingsApart_1 F x0 x1 x2 x3 x4 x5 x6 x7 x8 x9 x10 x11 x12) 1) 1) != (Pure.laws_markFloat32S F (Pure.impl_SwingsApart_1 F x0 x1 x2 x3 x4 x5 x6 x7 x8 x9 x10 x11 x12) 1) then some ⟨V.at (A.bool false), none, []⟩ else some ⟨V.at (A.bool true), none, []⟩ else none else none else none else none else none else none else none else none := by kernel_rfl
  rw [h0]
  unfold Pure.laws_FnExactSwingsApart Pure.laws_FnExactSwingsApart_ok
  cases (Pure.spec_SwingsApart_ok F x0 x1 x2 x3 x4 x5 x6 x7 x8 x9 x10 x11 x12) with
  | true =>
    cases (Pure.impl_SwingsApart_ok F x0 x1 x2 x3 x4 x5 x6 x7 x8 x9 x10 x11 x12) with
    | true =>
      cases (Pure.laws_eqFloat32S_ok F (Pure.impl_SwingsApart_1 F x0 x1 x2 x3 x4 x5 x6 x7 x8 x9 x10 x11 x12) (Pure.spec_SwingsApart_1 F x0 x1 x2 x3 x4 x5 x6 x7 x8 x9 x10 x11 x12)) with
      | true =>
        cases (Pure.laws_eqFloat32S F (Pure.impl_SwingsApart_1 F x0 x1 x2 x3 x4 x5 x6 x7 x8 x9 x10 x11 x12) (Pure.spec_SwingsApart_1 F x0 x1 x2 x3 x4 x5 x6 x7 x8 x9 x10 x11 x12)) with
        | true =>
          cases ((Pure.impl_SwingsApart F x0 x1 x2 x3 x4 x5 x6 x7 x8 x9 x10 x11 x12) == (Pure.spec_SwingsApart F x0 x1 x2 x3 x4 x5 x6 x7 x8 x9 x10 x11 x12)) with
          | true =>
            cases (Pure.laws_markFloat32S_ok F (Pure.impl_SwingsApart_1 F x0 x1 x2 x3 x4 x5 x6 x7 x8 x9 x10 x11 x12) 1) with
            | true =>
              cases (Pure.laws_heldFloat32S_ok F (Pure.laws_markFloat32S_1 F (Pure.impl_SwingsApart_1 F x0 x1 x2 x3 x4 x5 x6 x7 x8 x9 x10 x11 x12) 1) 1) with
              | true =>
                cases (Decidable.decide ((Pure.laws_heldFloat32S F (Pure.laws_markFloat32S_1 F (Pure.impl_SwingsApart_1 F x0 x1 x2 x3 x4 x5 x6 x7 x8 x9 x10 x11 x12) 1) 1) < 0)) with
                | true =>
                  intro _; rfl
                | false =>
                  cases ((Pure.laws_heldFloat32S F (Pure.laws_markFloat32S_1 F (Pure.impl_SwingsApart_1 F x0 x1 x2 x3 x4 x5 x6 x7 x8 x9 x10 x11 x12) 1) 1) != (Pure.laws_markFloat32S F (Pure.impl_SwingsApart_1 F x0 x1 x2 x3 x4 x5 x6 x7 x8 x9 x10 x11 x12) 1)) with
                  | true =>
                    intro _; rfl
                  | false =>
                    intro _; rfl
              | false =>
                intro h; exact absurd h Bool.false_ne_true
            | false =>
              intro h; exact absurd h Bool.false_ne_true
          | false =>
            intro _; rfl
        | false =>
          intro _; rfl
      | false =>
        intro h; exact absurd h Bool.false_ne_true
    | false =>
      intro h; exact absurd h Bool.false_ne_true
  | false =>
    intro h; exact absurd h Bool.false_ne_true
theorem ok_laws_FnExactSwingsApart : CallOK Try.prog 13 (c_laws_FnExactSwingsApart real) := by
  refine callOK_of fun args h ret hc => ?_
  unfold c_laws_FnExactSwingsApart at hc
  split at hc
  · rename_i x0 x1 x2 x3 x4 x5 x6 x7 x8 x9 x10 x11 x12
    obtain ⟨hok, rfl⟩ := some_ret hc
    exact holds_ev prog_ok (allOK_cons ok_laws_toPendulum (allOK_cons ok_laws_toSwing (allOK_cons ok_spec_SwingsApart (allOK_cons ok_impl_SwingsApart (allOK_cons ok_laws_eqFloat32S (allOK_cons ok_laws_markFloat32S (allOK_cons ok_laws_heldFloat32S allOK_nil))))))) Try.func13 rfl rfl smL_nil rfl (e_laws_FnExactSwingsApart real x0 x1 x2 x3 x4 x5 x6 x7 x8 x9 x10 x11 x12 hok)
  · cases hc
end Go.Fx
