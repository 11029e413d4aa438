import Derived.Test.YtmcfcijddhgphaaXr4m
import Derived.KernelRfl
namespace Go.Fx
open Go.Proofs
set_option maxRecDepth 100000
def Pure.spec_l01Bits (F : FOps) (x0 : Int) : Int := bif F.cmp .neq .f32 x0 x0 then 2143289344 else IntKind.wrap .i64 x0
def c_spec_l01Bits (F : FOps) : Con
  | [V.at (A.fl .f32 x0)], [] => some (true, ⟨V.at (A.int .i64 (Pure.spec_l01Bits F x0)), none, []⟩)
  | _, _ => none
theorem e_spec_l01Bits (F : FOps) (x0 : Int) : evFn (cxS F tyl [(97, c_math_Float32bits F)] [] [] 0) Try.f95 false [V.at (A.fl .f32 x0)] [] = some ⟨V.at (A.int .i64 (Pure.spec_l01Bits F x0)), none, []⟩ := by
  have h0 : evFn (cxS F tyl [(97, c_math_Float32bits F)] [] [] 0) Try.f95 false [V.at (A.fl .f32 x0)] [] = bif F.cmp .neq .f32 x0 x0 then some ⟨V.at (A.int .i64 2143289344), none, []⟩ else bif bif F.cmp .neq .f32 x0 x0 then false else true then some ⟨V.at (A.int .i64 (IntKind.wrap .i64 x0)), none, []⟩ else none := by kernel_rfl
  rw [h0]
  unfold Pure.spec_l01Bits
  cases (F.cmp .neq .f32 x0 x0) with
  | true =>
    rfl
  | false =>
    rfl
theorem ok_spec_l01Bits : CallOK Try.prog 95 (c_spec_l01Bits real) := by
  refine callOK_of fun args h ret hc => ?_
  unfold c_spec_l01Bits at hc
  split at hc
  · rename_i x0
    obtain ⟨_, rfl⟩ := some_ret hc
    exact holds_ev prog_ok (allOK_cons ok_math_Float32bits allOK_nil) Try.func95 rfl rfl smL_nil rfl (e_spec_l01Bits real x0)
  · cases hc
def Pure.spec_l01Same (F : FOps) (x0 x1 : Int) : Bool := (Pure.spec_l01Bits F x0) == (Pure.spec_l01Bits F x1)
def c_spec_l01Same (F : FOps) : Con
  | [V.at (A.fl .f32 x0), V.at (A.fl .f32 x1)], [] => some (true, ⟨V.at (A.bool (Pure.spec_l01Same F x0 x1)), none, []⟩)
  | _, _ => none
theorem e_spec_l01Same (F : FOps) (x0 x1 : Int) : evFn (cxS F tyl [(95, c_spec_l01Bits F)] [] [] 0) Try.f54 false [V.at (A.fl .f32 x0), V.at (A.fl .f32 x1)] [] = some ⟨V.at (A.bool (Pure.spec_l01Same F x0 x1)), none, []⟩ := by
  kernel_rfl
theorem ok_spec_l01Same : CallOK Try.prog 54 (c_spec_l01Same real) := by
  refine callOK_of fun args h ret hc => ?_
  unfold c_spec_l01Same at hc
  split at hc
  · rename_i x0 x1
    obtain ⟨_, rfl⟩ := some_ret hc
    exact holds_ev prog_ok (allOK_cons ok_spec_l01Bits allOK_nil) Try.func54 rfl rfl smL_nil rfl (e_spec_l01Same real x0 x1)
  · cases hc
def c_spec_SameNumber (F : FOps) : Con
  | [V.at (A.fl .f32 x0), V.at (A.fl .f32 x1)], [] => some (true, ⟨V.at (A.bool (Pure.spec_l01Same F x0 x1)), none, []⟩)
  | _, _ => none
theorem e_spec_SameNumber (F : FOps) (x0 x1 : Int) : evFn (cxS F tyl [(54, c_spec_l01Same F)] [] [] 0) Try.f19 false [V.at (A.fl .f32 x0), V.at (A.fl .f32 x1)] [] = some ⟨V.at (A.bool (Pure.spec_l01Same F x0 x1)), none, []⟩ := by
  kernel_rfl
theorem ok_spec_SameNumber : CallOK Try.prog 19 (c_spec_SameNumber real) := by
  refine callOK_of fun args h ret hc => ?_
  unfold c_spec_SameNumber at hc
  split at hc
  · rename_i x0 x1
    obtain ⟨_, rfl⟩ := some_ret hc
    exact holds_ev prog_ok (allOK_cons ok_spec_l01Same allOK_nil) Try.func19 rfl rfl smL_nil rfl (e_spec_SameNumber real x0 x1)
  · cases hc
def Pure.impl_PeriodOf_L0 (F : FOps) (y0 y1 : Int) (y3 : List (List Int)) : Nat → Int → (Bool × Bool × Int)
  | 0, _ => (false, false, 0)
  | n + 1, y2 => bif (decide (y2 ≤ y1)) then (bif (decide (0 ≤ y2)) then (bif (decide (y2 < (Int.ofNat y3.length))) then (bif (decide (0 < (Int.ofNat y3.length))) then (bif (F.cmp .leq .f32 (F.abs .f32 (F.bin .sub .f32 ((y3.getD y2.toNat []).getD 0 0) (List.getD (List.getD y3 0 []) 0 0))) y0) then ((true, true, y2)) else (Pure.impl_PeriodOf_L0 F y0 y1 y3 n (IntKind.wrap .i64 (y2 + 1)))) else ((false, false, 0))) else ((false, false, 0))) else ((false, false, 0))) else ((true, false, 0))
def R_impl_PeriodOf_L0 (r : (Bool × Bool × Int)) : Bool × Bool × (Ex × List V × List Ob) × (Ex × List V × List Ob) := ((r).1, (r).2.1, (Ex.normal, [V.at A.undef, V.at A.undef], []), (Ex.ret, [V.at (A.int .i64 (r).2.2), V.at (A.bool true)], []))
def S_impl_PeriodOf_L0 (F : FOps) : Sm := ⟨[2, 4, 12, 14], [24, 2, 30, 2], [10, 11], fun vals hp => match vals, hp with
  | [V.at (A.fl .f32 y0), V.at (A.int .i64 y1), V.at (A.sl 0), V.at (A.int .i64 y2)], [⟨true, .rows [K.f .f32] y3⟩] => some (R_impl_PeriodOf_L0  (Pure.impl_PeriodOf_L0 F y0 y1 y3 (y1 - y2 + 2).toNat y2))
  | _, _ => none⟩
theorem l_impl_PeriodOf_L0 (F : FOps) (y0 y1 : Int) (y3 : List (List Int)) : ∀ (fuel : Nat) (y2 : Int), (Pure.impl_PeriodOf_L0 F y0 y1 y3 fuel y2).1 = true → loopOf (cxS F tyl [(51, c_impl_in F), (17, c_impl_GrowOrbit F), (55, c_impl_abs F)] [] [] 0) 0 46 0 [2, 4, 12, 14] [24, 2, 30, 2] [10, 11] (loopB 0 (codeOf Try.f20)) fuel [V.at (A.fl .f32 y0), V.at (A.int .i64 y1), V.at (A.sl 0), V.at (A.int .i64 y2)] [⟨true, .rows [K.f .f32] y3⟩] = resOf (R_impl_PeriodOf_L0  (Pure.impl_PeriodOf_L0 F y0 y1 y3 fuel y2)) := by
  intro fuel
  induction fuel with
  | zero => intro y2 h; exact absurd h Bool.false_ne_true
  | succ n ih =>
    intro y2
    have h0 : roundOf (cxS F tyl [(51, c_impl_in F), (17, c_impl_GrowOrbit F), (55, c_impl_abs F)] [] [] 0) 0 46 0 [2, 4, 12, 14] [24, 2, 30, 2] [10, 11] (loopB 0 (codeOf Try.f20)) [V.at (A.fl .f32 y0), V.at (A.int .i64 y1), V.at (A.sl 0), V.at (A.int .i64 y2)] [⟨true, .rows [K.f .f32] y3⟩] = (bif decide (y2 ≤ y1) then bif decide (0 ≤ y2) then bif decide (y2 < (Int.ofNat y3.length)) then bif decide (0 < (Int.ofNat y3.length)) then bif F.cmp .leq .f32 (F.abs .f32 (F.bin .sub .f32 ((y3.getD y2.toNat []).getD 0 0) (List.getD (List.getD y3 0 []) 0 0))) y0 then some (false, (Ex.ret, ([V.at (A.int .i64 y2), V.at (A.bool true)], []))) else some (true, (Ex.normal, ([V.at (A.fl .f32 y0), V.at (A.int .i64 y1), V.at (A.sl 0), V.at (A.int .i64 (IntKind.wrap .i64 (y2 + 1)))], [⟨true, .rows [K.f .f32] y3⟩]))) else none else none else none else some (false, (Ex.normal, ([V.at A.undef, V.at A.undef], [])))) := by kernel_rfl
    unfold loopOf
    rw [h0]
    unfold Pure.impl_PeriodOf_L0
    cases (decide (y2 ≤ y1)) with
    | true =>
      cases (decide (0 ≤ y2)) with
      | true =>
        cases (decide (y2 < (Int.ofNat y3.length))) with
        | true =>
          cases (decide (0 < (Int.ofNat y3.length))) with
          | true =>
            cases (F.cmp .leq .f32 (F.abs .f32 (F.bin .sub .f32 ((y3.getD y2.toNat []).getD 0 0) (List.getD (List.getD y3 0 []) 0 0))) y0) with
            | true =>
              intro _; rfl
            | false =>
              exact ih _
          | false =>
            intro h; exact absurd h Bool.false_ne_true
        | false =>
          intro h; exact absurd h Bool.false_ne_true
      | false =>
        intro h; exact absurd h Bool.false_ne_true
    | false =>
      intro _; rfl
theorem t_impl_PeriodOf_L0 : SmTo Try.prog 0 46 (S_impl_PeriodOf_L0 real) 0 (.loop (loopB 0 (codeOf Try.f20))) := by
  refine smTo_ev (cl := [(51, c_impl_in real), (17, c_impl_GrowOrbit real), (55, c_impl_abs real)]) (ef := []) (sm := []) (un := 0) prog_ok (allOK_cons ok_impl_in (allOK_cons ok_impl_GrowOrbit (allOK_cons ok_impl_abs allOK_nil))) smL_nil ?_
  intro vals hp q r h hq
  unfold S_impl_PeriodOf_L0 at h
  dsimp only at h
  split at h
  · rename_i y0 y1 y2 y3
    obtain rfl := Option.some.inj h
    have h1 := hq
    unfold resOf at h1
    rw [chk_some] at h1
    exact ⟨_, (l_impl_PeriodOf_L0 real y0 y1 y3 _ y2 h1.1).trans hq⟩
  · cases h
def Pure.impl_PeriodOf (F : FOps) (x0 x1 x2 x3 x4 : Int) : Int := bif Pure.impl_in F x4 1 64 then bif Pure.impl_GrowOrbit F x0 x1 x3 (IntKind.wrap .i64 (x4 + 1)) then bif Prod.fst (Prod.snd (Pure.impl_PeriodOf_L0 F x2 x4 (Pure.impl_GrowOrbit_1 F x0 x1 x3 (IntKind.wrap .i64 (x4 + 1))) (Int.toNat ((x4 - 1) + 2)) 1)) then Prod.snd (Prod.snd (Pure.impl_PeriodOf_L0 F x2 x4 (Pure.impl_GrowOrbit_1 F x0 x1 x3 (IntKind.wrap .i64 (x4 + 1))) (Int.toNat ((x4 - 1) + 2)) 1)) else 0 else 0 else 0
def Pure.impl_PeriodOf_1 (F : FOps) (x0 x1 x2 x3 x4 : Int) : Bool := bif Pure.impl_in F x4 1 64 then bif Pure.impl_GrowOrbit F x0 x1 x3 (IntKind.wrap .i64 (x4 + 1)) then Prod.fst (Prod.snd (Pure.impl_PeriodOf_L0 F x2 x4 (Pure.impl_GrowOrbit_1 F x0 x1 x3 (IntKind.wrap .i64 (x4 + 1))) (Int.toNat ((x4 - 1) + 2)) 1)) else false else false
def Pure.impl_PeriodOf_ok (F : FOps) (x0 x1 x2 x3 x4 : Int) : Bool := bif Pure.impl_in F x4 1 64 then bif Pure.impl_GrowOrbit_ok F x0 x1 x3 (IntKind.wrap .i64 (x4 + 1)) then bif Pure.impl_GrowOrbit F x0 x1 x3 (IntKind.wrap .i64 (x4 + 1)) then Prod.fst (Pure.impl_PeriodOf_L0 F x2 x4 (Pure.impl_GrowOrbit_1 F x0 x1 x3 (IntKind.wrap .i64 (x4 + 1))) (Int.toNat ((x4 - 1) + 2)) 1) else true else false else true
def c_impl_PeriodOf (F : FOps) : Con
  | [V.at (A.fl .f32 x0), V.at (A.fl .f32 x1), V.at (A.fl .f32 x2), V.at (A.int .i64 x3), V.at (A.int .i64 x4)], [] => some (Pure.impl_PeriodOf_ok F x0 x1 x2 x3 x4, ⟨V.tup [(false, [A.int .i64 (Pure.impl_PeriodOf F x0 x1 x2 x3 x4)]), (false, [A.bool (Pure.impl_PeriodOf_1 F x0 x1 x2 x3 x4)])], none, []⟩)
  | _, _ => none
theorem e_impl_PeriodOf (F : FOps) (x0 x1 x2 x3 x4 : Int) : Pure.impl_PeriodOf_ok F x0 x1 x2 x3 x4 = true → evFn (cxS F tyl [(51, c_impl_in F), (17, c_impl_GrowOrbit F), (55, c_impl_abs F)] [] [(0, S_impl_PeriodOf_L0 F)] 0) Try.f20 false [V.at (A.fl .f32 x0), V.at (A.fl .f32 x1), V.at (A.fl .f32 x2), V.at (A.int .i64 x3), V.at (A.int .i64 x4)] [] = some ⟨V.tup [(false, [A.int .i64 (Pure.impl_PeriodOf F x0 x1 x2 x3 x4)]), (false, [A.bool (Pure.impl_PeriodOf_1 F x0 x1 x2 x3 x4)])], none, []⟩ := by
  have h0 : evFn (cxS F tyl [(51, c_impl_in F), (17, c_impl_GrowOrbit F), (55, c_impl_abs F)] [] [(0, S_impl_PeriodOf_L0 F)] 0) Try.f20 false [V.at (A.fl .f32 x0), V.at (A.fl .f32 x1), V.at (A.fl .f32 x2), V.at (A.int .i64 x3), V.at (A.int .i64 x4)] [] = bif Bool.not (Pure.impl_in F x4 1 64) then some ⟨V.tup [(false, [A.int .i64 0]), (false, [A.bool false])], none, []⟩ else bif Pure.impl_GrowOrbit_ok F x0 x1 x3 (IntKind.wrap .i64 (x4 + 1)) then bif Bool.not (Pure.impl_GrowOrbit F x0 x1 x3 (IntKind.wrap .i64 (x4 + 1))) then some ⟨V.tup [(false, [A.int .i64 0]), (false, [A.bool false])], none, []⟩ else bif Prod.fst (Pure.impl_PeriodOf_L0 F x2 x4 (Pure.impl_GrowOrbit_1 F x0 x1 x3 (IntKind.wrap .i64 (x4 + 1))) (Int.toNat ((x4 - 1) + 2)) 1) then bif Prod.fst (Prod.snd (Pure.impl_PeriodOf_L0 F x2 x4 (Pure.impl_GrowOrbit_1 F x0 x1 x3 (IntKind.wrap .i64 (x4 + 1))) (Int.toNat ((x4 - 1) + 2)) 1)) then some ⟨V.tup [(false, [A.int .i64 (Prod.snd (Prod.snd (Pure.impl_PeriodOf_L0 F x2 x4 (Pure.impl_GrowOrbit_1 F x0 x1 x3 (IntKind.wrap .i64 (x4 + 1))) (Int.toNat ((x4 - 1) + 2)) 1)))]), (false, [A.bool true])], none, []⟩ else some ⟨V.tup [(false, [A.int .i64 0]), (false, [A.bool false])], none, []⟩ else none else none := by kernel_rfl
  rw [h0]
  unfold Pure.impl_PeriodOf Pure.impl_PeriodOf_1 Pure.impl_PeriodOf_ok
  cases (Pure.impl_in F x4 1 64) with
  | true =>
    cases (Pure.impl_GrowOrbit_ok F x0 x1 x3 (IntKind.wrap .i64 (x4 + 1))) with
    | true =>
      cases (Pure.impl_GrowOrbit F x0 x1 x3 (IntKind.wrap .i64 (x4 + 1))) with
      | true =>
        cases (Prod.fst (Pure.impl_PeriodOf_L0 F x2 x4 (Pure.impl_GrowOrbit_1 F x0 x1 x3 (IntKind.wrap .i64 (x4 + 1))) (Int.toNat ((x4 - 1) + 2)) 1)) with
        | true =>
          cases (Prod.fst (Prod.snd (Pure.impl_PeriodOf_L0 F x2 x4 (Pure.impl_GrowOrbit_1 F x0 x1 x3 (IntKind.wrap .i64 (x4 + 1))) (Int.toNat ((x4 - 1) + 2)) 1))) with
          | true =>
            intro _; rfl
          | false =>
            intro _; rfl
        | false =>
          intro h; exact absurd h Bool.false_ne_true
      | false =>
        intro _; rfl
    | false =>
      intro h; exact absurd h Bool.false_ne_true
  | false =>
    intro _; rfl
theorem ok_impl_PeriodOf : CallOK Try.prog 20 (c_impl_PeriodOf real) := by
  refine callOK_of fun args h ret hc => ?_
  unfold c_impl_PeriodOf at hc
  split at hc
  · rename_i x0 x1 x2 x3 x4
    obtain ⟨hok, rfl⟩ := some_ret hc
    exact holds_ev prog_ok (allOK_cons ok_impl_in (allOK_cons ok_impl_GrowOrbit (allOK_cons ok_impl_abs allOK_nil))) Try.func20 rfl rfl (smL_cons (body := .loop (loopB 0 (codeOf Try.f20))) (by kernel_rfl) t_impl_PeriodOf_L0 smL_nil) rfl (e_impl_PeriodOf real x0 x1 x2 x3 x4 hok)
  · cases hc
def Pure.laws_b10Gap (F : FOps) (x0 x1 : Int) : Int := bif F.cmp .lss .f64 x0 x1 then F.bin .sub .f64 x1 x0 else F.bin .sub .f64 x0 x1
def c_laws_b10Gap (F : FOps) : Con
  | [V.at (A.fl .f64 x0), V.at (A.fl .f64 x1)], [] => some (true, ⟨V.at (A.fl .f64 (Pure.laws_b10Gap F x0 x1)), none, []⟩)
  | _, _ => none
theorem e_laws_b10Gap (F : FOps) (x0 x1 : Int) : evFn (cxS F tyl [] [] [] 0) Try.f22 false [V.at (A.fl .f64 x0), V.at (A.fl .f64 x1)] [] = some ⟨V.at (A.fl .f64 (Pure.laws_b10Gap F x0 x1)), none, []⟩ := by
  have h0 : evFn (cxS F tyl [] [] [] 0) Try.f22 false [V.at (A.fl .f64 x0), V.at (A.fl .f64 x1)] [] = bif F.cmp .lss .f64 x0 x1 then some ⟨V.at (A.fl .f64 (F.bin .sub .f64 x1 x0)), none, []⟩ else some ⟨V.at (A.fl .f64 (F.bin .sub .f64 x0 x1)), none, []⟩ := by kernel_rfl
  rw [h0]
  unfold Pure.laws_b10Gap
  cases (F.cmp .lss .f64 x0 x1) with
  | true =>
    rfl
  | false =>
    rfl
theorem ok_laws_b10Gap : CallOK Try.prog 22 (c_laws_b10Gap real) := by
  refine callOK_of fun args h ret hc => ?_
  unfold c_laws_b10Gap at hc
  split at hc
  · rename_i x0 x1
    obtain ⟨_, rfl⟩ := some_ret hc
    exact holds_ev prog_ok allOK_nil Try.func22 rfl rfl smL_nil rfl (e_laws_b10Gap real x0 x1)
  · cases hc
def Pure.laws_FnGrowth_L0 (F : FOps) (y0 y1 y2 : Int) (y4 y5 y6 : List (List Int)) : Nat → Int → (Bool × Bool)
  | 0, _ => (false, false)
  | n + 1, y3 => bif (decide (y3 < y2)) then (bif (decide (0 ≤ y3)) then (bif (decide (y3 < (Int.ofNat y6.length))) then (bif (F.cmp .lss .f32 ((y6.getD y3.toNat []).getD 0 0) 3129152111) then ((true, true)) else (bif (decide (0 ≤ y3)) then (bif (decide (y3 < (Int.ofNat y6.length))) then (bif (F.cmp .gtr .f32 ((y6.getD y3.toNat []).getD 0 0) 1065361605) then ((true, true)) else (bif (y3 == 0) then (Pure.laws_FnGrowth_L0 F y0 y1 y2 y4 y5 y6 n (IntKind.wrap .i64 (y3 + 1))) else (bif (decide (0 ≤ (IntKind.wrap .i64 (y3 - 1)))) then (bif (decide ((IntKind.wrap .i64 (y3 - 1)) < (Int.ofNat y6.length))) then (bif (Pure.impl_GrowNext_ok F (List.getD (List.getD y6 (Int.toNat (IntKind.wrap .i64 (y3 - 1))) []) 0 0) y1) then (bif (Pure.impl_GrowNext_1 F (List.getD (List.getD y6 (Int.toNat (IntKind.wrap .i64 (y3 - 1))) []) 0 0) y1) then (bif (decide (0 ≤ y3)) then (bif (decide (y3 < (Int.ofNat y6.length))) then (bif (Pure.spec_l01Same F (Pure.impl_GrowNext F (List.getD (List.getD y6 (Int.toNat (IntKind.wrap .i64 (y3 - 1))) []) 0 0) y1) ((y6.getD y3.toNat []).getD 0 0)) then (Pure.laws_FnGrowth_L0 F y0 y1 y2 y4 y5 y6 n (IntKind.wrap .i64 (y3 + 1))) else ((true, true))) else ((false, false))) else ((false, false))) else ((true, true))) else ((false, false))) else ((false, false))) else ((false, false))))) else ((false, false))) else ((false, false)))) else ((false, false))) else ((false, false))) else ((true, false))
def R_laws_FnGrowth_L0 (y0 : Int) (y4 y5 : List (List Int)) (r : (Bool × Bool)) : Bool × Bool × (Ex × List V × List Ob) × (Ex × List V × List Ob) := ((r).1, (r).2, (Ex.normal, [V.at (A.sl 1), V.at A.undef, V.at (A.fl .f32 y0)], [⟨false, .rows [K.i .u8] y4⟩, ⟨false, .rows [K.i .u8] y5⟩]), (Ex.ret, [V.at (A.sl 1), V.at (A.bool false), V.at (A.fl .f32 y0)], [⟨false, .rows [K.i .u8] y4⟩, ⟨false, .rows [K.i .u8] y5⟩]))
def S_laws_FnGrowth_L0 (F : FOps) : Sm := ⟨[1, 5, 6, 9, 66, 67], [22, 24, 24, 30, 3, 3], [1, 4, 5], fun vals hp => match vals, hp with
  | [V.at (A.sl 1), V.at (A.fl .f32 y0), V.at (A.fl .f32 y1), V.at (A.sl 2), V.at (A.int .i64 y2), V.at (A.int .i64 y3)], [⟨false, .rows [K.i .u8] y4⟩, ⟨false, .rows [K.i .u8] y5⟩, ⟨true, .rows [K.f .f32] y6⟩] => some (R_laws_FnGrowth_L0 y0 y4 y5 (Pure.laws_FnGrowth_L0 F y0 y1 y2 y4 y5 y6 (y2 - y3 + 1).toNat y3))
  | _, _ => none⟩
theorem l_laws_FnGrowth_L0 (F : FOps) (y0 y1 y2 : Int) (y4 y5 y6 : List (List Int)) : ∀ (fuel : Nat) (y3 : Int), (Pure.laws_FnGrowth_L0 F y0 y1 y2 y4 y5 y6 fuel y3).1 = true → loopOf (cxS F tyl [(12, c_laws_b10Long F), (13, c_laws_b10At F), (17, c_impl_GrowOrbit F), (18, c_impl_GrowNext F), (19, c_spec_SameNumber F), (20, c_impl_PeriodOf F), (21, c_impl_GrowExponent F), (22, c_laws_b10Gap F)] [] [] 0) 2 157 0 [1, 5, 6, 9, 66, 67] [22, 24, 24, 30, 3, 3] [1, 4, 5] (loopB 0 (codeOf Try.f4)) fuel [V.at (A.sl 1), V.at (A.fl .f32 y0), V.at (A.fl .f32 y1), V.at (A.sl 2), V.at (A.int .i64 y2), V.at (A.int .i64 y3)] [⟨false, .rows [K.i .u8] y4⟩, ⟨false, .rows [K.i .u8] y5⟩, ⟨true, .rows [K.f .f32] y6⟩] = resOf (R_laws_FnGrowth_L0 y0 y4 y5 (Pure.laws_FnGrowth_L0 F y0 y1 y2 y4 y5 y6 fuel y3)) := by
  intro fuel
  induction fuel with
  | zero => intro y3 h; exact absurd h Bool.false_ne_true
  | succ n ih =>
    intro y3
    have h0 : roundOf (cxS F tyl [(12, c_laws_b10Long F), (13, c_laws_b10At F), (17, c_impl_GrowOrbit F), (18, c_impl_GrowNext F), (19, c_spec_SameNumber F), (20, c_impl_PeriodOf F), (21, c_impl_GrowExponent F), (22, c_laws_b10Gap F)] [] [] 0) 2 157 0 [1, 5, 6, 9, 66, 67] [22, 24, 24, 30, 3, 3] [1, 4, 5] (loopB 0 (codeOf Try.f4)) [V.at (A.sl 1), V.at (A.fl .f32 y0), V.at (A.fl .f32 y1), V.at (A.sl 2), V.at (A.int .i64 y2), V.at (A.int .i64 y3)] [⟨false, .rows [K.i .u8] y4⟩, ⟨false, .rows [K.i .u8] y5⟩, ⟨true, .rows [K.f .f32] y6⟩] = (bif decide (y3 < y2) then bif decide (0 ≤ y3) then bif decide (y3 < (Int.ofNat y6.length)) then bif F.cmp .lss .f32 ((y6.getD y3.toNat []).getD 0 0) 3129152111 then some (false, (Ex.ret, ([V.at (A.sl 1), V.at (A.bool false), V.at (A.fl .f32 y0)], [⟨false, .rows [K.i .u8] y4⟩, ⟨false, .rows [K.i .u8] y5⟩]))) else bif decide (0 ≤ y3) then bif decide (y3 < (Int.ofNat y6.length)) then bif F.cmp .gtr .f32 ((y6.getD y3.toNat []).getD 0 0) 1065361605 then some (false, (Ex.ret, ([V.at (A.sl 1), V.at (A.bool false), V.at (A.fl .f32 y0)], [⟨false, .rows [K.i .u8] y4⟩, ⟨false, .rows [K.i .u8] y5⟩]))) else bif y3 == 0 then some (true, (Ex.normal, ([V.at (A.sl 1), V.at (A.fl .f32 y0), V.at (A.fl .f32 y1), V.at (A.sl 2), V.at (A.int .i64 y2), V.at (A.int .i64 (IntKind.wrap .i64 (y3 + 1)))], [⟨false, .rows [K.i .u8] y4⟩, ⟨false, .rows [K.i .u8] y5⟩, ⟨true, .rows [K.f .f32] y6⟩]))) else bif decide (0 ≤ (IntKind.wrap .i64 (y3 - 1))) then bif decide ((IntKind.wrap .i64 (y3 - 1)) < (Int.ofNat y6.length)) then bif Pure.impl_GrowNext_ok F (List.getD (List.getD y6 (Int.toNat (IntKind.wrap .i64 (y3 - 1))) []) 0 0) y1 then bif Bool.not (Pure.impl_GrowNext_1 F (List.getD (List.getD y6 (Int.toNat (IntKind.wrap .i64 (y3 - 1))) []) 0 0) y1) then some (false, (Ex.ret, ([V.at (A.sl 1), V.at (A.bool false), V.at (A.fl .f32 y0)], [⟨false, .rows [K.i .u8] y4⟩, ⟨false, .rows [K.i .u8] y5⟩]))) else bif decide (0 ≤ y3) then bif decide (y3 < (Int.ofNat y6.length)) then bif Bool.not (Pure.spec_l01Same F (Pure.impl_GrowNext F (List.getD (List.getD y6 (Int.toNat (IntKind.wrap .i64 (y3 - 1))) []) 0 0) y1) ((y6.getD y3.toNat []).getD 0 0)) then some (false, (Ex.ret, ([V.at (A.sl 1), V.at (A.bool false), V.at (A.fl .f32 y0)], [⟨false, .rows [K.i .u8] y4⟩, ⟨false, .rows [K.i .u8] y5⟩]))) else some (true, (Ex.normal, ([V.at (A.sl 1), V.at (A.fl .f32 y0), V.at (A.fl .f32 y1), V.at (A.sl 2), V.at (A.int .i64 y2), V.at (A.int .i64 (IntKind.wrap .i64 (y3 + 1)))], [⟨false, .rows [K.i .u8] y4⟩, ⟨false, .rows [K.i .u8] y5⟩, ⟨true, .rows [K.f .f32] y6⟩]))) else none else none else none else none else none else none else none else none else none else some (false, (Ex.normal, ([V.at (A.sl 1), V.at A.undef, V.at (A.fl .f32 y0)], [⟨false, .rows [K.i .u8] y4⟩, ⟨false, .rows [K.i .u8] y5⟩])))) := by kernel_rfl
    unfold loopOf
    rw [h0]
    unfold Pure.laws_FnGrowth_L0
    cases (decide (y3 < y2)) with
    | true =>
      cases (decide (0 ≤ y3)) with
      | true =>
        cases (decide (y3 < (Int.ofNat y6.length))) with
        | true =>
          cases (F.cmp .lss .f32 ((y6.getD y3.toNat []).getD 0 0) 3129152111) with
          | true =>
            intro _; rfl
          | false =>
            cases (F.cmp .gtr .f32 ((y6.getD y3.toNat []).getD 0 0) 1065361605) with
            | true =>
              intro _; rfl
            | false =>
              cases (y3 == 0) with
              | true =>
                exact ih _
              | false =>
                cases (decide (0 ≤ (IntKind.wrap .i64 (y3 - 1)))) with
                | true =>
                  cases (decide ((IntKind.wrap .i64 (y3 - 1)) < (Int.ofNat y6.length))) with
                  | true =>
                    cases (Pure.impl_GrowNext_ok F (List.getD (List.getD y6 (Int.toNat (IntKind.wrap .i64 (y3 - 1))) []) 0 0) y1) with
                    | true =>
                      cases (Pure.impl_GrowNext_1 F (List.getD (List.getD y6 (Int.toNat (IntKind.wrap .i64 (y3 - 1))) []) 0 0) y1) with
                      | true =>
                        cases (Pure.spec_l01Same F (Pure.impl_GrowNext F (List.getD (List.getD y6 (Int.toNat (IntKind.wrap .i64 (y3 - 1))) []) 0 0) y1) ((y6.getD y3.toNat []).getD 0 0)) with
                        | true =>
                          exact ih _
                        | false =>
                          intro _; rfl
                      | false =>
                        intro _; rfl
                    | false =>
                      intro h; exact absurd h Bool.false_ne_true
                  | false =>
                    intro h; exact absurd h Bool.false_ne_true
                | false =>
                  intro h; exact absurd h Bool.false_ne_true
        | false =>
          intro h; exact absurd h Bool.false_ne_true
      | false =>
        intro h; exact absurd h Bool.false_ne_true
    | false =>
      intro _; rfl
theorem t_laws_FnGrowth_L0 : SmTo Try.prog 2 157 (S_laws_FnGrowth_L0 real) 0 (.loop (loopB 0 (codeOf Try.f4))) := by
  refine smTo_ev (cl := [(12, c_laws_b10Long real), (13, c_laws_b10At real), (17, c_impl_GrowOrbit real), (18, c_impl_GrowNext real), (19, c_spec_SameNumber real), (20, c_impl_PeriodOf real), (21, c_impl_GrowExponent real), (22, c_laws_b10Gap real)]) (ef := []) (sm := []) (un := 0) prog_ok (allOK_cons ok_laws_b10Long (allOK_cons ok_laws_b10At (allOK_cons ok_impl_GrowOrbit (allOK_cons ok_impl_GrowNext (allOK_cons ok_spec_SameNumber (allOK_cons ok_impl_PeriodOf (allOK_cons ok_impl_GrowExponent (allOK_cons ok_laws_b10Gap allOK_nil)))))))) smL_nil ?_
  intro vals hp q r h hq
  unfold S_laws_FnGrowth_L0 at h
  dsimp only at h
  split at h
  · rename_i y0 y1 y2 y3 y4 y5 y6
    obtain rfl := Option.some.inj h
    have h1 := hq
    unfold resOf at h1
    rw [chk_some] at h1
    exact ⟨_, (l_laws_FnGrowth_L0 real y0 y1 y2 y4 y5 y6 _ y3 h1.1).trans hq⟩
  · cases h
def Pure.laws_FnGrowth (F : FOps) (x0 x1 : List (List Int)) : Bool := bif Pure.laws_b10Long F x0 x1 then true else bif Pure.impl_GrowOrbit F (F.bin .quo .f32 (F.ofInt .f32 (IntKind.wrap .i64 (1 + (Pure.laws_b10At F x0 0 15)))) 1098907648) (F.bin .quo .f32 (F.ofInt .f32 (Pure.laws_b10At F x0 1 33)) 1090519040) (Pure.laws_b10At F x1 0 6) (IntKind.wrap .i64 (1 + (Pure.laws_b10At F x1 1 9))) then bif (Int.ofNat (List.length (Pure.impl_GrowOrbit_1 F (F.bin .quo .f32 (F.ofInt .f32 (IntKind.wrap .i64 (1 + (Pure.laws_b10At F x0 0 15)))) 1098907648) (F.bin .quo .f32 (F.ofInt .f32 (Pure.laws_b10At F x0 1 33)) 1090519040) (Pure.laws_b10At F x1 0 6) (IntKind.wrap .i64 (1 + (Pure.laws_b10At F x1 1 9)))))) != (IntKind.wrap .i64 (1 + (Pure.laws_b10At F x1 1 9))) then false else bif (Pure.laws_b10At F x1 0 6) == 0 then bif F.cmp .neq .f32 (List.getD (List.getD (Pure.impl_GrowOrbit_1 F (F.bin .quo .f32 (F.ofInt .f32 (IntKind.wrap .i64 (1 + (Pure.laws_b10At F x0 0 15)))) 1098907648) (F.bin .quo .f32 (F.ofInt .f32 (Pure.laws_b10At F x0 1 33)) 1090519040) (Pure.laws_b10At F x1 0 6) (IntKind.wrap .i64 (1 + (Pure.laws_b10At F x1 1 9)))) 0 []) 0 0) (F.bin .quo .f32 (F.ofInt .f32 (IntKind.wrap .i64 (1 + (Pure.laws_b10At F x0 0 15)))) 1098907648) then false else bif Prod.snd (Pure.laws_FnGrowth_L0 F (F.bin .quo .f32 (F.ofInt .f32 (IntKind.wrap .i64 (1 + (Pure.laws_b10At F x0 0 15)))) 1098907648) (F.bin .quo .f32 (F.ofInt .f32 (Pure.laws_b10At F x0 1 33)) 1090519040) (Int.ofNat (List.length (Pure.impl_GrowOrbit_1 F (F.bin .quo .f32 (F.ofInt .f32 (IntKind.wrap .i64 (1 + (Pure.laws_b10At F x0 0 15)))) 1098907648) (F.bin .quo .f32 (F.ofInt .f32 (Pure.laws_b10At F x0 1 33)) 1090519040) (Pure.laws_b10At F x1 0 6) (IntKind.wrap .i64 (1 + (Pure.laws_b10At F x1 1 9)))))) x0 x1 (Pure.impl_GrowOrbit_1 F (F.bin .quo .f32 (F.ofInt .f32 (IntKind.wrap .i64 (1 + (Pure.laws_b10At F x0 0 15)))) 1098907648) (F.bin .quo .f32 (F.ofInt .f32 (Pure.laws_b10At F x0 1 33)) 1090519040) (Pure.laws_b10At F x1 0 6) (IntKind.wrap .i64 (1 + (Pure.laws_b10At F x1 1 9)))) (Nat.succ ((List.length (Pure.impl_GrowOrbit_1 F (F.bin .quo .f32 (F.ofInt .f32 (IntKind.wrap .i64 (1 + (Pure.laws_b10At F x0 0 15)))) 1098907648) (F.bin .quo .f32 (F.ofInt .f32 (Pure.laws_b10At F x0 1 33)) 1090519040) (Pure.laws_b10At F x1 0 6) (IntKind.wrap .i64 (1 + (Pure.laws_b10At F x1 1 9))))) + 0)) 0) then false else bif Pure.impl_PeriodOf_1 F (F.bin .quo .f32 (F.ofInt .f32 (IntKind.wrap .i64 (1 + (Pure.laws_b10At F x0 0 15)))) 1098907648) (F.bin .quo .f32 (F.ofInt .f32 (IntKind.wrap .i64 (12 + (Pure.laws_b10At F x1 2 10)))) 1090519040) 981668463 120 4 then bif Pure.impl_GrowOrbit F (F.bin .quo .f32 (F.ofInt .f32 (IntKind.wrap .i64 (1 + (Pure.laws_b10At F x0 0 15)))) 1098907648) (F.bin .quo .f32 (F.ofInt .f32 (IntKind.wrap .i64 (12 + (Pure.laws_b10At F x1 2 10)))) 1090519040) 120 1 then bif (Pure.impl_PeriodOf F (F.bin .quo .f32 (F.ofInt .f32 (IntKind.wrap .i64 (1 + (Pure.laws_b10At F x0 0 15)))) 1098907648) (F.bin .quo .f32 (F.ofInt .f32 (IntKind.wrap .i64 (12 + (Pure.laws_b10At F x1 2 10)))) 1090519040) 981668463 120 4) == 1 then bif F.cmp .lss .f64 (Pure.laws_b10Gap F (F.conv .f32 .f64 (List.getD (List.getD (Pure.impl_GrowOrbit_1 F (F.bin .quo .f32 (F.ofInt .f32 (IntKind.wrap .i64 (1 + (Pure.laws_b10At F x0 0 15)))) 1098907648) (F.bin .quo .f32 (F.ofInt .f32 (IntKind.wrap .i64 (12 + (Pure.laws_b10At F x1 2 10)))) 1090519040) 120 1) 0 []) 0 0)) (F.bin .sub .f64 4607182418800017408 (F.bin .quo .f64 4607182418800017408 (F.conv .f32 .f64 (F.bin .quo .f32 (F.ofInt .f32 (IntKind.wrap .i64 (12 + (Pure.laws_b10At F x1 2 10)))) 1090519040))))) 4576918229304087675 then bif Pure.impl_GrowExponent_1 F (F.bin .quo .f32 (F.ofInt .f32 (IntKind.wrap .i64 (1 + (Pure.laws_b10At F x0 0 15)))) 1098907648) (F.bin .quo .f32 (F.ofInt .f32 (IntKind.wrap .i64 (12 + (Pure.laws_b10At F x1 2 10)))) 1090519040) 100 20 then F.cmp .lss .f32 (Pure.impl_GrowExponent F (F.bin .quo .f32 (F.ofInt .f32 (IntKind.wrap .i64 (1 + (Pure.laws_b10At F x0 0 15)))) 1098907648) (F.bin .quo .f32 (F.ofInt .f32 (IntKind.wrap .i64 (12 + (Pure.laws_b10At F x1 2 10)))) 1090519040) 100 20) 0 else true else false else false else false else false else bif Prod.snd (Pure.laws_FnGrowth_L0 F (F.bin .quo .f32 (F.ofInt .f32 (IntKind.wrap .i64 (1 + (Pure.laws_b10At F x0 0 15)))) 1098907648) (F.bin .quo .f32 (F.ofInt .f32 (Pure.laws_b10At F x0 1 33)) 1090519040) (Int.ofNat (List.length (Pure.impl_GrowOrbit_1 F (F.bin .quo .f32 (F.ofInt .f32 (IntKind.wrap .i64 (1 + (Pure.laws_b10At F x0 0 15)))) 1098907648) (F.bin .quo .f32 (F.ofInt .f32 (Pure.laws_b10At F x0 1 33)) 1090519040) (Pure.laws_b10At F x1 0 6) (IntKind.wrap .i64 (1 + (Pure.laws_b10At F x1 1 9)))))) x0 x1 (Pure.impl_GrowOrbit_1 F (F.bin .quo .f32 (F.ofInt .f32 (IntKind.wrap .i64 (1 + (Pure.laws_b10At F x0 0 15)))) 1098907648) (F.bin .quo .f32 (F.ofInt .f32 (Pure.laws_b10At F x0 1 33)) 1090519040) (Pure.laws_b10At F x1 0 6) (IntKind.wrap .i64 (1 + (Pure.laws_b10At F x1 1 9)))) (Nat.succ ((List.length (Pure.impl_GrowOrbit_1 F (F.bin .quo .f32 (F.ofInt .f32 (IntKind.wrap .i64 (1 + (Pure.laws_b10At F x0 0 15)))) 1098907648) (F.bin .quo .f32 (F.ofInt .f32 (Pure.laws_b10At F x0 1 33)) 1090519040) (Pure.laws_b10At F x1 0 6) (IntKind.wrap .i64 (1 + (Pure.laws_b10At F x1 1 9))))) + 0)) 0) then false else bif Pure.impl_PeriodOf_1 F (F.bin .quo .f32 (F.ofInt .f32 (IntKind.wrap .i64 (1 + (Pure.laws_b10At F x0 0 15)))) 1098907648) (F.bin .quo .f32 (F.ofInt .f32 (IntKind.wrap .i64 (12 + (Pure.laws_b10At F x1 2 10)))) 1090519040) 981668463 120 4 then bif Pure.impl_GrowOrbit F (F.bin .quo .f32 (F.ofInt .f32 (IntKind.wrap .i64 (1 + (Pure.laws_b10At F x0 0 15)))) 1098907648) (F.bin .quo .f32 (F.ofInt .f32 (IntKind.wrap .i64 (12 + (Pure.laws_b10At F x1 2 10)))) 1090519040) 120 1 then bif (Pure.impl_PeriodOf F (F.bin .quo .f32 (F.ofInt .f32 (IntKind.wrap .i64 (1 + (Pure.laws_b10At F x0 0 15)))) 1098907648) (F.bin .quo .f32 (F.ofInt .f32 (IntKind.wrap .i64 (12 + (Pure.laws_b10At F x1 2 10)))) 1090519040) 981668463 120 4) == 1 then bif F.cmp .lss .f64 (Pure.laws_b10Gap F (F.conv .f32 .f64 (List.getD (List.getD (Pure.impl_GrowOrbit_1 F (F.bin .quo .f32 (F.ofInt .f32 (IntKind.wrap .i64 (1 + (Pure.laws_b10At F x0 0 15)))) 1098907648) (F.bin .quo .f32 (F.ofInt .f32 (IntKind.wrap .i64 (12 + (Pure.laws_b10At F x1 2 10)))) 1090519040) 120 1) 0 []) 0 0)) (F.bin .sub .f64 4607182418800017408 (F.bin .quo .f64 4607182418800017408 (F.conv .f32 .f64 (F.bin .quo .f32 (F.ofInt .f32 (IntKind.wrap .i64 (12 + (Pure.laws_b10At F x1 2 10)))) 1090519040))))) 4576918229304087675 then bif Pure.impl_GrowExponent_1 F (F.bin .quo .f32 (F.ofInt .f32 (IntKind.wrap .i64 (1 + (Pure.laws_b10At F x0 0 15)))) 1098907648) (F.bin .quo .f32 (F.ofInt .f32 (IntKind.wrap .i64 (12 + (Pure.laws_b10At F x1 2 10)))) 1090519040) 100 20 then F.cmp .lss .f32 (Pure.impl_GrowExponent F (F.bin .quo .f32 (F.ofInt .f32 (IntKind.wrap .i64 (1 + (Pure.laws_b10At F x0 0 15)))) 1098907648) (F.bin .quo .f32 (F.ofInt .f32 (IntKind.wrap .i64 (12 + (Pure.laws_b10At F x1 2 10)))) 1090519040) 100 20) 0 else true else false else false else false else false else false
def Pure.laws_FnGrowth_ok (F : FOps) (x0 x1 : List (List Int)) : Bool := bif Pure.laws_b10Long F x0 x1 then true else bif Pure.laws_b10At_ok F x0 0 15 then bif Pure.laws_b10At_ok F x0 1 33 then bif Pure.laws_b10At_ok F x1 0 6 then bif Pure.laws_b10At_ok F x1 1 9 then bif Pure.impl_GrowOrbit_ok F (F.bin .quo .f32 (F.ofInt .f32 (IntKind.wrap .i64 (1 + (Pure.laws_b10At F x0 0 15)))) 1098907648) (F.bin .quo .f32 (F.ofInt .f32 (Pure.laws_b10At F x0 1 33)) 1090519040) (Pure.laws_b10At F x1 0 6) (IntKind.wrap .i64 (1 + (Pure.laws_b10At F x1 1 9))) then bif Pure.impl_GrowOrbit F (F.bin .quo .f32 (F.ofInt .f32 (IntKind.wrap .i64 (1 + (Pure.laws_b10At F x0 0 15)))) 1098907648) (F.bin .quo .f32 (F.ofInt .f32 (Pure.laws_b10At F x0 1 33)) 1090519040) (Pure.laws_b10At F x1 0 6) (IntKind.wrap .i64 (1 + (Pure.laws_b10At F x1 1 9))) then bif (Int.ofNat (List.length (Pure.impl_GrowOrbit_1 F (F.bin .quo .f32 (F.ofInt .f32 (IntKind.wrap .i64 (1 + (Pure.laws_b10At F x0 0 15)))) 1098907648) (F.bin .quo .f32 (F.ofInt .f32 (Pure.laws_b10At F x0 1 33)) 1090519040) (Pure.laws_b10At F x1 0 6) (IntKind.wrap .i64 (1 + (Pure.laws_b10At F x1 1 9)))))) != (IntKind.wrap .i64 (1 + (Pure.laws_b10At F x1 1 9))) then true else bif (Pure.laws_b10At F x1 0 6) == 0 then bif decide (0 < (Int.ofNat (List.length (Pure.impl_GrowOrbit_1 F (F.bin .quo .f32 (F.ofInt .f32 (IntKind.wrap .i64 (1 + (Pure.laws_b10At F x0 0 15)))) 1098907648) (F.bin .quo .f32 (F.ofInt .f32 (Pure.laws_b10At F x0 1 33)) 1090519040) (Pure.laws_b10At F x1 0 6) (IntKind.wrap .i64 (1 + (Pure.laws_b10At F x1 1 9))))))) then bif F.cmp .neq .f32 (List.getD (List.getD (Pure.impl_GrowOrbit_1 F (F.bin .quo .f32 (F.ofInt .f32 (IntKind.wrap .i64 (1 + (Pure.laws_b10At F x0 0 15)))) 1098907648) (F.bin .quo .f32 (F.ofInt .f32 (Pure.laws_b10At F x0 1 33)) 1090519040) (Pure.laws_b10At F x1 0 6) (IntKind.wrap .i64 (1 + (Pure.laws_b10At F x1 1 9)))) 0 []) 0 0) (F.bin .quo .f32 (F.ofInt .f32 (IntKind.wrap .i64 (1 + (Pure.laws_b10At F x0 0 15)))) 1098907648) then true else bif Prod.fst (Pure.laws_FnGrowth_L0 F (F.bin .quo .f32 (F.ofInt .f32 (IntKind.wrap .i64 (1 + (Pure.laws_b10At F x0 0 15)))) 1098907648) (F.bin .quo .f32 (F.ofInt .f32 (Pure.laws_b10At F x0 1 33)) 1090519040) (Int.ofNat (List.length (Pure.impl_GrowOrbit_1 F (F.bin .quo .f32 (F.ofInt .f32 (IntKind.wrap .i64 (1 + (Pure.laws_b10At F x0 0 15)))) 1098907648) (F.bin .quo .f32 (F.ofInt .f32 (Pure.laws_b10At F x0 1 33)) 1090519040) (Pure.laws_b10At F x1 0 6) (IntKind.wrap .i64 (1 + (Pure.laws_b10At F x1 1 9)))))) x0 x1 (Pure.impl_GrowOrbit_1 F (F.bin .quo .f32 (F.ofInt .f32 (IntKind.wrap .i64 (1 + (Pure.laws_b10At F x0 0 15)))) 1098907648) (F.bin .quo .f32 (F.ofInt .f32 (Pure.laws_b10At F x0 1 33)) 1090519040) (Pure.laws_b10At F x1 0 6) (IntKind.wrap .i64 (1 + (Pure.laws_b10At F x1 1 9)))) (Nat.succ ((List.length (Pure.impl_GrowOrbit_1 F (F.bin .quo .f32 (F.ofInt .f32 (IntKind.wrap .i64 (1 + (Pure.laws_b10At F x0 0 15)))) 1098907648) (F.bin .quo .f32 (F.ofInt .f32 (Pure.laws_b10At F x0 1 33)) 1090519040) (Pure.laws_b10At F x1 0 6) (IntKind.wrap .i64 (1 + (Pure.laws_b10At F x1 1 9))))) + 0)) 0) then bif Prod.snd (Pure.laws_FnGrowth_L0 F (F.bin .quo .f32 (F.ofInt .f32 (IntKind.wrap .i64 (1 + (Pure.laws_b10At F x0 0 15)))) 1098907648) (F.bin .quo .f32 (F.ofInt .f32 (Pure.laws_b10At F x0 1 33)) 1090519040) (Int.ofNat (List.length (Pure.impl_GrowOrbit_1 F (F.bin .quo .f32 (F.ofInt .f32 (IntKind.wrap .i64 (1 + (Pure.laws_b10At F x0 0 15)))) 1098907648) (F.bin .quo .f32 (F.ofInt .f32 (Pure.laws_b10At F x0 1 33)) 1090519040) (Pure.laws_b10At F x1 0 6) (IntKind.wrap .i64 (1 + (Pure.laws_b10At F x1 1 9)))))) x0 x1 (Pure.impl_GrowOrbit_1 F (F.bin .quo .f32 (F.ofInt .f32 (IntKind.wrap .i64 (1 + (Pure.laws_b10At F x0 0 15)))) 1098907648) (F.bin .quo .f32 (F.ofInt .f32 (Pure.laws_b10At F x0 1 33)) 1090519040) (Pure.laws_b10At F x1 0 6) (IntKind.wrap .i64 (1 + (Pure.laws_b10At F x1 1 9)))) (Nat.succ ((List.length (Pure.impl_GrowOrbit_1 F (F.bin .quo .f32 (F.ofInt .f32 (IntKind.wrap .i64 (1 + (Pure.laws_b10At F x0 0 15)))) 1098907648) (F.bin .quo .f32 (F.ofInt .f32 (Pure.laws_b10At F x0 1 33)) 1090519040) (Pure.laws_b10At F x1 0 6) (IntKind.wrap .i64 (1 + (Pure.laws_b10At F x1 1 9))))) + 0)) 0) then true else bif Pure.laws_b10At_ok F x1 2 10 then bif Pure.impl_PeriodOf_ok F (F.bin .quo .f32 (F.ofInt .f32 (IntKind.wrap .i64 (1 + (Pure.laws_b10At F x0 0 15)))) 1098907648) (F.bin .quo .f32 (F.ofInt .f32 (IntKind.wrap .i64 (12 + (Pure.laws_b10At F x1 2 10)))) 1090519040) 981668463 120 4 then bif Pure.impl_GrowOrbit_ok F (F.bin .quo .f32 (F.ofInt .f32 (IntKind.wrap .i64 (1 + (Pure.laws_b10At F x0 0 15)))) 1098907648) (F.bin .quo .f32 (F.ofInt .f32 (IntKind.wrap .i64 (12 + (Pure.laws_b10At F x1 2 10)))) 1090519040) 120 1 then bif Pure.impl_GrowExponent_ok F (F.bin .quo .f32 (F.ofInt .f32 (IntKind.wrap .i64 (1 + (Pure.laws_b10At F x0 0 15)))) 1098907648) (F.bin .quo .f32 (F.ofInt .f32 (IntKind.wrap .i64 (12 + (Pure.laws_b10At F x1 2 10)))) 1090519040) 100 20 then bif Pure.impl_PeriodOf_1 F (F.bin .quo .f32 (F.ofInt .f32 (IntKind.wrap .i64 (1 + (Pure.laws_b10At F x0 0 15)))) 1098907648) (F.bin .quo .f32 (F.ofInt .f32 (IntKind.wrap .i64 (12 + (Pure.laws_b10At F x1 2 10)))) 1090519040) 981668463 120 4 then bif Pure.impl_GrowOrbit F (F.bin .quo .f32 (F.ofInt .f32 (IntKind.wrap .i64 (1 + (Pure.laws_b10At F x0 0 15)))) 1098907648) (F.bin .quo .f32 (F.ofInt .f32 (IntKind.wrap .i64 (12 + (Pure.laws_b10At F x1 2 10)))) 1090519040) 120 1 then bif (Pure.impl_PeriodOf F (F.bin .quo .f32 (F.ofInt .f32 (IntKind.wrap .i64 (1 + (Pure.laws_b10At F x0 0 15)))) 1098907648) (F.bin .quo .f32 (F.ofInt .f32 (IntKind.wrap .i64 (12 + (Pure.laws_b10At F x1 2 10)))) 1090519040) 981668463 120 4) == 1 then bif decide (0 < (Int.ofNat (List.length (Pure.impl_GrowOrbit_1 F (F.bin .quo .f32 (F.ofInt .f32 (IntKind.wrap .i64 (1 + (Pure.laws_b10At F x0 0 15)))) 1098907648) (F.bin .quo .f32 (F.ofInt .f32 (IntKind.wrap .i64 (12 + (Pure.laws_b10At F x1 2 10)))) 1090519040) 120 1)))) then bif F.convOk .f32 .f64 (List.getD (List.getD (Pure.impl_GrowOrbit_1 F (F.bin .quo .f32 (F.ofInt .f32 (IntKind.wrap .i64 (1 + (Pure.laws_b10At F x0 0 15)))) 1098907648) (F.bin .quo .f32 (F.ofInt .f32 (IntKind.wrap .i64 (12 + (Pure.laws_b10At F x1 2 10)))) 1090519040) 120 1) 0 []) 0 0) then F.convOk .f32 .f64 (F.bin .quo .f32 (F.ofInt .f32 (IntKind.wrap .i64 (12 + (Pure.laws_b10At F x1 2 10)))) 1090519040) else false else false else true else true else true else false else false else false else false else false else false else bif Prod.fst (Pure.laws_FnGrowth_L0 F (F.bin .quo .f32 (F.ofInt .f32 (IntKind.wrap .i64 (1 + (Pure.laws_b10At F x0 0 15)))) 1098907648) (F.bin .quo .f32 (F.ofInt .f32 (Pure.laws_b10At F x0 1 33)) 1090519040) (Int.ofNat (List.length (Pure.impl_GrowOrbit_1 F (F.bin .quo .f32 (F.ofInt .f32 (IntKind.wrap .i64 (1 + (Pure.laws_b10At F x0 0 15)))) 1098907648) (F.bin .quo .f32 (F.ofInt .f32 (Pure.laws_b10At F x0 1 33)) 1090519040) (Pure.laws_b10At F x1 0 6) (IntKind.wrap .i64 (1 + (Pure.laws_b10At F x1 1 9)))))) x0 x1 (Pure.impl_GrowOrbit_1 F (F.bin .quo .f32 (F.ofInt .f32 (IntKind.wrap .i64 (1 + (Pure.laws_b10At F x0 0 15)))) 1098907648) (F.bin .quo .f32 (F.ofInt .f32 (Pure.laws_b10At F x0 1 33)) 1090519040) (Pure.laws_b10At F x1 0 6) (IntKind.wrap .i64 (1 + (Pure.laws_b10At F x1 1 9)))) (Nat.succ ((List.length (Pure.impl_GrowOrbit_1 F (F.bin .quo .f32 (F.ofInt .f32 (IntKind.wrap .i64 (1 + (Pure.laws_b10At F x0 0 15)))) 1098907648) (F.bin .quo .f32 (F.ofInt .f32 (Pure.laws_b10At F x0 1 33)) 1090519040) (Pure.laws_b10At F x1 0 6) (IntKind.wrap .i64 (1 + (Pure.laws_b10At F x1 1 9))))) + 0)) 0) then bif Prod.snd (Pure.laws_FnGrowth_L0 F (F.bin .quo .f32 (F.ofInt .f32 (IntKind.wrap .i64 (1 + (Pure.laws_b10At F x0 0 15)))) 1098907648) (F.bin .quo .f32 (F.ofInt .f32 (Pure.laws_b10At F x0 1 33)) 1090519040) (Int.ofNat (List.length (Pure.impl_GrowOrbit_1 F (F.bin .quo .f32 (F.ofInt .f32 (IntKind.wrap .i64 (1 + (Pure.laws_b10At F x0 0 15)))) 1098907648) (F.bin .quo .f32 (F.ofInt .f32 (Pure.laws_b10At F x0 1 33)) 1090519040) (Pure.laws_b10At F x1 0 6) (IntKind.wrap .i64 (1 + (Pure.laws_b10At F x1 1 9)))))) x0 x1 (Pure.impl_GrowOrbit_1 F (F.bin .quo .f32 (F.ofInt .f32 (IntKind.wrap .i64 (1 + (Pure.laws_b10At F x0 0 15)))) 1098907648) (F.bin .quo .f32 (F.ofInt .f32 (Pure.laws_b10At F x0 1 33)) 1090519040) (Pure.laws_b10At F x1 0 6) (IntKind.wrap .i64 (1 + (Pure.laws_b10At F x1 1 9)))) (Nat.succ ((List.length (Pure.impl_GrowOrbit_1 F (F.bin .quo .f32 (F.ofInt .f32 (IntKind.wrap .i64 (1 + (Pure.laws_b10At F x0 0 15)))) 1098907648) (F.bin .quo .f32 (F.ofInt .f32 (Pure.laws_b10At F x0 1 33)) 1090519040) (Pure.laws_b10At F x1 0 6) (IntKind.wrap .i64 (1 + (Pure.laws_b10At F x1 1 9))))) + 0)) 0) then true else bif Pure.laws_b10At_ok F x1 2 10 then bif Pure.impl_PeriodOf_ok F (F.bin .quo .f32 (F.ofInt .f32 (IntKind.wrap .i64 (1 + (Pure.laws_b10At F x0 0 15)))) 1098907648) (F.bin .quo .f32 (F.ofInt .f32 (IntKind.wrap .i64 (12 + (Pure.laws_b10At F x1 2 10)))) 1090519040) 981668463 120 4 then bif Pure.impl_GrowOrbit_ok F (F.bin .quo .f32 (F.ofInt .f32 (IntKind.wrap .i64 (1 + (Pure.laws_b10At F x0 0 15)))) 1098907648) (F.bin .quo .f32 (F.ofInt .f32 (IntKind.wrap .i64 (12 + (Pure.laws_b10At F x1 2 10)))) 1090519040) 120 1 then bif Pure.impl_GrowExponent_ok F (F.bin .quo .f32 (F.ofInt .f32 (IntKind.wrap .i64 (1 + (Pure.laws_b10At F x0 0 15)))) 1098907648) (F.bin .quo .f32 (F.ofInt .f32 (IntKind.wrap .i64 (12 + (Pure.laws_b10At F x1 2 10)))) 1090519040) 100 20 then bif Pure.impl_PeriodOf_1 F (F.bin .quo .f32 (F.ofInt .f32 (IntKind.wrap .i64 (1 + (Pure.laws_b10At F x0 0 15)))) 1098907648) (F.bin .quo .f32 (F.ofInt .f32 (IntKind.wrap .i64 (12 + (Pure.laws_b10At F x1 2 10)))) 1090519040) 981668463 120 4 then bif Pure.impl_GrowOrbit F (F.bin .quo .f32 (F.ofInt .f32 (IntKind.wrap .i64 (1 + (Pure.laws_b10At F x0 0 15)))) 1098907648) (F.bin .quo .f32 (F.ofInt .f32 (IntKind.wrap .i64 (12 + (Pure.laws_b10At F x1 2 10)))) 1090519040) 120 1 then bif (Pure.impl_PeriodOf F (F.bin .quo .f32 (F.ofInt .f32 (IntKind.wrap .i64 (1 + (Pure.laws_b10At F x0 0 15)))) 1098907648) (F.bin .quo .f32 (F.ofInt .f32 (IntKind.wrap .i64 (12 + (Pure.laws_b10At F x1 2 10)))) 1090519040) 981668463 120 4) == 1 then bif decide (0 < (Int.ofNat (List.length (Pure.impl_GrowOrbit_1 F (F.bin .quo .f32 (F.ofInt .f32 (IntKind.wrap .i64 (1 + (Pure.laws_b10At F x0 0 15)))) 1098907648) (F.bin .quo .f32 (F.ofInt .f32 (IntKind.wrap .i64 (12 + (Pure.laws_b10At F x1 2 10)))) 1090519040) 120 1)))) then bif F.convOk .f32 .f64 (List.getD (List.getD (Pure.impl_GrowOrbit_1 F (F.bin .quo .f32 (F.ofInt .f32 (IntKind.wrap .i64 (1 + (Pure.laws_b10At F x0 0 15)))) 1098907648) (F.bin .quo .f32 (F.ofInt .f32 (IntKind.wrap .i64 (12 + (Pure.laws_b10At F x1 2 10)))) 1090519040) 120 1) 0 []) 0 0) then F.convOk .f32 .f64 (F.bin .quo .f32 (F.ofInt .f32 (IntKind.wrap .i64 (12 + (Pure.laws_b10At F x1 2 10)))) 1090519040) else false else false else true else true else true else false else false else false else false else false else true else false else false else false else false else false
def c_laws_FnGrowth (F : FOps) : Con
  | [V.at (A.sl 0), V.at (A.sl 1)], [⟨false, .rows [K.i .u8] x0⟩, ⟨false, .rows [K.i .u8] x1⟩] => some (Pure.laws_FnGrowth_ok F x0 x1, ⟨V.at (A.bool (Pure.laws_FnGrowth F x0 x1)), none, []⟩)
  | _, _ => none
theorem e_laws_FnGrowth (F : FOps) (x0 x1 : List (List Int)) : Pure.laws_FnGrowth_ok F x0 x1 = true → evFn (cxS F tyl [(12, c_laws_b10Long F), (13, c_laws_b10At F), (17, c_impl_GrowOrbit F), (18, c_impl_GrowNext F), (19, c_spec_SameNumber F), (20, c_impl_PeriodOf F), (21, c_impl_GrowExponent F), (22, c_laws_b10Gap F)] [] [(0, S_laws_FnGrowth_L0 F)] 0) Try.f4 false [V.at (A.sl 0), V.at (A.sl 1)] [⟨false, .rows [K.i .u8] x0⟩, ⟨false, .rows [K.i .u8] x1⟩] = some ⟨V.at (A.bool (Pure.laws_FnGrowth F x0 x1)), none, []⟩ := by
  have h0 : evFn (cxS F tyl [(12, c_laws_b10Long F), (13, c_laws_b10At F), (17, c_impl_GrowOrbit F), (18, c_impl_GrowNext F), (19, c_spec_SameNumber F), (20, c_impl_PeriodOf F), (21, c_impl_GrowExponent F), (22, c_laws_b10Gap F)] [] [(0, S_laws_FnGrowth_L0 F)] 0) Try.f4 false [V.at (A.sl 0), V.at (A.sl 1)] [⟨false, .rows [K.i .u8] x0⟩, ⟨false, .rows [K.i .u8] x1⟩] = bif Pure.laws_b10Long F x0 x1 then some ⟨V.at (A.bool true), none, []⟩ else bif Pure.laws_b10At_ok F x0 0 15 then bif Pure.laws_b10At_ok F x0 1 33 then bif Pure.laws_b10At_ok F x1 0 6 then bif Pure.laws_b10At_ok F x1 1 9 then bif Pure.impl_GrowOrbit_ok F (F.bin .quo .f32 (F.ofInt .f32 (IntKind.wrap .i64 (1 + (Pure.laws_b10At F x0 0 15)))) 1098907648) (F.bin .quo .f32 (F.ofInt .f32 (Pure.laws_b10At F x0 1 33)) 1090519040) (Pure.laws_b10At F x1 0 6) (IntKind.wrap .i64 (1 + (Pure.laws_b10At F x1 1 9))) then bif Bool.not (Pure.impl_GrowOrbit F (F.bin .quo .f32 (F.ofInt .f32 (IntKind.wrap .i64 (1 + (Pure.laws_b10At F x0 0 15)))) 1098907648) (F.bin .quo .f32 (F.ofInt .f32 (Pure.laws_b10At F x0 1 33)) 1090519040) (Pure.laws_b10At F x1 0 6) (IntKind.wrap .i64 (1 + (Pure.laws_b10At F x1 1 9)))) then some ⟨V.at (A.bool false), none, []⟩ else bif (Int.ofNat (List.length (Pure.impl_GrowOrbit_1 F (F.bin .quo .f32 (F.ofInt .f32 (IntKind.wrap .i64 (1 + (Pure.laws_b10At F x0 0 15)))) 1098907648) (F.bin .quo .f32 (F.ofInt .f32 (Pure.laws_b10At F x0 1 33)) 1090519040) (Pure.laws_b10At F x1 0 6) (IntKind.wrap .i64 (1 + (Pure.laws_b10At F x1 1 9)))))) != (IntKind.wrap .i64 (1 + (Pure.laws_b10At F x1 1 9))) then some ⟨V.at (A.bool false), none, []⟩ else bif (Pure.laws_b10At F x1 0 6) == 0 then bif decide (0 < (Int.ofNat (List.length (Pure.impl_GrowOrbit_1 F (F.bin .quo .f32 (F.ofInt .f32 (IntKind.wrap .i64 (1 + (Pure.laws_b10At F x0 0 15)))) 1098907648) (F.bin .quo .f32 (F.ofInt .f32 (Pure.laws_b10At F x0 1 33)) 1090519040) (Pure.laws_b10At F x1 0 6) (IntKind.wrap .i64 (1 + (Pure.laws_b10At F x1 1 9))))))) then bif F.cmp .neq .f32 (List.getD (List.getD (Pure.impl_GrowOrbit_1 F (F.bin .quo .f32 (F.ofInt .f32 (IntKind.wrap .i64 (1 + (Pure.laws_b10At F x0 0 15)))) 1098907648) (F.bin .quo .f32 (F.ofInt .f32 (Pure.laws_b10At F x0 1 33)) 1090519040) (Pure.laws_b10At F x1 0 6) (IntKind.wrap .i64 (1 + (Pure.laws_b10At F x1 1 9)))) 0 []) 0 0) (F.bin .quo .f32 (F.ofInt .f32 (IntKind.wrap .i64 (1 + (Pure.laws_b10At F x0 0 15)))) 1098907648) then some ⟨V.at (A.bool false), none, []⟩ else bif Prod.fst (Pure.laws_FnGrowth_L0 F (F.bin .quo .f32 (F.ofInt .f32 (IntKind.wrap .i64 (1 + (Pure.laws_b10At F x0 0 15)))) 1098907648) (F.bin .quo .f32 (F.ofInt .f32 (Pure.laws_b10At F x0 1 33)) 1090519040) (Int.ofNat (List.length (Pure.impl_GrowOrbit_1 F (F.bin .quo .f32 (F.ofInt .f32 (IntKind.wrap .i64 (1 + (Pure.laws_b10At F x0 0 15)))) 1098907648) (F.bin .quo .f32 (F.ofInt .f32 (Pure.laws_b10At F x0 1 33)) 1090519040) (Pure.laws_b10At F x1 0 6) (IntKind.wrap .i64 (1 + (Pure.laws_b10At F x1 1 9)))))) x0 x1 (Pure.impl_GrowOrbit_1 F (F.bin .quo .f32 (F.ofInt .f32 (IntKind.wrap .i64 (1 + (Pure.laws_b10At F x0 0 15)))) 1098907648) (F.bin .quo .f32 (F.ofInt .f32 (Pure.laws_b10At F x0 1 33)) 1090519040) (Pure.laws_b10At F x1 0 6) (IntKind.wrap .i64 (1 + (Pure.laws_b10At F x1 1 9)))) (Nat.succ ((List.length (Pure.impl_GrowOrbit_1 F (F.bin .quo .f32 (F.ofInt .f32 (IntKind.wrap .i64 (1 + (Pure.laws_b10At F x0 0 15)))) 1098907648) (F.bin .quo .f32 (F.ofInt .f32 (Pure.laws_b10At F x0 1 33)) 1090519040) (Pure.laws_b10At F x1 0 6) (IntKind.wrap .i64 (1 + (Pure.laws_b10At F x1 1 9))))) + 0)) 0) then bif Prod.snd (Pure.laws_FnGrowth_L0 F (F.bin .quo .f32 (F.ofInt .f32 (IntKind.wrap .i64 (1 + (Pure.laws_b10At F x0 0 15)))) 1098907648) (F.bin .quo .f32 (F.ofInt .f32 (Pure.laws_b10At F x0 1 33)) 1090519040) (Int.ofNat (List.length (Pure.impl_GrowOrbit_1 F (F.bin .quo .f32 (F.ofInt .f32 (IntKind.wrap .i64 (1 + (Pure.laws_b10At F x0 0 15)))) 1098907648) (F.bin .quo .f32 (F.ofInt .f32 (Pure.laws_b10At F x0 1 33)) 1090519040) (Pure.laws_b10At F x1 0 6) (IntKind.wrap .i64 (1 + (Pure.laws_b10At F x1 1 9)))))) x0 x1 (Pure.impl_GrowOrbit_1 F (F.bin .quo .f32 (F.ofInt .f32 (IntKind.wrap .i64 (1 + (Pure.laws_b10At F x0 0 15)))) 1098907648) (F.bin .quo .f32 (F.ofInt .f32 (Pure.laws_b10At F x0 1 33)) 1090519040) (Pure.laws_b10At F x1 0 6) (IntKind.wrap .i64 (1 + (Pure.laws_b10At F x1 1 9)))) (Nat.succ ((List.length (Pure.impl_GrowOrbit_1 F (F.bin .quo .f32 (F.ofInt .f32 (IntKind.wrap .i64 (1 + (Pure.laws_b10At F x0 0 15)))) 1098907648) (F.bin .quo .f32 (F.ofInt .f32 (Pure.laws_b10At F x0 1 33)) 1090519040) (Pure.laws_b10At F x1 0 6) (IntKind.wrap .i64 (1 + (Pure.laws_b10At F x1 1 9))))) + 0)) 0) then some ⟨V.at (A.bool false), none, []⟩ else bif Pure.laws_b10At_ok F x1 2 10 then bif Pure.impl_PeriodOf_ok F (F.bin .quo .f32 (F.ofInt .f32 (IntKind.wrap .i64 (1 + (Pure.laws_b10At F x0 0 15)))) 1098907648) (F.bin .quo .f32 (F.ofInt .f32 (IntKind.wrap .i64 (12 + (Pure.laws_b10At F x1 2 10)))) 1090519040) 981668463 120 4 then bif Pure.impl_GrowOrbit_ok F (F.bin .quo .f32 (F.ofInt .f32 (IntKind.wrap .i64 (1 + (Pure.laws_b10At F x0 0 15)))) 1098907648) (F.bin .quo .f32 (F.ofInt .f32 (IntKind.wrap .i64 (12 + (Pure.laws_b10At F x1 2 10)))) 1090519040) 120 1 then bif Pure.impl_GrowExponent_ok F (F.bin .quo .f32 (F.ofInt .f32 (IntKind.wrap .i64 (1 + (Pure.laws_b10At F x0 0 15)))) 1098907648) (F.bin .quo .f32 (F.ofInt .f32 (IntKind.wrap .i64 (12 + (Pure.laws_b10At F x1 2 10)))) 1090519040) 100 20 then bif Pure.impl_PeriodOf_1 F (F.bin .quo .f32 (F.ofInt .f32 (IntKind.wrap .i64 (1 + (Pure.laws_b10At F x0 0 15)))) 1098907648) (F.bin .quo .f32 (F.ofInt .f32 (IntKind.wrap .i64 (12 + (Pure.laws_b10At F x1 2 10)))) 1090519040) 981668463 120 4 then bif Pure.impl_GrowOrbit F (F.bin .quo .f32 (F.ofInt .f32 (IntKind.wrap .i64 (1 + (Pure.laws_b10At F x0 0 15)))) 1098907648) (F.bin .quo .f32 (F.ofInt .f32 (IntKind.wrap .i64 (12 + (Pure.laws_b10At F x1 2 10)))) 1090519040) 120 1 then bif (Pure.impl_PeriodOf F (F.bin .quo .f32 (F.ofInt .f32 (IntKind.wrap .i64 (1 + (Pure.laws_b10At F x0 0 15)))) 1098907648) (F.bin .quo .f32 (F.ofInt .f32 (IntKind.wrap .i64 (12 + (Pure.laws_b10At F x1 2 10)))) 1090519040) 981668463 120 4) == 1 then bif decide (0 < (Int.ofNat (List.length (Pure.impl_GrowOrbit_1 F (F.bin .quo .f32 (F.ofInt .f32 (IntKind.wrap .i64 (1 + (Pure.laws_b10At F x0 0 15)))) 1098907648) (F.bin .quo .f32 (F.ofInt .f32 (IntKind.wrap .i64 (12 + (Pure.laws_b10At F x1 2 10)))) 1090519040) 120 1)))) then bif F.convOk .f32 .f64 (List.getD (List.getD (Pure.impl_GrowOrbit_1 F (F.bin .quo .f32 (F.ofInt .f32 (IntKind.wrap .i64 (1 + (Pure.laws_b10At F x0 0 15)))) 1098907648) (F.bin .quo .f32 (F.ofInt .f32 (IntKind.wrap .i64 (12 + (Pure.laws_b10At F x1 2 10)))) 1090519040) 120 1) 0 []) 0 0) then bif F.convOk .f32 .f64 (F.bin .quo .f32 (F.ofInt .f32 (IntKind.wrap .i64 (12 + (Pure.laws_b10At F x1 2 10)))) 1090519040) then bif F.cmp .lss .f64 (Pure.laws_b10Gap F (F.conv .f32 .f64 (List.getD (List.getD (Pure.impl_GrowOrbit_1 F (F.bin .quo .f32 (F.ofInt .f32 (IntKind.wrap .i64 (1 + (Pure.laws_b10At F x0 0 15)))) 1098907648) (F.bin .quo .f32 (F.ofInt .f32 (IntKind.wrap .i64 (12 + (Pure.laws_b10At F x1 2 10)))) 1090519040) 120 1) 0 []) 0 0)) (F.bin .sub .f64 4607182418800017408 (F.bin .quo .f64 4607182418800017408 (F.conv .f32 .f64 (F.bin .quo .f32 (F.ofInt .f32 (IntKind.wrap .i64 (12 + (Pure.laws_b10At F x1 2 10)))) 1090519040))))) 4576918229304087675 then bif Bool.not (Pure.impl_GrowExponent_1 F (F.bin .quo .f32 (F.ofInt .f32 (IntKind.wrap .i64 (1 + (Pure.laws_b10At F x0 0 15)))) 1098907648) (F.bin .quo .f32 (F.ofInt .f32 (IntKind.wrap .i64 (12 + (Pure.laws_b10At F x1 2 10)))) 1090519040) 100 20) then some ⟨V.at (A.bool true), none, []⟩ else some ⟨V.at (A.bool (F.cmp .lss .f32 (Pure.impl_GrowExponent F (F.bin .quo .f32 (F.ofInt .f32 (IntKind.wrap .i64 (1 + (Pure.laws_b10At F x0 0 15)))) 1098907648) (F.bin .quo .f32 (F.ofInt .f32 (IntKind.wrap .i64 (12 + (Pure.laws_b10At F x1 2 10)))) 1090519040) 100 20) 0)), none, []⟩ else some ⟨V.at (A.bool false), none, []⟩ else none else none else none else some ⟨V.at (A.bool false), none, []⟩ else some ⟨V.at (A.bool false), none, []⟩ else some ⟨V.at (A.bool false), none, []⟩ else none else none else none else none else none else none else bif Prod.fst (Pure.laws_FnGrowth_L0 F (F.bin .quo .f32 (F.ofInt .f32 (IntKind.wrap .i64 (1 + (Pure.laws_b10At F x0 0 15)))) 1098907648) (F.bin .quo .f32 (F.ofInt .f32 (Pure.laws_b10At F x0 1 33)) 1090519040) (Int.ofNat (List.length (Pure.impl_GrowOrbit_1 F (F.bin .quo .f32 (F.ofInt .f32 (IntKind.wrap .i64 (1 + (Pure.laws_b10At F x0 0 15)))) 1098907648) (F.bin .quo .f32 (F.ofInt .f32 (Pure.laws_b10At F x0 1 33)) 1090519040) (Pure.laws_b10At F x1 0 6) (IntKind.wrap .i64 (1 + (Pure.laws_b10At F x1 1 9)))))) x0 x1 (Pure.impl_GrowOrbit_1 F (F.bin .quo .f32 (F.ofInt .f32 (IntKind.wrap .i64 (1 + (Pure.laws_b10At F x0 0 15)))) 1098907648) (F.bin .quo .f32 (F.ofInt .f32 (Pure.laws_b10At F x0 1 33)) 1090519040) (Pure.laws_b10At F x1 0 6) (IntKind.wrap .i64 (1 + (Pure.laws_b10At F x1 1 9)))) (Nat.succ ((List.length (Pure.impl_GrowOrbit_1 F (F.bin .quo .f32 (F.ofInt .f32 (IntKind.wrap .i64 (1 + (Pure.laws_b10At F x0 0 15)))) 1098907648) (F.bin .quo .f32 (F.ofInt .f32 (Pure.laws_b10At F x0 1 33)) 1090519040) (Pure.laws_b10At F x1 0 6) (IntKind.wrap .i64 (1 + (Pure.laws_b10At F x1 1 9))))) + 0)) 0) then bif Prod.snd (Pure.laws_FnGrowth_L0 F (F.bin .quo .f32 (F.ofInt .f32 (IntKind.wrap .i64 (1 + (Pure.laws_b10At F x0 0 15)))) 1098907648) (F.bin .quo .f32 (F.ofInt .f32 (Pure.laws_b10At F x0 1 33)) 1090519040) (Int.ofNat (List.length (Pure.impl_GrowOrbit_1 F (F.bin .quo .f32 (F.ofInt .f32 (IntKind.wrap .i64 (1 + (Pure.laws_b10At F x0 0 15)))) 1098907648) (F.bin .quo .f32 (F.ofInt .f32 (Pure.laws_b10At F x0 1 33)) 1090519040) (Pure.laws_b10At F x1 0 6) (IntKind.wrap .i64 (1 + (Pure.laws_b10At F x1 1 9)))))) x0 x1 (Pure.impl_GrowOrbit_1 F (F.bin .quo .f32 (F.ofInt .f32 (IntKind.wrap .i64 (1 + (Pure.laws_b10At F x0 0 15)))) 1098907648) (F.bin .quo .f32 (F.ofInt .f32 (Pure.laws_b10At F x0 1 33)) 1090519040) (Pure.laws_b10At F x1 0 6) (IntKind.wrap .i64 (1 + (Pure.laws_b10At F x1 1 9)))) (Nat.succ ((List.length (Pure.impl_GrowOrbit_1 F (F.bin .quo .f32 (F.ofInt .f32 (IntKind.wrap .i64 (1 + (Pure.laws_b10At F x0 0 15)))) 1098907648) (F.bin .quo .f32 (F.ofInt .f32 (Pure.laws_b10At F x0 1 33)) 1090519040) (Pure.laws_b10At F x1 0 6) (IntKind.wrap .i64 (1 + (Pure.laws_b10At F x1 1 9))))) + 0)) 0) then some ⟨V.at (A.bool false), none, []⟩ else bif Pure.laws_b10At_ok F x1 2 10 then bif Pure.impl_PeriodOf_ok F (F.bin .quo .f32 (F.ofInt .f32 (IntKind.wrap .i64 (1 + (Pure.laws_b10At F x0 0 15)))) 1098907648) (F.bin .quo .f32 (F.ofInt .f32 (IntKind.wrap .i64 (12 + (Pure.laws_b10At F x1 2 10)))) 1090519040) 981668463 120 4 then bif Pure.impl_GrowOrbit_ok F (F.bin .quo .f32 (F.ofInt .f32 (IntKind.wrap .i64 (1 + (Pure.laws_b10At F x0 0 15)))) 1098907648) (F.bin .quo .f32 (F.ofInt .f32 (IntKind.wrap .i64 (12 + (Pure.laws_b10At F x1 2 10)))) 1090519040) 120 1 then bif Pure.impl_GrowExponent_ok F (F.bin .quo .f32 (F.ofInt .f32 (IntKind.wrap .i64 (1 + (Pure.laws_b10At F x0 0 15)))) 1098907648) (F.bin .quo .f32 (F.ofInt .f32 (IntKind.wrap .i64 (12 + (Pure.laws_b10At F x1 2 10)))) 1090519040) 100 20 then bif Pure.impl_PeriodOf_1 F (F.bin .quo .f32 (F.ofInt .f32 (IntKind.wrap .i64 (1 + (Pure.laws_b10At F x0 0 15)))) 1098907648) (F.bin .quo .f32 (F.ofInt .f32 (IntKind.wrap .i64 (12 + (Pure.laws_b10At F x1 2 10)))) 1090519040) 981668463 120 4 then bif Pure.impl_GrowOrbit F (F.bin .quo .f32 (F.ofInt .f32 (IntKind.wrap .i64 (1 + (Pure.laws_b10At F x0 0 15)))) 1098907648) (F.bin .quo .f32 (F.ofInt .f32 (IntKind.wrap .i64 (12 + (Pure.laws_b10At F x1 2 10)))) 1090519040) 120 1 then bif (Pure.impl_PeriodOf F (F.bin .quo .f32 (F.ofInt .f32 (IntKind.wrap .i64 (1 + (Pure.laws_b10At F x0 0 15)))) 1098907648) (F.bin .quo .f32 (F.ofInt .f32 (IntKind.wrap .i64 (12 + (Pure.laws_b10At F x1 2 10)))) 1090519040) 981668463 120 4) == 1 then bif decide (0 < (Int.ofNat (List.length (Pure.impl_GrowOrbit_1 F (F.bin .quo .f32 (F.ofInt .f32 (IntKind.wrap .i64 (1 + (Pure.laws_b10At F x0 0 15)))) 1098907648) (F.bin .quo .f32 (F.ofInt .f32 (IntKind.wrap .i64 (12 + (Pure.laws_b10At F x1 2 10)))) 1090519040) 120 1)))) then bif F.convOk .f32 .f64 (List.getD (List.getD (Pure.impl_GrowOrbit_1 F (F.bin .quo .f32 (F.ofInt .f32 (IntKind.wrap .i64 (1 + (Pure.laws_b10At F x0 0 15)))) 1098907648) (F.bin .quo .f32 (F.ofInt .f32 (IntKind.wrap .i64 (12 + (Pure.laws_b10At F x1 2 10)))) 1090519040) 120 1) 0 []) 0 0) then bif F.convOk .f32 .f64 (F.bin .quo .f32 (F.ofInt .f32 (IntKind.wrap .i64 (12 + (Pure.laws_b10At F x1 2 10)))) 1090519040) then bif F.cmp .lss .f64 (Pure.laws_b10Gap F (F.conv .f32 .f64 (List.getD (List.getD (Pure.impl_GrowOrbit_1 F (F.bin .quo .f32 (F.ofInt .f32 (IntKind.wrap .i64 (1 + (Pure.laws_b10At F x0 0 15)))) 1098907648) (F.bin .quo .f32 (F.ofInt .f32 (IntKind.wrap .i64 (12 + (Pure.laws_b10At F x1 2 10)))) 1090519040) 120 1) 0 []) 0 0)) (F.bin .sub .f64 4607182418800017408 (F.bin .quo .f64 4607182418800017408 (F.conv .f32 .f64 (F.bin .quo .f32 (F.ofInt .f32 (IntKind.wrap .i64 (12 + (Pure.laws_b10At F x1 2 10)))) 1090519040))))) 4576918229304087675 then bif Bool.not (Pure.impl_GrowExponent_1 F (F.bin .quo .f32 (F.ofInt .f32 (IntKind.wrap .i64 (1 + (Pure.laws_b10At F x0 0 15)))) 1098907648) (F.bin .quo .f32 (F.ofInt .f32 (IntKind.wrap .i64 (12 + (Pure.laws_b10At F x1 2 10)))) 1090519040) 100 20) then some ⟨V.at (A.bool true), none, []⟩ else some ⟨V.at (A.bool (F.cmp .lss .f32 (Pure.impl_GrowExponent F (F.bin .quo .f32 (F.ofInt .f32 (IntKind.wrap .i64 (1 + (Pure.laws_b10At F x0 0 15)))) 1098907648) (F.bin .quo .f32 (F.ofInt .f32 (IntKind.wrap .i64 (12 + (Pure.laws_b10At F x1 2 10)))) 1090519040) 100 20) 0)), none, []⟩ else some ⟨V.at (A.bool false), none, []⟩ else none else none else none else some ⟨V.at (A.bool false), none, []⟩ else some ⟨V.at (A.bool false), none, []⟩ else some ⟨V.at (A.bool false), none, []⟩ else none else none else none else none else none else none else none else none else none else none := by kernel_rfl
  rw [h0]
  unfold Pure.laws_FnGrowth Pure.laws_FnGrowth_ok
  cases (Pure.laws_b10Long F x0 x1) with
  | true =>
    intro _; rfl
  | false =>
    cases (Pure.laws_b10At_ok F x0 0 15) with
    | true =>
      cases (Pure.laws_b10At_ok F x0 1 33) with
      | true =>
        cases (Pure.laws_b10At_ok F x1 0 6) with
        | true =>
          cases (Pure.laws_b10At_ok F x1 1 9) with
          | true =>
            cases (Pure.impl_GrowOrbit_ok F (F.bin .quo .f32 (F.ofInt .f32 (IntKind.wrap .i64 (1 + (Pure.laws_b10At F x0 0 15)))) 1098907648) (F.bin .quo .f32 (F.ofInt .f32 (Pure.laws_b10At F x0 1 33)) 1090519040) (Pure.laws_b10At F x1 0 6) (IntKind.wrap .i64 (1 + (Pure.laws_b10At F x1 1 9)))) with
            | true =>
              cases (Pure.impl_GrowOrbit F (F.bin .quo .f32 (F.ofInt .f32 (IntKind.wrap .i64 (1 + (Pure.laws_b10At F x0 0 15)))) 1098907648) (F.bin .quo .f32 (F.ofInt .f32 (Pure.laws_b10At F x0 1 33)) 1090519040) (Pure.laws_b10At F x1 0 6) (IntKind.wrap .i64 (1 + (Pure.laws_b10At F x1 1 9)))) with
              | true =>
                cases ((Int.ofNat (List.length (Pure.impl_GrowOrbit_1 F (F.bin .quo .f32 (F.ofInt .f32 (IntKind.wrap .i64 (1 + (Pure.laws_b10At F x0 0 15)))) 1098907648) (F.bin .quo .f32 (F.ofInt .f32 (Pure.laws_b10At F x0 1 33)) 1090519040) (Pure.laws_b10At F x1 0 6) (IntKind.wrap .i64 (1 + (Pure.laws_b10At F x1 1 9)))))) != (IntKind.wrap .i64 (1 + (Pure.laws_b10At F x1 1 9)))) with
                | true =>
                  intro _; rfl
                | false =>
                  cases ((Pure.laws_b10At F x1 0 6) == 0) with
                  | true =>
                    cases (decide (0 < (Int.ofNat (List.length (Pure.impl_GrowOrbit_1 F (F.bin .quo .f32 (F.ofInt .f32 (IntKind.wrap .i64 (1 + (Pure.laws_b10At F x0 0 15)))) 1098907648) (F.bin .quo .f32 (F.ofInt .f32 (Pure.laws_b10At F x0 1 33)) 1090519040) (Pure.laws_b10At F x1 0 6) (IntKind.wrap .i64 (1 + (Pure.laws_b10At F x1 1 9)))))))) with
                    | true =>
                      cases (F.cmp .neq .f32 (List.getD (List.getD (Pure.impl_GrowOrbit_1 F (F.bin .quo .f32 (F.ofInt .f32 (IntKind.wrap .i64 (1 + (Pure.laws_b10At F x0 0 15)))) 1098907648) (F.bin .quo .f32 (F.ofInt .f32 (Pure.laws_b10At F x0 1 33)) 1090519040) (Pure.laws_b10At F x1 0 6) (IntKind.wrap .i64 (1 + (Pure.laws_b10At F x1 1 9)))) 0 []) 0 0) (F.bin .quo .f32 (F.ofInt .f32 (IntKind.wrap .i64 (1 + (Pure.laws_b10At F x0 0 15)))) 1098907648)) with
                      | true =>
                        intro _; rfl
                      | false =>
                        cases (Prod.fst (Pure.laws_FnGrowth_L0 F (F.bin .quo .f32 (F.ofInt .f32 (IntKind.wrap .i64 (1 + (Pure.laws_b10At F x0 0 15)))) 1098907648) (F.bin .quo .f32 (F.ofInt .f32 (Pure.laws_b10At F x0 1 33)) 1090519040) (Int.ofNat (List.length (Pure.impl_GrowOrbit_1 F (F.bin .quo .f32 (F.ofInt .f32 (IntKind.wrap .i64 (1 + (Pure.laws_b10At F x0 0 15)))) 1098907648) (F.bin .quo .f32 (F.ofInt .f32 (Pure.laws_b10At F x0 1 33)) 1090519040) (Pure.laws_b10At F x1 0 6) (IntKind.wrap .i64 (1 + (Pure.laws_b10At F x1 1 9)))))) x0 x1 (Pure.impl_GrowOrbit_1 F (F.bin .quo .f32 (F.ofInt .f32 (IntKind.wrap .i64 (1 + (Pure.laws_b10At F x0 0 15)))) 1098907648) (F.bin .quo .f32 (F.ofInt .f32 (Pure.laws_b10At F x0 1 33)) 1090519040) (Pure.laws_b10At F x1 0 6) (IntKind.wrap .i64 (1 + (Pure.laws_b10At F x1 1 9)))) (Nat.succ ((List.length (Pure.impl_GrowOrbit_1 F (F.bin .quo .f32 (F.ofInt .f32 (IntKind.wrap .i64 (1 + (Pure.laws_b10At F x0 0 15)))) 1098907648) (F.bin .quo .f32 (F.ofInt .f32 (Pure.laws_b10At F x0 1 33)) 1090519040) (Pure.laws_b10At F x1 0 6) (IntKind.wrap .i64 (1 + (Pure.laws_b10At F x1 1 9))))) + 0)) 0)) with
                        | true =>
                          cases (Prod.snd (Pure.laws_FnGrowth_L0 F (F.bin .quo .f32 (F.ofInt .f32 (IntKind.wrap .i64 (1 + (Pure.laws_b10At F x0 0 15)))) 1098907648) (F.bin .quo .f32 (F.ofInt .f32 (Pure.laws_b10At F x0 1 33)) 1090519040) (Int.ofNat (List.length (Pure.impl_GrowOrbit_1 F (F.bin .quo .f32 (F.ofInt .f32 (IntKind.wrap .i64 (1 + (Pure.laws_b10At F x0 0 15)))) 1098907648) (F.bin .quo .f32 (F.ofInt .f32 (Pure.laws_b10At F x0 1 33)) 1090519040) (Pure.laws_b10At F x1 0 6) (IntKind.wrap .i64 (1 + (Pure.laws_b10At F x1 1 9)))))) x0 x1 (Pure.impl_GrowOrbit_1 F (F.bin .quo .f32 (F.ofInt .f32 (IntKind.wrap .i64 (1 + (Pure.laws_b10At F x0 0 15)))) 1098907648) (F.bin .quo .f32 (F.ofInt .f32 (Pure.laws_b10At F x0 1 33)) 1090519040) (Pure.laws_b10At F x1 0 6) (IntKind.wrap .i64 (1 + (Pure.laws_b10At F x1 1 9)))) (Nat.succ ((List.length (Pure.impl_GrowOrbit_1 F (F.bin .quo .f32 (F.ofInt .f32 (IntKind.wrap .i64 (1 + (Pure.laws_b10At F x0 0 15)))) 1098907648) (F.bin .quo .f32 (F.ofInt .f32 (Pure.laws_b10At F x0 1 33)) 1090519040) (Pure.laws_b10At F x1 0 6) (IntKind.wrap .i64 (1 + (Pure.laws_b10At F x1 1 9))))) + 0)) 0)) with
                          | true =>
                            intro _; rfl
                          | false =>
                            cases (Pure.laws_b10At_ok F x1 2 10) with
                            | true =>
                              cases (Pure.impl_PeriodOf_ok F (F.bin .quo .f32 (F.ofInt .f32 (IntKind.wrap .i64 (1 + (Pure.laws_b10At F x0 0 15)))) 1098907648) (F.bin .quo .f32 (F.ofInt .f32 (IntKind.wrap .i64 (12 + (Pure.laws_b10At F x1 2 10)))) 1090519040) 981668463 120 4) with
                              | true =>
                                cases (Pure.impl_GrowOrbit_ok F (F.bin .quo .f32 (F.ofInt .f32 (IntKind.wrap .i64 (1 + (Pure.laws_b10At F x0 0 15)))) 1098907648) (F.bin .quo .f32 (F.ofInt .f32 (IntKind.wrap .i64 (12 + (Pure.laws_b10At F x1 2 10)))) 1090519040) 120 1) with
                                | true =>
                                  cases (Pure.impl_GrowExponent_ok F (F.bin .quo .f32 (F.ofInt .f32 (IntKind.wrap .i64 (1 + (Pure.laws_b10At F x0 0 15)))) 1098907648) (F.bin .quo .f32 (F.ofInt .f32 (IntKind.wrap .i64 (12 + (Pure.laws_b10At F x1 2 10)))) 1090519040) 100 20) with
                                  | true =>
                                    cases (Pure.impl_PeriodOf_1 F (F.bin .quo .f32 (F.ofInt .f32 (IntKind.wrap .i64 (1 + (Pure.laws_b10At F x0 0 15)))) 1098907648) (F.bin .quo .f32 (F.ofInt .f32 (IntKind.wrap .i64 (12 + (Pure.laws_b10At F x1 2 10)))) 1090519040) 981668463 120 4) with
                                    | true =>
                                      cases (Pure.impl_GrowOrbit F (F.bin .quo .f32 (F.ofInt .f32 (IntKind.wrap .i64 (1 + (Pure.laws_b10At F x0 0 15)))) 1098907648) (F.bin .quo .f32 (F.ofInt .f32 (IntKind.wrap .i64 (12 + (Pure.laws_b10At F x1 2 10)))) 1090519040) 120 1) with
                                      | true =>
                                        cases ((Pure.impl_PeriodOf F (F.bin .quo .f32 (F.ofInt .f32 (IntKind.wrap .i64 (1 + (Pure.laws_b10At F x0 0 15)))) 1098907648) (F.bin .quo .f32 (F.ofInt .f32 (IntKind.wrap .i64 (12 + (Pure.laws_b10At F x1 2 10)))) 1090519040) 981668463 120 4) == 1) with
                                        | true =>
                                          cases (decide (0 < (Int.ofNat (List.length (Pure.impl_GrowOrbit_1 F (F.bin .quo .f32 (F.ofInt .f32 (IntKind.wrap .i64 (1 + (Pure.laws_b10At F x0 0 15)))) 1098907648) (F.bin .quo .f32 (F.ofInt .f32 (IntKind.wrap .i64 (12 + (Pure.laws_b10At F x1 2 10)))) 1090519040) 120 1))))) with
                                          | true =>
                                            cases (F.convOk .f32 .f64 (List.getD (List.getD (Pure.impl_GrowOrbit_1 F (F.bin .quo .f32 (F.ofInt .f32 (IntKind.wrap .i64 (1 + (Pure.laws_b10At F x0 0 15)))) 1098907648) (F.bin .quo .f32 (F.ofInt .f32 (IntKind.wrap .i64 (12 + (Pure.laws_b10At F x1 2 10)))) 1090519040) 120 1) 0 []) 0 0)) with
                                            | true =>
                                              cases (F.convOk .f32 .f64 (F.bin .quo .f32 (F.ofInt .f32 (IntKind.wrap .i64 (12 + (Pure.laws_b10At F x1 2 10)))) 1090519040)) with
                                              | true =>
                                                cases (F.cmp .lss .f64 (Pure.laws_b10Gap F (F.conv .f32 .f64 (List.getD (List.getD (Pure.impl_GrowOrbit_1 F (F.bin .quo .f32 (F.ofInt .f32 (IntKind.wrap .i64 (1 + (Pure.laws_b10At F x0 0 15)))) 1098907648) (F.bin .quo .f32 (F.ofInt .f32 (IntKind.wrap .i64 (12 + (Pure.laws_b10At F x1 2 10)))) 1090519040) 120 1) 0 []) 0 0)) (F.bin .sub .f64 4607182418800017408 (F.bin .quo .f64 4607182418800017408 (F.conv .f32 .f64 (F.bin .quo .f32 (F.ofInt .f32 (IntKind.wrap .i64 (12 + (Pure.laws_b10At F x1 2 10)))) 1090519040))))) 4576918229304087675) with
                                                | true =>
                                                  cases (Pure.impl_GrowExponent_1 F (F.bin .quo .f32 (F.ofInt .f32 (IntKind.wrap .i64 (1 + (Pure.laws_b10At F x0 0 15)))) 1098907648) (F.bin .quo .f32 (F.ofInt .f32 (IntKind.wrap .i64 (12 + (Pure.laws_b10At F x1 2 10)))) 1090519040) 100 20) with
                                                  | true =>
                                                    intro _; rfl
                                                  | false =>
                                                    intro _; rfl
                                                | false =>
                                                  intro _; rfl
                                              | false =>
                                                intro h; exact absurd h Bool.false_ne_true
                                            | false =>
                                              intro h; exact absurd h Bool.false_ne_true
                                          | false =>
                                            intro h; exact absurd h Bool.false_ne_true
                                        | false =>
                                          intro _; rfl
                                      | false =>
                                        intro _; rfl
                                    | false =>
                                      intro _; rfl
                                  | false =>
                                    intro h; exact absurd h Bool.false_ne_true
                                | false =>
                                  intro h; exact absurd h Bool.false_ne_true
                              | false =>
                                intro h; exact absurd h Bool.false_ne_true
                            | false =>
                              intro h; exact absurd h Bool.false_ne_true
                        | false =>
                          intro h; exact absurd h Bool.false_ne_true
                    | false =>
                      intro h; exact absurd h Bool.false_ne_true
                  | false =>
                    cases (Prod.fst (Pure.laws_FnGrowth_L0 F (F.bin .quo .f32 (F.ofInt .f32 (IntKind.wrap .i64 (1 + (Pure.laws_b10At F x0 0 15)))) 1098907648) (F.bin .quo .f32 (F.ofInt .f32 (Pure.laws_b10At F x0 1 33)) 1090519040) (Int.ofNat (List.length (Pure.impl_GrowOrbit_1 F (F.bin .quo .f32 (F.ofInt .f32 (IntKind.wrap .i64 (1 + (Pure.laws_b10At F x0 0 15)))) 1098907648) (F.bin .quo .f32 (F.ofInt .f32 (Pure.laws_b10At F x0 1 33)) 1090519040) (Pure.laws_b10At F x1 0 6) (IntKind.wrap .i64 (1 + (Pure.laws_b10At F x1 1 9)))))) x0 x1 (Pure.impl_GrowOrbit_1 F (F.bin .quo .f32 (F.ofInt .f32 (IntKind.wrap .i64 (1 + (Pure.laws_b10At F x0 0 15)))) 1098907648) (F.bin .quo .f32 (F.ofInt .f32 (Pure.laws_b10At F x0 1 33)) 1090519040) (Pure.laws_b10At F x1 0 6) (IntKind.wrap .i64 (1 + (Pure.laws_b10At F x1 1 9)))) (Nat.succ ((List.length (Pure.impl_GrowOrbit_1 F (F.bin .quo .f32 (F.ofInt .f32 (IntKind.wrap .i64 (1 + (Pure.laws_b10At F x0 0 15)))) 1098907648) (F.bin .quo .f32 (F.ofInt .f32 (Pure.laws_b10At F x0 1 33)) 1090519040) (Pure.laws_b10At F x1 0 6) (IntKind.wrap .i64 (1 + (Pure.laws_b10At F x1 1 9))))) + 0)) 0)) with
                    | true =>
                      cases (Prod.snd (Pure.laws_FnGrowth_L0 F (F.bin .quo .f32 (F.ofInt .f32 (IntKind.wrap .i64 (1 + (Pure.laws_b10At F x0 0 15)))) 1098907648) (F.bin .quo .f32 (F.ofInt .f32 (Pure.laws_b10At F x0 1 33)) 1090519040) (Int.ofNat (List.length (Pure.impl_GrowOrbit_1 F (F.bin .quo .f32 (F.ofInt .f32 (IntKind.wrap .i64 (1 + (Pure.laws_b10At F x0 0 15)))) 1098907648) (F.bin .quo .f32 (F.ofInt .f32 (Pure.laws_b10At F x0 1 33)) 1090519040) (Pure.laws_b10At F x1 0 6) (IntKind.wrap .i64 (1 + (Pure.laws_b10At F x1 1 9)))))) x0 x1 (Pure.impl_GrowOrbit_1 F (F.bin .quo .f32 (F.ofInt .f32 (IntKind.wrap .i64 (1 + (Pure.laws_b10At F x0 0 15)))) 1098907648) (F.bin .quo .f32 (F.ofInt .f32 (Pure.laws_b10At F x0 1 33)) 1090519040) (Pure.laws_b10At F x1 0 6) (IntKind.wrap .i64 (1 + (Pure.laws_b10At F x1 1 9)))) (Nat.succ ((List.length (Pure.impl_GrowOrbit_1 F (F.bin .quo .f32 (F.ofInt .f32 (IntKind.wrap .i64 (1 + (Pure.laws_b10At F x0 0 15)))) 1098907648) (F.bin .quo .f32 (F.ofInt .f32 (Pure.laws_b10At F x0 1 33)) 1090519040) (Pure.laws_b10At F x1 0 6) (IntKind.wrap .i64 (1 + (Pure.laws_b10At F x1 1 9))))) + 0)) 0)) with
                      | true =>
                        intro _; rfl
                      | false =>
                        cases (Pure.laws_b10At_ok F x1 2 10) with
                        | true =>
                          cases (Pure.impl_PeriodOf_ok F (F.bin .quo .f32 (F.ofInt .f32 (IntKind.wrap .i64 (1 + (Pure.laws_b10At F x0 0 15)))) 1098907648) (F.bin .quo .f32 (F.ofInt .f32 (IntKind.wrap .i64 (12 + (Pure.laws_b10At F x1 2 10)))) 1090519040) 981668463 120 4) with
                          | true =>
                            cases (Pure.impl_GrowOrbit_ok F (F.bin .quo .f32 (F.ofInt .f32 (IntKind.wrap .i64 (1 + (Pure.laws_b10At F x0 0 15)))) 1098907648) (F.bin .quo .f32 (F.ofInt .f32 (IntKind.wrap .i64 (12 + (Pure.laws_b10At F x1 2 10)))) 1090519040) 120 1) with
                            | true =>
                              cases (Pure.impl_GrowExponent_ok F (F.bin .quo .f32 (F.ofInt .f32 (IntKind.wrap .i64 (1 + (Pure.laws_b10At F x0 0 15)))) 1098907648) (F.bin .quo .f32 (F.ofInt .f32 (IntKind.wrap .i64 (12 + (Pure.laws_b10At F x1 2 10)))) 1090519040) 100 20) with
                              | true =>
                                cases (Pure.impl_PeriodOf_1 F (F.bin .quo .f32 (F.ofInt .f32 (IntKind.wrap .i64 (1 + (Pure.laws_b10At F x0 0 15)))) 1098907648) (F.bin .quo .f32 (F.ofInt .f32 (IntKind.wrap .i64 (12 + (Pure.laws_b10At F x1 2 10)))) 1090519040) 981668463 120 4) with
                                | true =>
                                  cases (Pure.impl_GrowOrbit F (F.bin .quo .f32 (F.ofInt .f32 (IntKind.wrap .i64 (1 + (Pure.laws_b10At F x0 0 15)))) 1098907648) (F.bin .quo .f32 (F.ofInt .f32 (IntKind.wrap .i64 (12 + (Pure.laws_b10At F x1 2 10)))) 1090519040) 120 1) with
                                  | true =>
                                    cases ((Pure.impl_PeriodOf F (F.bin .quo .f32 (F.ofInt .f32 (IntKind.wrap .i64 (1 + (Pure.laws_b10At F x0 0 15)))) 1098907648) (F.bin .quo .f32 (F.ofInt .f32 (IntKind.wrap .i64 (12 + (Pure.laws_b10At F x1 2 10)))) 1090519040) 981668463 120 4) == 1) with
                                    | true =>
                                      cases (decide (0 < (Int.ofNat (List.length (Pure.impl_GrowOrbit_1 F (F.bin .quo .f32 (F.ofInt .f32 (IntKind.wrap .i64 (1 + (Pure.laws_b10At F x0 0 15)))) 1098907648) (F.bin .quo .f32 (F.ofInt .f32 (IntKind.wrap .i64 (12 + (Pure.laws_b10At F x1 2 10)))) 1090519040) 120 1))))) with
                                      | true =>
                                        cases (F.convOk .f32 .f64 (List.getD (List.getD (Pure.impl_GrowOrbit_1 F (F.bin .quo .f32 (F.ofInt .f32 (IntKind.wrap .i64 (1 + (Pure.laws_b10At F x0 0 15)))) 1098907648) (F.bin .quo .f32 (F.ofInt .f32 (IntKind.wrap .i64 (12 + (Pure.laws_b10At F x1 2 10)))) 1090519040) 120 1) 0 []) 0 0)) with
                                        | true =>
                                          cases (F.convOk .f32 .f64 (F.bin .quo .f32 (F.ofInt .f32 (IntKind.wrap .i64 (12 + (Pure.laws_b10At F x1 2 10)))) 1090519040)) with
                                          | true =>
                                            cases (F.cmp .lss .f64 (Pure.laws_b10Gap F (F.conv .f32 .f64 (List.getD (List.getD (Pure.impl_GrowOrbit_1 F (F.bin .quo .f32 (F.ofInt .f32 (IntKind.wrap .i64 (1 + (Pure.laws_b10At F x0 0 15)))) 1098907648) (F.bin .quo .f32 (F.ofInt .f32 (IntKind.wrap .i64 (12 + (Pure.laws_b10At F x1 2 10)))) 1090519040) 120 1) 0 []) 0 0)) (F.bin .sub .f64 4607182418800017408 (F.bin .quo .f64 4607182418800017408 (F.conv .f32 .f64 (F.bin .quo .f32 (F.ofInt .f32 (IntKind.wrap .i64 (12 + (Pure.laws_b10At F x1 2 10)))) 1090519040))))) 4576918229304087675) with
                                            | true =>
                                              cases (Pure.impl_GrowExponent_1 F (F.bin .quo .f32 (F.ofInt .f32 (IntKind.wrap .i64 (1 + (Pure.laws_b10At F x0 0 15)))) 1098907648) (F.bin .quo .f32 (F.ofInt .f32 (IntKind.wrap .i64 (12 + (Pure.laws_b10At F x1 2 10)))) 1090519040) 100 20) with
                                              | true =>
                                                intro _; rfl
                                              | false =>
                                                intro _; rfl
                                            | false =>
                                              intro _; rfl
                                          | false =>
                                            intro h; exact absurd h Bool.false_ne_true
                                        | false =>
                                          intro h; exact absurd h Bool.false_ne_true
                                      | false =>
                                        intro h; exact absurd h Bool.false_ne_true
                                    | false =>
                                      intro _; rfl
                                  | false =>
                                    intro _; rfl
                                | false =>
                                  intro _; rfl
                              | false =>
                                intro h; exact absurd h Bool.false_ne_true
                            | false =>
                              intro h; exact absurd h Bool.false_ne_true
                          | false =>
                            intro h; exact absurd h Bool.false_ne_true
                        | false =>
                          intro h; exact absurd h Bool.false_ne_true
                    | false =>
                      intro h; exact absurd h Bool.false_ne_true
              | false =>
                intro _; rfl
            | false =>
              intro h; exact absurd h Bool.false_ne_true
          | false =>
            intro h; exact absurd h Bool.false_ne_true
        | false =>
          intro h; exact absurd h Bool.false_ne_true
      | false =>
        intro h; exact absurd h Bool.false_ne_true
    | false =>
      intro h; exact absurd h Bool.false_ne_true
theorem ok_laws_FnGrowth : CallOK Try.prog 4 (c_laws_FnGrowth real) := by
  refine callOK_of fun args h ret hc => ?_
  unfold c_laws_FnGrowth at hc
  split at hc
  · rename_i x0 x1
    obtain ⟨hok, rfl⟩ := some_ret hc
    exact holds_ev prog_ok (allOK_cons ok_laws_b10Long (allOK_cons ok_laws_b10At (allOK_cons ok_impl_GrowOrbit (allOK_cons ok_impl_GrowNext (allOK_cons ok_spec_SameNumber (allOK_cons ok_impl_PeriodOf (allOK_cons ok_impl_GrowExponent (allOK_cons ok_laws_b10Gap allOK_nil)))))))) Try.func4 rfl rfl (smL_cons (body := .loop (loopB 0 (codeOf Try.f4))) (by kernel_rfl) t_laws_FnGrowth_L0 smL_nil) rfl (e_laws_FnGrowth real x0 x1 hok)
  · cases hc
end Go.Fx
