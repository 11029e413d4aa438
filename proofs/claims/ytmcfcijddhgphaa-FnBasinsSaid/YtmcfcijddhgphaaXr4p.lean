import Derived.Test.YtmcfcijddhgphaaXr4c
import Derived.KernelRfl
namespace Go.Fx
open Go.Proofs
set_option maxRecDepth 100000
def Pure.spec_l07Damp (F : FOps) (x0 x1 x2 x3 : Int) : Int := Pure.spec_l05Wrap F (F.bin .add .f32 x0 (Pure.spec_l07Kick F (F.bin .add .f32 (F.bin .mul .f32 x3 x1) (F.bin .mul .f32 x2 (Pure.spec_l01Sine F x0)))))
def Pure.spec_l07Damp_1 (F : FOps) (x0 x1 x2 x3 : Int) : Int := Pure.spec_l07Kick F (F.bin .add .f32 (F.bin .mul .f32 x3 x1) (F.bin .mul .f32 x2 (Pure.spec_l01Sine F x0)))
def Pure.spec_l07Damp_ok (F : FOps) (x0 x1 x2 x3 : Int) : Bool := bif Pure.spec_l01Sine_ok F x0 then bif Pure.spec_l07Kick_ok F (F.bin .add .f32 (F.bin .mul .f32 x3 x1) (F.bin .mul .f32 x2 (Pure.spec_l01Sine F x0))) then Pure.spec_l05Wrap_ok F (F.bin .add .f32 x0 (Pure.spec_l07Kick F (F.bin .add .f32 (F.bin .mul .f32 x3 x1) (F.bin .mul .f32 x2 (Pure.spec_l01Sine F x0))))) else false else false
def Pure.spec_l00Min (F : FOps) (x0 x1 : Int) : Int := bif decide (x0 < x1) then x0 else x1
def Pure.spec_l07Rest_L0 (F : FOps) (y0 y1 y3 : Int) : Nat → Int → Int → Int → (Bool × Int × Int)
  | 0, _, _, _ => (false, 0, 0)
  | n + 1, y2, y4, y5 => bif (decide (y2 > 0)) then (bif (Pure.spec_l07Damp_ok F y4 y5 y0 y1) then (Pure.spec_l07Rest_L0 F y0 y1 y3 n (IntKind.wrap .i64 (y2 - 1)) (Pure.spec_l07Damp F y4 y5 y0 y1) (Pure.spec_l07Damp_1 F y4 y5 y0 y1)) else ((false, 0, 0))) else ((true, y4, y5))
def Pure.spec_l07Rest (F : FOps) (x0 x1 x2 x3 x4 x5 : Int) : Int := Pure.spec_l00Min F (IntKind.wrap .i64 (x5 - 1)) (F.toInt .f32 IntKind.i64 (F.bin .mul .f32 (F.ofInt .f32 x5) (Prod.fst (Prod.snd (Pure.spec_l07Rest_L0 F x2 x3 x5 (Int.toNat ((x4 - 0) + 1)) x4 x0 x1)))))
def Pure.spec_l07Rest_ok (F : FOps) (x0 x1 x2 x3 x4 x5 : Int) : Bool := bif Prod.fst (Pure.spec_l07Rest_L0 F x2 x3 x5 (Int.toNat ((x4 - 0) + 1)) x4 x0 x1) then F.toIntOk .f32 IntKind.i64 (F.bin .mul .f32 (F.ofInt .f32 x5) (Prod.fst (Prod.snd (Pure.spec_l07Rest_L0 F x2 x3 x5 (Int.toNat ((x4 - 0) + 1)) x4 x0 x1)))) else false
def Pure.spec_l07Row_L0 (F : FOps) (y0 y1 y2 y3 y4 y5 : Int) : Nat → Int → (List (List Int)) → (Bool × (List (List Int)))
  | 0, _, _ => (false, [])
  | n + 1, y6, y7 => bif (decide (y6 < y0)) then (bif (Pure.spec_l07Rest_ok F (F.bin .quo .f32 (F.ofInt .f32 y6) (F.ofInt .f32 y0)) y5 y1 y2 y3 y4) then (bif (decide ((Nat.succ y7.length) ≤ 1073741824)) then (Pure.spec_l07Row_L0 F y0 y1 y2 y3 y4 y5 n (IntKind.wrap .i64 (y6 + 1)) (y7 ++ [[Pure.spec_l07Rest F (F.bin .quo .f32 (F.ofInt .f32 y6) (F.ofInt .f32 y0)) y5 y1 y2 y3 y4]])) else ((false, []))) else ((false, []))) else ((true, y7))
def Pure.spec_l07Row (F : FOps) (x0 x1 x2 x3 x4 x5 x6 : Int) : List (List Int) := Prod.snd (Pure.spec_l07Row_L0 F x1 x3 x4 x5 x6 (Pure.spec_l07Kick F (F.bin .sub .f32 (F.bin .quo .f32 (F.ofInt .f32 x0) (F.ofInt .f32 x2)) 1056964608)) (Int.toNat ((x1 - 0) + 1)) 0 [])
def Pure.spec_l07Row_ok (F : FOps) (x0 x1 x2 x3 x4 x5 x6 : Int) : Bool := bif Pure.spec_l07Kick_ok F (F.bin .sub .f32 (F.bin .quo .f32 (F.ofInt .f32 x0) (F.ofInt .f32 x2)) 1056964608) then Prod.fst (Pure.spec_l07Row_L0 F x1 x3 x4 x5 x6 (Pure.spec_l07Kick F (F.bin .sub .f32 (F.bin .quo .f32 (F.ofInt .f32 x0) (F.ofInt .f32 x2)) 1056964608)) (Int.toNat ((x1 - 0) + 1)) 0 []) else false
def Pure.spec_BasinsOf_L0 (F : FOps) (y0 y1 y2 y3 y4 y5 : Int) : Nat → Int → (List (List Int)) → (Bool × (List (List Int)))
  | 0, _, _ => (false, [])
  | n + 1, y6, y7 => bif (decide (y6 < y1)) then (bif (Pure.spec_l07Row_ok F y6 y0 y1 y2 y3 y4 y5) then (bif (decide ((y7.length + (List.length (Pure.spec_l07Row F y6 y0 y1 y2 y3 y4 y5))) ≤ 1073741824)) then (Pure.spec_BasinsOf_L0 F y0 y1 y2 y3 y4 y5 n (IntKind.wrap .i64 (y6 + 1)) (y7 ++ (Pure.spec_l07Row F y6 y0 y1 y2 y3 y4 y5))) else ((false, []))) else ((false, []))) else ((true, y7))
def Pure.impl_in (F : FOps) (x0 x1 x2 : Int) : Bool := bif decide (x0 ≥ x1) then decide (x0 ≤ x2) else false
def c_impl_in (F : FOps) : Con
  | [V.at (A.int .i64 x0), V.at (A.int .i64 x1), V.at (A.int .i64 x2)], [] => some (true, ⟨V.at (A.bool (Pure.impl_in F x0 x1 x2)), none, []⟩)
  | _, _ => none
theorem e_impl_in (F : FOps) (x0 x1 x2 : Int) : evFn (cxS F tyl [] [] [] 0) Try.f51 false [V.at (A.int .i64 x0), V.at (A.int .i64 x1), V.at (A.int .i64 x2)] [] = some ⟨V.at (A.bool (Pure.impl_in F x0 x1 x2)), none, []⟩ := by
  have h0 : evFn (cxS F tyl [] [] [] 0) Try.f51 false [V.at (A.int .i64 x0), V.at (A.int .i64 x1), V.at (A.int .i64 x2)] [] = bif decide (x0 ≥ x1) then some ⟨V.at (A.bool (decide (x0 ≤ x2))), none, []⟩ else some ⟨V.at (A.bool false), none, []⟩ := by kernel_rfl
  rw [h0]
  unfold Pure.impl_in
  cases (decide (x0 ≥ x1)) with
  | true =>
    rfl
  | false =>
    rfl
theorem ok_impl_in : CallOK Try.prog 51 (c_impl_in real) := by
  refine callOK_of fun args h ret hc => ?_
  unfold c_impl_in at hc
  split at hc
  · rename_i x0 x1 x2
    obtain ⟨_, rfl⟩ := some_ret hc
    exact holds_ev prog_ok allOK_nil Try.func51 rfl rfl smL_nil rfl (e_impl_in real x0 x1 x2)
  · cases hc
def c_impl_gridOk (F : FOps) : Con
  | [V.at (A.int .i64 x0)], [] => some (true, ⟨V.at (A.bool (Pure.impl_in F x0 1 32)), none, []⟩)
  | _, _ => none
theorem e_impl_gridOk (F : FOps) (x0 : Int) : evFn (cxS F tyl [(51, c_impl_in F)] [] [] 0) Try.f60 false [V.at (A.int .i64 x0)] [] = some ⟨V.at (A.bool (Pure.impl_in F x0 1 32)), none, []⟩ := by
  kernel_rfl
theorem ok_impl_gridOk : CallOK Try.prog 60 (c_impl_gridOk real) := by
  refine callOK_of fun args h ret hc => ?_
  unfold c_impl_gridOk at hc
  split at hc
  · rename_i x0
    obtain ⟨_, rfl⟩ := some_ret hc
    exact holds_ev prog_ok (allOK_cons ok_impl_in allOK_nil) Try.func60 rfl rfl smL_nil rfl (e_impl_gridOk real x0)
  · cases hc
def Pure.impl_shareOk (F : FOps) (x0 : Int) : Bool := bif F.cmp .geq .f32 x0 0 then F.cmp .leq .f32 x0 1065353216 else false
def c_impl_shareOk (F : FOps) : Con
  | [V.at (A.fl .f32 x0)], [] => some (true, ⟨V.at (A.bool (Pure.impl_shareOk F x0)), none, []⟩)
  | _, _ => none
theorem e_impl_shareOk (F : FOps) (x0 : Int) : evFn (cxS F tyl [] [] [] 0) Try.f103 false [V.at (A.fl .f32 x0)] [] = some ⟨V.at (A.bool (Pure.impl_shareOk F x0)), none, []⟩ := by
  have h0 : evFn (cxS F tyl [] [] [] 0) Try.f103 false [V.at (A.fl .f32 x0)] [] = bif F.cmp .geq .f32 x0 0 then some ⟨V.at (A.bool (F.cmp .leq .f32 x0 1065353216)), none, []⟩ else some ⟨V.at (A.bool false), none, []⟩ := by kernel_rfl
  rw [h0]
  unfold Pure.impl_shareOk
  cases (F.cmp .geq .f32 x0 0) with
  | true =>
    rfl
  | false =>
    rfl
theorem ok_impl_shareOk : CallOK Try.prog 103 (c_impl_shareOk real) := by
  refine callOK_of fun args h ret hc => ?_
  unfold c_impl_shareOk at hc
  split at hc
  · rename_i x0
    obtain ⟨_, rfl⟩ := some_ret hc
    exact holds_ev prog_ok allOK_nil Try.func103 rfl rfl smL_nil rfl (e_impl_shareOk real x0)
  · cases hc
def Pure.impl_restOk (F : FOps) (x0 x1 x2 x3 : Int) : Bool := bif Pure.impl_sizeOk F x0 then bif Pure.impl_shareOk F x1 then bif Pure.impl_in F x2 0 128 then Pure.impl_in F x3 1 16 else false else false else false
def c_impl_restOk (F : FOps) : Con
  | [V.at (A.fl .f32 x0), V.at (A.fl .f32 x1), V.at (A.int .i64 x2), V.at (A.int .i64 x3)], [] => some (true, ⟨V.at (A.bool (Pure.impl_restOk F x0 x1 x2 x3)), none, []⟩)
  | _, _ => none
theorem e_impl_restOk (F : FOps) (x0 x1 x2 x3 : Int) : evFn (cxS F tyl [(102, c_impl_sizeOk F), (103, c_impl_shareOk F), (51, c_impl_in F)] [] [] 0) Try.f61 false [V.at (A.fl .f32 x0), V.at (A.fl .f32 x1), V.at (A.int .i64 x2), V.at (A.int .i64 x3)] [] = some ⟨V.at (A.bool (Pure.impl_restOk F x0 x1 x2 x3)), none, []⟩ := by
  have h0 : evFn (cxS F tyl [(102, c_impl_sizeOk F), (103, c_impl_shareOk F), (51, c_impl_in F)] [] [] 0) Try.f61 false [V.at (A.fl .f32 x0), V.at (A.fl .f32 x1), V.at (A.int .i64 x2), V.at (A.int .i64 x3)] [] = bif Pure.impl_sizeOk F x0 then bif Pure.impl_shareOk F x1 then bif Pure.impl_in F x2 0 128 then some ⟨V.at (A.bool (Pure.impl_in F x3 1 16)), none, []⟩ else some ⟨V.at (A.bool false), none, []⟩ else some ⟨V.at (A.bool false), none, []⟩ else some ⟨V.at (A.bool false), none, []⟩ := by kernel_rfl
  rw [h0]
  unfold Pure.impl_restOk
  cases (Pure.impl_sizeOk F x0) with
  | true =>
    cases (Pure.impl_shareOk F x1) with
    | true =>
      cases (Pure.impl_in F x2 0 128) with
      | true =>
        rfl
      | false =>
        rfl
    | false =>
      rfl
  | false =>
    rfl
theorem ok_impl_restOk : CallOK Try.prog 61 (c_impl_restOk real) := by
  refine callOK_of fun args h ret hc => ?_
  unfold c_impl_restOk at hc
  split at hc
  · rename_i x0 x1 x2 x3
    obtain ⟨_, rfl⟩ := some_ret hc
    exact holds_ev prog_ok (allOK_cons ok_impl_sizeOk (allOK_cons ok_impl_shareOk (allOK_cons ok_impl_in allOK_nil))) Try.func61 rfl rfl smL_nil rfl (e_impl_restOk real x0 x1 x2 x3)
  · cases hc
def Pure.impl_WrapKick (F : FOps) (x0 : Int) : Int := bif Pure.impl_IsFinite F x0 then bif F.cmp .geq .f32 (F.conv .f64 .f32 (F.bin .sub .f64 (F.conv .f32 .f64 x0) (F.integral Ieee.Toward.down (F.bin .add .f64 (F.conv .f32 .f64 x0) 4602678819172646912)))) 1056964608 then 3204448256 else bif F.cmp .eql .f32 (F.conv .f64 .f32 (F.bin .sub .f64 (F.conv .f32 .f64 x0) (F.integral Ieee.Toward.down (F.bin .add .f64 (F.conv .f32 .f64 x0) 4602678819172646912)))) 0 then 0 else F.conv .f64 .f32 (F.bin .sub .f64 (F.conv .f32 .f64 x0) (F.integral Ieee.Toward.down (F.bin .add .f64 (F.conv .f32 .f64 x0) 4602678819172646912))) else 0
def Pure.impl_WrapKick_ok (F : FOps) (x0 : Int) : Bool := bif Pure.impl_IsFinite F x0 then bif F.convOk .f32 .f64 x0 then F.convOk .f64 .f32 (F.bin .sub .f64 (F.conv .f32 .f64 x0) (F.integral Ieee.Toward.down (F.bin .add .f64 (F.conv .f32 .f64 x0) 4602678819172646912))) else false else true
def c_impl_WrapKick (F : FOps) : Con
  | [V.at (A.fl .f32 x0)], [] => some (Pure.impl_WrapKick_ok F x0, ⟨V.tup [(false, [A.fl .f32 (Pure.impl_WrapKick F x0)]), (false, [A.bool (Pure.impl_IsFinite F x0)])], none, []⟩)
  | _, _ => none
theorem e_impl_WrapKick (F : FOps) (x0 : Int) : Pure.impl_WrapKick_ok F x0 = true → evFn (cxS F tyl [(47, c_impl_IsFinite F), (48, c_math_Floor F)] [] [] 0) Try.f16 false [V.at (A.fl .f32 x0)] [] = some ⟨V.tup [(false, [A.fl .f32 (Pure.impl_WrapKick F x0)]), (false, [A.bool (Pure.impl_IsFinite F x0)])], none, []⟩ := by
  have h0 : evFn (cxS F tyl [(47, c_impl_IsFinite F), (48, c_math_Floor F)] [] [] 0) Try.f16 false [V.at (A.fl .f32 x0)] [] = bif Bool.not (Pure.impl_IsFinite F x0) then some ⟨V.tup [(false, [A.fl .f32 0]), (false, [A.bool false])], none, []⟩ else bif F.convOk .f32 .f64 x0 then bif F.convOk .f32 .f64 x0 then bif F.convOk .f64 .f32 (F.bin .sub .f64 (F.conv .f32 .f64 x0) (F.integral Ieee.Toward.down (F.bin .add .f64 (F.conv .f32 .f64 x0) 4602678819172646912))) then bif F.cmp .geq .f32 (F.conv .f64 .f32 (F.bin .sub .f64 (F.conv .f32 .f64 x0) (F.integral Ieee.Toward.down (F.bin .add .f64 (F.conv .f32 .f64 x0) 4602678819172646912)))) 1056964608 then some ⟨V.tup [(false, [A.fl .f32 3204448256]), (false, [A.bool true])], none, []⟩ else bif F.cmp .eql .f32 (F.conv .f64 .f32 (F.bin .sub .f64 (F.conv .f32 .f64 x0) (F.integral Ieee.Toward.down (F.bin .add .f64 (F.conv .f32 .f64 x0) 4602678819172646912)))) 0 then some ⟨V.tup [(false, [A.fl .f32 0]), (false, [A.bool true])], none, []⟩ else some ⟨V.tup [(false, [A.fl .f32 (F.conv .f64 .f32 (F.bin .sub .f64 (F.conv .f32 .f64 x0) (F.integral Ieee.Toward.down (F.bin .add .f64 (F.conv .f32 .f64 x0) 4602678819172646912))))]), (false, [A.bool true])], none, []⟩ else none else none else none := by kernel_rfl
  rw [h0]
  unfold Pure.impl_WrapKick Pure.impl_WrapKick_ok
  cases (Pure.impl_IsFinite F x0) with
  | true =>
    cases (F.convOk .f32 .f64 x0) with
    | true =>
      cases (F.convOk .f64 .f32 (F.bin .sub .f64 (F.conv .f32 .f64 x0) (F.integral Ieee.Toward.down (F.bin .add .f64 (F.conv .f32 .f64 x0) 4602678819172646912)))) with
      | true =>
        cases (F.cmp .geq .f32 (F.conv .f64 .f32 (F.bin .sub .f64 (F.conv .f32 .f64 x0) (F.integral Ieee.Toward.down (F.bin .add .f64 (F.conv .f32 .f64 x0) 4602678819172646912)))) 1056964608) with
        | true =>
          intro _; rfl
        | false =>
          cases (F.cmp .eql .f32 (F.conv .f64 .f32 (F.bin .sub .f64 (F.conv .f32 .f64 x0) (F.integral Ieee.Toward.down (F.bin .add .f64 (F.conv .f32 .f64 x0) 4602678819172646912)))) 0) with
          | true =>
            intro _; rfl
          | false =>
            intro _; rfl
      | false =>
        intro h; exact absurd h Bool.false_ne_true
    | false =>
      intro h; exact absurd h Bool.false_ne_true
  | false =>
    intro _; rfl
theorem ok_impl_WrapKick : CallOK Try.prog 16 (c_impl_WrapKick real) := by
  refine callOK_of fun args h ret hc => ?_
  unfold c_impl_WrapKick at hc
  split at hc
  · rename_i x0
    obtain ⟨hok, rfl⟩ := some_ret hc
    exact holds_ev prog_ok (allOK_cons ok_impl_IsFinite (allOK_cons ok_math_Floor allOK_nil)) Try.func16 rfl rfl smL_nil rfl (e_impl_WrapKick real x0 hok)
  · cases hc
def Pure.impl_kicked_ok (F : FOps) (x0 : Int) : Bool := Pure.impl_WrapKick_ok F x0
def c_impl_kicked (F : FOps) : Con
  | [V.at (A.fl .f32 x0)], [] => some (Pure.impl_kicked_ok F x0, ⟨V.at (A.fl .f32 (Pure.impl_WrapKick F x0)), none, []⟩)
  | _, _ => none
theorem e_impl_kicked (F : FOps) (x0 : Int) : Pure.impl_kicked_ok F x0 = true → evFn (cxS F tyl [(16, c_impl_WrapKick F)] [] [] 0) Try.f105 false [V.at (A.fl .f32 x0)] [] = some ⟨V.at (A.fl .f32 (Pure.impl_WrapKick F x0)), none, []⟩ := by
  have h0 : evFn (cxS F tyl [(16, c_impl_WrapKick F)] [] [] 0) Try.f105 false [V.at (A.fl .f32 x0)] [] = bif Pure.impl_WrapKick_ok F x0 then some ⟨V.at (A.fl .f32 (Pure.impl_WrapKick F x0)), none, []⟩ else none := by kernel_rfl
  rw [h0]
  unfold Pure.impl_kicked_ok
  cases (Pure.impl_WrapKick_ok F x0) with
  | true =>
    intro _; rfl
  | false =>
    intro h; exact absurd h Bool.false_ne_true
theorem ok_impl_kicked : CallOK Try.prog 105 (c_impl_kicked real) := by
  refine callOK_of fun args h ret hc => ?_
  unfold c_impl_kicked at hc
  split at hc
  · rename_i x0
    obtain ⟨hok, rfl⟩ := some_ret hc
    exact holds_ev prog_ok (allOK_cons ok_impl_WrapKick allOK_nil) Try.func105 rfl rfl smL_nil rfl (e_impl_kicked real x0 hok)
  · cases hc
def Pure.impl_WrapTurn (F : FOps) (x0 : Int) : Int := bif Pure.impl_IsFinite F x0 then bif F.cmp .eql .f32 (F.conv .f64 .f32 (F.bin .sub .f64 (F.conv .f32 .f64 x0) (F.integral Ieee.Toward.down (F.conv .f32 .f64 x0)))) 1065353216 then 0 else bif F.cmp .eql .f32 (F.conv .f64 .f32 (F.bin .sub .f64 (F.conv .f32 .f64 x0) (F.integral Ieee.Toward.down (F.conv .f32 .f64 x0)))) 0 then 0 else F.conv .f64 .f32 (F.bin .sub .f64 (F.conv .f32 .f64 x0) (F.integral Ieee.Toward.down (F.conv .f32 .f64 x0))) else 0
def Pure.impl_WrapTurn_ok (F : FOps) (x0 : Int) : Bool := bif Pure.impl_IsFinite F x0 then bif F.convOk .f32 .f64 x0 then F.convOk .f64 .f32 (F.bin .sub .f64 (F.conv .f32 .f64 x0) (F.integral Ieee.Toward.down (F.conv .f32 .f64 x0))) else false else true
def c_impl_WrapTurn (F : FOps) : Con
  | [V.at (A.fl .f32 x0)], [] => some (Pure.impl_WrapTurn_ok F x0, ⟨V.tup [(false, [A.fl .f32 (Pure.impl_WrapTurn F x0)]), (false, [A.bool (Pure.impl_IsFinite F x0)])], none, []⟩)
  | _, _ => none
theorem e_impl_WrapTurn (F : FOps) (x0 : Int) : Pure.impl_WrapTurn_ok F x0 = true → evFn (cxS F tyl [(47, c_impl_IsFinite F), (48, c_math_Floor F)] [] [] 0) Try.f14 false [V.at (A.fl .f32 x0)] [] = some ⟨V.tup [(false, [A.fl .f32 (Pure.impl_WrapTurn F x0)]), (false, [A.bool (Pure.impl_IsFinite F x0)])], none, []⟩ := by
  have h0 : evFn (cxS F tyl [(47, c_impl_IsFinite F), (48, c_math_Floor F)] [] [] 0) Try.f14 false [V.at (A.fl .f32 x0)] [] = bif Bool.not (Pure.impl_IsFinite F x0) then some ⟨V.tup [(false, [A.fl .f32 0]), (false, [A.bool false])], none, []⟩ else bif F.convOk .f32 .f64 x0 then bif F.convOk .f32 .f64 x0 then bif F.convOk .f64 .f32 (F.bin .sub .f64 (F.conv .f32 .f64 x0) (F.integral Ieee.Toward.down (F.conv .f32 .f64 x0))) then bif F.cmp .eql .f32 (F.conv .f64 .f32 (F.bin .sub .f64 (F.conv .f32 .f64 x0) (F.integral Ieee.Toward.down (F.conv .f32 .f64 x0)))) 1065353216 then some ⟨V.tup [(false, [A.fl .f32 0]), (false, [A.bool true])], none, []⟩ else bif F.cmp .eql .f32 (F.conv .f64 .f32 (F.bin .sub .f64 (F.conv .f32 .f64 x0) (F.integral Ieee.Toward.down (F.conv .f32 .f64 x0)))) 0 then some ⟨V.tup [(false, [A.fl .f32 0]), (false, [A.bool true])], none, []⟩ else some ⟨V.tup [(false, [A.fl .f32 (F.conv .f64 .f32 (F.bin .sub .f64 (F.conv .f32 .f64 x0) (F.integral Ieee.Toward.down (F.conv .f32 .f64 x0))))]), (false, [A.bool true])], none, []⟩ else none else none else none := by kernel_rfl
  rw [h0]
  unfold Pure.impl_WrapTurn Pure.impl_WrapTurn_ok
  cases (Pure.impl_IsFinite F x0) with
  | true =>
    cases (F.convOk .f32 .f64 x0) with
    | true =>
      cases (F.convOk .f64 .f32 (F.bin .sub .f64 (F.conv .f32 .f64 x0) (F.integral Ieee.Toward.down (F.conv .f32 .f64 x0)))) with
      | true =>
        cases (F.cmp .eql .f32 (F.conv .f64 .f32 (F.bin .sub .f64 (F.conv .f32 .f64 x0) (F.integral Ieee.Toward.down (F.conv .f32 .f64 x0)))) 1065353216) with
        | true =>
          intro _; rfl
        | false =>
          cases (F.cmp .eql .f32 (F.conv .f64 .f32 (F.bin .sub .f64 (F.conv .f32 .f64 x0) (F.integral Ieee.Toward.down (F.conv .f32 .f64 x0)))) 0) with
          | true =>
            intro _; rfl
          | false =>
            intro _; rfl
      | false =>
        intro h; exact absurd h Bool.false_ne_true
    | false =>
      intro h; exact absurd h Bool.false_ne_true
  | false =>
    intro _; rfl
theorem ok_impl_WrapTurn : CallOK Try.prog 14 (c_impl_WrapTurn real) := by
  refine callOK_of fun args h ret hc => ?_
  unfold c_impl_WrapTurn at hc
  split at hc
  · rename_i x0
    obtain ⟨hok, rfl⟩ := some_ret hc
    exact holds_ev prog_ok (allOK_cons ok_impl_IsFinite (allOK_cons ok_math_Floor allOK_nil)) Try.func14 rfl rfl smL_nil rfl (e_impl_WrapTurn real x0 hok)
  · cases hc
def Pure.impl_wrapped_ok (F : FOps) (x0 : Int) : Bool := Pure.impl_WrapTurn_ok F x0
def c_impl_wrapped (F : FOps) : Con
  | [V.at (A.fl .f32 x0)], [] => some (Pure.impl_wrapped_ok F x0, ⟨V.at (A.fl .f32 (Pure.impl_WrapTurn F x0)), none, []⟩)
  | _, _ => none
theorem e_impl_wrapped (F : FOps) (x0 : Int) : Pure.impl_wrapped_ok F x0 = true → evFn (cxS F tyl [(14, c_impl_WrapTurn F)] [] [] 0) Try.f94 false [V.at (A.fl .f32 x0)] [] = some ⟨V.at (A.fl .f32 (Pure.impl_WrapTurn F x0)), none, []⟩ := by
  have h0 : evFn (cxS F tyl [(14, c_impl_WrapTurn F)] [] [] 0) Try.f94 false [V.at (A.fl .f32 x0)] [] = bif Pure.impl_WrapTurn_ok F x0 then some ⟨V.at (A.fl .f32 (Pure.impl_WrapTurn F x0)), none, []⟩ else none := by kernel_rfl
  rw [h0]
  unfold Pure.impl_wrapped_ok
  cases (Pure.impl_WrapTurn_ok F x0) with
  | true =>
    intro _; rfl
  | false =>
    intro h; exact absurd h Bool.false_ne_true
theorem ok_impl_wrapped : CallOK Try.prog 94 (c_impl_wrapped real) := by
  refine callOK_of fun args h ret hc => ?_
  unfold c_impl_wrapped at hc
  split at hc
  · rename_i x0
    obtain ⟨hok, rfl⟩ := some_ret hc
    exact holds_ev prog_ok (allOK_cons ok_impl_WrapTurn allOK_nil) Try.func94 rfl rfl smL_nil rfl (e_impl_wrapped real x0 hok)
  · cases hc
def Pure.impl_State_damped (F : FOps) (x0 x1 x2 x3 : Int) : Int := Pure.impl_WrapTurn F (F.bin .add .f32 x0 (Pure.impl_WrapKick F (F.bin .add .f32 (F.bin .mul .f32 x3 x1) (F.bin .mul .f32 x2 (Pure.impl_SineTurns F x0)))))
def Pure.impl_State_damped_1 (F : FOps) (x0 x1 x2 x3 : Int) : Int := Pure.impl_WrapKick F (F.bin .add .f32 (F.bin .mul .f32 x3 x1) (F.bin .mul .f32 x2 (Pure.impl_SineTurns F x0)))
def Pure.impl_State_damped_ok (F : FOps) (x0 x1 x2 x3 : Int) : Bool := bif Pure.impl_SineTurns_ok F x0 then bif Pure.impl_kicked_ok F (F.bin .add .f32 (F.bin .mul .f32 x3 x1) (F.bin .mul .f32 x2 (Pure.impl_SineTurns F x0))) then Pure.impl_wrapped_ok F (F.bin .add .f32 x0 (Pure.impl_WrapKick F (F.bin .add .f32 (F.bin .mul .f32 x3 x1) (F.bin .mul .f32 x2 (Pure.impl_SineTurns F x0))))) else false else false
def c_impl_State_damped (F : FOps) : Con
  | [V.agg [A.fl .f32 x0, A.fl .f32 x1], V.at (A.fl .f32 x2), V.at (A.fl .f32 x3)], [] => some (Pure.impl_State_damped_ok F x0 x1 x2 x3, ⟨V.agg [A.fl .f32 (Pure.impl_State_damped F x0 x1 x2 x3), A.fl .f32 (Pure.impl_State_damped_1 F x0 x1 x2 x3)], none, []⟩)
  | _, _ => none
theorem e_impl_State_damped (F : FOps) (x0 x1 x2 x3 : Int) : Pure.impl_State_damped_ok F x0 x1 x2 x3 = true → evFn (cxS F tyl [(115, c_impl_SineTurns F), (105, c_impl_kicked F), (94, c_impl_wrapped F)] [] [] 0) Try.f106 false [V.agg [A.fl .f32 x0, A.fl .f32 x1], V.at (A.fl .f32 x2), V.at (A.fl .f32 x3)] [] = some ⟨V.agg [A.fl .f32 (Pure.impl_State_damped F x0 x1 x2 x3), A.fl .f32 (Pure.impl_State_damped_1 F x0 x1 x2 x3)], none, []⟩ := by
  have h0 : evFn (cxS F tyl [(115, c_impl_SineTurns F), (105, c_impl_kicked F), (94, c_impl_wrapped F)] [] [] 0) Try.f106 false [V.agg [A.fl .f32 x0, A.fl .f32 x1], V.at (A.fl .f32 x2), V.at (A.fl .f32 x3)] [] = bif Pure.impl_SineTurns_ok F x0 then bif Pure.impl_kicked_ok F (F.bin .add .f32 (F.bin .mul .f32 x3 x1) (F.bin .mul .f32 x2 (Pure.impl_SineTurns F x0))) then bif Pure.impl_wrapped_ok F (F.bin .add .f32 x0 (Pure.impl_WrapKick F (F.bin .add .f32 (F.bin .mul .f32 x3 x1) (F.bin .mul .f32 x2 (Pure.impl_SineTurns F x0))))) then some ⟨V.agg [A.fl .f32 (Pure.impl_WrapTurn F (F.bin .add .f32 x0 (Pure.impl_WrapKick F (F.bin .add .f32 (F.bin .mul .f32 x3 x1) (F.bin .mul .f32 x2 (Pure.impl_SineTurns F x0)))))), A.fl .f32 (Pure.impl_WrapKick F (F.bin .add .f32 (F.bin .mul .f32 x3 x1) (F.bin .mul .f32 x2 (Pure.impl_SineTurns F x0))))], none, []⟩ else none else none else none := by kernel_rfl
  rw [h0]
  unfold Pure.impl_State_damped Pure.impl_State_damped_1 Pure.impl_State_damped_ok
  cases (Pure.impl_SineTurns_ok F x0) with
  | true =>
    cases (Pure.impl_kicked_ok F (F.bin .add .f32 (F.bin .mul .f32 x3 x1) (F.bin .mul .f32 x2 (Pure.impl_SineTurns F x0)))) with
    | true =>
      cases (Pure.impl_wrapped_ok F (F.bin .add .f32 x0 (Pure.impl_WrapKick F (F.bin .add .f32 (F.bin .mul .f32 x3 x1) (F.bin .mul .f32 x2 (Pure.impl_SineTurns F x0)))))) with
      | true =>
        intro _; rfl
      | false =>
        intro h; exact absurd h Bool.false_ne_true
    | false =>
      intro h; exact absurd h Bool.false_ne_true
  | false =>
    intro h; exact absurd h Bool.false_ne_true
theorem ok_impl_State_damped : CallOK Try.prog 106 (c_impl_State_damped real) := by
  refine callOK_of fun args h ret hc => ?_
  unfold c_impl_State_damped at hc
  split at hc
  · rename_i x0 x1 x2 x3
    obtain ⟨hok, rfl⟩ := some_ret hc
    exact holds_ev prog_ok (allOK_cons ok_impl_SineTurns (allOK_cons ok_impl_kicked (allOK_cons ok_impl_wrapped allOK_nil))) Try.func106 rfl rfl smL_nil rfl (e_impl_State_damped real x0 x1 x2 x3 hok)
  · cases hc
def Pure.impl_box (F : FOps) (x0 x1 : Int) : Int := bif decide ((IntKind.wrap .i64 (x0 - 1)) < (F.toInt .f64 IntKind.i64 (F.integral Ieee.Toward.down (F.conv .f32 .f64 (F.bin .mul .f32 (F.ofInt .f32 x0) x1))))) then IntKind.wrap .i64 (x0 - 1) else F.toInt .f64 IntKind.i64 (F.integral Ieee.Toward.down (F.conv .f32 .f64 (F.bin .mul .f32 (F.ofInt .f32 x0) x1)))
def Pure.impl_box_ok (F : FOps) (x0 x1 : Int) : Bool := bif F.convOk .f32 .f64 (F.bin .mul .f32 (F.ofInt .f32 x0) x1) then F.toIntOk .f64 IntKind.i64 (F.integral Ieee.Toward.down (F.conv .f32 .f64 (F.bin .mul .f32 (F.ofInt .f32 x0) x1))) else false
def c_impl_box (F : FOps) : Con
  | [V.at (A.int .i64 x0), V.at (A.fl .f32 x1)], [] => some (Pure.impl_box_ok F x0 x1, ⟨V.at (A.int .i64 (Pure.impl_box F x0 x1)), none, []⟩)
  | _, _ => none
theorem e_impl_box (F : FOps) (x0 x1 : Int) : Pure.impl_box_ok F x0 x1 = true → evFn (cxS F tyl [(48, c_math_Floor F)] [] [] 0) Try.f107 false [V.at (A.int .i64 x0), V.at (A.fl .f32 x1)] [] = some ⟨V.at (A.int .i64 (Pure.impl_box F x0 x1)), none, []⟩ := by
  have h0 : evFn (cxS F tyl [(48, c_math_Floor F)] [] [] 0) Try.f107 false [V.at (A.int .i64 x0), V.at (A.fl .f32 x1)] [] = bif F.convOk .f32 .f64 (F.bin .mul .f32 (F.ofInt .f32 x0) x1) then bif F.toIntOk .f64 IntKind.i64 (F.integral Ieee.Toward.down (F.conv .f32 .f64 (F.bin .mul .f32 (F.ofInt .f32 x0) x1))) then some ⟨V.at (A.int .i64 (bif decide ((IntKind.wrap .i64 (x0 - 1)) < (F.toInt .f64 IntKind.i64 (F.integral Ieee.Toward.down (F.conv .f32 .f64 (F.bin .mul .f32 (F.ofInt .f32 x0) x1))))) then IntKind.wrap .i64 (x0 - 1) else F.toInt .f64 IntKind.i64 (F.integral Ieee.Toward.down (F.conv .f32 .f64 (F.bin .mul .f32 (F.ofInt .f32 x0) x1))))), none, []⟩ else none else none := by kernel_rfl
  rw [h0]
  unfold Pure.impl_box Pure.impl_box_ok
  cases (F.convOk .f32 .f64 (F.bin .mul .f32 (F.ofInt .f32 x0) x1)) with
  | true =>
    cases (F.toIntOk .f64 IntKind.i64 (F.integral Ieee.Toward.down (F.conv .f32 .f64 (F.bin .mul .f32 (F.ofInt .f32 x0) x1)))) with
    | true =>
      intro _; rfl
    | false =>
      intro h; exact absurd h Bool.false_ne_true
  | false =>
    intro h; exact absurd h Bool.false_ne_true
theorem ok_impl_box : CallOK Try.prog 107 (c_impl_box real) := by
  refine callOK_of fun args h ret hc => ?_
  unfold c_impl_box at hc
  split at hc
  · rename_i x0 x1
    obtain ⟨hok, rfl⟩ := some_ret hc
    exact holds_ev prog_ok (allOK_cons ok_math_Floor allOK_nil) Try.func107 rfl rfl smL_nil rfl (e_impl_box real x0 x1 hok)
  · cases hc
def Pure.impl_State_rest_L0 (F : FOps) (y0 y1 y2 y3 : Int) : Nat → Int → Int → Int → (Bool × Int × Int)
  | 0, _, _, _ => (false, 0, 0)
  | n + 1, y4, y5, y6 => bif (decide (y4 < y3)) then (bif (Pure.impl_State_damped_ok F y5 y6 y0 y1) then (Pure.impl_State_rest_L0 F y0 y1 y2 y3 n (IntKind.wrap .i64 (y4 + 1)) (Pure.impl_State_damped F y5 y6 y0 y1) (Pure.impl_State_damped_1 F y5 y6 y0 y1)) else ((false, 0, 0))) else ((true, y5, y6))
def R_impl_State_rest_L0 (y2 : Int) (r : (Bool × Int × Int)) : Bool × Ends := ((r).1, (.one Ex.normal [V.at (A.int .i64 y2), V.at (A.ptr 0 0 0)] [⟨true, .box [A.fl .f32 (r).2.1, A.fl .f32 (r).2.2]⟩]))
def S_impl_State_rest_L0 (F : FOps) : Sm := ⟨[1, 2, 4, 5, 11, 12], [24, 24, 2, 0, 2, 2], [4, 5], fun vals hp => match vals, hp with
  | [V.at (A.fl .f32 y0), V.at (A.fl .f32 y1), V.at (A.int .i64 y2), V.at (A.ptr 0 0 0), V.at (A.int .i64 y3), V.at (A.int .i64 y4)], [⟨true, .box [A.fl .f32 y5, A.fl .f32 y6]⟩] => some (R_impl_State_rest_L0 y2 (Pure.impl_State_rest_L0 F y0 y1 y2 y3 (y3 - y4 + 1).toNat y4 y5 y6))
  | _, _ => none⟩
theorem l_impl_State_rest_L0 (F : FOps) (y0 y1 y2 y3 : Int) : ∀ (fuel : Nat) (y4 y5 y6 : Int), (Pure.impl_State_rest_L0 F y0 y1 y2 y3 fuel y4 y5 y6).1 = true → loopOf (cxS F tyl [(106, c_impl_State_damped F), (107, c_impl_box F)] [] [] 0) 0 23 0 [1, 2, 4, 5, 11, 12] [24, 24, 2, 0, 2, 2] [4, 5] (loopB 0 (codeOf Try.f65)) fuel [V.at (A.fl .f32 y0), V.at (A.fl .f32 y1), V.at (A.int .i64 y2), V.at (A.ptr 0 0 0), V.at (A.int .i64 y3), V.at (A.int .i64 y4)] [⟨true, .box [A.fl .f32 y5, A.fl .f32 y6]⟩] = resOf (R_impl_State_rest_L0 y2 (Pure.impl_State_rest_L0 F y0 y1 y2 y3 fuel y4 y5 y6)) := by
  intro fuel
  induction fuel with
  | zero => intro y4 y5 y6 h; exact absurd h Bool.false_ne_true
  | succ n ih =>
    intro y4 y5 y6
    have h0 : roundOf (cxS F tyl [(106, c_impl_State_damped F), (107, c_impl_box F)] [] [] 0) 0 23 0 [1, 2, 4, 5, 11, 12] [24, 24, 2, 0, 2, 2] [4, 5] (loopB 0 (codeOf Try.f65)) [V.at (A.fl .f32 y0), V.at (A.fl .f32 y1), V.at (A.int .i64 y2), V.at (A.ptr 0 0 0), V.at (A.int .i64 y3), V.at (A.int .i64 y4)] [⟨true, .box [A.fl .f32 y5, A.fl .f32 y6]⟩] = (bif decide (y4 < y3) then bif Pure.impl_State_damped_ok F y5 y6 y0 y1 then some (true, (Ex.normal, ([V.at (A.fl .f32 y0), V.at (A.fl .f32 y1), V.at (A.int .i64 y2), V.at (A.ptr 0 0 0), V.at (A.int .i64 y3), V.at (A.int .i64 (IntKind.wrap .i64 (y4 + 1)))], [⟨true, .box [A.fl .f32 (Pure.impl_State_damped F y5 y6 y0 y1), A.fl .f32 (Pure.impl_State_damped_1 F y5 y6 y0 y1)]⟩]))) else none else some (false, (Ex.normal, ([V.at (A.int .i64 y2), V.at (A.ptr 0 0 0)], [⟨true, .box [A.fl .f32 y5, A.fl .f32 y6]⟩])))) := by kernel_rfl
    unfold loopOf
    rw [h0]
    unfold Pure.impl_State_rest_L0
    cases (decide (y4 < y3)) with
    | true =>
      cases (Pure.impl_State_damped_ok F y5 y6 y0 y1) with
      | true =>
        exact ih _ _ _
      | false =>
        intro h; exact absurd h Bool.false_ne_true
    | false =>
      intro _; rfl
theorem t_impl_State_rest_L0 : SmTo Try.prog 0 23 (S_impl_State_rest_L0 real) 0 (.loop (loopB 0 (codeOf Try.f65))) := by
  refine smTo_ev (cl := [(106, c_impl_State_damped real), (107, c_impl_box real)]) (ef := []) (sm := []) (un := 0) prog_ok (allOK_cons ok_impl_State_damped (allOK_cons ok_impl_box allOK_nil)) smL_nil ?_
  intro vals hp q r h hq
  unfold S_impl_State_rest_L0 at h
  dsimp only at h
  split at h
  · rename_i y0 y1 y2 y3 y4 y5 y6
    obtain rfl := Option.some.inj h
    have h1 := hq
    unfold resOf at h1
    rw [chk_some] at h1
    exact ⟨_, (l_impl_State_rest_L0 real y0 y1 y2 y3 _ y4 y5 y6 h1.1).trans hq⟩
  · cases h
def Pure.impl_State_rest (F : FOps) (x0 x1 x2 x3 x4 x5 : Int) : Int := Pure.impl_box F x5 (Prod.fst (Prod.snd (Pure.impl_State_rest_L0 F x2 x3 x5 x4 (Int.toNat ((x4 - 0) + 1)) 0 x0 x1)))
def Pure.impl_State_rest_ok (F : FOps) (x0 x1 x2 x3 x4 x5 : Int) : Bool := bif Prod.fst (Pure.impl_State_rest_L0 F x2 x3 x5 x4 (Int.toNat ((x4 - 0) + 1)) 0 x0 x1) then Pure.impl_box_ok F x5 (Prod.fst (Prod.snd (Pure.impl_State_rest_L0 F x2 x3 x5 x4 (Int.toNat ((x4 - 0) + 1)) 0 x0 x1))) else false
def c_impl_State_rest (F : FOps) : Con
  | [V.agg [A.fl .f32 x0, A.fl .f32 x1], V.at (A.fl .f32 x2), V.at (A.fl .f32 x3), V.at (A.int .i64 x4), V.at (A.int .i64 x5)], [] => some (Pure.impl_State_rest_ok F x0 x1 x2 x3 x4 x5, ⟨V.at (A.int .i64 (Pure.impl_State_rest F x0 x1 x2 x3 x4 x5)), none, []⟩)
  | _, _ => none
theorem e_impl_State_rest (F : FOps) (x0 x1 x2 x3 x4 x5 : Int) : Pure.impl_State_rest_ok F x0 x1 x2 x3 x4 x5 = true → evFn (cxS F tyl [(106, c_impl_State_damped F), (107, c_impl_box F)] [] [(0, S_impl_State_rest_L0 F)] 0) Try.f65 false [V.agg [A.fl .f32 x0, A.fl .f32 x1], V.at (A.fl .f32 x2), V.at (A.fl .f32 x3), V.at (A.int .i64 x4), V.at (A.int .i64 x5)] [] = some ⟨V.at (A.int .i64 (Pure.impl_State_rest F x0 x1 x2 x3 x4 x5)), none, []⟩ := by
  have h0 : evFn (cxS F tyl [(106, c_impl_State_damped F), (107, c_impl_box F)] [] [(0, S_impl_State_rest_L0 F)] 0) Try.f65 false [V.agg [A.fl .f32 x0, A.fl .f32 x1], V.at (A.fl .f32 x2), V.at (A.fl .f32 x3), V.at (A.int .i64 x4), V.at (A.int .i64 x5)] [] = bif Prod.fst (Pure.impl_State_rest_L0 F x2 x3 x5 x4 (Int.toNat ((x4 - 0) + 1)) 0 x0 x1) then bif Pure.impl_box_ok F x5 (Prod.fst (Prod.snd (Pure.impl_State_rest_L0 F x2 x3 x5 x4 (Int.toNat ((x4 - 0) + 1)) 0 x0 x1))) then some ⟨V.at (A.int .i64 (Pure.impl_box F x5 (Prod.fst (Prod.snd (Pure.impl_State_rest_L0 F x2 x3 x5 x4 (Int.toNat ((x4 - 0) + 1)) 0 x0 x1))))), none, []⟩ else none else none := by kernel_rfl
  rw [h0]
  unfold Pure.impl_State_rest Pure.impl_State_rest_ok
  cases (Prod.fst (Pure.impl_State_rest_L0 F x2 x3 x5 x4 (Int.toNat ((x4 - 0) + 1)) 0 x0 x1)) with
  | true =>
    cases (Pure.impl_box_ok F x5 (Prod.fst (Prod.snd (Pure.impl_State_rest_L0 F x2 x3 x5 x4 (Int.toNat ((x4 - 0) + 1)) 0 x0 x1)))) with
    | true =>
      intro _; rfl
    | false =>
      intro h; exact absurd h Bool.false_ne_true
  | false =>
    intro h; exact absurd h Bool.false_ne_true
theorem ok_impl_State_rest : CallOK Try.prog 65 (c_impl_State_rest real) := by
  refine callOK_of fun args h ret hc => ?_
  unfold c_impl_State_rest at hc
  split at hc
  · rename_i x0 x1 x2 x3 x4 x5
    obtain ⟨hok, rfl⟩ := some_ret hc
    exact holds_ev prog_ok (allOK_cons ok_impl_State_damped (allOK_cons ok_impl_box allOK_nil)) Try.func65 rfl rfl (smL_cons (body := .loop (loopB 0 (codeOf Try.f65))) (by kernel_rfl) t_impl_State_rest_L0 smL_nil) rfl (e_impl_State_rest real x0 x1 x2 x3 x4 x5 hok)
  · cases hc
def Pure.impl_basinRow_L0 (F : FOps) (y0 y1 y2 y3 y4 y5 y6 y7 : Int) : Nat → Int → (List (List Int)) → (Bool × (List (List Int)))
  | 0, _, _ => (false, [])
  | n + 1, y8, y9 => bif (decide (y8 < y7)) then (bif (Pure.impl_kicked_ok F (F.bin .sub .f32 (F.bin .quo .f32 (F.ofInt .f32 y0) (F.ofInt .f32 y2)) 1056964608)) then (bif (Pure.impl_State_rest_ok F (F.bin .quo .f32 (F.ofInt .f32 y8) (F.ofInt .f32 y1)) (Pure.impl_WrapKick F (F.bin .sub .f32 (F.bin .quo .f32 (F.ofInt .f32 y0) (F.ofInt .f32 y2)) 1056964608)) y3 y4 y5 y6) then (bif (decide ((Nat.succ y9.length) ≤ 1073741824)) then (Pure.impl_basinRow_L0 F y0 y1 y2 y3 y4 y5 y6 y7 n (IntKind.wrap .i64 (y8 + 1)) (y9 ++ [[Pure.impl_State_rest F (F.bin .quo .f32 (F.ofInt .f32 y8) (F.ofInt .f32 y1)) (Pure.impl_WrapKick F (F.bin .sub .f32 (F.bin .quo .f32 (F.ofInt .f32 y0) (F.ofInt .f32 y2)) 1056964608)) y3 y4 y5 y6]])) else ((false, []))) else ((false, []))) else ((false, []))) else ((true, y9))
def R_impl_basinRow_L0 (r : (Bool × (List (List Int)))) : Bool × Ends := ((r).1, (.one Ex.normal [V.at (A.sl 0)] [⟨true, .rows [K.i .i64] (r).2⟩]))
def S_impl_basinRow_L0 (F : FOps) : Sm := ⟨[0, 1, 2, 3, 4, 5, 6, 15, 19, 20], [2, 2, 2, 24, 24, 2, 2, 40, 2, 2], [15], fun vals hp => match vals, hp with
  | [V.at (A.int .i64 y0), V.at (A.int .i64 y1), V.at (A.int .i64 y2), V.at (A.fl .f32 y3), V.at (A.fl .f32 y4), V.at (A.int .i64 y5), V.at (A.int .i64 y6), V.at (A.sl 0), V.at (A.int .i64 y7), V.at (A.int .i64 y8)], [⟨true, .rows [K.i .i64] y9⟩] => some (R_impl_basinRow_L0  (Pure.impl_basinRow_L0 F y0 y1 y2 y3 y4 y5 y6 y7 (y7 - y8 + 1).toNat y8 y9))
  | _, _ => none⟩
theorem l_impl_basinRow_L0 (F : FOps) (y0 y1 y2 y3 y4 y5 y6 y7 : Int) : ∀ (fuel : Nat) (y8 : Int) (y9 : List (List Int)), (Pure.impl_basinRow_L0 F y0 y1 y2 y3 y4 y5 y6 y7 fuel y8 y9).1 = true → loopOf (cxS F tyl [(105, c_impl_kicked F), (65, c_impl_State_rest F)] [] [] 0) 0 47 0 [0, 1, 2, 3, 4, 5, 6, 15, 19, 20] [2, 2, 2, 24, 24, 2, 2, 40, 2, 2] [15] (loopB 0 (codeOf Try.f63)) fuel [V.at (A.int .i64 y0), V.at (A.int .i64 y1), V.at (A.int .i64 y2), V.at (A.fl .f32 y3), V.at (A.fl .f32 y4), V.at (A.int .i64 y5), V.at (A.int .i64 y6), V.at (A.sl 0), V.at (A.int .i64 y7), V.at (A.int .i64 y8)] [⟨true, .rows [K.i .i64] y9⟩] = resOf (R_impl_basinRow_L0  (Pure.impl_basinRow_L0 F y0 y1 y2 y3 y4 y5 y6 y7 fuel y8 y9)) := by
  intro fuel
  induction fuel with
  | zero => intro y8 y9 h; exact absurd h Bool.false_ne_true
  | succ n ih =>
    intro y8 y9
    have h0 : roundOf (cxS F tyl [(105, c_impl_kicked F), (65, c_impl_State_rest F)] [] [] 0) 0 47 0 [0, 1, 2, 3, 4, 5, 6, 15, 19, 20] [2, 2, 2, 24, 24, 2, 2, 40, 2, 2] [15] (loopB 0 (codeOf Try.f63)) [V.at (A.int .i64 y0), V.at (A.int .i64 y1), V.at (A.int .i64 y2), V.at (A.fl .f32 y3), V.at (A.fl .f32 y4), V.at (A.int .i64 y5), V.at (A.int .i64 y6), V.at (A.sl 0), V.at (A.int .i64 y7), V.at (A.int .i64 y8)] [⟨true, .rows [K.i .i64] y9⟩] = (bif decide (y8 < y7) then bif Pure.impl_kicked_ok F (F.bin .sub .f32 (F.bin .quo .f32 (F.ofInt .f32 y0) (F.ofInt .f32 y2)) 1056964608) then bif Pure.impl_State_rest_ok F (F.bin .quo .f32 (F.ofInt .f32 y8) (F.ofInt .f32 y1)) (Pure.impl_WrapKick F (F.bin .sub .f32 (F.bin .quo .f32 (F.ofInt .f32 y0) (F.ofInt .f32 y2)) 1056964608)) y3 y4 y5 y6 then bif decide ((Nat.succ y9.length) ≤ 1073741824) then some (true, (Ex.normal, ([V.at (A.int .i64 y0), V.at (A.int .i64 y1), V.at (A.int .i64 y2), V.at (A.fl .f32 y3), V.at (A.fl .f32 y4), V.at (A.int .i64 y5), V.at (A.int .i64 y6), V.at (A.sl 0), V.at (A.int .i64 y7), V.at (A.int .i64 (IntKind.wrap .i64 (y8 + 1)))], [⟨true, .rows [K.i .i64] (y9 ++ [[Pure.impl_State_rest F (F.bin .quo .f32 (F.ofInt .f32 y8) (F.ofInt .f32 y1)) (Pure.impl_WrapKick F (F.bin .sub .f32 (F.bin .quo .f32 (F.ofInt .f32 y0) (F.ofInt .f32 y2)) 1056964608)) y3 y4 y5 y6]])⟩]))) else none else none else none else some (false, (Ex.normal, ([V.at (A.sl 0)], [⟨true, .rows [K.i .i64] y9⟩])))) := by kernel_rfl
    unfold loopOf
    rw [h0]
    unfold Pure.impl_basinRow_L0
    cases (decide (y8 < y7)) with
    | true =>
      cases (Pure.impl_kicked_ok F (F.bin .sub .f32 (F.bin .quo .f32 (F.ofInt .f32 y0) (F.ofInt .f32 y2)) 1056964608)) with
      | true =>
        cases (Pure.impl_State_rest_ok F (F.bin .quo .f32 (F.ofInt .f32 y8) (F.ofInt .f32 y1)) (Pure.impl_WrapKick F (F.bin .sub .f32 (F.bin .quo .f32 (F.ofInt .f32 y0) (F.ofInt .f32 y2)) 1056964608)) y3 y4 y5 y6) with
        | true =>
          cases (decide ((Nat.succ y9.length) ≤ 1073741824)) with
          | true =>
            exact ih _ _
          | false =>
            intro h; exact absurd h Bool.false_ne_true
        | false =>
          intro h; exact absurd h Bool.false_ne_true
      | false =>
        intro h; exact absurd h Bool.false_ne_true
    | false =>
      intro _; rfl
theorem t_impl_basinRow_L0 : SmTo Try.prog 0 47 (S_impl_basinRow_L0 real) 0 (.loop (loopB 0 (codeOf Try.f63))) := by
  refine smTo_ev (cl := [(105, c_impl_kicked real), (65, c_impl_State_rest real)]) (ef := []) (sm := []) (un := 0) prog_ok (allOK_cons ok_impl_kicked (allOK_cons ok_impl_State_rest allOK_nil)) smL_nil ?_
  intro vals hp q r h hq
  unfold S_impl_basinRow_L0 at h
  dsimp only at h
  split at h
  · rename_i y0 y1 y2 y3 y4 y5 y6 y7 y8 y9
    obtain rfl := Option.some.inj h
    have h1 := hq
    unfold resOf at h1
    rw [chk_some] at h1
    exact ⟨_, (l_impl_basinRow_L0 real y0 y1 y2 y3 y4 y5 y6 y7 _ y8 y9 h1.1).trans hq⟩
  · cases h
def Pure.impl_basinRow (F : FOps) (x0 x1 x2 x3 x4 x5 x6 : Int) : List (List Int) := Prod.snd (Pure.impl_basinRow_L0 F x0 x1 x2 x3 x4 x5 x6 x1 (Int.toNat ((x1 - 0) + 1)) 0 [])
def Pure.impl_basinRow_ok (F : FOps) (x0 x1 x2 x3 x4 x5 x6 : Int) : Bool := Prod.fst (Pure.impl_basinRow_L0 F x0 x1 x2 x3 x4 x5 x6 x1 (Int.toNat ((x1 - 0) + 1)) 0 [])
def c_impl_basinRow (F : FOps) : Con
  | [V.at (A.int .i64 x0), V.at (A.int .i64 x1), V.at (A.int .i64 x2), V.at (A.fl .f32 x3), V.at (A.fl .f32 x4), V.at (A.int .i64 x5), V.at (A.int .i64 x6)], [] => some (Pure.impl_basinRow_ok F x0 x1 x2 x3 x4 x5 x6, ⟨V.at (A.sl 0), none, [⟨true, .rows [K.i .i64] (Pure.impl_basinRow F x0 x1 x2 x3 x4 x5 x6)⟩]⟩)
  | _, _ => none
theorem e_impl_basinRow (F : FOps) (x0 x1 x2 x3 x4 x5 x6 : Int) : Pure.impl_basinRow_ok F x0 x1 x2 x3 x4 x5 x6 = true → evFn (cxS F tyl [(105, c_impl_kicked F), (65, c_impl_State_rest F)] [] [(0, S_impl_basinRow_L0 F)] 0) Try.f63 false [V.at (A.int .i64 x0), V.at (A.int .i64 x1), V.at (A.int .i64 x2), V.at (A.fl .f32 x3), V.at (A.fl .f32 x4), V.at (A.int .i64 x5), V.at (A.int .i64 x6)] [] = some ⟨V.at (A.sl 0), none, [⟨true, .rows [K.i .i64] (Pure.impl_basinRow F x0 x1 x2 x3 x4 x5 x6)⟩]⟩ := by
  have h0 : evFn (cxS F tyl [(105, c_impl_kicked F), (65, c_impl_State_rest F)] [] [(0, S_impl_basinRow_L0 F)] 0) Try.f63 false [V.at (A.int .i64 x0), V.at (A.int .i64 x1), V.at (A.int .i64 x2), V.at (A.fl .f32 x3), V.at (A.fl .f32 x4), V.at (A.int .i64 x5), V.at (A.int .i64 x6)] [] = bif Prod.fst (Pure.impl_basinRow_L0 F x0 x1 x2 x3 x4 x5 x6 x1 (Int.toNat ((x1 - 0) + 1)) 0 []) then some ⟨V.at (A.sl 0), none, [⟨true, .rows [K.i .i64] (Prod.snd (Pure.impl_basinRow_L0 F x0 x1 x2 x3 x4 x5 x6 x1 (Int.toNat ((x1 - 0) + 1)) 0 []))⟩]⟩ else none := by kernel_rfl
  rw [h0]
  unfold Pure.impl_basinRow Pure.impl_basinRow_ok
  cases (Prod.fst (Pure.impl_basinRow_L0 F x0 x1 x2 x3 x4 x5 x6 x1 (Int.toNat ((x1 - 0) + 1)) 0 [])) with
  | true =>
    intro _; rfl
  | false =>
    intro h; exact absurd h Bool.false_ne_true
theorem ok_impl_basinRow : CallOK Try.prog 63 (c_impl_basinRow real) := by
  refine callOK_of fun args h ret hc => ?_
  unfold c_impl_basinRow at hc
  split at hc
  · rename_i x0 x1 x2 x3 x4 x5 x6
    obtain ⟨hok, rfl⟩ := some_ret hc
    exact holds_ev prog_ok (allOK_cons ok_impl_kicked (allOK_cons ok_impl_State_rest allOK_nil)) Try.func63 rfl rfl (smL_cons (body := .loop (loopB 0 (codeOf Try.f63))) (by kernel_rfl) t_impl_basinRow_L0 smL_nil) rfl (e_impl_basinRow real x0 x1 x2 x3 x4 x5 x6 hok)
  · cases hc
def Pure.slices_Grow_int64_int64_ok (F : FOps) (x0 : Int) : Bool := bif decide (x0 < 0) then false else bif decide ((IntKind.wrap .i64 (x0 - 0)) > 0) then bif decide (0 < (IntKind.wrap .i64 (x0 - 0))) then decide ((IntKind.wrap .i64 (x0 - 0)) ≤ 1073741824) else false else true
def c_slices_Grow_int64_int64 (F : FOps) : Con
  | [V.at A.nil, V.at (A.int .i64 x0)], [] => some (Pure.slices_Grow_int64_int64_ok F x0, ⟨V.at (A.sl 0), none, [⟨true, .rows [K.i .i64] []⟩]⟩)
  | _, _ => none
theorem e_slices_Grow_int64_int64 (F : FOps) (x0 : Int) : Pure.slices_Grow_int64_int64_ok F x0 = true → evFn (cxS F tyl [] [] [] 77) Try.f104 false [V.at A.nil, V.at (A.int .i64 x0)] [] = some ⟨V.at (A.sl 0), none, [⟨true, .rows [K.i .i64] []⟩]⟩ := by
  have h0 : evFn (cxS F tyl [] [] [] 77) Try.f104 false [V.at A.nil, V.at (A.int .i64 x0)] [] = bif decide (x0 < 0) then none else bif decide ((IntKind.wrap .i64 (x0 - 0)) > 0) then bif decide (0 < (IntKind.wrap .i64 (x0 - 0))) then bif decide ((IntKind.wrap .i64 (x0 - 0)) ≤ 1073741824) then some ⟨V.at (A.sl 0), none, [⟨true, .rows [K.i .i64] []⟩]⟩ else none else none else some ⟨V.at (A.sl 0), none, [⟨true, .rows [K.i .i64] []⟩]⟩ := by kernel_rfl
  rw [h0]
  unfold Pure.slices_Grow_int64_int64_ok
  cases (decide (x0 < 0)) with
  | true =>
    intro h; exact absurd h Bool.false_ne_true
  | false =>
    cases (decide ((IntKind.wrap .i64 (x0 - 0)) > 0)) with
    | true =>
      cases (decide ((IntKind.wrap .i64 (x0 - 0)) ≤ 1073741824)) with
      | true =>
        intro _; rfl
      | false =>
        intro h; exact absurd h Bool.false_ne_true
    | false =>
      intro _; rfl
theorem ok_slices_Grow_int64_int64 : CallOK Try.prog 104 (c_slices_Grow_int64_int64 real) := by
  refine callOK_of fun args h ret hc => ?_
  unfold c_slices_Grow_int64_int64 at hc
  split at hc
  · rename_i x0
    obtain ⟨hok, rfl⟩ := some_ret hc
    exact holds_ev prog_ok allOK_nil Try.func104 rfl rfl smL_nil rfl (e_slices_Grow_int64_int64 real x0 hok)
  · cases hc
def tyn : List (Nat × TI) := [
  (0, ⟨1, 0, D.oth, none, [none], [A.undef]⟩),
  (1, ⟨1, 8, D.oth, none, [none], [A.undef]⟩),
  (2, ⟨1, 8, D.sc (K.i .i64), some [K.i .i64], [none], [A.int .i64 0]⟩),
  (3, ⟨1, 8, D.sc (K.i .i64), some [K.i .i64], [none], [A.int .i64 0]⟩),
  (4, ⟨1, 1, D.sc K.b, some [K.b], [none], [A.bool false]⟩),
  (5, ⟨1, 1, D.sc (K.i .u8), some [K.i .u8], [none], [A.int .u8 0]⟩),
  (6, ⟨1, 1, D.sc (K.i .u8), some [K.i .u8], [none], [A.int .u8 0]⟩),
  (7, ⟨4, 24, D.st [(0, 2), (1, 3), (2, 4), (3, 6)], some [K.i .i64, K.i .i64, K.b, K.i .u8], [none, none, none, none], [A.int .i64 0, A.int .i64 0, A.bool false, A.int .u8 0]⟩),
  (8, ⟨4, 24, D.st [(0, 2), (1, 3), (2, 4), (3, 6)], some [K.i .i64, K.i .i64, K.b, K.i .u8], [none, none, none, none], [A.int .i64 0, A.int .i64 0, A.bool false, A.int .u8 0]⟩),
  (9, ⟨1, 16, D.oth, none, [none], [A.undef]⟩),
  (10, ⟨1, 16, D.oth, none, [none], [A.undef]⟩),
  (11, ⟨1, 16, D.oth, none, [none], [A.undef]⟩),
  (12, ⟨1, 8, D.sc (K.i .u64), some [K.i .u64], [none], [A.int .u64 0]⟩),
  (13, ⟨2, 24, D.st [(0, 9), (1, 12)], none, [none, none], [A.undef, A.int .u64 0]⟩),
  (14, ⟨2, 24, D.st [(0, 9), (1, 12)], none, [none, none], [A.undef, A.int .u64 0]⟩),
  (15, ⟨1, 8, D.oth, none, [none], [A.undef]⟩),
  (16, ⟨1, 8, D.oth, none, [none], [A.undef]⟩),
  (17, ⟨1, 8, D.oth, none, [none], [A.undef]⟩),
  (18, ⟨1, 8, D.st [(0, 17)], none, [none], [A.undef]⟩),
  (19, ⟨1, 8, D.st [(0, 17)], none, [none], [A.undef]⟩),
  (20, ⟨1, 16, D.oth, none, [none], [A.undef]⟩),
  (21, ⟨1, 4, D.sc (K.i .i32), some [K.i .i32], [none], [A.int .i32 0]⟩),
  (22, ⟨1, 24, D.sl 5, none, [none], [A.nil]⟩),
  (23, ⟨1, 8, D.oth, none, [none], [A.undef]⟩),
  (24, ⟨1, 4, D.sc (K.f .f32), some [K.f .f32], [none], [A.fl .f32 0]⟩),
  (25, ⟨1, 8, D.oth, none, [none], [A.undef]⟩),
  (26, ⟨1, 0, D.oth, none, [none], [A.undef]⟩),
  (27, ⟨1, 8, D.oth, none, [none], [A.undef]⟩),
  (28, ⟨1, 8, D.oth, none, [none], [A.undef]⟩),
  (29, ⟨1, 8, D.sc (K.f .f64), some [K.f .f64], [none], [A.fl .f64 0]⟩),
  (30, ⟨1, 24, D.sl 24, none, [none], [A.nil]⟩),
  (31, ⟨1, 0, D.oth, none, [none], [A.undef]⟩),
  (32, ⟨1, 8, D.oth, none, [none], [A.undef]⟩),
  (33, ⟨1, 8, D.oth, none, [none], [A.undef]⟩),
  (34, ⟨1, 0, D.oth, none, [none], [A.undef]⟩),
  (35, ⟨1, 8, D.oth, none, [none], [A.undef]⟩),
  (36, ⟨1, 8, D.oth, none, [none], [A.undef]⟩),
  (37, ⟨1, 8, D.oth, none, [none], [A.undef]⟩),
  (38, ⟨1, 8, D.oth, none, [none], [A.undef]⟩),
  (39, ⟨1, 8, D.oth, none, [none], [A.undef]⟩),
  (40, ⟨1, 24, D.sl 2, none, [none], [A.nil]⟩),
  (41, ⟨1, 0, D.oth, none, [none], [A.undef]⟩),
  (42, ⟨1, 8, D.oth, none, [none], [A.undef]⟩),
  (43, ⟨1, 8, D.oth, none, [none], [A.undef]⟩),
  (44, ⟨1, 8, D.oth, none, [none], [A.undef]⟩),
  (45, ⟨1, 8, D.oth, none, [none], [A.undef]⟩),
  (46, ⟨1, 8, D.oth, none, [none], [A.undef]⟩),
  (47, ⟨2, 8, D.st [(0, 24), (1, 24)], some [K.f .f32, K.f .f32], [none, none], [A.fl .f32 0, A.fl .f32 0]⟩),
  (48, ⟨2, 8, D.st [(0, 24), (1, 24)], some [K.f .f32, K.f .f32], [none, none], [A.fl .f32 0, A.fl .f32 0]⟩),
  (49, ⟨2, 8, D.st [(0, 24), (1, 24)], some [K.f .f32, K.f .f32], [none, none], [A.fl .f32 0, A.fl .f32 0]⟩),
  (50, ⟨1, 8, D.oth, none, [none], [A.undef]⟩),
  (51, ⟨1, 8, D.oth, none, [none], [A.undef]⟩),
  (52, ⟨1, 8, D.oth, none, [none], [A.undef]⟩),
  (53, ⟨1, 8, D.oth, none, [none], [A.undef]⟩),
  (54, ⟨1, 8, D.oth, none, [none], [A.undef]⟩),
  (55, ⟨1, 8, D.oth, none, [none], [A.undef]⟩),
  (56, ⟨1, 8, D.oth, none, [none], [A.undef]⟩),
  (57, ⟨1, 0, D.oth, none, [none], [A.undef]⟩),
  (58, ⟨1, 8, D.oth, none, [none], [A.undef]⟩),
  (59, ⟨1, 8, D.oth, none, [none], [A.undef]⟩),
  (60, ⟨1, 8, D.oth, none, [none], [A.undef]⟩),
  (61, ⟨1, 0, D.oth, none, [none], [A.undef]⟩),
  (62, ⟨1, 8, D.oth, none, [none], [A.undef]⟩),
  (63, ⟨1, 8, D.oth, none, [none], [A.undef]⟩),
  (64, ⟨1, 8, D.oth, none, [none], [A.undef]⟩),
  (65, ⟨1, 8, D.oth, none, [none], [A.undef]⟩),
  (66, ⟨1, 8, D.oth, none, [none], [A.undef]⟩),
  (67, ⟨1, 8, D.oth, none, [none], [A.undef]⟩),
  (68, ⟨1, 8, D.oth, none, [none], [A.undef]⟩),
  (69, ⟨1, 8, D.oth, none, [none], [A.undef]⟩),
  (70, ⟨1, 8, D.oth, none, [none], [A.undef]⟩),
  (71, ⟨1, 8, D.oth, none, [none], [A.undef]⟩),
  (72, ⟨1, 8, D.oth, none, [none], [A.undef]⟩),
  (73, ⟨1, 8, D.oth, none, [none], [A.undef]⟩),
  (74, ⟨1, 8, D.oth, none, [none], [A.undef]⟩),
  (75, ⟨1, 8, D.oth, none, [none], [A.undef]⟩),
  (76, ⟨1, 8, D.oth, none, [none], [A.undef]⟩),
  (77, ⟨1, 8, D.oth, none, [none], [A.undef]⟩),
  (78, ⟨1, 8, D.oth, none, [none], [A.undef]⟩),
  (79, ⟨1, 8, D.oth, none, [none], [A.undef]⟩),
  (80, ⟨4, 16, D.ar 4 24, some [K.f .f32, K.f .f32, K.f .f32, K.f .f32], [none, none, none, none], [A.fl .f32 0, A.fl .f32 0, A.fl .f32 0, A.fl .f32 0]⟩),
  (81, ⟨4, 16, D.ar 4 24, some [K.f .f32, K.f .f32, K.f .f32, K.f .f32], [none, none, none, none], [A.fl .f32 0, A.fl .f32 0, A.fl .f32 0, A.fl .f32 0]⟩),
  (82, ⟨1, 8, D.oth, none, [none], [A.undef]⟩),
  (83, ⟨1, 8, D.oth, none, [none], [A.undef]⟩),
  (84, ⟨1, 24, D.sl 48, none, [none], [A.nil]⟩),
  (85, ⟨1, 8, D.oth, none, [none], [A.undef]⟩),
  (86, ⟨1, 8, D.oth, none, [none], [A.undef]⟩),
  (87, ⟨1, 8, D.oth, none, [none], [A.undef]⟩),
  (88, ⟨1, 8, D.oth, none, [none], [A.undef]⟩),
  (89, ⟨1, 8, D.oth, none, [none], [A.undef]⟩),
  (90, ⟨1, 8, D.oth, none, [none], [A.undef]⟩),
  (91, ⟨1, 8, D.oth, none, [none], [A.undef]⟩),
  (92, ⟨1, 0, D.oth, none, [none], [A.undef]⟩),
  (93, ⟨1, 8, D.oth, none, [none], [A.undef]⟩),
  (94, ⟨1, 8, D.oth, none, [none], [A.undef]⟩),
  (95, ⟨1, 8, D.oth, none, [none], [A.undef]⟩),
  (96, ⟨1, 8, D.oth, none, [none], [A.undef]⟩),
  (97, ⟨1, 4, D.sc (K.i .u32), some [K.i .u32], [none], [A.int .u32 0]⟩),
  (98, ⟨1, 8, D.oth, none, [none], [A.undef]⟩),
  (99, ⟨1, 8, D.oth, none, [none], [A.undef]⟩),
  (100, ⟨1, 24, D.sl 40, none, [none], [A.nil]⟩),
  (101, ⟨1, 8, D.oth, none, [none], [A.undef]⟩),
  (102, ⟨1, 8, D.oth, none, [none], [A.undef]⟩),
  (103, ⟨1, 8, D.oth, none, [none], [A.undef]⟩),
  (104, ⟨1, 8, D.oth, none, [none], [A.undef]⟩),
  (105, ⟨1, 8, D.oth, none, [none], [A.undef]⟩),
  (106, ⟨1, 8, D.oth, none, [none], [A.undef]⟩),
  (107, ⟨1, 8, D.oth, none, [none], [A.undef]⟩),
  (108, ⟨1, 0, D.oth, none, [none], [A.undef]⟩),
  (109, ⟨1, 8, D.oth, none, [none], [A.undef]⟩),
  (110, ⟨1, 8, D.oth, none, [none], [A.undef]⟩),
  (111, ⟨1, 8, D.oth, none, [none], [A.undef]⟩),
  (112, ⟨1, 8, D.oth, none, [none], [A.undef]⟩),
  (113, ⟨1, 8, D.oth, none, [none], [A.undef]⟩),
  (114, ⟨1, 8, D.oth, none, [none], [A.undef]⟩),
  (115, ⟨1, 8, D.oth, none, [none], [A.undef]⟩),
  (116, ⟨1, 8, D.sc (K.i .u64), some [K.i .u64], [none], [A.int .u64 0]⟩),
  (117, ⟨1, 8, D.oth, none, [none], [A.undef]⟩),
  (118, ⟨1, 8, D.oth, none, [none], [A.undef]⟩),
  (119, ⟨1, 8, D.oth, none, [none], [A.undef]⟩),
  (120, ⟨1, 8, D.sc (K.i .u64), some [K.i .u64], [none], [A.int .u64 0]⟩),
  (121, ⟨1, 8, D.oth, none, [none], [A.undef]⟩),
  (122, ⟨4, 40, D.st [(0, 17), (1, 17), (2, 17), (3, 9)], none, [none, none, none, none], [A.undef, A.undef, A.undef, A.undef]⟩),
  (123, ⟨4, 40, D.st [(0, 17), (1, 17), (2, 17), (3, 9)], none, [none, none, none, none], [A.undef, A.undef, A.undef, A.undef]⟩),
  (127, ⟨1, 8, D.oth, none, [none], [A.undef]⟩),
  (128, ⟨1, 1, D.sc (K.i .u8), some [K.i .u8], [none], [A.int .u8 0]⟩),
  (129, ⟨1, 1, D.sc (K.i .u8), some [K.i .u8], [none], [A.int .u8 0]⟩),
  (130, ⟨1, 8, D.oth, none, [none], [A.undef]⟩),
  (131, ⟨1, 8, D.oth, none, [none], [A.undef]⟩),
  (132, ⟨1, 4, D.sc (K.i .i32), some [K.i .i32], [none], [A.int .i32 0]⟩),
  (133, ⟨1, 4, D.sc (K.i .i32), some [K.i .i32], [none], [A.int .i32 0]⟩),
  (134, ⟨11, 48, D.st [(0, 12), (1, 12), (2, 97), (3, 128), (4, 5), (5, 5), (6, 129), (7, 130), (8, 131), (9, 132), (10, 133)], none, [none, none, none, none, none, none, none, none, none, none, none], [A.int .u64 0, A.int .u64 0, A.int .u32 0, A.int .u8 0, A.int .u8 0, A.int .u8 0, A.int .u8 0, A.undef, A.undef, A.int .i32 0, A.int .i32 0]⟩),
  (135, ⟨11, 48, D.st [(0, 12), (1, 12), (2, 97), (3, 128), (4, 5), (5, 5), (6, 129), (7, 130), (8, 131), (9, 132), (10, 133)], none, [none, none, none, none, none, none, none, none, none, none, none], [A.int .u64 0, A.int .u64 0, A.int .u32 0, A.int .u8 0, A.int .u8 0, A.int .u8 0, A.int .u8 0, A.undef, A.undef, A.int .i32 0, A.int .i32 0]⟩),
  (136, ⟨1, 8, D.oth, none, [none], [A.undef]⟩)]
theorem prog_okn : ProgOK Try.prog tyn := ⟨tyOK_of (by kernel_rfl), by kernel_rfl⟩
def Pure.slices_Concat_int64_int64 (F : FOps) (x0 x1 : List (List Int)) : List (List Int) := ([] ++ x0) ++ x1
def Pure.slices_Concat_int64_int64_ok (F : FOps) (x0 x1 : List (List Int)) : Bool := bif decide ((IntKind.wrap .i64 (Int.ofNat (0 + x0.length))) < 0) then false else bif decide ((IntKind.wrap .i64 ((IntKind.wrap .i64 (Int.ofNat (0 + x0.length))) + (Int.ofNat x1.length))) < 0) then false else bif Pure.slices_Grow_int64_int64_ok F (IntKind.wrap .i64 ((IntKind.wrap .i64 (Int.ofNat (0 + x0.length))) + (Int.ofNat x1.length))) then bif decide ((0 + x0.length) ≤ 1073741824) then decide (((List.length ([] ++ x0)) + x1.length) ≤ 1073741824) else false else false
def c_slices_Concat_int64_int64 (F : FOps) : Con
  | [V.at (A.bs 0 2)], [⟨false, .box [A.sl 1, A.sl 2]⟩, ⟨false, .rows [K.i .i64] x0⟩, ⟨false, .rows [K.i .i64] x1⟩] => some (Pure.slices_Concat_int64_int64_ok F x0 x1, ⟨V.at (A.sl 3), none, [⟨true, .rows [K.i .i64] (Pure.slices_Concat_int64_int64 F x0 x1)⟩]⟩)
  | _, _ => none
theorem e_slices_Concat_int64_int64 (F : FOps) (x0 x1 : List (List Int)) : Pure.slices_Concat_int64_int64_ok F x0 x1 = true → evFn (cxS F tyn [(104, c_slices_Grow_int64_int64 F)] [] [] 5) Try.f62 false [V.at (A.bs 0 2)] [⟨false, .box [A.sl 1, A.sl 2]⟩, ⟨false, .rows [K.i .i64] x0⟩, ⟨false, .rows [K.i .i64] x1⟩] = some ⟨V.at (A.sl 3), none, [⟨true, .rows [K.i .i64] (Pure.slices_Concat_int64_int64 F x0 x1)⟩]⟩ := by
  have h0 : evFn (cxS F tyn [(104, c_slices_Grow_int64_int64 F)] [] [] 5) Try.f62 false [V.at (A.bs 0 2)] [⟨false, .box [A.sl 1, A.sl 2]⟩, ⟨false, .rows [K.i .i64] x0⟩, ⟨false, .rows [K.i .i64] x1⟩] = bif decide ((IntKind.wrap .i64 (Int.ofNat (0 + x0.length))) < 0) then none else bif decide ((IntKind.wrap .i64 ((IntKind.wrap .i64 (Int.ofNat (0 + x0.length))) + (Int.ofNat x1.length))) < 0) then none else bif Pure.slices_Grow_int64_int64_ok F (IntKind.wrap .i64 ((IntKind.wrap .i64 (Int.ofNat (0 + x0.length))) + (Int.ofNat x1.length))) then bif decide ((0 + x0.length) ≤ 1073741824) then bif decide (((List.length ([] ++ x0)) + x1.length) ≤ 1073741824) then some ⟨V.at (A.sl 3), none, [⟨true, .rows [K.i .i64] (([] ++ x0) ++ x1)⟩]⟩ else none else none else none := by kernel_rfl
  rw [h0]
  unfold Pure.slices_Concat_int64_int64 Pure.slices_Concat_int64_int64_ok
  cases (decide ((IntKind.wrap .i64 (Int.ofNat (0 + x0.length))) < 0)) with
  | true =>
    intro h; exact absurd h Bool.false_ne_true
  | false =>
    cases (decide ((IntKind.wrap .i64 ((IntKind.wrap .i64 (Int.ofNat (0 + x0.length))) + (Int.ofNat x1.length))) < 0)) with
    | true =>
      intro h; exact absurd h Bool.false_ne_true
    | false =>
      cases (Pure.slices_Grow_int64_int64_ok F (IntKind.wrap .i64 ((IntKind.wrap .i64 (Int.ofNat (0 + x0.length))) + (Int.ofNat x1.length)))) with
      | true =>
        cases (decide ((0 + x0.length) ≤ 1073741824)) with
        | true =>
          cases (decide (((List.length ([] ++ x0)) + x1.length) ≤ 1073741824)) with
          | true =>
            intro _; rfl
          | false =>
            intro h; exact absurd h Bool.false_ne_true
        | false =>
          intro h; exact absurd h Bool.false_ne_true
      | false =>
        intro h; exact absurd h Bool.false_ne_true
theorem ok_slices_Concat_int64_int64 : CallOK Try.prog 62 (c_slices_Concat_int64_int64 real) := by
  refine callOK_of fun args h ret hc => ?_
  unfold c_slices_Concat_int64_int64 at hc
  split at hc
  · rename_i x0 x1
    obtain ⟨hok, rfl⟩ := some_ret hc
    exact holds_ev prog_okn (allOK_cons ok_slices_Grow_int64_int64 allOK_nil) Try.func62 rfl rfl smL_nil rfl (e_slices_Concat_int64_int64 real x0 x1 hok)
  · cases hc
def Pure.impl_BasinsOf_L0 (F : FOps) (y0 y1 y2 y3 y4 y5 y6 : Int) : Nat → Int → (List (List Int)) → (Bool × (List (List Int)))
  | 0, _, _ => (false, [])
  | n + 1, y7, y8 => bif (decide (y7 < y6)) then (bif (Pure.impl_basinRow_ok F y7 y0 y1 y2 y3 y4 y5) then (bif (Pure.slices_Concat_int64_int64_ok F y8 (Pure.impl_basinRow F y7 y0 y1 y2 y3 y4 y5)) then (Pure.impl_BasinsOf_L0 F y0 y1 y2 y3 y4 y5 y6 n (IntKind.wrap .i64 (y7 + 1)) (Pure.slices_Concat_int64_int64 F y8 (Pure.impl_basinRow F y7 y0 y1 y2 y3 y4 y5))) else ((false, []))) else ((false, []))) else ((true, y8))
def R_impl_BasinsOf_L0 (r : (Bool × (List (List Int)))) : Bool × Ends := ((r).1, (.one Ex.normal [V.at (A.sl 0)] [⟨true, .rows [K.i .i64] (r).2⟩]))
def S_impl_BasinsOf_L0 (F : FOps) : Sm := ⟨[0, 1, 2, 3, 4, 5, 14, 33, 34], [2, 2, 24, 24, 2, 2, 40, 2, 2], [14], fun vals hp => match vals, hp with
  | [V.at (A.int .i64 y0), V.at (A.int .i64 y1), V.at (A.fl .f32 y2), V.at (A.fl .f32 y3), V.at (A.int .i64 y4), V.at (A.int .i64 y5), V.at (A.sl 0), V.at (A.int .i64 y6), V.at (A.int .i64 y7)], [⟨true, .rows [K.i .i64] y8⟩] => some (R_impl_BasinsOf_L0  (Pure.impl_BasinsOf_L0 F y0 y1 y2 y3 y4 y5 y6 (y6 - y7 + 1).toNat y7 y8))
  | _, _ => none⟩
theorem l_impl_BasinsOf_L0 (F : FOps) (y0 y1 y2 y3 y4 y5 y6 : Int) : ∀ (fuel : Nat) (y7 : Int) (y8 : List (List Int)), (Pure.impl_BasinsOf_L0 F y0 y1 y2 y3 y4 y5 y6 fuel y7 y8).1 = true → loopOf (cxS F tyl [(60, c_impl_gridOk F), (61, c_impl_restOk F), (63, c_impl_basinRow F), (62, c_slices_Concat_int64_int64 F)] [] [] 0) 0 50 0 [0, 1, 2, 3, 4, 5, 14, 33, 34] [2, 2, 24, 24, 2, 2, 40, 2, 2] [14] (loopB 0 (codeOf Try.f25)) fuel [V.at (A.int .i64 y0), V.at (A.int .i64 y1), V.at (A.fl .f32 y2), V.at (A.fl .f32 y3), V.at (A.int .i64 y4), V.at (A.int .i64 y5), V.at (A.sl 0), V.at (A.int .i64 y6), V.at (A.int .i64 y7)] [⟨true, .rows [K.i .i64] y8⟩] = resOf (R_impl_BasinsOf_L0  (Pure.impl_BasinsOf_L0 F y0 y1 y2 y3 y4 y5 y6 fuel y7 y8)) := by
  intro fuel
  induction fuel with
  | zero => intro y7 y8 h; exact absurd h Bool.false_ne_true
  | succ n ih =>
    intro y7 y8
    have h0 : roundOf (cxS F tyl [(60, c_impl_gridOk F), (61, c_impl_restOk F), (63, c_impl_basinRow F), (62, c_slices_Concat_int64_int64 F)] [] [] 0) 0 50 0 [0, 1, 2, 3, 4, 5, 14, 33, 34] [2, 2, 24, 24, 2, 2, 40, 2, 2] [14] (loopB 0 (codeOf Try.f25)) [V.at (A.int .i64 y0), V.at (A.int .i64 y1), V.at (A.fl .f32 y2), V.at (A.fl .f32 y3), V.at (A.int .i64 y4), V.at (A.int .i64 y5), V.at (A.sl 0), V.at (A.int .i64 y6), V.at (A.int .i64 y7)] [⟨true, .rows [K.i .i64] y8⟩] = (bif decide (y7 < y6) then bif Pure.impl_basinRow_ok F y7 y0 y1 y2 y3 y4 y5 then bif Pure.slices_Concat_int64_int64_ok F y8 (Pure.impl_basinRow F y7 y0 y1 y2 y3 y4 y5) then some (true, (Ex.normal, ([V.at (A.int .i64 y0), V.at (A.int .i64 y1), V.at (A.fl .f32 y2), V.at (A.fl .f32 y3), V.at (A.int .i64 y4), V.at (A.int .i64 y5), V.at (A.sl 0), V.at (A.int .i64 y6), V.at (A.int .i64 (IntKind.wrap .i64 (y7 + 1)))], [⟨true, .rows [K.i .i64] (Pure.slices_Concat_int64_int64 F y8 (Pure.impl_basinRow F y7 y0 y1 y2 y3 y4 y5))⟩]))) else none else none else some (false, (Ex.normal, ([V.at (A.sl 0)], [⟨true, .rows [K.i .i64] y8⟩])))) := by kernel_rfl
    unfold loopOf
    rw [h0]
    unfold Pure.impl_BasinsOf_L0
    cases (decide (y7 < y6)) with
    | true =>
      cases (Pure.impl_basinRow_ok F y7 y0 y1 y2 y3 y4 y5) with
      | true =>
        cases (Pure.slices_Concat_int64_int64_ok F y8 (Pure.impl_basinRow F y7 y0 y1 y2 y3 y4 y5)) with
        | true =>
          exact ih _ _
        | false =>
          intro h; exact absurd h Bool.false_ne_true
      | false =>
        intro h; exact absurd h Bool.false_ne_true
    | false =>
      intro _; rfl
theorem t_impl_BasinsOf_L0 : SmTo Try.prog 0 50 (S_impl_BasinsOf_L0 real) 0 (.loop (loopB 0 (codeOf Try.f25))) := by
  refine smTo_ev (cl := [(60, c_impl_gridOk real), (61, c_impl_restOk real), (63, c_impl_basinRow real), (62, c_slices_Concat_int64_int64 real)]) (ef := []) (sm := []) (un := 0) prog_ok (allOK_cons ok_impl_gridOk (allOK_cons ok_impl_restOk (allOK_cons ok_impl_basinRow (allOK_cons ok_slices_Concat_int64_int64 allOK_nil)))) smL_nil ?_
  intro vals hp q r h hq
  unfold S_impl_BasinsOf_L0 at h
  dsimp only at h
  split at h
  · rename_i y0 y1 y2 y3 y4 y5 y6 y7 y8
    obtain rfl := Option.some.inj h
    have h1 := hq
    unfold resOf at h1
    rw [chk_some] at h1
    exact ⟨_, (l_impl_BasinsOf_L0 real y0 y1 y2 y3 y4 y5 y6 _ y7 y8 h1.1).trans hq⟩
  · cases h
def Pure.impl_BasinsOf (F : FOps) (x0 x1 x2 x3 x4 x5 : Int) : Bool := bif Pure.impl_in F x0 1 32 then bif Pure.impl_in F x1 1 32 then Pure.impl_restOk F x2 x3 x4 x5 else false else false
def Pure.impl_BasinsOf_1 (F : FOps) (x0 x1 x2 x3 x4 x5 : Int) : List (List Int) := bif Pure.impl_in F x0 1 32 then bif Pure.impl_in F x1 1 32 then bif Pure.impl_restOk F x2 x3 x4 x5 then Prod.snd (Pure.impl_BasinsOf_L0 F x0 x1 x2 x3 x4 x5 x1 (Int.toNat ((x1 - 0) + 1)) 0 []) else [] else [] else []
def Pure.impl_BasinsOf_ok (F : FOps) (x0 x1 x2 x3 x4 x5 : Int) : Bool := bif Pure.impl_in F x0 1 32 then bif Pure.impl_in F x1 1 32 then bif Pure.impl_restOk F x2 x3 x4 x5 then Prod.fst (Pure.impl_BasinsOf_L0 F x0 x1 x2 x3 x4 x5 x1 (Int.toNat ((x1 - 0) + 1)) 0 []) else true else true else true
def c_impl_BasinsOf (F : FOps) : Con
  | [V.at (A.int .i64 x0), V.at (A.int .i64 x1), V.at (A.fl .f32 x2), V.at (A.fl .f32 x3), V.at (A.int .i64 x4), V.at (A.int .i64 x5)], [] => some (Pure.impl_BasinsOf_ok F x0 x1 x2 x3 x4 x5, ⟨V.tup [(false, [A.sl 0]), (false, [A.bool (Pure.impl_BasinsOf F x0 x1 x2 x3 x4 x5)])], none, [⟨true, .rows [K.i .i64] (Pure.impl_BasinsOf_1 F x0 x1 x2 x3 x4 x5)⟩]⟩)
  | _, _ => none
theorem e_impl_BasinsOf (F : FOps) (x0 x1 x2 x3 x4 x5 : Int) : Pure.impl_BasinsOf_ok F x0 x1 x2 x3 x4 x5 = true → evFn (cxS F tyl [(60, c_impl_gridOk F), (61, c_impl_restOk F), (63, c_impl_basinRow F), (62, c_slices_Concat_int64_int64 F)] [] [(0, S_impl_BasinsOf_L0 F)] 0) Try.f25 false [V.at (A.int .i64 x0), V.at (A.int .i64 x1), V.at (A.fl .f32 x2), V.at (A.fl .f32 x3), V.at (A.int .i64 x4), V.at (A.int .i64 x5)] [] = some ⟨V.tup [(false, [A.sl 0]), (false, [A.bool (Pure.impl_BasinsOf F x0 x1 x2 x3 x4 x5)])], none, [⟨true, .rows [K.i .i64] (Pure.impl_BasinsOf_1 F x0 x1 x2 x3 x4 x5)⟩]⟩ := by
  have h0 : evFn (cxS F tyl [(60, c_impl_gridOk F), (61, c_impl_restOk F), (63, c_impl_basinRow F), (62, c_slices_Concat_int64_int64 F)] [] [(0, S_impl_BasinsOf_L0 F)] 0) Try.f25 false [V.at (A.int .i64 x0), V.at (A.int .i64 x1), V.at (A.fl .f32 x2), V.at (A.fl .f32 x3), V.at (A.int .i64 x4), V.at (A.int .i64 x5)] [] = bif Bool.not (Pure.impl_in F x0 1 32) then some ⟨V.tup [(false, [A.sl 0]), (false, [A.bool false])], none, [⟨true, .rows [K.i .i64] []⟩]⟩ else bif Bool.not (Pure.impl_in F x1 1 32) then some ⟨V.tup [(false, [A.sl 0]), (false, [A.bool false])], none, [⟨true, .rows [K.i .i64] []⟩]⟩ else bif Bool.not (Pure.impl_restOk F x2 x3 x4 x5) then some ⟨V.tup [(false, [A.sl 0]), (false, [A.bool false])], none, [⟨true, .rows [K.i .i64] []⟩]⟩ else bif Prod.fst (Pure.impl_BasinsOf_L0 F x0 x1 x2 x3 x4 x5 x1 (Int.toNat ((x1 - 0) + 1)) 0 []) then some ⟨V.tup [(false, [A.sl 0]), (false, [A.bool true])], none, [⟨true, .rows [K.i .i64] (Prod.snd (Pure.impl_BasinsOf_L0 F x0 x1 x2 x3 x4 x5 x1 (Int.toNat ((x1 - 0) + 1)) 0 []))⟩]⟩ else none := by kernel_rfl
  rw [h0]
  unfold Pure.impl_BasinsOf Pure.impl_BasinsOf_1 Pure.impl_BasinsOf_ok
  cases (Pure.impl_in F x0 1 32) with
  | true =>
    cases (Pure.impl_in F x1 1 32) with
    | true =>
      cases (Pure.impl_restOk F x2 x3 x4 x5) with
      | true =>
        cases (Prod.fst (Pure.impl_BasinsOf_L0 F x0 x1 x2 x3 x4 x5 x1 (Int.toNat ((x1 - 0) + 1)) 0 [])) with
        | true =>
          intro _; rfl
        | false =>
          intro h; exact absurd h Bool.false_ne_true
      | false =>
        intro _; rfl
    | false =>
      intro _; rfl
  | false =>
    intro _; rfl
theorem ok_impl_BasinsOf : CallOK Try.prog 25 (c_impl_BasinsOf real) := by
  refine callOK_of fun args h ret hc => ?_
  unfold c_impl_BasinsOf at hc
  split at hc
  · rename_i x0 x1 x2 x3 x4 x5
    obtain ⟨hok, rfl⟩ := some_ret hc
    exact holds_ev prog_ok (allOK_cons ok_impl_gridOk (allOK_cons ok_impl_restOk (allOK_cons ok_impl_basinRow (allOK_cons ok_slices_Concat_int64_int64 allOK_nil)))) Try.func25 rfl rfl (smL_cons (body := .loop (loopB 0 (codeOf Try.f25))) (by kernel_rfl) t_impl_BasinsOf_L0 smL_nil) rfl (e_impl_BasinsOf real x0 x1 x2 x3 x4 x5 hok)
  · cases hc
def Pure.impl_BasinsShared (F : FOps) (x0 x1 x2 x3 x4 x5 x6 : Int) : Bool := bif Pure.impl_in F x6 1 8 then Pure.impl_BasinsOf F x0 x1 x2 x3 x4 x5 else false
def Pure.impl_BasinsShared_1 (F : FOps) (x0 x1 x2 x3 x4 x5 x6 : Int) : List (List Int) := bif Pure.impl_in F x6 1 8 then Pure.impl_BasinsOf_1 F x0 x1 x2 x3 x4 x5 else []
def Pure.impl_BasinsShared_ok (F : FOps) (x0 x1 x2 x3 x4 x5 x6 : Int) : Bool := bif Pure.impl_in F x6 1 8 then Pure.impl_BasinsOf_ok F x0 x1 x2 x3 x4 x5 else true
def c_impl_BasinsShared (F : FOps) : Con
  | [V.at (A.int .i64 x0), V.at (A.int .i64 x1), V.at (A.fl .f32 x2), V.at (A.fl .f32 x3), V.at (A.int .i64 x4), V.at (A.int .i64 x5), V.at (A.int .i64 x6)], [] => some (Pure.impl_BasinsShared_ok F x0 x1 x2 x3 x4 x5 x6, ⟨V.tup [(false, [A.sl 0]), (false, [A.bool (Pure.impl_BasinsShared F x0 x1 x2 x3 x4 x5 x6)])], none, [⟨true, .rows [K.i .i64] (Pure.impl_BasinsShared_1 F x0 x1 x2 x3 x4 x5 x6)⟩]⟩)
  | _, _ => none
theorem e_impl_BasinsShared (F : FOps) (x0 x1 x2 x3 x4 x5 x6 : Int) : Pure.impl_BasinsShared_ok F x0 x1 x2 x3 x4 x5 x6 = true → evFn (cxS F tyl [(51, c_impl_in F), (25, c_impl_BasinsOf F)] [] [] 0) Try.f26 false [V.at (A.int .i64 x0), V.at (A.int .i64 x1), V.at (A.fl .f32 x2), V.at (A.fl .f32 x3), V.at (A.int .i64 x4), V.at (A.int .i64 x5), V.at (A.int .i64 x6)] [] = some ⟨V.tup [(false, [A.sl 0]), (false, [A.bool (Pure.impl_BasinsShared F x0 x1 x2 x3 x4 x5 x6)])], none, [⟨true, .rows [K.i .i64] (Pure.impl_BasinsShared_1 F x0 x1 x2 x3 x4 x5 x6)⟩]⟩ := by
  have h0 : evFn (cxS F tyl [(51, c_impl_in F), (25, c_impl_BasinsOf F)] [] [] 0) Try.f26 false [V.at (A.int .i64 x0), V.at (A.int .i64 x1), V.at (A.fl .f32 x2), V.at (A.fl .f32 x3), V.at (A.int .i64 x4), V.at (A.int .i64 x5), V.at (A.int .i64 x6)] [] = bif Bool.not (Pure.impl_in F x6 1 8) then some ⟨V.tup [(false, [A.sl 0]), (false, [A.bool false])], none, [⟨true, .rows [K.i .i64] []⟩]⟩ else bif Pure.impl_BasinsOf_ok F x0 x1 x2 x3 x4 x5 then some ⟨V.tup [(false, [A.sl 0]), (false, [A.bool (Pure.impl_BasinsOf F x0 x1 x2 x3 x4 x5)])], none, [⟨true, .rows [K.i .i64] (Pure.impl_BasinsOf_1 F x0 x1 x2 x3 x4 x5)⟩]⟩ else none := by kernel_rfl
  rw [h0]
  unfold Pure.impl_BasinsShared Pure.impl_BasinsShared_1 Pure.impl_BasinsShared_ok
  cases (Pure.impl_in F x6 1 8) with
  | true =>
    cases (Pure.impl_BasinsOf_ok F x0 x1 x2 x3 x4 x5) with
    | true =>
      intro _; rfl
    | false =>
      intro h; exact absurd h Bool.false_ne_true
  | false =>
    intro _; rfl
theorem ok_impl_BasinsShared : CallOK Try.prog 26 (c_impl_BasinsShared real) := by
  refine callOK_of fun args h ret hc => ?_
  unfold c_impl_BasinsShared at hc
  split at hc
  · rename_i x0 x1 x2 x3 x4 x5 x6
    obtain ⟨hok, rfl⟩ := some_ret hc
    exact holds_ev prog_ok (allOK_cons ok_impl_in (allOK_cons ok_impl_BasinsOf allOK_nil)) Try.func26 rfl rfl smL_nil rfl (e_impl_BasinsShared real x0 x1 x2 x3 x4 x5 x6 hok)
  · cases hc
end Go.Fx
