import Derived.Test.YtmcfcijddhgphaaXr4h
import Derived.KernelRfl
namespace Go.Fx
open Go.Proofs
set_option maxRecDepth 100000
def Pure.spec_l05Apart (F : FOps) (x0 x1 : Int) : Int := bif F.cmp .gtr .f32 (F.bin .sub .f32 (Pure.spec_l05Wrap F x1) (Pure.spec_l05Wrap F x0)) 1056964608 then F.bin .sub .f32 (F.bin .sub .f32 (Pure.spec_l05Wrap F x1) (Pure.spec_l05Wrap F x0)) 1065353216 else bif F.cmp .leq .f32 (F.bin .sub .f32 (Pure.spec_l05Wrap F x1) (Pure.spec_l05Wrap F x0)) 3204448256 then F.bin .add .f32 (F.bin .sub .f32 (Pure.spec_l05Wrap F x1) (Pure.spec_l05Wrap F x0)) 1065353216 else F.bin .sub .f32 (Pure.spec_l05Wrap F x1) (Pure.spec_l05Wrap F x0)
def Pure.spec_l05Apart_ok (F : FOps) (x0 x1 : Int) : Bool := bif Pure.spec_l05Wrap_ok F x1 then Pure.spec_l05Wrap_ok F x0 else false
def c_spec_l05Apart (F : FOps) : Con
  | [V.at (A.fl .f32 x0), V.at (A.fl .f32 x1)], [] => some (Pure.spec_l05Apart_ok F x0 x1, ⟨V.at (A.fl .f32 (Pure.spec_l05Apart F x0 x1)), none, []⟩)
  | _, _ => none
theorem e_spec_l05Apart (F : FOps) (x0 x1 : Int) : Pure.spec_l05Apart_ok F x0 x1 = true → evFn (cxS F tyl [(87, c_spec_l05Wrap F)] [] [] 0) Try.f86 false [V.at (A.fl .f32 x0), V.at (A.fl .f32 x1)] [] = some ⟨V.at (A.fl .f32 (Pure.spec_l05Apart F x0 x1)), none, []⟩ := by
  have h0 : evFn (cxS F tyl [(87, c_spec_l05Wrap F)] [] [] 0) Try.f86 false [V.at (A.fl .f32 x0), V.at (A.fl .f32 x1)] [] = bif Pure.spec_l05Wrap_ok F x1 then bif Pure.spec_l05Wrap_ok F x0 then bif F.cmp .gtr .f32 (F.bin .sub .f32 (Pure.spec_l05Wrap F x1) (Pure.spec_l05Wrap F x0)) 1056964608 then some ⟨V.at (A.fl .f32 (F.bin .sub .f32 (F.bin .sub .f32 (Pure.spec_l05Wrap F x1) (Pure.spec_l05Wrap F x0)) 1065353216)), none, []⟩ else bif F.cmp .leq .f32 (F.bin .sub .f32 (Pure.spec_l05Wrap F x1) (Pure.spec_l05Wrap F x0)) 3204448256 then some ⟨V.at (A.fl .f32 (F.bin .add .f32 (F.bin .sub .f32 (Pure.spec_l05Wrap F x1) (Pure.spec_l05Wrap F x0)) 1065353216)), none, []⟩ else some ⟨V.at (A.fl .f32 (F.bin .sub .f32 (Pure.spec_l05Wrap F x1) (Pure.spec_l05Wrap F x0))), none, []⟩ else none else none := by kernel_rfl
  rw [h0]
  unfold Pure.spec_l05Apart Pure.spec_l05Apart_ok
  cases (Pure.spec_l05Wrap_ok F x1) with
  | true =>
    cases (Pure.spec_l05Wrap_ok F x0) with
    | true =>
      cases (F.cmp .gtr .f32 (F.bin .sub .f32 (Pure.spec_l05Wrap F x1) (Pure.spec_l05Wrap F x0)) 1056964608) with
      | true =>
        intro _; rfl
      | false =>
        cases (F.cmp .leq .f32 (F.bin .sub .f32 (Pure.spec_l05Wrap F x1) (Pure.spec_l05Wrap F x0)) 3204448256) with
        | true =>
          intro _; rfl
        | false =>
          intro _; rfl
    | false =>
      intro h; exact absurd h Bool.false_ne_true
  | false =>
    intro h; exact absurd h Bool.false_ne_true
theorem ok_spec_l05Apart : CallOK Try.prog 86 (c_spec_l05Apart real) := by
  refine callOK_of fun args h ret hc => ?_
  unfold c_spec_l05Apart at hc
  split at hc
  · rename_i x0 x1
    obtain ⟨hok, rfl⟩ := some_ret hc
    exact holds_ev prog_ok (allOK_cons ok_spec_l05Wrap allOK_nil) Try.func86 rfl rfl smL_nil rfl (e_spec_l05Apart real x0 x1 hok)
  · cases hc
def c_math_sqrt (F : FOps) : Con
  | [V.at (A.fl .f64 x)], [] => some (true, ⟨V.at (A.fl .f64 (F.sqrt x)), none, []⟩)
  | _, _ => none
theorem ok_math_sqrt : CallOK Try.prog 126 (c_math_sqrt real) := by
  refine callOK_of fun args h ret hc => ?_
  unfold c_math_sqrt at hc
  split at hc
  · rename_i x
    obtain ⟨_, rfl⟩ := some_ret hc
    exact ext_sqrt Try.func126 rfl rfl (by kernel_rfl) (by kernel_rfl) x
  · cases hc
def c_math_Sqrt (F : FOps) : Con
  | [V.at (A.fl .f64 x0)], [] => some (true, ⟨V.at (A.fl .f64 (F.sqrt x0)), none, []⟩)
  | _, _ => none
theorem e_math_Sqrt (F : FOps) (x0 : Int) : evFn (cxS F tyl [(126, c_math_sqrt F)] [] [] 0) Try.f114 false [V.at (A.fl .f64 x0)] [] = some ⟨V.at (A.fl .f64 (F.sqrt x0)), none, []⟩ := by
  kernel_rfl
theorem ok_math_Sqrt : CallOK Try.prog 114 (c_math_Sqrt real) := by
  refine callOK_of fun args h ret hc => ?_
  unfold c_math_Sqrt at hc
  split at hc
  · rename_i x0
    obtain ⟨_, rfl⟩ := some_ret hc
    exact holds_ev prog_ok (allOK_cons ok_math_sqrt allOK_nil) Try.func114 rfl rfl smL_nil rfl (e_math_Sqrt real x0)
  · cases hc
def Pure.spec_l01Sqrt (F : FOps) (x0 : Int) : Int := Pure.spec_l01Narrow F (F.sqrt (F.conv .f32 .f64 x0))
def Pure.spec_l01Sqrt_ok (F : FOps) (x0 : Int) : Bool := bif F.convOk .f32 .f64 x0 then Pure.spec_l01Narrow_ok F (F.sqrt (F.conv .f32 .f64 x0)) else false
def c_spec_l01Sqrt (F : FOps) : Con
  | [V.at (A.fl .f32 x0)], [] => some (Pure.spec_l01Sqrt_ok F x0, ⟨V.at (A.fl .f32 (Pure.spec_l01Sqrt F x0)), none, []⟩)
  | _, _ => none
theorem e_spec_l01Sqrt (F : FOps) (x0 : Int) : Pure.spec_l01Sqrt_ok F x0 = true → evFn (cxS F tyl [(114, c_math_Sqrt F), (100, c_spec_l01Narrow F)] [] [] 0) Try.f81 false [V.at (A.fl .f32 x0)] [] = some ⟨V.at (A.fl .f32 (Pure.spec_l01Sqrt F x0)), none, []⟩ := by
  have h0 : evFn (cxS F tyl [(114, c_math_Sqrt F), (100, c_spec_l01Narrow F)] [] [] 0) Try.f81 false [V.at (A.fl .f32 x0)] [] = bif F.convOk .f32 .f64 x0 then bif Pure.spec_l01Narrow_ok F (F.sqrt (F.conv .f32 .f64 x0)) then some ⟨V.at (A.fl .f32 (Pure.spec_l01Narrow F (F.sqrt (F.conv .f32 .f64 x0)))), none, []⟩ else none else none := by kernel_rfl
  rw [h0]
  unfold Pure.spec_l01Sqrt Pure.spec_l01Sqrt_ok
  cases (F.convOk .f32 .f64 x0) with
  | true =>
    cases (Pure.spec_l01Narrow_ok F (F.sqrt (F.conv .f32 .f64 x0))) with
    | true =>
      intro _; rfl
    | false =>
      intro h; exact absurd h Bool.false_ne_true
  | false =>
    intro h; exact absurd h Bool.false_ne_true
theorem ok_spec_l01Sqrt : CallOK Try.prog 81 (c_spec_l01Sqrt real) := by
  refine callOK_of fun args h ret hc => ?_
  unfold c_spec_l01Sqrt at hc
  split at hc
  · rename_i x0
    obtain ⟨hok, rfl⟩ := some_ret hc
    exact holds_ev prog_ok (allOK_cons ok_math_Sqrt (allOK_cons ok_spec_l01Narrow allOK_nil)) Try.func81 rfl rfl smL_nil rfl (e_spec_l01Sqrt real x0 hok)
  · cases hc
def Pure.spec_l07Far (F : FOps) (x0 x1 x2 x3 : Int) : Int := Pure.spec_l01Sqrt F (F.bin .add .f32 (F.bin .mul .f32 (Pure.spec_l05Apart F x0 x2) (Pure.spec_l05Apart F x0 x2)) (F.bin .mul .f32 (Pure.spec_l05Apart F x1 x3) (Pure.spec_l05Apart F x1 x3)))
def Pure.spec_l07Far_ok (F : FOps) (x0 x1 x2 x3 : Int) : Bool := bif Pure.spec_l05Apart_ok F x0 x2 then bif Pure.spec_l05Apart_ok F x1 x3 then Pure.spec_l01Sqrt_ok F (F.bin .add .f32 (F.bin .mul .f32 (Pure.spec_l05Apart F x0 x2) (Pure.spec_l05Apart F x0 x2)) (F.bin .mul .f32 (Pure.spec_l05Apart F x1 x3) (Pure.spec_l05Apart F x1 x3))) else false else false
def c_spec_l07Far (F : FOps) : Con
  | [V.agg [A.fl .f32 x0, A.fl .f32 x1], V.agg [A.fl .f32 x2, A.fl .f32 x3]], [] => some (Pure.spec_l07Far_ok F x0 x1 x2 x3, ⟨V.at (A.fl .f32 (Pure.spec_l07Far F x0 x1 x2 x3)), none, []⟩)
  | _, _ => none
theorem e_spec_l07Far (F : FOps) (x0 x1 x2 x3 : Int) : Pure.spec_l07Far_ok F x0 x1 x2 x3 = true → evFn (cxS F tyl [(86, c_spec_l05Apart F), (81, c_spec_l01Sqrt F)] [] [] 0) Try.f77 false [V.agg [A.fl .f32 x0, A.fl .f32 x1], V.agg [A.fl .f32 x2, A.fl .f32 x3]] [] = some ⟨V.at (A.fl .f32 (Pure.spec_l07Far F x0 x1 x2 x3)), none, []⟩ := by
  have h0 : evFn (cxS F tyl [(86, c_spec_l05Apart F), (81, c_spec_l01Sqrt F)] [] [] 0) Try.f77 false [V.agg [A.fl .f32 x0, A.fl .f32 x1], V.agg [A.fl .f32 x2, A.fl .f32 x3]] [] = bif Pure.spec_l05Apart_ok F x0 x2 then bif Pure.spec_l05Apart_ok F x1 x3 then bif Pure.spec_l01Sqrt_ok F (F.bin .add .f32 (F.bin .mul .f32 (Pure.spec_l05Apart F x0 x2) (Pure.spec_l05Apart F x0 x2)) (F.bin .mul .f32 (Pure.spec_l05Apart F x1 x3) (Pure.spec_l05Apart F x1 x3))) then some ⟨V.at (A.fl .f32 (Pure.spec_l01Sqrt F (F.bin .add .f32 (F.bin .mul .f32 (Pure.spec_l05Apart F x0 x2) (Pure.spec_l05Apart F x0 x2)) (F.bin .mul .f32 (Pure.spec_l05Apart F x1 x3) (Pure.spec_l05Apart F x1 x3))))), none, []⟩ else none else none else none := by kernel_rfl
  rw [h0]
  unfold Pure.spec_l07Far Pure.spec_l07Far_ok
  cases (Pure.spec_l05Apart_ok F x0 x2) with
  | true =>
    cases (Pure.spec_l05Apart_ok F x1 x3) with
    | true =>
      cases (Pure.spec_l01Sqrt_ok F (F.bin .add .f32 (F.bin .mul .f32 (Pure.spec_l05Apart F x0 x2) (Pure.spec_l05Apart F x0 x2)) (F.bin .mul .f32 (Pure.spec_l05Apart F x1 x3) (Pure.spec_l05Apart F x1 x3)))) with
      | true =>
        intro _; rfl
      | false =>
        intro h; exact absurd h Bool.false_ne_true
    | false =>
      intro h; exact absurd h Bool.false_ne_true
  | false =>
    intro h; exact absurd h Bool.false_ne_true
theorem ok_spec_l07Far : CallOK Try.prog 77 (c_spec_l07Far real) := by
  refine callOK_of fun args h ret hc => ?_
  unfold c_spec_l07Far at hc
  split at hc
  · rename_i x0 x1 x2 x3
    obtain ⟨hok, rfl⟩ := some_ret hc
    exact holds_ev prog_ok (allOK_cons ok_spec_l05Apart (allOK_cons ok_spec_l01Sqrt allOK_nil)) Try.func77 rfl rfl smL_nil rfl (e_spec_l07Far real x0 x1 x2 x3 hok)
  · cases hc
def Pure.impl_State_orbit_L0 (F : FOps) (y0 y1 : Int) : Nat → Int → Int → Int → (List (List Int)) → (Bool × (List (List Int)))
  | 0, _, _, _, _ => (false, [])
  | n + 1, y2, y3, y4, y5 => bif (decide (y2 < y1)) then (bif (Pure.impl_State_mapped_ok F y3 y4 y0) then (bif (decide ((Nat.succ y5.length) ≤ 1073741824)) then (Pure.impl_State_orbit_L0 F y0 y1 n (IntKind.wrap .i64 (y2 + 1)) (Pure.impl_State_damped F y3 y4 y0 1065353216) (Pure.impl_State_damped_1 F y3 y4 y0 1065353216) (y5 ++ [[Pure.impl_State_damped F y3 y4 y0 1065353216, Pure.impl_State_damped_1 F y3 y4 y0 1065353216]])) else ((false, []))) else ((false, []))) else ((true, y5))
def R_impl_State_orbit_L0 (r : (Bool × (List (List Int)))) : Bool × Bool × (Ex × List V × List Ob) × (Ex × List V × List Ob) := ((r).1, false, (Ex.normal, [V.at (A.sl 0)], [⟨true, .rows [K.f .f32, K.f .f32] (r).2⟩]), (Ex.normal, [V.at (A.sl 0)], [⟨true, .rows [K.f .f32, K.f .f32] (r).2⟩]))
def S_impl_State_orbit_L0 (F : FOps) : Sm := ⟨[1, 3, 7, 10, 11], [24, 0, 84, 2, 2], [7], fun vals hp => match vals, hp with
  | [V.at (A.fl .f32 y0), V.at (A.ptr 0 0 0), V.at (A.sl 1), V.at (A.int .i64 y1), V.at (A.int .i64 y2)], [⟨true, .box [A.fl .f32 y3, A.fl .f32 y4]⟩, ⟨true, .rows [K.f .f32, K.f .f32] y5⟩] => some (R_impl_State_orbit_L0  (Pure.impl_State_orbit_L0 F y0 y1 (y1 - y2 + 1).toNat y2 y3 y4 y5))
  | _, _ => none⟩
theorem l_impl_State_orbit_L0 (F : FOps) (y0 y1 : Int) : ∀ (fuel : Nat) (y2 y3 y4 : Int) (y5 : List (List Int)), (Pure.impl_State_orbit_L0 F y0 y1 fuel y2 y3 y4 y5).1 = true → loopOf (cxS F tyl [(85, c_impl_State_mapped F)] [] [] 0) 0 22 0 [1, 3, 7, 10, 11] [24, 0, 84, 2, 2] [7] (loopB 0 (codeOf Try.f78)) fuel [V.at (A.fl .f32 y0), V.at (A.ptr 0 0 0), V.at (A.sl 1), V.at (A.int .i64 y1), V.at (A.int .i64 y2)] [⟨true, .box [A.fl .f32 y3, A.fl .f32 y4]⟩, ⟨true, .rows [K.f .f32, K.f .f32] y5⟩] = resOf (R_impl_State_orbit_L0  (Pure.impl_State_orbit_L0 F y0 y1 fuel y2 y3 y4 y5)) := by
  intro fuel
  induction fuel with
  | zero => intro y2 y3 y4 y5 h; exact absurd h Bool.false_ne_true
  | succ n ih =>
    intro y2 y3 y4 y5
    have h0 : roundOf (cxS F tyl [(85, c_impl_State_mapped F)] [] [] 0) 0 22 0 [1, 3, 7, 10, 11] [24, 0, 84, 2, 2] [7] (loopB 0 (codeOf Try.f78)) [V.at (A.fl .f32 y0), V.at (A.ptr 0 0 0), V.at (A.sl 1), V.at (A.int .i64 y1), V.at (A.int .i64 y2)] [⟨true, .box [A.fl .f32 y3, A.fl .f32 y4]⟩, ⟨true, .rows [K.f .f32, K.f .f32] y5⟩] = (bif decide (y2 < y1) then bif Pure.impl_State_mapped_ok F y3 y4 y0 then bif decide ((Nat.succ y5.length) ≤ 1073741824) then some (true, (Ex.normal, ([V.at (A.fl .f32 y0), V.at (A.ptr 0 0 0), V.at (A.sl 1), V.at (A.int .i64 y1), V.at (A.int .i64 (IntKind.wrap .i64 (y2 + 1)))], [⟨true, .box [A.fl .f32 (Pure.impl_State_damped F y3 y4 y0 1065353216), A.fl .f32 (Pure.impl_State_damped_1 F y3 y4 y0 1065353216)]⟩, ⟨true, .rows [K.f .f32, K.f .f32] (y5 ++ [[Pure.impl_State_damped F y3 y4 y0 1065353216, Pure.impl_State_damped_1 F y3 y4 y0 1065353216]])⟩]))) else none else none else some (false, (Ex.normal, ([V.at (A.sl 0)], [⟨true, .rows [K.f .f32, K.f .f32] y5⟩])))) := by kernel_rfl
    unfold loopOf
    rw [h0]
    unfold Pure.impl_State_orbit_L0
    cases (decide (y2 < y1)) with
    | true =>
      cases (Pure.impl_State_mapped_ok F y3 y4 y0) with
      | true =>
        cases (decide ((Nat.succ y5.length) ≤ 1073741824)) with
        | true =>
          exact ih _ _ _ _
        | false =>
          intro h; exact absurd h Bool.false_ne_true
      | false =>
        intro h; exact absurd h Bool.false_ne_true
    | false =>
      intro _; rfl
theorem t_impl_State_orbit_L0 : SmTo Try.prog 0 22 (S_impl_State_orbit_L0 real) 0 (.loop (loopB 0 (codeOf Try.f78))) := by
  refine smTo_ev (cl := [(85, c_impl_State_mapped real)]) (ef := []) (sm := []) (un := 0) prog_ok (allOK_cons ok_impl_State_mapped allOK_nil) smL_nil ?_
  intro vals hp q r h hq
  unfold S_impl_State_orbit_L0 at h
  dsimp only at h
  split at h
  · rename_i y0 y1 y2 y3 y4 y5
    obtain rfl := Option.some.inj h
    have h1 := hq
    unfold resOf at h1
    rw [chk_some] at h1
    exact ⟨_, (l_impl_State_orbit_L0 real y0 y1 _ y2 y3 y4 y5 h1.1).trans hq⟩
  · cases h
def Pure.impl_State_orbit (F : FOps) (x0 x1 x2 x3 : Int) : List (List Int) := Prod.snd (Pure.impl_State_orbit_L0 F x2 x3 (Int.toNat ((x3 - 0) + 1)) 0 x0 x1 [[x0, x1]])
def Pure.impl_State_orbit_ok (F : FOps) (x0 x1 x2 x3 : Int) : Bool := Prod.fst (Pure.impl_State_orbit_L0 F x2 x3 (Int.toNat ((x3 - 0) + 1)) 0 x0 x1 [[x0, x1]])
def c_impl_State_orbit (F : FOps) : Con
  | [V.agg [A.fl .f32 x0, A.fl .f32 x1], V.at (A.fl .f32 x2), V.at (A.int .i64 x3)], [] => some (Pure.impl_State_orbit_ok F x0 x1 x2 x3, ⟨V.at (A.sl 0), none, [⟨true, .rows [K.f .f32, K.f .f32] (Pure.impl_State_orbit F x0 x1 x2 x3)⟩]⟩)
  | _, _ => none
theorem e_impl_State_orbit (F : FOps) (x0 x1 x2 x3 : Int) : Pure.impl_State_orbit_ok F x0 x1 x2 x3 = true → evFn (cxS F tyl [(85, c_impl_State_mapped F)] [] [(0, S_impl_State_orbit_L0 F)] 0) Try.f78 false [V.agg [A.fl .f32 x0, A.fl .f32 x1], V.at (A.fl .f32 x2), V.at (A.int .i64 x3)] [] = some ⟨V.at (A.sl 0), none, [⟨true, .rows [K.f .f32, K.f .f32] (Pure.impl_State_orbit F x0 x1 x2 x3)⟩]⟩ := by
  have h0 : evFn (cxS F tyl [(85, c_impl_State_mapped F)] [] [(0, S_impl_State_orbit_L0 F)] 0) Try.f78 false [V.agg [A.fl .f32 x0, A.fl .f32 x1], V.at (A.fl .f32 x2), V.at (A.int .i64 x3)] [] = bif Prod.fst (Pure.impl_State_orbit_L0 F x2 x3 (Int.toNat ((x3 - 0) + 1)) 0 x0 x1 [[x0, x1]]) then some ⟨V.at (A.sl 0), none, [⟨true, .rows [K.f .f32, K.f .f32] (Prod.snd (Pure.impl_State_orbit_L0 F x2 x3 (Int.toNat ((x3 - 0) + 1)) 0 x0 x1 [[x0, x1]]))⟩]⟩ else none := by kernel_rfl
  rw [h0]
  unfold Pure.impl_State_orbit Pure.impl_State_orbit_ok
  cases (Prod.fst (Pure.impl_State_orbit_L0 F x2 x3 (Int.toNat ((x3 - 0) + 1)) 0 x0 x1 [[x0, x1]])) with
  | true =>
    intro _; rfl
  | false =>
    intro h; exact absurd h Bool.false_ne_true
theorem ok_impl_State_orbit : CallOK Try.prog 78 (c_impl_State_orbit real) := by
  refine callOK_of fun args h ret hc => ?_
  unfold c_impl_State_orbit at hc
  split at hc
  · rename_i x0 x1 x2 x3
    obtain ⟨hok, rfl⟩ := some_ret hc
    exact holds_ev prog_ok (allOK_cons ok_impl_State_mapped allOK_nil) Try.func78 rfl rfl (smL_cons (body := .loop (loopB 0 (codeOf Try.f78))) (by kernel_rfl) t_impl_State_orbit_L0 smL_nil) rfl (e_impl_State_orbit real x0 x1 x2 x3 hok)
  · cases hc
def Pure.impl_apart (F : FOps) (x0 x1 : Int) : Int := bif F.cmp .gtr .f32 (F.bin .sub .f32 (Pure.impl_WrapTurn F x1) (Pure.impl_WrapTurn F x0)) 1056964608 then F.bin .sub .f32 (F.bin .sub .f32 (Pure.impl_WrapTurn F x1) (Pure.impl_WrapTurn F x0)) 1065353216 else bif F.cmp .leq .f32 (F.bin .sub .f32 (Pure.impl_WrapTurn F x1) (Pure.impl_WrapTurn F x0)) 3204448256 then F.bin .add .f32 (F.bin .sub .f32 (Pure.impl_WrapTurn F x1) (Pure.impl_WrapTurn F x0)) 1065353216 else F.bin .sub .f32 (Pure.impl_WrapTurn F x1) (Pure.impl_WrapTurn F x0)
def Pure.impl_apart_ok (F : FOps) (x0 x1 : Int) : Bool := bif Pure.impl_wrapped_ok F x1 then Pure.impl_wrapped_ok F x0 else false
def c_impl_apart (F : FOps) : Con
  | [V.at (A.fl .f32 x0), V.at (A.fl .f32 x1)], [] => some (Pure.impl_apart_ok F x0 x1, ⟨V.at (A.fl .f32 (Pure.impl_apart F x0 x1)), none, []⟩)
  | _, _ => none
theorem e_impl_apart (F : FOps) (x0 x1 : Int) : Pure.impl_apart_ok F x0 x1 = true → evFn (cxS F tyl [(94, c_impl_wrapped F)] [] [] 0) Try.f50 false [V.at (A.fl .f32 x0), V.at (A.fl .f32 x1)] [] = some ⟨V.at (A.fl .f32 (Pure.impl_apart F x0 x1)), none, []⟩ := by
  have h0 : evFn (cxS F tyl [(94, c_impl_wrapped F)] [] [] 0) Try.f50 false [V.at (A.fl .f32 x0), V.at (A.fl .f32 x1)] [] = bif Pure.impl_wrapped_ok F x1 then bif Pure.impl_wrapped_ok F x0 then bif F.cmp .gtr .f32 (F.bin .sub .f32 (Pure.impl_WrapTurn F x1) (Pure.impl_WrapTurn F x0)) 1056964608 then some ⟨V.at (A.fl .f32 (F.bin .sub .f32 (F.bin .sub .f32 (Pure.impl_WrapTurn F x1) (Pure.impl_WrapTurn F x0)) 1065353216)), none, []⟩ else bif F.cmp .leq .f32 (F.bin .sub .f32 (Pure.impl_WrapTurn F x1) (Pure.impl_WrapTurn F x0)) 3204448256 then some ⟨V.at (A.fl .f32 (F.bin .add .f32 (F.bin .sub .f32 (Pure.impl_WrapTurn F x1) (Pure.impl_WrapTurn F x0)) 1065353216)), none, []⟩ else some ⟨V.at (A.fl .f32 (F.bin .sub .f32 (Pure.impl_WrapTurn F x1) (Pure.impl_WrapTurn F x0))), none, []⟩ else none else none := by kernel_rfl
  rw [h0]
  unfold Pure.impl_apart Pure.impl_apart_ok
  cases (Pure.impl_wrapped_ok F x1) with
  | true =>
    cases (Pure.impl_wrapped_ok F x0) with
    | true =>
      cases (F.cmp .gtr .f32 (F.bin .sub .f32 (Pure.impl_WrapTurn F x1) (Pure.impl_WrapTurn F x0)) 1056964608) with
      | true =>
        intro _; rfl
      | false =>
        cases (F.cmp .leq .f32 (F.bin .sub .f32 (Pure.impl_WrapTurn F x1) (Pure.impl_WrapTurn F x0)) 3204448256) with
        | true =>
          intro _; rfl
        | false =>
          intro _; rfl
    | false =>
      intro h; exact absurd h Bool.false_ne_true
  | false =>
    intro h; exact absurd h Bool.false_ne_true
theorem ok_impl_apart : CallOK Try.prog 50 (c_impl_apart real) := by
  refine callOK_of fun args h ret hc => ?_
  unfold c_impl_apart at hc
  split at hc
  · rename_i x0 x1
    obtain ⟨hok, rfl⟩ := some_ret hc
    exact holds_ev prog_ok (allOK_cons ok_impl_wrapped allOK_nil) Try.func50 rfl rfl smL_nil rfl (e_impl_apart real x0 x1 hok)
  · cases hc
def Pure.impl_RootNumber (F : FOps) (x0 : Int) : Int := F.conv .f64 .f32 (F.sqrt (F.conv .f32 .f64 x0))
def Pure.impl_RootNumber_ok (F : FOps) (x0 : Int) : Bool := bif F.convOk .f32 .f64 x0 then F.convOk .f64 .f32 (F.sqrt (F.conv .f32 .f64 x0)) else false
def c_impl_RootNumber (F : FOps) : Con
  | [V.at (A.fl .f32 x0)], [] => some (Pure.impl_RootNumber_ok F x0, ⟨V.at (A.fl .f32 (Pure.impl_RootNumber F x0)), none, []⟩)
  | _, _ => none
theorem e_impl_RootNumber (F : FOps) (x0 : Int) : Pure.impl_RootNumber_ok F x0 = true → evFn (cxS F tyl [(114, c_math_Sqrt F)] [] [] 0) Try.f83 false [V.at (A.fl .f32 x0)] [] = some ⟨V.at (A.fl .f32 (Pure.impl_RootNumber F x0)), none, []⟩ := by
  have h0 : evFn (cxS F tyl [(114, c_math_Sqrt F)] [] [] 0) Try.f83 false [V.at (A.fl .f32 x0)] [] = bif F.convOk .f32 .f64 x0 then bif F.convOk .f64 .f32 (F.sqrt (F.conv .f32 .f64 x0)) then some ⟨V.at (A.fl .f32 (F.conv .f64 .f32 (F.sqrt (F.conv .f32 .f64 x0)))), none, []⟩ else none else none := by kernel_rfl
  rw [h0]
  unfold Pure.impl_RootNumber Pure.impl_RootNumber_ok
  cases (F.convOk .f32 .f64 x0) with
  | true =>
    cases (F.convOk .f64 .f32 (F.sqrt (F.conv .f32 .f64 x0))) with
    | true =>
      intro _; rfl
    | false =>
      intro h; exact absurd h Bool.false_ne_true
  | false =>
    intro h; exact absurd h Bool.false_ne_true
theorem ok_impl_RootNumber : CallOK Try.prog 83 (c_impl_RootNumber real) := by
  refine callOK_of fun args h ret hc => ?_
  unfold c_impl_RootNumber at hc
  split at hc
  · rename_i x0
    obtain ⟨hok, rfl⟩ := some_ret hc
    exact holds_ev prog_ok (allOK_cons ok_math_Sqrt allOK_nil) Try.func83 rfl rfl smL_nil rfl (e_impl_RootNumber real x0 hok)
  · cases hc
def Pure.impl_State_far (F : FOps) (x0 x1 x2 x3 : Int) : Int := Pure.impl_RootNumber F (F.bin .add .f32 (F.bin .mul .f32 (Pure.impl_apart F x0 x2) (Pure.impl_apart F x0 x2)) (F.bin .mul .f32 (Pure.impl_apart F x1 x3) (Pure.impl_apart F x1 x3)))
def Pure.impl_State_far_ok (F : FOps) (x0 x1 x2 x3 : Int) : Bool := bif Pure.impl_apart_ok F x0 x2 then bif Pure.impl_apart_ok F x1 x3 then Pure.impl_RootNumber_ok F (F.bin .add .f32 (F.bin .mul .f32 (Pure.impl_apart F x0 x2) (Pure.impl_apart F x0 x2)) (F.bin .mul .f32 (Pure.impl_apart F x1 x3) (Pure.impl_apart F x1 x3))) else false else false
def c_impl_State_far (F : FOps) : Con
  | [V.agg [A.fl .f32 x0, A.fl .f32 x1], V.agg [A.fl .f32 x2, A.fl .f32 x3]], [] => some (Pure.impl_State_far_ok F x0 x1 x2 x3, ⟨V.at (A.fl .f32 (Pure.impl_State_far F x0 x1 x2 x3)), none, []⟩)
  | _, _ => none
theorem e_impl_State_far (F : FOps) (x0 x1 x2 x3 : Int) : Pure.impl_State_far_ok F x0 x1 x2 x3 = true → evFn (cxS F tyl [(50, c_impl_apart F), (83, c_impl_RootNumber F)] [] [] 0) Try.f79 false [V.agg [A.fl .f32 x0, A.fl .f32 x1], V.agg [A.fl .f32 x2, A.fl .f32 x3]] [] = some ⟨V.at (A.fl .f32 (Pure.impl_State_far F x0 x1 x2 x3)), none, []⟩ := by
  have h0 : evFn (cxS F tyl [(50, c_impl_apart F), (83, c_impl_RootNumber F)] [] [] 0) Try.f79 false [V.agg [A.fl .f32 x0, A.fl .f32 x1], V.agg [A.fl .f32 x2, A.fl .f32 x3]] [] = bif Pure.impl_apart_ok F x0 x2 then bif Pure.impl_apart_ok F x1 x3 then bif Pure.impl_RootNumber_ok F (F.bin .add .f32 (F.bin .mul .f32 (Pure.impl_apart F x0 x2) (Pure.impl_apart F x0 x2)) (F.bin .mul .f32 (Pure.impl_apart F x1 x3) (Pure.impl_apart F x1 x3))) then some ⟨V.at (A.fl .f32 (Pure.impl_RootNumber F (F.bin .add .f32 (F.bin .mul .f32 (Pure.impl_apart F x0 x2) (Pure.impl_apart F x0 x2)) (F.bin .mul .f32 (Pure.impl_apart F x1 x3) (Pure.impl_apart F x1 x3))))), none, []⟩ else none else none else none := by kernel_rfl
  rw [h0]
  unfold Pure.impl_State_far Pure.impl_State_far_ok
  cases (Pure.impl_apart_ok F x0 x2) with
  | true =>
    cases (Pure.impl_apart_ok F x1 x3) with
    | true =>
      cases (Pure.impl_RootNumber_ok F (F.bin .add .f32 (F.bin .mul .f32 (Pure.impl_apart F x0 x2) (Pure.impl_apart F x0 x2)) (F.bin .mul .f32 (Pure.impl_apart F x1 x3) (Pure.impl_apart F x1 x3)))) with
      | true =>
        intro _; rfl
      | false =>
        intro h; exact absurd h Bool.false_ne_true
    | false =>
      intro h; exact absurd h Bool.false_ne_true
  | false =>
    intro h; exact absurd h Bool.false_ne_true
theorem ok_impl_State_far : CallOK Try.prog 79 (c_impl_State_far real) := by
  refine callOK_of fun args h ret hc => ?_
  unfold c_impl_State_far at hc
  split at hc
  · rename_i x0 x1 x2 x3
    obtain ⟨hok, rfl⟩ := some_ret hc
    exact holds_ev prog_ok (allOK_cons ok_impl_apart (allOK_cons ok_impl_RootNumber allOK_nil)) Try.func79 rfl rfl smL_nil rfl (e_impl_State_far real x0 x1 x2 x3 hok)
  · cases hc
end Go.Fx
