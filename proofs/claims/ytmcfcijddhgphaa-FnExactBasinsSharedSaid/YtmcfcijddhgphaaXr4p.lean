import Derived.Test.YtmcfcijddhgphaaXr4c
import Derived.KernelRfl
namespace Go.Fx
open Go.Proofs
set_option maxRecDepth 100000
def Pure.spec_l00In (F : FOps) (x0 x1 x2 : Int) : Bool := bif decide (x0 ≥ x1) then decide (x0 ≤ x2) else false
def c_spec_l00In (F : FOps) : Con
  | [V.at (A.int .i64 x0), V.at (A.int .i64 x1), V.at (A.int .i64 x2)], [] => some (true, ⟨V.at (A.bool (Pure.spec_l00In F x0 x1 x2)), none, []⟩)
  | _, _ => none
theorem e_spec_l00In (F : FOps) (x0 x1 x2 : Int) : evFn (cxS F tyl [] [] [] 0) Try.f74 false [V.at (A.int .i64 x0), V.at (A.int .i64 x1), V.at (A.int .i64 x2)] [] = some ⟨V.at (A.bool (Pure.spec_l00In F x0 x1 x2)), none, []⟩ := by
  have h0 : evFn (cxS F tyl [] [] [] 0) Try.f74 false [V.at (A.int .i64 x0), V.at (A.int .i64 x1), V.at (A.int .i64 x2)] [] = bif decide (x0 ≥ x1) then some ⟨V.at (A.bool (decide (x0 ≤ x2))), none, []⟩ else some ⟨V.at (A.bool false), none, []⟩ := by kernel_rfl
  rw [h0]
  unfold Pure.spec_l00In
  cases (decide (x0 ≥ x1)) with
  | true =>
    rfl
  | false =>
    rfl
theorem ok_spec_l00In : CallOK Try.prog 74 (c_spec_l00In real) := by
  refine callOK_of fun args h ret hc => ?_
  unfold c_spec_l00In at hc
  split at hc
  · rename_i x0 x1 x2
    obtain ⟨_, rfl⟩ := some_ret hc
    exact holds_ev prog_ok allOK_nil Try.func74 rfl rfl smL_nil rfl (e_spec_l00In real x0 x1 x2)
  · cases hc
def Pure.spec_l07Grid (F : FOps) (x0 x1 : Int) : Bool := bif Pure.spec_l00In F x0 1 32 then Pure.spec_l00In F x1 1 32 else false
def c_spec_l07Grid (F : FOps) : Con
  | [V.at (A.int .i64 x0), V.at (A.int .i64 x1)], [] => some (true, ⟨V.at (A.bool (Pure.spec_l07Grid F x0 x1)), none, []⟩)
  | _, _ => none
theorem e_spec_l07Grid (F : FOps) (x0 x1 : Int) : evFn (cxS F tyl [(74, c_spec_l00In F)] [] [] 0) Try.f109 false [V.at (A.int .i64 x0), V.at (A.int .i64 x1)] [] = some ⟨V.at (A.bool (Pure.spec_l07Grid F x0 x1)), none, []⟩ := by
  have h0 : evFn (cxS F tyl [(74, c_spec_l00In F)] [] [] 0) Try.f109 false [V.at (A.int .i64 x0), V.at (A.int .i64 x1)] [] = bif Pure.spec_l00In F x0 1 32 then some ⟨V.at (A.bool (Pure.spec_l00In F x1 1 32)), none, []⟩ else some ⟨V.at (A.bool false), none, []⟩ := by kernel_rfl
  rw [h0]
  unfold Pure.spec_l07Grid
  cases (Pure.spec_l00In F x0 1 32) with
  | true =>
    rfl
  | false =>
    rfl
theorem ok_spec_l07Grid : CallOK Try.prog 109 (c_spec_l07Grid real) := by
  refine callOK_of fun args h ret hc => ?_
  unfold c_spec_l07Grid at hc
  split at hc
  · rename_i x0 x1
    obtain ⟨_, rfl⟩ := some_ret hc
    exact holds_ev prog_ok (allOK_cons ok_spec_l00In allOK_nil) Try.func109 rfl rfl smL_nil rfl (e_spec_l07Grid real x0 x1)
  · cases hc
def Pure.spec_l07Size (F : FOps) (x0 : Int) : Bool := bif F.cmp .geq .f32 x0 3229614080 then F.cmp .leq .f32 x0 1082130432 else false
def c_spec_l07Size (F : FOps) : Con
  | [V.at (A.fl .f32 x0)], [] => some (true, ⟨V.at (A.bool (Pure.spec_l07Size F x0)), none, []⟩)
  | _, _ => none
theorem e_spec_l07Size (F : FOps) (x0 : Int) : evFn (cxS F tyl [] [] [] 0) Try.f67 false [V.at (A.fl .f32 x0)] [] = some ⟨V.at (A.bool (Pure.spec_l07Size F x0)), none, []⟩ := by
  have h0 : evFn (cxS F tyl [] [] [] 0) Try.f67 false [V.at (A.fl .f32 x0)] [] = bif F.cmp .geq .f32 x0 3229614080 then some ⟨V.at (A.bool (F.cmp .leq .f32 x0 1082130432)), none, []⟩ else some ⟨V.at (A.bool false), none, []⟩ := by kernel_rfl
  rw [h0]
  unfold Pure.spec_l07Size
  cases (F.cmp .geq .f32 x0 3229614080) with
  | true =>
    rfl
  | false =>
    rfl
theorem ok_spec_l07Size : CallOK Try.prog 67 (c_spec_l07Size real) := by
  refine callOK_of fun args h ret hc => ?_
  unfold c_spec_l07Size at hc
  split at hc
  · rename_i x0
    obtain ⟨_, rfl⟩ := some_ret hc
    exact holds_ev prog_ok allOK_nil Try.func67 rfl rfl smL_nil rfl (e_spec_l07Size real x0)
  · cases hc
def Pure.spec_l07Keep (F : FOps) (x0 : Int) : Bool := bif F.cmp .geq .f32 x0 0 then F.cmp .leq .f32 x0 1065353216 else false
def c_spec_l07Keep (F : FOps) : Con
  | [V.at (A.fl .f32 x0)], [] => some (true, ⟨V.at (A.bool (Pure.spec_l07Keep F x0)), none, []⟩)
  | _, _ => none
theorem e_spec_l07Keep (F : FOps) (x0 : Int) : evFn (cxS F tyl [] [] [] 0) Try.f123 false [V.at (A.fl .f32 x0)] [] = some ⟨V.at (A.bool (Pure.spec_l07Keep F x0)), none, []⟩ := by
  have h0 : evFn (cxS F tyl [] [] [] 0) Try.f123 false [V.at (A.fl .f32 x0)] [] = bif F.cmp .geq .f32 x0 0 then some ⟨V.at (A.bool (F.cmp .leq .f32 x0 1065353216)), none, []⟩ else some ⟨V.at (A.bool false), none, []⟩ := by kernel_rfl
  rw [h0]
  unfold Pure.spec_l07Keep
  cases (F.cmp .geq .f32 x0 0) with
  | true =>
    rfl
  | false =>
    rfl
theorem ok_spec_l07Keep : CallOK Try.prog 123 (c_spec_l07Keep real) := by
  refine callOK_of fun args h ret hc => ?_
  unfold c_spec_l07Keep at hc
  split at hc
  · rename_i x0
    obtain ⟨_, rfl⟩ := some_ret hc
    exact holds_ev prog_ok allOK_nil Try.func123 rfl rfl smL_nil rfl (e_spec_l07Keep real x0)
  · cases hc
def c_spec_l07Count (F : FOps) : Con
  | [V.at (A.int .i64 x0), V.at (A.int .i64 x1)], [] => some (true, ⟨V.at (A.bool (Pure.spec_l00In F x0 x1 128)), none, []⟩)
  | _, _ => none
theorem e_spec_l07Count (F : FOps) (x0 x1 : Int) : evFn (cxS F tyl [(74, c_spec_l00In F)] [] [] 0) Try.f68 false [V.at (A.int .i64 x0), V.at (A.int .i64 x1)] [] = some ⟨V.at (A.bool (Pure.spec_l00In F x0 x1 128)), none, []⟩ := by
  kernel_rfl
theorem ok_spec_l07Count : CallOK Try.prog 68 (c_spec_l07Count real) := by
  refine callOK_of fun args h ret hc => ?_
  unfold c_spec_l07Count at hc
  split at hc
  · rename_i x0 x1
    obtain ⟨_, rfl⟩ := some_ret hc
    exact holds_ev prog_ok (allOK_cons ok_spec_l00In allOK_nil) Try.func68 rfl rfl smL_nil rfl (e_spec_l07Count real x0 x1)
  · cases hc
def Pure.spec_l07Can (F : FOps) (x0 x1 x2 x3 : Int) : Bool := bif Pure.spec_l07Size F x0 then bif Pure.spec_l07Keep F x1 then bif Pure.spec_l00In F x2 0 128 then Pure.spec_l00In F x3 1 16 else false else false else false
def c_spec_l07Can (F : FOps) : Con
  | [V.at (A.fl .f32 x0), V.at (A.fl .f32 x1), V.at (A.int .i64 x2), V.at (A.int .i64 x3)], [] => some (true, ⟨V.at (A.bool (Pure.spec_l07Can F x0 x1 x2 x3)), none, []⟩)
  | _, _ => none
theorem e_spec_l07Can (F : FOps) (x0 x1 x2 x3 : Int) : evFn (cxS F tyl [(67, c_spec_l07Size F), (123, c_spec_l07Keep F), (68, c_spec_l07Count F), (74, c_spec_l00In F)] [] [] 0) Try.f110 false [V.at (A.fl .f32 x0), V.at (A.fl .f32 x1), V.at (A.int .i64 x2), V.at (A.int .i64 x3)] [] = some ⟨V.at (A.bool (Pure.spec_l07Can F x0 x1 x2 x3)), none, []⟩ := by
  have h0 : evFn (cxS F tyl [(67, c_spec_l07Size F), (123, c_spec_l07Keep F), (68, c_spec_l07Count F), (74, c_spec_l00In F)] [] [] 0) Try.f110 false [V.at (A.fl .f32 x0), V.at (A.fl .f32 x1), V.at (A.int .i64 x2), V.at (A.int .i64 x3)] [] = bif Pure.spec_l07Size F x0 then bif Pure.spec_l07Keep F x1 then bif Pure.spec_l00In F x2 0 128 then some ⟨V.at (A.bool (Pure.spec_l00In F x3 1 16)), none, []⟩ else some ⟨V.at (A.bool false), none, []⟩ else some ⟨V.at (A.bool false), none, []⟩ else some ⟨V.at (A.bool false), none, []⟩ := by kernel_rfl
  rw [h0]
  unfold Pure.spec_l07Can
  cases (Pure.spec_l07Size F x0) with
  | true =>
    cases (Pure.spec_l07Keep F x1) with
    | true =>
      cases (Pure.spec_l00In F x2 0 128) with
      | true =>
        rfl
      | false =>
        rfl
    | false =>
      rfl
  | false =>
    rfl
theorem ok_spec_l07Can : CallOK Try.prog 110 (c_spec_l07Can real) := by
  refine callOK_of fun args h ret hc => ?_
  unfold c_spec_l07Can at hc
  split at hc
  · rename_i x0 x1 x2 x3
    obtain ⟨_, rfl⟩ := some_ret hc
    exact holds_ev prog_ok (allOK_cons ok_spec_l07Size (allOK_cons ok_spec_l07Keep (allOK_cons ok_spec_l07Count (allOK_cons ok_spec_l00In allOK_nil)))) Try.func110 rfl rfl smL_nil rfl (e_spec_l07Can real x0 x1 x2 x3)
  · cases hc
def Pure.spec_l07Damp (F : FOps) (x0 x1 x2 x3 : Int) : Int := Pure.spec_l05Wrap F (F.bin .add .f32 x0 (Pure.spec_l07Kick F (F.bin .add .f32 (F.bin .mul .f32 x3 x1) (F.bin .mul .f32 x2 (Pure.spec_l01Sine F x0)))))
def Pure.spec_l07Damp_1 (F : FOps) (x0 x1 x2 x3 : Int) : Int := Pure.spec_l07Kick F (F.bin .add .f32 (F.bin .mul .f32 x3 x1) (F.bin .mul .f32 x2 (Pure.spec_l01Sine F x0)))
def Pure.spec_l07Damp_ok (F : FOps) (x0 x1 x2 x3 : Int) : Bool := bif Pure.spec_l01Sine_ok F x0 then bif Pure.spec_l07Kick_ok F (F.bin .add .f32 (F.bin .mul .f32 x3 x1) (F.bin .mul .f32 x2 (Pure.spec_l01Sine F x0))) then Pure.spec_l05Wrap_ok F (F.bin .add .f32 x0 (Pure.spec_l07Kick F (F.bin .add .f32 (F.bin .mul .f32 x3 x1) (F.bin .mul .f32 x2 (Pure.spec_l01Sine F x0))))) else false else false
def c_spec_l07Damp (F : FOps) : Con
  | [V.agg [A.fl .f32 x0, A.fl .f32 x1], V.at (A.fl .f32 x2), V.at (A.fl .f32 x3)], [] => some (Pure.spec_l07Damp_ok F x0 x1 x2 x3, ⟨V.agg [A.fl .f32 (Pure.spec_l07Damp F x0 x1 x2 x3), A.fl .f32 (Pure.spec_l07Damp_1 F x0 x1 x2 x3)], none, []⟩)
  | _, _ => none
theorem e_spec_l07Damp (F : FOps) (x0 x1 x2 x3 : Int) : Pure.spec_l07Damp_ok F x0 x1 x2 x3 = true → evFn (cxS F tyl [(113, c_spec_l01Sine F), (88, c_spec_l07Kick F), (87, c_spec_l05Wrap F)] [] [] 0) Try.f131 false [V.agg [A.fl .f32 x0, A.fl .f32 x1], V.at (A.fl .f32 x2), V.at (A.fl .f32 x3)] [] = some ⟨V.agg [A.fl .f32 (Pure.spec_l07Damp F x0 x1 x2 x3), A.fl .f32 (Pure.spec_l07Damp_1 F x0 x1 x2 x3)], none, []⟩ := by
  have h0 : evFn (cxS F tyl [(113, c_spec_l01Sine F), (88, c_spec_l07Kick F), (87, c_spec_l05Wrap F)] [] [] 0) Try.f131 false [V.agg [A.fl .f32 x0, A.fl .f32 x1], V.at (A.fl .f32 x2), V.at (A.fl .f32 x3)] [] = bif Pure.spec_l01Sine_ok F x0 then bif Pure.spec_l07Kick_ok F (F.bin .add .f32 (F.bin .mul .f32 x3 x1) (F.bin .mul .f32 x2 (Pure.spec_l01Sine F x0))) then bif Pure.spec_l05Wrap_ok F (F.bin .add .f32 x0 (Pure.spec_l07Kick F (F.bin .add .f32 (F.bin .mul .f32 x3 x1) (F.bin .mul .f32 x2 (Pure.spec_l01Sine F x0))))) then some ⟨V.agg [A.fl .f32 (Pure.spec_l05Wrap F (F.bin .add .f32 x0 (Pure.spec_l07Kick F (F.bin .add .f32 (F.bin .mul .f32 x3 x1) (F.bin .mul .f32 x2 (Pure.spec_l01Sine F x0)))))), A.fl .f32 (Pure.spec_l07Kick F (F.bin .add .f32 (F.bin .mul .f32 x3 x1) (F.bin .mul .f32 x2 (Pure.spec_l01Sine F x0))))], none, []⟩ else none else none else none := by kernel_rfl
  rw [h0]
  unfold Pure.spec_l07Damp Pure.spec_l07Damp_1 Pure.spec_l07Damp_ok
  cases (Pure.spec_l01Sine_ok F x0) with
  | true =>
    cases (Pure.spec_l07Kick_ok F (F.bin .add .f32 (F.bin .mul .f32 x3 x1) (F.bin .mul .f32 x2 (Pure.spec_l01Sine F x0)))) with
    | true =>
      cases (Pure.spec_l05Wrap_ok F (F.bin .add .f32 x0 (Pure.spec_l07Kick F (F.bin .add .f32 (F.bin .mul .f32 x3 x1) (F.bin .mul .f32 x2 (Pure.spec_l01Sine F x0)))))) with
      | true =>
        intro _; rfl
      | false =>
        intro h; exact absurd h Bool.false_ne_true
    | false =>
      intro h; exact absurd h Bool.false_ne_true
  | false =>
    intro h; exact absurd h Bool.false_ne_true
theorem ok_spec_l07Damp : CallOK Try.prog 131 (c_spec_l07Damp real) := by
  refine callOK_of fun args h ret hc => ?_
  unfold c_spec_l07Damp at hc
  split at hc
  · rename_i x0 x1 x2 x3
    obtain ⟨hok, rfl⟩ := some_ret hc
    exact holds_ev prog_ok (allOK_cons ok_spec_l01Sine (allOK_cons ok_spec_l07Kick (allOK_cons ok_spec_l05Wrap allOK_nil))) Try.func131 rfl rfl smL_nil rfl (e_spec_l07Damp real x0 x1 x2 x3 hok)
  · cases hc
def Pure.spec_l00Min (F : FOps) (x0 x1 : Int) : Int := bif decide (x0 < x1) then x0 else x1
def c_spec_l00Min (F : FOps) : Con
  | [V.at (A.int .i64 x0), V.at (A.int .i64 x1)], [] => some (true, ⟨V.at (A.int .i64 (Pure.spec_l00Min F x0 x1)), none, []⟩)
  | _, _ => none
theorem e_spec_l00Min (F : FOps) (x0 x1 : Int) : evFn (cxS F tyl [] [] [] 0) Try.f132 false [V.at (A.int .i64 x0), V.at (A.int .i64 x1)] [] = some ⟨V.at (A.int .i64 (Pure.spec_l00Min F x0 x1)), none, []⟩ := by
  have h0 : evFn (cxS F tyl [] [] [] 0) Try.f132 false [V.at (A.int .i64 x0), V.at (A.int .i64 x1)] [] = bif decide (x0 < x1) then some ⟨V.at (A.int .i64 x0), none, []⟩ else some ⟨V.at (A.int .i64 x1), none, []⟩ := by kernel_rfl
  rw [h0]
  unfold Pure.spec_l00Min
  cases (decide (x0 < x1)) with
  | true =>
    rfl
  | false =>
    rfl
theorem ok_spec_l00Min : CallOK Try.prog 132 (c_spec_l00Min real) := by
  refine callOK_of fun args h ret hc => ?_
  unfold c_spec_l00Min at hc
  split at hc
  · rename_i x0 x1
    obtain ⟨_, rfl⟩ := some_ret hc
    exact holds_ev prog_ok allOK_nil Try.func132 rfl rfl smL_nil rfl (e_spec_l00Min real x0 x1)
  · cases hc
def Pure.spec_l07Rest_L0 (F : FOps) (y0 y1 y3 : Int) : Nat → Int → Int → Int → (Bool × Int × Int)
  | 0, _, _, _ => (false, 0, 0)
  | n + 1, y2, y4, y5 => bif (decide (y2 > 0)) then (bif (Pure.spec_l07Damp_ok F y4 y5 y0 y1) then (Pure.spec_l07Rest_L0 F y0 y1 y3 n (IntKind.wrap .i64 (y2 - 1)) (Pure.spec_l07Damp F y4 y5 y0 y1) (Pure.spec_l07Damp_1 F y4 y5 y0 y1)) else ((false, 0, 0))) else ((true, y4, y5))
def R_spec_l07Rest_L0 (y3 : Int) (r : (Bool × Int × Int)) : Bool × Ends := ((r).1, (.one Ex.normal [V.at (A.int .i64 y3), V.at (A.ptr 0 0 0)] [⟨true, .box [A.fl .f32 (r).2.1, A.fl .f32 (r).2.2]⟩]))
def S_spec_l07Rest_L0 (F : FOps) : Sm := ⟨[1, 2, 3, 4, 5], [24, 24, 2, 2, 0], [4, 5], fun vals hp => match vals, hp with
  | [V.at (A.fl .f32 y0), V.at (A.fl .f32 y1), V.at (A.int .i64 y2), V.at (A.int .i64 y3), V.at (A.ptr 0 0 0)], [⟨true, .box [A.fl .f32 y4, A.fl .f32 y5]⟩] => some (R_spec_l07Rest_L0 y3 (Pure.spec_l07Rest_L0 F y0 y1 y3 (y2 - 0 + 1).toNat y2 y4 y5))
  | _, _ => none⟩
theorem l_spec_l07Rest_L0 (F : FOps) (y0 y1 y3 : Int) : ∀ (fuel : Nat) (y2 y4 y5 : Int), (Pure.spec_l07Rest_L0 F y0 y1 y3 fuel y2 y4 y5).1 = true → loopOf (cxS F tyl [(131, c_spec_l07Damp F), (132, c_spec_l00Min F)] [] [] 0) 0 28 0 [1, 2, 3, 4, 5] [24, 24, 2, 2, 0] [4, 5] (loopB 0 (codeOf Try.f124)) fuel [V.at (A.fl .f32 y0), V.at (A.fl .f32 y1), V.at (A.int .i64 y2), V.at (A.int .i64 y3), V.at (A.ptr 0 0 0)] [⟨true, .box [A.fl .f32 y4, A.fl .f32 y5]⟩] = resOf (R_spec_l07Rest_L0 y3 (Pure.spec_l07Rest_L0 F y0 y1 y3 fuel y2 y4 y5)) := by
  intro fuel
  induction fuel with
  | zero => intro y2 y4 y5 h; exact absurd h Bool.false_ne_true
  | succ n ih =>
    intro y2 y4 y5
    have h0 : roundOf (cxS F tyl [(131, c_spec_l07Damp F), (132, c_spec_l00Min F)] [] [] 0) 0 28 0 [1, 2, 3, 4, 5] [24, 24, 2, 2, 0] [4, 5] (loopB 0 (codeOf Try.f124)) [V.at (A.fl .f32 y0), V.at (A.fl .f32 y1), V.at (A.int .i64 y2), V.at (A.int .i64 y3), V.at (A.ptr 0 0 0)] [⟨true, .box [A.fl .f32 y4, A.fl .f32 y5]⟩] = (bif decide (y2 > 0) then bif Pure.spec_l07Damp_ok F y4 y5 y0 y1 then some (true, (Ex.normal, ([V.at (A.fl .f32 y0), V.at (A.fl .f32 y1), V.at (A.int .i64 (IntKind.wrap .i64 (y2 - 1))), V.at (A.int .i64 y3), V.at (A.ptr 0 0 0)], [⟨true, .box [A.fl .f32 (Pure.spec_l07Damp F y4 y5 y0 y1), A.fl .f32 (Pure.spec_l07Damp_1 F y4 y5 y0 y1)]⟩]))) else none else some (false, (Ex.normal, ([V.at (A.int .i64 y3), V.at (A.ptr 0 0 0)], [⟨true, .box [A.fl .f32 y4, A.fl .f32 y5]⟩])))) := by kernel_rfl
    unfold loopOf
    rw [h0]
    unfold Pure.spec_l07Rest_L0
    cases (decide (y2 > 0)) with
    | true =>
      cases (Pure.spec_l07Damp_ok F y4 y5 y0 y1) with
      | true =>
        exact ih _ _ _
      | false =>
        intro h; exact absurd h Bool.false_ne_true
    | false =>
      intro _; rfl
theorem t_spec_l07Rest_L0 : SmTo Try.prog 0 28 (S_spec_l07Rest_L0 real) 0 (.loop (loopB 0 (codeOf Try.f124))) := by
  refine smTo_ev (cl := [(131, c_spec_l07Damp real), (132, c_spec_l00Min real)]) (ef := []) (sm := []) (un := 0) prog_ok (allOK_cons ok_spec_l07Damp (allOK_cons ok_spec_l00Min allOK_nil)) smL_nil ?_
  intro vals hp q r h hq
  unfold S_spec_l07Rest_L0 at h
  dsimp only at h
  split at h
  · rename_i y0 y1 y2 y3 y4 y5
    obtain rfl := Option.some.inj h
    have h1 := hq
    unfold resOf at h1
    rw [chk_some] at h1
    exact ⟨_, (l_spec_l07Rest_L0 real y0 y1 y3 _ y2 y4 y5 h1.1).trans hq⟩
  · cases h
def Pure.spec_l07Rest (F : FOps) (x0 x1 x2 x3 x4 x5 : Int) : Int := Pure.spec_l00Min F (IntKind.wrap .i64 (x5 - 1)) (F.toInt .f32 IntKind.i64 (F.bin .mul .f32 (F.ofInt .f32 x5) (Prod.fst (Prod.snd (Pure.spec_l07Rest_L0 F x2 x3 x5 (Int.toNat ((x4 - 0) + 1)) x4 x0 x1)))))
def Pure.spec_l07Rest_ok (F : FOps) (x0 x1 x2 x3 x4 x5 : Int) : Bool := bif Prod.fst (Pure.spec_l07Rest_L0 F x2 x3 x5 (Int.toNat ((x4 - 0) + 1)) x4 x0 x1) then F.toIntOk .f32 IntKind.i64 (F.bin .mul .f32 (F.ofInt .f32 x5) (Prod.fst (Prod.snd (Pure.spec_l07Rest_L0 F x2 x3 x5 (Int.toNat ((x4 - 0) + 1)) x4 x0 x1)))) else false
def c_spec_l07Rest (F : FOps) : Con
  | [V.agg [A.fl .f32 x0, A.fl .f32 x1], V.at (A.fl .f32 x2), V.at (A.fl .f32 x3), V.at (A.int .i64 x4), V.at (A.int .i64 x5)], [] => some (Pure.spec_l07Rest_ok F x0 x1 x2 x3 x4 x5, ⟨V.at (A.int .i64 (Pure.spec_l07Rest F x0 x1 x2 x3 x4 x5)), none, []⟩)
  | _, _ => none
theorem e_spec_l07Rest (F : FOps) (x0 x1 x2 x3 x4 x5 : Int) : Pure.spec_l07Rest_ok F x0 x1 x2 x3 x4 x5 = true → evFn (cxS F tyl [(131, c_spec_l07Damp F), (132, c_spec_l00Min F)] [] [(0, S_spec_l07Rest_L0 F)] 0) Try.f124 false [V.agg [A.fl .f32 x0, A.fl .f32 x1], V.at (A.fl .f32 x2), V.at (A.fl .f32 x3), V.at (A.int .i64 x4), V.at (A.int .i64 x5)] [] = some ⟨V.at (A.int .i64 (Pure.spec_l07Rest F x0 x1 x2 x3 x4 x5)), none, []⟩ := by
  have h0 : evFn (cxS F tyl [(131, c_spec_l07Damp F), (132, c_spec_l00Min F)] [] [(0, S_spec_l07Rest_L0 F)] 0) Try.f124 false [V.agg [A.fl .f32 x0, A.fl .f32 x1], V.at (A.fl .f32 x2), V.at (A.fl .f32 x3), V.at (A.int .i64 x4), V.at (A.int .i64 x5)] [] = bif Prod.fst (Pure.spec_l07Rest_L0 F x2 x3 x5 (Int.toNat ((x4 - 0) + 1)) x4 x0 x1) then bif F.toIntOk .f32 IntKind.i64 (F.bin .mul .f32 (F.ofInt .f32 x5) (Prod.fst (Prod.snd (Pure.spec_l07Rest_L0 F x2 x3 x5 (Int.toNat ((x4 - 0) + 1)) x4 x0 x1)))) then some ⟨V.at (A.int .i64 (Pure.spec_l00Min F (IntKind.wrap .i64 (x5 - 1)) (F.toInt .f32 IntKind.i64 (F.bin .mul .f32 (F.ofInt .f32 x5) (Prod.fst (Prod.snd (Pure.spec_l07Rest_L0 F x2 x3 x5 (Int.toNat ((x4 - 0) + 1)) x4 x0 x1))))))), none, []⟩ else none else none := by kernel_rfl
  rw [h0]
  unfold Pure.spec_l07Rest Pure.spec_l07Rest_ok
  cases (Prod.fst (Pure.spec_l07Rest_L0 F x2 x3 x5 (Int.toNat ((x4 - 0) + 1)) x4 x0 x1)) with
  | true =>
    cases (F.toIntOk .f32 IntKind.i64 (F.bin .mul .f32 (F.ofInt .f32 x5) (Prod.fst (Prod.snd (Pure.spec_l07Rest_L0 F x2 x3 x5 (Int.toNat ((x4 - 0) + 1)) x4 x0 x1))))) with
    | true =>
      intro _; rfl
    | false =>
      intro h; exact absurd h Bool.false_ne_true
  | false =>
    intro h; exact absurd h Bool.false_ne_true
theorem ok_spec_l07Rest : CallOK Try.prog 124 (c_spec_l07Rest real) := by
  refine callOK_of fun args h ret hc => ?_
  unfold c_spec_l07Rest at hc
  split at hc
  · rename_i x0 x1 x2 x3 x4 x5
    obtain ⟨hok, rfl⟩ := some_ret hc
    exact holds_ev prog_ok (allOK_cons ok_spec_l07Damp (allOK_cons ok_spec_l00Min allOK_nil)) Try.func124 rfl rfl (smL_cons (body := .loop (loopB 0 (codeOf Try.f124))) (by kernel_rfl) t_spec_l07Rest_L0 smL_nil) rfl (e_spec_l07Rest real x0 x1 x2 x3 x4 x5 hok)
  · cases hc
def Pure.spec_l07Row_L0 (F : FOps) (y0 y1 y2 y3 y4 y5 : Int) : Nat → Int → (List (List Int)) → (Bool × (List (List Int)))
  | 0, _, _ => (false, [])
  | n + 1, y6, y7 => bif (decide (y6 < y0)) then (bif (Pure.spec_l07Rest_ok F (F.bin .quo .f32 (F.ofInt .f32 y6) (F.ofInt .f32 y0)) y5 y1 y2 y3 y4) then (bif (decide ((Nat.succ y7.length) ≤ 1073741824)) then (Pure.spec_l07Row_L0 F y0 y1 y2 y3 y4 y5 n (IntKind.wrap .i64 (y6 + 1)) (y7 ++ [[Pure.spec_l07Rest F (F.bin .quo .f32 (F.ofInt .f32 y6) (F.ofInt .f32 y0)) y5 y1 y2 y3 y4]])) else ((false, []))) else ((false, []))) else ((true, y7))
def R_spec_l07Row_L0 (r : (Bool × (List (List Int)))) : Bool × Ends := ((r).1, (.one Ex.normal [V.at (A.sl 0)] [⟨true, .rows [K.i .i64] (r).2⟩]))
def S_spec_l07Row_L0 (F : FOps) : Sm := ⟨[1, 3, 4, 5, 6, 15, 16, 17], [2, 24, 24, 2, 2, 40, 24, 2], [15], fun vals hp => match vals, hp with
  | [V.at (A.int .i64 y0), V.at (A.fl .f32 y1), V.at (A.fl .f32 y2), V.at (A.int .i64 y3), V.at (A.int .i64 y4), V.at (A.sl 0), V.at (A.fl .f32 y5), V.at (A.int .i64 y6)], [⟨true, .rows [K.i .i64] y7⟩] => some (R_spec_l07Row_L0  (Pure.spec_l07Row_L0 F y0 y1 y2 y3 y4 y5 (y0 - y6 + 1).toNat y6 y7))
  | _, _ => none⟩
theorem l_spec_l07Row_L0 (F : FOps) (y0 y1 y2 y3 y4 y5 : Int) : ∀ (fuel : Nat) (y6 : Int) (y7 : List (List Int)), (Pure.spec_l07Row_L0 F y0 y1 y2 y3 y4 y5 fuel y6 y7).1 = true → loopOf (cxS F tyl [(88, c_spec_l07Kick F), (124, c_spec_l07Rest F)] [] [] 0) 0 49 0 [1, 3, 4, 5, 6, 15, 16, 17] [2, 24, 24, 2, 2, 40, 24, 2] [15] (loopB 0 (codeOf Try.f111)) fuel [V.at (A.int .i64 y0), V.at (A.fl .f32 y1), V.at (A.fl .f32 y2), V.at (A.int .i64 y3), V.at (A.int .i64 y4), V.at (A.sl 0), V.at (A.fl .f32 y5), V.at (A.int .i64 y6)] [⟨true, .rows [K.i .i64] y7⟩] = resOf (R_spec_l07Row_L0  (Pure.spec_l07Row_L0 F y0 y1 y2 y3 y4 y5 fuel y6 y7)) := by
  intro fuel
  induction fuel with
  | zero => intro y6 y7 h; exact absurd h Bool.false_ne_true
  | succ n ih =>
    intro y6 y7
    have h0 : roundOf (cxS F tyl [(88, c_spec_l07Kick F), (124, c_spec_l07Rest F)] [] [] 0) 0 49 0 [1, 3, 4, 5, 6, 15, 16, 17] [2, 24, 24, 2, 2, 40, 24, 2] [15] (loopB 0 (codeOf Try.f111)) [V.at (A.int .i64 y0), V.at (A.fl .f32 y1), V.at (A.fl .f32 y2), V.at (A.int .i64 y3), V.at (A.int .i64 y4), V.at (A.sl 0), V.at (A.fl .f32 y5), V.at (A.int .i64 y6)] [⟨true, .rows [K.i .i64] y7⟩] = (bif decide (y6 < y0) then bif Pure.spec_l07Rest_ok F (F.bin .quo .f32 (F.ofInt .f32 y6) (F.ofInt .f32 y0)) y5 y1 y2 y3 y4 then bif decide ((Nat.succ y7.length) ≤ 1073741824) then some (true, (Ex.normal, ([V.at (A.int .i64 y0), V.at (A.fl .f32 y1), V.at (A.fl .f32 y2), V.at (A.int .i64 y3), V.at (A.int .i64 y4), V.at (A.sl 0), V.at (A.fl .f32 y5), V.at (A.int .i64 (IntKind.wrap .i64 (y6 + 1)))], [⟨true, .rows [K.i .i64] (y7 ++ [[Pure.spec_l07Rest F (F.bin .quo .f32 (F.ofInt .f32 y6) (F.ofInt .f32 y0)) y5 y1 y2 y3 y4]])⟩]))) else none else none else some (false, (Ex.normal, ([V.at (A.sl 0)], [⟨true, .rows [K.i .i64] y7⟩])))) := by kernel_rfl
    unfold loopOf
    rw [h0]
    unfold Pure.spec_l07Row_L0
    cases (decide (y6 < y0)) with
    | true =>
      cases (Pure.spec_l07Rest_ok F (F.bin .quo .f32 (F.ofInt .f32 y6) (F.ofInt .f32 y0)) y5 y1 y2 y3 y4) with
      | true =>
        cases (decide ((Nat.succ y7.length) ≤ 1073741824)) with
        | true =>
          exact ih _ _
        | false =>
          intro h; exact absurd h Bool.false_ne_true
      | false =>
        intro h; exact absurd h Bool.false_ne_true
    | false =>
      intro _; rfl
theorem t_spec_l07Row_L0 : SmTo Try.prog 0 49 (S_spec_l07Row_L0 real) 0 (.loop (loopB 0 (codeOf Try.f111))) := by
  refine smTo_ev (cl := [(88, c_spec_l07Kick real), (124, c_spec_l07Rest real)]) (ef := []) (sm := []) (un := 0) prog_ok (allOK_cons ok_spec_l07Kick (allOK_cons ok_spec_l07Rest allOK_nil)) smL_nil ?_
  intro vals hp q r h hq
  unfold S_spec_l07Row_L0 at h
  dsimp only at h
  split at h
  · rename_i y0 y1 y2 y3 y4 y5 y6 y7
    obtain rfl := Option.some.inj h
    have h1 := hq
    unfold resOf at h1
    rw [chk_some] at h1
    exact ⟨_, (l_spec_l07Row_L0 real y0 y1 y2 y3 y4 y5 _ y6 y7 h1.1).trans hq⟩
  · cases h
def Pure.spec_l07Row (F : FOps) (x0 x1 x2 x3 x4 x5 x6 : Int) : List (List Int) := Prod.snd (Pure.spec_l07Row_L0 F x1 x3 x4 x5 x6 (Pure.spec_l07Kick F (F.bin .sub .f32 (F.bin .quo .f32 (F.ofInt .f32 x0) (F.ofInt .f32 x2)) 1056964608)) (Int.toNat ((x1 - 0) + 1)) 0 [])
def Pure.spec_l07Row_ok (F : FOps) (x0 x1 x2 x3 x4 x5 x6 : Int) : Bool := bif Pure.spec_l07Kick_ok F (F.bin .sub .f32 (F.bin .quo .f32 (F.ofInt .f32 x0) (F.ofInt .f32 x2)) 1056964608) then Prod.fst (Pure.spec_l07Row_L0 F x1 x3 x4 x5 x6 (Pure.spec_l07Kick F (F.bin .sub .f32 (F.bin .quo .f32 (F.ofInt .f32 x0) (F.ofInt .f32 x2)) 1056964608)) (Int.toNat ((x1 - 0) + 1)) 0 []) else false
def c_spec_l07Row (F : FOps) : Con
  | [V.at (A.int .i64 x0), V.at (A.int .i64 x1), V.at (A.int .i64 x2), V.at (A.fl .f32 x3), V.at (A.fl .f32 x4), V.at (A.int .i64 x5), V.at (A.int .i64 x6)], [] => some (Pure.spec_l07Row_ok F x0 x1 x2 x3 x4 x5 x6, ⟨V.at (A.sl 0), none, [⟨true, .rows [K.i .i64] (Pure.spec_l07Row F x0 x1 x2 x3 x4 x5 x6)⟩]⟩)
  | _, _ => none
theorem e_spec_l07Row (F : FOps) (x0 x1 x2 x3 x4 x5 x6 : Int) : Pure.spec_l07Row_ok F x0 x1 x2 x3 x4 x5 x6 = true → evFn (cxS F tyl [(88, c_spec_l07Kick F), (124, c_spec_l07Rest F)] [] [(0, S_spec_l07Row_L0 F)] 0) Try.f111 false [V.at (A.int .i64 x0), V.at (A.int .i64 x1), V.at (A.int .i64 x2), V.at (A.fl .f32 x3), V.at (A.fl .f32 x4), V.at (A.int .i64 x5), V.at (A.int .i64 x6)] [] = some ⟨V.at (A.sl 0), none, [⟨true, .rows [K.i .i64] (Pure.spec_l07Row F x0 x1 x2 x3 x4 x5 x6)⟩]⟩ := by
  have h0 : evFn (cxS F tyl [(88, c_spec_l07Kick F), (124, c_spec_l07Rest F)] [] [(0, S_spec_l07Row_L0 F)] 0) Try.f111 false [V.at (A.int .i64 x0), V.at (A.int .i64 x1), V.at (A.int .i64 x2), V.at (A.fl .f32 x3), V.at (A.fl .f32 x4), V.at (A.int .i64 x5), V.at (A.int .i64 x6)] [] = bif Pure.spec_l07Kick_ok F (F.bin .sub .f32 (F.bin .quo .f32 (F.ofInt .f32 x0) (F.ofInt .f32 x2)) 1056964608) then bif Prod.fst (Pure.spec_l07Row_L0 F x1 x3 x4 x5 x6 (Pure.spec_l07Kick F (F.bin .sub .f32 (F.bin .quo .f32 (F.ofInt .f32 x0) (F.ofInt .f32 x2)) 1056964608)) (Int.toNat ((x1 - 0) + 1)) 0 []) then some ⟨V.at (A.sl 0), none, [⟨true, .rows [K.i .i64] (Prod.snd (Pure.spec_l07Row_L0 F x1 x3 x4 x5 x6 (Pure.spec_l07Kick F (F.bin .sub .f32 (F.bin .quo .f32 (F.ofInt .f32 x0) (F.ofInt .f32 x2)) 1056964608)) (Int.toNat ((x1 - 0) + 1)) 0 []))⟩]⟩ else none else none := by kernel_rfl
  rw [h0]
  unfold Pure.spec_l07Row Pure.spec_l07Row_ok
  cases (Pure.spec_l07Kick_ok F (F.bin .sub .f32 (F.bin .quo .f32 (F.ofInt .f32 x0) (F.ofInt .f32 x2)) 1056964608)) with
  | true =>
    cases (Prod.fst (Pure.spec_l07Row_L0 F x1 x3 x4 x5 x6 (Pure.spec_l07Kick F (F.bin .sub .f32 (F.bin .quo .f32 (F.ofInt .f32 x0) (F.ofInt .f32 x2)) 1056964608)) (Int.toNat ((x1 - 0) + 1)) 0 [])) with
    | true =>
      intro _; rfl
    | false =>
      intro h; exact absurd h Bool.false_ne_true
  | false =>
    intro h; exact absurd h Bool.false_ne_true
theorem ok_spec_l07Row : CallOK Try.prog 111 (c_spec_l07Row real) := by
  refine callOK_of fun args h ret hc => ?_
  unfold c_spec_l07Row at hc
  split at hc
  · rename_i x0 x1 x2 x3 x4 x5 x6
    obtain ⟨hok, rfl⟩ := some_ret hc
    exact holds_ev prog_ok (allOK_cons ok_spec_l07Kick (allOK_cons ok_spec_l07Rest allOK_nil)) Try.func111 rfl rfl (smL_cons (body := .loop (loopB 0 (codeOf Try.f111))) (by kernel_rfl) t_spec_l07Row_L0 smL_nil) rfl (e_spec_l07Row real x0 x1 x2 x3 x4 x5 x6 hok)
  · cases hc
def Pure.spec_BasinsOf_L0 (F : FOps) (y0 y1 y2 y3 y4 y5 : Int) : Nat → Int → (List (List Int)) → (Bool × (List (List Int)))
  | 0, _, _ => (false, [])
  | n + 1, y6, y7 => bif (decide (y6 < y1)) then (bif (Pure.spec_l07Row_ok F y6 y0 y1 y2 y3 y4 y5) then (bif (decide ((y7.length + (List.length (Pure.spec_l07Row F y6 y0 y1 y2 y3 y4 y5))) ≤ 1073741824)) then (Pure.spec_BasinsOf_L0 F y0 y1 y2 y3 y4 y5 n (IntKind.wrap .i64 (y6 + 1)) (y7 ++ (Pure.spec_l07Row F y6 y0 y1 y2 y3 y4 y5))) else ((false, []))) else ((false, []))) else ((true, y7))
def R_spec_BasinsOf_L0 (r : (Bool × (List (List Int)))) : Bool × Ends := ((r).1, (.one Ex.normal [V.at (A.sl 0)] [⟨true, .rows [K.i .i64] (r).2⟩]))
def S_spec_BasinsOf_L0 (F : FOps) : Sm := ⟨[0, 1, 2, 3, 4, 5, 14, 15], [2, 2, 24, 24, 2, 2, 40, 2], [14], fun vals hp => match vals, hp with
  | [V.at (A.int .i64 y0), V.at (A.int .i64 y1), V.at (A.fl .f32 y2), V.at (A.fl .f32 y3), V.at (A.int .i64 y4), V.at (A.int .i64 y5), V.at (A.sl 0), V.at (A.int .i64 y6)], [⟨true, .rows [K.i .i64] y7⟩] => some (R_spec_BasinsOf_L0  (Pure.spec_BasinsOf_L0 F y0 y1 y2 y3 y4 y5 (y1 - y6 + 1).toNat y6 y7))
  | _, _ => none⟩
theorem l_spec_BasinsOf_L0 (F : FOps) (y0 y1 y2 y3 y4 y5 : Int) : ∀ (fuel : Nat) (y6 : Int) (y7 : List (List Int)), (Pure.spec_BasinsOf_L0 F y0 y1 y2 y3 y4 y5 fuel y6 y7).1 = true → loopOf (cxS F tyl [(109, c_spec_l07Grid F), (110, c_spec_l07Can F), (111, c_spec_l07Row F)] [] [] 0) 0 45 0 [0, 1, 2, 3, 4, 5, 14, 15] [2, 2, 24, 24, 2, 2, 40, 2] [14] (loopB 0 (codeOf Try.f75)) fuel [V.at (A.int .i64 y0), V.at (A.int .i64 y1), V.at (A.fl .f32 y2), V.at (A.fl .f32 y3), V.at (A.int .i64 y4), V.at (A.int .i64 y5), V.at (A.sl 0), V.at (A.int .i64 y6)] [⟨true, .rows [K.i .i64] y7⟩] = resOf (R_spec_BasinsOf_L0  (Pure.spec_BasinsOf_L0 F y0 y1 y2 y3 y4 y5 fuel y6 y7)) := by
  intro fuel
  induction fuel with
  | zero => intro y6 y7 h; exact absurd h Bool.false_ne_true
  | succ n ih =>
    intro y6 y7
    have h0 : roundOf (cxS F tyl [(109, c_spec_l07Grid F), (110, c_spec_l07Can F), (111, c_spec_l07Row F)] [] [] 0) 0 45 0 [0, 1, 2, 3, 4, 5, 14, 15] [2, 2, 24, 24, 2, 2, 40, 2] [14] (loopB 0 (codeOf Try.f75)) [V.at (A.int .i64 y0), V.at (A.int .i64 y1), V.at (A.fl .f32 y2), V.at (A.fl .f32 y3), V.at (A.int .i64 y4), V.at (A.int .i64 y5), V.at (A.sl 0), V.at (A.int .i64 y6)] [⟨true, .rows [K.i .i64] y7⟩] = (bif decide (y6 < y1) then bif Pure.spec_l07Row_ok F y6 y0 y1 y2 y3 y4 y5 then bif decide ((y7.length + (List.length (Pure.spec_l07Row F y6 y0 y1 y2 y3 y4 y5))) ≤ 1073741824) then some (true, (Ex.normal, ([V.at (A.int .i64 y0), V.at (A.int .i64 y1), V.at (A.fl .f32 y2), V.at (A.fl .f32 y3), V.at (A.int .i64 y4), V.at (A.int .i64 y5), V.at (A.sl 0), V.at (A.int .i64 (IntKind.wrap .i64 (y6 + 1)))], [⟨true, .rows [K.i .i64] (y7 ++ (Pure.spec_l07Row F y6 y0 y1 y2 y3 y4 y5))⟩]))) else none else none else some (false, (Ex.normal, ([V.at (A.sl 0)], [⟨true, .rows [K.i .i64] y7⟩])))) := by kernel_rfl
    unfold loopOf
    rw [h0]
    unfold Pure.spec_BasinsOf_L0
    cases (decide (y6 < y1)) with
    | true =>
      cases (Pure.spec_l07Row_ok F y6 y0 y1 y2 y3 y4 y5) with
      | true =>
        cases (decide ((y7.length + (List.length (Pure.spec_l07Row F y6 y0 y1 y2 y3 y4 y5))) ≤ 1073741824)) with
        | true =>
          exact ih _ _
        | false =>
          intro h; exact absurd h Bool.false_ne_true
      | false =>
        intro h; exact absurd h Bool.false_ne_true
    | false =>
      intro _; rfl
theorem t_spec_BasinsOf_L0 : SmTo Try.prog 0 45 (S_spec_BasinsOf_L0 real) 0 (.loop (loopB 0 (codeOf Try.f75))) := by
  refine smTo_ev (cl := [(109, c_spec_l07Grid real), (110, c_spec_l07Can real), (111, c_spec_l07Row real)]) (ef := []) (sm := []) (un := 0) prog_ok (allOK_cons ok_spec_l07Grid (allOK_cons ok_spec_l07Can (allOK_cons ok_spec_l07Row allOK_nil))) smL_nil ?_
  intro vals hp q r h hq
  unfold S_spec_BasinsOf_L0 at h
  dsimp only at h
  split at h
  · rename_i y0 y1 y2 y3 y4 y5 y6 y7
    obtain rfl := Option.some.inj h
    have h1 := hq
    unfold resOf at h1
    rw [chk_some] at h1
    exact ⟨_, (l_spec_BasinsOf_L0 real y0 y1 y2 y3 y4 y5 _ y6 y7 h1.1).trans hq⟩
  · cases h
def Pure.spec_BasinsOf (F : FOps) (x0 x1 x2 x3 x4 x5 : Int) : Bool := bif Pure.spec_l07Grid F x0 x1 then Pure.spec_l07Can F x2 x3 x4 x5 else false
def Pure.spec_BasinsOf_1 (F : FOps) (x0 x1 x2 x3 x4 x5 : Int) : List (List Int) := bif Pure.spec_l07Grid F x0 x1 then bif Pure.spec_l07Can F x2 x3 x4 x5 then Prod.snd (Pure.spec_BasinsOf_L0 F x0 x1 x2 x3 x4 x5 (Int.toNat ((x1 - 0) + 1)) 0 []) else [] else []
def Pure.spec_BasinsOf_ok (F : FOps) (x0 x1 x2 x3 x4 x5 : Int) : Bool := bif Pure.spec_l07Grid F x0 x1 then bif Pure.spec_l07Can F x2 x3 x4 x5 then Prod.fst (Pure.spec_BasinsOf_L0 F x0 x1 x2 x3 x4 x5 (Int.toNat ((x1 - 0) + 1)) 0 []) else true else true
def c_spec_BasinsOf (F : FOps) : Con
  | [V.at (A.int .i64 x0), V.at (A.int .i64 x1), V.at (A.fl .f32 x2), V.at (A.fl .f32 x3), V.at (A.int .i64 x4), V.at (A.int .i64 x5)], [] => some (Pure.spec_BasinsOf_ok F x0 x1 x2 x3 x4 x5, ⟨V.tup [(false, [A.sl 0]), (false, [A.bool (Pure.spec_BasinsOf F x0 x1 x2 x3 x4 x5)])], none, [⟨true, .rows [K.i .i64] (Pure.spec_BasinsOf_1 F x0 x1 x2 x3 x4 x5)⟩]⟩)
  | _, _ => none
theorem e_spec_BasinsOf (F : FOps) (x0 x1 x2 x3 x4 x5 : Int) : Pure.spec_BasinsOf_ok F x0 x1 x2 x3 x4 x5 = true → evFn (cxS F tyl [(109, c_spec_l07Grid F), (110, c_spec_l07Can F), (111, c_spec_l07Row F)] [] [(0, S_spec_BasinsOf_L0 F)] 0) Try.f75 false [V.at (A.int .i64 x0), V.at (A.int .i64 x1), V.at (A.fl .f32 x2), V.at (A.fl .f32 x3), V.at (A.int .i64 x4), V.at (A.int .i64 x5)] [] = some ⟨V.tup [(false, [A.sl 0]), (false, [A.bool (Pure.spec_BasinsOf F x0 x1 x2 x3 x4 x5)])], none, [⟨true, .rows [K.i .i64] (Pure.spec_BasinsOf_1 F x0 x1 x2 x3 x4 x5)⟩]⟩ := by
  have h0 : evFn (cxS F tyl [(109, c_spec_l07Grid F), (110, c_spec_l07Can F), (111, c_spec_l07Row F)] [] [(0, S_spec_BasinsOf_L0 F)] 0) Try.f75 false [V.at (A.int .i64 x0), V.at (A.int .i64 x1), V.at (A.fl .f32 x2), V.at (A.fl .f32 x3), V.at (A.int .i64 x4), V.at (A.int .i64 x5)] [] = bif Bool.not (Pure.spec_l07Grid F x0 x1) then some ⟨V.tup [(false, [A.sl 0]), (false, [A.bool false])], none, [⟨true, .rows [K.i .i64] []⟩]⟩ else bif Bool.not (Pure.spec_l07Can F x2 x3 x4 x5) then some ⟨V.tup [(false, [A.sl 0]), (false, [A.bool false])], none, [⟨true, .rows [K.i .i64] []⟩]⟩ else bif Prod.fst (Pure.spec_BasinsOf_L0 F x0 x1 x2 x3 x4 x5 (Int.toNat ((x1 - 0) + 1)) 0 []) then some ⟨V.tup [(false, [A.sl 0]), (false, [A.bool true])], none, [⟨true, .rows [K.i .i64] (Prod.snd (Pure.spec_BasinsOf_L0 F x0 x1 x2 x3 x4 x5 (Int.toNat ((x1 - 0) + 1)) 0 []))⟩]⟩ else none := by kernel_rfl
  rw [h0]
  unfold Pure.spec_BasinsOf Pure.spec_BasinsOf_1 Pure.spec_BasinsOf_ok
  cases (Pure.spec_l07Grid F x0 x1) with
  | true =>
    cases (Pure.spec_l07Can F x2 x3 x4 x5) with
    | true =>
      cases (Prod.fst (Pure.spec_BasinsOf_L0 F x0 x1 x2 x3 x4 x5 (Int.toNat ((x1 - 0) + 1)) 0 [])) with
      | true =>
        intro _; rfl
      | false =>
        intro h; exact absurd h Bool.false_ne_true
    | false =>
      intro _; rfl
  | false =>
    intro _; rfl
theorem ok_spec_BasinsOf : CallOK Try.prog 75 (c_spec_BasinsOf real) := by
  refine callOK_of fun args h ret hc => ?_
  unfold c_spec_BasinsOf at hc
  split at hc
  · rename_i x0 x1 x2 x3 x4 x5
    obtain ⟨hok, rfl⟩ := some_ret hc
    exact holds_ev prog_ok (allOK_cons ok_spec_l07Grid (allOK_cons ok_spec_l07Can (allOK_cons ok_spec_l07Row allOK_nil))) Try.func75 rfl rfl (smL_cons (body := .loop (loopB 0 (codeOf Try.f75))) (by kernel_rfl) t_spec_BasinsOf_L0 smL_nil) rfl (e_spec_BasinsOf real x0 x1 x2 x3 x4 x5 hok)
  · cases hc
def Pure.spec_BasinsShared (F : FOps) (x0 x1 x2 x3 x4 x5 x6 : Int) : Bool := bif Pure.spec_l00In F x6 1 8 then Pure.spec_BasinsOf F x0 x1 x2 x3 x4 x5 else false
def Pure.spec_BasinsShared_1 (F : FOps) (x0 x1 x2 x3 x4 x5 x6 : Int) : List (List Int) := bif Pure.spec_l00In F x6 1 8 then Pure.spec_BasinsOf_1 F x0 x1 x2 x3 x4 x5 else []
def Pure.spec_BasinsShared_ok (F : FOps) (x0 x1 x2 x3 x4 x5 x6 : Int) : Bool := bif Pure.spec_l00In F x6 1 8 then Pure.spec_BasinsOf_ok F x0 x1 x2 x3 x4 x5 else true
def c_spec_BasinsShared (F : FOps) : Con
  | [V.at (A.int .i64 x0), V.at (A.int .i64 x1), V.at (A.fl .f32 x2), V.at (A.fl .f32 x3), V.at (A.int .i64 x4), V.at (A.int .i64 x5), V.at (A.int .i64 x6)], [] => some (Pure.spec_BasinsShared_ok F x0 x1 x2 x3 x4 x5 x6, ⟨V.tup [(false, [A.sl 0]), (false, [A.bool (Pure.spec_BasinsShared F x0 x1 x2 x3 x4 x5 x6)])], none, [⟨true, .rows [K.i .i64] (Pure.spec_BasinsShared_1 F x0 x1 x2 x3 x4 x5 x6)⟩]⟩)
  | _, _ => none
theorem e_spec_BasinsShared (F : FOps) (x0 x1 x2 x3 x4 x5 x6 : Int) : Pure.spec_BasinsShared_ok F x0 x1 x2 x3 x4 x5 x6 = true → evFn (cxS F tyl [(74, c_spec_l00In F), (75, c_spec_BasinsOf F)] [] [] 0) Try.f36 false [V.at (A.int .i64 x0), V.at (A.int .i64 x1), V.at (A.fl .f32 x2), V.at (A.fl .f32 x3), V.at (A.int .i64 x4), V.at (A.int .i64 x5), V.at (A.int .i64 x6)] [] = some ⟨V.tup [(false, [A.sl 0]), (false, [A.bool (Pure.spec_BasinsShared F x0 x1 x2 x3 x4 x5 x6)])], none, [⟨true, .rows [K.i .i64] (Pure.spec_BasinsShared_1 F x0 x1 x2 x3 x4 x5 x6)⟩]⟩ := by
  have h0 : evFn (cxS F tyl [(74, c_spec_l00In F), (75, c_spec_BasinsOf F)] [] [] 0) Try.f36 false [V.at (A.int .i64 x0), V.at (A.int .i64 x1), V.at (A.fl .f32 x2), V.at (A.fl .f32 x3), V.at (A.int .i64 x4), V.at (A.int .i64 x5), V.at (A.int .i64 x6)] [] = bif Bool.not (Pure.spec_l00In F x6 1 8) then some ⟨V.tup [(false, [A.sl 0]), (false, [A.bool false])], none, [⟨true, .rows [K.i .i64] []⟩]⟩ else bif Pure.spec_BasinsOf_ok F x0 x1 x2 x3 x4 x5 then some ⟨V.tup [(false, [A.sl 0]), (false, [A.bool (Pure.spec_BasinsOf F x0 x1 x2 x3 x4 x5)])], none, [⟨true, .rows [K.i .i64] (Pure.spec_BasinsOf_1 F x0 x1 x2 x3 x4 x5)⟩]⟩ else none := by kernel_rfl
  rw [h0]
  unfold Pure.spec_BasinsShared Pure.spec_BasinsShared_1 Pure.spec_BasinsShared_ok
  cases (Pure.spec_l00In F x6 1 8) with
  | true =>
    cases (Pure.spec_BasinsOf_ok F x0 x1 x2 x3 x4 x5) with
    | true =>
      intro _; rfl
    | false =>
      intro h; exact absurd h Bool.false_ne_true
  | false =>
    intro _; rfl
theorem ok_spec_BasinsShared : CallOK Try.prog 36 (c_spec_BasinsShared real) := by
  refine callOK_of fun args h ret hc => ?_
  unfold c_spec_BasinsShared at hc
  split at hc
  · rename_i x0 x1 x2 x3 x4 x5 x6
    obtain ⟨hok, rfl⟩ := some_ret hc
    exact holds_ev prog_ok (allOK_cons ok_spec_l00In (allOK_cons ok_spec_BasinsOf allOK_nil)) Try.func36 rfl rfl smL_nil rfl (e_spec_BasinsShared real x0 x1 x2 x3 x4 x5 x6 hok)
  · cases hc
def Pure.impl_in (F : FOps) (x0 x1 x2 : Int) : Bool := bif decide (x0 ≥ x1) then decide (x0 ≤ x2) else false
def c_impl_in (F : FOps) : Con
  | [V.at (A.int .i64 x0), V.at (A.int .i64 x1), V.at (A.int .i64 x2)], [] => some (true, ⟨V.at (A.bool (Pure.impl_in F x0 x1 x2)), none, []⟩)
  | _, _ => none
theorem e_impl_in (F : FOps) (x0 x1 x2 : Int) : evFn (cxS F tyl [] [] [] 0) Try.f51 false [V.at (A.int .i64 x0), V.at (A.int .i64 x1), V.at (A.int .i64 x2)] [] = some ⟨V.at (A.bool (Pure.impl_in F x0 x1 x2)), none, []⟩ := by
  have h0 : evFn (cxS F tyl [] [] [] 0) Try.f51 false [V.at (A.int .i64 x0), V.at (A.int .i64 x1), V.at (A.int .i64 x2)] [] = bif decide (x0 ≥ x1) then some ⟨V.at (A.bool (decide (x0 ≤ x2))), none, []⟩ else some ⟨V.at (A.bool false), none, []⟩ := by kernel_rfl
  rw [h0]
  unfold Pure.impl_in
  cases (decide (x0 ≥ x1)) with
  | true =>
    rfl
  | false =>
    rfl
theorem ok_impl_in : CallOK Try.prog 51 (c_impl_in real) := by
  refine callOK_of fun args h ret hc => ?_
  unfold c_impl_in at hc
  split at hc
  · rename_i x0 x1 x2
    obtain ⟨_, rfl⟩ := some_ret hc
    exact holds_ev prog_ok allOK_nil Try.func51 rfl rfl smL_nil rfl (e_impl_in real x0 x1 x2)
  · cases hc
def c_impl_gridOk (F : FOps) : Con
  | [V.at (A.int .i64 x0)], [] => some (true, ⟨V.at (A.bool (Pure.impl_in F x0 1 32)), none, []⟩)
  | _, _ => none
theorem e_impl_gridOk (F : FOps) (x0 : Int) : evFn (cxS F tyl [(51, c_impl_in F)] [] [] 0) Try.f60 false [V.at (A.int .i64 x0)] [] = some ⟨V.at (A.bool (Pure.impl_in F x0 1 32)), none, []⟩ := by
  kernel_rfl
theorem ok_impl_gridOk : CallOK Try.prog 60 (c_impl_gridOk real) := by
  refine callOK_of fun args h ret hc => ?_
  unfold c_impl_gridOk at hc
  split at hc
  · rename_i x0
    obtain ⟨_, rfl⟩ := some_ret hc
    exact holds_ev prog_ok (allOK_cons ok_impl_in allOK_nil) Try.func60 rfl rfl smL_nil rfl (e_impl_gridOk real x0)
  · cases hc
def Pure.impl_shareOk (F : FOps) (x0 : Int) : Bool := bif F.cmp .geq .f32 x0 0 then F.cmp .leq .f32 x0 1065353216 else false
def c_impl_shareOk (F : FOps) : Con
  | [V.at (A.fl .f32 x0)], [] => some (true, ⟨V.at (A.bool (Pure.impl_shareOk F x0)), none, []⟩)
  | _, _ => none
theorem e_impl_shareOk (F : FOps) (x0 : Int) : evFn (cxS F tyl [] [] [] 0) Try.f103 false [V.at (A.fl .f32 x0)] [] = some ⟨V.at (A.bool (Pure.impl_shareOk F x0)), none, []⟩ := by
  have h0 : evFn (cxS F tyl [] [] [] 0) Try.f103 false [V.at (A.fl .f32 x0)] [] = bif F.cmp .geq .f32 x0 0 then some ⟨V.at (A.bool (F.cmp .leq .f32 x0 1065353216)), none, []⟩ else some ⟨V.at (A.bool false), none, []⟩ := by kernel_rfl
  rw [h0]
  unfold Pure.impl_shareOk
  cases (F.cmp .geq .f32 x0 0) with
  | true =>
    rfl
  | false =>
    rfl
theorem ok_impl_shareOk : CallOK Try.prog 103 (c_impl_shareOk real) := by
  refine callOK_of fun args h ret hc => ?_
  unfold c_impl_shareOk at hc
  split at hc
  · rename_i x0
    obtain ⟨_, rfl⟩ := some_ret hc
    exact holds_ev prog_ok allOK_nil Try.func103 rfl rfl smL_nil rfl (e_impl_shareOk real x0)
  · cases hc
def Pure.impl_restOk (F : FOps) (x0 x1 x2 x3 : Int) : Bool := bif Pure.impl_sizeOk F x0 then bif Pure.impl_shareOk F x1 then bif Pure.impl_in F x2 0 128 then Pure.impl_in F x3 1 16 else false else false else false
def c_impl_restOk (F : FOps) : Con
  | [V.at (A.fl .f32 x0), V.at (A.fl .f32 x1), V.at (A.int .i64 x2), V.at (A.int .i64 x3)], [] => some (true, ⟨V.at (A.bool (Pure.impl_restOk F x0 x1 x2 x3)), none, []⟩)
  | _, _ => none
theorem e_impl_restOk (F : FOps) (x0 x1 x2 x3 : Int) : evFn (cxS F tyl [(102, c_impl_sizeOk F), (103, c_impl_shareOk F), (51, c_impl_in F)] [] [] 0) Try.f61 false [V.at (A.fl .f32 x0), V.at (A.fl .f32 x1), V.at (A.int .i64 x2), V.at (A.int .i64 x3)] [] = some ⟨V.at (A.bool (Pure.impl_restOk F x0 x1 x2 x3)), none, []⟩ := by
  have h0 : evFn (cxS F tyl [(102, c_impl_sizeOk F), (103, c_impl_shareOk F), (51, c_impl_in F)] [] [] 0) Try.f61 false [V.at (A.fl .f32 x0), V.at (A.fl .f32 x1), V.at (A.int .i64 x2), V.at (A.int .i64 x3)] [] = bif Pure.impl_sizeOk F x0 then bif Pure.impl_shareOk F x1 then bif Pure.impl_in F x2 0 128 then some ⟨V.at (A.bool (Pure.impl_in F x3 1 16)), none, []⟩ else some ⟨V.at (A.bool false), none, []⟩ else some ⟨V.at (A.bool false), none, []⟩ else some ⟨V.at (A.bool false), none, []⟩ := by kernel_rfl
  rw [h0]
  unfold Pure.impl_restOk
  cases (Pure.impl_sizeOk F x0) with
  | true =>
    cases (Pure.impl_shareOk F x1) with
    | true =>
      cases (Pure.impl_in F x2 0 128) with
      | true =>
        rfl
      | false =>
        rfl
    | false =>
      rfl
  | false =>
    rfl
theorem ok_impl_restOk : CallOK Try.prog 61 (c_impl_restOk real) := by
  refine callOK_of fun args h ret hc => ?_
  unfold c_impl_restOk at hc
  split at hc
  · rename_i x0 x1 x2 x3
    obtain ⟨_, rfl⟩ := some_ret hc
    exact holds_ev prog_ok (allOK_cons ok_impl_sizeOk (allOK_cons ok_impl_shareOk (allOK_cons ok_impl_in allOK_nil))) Try.func61 rfl rfl smL_nil rfl (e_impl_restOk real x0 x1 x2 x3)
  · cases hc
def Pure.impl_WrapKick (F : FOps) (x0 : Int) : Int := bif Pure.impl_IsFinite F x0 then bif F.cmp .geq .f32 (F.conv .f64 .f32 (F.bin .sub .f64 (F.conv .f32 .f64 x0) (F.integral Ieee.Toward.down (F.bin .add .f64 (F.conv .f32 .f64 x0) 4602678819172646912)))) 1056964608 then 3204448256 else bif F.cmp .eql .f32 (F.conv .f64 .f32 (F.bin .sub .f64 (F.conv .f32 .f64 x0) (F.integral Ieee.Toward.down (F.bin .add .f64 (F.conv .f32 .f64 x0) 4602678819172646912)))) 0 then 0 else F.conv .f64 .f32 (F.bin .sub .f64 (F.conv .f32 .f64 x0) (F.integral Ieee.Toward.down (F.bin .add .f64 (F.conv .f32 .f64 x0) 4602678819172646912))) else 0
def Pure.impl_WrapKick_ok (F : FOps) (x0 : Int) : Bool := bif Pure.impl_IsFinite F x0 then bif F.convOk .f32 .f64 x0 then F.convOk .f64 .f32 (F.bin .sub .f64 (F.conv .f32 .f64 x0) (F.integral Ieee.Toward.down (F.bin .add .f64 (F.conv .f32 .f64 x0) 4602678819172646912))) else false else true
def c_impl_WrapKick (F : FOps) : Con
  | [V.at (A.fl .f32 x0)], [] => some (Pure.impl_WrapKick_ok F x0, ⟨V.tup [(false, [A.fl .f32 (Pure.impl_WrapKick F x0)]), (false, [A.bool (Pure.impl_IsFinite F x0)])], none, []⟩)
  | _, _ => none
theorem e_impl_WrapKick (F : FOps) (x0 : Int) : Pure.impl_WrapKick_ok F x0 = true → evFn (cxS F tyl [(47, c_impl_IsFinite F), (48, c_math_Floor F)] [] [] 0) Try.f16 false [V.at (A.fl .f32 x0)] [] = some ⟨V.tup [(false, [A.fl .f32 (Pure.impl_WrapKick F x0)]), (false, [A.bool (Pure.impl_IsFinite F x0)])], none, []⟩ := by
  have h0 : evFn (cxS F tyl [(47, c_impl_IsFinite F), (48, c_math_Floor F)] [] [] 0) Try.f16 false [V.at (A.fl .f32 x0)] [] = bif Bool.not (Pure.impl_IsFinite F x0) then some ⟨V.tup [(false, [A.fl .f32 0]), (false, [A.bool false])], none, []⟩ else bif F.convOk .f32 .f64 x0 then bif F.convOk .f32 .f64 x0 then bif F.convOk .f64 .f32 (F.bin .sub .f64 (F.conv .f32 .f64 x0) (F.integral Ieee.Toward.down (F.bin .add .f64 (F.conv .f32 .f64 x0) 4602678819172646912))) then bif F.cmp .geq .f32 (F.conv .f64 .f32 (F.bin .sub .f64 (F.conv .f32 .f64 x0) (F.integral Ieee.Toward.down (F.bin .add .f64 (F.conv .f32 .f64 x0) 4602678819172646912)))) 1056964608 then some ⟨V.tup [(false, [A.fl .f32 3204448256]), (false, [A.bool true])], none, []⟩ else bif F.cmp .eql .f32 (F.conv .f64 .f32 (F.bin .sub .f64 (F.conv .f32 .f64 x0) (F.integral Ieee.Toward.down (F.bin .add .f64 (F.conv .f32 .f64 x0) 4602678819172646912)))) 0 then some ⟨V.tup [(false, [A.fl .f32 0]), (false, [A.bool true])], none, []⟩ else some ⟨V.tup [(false, [A.fl .f32 (F.conv .f64 .f32 (F.bin .sub .f64 (F.conv .f32 .f64 x0) (F.integral Ieee.Toward.down (F.bin .add .f64 (F.conv .f32 .f64 x0) 4602678819172646912))))]), (false, [A.bool true])], none, []⟩ else none else none else none := by kernel_rfl
  rw [h0]
  unfold Pure.impl_WrapKick Pure.impl_WrapKick_ok
  cases (Pure.impl_IsFinite F x0) with
  | true =>
    cases (F.convOk .f32 .f64 x0) with
    | true =>
      cases (F.convOk .f64 .f32 (F.bin .sub .f64 (F.conv .f32 .f64 x0) (F.integral Ieee.Toward.down (F.bin .add .f64 (F.conv .f32 .f64 x0) 4602678819172646912)))) with
      | true =>
        cases (F.cmp .geq .f32 (F.conv .f64 .f32 (F.bin .sub .f64 (F.conv .f32 .f64 x0) (F.integral Ieee.Toward.down (F.bin .add .f64 (F.conv .f32 .f64 x0) 4602678819172646912)))) 1056964608) with
        | true =>
          intro _; rfl
        | false =>
          cases (F.cmp .eql .f32 (F.conv .f64 .f32 (F.bin .sub .f64 (F.conv .f32 .f64 x0) (F.integral Ieee.Toward.down (F.bin .add .f64 (F.conv .f32 .f64 x0) 4602678819172646912)))) 0) with
          | true =>
            intro _; rfl
          | false =>
            intro _; rfl
      | false =>
        intro h; exact absurd h Bool.false_ne_true
    | false =>
      intro h; exact absurd h Bool.false_ne_true
  | false =>
    intro _; rfl
theorem ok_impl_WrapKick : CallOK Try.prog 16 (c_impl_WrapKick real) := by
  refine callOK_of fun args h ret hc => ?_
  unfold c_impl_WrapKick at hc
  split at hc
  · rename_i x0
    obtain ⟨hok, rfl⟩ := some_ret hc
    exact holds_ev prog_ok (allOK_cons ok_impl_IsFinite (allOK_cons ok_math_Floor allOK_nil)) Try.func16 rfl rfl smL_nil rfl (e_impl_WrapKick real x0 hok)
  · cases hc
def Pure.impl_kicked_ok (F : FOps) (x0 : Int) : Bool := Pure.impl_WrapKick_ok F x0
def c_impl_kicked (F : FOps) : Con
  | [V.at (A.fl .f32 x0)], [] => some (Pure.impl_kicked_ok F x0, ⟨V.at (A.fl .f32 (Pure.impl_WrapKick F x0)), none, []⟩)
  | _, _ => none
theorem e_impl_kicked (F : FOps) (x0 : Int) : Pure.impl_kicked_ok F x0 = true → evFn (cxS F tyl [(16, c_impl_WrapKick F)] [] [] 0) Try.f105 false [V.at (A.fl .f32 x0)] [] = some ⟨V.at (A.fl .f32 (Pure.impl_WrapKick F x0)), none, []⟩ := by
  have h0 : evFn (cxS F tyl [(16, c_impl_WrapKick F)] [] [] 0) Try.f105 false [V.at (A.fl .f32 x0)] [] = bif Pure.impl_WrapKick_ok F x0 then some ⟨V.at (A.fl .f32 (Pure.impl_WrapKick F x0)), none, []⟩ else none := by kernel_rfl
  rw [h0]
  unfold Pure.impl_kicked_ok
  cases (Pure.impl_WrapKick_ok F x0) with
  | true =>
    intro _; rfl
  | false =>
    intro h; exact absurd h Bool.false_ne_true
theorem ok_impl_kicked : CallOK Try.prog 105 (c_impl_kicked real) := by
  refine callOK_of fun args h ret hc => ?_
  unfold c_impl_kicked at hc
  split at hc
  · rename_i x0
    obtain ⟨hok, rfl⟩ := some_ret hc
    exact holds_ev prog_ok (allOK_cons ok_impl_WrapKick allOK_nil) Try.func105 rfl rfl smL_nil rfl (e_impl_kicked real x0 hok)
  · cases hc
def Pure.impl_WrapTurn (F : FOps) (x0 : Int) : Int := bif Pure.impl_IsFinite F x0 then bif F.cmp .eql .f32 (F.conv .f64 .f32 (F.bin .sub .f64 (F.conv .f32 .f64 x0) (F.integral Ieee.Toward.down (F.conv .f32 .f64 x0)))) 1065353216 then 0 else bif F.cmp .eql .f32 (F.conv .f64 .f32 (F.bin .sub .f64 (F.conv .f32 .f64 x0) (F.integral Ieee.Toward.down (F.conv .f32 .f64 x0)))) 0 then 0 else F.conv .f64 .f32 (F.bin .sub .f64 (F.conv .f32 .f64 x0) (F.integral Ieee.Toward.down (F.conv .f32 .f64 x0))) else 0
def Pure.impl_WrapTurn_ok (F : FOps) (x0 : Int) : Bool := bif Pure.impl_IsFinite F x0 then bif F.convOk .f32 .f64 x0 then F.convOk .f64 .f32 (F.bin .sub .f64 (F.conv .f32 .f64 x0) (F.integral Ieee.Toward.down (F.conv .f32 .f64 x0))) else false else true
def c_impl_WrapTurn (F : FOps) : Con
  | [V.at (A.fl .f32 x0)], [] => some (Pure.impl_WrapTurn_ok F x0, ⟨V.tup [(false, [A.fl .f32 (Pure.impl_WrapTurn F x0)]), (false, [A.bool (Pure.impl_IsFinite F x0)])], none, []⟩)
  | _, _ => none
theorem e_impl_WrapTurn (F : FOps) (x0 : Int) : Pure.impl_WrapTurn_ok F x0 = true → evFn (cxS F tyl [(47, c_impl_IsFinite F), (48, c_math_Floor F)] [] [] 0) Try.f14 false [V.at (A.fl .f32 x0)] [] = some ⟨V.tup [(false, [A.fl .f32 (Pure.impl_WrapTurn F x0)]), (false, [A.bool (Pure.impl_IsFinite F x0)])], none, []⟩ := by
  have h0 : evFn (cxS F tyl [(47, c_impl_IsFinite F), (48, c_math_Floor F)] [] [] 0) Try.f14 false [V.at (A.fl .f32 x0)] [] = bif Bool.not (Pure.impl_IsFinite F x0) then some ⟨V.tup [(false, [A.fl .f32 0]), (false, [A.bool false])], none, []⟩ else bif F.convOk .f32 .f64 x0 then bif F.convOk .f32 .f64 x0 then bif F.convOk .f64 .f32 (F.bin .sub .f64 (F.conv .f32 .f64 x0) (F.integral Ieee.Toward.down (F.conv .f32 .f64 x0))) then bif F.cmp .eql .f32 (F.conv .f64 .f32 (F.bin .sub .f64 (F.conv .f32 .f64 x0) (F.integral Ieee.Toward.down (F.conv .f32 .f64 x0)))) 1065353216 then some ⟨V.tup [(false, [A.fl .f32 0]), (false, [A.bool true])], none, []⟩ else bif F.cmp .eql .f32 (F.conv .f64 .f32 (F.bin .sub .f64 (F.conv .f32 .f64 x0) (F.integral Ieee.Toward.down (F.conv .f32 .f64 x0)))) 0 then some ⟨V.tup [(false, [A.fl .f32 0]), (false, [A.bool true])], none, []⟩ else some ⟨V.tup [(false, [A.fl .f32 (F.conv .f64 .f32 (F.bin .sub .f64 (F.conv .f32 .f64 x0) (F.integral Ieee.Toward.down (F.conv .f32 .f64 x0))))]), (false, [A.bool true])], none, []⟩ else none else none else none := by kernel_rfl
  rw [h0]
  unfold Pure.impl_WrapTurn Pure.impl_WrapTurn_ok
  cases (Pure.impl_IsFinite F x0) with
  | true =>
    cases (F.convOk .f32 .f64 x0) with
    | true =>
      cases (F.convOk .f64 .f32 (F.bin .sub .f64 (F.conv .f32 .f64 x0) (F.integral Ieee.Toward.down (F.conv .f32 .f64 x0)))) with
      | true =>
        cases (F.cmp .eql .f32 (F.conv .f64 .f32 (F.bin .sub .f64 (F.conv .f32 .f64 x0) (F.integral Ieee.Toward.down (F.conv .f32 .f64 x0)))) 1065353216) with
        | true =>
          intro _; rfl
        | false =>
          cases (F.cmp .eql .f32 (F.conv .f64 .f32 (F.bin .sub .f64 (F.conv .f32 .f64 x0) (F.integral Ieee.Toward.down (F.conv .f32 .f64 x0)))) 0) with
          | true =>
            intro _; rfl
          | false =>
            intro _; rfl
      | false =>
        intro h; exact absurd h Bool.false_ne_true
    | false =>
      intro h; exact absurd h Bool.false_ne_true
  | false =>
    intro _; rfl
theorem ok_impl_WrapTurn : CallOK Try.prog 14 (c_impl_WrapTurn real) := by
  refine callOK_of fun args h ret hc => ?_
  unfold c_impl_WrapTurn at hc
  split at hc
  · rename_i x0
    obtain ⟨hok, rfl⟩ := some_ret hc
    exact holds_ev prog_ok (allOK_cons ok_impl_IsFinite (allOK_cons ok_math_Floor allOK_nil)) Try.func14 rfl rfl smL_nil rfl (e_impl_WrapTurn real x0 hok)
  · cases hc
def Pure.impl_wrapped_ok (F : FOps) (x0 : Int) : Bool := Pure.impl_WrapTurn_ok F x0
def c_impl_wrapped (F : FOps) : Con
  | [V.at (A.fl .f32 x0)], [] => some (Pure.impl_wrapped_ok F x0, ⟨V.at (A.fl .f32 (Pure.impl_WrapTurn F x0)), none, []⟩)
  | _, _ => none
theorem e_impl_wrapped (F : FOps) (x0 : Int) : Pure.impl_wrapped_ok F x0 = true → evFn (cxS F tyl [(14, c_impl_WrapTurn F)] [] [] 0) Try.f94 false [V.at (A.fl .f32 x0)] [] = some ⟨V.at (A.fl .f32 (Pure.impl_WrapTurn F x0)), none, []⟩ := by
  have h0 : evFn (cxS F tyl [(14, c_impl_WrapTurn F)] [] [] 0) Try.f94 false [V.at (A.fl .f32 x0)] [] = bif Pure.impl_WrapTurn_ok F x0 then some ⟨V.at (A.fl .f32 (Pure.impl_WrapTurn F x0)), none, []⟩ else none := by kernel_rfl
  rw [h0]
  unfold Pure.impl_wrapped_ok
  cases (Pure.impl_WrapTurn_ok F x0) with
  | true =>
    intro _; rfl
  | false =>
    intro h; exact absurd h Bool.false_ne_true
theorem ok_impl_wrapped : CallOK Try.prog 94 (c_impl_wrapped real) := by
  refine callOK_of fun args h ret hc => ?_
  unfold c_impl_wrapped at hc
  split at hc
  · rename_i x0
    obtain ⟨hok, rfl⟩ := some_ret hc
    exact holds_ev prog_ok (allOK_cons ok_impl_WrapTurn allOK_nil) Try.func94 rfl rfl smL_nil rfl (e_impl_wrapped real x0 hok)
  · cases hc
def Pure.impl_State_damped (F : FOps) (x0 x1 x2 x3 : Int) : Int := Pure.impl_WrapTurn F (F.bin .add .f32 x0 (Pure.impl_WrapKick F (F.bin .add .f32 (F.bin .mul .f32 x3 x1) (F.bin .mul .f32 x2 (Pure.impl_SineTurns F x0)))))
def Pure.impl_State_damped_1 (F : FOps) (x0 x1 x2 x3 : Int) : Int := Pure.impl_WrapKick F (F.bin .add .f32 (F.bin .mul .f32 x3 x1) (F.bin .mul .f32 x2 (Pure.impl_SineTurns F x0)))
def Pure.impl_State_damped_ok (F : FOps) (x0 x1 x2 x3 : Int) : Bool := bif Pure.impl_SineTurns_ok F x0 then bif Pure.impl_kicked_ok F (F.bin .add .f32 (F.bin .mul .f32 x3 x1) (F.bin .mul .f32 x2 (Pure.impl_SineTurns F x0))) then Pure.impl_wrapped_ok F (F.bin .add .f32 x0 (Pure.impl_WrapKick F (F.bin .add .f32 (F.bin .mul .f32 x3 x1) (F.bin .mul .f32 x2 (Pure.impl_SineTurns F x0))))) else false else false
def c_impl_State_damped (F : FOps) : Con
  | [V.agg [A.fl .f32 x0, A.fl .f32 x1], V.at (A.fl .f32 x2), V.at (A.fl .f32 x3)], [] => some (Pure.impl_State_damped_ok F x0 x1 x2 x3, ⟨V.agg [A.fl .f32 (Pure.impl_State_damped F x0 x1 x2 x3), A.fl .f32 (Pure.impl_State_damped_1 F x0 x1 x2 x3)], none, []⟩)
  | _, _ => none
theorem e_impl_State_damped (F : FOps) (x0 x1 x2 x3 : Int) : Pure.impl_State_damped_ok F x0 x1 x2 x3 = true → evFn (cxS F tyl [(115, c_impl_SineTurns F), (105, c_impl_kicked F), (94, c_impl_wrapped F)] [] [] 0) Try.f106 false [V.agg [A.fl .f32 x0, A.fl .f32 x1], V.at (A.fl .f32 x2), V.at (A.fl .f32 x3)] [] = some ⟨V.agg [A.fl .f32 (Pure.impl_State_damped F x0 x1 x2 x3), A.fl .f32 (Pure.impl_State_damped_1 F x0 x1 x2 x3)], none, []⟩ := by
  have h0 : evFn (cxS F tyl [(115, c_impl_SineTurns F), (105, c_impl_kicked F), (94, c_impl_wrapped F)] [] [] 0) Try.f106 false [V.agg [A.fl .f32 x0, A.fl .f32 x1], V.at (A.fl .f32 x2), V.at (A.fl .f32 x3)] [] = bif Pure.impl_SineTurns_ok F x0 then bif Pure.impl_kicked_ok F (F.bin .add .f32 (F.bin .mul .f32 x3 x1) (F.bin .mul .f32 x2 (Pure.impl_SineTurns F x0))) then bif Pure.impl_wrapped_ok F (F.bin .add .f32 x0 (Pure.impl_WrapKick F (F.bin .add .f32 (F.bin .mul .f32 x3 x1) (F.bin .mul .f32 x2 (Pure.impl_SineTurns F x0))))) then some ⟨V.agg [A.fl .f32 (Pure.impl_WrapTurn F (F.bin .add .f32 x0 (Pure.impl_WrapKick F (F.bin .add .f32 (F.bin .mul .f32 x3 x1) (F.bin .mul .f32 x2 (Pure.impl_SineTurns F x0)))))), A.fl .f32 (Pure.impl_WrapKick F (F.bin .add .f32 (F.bin .mul .f32 x3 x1) (F.bin .mul .f32 x2 (Pure.impl_SineTurns F x0))))], none, []⟩ else none else none else none := by kernel_rfl
  rw [h0]
  unfold Pure.impl_State_damped Pure.impl_State_damped_1 Pure.impl_State_damped_ok
  cases (Pure.impl_SineTurns_ok F x0) with
  | true =>
    cases (Pure.impl_kicked_ok F (F.bin .add .f32 (F.bin .mul .f32 x3 x1) (F.bin .mul .f32 x2 (Pure.impl_SineTurns F x0)))) with
    | true =>
      cases (Pure.impl_wrapped_ok F (F.bin .add .f32 x0 (Pure.impl_WrapKick F (F.bin .add .f32 (F.bin .mul .f32 x3 x1) (F.bin .mul .f32 x2 (Pure.impl_SineTurns F x0)))))) with
      | true =>
        intro _; rfl
      | false =>
        intro h; exact absurd h Bool.false_ne_true
    | false =>
      intro h; exact absurd h Bool.false_ne_true
  | false =>
    intro h; exact absurd h Bool.false_ne_true
theorem ok_impl_State_damped : CallOK Try.prog 106 (c_impl_State_damped real) := by
  refine callOK_of fun args h ret hc => ?_
  unfold c_impl_State_damped at hc
  split at hc
  · rename_i x0 x1 x2 x3
    obtain ⟨hok, rfl⟩ := some_ret hc
    exact holds_ev prog_ok (allOK_cons ok_impl_SineTurns (allOK_cons ok_impl_kicked (allOK_cons ok_impl_wrapped allOK_nil))) Try.func106 rfl rfl smL_nil rfl (e_impl_State_damped real x0 x1 x2 x3 hok)
  · cases hc
def Pure.impl_box (F : FOps) (x0 x1 : Int) : Int := bif decide ((IntKind.wrap .i64 (x0 - 1)) < (F.toInt .f64 IntKind.i64 (F.integral Ieee.Toward.down (F.conv .f32 .f64 (F.bin .mul .f32 (F.ofInt .f32 x0) x1))))) then IntKind.wrap .i64 (x0 - 1) else F.toInt .f64 IntKind.i64 (F.integral Ieee.Toward.down (F.conv .f32 .f64 (F.bin .mul .f32 (F.ofInt .f32 x0) x1)))
def Pure.impl_box_ok (F : FOps) (x0 x1 : Int) : Bool := bif F.convOk .f32 .f64 (F.bin .mul .f32 (F.ofInt .f32 x0) x1) then F.toIntOk .f64 IntKind.i64 (F.integral Ieee.Toward.down (F.conv .f32 .f64 (F.bin .mul .f32 (F.ofInt .f32 x0) x1))) else false
def c_impl_box (F : FOps) : Con
  | [V.at (A.int .i64 x0), V.at (A.fl .f32 x1)], [] => some (Pure.impl_box_ok F x0 x1, ⟨V.at (A.int .i64 (Pure.impl_box F x0 x1)), none, []⟩)
  | _, _ => none
theorem e_impl_box (F : FOps) (x0 x1 : Int) : Pure.impl_box_ok F x0 x1 = true → evFn (cxS F tyl [(48, c_math_Floor F)] [] [] 0) Try.f107 false [V.at (A.int .i64 x0), V.at (A.fl .f32 x1)] [] = some ⟨V.at (A.int .i64 (Pure.impl_box F x0 x1)), none, []⟩ := by
  have h0 : evFn (cxS F tyl [(48, c_math_Floor F)] [] [] 0) Try.f107 false [V.at (A.int .i64 x0), V.at (A.fl .f32 x1)] [] = bif F.convOk .f32 .f64 (F.bin .mul .f32 (F.ofInt .f32 x0) x1) then bif F.toIntOk .f64 IntKind.i64 (F.integral Ieee.Toward.down (F.conv .f32 .f64 (F.bin .mul .f32 (F.ofInt .f32 x0) x1))) then some ⟨V.at (A.int .i64 (bif decide ((IntKind.wrap .i64 (x0 - 1)) < (F.toInt .f64 IntKind.i64 (F.integral Ieee.Toward.down (F.conv .f32 .f64 (F.bin .mul .f32 (F.ofInt .f32 x0) x1))))) then IntKind.wrap .i64 (x0 - 1) else F.toInt .f64 IntKind.i64 (F.integral Ieee.Toward.down (F.conv .f32 .f64 (F.bin .mul .f32 (F.ofInt .f32 x0) x1))))), none, []⟩ else none else none := by kernel_rfl
  rw [h0]
  unfold Pure.impl_box Pure.impl_box_ok
  cases (F.convOk .f32 .f64 (F.bin .mul .f32 (F.ofInt .f32 x0) x1)) with
  | true =>
    cases (F.toIntOk .f64 IntKind.i64 (F.integral Ieee.Toward.down (F.conv .f32 .f64 (F.bin .mul .f32 (F.ofInt .f32 x0) x1)))) with
    | true =>
      intro _; rfl
    | false =>
      intro h; exact absurd h Bool.false_ne_true
  | false =>
    intro h; exact absurd h Bool.false_ne_true
theorem ok_impl_box : CallOK Try.prog 107 (c_impl_box real) := by
  refine callOK_of fun args h ret hc => ?_
  unfold c_impl_box at hc
  split at hc
  · rename_i x0 x1
    obtain ⟨hok, rfl⟩ := some_ret hc
    exact holds_ev prog_ok (allOK_cons ok_math_Floor allOK_nil) Try.func107 rfl rfl smL_nil rfl (e_impl_box real x0 x1 hok)
  · cases hc
def Pure.impl_State_rest_L0 (F : FOps) (y0 y1 y2 y3 : Int) : Nat → Int → Int → Int → (Bool × Int × Int)
  | 0, _, _, _ => (false, 0, 0)
  | n + 1, y4, y5, y6 => bif (decide (y4 < y3)) then (bif (Pure.impl_State_damped_ok F y5 y6 y0 y1) then (Pure.impl_State_rest_L0 F y0 y1 y2 y3 n (IntKind.wrap .i64 (y4 + 1)) (Pure.impl_State_damped F y5 y6 y0 y1) (Pure.impl_State_damped_1 F y5 y6 y0 y1)) else ((false, 0, 0))) else ((true, y5, y6))
def R_impl_State_rest_L0 (y2 : Int) (r : (Bool × Int × Int)) : Bool × Ends := ((r).1, (.one Ex.normal [V.at (A.int .i64 y2), V.at (A.ptr 0 0 0)] [⟨true, .box [A.fl .f32 (r).2.1, A.fl .f32 (r).2.2]⟩]))
def S_impl_State_rest_L0 (F : FOps) : Sm := ⟨[1, 2, 4, 5, 11, 12], [24, 24, 2, 0, 2, 2], [4, 5], fun vals hp => match vals, hp with
  | [V.at (A.fl .f32 y0), V.at (A.fl .f32 y1), V.at (A.int .i64 y2), V.at (A.ptr 0 0 0), V.at (A.int .i64 y3), V.at (A.int .i64 y4)], [⟨true, .box [A.fl .f32 y5, A.fl .f32 y6]⟩] => some (R_impl_State_rest_L0 y2 (Pure.impl_State_rest_L0 F y0 y1 y2 y3 (y3 - y4 + 1).toNat y4 y5 y6))
  | _, _ => none⟩
theorem l_impl_State_rest_L0 (F : FOps) (y0 y1 y2 y3 : Int) : ∀ (fuel : Nat) (y4 y5 y6 : Int), (Pure.impl_State_rest_L0 F y0 y1 y2 y3 fuel y4 y5 y6).1 = true → loopOf (cxS F tyl [(106, c_impl_State_damped F), (107, c_impl_box F)] [] [] 0) 0 23 0 [1, 2, 4, 5, 11, 12] [24, 24, 2, 0, 2, 2] [4, 5] (loopB 0 (codeOf Try.f65)) fuel [V.at (A.fl .f32 y0), V.at (A.fl .f32 y1), V.at (A.int .i64 y2), V.at (A.ptr 0 0 0), V.at (A.int .i64 y3), V.at (A.int .i64 y4)] [⟨true, .box [A.fl .f32 y5, A.fl .f32 y6]⟩] = resOf (R_impl_State_rest_L0 y2 (Pure.impl_State_rest_L0 F y0 y1 y2 y3 fuel y4 y5 y6)) := by
  intro fuel
  induction fuel with
  | zero => intro y4 y5 y6 h; exact absurd h Bool.false_ne_true
  | succ n ih =>
    intro y4 y5 y6
    have h0 : roundOf (cxS F tyl [(106, c_impl_State_damped F), (107, c_impl_box F)] [] [] 0) 0 23 0 [1, 2, 4, 5, 11, 12] [24, 24, 2, 0, 2, 2] [4, 5] (loopB 0 (codeOf Try.f65)) [V.at (A.fl .f32 y0), V.at (A.fl .f32 y1), V.at (A.int .i64 y2), V.at (A.ptr 0 0 0), V.at (A.int .i64 y3), V.at (A.int .i64 y4)] [⟨true, .box [A.fl .f32 y5, A.fl .f32 y6]⟩] = (bif decide (y4 < y3) then bif Pure.impl_State_damped_ok F y5 y6 y0 y1 then some (true, (Ex.normal, ([V.at (A.fl .f32 y0), V.at (A.fl .f32 y1), V.at (A.int .i64 y2), V.at (A.ptr 0 0 0), V.at (A.int .i64 y3), V.at (A.int .i64 (IntKind.wrap .i64 (y4 + 1)))], [⟨true, .box [A.fl .f32 (Pure.impl_State_damped F y5 y6 y0 y1), A.fl .f32 (Pure.impl_State_damped_1 F y5 y6 y0 y1)]⟩]))) else none else some (false, (Ex.normal, ([V.at (A.int .i64 y2), V.at (A.ptr 0 0 0)], [⟨true, .box [A.fl .f32 y5, A.fl .f32 y6]⟩])))) := by kernel_rfl
    unfold loopOf
    rw [h0]
    unfold Pure.impl_State_rest_L0
    cases (decide (y4 < y3)) with
    | true =>
      cases (Pure.impl_State_damped_ok F y5 y6 y0 y1) with
      | true =>
        exact ih _ _ _
      | false =>
        intro h; exact absurd h Bool.false_ne_true
    | false =>
      intro _; rfl
theorem t_impl_State_rest_L0 : SmTo Try.prog 0 23 (S_impl_State_rest_L0 real) 0 (.loop (loopB 0 (codeOf Try.f65))) := by
  refine smTo_ev (cl := [(106, c_impl_State_damped real), (107, c_impl_box real)]) (ef := []) (sm := []) (un := 0) prog_ok (allOK_cons ok_impl_State_damped (allOK_cons ok_impl_box allOK_nil)) smL_nil ?_
  intro vals hp q r h hq
  unfold S_impl_State_rest_L0 at h
  dsimp only at h
  split at h
  · rename_i y0 y1 y2 y3 y4 y5 y6
    obtain rfl := Option.some.inj h
    have h1 := hq
    unfold resOf at h1
    rw [chk_some] at h1
    exact ⟨_, (l_impl_State_rest_L0 real y0 y1 y2 y3 _ y4 y5 y6 h1.1).trans hq⟩
  · cases h
def Pure.impl_State_rest (F : FOps) (x0 x1 x2 x3 x4 x5 : Int) : Int := Pure.impl_box F x5 (Prod.fst (Prod.snd (Pure.impl_State_rest_L0 F x2 x3 x5 x4 (Int.toNat ((x4 - 0) + 1)) 0 x0 x1)))
def Pure.impl_State_rest_ok (F : FOps) (x0 x1 x2 x3 x4 x5 : Int) : Bool := bif Prod.fst (Pure.impl_State_rest_L0 F x2 x3 x5 x4 (Int.toNat ((x4 - 0) + 1)) 0 x0 x1) then Pure.impl_box_ok F x5 (Prod.fst (Prod.snd (Pure.impl_State_rest_L0 F x2 x3 x5 x4 (Int.toNat ((x4 - 0) + 1)) 0 x0 x1))) else false
def c_impl_State_rest (F : FOps) : Con
  | [V.agg [A.fl .f32 x0, A.fl .f32 x1], V.at (A.fl .f32 x2), V.at (A.fl .f32 x3), V.at (A.int .i64 x4), V.at (A.int .i64 x5)], [] => some (Pure.impl_State_rest_ok F x0 x1 x2 x3 x4 x5, ⟨V.at (A.int .i64 (Pure.impl_State_rest F x0 x1 x2 x3 x4 x5)), none, []⟩)
  | _, _ => none
theorem e_impl_State_rest (F : FOps) (x0 x1 x2 x3 x4 x5 : Int) : Pure.impl_State_rest_ok F x0 x1 x2 x3 x4 x5 = true → evFn (cxS F tyl [(106, c_impl_State_damped F), (107, c_impl_box F)] [] [(0, S_impl_State_rest_L0 F)] 0) Try.f65 false [V.agg [A.fl .f32 x0, A.fl .f32 x1], V.at (A.fl .f32 x2), V.at (A.fl .f32 x3), V.at (A.int .i64 x4), V.at (A.int .i64 x5)] [] = some ⟨V.at (A.int .i64 (Pure.impl_State_rest F x0 x1 x2 x3 x4 x5)), none, []⟩ := by
  have h0 : evFn (cxS F tyl [(106, c_impl_State_damped F), (107, c_impl_box F)] [] [(0, S_impl_State_rest_L0 F)] 0) Try.f65 false [V.agg [A.fl .f32 x0, A.fl .f32 x1], V.at (A.fl .f32 x2), V.at (A.fl .f32 x3), V.at (A.int .i64 x4), V.at (A.int .i64 x5)] [] = bif Prod.fst (Pure.impl_State_rest_L0 F x2 x3 x5 x4 (Int.toNat ((x4 - 0) + 1)) 0 x0 x1) then bif Pure.impl_box_ok F x5 (Prod.fst (Prod.snd (Pure.impl_State_rest_L0 F x2 x3 x5 x4 (Int.toNat ((x4 - 0) + 1)) 0 x0 x1))) then some ⟨V.at (A.int .i64 (Pure.impl_box F x5 (Prod.fst (Prod.snd (Pure.impl_State_rest_L0 F x2 x3 x5 x4 (Int.toNat ((x4 - 0) + 1)) 0 x0 x1))))), none, []⟩ else none else none := by kernel_rfl
  rw [h0]
  unfold Pure.impl_State_rest Pure.impl_State_rest_ok
  cases (Prod.fst (Pure.impl_State_rest_L0 F x2 x3 x5 x4 (Int.toNat ((x4 - 0) + 1)) 0 x0 x1)) with
  | true =>
    cases (Pure.impl_box_ok F x5 (Prod.fst (Prod.snd (Pure.impl_State_rest_L0 F x2 x3 x5 x4 (Int.toNat ((x4 - 0) + 1)) 0 x0 x1)))) with
    | true =>
      intro _; rfl
    | false =>
      intro h; exact absurd h Bool.false_ne_true
  | false =>
    intro h; exact absurd h Bool.false_ne_true
theorem ok_impl_State_rest : CallOK Try.prog 65 (c_impl_State_rest real) := by
  refine callOK_of fun args h ret hc => ?_
  unfold c_impl_State_rest at hc
  split at hc
  · rename_i x0 x1 x2 x3 x4 x5
    obtain ⟨hok, rfl⟩ := some_ret hc
    exact holds_ev prog_ok (allOK_cons ok_impl_State_damped (allOK_cons ok_impl_box allOK_nil)) Try.func65 rfl rfl (smL_cons (body := .loop (loopB 0 (codeOf Try.f65))) (by kernel_rfl) t_impl_State_rest_L0 smL_nil) rfl (e_impl_State_rest real x0 x1 x2 x3 x4 x5 hok)
  · cases hc
def Pure.impl_basinRow_L0 (F : FOps) (y0 y1 y2 y3 y4 y5 y6 y7 : Int) : Nat → Int → (List (List Int)) → (Bool × (List (List Int)))
  | 0, _, _ => (false, [])
  | n + 1, y8, y9 => bif (decide (y8 < y7)) then (bif (Pure.impl_kicked_ok F (F.bin .sub .f32 (F.bin .quo .f32 (F.ofInt .f32 y0) (F.ofInt .f32 y2)) 1056964608)) then (bif (Pure.impl_State_rest_ok F (F.bin .quo .f32 (F.ofInt .f32 y8) (F.ofInt .f32 y1)) (Pure.impl_WrapKick F (F.bin .sub .f32 (F.bin .quo .f32 (F.ofInt .f32 y0) (F.ofInt .f32 y2)) 1056964608)) y3 y4 y5 y6) then (bif (decide ((Nat.succ y9.length) ≤ 1073741824)) then (Pure.impl_basinRow_L0 F y0 y1 y2 y3 y4 y5 y6 y7 n (IntKind.wrap .i64 (y8 + 1)) (y9 ++ [[Pure.impl_State_rest F (F.bin .quo .f32 (F.ofInt .f32 y8) (F.ofInt .f32 y1)) (Pure.impl_WrapKick F (F.bin .sub .f32 (F.bin .quo .f32 (F.ofInt .f32 y0) (F.ofInt .f32 y2)) 1056964608)) y3 y4 y5 y6]])) else ((false, []))) else ((false, []))) else ((false, []))) else ((true, y9))
def R_impl_basinRow_L0 (r : (Bool × (List (List Int)))) : Bool × Ends := ((r).1, (.one Ex.normal [V.at (A.sl 0)] [⟨true, .rows [K.i .i64] (r).2⟩]))
def S_impl_basinRow_L0 (F : FOps) : Sm := ⟨[0, 1, 2, 3, 4, 5, 6, 15, 19, 20], [2, 2, 2, 24, 24, 2, 2, 40, 2, 2], [15], fun vals hp => match vals, hp with
  | [V.at (A.int .i64 y0), V.at (A.int .i64 y1), V.at (A.int .i64 y2), V.at (A.fl .f32 y3), V.at (A.fl .f32 y4), V.at (A.int .i64 y5), V.at (A.int .i64 y6), V.at (A.sl 0), V.at (A.int .i64 y7), V.at (A.int .i64 y8)], [⟨true, .rows [K.i .i64] y9⟩] => some (R_impl_basinRow_L0  (Pure.impl_basinRow_L0 F y0 y1 y2 y3 y4 y5 y6 y7 (y7 - y8 + 1).toNat y8 y9))
  | _, _ => none⟩
theorem l_impl_basinRow_L0 (F : FOps) (y0 y1 y2 y3 y4 y5 y6 y7 : Int) : ∀ (fuel : Nat) (y8 : Int) (y9 : List (List Int)), (Pure.impl_basinRow_L0 F y0 y1 y2 y3 y4 y5 y6 y7 fuel y8 y9).1 = true → loopOf (cxS F tyl [(105, c_impl_kicked F), (65, c_impl_State_rest F)] [] [] 0) 0 47 0 [0, 1, 2, 3, 4, 5, 6, 15, 19, 20] [2, 2, 2, 24, 24, 2, 2, 40, 2, 2] [15] (loopB 0 (codeOf Try.f63)) fuel [V.at (A.int .i64 y0), V.at (A.int .i64 y1), V.at (A.int .i64 y2), V.at (A.fl .f32 y3), V.at (A.fl .f32 y4), V.at (A.int .i64 y5), V.at (A.int .i64 y6), V.at (A.sl 0), V.at (A.int .i64 y7), V.at (A.int .i64 y8)] [⟨true, .rows [K.i .i64] y9⟩] = resOf (R_impl_basinRow_L0  (Pure.impl_basinRow_L0 F y0 y1 y2 y3 y4 y5 y6 y7 fuel y8 y9)) := by
  intro fuel
  induction fuel with
  | zero => intro y8 y9 h; exact absurd h Bool.false_ne_true
  | succ n ih =>
    intro y8 y9
    have h0 : roundOf (cxS F tyl [(105, c_impl_kicked F), (65, c_impl_State_rest F)] [] [] 0) 0 47 0 [0, 1, 2, 3, 4, 5, 6, 15, 19, 20] [2, 2, 2, 24, 24, 2, 2, 40, 2, 2] [15] (loopB 0 (codeOf Try.f63)) [V.at (A.int .i64 y0), V.at (A.int .i64 y1), V.at (A.int .i64 y2), V.at (A.fl .f32 y3), V.at (A.fl .f32 y4), V.at (A.int .i64 y5), V.at (A.int .i64 y6), V.at (A.sl 0), V.at (A.int .i64 y7), V.at (A.int .i64 y8)] [⟨true, .rows [K.i .i64] y9⟩] = (bif decide (y8 < y7) then bif Pure.impl_kicked_ok F (F.bin .sub .f32 (F.bin .quo .f32 (F.ofInt .f32 y0) (F.ofInt .f32 y2)) 1056964608) then bif Pure.impl_State_rest_ok F (F.bin .quo .f32 (F.ofInt .f32 y8) (F.ofInt .f32 y1)) (Pure.impl_WrapKick F (F.bin .sub .f32 (F.bin .quo .f32 (F.ofInt .f32 y0) (F.ofInt .f32 y2)) 1056964608)) y3 y4 y5 y6 then bif decide ((Nat.succ y9.length) ≤ 1073741824) then some (true, (Ex.normal, ([V.at (A.int .i64 y0), V.at (A.int .i64 y1), V.at (A.int .i64 y2), V.at (A.fl .f32 y3), V.at (A.fl .f32 y4), V.at (A.int .i64 y5), V.at (A.int .i64 y6), V.at (A.sl 0), V.at (A.int .i64 y7), V.at (A.int .i64 (IntKind.wrap .i64 (y8 + 1)))], [⟨true, .rows [K.i .i64] (y9 ++ [[Pure.impl_State_rest F (F.bin .quo .f32 (F.ofInt .f32 y8) (F.ofInt .f32 y1)) (Pure.impl_WrapKick F (F.bin .sub .f32 (F.bin .quo .f32 (F.ofInt .f32 y0) (F.ofInt .f32 y2)) 1056964608)) y3 y4 y5 y6]])⟩]))) else none else none else none else some (false, (Ex.normal, ([V.at (A.sl 0)], [⟨true, .rows [K.i .i64] y9⟩])))) := by kernel_rfl
    unfold loopOf
    rw [h0]
    unfold Pure.impl_basinRow_L0
    cases (decide (y8 < y7)) with
    | true =>
      cases (Pure.impl_kicked_ok F (F.bin .sub .f32 (F.bin .quo .f32 (F.ofInt .f32 y0) (F.ofInt .f32 y2)) 1056964608)) with
      | true =>
        cases (Pure.impl_State_rest_ok F (F.bin .quo .f32 (F.ofInt .f32 y8) (F.ofInt .f32 y1)) (Pure.impl_WrapKick F (F.bin .sub .f32 (F.bin .quo .f32 (F.ofInt .f32 y0) (F.ofInt .f32 y2)) 1056964608)) y3 y4 y5 y6) with
        | true =>
          cases (decide ((Nat.succ y9.length) ≤ 1073741824)) with
          | true =>
            exact ih _ _
          | false =>
            intro h; exact absurd h Bool.false_ne_true
        | false =>
          intro h; exact absurd h Bool.false_ne_true
      | false =>
        intro h; exact absurd h Bool.false_ne_true
    | false =>
      intro _; rfl
theorem t_impl_basinRow_L0 : SmTo Try.prog 0 47 (S_impl_basinRow_L0 real) 0 (.loop (loopB 0 (codeOf Try.f63))) := by
  refine smTo_ev (cl := [(105, c_impl_kicked real), (65, c_impl_State_rest real)]) (ef := []) (sm := []) (un := 0) prog_ok (allOK_cons ok_impl_kicked (allOK_cons ok_impl_State_rest allOK_nil)) smL_nil ?_
  intro vals hp q r h hq
  unfold S_impl_basinRow_L0 at h
  dsimp only at h
  split at h
  · rename_i y0 y1 y2 y3 y4 y5 y6 y7 y8 y9
    obtain rfl := Option.some.inj h
    have h1 := hq
    unfold resOf at h1
    rw [chk_some] at h1
    exact ⟨_, (l_impl_basinRow_L0 real y0 y1 y2 y3 y4 y5 y6 y7 _ y8 y9 h1.1).trans hq⟩
  · cases h
def Pure.impl_basinRow (F : FOps) (x0 x1 x2 x3 x4 x5 x6 : Int) : List (List Int) := Prod.snd (Pure.impl_basinRow_L0 F x0 x1 x2 x3 x4 x5 x6 x1 (Int.toNat ((x1 - 0) + 1)) 0 [])
def Pure.impl_basinRow_ok (F : FOps) (x0 x1 x2 x3 x4 x5 x6 : Int) : Bool := Prod.fst (Pure.impl_basinRow_L0 F x0 x1 x2 x3 x4 x5 x6 x1 (Int.toNat ((x1 - 0) + 1)) 0 [])
def c_impl_basinRow (F : FOps) : Con
  | [V.at (A.int .i64 x0), V.at (A.int .i64 x1), V.at (A.int .i64 x2), V.at (A.fl .f32 x3), V.at (A.fl .f32 x4), V.at (A.int .i64 x5), V.at (A.int .i64 x6)], [] => some (Pure.impl_basinRow_ok F x0 x1 x2 x3 x4 x5 x6, ⟨V.at (A.sl 0), none, [⟨true, .rows [K.i .i64] (Pure.impl_basinRow F x0 x1 x2 x3 x4 x5 x6)⟩]⟩)
  | _, _ => none
theorem e_impl_basinRow (F : FOps) (x0 x1 x2 x3 x4 x5 x6 : Int) : Pure.impl_basinRow_ok F x0 x1 x2 x3 x4 x5 x6 = true → evFn (cxS F tyl [(105, c_impl_kicked F), (65, c_impl_State_rest F)] [] [(0, S_impl_basinRow_L0 F)] 0) Try.f63 false [V.at (A.int .i64 x0), V.at (A.int .i64 x1), V.at (A.int .i64 x2), V.at (A.fl .f32 x3), V.at (A.fl .f32 x4), V.at (A.int .i64 x5), V.at (A.int .i64 x6)] [] = some ⟨V.at (A.sl 0), none, [⟨true, .rows [K.i .i64] (Pure.impl_basinRow F x0 x1 x2 x3 x4 x5 x6)⟩]⟩ := by
  have h0 : evFn (cxS F tyl [(105, c_impl_kicked F), (65, c_impl_State_rest F)] [] [(0, S_impl_basinRow_L0 F)] 0) Try.f63 false [V.at (A.int .i64 x0), V.at (A.int .i64 x1), V.at (A.int .i64 x2), V.at (A.fl .f32 x3), V.at (A.fl .f32 x4), V.at (A.int .i64 x5), V.at (A.int .i64 x6)] [] = bif Prod.fst (Pure.impl_basinRow_L0 F x0 x1 x2 x3 x4 x5 x6 x1 (Int.toNat ((x1 - 0) + 1)) 0 []) then some ⟨V.at (A.sl 0), none, [⟨true, .rows [K.i .i64] (Prod.snd (Pure.impl_basinRow_L0 F x0 x1 x2 x3 x4 x5 x6 x1 (Int.toNat ((x1 - 0) + 1)) 0 []))⟩]⟩ else none := by kernel_rfl
  rw [h0]
  unfold Pure.impl_basinRow Pure.impl_basinRow_ok
  cases (Prod.fst (Pure.impl_basinRow_L0 F x0 x1 x2 x3 x4 x5 x6 x1 (Int.toNat ((x1 - 0) + 1)) 0 [])) with
  | true =>
    intro _; rfl
  | false =>
    intro h; exact absurd h Bool.false_ne_true
theorem ok_impl_basinRow : CallOK Try.prog 63 (c_impl_basinRow real) := by
  refine callOK_of fun args h ret hc => ?_
  unfold c_impl_basinRow at hc
  split at hc
  · rename_i x0 x1 x2 x3 x4 x5 x6
    obtain ⟨hok, rfl⟩ := some_ret hc
    exact holds_ev prog_ok (allOK_cons ok_impl_kicked (allOK_cons ok_impl_State_rest allOK_nil)) Try.func63 rfl rfl (smL_cons (body := .loop (loopB 0 (codeOf Try.f63))) (by kernel_rfl) t_impl_basinRow_L0 smL_nil) rfl (e_impl_basinRow real x0 x1 x2 x3 x4 x5 x6 hok)
  · cases hc
def Pure.slices_Grow_int64_int64_ok (F : FOps) (x0 : Int) : Bool := bif decide (x0 < 0) then false else bif decide ((IntKind.wrap .i64 (x0 - 0)) > 0) then bif decide (0 < (IntKind.wrap .i64 (x0 - 0))) then decide ((IntKind.wrap .i64 (x0 - 0)) ≤ 1073741824) else false else true
def c_slices_Grow_int64_int64 (F : FOps) : Con
  | [V.at A.nil, V.at (A.int .i64 x0)], [] => some (Pure.slices_Grow_int64_int64_ok F x0, ⟨V.at (A.sl 0), none, [⟨true, .rows [K.i .i64] []⟩]⟩)
  | _, _ => none
theorem e_slices_Grow_int64_int64 (F : FOps) (x0 : Int) : Pure.slices_Grow_int64_int64_ok F x0 = true → evFn (cxS F tyl [] [] [] 77) Try.f104 false [V.at A.nil, V.at (A.int .i64 x0)] [] = some ⟨V.at (A.sl 0), none, [⟨true, .rows [K.i .i64] []⟩]⟩ := by
  have h0 : evFn (cxS F tyl [] [] [] 77) Try.f104 false [V.at A.nil, V.at (A.int .i64 x0)] [] = bif decide (x0 < 0) then none else bif decide ((IntKind.wrap .i64 (x0 - 0)) > 0) then bif decide (0 < (IntKind.wrap .i64 (x0 - 0))) then bif decide ((IntKind.wrap .i64 (x0 - 0)) ≤ 1073741824) then some ⟨V.at (A.sl 0), none, [⟨true, .rows [K.i .i64] []⟩]⟩ else none else none else some ⟨V.at (A.sl 0), none, [⟨true, .rows [K.i .i64] []⟩]⟩ := by kernel_rfl
  rw [h0]
  unfold Pure.slices_Grow_int64_int64_ok
  cases (decide (x0 < 0)) with
  | true =>
    intro h; exact absurd h Bool.false_ne_true
  | false =>
    cases (decide ((IntKind.wrap .i64 (x0 - 0)) > 0)) with
    | true =>
      cases (decide ((IntKind.wrap .i64 (x0 - 0)) ≤ 1073741824)) with
      | true =>
        intro _; rfl
      | false =>
        intro h; exact absurd h Bool.false_ne_true
    | false =>
      intro _; rfl
theorem ok_slices_Grow_int64_int64 : CallOK Try.prog 104 (c_slices_Grow_int64_int64 real) := by
  refine callOK_of fun args h ret hc => ?_
  unfold c_slices_Grow_int64_int64 at hc
  split at hc
  · rename_i x0
    obtain ⟨hok, rfl⟩ := some_ret hc
    exact holds_ev prog_ok allOK_nil Try.func104 rfl rfl smL_nil rfl (e_slices_Grow_int64_int64 real x0 hok)
  · cases hc
def tyn : List (Nat × TI) := [
  (0, ⟨1, 0, D.oth, none, [none], [A.undef]⟩),
  (1, ⟨1, 8, D.oth, none, [none], [A.undef]⟩),
  (2, ⟨1, 8, D.sc (K.i .i64), some [K.i .i64], [none], [A.int .i64 0]⟩),
  (3, ⟨1, 8, D.sc (K.i .i64), some [K.i .i64], [none], [A.int .i64 0]⟩),
  (4, ⟨1, 1, D.sc K.b, some [K.b], [none], [A.bool false]⟩),
  (5, ⟨1, 1, D.sc (K.i .u8), some [K.i .u8], [none], [A.int .u8 0]⟩),
  (6, ⟨1, 1, D.sc (K.i .u8), some [K.i .u8], [none], [A.int .u8 0]⟩),
  (7, ⟨4, 24, D.st [(0, 2), (1, 3), (2, 4), (3, 6)], some [K.i .i64, K.i .i64, K.b, K.i .u8], [none, none, none, none], [A.int .i64 0, A.int .i64 0, A.bool false, A.int .u8 0]⟩),
  (8, ⟨4, 24, D.st [(0, 2), (1, 3), (2, 4), (3, 6)], some [K.i .i64, K.i .i64, K.b, K.i .u8], [none, none, none, none], [A.int .i64 0, A.int .i64 0, A.bool false, A.int .u8 0]⟩),
  (9, ⟨1, 16, D.oth, none, [none], [A.undef]⟩),
  (10, ⟨1, 16, D.oth, none, [none], [A.undef]⟩),
  (11, ⟨1, 16, D.oth, none, [none], [A.undef]⟩),
  (12, ⟨1, 8, D.sc (K.i .u64), some [K.i .u64], [none], [A.int .u64 0]⟩),
  (13, ⟨2, 24, D.st [(0, 9), (1, 12)], none, [none, none], [A.undef, A.int .u64 0]⟩),
  (14, ⟨2, 24, D.st [(0, 9), (1, 12)], none, [none, none], [A.undef, A.int .u64 0]⟩),
  (15, ⟨1, 8, D.oth, none, [none], [A.undef]⟩),
  (16, ⟨1, 8, D.oth, none, [none], [A.undef]⟩),
  (17, ⟨1, 8, D.oth, none, [none], [A.undef]⟩),
  (18, ⟨1, 8, D.st [(0, 17)], none, [none], [A.undef]⟩),
  (19, ⟨1, 8, D.st [(0, 17)], none, [none], [A.undef]⟩),
  (20, ⟨1, 16, D.oth, none, [none], [A.undef]⟩),
  (21, ⟨1, 4, D.sc (K.i .i32), some [K.i .i32], [none], [A.int .i32 0]⟩),
  (22, ⟨1, 24, D.sl 5, none, [none], [A.nil]⟩),
  (23, ⟨1, 8, D.oth, none, [none], [A.undef]⟩),
  (24, ⟨1, 4, D.sc (K.f .f32), some [K.f .f32], [none], [A.fl .f32 0]⟩),
  (25, ⟨1, 8, D.oth, none, [none], [A.undef]⟩),
  (26, ⟨1, 0, D.oth, none, [none], [A.undef]⟩),
  (27, ⟨1, 8, D.oth, none, [none], [A.undef]⟩),
  (28, ⟨1, 8, D.oth, none, [none], [A.undef]⟩),
  (29, ⟨1, 8, D.sc (K.f .f64), some [K.f .f64], [none], [A.fl .f64 0]⟩),
  (30, ⟨1, 24, D.sl 24, none, [none], [A.nil]⟩),
  (31, ⟨1, 0, D.oth, none, [none], [A.undef]⟩),
  (32, ⟨1, 8, D.oth, none, [none], [A.undef]⟩),
  (33, ⟨1, 8, D.oth, none, [none], [A.undef]⟩),
  (34, ⟨1, 0, D.oth, none, [none], [A.undef]⟩),
  (35, ⟨1, 8, D.oth, none, [none], [A.undef]⟩),
  (36, ⟨1, 8, D.oth, none, [none], [A.undef]⟩),
  (37, ⟨1, 8, D.oth, none, [none], [A.undef]⟩),
  (38, ⟨1, 8, D.oth, none, [none], [A.undef]⟩),
  (39, ⟨1, 8, D.oth, none, [none], [A.undef]⟩),
  (40, ⟨1, 24, D.sl 2, none, [none], [A.nil]⟩),
  (41, ⟨1, 0, D.oth, none, [none], [A.undef]⟩),
  (42, ⟨1, 8, D.oth, none, [none], [A.undef]⟩),
  (43, ⟨1, 8, D.oth, none, [none], [A.undef]⟩),
  (44, ⟨1, 8, D.oth, none, [none], [A.undef]⟩),
  (45, ⟨1, 8, D.oth, none, [none], [A.undef]⟩),
  (46, ⟨1, 8, D.oth, none, [none], [A.undef]⟩),
  (47, ⟨2, 8, D.st [(0, 24), (1, 24)], some [K.f .f32, K.f .f32], [none, none], [A.fl .f32 0, A.fl .f32 0]⟩),
  (48, ⟨2, 8, D.st [(0, 24), (1, 24)], some [K.f .f32, K.f .f32], [none, none], [A.fl .f32 0, A.fl .f32 0]⟩),
  (49, ⟨2, 8, D.st [(0, 24), (1, 24)], some [K.f .f32, K.f .f32], [none, none], [A.fl .f32 0, A.fl .f32 0]⟩),
  (50, ⟨1, 8, D.oth, none, [none], [A.undef]⟩),
  (51, ⟨1, 8, D.oth, none, [none], [A.undef]⟩),
  (52, ⟨1, 8, D.oth, none, [none], [A.undef]⟩),
  (53, ⟨1, 8, D.oth, none, [none], [A.undef]⟩),
  (54, ⟨1, 8, D.oth, none, [none], [A.undef]⟩),
  (55, ⟨1, 8, D.oth, none, [none], [A.undef]⟩),
  (56, ⟨1, 8, D.oth, none, [none], [A.undef]⟩),
  (57, ⟨1, 0, D.oth, none, [none], [A.undef]⟩),
  (58, ⟨1, 8, D.oth, none, [none], [A.undef]⟩),
  (59, ⟨1, 8, D.oth, none, [none], [A.undef]⟩),
  (60, ⟨1, 8, D.oth, none, [none], [A.undef]⟩),
  (61, ⟨1, 0, D.oth, none, [none], [A.undef]⟩),
  (62, ⟨1, 8, D.oth, none, [none], [A.undef]⟩),
  (63, ⟨1, 8, D.oth, none, [none], [A.undef]⟩),
  (64, ⟨1, 8, D.oth, none, [none], [A.undef]⟩),
  (65, ⟨1, 8, D.oth, none, [none], [A.undef]⟩),
  (66, ⟨1, 8, D.oth, none, [none], [A.undef]⟩),
  (67, ⟨1, 8, D.oth, none, [none], [A.undef]⟩),
  (68, ⟨1, 8, D.oth, none, [none], [A.undef]⟩),
  (69, ⟨1, 8, D.oth, none, [none], [A.undef]⟩),
  (70, ⟨1, 8, D.oth, none, [none], [A.undef]⟩),
  (71, ⟨1, 8, D.oth, none, [none], [A.undef]⟩),
  (72, ⟨1, 8, D.oth, none, [none], [A.undef]⟩),
  (73, ⟨1, 8, D.oth, none, [none], [A.undef]⟩),
  (74, ⟨1, 8, D.oth, none, [none], [A.undef]⟩),
  (75, ⟨1, 8, D.oth, none, [none], [A.undef]⟩),
  (76, ⟨1, 8, D.oth, none, [none], [A.undef]⟩),
  (77, ⟨1, 8, D.oth, none, [none], [A.undef]⟩),
  (78, ⟨1, 8, D.oth, none, [none], [A.undef]⟩),
  (79, ⟨1, 8, D.oth, none, [none], [A.undef]⟩),
  (80, ⟨4, 16, D.ar 4 24, some [K.f .f32, K.f .f32, K.f .f32, K.f .f32], [none, none, none, none], [A.fl .f32 0, A.fl .f32 0, A.fl .f32 0, A.fl .f32 0]⟩),
  (81, ⟨4, 16, D.ar 4 24, some [K.f .f32, K.f .f32, K.f .f32, K.f .f32], [none, none, none, none], [A.fl .f32 0, A.fl .f32 0, A.fl .f32 0, A.fl .f32 0]⟩),
  (82, ⟨1, 8, D.oth, none, [none], [A.undef]⟩),
  (83, ⟨1, 8, D.oth, none, [none], [A.undef]⟩),
  (84, ⟨1, 24, D.sl 48, none, [none], [A.nil]⟩),
  (85, ⟨1, 8, D.oth, none, [none], [A.undef]⟩),
  (86, ⟨1, 8, D.oth, none, [none], [A.undef]⟩),
  (87, ⟨1, 8, D.oth, none, [none], [A.undef]⟩),
  (88, ⟨1, 8, D.oth, none, [none], [A.undef]⟩),
  (89, ⟨1, 8, D.oth, none, [none], [A.undef]⟩),
  (90, ⟨1, 8, D.oth, none, [none], [A.undef]⟩),
  (91, ⟨1, 8, D.oth, none, [none], [A.undef]⟩),
  (92, ⟨1, 0, D.oth, none, [none], [A.undef]⟩),
  (93, ⟨1, 8, D.oth, none, [none], [A.undef]⟩),
  (94, ⟨1, 8, D.oth, none, [none], [A.undef]⟩),
  (95, ⟨1, 8, D.oth, none, [none], [A.undef]⟩),
  (96, ⟨1, 8, D.oth, none, [none], [A.undef]⟩),
  (97, ⟨1, 4, D.sc (K.i .u32), some [K.i .u32], [none], [A.int .u32 0]⟩),
  (98, ⟨1, 8, D.oth, none, [none], [A.undef]⟩),
  (99, ⟨1, 8, D.oth, none, [none], [A.undef]⟩),
  (100, ⟨1, 24, D.sl 40, none, [none], [A.nil]⟩),
  (101, ⟨1, 8, D.oth, none, [none], [A.undef]⟩),
  (102, ⟨1, 8, D.oth, none, [none], [A.undef]⟩),
  (103, ⟨1, 8, D.oth, none, [none], [A.undef]⟩),
  (104, ⟨1, 8, D.oth, none, [none], [A.undef]⟩),
  (105, ⟨1, 8, D.oth, none, [none], [A.undef]⟩),
  (106, ⟨1, 8, D.oth, none, [none], [A.undef]⟩),
  (107, ⟨1, 8, D.oth, none, [none], [A.undef]⟩),
  (108, ⟨1, 0, D.oth, none, [none], [A.undef]⟩),
  (109, ⟨1, 8, D.oth, none, [none], [A.undef]⟩),
  (110, ⟨1, 8, D.oth, none, [none], [A.undef]⟩),
  (111, ⟨1, 8, D.oth, none, [none], [A.undef]⟩),
  (112, ⟨1, 8, D.oth, none, [none], [A.undef]⟩),
  (113, ⟨1, 8, D.oth, none, [none], [A.undef]⟩),
  (114, ⟨1, 8, D.oth, none, [none], [A.undef]⟩),
  (115, ⟨1, 8, D.oth, none, [none], [A.undef]⟩),
  (116, ⟨1, 8, D.sc (K.i .u64), some [K.i .u64], [none], [A.int .u64 0]⟩),
  (117, ⟨1, 8, D.oth, none, [none], [A.undef]⟩),
  (118, ⟨1, 8, D.oth, none, [none], [A.undef]⟩),
  (119, ⟨1, 8, D.oth, none, [none], [A.undef]⟩),
  (120, ⟨1, 8, D.sc (K.i .u64), some [K.i .u64], [none], [A.int .u64 0]⟩),
  (121, ⟨1, 8, D.oth, none, [none], [A.undef]⟩),
  (122, ⟨4, 40, D.st [(0, 17), (1, 17), (2, 17), (3, 9)], none, [none, none, none, none], [A.undef, A.undef, A.undef, A.undef]⟩),
  (123, ⟨4, 40, D.st [(0, 17), (1, 17), (2, 17), (3, 9)], none, [none, none, none, none], [A.undef, A.undef, A.undef, A.undef]⟩),
  (127, ⟨1, 8, D.oth, none, [none], [A.undef]⟩),
  (128, ⟨1, 1, D.sc (K.i .u8), some [K.i .u8], [none], [A.int .u8 0]⟩),
  (129, ⟨1, 1, D.sc (K.i .u8), some [K.i .u8], [none], [A.int .u8 0]⟩),
  (130, ⟨1, 8, D.oth, none, [none], [A.undef]⟩),
  (131, ⟨1, 8, D.oth, none, [none], [A.undef]⟩),
  (132, ⟨1, 4, D.sc (K.i .i32), some [K.i .i32], [none], [A.int .i32 0]⟩),
  (133, ⟨1, 4, D.sc (K.i .i32), some [K.i .i32], [none], [A.int .i32 0]⟩),
  (134, ⟨11, 48, D.st [(0, 12), (1, 12), (2, 97), (3, 128), (4, 5), (5, 5), (6, 129), (7, 130), (8, 131), (9, 132), (10, 133)], none, [none, none, none, none, none, none, none, none, none, none, none], [A.int .u64 0, A.int .u64 0, A.int .u32 0, A.int .u8 0, A.int .u8 0, A.int .u8 0, A.int .u8 0, A.undef, A.undef, A.int .i32 0, A.int .i32 0]⟩),
  (135, ⟨11, 48, D.st [(0, 12), (1, 12), (2, 97), (3, 128), (4, 5), (5, 5), (6, 129), (7, 130), (8, 131), (9, 132), (10, 133)], none, [none, none, none, none, none, none, none, none, none, none, none], [A.int .u64 0, A.int .u64 0, A.int .u32 0, A.int .u8 0, A.int .u8 0, A.int .u8 0, A.int .u8 0, A.undef, A.undef, A.int .i32 0, A.int .i32 0]⟩),
  (136, ⟨1, 8, D.oth, none, [none], [A.undef]⟩)]
theorem prog_okn : ProgOK Try.prog tyn := ⟨tyOK_of (by kernel_rfl), by kernel_rfl⟩
def Pure.slices_Concat_int64_int64 (F : FOps) (x0 x1 : List (List Int)) : List (List Int) := ([] ++ x0) ++ x1
def Pure.slices_Concat_int64_int64_ok (F : FOps) (x0 x1 : List (List Int)) : Bool := bif decide ((IntKind.wrap .i64 (Int.ofNat (0 + x0.length))) < 0) then false else bif decide ((IntKind.wrap .i64 ((IntKind.wrap .i64 (Int.ofNat (0 + x0.length))) + (Int.ofNat x1.length))) < 0) then false else bif Pure.slices_Grow_int64_int64_ok F (IntKind.wrap .i64 ((IntKind.wrap .i64 (Int.ofNat (0 + x0.length))) + (Int.ofNat x1.length))) then bif decide ((0 + x0.length) ≤ 1073741824) then decide (((List.length ([] ++ x0)) + x1.length) ≤ 1073741824) else false else false
def c_slices_Concat_int64_int64 (F : FOps) : Con
  | [V.at (A.bs 0 2)], [⟨false, .box [A.sl 1, A.sl 2]⟩, ⟨false, .rows [K.i .i64] x0⟩, ⟨false, .rows [K.i .i64] x1⟩] => some (Pure.slices_Concat_int64_int64_ok F x0 x1, ⟨V.at (A.sl 3), none, [⟨true, .rows [K.i .i64] (Pure.slices_Concat_int64_int64 F x0 x1)⟩]⟩)
  | _, _ => none
theorem e_slices_Concat_int64_int64 (F : FOps) (x0 x1 : List (List Int)) : Pure.slices_Concat_int64_int64_ok F x0 x1 = true → evFn (cxS F tyn [(104, c_slices_Grow_int64_int64 F)] [] [] 5) Try.f62 false [V.at (A.bs 0 2)] [⟨false, .box [A.sl 1, A.sl 2]⟩, ⟨false, .rows [K.i .i64] x0⟩, ⟨false, .rows [K.i .i64] x1⟩] = some ⟨V.at (A.sl 3), none, [⟨true, .rows [K.i .i64] (Pure.slices_Concat_int64_int64 F x0 x1)⟩]⟩ := by
  have h0 : evFn (cxS F tyn [(104, c_slices_Grow_int64_int64 F)] [] [] 5) Try.f62 false [V.at (A.bs 0 2)] [⟨false, .box [A.sl 1, A.sl 2]⟩, ⟨false, .rows [K.i .i64] x0⟩, ⟨false, .rows [K.i .i64] x1⟩] = bif decide ((IntKind.wrap .i64 (Int.ofNat (0 + x0.length))) < 0) then none else bif decide ((IntKind.wrap .i64 ((IntKind.wrap .i64 (Int.ofNat (0 + x0.length))) + (Int.ofNat x1.length))) < 0) then none else bif Pure.slices_Grow_int64_int64_ok F (IntKind.wrap .i64 ((IntKind.wrap .i64 (Int.ofNat (0 + x0.length))) + (Int.ofNat x1.length))) then bif decide ((0 + x0.length) ≤ 1073741824) then bif decide (((List.length ([] ++ x0)) + x1.length) ≤ 1073741824) then some ⟨V.at (A.sl 3), none, [⟨true, .rows [K.i .i64] (([] ++ x0) ++ x1)⟩]⟩ else none else none else none := by kernel_rfl
  rw [h0]
  unfold Pure.slices_Concat_int64_int64 Pure.slices_Concat_int64_int64_ok
  cases (decide ((IntKind.wrap .i64 (Int.ofNat (0 + x0.length))) < 0)) with
  | true =>
    intro h; exact absurd h Bool.false_ne_true
  | false =>
    cases (decide ((IntKind.wrap .i64 ((IntKind.wrap .i64 (Int.ofNat (0 + x0.length))) + (Int.ofNat x1.length))) < 0)) with
    | true =>
      intro h; exact absurd h Bool.false_ne_true
    | false =>
      cases (Pure.slices_Grow_int64_int64_ok F (IntKind.wrap .i64 ((IntKind.wrap .i64 (Int.ofNat (0 + x0.length))) + (Int.ofNat x1.length)))) with
      | true =>
        cases (decide ((0 + x0.length) ≤ 1073741824)) with
        | true =>
          cases (decide (((List.length ([] ++ x0)) + x1.length) ≤ 1073741824)) with
          | true =>
            intro _; rfl
          | false =>
            intro h; exact absurd h Bool.false_ne_true
        | false =>
          intro h; exact absurd h Bool.false_ne_true
      | false =>
        intro h; exact absurd h Bool.false_ne_true
theorem ok_slices_Concat_int64_int64 : CallOK Try.prog 62 (c_slices_Concat_int64_int64 real) := by
  refine callOK_of fun args h ret hc => ?_
  unfold c_slices_Concat_int64_int64 at hc
  split at hc
  · rename_i x0 x1
    obtain ⟨hok, rfl⟩ := some_ret hc
    exact holds_ev prog_okn (allOK_cons ok_slices_Grow_int64_int64 allOK_nil) Try.func62 rfl rfl smL_nil rfl (e_slices_Concat_int64_int64 real x0 x1 hok)
  · cases hc
def Pure.impl_BasinsOf_L0 (F : FOps) (y0 y1 y2 y3 y4 y5 y6 : Int) : Nat → Int → (List (List Int)) → (Bool × (List (List Int)))
  | 0, _, _ => (false, [])
  | n + 1, y7, y8 => bif (decide (y7 < y6)) then (bif (Pure.impl_basinRow_ok F y7 y0 y1 y2 y3 y4 y5) then (bif (Pure.slices_Concat_int64_int64_ok F y8 (Pure.impl_basinRow F y7 y0 y1 y2 y3 y4 y5)) then (Pure.impl_BasinsOf_L0 F y0 y1 y2 y3 y4 y5 y6 n (IntKind.wrap .i64 (y7 + 1)) (Pure.slices_Concat_int64_int64 F y8 (Pure.impl_basinRow F y7 y0 y1 y2 y3 y4 y5))) else ((false, []))) else ((false, []))) else ((true, y8))
def R_impl_BasinsOf_L0 (r : (Bool × (List (List Int)))) : Bool × Ends := ((r).1, (.one Ex.normal [V.at (A.sl 0)] [⟨true, .rows [K.i .i64] (r).2⟩]))
def S_impl_BasinsOf_L0 (F : FOps) : Sm := ⟨[0, 1, 2, 3, 4, 5, 14, 33, 34], [2, 2, 24, 24, 2, 2, 40, 2, 2], [14], fun vals hp => match vals, hp with
  | [V.at (A.int .i64 y0), V.at (A.int .i64 y1), V.at (A.fl .f32 y2), V.at (A.fl .f32 y3), V.at (A.int .i64 y4), V.at (A.int .i64 y5), V.at (A.sl 0), V.at (A.int .i64 y6), V.at (A.int .i64 y7)], [⟨true, .rows [K.i .i64] y8⟩] => some (R_impl_BasinsOf_L0  (Pure.impl_BasinsOf_L0 F y0 y1 y2 y3 y4 y5 y6 (y6 - y7 + 1).toNat y7 y8))
  | _, _ => none⟩
theorem l_impl_BasinsOf_L0 (F : FOps) (y0 y1 y2 y3 y4 y5 y6 : Int) : ∀ (fuel : Nat) (y7 : Int) (y8 : List (List Int)), (Pure.impl_BasinsOf_L0 F y0 y1 y2 y3 y4 y5 y6 fuel y7 y8).1 = true → loopOf (cxS F tyl [(60, c_impl_gridOk F), (61, c_impl_restOk F), (63, c_impl_basinRow F), (62, c_slices_Concat_int64_int64 F)] [] [] 0) 0 50 0 [0, 1, 2, 3, 4, 5, 14, 33, 34] [2, 2, 24, 24, 2, 2, 40, 2, 2] [14] (loopB 0 (codeOf Try.f25)) fuel [V.at (A.int .i64 y0), V.at (A.int .i64 y1), V.at (A.fl .f32 y2), V.at (A.fl .f32 y3), V.at (A.int .i64 y4), V.at (A.int .i64 y5), V.at (A.sl 0), V.at (A.int .i64 y6), V.at (A.int .i64 y7)] [⟨true, .rows [K.i .i64] y8⟩] = resOf (R_impl_BasinsOf_L0  (Pure.impl_BasinsOf_L0 F y0 y1 y2 y3 y4 y5 y6 fuel y7 y8)) := by
  intro fuel
  induction fuel with
  | zero => intro y7 y8 h; exact absurd h Bool.false_ne_true
  | succ n ih =>
    intro y7 y8
    have h0 : roundOf (cxS F tyl [(60, c_impl_gridOk F), (61, c_impl_restOk F), (63, c_impl_basinRow F), (62, c_slices_Concat_int64_int64 F)] [] [] 0) 0 50 0 [0, 1, 2, 3, 4, 5, 14, 33, 34] [2, 2, 24, 24, 2, 2, 40, 2, 2] [14] (loopB 0 (codeOf Try.f25)) [V.at (A.int .i64 y0), V.at (A.int .i64 y1), V.at (A.fl .f32 y2), V.at (A.fl .f32 y3), V.at (A.int .i64 y4), V.at (A.int .i64 y5), V.at (A.sl 0), V.at (A.int .i64 y6), V.at (A.int .i64 y7)] [⟨true, .rows [K.i .i64] y8⟩] = (bif decide (y7 < y6) then bif Pure.impl_basinRow_ok F y7 y0 y1 y2 y3 y4 y5 then bif Pure.slices_Concat_int64_int64_ok F y8 (Pure.impl_basinRow F y7 y0 y1 y2 y3 y4 y5) then some (true, (Ex.normal, ([V.at (A.int .i64 y0), V.at (A.int .i64 y1), V.at (A.fl .f32 y2), V.at (A.fl .f32 y3), V.at (A.int .i64 y4), V.at (A.int .i64 y5), V.at (A.sl 0), V.at (A.int .i64 y6), V.at (A.int .i64 (IntKind.wrap .i64 (y7 + 1)))], [⟨true, .rows [K.i .i64] (Pure.slices_Concat_int64_int64 F y8 (Pure.impl_basinRow F y7 y0 y1 y2 y3 y4 y5))⟩]))) else none else none else some (false, (Ex.normal, ([V.at (A.sl 0)], [⟨true, .rows [K.i .i64] y8⟩])))) := by kernel_rfl
    unfold loopOf
    rw [h0]
    unfold Pure.impl_BasinsOf_L0
    cases (decide (y7 < y6)) with
    | true =>
      cases (Pure.impl_basinRow_ok F y7 y0 y1 y2 y3 y4 y5) with
      | true =>
        cases (Pure.slices_Concat_int64_int64_ok F y8 (Pure.impl_basinRow F y7 y0 y1 y2 y3 y4 y5)) with
        | true =>
          exact ih _ _
        | false =>
          intro h; exact absurd h Bool.false_ne_true
      | false =>
        intro h; exact absurd h Bool.false_ne_true
    | false =>
      intro _; rfl
theorem t_impl_BasinsOf_L0 : SmTo Try.prog 0 50 (S_impl_BasinsOf_L0 real) 0 (.loop (loopB 0 (codeOf Try.f25))) := by
  refine smTo_ev (cl := [(60, c_impl_gridOk real), (61, c_impl_restOk real), (63, c_impl_basinRow real), (62, c_slices_Concat_int64_int64 real)]) (ef := []) (sm := []) (un := 0) prog_ok (allOK_cons ok_impl_gridOk (allOK_cons ok_impl_restOk (allOK_cons ok_impl_basinRow (allOK_cons ok_slices_Concat_int64_int64 allOK_nil)))) smL_nil ?_
  intro vals hp q r h hq
  unfold S_impl_BasinsOf_L0 at h
  dsimp only at h
  split at h
  · rename_i y0 y1 y2 y3 y4 y5 y6 y7 y8
    obtain rfl := Option.some.inj h
    have h1 := hq
    unfold resOf at h1
    rw [chk_some] at h1
    exact ⟨_, (l_impl_BasinsOf_L0 real y0 y1 y2 y3 y4 y5 y6 _ y7 y8 h1.1).trans hq⟩
  · cases h
def Pure.impl_BasinsOf (F : FOps) (x0 x1 x2 x3 x4 x5 : Int) : Bool := bif Pure.impl_in F x0 1 32 then bif Pure.impl_in F x1 1 32 then Pure.impl_restOk F x2 x3 x4 x5 else false else false
def Pure.impl_BasinsOf_1 (F : FOps) (x0 x1 x2 x3 x4 x5 : Int) : List (List Int) := bif Pure.impl_in F x0 1 32 then bif Pure.impl_in F x1 1 32 then bif Pure.impl_restOk F x2 x3 x4 x5 then Prod.snd (Pure.impl_BasinsOf_L0 F x0 x1 x2 x3 x4 x5 x1 (Int.toNat ((x1 - 0) + 1)) 0 []) else [] else [] else []
def Pure.impl_BasinsOf_ok (F : FOps) (x0 x1 x2 x3 x4 x5 : Int) : Bool := bif Pure.impl_in F x0 1 32 then bif Pure.impl_in F x1 1 32 then bif Pure.impl_restOk F x2 x3 x4 x5 then Prod.fst (Pure.impl_BasinsOf_L0 F x0 x1 x2 x3 x4 x5 x1 (Int.toNat ((x1 - 0) + 1)) 0 []) else true else true else true
def c_impl_BasinsOf (F : FOps) : Con
  | [V.at (A.int .i64 x0), V.at (A.int .i64 x1), V.at (A.fl .f32 x2), V.at (A.fl .f32 x3), V.at (A.int .i64 x4), V.at (A.int .i64 x5)], [] => some (Pure.impl_BasinsOf_ok F x0 x1 x2 x3 x4 x5, ⟨V.tup [(false, [A.sl 0]), (false, [A.bool (Pure.impl_BasinsOf F x0 x1 x2 x3 x4 x5)])], none, [⟨true, .rows [K.i .i64] (Pure.impl_BasinsOf_1 F x0 x1 x2 x3 x4 x5)⟩]⟩)
  | _, _ => none
theorem e_impl_BasinsOf (F : FOps) (x0 x1 x2 x3 x4 x5 : Int) : Pure.impl_BasinsOf_ok F x0 x1 x2 x3 x4 x5 = true → evFn (cxS F tyl [(60, c_impl_gridOk F), (61, c_impl_restOk F), (63, c_impl_basinRow F), (62, c_slices_Concat_int64_int64 F)] [] [(0, S_impl_BasinsOf_L0 F)] 0) Try.f25 false [V.at (A.int .i64 x0), V.at (A.int .i64 x1), V.at (A.fl .f32 x2), V.at (A.fl .f32 x3), V.at (A.int .i64 x4), V.at (A.int .i64 x5)] [] = some ⟨V.tup [(false, [A.sl 0]), (false, [A.bool (Pure.impl_BasinsOf F x0 x1 x2 x3 x4 x5)])], none, [⟨true, .rows [K.i .i64] (Pure.impl_BasinsOf_1 F x0 x1 x2 x3 x4 x5)⟩]⟩ := by
  have h0 : evFn (cxS F tyl [(60, c_impl_gridOk F), (61, c_impl_restOk F), (63, c_impl_basinRow F), (62, c_slices_Concat_int64_int64 F)] [] [(0, S_impl_BasinsOf_L0 F)] 0) Try.f25 false [V.at (A.int .i64 x0), V.at (A.int .i64 x1), V.at (A.fl .f32 x2), V.at (A.fl .f32 x3), V.at (A.int .i64 x4), V.at (A.int .i64 x5)] [] = bif Bool.not (Pure.impl_in F x0 1 32) then some ⟨V.tup [(false, [A.sl 0]), (false, [A.bool false])], none, [⟨true, .rows [K.i .i64] []⟩]⟩ else bif Bool.not (Pure.impl_in F x1 1 32) then some ⟨V.tup [(false, [A.sl 0]), (false, [A.bool false])], none, [⟨true, .rows [K.i .i64] []⟩]⟩ else bif Bool.not (Pure.impl_restOk F x2 x3 x4 x5) then some ⟨V.tup [(false, [A.sl 0]), (false, [A.bool false])], none, [⟨true, .rows [K.i .i64] []⟩]⟩ else bif Prod.fst (Pure.impl_BasinsOf_L0 F x0 x1 x2 x3 x4 x5 x1 (Int.toNat ((x1 - 0) + 1)) 0 []) then some ⟨V.tup [(false, [A.sl 0]), (false, [A.bool true])], none, [⟨true, .rows [K.i .i64] (Prod.snd (Pure.impl_BasinsOf_L0 F x0 x1 x2 x3 x4 x5 x1 (Int.toNat ((x1 - 0) + 1)) 0 []))⟩]⟩ else none := by kernel_rfl
  rw [h0]
  unfold Pure.impl_BasinsOf Pure.impl_BasinsOf_1 Pure.impl_BasinsOf_ok
  cases (Pure.impl_in F x0 1 32) with
  | true =>
    cases (Pure.impl_in F x1 1 32) with
    | true =>
      cases (Pure.impl_restOk F x2 x3 x4 x5) with
      | true =>
        cases (Prod.fst (Pure.impl_BasinsOf_L0 F x0 x1 x2 x3 x4 x5 x1 (Int.toNat ((x1 - 0) + 1)) 0 [])) with
        | true =>
          intro _; rfl
        | false =>
          intro h; exact absurd h Bool.false_ne_true
      | false =>
        intro _; rfl
    | false =>
      intro _; rfl
  | false =>
    intro _; rfl
theorem ok_impl_BasinsOf : CallOK Try.prog 25 (c_impl_BasinsOf real) := by
  refine callOK_of fun args h ret hc => ?_
  unfold c_impl_BasinsOf at hc
  split at hc
  · rename_i x0 x1 x2 x3 x4 x5
    obtain ⟨hok, rfl⟩ := some_ret hc
    exact holds_ev prog_ok (allOK_cons ok_impl_gridOk (allOK_cons ok_impl_restOk (allOK_cons ok_impl_basinRow (allOK_cons ok_slices_Concat_int64_int64 allOK_nil)))) Try.func25 rfl rfl (smL_cons (body := .loop (loopB 0 (codeOf Try.f25))) (by kernel_rfl) t_impl_BasinsOf_L0 smL_nil) rfl (e_impl_BasinsOf real x0 x1 x2 x3 x4 x5 hok)
  · cases hc
def Pure.impl_BasinsShared (F : FOps) (x0 x1 x2 x3 x4 x5 x6 : Int) : Bool := bif Pure.impl_in F x6 1 8 then Pure.impl_BasinsOf F x0 x1 x2 x3 x4 x5 else false
def Pure.impl_BasinsShared_1 (F : FOps) (x0 x1 x2 x3 x4 x5 x6 : Int) : List (List Int) := bif Pure.impl_in F x6 1 8 then Pure.impl_BasinsOf_1 F x0 x1 x2 x3 x4 x5 else []
def Pure.impl_BasinsShared_ok (F : FOps) (x0 x1 x2 x3 x4 x5 x6 : Int) : Bool := bif Pure.impl_in F x6 1 8 then Pure.impl_BasinsOf_ok F x0 x1 x2 x3 x4 x5 else true
def c_impl_BasinsShared (F : FOps) : Con
  | [V.at (A.int .i64 x0), V.at (A.int .i64 x1), V.at (A.fl .f32 x2), V.at (A.fl .f32 x3), V.at (A.int .i64 x4), V.at (A.int .i64 x5), V.at (A.int .i64 x6)], [] => some (Pure.impl_BasinsShared_ok F x0 x1 x2 x3 x4 x5 x6, ⟨V.tup [(false, [A.sl 0]), (false, [A.bool (Pure.impl_BasinsShared F x0 x1 x2 x3 x4 x5 x6)])], none, [⟨true, .rows [K.i .i64] (Pure.impl_BasinsShared_1 F x0 x1 x2 x3 x4 x5 x6)⟩]⟩)
  | _, _ => none
theorem e_impl_BasinsShared (F : FOps) (x0 x1 x2 x3 x4 x5 x6 : Int) : Pure.impl_BasinsShared_ok F x0 x1 x2 x3 x4 x5 x6 = true → evFn (cxS F tyl [(51, c_impl_in F), (25, c_impl_BasinsOf F)] [] [] 0) Try.f26 false [V.at (A.int .i64 x0), V.at (A.int .i64 x1), V.at (A.fl .f32 x2), V.at (A.fl .f32 x3), V.at (A.int .i64 x4), V.at (A.int .i64 x5), V.at (A.int .i64 x6)] [] = some ⟨V.tup [(false, [A.sl 0]), (false, [A.bool (Pure.impl_BasinsShared F x0 x1 x2 x3 x4 x5 x6)])], none, [⟨true, .rows [K.i .i64] (Pure.impl_BasinsShared_1 F x0 x1 x2 x3 x4 x5 x6)⟩]⟩ := by
  have h0 : evFn (cxS F tyl [(51, c_impl_in F), (25, c_impl_BasinsOf F)] [] [] 0) Try.f26 false [V.at (A.int .i64 x0), V.at (A.int .i64 x1), V.at (A.fl .f32 x2), V.at (A.fl .f32 x3), V.at (A.int .i64 x4), V.at (A.int .i64 x5), V.at (A.int .i64 x6)] [] = bif Bool.not (Pure.impl_in F x6 1 8) then some ⟨V.tup [(false, [A.sl 0]), (false, [A.bool false])], none, [⟨true, .rows [K.i .i64] []⟩]⟩ else bif Pure.impl_BasinsOf_ok F x0 x1 x2 x3 x4 x5 then some ⟨V.tup [(false, [A.sl 0]), (false, [A.bool (Pure.impl_BasinsOf F x0 x1 x2 x3 x4 x5)])], none, [⟨true, .rows [K.i .i64] (Pure.impl_BasinsOf_1 F x0 x1 x2 x3 x4 x5)⟩]⟩ else none := by kernel_rfl
  rw [h0]
  unfold Pure.impl_BasinsShared Pure.impl_BasinsShared_1 Pure.impl_BasinsShared_ok
  cases (Pure.impl_in F x6 1 8) with
  | true =>
    cases (Pure.impl_BasinsOf_ok F x0 x1 x2 x3 x4 x5) with
    | true =>
      intro _; rfl
    | false =>
      intro h; exact absurd h Bool.false_ne_true
  | false =>
    intro _; rfl
theorem ok_impl_BasinsShared : CallOK Try.prog 26 (c_impl_BasinsShared real) := by
  refine callOK_of fun args h ret hc => ?_
  unfold c_impl_BasinsShared at hc
  split at hc
  · rename_i x0 x1 x2 x3 x4 x5 x6
    obtain ⟨hok, rfl⟩ := some_ret hc
    exact holds_ev prog_ok (allOK_cons ok_impl_in (allOK_cons ok_impl_BasinsOf allOK_nil)) Try.func26 rfl rfl smL_nil rfl (e_impl_BasinsShared real x0 x1 x2 x3 x4 x5 x6 hok)
  · cases hc
def Pure.laws_eqInt64S_L0 (F : FOps) (y1 y2 : List (List Int)) : Nat → Int → (Bool × Bool)
  | 0, _ => (false, false)
  | n + 1, y0 => bif (decide (y0 < (Int.ofNat y1.length))) then (bif (decide (0 ≤ y0)) then (bif (decide (y0 < (Int.ofNat y1.length))) then (bif (decide (0 ≤ y0)) then (bif (decide (y0 < (Int.ofNat y2.length))) then (bif (((y1.getD y0.toNat []).getD 0 0) != ((y2.getD y0.toNat []).getD 0 0)) then ((true, true)) else (Pure.laws_eqInt64S_L0 F y1 y2 n (IntKind.wrap .i64 (y0 + 1)))) else ((false, false))) else ((false, false))) else ((false, false))) else ((false, false))) else ((true, false))
def R_laws_eqInt64S_L0 (y1 y2 : List (List Int)) (r : (Bool × Bool)) : Bool × Ends := ((r).1, .two (r).2 (.one Ex.normal [V.at A.undef] [⟨false, .rows [K.i .i64] y1⟩, ⟨false, .rows [K.i .i64] y2⟩]) (.one Ex.ret [V.at (A.bool false)] [⟨false, .rows [K.i .i64] y1⟩, ⟨false, .rows [K.i .i64] y2⟩]))
def S_laws_eqInt64S_L0 (F : FOps) : Sm := ⟨[0, 1, 5], [40, 40, 3], [4], fun vals hp => match vals, hp with
  | [V.at (A.sl 0), V.at (A.sl 1), V.at (A.int .i64 y0)], [⟨false, .rows [K.i .i64] y1⟩, ⟨false, .rows [K.i .i64] y2⟩] => some (R_laws_eqInt64S_L0 y1 y2 (Pure.laws_eqInt64S_L0 F y1 y2 ((Int.ofNat y1.length) - y0 + 1).toNat y0))
  | _, _ => none⟩
theorem l_laws_eqInt64S_L0 (F : FOps) (y1 y2 : List (List Int)) : ∀ (fuel : Nat) (y0 : Int), (Pure.laws_eqInt64S_L0 F y1 y2 fuel y0).1 = true → loopOf (cxS F tyl [] [] [] 0) 2 26 0 [0, 1, 5] [40, 40, 3] [4] (loopB 0 (codeOf Try.f37)) fuel [V.at (A.sl 0), V.at (A.sl 1), V.at (A.int .i64 y0)] [⟨false, .rows [K.i .i64] y1⟩, ⟨false, .rows [K.i .i64] y2⟩] = resOf (R_laws_eqInt64S_L0 y1 y2 (Pure.laws_eqInt64S_L0 F y1 y2 fuel y0)) := by
  intro fuel
  induction fuel with
  | zero => intro y0 h; exact absurd h Bool.false_ne_true
  | succ n ih =>
    intro y0
    have h0 : roundOf (cxS F tyl [] [] [] 0) 2 26 0 [0, 1, 5] [40, 40, 3] [4] (loopB 0 (codeOf Try.f37)) [V.at (A.sl 0), V.at (A.sl 1), V.at (A.int .i64 y0)] [⟨false, .rows [K.i .i64] y1⟩, ⟨false, .rows [K.i .i64] y2⟩] = (bif decide (y0 < (Int.ofNat y1.length)) then bif decide (0 ≤ y0) then bif decide (y0 < (Int.ofNat y1.length)) then bif decide (0 ≤ y0) then bif decide (y0 < (Int.ofNat y2.length)) then bif ((y1.getD y0.toNat []).getD 0 0) != ((y2.getD y0.toNat []).getD 0 0) then some (false, (Ex.ret, ([V.at (A.bool false)], [⟨false, .rows [K.i .i64] y1⟩, ⟨false, .rows [K.i .i64] y2⟩]))) else some (true, (Ex.normal, ([V.at (A.sl 0), V.at (A.sl 1), V.at (A.int .i64 (IntKind.wrap .i64 (y0 + 1)))], [⟨false, .rows [K.i .i64] y1⟩, ⟨false, .rows [K.i .i64] y2⟩]))) else none else none else none else none else some (false, (Ex.normal, ([V.at A.undef], [⟨false, .rows [K.i .i64] y1⟩, ⟨false, .rows [K.i .i64] y2⟩])))) := by kernel_rfl
    unfold loopOf
    rw [h0]
    unfold Pure.laws_eqInt64S_L0
    cases (decide (y0 < (Int.ofNat y1.length))) with
    | true =>
      cases (decide (0 ≤ y0)) with
      | true =>
        cases (decide (y0 < (Int.ofNat y2.length))) with
        | true =>
          cases (((y1.getD y0.toNat []).getD 0 0) != ((y2.getD y0.toNat []).getD 0 0)) with
          | true =>
            intro _; rfl
          | false =>
            exact ih _
        | false =>
          intro h; exact absurd h Bool.false_ne_true
      | false =>
        intro h; exact absurd h Bool.false_ne_true
    | false =>
      intro _; rfl
theorem t_laws_eqInt64S_L0 : SmTo Try.prog 2 26 (S_laws_eqInt64S_L0 real) 0 (.loop (loopB 0 (codeOf Try.f37))) := by
  refine smTo_ev (cl := []) (ef := []) (sm := []) (un := 0) prog_ok allOK_nil smL_nil ?_
  intro vals hp q r h hq
  unfold S_laws_eqInt64S_L0 at h
  dsimp only at h
  split at h
  · rename_i y0 y1 y2
    obtain rfl := Option.some.inj h
    have h1 := hq
    unfold resOf at h1
    rw [chk_some] at h1
    exact ⟨_, (l_laws_eqInt64S_L0 real y1 y2 _ y0 h1.1).trans hq⟩
  · cases h
def Pure.laws_eqInt64S (F : FOps) (x0 x1 : List (List Int)) : Bool := bif (Int.ofNat x0.length) != (Int.ofNat x1.length) then false else bif Prod.snd (Pure.laws_eqInt64S_L0 F x0 x1 (Nat.succ (x0.length + 0)) 0) then false else true
def Pure.laws_eqInt64S_ok (F : FOps) (x0 x1 : List (List Int)) : Bool := bif (Int.ofNat x0.length) != (Int.ofNat x1.length) then true else Prod.fst (Pure.laws_eqInt64S_L0 F x0 x1 (Nat.succ (x0.length + 0)) 0)
def c_laws_eqInt64S (F : FOps) : Con
  | [V.at (A.sl 0), V.at (A.sl 1)], [⟨false, .rows [K.i .i64] x0⟩, ⟨false, .rows [K.i .i64] x1⟩] => some (Pure.laws_eqInt64S_ok F x0 x1, ⟨V.at (A.bool (Pure.laws_eqInt64S F x0 x1)), none, []⟩)
  | _, _ => none
theorem e_laws_eqInt64S (F : FOps) (x0 x1 : List (List Int)) : Pure.laws_eqInt64S_ok F x0 x1 = true → evFn (cxS F tyl [] [] [(0, S_laws_eqInt64S_L0 F)] 0) Try.f37 false [V.at (A.sl 0), V.at (A.sl 1)] [⟨false, .rows [K.i .i64] x0⟩, ⟨false, .rows [K.i .i64] x1⟩] = some ⟨V.at (A.bool (Pure.laws_eqInt64S F x0 x1)), none, []⟩ := by
  have h0 : evFn (cxS F tyl [] [] [(0, S_laws_eqInt64S_L0 F)] 0) Try.f37 false [V.at (A.sl 0), V.at (A.sl 1)] [⟨false, .rows [K.i .i64] x0⟩, ⟨false, .rows [K.i .i64] x1⟩] = bif (Int.ofNat x0.length) != (Int.ofNat x1.length) then some ⟨V.at (A.bool false), none, []⟩ else bif Prod.fst (Pure.laws_eqInt64S_L0 F x0 x1 (Nat.succ (x0.length + 0)) 0) then bif Prod.snd (Pure.laws_eqInt64S_L0 F x0 x1 (Nat.succ (x0.length + 0)) 0) then some ⟨V.at (A.bool false), none, []⟩ else some ⟨V.at (A.bool true), none, []⟩ else none := by kernel_rfl
  rw [h0]
  unfold Pure.laws_eqInt64S Pure.laws_eqInt64S_ok
  cases ((Int.ofNat x0.length) != (Int.ofNat x1.length)) with
  | true =>
    intro _; rfl
  | false =>
    cases (Prod.fst (Pure.laws_eqInt64S_L0 F x0 x1 (Nat.succ (x0.length + 0)) 0)) with
    | true =>
      cases (Prod.snd (Pure.laws_eqInt64S_L0 F x0 x1 (Nat.succ (x0.length + 0)) 0)) with
      | true =>
        intro _; rfl
      | false =>
        intro _; rfl
    | false =>
      intro h; exact absurd h Bool.false_ne_true
theorem ok_laws_eqInt64S : CallOK Try.prog 37 (c_laws_eqInt64S real) := by
  refine callOK_of fun args h ret hc => ?_
  unfold c_laws_eqInt64S at hc
  split at hc
  · rename_i x0 x1
    obtain ⟨hok, rfl⟩ := some_ret hc
    exact holds_ev prog_ok allOK_nil Try.func37 rfl rfl (smL_cons (body := .loop (loopB 0 (codeOf Try.f37))) (by kernel_rfl) t_laws_eqInt64S_L0 smL_nil) rfl (e_laws_eqInt64S real x0 x1 hok)
  · cases hc
def Pure.laws_markInt64S_L0 (F : FOps) : Nat → Int → Int → (List (List Int)) → (Bool × Int × (List (List Int)))
  | 0, _, _, _ => (false, 0, [])
  | n + 1, y0, y1, y2 => bif (decide (y1 < (Int.ofNat y2.length))) then (bif (decide (0 ≤ y1)) then (bif (decide (y1 < (Int.ofNat y2.length))) then (Pure.laws_markInt64S_L0 F  n (IntKind.wrap .i64 (y0 + 1)) (IntKind.wrap .i64 (y1 + 1)) (List.set y2 (Int.toNat y1) [y0])) else ((false, 0, []))) else ((false, 0, []))) else ((true, y0, y2))
def R_laws_markInt64S_L0 (r : (Bool × Int × (List (List Int)))) : Bool × Ends := ((r).1, (.one Ex.normal [V.at (A.int .i64 (r).2.1)] [⟨true, .rows [K.i .i64] (r).2.2⟩]))
def S_laws_markInt64S_L0 (F : FOps) : Sm := ⟨[0, 1, 5], [40, 3, 3], [1], fun vals hp => match vals, hp with
  | [V.at (A.sl 0), V.at (A.int .i64 y0), V.at (A.int .i64 y1)], [⟨true, .rows [K.i .i64] y2⟩] => some (R_laws_markInt64S_L0  (Pure.laws_markInt64S_L0 F  ((Int.ofNat y2.length) - y1 + 1).toNat y0 y1 y2))
  | _, _ => none⟩
theorem l_laws_markInt64S_L0 (F : FOps) : ∀ (fuel : Nat) (y0 y1 : Int) (y2 : List (List Int)), (Pure.laws_markInt64S_L0 F  fuel y0 y1 y2).1 = true → loopOf (cxS F tyl [] [] [] 0) 1 19 0 [0, 1, 5] [40, 3, 3] [1] (loopB 0 (codeOf Try.f38)) fuel [V.at (A.sl 0), V.at (A.int .i64 y0), V.at (A.int .i64 y1)] [⟨true, .rows [K.i .i64] y2⟩] = resOf (R_laws_markInt64S_L0  (Pure.laws_markInt64S_L0 F  fuel y0 y1 y2)) := by
  intro fuel
  induction fuel with
  | zero => intro y0 y1 y2 h; exact absurd h Bool.false_ne_true
  | succ n ih =>
    intro y0 y1 y2
    have h0 : roundOf (cxS F tyl [] [] [] 0) 1 19 0 [0, 1, 5] [40, 3, 3] [1] (loopB 0 (codeOf Try.f38)) [V.at (A.sl 0), V.at (A.int .i64 y0), V.at (A.int .i64 y1)] [⟨true, .rows [K.i .i64] y2⟩] = (bif decide (y1 < (Int.ofNat y2.length)) then bif decide (0 ≤ y1) then bif decide (y1 < (Int.ofNat y2.length)) then some (true, (Ex.normal, ([V.at (A.sl 0), V.at (A.int .i64 (IntKind.wrap .i64 (y0 + 1))), V.at (A.int .i64 (IntKind.wrap .i64 (y1 + 1)))], [⟨true, .rows [K.i .i64] (List.set y2 (Int.toNat y1) [y0])⟩]))) else none else none else some (false, (Ex.normal, ([V.at (A.int .i64 y0)], [⟨true, .rows [K.i .i64] y2⟩])))) := by kernel_rfl
    unfold loopOf
    rw [h0]
    unfold Pure.laws_markInt64S_L0
    cases (decide (y1 < (Int.ofNat y2.length))) with
    | true =>
      cases (decide (0 ≤ y1)) with
      | true =>
        exact ih _ _ _
      | false =>
        intro h; exact absurd h Bool.false_ne_true
    | false =>
      intro _; rfl
theorem t_laws_markInt64S_L0 : SmTo Try.prog 1 19 (S_laws_markInt64S_L0 real) 0 (.loop (loopB 0 (codeOf Try.f38))) := by
  refine smTo_ev (cl := []) (ef := []) (sm := []) (un := 0) prog_ok allOK_nil smL_nil ?_
  intro vals hp q r h hq
  unfold S_laws_markInt64S_L0 at h
  dsimp only at h
  split at h
  · rename_i y0 y1 y2
    obtain rfl := Option.some.inj h
    have h1 := hq
    unfold resOf at h1
    rw [chk_some] at h1
    exact ⟨_, (l_laws_markInt64S_L0 real _ y0 y1 y2 h1.1).trans hq⟩
  · cases h
def Pure.laws_markInt64S (F : FOps) (x0 : List (List Int)) (x1 : Int) : Int := Prod.fst (Prod.snd (Pure.laws_markInt64S_L0 F (Nat.succ (x0.length + 0)) x1 0 x0))
def Pure.laws_markInt64S_1 (F : FOps) (x0 : List (List Int)) (x1 : Int) : List (List Int) := Prod.snd (Prod.snd (Pure.laws_markInt64S_L0 F (Nat.succ (x0.length + 0)) x1 0 x0))
def Pure.laws_markInt64S_ok (F : FOps) (x0 : List (List Int)) (x1 : Int) : Bool := Prod.fst (Pure.laws_markInt64S_L0 F (Nat.succ (x0.length + 0)) x1 0 x0)
def c_laws_markInt64S (F : FOps) : Con
  | [V.at (A.sl 0), V.at (A.int .i64 x1)], [⟨true, .rows [K.i .i64] x0⟩] => some (Pure.laws_markInt64S_ok F x0 x1, ⟨V.at (A.int .i64 (Pure.laws_markInt64S F x0 x1)), some [⟨true, .rows [K.i .i64] (Pure.laws_markInt64S_1 F x0 x1)⟩], []⟩)
  | _, _ => none
theorem e_laws_markInt64S (F : FOps) (x0 : List (List Int)) (x1 : Int) : Pure.laws_markInt64S_ok F x0 x1 = true → evFn (cxS F tyl [] [] [(0, S_laws_markInt64S_L0 F)] 0) Try.f38 true [V.at (A.sl 0), V.at (A.int .i64 x1)] [⟨true, .rows [K.i .i64] x0⟩] = some ⟨V.at (A.int .i64 (Pure.laws_markInt64S F x0 x1)), some [⟨true, .rows [K.i .i64] (Pure.laws_markInt64S_1 F x0 x1)⟩], []⟩ := by
  have h0 : evFn (cxS F tyl [] [] [(0, S_laws_markInt64S_L0 F)] 0) Try.f38 true [V.at (A.sl 0), V.at (A.int .i64 x1)] [⟨true, .rows [K.i .i64] x0⟩] = bif Prod.fst (Pure.laws_markInt64S_L0 F (Nat.succ (x0.length + 0)) x1 0 x0) then some ⟨V.at (A.int .i64 (Prod.fst (Prod.snd (Pure.laws_markInt64S_L0 F (Nat.succ (x0.length + 0)) x1 0 x0)))), some [⟨true, .rows [K.i .i64] (Prod.snd (Prod.snd (Pure.laws_markInt64S_L0 F (Nat.succ (x0.length + 0)) x1 0 x0)))⟩], []⟩ else none := by kernel_rfl
  rw [h0]
  unfold Pure.laws_markInt64S Pure.laws_markInt64S_1 Pure.laws_markInt64S_ok
  cases (Prod.fst (Pure.laws_markInt64S_L0 F (Nat.succ (x0.length + 0)) x1 0 x0)) with
  | true =>
    intro _; rfl
  | false =>
    intro h; exact absurd h Bool.false_ne_true
theorem ok_laws_markInt64S : CallOK Try.prog 38 (c_laws_markInt64S real) := by
  refine callOK_of fun args h ret hc => ?_
  unfold c_laws_markInt64S at hc
  split at hc
  · rename_i x1 x0
    obtain ⟨hok, rfl⟩ := some_ret hc
    exact holdsE_ev prog_ok allOK_nil Try.func38 rfl rfl (smL_cons (body := .loop (loopB 0 (codeOf Try.f38))) (by kernel_rfl) t_laws_markInt64S_L0 smL_nil) (e_laws_markInt64S real x0 x1 hok)
  · cases hc
def Pure.laws_heldInt64S_L0 (F : FOps) (y2 : List (List Int)) : Nat → Int → Int → (Bool × Bool × Int × Int)
  | 0, _, _ => (false, false, 0, 0)
  | n + 1, y0, y1 => bif (decide (y1 < (Int.ofNat y2.length))) then (bif (decide (0 ≤ y1)) then (bif (decide (y1 < (Int.ofNat y2.length))) then (bif (((y2.getD y1.toNat []).getD 0 0) != y0) then ((true, true, 0, y0)) else (Pure.laws_heldInt64S_L0 F y2 n (IntKind.wrap .i64 (y0 + 1)) (IntKind.wrap .i64 (y1 + 1)))) else ((false, false, 0, 0))) else ((false, false, 0, 0))) else ((true, false, y0, 0))
def R_laws_heldInt64S_L0 (y2 : List (List Int)) (r : (Bool × Bool × Int × Int)) : Bool × Ends := ((r).1, .two (r).2.1 (.one Ex.normal [V.at (A.int .i64 (r).2.2.1), V.at A.undef] [⟨false, .rows [K.i .i64] y2⟩]) (.one Ex.ret [V.at (A.int .i64 (r).2.2.2), V.at (A.int .i64 (-1))] [⟨false, .rows [K.i .i64] y2⟩]))
def S_laws_heldInt64S_L0 (F : FOps) : Sm := ⟨[0, 1, 5], [40, 3, 3], [1, 4], fun vals hp => match vals, hp with
  | [V.at (A.sl 0), V.at (A.int .i64 y0), V.at (A.int .i64 y1)], [⟨false, .rows [K.i .i64] y2⟩] => some (R_laws_heldInt64S_L0 y2 (Pure.laws_heldInt64S_L0 F y2 ((Int.ofNat y2.length) - y1 + 1).toNat y0 y1))
  | _, _ => none⟩
theorem l_laws_heldInt64S_L0 (F : FOps) (y2 : List (List Int)) : ∀ (fuel : Nat) (y0 y1 : Int), (Pure.laws_heldInt64S_L0 F y2 fuel y0 y1).1 = true → loopOf (cxS F tyl [] [] [] 0) 1 21 0 [0, 1, 5] [40, 3, 3] [1, 4] (loopB 0 (codeOf Try.f39)) fuel [V.at (A.sl 0), V.at (A.int .i64 y0), V.at (A.int .i64 y1)] [⟨false, .rows [K.i .i64] y2⟩] = resOf (R_laws_heldInt64S_L0 y2 (Pure.laws_heldInt64S_L0 F y2 fuel y0 y1)) := by
  intro fuel
  induction fuel with
  | zero => intro y0 y1 h; exact absurd h Bool.false_ne_true
  | succ n ih =>
    intro y0 y1
    have h0 : roundOf (cxS F tyl [] [] [] 0) 1 21 0 [0, 1, 5] [40, 3, 3] [1, 4] (loopB 0 (codeOf Try.f39)) [V.at (A.sl 0), V.at (A.int .i64 y0), V.at (A.int .i64 y1)] [⟨false, .rows [K.i .i64] y2⟩] = (bif decide (y1 < (Int.ofNat y2.length)) then bif decide (0 ≤ y1) then bif decide (y1 < (Int.ofNat y2.length)) then bif ((y2.getD y1.toNat []).getD 0 0) != y0 then some (false, (Ex.ret, ([V.at (A.int .i64 y0), V.at (A.int .i64 (-1))], [⟨false, .rows [K.i .i64] y2⟩]))) else some (true, (Ex.normal, ([V.at (A.sl 0), V.at (A.int .i64 (IntKind.wrap .i64 (y0 + 1))), V.at (A.int .i64 (IntKind.wrap .i64 (y1 + 1)))], [⟨false, .rows [K.i .i64] y2⟩]))) else none else none else some (false, (Ex.normal, ([V.at (A.int .i64 y0), V.at A.undef], [⟨false, .rows [K.i .i64] y2⟩])))) := by kernel_rfl
    unfold loopOf
    rw [h0]
    unfold Pure.laws_heldInt64S_L0
    cases (decide (y1 < (Int.ofNat y2.length))) with
    | true =>
      cases (decide (0 ≤ y1)) with
      | true =>
        cases (((y2.getD y1.toNat []).getD 0 0) != y0) with
        | true =>
          intro _; rfl
        | false =>
          exact ih _ _
      | false =>
        intro h; exact absurd h Bool.false_ne_true
    | false =>
      intro _; rfl
theorem t_laws_heldInt64S_L0 : SmTo Try.prog 1 21 (S_laws_heldInt64S_L0 real) 0 (.loop (loopB 0 (codeOf Try.f39))) := by
  refine smTo_ev (cl := []) (ef := []) (sm := []) (un := 0) prog_ok allOK_nil smL_nil ?_
  intro vals hp q r h hq
  unfold S_laws_heldInt64S_L0 at h
  dsimp only at h
  split at h
  · rename_i y0 y1 y2
    obtain rfl := Option.some.inj h
    have h1 := hq
    unfold resOf at h1
    rw [chk_some] at h1
    exact ⟨_, (l_laws_heldInt64S_L0 real y2 _ y0 y1 h1.1).trans hq⟩
  · cases h
def Pure.laws_heldInt64S (F : FOps) (x0 : List (List Int)) (x1 : Int) : Int := bif Prod.fst (Prod.snd (Pure.laws_heldInt64S_L0 F x0 (Nat.succ (x0.length + 0)) x1 0)) then (-1) else Prod.fst (Prod.snd (Prod.snd (Pure.laws_heldInt64S_L0 F x0 (Nat.succ (x0.length + 0)) x1 0)))
def Pure.laws_heldInt64S_ok (F : FOps) (x0 : List (List Int)) (x1 : Int) : Bool := Prod.fst (Pure.laws_heldInt64S_L0 F x0 (Nat.succ (x0.length + 0)) x1 0)
def c_laws_heldInt64S (F : FOps) : Con
  | [V.at (A.sl 0), V.at (A.int .i64 x1)], [⟨false, .rows [K.i .i64] x0⟩] => some (Pure.laws_heldInt64S_ok F x0 x1, ⟨V.at (A.int .i64 (Pure.laws_heldInt64S F x0 x1)), none, []⟩)
  | _, _ => none
theorem e_laws_heldInt64S (F : FOps) (x0 : List (List Int)) (x1 : Int) : Pure.laws_heldInt64S_ok F x0 x1 = true → evFn (cxS F tyl [] [] [(0, S_laws_heldInt64S_L0 F)] 0) Try.f39 false [V.at (A.sl 0), V.at (A.int .i64 x1)] [⟨false, .rows [K.i .i64] x0⟩] = some ⟨V.at (A.int .i64 (Pure.laws_heldInt64S F x0 x1)), none, []⟩ := by
  have h0 : evFn (cxS F tyl [] [] [(0, S_laws_heldInt64S_L0 F)] 0) Try.f39 false [V.at (A.sl 0), V.at (A.int .i64 x1)] [⟨false, .rows [K.i .i64] x0⟩] = bif Prod.fst (Pure.laws_heldInt64S_L0 F x0 (Nat.succ (x0.length + 0)) x1 0) then bif Prod.fst (Prod.snd (Pure.laws_heldInt64S_L0 F x0 (Nat.succ (x0.length + 0)) x1 0)) then some ⟨V.at (A.int .i64 (-1)), none, []⟩ else some ⟨V.at (A.int .i64 (Prod.fst (Prod.snd (Prod.snd (Pure.laws_heldInt64S_L0 F x0 (Nat.succ (x0.length + 0)) x1 0))))), none, []⟩ else none := by kernel_rfl
  rw [h0]
  unfold Pure.laws_heldInt64S Pure.laws_heldInt64S_ok
  cases (Prod.fst (Pure.laws_heldInt64S_L0 F x0 (Nat.succ (x0.length + 0)) x1 0)) with
  | true =>
    cases (Prod.fst (Prod.snd (Pure.laws_heldInt64S_L0 F x0 (Nat.succ (x0.length + 0)) x1 0))) with
    | true =>
      intro _; rfl
    | false =>
      intro _; rfl
  | false =>
    intro h; exact absurd h Bool.false_ne_true
theorem ok_laws_heldInt64S : CallOK Try.prog 39 (c_laws_heldInt64S real) := by
  refine callOK_of fun args h ret hc => ?_
  unfold c_laws_heldInt64S at hc
  split at hc
  · rename_i x1 x0
    obtain ⟨hok, rfl⟩ := some_ret hc
    exact holds_ev prog_ok allOK_nil Try.func39 rfl rfl (smL_cons (body := .loop (loopB 0 (codeOf Try.f39))) (by kernel_rfl) t_laws_heldInt64S_L0 smL_nil) rfl (e_laws_heldInt64S real x0 x1 hok)
  · cases hc
def Pure.laws_FnExactBasinsShared (F : FOps) (x0 x1 x2 x3 x4 x5 x6 : Int) : Bool := bif Pure.laws_eqInt64S F (Pure.impl_BasinsShared_1 F x0 x1 x2 x3 x4 x5 x6) (Pure.spec_BasinsShared_1 F x0 x1 x2 x3 x4 x5 x6) then bif (Pure.impl_BasinsShared F x0 x1 x2 x3 x4 x5 x6) == (Pure.spec_BasinsShared F x0 x1 x2 x3 x4 x5 x6) then bif decide ((Pure.laws_heldInt64S F (Pure.laws_markInt64S_1 F (Pure.impl_BasinsShared_1 F x0 x1 x2 x3 x4 x5 x6) 1) 1) < 0) then false else bif (Pure.laws_heldInt64S F (Pure.laws_markInt64S_1 F (Pure.impl_BasinsShared_1 F x0 x1 x2 x3 x4 x5 x6) 1) 1) != (Pure.laws_markInt64S F (Pure.impl_BasinsShared_1 F x0 x1 x2 x3 x4 x5 x6) 1) then false else true else false else false
def Pure.laws_FnExactBasinsShared_ok (F : FOps) (x0 x1 x2 x3 x4 x5 x6 : Int) : Bool := bif Pure.spec_BasinsShared_ok F x0 x1 x2 x3 x4 x5 x6 then bif Pure.impl_BasinsShared_ok F x0 x1 x2 x3 x4 x5 x6 then bif Pure.laws_eqInt64S_ok F (Pure.impl_BasinsShared_1 F x0 x1 x2 x3 x4 x5 x6) (Pure.spec_BasinsShared_1 F x0 x1 x2 x3 x4 x5 x6) then bif Pure.laws_eqInt64S F (Pure.impl_BasinsShared_1 F x0 x1 x2 x3 x4 x5 x6) (Pure.spec_BasinsShared_1 F x0 x1 x2 x3 x4 x5 x6) then bif (Pure.impl_BasinsShared F x0 x1 x2 x3 x4 x5 x6) == (Pure.spec_BasinsShared F x0 x1 x2 x3 x4 x5 x6) then bif Pure.laws_markInt64S_ok F (Pure.impl_BasinsShared_1 F x0 x1 x2 x3 x4 x5 x6) 1 then Pure.laws_heldInt64S_ok F (Pure.laws_markInt64S_1 F (Pure.impl_BasinsShared_1 F x0 x1 x2 x3 x4 x5 x6) 1) 1 else false else true else true else false else false else false
def c_laws_FnExactBasinsShared (F : FOps) : Con
  | [V.at (A.int .i64 x0), V.at (A.int .i64 x1), V.at (A.fl .f32 x2), V.at (A.fl .f32 x3), V.at (A.int .i64 x4), V.at (A.int .i64 x5), V.at (A.int .i64 x6)], [] => some (Pure.laws_FnExactBasinsShared_ok F x0 x1 x2 x3 x4 x5 x6, ⟨V.at (A.bool (Pure.laws_FnExactBasinsShared F x0 x1 x2 x3 x4 x5 x6)), none, []⟩)
  | _, _ => none
theorem e_laws_FnExactBasinsShared (F : FOps) (x0 x1 x2 x3 x4 x5 x6 : Int) : Pure.laws_FnExactBasinsShared_ok F x0 x1 x2 x3 x4 x5 x6 = true → evFn (cxS F tyl [(36, c_spec_BasinsShared F), (26, c_impl_BasinsShared F), (37, c_laws_eqInt64S F), (38, c_laws_markInt64S F), (39, c_laws_heldInt64S F)] [38] [] 0) Try.f8 false [V.at (A.int .i64 x0), V.at (A.int .i64 x1), V.at (A.fl .f32 x2), V.at (A.fl .f32 x3), V.at (A.int .i64 x4), V.at (A.int .i64 x5), V.at (A.int .i64 x6)] [] = some ⟨V.at (A.bool (Pure.laws_FnExactBasinsShared F x0 x1 x2 x3 x4 x5 x6)), none, []⟩ := by
  have h0 : evFn (cxS F tyl [(36, c_spec_BasinsShared F), (26, c_impl_BasinsShared F), (37, c_laws_eqInt64S F), (38, c_laws_markInt64S F), (39, c_laws_heldInt64S F)] [38] [] 0) Try.f8 false [V.at (A.int .i64 x0), V.at (A.int .i64 x1), V.at (A.fl .f32 x2), V.at (A.fl .f32 x3), V.at (A.int .i64 x4), V.at (A.int .i64 x5), V.at (A.int .i64 x6)] [] = bif Pure.spec_BasinsShared_ok F x0 x1 x2 x3 x4 x5 x6 then bif Pure.impl_BasinsShared_ok F x0 x1 x2 x3 x4 x5 x6 then bif Pure.laws_eqInt64S_ok F (Pure.impl_BasinsShared_1 F x0 x1 x2 x3 x4 x5 x6) (Pure.spec_BasinsShared_1 F x0 x1 x2 x3 x4 x5 x6) then bif Bool.not (Pure.laws_eqInt64S F (Pure.impl_BasinsShared_1 F x0 x1 x2 x3 x4 x5 x6) (Pure.spec_BasinsShared_1 F x0 x1 x2 x3 x4 x5 x6)) then some ⟨V.at (A.bool false), none, []⟩ else bif Bool.not ((Pure.impl_BasinsShared F x0 x1 x2 x3 x4 x5 x6) == (Pure.spec_BasinsShared F x0 x1 x2 x3 x4 x5 x6)) then some ⟨V.at (A.bool false), none, []⟩ else bif Pure.laws_markInt64S_ok F (Pure.impl_BasinsShared_1 F x0 x1 x2 x3 x4 x5 x6) 1 then bif Pure.laws_heldInt64S_ok F (Pure.laws_markInt64S_1 F (Pure.impl_BasinsShared_1 F x0 x1 x2 x3 x4 x5 x6) 1) 1 then bif decide ((Pure.laws_heldInt64S F (Pure.laws_markInt64S_1 F (Pure.impl_BasinsShared_1 F x0 x1 x2 x3 x4 x5 x6) 1) 1) < 0) then some ⟨V.at (A.bool false), none, []⟩ else bif (Pure.laws_heldInt64S F (Pure.laws_markInt64S_1 F (Pure.impl_BasinsShared_1 F x0 x1 x2 x3 x4 x5 x6) 1) 1) != (Pure.laws_markInt64S F (Pure.impl_BasinsShared_1 F x0 x1 x2 x3 x4 x5 x6) 1) then some ⟨V.at (A.bool false), none, []⟩ else bif Pure.impl_BasinsShared_ok F x0 x1 x2 x3 x4 x5 x6 then bif Pure.laws_eqInt64S_ok F (Pure.impl_BasinsShared_1 F x0 x1 x2 x3 x4 x5 x6) (Pure.spec_BasinsShared_1 F x0 x1 x2 x3 x4 x5 x6) then bif Bool.not (Pure.laws_eqInt64S F (Pure.impl_BasinsShared_1 F x0 x1 x2 x3 x4 x5 x6) (Pure.spec_BasinsShared_1 F x0 x1 x2 x3 x4 x5 x6)) then some ⟨V.at (A.bool false), none, []⟩ else bif Bool.not ((Pure.impl_BasinsShared F x0 x1 x2 x3 x4 x5 x6) == (Pure.spec_BasinsShared F x0 x1 x2 x3 x4 x5 x6)) then some ⟨V.at (A.bool false), none, []⟩ else bif Pure.laws_heldInt64S_ok F (Pure.laws_markInt64S_1 F (Pure.impl_BasinsShared_1 F x0 x1 x2 x3 x4 x5 x6) 1) 1 then bif decide ((Pure.laws_heldInt64S F (Pure.laws_markInt64S_1 F (Pure.impl_BasinsShared_1 F x0 x1 x2 x3 x4 x5 x6) 1) 1) < 0) then some ⟨V.at (A.bool false), none, []⟩ else bif (Pure.laws_heldInt64S F (Pure.laws_markInt64S_1 F (Pure.impl_BasinsShared_1 F x0 x1 x2 x3 x4 x5 x6) 1) 1) != (Pure.laws_markInt64S F (Pure.impl_BasinsShared_1 F x0 x1 x2 x3 x4 x5 x6) 1) then some ⟨V.at (A.bool false), none, []⟩ else some ⟨V.at (A.bool true), none, []⟩ else none else none else none else none else none else none else none else none := by kernel_rfl
  rw [h0]
  unfold Pure.laws_FnExactBasinsShared Pure.laws_FnExactBasinsShared_ok
  cases (Pure.spec_BasinsShared_ok F x0 x1 x2 x3 x4 x5 x6) with
  | true =>
    cases (Pure.impl_BasinsShared_ok F x0 x1 x2 x3 x4 x5 x6) with
    | true =>
      cases (Pure.laws_eqInt64S_ok F (Pure.impl_BasinsShared_1 F x0 x1 x2 x3 x4 x5 x6) (Pure.spec_BasinsShared_1 F x0 x1 x2 x3 x4 x5 x6)) with
      | true =>
        cases (Pure.laws_eqInt64S F (Pure.impl_BasinsShared_1 F x0 x1 x2 x3 x4 x5 x6) (Pure.spec_BasinsShared_1 F x0 x1 x2 x3 x4 x5 x6)) with
        | true =>
          cases ((Pure.impl_BasinsShared F x0 x1 x2 x3 x4 x5 x6) == (Pure.spec_BasinsShared F x0 x1 x2 x3 x4 x5 x6)) with
          | true =>
            cases (Pure.laws_markInt64S_ok F (Pure.impl_BasinsShared_1 F x0 x1 x2 x3 x4 x5 x6) 1) with
            | true =>
              cases (Pure.laws_heldInt64S_ok F (Pure.laws_markInt64S_1 F (Pure.impl_BasinsShared_1 F x0 x1 x2 x3 x4 x5 x6) 1) 1) with
              | true =>
                cases (decide ((Pure.laws_heldInt64S F (Pure.laws_markInt64S_1 F (Pure.impl_BasinsShared_1 F x0 x1 x2 x3 x4 x5 x6) 1) 1) < 0)) with
                | true =>
                  intro _; rfl
                | false =>
                  cases ((Pure.laws_heldInt64S F (Pure.laws_markInt64S_1 F (Pure.impl_BasinsShared_1 F x0 x1 x2 x3 x4 x5 x6) 1) 1) != (Pure.laws_markInt64S F (Pure.impl_BasinsShared_1 F x0 x1 x2 x3 x4 x5 x6) 1)) with
                  | true =>
                    intro _; rfl
                  | false =>
                    intro _; rfl
              | false =>
                intro h; exact absurd h Bool.false_ne_true
            | false =>
              intro h; exact absurd h Bool.false_ne_true
          | false =>
            intro _; rfl
        | false =>
          intro _; rfl
      | false =>
        intro h; exact absurd h Bool.false_ne_true
    | false =>
      intro h; exact absurd h Bool.false_ne_true
  | false =>
    intro h; exact absurd h Bool.false_ne_true
theorem ok_laws_FnExactBasinsShared : CallOK Try.prog 8 (c_laws_FnExactBasinsShared real) := by
  refine callOK_of fun args h ret hc => ?_
  unfold c_laws_FnExactBasinsShared at hc
  split at hc
  · rename_i x0 x1 x2 x3 x4 x5 x6
    obtain ⟨hok, rfl⟩ := some_ret hc
    exact holds_ev prog_ok (allOK_cons ok_spec_BasinsShared (allOK_cons ok_impl_BasinsShared (allOK_cons ok_laws_eqInt64S (allOK_cons ok_laws_markInt64S (allOK_cons ok_laws_heldInt64S allOK_nil))))) Try.func8 rfl rfl smL_nil rfl (e_laws_FnExactBasinsShared real x0 x1 x2 x3 x4 x5 x6 hok)
  · cases hc
end Go.Fx
