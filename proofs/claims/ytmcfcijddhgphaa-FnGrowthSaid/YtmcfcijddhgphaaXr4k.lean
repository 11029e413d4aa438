import Derived.Test.YtmcfcijddhgphaaXr4h
import Derived.KernelRfl
namespace Go.Fx
open Go.Proofs
set_option maxRecDepth 100000
def Pure.math_Inf (F : FOps) (x0 : Int) : Int := bif decide (x0 ≥ 0) then F.ofBits .f64 9218868437227405312 else F.ofBits .f64 18442240474082181120
def c_math_Inf (F : FOps) : Con
  | [V.at (A.int .i64 x0)], [] => some (true, ⟨V.at (A.fl .f64 (Pure.math_Inf F x0)), none, []⟩)
  | _, _ => none
theorem e_math_Inf (F : FOps) (x0 : Int) : evFn (cxS F tyl [(130, c_math_Float64frombits F)] [] [] 0) Try.f121 false [V.at (A.int .i64 x0)] [] = some ⟨V.at (A.fl .f64 (Pure.math_Inf F x0)), none, []⟩ := by
  have h0 : evFn (cxS F tyl [(130, c_math_Float64frombits F)] [] [] 0) Try.f121 false [V.at (A.int .i64 x0)] [] = bif decide (x0 ≥ 0) then some ⟨V.at (A.fl .f64 (F.ofBits .f64 9218868437227405312)), none, []⟩ else some ⟨V.at (A.fl .f64 (F.ofBits .f64 18442240474082181120)), none, []⟩ := by kernel_rfl
  rw [h0]
  unfold Pure.math_Inf
  cases (decide (x0 ≥ 0)) with
  | true =>
    rfl
  | false =>
    rfl
theorem ok_math_Inf : CallOK Try.prog 121 (c_math_Inf real) := by
  refine callOK_of fun args h ret hc => ?_
  unfold c_math_Inf at hc
  split at hc
  · rename_i x0
    obtain ⟨_, rfl⟩ := some_ret hc
    exact holds_ev prog_ok (allOK_cons ok_math_Float64frombits allOK_nil) Try.func121 rfl rfl smL_nil rfl (e_math_Inf real x0)
  · cases hc
def Pure.impl_toldNumber (F : FOps) (x0 : Int) : Int := bif Pure.impl_IsFinite F x0 then x0 else 0
def c_impl_toldNumber (F : FOps) : Con
  | [V.at (A.fl .f32 x0)], [] => some (true, ⟨V.tup [(false, [A.fl .f32 (Pure.impl_toldNumber F x0)]), (false, [A.bool (Pure.impl_IsFinite F x0)])], none, []⟩)
  | _, _ => none
theorem e_impl_toldNumber (F : FOps) (x0 : Int) : evFn (cxS F tyl [(47, c_impl_IsFinite F)] [] [] 0) Try.f53 false [V.at (A.fl .f32 x0)] [] = some ⟨V.tup [(false, [A.fl .f32 (Pure.impl_toldNumber F x0)]), (false, [A.bool (Pure.impl_IsFinite F x0)])], none, []⟩ := by
  have h0 : evFn (cxS F tyl [(47, c_impl_IsFinite F)] [] [] 0) Try.f53 false [V.at (A.fl .f32 x0)] [] = bif Bool.not (Pure.impl_IsFinite F x0) then some ⟨V.tup [(false, [A.fl .f32 0]), (false, [A.bool false])], none, []⟩ else some ⟨V.tup [(false, [A.fl .f32 x0]), (false, [A.bool true])], none, []⟩ := by kernel_rfl
  rw [h0]
  unfold Pure.impl_toldNumber
  cases (Pure.impl_IsFinite F x0) with
  | true =>
    rfl
  | false =>
    rfl
theorem ok_impl_toldNumber : CallOK Try.prog 53 (c_impl_toldNumber real) := by
  refine callOK_of fun args h ret hc => ?_
  unfold c_impl_toldNumber at hc
  split at hc
  · rename_i x0
    obtain ⟨_, rfl⟩ := some_ret hc
    exact holds_ev prog_ok (allOK_cons ok_impl_IsFinite allOK_nil) Try.func53 rfl rfl smL_nil rfl (e_impl_toldNumber real x0)
  · cases hc
def Pure.impl_GrowNext (F : FOps) (x0 x1 : Int) : Int := bif Pure.impl_finite F [[x0], [x1]] then Pure.impl_toldNumber F (F.bin .mul .f32 (F.bin .mul .f32 x1 x0) (F.bin .sub .f32 1065353216 x0)) else 0
def Pure.impl_GrowNext_1 (F : FOps) (x0 x1 : Int) : Bool := bif Pure.impl_finite F [[x0], [x1]] then Pure.impl_IsFinite F (F.bin .mul .f32 (F.bin .mul .f32 x1 x0) (F.bin .sub .f32 1065353216 x0)) else false
def Pure.impl_GrowNext_ok (F : FOps) (x0 x1 : Int) : Bool := Pure.impl_finite_ok F [[x0], [x1]]
def c_impl_GrowNext (F : FOps) : Con
  | [V.at (A.fl .f32 x0), V.at (A.fl .f32 x1)], [] => some (Pure.impl_GrowNext_ok F x0 x1, ⟨V.tup [(false, [A.fl .f32 (Pure.impl_GrowNext F x0 x1)]), (false, [A.bool (Pure.impl_GrowNext_1 F x0 x1)])], none, []⟩)
  | _, _ => none
theorem e_impl_GrowNext (F : FOps) (x0 x1 : Int) : Pure.impl_GrowNext_ok F x0 x1 = true → evFn (cxS F tyl [(49, c_impl_finite F), (53, c_impl_toldNumber F)] [] [] 0) Try.f18 false [V.at (A.fl .f32 x0), V.at (A.fl .f32 x1)] [] = some ⟨V.tup [(false, [A.fl .f32 (Pure.impl_GrowNext F x0 x1)]), (false, [A.bool (Pure.impl_GrowNext_1 F x0 x1)])], none, []⟩ := by
  have h0 : evFn (cxS F tyl [(49, c_impl_finite F), (53, c_impl_toldNumber F)] [] [] 0) Try.f18 false [V.at (A.fl .f32 x0), V.at (A.fl .f32 x1)] [] = bif Pure.impl_finite_ok F [[x0], [x1]] then bif Bool.not (Pure.impl_finite F [[x0], [x1]]) then some ⟨V.tup [(false, [A.fl .f32 0]), (false, [A.bool false])], none, []⟩ else some ⟨V.tup [(false, [A.fl .f32 (Pure.impl_toldNumber F (F.bin .mul .f32 (F.bin .mul .f32 x1 x0) (F.bin .sub .f32 1065353216 x0)))]), (false, [A.bool (Pure.impl_IsFinite F (F.bin .mul .f32 (F.bin .mul .f32 x1 x0) (F.bin .sub .f32 1065353216 x0)))])], none, []⟩ else none := by kernel_rfl
  rw [h0]
  unfold Pure.impl_GrowNext Pure.impl_GrowNext_1 Pure.impl_GrowNext_ok
  cases (Pure.impl_finite_ok F [[x0], [x1]]) with
  | true =>
    cases (Pure.impl_finite F [[x0], [x1]]) with
    | true =>
      intro _; rfl
    | false =>
      intro _; rfl
  | false =>
    intro h; exact absurd h Bool.false_ne_true
theorem ok_impl_GrowNext : CallOK Try.prog 18 (c_impl_GrowNext real) := by
  refine callOK_of fun args h ret hc => ?_
  unfold c_impl_GrowNext at hc
  split at hc
  · rename_i x0 x1
    obtain ⟨hok, rfl⟩ := some_ret hc
    exact holds_ev prog_ok (allOK_cons ok_impl_finite (allOK_cons ok_impl_toldNumber allOK_nil)) Try.func18 rfl rfl smL_nil rfl (e_impl_GrowNext real x0 x1 hok)
  · cases hc
def c_slices_Clone_float32_float32 (_ : FOps) : Con
  | [V.at (A.sl 0)], [⟨false, .rows [K.f .f32] x0⟩] => some (decide (x0.length ≤ 1073741824), ⟨V.at (A.sl 1), none, [⟨true, .rows [K.f .f32] x0⟩]⟩)
  | _, _ => none
theorem ok_slices_Clone_float32_float32 : CallOK Try.prog 52 (c_slices_Clone_float32_float32 real) := by
  refine callOK_of fun args h ret hc => ?_
  unfold c_slices_Clone_float32_float32 at hc
  split at hc
  · rename_i x0
    obtain ⟨hok, rfl⟩ := some_ret hc
    refine holds_of_nilcmp (cx := cxS real tyl [] [] [] 0) (cxS_ok prog_ok.ty allOK_nil) prog_ok.mix Try.func52 (o0 := opC 0 (codeOf Try.f52)) (o1 := opC 1 (codeOf Try.f52)) (o2 := opC 2 (codeOf Try.f52)) (i0 := 0) (i1 := 1) (cnd := cndC (codeOf Try.f52)) (rest := endC (codeOf Try.f52)) (t := 30)
      (by kernel_rfl) (by decide) rfl ⟨by kernel_rfl, by kernel_rfl, by kernel_rfl⟩ ⟨by kernel_rfl, by kernel_rfl, by kernel_rfl⟩ ⟨by kernel_rfl, by kernel_rfl, by kernel_rfl⟩ ⟨24, by kernel_rfl⟩ (smL_sms smL_nil) ?_
    intro b hb
    cases b with
    | true => obtain rfl := hb rfl; kernel_rfl
    | false =>
      clear hb hc
      revert hok
      generalize hg : decide (x0.length ≤ 1073741824) = q
      intro hok
      subst hok
      have h0 : ∀ F : FOps, evC (cxS F tyl [] [] [] 0) 1 (restC (codeOf Try.f52)) ⟨[.at (.sl 0), .at .void, .at .nil, .at (.sl 0), .at (.bool false), .at .void, .at .void, .at .void], [⟨false, .rows [K.f .f32] x0⟩]⟩ (fun e st => match e with | .normal => finish (cxS F tyl [] [] [] 0) Try.f52 false 1 st | .ret => finish (cxS F tyl [] [] [] 0) Try.f52 false 1 st | .exit _ => none) = bif decide (x0.length ≤ 1073741824) then some ⟨V.at (A.sl 1), none, [⟨true, .rows [K.f .f32] x0⟩]⟩ else none := by
        intro F
        kernel_rfl
      rw [hg] at h0
      exact h0 real
  · cases hc
def Pure.impl_GrowOrbit_L0 (F : FOps) (y0 y1 y2 : Int) : Nat → Int → (List (List Int)) → (Bool × Bool × (List (List Int)) × (List (List Int)))
  | 0, _, _ => (false, false, [], [])
  | n + 1, y3, y4 => bif (decide (y3 < y2)) then (bif (decide (0 ≤ (IntKind.wrap .i64 ((Int.ofNat y4.length) - 1)))) then (bif (decide ((IntKind.wrap .i64 ((Int.ofNat y4.length) - 1)) < (Int.ofNat y4.length))) then (bif (Pure.impl_GrowNext_ok F (List.getD (List.getD y4 (Int.toNat (IntKind.wrap .i64 ((Int.ofNat y4.length) - 1))) []) 0 0) y0) then (bif (Pure.impl_GrowNext_1 F (List.getD (List.getD y4 (Int.toNat (IntKind.wrap .i64 ((Int.ofNat y4.length) - 1))) []) 0 0) y0) then (bif (decide ((Nat.succ y4.length) ≤ 1073741824)) then (Pure.impl_GrowOrbit_L0 F y0 y1 y2 n (IntKind.wrap .i64 (y3 + 1)) (y4 ++ [[Pure.impl_GrowNext F (List.getD (List.getD y4 (Int.toNat (IntKind.wrap .i64 ((Int.ofNat y4.length) - 1))) []) 0 0) y0]])) else ((false, false, [], []))) else ((true, true, [], y4))) else ((false, false, [], []))) else ((false, false, [], []))) else ((false, false, [], []))) else ((true, false, y4, []))
def R_impl_GrowOrbit_L0 (y1 : Int) (r : (Bool × Bool × (List (List Int)) × (List (List Int)))) : Bool × Bool × (Ex × List V × List Ob) × (Ex × List V × List Ob) := ((r).1, (r).2.1, (Ex.normal, [V.at (A.int .i64 y1), V.at A.undef, V.at A.undef, V.at (A.sl 0)], [⟨true, .rows [K.f .f32] (r).2.2.1⟩]), (Ex.ret, [V.at (A.int .i64 y1), V.at A.nil, V.at (A.bool false), V.at (A.sl 0)], [⟨true, .rows [K.f .f32] (r).2.2.2⟩]))
def S_impl_GrowOrbit_L0 (F : FOps) : Sm := ⟨[1, 2, 10, 33, 34], [24, 2, 30, 2, 2], [2, 8, 9, 10], fun vals hp => match vals, hp with
  | [V.at (A.fl .f32 y0), V.at (A.int .i64 y1), V.at (A.sl 0), V.at (A.int .i64 y2), V.at (A.int .i64 y3)], [⟨true, .rows [K.f .f32] y4⟩] => some (R_impl_GrowOrbit_L0 y1 (Pure.impl_GrowOrbit_L0 F y0 y1 y2 (y2 - y3 + 1).toNat y3 y4))
  | _, _ => none⟩
theorem l_impl_GrowOrbit_L0 (F : FOps) (y0 y1 y2 : Int) : ∀ (fuel : Nat) (y3 : Int) (y4 : List (List Int)), (Pure.impl_GrowOrbit_L0 F y0 y1 y2 fuel y3 y4).1 = true → loopOf (cxS F tyl [(49, c_impl_finite F), (51, c_impl_in F), (18, c_impl_GrowNext F), (52, c_slices_Clone_float32_float32 F)] [] [] 0) 0 58 0 [1, 2, 10, 33, 34] [24, 2, 30, 2, 2] [2, 8, 9, 10] (loopB 0 (codeOf Try.f17)) fuel [V.at (A.fl .f32 y0), V.at (A.int .i64 y1), V.at (A.sl 0), V.at (A.int .i64 y2), V.at (A.int .i64 y3)] [⟨true, .rows [K.f .f32] y4⟩] = resOf (R_impl_GrowOrbit_L0 y1 (Pure.impl_GrowOrbit_L0 F y0 y1 y2 fuel y3 y4)) := by
  intro fuel
  induction fuel with
  | zero => intro y3 y4 h; exact absurd h Bool.false_ne_true
  | succ n ih =>
    intro y3 y4
    have h0 : roundOf (cxS F tyl [(49, c_impl_finite F), (51, c_impl_in F), (18, c_impl_GrowNext F), (52, c_slices_Clone_float32_float32 F)] [] [] 0) 0 58 0 [1, 2, 10, 33, 34] [24, 2, 30, 2, 2] [2, 8, 9, 10] (loopB 0 (codeOf Try.f17)) [V.at (A.fl .f32 y0), V.at (A.int .i64 y1), V.at (A.sl 0), V.at (A.int .i64 y2), V.at (A.int .i64 y3)] [⟨true, .rows [K.f .f32] y4⟩] = (bif decide (y3 < y2) then bif decide (0 ≤ (IntKind.wrap .i64 ((Int.ofNat y4.length) - 1))) then bif decide ((IntKind.wrap .i64 ((Int.ofNat y4.length) - 1)) < (Int.ofNat y4.length)) then bif Pure.impl_GrowNext_ok F (List.getD (List.getD y4 (Int.toNat (IntKind.wrap .i64 ((Int.ofNat y4.length) - 1))) []) 0 0) y0 then bif Bool.not (Pure.impl_GrowNext_1 F (List.getD (List.getD y4 (Int.toNat (IntKind.wrap .i64 ((Int.ofNat y4.length) - 1))) []) 0 0) y0) then some (false, (Ex.ret, ([V.at (A.int .i64 y1), V.at A.nil, V.at (A.bool false), V.at (A.sl 0)], [⟨true, .rows [K.f .f32] y4⟩]))) else bif decide ((Nat.succ y4.length) ≤ 1073741824) then some (true, (Ex.normal, ([V.at (A.fl .f32 y0), V.at (A.int .i64 y1), V.at (A.sl 0), V.at (A.int .i64 y2), V.at (A.int .i64 (IntKind.wrap .i64 (y3 + 1)))], [⟨true, .rows [K.f .f32] (y4 ++ [[Pure.impl_GrowNext F (List.getD (List.getD y4 (Int.toNat (IntKind.wrap .i64 ((Int.ofNat y4.length) - 1))) []) 0 0) y0]])⟩]))) else none else none else none else none else some (false, (Ex.normal, ([V.at (A.int .i64 y1), V.at A.undef, V.at A.undef, V.at (A.sl 0)], [⟨true, .rows [K.f .f32] y4⟩])))) := by kernel_rfl
    unfold loopOf
    rw [h0]
    unfold Pure.impl_GrowOrbit_L0
    cases (decide (y3 < y2)) with
    | true =>
      cases (decide (0 ≤ (IntKind.wrap .i64 ((Int.ofNat y4.length) - 1)))) with
      | true =>
        cases (decide ((IntKind.wrap .i64 ((Int.ofNat y4.length) - 1)) < (Int.ofNat y4.length))) with
        | true =>
          cases (Pure.impl_GrowNext_ok F (List.getD (List.getD y4 (Int.toNat (IntKind.wrap .i64 ((Int.ofNat y4.length) - 1))) []) 0 0) y0) with
          | true =>
            cases (Pure.impl_GrowNext_1 F (List.getD (List.getD y4 (Int.toNat (IntKind.wrap .i64 ((Int.ofNat y4.length) - 1))) []) 0 0) y0) with
            | true =>
              cases (decide ((Nat.succ y4.length) ≤ 1073741824)) with
              | true =>
                exact ih _ _
              | false =>
                intro h; exact absurd h Bool.false_ne_true
            | false =>
              intro _; rfl
          | false =>
            intro h; exact absurd h Bool.false_ne_true
        | false =>
          intro h; exact absurd h Bool.false_ne_true
      | false =>
        intro h; exact absurd h Bool.false_ne_true
    | false =>
      intro _; rfl
theorem t_impl_GrowOrbit_L0 : SmTo Try.prog 0 58 (S_impl_GrowOrbit_L0 real) 0 (.loop (loopB 0 (codeOf Try.f17))) := by
  refine smTo_ev (cl := [(49, c_impl_finite real), (51, c_impl_in real), (18, c_impl_GrowNext real), (52, c_slices_Clone_float32_float32 real)]) (ef := []) (sm := []) (un := 0) prog_ok (allOK_cons ok_impl_finite (allOK_cons ok_impl_in (allOK_cons ok_impl_GrowNext (allOK_cons ok_slices_Clone_float32_float32 allOK_nil)))) smL_nil ?_
  intro vals hp q r h hq
  unfold S_impl_GrowOrbit_L0 at h
  dsimp only at h
  split at h
  · rename_i y0 y1 y2 y3 y4
    obtain rfl := Option.some.inj h
    have h1 := hq
    unfold resOf at h1
    rw [chk_some] at h1
    exact ⟨_, (l_impl_GrowOrbit_L0 real y0 y1 y2 _ y3 y4 h1.1).trans hq⟩
  · cases h
def Pure.impl_GrowOrbit (F : FOps) (x0 x1 x2 x3 : Int) : Bool := bif Pure.impl_finite F [[x0], [x1]] then bif Pure.impl_in F x2 0 128 then bif Pure.impl_in F x3 1 128 then bif Prod.fst (Prod.snd (Pure.impl_GrowOrbit_L0 F x1 x2 (IntKind.wrap .i64 ((IntKind.wrap .i64 (x2 + x3)) - 1)) (Int.toNat (((IntKind.wrap .i64 ((IntKind.wrap .i64 (x2 + x3)) - 1)) - 0) + 1)) 0 [[x0]])) then false else true else false else false else false
def Pure.impl_GrowOrbit_1 (F : FOps) (x0 x1 x2 x3 : Int) : List (List Int) := bif Pure.impl_finite F [[x0], [x1]] then bif Pure.impl_in F x2 0 128 then bif Pure.impl_in F x3 1 128 then bif Prod.fst (Prod.snd (Pure.impl_GrowOrbit_L0 F x1 x2 (IntKind.wrap .i64 ((IntKind.wrap .i64 (x2 + x3)) - 1)) (Int.toNat (((IntKind.wrap .i64 ((IntKind.wrap .i64 (x2 + x3)) - 1)) - 0) + 1)) 0 [[x0]])) then [] else List.take ((List.length (Prod.fst (Prod.snd (Prod.snd (Pure.impl_GrowOrbit_L0 F x1 x2 (IntKind.wrap .i64 ((IntKind.wrap .i64 (x2 + x3)) - 1)) (Int.toNat (((IntKind.wrap .i64 ((IntKind.wrap .i64 (x2 + x3)) - 1)) - 0) + 1)) 0 [[x0]]))))) - (Int.toNat x2)) (List.drop (Int.toNat x2) (Prod.fst (Prod.snd (Prod.snd (Pure.impl_GrowOrbit_L0 F x1 x2 (IntKind.wrap .i64 ((IntKind.wrap .i64 (x2 + x3)) - 1)) (Int.toNat (((IntKind.wrap .i64 ((IntKind.wrap .i64 (x2 + x3)) - 1)) - 0) + 1)) 0 [[x0]]))))) else [] else [] else []
def Pure.impl_GrowOrbit_ok (F : FOps) (x0 x1 x2 x3 : Int) : Bool := bif Pure.impl_finite_ok F [[x0], [x1]] then bif Pure.impl_finite F [[x0], [x1]] then bif Pure.impl_in F x2 0 128 then bif Pure.impl_in F x3 1 128 then bif Prod.fst (Pure.impl_GrowOrbit_L0 F x1 x2 (IntKind.wrap .i64 ((IntKind.wrap .i64 (x2 + x3)) - 1)) (Int.toNat (((IntKind.wrap .i64 ((IntKind.wrap .i64 (x2 + x3)) - 1)) - 0) + 1)) 0 [[x0]]) then bif Prod.fst (Prod.snd (Pure.impl_GrowOrbit_L0 F x1 x2 (IntKind.wrap .i64 ((IntKind.wrap .i64 (x2 + x3)) - 1)) (Int.toNat (((IntKind.wrap .i64 ((IntKind.wrap .i64 (x2 + x3)) - 1)) - 0) + 1)) 0 [[x0]])) then true else bif decide (0 ≤ x2) then bif decide (x2 ≤ (Int.ofNat (List.length (Prod.fst (Prod.snd (Prod.snd (Pure.impl_GrowOrbit_L0 F x1 x2 (IntKind.wrap .i64 ((IntKind.wrap .i64 (x2 + x3)) - 1)) (Int.toNat (((IntKind.wrap .i64 ((IntKind.wrap .i64 (x2 + x3)) - 1)) - 0) + 1)) 0 [[x0]]))))))) then decide ((List.length (List.take ((List.length (Prod.fst (Prod.snd (Prod.snd (Pure.impl_GrowOrbit_L0 F x1 x2 (IntKind.wrap .i64 ((IntKind.wrap .i64 (x2 + x3)) - 1)) (Int.toNat (((IntKind.wrap .i64 ((IntKind.wrap .i64 (x2 + x3)) - 1)) - 0) + 1)) 0 [[x0]]))))) - (Int.toNat x2)) (List.drop (Int.toNat x2) (Prod.fst (Prod.snd (Prod.snd (Pure.impl_GrowOrbit_L0 F x1 x2 (IntKind.wrap .i64 ((IntKind.wrap .i64 (x2 + x3)) - 1)) (Int.toNat (((IntKind.wrap .i64 ((IntKind.wrap .i64 (x2 + x3)) - 1)) - 0) + 1)) 0 [[x0]]))))))) ≤ 1073741824) else false else false else false else true else true else true else false
def c_impl_GrowOrbit (F : FOps) : Con
  | [V.at (A.fl .f32 x0), V.at (A.fl .f32 x1), V.at (A.int .i64 x2), V.at (A.int .i64 x3)], [] => some (Pure.impl_GrowOrbit_ok F x0 x1 x2 x3, ⟨V.tup [(false, [A.sl 0]), (false, [A.bool (Pure.impl_GrowOrbit F x0 x1 x2 x3)])], none, [⟨true, .rows [K.f .f32] (Pure.impl_GrowOrbit_1 F x0 x1 x2 x3)⟩]⟩)
  | _, _ => none
theorem e_impl_GrowOrbit (F : FOps) (x0 x1 x2 x3 : Int) : Pure.impl_GrowOrbit_ok F x0 x1 x2 x3 = true → evFn (cxS F tyl [(49, c_impl_finite F), (51, c_impl_in F), (18, c_impl_GrowNext F), (52, c_slices_Clone_float32_float32 F)] [] [(0, S_impl_GrowOrbit_L0 F)] 0) Try.f17 false [V.at (A.fl .f32 x0), V.at (A.fl .f32 x1), V.at (A.int .i64 x2), V.at (A.int .i64 x3)] [] = some ⟨V.tup [(false, [A.sl 0]), (false, [A.bool (Pure.impl_GrowOrbit F x0 x1 x2 x3)])], none, [⟨true, .rows [K.f .f32] (Pure.impl_GrowOrbit_1 F x0 x1 x2 x3)⟩]⟩ := by
  have h0 : evFn (cxS F tyl [(49, c_impl_finite F), (51, c_impl_in F), (18, c_impl_GrowNext F), (52, c_slices_Clone_float32_float32 F)] [] [(0, S_impl_GrowOrbit_L0 F)] 0) Try.f17 false [V.at (A.fl .f32 x0), V.at (A.fl .f32 x1), V.at (A.int .i64 x2), V.at (A.int .i64 x3)] [] = bif Pure.impl_finite_ok F [[x0], [x1]] then bif Bool.not (Pure.impl_finite F [[x0], [x1]]) then some ⟨V.tup [(false, [A.sl 0]), (false, [A.bool false])], none, [⟨true, .rows [K.f .f32] []⟩]⟩ else bif Bool.not (Pure.impl_in F x2 0 128) then some ⟨V.tup [(false, [A.sl 0]), (false, [A.bool false])], none, [⟨true, .rows [K.f .f32] []⟩]⟩ else bif Bool.not (Pure.impl_in F x3 1 128) then some ⟨V.tup [(false, [A.sl 0]), (false, [A.bool false])], none, [⟨true, .rows [K.f .f32] []⟩]⟩ else bif Prod.fst (Pure.impl_GrowOrbit_L0 F x1 x2 (IntKind.wrap .i64 ((IntKind.wrap .i64 (x2 + x3)) - 1)) (Int.toNat (((IntKind.wrap .i64 ((IntKind.wrap .i64 (x2 + x3)) - 1)) - 0) + 1)) 0 [[x0]]) then bif Prod.fst (Prod.snd (Pure.impl_GrowOrbit_L0 F x1 x2 (IntKind.wrap .i64 ((IntKind.wrap .i64 (x2 + x3)) - 1)) (Int.toNat (((IntKind.wrap .i64 ((IntKind.wrap .i64 (x2 + x3)) - 1)) - 0) + 1)) 0 [[x0]])) then some ⟨V.tup [(false, [A.sl 0]), (false, [A.bool false])], none, [⟨true, .rows [K.f .f32] []⟩]⟩ else bif decide (0 ≤ x2) then bif decide (x2 ≤ (Int.ofNat (List.length (Prod.fst (Prod.snd (Prod.snd (Pure.impl_GrowOrbit_L0 F x1 x2 (IntKind.wrap .i64 ((IntKind.wrap .i64 (x2 + x3)) - 1)) (Int.toNat (((IntKind.wrap .i64 ((IntKind.wrap .i64 (x2 + x3)) - 1)) - 0) + 1)) 0 [[x0]]))))))) then bif decide ((List.length (List.take ((List.length (Prod.fst (Prod.snd (Prod.snd (Pure.impl_GrowOrbit_L0 F x1 x2 (IntKind.wrap .i64 ((IntKind.wrap .i64 (x2 + x3)) - 1)) (Int.toNat (((IntKind.wrap .i64 ((IntKind.wrap .i64 (x2 + x3)) - 1)) - 0) + 1)) 0 [[x0]]))))) - (Int.toNat x2)) (List.drop (Int.toNat x2) (Prod.fst (Prod.snd (Prod.snd (Pure.impl_GrowOrbit_L0 F x1 x2 (IntKind.wrap .i64 ((IntKind.wrap .i64 (x2 + x3)) - 1)) (Int.toNat (((IntKind.wrap .i64 ((IntKind.wrap .i64 (x2 + x3)) - 1)) - 0) + 1)) 0 [[x0]]))))))) ≤ 1073741824) then some ⟨V.tup [(false, [A.sl 0]), (false, [A.bool true])], none, [⟨true, .rows [K.f .f32] (List.take ((List.length (Prod.fst (Prod.snd (Prod.snd (Pure.impl_GrowOrbit_L0 F x1 x2 (IntKind.wrap .i64 ((IntKind.wrap .i64 (x2 + x3)) - 1)) (Int.toNat (((IntKind.wrap .i64 ((IntKind.wrap .i64 (x2 + x3)) - 1)) - 0) + 1)) 0 [[x0]]))))) - (Int.toNat x2)) (List.drop (Int.toNat x2) (Prod.fst (Prod.snd (Prod.snd (Pure.impl_GrowOrbit_L0 F x1 x2 (IntKind.wrap .i64 ((IntKind.wrap .i64 (x2 + x3)) - 1)) (Int.toNat (((IntKind.wrap .i64 ((IntKind.wrap .i64 (x2 + x3)) - 1)) - 0) + 1)) 0 [[x0]]))))))⟩]⟩ else none else none else none else none else none := by kernel_rfl
  rw [h0]
  unfold Pure.impl_GrowOrbit Pure.impl_GrowOrbit_1 Pure.impl_GrowOrbit_ok
  cases (Pure.impl_finite_ok F [[x0], [x1]]) with
  | true =>
    cases (Pure.impl_finite F [[x0], [x1]]) with
    | true =>
      cases (Pure.impl_in F x2 0 128) with
      | true =>
        cases (Pure.impl_in F x3 1 128) with
        | true =>
          cases (Prod.fst (Pure.impl_GrowOrbit_L0 F x1 x2 (IntKind.wrap .i64 ((IntKind.wrap .i64 (x2 + x3)) - 1)) (Int.toNat (((IntKind.wrap .i64 ((IntKind.wrap .i64 (x2 + x3)) - 1)) - 0) + 1)) 0 [[x0]])) with
          | true =>
            cases (Prod.fst (Prod.snd (Pure.impl_GrowOrbit_L0 F x1 x2 (IntKind.wrap .i64 ((IntKind.wrap .i64 (x2 + x3)) - 1)) (Int.toNat (((IntKind.wrap .i64 ((IntKind.wrap .i64 (x2 + x3)) - 1)) - 0) + 1)) 0 [[x0]]))) with
            | true =>
              intro _; rfl
            | false =>
              cases (decide (0 ≤ x2)) with
              | true =>
                cases (decide (x2 ≤ (Int.ofNat (List.length (Prod.fst (Prod.snd (Prod.snd (Pure.impl_GrowOrbit_L0 F x1 x2 (IntKind.wrap .i64 ((IntKind.wrap .i64 (x2 + x3)) - 1)) (Int.toNat (((IntKind.wrap .i64 ((IntKind.wrap .i64 (x2 + x3)) - 1)) - 0) + 1)) 0 [[x0]])))))))) with
                | true =>
                  cases (decide ((List.length (List.take ((List.length (Prod.fst (Prod.snd (Prod.snd (Pure.impl_GrowOrbit_L0 F x1 x2 (IntKind.wrap .i64 ((IntKind.wrap .i64 (x2 + x3)) - 1)) (Int.toNat (((IntKind.wrap .i64 ((IntKind.wrap .i64 (x2 + x3)) - 1)) - 0) + 1)) 0 [[x0]]))))) - (Int.toNat x2)) (List.drop (Int.toNat x2) (Prod.fst (Prod.snd (Prod.snd (Pure.impl_GrowOrbit_L0 F x1 x2 (IntKind.wrap .i64 ((IntKind.wrap .i64 (x2 + x3)) - 1)) (Int.toNat (((IntKind.wrap .i64 ((IntKind.wrap .i64 (x2 + x3)) - 1)) - 0) + 1)) 0 [[x0]]))))))) ≤ 1073741824)) with
                  | true =>
                    intro _; rfl
                  | false =>
                    intro h; exact absurd h Bool.false_ne_true
                | false =>
                  intro h; exact absurd h Bool.false_ne_true
              | false =>
                intro h; exact absurd h Bool.false_ne_true
          | false =>
            intro h; exact absurd h Bool.false_ne_true
        | false =>
          intro _; rfl
      | false =>
        intro _; rfl
    | false =>
      intro _; rfl
  | false =>
    intro h; exact absurd h Bool.false_ne_true
theorem ok_impl_GrowOrbit : CallOK Try.prog 17 (c_impl_GrowOrbit real) := by
  refine callOK_of fun args h ret hc => ?_
  unfold c_impl_GrowOrbit at hc
  split at hc
  · rename_i x0 x1 x2 x3
    obtain ⟨hok, rfl⟩ := some_ret hc
    exact holds_ev prog_ok (allOK_cons ok_impl_finite (allOK_cons ok_impl_in (allOK_cons ok_impl_GrowNext (allOK_cons ok_slices_Clone_float32_float32 allOK_nil)))) Try.func17 rfl rfl (smL_cons (body := .loop (loopB 0 (codeOf Try.f17))) (by kernel_rfl) t_impl_GrowOrbit_L0 smL_nil) rfl (e_impl_GrowOrbit real x0 x1 x2 x3 hok)
  · cases hc
def c_math_Float32bits (_ : FOps) : Con
  | [V.at (A.fl .f32 x)], [] => some (true, ⟨V.at (A.raw .f32 x), none, []⟩)
  | _, _ => none
theorem ok_math_Float32bits : CallOK Try.prog 97 (c_math_Float32bits real) := by
  refine callOK_of fun args h ret hc => ?_
  unfold c_math_Float32bits at hc
  split at hc
  · rename_i x
    obtain ⟨_, rfl⟩ := some_ret hc
    exact ext_bits32 Try.func97 rfl rfl (by kernel_rfl) (by kernel_rfl) x
  · cases hc
def c_math_Float32frombits (_ : FOps) : Con
  | [V.at (A.raw .f32 x)], [] => some (true, ⟨V.at (A.fl .f32 x), none, []⟩)
  | _, _ => none
theorem ok_math_Float32frombits : CallOK Try.prog 96 (c_math_Float32frombits real) := by
  refine callOK_of fun args h ret hc => ?_
  unfold c_math_Float32frombits at hc
  split at hc
  · rename_i x
    obtain ⟨_, rfl⟩ := some_ret hc
    exact ext_from32 Try.func96 rfl rfl (by kernel_rfl) (by kernel_rfl) x
  · cases hc
def c_impl_abs (F : FOps) : Con
  | [V.at (A.fl .f32 x0)], [] => some (true, ⟨V.at (A.fl .f32 (F.abs .f32 x0)), none, []⟩)
  | _, _ => none
theorem e_impl_abs (F : FOps) (x0 : Int) : evFn (cxS F tyl [(97, c_math_Float32bits F), (96, c_math_Float32frombits F)] [] [] 0) Try.f55 false [V.at (A.fl .f32 x0)] [] = some ⟨V.at (A.fl .f32 (F.abs .f32 x0)), none, []⟩ := by
  kernel_rfl
theorem ok_impl_abs : CallOK Try.prog 55 (c_impl_abs real) := by
  refine callOK_of fun args h ret hc => ?_
  unfold c_impl_abs at hc
  split at hc
  · rename_i x0
    obtain ⟨_, rfl⟩ := some_ret hc
    exact holds_ev prog_ok (allOK_cons ok_math_Float32bits (allOK_cons ok_math_Float32frombits allOK_nil)) Try.func55 rfl rfl smL_nil rfl (e_impl_abs real x0)
  · cases hc
def Pure.impl_logOf_L1 (F : FOps) : Nat → Int → Int → (Bool × Int × Int)
  | 0, _, _ => (false, 0, 0)
  | n + 1, y0, y1 => bif (F.cmp .lss .f64 y0 4604930618986332160) then (Pure.impl_logOf_L1 F  n (F.bin .mul .f64 y0 4611686018427387904) (F.bin .sub .f64 y1 4607182418800017408)) else ((true, y0, y1))
def R_impl_logOf_L1 (r : (Bool × Int × Int)) : Bool × Bool × (Ex × List V × List Ob) × (Ex × List V × List Ob) := ((r).1, false, (Ex.normal, [V.at (A.fl .f64 (r).2.1), V.at (A.fl .f64 (r).2.2)], []), (Ex.normal, [V.at (A.fl .f64 (r).2.1), V.at (A.fl .f64 (r).2.2)], []))
def S_impl_logOf_L1 (F : FOps) : Sm := ⟨[0, 3], [29, 29], [0, 3], fun vals hp => match vals, hp with
  | [V.at (A.fl .f64 y0), V.at (A.fl .f64 y1)], [] => some (R_impl_logOf_L1  (Pure.impl_logOf_L1 F  3000 y0 y1))
  | _, _ => none⟩
theorem l_impl_logOf_L1 (F : FOps) : ∀ (fuel : Nat) (y0 y1 : Int), (Pure.impl_logOf_L1 F  fuel y0 y1).1 = true → loopOf (cxS F tyl [(120, c_math_NaN F), (121, c_math_Inf F)] [] [] 0) 0 63 1 [0, 3] [29, 29] [0, 3] (loopB 1 (codeOf Try.f98)) fuel [V.at (A.fl .f64 y0), V.at (A.fl .f64 y1)] [] = resOf (R_impl_logOf_L1  (Pure.impl_logOf_L1 F  fuel y0 y1)) := by
  intro fuel
  induction fuel with
  | zero => intro y0 y1 h; exact absurd h Bool.false_ne_true
  | succ n ih =>
    intro y0 y1
    have h0 : roundOf (cxS F tyl [(120, c_math_NaN F), (121, c_math_Inf F)] [] [] 0) 0 63 1 [0, 3] [29, 29] [0, 3] (loopB 1 (codeOf Try.f98)) [V.at (A.fl .f64 y0), V.at (A.fl .f64 y1)] [] = (bif F.cmp .lss .f64 y0 4604930618986332160 then some (true, (Ex.normal, ([V.at (A.fl .f64 (F.bin .mul .f64 y0 4611686018427387904)), V.at (A.fl .f64 (F.bin .sub .f64 y1 4607182418800017408))], []))) else some (false, (Ex.normal, ([V.at (A.fl .f64 y0), V.at (A.fl .f64 y1)], [])))) := by kernel_rfl
    unfold loopOf
    rw [h0]
    unfold Pure.impl_logOf_L1
    cases (F.cmp .lss .f64 y0 4604930618986332160) with
    | true =>
      exact ih _ _
    | false =>
      intro _; rfl
theorem t_impl_logOf_L1 : SmTo Try.prog 0 63 (S_impl_logOf_L1 real) 1 (.loop (loopB 1 (codeOf Try.f98))) := by
  refine smTo_ev (cl := [(120, c_math_NaN real), (121, c_math_Inf real)]) (ef := []) (sm := []) (un := 0) prog_ok (allOK_cons ok_math_NaN (allOK_cons ok_math_Inf allOK_nil)) smL_nil ?_
  intro vals hp q r h hq
  unfold S_impl_logOf_L1 at h
  dsimp only at h
  split at h
  · rename_i y0 y1
    obtain rfl := Option.some.inj h
    have h1 := hq
    unfold resOf at h1
    rw [chk_some] at h1
    exact ⟨_, (l_impl_logOf_L1 real _ y0 y1 h1.1).trans hq⟩
  · cases h
def Pure.impl_logOf_L3 (F : FOps) : Nat → Int → Int → (Bool × Int × Int)
  | 0, _, _ => (false, 0, 0)
  | n + 1, y0, y1 => bif (F.cmp .geq .f64 y0 4609434218613702656) then (Pure.impl_logOf_L3 F  n (F.bin .quo .f64 y0 4611686018427387904) (F.bin .add .f64 y1 4607182418800017408)) else ((true, y0, y1))
def R_impl_logOf_L3 (r : (Bool × Int × Int)) : Bool × Bool × (Ex × List V × List Ob) × (Ex × List V × List Ob) := ((r).1, false, (Ex.normal, [V.at (A.fl .f64 (r).2.1), V.at (A.fl .f64 (r).2.2)], []), (Ex.normal, [V.at (A.fl .f64 (r).2.1), V.at (A.fl .f64 (r).2.2)], []))
def S_impl_logOf_L3 (F : FOps) : Sm := ⟨[0, 3], [29, 29], [0, 3], fun vals hp => match vals, hp with
  | [V.at (A.fl .f64 y0), V.at (A.fl .f64 y1)], [] => some (R_impl_logOf_L3  (Pure.impl_logOf_L3 F  3000 y0 y1))
  | _, _ => none⟩
theorem l_impl_logOf_L3 (F : FOps) : ∀ (fuel : Nat) (y0 y1 : Int), (Pure.impl_logOf_L3 F  fuel y0 y1).1 = true → loopOf (cxS F tyl [(120, c_math_NaN F), (121, c_math_Inf F)] [] [] 0) 0 63 3 [0, 3] [29, 29] [0, 3] (loopB 3 (codeOf Try.f98)) fuel [V.at (A.fl .f64 y0), V.at (A.fl .f64 y1)] [] = resOf (R_impl_logOf_L3  (Pure.impl_logOf_L3 F  fuel y0 y1)) := by
  intro fuel
  induction fuel with
  | zero => intro y0 y1 h; exact absurd h Bool.false_ne_true
  | succ n ih =>
    intro y0 y1
    have h0 : roundOf (cxS F tyl [(120, c_math_NaN F), (121, c_math_Inf F)] [] [] 0) 0 63 3 [0, 3] [29, 29] [0, 3] (loopB 3 (codeOf Try.f98)) [V.at (A.fl .f64 y0), V.at (A.fl .f64 y1)] [] = (bif F.cmp .geq .f64 y0 4609434218613702656 then some (true, (Ex.normal, ([V.at (A.fl .f64 (F.bin .quo .f64 y0 4611686018427387904)), V.at (A.fl .f64 (F.bin .add .f64 y1 4607182418800017408))], []))) else some (false, (Ex.normal, ([V.at (A.fl .f64 y0), V.at (A.fl .f64 y1)], [])))) := by kernel_rfl
    unfold loopOf
    rw [h0]
    unfold Pure.impl_logOf_L3
    cases (F.cmp .geq .f64 y0 4609434218613702656) with
    | true =>
      exact ih _ _
    | false =>
      intro _; rfl
theorem t_impl_logOf_L3 : SmTo Try.prog 0 63 (S_impl_logOf_L3 real) 3 (.loop (loopB 3 (codeOf Try.f98))) := by
  refine smTo_ev (cl := [(120, c_math_NaN real), (121, c_math_Inf real)]) (ef := []) (sm := []) (un := 0) prog_ok (allOK_cons ok_math_NaN (allOK_cons ok_math_Inf allOK_nil)) smL_nil ?_
  intro vals hp q r h hq
  unfold S_impl_logOf_L3 at h
  dsimp only at h
  split at h
  · rename_i y0 y1
    obtain rfl := Option.some.inj h
    have h1 := hq
    unfold resOf at h1
    rw [chk_some] at h1
    exact ⟨_, (l_impl_logOf_L3 real _ y0 y1 h1.1).trans hq⟩
  · cases h
def Pure.impl_logOf_L5 (F : FOps) (y0 y1 y2 : Int) : Nat → Int → Int → (Bool × Int)
  | 0, _, _ => (false, 0)
  | n + 1, y3, y4 => bif (decide (y4 ≥ 1)) then (Pure.impl_logOf_L5 F y0 y1 y2 n (F.bin .add .f64 (F.bin .quo .f64 4607182418800017408 (F.ofInt .f64 y4)) (F.bin .mul .f64 y2 y3)) (IntKind.wrap .i64 (y4 - 2))) else ((true, y3))
def R_impl_logOf_L5 (y0 y1 : Int) (r : (Bool × Int)) : Bool × Bool × (Ex × List V × List Ob) × (Ex × List V × List Ob) := ((r).1, false, (Ex.normal, [V.at (A.fl .f64 y0), V.at (A.fl .f64 y1), V.at (A.fl .f64 (r).2)], []), (Ex.normal, [V.at (A.fl .f64 y0), V.at (A.fl .f64 y1), V.at (A.fl .f64 (r).2)], []))
def S_impl_logOf_L5 (F : FOps) : Sm := ⟨[3, 4, 5, 6, 7], [29, 29, 29, 29, 3], [3, 4, 6], fun vals hp => match vals, hp with
  | [V.at (A.fl .f64 y0), V.at (A.fl .f64 y1), V.at (A.fl .f64 y2), V.at (A.fl .f64 y3), V.at (A.int .i64 y4)], [] => some (R_impl_logOf_L5 y0 y1 (Pure.impl_logOf_L5 F y0 y1 y2 (y4 - 1 + 2).toNat y3 y4))
  | _, _ => none⟩
theorem l_impl_logOf_L5 (F : FOps) (y0 y1 y2 : Int) : ∀ (fuel : Nat) (y3 y4 : Int), (Pure.impl_logOf_L5 F y0 y1 y2 fuel y3 y4).1 = true → loopOf (cxS F tyl [(120, c_math_NaN F), (121, c_math_Inf F)] [] [] 0) 0 63 5 [3, 4, 5, 6, 7] [29, 29, 29, 29, 3] [3, 4, 6] (loopB 5 (codeOf Try.f98)) fuel [V.at (A.fl .f64 y0), V.at (A.fl .f64 y1), V.at (A.fl .f64 y2), V.at (A.fl .f64 y3), V.at (A.int .i64 y4)] [] = resOf (R_impl_logOf_L5 y0 y1 (Pure.impl_logOf_L5 F y0 y1 y2 fuel y3 y4)) := by
  intro fuel
  induction fuel with
  | zero => intro y3 y4 h; exact absurd h Bool.false_ne_true
  | succ n ih =>
    intro y3 y4
    have h0 : roundOf (cxS F tyl [(120, c_math_NaN F), (121, c_math_Inf F)] [] [] 0) 0 63 5 [3, 4, 5, 6, 7] [29, 29, 29, 29, 3] [3, 4, 6] (loopB 5 (codeOf Try.f98)) [V.at (A.fl .f64 y0), V.at (A.fl .f64 y1), V.at (A.fl .f64 y2), V.at (A.fl .f64 y3), V.at (A.int .i64 y4)] [] = (bif decide (y4 ≥ 1) then some (true, (Ex.normal, ([V.at (A.fl .f64 y0), V.at (A.fl .f64 y1), V.at (A.fl .f64 y2), V.at (A.fl .f64 (F.bin .add .f64 (F.bin .quo .f64 4607182418800017408 (F.ofInt .f64 y4)) (F.bin .mul .f64 y2 y3))), V.at (A.int .i64 (IntKind.wrap .i64 (y4 - 2)))], []))) else some (false, (Ex.normal, ([V.at (A.fl .f64 y0), V.at (A.fl .f64 y1), V.at (A.fl .f64 y3)], [])))) := by kernel_rfl
    unfold loopOf
    rw [h0]
    unfold Pure.impl_logOf_L5
    cases (decide (y4 ≥ 1)) with
    | true =>
      exact ih _ _
    | false =>
      intro _; rfl
theorem t_impl_logOf_L5 : SmTo Try.prog 0 63 (S_impl_logOf_L5 real) 5 (.loop (loopB 5 (codeOf Try.f98))) := by
  refine smTo_ev (cl := [(120, c_math_NaN real), (121, c_math_Inf real)]) (ef := []) (sm := []) (un := 0) prog_ok (allOK_cons ok_math_NaN (allOK_cons ok_math_Inf allOK_nil)) smL_nil ?_
  intro vals hp q r h hq
  unfold S_impl_logOf_L5 at h
  dsimp only at h
  split at h
  · rename_i y0 y1 y2 y3 y4
    obtain rfl := Option.some.inj h
    have h1 := hq
    unfold resOf at h1
    rw [chk_some] at h1
    exact ⟨_, (l_impl_logOf_L5 real y0 y1 y2 _ y3 y4 h1.1).trans hq⟩
  · cases h
def Pure.impl_logOf (F : FOps) (x0 : Int) : Int := bif F.cmp .neq .f64 x0 x0 then F.ofBits .f64 9221120237041090561 else bif F.cmp .lss .f64 x0 0 then F.ofBits .f64 9221120237041090561 else bif F.cmp .eql .f64 x0 0 then Pure.math_Inf F (-1) else bif F.cmp .gtr .f64 x0 9218868437227405311 then x0 else F.bin .add .f64 (F.bin .mul .f64 4611686018427387904 (F.bin .mul .f64 (F.bin .quo .f64 (F.bin .sub .f64 (Prod.fst (Prod.snd (Pure.impl_logOf_L3 F 3000 (Prod.fst (Prod.snd (Pure.impl_logOf_L1 F 3000 x0 0))) (Prod.snd (Prod.snd (Pure.impl_logOf_L1 F 3000 x0 0)))))) 4607182418800017408) (F.bin .add .f64 (Prod.fst (Prod.snd (Pure.impl_logOf_L3 F 3000 (Prod.fst (Prod.snd (Pure.impl_logOf_L1 F 3000 x0 0))) (Prod.snd (Prod.snd (Pure.impl_logOf_L1 F 3000 x0 0)))))) 4607182418800017408)) (Prod.snd (Pure.impl_logOf_L5 F (Prod.snd (Prod.snd (Pure.impl_logOf_L3 F 3000 (Prod.fst (Prod.snd (Pure.impl_logOf_L1 F 3000 x0 0))) (Prod.snd (Prod.snd (Pure.impl_logOf_L1 F 3000 x0 0)))))) (F.bin .quo .f64 (F.bin .sub .f64 (Prod.fst (Prod.snd (Pure.impl_logOf_L3 F 3000 (Prod.fst (Prod.snd (Pure.impl_logOf_L1 F 3000 x0 0))) (Prod.snd (Prod.snd (Pure.impl_logOf_L1 F 3000 x0 0)))))) 4607182418800017408) (F.bin .add .f64 (Prod.fst (Prod.snd (Pure.impl_logOf_L3 F 3000 (Prod.fst (Prod.snd (Pure.impl_logOf_L1 F 3000 x0 0))) (Prod.snd (Prod.snd (Pure.impl_logOf_L1 F 3000 x0 0)))))) 4607182418800017408)) (F.bin .mul .f64 (F.bin .quo .f64 (F.bin .sub .f64 (Prod.fst (Prod.snd (Pure.impl_logOf_L3 F 3000 (Prod.fst (Prod.snd (Pure.impl_logOf_L1 F 3000 x0 0))) (Prod.snd (Prod.snd (Pure.impl_logOf_L1 F 3000 x0 0)))))) 4607182418800017408) (F.bin .add .f64 (Prod.fst (Prod.snd (Pure.impl_logOf_L3 F 3000 (Prod.fst (Prod.snd (Pure.impl_logOf_L1 F 3000 x0 0))) (Prod.snd (Prod.snd (Pure.impl_logOf_L1 F 3000 x0 0)))))) 4607182418800017408)) (F.bin .quo .f64 (F.bin .sub .f64 (Prod.fst (Prod.snd (Pure.impl_logOf_L3 F 3000 (Prod.fst (Prod.snd (Pure.impl_logOf_L1 F 3000 x0 0))) (Prod.snd (Prod.snd (Pure.impl_logOf_L1 F 3000 x0 0)))))) 4607182418800017408) (F.bin .add .f64 (Prod.fst (Prod.snd (Pure.impl_logOf_L3 F 3000 (Prod.fst (Prod.snd (Pure.impl_logOf_L1 F 3000 x0 0))) (Prod.snd (Prod.snd (Pure.impl_logOf_L1 F 3000 x0 0)))))) 4607182418800017408))) 26 0 25)))) (F.bin .mul .f64 (Prod.snd (Prod.snd (Pure.impl_logOf_L3 F 3000 (Prod.fst (Prod.snd (Pure.impl_logOf_L1 F 3000 x0 0))) (Prod.snd (Prod.snd (Pure.impl_logOf_L1 F 3000 x0 0)))))) 4604418534313441775)
def Pure.impl_logOf_ok (F : FOps) (x0 : Int) : Bool := bif F.cmp .neq .f64 x0 x0 then true else bif F.cmp .lss .f64 x0 0 then true else bif F.cmp .eql .f64 x0 0 then true else bif F.cmp .gtr .f64 x0 9218868437227405311 then true else bif Prod.fst (Pure.impl_logOf_L1 F 3000 x0 0) then bif Prod.fst (Pure.impl_logOf_L3 F 3000 (Prod.fst (Prod.snd (Pure.impl_logOf_L1 F 3000 x0 0))) (Prod.snd (Prod.snd (Pure.impl_logOf_L1 F 3000 x0 0)))) then Prod.fst (Pure.impl_logOf_L5 F (Prod.snd (Prod.snd (Pure.impl_logOf_L3 F 3000 (Prod.fst (Prod.snd (Pure.impl_logOf_L1 F 3000 x0 0))) (Prod.snd (Prod.snd (Pure.impl_logOf_L1 F 3000 x0 0)))))) (F.bin .quo .f64 (F.bin .sub .f64 (Prod.fst (Prod.snd (Pure.impl_logOf_L3 F 3000 (Prod.fst (Prod.snd (Pure.impl_logOf_L1 F 3000 x0 0))) (Prod.snd (Prod.snd (Pure.impl_logOf_L1 F 3000 x0 0)))))) 4607182418800017408) (F.bin .add .f64 (Prod.fst (Prod.snd (Pure.impl_logOf_L3 F 3000 (Prod.fst (Prod.snd (Pure.impl_logOf_L1 F 3000 x0 0))) (Prod.snd (Prod.snd (Pure.impl_logOf_L1 F 3000 x0 0)))))) 4607182418800017408)) (F.bin .mul .f64 (F.bin .quo .f64 (F.bin .sub .f64 (Prod.fst (Prod.snd (Pure.impl_logOf_L3 F 3000 (Prod.fst (Prod.snd (Pure.impl_logOf_L1 F 3000 x0 0))) (Prod.snd (Prod.snd (Pure.impl_logOf_L1 F 3000 x0 0)))))) 4607182418800017408) (F.bin .add .f64 (Prod.fst (Prod.snd (Pure.impl_logOf_L3 F 3000 (Prod.fst (Prod.snd (Pure.impl_logOf_L1 F 3000 x0 0))) (Prod.snd (Prod.snd (Pure.impl_logOf_L1 F 3000 x0 0)))))) 4607182418800017408)) (F.bin .quo .f64 (F.bin .sub .f64 (Prod.fst (Prod.snd (Pure.impl_logOf_L3 F 3000 (Prod.fst (Prod.snd (Pure.impl_logOf_L1 F 3000 x0 0))) (Prod.snd (Prod.snd (Pure.impl_logOf_L1 F 3000 x0 0)))))) 4607182418800017408) (F.bin .add .f64 (Prod.fst (Prod.snd (Pure.impl_logOf_L3 F 3000 (Prod.fst (Prod.snd (Pure.impl_logOf_L1 F 3000 x0 0))) (Prod.snd (Prod.snd (Pure.impl_logOf_L1 F 3000 x0 0)))))) 4607182418800017408))) 26 0 25) else false else false
def c_impl_logOf (F : FOps) : Con
  | [V.at (A.fl .f64 x0)], [] => some (Pure.impl_logOf_ok F x0, ⟨V.at (A.fl .f64 (Pure.impl_logOf F x0)), none, []⟩)
  | _, _ => none
theorem e_impl_logOf (F : FOps) (x0 : Int) : Pure.impl_logOf_ok F x0 = true → evFn (cxS F tyl [(120, c_math_NaN F), (121, c_math_Inf F)] [] [(1, S_impl_logOf_L1 F), (3, S_impl_logOf_L3 F), (5, S_impl_logOf_L5 F)] 0) Try.f98 false [V.at (A.fl .f64 x0)] [] = some ⟨V.at (A.fl .f64 (Pure.impl_logOf F x0)), none, []⟩ := by
  have h0 : evFn (cxS F tyl [(120, c_math_NaN F), (121, c_math_Inf F)] [] [(1, S_impl_logOf_L1 F), (3, S_impl_logOf_L3 F), (5, S_impl_logOf_L5 F)] 0) Try.f98 false [V.at (A.fl .f64 x0)] [] = bif F.cmp .neq .f64 x0 x0 then some ⟨V.at (A.fl .f64 (F.ofBits .f64 9221120237041090561)), none, []⟩ else bif F.cmp .lss .f64 x0 0 then some ⟨V.at (A.fl .f64 (F.ofBits .f64 9221120237041090561)), none, []⟩ else bif F.cmp .eql .f64 x0 0 then some ⟨V.at (A.fl .f64 (Pure.math_Inf F (-1))), none, []⟩ else bif F.cmp .gtr .f64 x0 9218868437227405311 then some ⟨V.at (A.fl .f64 x0), none, []⟩ else bif Prod.fst (Pure.impl_logOf_L1 F 3000 x0 0) then bif Prod.fst (Pure.impl_logOf_L3 F 3000 (Prod.fst (Prod.snd (Pure.impl_logOf_L1 F 3000 x0 0))) (Prod.snd (Prod.snd (Pure.impl_logOf_L1 F 3000 x0 0)))) then bif Prod.fst (Pure.impl_logOf_L5 F (Prod.snd (Prod.snd (Pure.impl_logOf_L3 F 3000 (Prod.fst (Prod.snd (Pure.impl_logOf_L1 F 3000 x0 0))) (Prod.snd (Prod.snd (Pure.impl_logOf_L1 F 3000 x0 0)))))) (F.bin .quo .f64 (F.bin .sub .f64 (Prod.fst (Prod.snd (Pure.impl_logOf_L3 F 3000 (Prod.fst (Prod.snd (Pure.impl_logOf_L1 F 3000 x0 0))) (Prod.snd (Prod.snd (Pure.impl_logOf_L1 F 3000 x0 0)))))) 4607182418800017408) (F.bin .add .f64 (Prod.fst (Prod.snd (Pure.impl_logOf_L3 F 3000 (Prod.fst (Prod.snd (Pure.impl_logOf_L1 F 3000 x0 0))) (Prod.snd (Prod.snd (Pure.impl_logOf_L1 F 3000 x0 0)))))) 4607182418800017408)) (F.bin .mul .f64 (F.bin .quo .f64 (F.bin .sub .f64 (Prod.fst (Prod.snd (Pure.impl_logOf_L3 F 3000 (Prod.fst (Prod.snd (Pure.impl_logOf_L1 F 3000 x0 0))) (Prod.snd (Prod.snd (Pure.impl_logOf_L1 F 3000 x0 0)))))) 4607182418800017408) (F.bin .add .f64 (Prod.fst (Prod.snd (Pure.impl_logOf_L3 F 3000 (Prod.fst (Prod.snd (Pure.impl_logOf_L1 F 3000 x0 0))) (Prod.snd (Prod.snd (Pure.impl_logOf_L1 F 3000 x0 0)))))) 4607182418800017408)) (F.bin .quo .f64 (F.bin .sub .f64 (Prod.fst (Prod.snd (Pure.impl_logOf_L3 F 3000 (Prod.fst (Prod.snd (Pure.impl_logOf_L1 F 3000 x0 0))) (Prod.snd (Prod.snd (Pure.impl_logOf_L1 F 3000 x0 0)))))) 4607182418800017408) (F.bin .add .f64 (Prod.fst (Prod.snd (Pure.impl_logOf_L3 F 3000 (Prod.fst (Prod.snd (Pure.impl_logOf_L1 F 3000 x0 0))) (Prod.snd (Prod.snd (Pure.impl_logOf_L1 F 3000 x0 0)))))) 4607182418800017408))) 26 0 25) then some ⟨V.at (A.fl .f64 (F.bin .add .f64 (F.bin .mul .f64 4611686018427387904 (F.bin .mul .f64 (F.bin .quo .f64 (F.bin .sub .f64 (Prod.fst (Prod.snd (Pure.impl_logOf_L3 F 3000 (Prod.fst (Prod.snd (Pure.impl_logOf_L1 F 3000 x0 0))) (Prod.snd (Prod.snd (Pure.impl_logOf_L1 F 3000 x0 0)))))) 4607182418800017408) (F.bin .add .f64 (Prod.fst (Prod.snd (Pure.impl_logOf_L3 F 3000 (Prod.fst (Prod.snd (Pure.impl_logOf_L1 F 3000 x0 0))) (Prod.snd (Prod.snd (Pure.impl_logOf_L1 F 3000 x0 0)))))) 4607182418800017408)) (Prod.snd (Pure.impl_logOf_L5 F (Prod.snd (Prod.snd (Pure.impl_logOf_L3 F 3000 (Prod.fst (Prod.snd (Pure.impl_logOf_L1 F 3000 x0 0))) (Prod.snd (Prod.snd (Pure.impl_logOf_L1 F 3000 x0 0)))))) (F.bin .quo .f64 (F.bin .sub .f64 (Prod.fst (Prod.snd (Pure.impl_logOf_L3 F 3000 (Prod.fst (Prod.snd (Pure.impl_logOf_L1 F 3000 x0 0))) (Prod.snd (Prod.snd (Pure.impl_logOf_L1 F 3000 x0 0)))))) 4607182418800017408) (F.bin .add .f64 (Prod.fst (Prod.snd (Pure.impl_logOf_L3 F 3000 (Prod.fst (Prod.snd (Pure.impl_logOf_L1 F 3000 x0 0))) (Prod.snd (Prod.snd (Pure.impl_logOf_L1 F 3000 x0 0)))))) 4607182418800017408)) (F.bin .mul .f64 (F.bin .quo .f64 (F.bin .sub .f64 (Prod.fst (Prod.snd (Pure.impl_logOf_L3 F 3000 (Prod.fst (Prod.snd (Pure.impl_logOf_L1 F 3000 x0 0))) (Prod.snd (Prod.snd (Pure.impl_logOf_L1 F 3000 x0 0)))))) 4607182418800017408) (F.bin .add .f64 (Prod.fst (Prod.snd (Pure.impl_logOf_L3 F 3000 (Prod.fst (Prod.snd (Pure.impl_logOf_L1 F 3000 x0 0))) (Prod.snd (Prod.snd (Pure.impl_logOf_L1 F 3000 x0 0)))))) 4607182418800017408)) (F.bin .quo .f64 (F.bin .sub .f64 (Prod.fst (Prod.snd (Pure.impl_logOf_L3 F 3000 (Prod.fst (Prod.snd (Pure.impl_logOf_L1 F 3000 x0 0))) (Prod.snd (Prod.snd (Pure.impl_logOf_L1 F 3000 x0 0)))))) 4607182418800017408) (F.bin .add .f64 (Prod.fst (Prod.snd (Pure.impl_logOf_L3 F 3000 (Prod.fst (Prod.snd (Pure.impl_logOf_L1 F 3000 x0 0))) (Prod.snd (Prod.snd (Pure.impl_logOf_L1 F 3000 x0 0)))))) 4607182418800017408))) 26 0 25)))) (F.bin .mul .f64 (Prod.snd (Prod.snd (Pure.impl_logOf_L3 F 3000 (Prod.fst (Prod.snd (Pure.impl_logOf_L1 F 3000 x0 0))) (Prod.snd (Prod.snd (Pure.impl_logOf_L1 F 3000 x0 0)))))) 4604418534313441775))), none, []⟩ else none else none else none := by kernel_rfl
  rw [h0]
  unfold Pure.impl_logOf Pure.impl_logOf_ok
  cases (F.cmp .neq .f64 x0 x0) with
  | true =>
    intro _; rfl
  | false =>
    cases (F.cmp .lss .f64 x0 0) with
    | true =>
      intro _; rfl
    | false =>
      cases (F.cmp .eql .f64 x0 0) with
      | true =>
        intro _; rfl
      | false =>
        cases (F.cmp .gtr .f64 x0 9218868437227405311) with
        | true =>
          intro _; rfl
        | false =>
          cases (Prod.fst (Pure.impl_logOf_L1 F 3000 x0 0)) with
          | true =>
            cases (Prod.fst (Pure.impl_logOf_L3 F 3000 (Prod.fst (Prod.snd (Pure.impl_logOf_L1 F 3000 x0 0))) (Prod.snd (Prod.snd (Pure.impl_logOf_L1 F 3000 x0 0))))) with
            | true =>
              cases (Prod.fst (Pure.impl_logOf_L5 F (Prod.snd (Prod.snd (Pure.impl_logOf_L3 F 3000 (Prod.fst (Prod.snd (Pure.impl_logOf_L1 F 3000 x0 0))) (Prod.snd (Prod.snd (Pure.impl_logOf_L1 F 3000 x0 0)))))) (F.bin .quo .f64 (F.bin .sub .f64 (Prod.fst (Prod.snd (Pure.impl_logOf_L3 F 3000 (Prod.fst (Prod.snd (Pure.impl_logOf_L1 F 3000 x0 0))) (Prod.snd (Prod.snd (Pure.impl_logOf_L1 F 3000 x0 0)))))) 4607182418800017408) (F.bin .add .f64 (Prod.fst (Prod.snd (Pure.impl_logOf_L3 F 3000 (Prod.fst (Prod.snd (Pure.impl_logOf_L1 F 3000 x0 0))) (Prod.snd (Prod.snd (Pure.impl_logOf_L1 F 3000 x0 0)))))) 4607182418800017408)) (F.bin .mul .f64 (F.bin .quo .f64 (F.bin .sub .f64 (Prod.fst (Prod.snd (Pure.impl_logOf_L3 F 3000 (Prod.fst (Prod.snd (Pure.impl_logOf_L1 F 3000 x0 0))) (Prod.snd (Prod.snd (Pure.impl_logOf_L1 F 3000 x0 0)))))) 4607182418800017408) (F.bin .add .f64 (Prod.fst (Prod.snd (Pure.impl_logOf_L3 F 3000 (Prod.fst (Prod.snd (Pure.impl_logOf_L1 F 3000 x0 0))) (Prod.snd (Prod.snd (Pure.impl_logOf_L1 F 3000 x0 0)))))) 4607182418800017408)) (F.bin .quo .f64 (F.bin .sub .f64 (Prod.fst (Prod.snd (Pure.impl_logOf_L3 F 3000 (Prod.fst (Prod.snd (Pure.impl_logOf_L1 F 3000 x0 0))) (Prod.snd (Prod.snd (Pure.impl_logOf_L1 F 3000 x0 0)))))) 4607182418800017408) (F.bin .add .f64 (Prod.fst (Prod.snd (Pure.impl_logOf_L3 F 3000 (Prod.fst (Prod.snd (Pure.impl_logOf_L1 F 3000 x0 0))) (Prod.snd (Prod.snd (Pure.impl_logOf_L1 F 3000 x0 0)))))) 4607182418800017408))) 26 0 25)) with
              | true =>
                intro _; rfl
              | false =>
                intro h; exact absurd h Bool.false_ne_true
            | false =>
              intro h; exact absurd h Bool.false_ne_true
          | false =>
            intro h; exact absurd h Bool.false_ne_true
theorem ok_impl_logOf : CallOK Try.prog 98 (c_impl_logOf real) := by
  refine callOK_of fun args h ret hc => ?_
  unfold c_impl_logOf at hc
  split at hc
  · rename_i x0
    obtain ⟨hok, rfl⟩ := some_ret hc
    exact holds_ev prog_ok (allOK_cons ok_math_NaN (allOK_cons ok_math_Inf allOK_nil)) Try.func98 rfl rfl (smL_cons (body := .loop (loopB 1 (codeOf Try.f98))) (by kernel_rfl) t_impl_logOf_L1 (smL_cons (body := .loop (loopB 3 (codeOf Try.f98))) (by kernel_rfl) t_impl_logOf_L3 (smL_cons (body := .loop (loopB 5 (codeOf Try.f98))) (by kernel_rfl) t_impl_logOf_L5 smL_nil))) rfl (e_impl_logOf real x0 hok)
  · cases hc
def Pure.impl_LogNumber (F : FOps) (x0 : Int) : Int := F.conv .f64 .f32 (Pure.impl_logOf F (F.conv .f32 .f64 x0))
def Pure.impl_LogNumber_ok (F : FOps) (x0 : Int) : Bool := bif F.convOk .f32 .f64 x0 then bif Pure.impl_logOf_ok F (F.conv .f32 .f64 x0) then F.convOk .f64 .f32 (Pure.impl_logOf F (F.conv .f32 .f64 x0)) else false else false
def c_impl_LogNumber (F : FOps) : Con
  | [V.at (A.fl .f32 x0)], [] => some (Pure.impl_LogNumber_ok F x0, ⟨V.at (A.fl .f32 (Pure.impl_LogNumber F x0)), none, []⟩)
  | _, _ => none
theorem e_impl_LogNumber (F : FOps) (x0 : Int) : Pure.impl_LogNumber_ok F x0 = true → evFn (cxS F tyl [(98, c_impl_logOf F)] [] [] 0) Try.f56 false [V.at (A.fl .f32 x0)] [] = some ⟨V.at (A.fl .f32 (Pure.impl_LogNumber F x0)), none, []⟩ := by
  have h0 : evFn (cxS F tyl [(98, c_impl_logOf F)] [] [] 0) Try.f56 false [V.at (A.fl .f32 x0)] [] = bif F.convOk .f32 .f64 x0 then bif Pure.impl_logOf_ok F (F.conv .f32 .f64 x0) then bif F.convOk .f64 .f32 (Pure.impl_logOf F (F.conv .f32 .f64 x0)) then some ⟨V.at (A.fl .f32 (F.conv .f64 .f32 (Pure.impl_logOf F (F.conv .f32 .f64 x0)))), none, []⟩ else none else none else none := by kernel_rfl
  rw [h0]
  unfold Pure.impl_LogNumber Pure.impl_LogNumber_ok
  cases (F.convOk .f32 .f64 x0) with
  | true =>
    cases (Pure.impl_logOf_ok F (F.conv .f32 .f64 x0)) with
    | true =>
      cases (F.convOk .f64 .f32 (Pure.impl_logOf F (F.conv .f32 .f64 x0))) with
      | true =>
        intro _; rfl
      | false =>
        intro h; exact absurd h Bool.false_ne_true
    | false =>
      intro h; exact absurd h Bool.false_ne_true
  | false =>
    intro h; exact absurd h Bool.false_ne_true
theorem ok_impl_LogNumber : CallOK Try.prog 56 (c_impl_LogNumber real) := by
  refine callOK_of fun args h ret hc => ?_
  unfold c_impl_LogNumber at hc
  split at hc
  · rename_i x0
    obtain ⟨hok, rfl⟩ := some_ret hc
    exact holds_ev prog_ok (allOK_cons ok_impl_logOf allOK_nil) Try.func56 rfl rfl smL_nil rfl (e_impl_LogNumber real x0 hok)
  · cases hc
def Pure.impl_GrowExponent_L0 (F : FOps) (y0 y1 y3 : Int) (y5 : List (List Int)) : Nat → Int → Int → (Bool × Int)
  | 0, _, _ => (false, 0)
  | n + 1, y2, y4 => bif (decide (y4 < y3)) then (bif (decide (0 ≤ y4)) then (bif (decide (y4 < (Int.ofNat y5.length))) then (bif (Pure.impl_LogNumber_ok F (F.abs .f32 (F.bin .mul .f32 y0 (F.bin .sub .f32 1065353216 (F.bin .mul .f32 1073741824 ((y5.getD y4.toNat []).getD 0 0)))))) then (Pure.impl_GrowExponent_L0 F y0 y1 y3 y5 n (F.bin .add .f32 y2 (Pure.impl_LogNumber F (F.abs .f32 (F.bin .mul .f32 y0 (F.bin .sub .f32 1065353216 (F.bin .mul .f32 1073741824 ((y5.getD y4.toNat []).getD 0 0))))))) (IntKind.wrap .i64 (y4 + 1))) else ((false, 0))) else ((false, 0))) else ((false, 0))) else ((true, y2))
def R_impl_GrowExponent_L0 (y1 : Int) (r : (Bool × Int)) : Bool × Bool × (Ex × List V × List Ob) × (Ex × List V × List Ob) := ((r).1, false, (Ex.normal, [V.at (A.int .i64 y1), V.at (A.fl .f32 (r).2)], []), (Ex.normal, [V.at (A.int .i64 y1), V.at (A.fl .f32 (r).2)], []))
def S_impl_GrowExponent_L0 (F : FOps) : Sm := ⟨[1, 3, 12, 25, 26, 27], [24, 2, 24, 30, 3, 3], [3, 12], fun vals hp => match vals, hp with
  | [V.at (A.fl .f32 y0), V.at (A.int .i64 y1), V.at (A.fl .f32 y2), V.at (A.sl 0), V.at (A.int .i64 y3), V.at (A.int .i64 y4)], [⟨true, .rows [K.f .f32] y5⟩] => some (R_impl_GrowExponent_L0 y1 (Pure.impl_GrowExponent_L0 F y0 y1 y3 y5 (y3 - y4 + 1).toNat y2 y4))
  | _, _ => none⟩
theorem l_impl_GrowExponent_L0 (F : FOps) (y0 y1 y3 : Int) (y5 : List (List Int)) : ∀ (fuel : Nat) (y2 y4 : Int), (Pure.impl_GrowExponent_L0 F y0 y1 y3 y5 fuel y2 y4).1 = true → loopOf (cxS F tyl [(17, c_impl_GrowOrbit F), (55, c_impl_abs F), (56, c_impl_LogNumber F), (53, c_impl_toldNumber F)] [] [] 0) 0 48 0 [1, 3, 12, 25, 26, 27] [24, 2, 24, 30, 3, 3] [3, 12] (loopB 0 (codeOf Try.f21)) fuel [V.at (A.fl .f32 y0), V.at (A.int .i64 y1), V.at (A.fl .f32 y2), V.at (A.sl 0), V.at (A.int .i64 y3), V.at (A.int .i64 y4)] [⟨true, .rows [K.f .f32] y5⟩] = resOf (R_impl_GrowExponent_L0 y1 (Pure.impl_GrowExponent_L0 F y0 y1 y3 y5 fuel y2 y4)) := by
  intro fuel
  induction fuel with
  | zero => intro y2 y4 h; exact absurd h Bool.false_ne_true
  | succ n ih =>
    intro y2 y4
    have h0 : roundOf (cxS F tyl [(17, c_impl_GrowOrbit F), (55, c_impl_abs F), (56, c_impl_LogNumber F), (53, c_impl_toldNumber F)] [] [] 0) 0 48 0 [1, 3, 12, 25, 26, 27] [24, 2, 24, 30, 3, 3] [3, 12] (loopB 0 (codeOf Try.f21)) [V.at (A.fl .f32 y0), V.at (A.int .i64 y1), V.at (A.fl .f32 y2), V.at (A.sl 0), V.at (A.int .i64 y3), V.at (A.int .i64 y4)] [⟨true, .rows [K.f .f32] y5⟩] = (bif decide (y4 < y3) then bif decide (0 ≤ y4) then bif decide (y4 < (Int.ofNat y5.length)) then bif Pure.impl_LogNumber_ok F (F.abs .f32 (F.bin .mul .f32 y0 (F.bin .sub .f32 1065353216 (F.bin .mul .f32 1073741824 ((y5.getD y4.toNat []).getD 0 0))))) then some (true, (Ex.normal, ([V.at (A.fl .f32 y0), V.at (A.int .i64 y1), V.at (A.fl .f32 (F.bin .add .f32 y2 (Pure.impl_LogNumber F (F.abs .f32 (F.bin .mul .f32 y0 (F.bin .sub .f32 1065353216 (F.bin .mul .f32 1073741824 ((y5.getD y4.toNat []).getD 0 0)))))))), V.at (A.sl 0), V.at (A.int .i64 y3), V.at (A.int .i64 (IntKind.wrap .i64 (y4 + 1)))], [⟨true, .rows [K.f .f32] y5⟩]))) else none else none else none else some (false, (Ex.normal, ([V.at (A.int .i64 y1), V.at (A.fl .f32 y2)], [])))) := by kernel_rfl
    unfold loopOf
    rw [h0]
    unfold Pure.impl_GrowExponent_L0
    cases (decide (y4 < y3)) with
    | true =>
      cases (decide (0 ≤ y4)) with
      | true =>
        cases (decide (y4 < (Int.ofNat y5.length))) with
        | true =>
          cases (Pure.impl_LogNumber_ok F (F.abs .f32 (F.bin .mul .f32 y0 (F.bin .sub .f32 1065353216 (F.bin .mul .f32 1073741824 ((y5.getD y4.toNat []).getD 0 0)))))) with
          | true =>
            exact ih _ _
          | false =>
            intro h; exact absurd h Bool.false_ne_true
        | false =>
          intro h; exact absurd h Bool.false_ne_true
      | false =>
        intro h; exact absurd h Bool.false_ne_true
    | false =>
      intro _; rfl
theorem t_impl_GrowExponent_L0 : SmTo Try.prog 0 48 (S_impl_GrowExponent_L0 real) 0 (.loop (loopB 0 (codeOf Try.f21))) := by
  refine smTo_ev (cl := [(17, c_impl_GrowOrbit real), (55, c_impl_abs real), (56, c_impl_LogNumber real), (53, c_impl_toldNumber real)]) (ef := []) (sm := []) (un := 0) prog_ok (allOK_cons ok_impl_GrowOrbit (allOK_cons ok_impl_abs (allOK_cons ok_impl_LogNumber (allOK_cons ok_impl_toldNumber allOK_nil)))) smL_nil ?_
  intro vals hp q r h hq
  unfold S_impl_GrowExponent_L0 at h
  dsimp only at h
  split at h
  · rename_i y0 y1 y2 y3 y4 y5
    obtain rfl := Option.some.inj h
    have h1 := hq
    unfold resOf at h1
    rw [chk_some] at h1
    exact ⟨_, (l_impl_GrowExponent_L0 real y0 y1 y3 y5 _ y2 y4 h1.1).trans hq⟩
  · cases h
def Pure.impl_GrowExponent (F : FOps) (x0 x1 x2 x3 : Int) : Int := bif Pure.impl_GrowOrbit F x0 x1 x2 x3 then Pure.impl_toldNumber F (F.bin .quo .f32 (Prod.snd (Pure.impl_GrowExponent_L0 F x1 x3 (Int.ofNat (List.length (Pure.impl_GrowOrbit_1 F x0 x1 x2 x3))) (Pure.impl_GrowOrbit_1 F x0 x1 x2 x3) (Nat.succ ((List.length (Pure.impl_GrowOrbit_1 F x0 x1 x2 x3)) + 0)) 0 0)) (F.ofInt .f32 x3)) else 0
def Pure.impl_GrowExponent_1 (F : FOps) (x0 x1 x2 x3 : Int) : Bool := bif Pure.impl_GrowOrbit F x0 x1 x2 x3 then Pure.impl_IsFinite F (F.bin .quo .f32 (Prod.snd (Pure.impl_GrowExponent_L0 F x1 x3 (Int.ofNat (List.length (Pure.impl_GrowOrbit_1 F x0 x1 x2 x3))) (Pure.impl_GrowOrbit_1 F x0 x1 x2 x3) (Nat.succ ((List.length (Pure.impl_GrowOrbit_1 F x0 x1 x2 x3)) + 0)) 0 0)) (F.ofInt .f32 x3)) else false
def Pure.impl_GrowExponent_ok (F : FOps) (x0 x1 x2 x3 : Int) : Bool := bif Pure.impl_GrowOrbit_ok F x0 x1 x2 x3 then bif Pure.impl_GrowOrbit F x0 x1 x2 x3 then Prod.fst (Pure.impl_GrowExponent_L0 F x1 x3 (Int.ofNat (List.length (Pure.impl_GrowOrbit_1 F x0 x1 x2 x3))) (Pure.impl_GrowOrbit_1 F x0 x1 x2 x3) (Nat.succ ((List.length (Pure.impl_GrowOrbit_1 F x0 x1 x2 x3)) + 0)) 0 0) else true else false
def c_impl_GrowExponent (F : FOps) : Con
  | [V.at (A.fl .f32 x0), V.at (A.fl .f32 x1), V.at (A.int .i64 x2), V.at (A.int .i64 x3)], [] => some (Pure.impl_GrowExponent_ok F x0 x1 x2 x3, ⟨V.tup [(false, [A.fl .f32 (Pure.impl_GrowExponent F x0 x1 x2 x3)]), (false, [A.bool (Pure.impl_GrowExponent_1 F x0 x1 x2 x3)])], none, []⟩)
  | _, _ => none
theorem e_impl_GrowExponent (F : FOps) (x0 x1 x2 x3 : Int) : Pure.impl_GrowExponent_ok F x0 x1 x2 x3 = true → evFn (cxS F tyl [(17, c_impl_GrowOrbit F), (55, c_impl_abs F), (56, c_impl_LogNumber F), (53, c_impl_toldNumber F)] [] [(0, S_impl_GrowExponent_L0 F)] 0) Try.f21 false [V.at (A.fl .f32 x0), V.at (A.fl .f32 x1), V.at (A.int .i64 x2), V.at (A.int .i64 x3)] [] = some ⟨V.tup [(false, [A.fl .f32 (Pure.impl_GrowExponent F x0 x1 x2 x3)]), (false, [A.bool (Pure.impl_GrowExponent_1 F x0 x1 x2 x3)])], none, []⟩ := by
  have h0 : evFn (cxS F tyl [(17, c_impl_GrowOrbit F), (55, c_impl_abs F), (56, c_impl_LogNumber F), (53, c_impl_toldNumber F)] [] [(0, S_impl_GrowExponent_L0 F)] 0) Try.f21 false [V.at (A.fl .f32 x0), V.at (A.fl .f32 x1), V.at (A.int .i64 x2), V.at (A.int .i64 x3)] [] = bif Pure.impl_GrowOrbit_ok F x0 x1 x2 x3 then bif Bool.not (Pure.impl_GrowOrbit F x0 x1 x2 x3) then some ⟨V.tup [(false, [A.fl .f32 0]), (false, [A.bool false])], none, []⟩ else bif Prod.fst (Pure.impl_GrowExponent_L0 F x1 x3 (Int.ofNat (List.length (Pure.impl_GrowOrbit_1 F x0 x1 x2 x3))) (Pure.impl_GrowOrbit_1 F x0 x1 x2 x3) (Nat.succ ((List.length (Pure.impl_GrowOrbit_1 F x0 x1 x2 x3)) + 0)) 0 0) then some ⟨V.tup [(false, [A.fl .f32 (Pure.impl_toldNumber F (F.bin .quo .f32 (Prod.snd (Pure.impl_GrowExponent_L0 F x1 x3 (Int.ofNat (List.length (Pure.impl_GrowOrbit_1 F x0 x1 x2 x3))) (Pure.impl_GrowOrbit_1 F x0 x1 x2 x3) (Nat.succ ((List.length (Pure.impl_GrowOrbit_1 F x0 x1 x2 x3)) + 0)) 0 0)) (F.ofInt .f32 x3)))]), (false, [A.bool (Pure.impl_IsFinite F (F.bin .quo .f32 (Prod.snd (Pure.impl_GrowExponent_L0 F x1 x3 (Int.ofNat (List.length (Pure.impl_GrowOrbit_1 F x0 x1 x2 x3))) (Pure.impl_GrowOrbit_1 F x0 x1 x2 x3) (Nat.succ ((List.length (Pure.impl_GrowOrbit_1 F x0 x1 x2 x3)) + 0)) 0 0)) (F.ofInt .f32 x3)))])], none, []⟩ else none else none := by kernel_rfl
  rw [h0]
  unfold Pure.impl_GrowExponent Pure.impl_GrowExponent_1 Pure.impl_GrowExponent_ok
  cases (Pure.impl_GrowOrbit_ok F x0 x1 x2 x3) with
  | true =>
    cases (Pure.impl_GrowOrbit F x0 x1 x2 x3) with
    | true =>
      cases (Prod.fst (Pure.impl_GrowExponent_L0 F x1 x3 (Int.ofNat (List.length (Pure.impl_GrowOrbit_1 F x0 x1 x2 x3))) (Pure.impl_GrowOrbit_1 F x0 x1 x2 x3) (Nat.succ ((List.length (Pure.impl_GrowOrbit_1 F x0 x1 x2 x3)) + 0)) 0 0)) with
      | true =>
        intro _; rfl
      | false =>
        intro h; exact absurd h Bool.false_ne_true
    | false =>
      intro _; rfl
  | false =>
    intro h; exact absurd h Bool.false_ne_true
theorem ok_impl_GrowExponent : CallOK Try.prog 21 (c_impl_GrowExponent real) := by
  refine callOK_of fun args h ret hc => ?_
  unfold c_impl_GrowExponent at hc
  split at hc
  · rename_i x0 x1 x2 x3
    obtain ⟨hok, rfl⟩ := some_ret hc
    exact holds_ev prog_ok (allOK_cons ok_impl_GrowOrbit (allOK_cons ok_impl_abs (allOK_cons ok_impl_LogNumber (allOK_cons ok_impl_toldNumber allOK_nil)))) Try.func21 rfl rfl (smL_cons (body := .loop (loopB 0 (codeOf Try.f21))) (by kernel_rfl) t_impl_GrowExponent_L0 smL_nil) rfl (e_impl_GrowExponent real x0 x1 x2 x3 hok)
  · cases hc
end Go.Fx
