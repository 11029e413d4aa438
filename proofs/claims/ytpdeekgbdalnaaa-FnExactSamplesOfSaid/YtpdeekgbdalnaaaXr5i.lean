import Derived.Test.YtpdeekgbdalnaaaXr5f
import Derived.KernelRfl
namespace Go.Fx
open Go.Proofs
set_option maxRecDepth 100000
def Pure.spec_SamplesOf_L0 (F : FOps) (y0 : Int) (y1 : Int) (y2 : Int) (y4 : Int) (y5 : Int) (y6 : Int) (y7 : Int) (y8 : Int) : Nat → Int → Int → Int → Int → (List (List Int)) → (Bool × Bool × (List (List Int)) × (List (List Int)))
  | 0, _, _, _, _, _ => (false, false, [], [])
  | n + 1, y3, y9, y10, y11, y12 => bif (Decidable.decide (y3 < y2)) then (bif (Pure.spec_l02Run_ok F y4 y5 y6 y7 y8 y9 y10 y11 y0 y1) then (bif (Pure.spec_l02Run_3 F y4 y5 y6 y7 y8 y9 y10 y11 y0 y1) then (bif (Decidable.decide ((Nat.succ (List.length y12)) ≤ 1073741824)) then (Pure.spec_SamplesOf_L0 F y0 y1 y2 y4 y5 y6 y7 y8 n (IntKind.wrap IntKind.i64 (y3 + 1)) (Pure.spec_l02Run F y4 y5 y6 y7 y8 y9 y10 y11 y0 y1) (Pure.spec_l02Run_1 F y4 y5 y6 y7 y8 y9 y10 y11 y0 y1) (Pure.spec_l02Run_2 F y4 y5 y6 y7 y8 y9 y10 y11 y0 y1) (y12 ++ [[Pure.spec_l02Run F y4 y5 y6 y7 y8 y9 y10 y11 y0 y1, Pure.spec_l02Run_1 F y4 y5 y6 y7 y8 y9 y10 y11 y0 y1, Pure.spec_l02Run_2 F y4 y5 y6 y7 y8 y9 y10 y11 y0 y1]])) else ((false, false, [], []))) else ((true, true, [], y12))) else ((false, false, [], []))) else ((true, false, y12, []))
def R_spec_SamplesOf_L0 (r : (Bool × Bool × (List (List Int)) × (List (List Int)))) : Bool × Bool × (Ex × List V × List Ob) × (Ex × List V × List Ob) := ((r).1, (r).2.1, (Ex.normal, [V.at A.undef, V.at A.undef, V.at (A.sl 0)], [⟨true, OC.rows [K.f FloatKind.f32, K.f FloatKind.f32, K.f FloatKind.f32] (r).2.2.1⟩]), (Ex.ret, [V.at A.nil, V.at (A.bool false), V.at (A.sl 0)], [⟨true, OC.rows [K.f FloatKind.f32, K.f FloatKind.f32, K.f FloatKind.f32] (r).2.2.2⟩]))
def S_spec_SamplesOf_L0 (F : FOps) : Sm := ⟨[2, 3, 4, 5, 6, 12, 13], [22, 2, 2, 0, 0, 72, 2], [10, 11, 12], fun vals hp => match vals, hp with
  | [V.at (A.fl FloatKind.f32 y0), V.at (A.int IntKind.i64 y1), V.at (A.int IntKind.i64 y2), V.at (A.ptr 0 0 0), V.at (A.ptr 1 0 0), V.at (A.sl 2), V.at (A.int IntKind.i64 y3)], [⟨true, OC.box [A.fl FloatKind.f32 y4, A.fl FloatKind.f32 y5, A.fl FloatKind.f32 y6, A.fl FloatKind.f32 y7, A.fl FloatKind.f32 y8]⟩, ⟨true, OC.box [A.fl FloatKind.f32 y9, A.fl FloatKind.f32 y10, A.fl FloatKind.f32 y11]⟩, ⟨true, OC.rows [K.f FloatKind.f32, K.f FloatKind.f32, K.f FloatKind.f32] y12⟩] => some (R_spec_SamplesOf_L0  (Pure.spec_SamplesOf_L0 F y0 y1 y2 y4 y5 y6 y7 y8 (y2 - y3 + 1).toNat y3 y9 y10 y11 y12))
  | _, _ => none⟩
theorem l_spec_SamplesOf_L0 (F : FOps) (y0 : Int) (y1 : Int) (y2 : Int) (y4 : Int) (y5 : Int) (y6 : Int) (y7 : Int) (y8 : Int) : ∀ (fuel : Nat) (y3 : Int) (y9 : Int) (y10 : Int) (y11 : Int) (y12 : List (List Int)), (Pure.spec_SamplesOf_L0 F y0 y1 y2 y4 y5 y6 y7 y8 fuel y3 y9 y10 y11 y12).1 = true → loopOf (cxS F tyl [(75, c_spec_l02Both F), (76, c_spec_l02Tick F), (93, c_spec_l00In F), (83, c_spec_l02Steps F), (84, c_spec_l02Run F)] [] [] 0) 0 62 0 [2, 3, 4, 5, 6, 12, 13] [22, 2, 2, 0, 0, 72, 2] [10, 11, 12] (loopB 0 (codeOf Try.f47)) fuel [V.at (A.fl FloatKind.f32 y0), V.at (A.int IntKind.i64 y1), V.at (A.int IntKind.i64 y2), V.at (A.ptr 0 0 0), V.at (A.ptr 1 0 0), V.at (A.sl 2), V.at (A.int IntKind.i64 y3)] [⟨true, OC.box [A.fl FloatKind.f32 y4, A.fl FloatKind.f32 y5, A.fl FloatKind.f32 y6, A.fl FloatKind.f32 y7, A.fl FloatKind.f32 y8]⟩, ⟨true, OC.box [A.fl FloatKind.f32 y9, A.fl FloatKind.f32 y10, A.fl FloatKind.f32 y11]⟩, ⟨true, OC.rows [K.f FloatKind.f32, K.f FloatKind.f32, K.f FloatKind.f32] y12⟩] = resOf (R_spec_SamplesOf_L0  (Pure.spec_SamplesOf_L0 F y0 y1 y2 y4 y5 y6 y7 y8 fuel y3 y9 y10 y11 y12)) := by
  intro fuel
  induction fuel with
  | zero => intro y3 y9 y10 y11 y12 h; exact absurd h Bool.false_ne_true
  | succ n ih =>
    intro y3 y9 y10 y11 y12
    have h0 : roundOf (cxS F tyl [(75, c_spec_l02Both F), (76, c_spec_l02Tick F), (93, c_spec_l00In F), (83, c_spec_l02Steps F), (84, c_spec_l02Run F)] [] [] 0) 0 62 0 [2, 3, 4, 5, 6, 12, 13] [22, 2, 2, 0, 0, 72, 2] [10, 11, 12] (loopB 0 (codeOf Try.f47)) [V.at (A.fl FloatKind.f32 y0), V.at (A.int IntKind.i64 y1), V.at (A.int IntKind.i64 y2), V.at (A.ptr 0 0 0), V.at (A.ptr 1 0 0), V.at (A.sl 2), V.at (A.int IntKind.i64 y3)] [⟨true, OC.box [A.fl FloatKind.f32 y4, A.fl FloatKind.f32 y5, A.fl FloatKind.f32 y6, A.fl FloatKind.f32 y7, A.fl FloatKind.f32 y8]⟩, ⟨true, OC.box [A.fl FloatKind.f32 y9, A.fl FloatKind.f32 y10, A.fl FloatKind.f32 y11]⟩, ⟨true, OC.rows [K.f FloatKind.f32, K.f FloatKind.f32, K.f FloatKind.f32] y12⟩] = (bif Decidable.decide (y3 < y2) then bif Pure.spec_l02Run_ok F y4 y5 y6 y7 y8 y9 y10 y11 y0 y1 then bif Bool.not (Pure.spec_l02Run_3 F y4 y5 y6 y7 y8 y9 y10 y11 y0 y1) then some (false, (Ex.ret, ([V.at A.nil, V.at (A.bool false), V.at (A.sl 0)], [⟨true, OC.rows [K.f FloatKind.f32, K.f FloatKind.f32, K.f FloatKind.f32] y12⟩]))) else bif Decidable.decide ((Nat.succ (List.length y12)) ≤ 1073741824) then some (true, (Ex.normal, ([V.at (A.fl FloatKind.f32 y0), V.at (A.int IntKind.i64 y1), V.at (A.int IntKind.i64 y2), V.at (A.ptr 0 0 0), V.at (A.ptr 1 0 0), V.at (A.sl 2), V.at (A.int IntKind.i64 (IntKind.wrap IntKind.i64 (y3 + 1)))], [⟨true, OC.box [A.fl FloatKind.f32 y4, A.fl FloatKind.f32 y5, A.fl FloatKind.f32 y6, A.fl FloatKind.f32 y7, A.fl FloatKind.f32 y8]⟩, ⟨true, OC.box [A.fl FloatKind.f32 (Pure.spec_l02Run F y4 y5 y6 y7 y8 y9 y10 y11 y0 y1), A.fl FloatKind.f32 (Pure.spec_l02Run_1 F y4 y5 y6 y7 y8 y9 y10 y11 y0 y1), A.fl FloatKind.f32 (Pure.spec_l02Run_2 F y4 y5 y6 y7 y8 y9 y10 y11 y0 y1)]⟩, ⟨true, OC.rows [K.f FloatKind.f32, K.f FloatKind.f32, K.f FloatKind.f32] (y12 ++ [[Pure.spec_l02Run F y4 y5 y6 y7 y8 y9 y10 y11 y0 y1, Pure.spec_l02Run_1 F y4 y5 y6 y7 y8 y9 y10 y11 y0 y1, Pure.spec_l02Run_2 F y4 y5 y6 y7 y8 y9 y10 y11 y0 y1]])⟩]))) else none else none else some (false, (Ex.normal, ([V.at A.undef, V.at A.undef, V.at (A.sl 0)], [⟨true, OC.rows [K.f FloatKind.f32, K.f FloatKind.f32, K.f FloatKind.f32] y12⟩])))) := by kernel_rfl
    unfold loopOf
    rw [h0]
    unfold Pure.spec_SamplesOf_L0
    cases (Decidable.decide (y3 < y2)) with
    | true =>
      cases (Pure.spec_l02Run_ok F y4 y5 y6 y7 y8 y9 y10 y11 y0 y1) with
      | true =>
        cases (Pure.spec_l02Run_3 F y4 y5 y6 y7 y8 y9 y10 y11 y0 y1) with
        | true =>
          cases (Decidable.decide ((Nat.succ (List.length y12)) ≤ 1073741824)) with
          | true =>
            exact ih _ _ _ _ _
          | false =>
            intro h; exact absurd h Bool.false_ne_true
        | false =>
          intro _; rfl
      | false =>
        intro h; exact absurd h Bool.false_ne_true
    | false =>
      intro _; rfl
theorem t_spec_SamplesOf_L0 : SmTo Try.prog 0 62 (S_spec_SamplesOf_L0 real) 0 (.loop (loopB 0 (codeOf Try.f47))) := by
  refine smTo_ev (cl := [(75, c_spec_l02Both real), (76, c_spec_l02Tick real), (93, c_spec_l00In real), (83, c_spec_l02Steps real), (84, c_spec_l02Run real)]) (ef := []) (sm := []) (un := 0) prog_ok (allOK_cons ok_spec_l02Both (allOK_cons ok_spec_l02Tick (allOK_cons ok_spec_l00In (allOK_cons ok_spec_l02Steps (allOK_cons ok_spec_l02Run allOK_nil))))) smL_nil ?_
  intro vals hp q r h hq
  unfold S_spec_SamplesOf_L0 at h
  dsimp only at h
  split at h
  · rename_i y0 y1 y2 y3 y4 y5 y6 y7 y8 y9 y10 y11 y12
    obtain rfl := Option.some.inj h
    have h1 := hq
    unfold resOf at h1
    rw [chk_some] at h1
    exact ⟨_, (l_spec_SamplesOf_L0 real y0 y1 y2 y4 y5 y6 y7 y8 _ y3 y9 y10 y11 y12 h1.1).trans hq⟩
  · cases h
def Pure.spec_SamplesOf (F : FOps) (x0 : Int) (x1 : Int) (x2 : Int) (x3 : Int) (x4 : Int) (x5 : Int) (x6 : Int) (x7 : Int) (x8 : Int) (x9 : Int) (x10 : Int) : Bool := bif Pure.spec_l02Both F x0 x1 x2 x3 x4 x5 x6 x7 then bif Pure.spec_l02Tick F x8 then bif Pure.spec_l00In F x9 1 256 then bif Pure.spec_l00In F x10 0 256 then bif Decidable.decide ((IntKind.wrap IntKind.i64 (x9 * x10)) > 256) then false else bif Prod.fst (Prod.snd (Pure.spec_SamplesOf_L0 F x8 x9 x10 x0 x1 x2 x3 x4 (Int.toNat ((x10 - 0) + 1)) 0 x5 x6 x7 [])) then false else true else false else false else false else false
def Pure.spec_SamplesOf_1 (F : FOps) (x0 : Int) (x1 : Int) (x2 : Int) (x3 : Int) (x4 : Int) (x5 : Int) (x6 : Int) (x7 : Int) (x8 : Int) (x9 : Int) (x10 : Int) : List (List Int) := bif Pure.spec_l02Both F x0 x1 x2 x3 x4 x5 x6 x7 then bif Pure.spec_l02Tick F x8 then bif Pure.spec_l00In F x9 1 256 then bif Pure.spec_l00In F x10 0 256 then bif Decidable.decide ((IntKind.wrap IntKind.i64 (x9 * x10)) > 256) then [] else bif Prod.fst (Prod.snd (Pure.spec_SamplesOf_L0 F x8 x9 x10 x0 x1 x2 x3 x4 (Int.toNat ((x10 - 0) + 1)) 0 x5 x6 x7 [])) then [] else Prod.fst (Prod.snd (Prod.snd (Pure.spec_SamplesOf_L0 F x8 x9 x10 x0 x1 x2 x3 x4 (Int.toNat ((x10 - 0) + 1)) 0 x5 x6 x7 []))) else [] else [] else [] else []
def Pure.spec_SamplesOf_ok (F : FOps) (x0 : Int) (x1 : Int) (x2 : Int) (x3 : Int) (x4 : Int) (x5 : Int) (x6 : Int) (x7 : Int) (x8 : Int) (x9 : Int) (x10 : Int) : Bool := bif Pure.spec_l02Both F x0 x1 x2 x3 x4 x5 x6 x7 then bif Pure.spec_l02Tick F x8 then bif Pure.spec_l00In F x9 1 256 then bif Pure.spec_l00In F x10 0 256 then bif Decidable.decide ((IntKind.wrap IntKind.i64 (x9 * x10)) > 256) then true else Prod.fst (Pure.spec_SamplesOf_L0 F x8 x9 x10 x0 x1 x2 x3 x4 (Int.toNat ((x10 - 0) + 1)) 0 x5 x6 x7 []) else true else true else true else true
def c_spec_SamplesOf (F : FOps) : Con
  | [V.agg [A.fl FloatKind.f32 x0, A.fl FloatKind.f32 x1, A.fl FloatKind.f32 x2, A.fl FloatKind.f32 x3, A.fl FloatKind.f32 x4], V.agg [A.fl FloatKind.f32 x5, A.fl FloatKind.f32 x6, A.fl FloatKind.f32 x7], V.at (A.fl FloatKind.f32 x8), V.at (A.int IntKind.i64 x9), V.at (A.int IntKind.i64 x10)], [] => some (Pure.spec_SamplesOf_ok F x0 x1 x2 x3 x4 x5 x6 x7 x8 x9 x10, ⟨V.tup [(false, [A.sl 0]), (false, [A.bool (Pure.spec_SamplesOf F x0 x1 x2 x3 x4 x5 x6 x7 x8 x9 x10)])], none, [⟨true, OC.rows [K.f FloatKind.f32, K.f FloatKind.f32, K.f FloatKind.f32] (Pure.spec_SamplesOf_1 F x0 x1 x2 x3 x4 x5 x6 x7 x8 x9 x10)⟩]⟩)
  | _, _ => none
theorem e_spec_SamplesOf (F : FOps) (x0 : Int) (x1 : Int) (x2 : Int) (x3 : Int) (x4 : Int) (x5 : Int) (x6 : Int) (x7 : Int) (x8 : Int) (x9 : Int) (x10 : Int) : Pure.spec_SamplesOf_ok F x0 x1 x2 x3 x4 x5 x6 x7 x8 x9 x10 = true → evFn (cxS F tyl [(75, c_spec_l02Both F), (76, c_spec_l02Tick F), (93, c_spec_l00In F), (83, c_spec_l02Steps F), (84, c_spec_l02Run F)] [] [(0, S_spec_SamplesOf_L0 F)] 0) Try.f47 false [V.agg [A.fl FloatKind.f32 x0, A.fl FloatKind.f32 x1, A.fl FloatKind.f32 x2, A.fl FloatKind.f32 x3, A.fl FloatKind.f32 x4], V.agg [A.fl FloatKind.f32 x5, A.fl FloatKind.f32 x6, A.fl FloatKind.f32 x7], V.at (A.fl FloatKind.f32 x8), V.at (A.int IntKind.i64 x9), V.at (A.int IntKind.i64 x10)] [] = some ⟨V.tup [(false, [A.sl 0]), (false, [A.bool (Pure.spec_SamplesOf F x0 x1 x2 x3 x4 x5 x6 x7 x8 x9 x10)])], none, [⟨true, OC.rows [K.f FloatKind.f32, K.f FloatKind.f32, K.f FloatKind.f32] (Pure.spec_SamplesOf_1 F x0 x1 x2 x3 x4 x5 x6 x7 x8 x9 x10)⟩]⟩ := by
  have h0 : evFn (cxS F tyl [(75, c_spec_l02Both F), (76, c_spec_l02Tick F), (93, c_spec_l00In F), (83, c_spec_l02Steps F), (84, c_spec_l02Run F)] [] [(0, S_spec_SamplesOf_L0 F)] 0) Try.f47 false [V.agg [A.fl FloatKind.f32 x0, A.fl FloatKind.f32 x1, A.fl FloatKind.f32 x2, A.fl FloatKind.f32 x3, A.fl FloatKind.f32 x4], V.agg [A.fl FloatKind.f32 x5, A.fl FloatKind.f32 x6, A.fl FloatKind.f32 x7], V.at (A.fl FloatKind.f32 x8), V.at (A.int IntKind.i64 x9), V.at (A.int IntKind.i64 x10)] [] = bif Bool.not (Pure.spec_l02Both F x0 x1 x2 x3 x4 x5 x6 x7) then some ⟨V.tup [(false, [A.sl 0]), (false, [A.bool false])], none, [⟨true, OC.rows [K.f FloatKind.f32, K.f FloatKind.f32, K.f FloatKind.f32] []⟩]⟩ else bif Bool.not (Pure.spec_l02Tick F x8) then some ⟨V.tup [(false, [A.sl 0]), (false, [A.bool false])], none, [⟨true, OC.rows [K.f FloatKind.f32, K.f FloatKind.f32, K.f FloatKind.f32] []⟩]⟩ else bif Bool.not (Pure.spec_l00In F x9 1 256) then some ⟨V.tup [(false, [A.sl 0]), (false, [A.bool false])], none, [⟨true, OC.rows [K.f FloatKind.f32, K.f FloatKind.f32, K.f FloatKind.f32] []⟩]⟩ else bif Bool.not (Pure.spec_l00In F x10 0 256) then some ⟨V.tup [(false, [A.sl 0]), (false, [A.bool false])], none, [⟨true, OC.rows [K.f FloatKind.f32, K.f FloatKind.f32, K.f FloatKind.f32] []⟩]⟩ else bif Decidable.decide ((IntKind.wrap IntKind.i64 (x9 * x10)) > 256) then some ⟨V.tup [(false, [A.sl 0]), (false, [A.bool false])], none, [⟨true, OC.rows [K.f FloatKind.f32, K.f FloatKind.f32, K.f FloatKind.f32] []⟩]⟩ else bif Prod.fst (Pure.spec_SamplesOf_L0 F x8 x9 x10 x0 x1 x2 x3 x4 (Int.toNat ((x10 - 0) + 1)) 0 x5 x6 x7 []) then bif Prod.fst (Prod.snd (Pure.spec_SamplesOf_L0 F x8 x9 x10 x0 x1 x2 x3 x4 (Int.toNat ((x10 - 0) + 1)) 0 x5 x6 x7 [])) then some ⟨V.tup [(false, [A.sl 0]), (false, [A.bool false])], none, [⟨true, OC.rows [K.f FloatKind.f32, K.f FloatKind.f32, K.f FloatKind.f32] []⟩]⟩ else some ⟨V.tup [(false, [A.sl 0]), (false, [A.bool true])], none, [⟨true, OC.rows [K.f FloatKind.f32, K.f FloatKind.f32, K.f FloatKind.f32] (Prod.fst (Prod.snd (Prod.snd (Pure.spec_SamplesOf_L0 F x8 x9 x10 x0 x1 x2 x3 x4 (Int.toNat ((x10 - 0) + 1)) 0 x5 x6 x7 []))))⟩]⟩ else none := by kernel_rfl
  rw [h0]
  unfold Pure.spec_SamplesOf Pure.spec_SamplesOf_1 Pure.spec_SamplesOf_ok
  cases (Pure.spec_l02Both F x0 x1 x2 x3 x4 x5 x6 x7) with
  | true =>
    cases (Pure.spec_l02Tick F x8) with
    | true =>
      cases (Pure.spec_l00In F x9 1 256) with
      | true =>
        cases (Pure.spec_l00In F x10 0 256) with
        | true =>
          cases (Decidable.decide ((IntKind.wrap IntKind.i64 (x9 * x10)) > 256)) with
          | true =>
            intro _; rfl
          | false =>
            cases (Prod.fst (Pure.spec_SamplesOf_L0 F x8 x9 x10 x0 x1 x2 x3 x4 (Int.toNat ((x10 - 0) + 1)) 0 x5 x6 x7 [])) with
            | true =>
              cases (Prod.fst (Prod.snd (Pure.spec_SamplesOf_L0 F x8 x9 x10 x0 x1 x2 x3 x4 (Int.toNat ((x10 - 0) + 1)) 0 x5 x6 x7 []))) with
              | true =>
                intro _; rfl
              | false =>
                intro _; rfl
            | false =>
              intro h; exact absurd h Bool.false_ne_true
        | false =>
          intro _; rfl
      | false =>
        intro _; rfl
    | false =>
      intro _; rfl
  | false =>
    intro _; rfl
theorem ok_spec_SamplesOf : CallOK Try.prog 47 (c_spec_SamplesOf real) := by
  refine callOK_of fun args h ret hc => ?_
  unfold c_spec_SamplesOf at hc
  split at hc
  · rename_i x0 x1 x2 x3 x4 x5 x6 x7 x8 x9 x10
    obtain ⟨hok, rfl⟩ := some_ret hc
    exact holds_ev prog_ok (allOK_cons ok_spec_l02Both (allOK_cons ok_spec_l02Tick (allOK_cons ok_spec_l00In (allOK_cons ok_spec_l02Steps (allOK_cons ok_spec_l02Run allOK_nil))))) Try.func47 rfl rfl (smL_cons (body := .loop (loopB 0 (codeOf Try.f47))) (by kernel_rfl) t_spec_SamplesOf_L0 smL_nil) rfl (e_spec_SamplesOf real x0 x1 x2 x3 x4 x5 x6 x7 x8 x9 x10 hok)
  · cases hc
def Pure.impl_SamplesOf_L0 (F : FOps) (y0 : Int) (y1 : Int) (y4 : List (List Int)) : Nat → Int → (List (List Int)) → (Bool × (List (List Int)))
  | 0, _, _ => (false, [])
  | n + 1, y2, y3 => bif (Decidable.decide (y2 < y1)) then (bif (Decidable.decide (0 ≤ y2)) then (bif (Decidable.decide (y2 < (Int.ofNat (List.length y4)))) then (bif (y0 == 0) then ((false, [])) else (bif ((Int.tmod (IntKind.wrap IntKind.i64 (y2 + 1)) y0) == 0) then (bif (Decidable.decide ((Nat.succ (List.length y3)) ≤ 1073741824)) then (Pure.impl_SamplesOf_L0 F y0 y1 y4 n (IntKind.wrap IntKind.i64 (y2 + 1)) (y3 ++ [[List.getD (List.getD y4 (Int.toNat y2) []) 0 0, List.getD (List.getD y4 (Int.toNat y2) []) 1 0, List.getD (List.getD y4 (Int.toNat y2) []) 2 0]])) else ((false, []))) else (Pure.impl_SamplesOf_L0 F y0 y1 y4 n (IntKind.wrap IntKind.i64 (y2 + 1)) y3))) else ((false, []))) else ((false, []))) else ((true, y3))
def R_impl_SamplesOf_L0 (r : (Bool × (List (List Int)))) : Bool × Bool × (Ex × List V × List Ob) × (Ex × List V × List Ob) := ((r).1, false, (Ex.normal, [V.at (A.sl 0)], [⟨true, OC.rows [K.f FloatKind.f32, K.f FloatKind.f32, K.f FloatKind.f32] (r).2⟩]), (Ex.normal, [V.at (A.sl 0)], [⟨true, OC.rows [K.f FloatKind.f32, K.f FloatKind.f32, K.f FloatKind.f32] (r).2⟩]))
def S_impl_SamplesOf_L0 (F : FOps) : Sm := ⟨[3, 14, 50, 51, 52], [2, 72, 72, 3, 3], [14], fun vals hp => match vals, hp with
  | [V.at (A.int IntKind.i64 y0), V.at (A.sl 0), V.at (A.sl 1), V.at (A.int IntKind.i64 y1), V.at (A.int IntKind.i64 y2)], [⟨true, OC.rows [K.f FloatKind.f32, K.f FloatKind.f32, K.f FloatKind.f32] y3⟩, ⟨true, OC.rows [K.f FloatKind.f32, K.f FloatKind.f32, K.f FloatKind.f32] y4⟩] => some (R_impl_SamplesOf_L0  (Pure.impl_SamplesOf_L0 F y0 y1 y4 (y1 - y2 + 1).toNat y2 y3))
  | _, _ => none⟩
theorem l_impl_SamplesOf_L0 (F : FOps) (y0 : Int) (y1 : Int) (y4 : List (List Int)) : ∀ (fuel : Nat) (y2 : Int) (y3 : List (List Int)), (Pure.impl_SamplesOf_L0 F y0 y1 y4 fuel y2 y3).1 = true → loopOf (cxS F tyl [(79, c_impl_swingOk F), (68, c_impl_in F), (85, c_impl_Pendulum_run F)] [] [] 0) 0 68 0 [3, 14, 50, 51, 52] [2, 72, 72, 3, 3] [14] (loopB 0 (codeOf Try.f48)) fuel [V.at (A.int IntKind.i64 y0), V.at (A.sl 0), V.at (A.sl 1), V.at (A.int IntKind.i64 y1), V.at (A.int IntKind.i64 y2)] [⟨true, OC.rows [K.f FloatKind.f32, K.f FloatKind.f32, K.f FloatKind.f32] y3⟩, ⟨true, OC.rows [K.f FloatKind.f32, K.f FloatKind.f32, K.f FloatKind.f32] y4⟩] = resOf (R_impl_SamplesOf_L0  (Pure.impl_SamplesOf_L0 F y0 y1 y4 fuel y2 y3)) := by
  intro fuel
  induction fuel with
  | zero => intro y2 y3 h; exact absurd h Bool.false_ne_true
  | succ n ih =>
    intro y2 y3
    have h0 : roundOf (cxS F tyl [(79, c_impl_swingOk F), (68, c_impl_in F), (85, c_impl_Pendulum_run F)] [] [] 0) 0 68 0 [3, 14, 50, 51, 52] [2, 72, 72, 3, 3] [14] (loopB 0 (codeOf Try.f48)) [V.at (A.int IntKind.i64 y0), V.at (A.sl 0), V.at (A.sl 1), V.at (A.int IntKind.i64 y1), V.at (A.int IntKind.i64 y2)] [⟨true, OC.rows [K.f FloatKind.f32, K.f FloatKind.f32, K.f FloatKind.f32] y3⟩, ⟨true, OC.rows [K.f FloatKind.f32, K.f FloatKind.f32, K.f FloatKind.f32] y4⟩] = (bif Decidable.decide (y2 < y1) then bif Decidable.decide (0 ≤ y2) then bif Decidable.decide (y2 < (Int.ofNat (List.length y4))) then bif Bool.not (y0 == 0) then bif (Int.tmod (IntKind.wrap IntKind.i64 (y2 + 1)) y0) == 0 then bif Decidable.decide ((Nat.succ (List.length y3)) ≤ 1073741824) then some (true, (Ex.normal, ([V.at (A.int IntKind.i64 y0), V.at (A.sl 0), V.at (A.sl 1), V.at (A.int IntKind.i64 y1), V.at (A.int IntKind.i64 (IntKind.wrap IntKind.i64 (y2 + 1)))], [⟨true, OC.rows [K.f FloatKind.f32, K.f FloatKind.f32, K.f FloatKind.f32] (y3 ++ [[List.getD (List.getD y4 (Int.toNat y2) []) 0 0, List.getD (List.getD y4 (Int.toNat y2) []) 1 0, List.getD (List.getD y4 (Int.toNat y2) []) 2 0]])⟩, ⟨true, OC.rows [K.f FloatKind.f32, K.f FloatKind.f32, K.f FloatKind.f32] y4⟩]))) else none else some (true, (Ex.normal, ([V.at (A.int IntKind.i64 y0), V.at (A.sl 0), V.at (A.sl 1), V.at (A.int IntKind.i64 y1), V.at (A.int IntKind.i64 (IntKind.wrap IntKind.i64 (y2 + 1)))], [⟨true, OC.rows [K.f FloatKind.f32, K.f FloatKind.f32, K.f FloatKind.f32] y3⟩, ⟨true, OC.rows [K.f FloatKind.f32, K.f FloatKind.f32, K.f FloatKind.f32] y4⟩]))) else none else none else none else some (false, (Ex.normal, ([V.at (A.sl 0)], [⟨true, OC.rows [K.f FloatKind.f32, K.f FloatKind.f32, K.f FloatKind.f32] y3⟩])))) := by kernel_rfl
    unfold loopOf
    rw [h0]
    unfold Pure.impl_SamplesOf_L0
    cases (Decidable.decide (y2 < y1)) with
    | true =>
      cases (Decidable.decide (0 ≤ y2)) with
      | true =>
        cases (Decidable.decide (y2 < (Int.ofNat (List.length y4)))) with
        | true =>
          cases (y0 == 0) with
          | true =>
            intro h; exact absurd h Bool.false_ne_true
          | false =>
            cases ((Int.tmod (IntKind.wrap IntKind.i64 (y2 + 1)) y0) == 0) with
            | true =>
              cases (Decidable.decide ((Nat.succ (List.length y3)) ≤ 1073741824)) with
              | true =>
                exact ih _ _
              | false =>
                intro h; exact absurd h Bool.false_ne_true
            | false =>
              exact ih _ _
        | false =>
          intro h; exact absurd h Bool.false_ne_true
      | false =>
        intro h; exact absurd h Bool.false_ne_true
    | false =>
      intro _; rfl
theorem t_impl_SamplesOf_L0 : SmTo Try.prog 0 68 (S_impl_SamplesOf_L0 real) 0 (.loop (loopB 0 (codeOf Try.f48))) := by
  refine smTo_ev (cl := [(79, c_impl_swingOk real), (68, c_impl_in real), (85, c_impl_Pendulum_run real)]) (ef := []) (sm := []) (un := 0) prog_ok (allOK_cons ok_impl_swingOk (allOK_cons ok_impl_in (allOK_cons ok_impl_Pendulum_run allOK_nil))) smL_nil ?_
  intro vals hp q r h hq
  unfold S_impl_SamplesOf_L0 at h
  dsimp only at h
  split at h
  · rename_i y0 y1 y2 y3 y4
    obtain rfl := Option.some.inj h
    have h1 := hq
    unfold resOf at h1
    rw [chk_some] at h1
    exact ⟨_, (l_impl_SamplesOf_L0 real y0 y1 y4 _ y2 y3 h1.1).trans hq⟩
  · cases h
def Pure.impl_SamplesOf (F : FOps) (x0 : Int) (x1 : Int) (x2 : Int) (x3 : Int) (x4 : Int) (x5 : Int) (x6 : Int) (x7 : Int) (x8 : Int) (x9 : Int) (x10 : Int) : Bool := bif Pure.impl_swingOk F x0 x1 x2 x3 x4 x5 x6 x7 x8 then bif Pure.impl_in F x9 1 256 then bif Pure.impl_in F x10 0 256 then bif Decidable.decide ((IntKind.wrap IntKind.i64 (x9 * x10)) > 256) then false else Pure.impl_Pendulum_run F x0 x1 x2 x3 x4 x5 x6 x7 x8 (IntKind.wrap IntKind.i64 (x9 * x10)) else false else false else false
def Pure.impl_SamplesOf_1 (F : FOps) (x0 : Int) (x1 : Int) (x2 : Int) (x3 : Int) (x4 : Int) (x5 : Int) (x6 : Int) (x7 : Int) (x8 : Int) (x9 : Int) (x10 : Int) : List (List Int) := bif Pure.impl_swingOk F x0 x1 x2 x3 x4 x5 x6 x7 x8 then bif Pure.impl_in F x9 1 256 then bif Pure.impl_in F x10 0 256 then bif Decidable.decide ((IntKind.wrap IntKind.i64 (x9 * x10)) > 256) then [] else bif Pure.impl_Pendulum_run F x0 x1 x2 x3 x4 x5 x6 x7 x8 (IntKind.wrap IntKind.i64 (x9 * x10)) then Prod.snd (Pure.impl_SamplesOf_L0 F x9 (Int.ofNat (List.length (Pure.impl_Pendulum_run_1 F x0 x1 x2 x3 x4 x5 x6 x7 x8 (IntKind.wrap IntKind.i64 (x9 * x10))))) (Pure.impl_Pendulum_run_1 F x0 x1 x2 x3 x4 x5 x6 x7 x8 (IntKind.wrap IntKind.i64 (x9 * x10))) (Nat.succ ((List.length (Pure.impl_Pendulum_run_1 F x0 x1 x2 x3 x4 x5 x6 x7 x8 (IntKind.wrap IntKind.i64 (x9 * x10)))) + 0)) 0 []) else [] else [] else [] else []
def Pure.impl_SamplesOf_ok (F : FOps) (x0 : Int) (x1 : Int) (x2 : Int) (x3 : Int) (x4 : Int) (x5 : Int) (x6 : Int) (x7 : Int) (x8 : Int) (x9 : Int) (x10 : Int) : Bool := bif Pure.impl_swingOk_ok F x0 x1 x2 x3 x4 x5 x6 x7 x8 then bif Pure.impl_swingOk F x0 x1 x2 x3 x4 x5 x6 x7 x8 then bif Pure.impl_in F x9 1 256 then bif Pure.impl_in F x10 0 256 then bif Decidable.decide ((IntKind.wrap IntKind.i64 (x9 * x10)) > 256) then true else bif Pure.impl_Pendulum_run_ok F x0 x1 x2 x3 x4 x5 x6 x7 x8 (IntKind.wrap IntKind.i64 (x9 * x10)) then bif Pure.impl_Pendulum_run F x0 x1 x2 x3 x4 x5 x6 x7 x8 (IntKind.wrap IntKind.i64 (x9 * x10)) then Prod.fst (Pure.impl_SamplesOf_L0 F x9 (Int.ofNat (List.length (Pure.impl_Pendulum_run_1 F x0 x1 x2 x3 x4 x5 x6 x7 x8 (IntKind.wrap IntKind.i64 (x9 * x10))))) (Pure.impl_Pendulum_run_1 F x0 x1 x2 x3 x4 x5 x6 x7 x8 (IntKind.wrap IntKind.i64 (x9 * x10))) (Nat.succ ((List.length (Pure.impl_Pendulum_run_1 F x0 x1 x2 x3 x4 x5 x6 x7 x8 (IntKind.wrap IntKind.i64 (x9 * x10)))) + 0)) 0 []) else true else false else true else true else true else false
def c_impl_SamplesOf (F : FOps) : Con
  | [V.agg [A.fl FloatKind.f32 x0, A.fl FloatKind.f32 x1, A.fl FloatKind.f32 x2, A.fl FloatKind.f32 x3, A.fl FloatKind.f32 x4], V.agg [A.fl FloatKind.f32 x5, A.fl FloatKind.f32 x6, A.fl FloatKind.f32 x7], V.at (A.fl FloatKind.f32 x8), V.at (A.int IntKind.i64 x9), V.at (A.int IntKind.i64 x10)], [] => some (Pure.impl_SamplesOf_ok F x0 x1 x2 x3 x4 x5 x6 x7 x8 x9 x10, ⟨V.tup [(false, [A.sl 0]), (false, [A.bool (Pure.impl_SamplesOf F x0 x1 x2 x3 x4 x5 x6 x7 x8 x9 x10)])], none, [⟨true, OC.rows [K.f FloatKind.f32, K.f FloatKind.f32, K.f FloatKind.f32] (Pure.impl_SamplesOf_1 F x0 x1 x2 x3 x4 x5 x6 x7 x8 x9 x10)⟩]⟩)
  | _, _ => none
theorem e_impl_SamplesOf (F : FOps) (x0 : Int) (x1 : Int) (x2 : Int) (x3 : Int) (x4 : Int) (x5 : Int) (x6 : Int) (x7 : Int) (x8 : Int) (x9 : Int) (x10 : Int) : Pure.impl_SamplesOf_ok F x0 x1 x2 x3 x4 x5 x6 x7 x8 x9 x10 = true → evFn (cxS F tyl [(79, c_impl_swingOk F), (68, c_impl_in F), (85, c_impl_Pendulum_run F)] [] [(0, S_impl_SamplesOf_L0 F)] 0) Try.f48 false [V.agg [A.fl FloatKind.f32 x0, A.fl FloatKind.f32 x1, A.fl FloatKind.f32 x2, A.fl FloatKind.f32 x3, A.fl FloatKind.f32 x4], V.agg [A.fl FloatKind.f32 x5, A.fl FloatKind.f32 x6, A.fl FloatKind.f32 x7], V.at (A.fl FloatKind.f32 x8), V.at (A.int IntKind.i64 x9), V.at (A.int IntKind.i64 x10)] [] = some ⟨V.tup [(false, [A.sl 0]), (false, [A.bool (Pure.impl_SamplesOf F x0 x1 x2 x3 x4 x5 x6 x7 x8 x9 x10)])], none, [⟨true, OC.rows [K.f FloatKind.f32, K.f FloatKind.f32, K.f FloatKind.f32] (Pure.impl_SamplesOf_1 F x0 x1 x2 x3 x4 x5 x6 x7 x8 x9 x10)⟩]⟩ := by
  have h0 : evFn (cxS F tyl [(79, c_impl_swingOk F), (68, c_impl_in F), (85, c_impl_Pendulum_run F)] [] [(0, S_impl_SamplesOf_L0 F)] 0) Try.f48 false [V.agg [A.fl FloatKind.f32 x0, A.fl FloatKind.f32 x1, A.fl FloatKind.f32 x2, A.fl FloatKind.f32 x3, A.fl FloatKind.f32 x4], V.agg [A.fl FloatKind.f32 x5, A.fl FloatKind.f32 x6, A.fl FloatKind.f32 x7], V.at (A.fl FloatKind.f32 x8), V.at (A.int IntKind.i64 x9), V.at (A.int IntKind.i64 x10)] [] = bif Pure.impl_swingOk_ok F x0 x1 x2 x3 x4 x5 x6 x7 x8 then bif Bool.not (Pure.impl_swingOk F x0 x1 x2 x3 x4 x5 x6 x7 x8) then some ⟨V.tup [(false, [A.sl 0]), (false, [A.bool false])], none, [⟨true, OC.rows [K.f FloatKind.f32, K.f FloatKind.f32, K.f FloatKind.f32] []⟩]⟩ else bif Bool.not (Pure.impl_in F x9 1 256) then some ⟨V.tup [(false, [A.sl 0]), (false, [A.bool false])], none, [⟨true, OC.rows [K.f FloatKind.f32, K.f FloatKind.f32, K.f FloatKind.f32] []⟩]⟩ else bif Bool.not (Pure.impl_in F x10 0 256) then some ⟨V.tup [(false, [A.sl 0]), (false, [A.bool false])], none, [⟨true, OC.rows [K.f FloatKind.f32, K.f FloatKind.f32, K.f FloatKind.f32] []⟩]⟩ else bif Decidable.decide ((IntKind.wrap IntKind.i64 (x9 * x10)) > 256) then some ⟨V.tup [(false, [A.sl 0]), (false, [A.bool false])], none, [⟨true, OC.rows [K.f FloatKind.f32, K.f FloatKind.f32, K.f FloatKind.f32] []⟩]⟩ else bif Pure.impl_Pendulum_run_ok F x0 x1 x2 x3 x4 x5 x6 x7 x8 (IntKind.wrap IntKind.i64 (x9 * x10)) then bif Bool.not (Pure.impl_Pendulum_run F x0 x1 x2 x3 x4 x5 x6 x7 x8 (IntKind.wrap IntKind.i64 (x9 * x10))) then some ⟨V.tup [(false, [A.sl 0]), (false, [A.bool false])], none, [⟨true, OC.rows [K.f FloatKind.f32, K.f FloatKind.f32, K.f FloatKind.f32] []⟩]⟩ else bif Prod.fst (Pure.impl_SamplesOf_L0 F x9 (Int.ofNat (List.length (Pure.impl_Pendulum_run_1 F x0 x1 x2 x3 x4 x5 x6 x7 x8 (IntKind.wrap IntKind.i64 (x9 * x10))))) (Pure.impl_Pendulum_run_1 F x0 x1 x2 x3 x4 x5 x6 x7 x8 (IntKind.wrap IntKind.i64 (x9 * x10))) (Nat.succ ((List.length (Pure.impl_Pendulum_run_1 F x0 x1 x2 x3 x4 x5 x6 x7 x8 (IntKind.wrap IntKind.i64 (x9 * x10)))) + 0)) 0 []) then some ⟨V.tup [(false, [A.sl 0]), (false, [A.bool true])], none, [⟨true, OC.rows [K.f FloatKind.f32, K.f FloatKind.f32, K.f FloatKind.f32] (Prod.snd (Pure.impl_SamplesOf_L0 F x9 (Int.ofNat (List.length (Pure.impl_Pendulum_run_1 F x0 x1 x2 x3 x4 x5 x6 x7 x8 (IntKind.wrap IntKind.i64 (x9 * x10))))) (Pure.impl_Pendulum_run_1 F x0 x1 x2 x3 x4 x5 x6 x7 x8 (IntKind.wrap IntKind.i64 (x9 * x10))) (Nat.succ ((List.length (Pure.impl_Pendulum_run_1 F x0 x1 x2 x3 x4 x5 x6 x7 x8 (IntKind.wrap IntKind.i64 (x9 * x10)))) + 0)) 0 []))⟩]⟩ else none else none else none := by kernel_rfl
  rw [h0]
  unfold Pure.impl_SamplesOf Pure.impl_SamplesOf_1 Pure.impl_SamplesOf_ok
  cases (Pure.impl_swingOk_ok F x0 x1 x2 x3 x4 x5 x6 x7 x8) with
  | true =>
    cases (Pure.impl_swingOk F x0 x1 x2 x3 x4 x5 x6 x7 x8) with
    | true =>
      cases (Pure.impl_in F x9 1 256) with
      | true =>
        cases (Pure.impl_in F x10 0 256) with
        | true =>
          cases (Decidable.decide ((IntKind.wrap IntKind.i64 (x9 * x10)) > 256)) with
          | true =>
            intro _; rfl
          | false =>
            cases (Pure.impl_Pendulum_run_ok F x0 x1 x2 x3 x4 x5 x6 x7 x8 (IntKind.wrap IntKind.i64 (x9 * x10))) with
            | true =>
              cases (Pure.impl_Pendulum_run F x0 x1 x2 x3 x4 x5 x6 x7 x8 (IntKind.wrap IntKind.i64 (x9 * x10))) with
              | true =>
                cases (Prod.fst (Pure.impl_SamplesOf_L0 F x9 (Int.ofNat (List.length (Pure.impl_Pendulum_run_1 F x0 x1 x2 x3 x4 x5 x6 x7 x8 (IntKind.wrap IntKind.i64 (x9 * x10))))) (Pure.impl_Pendulum_run_1 F x0 x1 x2 x3 x4 x5 x6 x7 x8 (IntKind.wrap IntKind.i64 (x9 * x10))) (Nat.succ ((List.length (Pure.impl_Pendulum_run_1 F x0 x1 x2 x3 x4 x5 x6 x7 x8 (IntKind.wrap IntKind.i64 (x9 * x10)))) + 0)) 0 [])) with
                | true =>
                  intro _; rfl
                | false =>
                  intro h; exact absurd h Bool.false_ne_true
              | false =>
                intro _; rfl
            | false =>
              intro h; exact absurd h Bool.false_ne_true
        | false =>
          intro _; rfl
      | false =>
        intro _; rfl
    | false =>
      intro _; rfl
  | false =>
    intro h; exact absurd h Bool.false_ne_true
theorem ok_impl_SamplesOf : CallOK Try.prog 48 (c_impl_SamplesOf real) := by
  refine callOK_of fun args h ret hc => ?_
  unfold c_impl_SamplesOf at hc
  split at hc
  · rename_i x0 x1 x2 x3 x4 x5 x6 x7 x8 x9 x10
    obtain ⟨hok, rfl⟩ := some_ret hc
    exact holds_ev prog_ok (allOK_cons ok_impl_swingOk (allOK_cons ok_impl_in (allOK_cons ok_impl_Pendulum_run allOK_nil))) Try.func48 rfl rfl (smL_cons (body := .loop (loopB 0 (codeOf Try.f48))) (by kernel_rfl) t_impl_SamplesOf_L0 smL_nil) rfl (e_impl_SamplesOf real x0 x1 x2 x3 x4 x5 x6 x7 x8 x9 x10 hok)
  · cases hc
def Pure.laws_eqSwingS_L0 (F : FOps) (y1 : List (List Int)) (y2 : List (List Int)) : Nat → Int → (Bool × Bool)
  | 0, _ => (false, false)
  | n + 1, y0 => bif (Decidable.decide (y0 < (Int.ofNat (List.length y1)))) then (bif (Decidable.decide (0 ≤ y0)) then (bif (Decidable.decide (y0 < (Int.ofNat (List.length y1)))) then (bif (Decidable.decide (0 ≤ y0)) then (bif (Decidable.decide (y0 < (Int.ofNat (List.length y2)))) then (bif (Pure.laws_eqSwing_ok F (List.getD (List.getD y1 (Int.toNat y0) []) 0 0) (List.getD (List.getD y1 (Int.toNat y0) []) 1 0) (List.getD (List.getD y1 (Int.toNat y0) []) 2 0) (List.getD (List.getD y2 (Int.toNat y0) []) 0 0) (List.getD (List.getD y2 (Int.toNat y0) []) 1 0) (List.getD (List.getD y2 (Int.toNat y0) []) 2 0)) then (bif (Pure.laws_eqSwing F (List.getD (List.getD y1 (Int.toNat y0) []) 0 0) (List.getD (List.getD y1 (Int.toNat y0) []) 1 0) (List.getD (List.getD y1 (Int.toNat y0) []) 2 0) (List.getD (List.getD y2 (Int.toNat y0) []) 0 0) (List.getD (List.getD y2 (Int.toNat y0) []) 1 0) (List.getD (List.getD y2 (Int.toNat y0) []) 2 0)) then (Pure.laws_eqSwingS_L0 F y1 y2 n (IntKind.wrap IntKind.i64 (y0 + 1))) else ((true, true))) else ((false, false))) else ((false, false))) else ((false, false))) else ((false, false))) else ((false, false))) else ((true, false))
def R_laws_eqSwingS_L0 (y1 : List (List Int)) (y2 : List (List Int)) (r : (Bool × Bool)) : Bool × Bool × (Ex × List V × List Ob) × (Ex × List V × List Ob) := ((r).1, (r).2, (Ex.normal, [V.at A.undef], [⟨false, OC.rows [K.f FloatKind.f32, K.f FloatKind.f32, K.f FloatKind.f32] y1⟩, ⟨false, OC.rows [K.f FloatKind.f32, K.f FloatKind.f32, K.f FloatKind.f32] y2⟩]), (Ex.ret, [V.at (A.bool false)], [⟨false, OC.rows [K.f FloatKind.f32, K.f FloatKind.f32, K.f FloatKind.f32] y1⟩, ⟨false, OC.rows [K.f FloatKind.f32, K.f FloatKind.f32, K.f FloatKind.f32] y2⟩]))
def S_laws_eqSwingS_L0 (F : FOps) : Sm := ⟨[0, 1, 5], [72, 72, 3], [4], fun vals hp => match vals, hp with
  | [V.at (A.sl 0), V.at (A.sl 1), V.at (A.int IntKind.i64 y0)], [⟨false, OC.rows [K.f FloatKind.f32, K.f FloatKind.f32, K.f FloatKind.f32] y1⟩, ⟨false, OC.rows [K.f FloatKind.f32, K.f FloatKind.f32, K.f FloatKind.f32] y2⟩] => some (R_laws_eqSwingS_L0 y1 y2 (Pure.laws_eqSwingS_L0 F y1 y2 ((Int.ofNat (List.length y1)) - y0 + 1).toNat y0))
  | _, _ => none⟩
theorem l_laws_eqSwingS_L0 (F : FOps) (y1 : List (List Int)) (y2 : List (List Int)) : ∀ (fuel : Nat) (y0 : Int), (Pure.laws_eqSwingS_L0 F y1 y2 fuel y0).1 = true → loopOf (cxS F tyl [(36, c_laws_eqSwing F)] [] [] 0) 2 27 0 [0, 1, 5] [72, 72, 3] [4] (loopB 0 (codeOf Try.f49)) fuel [V.at (A.sl 0), V.at (A.sl 1), V.at (A.int IntKind.i64 y0)] [⟨false, OC.rows [K.f FloatKind.f32, K.f FloatKind.f32, K.f FloatKind.f32] y1⟩, ⟨false, OC.rows [K.f FloatKind.f32, K.f FloatKind.f32, K.f FloatKind.f32] y2⟩] = resOf (R_laws_eqSwingS_L0 y1 y2 (Pure.laws_eqSwingS_L0 F y1 y2 fuel y0)) := by
  intro fuel
  induction fuel with
  | zero => intro y0 h; exact absurd h Bool.false_ne_true
  | succ n ih =>
    intro y0
    have h0 : roundOf (cxS F tyl [(36, c_laws_eqSwing F)] [] [] 0) 2 27 0 [0, 1, 5] [72, 72, 3] [4] (loopB 0 (codeOf Try.f49)) [V.at (A.sl 0), V.at (A.sl 1), V.at (A.int IntKind.i64 y0)] [⟨false, OC.rows [K.f FloatKind.f32, K.f FloatKind.f32, K.f FloatKind.f32] y1⟩, ⟨false, OC.rows [K.f FloatKind.f32, K.f FloatKind.f32, K.f FloatKind.f32] y2⟩] = (bif Decidable.decide (y0 < (Int.ofNat (List.length y1))) then bif Decidable.decide (0 ≤ y0) then bif Decidable.decide (y0 < (Int.ofNat (List.length y1))) then bif Decidable.decide (0 ≤ y0) then bif Decidable.decide (y0 < (Int.ofNat (List.length y2))) then bif Pure.laws_eqSwing_ok F (List.getD (List.getD y1 (Int.toNat y0) []) 0 0) (List.getD (List.getD y1 (Int.toNat y0) []) 1 0) (List.getD (List.getD y1 (Int.toNat y0) []) 2 0) (List.getD (List.getD y2 (Int.toNat y0) []) 0 0) (List.getD (List.getD y2 (Int.toNat y0) []) 1 0) (List.getD (List.getD y2 (Int.toNat y0) []) 2 0) then bif Bool.not (Pure.laws_eqSwing F (List.getD (List.getD y1 (Int.toNat y0) []) 0 0) (List.getD (List.getD y1 (Int.toNat y0) []) 1 0) (List.getD (List.getD y1 (Int.toNat y0) []) 2 0) (List.getD (List.getD y2 (Int.toNat y0) []) 0 0) (List.getD (List.getD y2 (Int.toNat y0) []) 1 0) (List.getD (List.getD y2 (Int.toNat y0) []) 2 0)) then some (false, (Ex.ret, ([V.at (A.bool false)], [⟨false, OC.rows [K.f FloatKind.f32, K.f FloatKind.f32, K.f FloatKind.f32] y1⟩, ⟨false, OC.rows [K.f FloatKind.f32, K.f FloatKind.f32, K.f FloatKind.f32] y2⟩]))) else some (true, (Ex.normal, ([V.at (A.sl 0), V.at (A.sl 1), V.at (A.int IntKind.i64 (IntKind.wrap IntKind.i64 (y0 + 1)))], [⟨false, OC.rows [K.f FloatKind.f32, K.f FloatKind.f32, K.f FloatKind.f32] y1⟩, ⟨false, OC.rows [K.f FloatKind.f32, K.f FloatKind.f32, K.f FloatKind.f32] y2⟩]))) else none else none else none else none else none else some (false, (Ex.normal, ([V.at A.undef], [⟨false, OC.rows [K.f FloatKind.f32, K.f FloatKind.f32, K.f FloatKind.f32] y1⟩, ⟨false, OC.rows [K.f FloatKind.f32, K.f FloatKind.f32, K.f FloatKind.f32] y2⟩])))) := by kernel_rfl
    unfold loopOf
    rw [h0]
    unfold Pure.laws_eqSwingS_L0
    cases (Decidable.decide (y0 < (Int.ofNat (List.length y1)))) with
    | true =>
      cases (Decidable.decide (0 ≤ y0)) with
      | true =>
        cases (Decidable.decide (y0 < (Int.ofNat (List.length y2)))) with
        | true =>
          cases (Pure.laws_eqSwing_ok F (List.getD (List.getD y1 (Int.toNat y0) []) 0 0) (List.getD (List.getD y1 (Int.toNat y0) []) 1 0) (List.getD (List.getD y1 (Int.toNat y0) []) 2 0) (List.getD (List.getD y2 (Int.toNat y0) []) 0 0) (List.getD (List.getD y2 (Int.toNat y0) []) 1 0) (List.getD (List.getD y2 (Int.toNat y0) []) 2 0)) with
          | true =>
            cases (Pure.laws_eqSwing F (List.getD (List.getD y1 (Int.toNat y0) []) 0 0) (List.getD (List.getD y1 (Int.toNat y0) []) 1 0) (List.getD (List.getD y1 (Int.toNat y0) []) 2 0) (List.getD (List.getD y2 (Int.toNat y0) []) 0 0) (List.getD (List.getD y2 (Int.toNat y0) []) 1 0) (List.getD (List.getD y2 (Int.toNat y0) []) 2 0)) with
            | true =>
              exact ih _
            | false =>
              intro _; rfl
          | false =>
            intro h; exact absurd h Bool.false_ne_true
        | false =>
          intro h; exact absurd h Bool.false_ne_true
      | false =>
        intro h; exact absurd h Bool.false_ne_true
    | false =>
      intro _; rfl
theorem t_laws_eqSwingS_L0 : SmTo Try.prog 2 27 (S_laws_eqSwingS_L0 real) 0 (.loop (loopB 0 (codeOf Try.f49))) := by
  refine smTo_ev (cl := [(36, c_laws_eqSwing real)]) (ef := []) (sm := []) (un := 0) prog_ok (allOK_cons ok_laws_eqSwing allOK_nil) smL_nil ?_
  intro vals hp q r h hq
  unfold S_laws_eqSwingS_L0 at h
  dsimp only at h
  split at h
  · rename_i y0 y1 y2
    obtain rfl := Option.some.inj h
    have h1 := hq
    unfold resOf at h1
    rw [chk_some] at h1
    exact ⟨_, (l_laws_eqSwingS_L0 real y1 y2 _ y0 h1.1).trans hq⟩
  · cases h
def Pure.laws_eqSwingS (F : FOps) (x0 : List (List Int)) (x1 : List (List Int)) : Bool := bif (Int.ofNat (List.length x0)) != (Int.ofNat (List.length x1)) then false else bif Prod.snd (Pure.laws_eqSwingS_L0 F x0 x1 (Nat.succ ((List.length x0) + 0)) 0) then false else true
def Pure.laws_eqSwingS_ok (F : FOps) (x0 : List (List Int)) (x1 : List (List Int)) : Bool := bif (Int.ofNat (List.length x0)) != (Int.ofNat (List.length x1)) then true else Prod.fst (Pure.laws_eqSwingS_L0 F x0 x1 (Nat.succ ((List.length x0) + 0)) 0)
def c_laws_eqSwingS (F : FOps) : Con
  | [V.at (A.sl 0), V.at (A.sl 1)], [⟨false, OC.rows [K.f FloatKind.f32, K.f FloatKind.f32, K.f FloatKind.f32] x0⟩, ⟨false, OC.rows [K.f FloatKind.f32, K.f FloatKind.f32, K.f FloatKind.f32] x1⟩] => some (Pure.laws_eqSwingS_ok F x0 x1, ⟨V.at (A.bool (Pure.laws_eqSwingS F x0 x1)), none, []⟩)
  | _, _ => none
theorem e_laws_eqSwingS (F : FOps) (x0 : List (List Int)) (x1 : List (List Int)) : Pure.laws_eqSwingS_ok F x0 x1 = true → evFn (cxS F tyl [(36, c_laws_eqSwing F)] [] [(0, S_laws_eqSwingS_L0 F)] 0) Try.f49 false [V.at (A.sl 0), V.at (A.sl 1)] [⟨false, OC.rows [K.f FloatKind.f32, K.f FloatKind.f32, K.f FloatKind.f32] x0⟩, ⟨false, OC.rows [K.f FloatKind.f32, K.f FloatKind.f32, K.f FloatKind.f32] x1⟩] = some ⟨V.at (A.bool (Pure.laws_eqSwingS F x0 x1)), none, []⟩ := by
  have h0 : evFn (cxS F tyl [(36, c_laws_eqSwing F)] [] [(0, S_laws_eqSwingS_L0 F)] 0) Try.f49 false [V.at (A.sl 0), V.at (A.sl 1)] [⟨false, OC.rows [K.f FloatKind.f32, K.f FloatKind.f32, K.f FloatKind.f32] x0⟩, ⟨false, OC.rows [K.f FloatKind.f32, K.f FloatKind.f32, K.f FloatKind.f32] x1⟩] = bif (Int.ofNat (List.length x0)) != (Int.ofNat (List.length x1)) then some ⟨V.at (A.bool false), none, []⟩ else bif Prod.fst (Pure.laws_eqSwingS_L0 F x0 x1 (Nat.succ ((List.length x0) + 0)) 0) then bif Prod.snd (Pure.laws_eqSwingS_L0 F x0 x1 (Nat.succ ((List.length x0) + 0)) 0) then some ⟨V.at (A.bool false), none, []⟩ else some ⟨V.at (A.bool true), none, []⟩ else none := by kernel_rfl
  rw [h0]
  unfold Pure.laws_eqSwingS Pure.laws_eqSwingS_ok
  cases ((Int.ofNat (List.length x0)) != (Int.ofNat (List.length x1))) with
  | true =>
    intro _; rfl
  | false =>
    cases (Prod.fst (Pure.laws_eqSwingS_L0 F x0 x1 (Nat.succ ((List.length x0) + 0)) 0)) with
    | true =>
      cases (Prod.snd (Pure.laws_eqSwingS_L0 F x0 x1 (Nat.succ ((List.length x0) + 0)) 0)) with
      | true =>
        intro _; rfl
      | false =>
        intro _; rfl
    | false =>
      intro h; exact absurd h Bool.false_ne_true
theorem ok_laws_eqSwingS : CallOK Try.prog 49 (c_laws_eqSwingS real) := by
  refine callOK_of fun args h ret hc => ?_
  unfold c_laws_eqSwingS at hc
  split at hc
  · rename_i x0 x1
    obtain ⟨hok, rfl⟩ := some_ret hc
    exact holds_ev prog_ok (allOK_cons ok_laws_eqSwing allOK_nil) Try.func49 rfl rfl (smL_cons (body := .loop (loopB 0 (codeOf Try.f49))) (by kernel_rfl) t_laws_eqSwingS_L0 smL_nil) rfl (e_laws_eqSwingS real x0 x1 hok)
  · cases hc
def Pure.laws_markSwingS_L0 (F : FOps) : Nat → Int → Int → (List (List Int)) → (Bool × Int × (List (List Int)))
  | 0, _, _, _ => (false, 0, [])
  | n + 1, y0, y1, y2 => bif (Decidable.decide (y1 < (Int.ofNat (List.length y2)))) then (bif (Decidable.decide (0 ≤ y1)) then (bif (Decidable.decide (y1 < (Int.ofNat (List.length y2)))) then (bif (Decidable.decide (0 ≤ y1)) then (bif (Decidable.decide (y1 < (Int.ofNat (List.length (List.set y2 (Int.toNat y1) (setFrom (List.getD y2 (Int.toNat y1) []) 0 [FOps.ofInt F FloatKind.f32 y0])))))) then (bif (Decidable.decide (0 ≤ y1)) then (bif (Decidable.decide (y1 < (Int.ofNat (List.length (List.set (List.set y2 (Int.toNat y1) (setFrom (List.getD y2 (Int.toNat y1) []) 0 [FOps.ofInt F FloatKind.f32 y0])) (Int.toNat y1) (setFrom (List.getD (List.set y2 (Int.toNat y1) (setFrom (List.getD y2 (Int.toNat y1) []) 0 [FOps.ofInt F FloatKind.f32 y0])) (Int.toNat y1) []) 1 [FOps.ofInt F FloatKind.f32 (IntKind.wrap IntKind.i64 (y0 + 1))])))))) then (Pure.laws_markSwingS_L0 F  n (IntKind.wrap IntKind.i64 ((IntKind.wrap IntKind.i64 ((IntKind.wrap IntKind.i64 (y0 + 1)) + 1)) + 1)) (IntKind.wrap IntKind.i64 (y1 + 1)) (List.set (List.set (List.set y2 (Int.toNat y1) (setFrom (List.getD y2 (Int.toNat y1) []) 0 [FOps.ofInt F FloatKind.f32 y0])) (Int.toNat y1) (setFrom (List.getD (List.set y2 (Int.toNat y1) (setFrom (List.getD y2 (Int.toNat y1) []) 0 [FOps.ofInt F FloatKind.f32 y0])) (Int.toNat y1) []) 1 [FOps.ofInt F FloatKind.f32 (IntKind.wrap IntKind.i64 (y0 + 1))])) (Int.toNat y1) (setFrom (List.getD (List.set (List.set y2 (Int.toNat y1) (setFrom (List.getD y2 (Int.toNat y1) []) 0 [FOps.ofInt F FloatKind.f32 y0])) (Int.toNat y1) (setFrom (List.getD (List.set y2 (Int.toNat y1) (setFrom (List.getD y2 (Int.toNat y1) []) 0 [FOps.ofInt F FloatKind.f32 y0])) (Int.toNat y1) []) 1 [FOps.ofInt F FloatKind.f32 (IntKind.wrap IntKind.i64 (y0 + 1))])) (Int.toNat y1) []) 2 [FOps.ofInt F FloatKind.f32 (IntKind.wrap IntKind.i64 ((IntKind.wrap IntKind.i64 (y0 + 1)) + 1))]))) else ((false, 0, []))) else ((false, 0, []))) else ((false, 0, []))) else ((false, 0, []))) else ((false, 0, []))) else ((false, 0, []))) else ((true, y0, y2))
def R_laws_markSwingS_L0 (r : (Bool × Int × (List (List Int)))) : Bool × Bool × (Ex × List V × List Ob) × (Ex × List V × List Ob) := ((r).1, false, (Ex.normal, [V.at (A.int IntKind.i64 (r).2.1)], [⟨true, OC.rows [K.f FloatKind.f32, K.f FloatKind.f32, K.f FloatKind.f32] (r).2.2⟩]), (Ex.normal, [V.at (A.int IntKind.i64 (r).2.1)], [⟨true, OC.rows [K.f FloatKind.f32, K.f FloatKind.f32, K.f FloatKind.f32] (r).2.2⟩]))
def S_laws_markSwingS_L0 (F : FOps) : Sm := ⟨[0, 1, 5], [72, 3, 3], [1], fun vals hp => match vals, hp with
  | [V.at (A.sl 0), V.at (A.int IntKind.i64 y0), V.at (A.int IntKind.i64 y1)], [⟨true, OC.rows [K.f FloatKind.f32, K.f FloatKind.f32, K.f FloatKind.f32] y2⟩] => some (R_laws_markSwingS_L0  (Pure.laws_markSwingS_L0 F  ((Int.ofNat (List.length y2)) - y1 + 1).toNat y0 y1 y2))
  | _, _ => none⟩
theorem l_laws_markSwingS_L0 (F : FOps) : ∀ (fuel : Nat) (y0 : Int) (y1 : Int) (y2 : List (List Int)), (Pure.laws_markSwingS_L0 F  fuel y0 y1 y2).1 = true → loopOf (cxS F tyl [] [] [] 0) 1 37 0 [0, 1, 5] [72, 3, 3] [1] (loopB 0 (codeOf Try.f50)) fuel [V.at (A.sl 0), V.at (A.int IntKind.i64 y0), V.at (A.int IntKind.i64 y1)] [⟨true, OC.rows [K.f FloatKind.f32, K.f FloatKind.f32, K.f FloatKind.f32] y2⟩] = resOf (R_laws_markSwingS_L0  (Pure.laws_markSwingS_L0 F  fuel y0 y1 y2)) := by
  intro fuel
  induction fuel with
  | zero => intro y0 y1 y2 h; exact absurd h Bool.false_ne_true
  | succ n ih =>
    intro y0 y1 y2
    have h0 : roundOf (cxS F tyl [] [] [] 0) 1 37 0 [0, 1, 5] [72, 3, 3] [1] (loopB 0 (codeOf Try.f50)) [V.at (A.sl 0), V.at (A.int IntKind.i64 y0), V.at (A.int IntKind.i64 y1)] [⟨true, OC.rows [K.f FloatKind.f32, K.f FloatKind.f32, K.f FloatKind.f32] y2⟩] = (bif Decidable.decide (y1 < (Int.ofNat (List.length y2))) then bif Decidable.decide (0 ≤ y1) then bif Decidable.decide (y1 < (Int.ofNat (List.length y2))) then bif Decidable.decide (0 ≤ y1) then bif Decidable.decide (y1 < (Int.ofNat (List.length (List.set y2 (Int.toNat y1) (setFrom (List.getD y2 (Int.toNat y1) []) 0 [FOps.ofInt F FloatKind.f32 y0]))))) then bif Decidable.decide (0 ≤ y1) then bif Decidable.decide (y1 < (Int.ofNat (List.length (List.set (List.set y2 (Int.toNat y1) (setFrom (List.getD y2 (Int.toNat y1) []) 0 [FOps.ofInt F FloatKind.f32 y0])) (Int.toNat y1) (setFrom (List.getD (List.set y2 (Int.toNat y1) (setFrom (List.getD y2 (Int.toNat y1) []) 0 [FOps.ofInt F FloatKind.f32 y0])) (Int.toNat y1) []) 1 [FOps.ofInt F FloatKind.f32 (IntKind.wrap IntKind.i64 (y0 + 1))]))))) then some (true, (Ex.normal, ([V.at (A.sl 0), V.at (A.int IntKind.i64 (IntKind.wrap IntKind.i64 ((IntKind.wrap IntKind.i64 ((IntKind.wrap IntKind.i64 (y0 + 1)) + 1)) + 1))), V.at (A.int IntKind.i64 (IntKind.wrap IntKind.i64 (y1 + 1)))], [⟨true, OC.rows [K.f FloatKind.f32, K.f FloatKind.f32, K.f FloatKind.f32] (List.set (List.set (List.set y2 (Int.toNat y1) (setFrom (List.getD y2 (Int.toNat y1) []) 0 [FOps.ofInt F FloatKind.f32 y0])) (Int.toNat y1) (setFrom (List.getD (List.set y2 (Int.toNat y1) (setFrom (List.getD y2 (Int.toNat y1) []) 0 [FOps.ofInt F FloatKind.f32 y0])) (Int.toNat y1) []) 1 [FOps.ofInt F FloatKind.f32 (IntKind.wrap IntKind.i64 (y0 + 1))])) (Int.toNat y1) (setFrom (List.getD (List.set (List.set y2 (Int.toNat y1) (setFrom (List.getD y2 (Int.toNat y1) []) 0 [FOps.ofInt F FloatKind.f32 y0])) (Int.toNat y1) (setFrom (List.getD (List.set y2 (Int.toNat y1) (setFrom (List.getD y2 (Int.toNat y1) []) 0 [FOps.ofInt F FloatKind.f32 y0])) (Int.toNat y1) []) 1 [FOps.ofInt F FloatKind.f32 (IntKind.wrap IntKind.i64 (y0 + 1))])) (Int.toNat y1) []) 2 [FOps.ofInt F FloatKind.f32 (IntKind.wrap IntKind.i64 ((IntKind.wrap IntKind.i64 (y0 + 1)) + 1))]))⟩]))) else none else none else none else none else none else none else some (false, (Ex.normal, ([V.at (A.int IntKind.i64 y0)], [⟨true, OC.rows [K.f FloatKind.f32, K.f FloatKind.f32, K.f FloatKind.f32] y2⟩])))) := by kernel_rfl
    unfold loopOf
    rw [h0]
    unfold Pure.laws_markSwingS_L0
    cases (Decidable.decide (y1 < (Int.ofNat (List.length y2)))) with
    | true =>
      cases (Decidable.decide (0 ≤ y1)) with
      | true =>
        cases (Decidable.decide (y1 < (Int.ofNat (List.length (List.set y2 (Int.toNat y1) (setFrom (List.getD y2 (Int.toNat y1) []) 0 [FOps.ofInt F FloatKind.f32 y0])))))) with
        | true =>
          cases (Decidable.decide (y1 < (Int.ofNat (List.length (List.set (List.set y2 (Int.toNat y1) (setFrom (List.getD y2 (Int.toNat y1) []) 0 [FOps.ofInt F FloatKind.f32 y0])) (Int.toNat y1) (setFrom (List.getD (List.set y2 (Int.toNat y1) (setFrom (List.getD y2 (Int.toNat y1) []) 0 [FOps.ofInt F FloatKind.f32 y0])) (Int.toNat y1) []) 1 [FOps.ofInt F FloatKind.f32 (IntKind.wrap IntKind.i64 (y0 + 1))])))))) with
          | true =>
            exact ih _ _ _
          | false =>
            intro h; exact absurd h Bool.false_ne_true
        | false =>
          intro h; exact absurd h Bool.false_ne_true
      | false =>
        intro h; exact absurd h Bool.false_ne_true
    | false =>
      intro _; rfl
theorem t_laws_markSwingS_L0 : SmTo Try.prog 1 37 (S_laws_markSwingS_L0 real) 0 (.loop (loopB 0 (codeOf Try.f50))) := by
  refine smTo_ev (cl := []) (ef := []) (sm := []) (un := 0) prog_ok allOK_nil smL_nil ?_
  intro vals hp q r h hq
  unfold S_laws_markSwingS_L0 at h
  dsimp only at h
  split at h
  · rename_i y0 y1 y2
    obtain rfl := Option.some.inj h
    have h1 := hq
    unfold resOf at h1
    rw [chk_some] at h1
    exact ⟨_, (l_laws_markSwingS_L0 real _ y0 y1 y2 h1.1).trans hq⟩
  · cases h
def Pure.laws_markSwingS (F : FOps) (x0 : List (List Int)) (x1 : Int) : Int := Prod.fst (Prod.snd (Pure.laws_markSwingS_L0 F (Nat.succ ((List.length x0) + 0)) x1 0 x0))
def Pure.laws_markSwingS_1 (F : FOps) (x0 : List (List Int)) (x1 : Int) : List (List Int) := Prod.snd (Prod.snd (Pure.laws_markSwingS_L0 F (Nat.succ ((List.length x0) + 0)) x1 0 x0))
def Pure.laws_markSwingS_ok (F : FOps) (x0 : List (List Int)) (x1 : Int) : Bool := Prod.fst (Pure.laws_markSwingS_L0 F (Nat.succ ((List.length x0) + 0)) x1 0 x0)
def c_laws_markSwingS (F : FOps) : Con
  | [V.at (A.sl 0), V.at (A.int IntKind.i64 x1)], [⟨true, OC.rows [K.f FloatKind.f32, K.f FloatKind.f32, K.f FloatKind.f32] x0⟩] => some (Pure.laws_markSwingS_ok F x0 x1, ⟨V.at (A.int IntKind.i64 (Pure.laws_markSwingS F x0 x1)), some [⟨true, OC.rows [K.f FloatKind.f32, K.f FloatKind.f32, K.f FloatKind.f32] (Pure.laws_markSwingS_1 F x0 x1)⟩], []⟩)
  | _, _ => none
theorem e_laws_markSwingS (F : FOps) (x0 : List (List Int)) (x1 : Int) : Pure.laws_markSwingS_ok F x0 x1 = true → evFn (cxS F tyl [] [] [(0, S_laws_markSwingS_L0 F)] 0) Try.f50 true [V.at (A.sl 0), V.at (A.int IntKind.i64 x1)] [⟨true, OC.rows [K.f FloatKind.f32, K.f FloatKind.f32, K.f FloatKind.f32] x0⟩] = some ⟨V.at (A.int IntKind.i64 (Pure.laws_markSwingS F x0 x1)), some [⟨true, OC.rows [K.f FloatKind.f32, K.f FloatKind.f32, K.f FloatKind.f32] (Pure.laws_markSwingS_1 F x0 x1)⟩], []⟩ := by
  have h0 : evFn (cxS F tyl [] [] [(0, S_laws_markSwingS_L0 F)] 0) Try.f50 true [V.at (A.sl 0), V.at (A.int IntKind.i64 x1)] [⟨true, OC.rows [K.f FloatKind.f32, K.f FloatKind.f32, K.f FloatKind.f32] x0⟩] = bif Prod.fst (Pure.laws_markSwingS_L0 F (Nat.succ ((List.length x0) + 0)) x1 0 x0) then some ⟨V.at (A.int IntKind.i64 (Prod.fst (Prod.snd (Pure.laws_markSwingS_L0 F (Nat.succ ((List.length x0) + 0)) x1 0 x0)))), some [⟨true, OC.rows [K.f FloatKind.f32, K.f FloatKind.f32, K.f FloatKind.f32] (Prod.snd (Prod.snd (Pure.laws_markSwingS_L0 F (Nat.succ ((List.length x0) + 0)) x1 0 x0)))⟩], []⟩ else none := by kernel_rfl
  rw [h0]
  unfold Pure.laws_markSwingS Pure.laws_markSwingS_1 Pure.laws_markSwingS_ok
  cases (Prod.fst (Pure.laws_markSwingS_L0 F (Nat.succ ((List.length x0) + 0)) x1 0 x0)) with
  | true =>
    intro _; rfl
  | false =>
    intro h; exact absurd h Bool.false_ne_true
theorem ok_laws_markSwingS : CallOK Try.prog 50 (c_laws_markSwingS real) := by
  refine callOK_of fun args h ret hc => ?_
  unfold c_laws_markSwingS at hc
  split at hc
  · rename_i x1 x0
    obtain ⟨hok, rfl⟩ := some_ret hc
    exact holdsE_ev prog_ok allOK_nil Try.func50 rfl rfl (smL_cons (body := .loop (loopB 0 (codeOf Try.f50))) (by kernel_rfl) t_laws_markSwingS_L0 smL_nil) (e_laws_markSwingS real x0 x1 hok)
  · cases hc
def Pure.laws_heldSwingS_L0 (F : FOps) (y2 : List (List Int)) : Nat → Int → Int → (Bool × Bool × Int × Int)
  | 0, _, _ => (false, false, 0, 0)
  | n + 1, y0, y1 => bif (Decidable.decide (y1 < (Int.ofNat (List.length y2)))) then (bif (Decidable.decide (0 ≤ y1)) then (bif (Decidable.decide (y1 < (Int.ofNat (List.length y2)))) then (bif (FOps.cmp F BinOp.neq FloatKind.f32 (List.getD (List.getD y2 (Int.toNat y1) []) 0 0) (FOps.ofInt F FloatKind.f32 y0)) then ((true, true, 0, y0)) else (bif (Decidable.decide (0 ≤ y1)) then (bif (Decidable.decide (y1 < (Int.ofNat (List.length y2)))) then (bif (FOps.cmp F BinOp.neq FloatKind.f32 (List.getD (List.getD y2 (Int.toNat y1) []) 1 0) (FOps.ofInt F FloatKind.f32 (IntKind.wrap IntKind.i64 (y0 + 1)))) then ((true, true, 0, IntKind.wrap IntKind.i64 (y0 + 1))) else (bif (Decidable.decide (0 ≤ y1)) then (bif (Decidable.decide (y1 < (Int.ofNat (List.length y2)))) then (bif (FOps.cmp F BinOp.neq FloatKind.f32 (List.getD (List.getD y2 (Int.toNat y1) []) 2 0) (FOps.ofInt F FloatKind.f32 (IntKind.wrap IntKind.i64 ((IntKind.wrap IntKind.i64 (y0 + 1)) + 1)))) then ((true, true, 0, IntKind.wrap IntKind.i64 ((IntKind.wrap IntKind.i64 (y0 + 1)) + 1))) else (Pure.laws_heldSwingS_L0 F y2 n (IntKind.wrap IntKind.i64 ((IntKind.wrap IntKind.i64 ((IntKind.wrap IntKind.i64 (y0 + 1)) + 1)) + 1)) (IntKind.wrap IntKind.i64 (y1 + 1)))) else ((false, false, 0, 0))) else ((false, false, 0, 0)))) else ((false, false, 0, 0))) else ((false, false, 0, 0)))) else ((false, false, 0, 0))) else ((false, false, 0, 0))) else ((true, false, y0, 0))
def R_laws_heldSwingS_L0 (y2 : List (List Int)) (r : (Bool × Bool × Int × Int)) : Bool × Bool × (Ex × List V × List Ob) × (Ex × List V × List Ob) := ((r).1, (r).2.1, (Ex.normal, [V.at (A.int IntKind.i64 (r).2.2.1), V.at A.undef], [⟨false, OC.rows [K.f FloatKind.f32, K.f FloatKind.f32, K.f FloatKind.f32] y2⟩]), (Ex.ret, [V.at (A.int IntKind.i64 (r).2.2.2), V.at (A.int IntKind.i64 (-1))], [⟨false, OC.rows [K.f FloatKind.f32, K.f FloatKind.f32, K.f FloatKind.f32] y2⟩]))
def S_laws_heldSwingS_L0 (F : FOps) : Sm := ⟨[0, 1, 5], [72, 3, 3], [1, 4], fun vals hp => match vals, hp with
  | [V.at (A.sl 0), V.at (A.int IntKind.i64 y0), V.at (A.int IntKind.i64 y1)], [⟨false, OC.rows [K.f FloatKind.f32, K.f FloatKind.f32, K.f FloatKind.f32] y2⟩] => some (R_laws_heldSwingS_L0 y2 (Pure.laws_heldSwingS_L0 F y2 ((Int.ofNat (List.length y2)) - y1 + 1).toNat y0 y1))
  | _, _ => none⟩
theorem l_laws_heldSwingS_L0 (F : FOps) (y2 : List (List Int)) : ∀ (fuel : Nat) (y0 : Int) (y1 : Int), (Pure.laws_heldSwingS_L0 F y2 fuel y0 y1).1 = true → loopOf (cxS F tyl [] [] [] 0) 1 43 0 [0, 1, 5] [72, 3, 3] [1, 4] (loopB 0 (codeOf Try.f51)) fuel [V.at (A.sl 0), V.at (A.int IntKind.i64 y0), V.at (A.int IntKind.i64 y1)] [⟨false, OC.rows [K.f FloatKind.f32, K.f FloatKind.f32, K.f FloatKind.f32] y2⟩] = resOf (R_laws_heldSwingS_L0 y2 (Pure.laws_heldSwingS_L0 F y2 fuel y0 y1)) := by
  intro fuel
  induction fuel with
  | zero => intro y0 y1 h; exact absurd h Bool.false_ne_true
  | succ n ih =>
    intro y0 y1
    have h0 : roundOf (cxS F tyl [] [] [] 0) 1 43 0 [0, 1, 5] [72, 3, 3] [1, 4] (loopB 0 (codeOf Try.f51)) [V.at (A.sl 0), V.at (A.int IntKind.i64 y0), V.at (A.int IntKind.i64 y1)] [⟨false, OC.rows [K.f FloatKind.f32, K.f FloatKind.f32, K.f FloatKind.f32] y2⟩] = (bif Decidable.decide (y1 < (Int.ofNat (List.length y2))) then bif Decidable.decide (0 ≤ y1) then bif Decidable.decide (y1 < (Int.ofNat (List.length y2))) then bif FOps.cmp F BinOp.neq FloatKind.f32 (List.getD (List.getD y2 (Int.toNat y1) []) 0 0) (FOps.ofInt F FloatKind.f32 y0) then some (false, (Ex.ret, ([V.at (A.int IntKind.i64 y0), V.at (A.int IntKind.i64 (-1))], [⟨false, OC.rows [K.f FloatKind.f32, K.f FloatKind.f32, K.f FloatKind.f32] y2⟩]))) else bif Decidable.decide (0 ≤ y1) then bif Decidable.decide (y1 < (Int.ofNat (List.length y2))) then bif FOps.cmp F BinOp.neq FloatKind.f32 (List.getD (List.getD y2 (Int.toNat y1) []) 1 0) (FOps.ofInt F FloatKind.f32 (IntKind.wrap IntKind.i64 (y0 + 1))) then some (false, (Ex.ret, ([V.at (A.int IntKind.i64 (IntKind.wrap IntKind.i64 (y0 + 1))), V.at (A.int IntKind.i64 (-1))], [⟨false, OC.rows [K.f FloatKind.f32, K.f FloatKind.f32, K.f FloatKind.f32] y2⟩]))) else bif Decidable.decide (0 ≤ y1) then bif Decidable.decide (y1 < (Int.ofNat (List.length y2))) then bif FOps.cmp F BinOp.neq FloatKind.f32 (List.getD (List.getD y2 (Int.toNat y1) []) 2 0) (FOps.ofInt F FloatKind.f32 (IntKind.wrap IntKind.i64 ((IntKind.wrap IntKind.i64 (y0 + 1)) + 1))) then some (false, (Ex.ret, ([V.at (A.int IntKind.i64 (IntKind.wrap IntKind.i64 ((IntKind.wrap IntKind.i64 (y0 + 1)) + 1))), V.at (A.int IntKind.i64 (-1))], [⟨false, OC.rows [K.f FloatKind.f32, K.f FloatKind.f32, K.f FloatKind.f32] y2⟩]))) else some (true, (Ex.normal, ([V.at (A.sl 0), V.at (A.int IntKind.i64 (IntKind.wrap IntKind.i64 ((IntKind.wrap IntKind.i64 ((IntKind.wrap IntKind.i64 (y0 + 1)) + 1)) + 1))), V.at (A.int IntKind.i64 (IntKind.wrap IntKind.i64 (y1 + 1)))], [⟨false, OC.rows [K.f FloatKind.f32, K.f FloatKind.f32, K.f FloatKind.f32] y2⟩]))) else none else none else none else none else none else none else some (false, (Ex.normal, ([V.at (A.int IntKind.i64 y0), V.at A.undef], [⟨false, OC.rows [K.f FloatKind.f32, K.f FloatKind.f32, K.f FloatKind.f32] y2⟩])))) := by kernel_rfl
    unfold loopOf
    rw [h0]
    unfold Pure.laws_heldSwingS_L0
    cases (Decidable.decide (y1 < (Int.ofNat (List.length y2)))) with
    | true =>
      cases (Decidable.decide (0 ≤ y1)) with
      | true =>
        cases (FOps.cmp F BinOp.neq FloatKind.f32 (List.getD (List.getD y2 (Int.toNat y1) []) 0 0) (FOps.ofInt F FloatKind.f32 y0)) with
        | true =>
          intro _; rfl
        | false =>
          cases (FOps.cmp F BinOp.neq FloatKind.f32 (List.getD (List.getD y2 (Int.toNat y1) []) 1 0) (FOps.ofInt F FloatKind.f32 (IntKind.wrap IntKind.i64 (y0 + 1)))) with
          | true =>
            intro _; rfl
          | false =>
            cases (FOps.cmp F BinOp.neq FloatKind.f32 (List.getD (List.getD y2 (Int.toNat y1) []) 2 0) (FOps.ofInt F FloatKind.f32 (IntKind.wrap IntKind.i64 ((IntKind.wrap IntKind.i64 (y0 + 1)) + 1)))) with
            | true =>
              intro _; rfl
            | false =>
              exact ih _ _
      | false =>
        intro h; exact absurd h Bool.false_ne_true
    | false =>
      intro _; rfl
theorem t_laws_heldSwingS_L0 : SmTo Try.prog 1 43 (S_laws_heldSwingS_L0 real) 0 (.loop (loopB 0 (codeOf Try.f51))) := by
  refine smTo_ev (cl := []) (ef := []) (sm := []) (un := 0) prog_ok allOK_nil smL_nil ?_
  intro vals hp q r h hq
  unfold S_laws_heldSwingS_L0 at h
  dsimp only at h
  split at h
  · rename_i y0 y1 y2
    obtain rfl := Option.some.inj h
    have h1 := hq
    unfold resOf at h1
    rw [chk_some] at h1
    exact ⟨_, (l_laws_heldSwingS_L0 real y2 _ y0 y1 h1.1).trans hq⟩
  · cases h
def Pure.laws_heldSwingS (F : FOps) (x0 : List (List Int)) (x1 : Int) : Int := bif Prod.fst (Prod.snd (Pure.laws_heldSwingS_L0 F x0 (Nat.succ ((List.length x0) + 0)) x1 0)) then (-1) else Prod.fst (Prod.snd (Prod.snd (Pure.laws_heldSwingS_L0 F x0 (Nat.succ ((List.length x0) + 0)) x1 0)))
def Pure.laws_heldSwingS_ok (F : FOps) (x0 : List (List Int)) (x1 : Int) : Bool := Prod.fst (Pure.laws_heldSwingS_L0 F x0 (Nat.succ ((List.length x0) + 0)) x1 0)
def c_laws_heldSwingS (F : FOps) : Con
  | [V.at (A.sl 0), V.at (A.int IntKind.i64 x1)], [⟨false, OC.rows [K.f FloatKind.f32, K.f FloatKind.f32, K.f FloatKind.f32] x0⟩] => some (Pure.laws_heldSwingS_ok F x0 x1, ⟨V.at (A.int IntKind.i64 (Pure.laws_heldSwingS F x0 x1)), none, []⟩)
  | _, _ => none
theorem e_laws_heldSwingS (F : FOps) (x0 : List (List Int)) (x1 : Int) : Pure.laws_heldSwingS_ok F x0 x1 = true → evFn (cxS F tyl [] [] [(0, S_laws_heldSwingS_L0 F)] 0) Try.f51 false [V.at (A.sl 0), V.at (A.int IntKind.i64 x1)] [⟨false, OC.rows [K.f FloatKind.f32, K.f FloatKind.f32, K.f FloatKind.f32] x0⟩] = some ⟨V.at (A.int IntKind.i64 (Pure.laws_heldSwingS F x0 x1)), none, []⟩ := by
  have h0 : evFn (cxS F tyl [] [] [(0, S_laws_heldSwingS_L0 F)] 0) Try.f51 false [V.at (A.sl 0), V.at (A.int IntKind.i64 x1)] [⟨false, OC.rows [K.f FloatKind.f32, K.f FloatKind.f32, K.f FloatKind.f32] x0⟩] = bif Prod.fst (Pure.laws_heldSwingS_L0 F x0 (Nat.succ ((List.length x0) + 0)) x1 0) then bif Prod.fst (Prod.snd (Pure.laws_heldSwingS_L0 F x0 (Nat.succ ((List.length x0) + 0)) x1 0)) then some ⟨V.at (A.int IntKind.i64 (-1)), none, []⟩ else some ⟨V.at (A.int IntKind.i64 (Prod.fst (Prod.snd (Prod.snd (Pure.laws_heldSwingS_L0 F x0 (Nat.succ ((List.length x0) + 0)) x1 0))))), none, []⟩ else none := by kernel_rfl
  rw [h0]
  unfold Pure.laws_heldSwingS Pure.laws_heldSwingS_ok
  cases (Prod.fst (Pure.laws_heldSwingS_L0 F x0 (Nat.succ ((List.length x0) + 0)) x1 0)) with
  | true =>
    cases (Prod.fst (Prod.snd (Pure.laws_heldSwingS_L0 F x0 (Nat.succ ((List.length x0) + 0)) x1 0))) with
    | true =>
      intro _; rfl
    | false =>
      intro _; rfl
  | false =>
    intro h; exact absurd h Bool.false_ne_true
theorem ok_laws_heldSwingS : CallOK Try.prog 51 (c_laws_heldSwingS real) := by
  refine callOK_of fun args h ret hc => ?_
  unfold c_laws_heldSwingS at hc
  split at hc
  · rename_i x1 x0
    obtain ⟨hok, rfl⟩ := some_ret hc
    exact holds_ev prog_ok allOK_nil Try.func51 rfl rfl (smL_cons (body := .loop (loopB 0 (codeOf Try.f51))) (by kernel_rfl) t_laws_heldSwingS_L0 smL_nil) rfl (e_laws_heldSwingS real x0 x1 hok)
  · cases hc
def Pure.laws_FnExactSamplesOf (F : FOps) (x0 : Int) (x1 : Int) (x2 : Int) (x3 : Int) (x4 : Int) (x5 : Int) (x6 : Int) (x7 : Int) (x8 : Int) (x9 : Int) (x10 : Int) : Bool := bif Pure.laws_eqSwingS F (Pure.impl_SamplesOf_1 F x0 x1 x2 x3 x4 x5 x6 x7 x8 x9 x10) (Pure.spec_SamplesOf_1 F x0 x1 x2 x3 x4 x5 x6 x7 x8 x9 x10) then bif (Pure.impl_SamplesOf F x0 x1 x2 x3 x4 x5 x6 x7 x8 x9 x10) == (Pure.spec_SamplesOf F x0 x1 x2 x3 x4 x5 x6 x7 x8 x9 x10) then bif Decidable.decide ((Pure.laws_heldSwingS F (Pure.laws_markSwingS_1 F (Pure.impl_SamplesOf_1 F x0 x1 x2 x3 x4 x5 x6 x7 x8 x9 x10) 1) 1) < 0) then false else bif (Pure.laws_heldSwingS F (Pure.laws_markSwingS_1 F (Pure.impl_SamplesOf_1 F x0 x1 x2 x3 x4 x5 x6 x7 x8 x9 x10) 1) 1) != (Pure.laws_markSwingS F (Pure.impl_SamplesOf_1 F x0 x1 x2 x3 x4 x5 x6 x7 x8 x9 x10) 1) then false else true else false else false
def Pure.laws_FnExactSamplesOf_ok (F : FOps) (x0 : Int) (x1 : Int) (x2 : Int) (x3 : Int) (x4 : Int) (x5 : Int) (x6 : Int) (x7 : Int) (x8 : Int) (x9 : Int) (x10 : Int) : Bool := bif Pure.spec_SamplesOf_ok F x0 x1 x2 x3 x4 x5 x6 x7 x8 x9 x10 then bif Pure.impl_SamplesOf_ok F x0 x1 x2 x3 x4 x5 x6 x7 x8 x9 x10 then bif Pure.laws_eqSwingS_ok F (Pure.impl_SamplesOf_1 F x0 x1 x2 x3 x4 x5 x6 x7 x8 x9 x10) (Pure.spec_SamplesOf_1 F x0 x1 x2 x3 x4 x5 x6 x7 x8 x9 x10) then bif Pure.laws_eqSwingS F (Pure.impl_SamplesOf_1 F x0 x1 x2 x3 x4 x5 x6 x7 x8 x9 x10) (Pure.spec_SamplesOf_1 F x0 x1 x2 x3 x4 x5 x6 x7 x8 x9 x10) then bif (Pure.impl_SamplesOf F x0 x1 x2 x3 x4 x5 x6 x7 x8 x9 x10) == (Pure.spec_SamplesOf F x0 x1 x2 x3 x4 x5 x6 x7 x8 x9 x10) then bif Pure.laws_markSwingS_ok F (Pure.impl_SamplesOf_1 F x0 x1 x2 x3 x4 x5 x6 x7 x8 x9 x10) 1 then Pure.laws_heldSwingS_ok F (Pure.laws_markSwingS_1 F (Pure.impl_SamplesOf_1 F x0 x1 x2 x3 x4 x5 x6 x7 x8 x9 x10) 1) 1 else false else true else true else false else false else false
def c_laws_FnExactSamplesOf (F : FOps) : Con
  | [V.agg [A.fl FloatKind.f32 x0, A.fl FloatKind.f32 x1, A.fl FloatKind.f32 x2, A.fl FloatKind.f32 x3, A.fl FloatKind.f32 x4], V.agg [A.fl FloatKind.f32 x5, A.fl FloatKind.f32 x6, A.fl FloatKind.f32 x7], V.at (A.fl FloatKind.f32 x8), V.at (A.int IntKind.i64 x9), V.at (A.int IntKind.i64 x10)], [] => some (Pure.laws_FnExactSamplesOf_ok F x0 x1 x2 x3 x4 x5 x6 x7 x8 x9 x10, ⟨V.at (A.bool (Pure.laws_FnExactSamplesOf F x0 x1 x2 x3 x4 x5 x6 x7 x8 x9 x10)), none, []⟩)
  | _, _ => none
theorem e_laws_FnExactSamplesOf (F : FOps) (x0 : Int) (x1 : Int) (x2 : Int) (x3 : Int) (x4 : Int) (x5 : Int) (x6 : Int) (x7 : Int) (x8 : Int) (x9 : Int) (x10 : Int) : Pure.laws_FnExactSamplesOf_ok F x0 x1 x2 x3 x4 x5 x6 x7 x8 x9 x10 = true → evFn (cxS F tyl [(33, c_laws_toPendulum F), (34, c_laws_toSwing F), (47, c_spec_SamplesOf F), (48, c_impl_SamplesOf F), (49, c_laws_eqSwingS F), (50, c_laws_markSwingS F), (51, c_laws_heldSwingS F)] [50] [] 0) Try.f12 false [V.agg [A.fl FloatKind.f32 x0, A.fl FloatKind.f32 x1, A.fl FloatKind.f32 x2, A.fl FloatKind.f32 x3, A.fl FloatKind.f32 x4], V.agg [A.fl FloatKind.f32 x5, A.fl FloatKind.f32 x6, A.fl FloatKind.f32 x7], V.at (A.fl FloatKind.f32 x8), V.at (A.int IntKind.i64 x9), V.at (A.int IntKind.i64 x10)] [] = some ⟨V.at (A.bool (Pure.laws_FnExactSamplesOf F x0 x1 x2 x3 x4 x5 x6 x7 x8 x9 x10)), none, []⟩ := by
  have h0 : evFn (cxS F tyl [(33, c_laws_toPendulum F), (34, c_laws_toSwing F), (47, c_spec_SamplesOf F), (48, c_impl_SamplesOf F), (49, c_laws_eqSwingS F), (50, c_laws_markSwingS F), (51, c_laws_heldSwingS F)] [50] [] 0) Try.f12 false [V.agg [A.fl FloatKind.f32 x0, A.fl FloatKind.f32 x1, A.fl FloatKind.f32 x2, A.fl FloatKind.f32 x3, A.fl FloatKind.f32 x4], V.agg [A.fl FloatKind.f32 x5, A.fl FloatKind.f32 x6, A.fl FloatKind.f32 x7], V.at (A.fl FloatKind.f32 x8), V.at (A.int IntKind.i64 x9), V.at (A.int IntKind.i64 x10)] [] = bif Pure.spec_SamplesOf_ok F x0 x1 x2 x3 x4 x5 x6 x7 x8 x9 x10 then bif Pure.impl_SamplesOf_ok F x0 x1 x2 x3 x4 x5 x6 x7 x8 x9 x10 then bif Pure.laws_eqSwingS_ok F (Pure.impl_SamplesOf_1 F x0 x1 x2 x3 x4 x5 x6 x7 x8 x9 x10) (Pure.spec_SamplesOf_1 F x0 x1 x2 x3 x4 x5 x6 x7 x8 x9 x10) then bif Bool.not (Pure.laws_eqSwingS F (Pure.impl_SamplesOf_1 F x0 x1 x2 x3 x4 x5 x6 x7 x8 x9 x10) (Pure.spec_SamplesOf_1 F x0 x1 x2 x3 x4 x5 x6 x7 x8 x9 x10)) then some ⟨V.at (A.bool false), none, []⟩ else bif Bool.not ((Pure.impl_SamplesOf F x0 x1 x2 x3 x4 x5 x6 x7 x8 x9 x10) == (Pure.spec_SamplesOf F x0 x1 x2 x3 x4 x5 x6 x7 x8 x9 x10)) then some ⟨V.at (A.bool false), none, []⟩ else bif Pure.laws_markSwingS_ok F (Pure.impl_SamplesOf_1 F x0 x1 x2 x3 x4 x5 x6 x7 x8 x9 x10) 1 then bif Pure.laws_heldSwingS_ok F (Pure.laws_markSwingS_1 F (Pure.impl_SamplesOf_1 F x0 x1 x2 x3 x4 x5 x6 x7 x8 x9 x10) 1) 1 then bif Decidable.decide ((Pure.laws_heldSwingS F (Pure.laws_markSwingS_1 F (Pure.impl_SamplesOf_1 F x0 x1 x2 x3 x4 x5 x6 x7 x8 x9 x10) 1) 1) < 0) then some ⟨V.at (A.bool false), none, []⟩ else bif (Pure.laws_heldSwingS F (Pure.laws_markSwingS_1 F (Pure.impl_SamplesOf_1 F x0 x1 x2 x3 x4 x5 x6 x7 x8 x9 x10) 1) 1) != (Pure.laws_markSwingS F (Pure.impl_SamplesOf_1 F x0 x1 x2 x3 x4 x5 x6 x7 x8 x9 x10) 1) then some ⟨V.at (A.bool false), none, []⟩ else bif Pure.impl_SamplesOf_ok F x0 x1 x2 x3 x4 x5 x6 x7 x8 x9 x10 then bif Pure.laws_eqSwingS_ok F (Pure.impl_SamplesOf_1 F x0 x1 x2 x3 x4 x5 x6 x7 x8 x9 x10) (Pure.spec_SamplesOf_1 F x0 x1 x2 x3 x4 x5 x6 x7 x8 x9 x10) then bif Bool.not (Pure.laws_eqSwingS F (Pure.impl_SamplesOf_1 F x0 x1 x2 x3 x4 x5 x6 x7 x8 x9 x10) (Pure.spec_SamplesOf_1 F x0 x1 x2 x3 x4 x5 x6 x7 x8 x9 x10)) then some ⟨V.at (A.bool false), none, []⟩ else bif Bool.not ((Pure.impl_SamplesOf F x0 x1 x2 x3 x4 x5 x6 x7 x8 x9 x10) == (Pure.spec_SamplesOf F x0 x1 x2 x3 x4 x5 x6 x7 x8 x9 x10)) then some ⟨V.at (A.bool false), none, []⟩ else bif Pure.laws_heldSwingS_ok F (Pure.laws_markSwingS_1 F (Pure.impl_SamplesOf_1 F x0 x1 x2 x3 x4 x5 x6 x7 x8 x9 x10) 1) 1 then bif Decidable.decide ((Pure.laws_heldSwingS F (Pure.laws_markSwingS_1 F (Pure.impl_SamplesOf_1 F x0 x1 x2 x3 x4 x5 x6 x7 x8 x9 x10) 1) 1) < 0) then some ⟨V.at (A.bool false), none, []⟩ else bif (Pure.laws_heldSwingS F (Pure.laws_markSwingS_1 F (Pure.impl_SamplesOf_1 F x0 x1 x2 x3 x4 x5 x6 x7 x8 x9 x10) 1) 1) != (Pure.laws_markSwingS F (Pure.impl_SamplesOf_1 F x0 x1 x2 x3 x4 x5 x6 x7 x8 x9 x10) 1) then some ⟨V.at (A.bool false), none, []⟩ else some ⟨V.at (A.bool true), none, []⟩ else none else none else none else none else none else none else none else none := by kernel_rfl
  rw [h0]
  unfold Pure.laws_FnExactSamplesOf Pure.laws_FnExactSamplesOf_ok
  cases (Pure.spec_SamplesOf_ok F x0 x1 x2 x3 x4 x5 x6 x7 x8 x9 x10) with
  | true =>
    cases (Pure.impl_SamplesOf_ok F x0 x1 x2 x3 x4 x5 x6 x7 x8 x9 x10) with
    | true =>
      cases (Pure.laws_eqSwingS_ok F (Pure.impl_SamplesOf_1 F x0 x1 x2 x3 x4 x5 x6 x7 x8 x9 x10) (Pure.spec_SamplesOf_1 F x0 x1 x2 x3 x4 x5 x6 x7 x8 x9 x10)) with
      | true =>
        cases (Pure.laws_eqSwingS F (Pure.impl_SamplesOf_1 F x0 x1 x2 x3 x4 x5 x6 x7 x8 x9 x10) (Pure.spec_SamplesOf_1 F x0 x1 x2 x3 x4 x5 x6 x7 x8 x9 x10)) with
        | true =>
          cases ((Pure.impl_SamplesOf F x0 x1 x2 x3 x4 x5 x6 x7 x8 x9 x10) == (Pure.spec_SamplesOf F x0 x1 x2 x3 x4 x5 x6 x7 x8 x9 x10)) with
          | true =>
            cases (Pure.laws_markSwingS_ok F (Pure.impl_SamplesOf_1 F x0 x1 x2 x3 x4 x5 x6 x7 x8 x9 x10) 1) with
            | true =>
              cases (Pure.laws_heldSwingS_ok F (Pure.laws_markSwingS_1 F (Pure.impl_SamplesOf_1 F x0 x1 x2 x3 x4 x5 x6 x7 x8 x9 x10) 1) 1) with
              | true =>
                cases (Decidable.decide ((Pure.laws_heldSwingS F (Pure.laws_markSwingS_1 F (Pure.impl_SamplesOf_1 F x0 x1 x2 x3 x4 x5 x6 x7 x8 x9 x10) 1) 1) < 0)) with
                | true =>
                  intro _; rfl
                | false =>
                  cases ((Pure.laws_heldSwingS F (Pure.laws_markSwingS_1 F (Pure.impl_SamplesOf_1 F x0 x1 x2 x3 x4 x5 x6 x7 x8 x9 x10) 1) 1) != (Pure.laws_markSwingS F (Pure.impl_SamplesOf_1 F x0 x1 x2 x3 x4 x5 x6 x7 x8 x9 x10) 1)) with
                  | true =>
                    intro _; rfl
                  | false =>
                    intro _; rfl
              | false =>
                intro h; exact absurd h Bool.false_ne_true
            | false =>
              intro h; exact absurd h Bool.false_ne_true
          | false =>
            intro _; rfl
        | false =>
          intro _; rfl
      | false =>
        intro h; exact absurd h Bool.false_ne_true
    | false =>
      intro h; exact absurd h Bool.false_ne_true
  | false =>
    intro h; exact absurd h Bool.false_ne_true
theorem ok_laws_FnExactSamplesOf : CallOK Try.prog 12 (c_laws_FnExactSamplesOf real) := by
  refine callOK_of fun args h ret hc => ?_
  unfold c_laws_FnExactSamplesOf at hc
  split at hc
  · rename_i x0 x1 x2 x3 x4 x5 x6 x7 x8 x9 x10
    obtain ⟨hok, rfl⟩ := some_ret hc
    exact holds_ev prog_ok (allOK_cons ok_laws_toPendulum (allOK_cons ok_laws_toSwing (allOK_cons ok_spec_SamplesOf (allOK_cons ok_impl_SamplesOf (allOK_cons ok_laws_eqSwingS (allOK_cons ok_laws_markSwingS (allOK_cons ok_laws_heldSwingS allOK_nil))))))) Try.func12 rfl rfl smL_nil rfl (e_laws_FnExactSamplesOf real x0 x1 x2 x3 x4 x5 x6 x7 x8 x9 x10 hok)
  · cases hc
end Go.Fx
