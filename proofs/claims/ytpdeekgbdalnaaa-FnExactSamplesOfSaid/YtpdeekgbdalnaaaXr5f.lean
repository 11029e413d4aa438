import Derived.Test.YtpdeekgbdalnaaaXr5n
import Derived.KernelRfl
namespace Go.Fx
open Go.Proofs
set_option maxRecDepth 100000
def c_spec_l02Steps (F : FOps) : Con
  | [V.at (A.int IntKind.i64 x0)], [] => some (true, ⟨V.at (A.bool (Pure.spec_l00In F x0 0 256)), none, []⟩)
  | _, _ => none
theorem e_spec_l02Steps (F : FOps) (x0 : Int) : evFn (cxS F tyl [(93, c_spec_l00In F)] [] [] 0) Try.f83 false [V.at (A.int IntKind.i64 x0)] [] = some ⟨V.at (A.bool (Pure.spec_l00In F x0 0 256)), none, []⟩ := by
  kernel_rfl
theorem ok_spec_l02Steps : CallOK Try.prog 83 (c_spec_l02Steps real) := by
  refine callOK_of fun args h ret hc => ?_
  unfold c_spec_l02Steps at hc
  split at hc
  · rename_i x0
    obtain ⟨_, rfl⟩ := some_ret hc
    exact holds_ev prog_ok (allOK_cons ok_spec_l00In allOK_nil) Try.func83 rfl rfl smL_nil rfl (e_spec_l02Steps real x0)
  · cases hc
def Pure.spec_l02Run_L0 (F : FOps) (y0 : Int) (y1 : Int) (y3 : Int) (y4 : Int) (y5 : Int) (y6 : Int) (y7 : Int) (y11 : Int) (y12 : Int) (y13 : Int) : Nat → Int → Int → Int → Int → (List (List Int)) → (Bool × Bool × Int × Int × Int × (List (List Int)) × Int × Int × Int × (List (List Int)))
  | 0, _, _, _, _, _ => (false, false, 0, 0, 0, [], 0, 0, 0, [])
  | n + 1, y2, y8, y9, y10, y14 => bif (Decidable.decide (y2 < y1)) then (bif (Pure.spec_l02Step_ok F y3 y4 y5 y6 y7 y8 y9 y10 y0) then (bif (Pure.spec_l02Swing F (Pure.spec_l02Step F y3 y4 y5 y6 y7 y8 y9 y10 y0) (Pure.spec_l02Step_1 F y3 y4 y5 y6 y7 y8 y9 y10 y0) (Pure.spec_l02Step_2 F y3 y4 y5 y6 y7 y8 y9 y10 y0)) then (bif (Decidable.decide ((Nat.succ (List.length y14)) ≤ 1073741824)) then (Pure.spec_l02Run_L0 F y0 y1 y3 y4 y5 y6 y7 y11 y12 y13 n (IntKind.wrap IntKind.i64 (y2 + 1)) (Pure.spec_l02Step F y3 y4 y5 y6 y7 y8 y9 y10 y0) (Pure.spec_l02Step_1 F y3 y4 y5 y6 y7 y8 y9 y10 y0) (Pure.spec_l02Step_2 F y3 y4 y5 y6 y7 y8 y9 y10 y0) (y14 ++ [[Pure.spec_l02Step F y3 y4 y5 y6 y7 y8 y9 y10 y0]])) else ((false, false, 0, 0, 0, [], 0, 0, 0, []))) else ((true, true, 0, 0, 0, [], Pure.spec_l02Step F y3 y4 y5 y6 y7 y8 y9 y10 y0, Pure.spec_l02Step_1 F y3 y4 y5 y6 y7 y8 y9 y10 y0, Pure.spec_l02Step_2 F y3 y4 y5 y6 y7 y8 y9 y10 y0, y14))) else ((false, false, 0, 0, 0, [], 0, 0, 0, []))) else ((true, false, y8, y9, y10, y14, 0, 0, 0, []))
def R_spec_l02Run_L0 (y3 : Int) (y4 : Int) (y5 : Int) (y6 : Int) (y7 : Int) (y11 : Int) (y12 : Int) (y13 : Int) (r : (Bool × Bool × Int × Int × Int × (List (List Int)) × Int × Int × Int × (List (List Int)))) : Bool × Bool × (Ex × List V × List Ob) × (Ex × List V × List Ob) := ((r).1, (r).2.1, (Ex.normal, [V.at (A.ptr 1 0 0), V.at (A.ptr 2 0 0), V.at A.undef, V.at A.undef, V.at (A.sl 3)], [⟨false, OC.box [A.fl FloatKind.f32 y3, A.fl FloatKind.f32 y4, A.fl FloatKind.f32 y5, A.fl FloatKind.f32 y6, A.fl FloatKind.f32 y7]⟩, ⟨true, OC.box [A.fl FloatKind.f32 (r).2.2.1, A.fl FloatKind.f32 (r).2.2.2.1, A.fl FloatKind.f32 (r).2.2.2.2.1]⟩, ⟨true, OC.box [A.fl FloatKind.f32 y11, A.fl FloatKind.f32 y12, A.fl FloatKind.f32 y13]⟩, ⟨true, OC.rows [K.f FloatKind.f32] (r).2.2.2.2.2.1⟩]), (Ex.ret, [V.at (A.ptr 1 0 0), V.at (A.ptr 2 0 0), V.at A.nil, V.at (A.bool false), V.at (A.sl 3)], [⟨false, OC.box [A.fl FloatKind.f32 y3, A.fl FloatKind.f32 y4, A.fl FloatKind.f32 y5, A.fl FloatKind.f32 y6, A.fl FloatKind.f32 y7]⟩, ⟨true, OC.box [A.fl FloatKind.f32 (r).2.2.2.2.2.2.1, A.fl FloatKind.f32 (r).2.2.2.2.2.2.2.1, A.fl FloatKind.f32 (r).2.2.2.2.2.2.2.2.1]⟩, ⟨true, OC.box [A.fl FloatKind.f32 0, A.fl FloatKind.f32 0, A.fl FloatKind.f32 0]⟩, ⟨true, OC.rows [K.f FloatKind.f32] (r).2.2.2.2.2.2.2.2.2⟩]))
def S_spec_l02Run_L0 (F : FOps) : Sm := ⟨[0, 2, 3, 5, 8, 11, 12], [99, 22, 2, 0, 0, 63, 2], [5, 8, 9, 10, 11], fun vals hp => match vals, hp with
  | [V.at (A.ptr 0 0 0), V.at (A.fl FloatKind.f32 y0), V.at (A.int IntKind.i64 y1), V.at (A.ptr 1 0 0), V.at (A.ptr 2 0 0), V.at (A.sl 3), V.at (A.int IntKind.i64 y2)], [⟨false, OC.box [A.fl FloatKind.f32 y3, A.fl FloatKind.f32 y4, A.fl FloatKind.f32 y5, A.fl FloatKind.f32 y6, A.fl FloatKind.f32 y7]⟩, ⟨true, OC.box [A.fl FloatKind.f32 y8, A.fl FloatKind.f32 y9, A.fl FloatKind.f32 y10]⟩, ⟨true, OC.box [A.fl FloatKind.f32 y11, A.fl FloatKind.f32 y12, A.fl FloatKind.f32 y13]⟩, ⟨true, OC.rows [K.f FloatKind.f32] y14⟩] => some (R_spec_l02Run_L0 y3 y4 y5 y6 y7 y11 y12 y13 (Pure.spec_l02Run_L0 F y0 y1 y3 y4 y5 y6 y7 y11 y12 y13 (y1 - y2 + 1).toNat y2 y8 y9 y10 y14))
  | _, _ => none⟩
theorem l_spec_l02Run_L0 (F : FOps) (y0 : Int) (y1 : Int) (y3 : Int) (y4 : Int) (y5 : Int) (y6 : Int) (y7 : Int) (y11 : Int) (y12 : Int) (y13 : Int) : ∀ (fuel : Nat) (y2 : Int) (y8 : Int) (y9 : Int) (y10 : Int) (y14 : List (List Int)), (Pure.spec_l02Run_L0 F y0 y1 y3 y4 y5 y6 y7 y11 y12 y13 fuel y2 y8 y9 y10 y14).1 = true → loopOf (cxS F tyl [(78, c_spec_l02Step F), (106, c_spec_l02Swing F)] [] [] 0) 1 33 0 [0, 2, 3, 5, 8, 11, 12] [99, 22, 2, 0, 0, 63, 2] [5, 8, 9, 10, 11] (loopB 0 (codeOf Try.f84)) fuel [V.at (A.ptr 0 0 0), V.at (A.fl FloatKind.f32 y0), V.at (A.int IntKind.i64 y1), V.at (A.ptr 1 0 0), V.at (A.ptr 2 0 0), V.at (A.sl 3), V.at (A.int IntKind.i64 y2)] [⟨false, OC.box [A.fl FloatKind.f32 y3, A.fl FloatKind.f32 y4, A.fl FloatKind.f32 y5, A.fl FloatKind.f32 y6, A.fl FloatKind.f32 y7]⟩, ⟨true, OC.box [A.fl FloatKind.f32 y8, A.fl FloatKind.f32 y9, A.fl FloatKind.f32 y10]⟩, ⟨true, OC.box [A.fl FloatKind.f32 y11, A.fl FloatKind.f32 y12, A.fl FloatKind.f32 y13]⟩, ⟨true, OC.rows [K.f FloatKind.f32] y14⟩] = resOf (R_spec_l02Run_L0 y3 y4 y5 y6 y7 y11 y12 y13 (Pure.spec_l02Run_L0 F y0 y1 y3 y4 y5 y6 y7 y11 y12 y13 fuel y2 y8 y9 y10 y14)) := by
  intro fuel
  induction fuel with
  | zero => intro y2 y8 y9 y10 y14 h; exact absurd h Bool.false_ne_true
  | succ n ih =>
    intro y2 y8 y9 y10 y14
    have h0 : roundOf (cxS F tyl [(78, c_spec_l02Step F), (106, c_spec_l02Swing F)] [] [] 0) 1 33 0 [0, 2, 3, 5, 8, 11, 12] [99, 22, 2, 0, 0, 63, 2] [5, 8, 9, 10, 11] (loopB 0 (codeOf Try.f84)) [V.at (A.ptr 0 0 0), V.at (A.fl FloatKind.f32 y0), V.at (A.int IntKind.i64 y1), V.at (A.ptr 1 0 0), V.at (A.ptr 2 0 0), V.at (A.sl 3), V.at (A.int IntKind.i64 y2)] [⟨false, OC.box [A.fl FloatKind.f32 y3, A.fl FloatKind.f32 y4, A.fl FloatKind.f32 y5, A.fl FloatKind.f32 y6, A.fl FloatKind.f32 y7]⟩, ⟨true, OC.box [A.fl FloatKind.f32 y8, A.fl FloatKind.f32 y9, A.fl FloatKind.f32 y10]⟩, ⟨true, OC.box [A.fl FloatKind.f32 y11, A.fl FloatKind.f32 y12, A.fl FloatKind.f32 y13]⟩, ⟨true, OC.rows [K.f FloatKind.f32] y14⟩] = (bif Decidable.decide (y2 < y1) then bif Pure.spec_l02Step_ok F y3 y4 y5 y6 y7 y8 y9 y10 y0 then bif Bool.not (Pure.spec_l02Swing F (Pure.spec_l02Step F y3 y4 y5 y6 y7 y8 y9 y10 y0) (Pure.spec_l02Step_1 F y3 y4 y5 y6 y7 y8 y9 y10 y0) (Pure.spec_l02Step_2 F y3 y4 y5 y6 y7 y8 y9 y10 y0)) then some (false, (Ex.ret, ([V.at (A.ptr 1 0 0), V.at (A.ptr 2 0 0), V.at A.nil, V.at (A.bool false), V.at (A.sl 3)], [⟨false, OC.box [A.fl FloatKind.f32 y3, A.fl FloatKind.f32 y4, A.fl FloatKind.f32 y5, A.fl FloatKind.f32 y6, A.fl FloatKind.f32 y7]⟩, ⟨true, OC.box [A.fl FloatKind.f32 (Pure.spec_l02Step F y3 y4 y5 y6 y7 y8 y9 y10 y0), A.fl FloatKind.f32 (Pure.spec_l02Step_1 F y3 y4 y5 y6 y7 y8 y9 y10 y0), A.fl FloatKind.f32 (Pure.spec_l02Step_2 F y3 y4 y5 y6 y7 y8 y9 y10 y0)]⟩, ⟨true, OC.box [A.fl FloatKind.f32 0, A.fl FloatKind.f32 0, A.fl FloatKind.f32 0]⟩, ⟨true, OC.rows [K.f FloatKind.f32] y14⟩]))) else bif Decidable.decide ((Nat.succ (List.length y14)) ≤ 1073741824) then some (true, (Ex.normal, ([V.at (A.ptr 0 0 0), V.at (A.fl FloatKind.f32 y0), V.at (A.int IntKind.i64 y1), V.at (A.ptr 1 0 0), V.at (A.ptr 2 0 0), V.at (A.sl 3), V.at (A.int IntKind.i64 (IntKind.wrap IntKind.i64 (y2 + 1)))], [⟨false, OC.box [A.fl FloatKind.f32 y3, A.fl FloatKind.f32 y4, A.fl FloatKind.f32 y5, A.fl FloatKind.f32 y6, A.fl FloatKind.f32 y7]⟩, ⟨true, OC.box [A.fl FloatKind.f32 (Pure.spec_l02Step F y3 y4 y5 y6 y7 y8 y9 y10 y0), A.fl FloatKind.f32 (Pure.spec_l02Step_1 F y3 y4 y5 y6 y7 y8 y9 y10 y0), A.fl FloatKind.f32 (Pure.spec_l02Step_2 F y3 y4 y5 y6 y7 y8 y9 y10 y0)]⟩, ⟨true, OC.box [A.fl FloatKind.f32 y11, A.fl FloatKind.f32 y12, A.fl FloatKind.f32 y13]⟩, ⟨true, OC.rows [K.f FloatKind.f32] (y14 ++ [[Pure.spec_l02Step F y3 y4 y5 y6 y7 y8 y9 y10 y0]])⟩]))) else none else none else some (false, (Ex.normal, ([V.at (A.ptr 1 0 0), V.at (A.ptr 2 0 0), V.at A.undef, V.at A.undef, V.at (A.sl 3)], [⟨false, OC.box [A.fl FloatKind.f32 y3, A.fl FloatKind.f32 y4, A.fl FloatKind.f32 y5, A.fl FloatKind.f32 y6, A.fl FloatKind.f32 y7]⟩, ⟨true, OC.box [A.fl FloatKind.f32 y8, A.fl FloatKind.f32 y9, A.fl FloatKind.f32 y10]⟩, ⟨true, OC.box [A.fl FloatKind.f32 y11, A.fl FloatKind.f32 y12, A.fl FloatKind.f32 y13]⟩, ⟨true, OC.rows [K.f FloatKind.f32] y14⟩])))) := by kernel_rfl
    unfold loopOf
    rw [h0]
    unfold Pure.spec_l02Run_L0
    cases (Decidable.decide (y2 < y1)) with
    | true =>
      cases (Pure.spec_l02Step_ok F y3 y4 y5 y6 y7 y8 y9 y10 y0) with
      | true =>
        cases (Pure.spec_l02Swing F (Pure.spec_l02Step F y3 y4 y5 y6 y7 y8 y9 y10 y0) (Pure.spec_l02Step_1 F y3 y4 y5 y6 y7 y8 y9 y10 y0) (Pure.spec_l02Step_2 F y3 y4 y5 y6 y7 y8 y9 y10 y0)) with
        | true =>
          cases (Decidable.decide ((Nat.succ (List.length y14)) ≤ 1073741824)) with
          | true =>
            exact ih _ _ _ _ _
          | false =>
            intro h; exact absurd h Bool.false_ne_true
        | false =>
          intro _; rfl
      | false =>
        intro h; exact absurd h Bool.false_ne_true
    | false =>
      intro _; rfl
theorem t_spec_l02Run_L0 : SmTo Try.prog 1 33 (S_spec_l02Run_L0 real) 0 (.loop (loopB 0 (codeOf Try.f84))) := by
  refine smTo_ev (cl := [(78, c_spec_l02Step real), (106, c_spec_l02Swing real)]) (ef := []) (sm := []) (un := 0) prog_ok (allOK_cons ok_spec_l02Step (allOK_cons ok_spec_l02Swing allOK_nil)) smL_nil ?_
  intro vals hp q r h hq
  unfold S_spec_l02Run_L0 at h
  dsimp only at h
  split at h
  · rename_i y0 y1 y2 y3 y4 y5 y6 y7 y8 y9 y10 y11 y12 y13 y14
    obtain rfl := Option.some.inj h
    have h1 := hq
    unfold resOf at h1
    rw [chk_some] at h1
    exact ⟨_, (l_spec_l02Run_L0 real y0 y1 y3 y4 y5 y6 y7 y11 y12 y13 _ y2 y8 y9 y10 y14 h1.1).trans hq⟩
  · cases h
def Pure.spec_l02Run (F : FOps) (x0 : Int) (x1 : Int) (x2 : Int) (x3 : Int) (x4 : Int) (x5 : Int) (x6 : Int) (x7 : Int) (x8 : Int) (x9 : Int) : Int := bif Prod.fst (Prod.snd (Pure.spec_l02Run_L0 F x8 x9 x0 x1 x2 x3 x4 0 0 0 (Int.toNat ((x9 - 0) + 1)) 0 x5 x6 x7 [])) then 0 else Prod.fst (Prod.snd (Prod.snd (Pure.spec_l02Run_L0 F x8 x9 x0 x1 x2 x3 x4 0 0 0 (Int.toNat ((x9 - 0) + 1)) 0 x5 x6 x7 [])))
def Pure.spec_l02Run_1 (F : FOps) (x0 : Int) (x1 : Int) (x2 : Int) (x3 : Int) (x4 : Int) (x5 : Int) (x6 : Int) (x7 : Int) (x8 : Int) (x9 : Int) : Int := bif Prod.fst (Prod.snd (Pure.spec_l02Run_L0 F x8 x9 x0 x1 x2 x3 x4 0 0 0 (Int.toNat ((x9 - 0) + 1)) 0 x5 x6 x7 [])) then 0 else Prod.fst (Prod.snd (Prod.snd (Prod.snd (Pure.spec_l02Run_L0 F x8 x9 x0 x1 x2 x3 x4 0 0 0 (Int.toNat ((x9 - 0) + 1)) 0 x5 x6 x7 []))))
def Pure.spec_l02Run_2 (F : FOps) (x0 : Int) (x1 : Int) (x2 : Int) (x3 : Int) (x4 : Int) (x5 : Int) (x6 : Int) (x7 : Int) (x8 : Int) (x9 : Int) : Int := bif Prod.fst (Prod.snd (Pure.spec_l02Run_L0 F x8 x9 x0 x1 x2 x3 x4 0 0 0 (Int.toNat ((x9 - 0) + 1)) 0 x5 x6 x7 [])) then 0 else Prod.fst (Prod.snd (Prod.snd (Prod.snd (Prod.snd (Pure.spec_l02Run_L0 F x8 x9 x0 x1 x2 x3 x4 0 0 0 (Int.toNat ((x9 - 0) + 1)) 0 x5 x6 x7 [])))))
def Pure.spec_l02Run_3 (F : FOps) (x0 : Int) (x1 : Int) (x2 : Int) (x3 : Int) (x4 : Int) (x5 : Int) (x6 : Int) (x7 : Int) (x8 : Int) (x9 : Int) : Bool := bif Prod.fst (Prod.snd (Pure.spec_l02Run_L0 F x8 x9 x0 x1 x2 x3 x4 0 0 0 (Int.toNat ((x9 - 0) + 1)) 0 x5 x6 x7 [])) then false else true
def Pure.spec_l02Run_4 (F : FOps) (x0 : Int) (x1 : Int) (x2 : Int) (x3 : Int) (x4 : Int) (x5 : Int) (x6 : Int) (x7 : Int) (x8 : Int) (x9 : Int) : List (List Int) := bif Prod.fst (Prod.snd (Pure.spec_l02Run_L0 F x8 x9 x0 x1 x2 x3 x4 0 0 0 (Int.toNat ((x9 - 0) + 1)) 0 x5 x6 x7 [])) then [] else Prod.fst (Prod.snd (Prod.snd (Prod.snd (Prod.snd (Prod.snd (Pure.spec_l02Run_L0 F x8 x9 x0 x1 x2 x3 x4 0 0 0 (Int.toNat ((x9 - 0) + 1)) 0 x5 x6 x7 []))))))
def Pure.spec_l02Run_ok (F : FOps) (x0 : Int) (x1 : Int) (x2 : Int) (x3 : Int) (x4 : Int) (x5 : Int) (x6 : Int) (x7 : Int) (x8 : Int) (x9 : Int) : Bool := Prod.fst (Pure.spec_l02Run_L0 F x8 x9 x0 x1 x2 x3 x4 0 0 0 (Int.toNat ((x9 - 0) + 1)) 0 x5 x6 x7 [])
def c_spec_l02Run (F : FOps) : Con
  | [V.at (A.ptr 0 0 0), V.agg [A.fl FloatKind.f32 x5, A.fl FloatKind.f32 x6, A.fl FloatKind.f32 x7], V.at (A.fl FloatKind.f32 x8), V.at (A.int IntKind.i64 x9)], [⟨false, OC.box [A.fl FloatKind.f32 x0, A.fl FloatKind.f32 x1, A.fl FloatKind.f32 x2, A.fl FloatKind.f32 x3, A.fl FloatKind.f32 x4]⟩] => some (Pure.spec_l02Run_ok F x0 x1 x2 x3 x4 x5 x6 x7 x8 x9, ⟨V.tup [(true, [A.fl FloatKind.f32 (Pure.spec_l02Run F x0 x1 x2 x3 x4 x5 x6 x7 x8 x9), A.fl FloatKind.f32 (Pure.spec_l02Run_1 F x0 x1 x2 x3 x4 x5 x6 x7 x8 x9), A.fl FloatKind.f32 (Pure.spec_l02Run_2 F x0 x1 x2 x3 x4 x5 x6 x7 x8 x9)]), (false, [A.sl 1]), (false, [A.bool (Pure.spec_l02Run_3 F x0 x1 x2 x3 x4 x5 x6 x7 x8 x9)])], none, [⟨true, OC.rows [K.f FloatKind.f32] (Pure.spec_l02Run_4 F x0 x1 x2 x3 x4 x5 x6 x7 x8 x9)⟩]⟩)
  | _, _ => none
theorem e_spec_l02Run (F : FOps) (x0 : Int) (x1 : Int) (x2 : Int) (x3 : Int) (x4 : Int) (x5 : Int) (x6 : Int) (x7 : Int) (x8 : Int) (x9 : Int) : Pure.spec_l02Run_ok F x0 x1 x2 x3 x4 x5 x6 x7 x8 x9 = true → evFn (cxS F tyl [(78, c_spec_l02Step F), (106, c_spec_l02Swing F)] [] [(0, S_spec_l02Run_L0 F)] 0) Try.f84 false [V.at (A.ptr 0 0 0), V.agg [A.fl FloatKind.f32 x5, A.fl FloatKind.f32 x6, A.fl FloatKind.f32 x7], V.at (A.fl FloatKind.f32 x8), V.at (A.int IntKind.i64 x9)] [⟨false, OC.box [A.fl FloatKind.f32 x0, A.fl FloatKind.f32 x1, A.fl FloatKind.f32 x2, A.fl FloatKind.f32 x3, A.fl FloatKind.f32 x4]⟩] = some ⟨V.tup [(true, [A.fl FloatKind.f32 (Pure.spec_l02Run F x0 x1 x2 x3 x4 x5 x6 x7 x8 x9), A.fl FloatKind.f32 (Pure.spec_l02Run_1 F x0 x1 x2 x3 x4 x5 x6 x7 x8 x9), A.fl FloatKind.f32 (Pure.spec_l02Run_2 F x0 x1 x2 x3 x4 x5 x6 x7 x8 x9)]), (false, [A.sl 1]), (false, [A.bool (Pure.spec_l02Run_3 F x0 x1 x2 x3 x4 x5 x6 x7 x8 x9)])], none, [⟨true, OC.rows [K.f FloatKind.f32] (Pure.spec_l02Run_4 F x0 x1 x2 x3 x4 x5 x6 x7 x8 x9)⟩]⟩ := by
  have h0 : evFn (cxS F tyl [(78, c_spec_l02Step F), (106, c_spec_l02Swing F)] [] [(0, S_spec_l02Run_L0 F)] 0) Try.f84 false [V.at (A.ptr 0 0 0), V.agg [A.fl FloatKind.f32 x5, A.fl FloatKind.f32 x6, A.fl FloatKind.f32 x7], V.at (A.fl FloatKind.f32 x8), V.at (A.int IntKind.i64 x9)] [⟨false, OC.box [A.fl FloatKind.f32 x0, A.fl FloatKind.f32 x1, A.fl FloatKind.f32 x2, A.fl FloatKind.f32 x3, A.fl FloatKind.f32 x4]⟩] = bif Prod.fst (Pure.spec_l02Run_L0 F x8 x9 x0 x1 x2 x3 x4 0 0 0 (Int.toNat ((x9 - 0) + 1)) 0 x5 x6 x7 []) then bif Prod.fst (Prod.snd (Pure.spec_l02Run_L0 F x8 x9 x0 x1 x2 x3 x4 0 0 0 (Int.toNat ((x9 - 0) + 1)) 0 x5 x6 x7 [])) then some ⟨V.tup [(true, [A.fl FloatKind.f32 0, A.fl FloatKind.f32 0, A.fl FloatKind.f32 0]), (false, [A.sl 1]), (false, [A.bool false])], none, [⟨true, OC.rows [K.f FloatKind.f32] []⟩]⟩ else some ⟨V.tup [(true, [A.fl FloatKind.f32 (Prod.fst (Prod.snd (Prod.snd (Pure.spec_l02Run_L0 F x8 x9 x0 x1 x2 x3 x4 0 0 0 (Int.toNat ((x9 - 0) + 1)) 0 x5 x6 x7 [])))), A.fl FloatKind.f32 (Prod.fst (Prod.snd (Prod.snd (Prod.snd (Pure.spec_l02Run_L0 F x8 x9 x0 x1 x2 x3 x4 0 0 0 (Int.toNat ((x9 - 0) + 1)) 0 x5 x6 x7 []))))), A.fl FloatKind.f32 (Prod.fst (Prod.snd (Prod.snd (Prod.snd (Prod.snd (Pure.spec_l02Run_L0 F x8 x9 x0 x1 x2 x3 x4 0 0 0 (Int.toNat ((x9 - 0) + 1)) 0 x5 x6 x7 []))))))]), (false, [A.sl 1]), (false, [A.bool true])], none, [⟨true, OC.rows [K.f FloatKind.f32] (Prod.fst (Prod.snd (Prod.snd (Prod.snd (Prod.snd (Prod.snd (Pure.spec_l02Run_L0 F x8 x9 x0 x1 x2 x3 x4 0 0 0 (Int.toNat ((x9 - 0) + 1)) 0 x5 x6 x7 [])))))))⟩]⟩ else none := by kernel_rfl
  rw [h0]
  unfold Pure.spec_l02Run Pure.spec_l02Run_1 Pure.spec_l02Run_2 Pure.spec_l02Run_3 Pure.spec_l02Run_4 Pure.spec_l02Run_ok
  cases (Prod.fst (Pure.spec_l02Run_L0 F x8 x9 x0 x1 x2 x3 x4 0 0 0 (Int.toNat ((x9 - 0) + 1)) 0 x5 x6 x7 [])) with
  | true =>
    cases (Prod.fst (Prod.snd (Pure.spec_l02Run_L0 F x8 x9 x0 x1 x2 x3 x4 0 0 0 (Int.toNat ((x9 - 0) + 1)) 0 x5 x6 x7 []))) with
    | true =>
      intro _; rfl
    | false =>
      intro _; rfl
  | false =>
    intro h; exact absurd h Bool.false_ne_true
theorem ok_spec_l02Run : CallOK Try.prog 84 (c_spec_l02Run real) := by
  refine callOK_of fun args h ret hc => ?_
  unfold c_spec_l02Run at hc
  split at hc
  · rename_i x5 x6 x7 x8 x9 x0 x1 x2 x3 x4
    obtain ⟨hok, rfl⟩ := some_ret hc
    exact holds_ev prog_ok (allOK_cons ok_spec_l02Step (allOK_cons ok_spec_l02Swing allOK_nil)) Try.func84 rfl rfl (smL_cons (body := .loop (loopB 0 (codeOf Try.f84))) (by kernel_rfl) t_spec_l02Run_L0 smL_nil) rfl (e_spec_l02Run real x0 x1 x2 x3 x4 x5 x6 x7 x8 x9 hok)
  · cases hc
def Pure.impl_Pendulum_run_L0 (F : FOps) (y0 : Int) (y1 : Int) (y3 : Int) (y4 : Int) (y5 : Int) (y6 : Int) (y7 : Int) : Nat → Int → Int → Int → Int → (List (List Int)) → (Bool × Bool × (List (List Int)) × (List (List Int)))
  | 0, _, _, _, _, _ => (false, false, [], [])
  | n + 1, y2, y8, y9, y10, y11 => bif (Decidable.decide (y2 < y1)) then (bif (Pure.impl_Pendulum_step_ok F y3 y4 y5 y6 y7 y8 y9 y10 y0) then (bif (Pure.impl_Pendulum_step_3 F y3 y4 y5 y6 y7 y8 y9 y10 y0) then (bif (Decidable.decide ((Nat.succ (List.length y11)) ≤ 1073741824)) then (Pure.impl_Pendulum_run_L0 F y0 y1 y3 y4 y5 y6 y7 n (IntKind.wrap IntKind.i64 (y2 + 1)) (Pure.impl_Pendulum_step F y3 y4 y5 y6 y7 y8 y9 y10 y0) (Pure.impl_Pendulum_step_1 F y3 y4 y5 y6 y7 y8 y9 y10 y0) (Pure.impl_Pendulum_step_2 F y3 y4 y5 y6 y7 y8 y9 y10 y0) (y11 ++ [[Pure.impl_Pendulum_step F y3 y4 y5 y6 y7 y8 y9 y10 y0, Pure.impl_Pendulum_step_1 F y3 y4 y5 y6 y7 y8 y9 y10 y0, Pure.impl_Pendulum_step_2 F y3 y4 y5 y6 y7 y8 y9 y10 y0]])) else ((false, false, [], []))) else ((true, true, [], y11))) else ((false, false, [], []))) else ((true, false, y11, []))
def R_impl_Pendulum_run_L0 (y3 : Int) (y4 : Int) (y5 : Int) (y6 : Int) (y7 : Int) (r : (Bool × Bool × (List (List Int)) × (List (List Int)))) : Bool × Bool × (Ex × List V × List Ob) × (Ex × List V × List Ob) := ((r).1, (r).2.1, (Ex.normal, [V.at A.undef, V.at A.undef, V.at (A.sl 1)], [⟨false, OC.box [A.fl FloatKind.f32 y3, A.fl FloatKind.f32 y4, A.fl FloatKind.f32 y5, A.fl FloatKind.f32 y6, A.fl FloatKind.f32 y7]⟩, ⟨true, OC.rows [K.f FloatKind.f32, K.f FloatKind.f32, K.f FloatKind.f32] (r).2.2.1⟩]), (Ex.ret, [V.at A.nil, V.at (A.bool false), V.at (A.sl 1)], [⟨false, OC.box [A.fl FloatKind.f32 y3, A.fl FloatKind.f32 y4, A.fl FloatKind.f32 y5, A.fl FloatKind.f32 y6, A.fl FloatKind.f32 y7]⟩, ⟨true, OC.rows [K.f FloatKind.f32, K.f FloatKind.f32, K.f FloatKind.f32] (r).2.2.2⟩]))
def S_impl_Pendulum_run_L0 (F : FOps) : Sm := ⟨[0, 2, 5, 10, 14, 15], [99, 22, 0, 72, 2, 2], [8, 9, 10], fun vals hp => match vals, hp with
  | [V.at (A.ptr 0 0 0), V.at (A.fl FloatKind.f32 y0), V.at (A.ptr 1 0 0), V.at (A.sl 2), V.at (A.int IntKind.i64 y1), V.at (A.int IntKind.i64 y2)], [⟨false, OC.box [A.fl FloatKind.f32 y3, A.fl FloatKind.f32 y4, A.fl FloatKind.f32 y5, A.fl FloatKind.f32 y6, A.fl FloatKind.f32 y7]⟩, ⟨true, OC.box [A.fl FloatKind.f32 y8, A.fl FloatKind.f32 y9, A.fl FloatKind.f32 y10]⟩, ⟨true, OC.rows [K.f FloatKind.f32, K.f FloatKind.f32, K.f FloatKind.f32] y11⟩] => some (R_impl_Pendulum_run_L0 y3 y4 y5 y6 y7 (Pure.impl_Pendulum_run_L0 F y0 y1 y3 y4 y5 y6 y7 (y1 - y2 + 1).toNat y2 y8 y9 y10 y11))
  | _, _ => none⟩
theorem l_impl_Pendulum_run_L0 (F : FOps) (y0 : Int) (y1 : Int) (y3 : Int) (y4 : Int) (y5 : Int) (y6 : Int) (y7 : Int) : ∀ (fuel : Nat) (y2 : Int) (y8 : Int) (y9 : Int) (y10 : Int) (y11 : List (List Int)), (Pure.impl_Pendulum_run_L0 F y0 y1 y3 y4 y5 y6 y7 fuel y2 y8 y9 y10 y11).1 = true → loopOf (cxS F tyl [(80, c_impl_Pendulum_step F)] [] [] 0) 1 33 0 [0, 2, 5, 10, 14, 15] [99, 22, 0, 72, 2, 2] [8, 9, 10] (loopB 0 (codeOf Try.f85)) fuel [V.at (A.ptr 0 0 0), V.at (A.fl FloatKind.f32 y0), V.at (A.ptr 1 0 0), V.at (A.sl 2), V.at (A.int IntKind.i64 y1), V.at (A.int IntKind.i64 y2)] [⟨false, OC.box [A.fl FloatKind.f32 y3, A.fl FloatKind.f32 y4, A.fl FloatKind.f32 y5, A.fl FloatKind.f32 y6, A.fl FloatKind.f32 y7]⟩, ⟨true, OC.box [A.fl FloatKind.f32 y8, A.fl FloatKind.f32 y9, A.fl FloatKind.f32 y10]⟩, ⟨true, OC.rows [K.f FloatKind.f32, K.f FloatKind.f32, K.f FloatKind.f32] y11⟩] = resOf (R_impl_Pendulum_run_L0 y3 y4 y5 y6 y7 (Pure.impl_Pendulum_run_L0 F y0 y1 y3 y4 y5 y6 y7 fuel y2 y8 y9 y10 y11)) := by
  intro fuel
  induction fuel with
  | zero => intro y2 y8 y9 y10 y11 h; exact absurd h Bool.false_ne_true
  | succ n ih =>
    intro y2 y8 y9 y10 y11
    have h0 : roundOf (cxS F tyl [(80, c_impl_Pendulum_step F)] [] [] 0) 1 33 0 [0, 2, 5, 10, 14, 15] [99, 22, 0, 72, 2, 2] [8, 9, 10] (loopB 0 (codeOf Try.f85)) [V.at (A.ptr 0 0 0), V.at (A.fl FloatKind.f32 y0), V.at (A.ptr 1 0 0), V.at (A.sl 2), V.at (A.int IntKind.i64 y1), V.at (A.int IntKind.i64 y2)] [⟨false, OC.box [A.fl FloatKind.f32 y3, A.fl FloatKind.f32 y4, A.fl FloatKind.f32 y5, A.fl FloatKind.f32 y6, A.fl FloatKind.f32 y7]⟩, ⟨true, OC.box [A.fl FloatKind.f32 y8, A.fl FloatKind.f32 y9, A.fl FloatKind.f32 y10]⟩, ⟨true, OC.rows [K.f FloatKind.f32, K.f FloatKind.f32, K.f FloatKind.f32] y11⟩] = (bif Decidable.decide (y2 < y1) then bif Pure.impl_Pendulum_step_ok F y3 y4 y5 y6 y7 y8 y9 y10 y0 then bif Bool.not (Pure.impl_Pendulum_step_3 F y3 y4 y5 y6 y7 y8 y9 y10 y0) then some (false, (Ex.ret, ([V.at A.nil, V.at (A.bool false), V.at (A.sl 1)], [⟨false, OC.box [A.fl FloatKind.f32 y3, A.fl FloatKind.f32 y4, A.fl FloatKind.f32 y5, A.fl FloatKind.f32 y6, A.fl FloatKind.f32 y7]⟩, ⟨true, OC.rows [K.f FloatKind.f32, K.f FloatKind.f32, K.f FloatKind.f32] y11⟩]))) else bif Decidable.decide ((Nat.succ (List.length y11)) ≤ 1073741824) then some (true, (Ex.normal, ([V.at (A.ptr 0 0 0), V.at (A.fl FloatKind.f32 y0), V.at (A.ptr 1 0 0), V.at (A.sl 2), V.at (A.int IntKind.i64 y1), V.at (A.int IntKind.i64 (IntKind.wrap IntKind.i64 (y2 + 1)))], [⟨false, OC.box [A.fl FloatKind.f32 y3, A.fl FloatKind.f32 y4, A.fl FloatKind.f32 y5, A.fl FloatKind.f32 y6, A.fl FloatKind.f32 y7]⟩, ⟨true, OC.box [A.fl FloatKind.f32 (Pure.impl_Pendulum_step F y3 y4 y5 y6 y7 y8 y9 y10 y0), A.fl FloatKind.f32 (Pure.impl_Pendulum_step_1 F y3 y4 y5 y6 y7 y8 y9 y10 y0), A.fl FloatKind.f32 (Pure.impl_Pendulum_step_2 F y3 y4 y5 y6 y7 y8 y9 y10 y0)]⟩, ⟨true, OC.rows [K.f FloatKind.f32, K.f FloatKind.f32, K.f FloatKind.f32] (y11 ++ [[Pure.impl_Pendulum_step F y3 y4 y5 y6 y7 y8 y9 y10 y0, Pure.impl_Pendulum_step_1 F y3 y4 y5 y6 y7 y8 y9 y10 y0, Pure.impl_Pendulum_step_2 F y3 y4 y5 y6 y7 y8 y9 y10 y0]])⟩]))) else none else none else some (false, (Ex.normal, ([V.at A.undef, V.at A.undef, V.at (A.sl 1)], [⟨false, OC.box [A.fl FloatKind.f32 y3, A.fl FloatKind.f32 y4, A.fl FloatKind.f32 y5, A.fl FloatKind.f32 y6, A.fl FloatKind.f32 y7]⟩, ⟨true, OC.rows [K.f FloatKind.f32, K.f FloatKind.f32, K.f FloatKind.f32] y11⟩])))) := by kernel_rfl
    unfold loopOf
    rw [h0]
    unfold Pure.impl_Pendulum_run_L0
    cases (Decidable.decide (y2 < y1)) with
    | true =>
      cases (Pure.impl_Pendulum_step_ok F y3 y4 y5 y6 y7 y8 y9 y10 y0) with
      | true =>
        cases (Pure.impl_Pendulum_step_3 F y3 y4 y5 y6 y7 y8 y9 y10 y0) with
        | true =>
          cases (Decidable.decide ((Nat.succ (List.length y11)) ≤ 1073741824)) with
          | true =>
            exact ih _ _ _ _ _
          | false =>
            intro h; exact absurd h Bool.false_ne_true
        | false =>
          intro _; rfl
      | false =>
        intro h; exact absurd h Bool.false_ne_true
    | false =>
      intro _; rfl
theorem t_impl_Pendulum_run_L0 : SmTo Try.prog 1 33 (S_impl_Pendulum_run_L0 real) 0 (.loop (loopB 0 (codeOf Try.f85))) := by
  refine smTo_ev (cl := [(80, c_impl_Pendulum_step real)]) (ef := []) (sm := []) (un := 0) prog_ok (allOK_cons ok_impl_Pendulum_step allOK_nil) smL_nil ?_
  intro vals hp q r h hq
  unfold S_impl_Pendulum_run_L0 at h
  dsimp only at h
  split at h
  · rename_i y0 y1 y2 y3 y4 y5 y6 y7 y8 y9 y10 y11
    obtain rfl := Option.some.inj h
    have h1 := hq
    unfold resOf at h1
    rw [chk_some] at h1
    exact ⟨_, (l_impl_Pendulum_run_L0 real y0 y1 y3 y4 y5 y6 y7 _ y2 y8 y9 y10 y11 h1.1).trans hq⟩
  · cases h
def Pure.impl_Pendulum_run (F : FOps) (x0 : Int) (x1 : Int) (x2 : Int) (x3 : Int) (x4 : Int) (x5 : Int) (x6 : Int) (x7 : Int) (x8 : Int) (x9 : Int) : Bool := bif Prod.fst (Prod.snd (Pure.impl_Pendulum_run_L0 F x8 x9 x0 x1 x2 x3 x4 (Int.toNat ((x9 - 0) + 1)) 0 x5 x6 x7 [])) then false else true
def Pure.impl_Pendulum_run_1 (F : FOps) (x0 : Int) (x1 : Int) (x2 : Int) (x3 : Int) (x4 : Int) (x5 : Int) (x6 : Int) (x7 : Int) (x8 : Int) (x9 : Int) : List (List Int) := bif Prod.fst (Prod.snd (Pure.impl_Pendulum_run_L0 F x8 x9 x0 x1 x2 x3 x4 (Int.toNat ((x9 - 0) + 1)) 0 x5 x6 x7 [])) then [] else Prod.fst (Prod.snd (Prod.snd (Pure.impl_Pendulum_run_L0 F x8 x9 x0 x1 x2 x3 x4 (Int.toNat ((x9 - 0) + 1)) 0 x5 x6 x7 [])))
def Pure.impl_Pendulum_run_ok (F : FOps) (x0 : Int) (x1 : Int) (x2 : Int) (x3 : Int) (x4 : Int) (x5 : Int) (x6 : Int) (x7 : Int) (x8 : Int) (x9 : Int) : Bool := Prod.fst (Pure.impl_Pendulum_run_L0 F x8 x9 x0 x1 x2 x3 x4 (Int.toNat ((x9 - 0) + 1)) 0 x5 x6 x7 [])
def c_impl_Pendulum_run (F : FOps) : Con
  | [V.at (A.ptr 0 0 0), V.agg [A.fl FloatKind.f32 x5, A.fl FloatKind.f32 x6, A.fl FloatKind.f32 x7], V.at (A.fl FloatKind.f32 x8), V.at (A.int IntKind.i64 x9)], [⟨false, OC.box [A.fl FloatKind.f32 x0, A.fl FloatKind.f32 x1, A.fl FloatKind.f32 x2, A.fl FloatKind.f32 x3, A.fl FloatKind.f32 x4]⟩] => some (Pure.impl_Pendulum_run_ok F x0 x1 x2 x3 x4 x5 x6 x7 x8 x9, ⟨V.tup [(false, [A.sl 1]), (false, [A.bool (Pure.impl_Pendulum_run F x0 x1 x2 x3 x4 x5 x6 x7 x8 x9)])], none, [⟨true, OC.rows [K.f FloatKind.f32, K.f FloatKind.f32, K.f FloatKind.f32] (Pure.impl_Pendulum_run_1 F x0 x1 x2 x3 x4 x5 x6 x7 x8 x9)⟩]⟩)
  | _, _ => none
theorem e_impl_Pendulum_run (F : FOps) (x0 : Int) (x1 : Int) (x2 : Int) (x3 : Int) (x4 : Int) (x5 : Int) (x6 : Int) (x7 : Int) (x8 : Int) (x9 : Int) : Pure.impl_Pendulum_run_ok F x0 x1 x2 x3 x4 x5 x6 x7 x8 x9 = true → evFn (cxS F tyl [(80, c_impl_Pendulum_step F)] [] [(0, S_impl_Pendulum_run_L0 F)] 0) Try.f85 false [V.at (A.ptr 0 0 0), V.agg [A.fl FloatKind.f32 x5, A.fl FloatKind.f32 x6, A.fl FloatKind.f32 x7], V.at (A.fl FloatKind.f32 x8), V.at (A.int IntKind.i64 x9)] [⟨false, OC.box [A.fl FloatKind.f32 x0, A.fl FloatKind.f32 x1, A.fl FloatKind.f32 x2, A.fl FloatKind.f32 x3, A.fl FloatKind.f32 x4]⟩] = some ⟨V.tup [(false, [A.sl 1]), (false, [A.bool (Pure.impl_Pendulum_run F x0 x1 x2 x3 x4 x5 x6 x7 x8 x9)])], none, [⟨true, OC.rows [K.f FloatKind.f32, K.f FloatKind.f32, K.f FloatKind.f32] (Pure.impl_Pendulum_run_1 F x0 x1 x2 x3 x4 x5 x6 x7 x8 x9)⟩]⟩ := by
  have h0 : evFn (cxS F tyl [(80, c_impl_Pendulum_step F)] [] [(0, S_impl_Pendulum_run_L0 F)] 0) Try.f85 false [V.at (A.ptr 0 0 0), V.agg [A.fl FloatKind.f32 x5, A.fl FloatKind.f32 x6, A.fl FloatKind.f32 x7], V.at (A.fl FloatKind.f32 x8), V.at (A.int IntKind.i64 x9)] [⟨false, OC.box [A.fl FloatKind.f32 x0, A.fl FloatKind.f32 x1, A.fl FloatKind.f32 x2, A.fl FloatKind.f32 x3, A.fl FloatKind.f32 x4]⟩] = bif Prod.fst (Pure.impl_Pendulum_run_L0 F x8 x9 x0 x1 x2 x3 x4 (Int.toNat ((x9 - 0) + 1)) 0 x5 x6 x7 []) then bif Prod.fst (Prod.snd (Pure.impl_Pendulum_run_L0 F x8 x9 x0 x1 x2 x3 x4 (Int.toNat ((x9 - 0) + 1)) 0 x5 x6 x7 [])) then some ⟨V.tup [(false, [A.sl 1]), (false, [A.bool false])], none, [⟨true, OC.rows [K.f FloatKind.f32, K.f FloatKind.f32, K.f FloatKind.f32] []⟩]⟩ else some ⟨V.tup [(false, [A.sl 1]), (false, [A.bool true])], none, [⟨true, OC.rows [K.f FloatKind.f32, K.f FloatKind.f32, K.f FloatKind.f32] (Prod.fst (Prod.snd (Prod.snd (Pure.impl_Pendulum_run_L0 F x8 x9 x0 x1 x2 x3 x4 (Int.toNat ((x9 - 0) + 1)) 0 x5 x6 x7 []))))⟩]⟩ else none := by kernel_rfl
  rw [h0]
  unfold Pure.impl_Pendulum_run Pure.impl_Pendulum_run_1 Pure.impl_Pendulum_run_ok
  cases (Prod.fst (Pure.impl_Pendulum_run_L0 F x8 x9 x0 x1 x2 x3 x4 (Int.toNat ((x9 - 0) + 1)) 0 x5 x6 x7 [])) with
  | true =>
    cases (Prod.fst (Prod.snd (Pure.impl_Pendulum_run_L0 F x8 x9 x0 x1 x2 x3 x4 (Int.toNat ((x9 - 0) + 1)) 0 x5 x6 x7 []))) with
    | true =>
      intro _; rfl
    | false =>
      intro _; rfl
  | false =>
    intro h; exact absurd h Bool.false_ne_true
theorem ok_impl_Pendulum_run : CallOK Try.prog 85 (c_impl_Pendulum_run real) := by
  refine callOK_of fun args h ret hc => ?_
  unfold c_impl_Pendulum_run at hc
  split at hc
  · rename_i x5 x6 x7 x8 x9 x0 x1 x2 x3 x4
    obtain ⟨hok, rfl⟩ := some_ret hc
    exact holds_ev prog_ok (allOK_cons ok_impl_Pendulum_step allOK_nil) Try.func85 rfl rfl (smL_cons (body := .loop (loopB 0 (codeOf Try.f85))) (by kernel_rfl) t_impl_Pendulum_run_L0 smL_nil) rfl (e_impl_Pendulum_run real x0 x1 x2 x3 x4 x5 x6 x7 x8 x9 hok)
  · cases hc
end Go.Fx
