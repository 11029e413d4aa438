import Derived.Test.YtpdeekgbdalnaaaXr5n
import Derived.KernelRfl
namespace Go.Fx
open Go.Proofs
set_option maxRecDepth 100000
def Pure.spec_RunFalls_L0 (F : FOps) (y0 : Int) (y1 : Int) (y2 : Int) (y4 : Int) (y5 : Int) (y6 : Int) (y7 : Int) : Nat → Int → Int → Int → Int → (List (List Int)) → (Bool × Bool × (List (List Int)) × (List (List Int)))
  | 0, _, _, _, _, _ => (false, false, [], [])
  | n + 1, y3, y8, y9, y10, y11 => bif (Decidable.decide (y3 < y2)) then (bif (Pure.spec_l06Hit_ok F y4 y5 y6 y7 y8 y9 y10 y0 y1) then (bif (Pure.spec_l06Hit_1 F y4 y5 y6 y7 y8 y9 y10 y0 y1) then (bif (Pure.spec_l06Bounce_ok F y4 y5 y6 y7 (Pure.spec_l06Fly F y4 y5 y6 y7 y8 y9 y10 (Pure.spec_l06Hit F y4 y5 y6 y7 y8 y9 y10 y0 y1)) (Pure.spec_l06Fly_1 F y4 y5 y6 y7 y8 y9 y10 (Pure.spec_l06Hit F y4 y5 y6 y7 y8 y9 y10 y0 y1)) (Pure.spec_l06Fly_2 F y4 y5 y6 y7 y8 y9 y10 (Pure.spec_l06Hit F y4 y5 y6 y7 y8 y9 y10 y0 y1))) then (bif (Pure.spec_l06Fall F (Pure.spec_l06High F y4 y5 y6 y7 (Pure.spec_l06Fly_2 F y4 y5 y6 y7 y8 y9 y10 (Pure.spec_l06Hit F y4 y5 y6 y7 y8 y9 y10 y0 y1))) (Pure.spec_l06Bounce F y4 y5 y6 y7 (Pure.spec_l06Fly F y4 y5 y6 y7 y8 y9 y10 (Pure.spec_l06Hit F y4 y5 y6 y7 y8 y9 y10 y0 y1)) (Pure.spec_l06Fly_1 F y4 y5 y6 y7 y8 y9 y10 (Pure.spec_l06Hit F y4 y5 y6 y7 y8 y9 y10 y0 y1)) (Pure.spec_l06Fly_2 F y4 y5 y6 y7 y8 y9 y10 (Pure.spec_l06Hit F y4 y5 y6 y7 y8 y9 y10 y0 y1))) (Pure.spec_l06Fly_2 F y4 y5 y6 y7 y8 y9 y10 (Pure.spec_l06Hit F y4 y5 y6 y7 y8 y9 y10 y0 y1))) then (bif (Decidable.decide ((Nat.succ (List.length y11)) ≤ 1073741824)) then (Pure.spec_RunFalls_L0 F y0 y1 y2 y4 y5 y6 y7 n (IntKind.wrap IntKind.i64 (y3 + 1)) (Pure.spec_l06High F y4 y5 y6 y7 (Pure.spec_l06Fly_2 F y4 y5 y6 y7 y8 y9 y10 (Pure.spec_l06Hit F y4 y5 y6 y7 y8 y9 y10 y0 y1))) (Pure.spec_l06Bounce F y4 y5 y6 y7 (Pure.spec_l06Fly F y4 y5 y6 y7 y8 y9 y10 (Pure.spec_l06Hit F y4 y5 y6 y7 y8 y9 y10 y0 y1)) (Pure.spec_l06Fly_1 F y4 y5 y6 y7 y8 y9 y10 (Pure.spec_l06Hit F y4 y5 y6 y7 y8 y9 y10 y0 y1)) (Pure.spec_l06Fly_2 F y4 y5 y6 y7 y8 y9 y10 (Pure.spec_l06Hit F y4 y5 y6 y7 y8 y9 y10 y0 y1))) (Pure.spec_l06Fly_2 F y4 y5 y6 y7 y8 y9 y10 (Pure.spec_l06Hit F y4 y5 y6 y7 y8 y9 y10 y0 y1)) (y11 ++ [[Pure.spec_l06High F y4 y5 y6 y7 (Pure.spec_l06Fly_2 F y4 y5 y6 y7 y8 y9 y10 (Pure.spec_l06Hit F y4 y5 y6 y7 y8 y9 y10 y0 y1)), Pure.spec_l06Bounce F y4 y5 y6 y7 (Pure.spec_l06Fly F y4 y5 y6 y7 y8 y9 y10 (Pure.spec_l06Hit F y4 y5 y6 y7 y8 y9 y10 y0 y1)) (Pure.spec_l06Fly_1 F y4 y5 y6 y7 y8 y9 y10 (Pure.spec_l06Hit F y4 y5 y6 y7 y8 y9 y10 y0 y1)) (Pure.spec_l06Fly_2 F y4 y5 y6 y7 y8 y9 y10 (Pure.spec_l06Hit F y4 y5 y6 y7 y8 y9 y10 y0 y1)), Pure.spec_l06Fly_2 F y4 y5 y6 y7 y8 y9 y10 (Pure.spec_l06Hit F y4 y5 y6 y7 y8 y9 y10 y0 y1)]])) else ((false, false, [], []))) else ((true, true, [], y11))) else ((false, false, [], []))) else ((true, true, [], y11))) else ((false, false, [], []))) else ((true, false, y11, []))
def R_spec_RunFalls_L0 (r : (Bool × Bool × (List (List Int)) × (List (List Int)))) : Bool × Bool × (Ex × List V × List Ob) × (Ex × List V × List Ob) := ((r).1, (r).2.1, (Ex.normal, [V.at A.undef, V.at A.undef, V.at (A.sl 0)], [⟨true, OC.rows [K.f FloatKind.f32, K.f FloatKind.f32, K.f FloatKind.f32] (r).2.2.1⟩]), (Ex.ret, [V.at A.nil, V.at (A.bool false), V.at (A.sl 0)], [⟨true, OC.rows [K.f FloatKind.f32, K.f FloatKind.f32, K.f FloatKind.f32] (r).2.2.2⟩]))
def S_spec_RunFalls_L0 (F : FOps) : Sm := ⟨[2, 3, 4, 5, 6, 12, 13], [22, 2, 2, 0, 0, 42, 2], [10, 11, 12], fun vals hp => match vals, hp with
  | [V.at (A.fl FloatKind.f32 y0), V.at (A.int IntKind.i64 y1), V.at (A.int IntKind.i64 y2), V.at (A.ptr 0 0 0), V.at (A.ptr 1 0 0), V.at (A.sl 2), V.at (A.int IntKind.i64 y3)], [⟨true, OC.box [A.fl FloatKind.f32 y4, A.fl FloatKind.f32 y5, A.fl FloatKind.f32 y6, A.fl FloatKind.f32 y7]⟩, ⟨true, OC.box [A.fl FloatKind.f32 y8, A.fl FloatKind.f32 y9, A.fl FloatKind.f32 y10]⟩, ⟨true, OC.rows [K.f FloatKind.f32, K.f FloatKind.f32, K.f FloatKind.f32] y11⟩] => some (R_spec_RunFalls_L0  (Pure.spec_RunFalls_L0 F y0 y1 y2 y4 y5 y6 y7 (y2 - y3 + 1).toNat y3 y8 y9 y10 y11))
  | _, _ => none⟩
theorem l_spec_RunFalls_L0 (F : FOps) (y0 : Int) (y1 : Int) (y2 : Int) (y4 : Int) (y5 : Int) (y6 : Int) (y7 : Int) : ∀ (fuel : Nat) (y3 : Int) (y8 : Int) (y9 : Int) (y10 : Int) (y11 : List (List Int)), (Pure.spec_RunFalls_L0 F y0 y1 y2 y4 y5 y6 y7 fuel y3 y8 y9 y10 y11).1 = true → loopOf (cxS F tyl [(81, c_spec_l06Can F), (93, c_spec_l00In F), (82, c_spec_l06Hit F), (96, c_spec_l06Fly F), (73, c_spec_l06Bounce F), (74, c_spec_l06Fall F)] [] [] 0) 0 51 0 [2, 3, 4, 5, 6, 12, 13] [22, 2, 2, 0, 0, 42, 2] [10, 11, 12] (loopB 0 (codeOf Try.f54)) fuel [V.at (A.fl FloatKind.f32 y0), V.at (A.int IntKind.i64 y1), V.at (A.int IntKind.i64 y2), V.at (A.ptr 0 0 0), V.at (A.ptr 1 0 0), V.at (A.sl 2), V.at (A.int IntKind.i64 y3)] [⟨true, OC.box [A.fl FloatKind.f32 y4, A.fl FloatKind.f32 y5, A.fl FloatKind.f32 y6, A.fl FloatKind.f32 y7]⟩, ⟨true, OC.box [A.fl FloatKind.f32 y8, A.fl FloatKind.f32 y9, A.fl FloatKind.f32 y10]⟩, ⟨true, OC.rows [K.f FloatKind.f32, K.f FloatKind.f32, K.f FloatKind.f32] y11⟩] = resOf (R_spec_RunFalls_L0  (Pure.spec_RunFalls_L0 F y0 y1 y2 y4 y5 y6 y7 fuel y3 y8 y9 y10 y11)) := by
  intro fuel
  induction fuel with
  | zero => intro y3 y8 y9 y10 y11 h; exact absurd h Bool.false_ne_true
  | succ n ih =>
    intro y3 y8 y9 y10 y11
    have h0 : roundOf (cxS F tyl [(81, c_spec_l06Can F), (93, c_spec_l00In F), (82, c_spec_l06Hit F), (96, c_spec_l06Fly F), (73, c_spec_l06Bounce F), (74, c_spec_l06Fall F)] [] [] 0) 0 51 0 [2, 3, 4, 5, 6, 12, 13] [22, 2, 2, 0, 0, 42, 2] [10, 11, 12] (loopB 0 (codeOf Try.f54)) [V.at (A.fl FloatKind.f32 y0), V.at (A.int IntKind.i64 y1), V.at (A.int IntKind.i64 y2), V.at (A.ptr 0 0 0), V.at (A.ptr 1 0 0), V.at (A.sl 2), V.at (A.int IntKind.i64 y3)] [⟨true, OC.box [A.fl FloatKind.f32 y4, A.fl FloatKind.f32 y5, A.fl FloatKind.f32 y6, A.fl FloatKind.f32 y7]⟩, ⟨true, OC.box [A.fl FloatKind.f32 y8, A.fl FloatKind.f32 y9, A.fl FloatKind.f32 y10]⟩, ⟨true, OC.rows [K.f FloatKind.f32, K.f FloatKind.f32, K.f FloatKind.f32] y11⟩] = (bif Decidable.decide (y3 < y2) then bif Pure.spec_l06Hit_ok F y4 y5 y6 y7 y8 y9 y10 y0 y1 then bif Bool.not (Pure.spec_l06Hit_1 F y4 y5 y6 y7 y8 y9 y10 y0 y1) then some (false, (Ex.ret, ([V.at A.nil, V.at (A.bool false), V.at (A.sl 0)], [⟨true, OC.rows [K.f FloatKind.f32, K.f FloatKind.f32, K.f FloatKind.f32] y11⟩]))) else bif Pure.spec_l06Bounce_ok F y4 y5 y6 y7 (Pure.spec_l06Fly F y4 y5 y6 y7 y8 y9 y10 (Pure.spec_l06Hit F y4 y5 y6 y7 y8 y9 y10 y0 y1)) (Pure.spec_l06Fly_1 F y4 y5 y6 y7 y8 y9 y10 (Pure.spec_l06Hit F y4 y5 y6 y7 y8 y9 y10 y0 y1)) (Pure.spec_l06Fly_2 F y4 y5 y6 y7 y8 y9 y10 (Pure.spec_l06Hit F y4 y5 y6 y7 y8 y9 y10 y0 y1)) then bif Bool.not (Pure.spec_l06Fall F (Pure.spec_l06High F y4 y5 y6 y7 (Pure.spec_l06Fly_2 F y4 y5 y6 y7 y8 y9 y10 (Pure.spec_l06Hit F y4 y5 y6 y7 y8 y9 y10 y0 y1))) (Pure.spec_l06Bounce F y4 y5 y6 y7 (Pure.spec_l06Fly F y4 y5 y6 y7 y8 y9 y10 (Pure.spec_l06Hit F y4 y5 y6 y7 y8 y9 y10 y0 y1)) (Pure.spec_l06Fly_1 F y4 y5 y6 y7 y8 y9 y10 (Pure.spec_l06Hit F y4 y5 y6 y7 y8 y9 y10 y0 y1)) (Pure.spec_l06Fly_2 F y4 y5 y6 y7 y8 y9 y10 (Pure.spec_l06Hit F y4 y5 y6 y7 y8 y9 y10 y0 y1))) (Pure.spec_l06Fly_2 F y4 y5 y6 y7 y8 y9 y10 (Pure.spec_l06Hit F y4 y5 y6 y7 y8 y9 y10 y0 y1))) then some (false, (Ex.ret, ([V.at A.nil, V.at (A.bool false), V.at (A.sl 0)], [⟨true, OC.rows [K.f FloatKind.f32, K.f FloatKind.f32, K.f FloatKind.f32] y11⟩]))) else bif Decidable.decide ((Nat.succ (List.length y11)) ≤ 1073741824) then some (true, (Ex.normal, ([V.at (A.fl FloatKind.f32 y0), V.at (A.int IntKind.i64 y1), V.at (A.int IntKind.i64 y2), V.at (A.ptr 0 0 0), V.at (A.ptr 1 0 0), V.at (A.sl 2), V.at (A.int IntKind.i64 (IntKind.wrap IntKind.i64 (y3 + 1)))], [⟨true, OC.box [A.fl FloatKind.f32 y4, A.fl FloatKind.f32 y5, A.fl FloatKind.f32 y6, A.fl FloatKind.f32 y7]⟩, ⟨true, OC.box [A.fl FloatKind.f32 (Pure.spec_l06High F y4 y5 y6 y7 (Pure.spec_l06Fly_2 F y4 y5 y6 y7 y8 y9 y10 (Pure.spec_l06Hit F y4 y5 y6 y7 y8 y9 y10 y0 y1))), A.fl FloatKind.f32 (Pure.spec_l06Bounce F y4 y5 y6 y7 (Pure.spec_l06Fly F y4 y5 y6 y7 y8 y9 y10 (Pure.spec_l06Hit F y4 y5 y6 y7 y8 y9 y10 y0 y1)) (Pure.spec_l06Fly_1 F y4 y5 y6 y7 y8 y9 y10 (Pure.spec_l06Hit F y4 y5 y6 y7 y8 y9 y10 y0 y1)) (Pure.spec_l06Fly_2 F y4 y5 y6 y7 y8 y9 y10 (Pure.spec_l06Hit F y4 y5 y6 y7 y8 y9 y10 y0 y1))), A.fl FloatKind.f32 (Pure.spec_l06Fly_2 F y4 y5 y6 y7 y8 y9 y10 (Pure.spec_l06Hit F y4 y5 y6 y7 y8 y9 y10 y0 y1))]⟩, ⟨true, OC.rows [K.f FloatKind.f32, K.f FloatKind.f32, K.f FloatKind.f32] (y11 ++ [[Pure.spec_l06High F y4 y5 y6 y7 (Pure.spec_l06Fly_2 F y4 y5 y6 y7 y8 y9 y10 (Pure.spec_l06Hit F y4 y5 y6 y7 y8 y9 y10 y0 y1)), Pure.spec_l06Bounce F y4 y5 y6 y7 (Pure.spec_l06Fly F y4 y5 y6 y7 y8 y9 y10 (Pure.spec_l06Hit F y4 y5 y6 y7 y8 y9 y10 y0 y1)) (Pure.spec_l06Fly_1 F y4 y5 y6 y7 y8 y9 y10 (Pure.spec_l06Hit F y4 y5 y6 y7 y8 y9 y10 y0 y1)) (Pure.spec_l06Fly_2 F y4 y5 y6 y7 y8 y9 y10 (Pure.spec_l06Hit F y4 y5 y6 y7 y8 y9 y10 y0 y1)), Pure.spec_l06Fly_2 F y4 y5 y6 y7 y8 y9 y10 (Pure.spec_l06Hit F y4 y5 y6 y7 y8 y9 y10 y0 y1)]])⟩]))) else none else none else none else some (false, (Ex.normal, ([V.at A.undef, V.at A.undef, V.at (A.sl 0)], [⟨true, OC.rows [K.f FloatKind.f32, K.f FloatKind.f32, K.f FloatKind.f32] y11⟩])))) := by kernel_rfl
    unfold loopOf
    rw [h0]
    unfold Pure.spec_RunFalls_L0
    cases (Decidable.decide (y3 < y2)) with
    | true =>
      cases (Pure.spec_l06Hit_ok F y4 y5 y6 y7 y8 y9 y10 y0 y1) with
      | true =>
        cases (Pure.spec_l06Hit_1 F y4 y5 y6 y7 y8 y9 y10 y0 y1) with
        | true =>
          cases (Pure.spec_l06Bounce_ok F y4 y5 y6 y7 (Pure.spec_l06Fly F y4 y5 y6 y7 y8 y9 y10 (Pure.spec_l06Hit F y4 y5 y6 y7 y8 y9 y10 y0 y1)) (Pure.spec_l06Fly_1 F y4 y5 y6 y7 y8 y9 y10 (Pure.spec_l06Hit F y4 y5 y6 y7 y8 y9 y10 y0 y1)) (Pure.spec_l06Fly_2 F y4 y5 y6 y7 y8 y9 y10 (Pure.spec_l06Hit F y4 y5 y6 y7 y8 y9 y10 y0 y1))) with
          | true =>
            cases (Pure.spec_l06Fall F (Pure.spec_l06High F y4 y5 y6 y7 (Pure.spec_l06Fly_2 F y4 y5 y6 y7 y8 y9 y10 (Pure.spec_l06Hit F y4 y5 y6 y7 y8 y9 y10 y0 y1))) (Pure.spec_l06Bounce F y4 y5 y6 y7 (Pure.spec_l06Fly F y4 y5 y6 y7 y8 y9 y10 (Pure.spec_l06Hit F y4 y5 y6 y7 y8 y9 y10 y0 y1)) (Pure.spec_l06Fly_1 F y4 y5 y6 y7 y8 y9 y10 (Pure.spec_l06Hit F y4 y5 y6 y7 y8 y9 y10 y0 y1)) (Pure.spec_l06Fly_2 F y4 y5 y6 y7 y8 y9 y10 (Pure.spec_l06Hit F y4 y5 y6 y7 y8 y9 y10 y0 y1))) (Pure.spec_l06Fly_2 F y4 y5 y6 y7 y8 y9 y10 (Pure.spec_l06Hit F y4 y5 y6 y7 y8 y9 y10 y0 y1))) with
            | true =>
              cases (Decidable.decide ((Nat.succ (List.length y11)) ≤ 1073741824)) with
              | true =>
                exact ih _ _ _ _ _
              | false =>
                intro h; exact absurd h Bool.false_ne_true
            | false =>
              intro _; rfl
          | false =>
            intro h; exact absurd h Bool.false_ne_true
        | false =>
          intro _; rfl
      | false =>
        intro h; exact absurd h Bool.false_ne_true
    | false =>
      intro _; rfl
theorem t_spec_RunFalls_L0 : SmTo Try.prog 0 51 (S_spec_RunFalls_L0 real) 0 (.loop (loopB 0 (codeOf Try.f54))) := by
  refine smTo_ev (cl := [(81, c_spec_l06Can real), (93, c_spec_l00In real), (82, c_spec_l06Hit real), (96, c_spec_l06Fly real), (73, c_spec_l06Bounce real), (74, c_spec_l06Fall real)]) (ef := []) (sm := []) (un := 0) prog_ok (allOK_cons ok_spec_l06Can (allOK_cons ok_spec_l00In (allOK_cons ok_spec_l06Hit (allOK_cons ok_spec_l06Fly (allOK_cons ok_spec_l06Bounce (allOK_cons ok_spec_l06Fall allOK_nil)))))) smL_nil ?_
  intro vals hp q r h hq
  unfold S_spec_RunFalls_L0 at h
  dsimp only at h
  split at h
  · rename_i y0 y1 y2 y3 y4 y5 y6 y7 y8 y9 y10 y11
    obtain rfl := Option.some.inj h
    have h1 := hq
    unfold resOf at h1
    rw [chk_some] at h1
    exact ⟨_, (l_spec_RunFalls_L0 real y0 y1 y2 y4 y5 y6 y7 _ y3 y8 y9 y10 y11 h1.1).trans hq⟩
  · cases h
def Pure.spec_RunFalls (F : FOps) (x0 : Int) (x1 : Int) (x2 : Int) (x3 : Int) (x4 : Int) (x5 : Int) (x6 : Int) (x7 : Int) (x8 : Int) (x9 : Int) : Bool := bif Pure.spec_l06Can F x0 x1 x2 x3 x4 x5 x6 x7 x8 then bif Pure.spec_l00In F x9 1 32 then bif Prod.fst (Prod.snd (Pure.spec_RunFalls_L0 F x7 x8 x9 x0 x1 x2 x3 (Int.toNat ((x9 - 0) + 1)) 0 x4 x5 x6 [])) then false else true else false else false
def Pure.spec_RunFalls_1 (F : FOps) (x0 : Int) (x1 : Int) (x2 : Int) (x3 : Int) (x4 : Int) (x5 : Int) (x6 : Int) (x7 : Int) (x8 : Int) (x9 : Int) : List (List Int) := bif Pure.spec_l06Can F x0 x1 x2 x3 x4 x5 x6 x7 x8 then bif Pure.spec_l00In F x9 1 32 then bif Prod.fst (Prod.snd (Pure.spec_RunFalls_L0 F x7 x8 x9 x0 x1 x2 x3 (Int.toNat ((x9 - 0) + 1)) 0 x4 x5 x6 [])) then [] else Prod.fst (Prod.snd (Prod.snd (Pure.spec_RunFalls_L0 F x7 x8 x9 x0 x1 x2 x3 (Int.toNat ((x9 - 0) + 1)) 0 x4 x5 x6 []))) else [] else []
def Pure.spec_RunFalls_ok (F : FOps) (x0 : Int) (x1 : Int) (x2 : Int) (x3 : Int) (x4 : Int) (x5 : Int) (x6 : Int) (x7 : Int) (x8 : Int) (x9 : Int) : Bool := bif Pure.spec_l06Can F x0 x1 x2 x3 x4 x5 x6 x7 x8 then bif Pure.spec_l00In F x9 1 32 then Prod.fst (Pure.spec_RunFalls_L0 F x7 x8 x9 x0 x1 x2 x3 (Int.toNat ((x9 - 0) + 1)) 0 x4 x5 x6 []) else true else true
def c_spec_RunFalls (F : FOps) : Con
  | [V.agg [A.fl FloatKind.f32 x0, A.fl FloatKind.f32 x1, A.fl FloatKind.f32 x2, A.fl FloatKind.f32 x3], V.agg [A.fl FloatKind.f32 x4, A.fl FloatKind.f32 x5, A.fl FloatKind.f32 x6], V.at (A.fl FloatKind.f32 x7), V.at (A.int IntKind.i64 x8), V.at (A.int IntKind.i64 x9)], [] => some (Pure.spec_RunFalls_ok F x0 x1 x2 x3 x4 x5 x6 x7 x8 x9, ⟨V.tup [(false, [A.sl 0]), (false, [A.bool (Pure.spec_RunFalls F x0 x1 x2 x3 x4 x5 x6 x7 x8 x9)])], none, [⟨true, OC.rows [K.f FloatKind.f32, K.f FloatKind.f32, K.f FloatKind.f32] (Pure.spec_RunFalls_1 F x0 x1 x2 x3 x4 x5 x6 x7 x8 x9)⟩]⟩)
  | _, _ => none
theorem e_spec_RunFalls (F : FOps) (x0 : Int) (x1 : Int) (x2 : Int) (x3 : Int) (x4 : Int) (x5 : Int) (x6 : Int) (x7 : Int) (x8 : Int) (x9 : Int) : Pure.spec_RunFalls_ok F x0 x1 x2 x3 x4 x5 x6 x7 x8 x9 = true → evFn (cxS F tyl [(81, c_spec_l06Can F), (93, c_spec_l00In F), (82, c_spec_l06Hit F), (96, c_spec_l06Fly F), (73, c_spec_l06Bounce F), (74, c_spec_l06Fall F)] [] [(0, S_spec_RunFalls_L0 F)] 0) Try.f54 false [V.agg [A.fl FloatKind.f32 x0, A.fl FloatKind.f32 x1, A.fl FloatKind.f32 x2, A.fl FloatKind.f32 x3], V.agg [A.fl FloatKind.f32 x4, A.fl FloatKind.f32 x5, A.fl FloatKind.f32 x6], V.at (A.fl FloatKind.f32 x7), V.at (A.int IntKind.i64 x8), V.at (A.int IntKind.i64 x9)] [] = some ⟨V.tup [(false, [A.sl 0]), (false, [A.bool (Pure.spec_RunFalls F x0 x1 x2 x3 x4 x5 x6 x7 x8 x9)])], none, [⟨true, OC.rows [K.f FloatKind.f32, K.f FloatKind.f32, K.f FloatKind.f32] (Pure.spec_RunFalls_1 F x0 x1 x2 x3 x4 x5 x6 x7 x8 x9)⟩]⟩ := by
  have h0 : evFn (cxS F tyl [(81, c_spec_l06Can F), (93, c_spec_l00In F), (82, c_spec_l06Hit F), (96, c_spec_l06Fly F), (73, c_spec_l06Bounce F), (74, c_spec_l06Fall F)] [] [(0, S_spec_RunFalls_L0 F)] 0) Try.f54 false [V.agg [A.fl FloatKind.f32 x0, A.fl FloatKind.f32 x1, A.fl FloatKind.f32 x2, A.fl FloatKind.f32 x3], V.agg [A.fl FloatKind.f32 x4, A.fl FloatKind.f32 x5, A.fl FloatKind.f32 x6], V.at (A.fl FloatKind.f32 x7), V.at (A.int IntKind.i64 x8), V.at (A.int IntKind.i64 x9)] [] = bif Bool.not (Pure.spec_l06Can F x0 x1 x2 x3 x4 x5 x6 x7 x8) then some ⟨V.tup [(false, [A.sl 0]), (false, [A.bool false])], none, [⟨true, OC.rows [K.f FloatKind.f32, K.f FloatKind.f32, K.f FloatKind.f32] []⟩]⟩ else bif Bool.not (Pure.spec_l00In F x9 1 32) then some ⟨V.tup [(false, [A.sl 0]), (false, [A.bool false])], none, [⟨true, OC.rows [K.f FloatKind.f32, K.f FloatKind.f32, K.f FloatKind.f32] []⟩]⟩ else bif Prod.fst (Pure.spec_RunFalls_L0 F x7 x8 x9 x0 x1 x2 x3 (Int.toNat ((x9 - 0) + 1)) 0 x4 x5 x6 []) then bif Prod.fst (Prod.snd (Pure.spec_RunFalls_L0 F x7 x8 x9 x0 x1 x2 x3 (Int.toNat ((x9 - 0) + 1)) 0 x4 x5 x6 [])) then some ⟨V.tup [(false, [A.sl 0]), (false, [A.bool false])], none, [⟨true, OC.rows [K.f FloatKind.f32, K.f FloatKind.f32, K.f FloatKind.f32] []⟩]⟩ else some ⟨V.tup [(false, [A.sl 0]), (false, [A.bool true])], none, [⟨true, OC.rows [K.f FloatKind.f32, K.f FloatKind.f32, K.f FloatKind.f32] (Prod.fst (Prod.snd (Prod.snd (Pure.spec_RunFalls_L0 F x7 x8 x9 x0 x1 x2 x3 (Int.toNat ((x9 - 0) + 1)) 0 x4 x5 x6 []))))⟩]⟩ else none := by kernel_rfl
  rw [h0]
  unfold Pure.spec_RunFalls Pure.spec_RunFalls_1 Pure.spec_RunFalls_ok
  cases (Pure.spec_l06Can F x0 x1 x2 x3 x4 x5 x6 x7 x8) with
  | true =>
    cases (Pure.spec_l00In F x9 1 32) with
    | true =>
      cases (Prod.fst (Pure.spec_RunFalls_L0 F x7 x8 x9 x0 x1 x2 x3 (Int.toNat ((x9 - 0) + 1)) 0 x4 x5 x6 [])) with
      | true =>
        cases (Prod.fst (Prod.snd (Pure.spec_RunFalls_L0 F x7 x8 x9 x0 x1 x2 x3 (Int.toNat ((x9 - 0) + 1)) 0 x4 x5 x6 []))) with
        | true =>
          intro _; rfl
        | false =>
          intro _; rfl
      | false =>
        intro h; exact absurd h Bool.false_ne_true
    | false =>
      intro _; rfl
  | false =>
    intro _; rfl
theorem ok_spec_RunFalls : CallOK Try.prog 54 (c_spec_RunFalls real) := by
  refine callOK_of fun args h ret hc => ?_
  unfold c_spec_RunFalls at hc
  split at hc
  · rename_i x0 x1 x2 x3 x4 x5 x6 x7 x8 x9
    obtain ⟨hok, rfl⟩ := some_ret hc
    exact holds_ev prog_ok (allOK_cons ok_spec_l06Can (allOK_cons ok_spec_l00In (allOK_cons ok_spec_l06Hit (allOK_cons ok_spec_l06Fly (allOK_cons ok_spec_l06Bounce (allOK_cons ok_spec_l06Fall allOK_nil)))))) Try.func54 rfl rfl (smL_cons (body := .loop (loopB 0 (codeOf Try.f54))) (by kernel_rfl) t_spec_RunFalls_L0 smL_nil) rfl (e_spec_RunFalls real x0 x1 x2 x3 x4 x5 x6 x7 x8 x9 hok)
  · cases hc
def Pure.impl_RunFalls_L0 (F : FOps) (y0 : Int) (y1 : Int) (y2 : Int) (y4 : Int) (y5 : Int) (y6 : Int) (y7 : Int) : Nat → Int → Int → Int → Int → (List (List Int)) → (Bool × Bool × (List (List Int)) × (List (List Int)))
  | 0, _, _, _, _, _ => (false, false, [], [])
  | n + 1, y3, y8, y9, y10, y11 => bif (Decidable.decide (y3 < y2)) then (bif (Pure.impl_NextHit_ok F y4 y5 y6 y7 y8 y9 y10 y0 y1) then (bif (Pure.impl_FlyFall_ok F y4 y5 y6 y7 y8 y9 y10 (Pure.impl_NextHit F y4 y5 y6 y7 y8 y9 y10 y0 y1)) then (bif (Pure.impl_HitFall_ok F y4 y5 y6 y7 (Pure.impl_FlyFall F y4 y5 y6 y7 y8 y9 y10 (Pure.impl_NextHit F y4 y5 y6 y7 y8 y9 y10 y0 y1)) (Pure.impl_FlyFall_1 F y4 y5 y6 y7 y8 y9 y10 (Pure.impl_NextHit F y4 y5 y6 y7 y8 y9 y10 y0 y1)) (Pure.impl_FlyFall_2 F y4 y5 y6 y7 y8 y9 y10 (Pure.impl_NextHit F y4 y5 y6 y7 y8 y9 y10 y0 y1))) then (bif (Pure.impl_NextHit_1 F y4 y5 y6 y7 y8 y9 y10 y0 y1) then (bif (Pure.impl_FlyFall_3 F y4 y5 y6 y7 y8 y9 y10 (Pure.impl_NextHit F y4 y5 y6 y7 y8 y9 y10 y0 y1)) then (bif (Pure.impl_HitFall_3 F y4 y5 y6 y7 (Pure.impl_FlyFall F y4 y5 y6 y7 y8 y9 y10 (Pure.impl_NextHit F y4 y5 y6 y7 y8 y9 y10 y0 y1)) (Pure.impl_FlyFall_1 F y4 y5 y6 y7 y8 y9 y10 (Pure.impl_NextHit F y4 y5 y6 y7 y8 y9 y10 y0 y1)) (Pure.impl_FlyFall_2 F y4 y5 y6 y7 y8 y9 y10 (Pure.impl_NextHit F y4 y5 y6 y7 y8 y9 y10 y0 y1))) then (bif (Decidable.decide ((Nat.succ (List.length y11)) ≤ 1073741824)) then (Pure.impl_RunFalls_L0 F y0 y1 y2 y4 y5 y6 y7 n (IntKind.wrap IntKind.i64 (y3 + 1)) (Pure.impl_HitFall F y4 y5 y6 y7 (Pure.impl_FlyFall F y4 y5 y6 y7 y8 y9 y10 (Pure.impl_NextHit F y4 y5 y6 y7 y8 y9 y10 y0 y1)) (Pure.impl_FlyFall_1 F y4 y5 y6 y7 y8 y9 y10 (Pure.impl_NextHit F y4 y5 y6 y7 y8 y9 y10 y0 y1)) (Pure.impl_FlyFall_2 F y4 y5 y6 y7 y8 y9 y10 (Pure.impl_NextHit F y4 y5 y6 y7 y8 y9 y10 y0 y1))) (Pure.impl_HitFall_1 F y4 y5 y6 y7 (Pure.impl_FlyFall F y4 y5 y6 y7 y8 y9 y10 (Pure.impl_NextHit F y4 y5 y6 y7 y8 y9 y10 y0 y1)) (Pure.impl_FlyFall_1 F y4 y5 y6 y7 y8 y9 y10 (Pure.impl_NextHit F y4 y5 y6 y7 y8 y9 y10 y0 y1)) (Pure.impl_FlyFall_2 F y4 y5 y6 y7 y8 y9 y10 (Pure.impl_NextHit F y4 y5 y6 y7 y8 y9 y10 y0 y1))) (Pure.impl_HitFall_2 F y4 y5 y6 y7 (Pure.impl_FlyFall F y4 y5 y6 y7 y8 y9 y10 (Pure.impl_NextHit F y4 y5 y6 y7 y8 y9 y10 y0 y1)) (Pure.impl_FlyFall_1 F y4 y5 y6 y7 y8 y9 y10 (Pure.impl_NextHit F y4 y5 y6 y7 y8 y9 y10 y0 y1)) (Pure.impl_FlyFall_2 F y4 y5 y6 y7 y8 y9 y10 (Pure.impl_NextHit F y4 y5 y6 y7 y8 y9 y10 y0 y1))) (y11 ++ [[Pure.impl_HitFall F y4 y5 y6 y7 (Pure.impl_FlyFall F y4 y5 y6 y7 y8 y9 y10 (Pure.impl_NextHit F y4 y5 y6 y7 y8 y9 y10 y0 y1)) (Pure.impl_FlyFall_1 F y4 y5 y6 y7 y8 y9 y10 (Pure.impl_NextHit F y4 y5 y6 y7 y8 y9 y10 y0 y1)) (Pure.impl_FlyFall_2 F y4 y5 y6 y7 y8 y9 y10 (Pure.impl_NextHit F y4 y5 y6 y7 y8 y9 y10 y0 y1)), Pure.impl_HitFall_1 F y4 y5 y6 y7 (Pure.impl_FlyFall F y4 y5 y6 y7 y8 y9 y10 (Pure.impl_NextHit F y4 y5 y6 y7 y8 y9 y10 y0 y1)) (Pure.impl_FlyFall_1 F y4 y5 y6 y7 y8 y9 y10 (Pure.impl_NextHit F y4 y5 y6 y7 y8 y9 y10 y0 y1)) (Pure.impl_FlyFall_2 F y4 y5 y6 y7 y8 y9 y10 (Pure.impl_NextHit F y4 y5 y6 y7 y8 y9 y10 y0 y1)), Pure.impl_HitFall_2 F y4 y5 y6 y7 (Pure.impl_FlyFall F y4 y5 y6 y7 y8 y9 y10 (Pure.impl_NextHit F y4 y5 y6 y7 y8 y9 y10 y0 y1)) (Pure.impl_FlyFall_1 F y4 y5 y6 y7 y8 y9 y10 (Pure.impl_NextHit F y4 y5 y6 y7 y8 y9 y10 y0 y1)) (Pure.impl_FlyFall_2 F y4 y5 y6 y7 y8 y9 y10 (Pure.impl_NextHit F y4 y5 y6 y7 y8 y9 y10 y0 y1))]])) else ((false, false, [], []))) else ((true, true, [], y11))) else ((true, true, [], y11))) else ((true, true, [], y11))) else ((false, false, [], []))) else ((false, false, [], []))) else ((false, false, [], []))) else ((true, false, y11, []))
def R_impl_RunFalls_L0 (r : (Bool × Bool × (List (List Int)) × (List (List Int)))) : Bool × Bool × (Ex × List V × List Ob) × (Ex × List V × List Ob) := ((r).1, (r).2.1, (Ex.normal, [V.at A.undef, V.at A.undef, V.at (A.sl 0)], [⟨true, OC.rows [K.f FloatKind.f32, K.f FloatKind.f32, K.f FloatKind.f32] (r).2.2.1⟩]), (Ex.ret, [V.at A.nil, V.at (A.bool false), V.at (A.sl 0)], [⟨true, OC.rows [K.f FloatKind.f32, K.f FloatKind.f32, K.f FloatKind.f32] (r).2.2.2⟩]))
def S_impl_RunFalls_L0 (F : FOps) : Sm := ⟨[2, 3, 5, 6, 12, 29, 30], [22, 2, 0, 0, 42, 2, 2], [10, 11, 12], fun vals hp => match vals, hp with
  | [V.at (A.fl FloatKind.f32 y0), V.at (A.int IntKind.i64 y1), V.at (A.ptr 0 0 0), V.at (A.ptr 1 0 0), V.at (A.sl 2), V.at (A.int IntKind.i64 y2), V.at (A.int IntKind.i64 y3)], [⟨true, OC.box [A.fl FloatKind.f32 y4, A.fl FloatKind.f32 y5, A.fl FloatKind.f32 y6, A.fl FloatKind.f32 y7]⟩, ⟨true, OC.box [A.fl FloatKind.f32 y8, A.fl FloatKind.f32 y9, A.fl FloatKind.f32 y10]⟩, ⟨true, OC.rows [K.f FloatKind.f32, K.f FloatKind.f32, K.f FloatKind.f32] y11⟩] => some (R_impl_RunFalls_L0  (Pure.impl_RunFalls_L0 F y0 y1 y2 y4 y5 y6 y7 (y2 - y3 + 1).toNat y3 y8 y9 y10 y11))
  | _, _ => none⟩
theorem l_impl_RunFalls_L0 (F : FOps) (y0 : Int) (y1 : Int) (y2 : Int) (y4 : Int) (y5 : Int) (y6 : Int) (y7 : Int) : ∀ (fuel : Nat) (y3 : Int) (y8 : Int) (y9 : Int) (y10 : Int) (y11 : List (List Int)), (Pure.impl_RunFalls_L0 F y0 y1 y2 y4 y5 y6 y7 fuel y3 y8 y9 y10 y11).1 = true → loopOf (cxS F tyl [(66, c_impl_fallOk F), (68, c_impl_in F), (23, c_impl_NextHit F), (25, c_impl_FlyFall F), (26, c_impl_HitFall F)] [] [] 0) 0 70 0 [2, 3, 5, 6, 12, 29, 30] [22, 2, 0, 0, 42, 2, 2] [10, 11, 12] (loopB 0 (codeOf Try.f27)) fuel [V.at (A.fl FloatKind.f32 y0), V.at (A.int IntKind.i64 y1), V.at (A.ptr 0 0 0), V.at (A.ptr 1 0 0), V.at (A.sl 2), V.at (A.int IntKind.i64 y2), V.at (A.int IntKind.i64 y3)] [⟨true, OC.box [A.fl FloatKind.f32 y4, A.fl FloatKind.f32 y5, A.fl FloatKind.f32 y6, A.fl FloatKind.f32 y7]⟩, ⟨true, OC.box [A.fl FloatKind.f32 y8, A.fl FloatKind.f32 y9, A.fl FloatKind.f32 y10]⟩, ⟨true, OC.rows [K.f FloatKind.f32, K.f FloatKind.f32, K.f FloatKind.f32] y11⟩] = resOf (R_impl_RunFalls_L0  (Pure.impl_RunFalls_L0 F y0 y1 y2 y4 y5 y6 y7 fuel y3 y8 y9 y10 y11)) := by
  intro fuel
  induction fuel with
  | zero => intro y3 y8 y9 y10 y11 h; exact absurd h Bool.false_ne_true
  | succ n ih =>
    intro y3 y8 y9 y10 y11
    have h0 : roundOf (cxS F tyl [(66, c_impl_fallOk F), (68, c_impl_in F), (23, c_impl_NextHit F), (25, c_impl_FlyFall F), (26, c_impl_HitFall F)] [] [] 0) 0 70 0 [2, 3, 5, 6, 12, 29, 30] [22, 2, 0, 0, 42, 2, 2] [10, 11, 12] (loopB 0 (codeOf Try.f27)) [V.at (A.fl FloatKind.f32 y0), V.at (A.int IntKind.i64 y1), V.at (A.ptr 0 0 0), V.at (A.ptr 1 0 0), V.at (A.sl 2), V.at (A.int IntKind.i64 y2), V.at (A.int IntKind.i64 y3)] [⟨true, OC.box [A.fl FloatKind.f32 y4, A.fl FloatKind.f32 y5, A.fl FloatKind.f32 y6, A.fl FloatKind.f32 y7]⟩, ⟨true, OC.box [A.fl FloatKind.f32 y8, A.fl FloatKind.f32 y9, A.fl FloatKind.f32 y10]⟩, ⟨true, OC.rows [K.f FloatKind.f32, K.f FloatKind.f32, K.f FloatKind.f32] y11⟩] = (bif Decidable.decide (y3 < y2) then bif Pure.impl_NextHit_ok F y4 y5 y6 y7 y8 y9 y10 y0 y1 then bif Pure.impl_FlyFall_ok F y4 y5 y6 y7 y8 y9 y10 (Pure.impl_NextHit F y4 y5 y6 y7 y8 y9 y10 y0 y1) then bif Pure.impl_HitFall_ok F y4 y5 y6 y7 (Pure.impl_FlyFall F y4 y5 y6 y7 y8 y9 y10 (Pure.impl_NextHit F y4 y5 y6 y7 y8 y9 y10 y0 y1)) (Pure.impl_FlyFall_1 F y4 y5 y6 y7 y8 y9 y10 (Pure.impl_NextHit F y4 y5 y6 y7 y8 y9 y10 y0 y1)) (Pure.impl_FlyFall_2 F y4 y5 y6 y7 y8 y9 y10 (Pure.impl_NextHit F y4 y5 y6 y7 y8 y9 y10 y0 y1)) then bif Bool.not (Pure.impl_NextHit_1 F y4 y5 y6 y7 y8 y9 y10 y0 y1) then some (false, (Ex.ret, ([V.at A.nil, V.at (A.bool false), V.at (A.sl 0)], [⟨true, OC.rows [K.f FloatKind.f32, K.f FloatKind.f32, K.f FloatKind.f32] y11⟩]))) else bif Bool.not (Pure.impl_FlyFall_3 F y4 y5 y6 y7 y8 y9 y10 (Pure.impl_NextHit F y4 y5 y6 y7 y8 y9 y10 y0 y1)) then some (false, (Ex.ret, ([V.at A.nil, V.at (A.bool false), V.at (A.sl 0)], [⟨true, OC.rows [K.f FloatKind.f32, K.f FloatKind.f32, K.f FloatKind.f32] y11⟩]))) else bif Bool.not (Pure.impl_HitFall_3 F y4 y5 y6 y7 (Pure.impl_FlyFall F y4 y5 y6 y7 y8 y9 y10 (Pure.impl_NextHit F y4 y5 y6 y7 y8 y9 y10 y0 y1)) (Pure.impl_FlyFall_1 F y4 y5 y6 y7 y8 y9 y10 (Pure.impl_NextHit F y4 y5 y6 y7 y8 y9 y10 y0 y1)) (Pure.impl_FlyFall_2 F y4 y5 y6 y7 y8 y9 y10 (Pure.impl_NextHit F y4 y5 y6 y7 y8 y9 y10 y0 y1))) then some (false, (Ex.ret, ([V.at A.nil, V.at (A.bool false), V.at (A.sl 0)], [⟨true, OC.rows [K.f FloatKind.f32, K.f FloatKind.f32, K.f FloatKind.f32] y11⟩]))) else bif Decidable.decide ((Nat.succ (List.length y11)) ≤ 1073741824) then some (true, (Ex.normal, ([V.at (A.fl FloatKind.f32 y0), V.at (A.int IntKind.i64 y1), V.at (A.ptr 0 0 0), V.at (A.ptr 1 0 0), V.at (A.sl 2), V.at (A.int IntKind.i64 y2), V.at (A.int IntKind.i64 (IntKind.wrap IntKind.i64 (y3 + 1)))], [⟨true, OC.box [A.fl FloatKind.f32 y4, A.fl FloatKind.f32 y5, A.fl FloatKind.f32 y6, A.fl FloatKind.f32 y7]⟩, ⟨true, OC.box [A.fl FloatKind.f32 (Pure.impl_HitFall F y4 y5 y6 y7 (Pure.impl_FlyFall F y4 y5 y6 y7 y8 y9 y10 (Pure.impl_NextHit F y4 y5 y6 y7 y8 y9 y10 y0 y1)) (Pure.impl_FlyFall_1 F y4 y5 y6 y7 y8 y9 y10 (Pure.impl_NextHit F y4 y5 y6 y7 y8 y9 y10 y0 y1)) (Pure.impl_FlyFall_2 F y4 y5 y6 y7 y8 y9 y10 (Pure.impl_NextHit F y4 y5 y6 y7 y8 y9 y10 y0 y1))), A.fl FloatKind.f32 (Pure.impl_HitFall_1 F y4 y5 y6 y7 (Pure.impl_FlyFall F y4 y5 y6 y7 y8 y9 y10 (Pure.impl_NextHit F y4 y5 y6 y7 y8 y9 y10 y0 y1)) (Pure.impl_FlyFall_1 F y4 y5 y6 y7 y8 y9 y10 (Pure.impl_NextHit F y4 y5 y6 y7 y8 y9 y10 y0 y1)) (Pure.impl_FlyFall_2 F y4 y5 y6 y7 y8 y9 y10 (Pure.impl_NextHit F y4 y5 y6 y7 y8 y9 y10 y0 y1))), A.fl FloatKind.f32 (Pure.impl_HitFall_2 F y4 y5 y6 y7 (Pure.impl_FlyFall F y4 y5 y6 y7 y8 y9 y10 (Pure.impl_NextHit F y4 y5 y6 y7 y8 y9 y10 y0 y1)) (Pure.impl_FlyFall_1 F y4 y5 y6 y7 y8 y9 y10 (Pure.impl_NextHit F y4 y5 y6 y7 y8 y9 y10 y0 y1)) (Pure.impl_FlyFall_2 F y4 y5 y6 y7 y8 y9 y10 (Pure.impl_NextHit F y4 y5 y6 y7 y8 y9 y10 y0 y1)))]⟩, ⟨true, OC.rows [K.f FloatKind.f32, K.f FloatKind.f32, K.f FloatKind.f32] (y11 ++ [[Pure.impl_HitFall F y4 y5 y6 y7 (Pure.impl_FlyFall F y4 y5 y6 y7 y8 y9 y10 (Pure.impl_NextHit F y4 y5 y6 y7 y8 y9 y10 y0 y1)) (Pure.impl_FlyFall_1 F y4 y5 y6 y7 y8 y9 y10 (Pure.impl_NextHit F y4 y5 y6 y7 y8 y9 y10 y0 y1)) (Pure.impl_FlyFall_2 F y4 y5 y6 y7 y8 y9 y10 (Pure.impl_NextHit F y4 y5 y6 y7 y8 y9 y10 y0 y1)), Pure.impl_HitFall_1 F y4 y5 y6 y7 (Pure.impl_FlyFall F y4 y5 y6 y7 y8 y9 y10 (Pure.impl_NextHit F y4 y5 y6 y7 y8 y9 y10 y0 y1)) (Pure.impl_FlyFall_1 F y4 y5 y6 y7 y8 y9 y10 (Pure.impl_NextHit F y4 y5 y6 y7 y8 y9 y10 y0 y1)) (Pure.impl_FlyFall_2 F y4 y5 y6 y7 y8 y9 y10 (Pure.impl_NextHit F y4 y5 y6 y7 y8 y9 y10 y0 y1)), Pure.impl_HitFall_2 F y4 y5 y6 y7 (Pure.impl_FlyFall F y4 y5 y6 y7 y8 y9 y10 (Pure.impl_NextHit F y4 y5 y6 y7 y8 y9 y10 y0 y1)) (Pure.impl_FlyFall_1 F y4 y5 y6 y7 y8 y9 y10 (Pure.impl_NextHit F y4 y5 y6 y7 y8 y9 y10 y0 y1)) (Pure.impl_FlyFall_2 F y4 y5 y6 y7 y8 y9 y10 (Pure.impl_NextHit F y4 y5 y6 y7 y8 y9 y10 y0 y1))]])⟩]))) else none else none else none else none else some (false, (Ex.normal, ([V.at A.undef, V.at A.undef, V.at (A.sl 0)], [⟨true, OC.rows [K.f FloatKind.f32, K.f FloatKind.f32, K.f FloatKind.f32] y11⟩])))) := by kernel_rfl
    unfold loopOf
    rw [h0]
    unfold Pure.impl_RunFalls_L0
    cases (Decidable.decide (y3 < y2)) with
    | true =>
      cases (Pure.impl_NextHit_ok F y4 y5 y6 y7 y8 y9 y10 y0 y1) with
      | true =>
        cases (Pure.impl_FlyFall_ok F y4 y5 y6 y7 y8 y9 y10 (Pure.impl_NextHit F y4 y5 y6 y7 y8 y9 y10 y0 y1)) with
        | true =>
          cases (Pure.impl_HitFall_ok F y4 y5 y6 y7 (Pure.impl_FlyFall F y4 y5 y6 y7 y8 y9 y10 (Pure.impl_NextHit F y4 y5 y6 y7 y8 y9 y10 y0 y1)) (Pure.impl_FlyFall_1 F y4 y5 y6 y7 y8 y9 y10 (Pure.impl_NextHit F y4 y5 y6 y7 y8 y9 y10 y0 y1)) (Pure.impl_FlyFall_2 F y4 y5 y6 y7 y8 y9 y10 (Pure.impl_NextHit F y4 y5 y6 y7 y8 y9 y10 y0 y1))) with
          | true =>
            cases (Pure.impl_NextHit_1 F y4 y5 y6 y7 y8 y9 y10 y0 y1) with
            | true =>
              cases (Pure.impl_FlyFall_3 F y4 y5 y6 y7 y8 y9 y10 (Pure.impl_NextHit F y4 y5 y6 y7 y8 y9 y10 y0 y1)) with
              | true =>
                cases (Pure.impl_HitFall_3 F y4 y5 y6 y7 (Pure.impl_FlyFall F y4 y5 y6 y7 y8 y9 y10 (Pure.impl_NextHit F y4 y5 y6 y7 y8 y9 y10 y0 y1)) (Pure.impl_FlyFall_1 F y4 y5 y6 y7 y8 y9 y10 (Pure.impl_NextHit F y4 y5 y6 y7 y8 y9 y10 y0 y1)) (Pure.impl_FlyFall_2 F y4 y5 y6 y7 y8 y9 y10 (Pure.impl_NextHit F y4 y5 y6 y7 y8 y9 y10 y0 y1))) with
                | true =>
                  cases (Decidable.decide ((Nat.succ (List.length y11)) ≤ 1073741824)) with
                  | true =>
                    exact ih _ _ _ _ _
                  | false =>
                    intro h; exact absurd h Bool.false_ne_true
                | false =>
                  intro _; rfl
              | false =>
                intro _; rfl
            | false =>
              intro _; rfl
          | false =>
            intro h; exact absurd h Bool.false_ne_true
        | false =>
          intro h; exact absurd h Bool.false_ne_true
      | false =>
        intro h; exact absurd h Bool.false_ne_true
    | false =>
      intro _; rfl
theorem t_impl_RunFalls_L0 : SmTo Try.prog 0 70 (S_impl_RunFalls_L0 real) 0 (.loop (loopB 0 (codeOf Try.f27))) := by
  refine smTo_ev (cl := [(66, c_impl_fallOk real), (68, c_impl_in real), (23, c_impl_NextHit real), (25, c_impl_FlyFall real), (26, c_impl_HitFall real)]) (ef := []) (sm := []) (un := 0) prog_ok (allOK_cons ok_impl_fallOk (allOK_cons ok_impl_in (allOK_cons ok_impl_NextHit (allOK_cons ok_impl_FlyFall (allOK_cons ok_impl_HitFall allOK_nil))))) smL_nil ?_
  intro vals hp q r h hq
  unfold S_impl_RunFalls_L0 at h
  dsimp only at h
  split at h
  · rename_i y0 y1 y2 y3 y4 y5 y6 y7 y8 y9 y10 y11
    obtain rfl := Option.some.inj h
    have h1 := hq
    unfold resOf at h1
    rw [chk_some] at h1
    exact ⟨_, (l_impl_RunFalls_L0 real y0 y1 y2 y4 y5 y6 y7 _ y3 y8 y9 y10 y11 h1.1).trans hq⟩
  · cases h
def Pure.impl_RunFalls (F : FOps) (x0 : Int) (x1 : Int) (x2 : Int) (x3 : Int) (x4 : Int) (x5 : Int) (x6 : Int) (x7 : Int) (x8 : Int) (x9 : Int) : Bool := bif Pure.impl_fallOk F x0 x1 x2 x3 x4 x5 x6 then bif Pure.impl_in F x9 1 32 then bif Prod.fst (Prod.snd (Pure.impl_RunFalls_L0 F x7 x8 x9 x0 x1 x2 x3 (Int.toNat ((x9 - 0) + 1)) 0 x4 x5 x6 [])) then false else true else false else false
def Pure.impl_RunFalls_1 (F : FOps) (x0 : Int) (x1 : Int) (x2 : Int) (x3 : Int) (x4 : Int) (x5 : Int) (x6 : Int) (x7 : Int) (x8 : Int) (x9 : Int) : List (List Int) := bif Pure.impl_fallOk F x0 x1 x2 x3 x4 x5 x6 then bif Pure.impl_in F x9 1 32 then bif Prod.fst (Prod.snd (Pure.impl_RunFalls_L0 F x7 x8 x9 x0 x1 x2 x3 (Int.toNat ((x9 - 0) + 1)) 0 x4 x5 x6 [])) then [] else Prod.fst (Prod.snd (Prod.snd (Pure.impl_RunFalls_L0 F x7 x8 x9 x0 x1 x2 x3 (Int.toNat ((x9 - 0) + 1)) 0 x4 x5 x6 []))) else [] else []
def Pure.impl_RunFalls_ok (F : FOps) (x0 : Int) (x1 : Int) (x2 : Int) (x3 : Int) (x4 : Int) (x5 : Int) (x6 : Int) (x7 : Int) (x8 : Int) (x9 : Int) : Bool := bif Pure.impl_fallOk_ok F x0 x1 x2 x3 x4 x5 x6 then bif Pure.impl_fallOk F x0 x1 x2 x3 x4 x5 x6 then bif Pure.impl_in F x9 1 32 then Prod.fst (Pure.impl_RunFalls_L0 F x7 x8 x9 x0 x1 x2 x3 (Int.toNat ((x9 - 0) + 1)) 0 x4 x5 x6 []) else true else true else false
def c_impl_RunFalls (F : FOps) : Con
  | [V.agg [A.fl FloatKind.f32 x0, A.fl FloatKind.f32 x1, A.fl FloatKind.f32 x2, A.fl FloatKind.f32 x3], V.agg [A.fl FloatKind.f32 x4, A.fl FloatKind.f32 x5, A.fl FloatKind.f32 x6], V.at (A.fl FloatKind.f32 x7), V.at (A.int IntKind.i64 x8), V.at (A.int IntKind.i64 x9)], [] => some (Pure.impl_RunFalls_ok F x0 x1 x2 x3 x4 x5 x6 x7 x8 x9, ⟨V.tup [(false, [A.sl 0]), (false, [A.bool (Pure.impl_RunFalls F x0 x1 x2 x3 x4 x5 x6 x7 x8 x9)])], none, [⟨true, OC.rows [K.f FloatKind.f32, K.f FloatKind.f32, K.f FloatKind.f32] (Pure.impl_RunFalls_1 F x0 x1 x2 x3 x4 x5 x6 x7 x8 x9)⟩]⟩)
  | _, _ => none
theorem e_impl_RunFalls (F : FOps) (x0 : Int) (x1 : Int) (x2 : Int) (x3 : Int) (x4 : Int) (x5 : Int) (x6 : Int) (x7 : Int) (x8 : Int) (x9 : Int) : Pure.impl_RunFalls_ok F x0 x1 x2 x3 x4 x5 x6 x7 x8 x9 = true → evFn (cxS F tyl [(66, c_impl_fallOk F), (68, c_impl_in F), (23, c_impl_NextHit F), (25, c_impl_FlyFall F), (26, c_impl_HitFall F)] [] [(0, S_impl_RunFalls_L0 F)] 0) Try.f27 false [V.agg [A.fl FloatKind.f32 x0, A.fl FloatKind.f32 x1, A.fl FloatKind.f32 x2, A.fl FloatKind.f32 x3], V.agg [A.fl FloatKind.f32 x4, A.fl FloatKind.f32 x5, A.fl FloatKind.f32 x6], V.at (A.fl FloatKind.f32 x7), V.at (A.int IntKind.i64 x8), V.at (A.int IntKind.i64 x9)] [] = some ⟨V.tup [(false, [A.sl 0]), (false, [A.bool (Pure.impl_RunFalls F x0 x1 x2 x3 x4 x5 x6 x7 x8 x9)])], none, [⟨true, OC.rows [K.f FloatKind.f32, K.f FloatKind.f32, K.f FloatKind.f32] (Pure.impl_RunFalls_1 F x0 x1 x2 x3 x4 x5 x6 x7 x8 x9)⟩]⟩ := by
  have h0 : evFn (cxS F tyl [(66, c_impl_fallOk F), (68, c_impl_in F), (23, c_impl_NextHit F), (25, c_impl_FlyFall F), (26, c_impl_HitFall F)] [] [(0, S_impl_RunFalls_L0 F)] 0) Try.f27 false [V.agg [A.fl FloatKind.f32 x0, A.fl FloatKind.f32 x1, A.fl FloatKind.f32 x2, A.fl FloatKind.f32 x3], V.agg [A.fl FloatKind.f32 x4, A.fl FloatKind.f32 x5, A.fl FloatKind.f32 x6], V.at (A.fl FloatKind.f32 x7), V.at (A.int IntKind.i64 x8), V.at (A.int IntKind.i64 x9)] [] = bif Pure.impl_fallOk_ok F x0 x1 x2 x3 x4 x5 x6 then bif Bool.not (Pure.impl_fallOk F x0 x1 x2 x3 x4 x5 x6) then some ⟨V.tup [(false, [A.sl 0]), (false, [A.bool false])], none, [⟨true, OC.rows [K.f FloatKind.f32, K.f FloatKind.f32, K.f FloatKind.f32] []⟩]⟩ else bif Bool.not (Pure.impl_in F x9 1 32) then some ⟨V.tup [(false, [A.sl 0]), (false, [A.bool false])], none, [⟨true, OC.rows [K.f FloatKind.f32, K.f FloatKind.f32, K.f FloatKind.f32] []⟩]⟩ else bif Prod.fst (Pure.impl_RunFalls_L0 F x7 x8 x9 x0 x1 x2 x3 (Int.toNat ((x9 - 0) + 1)) 0 x4 x5 x6 []) then bif Prod.fst (Prod.snd (Pure.impl_RunFalls_L0 F x7 x8 x9 x0 x1 x2 x3 (Int.toNat ((x9 - 0) + 1)) 0 x4 x5 x6 [])) then some ⟨V.tup [(false, [A.sl 0]), (false, [A.bool false])], none, [⟨true, OC.rows [K.f FloatKind.f32, K.f FloatKind.f32, K.f FloatKind.f32] []⟩]⟩ else some ⟨V.tup [(false, [A.sl 0]), (false, [A.bool true])], none, [⟨true, OC.rows [K.f FloatKind.f32, K.f FloatKind.f32, K.f FloatKind.f32] (Prod.fst (Prod.snd (Prod.snd (Pure.impl_RunFalls_L0 F x7 x8 x9 x0 x1 x2 x3 (Int.toNat ((x9 - 0) + 1)) 0 x4 x5 x6 []))))⟩]⟩ else none else none := by kernel_rfl
  rw [h0]
  unfold Pure.impl_RunFalls Pure.impl_RunFalls_1 Pure.impl_RunFalls_ok
  cases (Pure.impl_fallOk_ok F x0 x1 x2 x3 x4 x5 x6) with
  | true =>
    cases (Pure.impl_fallOk F x0 x1 x2 x3 x4 x5 x6) with
    | true =>
      cases (Pure.impl_in F x9 1 32) with
      | true =>
        cases (Prod.fst (Pure.impl_RunFalls_L0 F x7 x8 x9 x0 x1 x2 x3 (Int.toNat ((x9 - 0) + 1)) 0 x4 x5 x6 [])) with
        | true =>
          cases (Prod.fst (Prod.snd (Pure.impl_RunFalls_L0 F x7 x8 x9 x0 x1 x2 x3 (Int.toNat ((x9 - 0) + 1)) 0 x4 x5 x6 []))) with
          | true =>
            intro _; rfl
          | false =>
            intro _; rfl
        | false =>
          intro h; exact absurd h Bool.false_ne_true
      | false =>
        intro _; rfl
    | false =>
      intro _; rfl
  | false =>
    intro h; exact absurd h Bool.false_ne_true
theorem ok_impl_RunFalls : CallOK Try.prog 27 (c_impl_RunFalls real) := by
  refine callOK_of fun args h ret hc => ?_
  unfold c_impl_RunFalls at hc
  split at hc
  · rename_i x0 x1 x2 x3 x4 x5 x6 x7 x8 x9
    obtain ⟨hok, rfl⟩ := some_ret hc
    exact holds_ev prog_ok (allOK_cons ok_impl_fallOk (allOK_cons ok_impl_in (allOK_cons ok_impl_NextHit (allOK_cons ok_impl_FlyFall (allOK_cons ok_impl_HitFall allOK_nil))))) Try.func27 rfl rfl (smL_cons (body := .loop (loopB 0 (codeOf Try.f27))) (by kernel_rfl) t_impl_RunFalls_L0 smL_nil) rfl (e_impl_RunFalls real x0 x1 x2 x3 x4 x5 x6 x7 x8 x9 hok)
  · cases hc
def Pure.laws_eqFallS_L0 (F : FOps) (y1 : List (List Int)) (y2 : List (List Int)) : Nat → Int → (Bool × Bool)
  | 0, _ => (false, false)
  | n + 1, y0 => bif (Decidable.decide (y0 < (Int.ofNat (List.length y1)))) then (bif (Decidable.decide (0 ≤ y0)) then (bif (Decidable.decide (y0 < (Int.ofNat (List.length y1)))) then (bif (Decidable.decide (0 ≤ y0)) then (bif (Decidable.decide (y0 < (Int.ofNat (List.length y2)))) then (bif (Pure.laws_eqFall_ok F (List.getD (List.getD y1 (Int.toNat y0) []) 0 0) (List.getD (List.getD y1 (Int.toNat y0) []) 1 0) (List.getD (List.getD y1 (Int.toNat y0) []) 2 0) (List.getD (List.getD y2 (Int.toNat y0) []) 0 0) (List.getD (List.getD y2 (Int.toNat y0) []) 1 0) (List.getD (List.getD y2 (Int.toNat y0) []) 2 0)) then (bif (Pure.laws_eqFall F (List.getD (List.getD y1 (Int.toNat y0) []) 0 0) (List.getD (List.getD y1 (Int.toNat y0) []) 1 0) (List.getD (List.getD y1 (Int.toNat y0) []) 2 0) (List.getD (List.getD y2 (Int.toNat y0) []) 0 0) (List.getD (List.getD y2 (Int.toNat y0) []) 1 0) (List.getD (List.getD y2 (Int.toNat y0) []) 2 0)) then (Pure.laws_eqFallS_L0 F y1 y2 n (IntKind.wrap IntKind.i64 (y0 + 1))) else ((true, true))) else ((false, false))) else ((false, false))) else ((false, false))) else ((false, false))) else ((false, false))) else ((true, false))
def R_laws_eqFallS_L0 (y1 : List (List Int)) (y2 : List (List Int)) (r : (Bool × Bool)) : Bool × Bool × (Ex × List V × List Ob) × (Ex × List V × List Ob) := ((r).1, (r).2, (Ex.normal, [V.at A.undef], [⟨false, OC.rows [K.f FloatKind.f32, K.f FloatKind.f32, K.f FloatKind.f32] y1⟩, ⟨false, OC.rows [K.f FloatKind.f32, K.f FloatKind.f32, K.f FloatKind.f32] y2⟩]), (Ex.ret, [V.at (A.bool false)], [⟨false, OC.rows [K.f FloatKind.f32, K.f FloatKind.f32, K.f FloatKind.f32] y1⟩, ⟨false, OC.rows [K.f FloatKind.f32, K.f FloatKind.f32, K.f FloatKind.f32] y2⟩]))
def S_laws_eqFallS_L0 (F : FOps) : Sm := ⟨[0, 1, 5], [42, 42, 3], [4], fun vals hp => match vals, hp with
  | [V.at (A.sl 0), V.at (A.sl 1), V.at (A.int IntKind.i64 y0)], [⟨false, OC.rows [K.f FloatKind.f32, K.f FloatKind.f32, K.f FloatKind.f32] y1⟩, ⟨false, OC.rows [K.f FloatKind.f32, K.f FloatKind.f32, K.f FloatKind.f32] y2⟩] => some (R_laws_eqFallS_L0 y1 y2 (Pure.laws_eqFallS_L0 F y1 y2 ((Int.ofNat (List.length y1)) - y0 + 1).toNat y0))
  | _, _ => none⟩
theorem l_laws_eqFallS_L0 (F : FOps) (y1 : List (List Int)) (y2 : List (List Int)) : ∀ (fuel : Nat) (y0 : Int), (Pure.laws_eqFallS_L0 F y1 y2 fuel y0).1 = true → loopOf (cxS F tyl [(31, c_laws_eqFall F)] [] [] 0) 2 27 0 [0, 1, 5] [42, 42, 3] [4] (loopB 0 (codeOf Try.f55)) fuel [V.at (A.sl 0), V.at (A.sl 1), V.at (A.int IntKind.i64 y0)] [⟨false, OC.rows [K.f FloatKind.f32, K.f FloatKind.f32, K.f FloatKind.f32] y1⟩, ⟨false, OC.rows [K.f FloatKind.f32, K.f FloatKind.f32, K.f FloatKind.f32] y2⟩] = resOf (R_laws_eqFallS_L0 y1 y2 (Pure.laws_eqFallS_L0 F y1 y2 fuel y0)) := by
  intro fuel
  induction fuel with
  | zero => intro y0 h; exact absurd h Bool.false_ne_true
  | succ n ih =>
    intro y0
    have h0 : roundOf (cxS F tyl [(31, c_laws_eqFall F)] [] [] 0) 2 27 0 [0, 1, 5] [42, 42, 3] [4] (loopB 0 (codeOf Try.f55)) [V.at (A.sl 0), V.at (A.sl 1), V.at (A.int IntKind.i64 y0)] [⟨false, OC.rows [K.f FloatKind.f32, K.f FloatKind.f32, K.f FloatKind.f32] y1⟩, ⟨false, OC.rows [K.f FloatKind.f32, K.f FloatKind.f32, K.f FloatKind.f32] y2⟩] = (bif Decidable.decide (y0 < (Int.ofNat (List.length y1))) then bif Decidable.decide (0 ≤ y0) then bif Decidable.decide (y0 < (Int.ofNat (List.length y1))) then bif Decidable.decide (0 ≤ y0) then bif Decidable.decide (y0 < (Int.ofNat (List.length y2))) then bif Pure.laws_eqFall_ok F (List.getD (List.getD y1 (Int.toNat y0) []) 0 0) (List.getD (List.getD y1 (Int.toNat y0) []) 1 0) (List.getD (List.getD y1 (Int.toNat y0) []) 2 0) (List.getD (List.getD y2 (Int.toNat y0) []) 0 0) (List.getD (List.getD y2 (Int.toNat y0) []) 1 0) (List.getD (List.getD y2 (Int.toNat y0) []) 2 0) then bif Bool.not (Pure.laws_eqFall F (List.getD (List.getD y1 (Int.toNat y0) []) 0 0) (List.getD (List.getD y1 (Int.toNat y0) []) 1 0) (List.getD (List.getD y1 (Int.toNat y0) []) 2 0) (List.getD (List.getD y2 (Int.toNat y0) []) 0 0) (List.getD (List.getD y2 (Int.toNat y0) []) 1 0) (List.getD (List.getD y2 (Int.toNat y0) []) 2 0)) then some (false, (Ex.ret, ([V.at (A.bool false)], [⟨false, OC.rows [K.f FloatKind.f32, K.f FloatKind.f32, K.f FloatKind.f32] y1⟩, ⟨false, OC.rows [K.f FloatKind.f32, K.f FloatKind.f32, K.f FloatKind.f32] y2⟩]))) else some (true, (Ex.normal, ([V.at (A.sl 0), V.at (A.sl 1), V.at (A.int IntKind.i64 (IntKind.wrap IntKind.i64 (y0 + 1)))], [⟨false, OC.rows [K.f FloatKind.f32, K.f FloatKind.f32, K.f FloatKind.f32] y1⟩, ⟨false, OC.rows [K.f FloatKind.f32, K.f FloatKind.f32, K.f FloatKind.f32] y2⟩]))) else none else none else none else none else none else some (false, (Ex.normal, ([V.at A.undef], [⟨false, OC.rows [K.f FloatKind.f32, K.f FloatKind.f32, K.f FloatKind.f32] y1⟩, ⟨false, OC.rows [K.f FloatKind.f32, K.f FloatKind.f32, K.f FloatKind.f32] y2⟩])))) := by kernel_rfl
    unfold loopOf
    rw [h0]
    unfold Pure.laws_eqFallS_L0
    cases (Decidable.decide (y0 < (Int.ofNat (List.length y1)))) with
    | true =>
      cases (Decidable.decide (0 ≤ y0)) with
      | true =>
        cases (Decidable.decide (y0 < (Int.ofNat (List.length y2)))) with
        | true =>
          cases (Pure.laws_eqFall_ok F (List.getD (List.getD y1 (Int.toNat y0) []) 0 0) (List.getD (List.getD y1 (Int.toNat y0) []) 1 0) (List.getD (List.getD y1 (Int.toNat y0) []) 2 0) (List.getD (List.getD y2 (Int.toNat y0) []) 0 0) (List.getD (List.getD y2 (Int.toNat y0) []) 1 0) (List.getD (List.getD y2 (Int.toNat y0) []) 2 0)) with
          | true =>
            cases (Pure.laws_eqFall F (List.getD (List.getD y1 (Int.toNat y0) []) 0 0) (List.getD (List.getD y1 (Int.toNat y0) []) 1 0) (List.getD (List.getD y1 (Int.toNat y0) []) 2 0) (List.getD (List.getD y2 (Int.toNat y0) []) 0 0) (List.getD (List.getD y2 (Int.toNat y0) []) 1 0) (List.getD (List.getD y2 (Int.toNat y0) []) 2 0)) with
            | true =>
              exact ih _
            | false =>
              intro _; rfl
          | false =>
            intro h; exact absurd h Bool.false_ne_true
        | false =>
          intro h; exact absurd h Bool.false_ne_true
      | false =>
        intro h; exact absurd h Bool.false_ne_true
    | false =>
      intro _; rfl
theorem t_laws_eqFallS_L0 : SmTo Try.prog 2 27 (S_laws_eqFallS_L0 real) 0 (.loop (loopB 0 (codeOf Try.f55))) := by
  refine smTo_ev (cl := [(31, c_laws_eqFall real)]) (ef := []) (sm := []) (un := 0) prog_ok (allOK_cons ok_laws_eqFall allOK_nil) smL_nil ?_
  intro vals hp q r h hq
  unfold S_laws_eqFallS_L0 at h
  dsimp only at h
  split at h
  · rename_i y0 y1 y2
    obtain rfl := Option.some.inj h
    have h1 := hq
    unfold resOf at h1
    rw [chk_some] at h1
    exact ⟨_, (l_laws_eqFallS_L0 real y1 y2 _ y0 h1.1).trans hq⟩
  · cases h
def Pure.laws_eqFallS (F : FOps) (x0 : List (List Int)) (x1 : List (List Int)) : Bool := bif (Int.ofNat (List.length x0)) != (Int.ofNat (List.length x1)) then false else bif Prod.snd (Pure.laws_eqFallS_L0 F x0 x1 (Nat.succ ((List.length x0) + 0)) 0) then false else true
def Pure.laws_eqFallS_ok (F : FOps) (x0 : List (List Int)) (x1 : List (List Int)) : Bool := bif (Int.ofNat (List.length x0)) != (Int.ofNat (List.length x1)) then true else Prod.fst (Pure.laws_eqFallS_L0 F x0 x1 (Nat.succ ((List.length x0) + 0)) 0)
def c_laws_eqFallS (F : FOps) : Con
  | [V.at (A.sl 0), V.at (A.sl 1)], [⟨false, OC.rows [K.f FloatKind.f32, K.f FloatKind.f32, K.f FloatKind.f32] x0⟩, ⟨false, OC.rows [K.f FloatKind.f32, K.f FloatKind.f32, K.f FloatKind.f32] x1⟩] => some (Pure.laws_eqFallS_ok F x0 x1, ⟨V.at (A.bool (Pure.laws_eqFallS F x0 x1)), none, []⟩)
  | _, _ => none
theorem e_laws_eqFallS (F : FOps) (x0 : List (List Int)) (x1 : List (List Int)) : Pure.laws_eqFallS_ok F x0 x1 = true → evFn (cxS F tyl [(31, c_laws_eqFall F)] [] [(0, S_laws_eqFallS_L0 F)] 0) Try.f55 false [V.at (A.sl 0), V.at (A.sl 1)] [⟨false, OC.rows [K.f FloatKind.f32, K.f FloatKind.f32, K.f FloatKind.f32] x0⟩, ⟨false, OC.rows [K.f FloatKind.f32, K.f FloatKind.f32, K.f FloatKind.f32] x1⟩] = some ⟨V.at (A.bool (Pure.laws_eqFallS F x0 x1)), none, []⟩ := by
  have h0 : evFn (cxS F tyl [(31, c_laws_eqFall F)] [] [(0, S_laws_eqFallS_L0 F)] 0) Try.f55 false [V.at (A.sl 0), V.at (A.sl 1)] [⟨false, OC.rows [K.f FloatKind.f32, K.f FloatKind.f32, K.f FloatKind.f32] x0⟩, ⟨false, OC.rows [K.f FloatKind.f32, K.f FloatKind.f32, K.f FloatKind.f32] x1⟩] = bif (Int.ofNat (List.length x0)) != (Int.ofNat (List.length x1)) then some ⟨V.at (A.bool false), none, []⟩ else bif Prod.fst (Pure.laws_eqFallS_L0 F x0 x1 (Nat.succ ((List.length x0) + 0)) 0) then bif Prod.snd (Pure.laws_eqFallS_L0 F x0 x1 (Nat.succ ((List.length x0) + 0)) 0) then some ⟨V.at (A.bool false), none, []⟩ else some ⟨V.at (A.bool true), none, []⟩ else none := by kernel_rfl
  rw [h0]
  unfold Pure.laws_eqFallS Pure.laws_eqFallS_ok
  cases ((Int.ofNat (List.length x0)) != (Int.ofNat (List.length x1))) with
  | true =>
    intro _; rfl
  | false =>
    cases (Prod.fst (Pure.laws_eqFallS_L0 F x0 x1 (Nat.succ ((List.length x0) + 0)) 0)) with
    | true =>
      cases (Prod.snd (Pure.laws_eqFallS_L0 F x0 x1 (Nat.succ ((List.length x0) + 0)) 0)) with
      | true =>
        intro _; rfl
      | false =>
        intro _; rfl
    | false =>
      intro h; exact absurd h Bool.false_ne_true
theorem ok_laws_eqFallS : CallOK Try.prog 55 (c_laws_eqFallS real) := by
  refine callOK_of fun args h ret hc => ?_
  unfold c_laws_eqFallS at hc
  split at hc
  · rename_i x0 x1
    obtain ⟨hok, rfl⟩ := some_ret hc
    exact holds_ev prog_ok (allOK_cons ok_laws_eqFall allOK_nil) Try.func55 rfl rfl (smL_cons (body := .loop (loopB 0 (codeOf Try.f55))) (by kernel_rfl) t_laws_eqFallS_L0 smL_nil) rfl (e_laws_eqFallS real x0 x1 hok)
  · cases hc
def Pure.laws_markFallS_L0 (F : FOps) : Nat → Int → Int → (List (List Int)) → (Bool × Int × (List (List Int)))
  | 0, _, _, _ => (false, 0, [])
  | n + 1, y0, y1, y2 => bif (Decidable.decide (y1 < (Int.ofNat (List.length y2)))) then (bif (Decidable.decide (0 ≤ y1)) then (bif (Decidable.decide (y1 < (Int.ofNat (List.length y2)))) then (bif (Decidable.decide (0 ≤ y1)) then (bif (Decidable.decide (y1 < (Int.ofNat (List.length (List.set y2 (Int.toNat y1) (setFrom (List.getD y2 (Int.toNat y1) []) 0 [FOps.ofInt F FloatKind.f32 y0])))))) then (bif (Decidable.decide (0 ≤ y1)) then (bif (Decidable.decide (y1 < (Int.ofNat (List.length (List.set (List.set y2 (Int.toNat y1) (setFrom (List.getD y2 (Int.toNat y1) []) 0 [FOps.ofInt F FloatKind.f32 y0])) (Int.toNat y1) (setFrom (List.getD (List.set y2 (Int.toNat y1) (setFrom (List.getD y2 (Int.toNat y1) []) 0 [FOps.ofInt F FloatKind.f32 y0])) (Int.toNat y1) []) 1 [FOps.ofInt F FloatKind.f32 (IntKind.wrap IntKind.i64 (y0 + 1))])))))) then (Pure.laws_markFallS_L0 F  n (IntKind.wrap IntKind.i64 ((IntKind.wrap IntKind.i64 ((IntKind.wrap IntKind.i64 (y0 + 1)) + 1)) + 1)) (IntKind.wrap IntKind.i64 (y1 + 1)) (List.set (List.set (List.set y2 (Int.toNat y1) (setFrom (List.getD y2 (Int.toNat y1) []) 0 [FOps.ofInt F FloatKind.f32 y0])) (Int.toNat y1) (setFrom (List.getD (List.set y2 (Int.toNat y1) (setFrom (List.getD y2 (Int.toNat y1) []) 0 [FOps.ofInt F FloatKind.f32 y0])) (Int.toNat y1) []) 1 [FOps.ofInt F FloatKind.f32 (IntKind.wrap IntKind.i64 (y0 + 1))])) (Int.toNat y1) (setFrom (List.getD (List.set (List.set y2 (Int.toNat y1) (setFrom (List.getD y2 (Int.toNat y1) []) 0 [FOps.ofInt F FloatKind.f32 y0])) (Int.toNat y1) (setFrom (List.getD (List.set y2 (Int.toNat y1) (setFrom (List.getD y2 (Int.toNat y1) []) 0 [FOps.ofInt F FloatKind.f32 y0])) (Int.toNat y1) []) 1 [FOps.ofInt F FloatKind.f32 (IntKind.wrap IntKind.i64 (y0 + 1))])) (Int.toNat y1) []) 2 [FOps.ofInt F FloatKind.f32 (IntKind.wrap IntKind.i64 ((IntKind.wrap IntKind.i64 (y0 + 1)) + 1))]))) else ((false, 0, []))) else ((false, 0, []))) else ((false, 0, []))) else ((false, 0, []))) else ((false, 0, []))) else ((false, 0, []))) else ((true, y0, y2))
def R_laws_markFallS_L0 (r : (Bool × Int × (List (List Int)))) : Bool × Bool × (Ex × List V × List Ob) × (Ex × List V × List Ob) := ((r).1, false, (Ex.normal, [V.at (A.int IntKind.i64 (r).2.1)], [⟨true, OC.rows [K.f FloatKind.f32, K.f FloatKind.f32, K.f FloatKind.f32] (r).2.2⟩]), (Ex.normal, [V.at (A.int IntKind.i64 (r).2.1)], [⟨true, OC.rows [K.f FloatKind.f32, K.f FloatKind.f32, K.f FloatKind.f32] (r).2.2⟩]))
def S_laws_markFallS_L0 (F : FOps) : Sm := ⟨[0, 1, 5], [42, 3, 3], [1], fun vals hp => match vals, hp with
  | [V.at (A.sl 0), V.at (A.int IntKind.i64 y0), V.at (A.int IntKind.i64 y1)], [⟨true, OC.rows [K.f FloatKind.f32, K.f FloatKind.f32, K.f FloatKind.f32] y2⟩] => some (R_laws_markFallS_L0  (Pure.laws_markFallS_L0 F  ((Int.ofNat (List.length y2)) - y1 + 1).toNat y0 y1 y2))
  | _, _ => none⟩
theorem l_laws_markFallS_L0 (F : FOps) : ∀ (fuel : Nat) (y0 : Int) (y1 : Int) (y2 : List (List Int)), (Pure.laws_markFallS_L0 F  fuel y0 y1 y2).1 = true → loopOf (cxS F tyl [] [] [] 0) 1 37 0 [0, 1, 5] [42, 3, 3] [1] (loopB 0 (codeOf Try.f56)) fuel [V.at (A.sl 0), V.at (A.int IntKind.i64 y0), V.at (A.int IntKind.i64 y1)] [⟨true, OC.rows [K.f FloatKind.f32, K.f FloatKind.f32, K.f FloatKind.f32] y2⟩] = resOf (R_laws_markFallS_L0  (Pure.laws_markFallS_L0 F  fuel y0 y1 y2)) := by
  intro fuel
  induction fuel with
  | zero => intro y0 y1 y2 h; exact absurd h Bool.false_ne_true
  | succ n ih =>
    intro y0 y1 y2
    have h0 : roundOf (cxS F tyl [] [] [] 0) 1 37 0 [0, 1, 5] [42, 3, 3] [1] (loopB 0 (codeOf Try.f56)) [V.at (A.sl 0), V.at (A.int IntKind.i64 y0), V.at (A.int IntKind.i64 y1)] [⟨true, OC.rows [K.f FloatKind.f32, K.f FloatKind.f32, K.f FloatKind.f32] y2⟩] = (bif Decidable.decide (y1 < (Int.ofNat (List.length y2))) then bif Decidable.decide (0 ≤ y1) then bif Decidable.decide (y1 < (Int.ofNat (List.length y2))) then bif Decidable.decide (0 ≤ y1) then bif Decidable.decide (y1 < (Int.ofNat (List.length (List.set y2 (Int.toNat y1) (setFrom (List.getD y2 (Int.toNat y1) []) 0 [FOps.ofInt F FloatKind.f32 y0]))))) then bif Decidable.decide (0 ≤ y1) then bif Decidable.decide (y1 < (Int.ofNat (List.length (List.set (List.set y2 (Int.toNat y1) (setFrom (List.getD y2 (Int.toNat y1) []) 0 [FOps.ofInt F FloatKind.f32 y0])) (Int.toNat y1) (setFrom (List.getD (List.set y2 (Int.toNat y1) (setFrom (List.getD y2 (Int.toNat y1) []) 0 [FOps.ofInt F FloatKind.f32 y0])) (Int.toNat y1) []) 1 [FOps.ofInt F FloatKind.f32 (IntKind.wrap IntKind.i64 (y0 + 1))]))))) then some (true, (Ex.normal, ([V.at (A.sl 0), V.at (A.int IntKind.i64 (IntKind.wrap IntKind.i64 ((IntKind.wrap IntKind.i64 ((IntKind.wrap IntKind.i64 (y0 + 1)) + 1)) + 1))), V.at (A.int IntKind.i64 (IntKind.wrap IntKind.i64 (y1 + 1)))], [⟨true, OC.rows [K.f FloatKind.f32, K.f FloatKind.f32, K.f FloatKind.f32] (List.set (List.set (List.set y2 (Int.toNat y1) (setFrom (List.getD y2 (Int.toNat y1) []) 0 [FOps.ofInt F FloatKind.f32 y0])) (Int.toNat y1) (setFrom (List.getD (List.set y2 (Int.toNat y1) (setFrom (List.getD y2 (Int.toNat y1) []) 0 [FOps.ofInt F FloatKind.f32 y0])) (Int.toNat y1) []) 1 [FOps.ofInt F FloatKind.f32 (IntKind.wrap IntKind.i64 (y0 + 1))])) (Int.toNat y1) (setFrom (List.getD (List.set (List.set y2 (Int.toNat y1) (setFrom (List.getD y2 (Int.toNat y1) []) 0 [FOps.ofInt F FloatKind.f32 y0])) (Int.toNat y1) (setFrom (List.getD (List.set y2 (Int.toNat y1) (setFrom (List.getD y2 (Int.toNat y1) []) 0 [FOps.ofInt F FloatKind.f32 y0])) (Int.toNat y1) []) 1 [FOps.ofInt F FloatKind.f32 (IntKind.wrap IntKind.i64 (y0 + 1))])) (Int.toNat y1) []) 2 [FOps.ofInt F FloatKind.f32 (IntKind.wrap IntKind.i64 ((IntKind.wrap IntKind.i64 (y0 + 1)) + 1))]))⟩]))) else none else none else none else none else none else none else some (false, (Ex.normal, ([V.at (A.int IntKind.i64 y0)], [⟨true, OC.rows [K.f FloatKind.f32, K.f FloatKind.f32, K.f FloatKind.f32] y2⟩])))) := by kernel_rfl
    unfold loopOf
    rw [h0]
    unfold Pure.laws_markFallS_L0
    cases (Decidable.decide (y1 < (Int.ofNat (List.length y2)))) with
    | true =>
      cases (Decidable.decide (0 ≤ y1)) with
      | true =>
        cases (Decidable.decide (y1 < (Int.ofNat (List.length (List.set y2 (Int.toNat y1) (setFrom (List.getD y2 (Int.toNat y1) []) 0 [FOps.ofInt F FloatKind.f32 y0])))))) with
        | true =>
          cases (Decidable.decide (y1 < (Int.ofNat (List.length (List.set (List.set y2 (Int.toNat y1) (setFrom (List.getD y2 (Int.toNat y1) []) 0 [FOps.ofInt F FloatKind.f32 y0])) (Int.toNat y1) (setFrom (List.getD (List.set y2 (Int.toNat y1) (setFrom (List.getD y2 (Int.toNat y1) []) 0 [FOps.ofInt F FloatKind.f32 y0])) (Int.toNat y1) []) 1 [FOps.ofInt F FloatKind.f32 (IntKind.wrap IntKind.i64 (y0 + 1))])))))) with
          | true =>
            exact ih _ _ _
          | false =>
            intro h; exact absurd h Bool.false_ne_true
        | false =>
          intro h; exact absurd h Bool.false_ne_true
      | false =>
        intro h; exact absurd h Bool.false_ne_true
    | false =>
      intro _; rfl
theorem t_laws_markFallS_L0 : SmTo Try.prog 1 37 (S_laws_markFallS_L0 real) 0 (.loop (loopB 0 (codeOf Try.f56))) := by
  refine smTo_ev (cl := []) (ef := []) (sm := []) (un := 0) prog_ok allOK_nil smL_nil ?_
  intro vals hp q r h hq
  unfold S_laws_markFallS_L0 at h
  dsimp only at h
  split at h
  · rename_i y0 y1 y2
    obtain rfl := Option.some.inj h
    have h1 := hq
    unfold resOf at h1
    rw [chk_some] at h1
    exact ⟨_, (l_laws_markFallS_L0 real _ y0 y1 y2 h1.1).trans hq⟩
  · cases h
def Pure.laws_markFallS (F : FOps) (x0 : List (List Int)) (x1 : Int) : Int := Prod.fst (Prod.snd (Pure.laws_markFallS_L0 F (Nat.succ ((List.length x0) + 0)) x1 0 x0))
def Pure.laws_markFallS_1 (F : FOps) (x0 : List (List Int)) (x1 : Int) : List (List Int) := Prod.snd (Prod.snd (Pure.laws_markFallS_L0 F (Nat.succ ((List.length x0) + 0)) x1 0 x0))
def Pure.laws_markFallS_ok (F : FOps) (x0 : List (List Int)) (x1 : Int) : Bool := Prod.fst (Pure.laws_markFallS_L0 F (Nat.succ ((List.length x0) + 0)) x1 0 x0)
def c_laws_markFallS (F : FOps) : Con
  | [V.at (A.sl 0), V.at (A.int IntKind.i64 x1)], [⟨true, OC.rows [K.f FloatKind.f32, K.f FloatKind.f32, K.f FloatKind.f32] x0⟩] => some (Pure.laws_markFallS_ok F x0 x1, ⟨V.at (A.int IntKind.i64 (Pure.laws_markFallS F x0 x1)), some [⟨true, OC.rows [K.f FloatKind.f32, K.f FloatKind.f32, K.f FloatKind.f32] (Pure.laws_markFallS_1 F x0 x1)⟩], []⟩)
  | _, _ => none
theorem e_laws_markFallS (F : FOps) (x0 : List (List Int)) (x1 : Int) : Pure.laws_markFallS_ok F x0 x1 = true → evFn (cxS F tyl [] [] [(0, S_laws_markFallS_L0 F)] 0) Try.f56 true [V.at (A.sl 0), V.at (A.int IntKind.i64 x1)] [⟨true, OC.rows [K.f FloatKind.f32, K.f FloatKind.f32, K.f FloatKind.f32] x0⟩] = some ⟨V.at (A.int IntKind.i64 (Pure.laws_markFallS F x0 x1)), some [⟨true, OC.rows [K.f FloatKind.f32, K.f FloatKind.f32, K.f FloatKind.f32] (Pure.laws_markFallS_1 F x0 x1)⟩], []⟩ := by
  have h0 : evFn (cxS F tyl [] [] [(0, S_laws_markFallS_L0 F)] 0) Try.f56 true [V.at (A.sl 0), V.at (A.int IntKind.i64 x1)] [⟨true, OC.rows [K.f FloatKind.f32, K.f FloatKind.f32, K.f FloatKind.f32] x0⟩] = bif Prod.fst (Pure.laws_markFallS_L0 F (Nat.succ ((List.length x0) + 0)) x1 0 x0) then some ⟨V.at (A.int IntKind.i64 (Prod.fst (Prod.snd (Pure.laws_markFallS_L0 F (Nat.succ ((List.length x0) + 0)) x1 0 x0)))), some [⟨true, OC.rows [K.f FloatKind.f32, K.f FloatKind.f32, K.f FloatKind.f32] (Prod.snd (Prod.snd (Pure.laws_markFallS_L0 F (Nat.succ ((List.length x0) + 0)) x1 0 x0)))⟩], []⟩ else none := by kernel_rfl
  rw [h0]
  unfold Pure.laws_markFallS Pure.laws_markFallS_1 Pure.laws_markFallS_ok
  cases (Prod.fst (Pure.laws_markFallS_L0 F (Nat.succ ((List.length x0) + 0)) x1 0 x0)) with
  | true =>
    intro _; rfl
  | false =>
    intro h; exact absurd h Bool.false_ne_true
theorem ok_laws_markFallS : CallOK Try.prog 56 (c_laws_markFallS real) := by
  refine callOK_of fun args h ret hc => ?_
  unfold c_laws_markFallS at hc
  split at hc
  · rename_i x1 x0
    obtain ⟨hok, rfl⟩ := some_ret hc
    exact holdsE_ev prog_ok allOK_nil Try.func56 rfl rfl (smL_cons (body := .loop (loopB 0 (codeOf Try.f56))) (by kernel_rfl) t_laws_markFallS_L0 smL_nil) (e_laws_markFallS real x0 x1 hok)
  · cases hc
def Pure.laws_heldFallS_L0 (F : FOps) (y2 : List (List Int)) : Nat → Int → Int → (Bool × Bool × Int × Int)
  | 0, _, _ => (false, false, 0, 0)
  | n + 1, y0, y1 => bif (Decidable.decide (y1 < (Int.ofNat (List.length y2)))) then (bif (Decidable.decide (0 ≤ y1)) then (bif (Decidable.decide (y1 < (Int.ofNat (List.length y2)))) then (bif (FOps.cmp F BinOp.neq FloatKind.f32 (List.getD (List.getD y2 (Int.toNat y1) []) 0 0) (FOps.ofInt F FloatKind.f32 y0)) then ((true, true, 0, y0)) else (bif (Decidable.decide (0 ≤ y1)) then (bif (Decidable.decide (y1 < (Int.ofNat (List.length y2)))) then (bif (FOps.cmp F BinOp.neq FloatKind.f32 (List.getD (List.getD y2 (Int.toNat y1) []) 1 0) (FOps.ofInt F FloatKind.f32 (IntKind.wrap IntKind.i64 (y0 + 1)))) then ((true, true, 0, IntKind.wrap IntKind.i64 (y0 + 1))) else (bif (Decidable.decide (0 ≤ y1)) then (bif (Decidable.decide (y1 < (Int.ofNat (List.length y2)))) then (bif (FOps.cmp F BinOp.neq FloatKind.f32 (List.getD (List.getD y2 (Int.toNat y1) []) 2 0) (FOps.ofInt F FloatKind.f32 (IntKind.wrap IntKind.i64 ((IntKind.wrap IntKind.i64 (y0 + 1)) + 1)))) then ((true, true, 0, IntKind.wrap IntKind.i64 ((IntKind.wrap IntKind.i64 (y0 + 1)) + 1))) else (Pure.laws_heldFallS_L0 F y2 n (IntKind.wrap IntKind.i64 ((IntKind.wrap IntKind.i64 ((IntKind.wrap IntKind.i64 (y0 + 1)) + 1)) + 1)) (IntKind.wrap IntKind.i64 (y1 + 1)))) else ((false, false, 0, 0))) else ((false, false, 0, 0)))) else ((false, false, 0, 0))) else ((false, false, 0, 0)))) else ((false, false, 0, 0))) else ((false, false, 0, 0))) else ((true, false, y0, 0))
def R_laws_heldFallS_L0 (y2 : List (List Int)) (r : (Bool × Bool × Int × Int)) : Bool × Bool × (Ex × List V × List Ob) × (Ex × List V × List Ob) := ((r).1, (r).2.1, (Ex.normal, [V.at (A.int IntKind.i64 (r).2.2.1), V.at A.undef], [⟨false, OC.rows [K.f FloatKind.f32, K.f FloatKind.f32, K.f FloatKind.f32] y2⟩]), (Ex.ret, [V.at (A.int IntKind.i64 (r).2.2.2), V.at (A.int IntKind.i64 (-1))], [⟨false, OC.rows [K.f FloatKind.f32, K.f FloatKind.f32, K.f FloatKind.f32] y2⟩]))
def S_laws_heldFallS_L0 (F : FOps) : Sm := ⟨[0, 1, 5], [42, 3, 3], [1, 4], fun vals hp => match vals, hp with
  | [V.at (A.sl 0), V.at (A.int IntKind.i64 y0), V.at (A.int IntKind.i64 y1)], [⟨false, OC.rows [K.f FloatKind.f32, K.f FloatKind.f32, K.f FloatKind.f32] y2⟩] => some (R_laws_heldFallS_L0 y2 (Pure.laws_heldFallS_L0 F y2 ((Int.ofNat (List.length y2)) - y1 + 1).toNat y0 y1))
  | _, _ => none⟩
theorem l_laws_heldFallS_L0 (F : FOps) (y2 : List (List Int)) : ∀ (fuel : Nat) (y0 : Int) (y1 : Int), (Pure.laws_heldFallS_L0 F y2 fuel y0 y1).1 = true → loopOf (cxS F tyl [] [] [] 0) 1 43 0 [0, 1, 5] [42, 3, 3] [1, 4] (loopB 0 (codeOf Try.f57)) fuel [V.at (A.sl 0), V.at (A.int IntKind.i64 y0), V.at (A.int IntKind.i64 y1)] [⟨false, OC.rows [K.f FloatKind.f32, K.f FloatKind.f32, K.f FloatKind.f32] y2⟩] = resOf (R_laws_heldFallS_L0 y2 (Pure.laws_heldFallS_L0 F y2 fuel y0 y1)) := by
  intro fuel
  induction fuel with
  | zero => intro y0 y1 h; exact absurd h Bool.false_ne_true
  | succ n ih =>
    intro y0 y1
    have h0 : roundOf (cxS F tyl [] [] [] 0) 1 43 0 [0, 1, 5] [42, 3, 3] [1, 4] (loopB 0 (codeOf Try.f57)) [V.at (A.sl 0), V.at (A.int IntKind.i64 y0), V.at (A.int IntKind.i64 y1)] [⟨false, OC.rows [K.f FloatKind.f32, K.f FloatKind.f32, K.f FloatKind.f32] y2⟩] = (bif Decidable.decide (y1 < (Int.ofNat (List.length y2))) then bif Decidable.decide (0 ≤ y1) then bif Decidable.decide (y1 < (Int.ofNat (List.length y2))) then bif FOps.cmp F BinOp.neq FloatKind.f32 (List.getD (List.getD y2 (Int.toNat y1) []) 0 0) (FOps.ofInt F FloatKind.f32 y0) then some (false, (Ex.ret, ([V.at (A.int IntKind.i64 y0), V.at (A.int IntKind.i64 (-1))], [⟨false, OC.rows [K.f FloatKind.f32, K.f FloatKind.f32, K.f FloatKind.f32] y2⟩]))) else bif Decidable.decide (0 ≤ y1) then bif Decidable.decide (y1 < (Int.ofNat (List.length y2))) then bif FOps.cmp F BinOp.neq FloatKind.f32 (List.getD (List.getD y2 (Int.toNat y1) []) 1 0) (FOps.ofInt F FloatKind.f32 (IntKind.wrap IntKind.i64 (y0 + 1))) then some (false, (Ex.ret, ([V.at (A.int IntKind.i64 (IntKind.wrap IntKind.i64 (y0 + 1))), V.at (A.int IntKind.i64 (-1))], [⟨false, OC.rows [K.f FloatKind.f32, K.f FloatKind.f32, K.f FloatKind.f32] y2⟩]))) else bif Decidable.decide (0 ≤ y1) then bif Decidable.decide (y1 < (Int.ofNat (List.length y2))) then bif FOps.cmp F BinOp.neq FloatKind.f32 (List.getD (List.getD y2 (Int.toNat y1) []) 2 0) (FOps.ofInt F FloatKind.f32 (IntKind.wrap IntKind.i64 ((IntKind.wrap IntKind.i64 (y0 + 1)) + 1))) then some (false, (Ex.ret, ([V.at (A.int IntKind.i64 (IntKind.wrap IntKind.i64 ((IntKind.wrap IntKind.i64 (y0 + 1)) + 1))), V.at (A.int IntKind.i64 (-1))], [⟨false, OC.rows [K.f FloatKind.f32, K.f FloatKind.f32, K.f FloatKind.f32] y2⟩]))) else some (true, (Ex.normal, ([V.at (A.sl 0), V.at (A.int IntKind.i64 (IntKind.wrap IntKind.i64 ((IntKind.wrap IntKind.i64 ((IntKind.wrap IntKind.i64 (y0 + 1)) + 1)) + 1))), V.at (A.int IntKind.i64 (IntKind.wrap IntKind.i64 (y1 + 1)))], [⟨false, OC.rows [K.f FloatKind.f32, K.f FloatKind.f32, K.f FloatKind.f32] y2⟩]))) else none else none else none else none else none else none else some (false, (Ex.normal, ([V.at (A.int IntKind.i64 y0), V.at A.undef], [⟨false, OC.rows [K.f FloatKind.f32, K.f FloatKind.f32, K.f FloatKind.f32] y2⟩])))) := by kernel_rfl
    unfold loopOf
    rw [h0]
    unfold Pure.laws_heldFallS_L0
    cases (Decidable.decide (y1 < (Int.ofNat (List.length y2)))) with
    | true =>
      cases (Decidable.decide (0 ≤ y1)) with
      | true =>
        cases (FOps.cmp F BinOp.neq FloatKind.f32 (List.getD (List.getD y2 (Int.toNat y1) []) 0 0) (FOps.ofInt F FloatKind.f32 y0)) with
        | true =>
          intro _; rfl
        | false =>
          cases (FOps.cmp F BinOp.neq FloatKind.f32 (List.getD (List.getD y2 (Int.toNat y1) []) 1 0) (FOps.ofInt F FloatKind.f32 (IntKind.wrap IntKind.i64 (y0 + 1)))) with
          | true =>
            intro _; rfl
          | false =>
            cases (FOps.cmp F BinOp.neq FloatKind.f32 (List.getD (List.getD y2 (Int.toNat y1) []) 2 0) (FOps.ofInt F FloatKind.f32 (IntKind.wrap IntKind.i64 ((IntKind.wrap IntKind.i64 (y0 + 1)) + 1)))) with
            | true =>
              intro _; rfl
            | false =>
              exact ih _ _
      | false =>
        intro h; exact absurd h Bool.false_ne_true
    | false =>
      intro _; rfl
theorem t_laws_heldFallS_L0 : SmTo Try.prog 1 43 (S_laws_heldFallS_L0 real) 0 (.loop (loopB 0 (codeOf Try.f57))) := by
  refine smTo_ev (cl := []) (ef := []) (sm := []) (un := 0) prog_ok allOK_nil smL_nil ?_
  intro vals hp q r h hq
  unfold S_laws_heldFallS_L0 at h
  dsimp only at h
  split at h
  · rename_i y0 y1 y2
    obtain rfl := Option.some.inj h
    have h1 := hq
    unfold resOf at h1
    rw [chk_some] at h1
    exact ⟨_, (l_laws_heldFallS_L0 real y2 _ y0 y1 h1.1).trans hq⟩
  · cases h
def Pure.laws_heldFallS (F : FOps) (x0 : List (List Int)) (x1 : Int) : Int := bif Prod.fst (Prod.snd (Pure.laws_heldFallS_L0 F x0 (Nat.succ ((List.length x0) + 0)) x1 0)) then (-1) else Prod.fst (Prod.snd (Prod.snd (Pure.laws_heldFallS_L0 F x0 (Nat.succ ((List.length x0) + 0)) x1 0)))
def Pure.laws_heldFallS_ok (F : FOps) (x0 : List (List Int)) (x1 : Int) : Bool := Prod.fst (Pure.laws_heldFallS_L0 F x0 (Nat.succ ((List.length x0) + 0)) x1 0)
def c_laws_heldFallS (F : FOps) : Con
  | [V.at (A.sl 0), V.at (A.int IntKind.i64 x1)], [⟨false, OC.rows [K.f FloatKind.f32, K.f FloatKind.f32, K.f FloatKind.f32] x0⟩] => some (Pure.laws_heldFallS_ok F x0 x1, ⟨V.at (A.int IntKind.i64 (Pure.laws_heldFallS F x0 x1)), none, []⟩)
  | _, _ => none
theorem e_laws_heldFallS (F : FOps) (x0 : List (List Int)) (x1 : Int) : Pure.laws_heldFallS_ok F x0 x1 = true → evFn (cxS F tyl [] [] [(0, S_laws_heldFallS_L0 F)] 0) Try.f57 false [V.at (A.sl 0), V.at (A.int IntKind.i64 x1)] [⟨false, OC.rows [K.f FloatKind.f32, K.f FloatKind.f32, K.f FloatKind.f32] x0⟩] = some ⟨V.at (A.int IntKind.i64 (Pure.laws_heldFallS F x0 x1)), none, []⟩ := by
  have h0 : evFn (cxS F tyl [] [] [(0, S_laws_heldFallS_L0 F)] 0) Try.f57 false [V.at (A.sl 0), V.at (A.int IntKind.i64 x1)] [⟨false, OC.rows [K.f FloatKind.f32, K.f FloatKind.f32, K.f FloatKind.f32] x0⟩] = bif Prod.fst (Pure.laws_heldFallS_L0 F x0 (Nat.succ ((List.length x0) + 0)) x1 0) then bif Prod.fst (Prod.snd (Pure.laws_heldFallS_L0 F x0 (Nat.succ ((List.length x0) + 0)) x1 0)) then some ⟨V.at (A.int IntKind.i64 (-1)), none, []⟩ else some ⟨V.at (A.int IntKind.i64 (Prod.fst (Prod.snd (Prod.snd (Pure.laws_heldFallS_L0 F x0 (Nat.succ ((List.length x0) + 0)) x1 0))))), none, []⟩ else none := by kernel_rfl
  rw [h0]
  unfold Pure.laws_heldFallS Pure.laws_heldFallS_ok
  cases (Prod.fst (Pure.laws_heldFallS_L0 F x0 (Nat.succ ((List.length x0) + 0)) x1 0)) with
  | true =>
    cases (Prod.fst (Prod.snd (Pure.laws_heldFallS_L0 F x0 (Nat.succ ((List.length x0) + 0)) x1 0))) with
    | true =>
      intro _; rfl
    | false =>
      intro _; rfl
  | false =>
    intro h; exact absurd h Bool.false_ne_true
theorem ok_laws_heldFallS : CallOK Try.prog 57 (c_laws_heldFallS real) := by
  refine callOK_of fun args h ret hc => ?_
  unfold c_laws_heldFallS at hc
  split at hc
  · rename_i x1 x0
    obtain ⟨hok, rfl⟩ := some_ret hc
    exact holds_ev prog_ok allOK_nil Try.func57 rfl rfl (smL_cons (body := .loop (loopB 0 (codeOf Try.f57))) (by kernel_rfl) t_laws_heldFallS_L0 smL_nil) rfl (e_laws_heldFallS real x0 x1 hok)
  · cases hc
def Pure.laws_FnExactRunFalls (F : FOps) (x0 : Int) (x1 : Int) (x2 : Int) (x3 : Int) (x4 : Int) (x5 : Int) (x6 : Int) (x7 : Int) (x8 : Int) (x9 : Int) : Bool := bif Pure.laws_eqFallS F (Pure.impl_RunFalls_1 F x0 x1 x2 x3 x4 x5 x6 x7 x8 x9) (Pure.spec_RunFalls_1 F x0 x1 x2 x3 x4 x5 x6 x7 x8 x9) then bif (Pure.impl_RunFalls F x0 x1 x2 x3 x4 x5 x6 x7 x8 x9) == (Pure.spec_RunFalls F x0 x1 x2 x3 x4 x5 x6 x7 x8 x9) then bif Decidable.decide ((Pure.laws_heldFallS F (Pure.laws_markFallS_1 F (Pure.impl_RunFalls_1 F x0 x1 x2 x3 x4 x5 x6 x7 x8 x9) 1) 1) < 0) then false else bif (Pure.laws_heldFallS F (Pure.laws_markFallS_1 F (Pure.impl_RunFalls_1 F x0 x1 x2 x3 x4 x5 x6 x7 x8 x9) 1) 1) != (Pure.laws_markFallS F (Pure.impl_RunFalls_1 F x0 x1 x2 x3 x4 x5 x6 x7 x8 x9) 1) then false else true else false else false
def Pure.laws_FnExactRunFalls_ok (F : FOps) (x0 : Int) (x1 : Int) (x2 : Int) (x3 : Int) (x4 : Int) (x5 : Int) (x6 : Int) (x7 : Int) (x8 : Int) (x9 : Int) : Bool := bif Pure.spec_RunFalls_ok F x0 x1 x2 x3 x4 x5 x6 x7 x8 x9 then bif Pure.impl_RunFalls_ok F x0 x1 x2 x3 x4 x5 x6 x7 x8 x9 then bif Pure.laws_eqFallS_ok F (Pure.impl_RunFalls_1 F x0 x1 x2 x3 x4 x5 x6 x7 x8 x9) (Pure.spec_RunFalls_1 F x0 x1 x2 x3 x4 x5 x6 x7 x8 x9) then bif Pure.laws_eqFallS F (Pure.impl_RunFalls_1 F x0 x1 x2 x3 x4 x5 x6 x7 x8 x9) (Pure.spec_RunFalls_1 F x0 x1 x2 x3 x4 x5 x6 x7 x8 x9) then bif (Pure.impl_RunFalls F x0 x1 x2 x3 x4 x5 x6 x7 x8 x9) == (Pure.spec_RunFalls F x0 x1 x2 x3 x4 x5 x6 x7 x8 x9) then bif Pure.laws_markFallS_ok F (Pure.impl_RunFalls_1 F x0 x1 x2 x3 x4 x5 x6 x7 x8 x9) 1 then Pure.laws_heldFallS_ok F (Pure.laws_markFallS_1 F (Pure.impl_RunFalls_1 F x0 x1 x2 x3 x4 x5 x6 x7 x8 x9) 1) 1 else false else true else true else false else false else false
def c_laws_FnExactRunFalls (F : FOps) : Con
  | [V.agg [A.fl FloatKind.f32 x0, A.fl FloatKind.f32 x1, A.fl FloatKind.f32 x2, A.fl FloatKind.f32 x3], V.agg [A.fl FloatKind.f32 x4, A.fl FloatKind.f32 x5, A.fl FloatKind.f32 x6], V.at (A.fl FloatKind.f32 x7), V.at (A.int IntKind.i64 x8), V.at (A.int IntKind.i64 x9)], [] => some (Pure.laws_FnExactRunFalls_ok F x0 x1 x2 x3 x4 x5 x6 x7 x8 x9, ⟨V.at (A.bool (Pure.laws_FnExactRunFalls F x0 x1 x2 x3 x4 x5 x6 x7 x8 x9)), none, []⟩)
  | _, _ => none
theorem e_laws_FnExactRunFalls (F : FOps) (x0 : Int) (x1 : Int) (x2 : Int) (x3 : Int) (x4 : Int) (x5 : Int) (x6 : Int) (x7 : Int) (x8 : Int) (x9 : Int) : Pure.laws_FnExactRunFalls_ok F x0 x1 x2 x3 x4 x5 x6 x7 x8 x9 = true → evFn (cxS F tyl [(16, c_laws_toTable F), (30, c_laws_toFall F), (54, c_spec_RunFalls F), (27, c_impl_RunFalls F), (55, c_laws_eqFallS F), (56, c_laws_markFallS F), (57, c_laws_heldFallS F)] [56] [] 0) Try.f14 false [V.agg [A.fl FloatKind.f32 x0, A.fl FloatKind.f32 x1, A.fl FloatKind.f32 x2, A.fl FloatKind.f32 x3], V.agg [A.fl FloatKind.f32 x4, A.fl FloatKind.f32 x5, A.fl FloatKind.f32 x6], V.at (A.fl FloatKind.f32 x7), V.at (A.int IntKind.i64 x8), V.at (A.int IntKind.i64 x9)] [] = some ⟨V.at (A.bool (Pure.laws_FnExactRunFalls F x0 x1 x2 x3 x4 x5 x6 x7 x8 x9)), none, []⟩ := by
  have h0 : evFn (cxS F tyl [(16, c_laws_toTable F), (30, c_laws_toFall F), (54, c_spec_RunFalls F), (27, c_impl_RunFalls F), (55, c_laws_eqFallS F), (56, c_laws_markFallS F), (57, c_laws_heldFallS F)] [56] [] 0) Try.f14 false [V.agg [A.fl FloatKind.f32 x0, A.fl FloatKind.f32 x1, A.fl FloatKind.f32 x2, A.fl FloatKind.f32 x3], V.agg [A.fl FloatKind.f32 x4, A.fl FloatKind.f32 x5, A.fl FloatKind.f32 x6], V.at (A.fl FloatKind.f32 x7), V.at (A.int IntKind.i64 x8), V.at (A.int IntKind.i64 x9)] [] = bif Pure.spec_RunFalls_ok F x0 x1 x2 x3 x4 x5 x6 x7 x8 x9 then bif Pure.impl_RunFalls_ok F x0 x1 x2 x3 x4 x5 x6 x7 x8 x9 then bif Pure.laws_eqFallS_ok F (Pure.impl_RunFalls_1 F x0 x1 x2 x3 x4 x5 x6 x7 x8 x9) (Pure.spec_RunFalls_1 F x0 x1 x2 x3 x4 x5 x6 x7 x8 x9) then bif Bool.not (Pure.laws_eqFallS F (Pure.impl_RunFalls_1 F x0 x1 x2 x3 x4 x5 x6 x7 x8 x9) (Pure.spec_RunFalls_1 F x0 x1 x2 x3 x4 x5 x6 x7 x8 x9)) then some ⟨V.at (A.bool false), none, []⟩ else bif Bool.not ((Pure.impl_RunFalls F x0 x1 x2 x3 x4 x5 x6 x7 x8 x9) == (Pure.spec_RunFalls F x0 x1 x2 x3 x4 x5 x6 x7 x8 x9)) then some ⟨V.at (A.bool false), none, []⟩ else bif Pure.laws_markFallS_ok F (Pure.impl_RunFalls_1 F x0 x1 x2 x3 x4 x5 x6 x7 x8 x9) 1 then bif Pure.laws_heldFallS_ok F (Pure.laws_markFallS_1 F (Pure.impl_RunFalls_1 F x0 x1 x2 x3 x4 x5 x6 x7 x8 x9) 1) 1 then bif Decidable.decide ((Pure.laws_heldFallS F (Pure.laws_markFallS_1 F (Pure.impl_RunFalls_1 F x0 x1 x2 x3 x4 x5 x6 x7 x8 x9) 1) 1) < 0) then some ⟨V.at (A.bool false), none, []⟩ else bif (Pure.laws_heldFallS F (Pure.laws_markFallS_1 F (Pure.impl_RunFalls_1 F x0 x1 x2 x3 x4 x5 x6 x7 x8 x9) 1) 1) != (Pure.laws_markFallS F (Pure.impl_RunFalls_1 F x0 x1 x2 x3 x4 x5 x6 x7 x8 x9) 1) then some ⟨V.at (A.bool false), none, []⟩ else bif Pure.impl_RunFalls_ok F x0 x1 x2 x3 x4 x5 x6 x7 x8 x9 then bif Pure.laws_eqFallS_ok F (Pure.impl_RunFalls_1 F x0 x1 x2 x3 x4 x5 x6 x7 x8 x9) (Pure.spec_RunFalls_1 F x0 x1 x2 x3 x4 x5 x6 x7 x8 x9) then bif Bool.not (Pure.laws_eqFallS F (Pure.impl_RunFalls_1 F x0 x1 x2 x3 x4 x5 x6 x7 x8 x9) (Pure.spec_RunFalls_1 F x0 x1 x2 x3 x4 x5 x6 x7 x8 x9)) then some ⟨V.at (A.bool false), none, []⟩ else bif Bool.not ((Pure.impl_RunFalls F x0 x1 x2 x3 x4 x5 x6 x7 x8 x9) == (Pure.spec_RunFalls F x0 x1 x2 x3 x4 x5 x6 x7 x8 x9)) then some ⟨V.at (A.bool false), none, []⟩ else bif Pure.laws_heldFallS_ok F (Pure.laws_markFallS_1 F (Pure.impl_RunFalls_1 F x0 x1 x2 x3 x4 x5 x6 x7 x8 x9) 1) 1 then bif Decidable.decide ((Pure.laws_heldFallS F (Pure.laws_markFallS_1 F (Pure.impl_RunFalls_1 F x0 x1 x2 x3 x4 x5 x6 x7 x8 x9) 1) 1) < 0) then some ⟨V.at (A.bool false), none, []⟩ else bif (Pure.laws_heldFallS F (Pure.laws_markFallS_1 F (Pure.impl_RunFalls_1 F x0 x1 x2 x3 x4 x5 x6 x7 x8 x9) 1) 1) != (Pure.laws_markFallS F (Pure.impl_RunFalls_1 F x0 x1 x2 x3 x4 x5 x6 x7 x8 x9) 1) then some ⟨V.at (A.bool false), none, []⟩ else some ⟨V.at (A.bool true), none, []⟩ else none else none else none else none else none else none else none else none := by kernel_rfl
  rw [h0]
  unfold Pure.laws_FnExactRunFalls Pure.laws_FnExactRunFalls_ok
  cases (Pure.spec_RunFalls_ok F x0 x1 x2 x3 x4 x5 x6 x7 x8 x9) with
  | true =>
    cases (Pure.impl_RunFalls_ok F x0 x1 x2 x3 x4 x5 x6 x7 x8 x9) with
    | true =>
      cases (Pure.laws_eqFallS_ok F (Pure.impl_RunFalls_1 F x0 x1 x2 x3 x4 x5 x6 x7 x8 x9) (Pure.spec_RunFalls_1 F x0 x1 x2 x3 x4 x5 x6 x7 x8 x9)) with
      | true =>
        cases (Pure.laws_eqFallS F (Pure.impl_RunFalls_1 F x0 x1 x2 x3 x4 x5 x6 x7 x8 x9) (Pure.spec_RunFalls_1 F x0 x1 x2 x3 x4 x5 x6 x7 x8 x9)) with
        | true =>
          cases ((Pure.impl_RunFalls F x0 x1 x2 x3 x4 x5 x6 x7 x8 x9) == (Pure.spec_RunFalls F x0 x1 x2 x3 x4 x5 x6 x7 x8 x9)) with
          | true =>
            cases (Pure.laws_markFallS_ok F (Pure.impl_RunFalls_1 F x0 x1 x2 x3 x4 x5 x6 x7 x8 x9) 1) with
            | true =>
              cases (Pure.laws_heldFallS_ok F (Pure.laws_markFallS_1 F (Pure.impl_RunFalls_1 F x0 x1 x2 x3 x4 x5 x6 x7 x8 x9) 1) 1) with
              | true =>
                cases (Decidable.decide ((Pure.laws_heldFallS F (Pure.laws_markFallS_1 F (Pure.impl_RunFalls_1 F x0 x1 x2 x3 x4 x5 x6 x7 x8 x9) 1) 1) < 0)) with
                | true =>
                  intro _; rfl
                | false =>
                  cases ((Pure.laws_heldFallS F (Pure.laws_markFallS_1 F (Pure.impl_RunFalls_1 F x0 x1 x2 x3 x4 x5 x6 x7 x8 x9) 1) 1) != (Pure.laws_markFallS F (Pure.impl_RunFalls_1 F x0 x1 x2 x3 x4 x5 x6 x7 x8 x9) 1)) with
                  | true =>
                    intro _; rfl
                  | false =>
                    intro _; rfl
              | false =>
                intro h; exact absurd h Bool.false_ne_true
            | false =>
              intro h; exact absurd h Bool.false_ne_true
          | false =>
            intro _; rfl
        | false =>
          intro _; rfl
      | false =>
        intro h; exact absurd h Bool.false_ne_true
    | false =>
      intro h; exact absurd h Bool.false_ne_true
  | false =>
    intro h; exact absurd h Bool.false_ne_true
theorem ok_laws_FnExactRunFalls : CallOK Try.prog 14 (c_laws_FnExactRunFalls real) := by
  refine callOK_of fun args h ret hc => ?_
  unfold c_laws_FnExactRunFalls at hc
  split at hc
  · rename_i x0 x1 x2 x3 x4 x5 x6 x7 x8 x9
    obtain ⟨hok, rfl⟩ := some_ret hc
    exact holds_ev prog_ok (allOK_cons ok_laws_toTable (allOK_cons ok_laws_toFall (allOK_cons ok_spec_RunFalls (allOK_cons ok_impl_RunFalls (allOK_cons ok_laws_eqFallS (allOK_cons ok_laws_markFallS (allOK_cons ok_laws_heldFallS allOK_nil))))))) Try.func14 rfl rfl smL_nil rfl (e_laws_FnExactRunFalls real x0 x1 x2 x3 x4 x5 x6 x7 x8 x9 hok)
  · cases hc
end Go.Fx
