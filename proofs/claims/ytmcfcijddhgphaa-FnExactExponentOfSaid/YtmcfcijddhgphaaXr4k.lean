import Derived.Test.YtmcfcijddhgphaaXr4i
import Derived.KernelRfl
namespace Go.Fx
open Go.Proofs
set_option maxRecDepth 100000
def Pure.math_Inf (F : FOps) (x0 : Int) : Int := bif Decidable.decide (x0 ≥ 0) then FOps.ofBits F FloatKind.f64 9218868437227405312 else FOps.ofBits F FloatKind.f64 18442240474082181120
def c_math_Inf (F : FOps) : Con
  | [V.at (A.int IntKind.i64 x0)], [] => some (true, ⟨V.at (A.fl FloatKind.f64 (Pure.math_Inf F x0)), none, []⟩)
  | _, _ => none
theorem e_math_Inf (F : FOps) (x0 : Int) : evFn (cxS F tyl [(130, c_math_Float64frombits F)] [] [] 0) Try.f121 false [V.at (A.int IntKind.i64 x0)] [] = some ⟨V.at (A.fl FloatKind.f64 (Pure.math_Inf F x0)), none, []⟩ := by
  have h0 : evFn (cxS F tyl [(130, c_math_Float64frombits F)] [] [] 0) Try.f121 false [V.at (A.int IntKind.i64 x0)] [] = bif Decidable.decide (x0 ≥ 0) then some ⟨V.at (A.fl FloatKind.f64 (FOps.ofBits F FloatKind.f64 9218868437227405312)), none, []⟩ else some ⟨V.at (A.fl FloatKind.f64 (FOps.ofBits F FloatKind.f64 18442240474082181120)), none, []⟩ := by kernel_rfl
  rw [h0]
  unfold Pure.math_Inf
  cases (Decidable.decide (x0 ≥ 0)) with
  | true =>
    rfl
  | false =>
    rfl
theorem ok_math_Inf : CallOK Try.prog 121 (c_math_Inf real) := by
  refine callOK_of fun args h ret hc => ?_
  unfold c_math_Inf at hc
  split at hc
  · rename_i x0
    obtain ⟨_, rfl⟩ := some_ret hc
    exact holds_ev prog_ok (allOK_cons ok_math_Float64frombits allOK_nil) Try.func121 rfl rfl smL_nil rfl (e_math_Inf real x0)
  · cases hc
def Pure.spec_l01LogWide_L1 (F : FOps) : Nat → Int → Int → (Bool × Int × Int)
  | 0, _, _ => (false, 0, 0)
  | n + 1, y0, y1 => bif (FOps.cmp F BinOp.geq FloatKind.f64 y0 4609434218613702656) then (Pure.spec_l01LogWide_L1 F  n (FOps.bin F BinOp.quo FloatKind.f64 y0 4611686018427387904) (IntKind.wrap IntKind.i64 (y1 + 1))) else ((true, y0, y1))
def R_spec_l01LogWide_L1 (r : (Bool × Int × Int)) : Bool × Bool × (Ex × List V × List Ob) × (Ex × List V × List Ob) := ((r).1, false, (Ex.normal, [V.at (A.fl FloatKind.f64 (r).2.1), V.at (A.int IntKind.i64 (r).2.2)], []), (Ex.normal, [V.at (A.fl FloatKind.f64 (r).2.1), V.at (A.int IntKind.i64 (r).2.2)], []))
def S_spec_l01LogWide_L1 (F : FOps) : Sm := ⟨[0, 3], [29, 3], [0, 3], fun vals hp => match vals, hp with
  | [V.at (A.fl FloatKind.f64 y0), V.at (A.int IntKind.i64 y1)], [] => some (R_spec_l01LogWide_L1  (Pure.spec_l01LogWide_L1 F  3000 y0 y1))
  | _, _ => none⟩
theorem l_spec_l01LogWide_L1 (F : FOps) : ∀ (fuel : Nat) (y0 : Int) (y1 : Int), (Pure.spec_l01LogWide_L1 F  fuel y0 y1).1 = true → loopOf (cxS F tyl [(120, c_math_NaN F), (121, c_math_Inf F), (117, c_math_IsInf F)] [] [] 0) 0 64 1 [0, 3] [29, 3] [0, 3] (loopB 1 (codeOf Try.f101)) fuel [V.at (A.fl FloatKind.f64 y0), V.at (A.int IntKind.i64 y1)] [] = resOf (R_spec_l01LogWide_L1  (Pure.spec_l01LogWide_L1 F  fuel y0 y1)) := by
  intro fuel
  induction fuel with
  | zero => intro y0 y1 h; exact absurd h Bool.false_ne_true
  | succ n ih =>
    intro y0 y1
    have h0 : roundOf (cxS F tyl [(120, c_math_NaN F), (121, c_math_Inf F), (117, c_math_IsInf F)] [] [] 0) 0 64 1 [0, 3] [29, 3] [0, 3] (loopB 1 (codeOf Try.f101)) [V.at (A.fl FloatKind.f64 y0), V.at (A.int IntKind.i64 y1)] [] = (bif FOps.cmp F BinOp.geq FloatKind.f64 y0 4609434218613702656 then some (true, (Ex.normal, ([V.at (A.fl FloatKind.f64 (FOps.bin F BinOp.quo FloatKind.f64 y0 4611686018427387904)), V.at (A.int IntKind.i64 (IntKind.wrap IntKind.i64 (y1 + 1)))], []))) else some (false, (Ex.normal, ([V.at (A.fl FloatKind.f64 y0), V.at (A.int IntKind.i64 y1)], [])))) := by kernel_rfl
    unfold loopOf
    rw [h0]
    unfold Pure.spec_l01LogWide_L1
    cases (FOps.cmp F BinOp.geq FloatKind.f64 y0 4609434218613702656) with
    | true =>
      exact ih _ _
    | false =>
      intro _; rfl
theorem t_spec_l01LogWide_L1 : SmTo Try.prog 0 64 (S_spec_l01LogWide_L1 real) 1 (.loop (loopB 1 (codeOf Try.f101))) := by
  refine smTo_ev (cl := [(120, c_math_NaN real), (121, c_math_Inf real), (117, c_math_IsInf real)]) (ef := []) (sm := []) (un := 0) prog_ok (allOK_cons ok_math_NaN (allOK_cons ok_math_Inf (allOK_cons ok_math_IsInf allOK_nil))) smL_nil ?_
  intro vals hp q r h hq
  unfold S_spec_l01LogWide_L1 at h
  dsimp only at h
  split at h
  · rename_i y0 y1
    obtain rfl := Option.some.inj h
    have h1 := hq
    unfold resOf at h1
    rw [chk_some] at h1
    exact ⟨_, (l_spec_l01LogWide_L1 real _ y0 y1 h1.1).trans hq⟩
  · cases h
def Pure.spec_l01LogWide_L3 (F : FOps) : Nat → Int → Int → (Bool × Int × Int)
  | 0, _, _ => (false, 0, 0)
  | n + 1, y0, y1 => bif (FOps.cmp F BinOp.lss FloatKind.f64 y0 4604930618986332160) then (Pure.spec_l01LogWide_L3 F  n (FOps.bin F BinOp.mul FloatKind.f64 y0 4611686018427387904) (IntKind.wrap IntKind.i64 (y1 - 1))) else ((true, y0, y1))
def R_spec_l01LogWide_L3 (r : (Bool × Int × Int)) : Bool × Bool × (Ex × List V × List Ob) × (Ex × List V × List Ob) := ((r).1, false, (Ex.normal, [V.at (A.fl FloatKind.f64 (r).2.1), V.at (A.int IntKind.i64 (r).2.2)], []), (Ex.normal, [V.at (A.fl FloatKind.f64 (r).2.1), V.at (A.int IntKind.i64 (r).2.2)], []))
def S_spec_l01LogWide_L3 (F : FOps) : Sm := ⟨[0, 3], [29, 3], [0, 3], fun vals hp => match vals, hp with
  | [V.at (A.fl FloatKind.f64 y0), V.at (A.int IntKind.i64 y1)], [] => some (R_spec_l01LogWide_L3  (Pure.spec_l01LogWide_L3 F  3000 y0 y1))
  | _, _ => none⟩
theorem l_spec_l01LogWide_L3 (F : FOps) : ∀ (fuel : Nat) (y0 : Int) (y1 : Int), (Pure.spec_l01LogWide_L3 F  fuel y0 y1).1 = true → loopOf (cxS F tyl [(120, c_math_NaN F), (121, c_math_Inf F), (117, c_math_IsInf F)] [] [] 0) 0 64 3 [0, 3] [29, 3] [0, 3] (loopB 3 (codeOf Try.f101)) fuel [V.at (A.fl FloatKind.f64 y0), V.at (A.int IntKind.i64 y1)] [] = resOf (R_spec_l01LogWide_L3  (Pure.spec_l01LogWide_L3 F  fuel y0 y1)) := by
  intro fuel
  induction fuel with
  | zero => intro y0 y1 h; exact absurd h Bool.false_ne_true
  | succ n ih =>
    intro y0 y1
    have h0 : roundOf (cxS F tyl [(120, c_math_NaN F), (121, c_math_Inf F), (117, c_math_IsInf F)] [] [] 0) 0 64 3 [0, 3] [29, 3] [0, 3] (loopB 3 (codeOf Try.f101)) [V.at (A.fl FloatKind.f64 y0), V.at (A.int IntKind.i64 y1)] [] = (bif FOps.cmp F BinOp.lss FloatKind.f64 y0 4604930618986332160 then some (true, (Ex.normal, ([V.at (A.fl FloatKind.f64 (FOps.bin F BinOp.mul FloatKind.f64 y0 4611686018427387904)), V.at (A.int IntKind.i64 (IntKind.wrap IntKind.i64 (y1 - 1)))], []))) else some (false, (Ex.normal, ([V.at (A.fl FloatKind.f64 y0), V.at (A.int IntKind.i64 y1)], [])))) := by kernel_rfl
    unfold loopOf
    rw [h0]
    unfold Pure.spec_l01LogWide_L3
    cases (FOps.cmp F BinOp.lss FloatKind.f64 y0 4604930618986332160) with
    | true =>
      exact ih _ _
    | false =>
      intro _; rfl
theorem t_spec_l01LogWide_L3 : SmTo Try.prog 0 64 (S_spec_l01LogWide_L3 real) 3 (.loop (loopB 3 (codeOf Try.f101))) := by
  refine smTo_ev (cl := [(120, c_math_NaN real), (121, c_math_Inf real), (117, c_math_IsInf real)]) (ef := []) (sm := []) (un := 0) prog_ok (allOK_cons ok_math_NaN (allOK_cons ok_math_Inf (allOK_cons ok_math_IsInf allOK_nil))) smL_nil ?_
  intro vals hp q r h hq
  unfold S_spec_l01LogWide_L3 at h
  dsimp only at h
  split at h
  · rename_i y0 y1
    obtain rfl := Option.some.inj h
    have h1 := hq
    unfold resOf at h1
    rw [chk_some] at h1
    exact ⟨_, (l_spec_l01LogWide_L3 real _ y0 y1 h1.1).trans hq⟩
  · cases h
def Pure.spec_l01LogWide_L5 (F : FOps) (y0 : Int) (y1 : Int) (y2 : Int) : Nat → Int → Int → (Bool × Int)
  | 0, _, _ => (false, 0)
  | n + 1, y3, y4 => bif (Decidable.decide (y4 ≥ 1)) then (Pure.spec_l01LogWide_L5 F y0 y1 y2 n (FOps.bin F BinOp.add FloatKind.f64 (FOps.bin F BinOp.quo FloatKind.f64 4607182418800017408 (FOps.ofInt F FloatKind.f64 y4)) (FOps.bin F BinOp.mul FloatKind.f64 y2 y3)) (IntKind.wrap IntKind.i64 (y4 - 2))) else ((true, y3))
def R_spec_l01LogWide_L5 (y0 : Int) (y1 : Int) (r : (Bool × Int)) : Bool × Bool × (Ex × List V × List Ob) × (Ex × List V × List Ob) := ((r).1, false, (Ex.normal, [V.at (A.int IntKind.i64 y0), V.at (A.fl FloatKind.f64 y1), V.at (A.fl FloatKind.f64 (r).2)], []), (Ex.normal, [V.at (A.int IntKind.i64 y0), V.at (A.fl FloatKind.f64 y1), V.at (A.fl FloatKind.f64 (r).2)], []))
def S_spec_l01LogWide_L5 (F : FOps) : Sm := ⟨[3, 4, 5, 6, 7], [3, 29, 29, 29, 3], [3, 4, 6], fun vals hp => match vals, hp with
  | [V.at (A.int IntKind.i64 y0), V.at (A.fl FloatKind.f64 y1), V.at (A.fl FloatKind.f64 y2), V.at (A.fl FloatKind.f64 y3), V.at (A.int IntKind.i64 y4)], [] => some (R_spec_l01LogWide_L5 y0 y1 (Pure.spec_l01LogWide_L5 F y0 y1 y2 (y4 - 1 + 2).toNat y3 y4))
  | _, _ => none⟩
theorem l_spec_l01LogWide_L5 (F : FOps) (y0 : Int) (y1 : Int) (y2 : Int) : ∀ (fuel : Nat) (y3 : Int) (y4 : Int), (Pure.spec_l01LogWide_L5 F y0 y1 y2 fuel y3 y4).1 = true → loopOf (cxS F tyl [(120, c_math_NaN F), (121, c_math_Inf F), (117, c_math_IsInf F)] [] [] 0) 0 64 5 [3, 4, 5, 6, 7] [3, 29, 29, 29, 3] [3, 4, 6] (loopB 5 (codeOf Try.f101)) fuel [V.at (A.int IntKind.i64 y0), V.at (A.fl FloatKind.f64 y1), V.at (A.fl FloatKind.f64 y2), V.at (A.fl FloatKind.f64 y3), V.at (A.int IntKind.i64 y4)] [] = resOf (R_spec_l01LogWide_L5 y0 y1 (Pure.spec_l01LogWide_L5 F y0 y1 y2 fuel y3 y4)) := by
  intro fuel
  induction fuel with
  | zero => intro y3 y4 h; exact absurd h Bool.false_ne_true
  | succ n ih =>
    intro y3 y4
    have h0 : roundOf (cxS F tyl [(120, c_math_NaN F), (121, c_math_Inf F), (117, c_math_IsInf F)] [] [] 0) 0 64 5 [3, 4, 5, 6, 7] [3, 29, 29, 29, 3] [3, 4, 6] (loopB 5 (codeOf Try.f101)) [V.at (A.int IntKind.i64 y0), V.at (A.fl FloatKind.f64 y1), V.at (A.fl FloatKind.f64 y2), V.at (A.fl FloatKind.f64 y3), V.at (A.int IntKind.i64 y4)] [] = (bif Decidable.decide (y4 ≥ 1) then some (true, (Ex.normal, ([V.at (A.int IntKind.i64 y0), V.at (A.fl FloatKind.f64 y1), V.at (A.fl FloatKind.f64 y2), V.at (A.fl FloatKind.f64 (FOps.bin F BinOp.add FloatKind.f64 (FOps.bin F BinOp.quo FloatKind.f64 4607182418800017408 (FOps.ofInt F FloatKind.f64 y4)) (FOps.bin F BinOp.mul FloatKind.f64 y2 y3))), V.at (A.int IntKind.i64 (IntKind.wrap IntKind.i64 (y4 - 2)))], []))) else some (false, (Ex.normal, ([V.at (A.int IntKind.i64 y0), V.at (A.fl FloatKind.f64 y1), V.at (A.fl FloatKind.f64 y3)], [])))) := by kernel_rfl
    unfold loopOf
    rw [h0]
    unfold Pure.spec_l01LogWide_L5
    cases (Decidable.decide (y4 ≥ 1)) with
    | true =>
      exact ih _ _
    | false =>
      intro _; rfl
theorem t_spec_l01LogWide_L5 : SmTo Try.prog 0 64 (S_spec_l01LogWide_L5 real) 5 (.loop (loopB 5 (codeOf Try.f101))) := by
  refine smTo_ev (cl := [(120, c_math_NaN real), (121, c_math_Inf real), (117, c_math_IsInf real)]) (ef := []) (sm := []) (un := 0) prog_ok (allOK_cons ok_math_NaN (allOK_cons ok_math_Inf (allOK_cons ok_math_IsInf allOK_nil))) smL_nil ?_
  intro vals hp q r h hq
  unfold S_spec_l01LogWide_L5 at h
  dsimp only at h
  split at h
  · rename_i y0 y1 y2 y3 y4
    obtain rfl := Option.some.inj h
    have h1 := hq
    unfold resOf at h1
    rw [chk_some] at h1
    exact ⟨_, (l_spec_l01LogWide_L5 real y0 y1 y2 _ y3 y4 h1.1).trans hq⟩
  · cases h
def Pure.spec_l01LogWide (F : FOps) (x0 : Int) : Int := bif FOps.cmp F BinOp.neq FloatKind.f64 x0 x0 then FOps.ofBits F FloatKind.f64 9221120237041090561 else bif FOps.cmp F BinOp.lss FloatKind.f64 x0 0 then FOps.ofBits F FloatKind.f64 9221120237041090561 else bif FOps.cmp F BinOp.eql FloatKind.f64 x0 0 then Pure.math_Inf F (-1) else bif Pure.math_IsInf F x0 1 then x0 else FOps.bin F BinOp.add FloatKind.f64 (FOps.bin F BinOp.mul FloatKind.f64 4611686018427387904 (FOps.bin F BinOp.mul FloatKind.f64 (FOps.bin F BinOp.quo FloatKind.f64 (FOps.bin F BinOp.sub FloatKind.f64 (Prod.fst (Prod.snd (Pure.spec_l01LogWide_L3 F 3000 (Prod.fst (Prod.snd (Pure.spec_l01LogWide_L1 F 3000 x0 0))) (Prod.snd (Prod.snd (Pure.spec_l01LogWide_L1 F 3000 x0 0)))))) 4607182418800017408) (FOps.bin F BinOp.add FloatKind.f64 (Prod.fst (Prod.snd (Pure.spec_l01LogWide_L3 F 3000 (Prod.fst (Prod.snd (Pure.spec_l01LogWide_L1 F 3000 x0 0))) (Prod.snd (Prod.snd (Pure.spec_l01LogWide_L1 F 3000 x0 0)))))) 4607182418800017408)) (Prod.snd (Pure.spec_l01LogWide_L5 F (Prod.snd (Prod.snd (Pure.spec_l01LogWide_L3 F 3000 (Prod.fst (Prod.snd (Pure.spec_l01LogWide_L1 F 3000 x0 0))) (Prod.snd (Prod.snd (Pure.spec_l01LogWide_L1 F 3000 x0 0)))))) (FOps.bin F BinOp.quo FloatKind.f64 (FOps.bin F BinOp.sub FloatKind.f64 (Prod.fst (Prod.snd (Pure.spec_l01LogWide_L3 F 3000 (Prod.fst (Prod.snd (Pure.spec_l01LogWide_L1 F 3000 x0 0))) (Prod.snd (Prod.snd (Pure.spec_l01LogWide_L1 F 3000 x0 0)))))) 4607182418800017408) (FOps.bin F BinOp.add FloatKind.f64 (Prod.fst (Prod.snd (Pure.spec_l01LogWide_L3 F 3000 (Prod.fst (Prod.snd (Pure.spec_l01LogWide_L1 F 3000 x0 0))) (Prod.snd (Prod.snd (Pure.spec_l01LogWide_L1 F 3000 x0 0)))))) 4607182418800017408)) (FOps.bin F BinOp.mul FloatKind.f64 (FOps.bin F BinOp.quo FloatKind.f64 (FOps.bin F BinOp.sub FloatKind.f64 (Prod.fst (Prod.snd (Pure.spec_l01LogWide_L3 F 3000 (Prod.fst (Prod.snd (Pure.spec_l01LogWide_L1 F 3000 x0 0))) (Prod.snd (Prod.snd (Pure.spec_l01LogWide_L1 F 3000 x0 0)))))) 4607182418800017408) (FOps.bin F BinOp.add FloatKind.f64 (Prod.fst (Prod.snd (Pure.spec_l01LogWide_L3 F 3000 (Prod.fst (Prod.snd (Pure.spec_l01LogWide_L1 F 3000 x0 0))) (Prod.snd (Prod.snd (Pure.spec_l01LogWide_L1 F 3000 x0 0)))))) 4607182418800017408)) (FOps.bin F BinOp.quo FloatKind.f64 (FOps.bin F BinOp.sub FloatKind.f64 (Prod.fst (Prod.snd (Pure.spec_l01LogWide_L3 F 3000 (Prod.fst (Prod.snd (Pure.spec_l01LogWide_L1 F 3000 x0 0))) (Prod.snd (Prod.snd (Pure.spec_l01LogWide_L1 F 3000 x0 0)))))) 4607182418800017408) (FOps.bin F BinOp.add FloatKind.f64 (Prod.fst (Prod.snd (Pure.spec_l01LogWide_L3 F 3000 (Prod.fst (Prod.snd (Pure.spec_l01LogWide_L1 F 3000 x0 0))) (Prod.snd (Prod.snd (Pure.spec_l01LogWide_L1 F 3000 x0 0)))))) 4607182418800017408))) 26 0 25)))) (FOps.bin F BinOp.mul FloatKind.f64 (FOps.ofInt F FloatKind.f64 (Prod.snd (Prod.snd (Pure.spec_l01LogWide_L3 F 3000 (Prod.fst (Prod.snd (Pure.spec_l01LogWide_L1 F 3000 x0 0))) (Prod.snd (Prod.snd (Pure.spec_l01LogWide_L1 F 3000 x0 0))))))) 4604418534313441775)
def Pure.spec_l01LogWide_ok (F : FOps) (x0 : Int) : Bool := bif FOps.cmp F BinOp.neq FloatKind.f64 x0 x0 then true else bif FOps.cmp F BinOp.lss FloatKind.f64 x0 0 then true else bif FOps.cmp F BinOp.eql FloatKind.f64 x0 0 then true else bif Pure.math_IsInf F x0 1 then true else bif Prod.fst (Pure.spec_l01LogWide_L1 F 3000 x0 0) then bif Prod.fst (Pure.spec_l01LogWide_L3 F 3000 (Prod.fst (Prod.snd (Pure.spec_l01LogWide_L1 F 3000 x0 0))) (Prod.snd (Prod.snd (Pure.spec_l01LogWide_L1 F 3000 x0 0)))) then Prod.fst (Pure.spec_l01LogWide_L5 F (Prod.snd (Prod.snd (Pure.spec_l01LogWide_L3 F 3000 (Prod.fst (Prod.snd (Pure.spec_l01LogWide_L1 F 3000 x0 0))) (Prod.snd (Prod.snd (Pure.spec_l01LogWide_L1 F 3000 x0 0)))))) (FOps.bin F BinOp.quo FloatKind.f64 (FOps.bin F BinOp.sub FloatKind.f64 (Prod.fst (Prod.snd (Pure.spec_l01LogWide_L3 F 3000 (Prod.fst (Prod.snd (Pure.spec_l01LogWide_L1 F 3000 x0 0))) (Prod.snd (Prod.snd (Pure.spec_l01LogWide_L1 F 3000 x0 0)))))) 4607182418800017408) (FOps.bin F BinOp.add FloatKind.f64 (Prod.fst (Prod.snd (Pure.spec_l01LogWide_L3 F 3000 (Prod.fst (Prod.snd (Pure.spec_l01LogWide_L1 F 3000 x0 0))) (Prod.snd (Prod.snd (Pure.spec_l01LogWide_L1 F 3000 x0 0)))))) 4607182418800017408)) (FOps.bin F BinOp.mul FloatKind.f64 (FOps.bin F BinOp.quo FloatKind.f64 (FOps.bin F BinOp.sub FloatKind.f64 (Prod.fst (Prod.snd (Pure.spec_l01LogWide_L3 F 3000 (Prod.fst (Prod.snd (Pure.spec_l01LogWide_L1 F 3000 x0 0))) (Prod.snd (Prod.snd (Pure.spec_l01LogWide_L1 F 3000 x0 0)))))) 4607182418800017408) (FOps.bin F BinOp.add FloatKind.f64 (Prod.fst (Prod.snd (Pure.spec_l01LogWide_L3 F 3000 (Prod.fst (Prod.snd (Pure.spec_l01LogWide_L1 F 3000 x0 0))) (Prod.snd (Prod.snd (Pure.spec_l01LogWide_L1 F 3000 x0 0)))))) 4607182418800017408)) (FOps.bin F BinOp.quo FloatKind.f64 (FOps.bin F BinOp.sub FloatKind.f64 (Prod.fst (Prod.snd (Pure.spec_l01LogWide_L3 F 3000 (Prod.fst (Prod.snd (Pure.spec_l01LogWide_L1 F 3000 x0 0))) (Prod.snd (Prod.snd (Pure.spec_l01LogWide_L1 F 3000 x0 0)))))) 4607182418800017408) (FOps.bin F BinOp.add FloatKind.f64 (Prod.fst (Prod.snd (Pure.spec_l01LogWide_L3 F 3000 (Prod.fst (Prod.snd (Pure.spec_l01LogWide_L1 F 3000 x0 0))) (Prod.snd (Prod.snd (Pure.spec_l01LogWide_L1 F 3000 x0 0)))))) 4607182418800017408))) 26 0 25) else false else false
def c_spec_l01LogWide (F : FOps) : Con
  | [V.at (A.fl FloatKind.f64 x0)], [] => some (Pure.spec_l01LogWide_ok F x0, ⟨V.at (A.fl FloatKind.f64 (Pure.spec_l01LogWide F x0)), none, []⟩)
  | _, _ => none
theorem e_spec_l01LogWide (F : FOps) (x0 : Int) : Pure.spec_l01LogWide_ok F x0 = true → evFn (cxS F tyl [(120, c_math_NaN F), (121, c_math_Inf F), (117, c_math_IsInf F)] [] [(1, S_spec_l01LogWide_L1 F), (3, S_spec_l01LogWide_L3 F), (5, S_spec_l01LogWide_L5 F)] 0) Try.f101 false [V.at (A.fl FloatKind.f64 x0)] [] = some ⟨V.at (A.fl FloatKind.f64 (Pure.spec_l01LogWide F x0)), none, []⟩ := by
  have h0 : evFn (cxS F tyl [(120, c_math_NaN F), (121, c_math_Inf F), (117, c_math_IsInf F)] [] [(1, S_spec_l01LogWide_L1 F), (3, S_spec_l01LogWide_L3 F), (5, S_spec_l01LogWide_L5 F)] 0) Try.f101 false [V.at (A.fl FloatKind.f64 x0)] [] = bif FOps.cmp F BinOp.neq FloatKind.f64 x0 x0 then some ⟨V.at (A.fl FloatKind.f64 (FOps.ofBits F FloatKind.f64 9221120237041090561)), none, []⟩ else bif FOps.cmp F BinOp.lss FloatKind.f64 x0 0 then some ⟨V.at (A.fl FloatKind.f64 (FOps.ofBits F FloatKind.f64 9221120237041090561)), none, []⟩ else bif FOps.cmp F BinOp.eql FloatKind.f64 x0 0 then some ⟨V.at (A.fl FloatKind.f64 (Pure.math_Inf F (-1))), none, []⟩ else bif Pure.math_IsInf F x0 1 then some ⟨V.at (A.fl FloatKind.f64 x0), none, []⟩ else bif Prod.fst (Pure.spec_l01LogWide_L1 F 3000 x0 0) then bif Prod.fst (Pure.spec_l01LogWide_L3 F 3000 (Prod.fst (Prod.snd (Pure.spec_l01LogWide_L1 F 3000 x0 0))) (Prod.snd (Prod.snd (Pure.spec_l01LogWide_L1 F 3000 x0 0)))) then bif Prod.fst (Pure.spec_l01LogWide_L5 F (Prod.snd (Prod.snd (Pure.spec_l01LogWide_L3 F 3000 (Prod.fst (Prod.snd (Pure.spec_l01LogWide_L1 F 3000 x0 0))) (Prod.snd (Prod.snd (Pure.spec_l01LogWide_L1 F 3000 x0 0)))))) (FOps.bin F BinOp.quo FloatKind.f64 (FOps.bin F BinOp.sub FloatKind.f64 (Prod.fst (Prod.snd (Pure.spec_l01LogWide_L3 F 3000 (Prod.fst (Prod.snd (Pure.spec_l01LogWide_L1 F 3000 x0 0))) (Prod.snd (Prod.snd (Pure.spec_l01LogWide_L1 F 3000 x0 0)))))) 4607182418800017408) (FOps.bin F BinOp.add FloatKind.f64 (Prod.fst (Prod.snd (Pure.spec_l01LogWide_L3 F 3000 (Prod.fst (Prod.snd (Pure.spec_l01LogWide_L1 F 3000 x0 0))) (Prod.snd (Prod.snd (Pure.spec_l01LogWide_L1 F 3000 x0 0)))))) 4607182418800017408)) (FOps.bin F BinOp.mul FloatKind.f64 (FOps.bin F BinOp.quo FloatKind.f64 (FOps.bin F BinOp.sub FloatKind.f64 (Prod.fst (Prod.snd (Pure.spec_l01LogWide_L3 F 3000 (Prod.fst (Prod.snd (Pure.spec_l01LogWide_L1 F 3000 x0 0))) (Prod.snd (Prod.snd (Pure.spec_l01LogWide_L1 F 3000 x0 0)))))) 4607182418800017408) (FOps.bin F BinOp.add FloatKind.f64 (Prod.fst (Prod.snd (Pure.spec_l01LogWide_L3 F 3000 (Prod.fst (Prod.snd (Pure.spec_l01LogWide_L1 F 3000 x0 0))) (Prod.snd (Prod.snd (Pure.spec_l01LogWide_L1 F 3000 x0 0)))))) 4607182418800017408)) (FOps.bin F BinOp.quo FloatKind.f64 (FOps.bin F BinOp.sub FloatKind.f64 (Prod.fst (Prod.snd (Pure.spec_l01LogWide_L3 F 3000 (Prod.fst (Prod.snd (Pure.spec_l01LogWide_L1 F 3000 x0 0))) (Prod.snd (Prod.snd (Pure.spec_l01LogWide_L1 F 3000 x0 0)))))) 4607182418800017408) (FOps.bin F BinOp.add FloatKind.f64 (Prod.fst (Prod.snd (Pure.spec_l01LogWide_L3 F 3000 (Prod.fst (Prod.snd (Pure.spec_l01LogWide_L1 F 3000 x0 0))) (Prod.snd (Prod.snd (Pure.spec_l01LogWide_L1 F 3000 x0 0)))))) 4607182418800017408))) 26 0 25) then some ⟨V.at (A.fl FloatKind.f64 (FOps.bin F BinOp.add FloatKind.f64 (FOps.bin F BinOp.mul FloatKind.f64 4611686018427387904 (FOps.bin F BinOp.mul FloatKind.f64 (FOps.bin F BinOp.quo FloatKind.f64 (FOps.bin F BinOp.sub FloatKind.f64 (Prod.fst (Prod.snd (Pure.spec_l01LogWide_L3 F 3000 (Prod.fst (Prod.snd (Pure.spec_l01LogWide_L1 F 3000 x0 0))) (Prod.snd (Prod.snd (Pure.spec_l01LogWide_L1 F 3000 x0 0)))))) 4607182418800017408) (FOps.bin F BinOp.add FloatKind.f64 (Prod.fst (Prod.snd (Pure.spec_l01LogWide_L3 F 3000 (Prod.fst (Prod.snd (Pure.spec_l01LogWide_L1 F 3000 x0 0))) (Prod.snd (Prod.snd (Pure.spec_l01LogWide_L1 F 3000 x0 0)))))) 4607182418800017408)) (Prod.snd (Pure.spec_l01LogWide_L5 F (Prod.snd (Prod.snd (Pure.spec_l01LogWide_L3 F 3000 (Prod.fst (Prod.snd (Pure.spec_l01LogWide_L1 F 3000 x0 0))) (Prod.snd (Prod.snd (Pure.spec_l01LogWide_L1 F 3000 x0 0)))))) (FOps.bin F BinOp.quo FloatKind.f64 (FOps.bin F BinOp.sub FloatKind.f64 (Prod.fst (Prod.snd (Pure.spec_l01LogWide_L3 F 3000 (Prod.fst (Prod.snd (Pure.spec_l01LogWide_L1 F 3000 x0 0))) (Prod.snd (Prod.snd (Pure.spec_l01LogWide_L1 F 3000 x0 0)))))) 4607182418800017408) (FOps.bin F BinOp.add FloatKind.f64 (Prod.fst (Prod.snd (Pure.spec_l01LogWide_L3 F 3000 (Prod.fst (Prod.snd (Pure.spec_l01LogWide_L1 F 3000 x0 0))) (Prod.snd (Prod.snd (Pure.spec_l01LogWide_L1 F 3000 x0 0)))))) 4607182418800017408)) (FOps.bin F BinOp.mul FloatKind.f64 (FOps.bin F BinOp.quo FloatKind.f64 (FOps.bin F BinOp.sub FloatKind.f64 (Prod.fst (Prod.snd (Pure.spec_l01LogWide_L3 F 3000 (Prod.fst (Prod.snd (Pure.spec_l01LogWide_L1 F 3000 x0 0))) (Prod.snd (Prod.snd (Pure.spec_l01LogWide_L1 F 3000 x0 0)))))) 4607182418800017408) (FOps.bin F BinOp.add FloatKind.f64 (Prod.fst (Prod.snd (Pure.spec_l01LogWide_L3 F 3000 (Prod.fst (Prod.snd (Pure.spec_l01LogWide_L1 F 3000 x0 0))) (Prod.snd (Prod.snd (Pure.spec_l01LogWide_L1 F 3000 x0 0)))))) 4607182418800017408)) (FOps.bin F BinOp.quo FloatKind.f64 (FOps.bin F BinOp.sub FloatKind.f64 (Prod.fst (Prod.snd (Pure.spec_l01LogWide_L3 F 3000 (Prod.fst (Prod.snd (Pure.spec_l01LogWide_L1 F 3000 x0 0))) (Prod.snd (Prod.snd (Pure.spec_l01LogWide_L1 F 3000 x0 0)))))) 4607182418800017408) (FOps.bin F BinOp.add FloatKind.f64 (Prod.fst (Prod.snd (Pure.spec_l01LogWide_L3 F 3000 (Prod.fst (Prod.snd (Pure.spec_l01LogWide_L1 F 3000 x0 0))) (Prod.snd (Prod.snd (Pure.spec_l01LogWide_L1 F 3000 x0 0)))))) 4607182418800017408))) 26 0 25)))) (FOps.bin F BinOp.mul FloatKind.f64 (FOps.ofInt F FloatKind.f64 (Prod.snd (Prod.snd (Pure.spec_l01LogWide_L3 F 3000 (Prod.fst (Prod.snd (Pure.spec_l01LogWide_L1 F 3000 x0 0))) (Prod.snd (Prod.snd (Pure.spec_l01LogWide_L1 F 3000 x0 0))))))) 4604418534313441775))), none, []⟩ else none else none else none := by kernel_rfl
  rw [h0]
  unfold Pure.spec_l01LogWide Pure.spec_l01LogWide_ok
  cases (FOps.cmp F BinOp.neq FloatKind.f64 x0 x0) with
  | true =>
    intro _; rfl
  | false =>
    cases (FOps.cmp F BinOp.lss FloatKind.f64 x0 0) with
    | true =>
      intro _; rfl
    | false =>
      cases (FOps.cmp F BinOp.eql FloatKind.f64 x0 0) with
      | true =>
        intro _; rfl
      | false =>
        cases (Pure.math_IsInf F x0 1) with
        | true =>
          intro _; rfl
        | false =>
          cases (Prod.fst (Pure.spec_l01LogWide_L1 F 3000 x0 0)) with
          | true =>
            cases (Prod.fst (Pure.spec_l01LogWide_L3 F 3000 (Prod.fst (Prod.snd (Pure.spec_l01LogWide_L1 F 3000 x0 0))) (Prod.snd (Prod.snd (Pure.spec_l01LogWide_L1 F 3000 x0 0))))) with
            | true =>
              cases (Prod.fst (Pure.spec_l01LogWide_L5 F (Prod.snd (Prod.snd (Pure.spec_l01LogWide_L3 F 3000 (Prod.fst (Prod.snd (Pure.spec_l01LogWide_L1 F 3000 x0 0))) (Prod.snd (Prod.snd (Pure.spec_l01LogWide_L1 F 3000 x0 0)))))) (FOps.bin F BinOp.quo FloatKind.f64 (FOps.bin F BinOp.sub FloatKind.f64 (Prod.fst (Prod.snd (Pure.spec_l01LogWide_L3 F 3000 (Prod.fst (Prod.snd (Pure.spec_l01LogWide_L1 F 3000 x0 0))) (Prod.snd (Prod.snd (Pure.spec_l01LogWide_L1 F 3000 x0 0)))))) 4607182418800017408) (FOps.bin F BinOp.add FloatKind.f64 (Prod.fst (Prod.snd (Pure.spec_l01LogWide_L3 F 3000 (Prod.fst (Prod.snd (Pure.spec_l01LogWide_L1 F 3000 x0 0))) (Prod.snd (Prod.snd (Pure.spec_l01LogWide_L1 F 3000 x0 0)))))) 4607182418800017408)) (FOps.bin F BinOp.mul FloatKind.f64 (FOps.bin F BinOp.quo FloatKind.f64 (FOps.bin F BinOp.sub FloatKind.f64 (Prod.fst (Prod.snd (Pure.spec_l01LogWide_L3 F 3000 (Prod.fst (Prod.snd (Pure.spec_l01LogWide_L1 F 3000 x0 0))) (Prod.snd (Prod.snd (Pure.spec_l01LogWide_L1 F 3000 x0 0)))))) 4607182418800017408) (FOps.bin F BinOp.add FloatKind.f64 (Prod.fst (Prod.snd (Pure.spec_l01LogWide_L3 F 3000 (Prod.fst (Prod.snd (Pure.spec_l01LogWide_L1 F 3000 x0 0))) (Prod.snd (Prod.snd (Pure.spec_l01LogWide_L1 F 3000 x0 0)))))) 4607182418800017408)) (FOps.bin F BinOp.quo FloatKind.f64 (FOps.bin F BinOp.sub FloatKind.f64 (Prod.fst (Prod.snd (Pure.spec_l01LogWide_L3 F 3000 (Prod.fst (Prod.snd (Pure.spec_l01LogWide_L1 F 3000 x0 0))) (Prod.snd (Prod.snd (Pure.spec_l01LogWide_L1 F 3000 x0 0)))))) 4607182418800017408) (FOps.bin F BinOp.add FloatKind.f64 (Prod.fst (Prod.snd (Pure.spec_l01LogWide_L3 F 3000 (Prod.fst (Prod.snd (Pure.spec_l01LogWide_L1 F 3000 x0 0))) (Prod.snd (Prod.snd (Pure.spec_l01LogWide_L1 F 3000 x0 0)))))) 4607182418800017408))) 26 0 25)) with
              | true =>
                intro _; rfl
              | false =>
                intro h; exact absurd h Bool.false_ne_true
            | false =>
              intro h; exact absurd h Bool.false_ne_true
          | false =>
            intro h; exact absurd h Bool.false_ne_true
theorem ok_spec_l01LogWide : CallOK Try.prog 101 (c_spec_l01LogWide real) := by
  refine callOK_of fun args h ret hc => ?_
  unfold c_spec_l01LogWide at hc
  split at hc
  · rename_i x0
    obtain ⟨hok, rfl⟩ := some_ret hc
    exact holds_ev prog_ok (allOK_cons ok_math_NaN (allOK_cons ok_math_Inf (allOK_cons ok_math_IsInf allOK_nil))) Try.func101 rfl rfl (smL_cons (body := .loop (loopB 1 (codeOf Try.f101))) (by kernel_rfl) t_spec_l01LogWide_L1 (smL_cons (body := .loop (loopB 3 (codeOf Try.f101))) (by kernel_rfl) t_spec_l01LogWide_L3 (smL_cons (body := .loop (loopB 5 (codeOf Try.f101))) (by kernel_rfl) t_spec_l01LogWide_L5 smL_nil))) rfl (e_spec_l01LogWide real x0 hok)
  · cases hc
def Pure.spec_l01Log (F : FOps) (x0 : Int) : Int := Pure.spec_l01Narrow F (Pure.spec_l01LogWide F (FOps.conv F FloatKind.f32 FloatKind.f64 x0))
def Pure.spec_l01Log_ok (F : FOps) (x0 : Int) : Bool := bif FOps.convOk F FloatKind.f32 FloatKind.f64 x0 then bif Pure.spec_l01LogWide_ok F (FOps.conv F FloatKind.f32 FloatKind.f64 x0) then Pure.spec_l01Narrow_ok F (Pure.spec_l01LogWide F (FOps.conv F FloatKind.f32 FloatKind.f64 x0)) else false else false
def c_spec_l01Log (F : FOps) : Con
  | [V.at (A.fl FloatKind.f32 x0)], [] => some (Pure.spec_l01Log_ok F x0, ⟨V.at (A.fl FloatKind.f32 (Pure.spec_l01Log F x0)), none, []⟩)
  | _, _ => none
theorem e_spec_l01Log (F : FOps) (x0 : Int) : Pure.spec_l01Log_ok F x0 = true → evFn (cxS F tyl [(101, c_spec_l01LogWide F), (100, c_spec_l01Narrow F)] [] [] 0) Try.f58 false [V.at (A.fl FloatKind.f32 x0)] [] = some ⟨V.at (A.fl FloatKind.f32 (Pure.spec_l01Log F x0)), none, []⟩ := by
  have h0 : evFn (cxS F tyl [(101, c_spec_l01LogWide F), (100, c_spec_l01Narrow F)] [] [] 0) Try.f58 false [V.at (A.fl FloatKind.f32 x0)] [] = bif FOps.convOk F FloatKind.f32 FloatKind.f64 x0 then bif Pure.spec_l01LogWide_ok F (FOps.conv F FloatKind.f32 FloatKind.f64 x0) then bif Pure.spec_l01Narrow_ok F (Pure.spec_l01LogWide F (FOps.conv F FloatKind.f32 FloatKind.f64 x0)) then some ⟨V.at (A.fl FloatKind.f32 (Pure.spec_l01Narrow F (Pure.spec_l01LogWide F (FOps.conv F FloatKind.f32 FloatKind.f64 x0)))), none, []⟩ else none else none else none := by kernel_rfl
  rw [h0]
  unfold Pure.spec_l01Log Pure.spec_l01Log_ok
  cases (FOps.convOk F FloatKind.f32 FloatKind.f64 x0) with
  | true =>
    cases (Pure.spec_l01LogWide_ok F (FOps.conv F FloatKind.f32 FloatKind.f64 x0)) with
    | true =>
      cases (Pure.spec_l01Narrow_ok F (Pure.spec_l01LogWide F (FOps.conv F FloatKind.f32 FloatKind.f64 x0))) with
      | true =>
        intro _; rfl
      | false =>
        intro h; exact absurd h Bool.false_ne_true
    | false =>
      intro h; exact absurd h Bool.false_ne_true
  | false =>
    intro h; exact absurd h Bool.false_ne_true
theorem ok_spec_l01Log : CallOK Try.prog 58 (c_spec_l01Log real) := by
  refine callOK_of fun args h ret hc => ?_
  unfold c_spec_l01Log at hc
  split at hc
  · rename_i x0
    obtain ⟨hok, rfl⟩ := some_ret hc
    exact holds_ev prog_ok (allOK_cons ok_spec_l01LogWide (allOK_cons ok_spec_l01Narrow allOK_nil)) Try.func58 rfl rfl smL_nil rfl (e_spec_l01Log real x0 hok)
  · cases hc
def Pure.impl_toldNumber (F : FOps) (x0 : Int) : Int := bif Pure.impl_IsFinite F x0 then x0 else 0
def c_impl_toldNumber (F : FOps) : Con
  | [V.at (A.fl FloatKind.f32 x0)], [] => some (true, ⟨V.tup [(false, [A.fl FloatKind.f32 (Pure.impl_toldNumber F x0)]), (false, [A.bool (Pure.impl_IsFinite F x0)])], none, []⟩)
  | _, _ => none
theorem e_impl_toldNumber (F : FOps) (x0 : Int) : evFn (cxS F tyl [(47, c_impl_IsFinite F)] [] [] 0) Try.f53 false [V.at (A.fl FloatKind.f32 x0)] [] = some ⟨V.tup [(false, [A.fl FloatKind.f32 (Pure.impl_toldNumber F x0)]), (false, [A.bool (Pure.impl_IsFinite F x0)])], none, []⟩ := by
  have h0 : evFn (cxS F tyl [(47, c_impl_IsFinite F)] [] [] 0) Try.f53 false [V.at (A.fl FloatKind.f32 x0)] [] = bif Bool.not (Pure.impl_IsFinite F x0) then some ⟨V.tup [(false, [A.fl FloatKind.f32 0]), (false, [A.bool false])], none, []⟩ else some ⟨V.tup [(false, [A.fl FloatKind.f32 x0]), (false, [A.bool true])], none, []⟩ := by kernel_rfl
  rw [h0]
  unfold Pure.impl_toldNumber
  cases (Pure.impl_IsFinite F x0) with
  | true =>
    rfl
  | false =>
    rfl
theorem ok_impl_toldNumber : CallOK Try.prog 53 (c_impl_toldNumber real) := by
  refine callOK_of fun args h ret hc => ?_
  unfold c_impl_toldNumber at hc
  split at hc
  · rename_i x0
    obtain ⟨_, rfl⟩ := some_ret hc
    exact holds_ev prog_ok (allOK_cons ok_impl_IsFinite allOK_nil) Try.func53 rfl rfl smL_nil rfl (e_impl_toldNumber real x0)
  · cases hc
def Pure.impl_logOf_L1 (F : FOps) : Nat → Int → Int → (Bool × Int × Int)
  | 0, _, _ => (false, 0, 0)
  | n + 1, y0, y1 => bif (FOps.cmp F BinOp.lss FloatKind.f64 y0 4604930618986332160) then (Pure.impl_logOf_L1 F  n (FOps.bin F BinOp.mul FloatKind.f64 y0 4611686018427387904) (FOps.bin F BinOp.sub FloatKind.f64 y1 4607182418800017408)) else ((true, y0, y1))
def R_impl_logOf_L1 (r : (Bool × Int × Int)) : Bool × Bool × (Ex × List V × List Ob) × (Ex × List V × List Ob) := ((r).1, false, (Ex.normal, [V.at (A.fl FloatKind.f64 (r).2.1), V.at (A.fl FloatKind.f64 (r).2.2)], []), (Ex.normal, [V.at (A.fl FloatKind.f64 (r).2.1), V.at (A.fl FloatKind.f64 (r).2.2)], []))
def S_impl_logOf_L1 (F : FOps) : Sm := ⟨[0, 3], [29, 29], [0, 3], fun vals hp => match vals, hp with
  | [V.at (A.fl FloatKind.f64 y0), V.at (A.fl FloatKind.f64 y1)], [] => some (R_impl_logOf_L1  (Pure.impl_logOf_L1 F  3000 y0 y1))
  | _, _ => none⟩
theorem l_impl_logOf_L1 (F : FOps) : ∀ (fuel : Nat) (y0 : Int) (y1 : Int), (Pure.impl_logOf_L1 F  fuel y0 y1).1 = true → loopOf (cxS F tyl [(120, c_math_NaN F), (121, c_math_Inf F)] [] [] 0) 0 63 1 [0, 3] [29, 29] [0, 3] (loopB 1 (codeOf Try.f98)) fuel [V.at (A.fl FloatKind.f64 y0), V.at (A.fl FloatKind.f64 y1)] [] = resOf (R_impl_logOf_L1  (Pure.impl_logOf_L1 F  fuel y0 y1)) := by
  intro fuel
  induction fuel with
  | zero => intro y0 y1 h; exact absurd h Bool.false_ne_true
  | succ n ih =>
    intro y0 y1
    have h0 : roundOf (cxS F tyl [(120, c_math_NaN F), (121, c_math_Inf F)] [] [] 0) 0 63 1 [0, 3] [29, 29] [0, 3] (loopB 1 (codeOf Try.f98)) [V.at (A.fl FloatKind.f64 y0), V.at (A.fl FloatKind.f64 y1)] [] = (bif FOps.cmp F BinOp.lss FloatKind.f64 y0 4604930618986332160 then some (true, (Ex.normal, ([V.at (A.fl FloatKind.f64 (FOps.bin F BinOp.mul FloatKind.f64 y0 4611686018427387904)), V.at (A.fl FloatKind.f64 (FOps.bin F BinOp.sub FloatKind.f64 y1 4607182418800017408))], []))) else some (false, (Ex.normal, ([V.at (A.fl FloatKind.f64 y0), V.at (A.fl FloatKind.f64 y1)], [])))) := by kernel_rfl
    unfold loopOf
    rw [h0]
    unfold Pure.impl_logOf_L1
    cases (FOps.cmp F BinOp.lss FloatKind.f64 y0 4604930618986332160) with
    | true =>
      exact ih _ _
    | false =>
      intro _; rfl
theorem t_impl_logOf_L1 : SmTo Try.prog 0 63 (S_impl_logOf_L1 real) 1 (.loop (loopB 1 (codeOf Try.f98))) := by
  refine smTo_ev (cl := [(120, c_math_NaN real), (121, c_math_Inf real)]) (ef := []) (sm := []) (un := 0) prog_ok (allOK_cons ok_math_NaN (allOK_cons ok_math_Inf allOK_nil)) smL_nil ?_
  intro vals hp q r h hq
  unfold S_impl_logOf_L1 at h
  dsimp only at h
  split at h
  · rename_i y0 y1
    obtain rfl := Option.some.inj h
    have h1 := hq
    unfold resOf at h1
    rw [chk_some] at h1
    exact ⟨_, (l_impl_logOf_L1 real _ y0 y1 h1.1).trans hq⟩
  · cases h
def Pure.impl_logOf_L3 (F : FOps) : Nat → Int → Int → (Bool × Int × Int)
  | 0, _, _ => (false, 0, 0)
  | n + 1, y0, y1 => bif (FOps.cmp F BinOp.geq FloatKind.f64 y0 4609434218613702656) then (Pure.impl_logOf_L3 F  n (FOps.bin F BinOp.quo FloatKind.f64 y0 4611686018427387904) (FOps.bin F BinOp.add FloatKind.f64 y1 4607182418800017408)) else ((true, y0, y1))
def R_impl_logOf_L3 (r : (Bool × Int × Int)) : Bool × Bool × (Ex × List V × List Ob) × (Ex × List V × List Ob) := ((r).1, false, (Ex.normal, [V.at (A.fl FloatKind.f64 (r).2.1), V.at (A.fl FloatKind.f64 (r).2.2)], []), (Ex.normal, [V.at (A.fl FloatKind.f64 (r).2.1), V.at (A.fl FloatKind.f64 (r).2.2)], []))
def S_impl_logOf_L3 (F : FOps) : Sm := ⟨[0, 3], [29, 29], [0, 3], fun vals hp => match vals, hp with
  | [V.at (A.fl FloatKind.f64 y0), V.at (A.fl FloatKind.f64 y1)], [] => some (R_impl_logOf_L3  (Pure.impl_logOf_L3 F  3000 y0 y1))
  | _, _ => none⟩
theorem l_impl_logOf_L3 (F : FOps) : ∀ (fuel : Nat) (y0 : Int) (y1 : Int), (Pure.impl_logOf_L3 F  fuel y0 y1).1 = true → loopOf (cxS F tyl [(120, c_math_NaN F), (121, c_math_Inf F)] [] [] 0) 0 63 3 [0, 3] [29, 29] [0, 3] (loopB 3 (codeOf Try.f98)) fuel [V.at (A.fl FloatKind.f64 y0), V.at (A.fl FloatKind.f64 y1)] [] = resOf (R_impl_logOf_L3  (Pure.impl_logOf_L3 F  fuel y0 y1)) := by
  intro fuel
  induction fuel with
  | zero => intro y0 y1 h; exact absurd h Bool.false_ne_true
  | succ n ih =>
    intro y0 y1
    have h0 : roundOf (cxS F tyl [(120, c_math_NaN F), (121, c_math_Inf F)] [] [] 0) 0 63 3 [0, 3] [29, 29] [0, 3] (loopB 3 (codeOf Try.f98)) [V.at (A.fl FloatKind.f64 y0), V.at (A.fl FloatKind.f64 y1)] [] = (bif FOps.cmp F BinOp.geq FloatKind.f64 y0 4609434218613702656 then some (true, (Ex.normal, ([V.at (A.fl FloatKind.f64 (FOps.bin F BinOp.quo FloatKind.f64 y0 4611686018427387904)), V.at (A.fl FloatKind.f64 (FOps.bin F BinOp.add FloatKind.f64 y1 4607182418800017408))], []))) else some (false, (Ex.normal, ([V.at (A.fl FloatKind.f64 y0), V.at (A.fl FloatKind.f64 y1)], [])))) := by kernel_rfl
    unfold loopOf
    rw [h0]
    unfold Pure.impl_logOf_L3
    cases (FOps.cmp F BinOp.geq FloatKind.f64 y0 4609434218613702656) with
    | true =>
      exact ih _ _
    | false =>
      intro _; rfl
theorem t_impl_logOf_L3 : SmTo Try.prog 0 63 (S_impl_logOf_L3 real) 3 (.loop (loopB 3 (codeOf Try.f98))) := by
  refine smTo_ev (cl := [(120, c_math_NaN real), (121, c_math_Inf real)]) (ef := []) (sm := []) (un := 0) prog_ok (allOK_cons ok_math_NaN (allOK_cons ok_math_Inf allOK_nil)) smL_nil ?_
  intro vals hp q r h hq
  unfold S_impl_logOf_L3 at h
  dsimp only at h
  split at h
  · rename_i y0 y1
    obtain rfl := Option.some.inj h
    have h1 := hq
    unfold resOf at h1
    rw [chk_some] at h1
    exact ⟨_, (l_impl_logOf_L3 real _ y0 y1 h1.1).trans hq⟩
  · cases h
def Pure.impl_logOf_L5 (F : FOps) (y0 : Int) (y1 : Int) (y2 : Int) : Nat → Int → Int → (Bool × Int)
  | 0, _, _ => (false, 0)
  | n + 1, y3, y4 => bif (Decidable.decide (y4 ≥ 1)) then (Pure.impl_logOf_L5 F y0 y1 y2 n (FOps.bin F BinOp.add FloatKind.f64 (FOps.bin F BinOp.quo FloatKind.f64 4607182418800017408 (FOps.ofInt F FloatKind.f64 y4)) (FOps.bin F BinOp.mul FloatKind.f64 y2 y3)) (IntKind.wrap IntKind.i64 (y4 - 2))) else ((true, y3))
def R_impl_logOf_L5 (y0 : Int) (y1 : Int) (r : (Bool × Int)) : Bool × Bool × (Ex × List V × List Ob) × (Ex × List V × List Ob) := ((r).1, false, (Ex.normal, [V.at (A.fl FloatKind.f64 y0), V.at (A.fl FloatKind.f64 y1), V.at (A.fl FloatKind.f64 (r).2)], []), (Ex.normal, [V.at (A.fl FloatKind.f64 y0), V.at (A.fl FloatKind.f64 y1), V.at (A.fl FloatKind.f64 (r).2)], []))
def S_impl_logOf_L5 (F : FOps) : Sm := ⟨[3, 4, 5, 6, 7], [29, 29, 29, 29, 3], [3, 4, 6], fun vals hp => match vals, hp with
  | [V.at (A.fl FloatKind.f64 y0), V.at (A.fl FloatKind.f64 y1), V.at (A.fl FloatKind.f64 y2), V.at (A.fl FloatKind.f64 y3), V.at (A.int IntKind.i64 y4)], [] => some (R_impl_logOf_L5 y0 y1 (Pure.impl_logOf_L5 F y0 y1 y2 (y4 - 1 + 2).toNat y3 y4))
  | _, _ => none⟩
theorem l_impl_logOf_L5 (F : FOps) (y0 : Int) (y1 : Int) (y2 : Int) : ∀ (fuel : Nat) (y3 : Int) (y4 : Int), (Pure.impl_logOf_L5 F y0 y1 y2 fuel y3 y4).1 = true → loopOf (cxS F tyl [(120, c_math_NaN F), (121, c_math_Inf F)] [] [] 0) 0 63 5 [3, 4, 5, 6, 7] [29, 29, 29, 29, 3] [3, 4, 6] (loopB 5 (codeOf Try.f98)) fuel [V.at (A.fl FloatKind.f64 y0), V.at (A.fl FloatKind.f64 y1), V.at (A.fl FloatKind.f64 y2), V.at (A.fl FloatKind.f64 y3), V.at (A.int IntKind.i64 y4)] [] = resOf (R_impl_logOf_L5 y0 y1 (Pure.impl_logOf_L5 F y0 y1 y2 fuel y3 y4)) := by
  intro fuel
  induction fuel with
  | zero => intro y3 y4 h; exact absurd h Bool.false_ne_true
  | succ n ih =>
    intro y3 y4
    have h0 : roundOf (cxS F tyl [(120, c_math_NaN F), (121, c_math_Inf F)] [] [] 0) 0 63 5 [3, 4, 5, 6, 7] [29, 29, 29, 29, 3] [3, 4, 6] (loopB 5 (codeOf Try.f98)) [V.at (A.fl FloatKind.f64 y0), V.at (A.fl FloatKind.f64 y1), V.at (A.fl FloatKind.f64 y2), V.at (A.fl FloatKind.f64 y3), V.at (A.int IntKind.i64 y4)] [] = (bif Decidable.decide (y4 ≥ 1) then some (true, (Ex.normal, ([V.at (A.fl FloatKind.f64 y0), V.at (A.fl FloatKind.f64 y1), V.at (A.fl FloatKind.f64 y2), V.at (A.fl FloatKind.f64 (FOps.bin F BinOp.add FloatKind.f64 (FOps.bin F BinOp.quo FloatKind.f64 4607182418800017408 (FOps.ofInt F FloatKind.f64 y4)) (FOps.bin F BinOp.mul FloatKind.f64 y2 y3))), V.at (A.int IntKind.i64 (IntKind.wrap IntKind.i64 (y4 - 2)))], []))) else some (false, (Ex.normal, ([V.at (A.fl FloatKind.f64 y0), V.at (A.fl FloatKind.f64 y1), V.at (A.fl FloatKind.f64 y3)], [])))) := by kernel_rfl
    unfold loopOf
    rw [h0]
    unfold Pure.impl_logOf_L5
    cases (Decidable.decide (y4 ≥ 1)) with
    | true =>
      exact ih _ _
    | false =>
      intro _; rfl
theorem t_impl_logOf_L5 : SmTo Try.prog 0 63 (S_impl_logOf_L5 real) 5 (.loop (loopB 5 (codeOf Try.f98))) := by
  refine smTo_ev (cl := [(120, c_math_NaN real), (121, c_math_Inf real)]) (ef := []) (sm := []) (un := 0) prog_ok (allOK_cons ok_math_NaN (allOK_cons ok_math_Inf allOK_nil)) smL_nil ?_
  intro vals hp q r h hq
  unfold S_impl_logOf_L5 at h
  dsimp only at h
  split at h
  · rename_i y0 y1 y2 y3 y4
    obtain rfl := Option.some.inj h
    have h1 := hq
    unfold resOf at h1
    rw [chk_some] at h1
    exact ⟨_, (l_impl_logOf_L5 real y0 y1 y2 _ y3 y4 h1.1).trans hq⟩
  · cases h
def Pure.impl_logOf (F : FOps) (x0 : Int) : Int := bif FOps.cmp F BinOp.neq FloatKind.f64 x0 x0 then FOps.ofBits F FloatKind.f64 9221120237041090561 else bif FOps.cmp F BinOp.lss FloatKind.f64 x0 0 then FOps.ofBits F FloatKind.f64 9221120237041090561 else bif FOps.cmp F BinOp.eql FloatKind.f64 x0 0 then Pure.math_Inf F (-1) else bif FOps.cmp F BinOp.gtr FloatKind.f64 x0 9218868437227405311 then x0 else FOps.bin F BinOp.add FloatKind.f64 (FOps.bin F BinOp.mul FloatKind.f64 4611686018427387904 (FOps.bin F BinOp.mul FloatKind.f64 (FOps.bin F BinOp.quo FloatKind.f64 (FOps.bin F BinOp.sub FloatKind.f64 (Prod.fst (Prod.snd (Pure.impl_logOf_L3 F 3000 (Prod.fst (Prod.snd (Pure.impl_logOf_L1 F 3000 x0 0))) (Prod.snd (Prod.snd (Pure.impl_logOf_L1 F 3000 x0 0)))))) 4607182418800017408) (FOps.bin F BinOp.add FloatKind.f64 (Prod.fst (Prod.snd (Pure.impl_logOf_L3 F 3000 (Prod.fst (Prod.snd (Pure.impl_logOf_L1 F 3000 x0 0))) (Prod.snd (Prod.snd (Pure.impl_logOf_L1 F 3000 x0 0)))))) 4607182418800017408)) (Prod.snd (Pure.impl_logOf_L5 F (Prod.snd (Prod.snd (Pure.impl_logOf_L3 F 3000 (Prod.fst (Prod.snd (Pure.impl_logOf_L1 F 3000 x0 0))) (Prod.snd (Prod.snd (Pure.impl_logOf_L1 F 3000 x0 0)))))) (FOps.bin F BinOp.quo FloatKind.f64 (FOps.bin F BinOp.sub FloatKind.f64 (Prod.fst (Prod.snd (Pure.impl_logOf_L3 F 3000 (Prod.fst (Prod.snd (Pure.impl_logOf_L1 F 3000 x0 0))) (Prod.snd (Prod.snd (Pure.impl_logOf_L1 F 3000 x0 0)))))) 4607182418800017408) (FOps.bin F BinOp.add FloatKind.f64 (Prod.fst (Prod.snd (Pure.impl_logOf_L3 F 3000 (Prod.fst (Prod.snd (Pure.impl_logOf_L1 F 3000 x0 0))) (Prod.snd (Prod.snd (Pure.impl_logOf_L1 F 3000 x0 0)))))) 4607182418800017408)) (FOps.bin F BinOp.mul FloatKind.f64 (FOps.bin F BinOp.quo FloatKind.f64 (FOps.bin F BinOp.sub FloatKind.f64 (Prod.fst (Prod.snd (Pure.impl_logOf_L3 F 3000 (Prod.fst (Prod.snd (Pure.impl_logOf_L1 F 3000 x0 0))) (Prod.snd (Prod.snd (Pure.impl_logOf_L1 F 3000 x0 0)))))) 4607182418800017408) (FOps.bin F BinOp.add FloatKind.f64 (Prod.fst (Prod.snd (Pure.impl_logOf_L3 F 3000 (Prod.fst (Prod.snd (Pure.impl_logOf_L1 F 3000 x0 0))) (Prod.snd (Prod.snd (Pure.impl_logOf_L1 F 3000 x0 0)))))) 4607182418800017408)) (FOps.bin F BinOp.quo FloatKind.f64 (FOps.bin F BinOp.sub FloatKind.f64 (Prod.fst (Prod.snd (Pure.impl_logOf_L3 F 3000 (Prod.fst (Prod.snd (Pure.impl_logOf_L1 F 3000 x0 0))) (Prod.snd (Prod.snd (Pure.impl_logOf_L1 F 3000 x0 0)))))) 4607182418800017408) (FOps.bin F BinOp.add FloatKind.f64 (Prod.fst (Prod.snd (Pure.impl_logOf_L3 F 3000 (Prod.fst (Prod.snd (Pure.impl_logOf_L1 F 3000 x0 0))) (Prod.snd (Prod.snd (Pure.impl_logOf_L1 F 3000 x0 0)))))) 4607182418800017408))) 26 0 25)))) (FOps.bin F BinOp.mul FloatKind.f64 (Prod.snd (Prod.snd (Pure.impl_logOf_L3 F 3000 (Prod.fst (Prod.snd (Pure.impl_logOf_L1 F 3000 x0 0))) (Prod.snd (Prod.snd (Pure.impl_logOf_L1 F 3000 x0 0)))))) 4604418534313441775)
def Pure.impl_logOf_ok (F : FOps) (x0 : Int) : Bool := bif FOps.cmp F BinOp.neq FloatKind.f64 x0 x0 then true else bif FOps.cmp F BinOp.lss FloatKind.f64 x0 0 then true else bif FOps.cmp F BinOp.eql FloatKind.f64 x0 0 then true else bif FOps.cmp F BinOp.gtr FloatKind.f64 x0 9218868437227405311 then true else bif Prod.fst (Pure.impl_logOf_L1 F 3000 x0 0) then bif Prod.fst (Pure.impl_logOf_L3 F 3000 (Prod.fst (Prod.snd (Pure.impl_logOf_L1 F 3000 x0 0))) (Prod.snd (Prod.snd (Pure.impl_logOf_L1 F 3000 x0 0)))) then Prod.fst (Pure.impl_logOf_L5 F (Prod.snd (Prod.snd (Pure.impl_logOf_L3 F 3000 (Prod.fst (Prod.snd (Pure.impl_logOf_L1 F 3000 x0 0))) (Prod.snd (Prod.snd (Pure.impl_logOf_L1 F 3000 x0 0)))))) (FOps.bin F BinOp.quo FloatKind.f64 (FOps.bin F BinOp.sub FloatKind.f64 (Prod.fst (Prod.snd (Pure.impl_logOf_L3 F 3000 (Prod.fst (Prod.snd (Pure.impl_logOf_L1 F 3000 x0 0))) (Prod.snd (Prod.snd (Pure.impl_logOf_L1 F 3000 x0 0)))))) 4607182418800017408) (FOps.bin F BinOp.add FloatKind.f64 (Prod.fst (Prod.snd (Pure.impl_logOf_L3 F 3000 (Prod.fst (Prod.snd (Pure.impl_logOf_L1 F 3000 x0 0))) (Prod.snd (Prod.snd (Pure.impl_logOf_L1 F 3000 x0 0)))))) 4607182418800017408)) (FOps.bin F BinOp.mul FloatKind.f64 (FOps.bin F BinOp.quo FloatKind.f64 (FOps.bin F BinOp.sub FloatKind.f64 (Prod.fst (Prod.snd (Pure.impl_logOf_L3 F 3000 (Prod.fst (Prod.snd (Pure.impl_logOf_L1 F 3000 x0 0))) (Prod.snd (Prod.snd (Pure.impl_logOf_L1 F 3000 x0 0)))))) 4607182418800017408) (FOps.bin F BinOp.add FloatKind.f64 (Prod.fst (Prod.snd (Pure.impl_logOf_L3 F 3000 (Prod.fst (Prod.snd (Pure.impl_logOf_L1 F 3000 x0 0))) (Prod.snd (Prod.snd (Pure.impl_logOf_L1 F 3000 x0 0)))))) 4607182418800017408)) (FOps.bin F BinOp.quo FloatKind.f64 (FOps.bin F BinOp.sub FloatKind.f64 (Prod.fst (Prod.snd (Pure.impl_logOf_L3 F 3000 (Prod.fst (Prod.snd (Pure.impl_logOf_L1 F 3000 x0 0))) (Prod.snd (Prod.snd (Pure.impl_logOf_L1 F 3000 x0 0)))))) 4607182418800017408) (FOps.bin F BinOp.add FloatKind.f64 (Prod.fst (Prod.snd (Pure.impl_logOf_L3 F 3000 (Prod.fst (Prod.snd (Pure.impl_logOf_L1 F 3000 x0 0))) (Prod.snd (Prod.snd (Pure.impl_logOf_L1 F 3000 x0 0)))))) 4607182418800017408))) 26 0 25) else false else false
def c_impl_logOf (F : FOps) : Con
  | [V.at (A.fl FloatKind.f64 x0)], [] => some (Pure.impl_logOf_ok F x0, ⟨V.at (A.fl FloatKind.f64 (Pure.impl_logOf F x0)), none, []⟩)
  | _, _ => none
theorem e_impl_logOf (F : FOps) (x0 : Int) : Pure.impl_logOf_ok F x0 = true → evFn (cxS F tyl [(120, c_math_NaN F), (121, c_math_Inf F)] [] [(1, S_impl_logOf_L1 F), (3, S_impl_logOf_L3 F), (5, S_impl_logOf_L5 F)] 0) Try.f98 false [V.at (A.fl FloatKind.f64 x0)] [] = some ⟨V.at (A.fl FloatKind.f64 (Pure.impl_logOf F x0)), none, []⟩ := by
  have h0 : evFn (cxS F tyl [(120, c_math_NaN F), (121, c_math_Inf F)] [] [(1, S_impl_logOf_L1 F), (3, S_impl_logOf_L3 F), (5, S_impl_logOf_L5 F)] 0) Try.f98 false [V.at (A.fl FloatKind.f64 x0)] [] = bif FOps.cmp F BinOp.neq FloatKind.f64 x0 x0 then some ⟨V.at (A.fl FloatKind.f64 (FOps.ofBits F FloatKind.f64 9221120237041090561)), none, []⟩ else bif FOps.cmp F BinOp.lss FloatKind.f64 x0 0 then some ⟨V.at (A.fl FloatKind.f64 (FOps.ofBits F FloatKind.f64 9221120237041090561)), none, []⟩ else bif FOps.cmp F BinOp.eql FloatKind.f64 x0 0 then some ⟨V.at (A.fl FloatKind.f64 (Pure.math_Inf F (-1))), none, []⟩ else bif FOps.cmp F BinOp.gtr FloatKind.f64 x0 9218868437227405311 then some ⟨V.at (A.fl FloatKind.f64 x0), none, []⟩ else bif Prod.fst (Pure.impl_logOf_L1 F 3000 x0 0) then bif Prod.fst (Pure.impl_logOf_L3 F 3000 (Prod.fst (Prod.snd (Pure.impl_logOf_L1 F 3000 x0 0))) (Prod.snd (Prod.snd (Pure.impl_logOf_L1 F 3000 x0 0)))) then bif Prod.fst (Pure.impl_logOf_L5 F (Prod.snd (Prod.snd (Pure.impl_logOf_L3 F 3000 (Prod.fst (Prod.snd (Pure.impl_logOf_L1 F 3000 x0 0))) (Prod.snd (Prod.snd (Pure.impl_logOf_L1 F 3000 x0 0)))))) (FOps.bin F BinOp.quo FloatKind.f64 (FOps.bin F BinOp.sub FloatKind.f64 (Prod.fst (Prod.snd (Pure.impl_logOf_L3 F 3000 (Prod.fst (Prod.snd (Pure.impl_logOf_L1 F 3000 x0 0))) (Prod.snd (Prod.snd (Pure.impl_logOf_L1 F 3000 x0 0)))))) 4607182418800017408) (FOps.bin F BinOp.add FloatKind.f64 (Prod.fst (Prod.snd (Pure.impl_logOf_L3 F 3000 (Prod.fst (Prod.snd (Pure.impl_logOf_L1 F 3000 x0 0))) (Prod.snd (Prod.snd (Pure.impl_logOf_L1 F 3000 x0 0)))))) 4607182418800017408)) (FOps.bin F BinOp.mul FloatKind.f64 (FOps.bin F BinOp.quo FloatKind.f64 (FOps.bin F BinOp.sub FloatKind.f64 (Prod.fst (Prod.snd (Pure.impl_logOf_L3 F 3000 (Prod.fst (Prod.snd (Pure.impl_logOf_L1 F 3000 x0 0))) (Prod.snd (Prod.snd (Pure.impl_logOf_L1 F 3000 x0 0)))))) 4607182418800017408) (FOps.bin F BinOp.add FloatKind.f64 (Prod.fst (Prod.snd (Pure.impl_logOf_L3 F 3000 (Prod.fst (Prod.snd (Pure.impl_logOf_L1 F 3000 x0 0))) (Prod.snd (Prod.snd (Pure.impl_logOf_L1 F 3000 x0 0)))))) 4607182418800017408)) (FOps.bin F BinOp.quo FloatKind.f64 (FOps.bin F BinOp.sub FloatKind.f64 (Prod.fst (Prod.snd (Pure.impl_logOf_L3 F 3000 (Prod.fst (Prod.snd (Pure.impl_logOf_L1 F 3000 x0 0))) (Prod.snd (Prod.snd (Pure.impl_logOf_L1 F 3000 x0 0)))))) 4607182418800017408) (FOps.bin F BinOp.add FloatKind.f64 (Prod.fst (Prod.snd (Pure.impl_logOf_L3 F 3000 (Prod.fst (Prod.snd (Pure.impl_logOf_L1 F 3000 x0 0))) (Prod.snd (Prod.snd (Pure.impl_logOf_L1 F 3000 x0 0)))))) 4607182418800017408))) 26 0 25) then some ⟨V.at (A.fl FloatKind.f64 (FOps.bin F BinOp.add FloatKind.f64 (FOps.bin F BinOp.mul FloatKind.f64 4611686018427387904 (FOps.bin F BinOp.mul FloatKind.f64 (FOps.bin F BinOp.quo FloatKind.f64 (FOps.bin F BinOp.sub FloatKind.f64 (Prod.fst (Prod.snd (Pure.impl_logOf_L3 F 3000 (Prod.fst (Prod.snd (Pure.impl_logOf_L1 F 3000 x0 0))) (Prod.snd (Prod.snd (Pure.impl_logOf_L1 F 3000 x0 0)))))) 4607182418800017408) (FOps.bin F BinOp.add FloatKind.f64 (Prod.fst (Prod.snd (Pure.impl_logOf_L3 F 3000 (Prod.fst (Prod.snd (Pure.impl_logOf_L1 F 3000 x0 0))) (Prod.snd (Prod.snd (Pure.impl_logOf_L1 F 3000 x0 0)))))) 4607182418800017408)) (Prod.snd (Pure.impl_logOf_L5 F (Prod.snd (Prod.snd (Pure.impl_logOf_L3 F 3000 (Prod.fst (Prod.snd (Pure.impl_logOf_L1 F 3000 x0 0))) (Prod.snd (Prod.snd (Pure.impl_logOf_L1 F 3000 x0 0)))))) (FOps.bin F BinOp.quo FloatKind.f64 (FOps.bin F BinOp.sub FloatKind.f64 (Prod.fst (Prod.snd (Pure.impl_logOf_L3 F 3000 (Prod.fst (Prod.snd (Pure.impl_logOf_L1 F 3000 x0 0))) (Prod.snd (Prod.snd (Pure.impl_logOf_L1 F 3000 x0 0)))))) 4607182418800017408) (FOps.bin F BinOp.add FloatKind.f64 (Prod.fst (Prod.snd (Pure.impl_logOf_L3 F 3000 (Prod.fst (Prod.snd (Pure.impl_logOf_L1 F 3000 x0 0))) (Prod.snd (Prod.snd (Pure.impl_logOf_L1 F 3000 x0 0)))))) 4607182418800017408)) (FOps.bin F BinOp.mul FloatKind.f64 (FOps.bin F BinOp.quo FloatKind.f64 (FOps.bin F BinOp.sub FloatKind.f64 (Prod.fst (Prod.snd (Pure.impl_logOf_L3 F 3000 (Prod.fst (Prod.snd (Pure.impl_logOf_L1 F 3000 x0 0))) (Prod.snd (Prod.snd (Pure.impl_logOf_L1 F 3000 x0 0)))))) 4607182418800017408) (FOps.bin F BinOp.add FloatKind.f64 (Prod.fst (Prod.snd (Pure.impl_logOf_L3 F 3000 (Prod.fst (Prod.snd (Pure.impl_logOf_L1 F 3000 x0 0))) (Prod.snd (Prod.snd (Pure.impl_logOf_L1 F 3000 x0 0)))))) 4607182418800017408)) (FOps.bin F BinOp.quo FloatKind.f64 (FOps.bin F BinOp.sub FloatKind.f64 (Prod.fst (Prod.snd (Pure.impl_logOf_L3 F 3000 (Prod.fst (Prod.snd (Pure.impl_logOf_L1 F 3000 x0 0))) (Prod.snd (Prod.snd (Pure.impl_logOf_L1 F 3000 x0 0)))))) 4607182418800017408) (FOps.bin F BinOp.add FloatKind.f64 (Prod.fst (Prod.snd (Pure.impl_logOf_L3 F 3000 (Prod.fst (Prod.snd (Pure.impl_logOf_L1 F 3000 x0 0))) (Prod.snd (Prod.snd (Pure.impl_logOf_L1 F 3000 x0 0)))))) 4607182418800017408))) 26 0 25)))) (FOps.bin F BinOp.mul FloatKind.f64 (Prod.snd (Prod.snd (Pure.impl_logOf_L3 F 3000 (Prod.fst (Prod.snd (Pure.impl_logOf_L1 F 3000 x0 0))) (Prod.snd (Prod.snd (Pure.impl_logOf_L1 F 3000 x0 0)))))) 4604418534313441775))), none, []⟩ else none else none else none := by kernel_rfl
  rw [h0]
  unfold Pure.impl_logOf Pure.impl_logOf_ok
  cases (FOps.cmp F BinOp.neq FloatKind.f64 x0 x0) with
  | true =>
    intro _; rfl
  | false =>
    cases (FOps.cmp F BinOp.lss FloatKind.f64 x0 0) with
    | true =>
      intro _; rfl
    | false =>
      cases (FOps.cmp F BinOp.eql FloatKind.f64 x0 0) with
      | true =>
        intro _; rfl
      | false =>
        cases (FOps.cmp F BinOp.gtr FloatKind.f64 x0 9218868437227405311) with
        | true =>
          intro _; rfl
        | false =>
          cases (Prod.fst (Pure.impl_logOf_L1 F 3000 x0 0)) with
          | true =>
            cases (Prod.fst (Pure.impl_logOf_L3 F 3000 (Prod.fst (Prod.snd (Pure.impl_logOf_L1 F 3000 x0 0))) (Prod.snd (Prod.snd (Pure.impl_logOf_L1 F 3000 x0 0))))) with
            | true =>
              cases (Prod.fst (Pure.impl_logOf_L5 F (Prod.snd (Prod.snd (Pure.impl_logOf_L3 F 3000 (Prod.fst (Prod.snd (Pure.impl_logOf_L1 F 3000 x0 0))) (Prod.snd (Prod.snd (Pure.impl_logOf_L1 F 3000 x0 0)))))) (FOps.bin F BinOp.quo FloatKind.f64 (FOps.bin F BinOp.sub FloatKind.f64 (Prod.fst (Prod.snd (Pure.impl_logOf_L3 F 3000 (Prod.fst (Prod.snd (Pure.impl_logOf_L1 F 3000 x0 0))) (Prod.snd (Prod.snd (Pure.impl_logOf_L1 F 3000 x0 0)))))) 4607182418800017408) (FOps.bin F BinOp.add FloatKind.f64 (Prod.fst (Prod.snd (Pure.impl_logOf_L3 F 3000 (Prod.fst (Prod.snd (Pure.impl_logOf_L1 F 3000 x0 0))) (Prod.snd (Prod.snd (Pure.impl_logOf_L1 F 3000 x0 0)))))) 4607182418800017408)) (FOps.bin F BinOp.mul FloatKind.f64 (FOps.bin F BinOp.quo FloatKind.f64 (FOps.bin F BinOp.sub FloatKind.f64 (Prod.fst (Prod.snd (Pure.impl_logOf_L3 F 3000 (Prod.fst (Prod.snd (Pure.impl_logOf_L1 F 3000 x0 0))) (Prod.snd (Prod.snd (Pure.impl_logOf_L1 F 3000 x0 0)))))) 4607182418800017408) (FOps.bin F BinOp.add FloatKind.f64 (Prod.fst (Prod.snd (Pure.impl_logOf_L3 F 3000 (Prod.fst (Prod.snd (Pure.impl_logOf_L1 F 3000 x0 0))) (Prod.snd (Prod.snd (Pure.impl_logOf_L1 F 3000 x0 0)))))) 4607182418800017408)) (FOps.bin F BinOp.quo FloatKind.f64 (FOps.bin F BinOp.sub FloatKind.f64 (Prod.fst (Prod.snd (Pure.impl_logOf_L3 F 3000 (Prod.fst (Prod.snd (Pure.impl_logOf_L1 F 3000 x0 0))) (Prod.snd (Prod.snd (Pure.impl_logOf_L1 F 3000 x0 0)))))) 4607182418800017408) (FOps.bin F BinOp.add FloatKind.f64 (Prod.fst (Prod.snd (Pure.impl_logOf_L3 F 3000 (Prod.fst (Prod.snd (Pure.impl_logOf_L1 F 3000 x0 0))) (Prod.snd (Prod.snd (Pure.impl_logOf_L1 F 3000 x0 0)))))) 4607182418800017408))) 26 0 25)) with
              | true =>
                intro _; rfl
              | false =>
                intro h; exact absurd h Bool.false_ne_true
            | false =>
              intro h; exact absurd h Bool.false_ne_true
          | false =>
            intro h; exact absurd h Bool.false_ne_true
theorem ok_impl_logOf : CallOK Try.prog 98 (c_impl_logOf real) := by
  refine callOK_of fun args h ret hc => ?_
  unfold c_impl_logOf at hc
  split at hc
  · rename_i x0
    obtain ⟨hok, rfl⟩ := some_ret hc
    exact holds_ev prog_ok (allOK_cons ok_math_NaN (allOK_cons ok_math_Inf allOK_nil)) Try.func98 rfl rfl (smL_cons (body := .loop (loopB 1 (codeOf Try.f98))) (by kernel_rfl) t_impl_logOf_L1 (smL_cons (body := .loop (loopB 3 (codeOf Try.f98))) (by kernel_rfl) t_impl_logOf_L3 (smL_cons (body := .loop (loopB 5 (codeOf Try.f98))) (by kernel_rfl) t_impl_logOf_L5 smL_nil))) rfl (e_impl_logOf real x0 hok)
  · cases hc
def Pure.impl_LogNumber (F : FOps) (x0 : Int) : Int := FOps.conv F FloatKind.f64 FloatKind.f32 (Pure.impl_logOf F (FOps.conv F FloatKind.f32 FloatKind.f64 x0))
def Pure.impl_LogNumber_ok (F : FOps) (x0 : Int) : Bool := bif FOps.convOk F FloatKind.f32 FloatKind.f64 x0 then bif Pure.impl_logOf_ok F (FOps.conv F FloatKind.f32 FloatKind.f64 x0) then FOps.convOk F FloatKind.f64 FloatKind.f32 (Pure.impl_logOf F (FOps.conv F FloatKind.f32 FloatKind.f64 x0)) else false else false
def c_impl_LogNumber (F : FOps) : Con
  | [V.at (A.fl FloatKind.f32 x0)], [] => some (Pure.impl_LogNumber_ok F x0, ⟨V.at (A.fl FloatKind.f32 (Pure.impl_LogNumber F x0)), none, []⟩)
  | _, _ => none
theorem e_impl_LogNumber (F : FOps) (x0 : Int) : Pure.impl_LogNumber_ok F x0 = true → evFn (cxS F tyl [(98, c_impl_logOf F)] [] [] 0) Try.f56 false [V.at (A.fl FloatKind.f32 x0)] [] = some ⟨V.at (A.fl FloatKind.f32 (Pure.impl_LogNumber F x0)), none, []⟩ := by
  have h0 : evFn (cxS F tyl [(98, c_impl_logOf F)] [] [] 0) Try.f56 false [V.at (A.fl FloatKind.f32 x0)] [] = bif FOps.convOk F FloatKind.f32 FloatKind.f64 x0 then bif Pure.impl_logOf_ok F (FOps.conv F FloatKind.f32 FloatKind.f64 x0) then bif FOps.convOk F FloatKind.f64 FloatKind.f32 (Pure.impl_logOf F (FOps.conv F FloatKind.f32 FloatKind.f64 x0)) then some ⟨V.at (A.fl FloatKind.f32 (FOps.conv F FloatKind.f64 FloatKind.f32 (Pure.impl_logOf F (FOps.conv F FloatKind.f32 FloatKind.f64 x0)))), none, []⟩ else none else none else none := by kernel_rfl
  rw [h0]
  unfold Pure.impl_LogNumber Pure.impl_LogNumber_ok
  cases (FOps.convOk F FloatKind.f32 FloatKind.f64 x0) with
  | true =>
    cases (Pure.impl_logOf_ok F (FOps.conv F FloatKind.f32 FloatKind.f64 x0)) with
    | true =>
      cases (FOps.convOk F FloatKind.f64 FloatKind.f32 (Pure.impl_logOf F (FOps.conv F FloatKind.f32 FloatKind.f64 x0))) with
      | true =>
        intro _; rfl
      | false =>
        intro h; exact absurd h Bool.false_ne_true
    | false =>
      intro h; exact absurd h Bool.false_ne_true
  | false =>
    intro h; exact absurd h Bool.false_ne_true
theorem ok_impl_LogNumber : CallOK Try.prog 56 (c_impl_LogNumber real) := by
  refine callOK_of fun args h ret hc => ?_
  unfold c_impl_LogNumber at hc
  split at hc
  · rename_i x0
    obtain ⟨hok, rfl⟩ := some_ret hc
    exact holds_ev prog_ok (allOK_cons ok_impl_logOf allOK_nil) Try.func56 rfl rfl smL_nil rfl (e_impl_LogNumber real x0 hok)
  · cases hc
end Go.Fx
