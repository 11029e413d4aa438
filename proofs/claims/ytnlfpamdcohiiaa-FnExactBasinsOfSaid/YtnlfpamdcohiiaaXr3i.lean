import Derived.Test.YtnlfpamdcohiiaaXr3e
import Derived.KernelRfl
namespace Go.Fx
open Go.Proofs
set_option maxRecDepth 100000
def Pure.spec_l07Grid (F : FOps) (x0 x1 : Int) : Bool := bif Pure.spec_l00In F x0 1 32 then Pure.spec_l00In F x1 1 32 else false
def c_spec_l07Grid (F : FOps) : Con
  | [V.at (A.int .i64 x0), V.at (A.int .i64 x1)], [] => some (true, ⟨V.at (A.bool (Pure.spec_l07Grid F x0 x1)), none, []⟩)
  | _, _ => none
theorem e_spec_l07Grid (F : FOps) (x0 x1 : Int) : evFn (cxS F tyl [(78, c_spec_l00In F)] [] [] 0) Try.f82 false [V.at (A.int .i64 x0), V.at (A.int .i64 x1)] [] = some ⟨V.at (A.bool (Pure.spec_l07Grid F x0 x1)), none, []⟩ := by
  have h0 : evFn (cxS F tyl [(78, c_spec_l00In F)] [] [] 0) Try.f82 false [V.at (A.int .i64 x0), V.at (A.int .i64 x1)] [] = bif Pure.spec_l00In F x0 1 32 then some ⟨V.at (A.bool (Pure.spec_l00In F x1 1 32)), none, []⟩ else some ⟨V.at (A.bool false), none, []⟩ := by kernel_rfl
  rw [h0]
  unfold Pure.spec_l07Grid
  cases (Pure.spec_l00In F x0 1 32) with
  | true =>
    rfl
  | false =>
    rfl
theorem ok_spec_l07Grid : CallOK Try.prog 82 (c_spec_l07Grid real) := by
  refine callOK_of fun args h ret hc => ?_
  unfold c_spec_l07Grid at hc
  split at hc
  · rename_i x0 x1
    obtain ⟨_, rfl⟩ := some_ret hc
    exact holds_ev prog_ok (allOK_cons ok_spec_l00In allOK_nil) Try.func82 rfl rfl smL_nil rfl (e_spec_l07Grid real x0 x1)
  · cases hc
def Pure.spec_l07Row_L0 (F : FOps) (y0 y1 y2 y3 y4 y5 : Int) : Nat → Int → (List (List Int)) → (Bool × (List (List Int)))
  | 0, _, _ => (false, [])
  | n + 1, y6, y7 => bif (decide (y6 < y0)) then (bif (Pure.spec_l07Rest_ok F (F.bin .quo .f32 (F.ofInt .f32 y6) (F.ofInt .f32 y0)) y5 y1 y2 y3 y4) then (bif (decide ((Nat.succ y7.length) ≤ 1073741824)) then (Pure.spec_l07Row_L0 F y0 y1 y2 y3 y4 y5 n (IntKind.wrap .i64 (y6 + 1)) (y7 ++ [[Pure.spec_l07Rest F (F.bin .quo .f32 (F.ofInt .f32 y6) (F.ofInt .f32 y0)) y5 y1 y2 y3 y4]])) else ((false, []))) else ((false, []))) else ((true, y7))
def R_spec_l07Row_L0 (r : (Bool × (List (List Int)))) : Bool × Ends := ((r).1, (.one Ex.normal [V.at (A.sl 0)] [⟨true, .rows [K.i .i64] (r).2⟩]))
def S_spec_l07Row_L0 (F : FOps) : Sm := ⟨[1, 3, 4, 5, 6, 15, 16, 17], [2, 22, 22, 2, 2, 50, 22, 2], [15], fun vals hp => match vals, hp with
  | [V.at (A.int .i64 y0), V.at (A.fl .f32 y1), V.at (A.fl .f32 y2), V.at (A.int .i64 y3), V.at (A.int .i64 y4), V.at (A.sl 0), V.at (A.fl .f32 y5), V.at (A.int .i64 y6)], [⟨true, .rows [K.i .i64] y7⟩] => some (R_spec_l07Row_L0  (Pure.spec_l07Row_L0 F y0 y1 y2 y3 y4 y5 (y0 - y6 + 1).toNat y6 y7))
  | _, _ => none⟩
theorem l_spec_l07Row_L0 (F : FOps) (y0 y1 y2 y3 y4 y5 : Int) : ∀ (fuel : Nat) (y6 : Int) (y7 : List (List Int)), (Pure.spec_l07Row_L0 F y0 y1 y2 y3 y4 y5 fuel y6 y7).1 = true → loopOf (cxS F tyl [(53, c_spec_l07Kick F), (71, c_spec_l07Rest F)] [] [] 0) 0 49 0 [1, 3, 4, 5, 6, 15, 16, 17] [2, 22, 22, 2, 2, 50, 22, 2] [15] (loopB 0 (codeOf Try.f83)) fuel [V.at (A.int .i64 y0), V.at (A.fl .f32 y1), V.at (A.fl .f32 y2), V.at (A.int .i64 y3), V.at (A.int .i64 y4), V.at (A.sl 0), V.at (A.fl .f32 y5), V.at (A.int .i64 y6)] [⟨true, .rows [K.i .i64] y7⟩] = resOf (R_spec_l07Row_L0  (Pure.spec_l07Row_L0 F y0 y1 y2 y3 y4 y5 fuel y6 y7)) := by
  intro fuel
  induction fuel with
  | zero => intro y6 y7 h; exact absurd h Bool.false_ne_true
  | succ n ih =>
    intro y6 y7
    have h0 : roundOf (cxS F tyl [(53, c_spec_l07Kick F), (71, c_spec_l07Rest F)] [] [] 0) 0 49 0 [1, 3, 4, 5, 6, 15, 16, 17] [2, 22, 22, 2, 2, 50, 22, 2] [15] (loopB 0 (codeOf Try.f83)) [V.at (A.int .i64 y0), V.at (A.fl .f32 y1), V.at (A.fl .f32 y2), V.at (A.int .i64 y3), V.at (A.int .i64 y4), V.at (A.sl 0), V.at (A.fl .f32 y5), V.at (A.int .i64 y6)] [⟨true, .rows [K.i .i64] y7⟩] = (bif decide (y6 < y0) then bif Pure.spec_l07Rest_ok F (F.bin .quo .f32 (F.ofInt .f32 y6) (F.ofInt .f32 y0)) y5 y1 y2 y3 y4 then bif decide ((Nat.succ y7.length) ≤ 1073741824) then some (true, (Ex.normal, ([V.at (A.int .i64 y0), V.at (A.fl .f32 y1), V.at (A.fl .f32 y2), V.at (A.int .i64 y3), V.at (A.int .i64 y4), V.at (A.sl 0), V.at (A.fl .f32 y5), V.at (A.int .i64 (IntKind.wrap .i64 (y6 + 1)))], [⟨true, .rows [K.i .i64] (y7 ++ [[Pure.spec_l07Rest F (F.bin .quo .f32 (F.ofInt .f32 y6) (F.ofInt .f32 y0)) y5 y1 y2 y3 y4]])⟩]))) else none else none else some (false, (Ex.normal, ([V.at (A.sl 0)], [⟨true, .rows [K.i .i64] y7⟩])))) := by kernel_rfl
    unfold loopOf
    rw [h0]
    unfold Pure.spec_l07Row_L0
    cases (decide (y6 < y0)) with
    | true =>
      cases (Pure.spec_l07Rest_ok F (F.bin .quo .f32 (F.ofInt .f32 y6) (F.ofInt .f32 y0)) y5 y1 y2 y3 y4) with
      | true =>
        cases (decide ((Nat.succ y7.length) ≤ 1073741824)) with
        | true =>
          exact ih _ _
        | false =>
          intro h; exact absurd h Bool.false_ne_true
      | false =>
        intro h; exact absurd h Bool.false_ne_true
    | false =>
      intro _; rfl
theorem t_spec_l07Row_L0 : SmTo Try.prog 0 49 (S_spec_l07Row_L0 real) 0 (.loop (loopB 0 (codeOf Try.f83))) := by
  refine smTo_ev (cl := [(53, c_spec_l07Kick real), (71, c_spec_l07Rest real)]) (ef := []) (sm := []) (un := 0) prog_ok (allOK_cons ok_spec_l07Kick (allOK_cons ok_spec_l07Rest allOK_nil)) smL_nil ?_
  intro vals hp q r h hq
  unfold S_spec_l07Row_L0 at h
  dsimp only at h
  split at h
  · rename_i y0 y1 y2 y3 y4 y5 y6 y7
    obtain rfl := Option.some.inj h
    have h1 := hq
    unfold resOf at h1
    rw [chk_some] at h1
    exact ⟨_, (l_spec_l07Row_L0 real y0 y1 y2 y3 y4 y5 _ y6 y7 h1.1).trans hq⟩
  · cases h
def Pure.spec_l07Row (F : FOps) (x0 x1 x2 x3 x4 x5 x6 : Int) : List (List Int) := Prod.snd (Pure.spec_l07Row_L0 F x1 x3 x4 x5 x6 (Pure.spec_l07Kick F (F.bin .sub .f32 (F.bin .quo .f32 (F.ofInt .f32 x0) (F.ofInt .f32 x2)) 1056964608)) (Int.toNat ((x1 - 0) + 1)) 0 [])
def Pure.spec_l07Row_ok (F : FOps) (x0 x1 x2 x3 x4 x5 x6 : Int) : Bool := bif Pure.spec_l07Kick_ok F (F.bin .sub .f32 (F.bin .quo .f32 (F.ofInt .f32 x0) (F.ofInt .f32 x2)) 1056964608) then Prod.fst (Pure.spec_l07Row_L0 F x1 x3 x4 x5 x6 (Pure.spec_l07Kick F (F.bin .sub .f32 (F.bin .quo .f32 (F.ofInt .f32 x0) (F.ofInt .f32 x2)) 1056964608)) (Int.toNat ((x1 - 0) + 1)) 0 []) else false
def c_spec_l07Row (F : FOps) : Con
  | [V.at (A.int .i64 x0), V.at (A.int .i64 x1), V.at (A.int .i64 x2), V.at (A.fl .f32 x3), V.at (A.fl .f32 x4), V.at (A.int .i64 x5), V.at (A.int .i64 x6)], [] => some (Pure.spec_l07Row_ok F x0 x1 x2 x3 x4 x5 x6, ⟨V.at (A.sl 0), none, [⟨true, .rows [K.i .i64] (Pure.spec_l07Row F x0 x1 x2 x3 x4 x5 x6)⟩]⟩)
  | _, _ => none
theorem e_spec_l07Row (F : FOps) (x0 x1 x2 x3 x4 x5 x6 : Int) : Pure.spec_l07Row_ok F x0 x1 x2 x3 x4 x5 x6 = true → evFn (cxS F tyl [(53, c_spec_l07Kick F), (71, c_spec_l07Rest F)] [] [(0, S_spec_l07Row_L0 F)] 0) Try.f83 false [V.at (A.int .i64 x0), V.at (A.int .i64 x1), V.at (A.int .i64 x2), V.at (A.fl .f32 x3), V.at (A.fl .f32 x4), V.at (A.int .i64 x5), V.at (A.int .i64 x6)] [] = some ⟨V.at (A.sl 0), none, [⟨true, .rows [K.i .i64] (Pure.spec_l07Row F x0 x1 x2 x3 x4 x5 x6)⟩]⟩ := by
  have h0 : evFn (cxS F tyl [(53, c_spec_l07Kick F), (71, c_spec_l07Rest F)] [] [(0, S_spec_l07Row_L0 F)] 0) Try.f83 false [V.at (A.int .i64 x0), V.at (A.int .i64 x1), V.at (A.int .i64 x2), V.at (A.fl .f32 x3), V.at (A.fl .f32 x4), V.at (A.int .i64 x5), V.at (A.int .i64 x6)] [] = bif Pure.spec_l07Kick_ok F (F.bin .sub .f32 (F.bin .quo .f32 (F.ofInt .f32 x0) (F.ofInt .f32 x2)) 1056964608) then bif Prod.fst (Pure.spec_l07Row_L0 F x1 x3 x4 x5 x6 (Pure.spec_l07Kick F (F.bin .sub .f32 (F.bin .quo .f32 (F.ofInt .f32 x0) (F.ofInt .f32 x2)) 1056964608)) (Int.toNat ((x1 - 0) + 1)) 0 []) then some ⟨V.at (A.sl 0), none, [⟨true, .rows [K.i .i64] (Prod.snd (Pure.spec_l07Row_L0 F x1 x3 x4 x5 x6 (Pure.spec_l07Kick F (F.bin .sub .f32 (F.bin .quo .f32 (F.ofInt .f32 x0) (F.ofInt .f32 x2)) 1056964608)) (Int.toNat ((x1 - 0) + 1)) 0 []))⟩]⟩ else none else none := by kernel_rfl
  rw [h0]
  unfold Pure.spec_l07Row Pure.spec_l07Row_ok
  cases (Pure.spec_l07Kick_ok F (F.bin .sub .f32 (F.bin .quo .f32 (F.ofInt .f32 x0) (F.ofInt .f32 x2)) 1056964608)) with
  | true =>
    cases (Prod.fst (Pure.spec_l07Row_L0 F x1 x3 x4 x5 x6 (Pure.spec_l07Kick F (F.bin .sub .f32 (F.bin .quo .f32 (F.ofInt .f32 x0) (F.ofInt .f32 x2)) 1056964608)) (Int.toNat ((x1 - 0) + 1)) 0 [])) with
    | true =>
      intro _; rfl
    | false =>
      intro h; exact absurd h Bool.false_ne_true
  | false =>
    intro h; exact absurd h Bool.false_ne_true
theorem ok_spec_l07Row : CallOK Try.prog 83 (c_spec_l07Row real) := by
  refine callOK_of fun args h ret hc => ?_
  unfold c_spec_l07Row at hc
  split at hc
  · rename_i x0 x1 x2 x3 x4 x5 x6
    obtain ⟨hok, rfl⟩ := some_ret hc
    exact holds_ev prog_ok (allOK_cons ok_spec_l07Kick (allOK_cons ok_spec_l07Rest allOK_nil)) Try.func83 rfl rfl (smL_cons (body := .loop (loopB 0 (codeOf Try.f83))) (by kernel_rfl) t_spec_l07Row_L0 smL_nil) rfl (e_spec_l07Row real x0 x1 x2 x3 x4 x5 x6 hok)
  · cases hc
def c_impl_gridOk (F : FOps) : Con
  | [V.at (A.int .i64 x0)], [] => some (true, ⟨V.at (A.bool (Pure.impl_in F x0 1 32)), none, []⟩)
  | _, _ => none
theorem e_impl_gridOk (F : FOps) (x0 : Int) : evFn (cxS F tyl [(76, c_impl_in F)] [] [] 0) Try.f80 false [V.at (A.int .i64 x0)] [] = some ⟨V.at (A.bool (Pure.impl_in F x0 1 32)), none, []⟩ := by
  kernel_rfl
theorem ok_impl_gridOk : CallOK Try.prog 80 (c_impl_gridOk real) := by
  refine callOK_of fun args h ret hc => ?_
  unfold c_impl_gridOk at hc
  split at hc
  · rename_i x0
    obtain ⟨_, rfl⟩ := some_ret hc
    exact holds_ev prog_ok (allOK_cons ok_impl_in allOK_nil) Try.func80 rfl rfl smL_nil rfl (e_impl_gridOk real x0)
  · cases hc
def Pure.impl_basinRow_L0 (F : FOps) (y0 y1 y2 y3 y4 y5 y6 y7 : Int) : Nat → Int → (List (List Int)) → (Bool × (List (List Int)))
  | 0, _, _ => (false, [])
  | n + 1, y8, y9 => bif (decide (y8 < y7)) then (bif (Pure.impl_kicked_ok F (F.bin .sub .f32 (F.bin .quo .f32 (F.ofInt .f32 y0) (F.ofInt .f32 y2)) 1056964608)) then (bif (Pure.impl_State_rest_ok F (F.bin .quo .f32 (F.ofInt .f32 y8) (F.ofInt .f32 y1)) (Pure.impl_WrapKick F (F.bin .sub .f32 (F.bin .quo .f32 (F.ofInt .f32 y0) (F.ofInt .f32 y2)) 1056964608)) y3 y4 y5 y6) then (bif (decide ((Nat.succ y9.length) ≤ 1073741824)) then (Pure.impl_basinRow_L0 F y0 y1 y2 y3 y4 y5 y6 y7 n (IntKind.wrap .i64 (y8 + 1)) (y9 ++ [[Pure.impl_State_rest F (F.bin .quo .f32 (F.ofInt .f32 y8) (F.ofInt .f32 y1)) (Pure.impl_WrapKick F (F.bin .sub .f32 (F.bin .quo .f32 (F.ofInt .f32 y0) (F.ofInt .f32 y2)) 1056964608)) y3 y4 y5 y6]])) else ((false, []))) else ((false, []))) else ((false, []))) else ((true, y9))
def R_impl_basinRow_L0 (r : (Bool × (List (List Int)))) : Bool × Ends := ((r).1, (.one Ex.normal [V.at (A.sl 0)] [⟨true, .rows [K.i .i64] (r).2⟩]))
def S_impl_basinRow_L0 (F : FOps) : Sm := ⟨[0, 1, 2, 3, 4, 5, 6, 15, 19, 20], [2, 2, 2, 22, 22, 2, 2, 50, 2, 2], [15], fun vals hp => match vals, hp with
  | [V.at (A.int .i64 y0), V.at (A.int .i64 y1), V.at (A.int .i64 y2), V.at (A.fl .f32 y3), V.at (A.fl .f32 y4), V.at (A.int .i64 y5), V.at (A.int .i64 y6), V.at (A.sl 0), V.at (A.int .i64 y7), V.at (A.int .i64 y8)], [⟨true, .rows [K.i .i64] y9⟩] => some (R_impl_basinRow_L0  (Pure.impl_basinRow_L0 F y0 y1 y2 y3 y4 y5 y6 y7 (y7 - y8 + 1).toNat y8 y9))
  | _, _ => none⟩
theorem l_impl_basinRow_L0 (F : FOps) (y0 y1 y2 y3 y4 y5 y6 y7 : Int) : ∀ (fuel : Nat) (y8 : Int) (y9 : List (List Int)), (Pure.impl_basinRow_L0 F y0 y1 y2 y3 y4 y5 y6 y7 fuel y8 y9).1 = true → loopOf (cxS F tyl [(56, c_impl_kicked F), (73, c_impl_State_rest F)] [] [] 0) 0 47 0 [0, 1, 2, 3, 4, 5, 6, 15, 19, 20] [2, 2, 2, 22, 22, 2, 2, 50, 2, 2] [15] (loopB 0 (codeOf Try.f84)) fuel [V.at (A.int .i64 y0), V.at (A.int .i64 y1), V.at (A.int .i64 y2), V.at (A.fl .f32 y3), V.at (A.fl .f32 y4), V.at (A.int .i64 y5), V.at (A.int .i64 y6), V.at (A.sl 0), V.at (A.int .i64 y7), V.at (A.int .i64 y8)] [⟨true, .rows [K.i .i64] y9⟩] = resOf (R_impl_basinRow_L0  (Pure.impl_basinRow_L0 F y0 y1 y2 y3 y4 y5 y6 y7 fuel y8 y9)) := by
  intro fuel
  induction fuel with
  | zero => intro y8 y9 h; exact absurd h Bool.false_ne_true
  | succ n ih =>
    intro y8 y9
    have h0 : roundOf (cxS F tyl [(56, c_impl_kicked F), (73, c_impl_State_rest F)] [] [] 0) 0 47 0 [0, 1, 2, 3, 4, 5, 6, 15, 19, 20] [2, 2, 2, 22, 22, 2, 2, 50, 2, 2] [15] (loopB 0 (codeOf Try.f84)) [V.at (A.int .i64 y0), V.at (A.int .i64 y1), V.at (A.int .i64 y2), V.at (A.fl .f32 y3), V.at (A.fl .f32 y4), V.at (A.int .i64 y5), V.at (A.int .i64 y6), V.at (A.sl 0), V.at (A.int .i64 y7), V.at (A.int .i64 y8)] [⟨true, .rows [K.i .i64] y9⟩] = (bif decide (y8 < y7) then bif Pure.impl_kicked_ok F (F.bin .sub .f32 (F.bin .quo .f32 (F.ofInt .f32 y0) (F.ofInt .f32 y2)) 1056964608) then bif Pure.impl_State_rest_ok F (F.bin .quo .f32 (F.ofInt .f32 y8) (F.ofInt .f32 y1)) (Pure.impl_WrapKick F (F.bin .sub .f32 (F.bin .quo .f32 (F.ofInt .f32 y0) (F.ofInt .f32 y2)) 1056964608)) y3 y4 y5 y6 then bif decide ((Nat.succ y9.length) ≤ 1073741824) then some (true, (Ex.normal, ([V.at (A.int .i64 y0), V.at (A.int .i64 y1), V.at (A.int .i64 y2), V.at (A.fl .f32 y3), V.at (A.fl .f32 y4), V.at (A.int .i64 y5), V.at (A.int .i64 y6), V.at (A.sl 0), V.at (A.int .i64 y7), V.at (A.int .i64 (IntKind.wrap .i64 (y8 + 1)))], [⟨true, .rows [K.i .i64] (y9 ++ [[Pure.impl_State_rest F (F.bin .quo .f32 (F.ofInt .f32 y8) (F.ofInt .f32 y1)) (Pure.impl_WrapKick F (F.bin .sub .f32 (F.bin .quo .f32 (F.ofInt .f32 y0) (F.ofInt .f32 y2)) 1056964608)) y3 y4 y5 y6]])⟩]))) else none else none else none else some (false, (Ex.normal, ([V.at (A.sl 0)], [⟨true, .rows [K.i .i64] y9⟩])))) := by kernel_rfl
    unfold loopOf
    rw [h0]
    unfold Pure.impl_basinRow_L0
    cases (decide (y8 < y7)) with
    | true =>
      cases (Pure.impl_kicked_ok F (F.bin .sub .f32 (F.bin .quo .f32 (F.ofInt .f32 y0) (F.ofInt .f32 y2)) 1056964608)) with
      | true =>
        cases (Pure.impl_State_rest_ok F (F.bin .quo .f32 (F.ofInt .f32 y8) (F.ofInt .f32 y1)) (Pure.impl_WrapKick F (F.bin .sub .f32 (F.bin .quo .f32 (F.ofInt .f32 y0) (F.ofInt .f32 y2)) 1056964608)) y3 y4 y5 y6) with
        | true =>
          cases (decide ((Nat.succ y9.length) ≤ 1073741824)) with
          | true =>
            exact ih _ _
          | false =>
            intro h; exact absurd h Bool.false_ne_true
        | false =>
          intro h; exact absurd h Bool.false_ne_true
      | false =>
        intro h; exact absurd h Bool.false_ne_true
    | false =>
      intro _; rfl
theorem t_impl_basinRow_L0 : SmTo Try.prog 0 47 (S_impl_basinRow_L0 real) 0 (.loop (loopB 0 (codeOf Try.f84))) := by
  refine smTo_ev (cl := [(56, c_impl_kicked real), (73, c_impl_State_rest real)]) (ef := []) (sm := []) (un := 0) prog_ok (allOK_cons ok_impl_kicked (allOK_cons ok_impl_State_rest allOK_nil)) smL_nil ?_
  intro vals hp q r h hq
  unfold S_impl_basinRow_L0 at h
  dsimp only at h
  split at h
  · rename_i y0 y1 y2 y3 y4 y5 y6 y7 y8 y9
    obtain rfl := Option.some.inj h
    have h1 := hq
    unfold resOf at h1
    rw [chk_some] at h1
    exact ⟨_, (l_impl_basinRow_L0 real y0 y1 y2 y3 y4 y5 y6 y7 _ y8 y9 h1.1).trans hq⟩
  · cases h
def Pure.impl_basinRow (F : FOps) (x0 x1 x2 x3 x4 x5 x6 : Int) : List (List Int) := Prod.snd (Pure.impl_basinRow_L0 F x0 x1 x2 x3 x4 x5 x6 x1 (Int.toNat ((x1 - 0) + 1)) 0 [])
def Pure.impl_basinRow_ok (F : FOps) (x0 x1 x2 x3 x4 x5 x6 : Int) : Bool := Prod.fst (Pure.impl_basinRow_L0 F x0 x1 x2 x3 x4 x5 x6 x1 (Int.toNat ((x1 - 0) + 1)) 0 [])
def c_impl_basinRow (F : FOps) : Con
  | [V.at (A.int .i64 x0), V.at (A.int .i64 x1), V.at (A.int .i64 x2), V.at (A.fl .f32 x3), V.at (A.fl .f32 x4), V.at (A.int .i64 x5), V.at (A.int .i64 x6)], [] => some (Pure.impl_basinRow_ok F x0 x1 x2 x3 x4 x5 x6, ⟨V.at (A.sl 0), none, [⟨true, .rows [K.i .i64] (Pure.impl_basinRow F x0 x1 x2 x3 x4 x5 x6)⟩]⟩)
  | _, _ => none
theorem e_impl_basinRow (F : FOps) (x0 x1 x2 x3 x4 x5 x6 : Int) : Pure.impl_basinRow_ok F x0 x1 x2 x3 x4 x5 x6 = true → evFn (cxS F tyl [(56, c_impl_kicked F), (73, c_impl_State_rest F)] [] [(0, S_impl_basinRow_L0 F)] 0) Try.f84 false [V.at (A.int .i64 x0), V.at (A.int .i64 x1), V.at (A.int .i64 x2), V.at (A.fl .f32 x3), V.at (A.fl .f32 x4), V.at (A.int .i64 x5), V.at (A.int .i64 x6)] [] = some ⟨V.at (A.sl 0), none, [⟨true, .rows [K.i .i64] (Pure.impl_basinRow F x0 x1 x2 x3 x4 x5 x6)⟩]⟩ := by
  have h0 : evFn (cxS F tyl [(56, c_impl_kicked F), (73, c_impl_State_rest F)] [] [(0, S_impl_basinRow_L0 F)] 0) Try.f84 false [V.at (A.int .i64 x0), V.at (A.int .i64 x1), V.at (A.int .i64 x2), V.at (A.fl .f32 x3), V.at (A.fl .f32 x4), V.at (A.int .i64 x5), V.at (A.int .i64 x6)] [] = bif Prod.fst (Pure.impl_basinRow_L0 F x0 x1 x2 x3 x4 x5 x6 x1 (Int.toNat ((x1 - 0) + 1)) 0 []) then some ⟨V.at (A.sl 0), none, [⟨true, .rows [K.i .i64] (Prod.snd (Pure.impl_basinRow_L0 F x0 x1 x2 x3 x4 x5 x6 x1 (Int.toNat ((x1 - 0) + 1)) 0 []))⟩]⟩ else none := by kernel_rfl
  rw [h0]
  unfold Pure.impl_basinRow Pure.impl_basinRow_ok
  cases (Prod.fst (Pure.impl_basinRow_L0 F x0 x1 x2 x3 x4 x5 x6 x1 (Int.toNat ((x1 - 0) + 1)) 0 [])) with
  | true =>
    intro _; rfl
  | false =>
    intro h; exact absurd h Bool.false_ne_true
theorem ok_impl_basinRow : CallOK Try.prog 84 (c_impl_basinRow real) := by
  refine callOK_of fun args h ret hc => ?_
  unfold c_impl_basinRow at hc
  split at hc
  · rename_i x0 x1 x2 x3 x4 x5 x6
    obtain ⟨hok, rfl⟩ := some_ret hc
    exact holds_ev prog_ok (allOK_cons ok_impl_kicked (allOK_cons ok_impl_State_rest allOK_nil)) Try.func84 rfl rfl (smL_cons (body := .loop (loopB 0 (codeOf Try.f84))) (by kernel_rfl) t_impl_basinRow_L0 smL_nil) rfl (e_impl_basinRow real x0 x1 x2 x3 x4 x5 x6 hok)
  · cases hc
def Pure.laws_eqInt64S_L0 (F : FOps) (y1 y2 : List (List Int)) : Nat → Int → (Bool × Bool)
  | 0, _ => (false, false)
  | n + 1, y0 => bif (decide (y0 < (Int.ofNat y1.length))) then (bif (decide (0 ≤ y0)) then (bif (decide (y0 < (Int.ofNat y1.length))) then (bif (decide (0 ≤ y0)) then (bif (decide (y0 < (Int.ofNat y2.length))) then (bif (((y1.getD y0.toNat []).getD 0 0) != ((y2.getD y0.toNat []).getD 0 0)) then ((true, true)) else (Pure.laws_eqInt64S_L0 F y1 y2 n (IntKind.wrap .i64 (y0 + 1)))) else ((false, false))) else ((false, false))) else ((false, false))) else ((false, false))) else ((true, false))
def R_laws_eqInt64S_L0 (y1 y2 : List (List Int)) (r : (Bool × Bool)) : Bool × Ends := ((r).1, .two (r).2 (.one Ex.normal [V.at A.undef] [⟨false, .rows [K.i .i64] y1⟩, ⟨false, .rows [K.i .i64] y2⟩]) (.one Ex.ret [V.at (A.bool false)] [⟨false, .rows [K.i .i64] y1⟩, ⟨false, .rows [K.i .i64] y2⟩]))
def S_laws_eqInt64S_L0 (F : FOps) : Sm := ⟨[0, 1, 5], [50, 50, 3], [4], fun vals hp => match vals, hp with
  | [V.at (A.sl 0), V.at (A.sl 1), V.at (A.int .i64 y0)], [⟨false, .rows [K.i .i64] y1⟩, ⟨false, .rows [K.i .i64] y2⟩] => some (R_laws_eqInt64S_L0 y1 y2 (Pure.laws_eqInt64S_L0 F y1 y2 ((Int.ofNat y1.length) - y0 + 1).toNat y0))
  | _, _ => none⟩
theorem l_laws_eqInt64S_L0 (F : FOps) (y1 y2 : List (List Int)) : ∀ (fuel : Nat) (y0 : Int), (Pure.laws_eqInt64S_L0 F y1 y2 fuel y0).1 = true → loopOf (cxS F tyl [] [] [] 0) 2 26 0 [0, 1, 5] [50, 50, 3] [4] (loopB 0 (codeOf Try.f39)) fuel [V.at (A.sl 0), V.at (A.sl 1), V.at (A.int .i64 y0)] [⟨false, .rows [K.i .i64] y1⟩, ⟨false, .rows [K.i .i64] y2⟩] = resOf (R_laws_eqInt64S_L0 y1 y2 (Pure.laws_eqInt64S_L0 F y1 y2 fuel y0)) := by
  intro fuel
  induction fuel with
  | zero => intro y0 h; exact absurd h Bool.false_ne_true
  | succ n ih =>
    intro y0
    have h0 : roundOf (cxS F tyl [] [] [] 0) 2 26 0 [0, 1, 5] [50, 50, 3] [4] (loopB 0 (codeOf Try.f39)) [V.at (A.sl 0), V.at (A.sl 1), V.at (A.int .i64 y0)] [⟨false, .rows [K.i .i64] y1⟩, ⟨false, .rows [K.i .i64] y2⟩] = (bif decide (y0 < (Int.ofNat y1.length)) then bif decide (0 ≤ y0) then bif decide (y0 < (Int.ofNat y1.length)) then bif decide (0 ≤ y0) then bif decide (y0 < (Int.ofNat y2.length)) then bif ((y1.getD y0.toNat []).getD 0 0) != ((y2.getD y0.toNat []).getD 0 0) then some (false, (Ex.ret, ([V.at (A.bool false)], [⟨false, .rows [K.i .i64] y1⟩, ⟨false, .rows [K.i .i64] y2⟩]))) else some (true, (Ex.normal, ([V.at (A.sl 0), V.at (A.sl 1), V.at (A.int .i64 (IntKind.wrap .i64 (y0 + 1)))], [⟨false, .rows [K.i .i64] y1⟩, ⟨false, .rows [K.i .i64] y2⟩]))) else none else none else none else none else some (false, (Ex.normal, ([V.at A.undef], [⟨false, .rows [K.i .i64] y1⟩, ⟨false, .rows [K.i .i64] y2⟩])))) := by kernel_rfl
    unfold loopOf
    rw [h0]
    unfold Pure.laws_eqInt64S_L0
    cases (decide (y0 < (Int.ofNat y1.length))) with
    | true =>
      cases (decide (0 ≤ y0)) with
      | true =>
        cases (decide (y0 < (Int.ofNat y2.length))) with
        | true =>
          cases (((y1.getD y0.toNat []).getD 0 0) != ((y2.getD y0.toNat []).getD 0 0)) with
          | true =>
            intro _; rfl
          | false =>
            exact ih _
        | false =>
          intro h; exact absurd h Bool.false_ne_true
      | false =>
        intro h; exact absurd h Bool.false_ne_true
    | false =>
      intro _; rfl
theorem t_laws_eqInt64S_L0 : SmTo Try.prog 2 26 (S_laws_eqInt64S_L0 real) 0 (.loop (loopB 0 (codeOf Try.f39))) := by
  refine smTo_ev (cl := []) (ef := []) (sm := []) (un := 0) prog_ok allOK_nil smL_nil ?_
  intro vals hp q r h hq
  unfold S_laws_eqInt64S_L0 at h
  dsimp only at h
  split at h
  · rename_i y0 y1 y2
    obtain rfl := Option.some.inj h
    have h1 := hq
    unfold resOf at h1
    rw [chk_some] at h1
    exact ⟨_, (l_laws_eqInt64S_L0 real y1 y2 _ y0 h1.1).trans hq⟩
  · cases h
def Pure.laws_eqInt64S (F : FOps) (x0 x1 : List (List Int)) : Bool := bif (Int.ofNat x0.length) != (Int.ofNat x1.length) then false else bif Prod.snd (Pure.laws_eqInt64S_L0 F x0 x1 (Nat.succ (x0.length + 0)) 0) then false else true
def Pure.laws_eqInt64S_ok (F : FOps) (x0 x1 : List (List Int)) : Bool := bif (Int.ofNat x0.length) != (Int.ofNat x1.length) then true else Prod.fst (Pure.laws_eqInt64S_L0 F x0 x1 (Nat.succ (x0.length + 0)) 0)
def c_laws_eqInt64S (F : FOps) : Con
  | [V.at (A.sl 0), V.at (A.sl 1)], [⟨false, .rows [K.i .i64] x0⟩, ⟨false, .rows [K.i .i64] x1⟩] => some (Pure.laws_eqInt64S_ok F x0 x1, ⟨V.at (A.bool (Pure.laws_eqInt64S F x0 x1)), none, []⟩)
  | _, _ => none
theorem e_laws_eqInt64S (F : FOps) (x0 x1 : List (List Int)) : Pure.laws_eqInt64S_ok F x0 x1 = true → evFn (cxS F tyl [] [] [(0, S_laws_eqInt64S_L0 F)] 0) Try.f39 false [V.at (A.sl 0), V.at (A.sl 1)] [⟨false, .rows [K.i .i64] x0⟩, ⟨false, .rows [K.i .i64] x1⟩] = some ⟨V.at (A.bool (Pure.laws_eqInt64S F x0 x1)), none, []⟩ := by
  have h0 : evFn (cxS F tyl [] [] [(0, S_laws_eqInt64S_L0 F)] 0) Try.f39 false [V.at (A.sl 0), V.at (A.sl 1)] [⟨false, .rows [K.i .i64] x0⟩, ⟨false, .rows [K.i .i64] x1⟩] = bif (Int.ofNat x0.length) != (Int.ofNat x1.length) then some ⟨V.at (A.bool false), none, []⟩ else bif Prod.fst (Pure.laws_eqInt64S_L0 F x0 x1 (Nat.succ (x0.length + 0)) 0) then bif Prod.snd (Pure.laws_eqInt64S_L0 F x0 x1 (Nat.succ (x0.length + 0)) 0) then some ⟨V.at (A.bool false), none, []⟩ else some ⟨V.at (A.bool true), none, []⟩ else none := by kernel_rfl
  rw [h0]
  unfold Pure.laws_eqInt64S Pure.laws_eqInt64S_ok
  cases ((Int.ofNat x0.length) != (Int.ofNat x1.length)) with
  | true =>
    intro _; rfl
  | false =>
    cases (Prod.fst (Pure.laws_eqInt64S_L0 F x0 x1 (Nat.succ (x0.length + 0)) 0)) with
    | true =>
      cases (Prod.snd (Pure.laws_eqInt64S_L0 F x0 x1 (Nat.succ (x0.length + 0)) 0)) with
      | true =>
        intro _; rfl
      | false =>
        intro _; rfl
    | false =>
      intro h; exact absurd h Bool.false_ne_true
theorem ok_laws_eqInt64S : CallOK Try.prog 39 (c_laws_eqInt64S real) := by
  refine callOK_of fun args h ret hc => ?_
  unfold c_laws_eqInt64S at hc
  split at hc
  · rename_i x0 x1
    obtain ⟨hok, rfl⟩ := some_ret hc
    exact holds_ev prog_ok allOK_nil Try.func39 rfl rfl (smL_cons (body := .loop (loopB 0 (codeOf Try.f39))) (by kernel_rfl) t_laws_eqInt64S_L0 smL_nil) rfl (e_laws_eqInt64S real x0 x1 hok)
  · cases hc
def Pure.laws_markInt64S_L0 (F : FOps) : Nat → Int → Int → (List (List Int)) → (Bool × Int × (List (List Int)))
  | 0, _, _, _ => (false, 0, [])
  | n + 1, y0, y1, y2 => bif (decide (y1 < (Int.ofNat y2.length))) then (bif (decide (0 ≤ y1)) then (bif (decide (y1 < (Int.ofNat y2.length))) then (Pure.laws_markInt64S_L0 F  n (IntKind.wrap .i64 (y0 + 1)) (IntKind.wrap .i64 (y1 + 1)) (List.set y2 (Int.toNat y1) [y0])) else ((false, 0, []))) else ((false, 0, []))) else ((true, y0, y2))
def R_laws_markInt64S_L0 (r : (Bool × Int × (List (List Int)))) : Bool × Ends := ((r).1, (.one Ex.normal [V.at (A.int .i64 (r).2.1)] [⟨true, .rows [K.i .i64] (r).2.2⟩]))
def S_laws_markInt64S_L0 (F : FOps) : Sm := ⟨[0, 1, 5], [50, 3, 3], [1], fun vals hp => match vals, hp with
  | [V.at (A.sl 0), V.at (A.int .i64 y0), V.at (A.int .i64 y1)], [⟨true, .rows [K.i .i64] y2⟩] => some (R_laws_markInt64S_L0  (Pure.laws_markInt64S_L0 F  ((Int.ofNat y2.length) - y1 + 1).toNat y0 y1 y2))
  | _, _ => none⟩
theorem l_laws_markInt64S_L0 (F : FOps) : ∀ (fuel : Nat) (y0 y1 : Int) (y2 : List (List Int)), (Pure.laws_markInt64S_L0 F  fuel y0 y1 y2).1 = true → loopOf (cxS F tyl [] [] [] 0) 1 19 0 [0, 1, 5] [50, 3, 3] [1] (loopB 0 (codeOf Try.f40)) fuel [V.at (A.sl 0), V.at (A.int .i64 y0), V.at (A.int .i64 y1)] [⟨true, .rows [K.i .i64] y2⟩] = resOf (R_laws_markInt64S_L0  (Pure.laws_markInt64S_L0 F  fuel y0 y1 y2)) := by
  intro fuel
  induction fuel with
  | zero => intro y0 y1 y2 h; exact absurd h Bool.false_ne_true
  | succ n ih =>
    intro y0 y1 y2
    have h0 : roundOf (cxS F tyl [] [] [] 0) 1 19 0 [0, 1, 5] [50, 3, 3] [1] (loopB 0 (codeOf Try.f40)) [V.at (A.sl 0), V.at (A.int .i64 y0), V.at (A.int .i64 y1)] [⟨true, .rows [K.i .i64] y2⟩] = (bif decide (y1 < (Int.ofNat y2.length)) then bif decide (0 ≤ y1) then bif decide (y1 < (Int.ofNat y2.length)) then some (true, (Ex.normal, ([V.at (A.sl 0), V.at (A.int .i64 (IntKind.wrap .i64 (y0 + 1))), V.at (A.int .i64 (IntKind.wrap .i64 (y1 + 1)))], [⟨true, .rows [K.i .i64] (List.set y2 (Int.toNat y1) [y0])⟩]))) else none else none else some (false, (Ex.normal, ([V.at (A.int .i64 y0)], [⟨true, .rows [K.i .i64] y2⟩])))) := by kernel_rfl
    unfold loopOf
    rw [h0]
    unfold Pure.laws_markInt64S_L0
    cases (decide (y1 < (Int.ofNat y2.length))) with
    | true =>
      cases (decide (0 ≤ y1)) with
      | true =>
        exact ih _ _ _
      | false =>
        intro h; exact absurd h Bool.false_ne_true
    | false =>
      intro _; rfl
theorem t_laws_markInt64S_L0 : SmTo Try.prog 1 19 (S_laws_markInt64S_L0 real) 0 (.loop (loopB 0 (codeOf Try.f40))) := by
  refine smTo_ev (cl := []) (ef := []) (sm := []) (un := 0) prog_ok allOK_nil smL_nil ?_
  intro vals hp q r h hq
  unfold S_laws_markInt64S_L0 at h
  dsimp only at h
  split at h
  · rename_i y0 y1 y2
    obtain rfl := Option.some.inj h
    have h1 := hq
    unfold resOf at h1
    rw [chk_some] at h1
    exact ⟨_, (l_laws_markInt64S_L0 real _ y0 y1 y2 h1.1).trans hq⟩
  · cases h
def Pure.laws_markInt64S (F : FOps) (x0 : List (List Int)) (x1 : Int) : Int := Prod.fst (Prod.snd (Pure.laws_markInt64S_L0 F (Nat.succ (x0.length + 0)) x1 0 x0))
def Pure.laws_markInt64S_1 (F : FOps) (x0 : List (List Int)) (x1 : Int) : List (List Int) := Prod.snd (Prod.snd (Pure.laws_markInt64S_L0 F (Nat.succ (x0.length + 0)) x1 0 x0))
def Pure.laws_markInt64S_ok (F : FOps) (x0 : List (List Int)) (x1 : Int) : Bool := Prod.fst (Pure.laws_markInt64S_L0 F (Nat.succ (x0.length + 0)) x1 0 x0)
def c_laws_markInt64S (F : FOps) : Con
  | [V.at (A.sl 0), V.at (A.int .i64 x1)], [⟨true, .rows [K.i .i64] x0⟩] => some (Pure.laws_markInt64S_ok F x0 x1, ⟨V.at (A.int .i64 (Pure.laws_markInt64S F x0 x1)), some [⟨true, .rows [K.i .i64] (Pure.laws_markInt64S_1 F x0 x1)⟩], []⟩)
  | _, _ => none
theorem e_laws_markInt64S (F : FOps) (x0 : List (List Int)) (x1 : Int) : Pure.laws_markInt64S_ok F x0 x1 = true → evFn (cxS F tyl [] [] [(0, S_laws_markInt64S_L0 F)] 0) Try.f40 true [V.at (A.sl 0), V.at (A.int .i64 x1)] [⟨true, .rows [K.i .i64] x0⟩] = some ⟨V.at (A.int .i64 (Pure.laws_markInt64S F x0 x1)), some [⟨true, .rows [K.i .i64] (Pure.laws_markInt64S_1 F x0 x1)⟩], []⟩ := by
  have h0 : evFn (cxS F tyl [] [] [(0, S_laws_markInt64S_L0 F)] 0) Try.f40 true [V.at (A.sl 0), V.at (A.int .i64 x1)] [⟨true, .rows [K.i .i64] x0⟩] = bif Prod.fst (Pure.laws_markInt64S_L0 F (Nat.succ (x0.length + 0)) x1 0 x0) then some ⟨V.at (A.int .i64 (Prod.fst (Prod.snd (Pure.laws_markInt64S_L0 F (Nat.succ (x0.length + 0)) x1 0 x0)))), some [⟨true, .rows [K.i .i64] (Prod.snd (Prod.snd (Pure.laws_markInt64S_L0 F (Nat.succ (x0.length + 0)) x1 0 x0)))⟩], []⟩ else none := by kernel_rfl
  rw [h0]
  unfold Pure.laws_markInt64S Pure.laws_markInt64S_1 Pure.laws_markInt64S_ok
  cases (Prod.fst (Pure.laws_markInt64S_L0 F (Nat.succ (x0.length + 0)) x1 0 x0)) with
  | true =>
    intro _; rfl
  | false =>
    intro h; exact absurd h Bool.false_ne_true
theorem ok_laws_markInt64S : CallOK Try.prog 40 (c_laws_markInt64S real) := by
  refine callOK_of fun args h ret hc => ?_
  unfold c_laws_markInt64S at hc
  split at hc
  · rename_i x1 x0
    obtain ⟨hok, rfl⟩ := some_ret hc
    exact holdsE_ev prog_ok allOK_nil Try.func40 rfl rfl (smL_cons (body := .loop (loopB 0 (codeOf Try.f40))) (by kernel_rfl) t_laws_markInt64S_L0 smL_nil) (e_laws_markInt64S real x0 x1 hok)
  · cases hc
def Pure.laws_heldInt64S_L0 (F : FOps) (y2 : List (List Int)) : Nat → Int → Int → (Bool × Bool × Int × Int)
  | 0, _, _ => (false, false, 0, 0)
  | n + 1, y0, y1 => bif (decide (y1 < (Int.ofNat y2.length))) then (bif (decide (0 ≤ y1)) then (bif (decide (y1 < (Int.ofNat y2.length))) then (bif (((y2.getD y1.toNat []).getD 0 0) != y0) then ((true, true, 0, y0)) else (Pure.laws_heldInt64S_L0 F y2 n (IntKind.wrap .i64 (y0 + 1)) (IntKind.wrap .i64 (y1 + 1)))) else ((false, false, 0, 0))) else ((false, false, 0, 0))) else ((true, false, y0, 0))
def R_laws_heldInt64S_L0 (y2 : List (List Int)) (r : (Bool × Bool × Int × Int)) : Bool × Ends := ((r).1, .two (r).2.1 (.one Ex.normal [V.at (A.int .i64 (r).2.2.1), V.at A.undef] [⟨false, .rows [K.i .i64] y2⟩]) (.one Ex.ret [V.at (A.int .i64 (r).2.2.2), V.at (A.int .i64 (-1))] [⟨false, .rows [K.i .i64] y2⟩]))
def S_laws_heldInt64S_L0 (F : FOps) : Sm := ⟨[0, 1, 5], [50, 3, 3], [1, 4], fun vals hp => match vals, hp with
  | [V.at (A.sl 0), V.at (A.int .i64 y0), V.at (A.int .i64 y1)], [⟨false, .rows [K.i .i64] y2⟩] => some (R_laws_heldInt64S_L0 y2 (Pure.laws_heldInt64S_L0 F y2 ((Int.ofNat y2.length) - y1 + 1).toNat y0 y1))
  | _, _ => none⟩
theorem l_laws_heldInt64S_L0 (F : FOps) (y2 : List (List Int)) : ∀ (fuel : Nat) (y0 y1 : Int), (Pure.laws_heldInt64S_L0 F y2 fuel y0 y1).1 = true → loopOf (cxS F tyl [] [] [] 0) 1 21 0 [0, 1, 5] [50, 3, 3] [1, 4] (loopB 0 (codeOf Try.f41)) fuel [V.at (A.sl 0), V.at (A.int .i64 y0), V.at (A.int .i64 y1)] [⟨false, .rows [K.i .i64] y2⟩] = resOf (R_laws_heldInt64S_L0 y2 (Pure.laws_heldInt64S_L0 F y2 fuel y0 y1)) := by
  intro fuel
  induction fuel with
  | zero => intro y0 y1 h; exact absurd h Bool.false_ne_true
  | succ n ih =>
    intro y0 y1
    have h0 : roundOf (cxS F tyl [] [] [] 0) 1 21 0 [0, 1, 5] [50, 3, 3] [1, 4] (loopB 0 (codeOf Try.f41)) [V.at (A.sl 0), V.at (A.int .i64 y0), V.at (A.int .i64 y1)] [⟨false, .rows [K.i .i64] y2⟩] = (bif decide (y1 < (Int.ofNat y2.length)) then bif decide (0 ≤ y1) then bif decide (y1 < (Int.ofNat y2.length)) then bif ((y2.getD y1.toNat []).getD 0 0) != y0 then some (false, (Ex.ret, ([V.at (A.int .i64 y0), V.at (A.int .i64 (-1))], [⟨false, .rows [K.i .i64] y2⟩]))) else some (true, (Ex.normal, ([V.at (A.sl 0), V.at (A.int .i64 (IntKind.wrap .i64 (y0 + 1))), V.at (A.int .i64 (IntKind.wrap .i64 (y1 + 1)))], [⟨false, .rows [K.i .i64] y2⟩]))) else none else none else some (false, (Ex.normal, ([V.at (A.int .i64 y0), V.at A.undef], [⟨false, .rows [K.i .i64] y2⟩])))) := by kernel_rfl
    unfold loopOf
    rw [h0]
    unfold Pure.laws_heldInt64S_L0
    cases (decide (y1 < (Int.ofNat y2.length))) with
    | true =>
      cases (decide (0 ≤ y1)) with
      | true =>
        cases (((y2.getD y1.toNat []).getD 0 0) != y0) with
        | true =>
          intro _; rfl
        | false =>
          exact ih _ _
      | false =>
        intro h; exact absurd h Bool.false_ne_true
    | false =>
      intro _; rfl
theorem t_laws_heldInt64S_L0 : SmTo Try.prog 1 21 (S_laws_heldInt64S_L0 real) 0 (.loop (loopB 0 (codeOf Try.f41))) := by
  refine smTo_ev (cl := []) (ef := []) (sm := []) (un := 0) prog_ok allOK_nil smL_nil ?_
  intro vals hp q r h hq
  unfold S_laws_heldInt64S_L0 at h
  dsimp only at h
  split at h
  · rename_i y0 y1 y2
    obtain rfl := Option.some.inj h
    have h1 := hq
    unfold resOf at h1
    rw [chk_some] at h1
    exact ⟨_, (l_laws_heldInt64S_L0 real y2 _ y0 y1 h1.1).trans hq⟩
  · cases h
def Pure.laws_heldInt64S (F : FOps) (x0 : List (List Int)) (x1 : Int) : Int := bif Prod.fst (Prod.snd (Pure.laws_heldInt64S_L0 F x0 (Nat.succ (x0.length + 0)) x1 0)) then (-1) else Prod.fst (Prod.snd (Prod.snd (Pure.laws_heldInt64S_L0 F x0 (Nat.succ (x0.length + 0)) x1 0)))
def Pure.laws_heldInt64S_ok (F : FOps) (x0 : List (List Int)) (x1 : Int) : Bool := Prod.fst (Pure.laws_heldInt64S_L0 F x0 (Nat.succ (x0.length + 0)) x1 0)
def c_laws_heldInt64S (F : FOps) : Con
  | [V.at (A.sl 0), V.at (A.int .i64 x1)], [⟨false, .rows [K.i .i64] x0⟩] => some (Pure.laws_heldInt64S_ok F x0 x1, ⟨V.at (A.int .i64 (Pure.laws_heldInt64S F x0 x1)), none, []⟩)
  | _, _ => none
theorem e_laws_heldInt64S (F : FOps) (x0 : List (List Int)) (x1 : Int) : Pure.laws_heldInt64S_ok F x0 x1 = true → evFn (cxS F tyl [] [] [(0, S_laws_heldInt64S_L0 F)] 0) Try.f41 false [V.at (A.sl 0), V.at (A.int .i64 x1)] [⟨false, .rows [K.i .i64] x0⟩] = some ⟨V.at (A.int .i64 (Pure.laws_heldInt64S F x0 x1)), none, []⟩ := by
  have h0 : evFn (cxS F tyl [] [] [(0, S_laws_heldInt64S_L0 F)] 0) Try.f41 false [V.at (A.sl 0), V.at (A.int .i64 x1)] [⟨false, .rows [K.i .i64] x0⟩] = bif Prod.fst (Pure.laws_heldInt64S_L0 F x0 (Nat.succ (x0.length + 0)) x1 0) then bif Prod.fst (Prod.snd (Pure.laws_heldInt64S_L0 F x0 (Nat.succ (x0.length + 0)) x1 0)) then some ⟨V.at (A.int .i64 (-1)), none, []⟩ else some ⟨V.at (A.int .i64 (Prod.fst (Prod.snd (Prod.snd (Pure.laws_heldInt64S_L0 F x0 (Nat.succ (x0.length + 0)) x1 0))))), none, []⟩ else none := by kernel_rfl
  rw [h0]
  unfold Pure.laws_heldInt64S Pure.laws_heldInt64S_ok
  cases (Prod.fst (Pure.laws_heldInt64S_L0 F x0 (Nat.succ (x0.length + 0)) x1 0)) with
  | true =>
    cases (Prod.fst (Prod.snd (Pure.laws_heldInt64S_L0 F x0 (Nat.succ (x0.length + 0)) x1 0))) with
    | true =>
      intro _; rfl
    | false =>
      intro _; rfl
  | false =>
    intro h; exact absurd h Bool.false_ne_true
theorem ok_laws_heldInt64S : CallOK Try.prog 41 (c_laws_heldInt64S real) := by
  refine callOK_of fun args h ret hc => ?_
  unfold c_laws_heldInt64S at hc
  split at hc
  · rename_i x1 x0
    obtain ⟨hok, rfl⟩ := some_ret hc
    exact holds_ev prog_ok allOK_nil Try.func41 rfl rfl (smL_cons (body := .loop (loopB 0 (codeOf Try.f41))) (by kernel_rfl) t_laws_heldInt64S_L0 smL_nil) rfl (e_laws_heldInt64S real x0 x1 hok)
  · cases hc
end Go.Fx
