import Derived.Test.YtnlfpamdcohiiaaXr3i
import Derived.KernelRfl
namespace Go.Fx
open Go.Proofs
set_option maxRecDepth 100000
def Pure.spec_BasinsOf_L0 (F : FOps) (y0 y1 y2 y3 y4 y5 : Int) : Nat → Int → (List (List Int)) → (Bool × (List (List Int)))
  | 0, _, _ => (false, [])
  | n + 1, y6, y7 => bif (decide (y6 < y1)) then (bif (Pure.spec_l07Row_ok F y6 y0 y1 y2 y3 y4 y5) then (bif (decide ((y7.length + (List.length (Pure.spec_l07Row F y6 y0 y1 y2 y3 y4 y5))) ≤ 1073741824)) then (Pure.spec_BasinsOf_L0 F y0 y1 y2 y3 y4 y5 n (IntKind.wrap .i64 (y6 + 1)) (y7 ++ (Pure.spec_l07Row F y6 y0 y1 y2 y3 y4 y5))) else ((false, []))) else ((false, []))) else ((true, y7))
def R_spec_BasinsOf_L0 (r : (Bool × (List (List Int)))) : Bool × Ends := ((r).1, (.one Ex.normal [V.at (A.sl 0)] [⟨true, .rows [K.i .i64] (r).2⟩]))
def S_spec_BasinsOf_L0 (F : FOps) : Sm := ⟨[0, 1, 2, 3, 4, 5, 14, 15], [2, 2, 22, 22, 2, 2, 50, 2], [14], fun vals hp => match vals, hp with
  | [V.at (A.int .i64 y0), V.at (A.int .i64 y1), V.at (A.fl .f32 y2), V.at (A.fl .f32 y3), V.at (A.int .i64 y4), V.at (A.int .i64 y5), V.at (A.sl 0), V.at (A.int .i64 y6)], [⟨true, .rows [K.i .i64] y7⟩] => some (R_spec_BasinsOf_L0  (Pure.spec_BasinsOf_L0 F y0 y1 y2 y3 y4 y5 (y1 - y6 + 1).toNat y6 y7))
  | _, _ => none⟩
theorem l_spec_BasinsOf_L0 (F : FOps) (y0 y1 y2 y3 y4 y5 : Int) : ∀ (fuel : Nat) (y6 : Int) (y7 : List (List Int)), (Pure.spec_BasinsOf_L0 F y0 y1 y2 y3 y4 y5 fuel y6 y7).1 = true → loopOf (cxS F tyl [(82, c_spec_l07Grid F), (70, c_spec_l07Can F), (83, c_spec_l07Row F)] [] [] 0) 0 45 0 [0, 1, 2, 3, 4, 5, 14, 15] [2, 2, 22, 22, 2, 2, 50, 2] [14] (loopB 0 (codeOf Try.f49)) fuel [V.at (A.int .i64 y0), V.at (A.int .i64 y1), V.at (A.fl .f32 y2), V.at (A.fl .f32 y3), V.at (A.int .i64 y4), V.at (A.int .i64 y5), V.at (A.sl 0), V.at (A.int .i64 y6)] [⟨true, .rows [K.i .i64] y7⟩] = resOf (R_spec_BasinsOf_L0  (Pure.spec_BasinsOf_L0 F y0 y1 y2 y3 y4 y5 fuel y6 y7)) := by
  intro fuel
  induction fuel with
  | zero => intro y6 y7 h; exact absurd h Bool.false_ne_true
  | succ n ih =>
    intro y6 y7
    have h0 : roundOf (cxS F tyl [(82, c_spec_l07Grid F), (70, c_spec_l07Can F), (83, c_spec_l07Row F)] [] [] 0) 0 45 0 [0, 1, 2, 3, 4, 5, 14, 15] [2, 2, 22, 22, 2, 2, 50, 2] [14] (loopB 0 (codeOf Try.f49)) [V.at (A.int .i64 y0), V.at (A.int .i64 y1), V.at (A.fl .f32 y2), V.at (A.fl .f32 y3), V.at (A.int .i64 y4), V.at (A.int .i64 y5), V.at (A.sl 0), V.at (A.int .i64 y6)] [⟨true, .rows [K.i .i64] y7⟩] = (bif decide (y6 < y1) then bif Pure.spec_l07Row_ok F y6 y0 y1 y2 y3 y4 y5 then bif decide ((y7.length + (List.length (Pure.spec_l07Row F y6 y0 y1 y2 y3 y4 y5))) ≤ 1073741824) then some (true, (Ex.normal, ([V.at (A.int .i64 y0), V.at (A.int .i64 y1), V.at (A.fl .f32 y2), V.at (A.fl .f32 y3), V.at (A.int .i64 y4), V.at (A.int .i64 y5), V.at (A.sl 0), V.at (A.int .i64 (IntKind.wrap .i64 (y6 + 1)))], [⟨true, .rows [K.i .i64] (y7 ++ (Pure.spec_l07Row F y6 y0 y1 y2 y3 y4 y5))⟩]))) else none else none else some (false, (Ex.normal, ([V.at (A.sl 0)], [⟨true, .rows [K.i .i64] y7⟩])))) := by kernel_rfl
    unfold loopOf
    rw [h0]
    unfold Pure.spec_BasinsOf_L0
    cases (decide (y6 < y1)) with
    | true =>
      cases (Pure.spec_l07Row_ok F y6 y0 y1 y2 y3 y4 y5) with
      | true =>
        cases (decide ((y7.length + (List.length (Pure.spec_l07Row F y6 y0 y1 y2 y3 y4 y5))) ≤ 1073741824)) with
        | true =>
          exact ih _ _
        | false =>
          intro h; exact absurd h Bool.false_ne_true
      | false =>
        intro h; exact absurd h Bool.false_ne_true
    | false =>
      intro _; rfl
theorem t_spec_BasinsOf_L0 : SmTo Try.prog 0 45 (S_spec_BasinsOf_L0 real) 0 (.loop (loopB 0 (codeOf Try.f49))) := by
  refine smTo_ev (cl := [(82, c_spec_l07Grid real), (70, c_spec_l07Can real), (83, c_spec_l07Row real)]) (ef := []) (sm := []) (un := 0) prog_ok (allOK_cons ok_spec_l07Grid (allOK_cons ok_spec_l07Can (allOK_cons ok_spec_l07Row allOK_nil))) smL_nil ?_
  intro vals hp q r h hq
  unfold S_spec_BasinsOf_L0 at h
  dsimp only at h
  split at h
  · rename_i y0 y1 y2 y3 y4 y5 y6 y7
    obtain rfl := Option.some.inj h
    have h1 := hq
    unfold resOf at h1
    rw [chk_some] at h1
    exact ⟨_, (l_spec_BasinsOf_L0 real y0 y1 y2 y3 y4 y5 _ y6 y7 h1.1).trans hq⟩
  · cases h
def Pure.spec_BasinsOf (F : FOps) (x0 x1 x2 x3 x4 x5 : Int) : Bool := bif Pure.spec_l07Grid F x0 x1 then Pure.spec_l07Can F x2 x3 x4 x5 else false
def Pure.spec_BasinsOf_1 (F : FOps) (x0 x1 x2 x3 x4 x5 : Int) : List (List Int) := bif Pure.spec_l07Grid F x0 x1 then bif Pure.spec_l07Can F x2 x3 x4 x5 then Prod.snd (Pure.spec_BasinsOf_L0 F x0 x1 x2 x3 x4 x5 (Int.toNat ((x1 - 0) + 1)) 0 []) else [] else []
def Pure.spec_BasinsOf_ok (F : FOps) (x0 x1 x2 x3 x4 x5 : Int) : Bool := bif Pure.spec_l07Grid F x0 x1 then bif Pure.spec_l07Can F x2 x3 x4 x5 then Prod.fst (Pure.spec_BasinsOf_L0 F x0 x1 x2 x3 x4 x5 (Int.toNat ((x1 - 0) + 1)) 0 []) else true else true
def c_spec_BasinsOf (F : FOps) : Con
  | [V.at (A.int .i64 x0), V.at (A.int .i64 x1), V.at (A.fl .f32 x2), V.at (A.fl .f32 x3), V.at (A.int .i64 x4), V.at (A.int .i64 x5)], [] => some (Pure.spec_BasinsOf_ok F x0 x1 x2 x3 x4 x5, ⟨V.tup [(false, [A.sl 0]), (false, [A.bool (Pure.spec_BasinsOf F x0 x1 x2 x3 x4 x5)])], none, [⟨true, .rows [K.i .i64] (Pure.spec_BasinsOf_1 F x0 x1 x2 x3 x4 x5)⟩]⟩)
  | _, _ => none
theorem e_spec_BasinsOf (F : FOps) (x0 x1 x2 x3 x4 x5 : Int) : Pure.spec_BasinsOf_ok F x0 x1 x2 x3 x4 x5 = true → evFn (cxS F tyl [(82, c_spec_l07Grid F), (70, c_spec_l07Can F), (83, c_spec_l07Row F)] [] [(0, S_spec_BasinsOf_L0 F)] 0) Try.f49 false [V.at (A.int .i64 x0), V.at (A.int .i64 x1), V.at (A.fl .f32 x2), V.at (A.fl .f32 x3), V.at (A.int .i64 x4), V.at (A.int .i64 x5)] [] = some ⟨V.tup [(false, [A.sl 0]), (false, [A.bool (Pure.spec_BasinsOf F x0 x1 x2 x3 x4 x5)])], none, [⟨true, .rows [K.i .i64] (Pure.spec_BasinsOf_1 F x0 x1 x2 x3 x4 x5)⟩]⟩ := by
  have h0 : evFn (cxS F tyl [(82, c_spec_l07Grid F), (70, c_spec_l07Can F), (83, c_spec_l07Row F)] [] [(0, S_spec_BasinsOf_L0 F)] 0) Try.f49 false [V.at (A.int .i64 x0), V.at (A.int .i64 x1), V.at (A.fl .f32 x2), V.at (A.fl .f32 x3), V.at (A.int .i64 x4), V.at (A.int .i64 x5)] [] = bif Bool.not (Pure.spec_l07Grid F x0 x1) then some ⟨V.tup [(false, [A.sl 0]), (false, [A.bool false])], none, [⟨true, .rows [K.i .i64] []⟩]⟩ else bif Bool.not (Pure.spec_l07Can F x2 x3 x4 x5) then some ⟨V.tup [(false, [A.sl 0]), (false, [A.bool false])], none, [⟨true, .rows [K.i .i64] []⟩]⟩ else bif Prod.fst (Pure.spec_BasinsOf_L0 F x0 x1 x2 x3 x4 x5 (Int.toNat ((x1 - 0) + 1)) 0 []) then some ⟨V.tup [(false, [A.sl 0]), (false, [A.bool true])], none, [⟨true, .rows [K.i .i64] (Prod.snd (Pure.spec_BasinsOf_L0 F x0 x1 x2 x3 x4 x5 (Int.toNat ((x1 - 0) + 1)) 0 []))⟩]⟩ else none := by kernel_rfl
  rw [h0]
  unfold Pure.spec_BasinsOf Pure.spec_BasinsOf_1 Pure.spec_BasinsOf_ok
  cases (Pure.spec_l07Grid F x0 x1) with
  | true =>
    cases (Pure.spec_l07Can F x2 x3 x4 x5) with
    | true =>
      cases (Prod.fst (Pure.spec_BasinsOf_L0 F x0 x1 x2 x3 x4 x5 (Int.toNat ((x1 - 0) + 1)) 0 [])) with
      | true =>
        intro _; rfl
      | false =>
        intro h; exact absurd h Bool.false_ne_true
    | false =>
      intro _; rfl
  | false =>
    intro _; rfl
theorem ok_spec_BasinsOf : CallOK Try.prog 49 (c_spec_BasinsOf real) := by
  refine callOK_of fun args h ret hc => ?_
  unfold c_spec_BasinsOf at hc
  split at hc
  · rename_i x0 x1 x2 x3 x4 x5
    obtain ⟨hok, rfl⟩ := some_ret hc
    exact holds_ev prog_ok (allOK_cons ok_spec_l07Grid (allOK_cons ok_spec_l07Can (allOK_cons ok_spec_l07Row allOK_nil))) Try.func49 rfl rfl (smL_cons (body := .loop (loopB 0 (codeOf Try.f49))) (by kernel_rfl) t_spec_BasinsOf_L0 smL_nil) rfl (e_spec_BasinsOf real x0 x1 x2 x3 x4 x5 hok)
  · cases hc
def Pure.slices_Grow_int64_int64_ok (F : FOps) (x0 : Int) : Bool := bif decide (x0 < 0) then false else bif decide ((IntKind.wrap .i64 (x0 - 0)) > 0) then bif decide (0 < (IntKind.wrap .i64 (x0 - 0))) then decide ((IntKind.wrap .i64 (x0 - 0)) ≤ 1073741824) else false else true
def c_slices_Grow_int64_int64 (F : FOps) : Con
  | [V.at A.nil, V.at (A.int .i64 x0)], [] => some (Pure.slices_Grow_int64_int64_ok F x0, ⟨V.at (A.sl 0), none, [⟨true, .rows [K.i .i64] []⟩]⟩)
  | _, _ => none
theorem e_slices_Grow_int64_int64 (F : FOps) (x0 : Int) : Pure.slices_Grow_int64_int64_ok F x0 = true → evFn (cxS F tyl [] [] [] 77) Try.f100 false [V.at A.nil, V.at (A.int .i64 x0)] [] = some ⟨V.at (A.sl 0), none, [⟨true, .rows [K.i .i64] []⟩]⟩ := by
  have h0 : evFn (cxS F tyl [] [] [] 77) Try.f100 false [V.at A.nil, V.at (A.int .i64 x0)] [] = bif decide (x0 < 0) then none else bif decide ((IntKind.wrap .i64 (x0 - 0)) > 0) then bif decide (0 < (IntKind.wrap .i64 (x0 - 0))) then bif decide ((IntKind.wrap .i64 (x0 - 0)) ≤ 1073741824) then some ⟨V.at (A.sl 0), none, [⟨true, .rows [K.i .i64] []⟩]⟩ else none else none else some ⟨V.at (A.sl 0), none, [⟨true, .rows [K.i .i64] []⟩]⟩ := by kernel_rfl
  rw [h0]
  unfold Pure.slices_Grow_int64_int64_ok
  cases (decide (x0 < 0)) with
  | true =>
    intro h; exact absurd h Bool.false_ne_true
  | false =>
    cases (decide ((IntKind.wrap .i64 (x0 - 0)) > 0)) with
    | true =>
      cases (decide ((IntKind.wrap .i64 (x0 - 0)) ≤ 1073741824)) with
      | true =>
        intro _; rfl
      | false =>
        intro h; exact absurd h Bool.false_ne_true
    | false =>
      intro _; rfl
theorem ok_slices_Grow_int64_int64 : CallOK Try.prog 100 (c_slices_Grow_int64_int64 real) := by
  refine callOK_of fun args h ret hc => ?_
  unfold c_slices_Grow_int64_int64 at hc
  split at hc
  · rename_i x0
    obtain ⟨hok, rfl⟩ := some_ret hc
    exact holds_ev prog_ok allOK_nil Try.func100 rfl rfl smL_nil rfl (e_slices_Grow_int64_int64 real x0 hok)
  · cases hc
def tyn : List (Nat × TI) := [
  (0, ⟨1, 0, D.oth, none, [none], [A.undef]⟩),
  (1, ⟨1, 8, D.oth, none, [none], [A.undef]⟩),
  (2, ⟨1, 8, D.sc (K.i .i64), some [K.i .i64], [none], [A.int .i64 0]⟩),
  (3, ⟨1, 8, D.sc (K.i .i64), some [K.i .i64], [none], [A.int .i64 0]⟩),
  (4, ⟨1, 1, D.sc K.b, some [K.b], [none], [A.bool false]⟩),
  (5, ⟨1, 1, D.sc (K.i .u8), some [K.i .u8], [none], [A.int .u8 0]⟩),
  (6, ⟨1, 1, D.sc (K.i .u8), some [K.i .u8], [none], [A.int .u8 0]⟩),
  (7, ⟨4, 24, D.st [(0, 2), (1, 3), (2, 4), (3, 6)], some [K.i .i64, K.i .i64, K.b, K.i .u8], [none, none, none, none], [A.int .i64 0, A.int .i64 0, A.bool false, A.int .u8 0]⟩),
  (8, ⟨4, 24, D.st [(0, 2), (1, 3), (2, 4), (3, 6)], some [K.i .i64, K.i .i64, K.b, K.i .u8], [none, none, none, none], [A.int .i64 0, A.int .i64 0, A.bool false, A.int .u8 0]⟩),
  (9, ⟨1, 16, D.oth, none, [none], [A.undef]⟩),
  (10, ⟨1, 16, D.oth, none, [none], [A.undef]⟩),
  (11, ⟨1, 16, D.oth, none, [none], [A.undef]⟩),
  (12, ⟨1, 8, D.sc (K.i .u64), some [K.i .u64], [none], [A.int .u64 0]⟩),
  (13, ⟨2, 24, D.st [(0, 9), (1, 12)], none, [none, none], [A.undef, A.int .u64 0]⟩),
  (14, ⟨2, 24, D.st [(0, 9), (1, 12)], none, [none, none], [A.undef, A.int .u64 0]⟩),
  (15, ⟨1, 8, D.oth, none, [none], [A.undef]⟩),
  (16, ⟨1, 8, D.oth, none, [none], [A.undef]⟩),
  (17, ⟨1, 8, D.oth, none, [none], [A.undef]⟩),
  (18, ⟨1, 8, D.st [(0, 17)], none, [none], [A.undef]⟩),
  (19, ⟨1, 8, D.st [(0, 17)], none, [none], [A.undef]⟩),
  (20, ⟨1, 16, D.oth, none, [none], [A.undef]⟩),
  (21, ⟨1, 4, D.sc (K.i .i32), some [K.i .i32], [none], [A.int .i32 0]⟩),
  (22, ⟨1, 4, D.sc (K.f .f32), some [K.f .f32], [none], [A.fl .f32 0]⟩),
  (23, ⟨2, 8, D.st [(0, 22), (1, 22)], some [K.f .f32, K.f .f32], [none, none], [A.fl .f32 0, A.fl .f32 0]⟩),
  (24, ⟨2, 8, D.st [(0, 22), (1, 22)], some [K.f .f32, K.f .f32], [none, none], [A.fl .f32 0, A.fl .f32 0]⟩),
  (25, ⟨2, 8, D.st [(0, 22), (1, 22)], some [K.f .f32, K.f .f32], [none, none], [A.fl .f32 0, A.fl .f32 0]⟩),
  (26, ⟨1, 0, D.oth, none, [none], [A.undef]⟩),
  (27, ⟨1, 8, D.oth, none, [none], [A.undef]⟩),
  (28, ⟨1, 8, D.oth, none, [none], [A.undef]⟩),
  (29, ⟨1, 8, D.oth, none, [none], [A.undef]⟩),
  (30, ⟨1, 8, D.oth, none, [none], [A.undef]⟩),
  (31, ⟨1, 24, D.sl 22, none, [none], [A.nil]⟩),
  (32, ⟨1, 0, D.oth, none, [none], [A.undef]⟩),
  (33, ⟨1, 8, D.oth, none, [none], [A.undef]⟩),
  (34, ⟨1, 8, D.oth, none, [none], [A.undef]⟩),
  (35, ⟨1, 8, D.oth, none, [none], [A.undef]⟩),
  (36, ⟨1, 8, D.oth, none, [none], [A.undef]⟩),
  (37, ⟨1, 8, D.oth, none, [none], [A.undef]⟩),
  (38, ⟨1, 8, D.oth, none, [none], [A.undef]⟩),
  (39, ⟨1, 8, D.oth, none, [none], [A.undef]⟩),
  (40, ⟨1, 0, D.oth, none, [none], [A.undef]⟩),
  (41, ⟨1, 8, D.oth, none, [none], [A.undef]⟩),
  (42, ⟨1, 8, D.oth, none, [none], [A.undef]⟩),
  (43, ⟨1, 0, D.oth, none, [none], [A.undef]⟩),
  (44, ⟨1, 8, D.oth, none, [none], [A.undef]⟩),
  (45, ⟨1, 8, D.oth, none, [none], [A.undef]⟩),
  (46, ⟨1, 8, D.sc (K.f .f64), some [K.f .f64], [none], [A.fl .f64 0]⟩),
  (47, ⟨1, 8, D.oth, none, [none], [A.undef]⟩),
  (48, ⟨1, 8, D.oth, none, [none], [A.undef]⟩),
  (49, ⟨1, 8, D.oth, none, [none], [A.undef]⟩),
  (50, ⟨1, 24, D.sl 2, none, [none], [A.nil]⟩),
  (51, ⟨1, 0, D.oth, none, [none], [A.undef]⟩),
  (52, ⟨1, 8, D.oth, none, [none], [A.undef]⟩),
  (53, ⟨1, 8, D.oth, none, [none], [A.undef]⟩),
  (54, ⟨1, 8, D.oth, none, [none], [A.undef]⟩),
  (55, ⟨1, 8, D.oth, none, [none], [A.undef]⟩),
  (56, ⟨1, 24, D.sl 25, none, [none], [A.nil]⟩),
  (57, ⟨1, 0, D.oth, none, [none], [A.undef]⟩),
  (58, ⟨1, 8, D.oth, none, [none], [A.undef]⟩),
  (59, ⟨1, 8, D.oth, none, [none], [A.undef]⟩),
  (60, ⟨1, 8, D.oth, none, [none], [A.undef]⟩),
  (61, ⟨1, 8, D.oth, none, [none], [A.undef]⟩),
  (62, ⟨1, 8, D.oth, none, [none], [A.undef]⟩),
  (63, ⟨1, 8, D.oth, none, [none], [A.undef]⟩),
  (64, ⟨1, 8, D.oth, none, [none], [A.undef]⟩),
  (65, ⟨1, 8, D.oth, none, [none], [A.undef]⟩),
  (66, ⟨1, 8, D.oth, none, [none], [A.undef]⟩),
  (67, ⟨1, 8, D.oth, none, [none], [A.undef]⟩),
  (68, ⟨1, 8, D.oth, none, [none], [A.undef]⟩),
  (69, ⟨4, 16, D.ar 4 22, some [K.f .f32, K.f .f32, K.f .f32, K.f .f32], [none, none, none, none], [A.fl .f32 0, A.fl .f32 0, A.fl .f32 0, A.fl .f32 0]⟩),
  (70, ⟨4, 16, D.ar 4 22, some [K.f .f32, K.f .f32, K.f .f32, K.f .f32], [none, none, none, none], [A.fl .f32 0, A.fl .f32 0, A.fl .f32 0, A.fl .f32 0]⟩),
  (71, ⟨1, 8, D.oth, none, [none], [A.undef]⟩),
  (72, ⟨1, 8, D.oth, none, [none], [A.undef]⟩),
  (73, ⟨1, 8, D.oth, none, [none], [A.undef]⟩),
  (74, ⟨1, 8, D.oth, none, [none], [A.undef]⟩),
  (75, ⟨1, 8, D.oth, none, [none], [A.undef]⟩),
  (76, ⟨1, 8, D.oth, none, [none], [A.undef]⟩),
  (77, ⟨1, 8, D.oth, none, [none], [A.undef]⟩),
  (78, ⟨1, 8, D.oth, none, [none], [A.undef]⟩),
  (79, ⟨1, 8, D.oth, none, [none], [A.undef]⟩),
  (80, ⟨1, 8, D.oth, none, [none], [A.undef]⟩),
  (81, ⟨1, 8, D.oth, none, [none], [A.undef]⟩),
  (82, ⟨1, 8, D.oth, none, [none], [A.undef]⟩),
  (83, ⟨1, 8, D.oth, none, [none], [A.undef]⟩),
  (84, ⟨1, 24, D.sl 4, none, [none], [A.nil]⟩),
  (85, ⟨1, 8, D.oth, none, [none], [A.undef]⟩),
  (86, ⟨1, 8, D.oth, none, [none], [A.undef]⟩),
  (87, ⟨1, 8, D.oth, none, [none], [A.undef]⟩),
  (88, ⟨1, 8, D.oth, none, [none], [A.undef]⟩),
  (89, ⟨2, 16, D.ar 2 2, some [K.i .i64, K.i .i64], [none, none], [A.int .i64 0, A.int .i64 0]⟩),
  (90, ⟨1, 8, D.oth, none, [none], [A.undef]⟩),
  (91, ⟨1, 8, D.oth, none, [none], [A.undef]⟩),
  (92, ⟨1, 8, D.oth, none, [none], [A.undef]⟩),
  (93, ⟨1, 8, D.oth, none, [none], [A.undef]⟩),
  (94, ⟨1, 8, D.oth, none, [none], [A.undef]⟩),
  (95, ⟨1, 8, D.oth, none, [none], [A.undef]⟩),
  (96, ⟨1, 8, D.oth, none, [none], [A.undef]⟩),
  (97, ⟨1, 8, D.oth, none, [none], [A.undef]⟩),
  (98, ⟨1, 8, D.oth, none, [none], [A.undef]⟩),
  (99, ⟨1, 8, D.oth, none, [none], [A.undef]⟩),
  (100, ⟨1, 24, D.sl 50, none, [none], [A.nil]⟩),
  (101, ⟨1, 8, D.oth, none, [none], [A.undef]⟩),
  (102, ⟨1, 8, D.oth, none, [none], [A.undef]⟩),
  (103, ⟨1, 8, D.oth, none, [none], [A.undef]⟩),
  (104, ⟨1, 8, D.sc (K.i .u64), some [K.i .u64], [none], [A.int .u64 0]⟩),
  (105, ⟨1, 8, D.oth, none, [none], [A.undef]⟩),
  (106, ⟨1, 8, D.oth, none, [none], [A.undef]⟩),
  (107, ⟨1, 8, D.oth, none, [none], [A.undef]⟩),
  (108, ⟨1, 8, D.oth, none, [none], [A.undef]⟩),
  (109, ⟨1, 0, D.oth, none, [none], [A.undef]⟩),
  (110, ⟨1, 8, D.oth, none, [none], [A.undef]⟩),
  (111, ⟨1, 8, D.oth, none, [none], [A.undef]⟩),
  (112, ⟨1, 8, D.oth, none, [none], [A.undef]⟩),
  (113, ⟨1, 8, D.sc (K.i .u64), some [K.i .u64], [none], [A.int .u64 0]⟩),
  (114, ⟨1, 8, D.oth, none, [none], [A.undef]⟩),
  (115, ⟨1, 8, D.oth, none, [none], [A.undef]⟩),
  (116, ⟨4, 40, D.st [(0, 17), (1, 17), (2, 17), (3, 9)], none, [none, none, none, none], [A.undef, A.undef, A.undef, A.undef]⟩),
  (117, ⟨4, 40, D.st [(0, 17), (1, 17), (2, 17), (3, 9)], none, [none, none, none, none], [A.undef, A.undef, A.undef, A.undef]⟩),
  (121, ⟨1, 8, D.oth, none, [none], [A.undef]⟩),
  (122, ⟨1, 4, D.sc (K.i .u32), some [K.i .u32], [none], [A.int .u32 0]⟩),
  (123, ⟨1, 1, D.sc (K.i .u8), some [K.i .u8], [none], [A.int .u8 0]⟩),
  (124, ⟨1, 1, D.sc (K.i .u8), some [K.i .u8], [none], [A.int .u8 0]⟩),
  (125, ⟨1, 8, D.oth, none, [none], [A.undef]⟩),
  (126, ⟨1, 8, D.oth, none, [none], [A.undef]⟩),
  (127, ⟨1, 4, D.sc (K.i .i32), some [K.i .i32], [none], [A.int .i32 0]⟩),
  (128, ⟨1, 4, D.sc (K.i .i32), some [K.i .i32], [none], [A.int .i32 0]⟩),
  (129, ⟨11, 48, D.st [(0, 12), (1, 12), (2, 122), (3, 123), (4, 5), (5, 5), (6, 124), (7, 125), (8, 126), (9, 127), (10, 128)], none, [none, none, none, none, none, none, none, none, none, none, none], [A.int .u64 0, A.int .u64 0, A.int .u32 0, A.int .u8 0, A.int .u8 0, A.int .u8 0, A.int .u8 0, A.undef, A.undef, A.int .i32 0, A.int .i32 0]⟩),
  (130, ⟨11, 48, D.st [(0, 12), (1, 12), (2, 122), (3, 123), (4, 5), (5, 5), (6, 124), (7, 125), (8, 126), (9, 127), (10, 128)], none, [none, none, none, none, none, none, none, none, none, none, none], [A.int .u64 0, A.int .u64 0, A.int .u32 0, A.int .u8 0, A.int .u8 0, A.int .u8 0, A.int .u8 0, A.undef, A.undef, A.int .i32 0, A.int .i32 0]⟩),
  (131, ⟨1, 8, D.oth, none, [none], [A.undef]⟩)]
theorem prog_okn : ProgOK Try.prog tyn := ⟨tyOK_of (by kernel_rfl), by kernel_rfl⟩
def Pure.slices_Concat_int64_int64 (F : FOps) (x0 x1 : List (List Int)) : List (List Int) := ([] ++ x0) ++ x1
def Pure.slices_Concat_int64_int64_ok (F : FOps) (x0 x1 : List (List Int)) : Bool := bif decide ((IntKind.wrap .i64 (Int.ofNat (0 + x0.length))) < 0) then false else bif decide ((IntKind.wrap .i64 ((IntKind.wrap .i64 (Int.ofNat (0 + x0.length))) + (Int.ofNat x1.length))) < 0) then false else bif Pure.slices_Grow_int64_int64_ok F (IntKind.wrap .i64 ((IntKind.wrap .i64 (Int.ofNat (0 + x0.length))) + (Int.ofNat x1.length))) then bif decide ((0 + x0.length) ≤ 1073741824) then decide (((List.length ([] ++ x0)) + x1.length) ≤ 1073741824) else false else false
def c_slices_Concat_int64_int64 (F : FOps) : Con
  | [V.at (A.bs 0 2)], [⟨false, .box [A.sl 1, A.sl 2]⟩, ⟨false, .rows [K.i .i64] x0⟩, ⟨false, .rows [K.i .i64] x1⟩] => some (Pure.slices_Concat_int64_int64_ok F x0 x1, ⟨V.at (A.sl 3), none, [⟨true, .rows [K.i .i64] (Pure.slices_Concat_int64_int64 F x0 x1)⟩]⟩)
  | _, _ => none
theorem e_slices_Concat_int64_int64 (F : FOps) (x0 x1 : List (List Int)) : Pure.slices_Concat_int64_int64_ok F x0 x1 = true → evFn (cxS F tyn [(100, c_slices_Grow_int64_int64 F)] [] [] 5) Try.f87 false [V.at (A.bs 0 2)] [⟨false, .box [A.sl 1, A.sl 2]⟩, ⟨false, .rows [K.i .i64] x0⟩, ⟨false, .rows [K.i .i64] x1⟩] = some ⟨V.at (A.sl 3), none, [⟨true, .rows [K.i .i64] (Pure.slices_Concat_int64_int64 F x0 x1)⟩]⟩ := by
  have h0 : evFn (cxS F tyn [(100, c_slices_Grow_int64_int64 F)] [] [] 5) Try.f87 false [V.at (A.bs 0 2)] [⟨false, .box [A.sl 1, A.sl 2]⟩, ⟨false, .rows [K.i .i64] x0⟩, ⟨false, .rows [K.i .i64] x1⟩] = bif decide ((IntKind.wrap .i64 (Int.ofNat (0 + x0.length))) < 0) then none else bif decide ((IntKind.wrap .i64 ((IntKind.wrap .i64 (Int.ofNat (0 + x0.length))) + (Int.ofNat x1.length))) < 0) then none else bif Pure.slices_Grow_int64_int64_ok F (IntKind.wrap .i64 ((IntKind.wrap .i64 (Int.ofNat (0 + x0.length))) + (Int.ofNat x1.length))) then bif decide ((0 + x0.length) ≤ 1073741824) then bif decide (((List.length ([] ++ x0)) + x1.length) ≤ 1073741824) then some ⟨V.at (A.sl 3), none, [⟨true, .rows [K.i .i64] (([] ++ x0) ++ x1)⟩]⟩ else none else none else none := by kernel_rfl
  rw [h0]
  unfold Pure.slices_Concat_int64_int64 Pure.slices_Concat_int64_int64_ok
  cases (decide ((IntKind.wrap .i64 (Int.ofNat (0 + x0.length))) < 0)) with
  | true =>
    intro h; exact absurd h Bool.false_ne_true
  | false =>
    cases (decide ((IntKind.wrap .i64 ((IntKind.wrap .i64 (Int.ofNat (0 + x0.length))) + (Int.ofNat x1.length))) < 0)) with
    | true =>
      intro h; exact absurd h Bool.false_ne_true
    | false =>
      cases (Pure.slices_Grow_int64_int64_ok F (IntKind.wrap .i64 ((IntKind.wrap .i64 (Int.ofNat (0 + x0.length))) + (Int.ofNat x1.length)))) with
      | true =>
        cases (decide ((0 + x0.length) ≤ 1073741824)) with
        | true =>
          cases (decide (((List.length ([] ++ x0)) + x1.length) ≤ 1073741824)) with
          | true =>
            intro _; rfl
          | false =>
            intro h; exact absurd h Bool.false_ne_true
        | false =>
          intro h; exact absurd h Bool.false_ne_true
      | false =>
        intro h; exact absurd h Bool.false_ne_true
theorem ok_slices_Concat_int64_int64 : CallOK Try.prog 87 (c_slices_Concat_int64_int64 real) := by
  refine callOK_of fun args h ret hc => ?_
  unfold c_slices_Concat_int64_int64 at hc
  split at hc
  · rename_i x0 x1
    obtain ⟨hok, rfl⟩ := some_ret hc
    exact holds_ev prog_okn (allOK_cons ok_slices_Grow_int64_int64 allOK_nil) Try.func87 rfl rfl smL_nil rfl (e_slices_Concat_int64_int64 real x0 x1 hok)
  · cases hc
def Pure.impl_BasinsOf_L0 (F : FOps) (y0 y1 y2 y3 y4 y5 y6 : Int) : Nat → Int → (List (List Int)) → (Bool × (List (List Int)))
  | 0, _, _ => (false, [])
  | n + 1, y7, y8 => bif (decide (y7 < y6)) then (bif (Pure.impl_basinRow_ok F y7 y0 y1 y2 y3 y4 y5) then (bif (Pure.slices_Concat_int64_int64_ok F y8 (Pure.impl_basinRow F y7 y0 y1 y2 y3 y4 y5)) then (Pure.impl_BasinsOf_L0 F y0 y1 y2 y3 y4 y5 y6 n (IntKind.wrap .i64 (y7 + 1)) (Pure.slices_Concat_int64_int64 F y8 (Pure.impl_basinRow F y7 y0 y1 y2 y3 y4 y5))) else ((false, []))) else ((false, []))) else ((true, y8))
def R_impl_BasinsOf_L0 (r : (Bool × (List (List Int)))) : Bool × Ends := ((r).1, (.one Ex.normal [V.at (A.sl 0)] [⟨true, .rows [K.i .i64] (r).2⟩]))
def S_impl_BasinsOf_L0 (F : FOps) : Sm := ⟨[0, 1, 2, 3, 4, 5, 14, 33, 34], [2, 2, 22, 22, 2, 2, 50, 2, 2], [14], fun vals hp => match vals, hp with
  | [V.at (A.int .i64 y0), V.at (A.int .i64 y1), V.at (A.fl .f32 y2), V.at (A.fl .f32 y3), V.at (A.int .i64 y4), V.at (A.int .i64 y5), V.at (A.sl 0), V.at (A.int .i64 y6), V.at (A.int .i64 y7)], [⟨true, .rows [K.i .i64] y8⟩] => some (R_impl_BasinsOf_L0  (Pure.impl_BasinsOf_L0 F y0 y1 y2 y3 y4 y5 y6 (y6 - y7 + 1).toNat y7 y8))
  | _, _ => none⟩
theorem l_impl_BasinsOf_L0 (F : FOps) (y0 y1 y2 y3 y4 y5 y6 : Int) : ∀ (fuel : Nat) (y7 : Int) (y8 : List (List Int)), (Pure.impl_BasinsOf_L0 F y0 y1 y2 y3 y4 y5 y6 fuel y7 y8).1 = true → loopOf (cxS F tyl [(80, c_impl_gridOk F), (72, c_impl_restOk F), (84, c_impl_basinRow F), (87, c_slices_Concat_int64_int64 F)] [] [] 0) 0 50 0 [0, 1, 2, 3, 4, 5, 14, 33, 34] [2, 2, 22, 22, 2, 2, 50, 2, 2] [14] (loopB 0 (codeOf Try.f50)) fuel [V.at (A.int .i64 y0), V.at (A.int .i64 y1), V.at (A.fl .f32 y2), V.at (A.fl .f32 y3), V.at (A.int .i64 y4), V.at (A.int .i64 y5), V.at (A.sl 0), V.at (A.int .i64 y6), V.at (A.int .i64 y7)] [⟨true, .rows [K.i .i64] y8⟩] = resOf (R_impl_BasinsOf_L0  (Pure.impl_BasinsOf_L0 F y0 y1 y2 y3 y4 y5 y6 fuel y7 y8)) := by
  intro fuel
  induction fuel with
  | zero => intro y7 y8 h; exact absurd h Bool.false_ne_true
  | succ n ih =>
    intro y7 y8
    have h0 : roundOf (cxS F tyl [(80, c_impl_gridOk F), (72, c_impl_restOk F), (84, c_impl_basinRow F), (87, c_slices_Concat_int64_int64 F)] [] [] 0) 0 50 0 [0, 1, 2, 3, 4, 5, 14, 33, 34] [2, 2, 22, 22, 2, 2, 50, 2, 2] [14] (loopB 0 (codeOf Try.f50)) [V.at (A.int .i64 y0), V.at (A.int .i64 y1), V.at (A.fl .f32 y2), V.at (A.fl .f32 y3), V.at (A.int .i64 y4), V.at (A.int .i64 y5), V.at (A.sl 0), V.at (A.int .i64 y6), V.at (A.int .i64 y7)] [⟨true, .rows [K.i .i64] y8⟩] = (bif decide (y7 < y6) then bif Pure.impl_basinRow_ok F y7 y0 y1 y2 y3 y4 y5 then bif Pure.slices_Concat_int64_int64_ok F y8 (Pure.impl_basinRow F y7 y0 y1 y2 y3 y4 y5) then some (true, (Ex.normal, ([V.at (A.int .i64 y0), V.at (A.int .i64 y1), V.at (A.fl .f32 y2), V.at (A.fl .f32 y3), V.at (A.int .i64 y4), V.at (A.int .i64 y5), V.at (A.sl 0), V.at (A.int .i64 y6), V.at (A.int .i64 (IntKind.wrap .i64 (y7 + 1)))], [⟨true, .rows [K.i .i64] (Pure.slices_Concat_int64_int64 F y8 (Pure.impl_basinRow F y7 y0 y1 y2 y3 y4 y5))⟩]))) else none else none else some (false, (Ex.normal, ([V.at (A.sl 0)], [⟨true, .rows [K.i .i64] y8⟩])))) := by kernel_rfl
    unfold loopOf
    rw [h0]
    unfold Pure.impl_BasinsOf_L0
    cases (decide (y7 < y6)) with
    | true =>
      cases (Pure.impl_basinRow_ok F y7 y0 y1 y2 y3 y4 y5) with
      | true =>
        cases (Pure.slices_Concat_int64_int64_ok F y8 (Pure.impl_basinRow F y7 y0 y1 y2 y3 y4 y5)) with
        | true =>
          exact ih _ _
        | false =>
          intro h; exact absurd h Bool.false_ne_true
      | false =>
        intro h; exact absurd h Bool.false_ne_true
    | false =>
      intro _; rfl
theorem t_impl_BasinsOf_L0 : SmTo Try.prog 0 50 (S_impl_BasinsOf_L0 real) 0 (.loop (loopB 0 (codeOf Try.f50))) := by
  refine smTo_ev (cl := [(80, c_impl_gridOk real), (72, c_impl_restOk real), (84, c_impl_basinRow real), (87, c_slices_Concat_int64_int64 real)]) (ef := []) (sm := []) (un := 0) prog_ok (allOK_cons ok_impl_gridOk (allOK_cons ok_impl_restOk (allOK_cons ok_impl_basinRow (allOK_cons ok_slices_Concat_int64_int64 allOK_nil)))) smL_nil ?_
  intro vals hp q r h hq
  unfold S_impl_BasinsOf_L0 at h
  dsimp only at h
  split at h
  · rename_i y0 y1 y2 y3 y4 y5 y6 y7 y8
    obtain rfl := Option.some.inj h
    have h1 := hq
    unfold resOf at h1
    rw [chk_some] at h1
    exact ⟨_, (l_impl_BasinsOf_L0 real y0 y1 y2 y3 y4 y5 y6 _ y7 y8 h1.1).trans hq⟩
  · cases h
def Pure.impl_BasinsOf (F : FOps) (x0 x1 x2 x3 x4 x5 : Int) : Bool := bif Pure.impl_in F x0 1 32 then bif Pure.impl_in F x1 1 32 then Pure.impl_restOk F x2 x3 x4 x5 else false else false
def Pure.impl_BasinsOf_1 (F : FOps) (x0 x1 x2 x3 x4 x5 : Int) : List (List Int) := bif Pure.impl_in F x0 1 32 then bif Pure.impl_in F x1 1 32 then bif Pure.impl_restOk F x2 x3 x4 x5 then Prod.snd (Pure.impl_BasinsOf_L0 F x0 x1 x2 x3 x4 x5 x1 (Int.toNat ((x1 - 0) + 1)) 0 []) else [] else [] else []
def Pure.impl_BasinsOf_ok (F : FOps) (x0 x1 x2 x3 x4 x5 : Int) : Bool := bif Pure.impl_in F x0 1 32 then bif Pure.impl_in F x1 1 32 then bif Pure.impl_restOk F x2 x3 x4 x5 then Prod.fst (Pure.impl_BasinsOf_L0 F x0 x1 x2 x3 x4 x5 x1 (Int.toNat ((x1 - 0) + 1)) 0 []) else true else true else true
def c_impl_BasinsOf (F : FOps) : Con
  | [V.at (A.int .i64 x0), V.at (A.int .i64 x1), V.at (A.fl .f32 x2), V.at (A.fl .f32 x3), V.at (A.int .i64 x4), V.at (A.int .i64 x5)], [] => some (Pure.impl_BasinsOf_ok F x0 x1 x2 x3 x4 x5, ⟨V.tup [(false, [A.sl 0]), (false, [A.bool (Pure.impl_BasinsOf F x0 x1 x2 x3 x4 x5)])], none, [⟨true, .rows [K.i .i64] (Pure.impl_BasinsOf_1 F x0 x1 x2 x3 x4 x5)⟩]⟩)
  | _, _ => none
theorem e_impl_BasinsOf (F : FOps) (x0 x1 x2 x3 x4 x5 : Int) : Pure.impl_BasinsOf_ok F x0 x1 x2 x3 x4 x5 = true → evFn (cxS F tyl [(80, c_impl_gridOk F), (72, c_impl_restOk F), (84, c_impl_basinRow F), (87, c_slices_Concat_int64_int64 F)] [] [(0, S_impl_BasinsOf_L0 F)] 0) Try.f50 false [V.at (A.int .i64 x0), V.at (A.int .i64 x1), V.at (A.fl .f32 x2), V.at (A.fl .f32 x3), V.at (A.int .i64 x4), V.at (A.int .i64 x5)] [] = some ⟨V.tup [(false, [A.sl 0]), (false, [A.bool (Pure.impl_BasinsOf F x0 x1 x2 x3 x4 x5)])], none, [⟨true, .rows [K.i .i64] (Pure.impl_BasinsOf_1 F x0 x1 x2 x3 x4 x5)⟩]⟩ := by
  have h0 : evFn (cxS F tyl [(80, c_impl_gridOk F), (72, c_impl_restOk F), (84, c_impl_basinRow F), (87, c_slices_Concat_int64_int64 F)] [] [(0, S_impl_BasinsOf_L0 F)] 0) Try.f50 false [V.at (A.int .i64 x0), V.at (A.int .i64 x1), V.at (A.fl .f32 x2), V.at (A.fl .f32 x3), V.at (A.int .i64 x4), V.at (A.int .i64 x5)] [] = bif Bool.not (Pure.impl_in F x0 1 32) then some ⟨V.tup [(false, [A.sl 0]), (false, [A.bool false])], none, [⟨true, .rows [K.i .i64] []⟩]⟩ else bif Bool.not (Pure.impl_in F x1 1 32) then some ⟨V.tup [(false, [A.sl 0]), (false, [A.bool false])], none, [⟨true, .rows [K.i .i64] []⟩]⟩ else bif Bool.not (Pure.impl_restOk F x2 x3 x4 x5) then some ⟨V.tup [(false, [A.sl 0]), (false, [A.bool false])], none, [⟨true, .rows [K.i .i64] []⟩]⟩ else bif Prod.fst (Pure.impl_BasinsOf_L0 F x0 x1 x2 x3 x4 x5 x1 (Int.toNat ((x1 - 0) + 1)) 0 []) then some ⟨V.tup [(false, [A.sl 0]), (false, [A.bool true])], none, [⟨true, .rows [K.i .i64] (Prod.snd (Pure.impl_BasinsOf_L0 F x0 x1 x2 x3 x4 x5 x1 (Int.toNat ((x1 - 0) + 1)) 0 []))⟩]⟩ else none := by kernel_rfl
  rw [h0]
  unfold Pure.impl_BasinsOf Pure.impl_BasinsOf_1 Pure.impl_BasinsOf_ok
  cases (Pure.impl_in F x0 1 32) with
  | true =>
    cases (Pure.impl_in F x1 1 32) with
    | true =>
      cases (Pure.impl_restOk F x2 x3 x4 x5) with
      | true =>
        cases (Prod.fst (Pure.impl_BasinsOf_L0 F x0 x1 x2 x3 x4 x5 x1 (Int.toNat ((x1 - 0) + 1)) 0 [])) with
        | true =>
          intro _; rfl
        | false =>
          intro h; exact absurd h Bool.false_ne_true
      | false =>
        intro _; rfl
    | false =>
      intro _; rfl
  | false =>
    intro _; rfl
theorem ok_impl_BasinsOf : CallOK Try.prog 50 (c_impl_BasinsOf real) := by
  refine callOK_of fun args h ret hc => ?_
  unfold c_impl_BasinsOf at hc
  split at hc
  · rename_i x0 x1 x2 x3 x4 x5
    obtain ⟨hok, rfl⟩ := some_ret hc
    exact holds_ev prog_ok (allOK_cons ok_impl_gridOk (allOK_cons ok_impl_restOk (allOK_cons ok_impl_basinRow (allOK_cons ok_slices_Concat_int64_int64 allOK_nil)))) Try.func50 rfl rfl (smL_cons (body := .loop (loopB 0 (codeOf Try.f50))) (by kernel_rfl) t_impl_BasinsOf_L0 smL_nil) rfl (e_impl_BasinsOf real x0 x1 x2 x3 x4 x5 hok)
  · cases hc
def Pure.laws_FnExactBasinsOf (F : FOps) (x0 x1 x2 x3 x4 x5 : Int) : Bool := bif Pure.laws_eqInt64S F (Pure.impl_BasinsOf_1 F x0 x1 x2 x3 x4 x5) (Pure.spec_BasinsOf_1 F x0 x1 x2 x3 x4 x5) then bif (Pure.impl_BasinsOf F x0 x1 x2 x3 x4 x5) == (Pure.spec_BasinsOf F x0 x1 x2 x3 x4 x5) then bif decide ((Pure.laws_heldInt64S F (Pure.laws_markInt64S_1 F (Pure.impl_BasinsOf_1 F x0 x1 x2 x3 x4 x5) 1) 1) < 0) then false else bif (Pure.laws_heldInt64S F (Pure.laws_markInt64S_1 F (Pure.impl_BasinsOf_1 F x0 x1 x2 x3 x4 x5) 1) 1) != (Pure.laws_markInt64S F (Pure.impl_BasinsOf_1 F x0 x1 x2 x3 x4 x5) 1) then false else true else false else false
def Pure.laws_FnExactBasinsOf_ok (F : FOps) (x0 x1 x2 x3 x4 x5 : Int) : Bool := bif Pure.spec_BasinsOf_ok F x0 x1 x2 x3 x4 x5 then bif Pure.impl_BasinsOf_ok F x0 x1 x2 x3 x4 x5 then bif Pure.laws_eqInt64S_ok F (Pure.impl_BasinsOf_1 F x0 x1 x2 x3 x4 x5) (Pure.spec_BasinsOf_1 F x0 x1 x2 x3 x4 x5) then bif Pure.laws_eqInt64S F (Pure.impl_BasinsOf_1 F x0 x1 x2 x3 x4 x5) (Pure.spec_BasinsOf_1 F x0 x1 x2 x3 x4 x5) then bif (Pure.impl_BasinsOf F x0 x1 x2 x3 x4 x5) == (Pure.spec_BasinsOf F x0 x1 x2 x3 x4 x5) then bif Pure.laws_markInt64S_ok F (Pure.impl_BasinsOf_1 F x0 x1 x2 x3 x4 x5) 1 then Pure.laws_heldInt64S_ok F (Pure.laws_markInt64S_1 F (Pure.impl_BasinsOf_1 F x0 x1 x2 x3 x4 x5) 1) 1 else false else true else true else false else false else false
def c_laws_FnExactBasinsOf (F : FOps) : Con
  | [V.at (A.int .i64 x0), V.at (A.int .i64 x1), V.at (A.fl .f32 x2), V.at (A.fl .f32 x3), V.at (A.int .i64 x4), V.at (A.int .i64 x5)], [] => some (Pure.laws_FnExactBasinsOf_ok F x0 x1 x2 x3 x4 x5, ⟨V.at (A.bool (Pure.laws_FnExactBasinsOf F x0 x1 x2 x3 x4 x5)), none, []⟩)
  | _, _ => none
theorem e_laws_FnExactBasinsOf (F : FOps) (x0 x1 x2 x3 x4 x5 : Int) : Pure.laws_FnExactBasinsOf_ok F x0 x1 x2 x3 x4 x5 = true → evFn (cxS F tyl [(49, c_spec_BasinsOf F), (50, c_impl_BasinsOf F), (39, c_laws_eqInt64S F), (40, c_laws_markInt64S F), (41, c_laws_heldInt64S F)] [40] [] 0) Try.f14 false [V.at (A.int .i64 x0), V.at (A.int .i64 x1), V.at (A.fl .f32 x2), V.at (A.fl .f32 x3), V.at (A.int .i64 x4), V.at (A.int .i64 x5)] [] = some ⟨V.at (A.bool (Pure.laws_FnExactBasinsOf F x0 x1 x2 x3 x4 x5)), none, []⟩ := by
  have h0 : evFn (cxS F tyl [(49, c_spec_BasinsOf F), (50, c_impl_BasinsOf F), (39, c_laws_eqInt64S F), (40, c_laws_markInt64S F), (41, c_laws_heldInt64S F)] [40] [] 0) Try.f14 false [V.at (A.int .i64 x0), V.at (A.int .i64 x1), V.at (A.fl .f32 x2), V.at (A.fl .f32 x3), V.at (A.int .i64 x4), V.at (A.int .i64 x5)] [] = bif Pure.spec_BasinsOf_ok F x0 x1 x2 x3 x4 x5 then bif Pure.impl_BasinsOf_ok F x0 x1 x2 x3 x4 x5 then bif Pure.laws_eqInt64S_ok F (Pure.impl_BasinsOf_1 F x0 x1 x2 x3 x4 x5) (Pure.spec_BasinsOf_1 F x0 x1 x2 x3 x4 x5) then bif Bool.not (Pure.laws_eqInt64S F (Pure.impl_BasinsOf_1 F x0 x1 x2 x3 x4 x5) (Pure.spec_BasinsOf_1 F x0 x1 x2 x3 x4 x5)) then some ⟨V.at (A.bool false), none, []⟩ else bif Bool.not ((Pure.impl_BasinsOf F x0 x1 x2 x3 x4 x5) == (Pure.spec_BasinsOf F x0 x1 x2 x3 x4 x5)) then some ⟨V.at (A.bool false), none, []⟩ else bif Pure.laws_markInt64S_ok F (Pure.impl_BasinsOf_1 F x0 x1 x2 x3 x4 x5) 1 then bif Pure.laws_heldInt64S_ok F (Pure.laws_markInt64S_1 F (Pure.impl_BasinsOf_1 F x0 x1 x2 x3 x4 x5) 1) 1 then bif decide ((Pure.laws_heldInt64S F (Pure.laws_markInt64S_1 F (Pure.impl_BasinsOf_1 F x0 x1 x2 x3 x4 x5) 1) 1) < 0) then some ⟨V.at (A.bool false), none, []⟩ else bif (Pure.laws_heldInt64S F (Pure.laws_markInt64S_1 F (Pure.impl_BasinsOf_1 F x0 x1 x2 x3 x4 x5) 1) 1) != (Pure.laws_markInt64S F (Pure.impl_BasinsOf_1 F x0 x1 x2 x3 x4 x5) 1) then some ⟨V.at (A.bool false), none, []⟩ else bif Pure.impl_BasinsOf_ok F x0 x1 x2 x3 x4 x5 then bif Pure.laws_eqInt64S_ok F (Pure.impl_BasinsOf_1 F x0 x1 x2 x3 x4 x5) (Pure.spec_BasinsOf_1 F x0 x1 x2 x3 x4 x5) then bif Bool.not (Pure.laws_eqInt64S F (Pure.impl_BasinsOf_1 F x0 x1 x2 x3 x4 x5) (Pure.spec_BasinsOf_1 F x0 x1 x2 x3 x4 x5)) then some ⟨V.at (A.bool false), none, []⟩ else bif Bool.not ((Pure.impl_BasinsOf F x0 x1 x2 x3 x4 x5) == (Pure.spec_BasinsOf F x0 x1 x2 x3 x4 x5)) then some ⟨V.at (A.bool false), none, []⟩ else bif Pure.laws_heldInt64S_ok F (Pure.laws_markInt64S_1 F (Pure.impl_BasinsOf_1 F x0 x1 x2 x3 x4 x5) 1) 1 then bif decide ((Pure.laws_heldInt64S F (Pure.laws_markInt64S_1 F (Pure.impl_BasinsOf_1 F x0 x1 x2 x3 x4 x5) 1) 1) < 0) then some ⟨V.at (A.bool false), none, []⟩ else bif (Pure.laws_heldInt64S F (Pure.laws_markInt64S_1 F (Pure.impl_BasinsOf_1 F x0 x1 x2 x3 x4 x5) 1) 1) != (Pure.laws_markInt64S F (Pure.impl_BasinsOf_1 F x0 x1 x2 x3 x4 x5) 1) then some ⟨V.at (A.bool false), none, []⟩ else some ⟨V.at (A.bool true), none, []⟩ else none else none else none else none else none else none else none else none := by kernel_rfl
  rw [h0]
  unfold Pure.laws_FnExactBasinsOf Pure.laws_FnExactBasinsOf_ok
  cases (Pure.spec_BasinsOf_ok F x0 x1 x2 x3 x4 x5) with
  | true =>
    cases (Pure.impl_BasinsOf_ok F x0 x1 x2 x3 x4 x5) with
    | true =>
      cases (Pure.laws_eqInt64S_ok F (Pure.impl_BasinsOf_1 F x0 x1 x2 x3 x4 x5) (Pure.spec_BasinsOf_1 F x0 x1 x2 x3 x4 x5)) with
      | true =>
        cases (Pure.laws_eqInt64S F (Pure.impl_BasinsOf_1 F x0 x1 x2 x3 x4 x5) (Pure.spec_BasinsOf_1 F x0 x1 x2 x3 x4 x5)) with
        | true =>
          cases ((Pure.impl_BasinsOf F x0 x1 x2 x3 x4 x5) == (Pure.spec_BasinsOf F x0 x1 x2 x3 x4 x5)) with
          | true =>
            cases (Pure.laws_markInt64S_ok F (Pure.impl_BasinsOf_1 F x0 x1 x2 x3 x4 x5) 1) with
            | true =>
              cases (Pure.laws_heldInt64S_ok F (Pure.laws_markInt64S_1 F (Pure.impl_BasinsOf_1 F x0 x1 x2 x3 x4 x5) 1) 1) with
              | true =>
                cases (decide ((Pure.laws_heldInt64S F (Pure.laws_markInt64S_1 F (Pure.impl_BasinsOf_1 F x0 x1 x2 x3 x4 x5) 1) 1) < 0)) with
                | true =>
                  intro _; rfl
                | false =>
                  cases ((Pure.laws_heldInt64S F (Pure.laws_markInt64S_1 F (Pure.impl_BasinsOf_1 F x0 x1 x2 x3 x4 x5) 1) 1) != (Pure.laws_markInt64S F (Pure.impl_BasinsOf_1 F x0 x1 x2 x3 x4 x5) 1)) with
                  | true =>
                    intro _; rfl
                  | false =>
                    intro _; rfl
              | false =>
                intro h; exact absurd h Bool.false_ne_true
            | false =>
              intro h; exact absurd h Bool.false_ne_true
          | false =>
            intro _; rfl
        | false =>
          intro _; rfl
      | false =>
        intro h; exact absurd h Bool.false_ne_true
    | false =>
      intro h; exact absurd h Bool.false_ne_true
  | false =>
    intro h; exact absurd h Bool.false_ne_true
theorem ok_laws_FnExactBasinsOf : CallOK Try.prog 14 (c_laws_FnExactBasinsOf real) := by
  refine callOK_of fun args h ret hc => ?_
  unfold c_laws_FnExactBasinsOf at hc
  split at hc
  · rename_i x0 x1 x2 x3 x4 x5
    obtain ⟨hok, rfl⟩ := some_ret hc
    exact holds_ev prog_ok (allOK_cons ok_spec_BasinsOf (allOK_cons ok_impl_BasinsOf (allOK_cons ok_laws_eqInt64S (allOK_cons ok_laws_markInt64S (allOK_cons ok_laws_heldInt64S allOK_nil))))) Try.func14 rfl rfl smL_nil rfl (e_laws_FnExactBasinsOf real x0 x1 x2 x3 x4 x5 hok)
  · cases hc
end Go.Fx
