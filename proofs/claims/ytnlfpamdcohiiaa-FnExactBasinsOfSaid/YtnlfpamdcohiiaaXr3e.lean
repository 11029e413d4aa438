import Derived.Test.YtnlfpamdcohiiaaXr3c
import Derived.KernelRfl
namespace Go.Fx
open Go.Proofs
set_option maxRecDepth 100000
def Pure.spec_l00In (F : FOps) (x0 x1 x2 : Int) : Bool := bif decide (x0 ≥ x1) then decide (x0 ≤ x2) else false
def c_spec_l00In (F : FOps) : Con
  | [V.at (A.int .i64 x0), V.at (A.int .i64 x1), V.at (A.int .i64 x2)], [] => some (true, ⟨V.at (A.bool (Pure.spec_l00In F x0 x1 x2)), none, []⟩)
  | _, _ => none
theorem e_spec_l00In (F : FOps) (x0 x1 x2 : Int) : evFn (cxS F tyl [] [] [] 0) Try.f78 false [V.at (A.int .i64 x0), V.at (A.int .i64 x1), V.at (A.int .i64 x2)] [] = some ⟨V.at (A.bool (Pure.spec_l00In F x0 x1 x2)), none, []⟩ := by
  have h0 : evFn (cxS F tyl [] [] [] 0) Try.f78 false [V.at (A.int .i64 x0), V.at (A.int .i64 x1), V.at (A.int .i64 x2)] [] = bif decide (x0 ≥ x1) then some ⟨V.at (A.bool (decide (x0 ≤ x2))), none, []⟩ else some ⟨V.at (A.bool false), none, []⟩ := by kernel_rfl
  rw [h0]
  unfold Pure.spec_l00In
  cases (decide (x0 ≥ x1)) with
  | true =>
    rfl
  | false =>
    rfl
theorem ok_spec_l00In : CallOK Try.prog 78 (c_spec_l00In real) := by
  refine callOK_of fun args h ret hc => ?_
  unfold c_spec_l00In at hc
  split at hc
  · rename_i x0 x1 x2
    obtain ⟨_, rfl⟩ := some_ret hc
    exact holds_ev prog_ok allOK_nil Try.func78 rfl rfl smL_nil rfl (e_spec_l00In real x0 x1 x2)
  · cases hc
def c_spec_l07Count (F : FOps) : Con
  | [V.at (A.int .i64 x0), V.at (A.int .i64 x1)], [] => some (true, ⟨V.at (A.bool (Pure.spec_l00In F x0 x1 128)), none, []⟩)
  | _, _ => none
theorem e_spec_l07Count (F : FOps) (x0 x1 : Int) : evFn (cxS F tyl [(78, c_spec_l00In F)] [] [] 0) Try.f74 false [V.at (A.int .i64 x0), V.at (A.int .i64 x1)] [] = some ⟨V.at (A.bool (Pure.spec_l00In F x0 x1 128)), none, []⟩ := by
  kernel_rfl
theorem ok_spec_l07Count : CallOK Try.prog 74 (c_spec_l07Count real) := by
  refine callOK_of fun args h ret hc => ?_
  unfold c_spec_l07Count at hc
  split at hc
  · rename_i x0 x1
    obtain ⟨_, rfl⟩ := some_ret hc
    exact holds_ev prog_ok (allOK_cons ok_spec_l00In allOK_nil) Try.func74 rfl rfl smL_nil rfl (e_spec_l07Count real x0 x1)
  · cases hc
def Pure.spec_l07Can (F : FOps) (x0 x1 x2 x3 : Int) : Bool := bif Pure.spec_l07Size F x0 then bif Pure.spec_l07Keep F x1 then bif Pure.spec_l00In F x2 0 128 then Pure.spec_l00In F x3 1 16 else false else false else false
def c_spec_l07Can (F : FOps) : Con
  | [V.at (A.fl .f32 x0), V.at (A.fl .f32 x1), V.at (A.int .i64 x2), V.at (A.int .i64 x3)], [] => some (true, ⟨V.at (A.bool (Pure.spec_l07Can F x0 x1 x2 x3)), none, []⟩)
  | _, _ => none
theorem e_spec_l07Can (F : FOps) (x0 x1 x2 x3 : Int) : evFn (cxS F tyl [(57, c_spec_l07Size F), (66, c_spec_l07Keep F), (74, c_spec_l07Count F), (78, c_spec_l00In F)] [] [] 0) Try.f70 false [V.at (A.fl .f32 x0), V.at (A.fl .f32 x1), V.at (A.int .i64 x2), V.at (A.int .i64 x3)] [] = some ⟨V.at (A.bool (Pure.spec_l07Can F x0 x1 x2 x3)), none, []⟩ := by
  have h0 : evFn (cxS F tyl [(57, c_spec_l07Size F), (66, c_spec_l07Keep F), (74, c_spec_l07Count F), (78, c_spec_l00In F)] [] [] 0) Try.f70 false [V.at (A.fl .f32 x0), V.at (A.fl .f32 x1), V.at (A.int .i64 x2), V.at (A.int .i64 x3)] [] = bif Pure.spec_l07Size F x0 then bif Pure.spec_l07Keep F x1 then bif Pure.spec_l00In F x2 0 128 then some ⟨V.at (A.bool (Pure.spec_l00In F x3 1 16)), none, []⟩ else some ⟨V.at (A.bool false), none, []⟩ else some ⟨V.at (A.bool false), none, []⟩ else some ⟨V.at (A.bool false), none, []⟩ := by kernel_rfl
  rw [h0]
  unfold Pure.spec_l07Can
  cases (Pure.spec_l07Size F x0) with
  | true =>
    cases (Pure.spec_l07Keep F x1) with
    | true =>
      cases (Pure.spec_l00In F x2 0 128) with
      | true =>
        rfl
      | false =>
        rfl
    | false =>
      rfl
  | false =>
    rfl
theorem ok_spec_l07Can : CallOK Try.prog 70 (c_spec_l07Can real) := by
  refine callOK_of fun args h ret hc => ?_
  unfold c_spec_l07Can at hc
  split at hc
  · rename_i x0 x1 x2 x3
    obtain ⟨_, rfl⟩ := some_ret hc
    exact holds_ev prog_ok (allOK_cons ok_spec_l07Size (allOK_cons ok_spec_l07Keep (allOK_cons ok_spec_l07Count (allOK_cons ok_spec_l00In allOK_nil)))) Try.func70 rfl rfl smL_nil rfl (e_spec_l07Can real x0 x1 x2 x3)
  · cases hc
def Pure.spec_l00Min (F : FOps) (x0 x1 : Int) : Int := bif decide (x0 < x1) then x0 else x1
def c_spec_l00Min (F : FOps) : Con
  | [V.at (A.int .i64 x0), V.at (A.int .i64 x1)], [] => some (true, ⟨V.at (A.int .i64 (Pure.spec_l00Min F x0 x1)), none, []⟩)
  | _, _ => none
theorem e_spec_l00Min (F : FOps) (x0 x1 : Int) : evFn (cxS F tyl [] [] [] 0) Try.f79 false [V.at (A.int .i64 x0), V.at (A.int .i64 x1)] [] = some ⟨V.at (A.int .i64 (Pure.spec_l00Min F x0 x1)), none, []⟩ := by
  have h0 : evFn (cxS F tyl [] [] [] 0) Try.f79 false [V.at (A.int .i64 x0), V.at (A.int .i64 x1)] [] = bif decide (x0 < x1) then some ⟨V.at (A.int .i64 x0), none, []⟩ else some ⟨V.at (A.int .i64 x1), none, []⟩ := by kernel_rfl
  rw [h0]
  unfold Pure.spec_l00Min
  cases (decide (x0 < x1)) with
  | true =>
    rfl
  | false =>
    rfl
theorem ok_spec_l00Min : CallOK Try.prog 79 (c_spec_l00Min real) := by
  refine callOK_of fun args h ret hc => ?_
  unfold c_spec_l00Min at hc
  split at hc
  · rename_i x0 x1
    obtain ⟨_, rfl⟩ := some_ret hc
    exact holds_ev prog_ok allOK_nil Try.func79 rfl rfl smL_nil rfl (e_spec_l00Min real x0 x1)
  · cases hc
def Pure.spec_l07Rest_L0 (F : FOps) (y0 y1 y3 : Int) : Nat → Int → Int → Int → (Bool × Int × Int)
  | 0, _, _, _ => (false, 0, 0)
  | n + 1, y2, y4, y5 => bif (decide (y2 > 0)) then (bif (Pure.spec_l07Damp_ok F y4 y5 y0 y1) then (Pure.spec_l07Rest_L0 F y0 y1 y3 n (IntKind.wrap .i64 (y2 - 1)) (Pure.spec_l07Damp F y4 y5 y0 y1) (Pure.spec_l07Damp_1 F y4 y5 y0 y1)) else ((false, 0, 0))) else ((true, y4, y5))
def R_spec_l07Rest_L0 (y3 : Int) (r : (Bool × Int × Int)) : Bool × Ends := ((r).1, (.one Ex.normal [V.at (A.int .i64 y3), V.at (A.ptr 0 0 0)] [⟨true, .box [A.fl .f32 (r).2.1, A.fl .f32 (r).2.2]⟩]))
def S_spec_l07Rest_L0 (F : FOps) : Sm := ⟨[1, 2, 3, 4, 5], [22, 22, 2, 2, 0], [4, 5], fun vals hp => match vals, hp with
  | [V.at (A.fl .f32 y0), V.at (A.fl .f32 y1), V.at (A.int .i64 y2), V.at (A.int .i64 y3), V.at (A.ptr 0 0 0)], [⟨true, .box [A.fl .f32 y4, A.fl .f32 y5]⟩] => some (R_spec_l07Rest_L0 y3 (Pure.spec_l07Rest_L0 F y0 y1 y3 (y2 - 0 + 1).toNat y2 y4 y5))
  | _, _ => none⟩
theorem l_spec_l07Rest_L0 (F : FOps) (y0 y1 y3 : Int) : ∀ (fuel : Nat) (y2 y4 y5 : Int), (Pure.spec_l07Rest_L0 F y0 y1 y3 fuel y2 y4 y5).1 = true → loopOf (cxS F tyl [(67, c_spec_l07Damp F), (79, c_spec_l00Min F)] [] [] 0) 0 28 0 [1, 2, 3, 4, 5] [22, 22, 2, 2, 0] [4, 5] (loopB 0 (codeOf Try.f71)) fuel [V.at (A.fl .f32 y0), V.at (A.fl .f32 y1), V.at (A.int .i64 y2), V.at (A.int .i64 y3), V.at (A.ptr 0 0 0)] [⟨true, .box [A.fl .f32 y4, A.fl .f32 y5]⟩] = resOf (R_spec_l07Rest_L0 y3 (Pure.spec_l07Rest_L0 F y0 y1 y3 fuel y2 y4 y5)) := by
  intro fuel
  induction fuel with
  | zero => intro y2 y4 y5 h; exact absurd h Bool.false_ne_true
  | succ n ih =>
    intro y2 y4 y5
    have h0 : roundOf (cxS F tyl [(67, c_spec_l07Damp F), (79, c_spec_l00Min F)] [] [] 0) 0 28 0 [1, 2, 3, 4, 5] [22, 22, 2, 2, 0] [4, 5] (loopB 0 (codeOf Try.f71)) [V.at (A.fl .f32 y0), V.at (A.fl .f32 y1), V.at (A.int .i64 y2), V.at (A.int .i64 y3), V.at (A.ptr 0 0 0)] [⟨true, .box [A.fl .f32 y4, A.fl .f32 y5]⟩] = (bif decide (y2 > 0) then bif Pure.spec_l07Damp_ok F y4 y5 y0 y1 then some (true, (Ex.normal, ([V.at (A.fl .f32 y0), V.at (A.fl .f32 y1), V.at (A.int .i64 (IntKind.wrap .i64 (y2 - 1))), V.at (A.int .i64 y3), V.at (A.ptr 0 0 0)], [⟨true, .box [A.fl .f32 (Pure.spec_l07Damp F y4 y5 y0 y1), A.fl .f32 (Pure.spec_l07Damp_1 F y4 y5 y0 y1)]⟩]))) else none else some (false, (Ex.normal, ([V.at (A.int .i64 y3), V.at (A.ptr 0 0 0)], [⟨true, .box [A.fl .f32 y4, A.fl .f32 y5]⟩])))) := by kernel_rfl
    unfold loopOf
    rw [h0]
    unfold Pure.spec_l07Rest_L0
    cases (decide (y2 > 0)) with
    | true =>
      cases (Pure.spec_l07Damp_ok F y4 y5 y0 y1) with
      | true =>
        exact ih _ _ _
      | false =>
        intro h; exact absurd h Bool.false_ne_true
    | false =>
      intro _; rfl
theorem t_spec_l07Rest_L0 : SmTo Try.prog 0 28 (S_spec_l07Rest_L0 real) 0 (.loop (loopB 0 (codeOf Try.f71))) := by
  refine smTo_ev (cl := [(67, c_spec_l07Damp real), (79, c_spec_l00Min real)]) (ef := []) (sm := []) (un := 0) prog_ok (allOK_cons ok_spec_l07Damp (allOK_cons ok_spec_l00Min allOK_nil)) smL_nil ?_
  intro vals hp q r h hq
  unfold S_spec_l07Rest_L0 at h
  dsimp only at h
  split at h
  · rename_i y0 y1 y2 y3 y4 y5
    obtain rfl := Option.some.inj h
    have h1 := hq
    unfold resOf at h1
    rw [chk_some] at h1
    exact ⟨_, (l_spec_l07Rest_L0 real y0 y1 y3 _ y2 y4 y5 h1.1).trans hq⟩
  · cases h
def Pure.spec_l07Rest (F : FOps) (x0 x1 x2 x3 x4 x5 : Int) : Int := Pure.spec_l00Min F (IntKind.wrap .i64 (x5 - 1)) (F.toInt .f32 IntKind.i64 (F.bin .mul .f32 (F.ofInt .f32 x5) (Prod.fst (Prod.snd (Pure.spec_l07Rest_L0 F x2 x3 x5 (Int.toNat ((x4 - 0) + 1)) x4 x0 x1)))))
def Pure.spec_l07Rest_ok (F : FOps) (x0 x1 x2 x3 x4 x5 : Int) : Bool := bif Prod.fst (Pure.spec_l07Rest_L0 F x2 x3 x5 (Int.toNat ((x4 - 0) + 1)) x4 x0 x1) then F.toIntOk .f32 IntKind.i64 (F.bin .mul .f32 (F.ofInt .f32 x5) (Prod.fst (Prod.snd (Pure.spec_l07Rest_L0 F x2 x3 x5 (Int.toNat ((x4 - 0) + 1)) x4 x0 x1)))) else false
def c_spec_l07Rest (F : FOps) : Con
  | [V.agg [A.fl .f32 x0, A.fl .f32 x1], V.at (A.fl .f32 x2), V.at (A.fl .f32 x3), V.at (A.int .i64 x4), V.at (A.int .i64 x5)], [] => some (Pure.spec_l07Rest_ok F x0 x1 x2 x3 x4 x5, ⟨V.at (A.int .i64 (Pure.spec_l07Rest F x0 x1 x2 x3 x4 x5)), none, []⟩)
  | _, _ => none
theorem e_spec_l07Rest (F : FOps) (x0 x1 x2 x3 x4 x5 : Int) : Pure.spec_l07Rest_ok F x0 x1 x2 x3 x4 x5 = true → evFn (cxS F tyl [(67, c_spec_l07Damp F), (79, c_spec_l00Min F)] [] [(0, S_spec_l07Rest_L0 F)] 0) Try.f71 false [V.agg [A.fl .f32 x0, A.fl .f32 x1], V.at (A.fl .f32 x2), V.at (A.fl .f32 x3), V.at (A.int .i64 x4), V.at (A.int .i64 x5)] [] = some ⟨V.at (A.int .i64 (Pure.spec_l07Rest F x0 x1 x2 x3 x4 x5)), none, []⟩ := by
  have h0 : evFn (cxS F tyl [(67, c_spec_l07Damp F), (79, c_spec_l00Min F)] [] [(0, S_spec_l07Rest_L0 F)] 0) Try.f71 false [V.agg [A.fl .f32 x0, A.fl .f32 x1], V.at (A.fl .f32 x2), V.at (A.fl .f32 x3), V.at (A.int .i64 x4), V.at (A.int .i64 x5)] [] = bif Prod.fst (Pure.spec_l07Rest_L0 F x2 x3 x5 (Int.toNat ((x4 - 0) + 1)) x4 x0 x1) then bif F.toIntOk .f32 IntKind.i64 (F.bin .mul .f32 (F.ofInt .f32 x5) (Prod.fst (Prod.snd (Pure.spec_l07Rest_L0 F x2 x3 x5 (Int.toNat ((x4 - 0) + 1)) x4 x0 x1)))) then some ⟨V.at (A.int .i64 (Pure.spec_l00Min F (IntKind.wrap .i64 (x5 - 1)) (F.toInt .f32 IntKind.i64 (F.bin .mul .f32 (F.ofInt .f32 x5) (Prod.fst (Prod.snd (Pure.spec_l07Rest_L0 F x2 x3 x5 (Int.toNat ((x4 - 0) + 1)) x4 x0 x1))))))), none, []⟩ else none else none := by kernel_rfl
  rw [h0]
  unfold Pure.spec_l07Rest Pure.spec_l07Rest_ok
  cases (Prod.fst (Pure.spec_l07Rest_L0 F x2 x3 x5 (Int.toNat ((x4 - 0) + 1)) x4 x0 x1)) with
  | true =>
    cases (F.toIntOk .f32 IntKind.i64 (F.bin .mul .f32 (F.ofInt .f32 x5) (Prod.fst (Prod.snd (Pure.spec_l07Rest_L0 F x2 x3 x5 (Int.toNat ((x4 - 0) + 1)) x4 x0 x1))))) with
    | true =>
      intro _; rfl
    | false =>
      intro h; exact absurd h Bool.false_ne_true
  | false =>
    intro h; exact absurd h Bool.false_ne_true
theorem ok_spec_l07Rest : CallOK Try.prog 71 (c_spec_l07Rest real) := by
  refine callOK_of fun args h ret hc => ?_
  unfold c_spec_l07Rest at hc
  split at hc
  · rename_i x0 x1 x2 x3 x4 x5
    obtain ⟨hok, rfl⟩ := some_ret hc
    exact holds_ev prog_ok (allOK_cons ok_spec_l07Damp (allOK_cons ok_spec_l00Min allOK_nil)) Try.func71 rfl rfl (smL_cons (body := .loop (loopB 0 (codeOf Try.f71))) (by kernel_rfl) t_spec_l07Rest_L0 smL_nil) rfl (e_spec_l07Rest real x0 x1 x2 x3 x4 x5 hok)
  · cases hc
def Pure.impl_in (F : FOps) (x0 x1 x2 : Int) : Bool := bif decide (x0 ≥ x1) then decide (x0 ≤ x2) else false
def c_impl_in (F : FOps) : Con
  | [V.at (A.int .i64 x0), V.at (A.int .i64 x1), V.at (A.int .i64 x2)], [] => some (true, ⟨V.at (A.bool (Pure.impl_in F x0 x1 x2)), none, []⟩)
  | _, _ => none
theorem e_impl_in (F : FOps) (x0 x1 x2 : Int) : evFn (cxS F tyl [] [] [] 0) Try.f76 false [V.at (A.int .i64 x0), V.at (A.int .i64 x1), V.at (A.int .i64 x2)] [] = some ⟨V.at (A.bool (Pure.impl_in F x0 x1 x2)), none, []⟩ := by
  have h0 : evFn (cxS F tyl [] [] [] 0) Try.f76 false [V.at (A.int .i64 x0), V.at (A.int .i64 x1), V.at (A.int .i64 x2)] [] = bif decide (x0 ≥ x1) then some ⟨V.at (A.bool (decide (x0 ≤ x2))), none, []⟩ else some ⟨V.at (A.bool false), none, []⟩ := by kernel_rfl
  rw [h0]
  unfold Pure.impl_in
  cases (decide (x0 ≥ x1)) with
  | true =>
    rfl
  | false =>
    rfl
theorem ok_impl_in : CallOK Try.prog 76 (c_impl_in real) := by
  refine callOK_of fun args h ret hc => ?_
  unfold c_impl_in at hc
  split at hc
  · rename_i x0 x1 x2
    obtain ⟨_, rfl⟩ := some_ret hc
    exact holds_ev prog_ok allOK_nil Try.func76 rfl rfl smL_nil rfl (e_impl_in real x0 x1 x2)
  · cases hc
def Pure.impl_restOk (F : FOps) (x0 x1 x2 x3 : Int) : Bool := bif Pure.impl_sizeOk F x0 then bif Pure.impl_shareOk F x1 then bif Pure.impl_in F x2 0 128 then Pure.impl_in F x3 1 16 else false else false else false
def c_impl_restOk (F : FOps) : Con
  | [V.at (A.fl .f32 x0), V.at (A.fl .f32 x1), V.at (A.int .i64 x2), V.at (A.int .i64 x3)], [] => some (true, ⟨V.at (A.bool (Pure.impl_restOk F x0 x1 x2 x3)), none, []⟩)
  | _, _ => none
theorem e_impl_restOk (F : FOps) (x0 x1 x2 x3 : Int) : evFn (cxS F tyl [(92, c_impl_sizeOk F), (68, c_impl_shareOk F), (76, c_impl_in F)] [] [] 0) Try.f72 false [V.at (A.fl .f32 x0), V.at (A.fl .f32 x1), V.at (A.int .i64 x2), V.at (A.int .i64 x3)] [] = some ⟨V.at (A.bool (Pure.impl_restOk F x0 x1 x2 x3)), none, []⟩ := by
  have h0 : evFn (cxS F tyl [(92, c_impl_sizeOk F), (68, c_impl_shareOk F), (76, c_impl_in F)] [] [] 0) Try.f72 false [V.at (A.fl .f32 x0), V.at (A.fl .f32 x1), V.at (A.int .i64 x2), V.at (A.int .i64 x3)] [] = bif Pure.impl_sizeOk F x0 then bif Pure.impl_shareOk F x1 then bif Pure.impl_in F x2 0 128 then some ⟨V.at (A.bool (Pure.impl_in F x3 1 16)), none, []⟩ else some ⟨V.at (A.bool false), none, []⟩ else some ⟨V.at (A.bool false), none, []⟩ else some ⟨V.at (A.bool false), none, []⟩ := by kernel_rfl
  rw [h0]
  unfold Pure.impl_restOk
  cases (Pure.impl_sizeOk F x0) with
  | true =>
    cases (Pure.impl_shareOk F x1) with
    | true =>
      cases (Pure.impl_in F x2 0 128) with
      | true =>
        rfl
      | false =>
        rfl
    | false =>
      rfl
  | false =>
    rfl
theorem ok_impl_restOk : CallOK Try.prog 72 (c_impl_restOk real) := by
  refine callOK_of fun args h ret hc => ?_
  unfold c_impl_restOk at hc
  split at hc
  · rename_i x0 x1 x2 x3
    obtain ⟨_, rfl⟩ := some_ret hc
    exact holds_ev prog_ok (allOK_cons ok_impl_sizeOk (allOK_cons ok_impl_shareOk (allOK_cons ok_impl_in allOK_nil))) Try.func72 rfl rfl smL_nil rfl (e_impl_restOk real x0 x1 x2 x3)
  · cases hc
def Pure.impl_box (F : FOps) (x0 x1 : Int) : Int := bif decide ((IntKind.wrap .i64 (x0 - 1)) < (F.toInt .f64 IntKind.i64 (F.integral Ieee.Toward.down (F.conv .f32 .f64 (F.bin .mul .f32 (F.ofInt .f32 x0) x1))))) then IntKind.wrap .i64 (x0 - 1) else F.toInt .f64 IntKind.i64 (F.integral Ieee.Toward.down (F.conv .f32 .f64 (F.bin .mul .f32 (F.ofInt .f32 x0) x1)))
def Pure.impl_box_ok (F : FOps) (x0 x1 : Int) : Bool := bif F.convOk .f32 .f64 (F.bin .mul .f32 (F.ofInt .f32 x0) x1) then F.toIntOk .f64 IntKind.i64 (F.integral Ieee.Toward.down (F.conv .f32 .f64 (F.bin .mul .f32 (F.ofInt .f32 x0) x1))) else false
def c_impl_box (F : FOps) : Con
  | [V.at (A.int .i64 x0), V.at (A.fl .f32 x1)], [] => some (Pure.impl_box_ok F x0 x1, ⟨V.at (A.int .i64 (Pure.impl_box F x0 x1)), none, []⟩)
  | _, _ => none
theorem e_impl_box (F : FOps) (x0 x1 : Int) : Pure.impl_box_ok F x0 x1 = true → evFn (cxS F tyl [(89, c_math_Floor F)] [] [] 0) Try.f81 false [V.at (A.int .i64 x0), V.at (A.fl .f32 x1)] [] = some ⟨V.at (A.int .i64 (Pure.impl_box F x0 x1)), none, []⟩ := by
  have h0 : evFn (cxS F tyl [(89, c_math_Floor F)] [] [] 0) Try.f81 false [V.at (A.int .i64 x0), V.at (A.fl .f32 x1)] [] = bif F.convOk .f32 .f64 (F.bin .mul .f32 (F.ofInt .f32 x0) x1) then bif F.toIntOk .f64 IntKind.i64 (F.integral Ieee.Toward.down (F.conv .f32 .f64 (F.bin .mul .f32 (F.ofInt .f32 x0) x1))) then some ⟨V.at (A.int .i64 (bif decide ((IntKind.wrap .i64 (x0 - 1)) < (F.toInt .f64 IntKind.i64 (F.integral Ieee.Toward.down (F.conv .f32 .f64 (F.bin .mul .f32 (F.ofInt .f32 x0) x1))))) then IntKind.wrap .i64 (x0 - 1) else F.toInt .f64 IntKind.i64 (F.integral Ieee.Toward.down (F.conv .f32 .f64 (F.bin .mul .f32 (F.ofInt .f32 x0) x1))))), none, []⟩ else none else none := by kernel_rfl
  rw [h0]
  unfold Pure.impl_box Pure.impl_box_ok
  cases (F.convOk .f32 .f64 (F.bin .mul .f32 (F.ofInt .f32 x0) x1)) with
  | true =>
    cases (F.toIntOk .f64 IntKind.i64 (F.integral Ieee.Toward.down (F.conv .f32 .f64 (F.bin .mul .f32 (F.ofInt .f32 x0) x1)))) with
    | true =>
      intro _; rfl
    | false =>
      intro h; exact absurd h Bool.false_ne_true
  | false =>
    intro h; exact absurd h Bool.false_ne_true
theorem ok_impl_box : CallOK Try.prog 81 (c_impl_box real) := by
  refine callOK_of fun args h ret hc => ?_
  unfold c_impl_box at hc
  split at hc
  · rename_i x0 x1
    obtain ⟨hok, rfl⟩ := some_ret hc
    exact holds_ev prog_ok (allOK_cons ok_math_Floor allOK_nil) Try.func81 rfl rfl smL_nil rfl (e_impl_box real x0 x1 hok)
  · cases hc
def Pure.impl_State_rest_L0 (F : FOps) (y0 y1 y2 y3 : Int) : Nat → Int → Int → Int → (Bool × Int × Int)
  | 0, _, _, _ => (false, 0, 0)
  | n + 1, y4, y5, y6 => bif (decide (y4 < y3)) then (bif (Pure.impl_State_damped_ok F y5 y6 y0 y1) then (Pure.impl_State_rest_L0 F y0 y1 y2 y3 n (IntKind.wrap .i64 (y4 + 1)) (Pure.impl_State_damped F y5 y6 y0 y1) (Pure.impl_State_damped_1 F y5 y6 y0 y1)) else ((false, 0, 0))) else ((true, y5, y6))
def R_impl_State_rest_L0 (y2 : Int) (r : (Bool × Int × Int)) : Bool × Ends := ((r).1, (.one Ex.normal [V.at (A.int .i64 y2), V.at (A.ptr 0 0 0)] [⟨true, .box [A.fl .f32 (r).2.1, A.fl .f32 (r).2.2]⟩]))
def S_impl_State_rest_L0 (F : FOps) : Sm := ⟨[1, 2, 4, 5, 11, 12], [22, 22, 2, 0, 2, 2], [4, 5], fun vals hp => match vals, hp with
  | [V.at (A.fl .f32 y0), V.at (A.fl .f32 y1), V.at (A.int .i64 y2), V.at (A.ptr 0 0 0), V.at (A.int .i64 y3), V.at (A.int .i64 y4)], [⟨true, .box [A.fl .f32 y5, A.fl .f32 y6]⟩] => some (R_impl_State_rest_L0 y2 (Pure.impl_State_rest_L0 F y0 y1 y2 y3 (y3 - y4 + 1).toNat y4 y5 y6))
  | _, _ => none⟩
theorem l_impl_State_rest_L0 (F : FOps) (y0 y1 y2 y3 : Int) : ∀ (fuel : Nat) (y4 y5 y6 : Int), (Pure.impl_State_rest_L0 F y0 y1 y2 y3 fuel y4 y5 y6).1 = true → loopOf (cxS F tyl [(69, c_impl_State_damped F), (81, c_impl_box F)] [] [] 0) 0 23 0 [1, 2, 4, 5, 11, 12] [22, 22, 2, 0, 2, 2] [4, 5] (loopB 0 (codeOf Try.f73)) fuel [V.at (A.fl .f32 y0), V.at (A.fl .f32 y1), V.at (A.int .i64 y2), V.at (A.ptr 0 0 0), V.at (A.int .i64 y3), V.at (A.int .i64 y4)] [⟨true, .box [A.fl .f32 y5, A.fl .f32 y6]⟩] = resOf (R_impl_State_rest_L0 y2 (Pure.impl_State_rest_L0 F y0 y1 y2 y3 fuel y4 y5 y6)) := by
  intro fuel
  induction fuel with
  | zero => intro y4 y5 y6 h; exact absurd h Bool.false_ne_true
  | succ n ih =>
    intro y4 y5 y6
    have h0 : roundOf (cxS F tyl [(69, c_impl_State_damped F), (81, c_impl_box F)] [] [] 0) 0 23 0 [1, 2, 4, 5, 11, 12] [22, 22, 2, 0, 2, 2] [4, 5] (loopB 0 (codeOf Try.f73)) [V.at (A.fl .f32 y0), V.at (A.fl .f32 y1), V.at (A.int .i64 y2), V.at (A.ptr 0 0 0), V.at (A.int .i64 y3), V.at (A.int .i64 y4)] [⟨true, .box [A.fl .f32 y5, A.fl .f32 y6]⟩] = (bif decide (y4 < y3) then bif Pure.impl_State_damped_ok F y5 y6 y0 y1 then some (true, (Ex.normal, ([V.at (A.fl .f32 y0), V.at (A.fl .f32 y1), V.at (A.int .i64 y2), V.at (A.ptr 0 0 0), V.at (A.int .i64 y3), V.at (A.int .i64 (IntKind.wrap .i64 (y4 + 1)))], [⟨true, .box [A.fl .f32 (Pure.impl_State_damped F y5 y6 y0 y1), A.fl .f32 (Pure.impl_State_damped_1 F y5 y6 y0 y1)]⟩]))) else none else some (false, (Ex.normal, ([V.at (A.int .i64 y2), V.at (A.ptr 0 0 0)], [⟨true, .box [A.fl .f32 y5, A.fl .f32 y6]⟩])))) := by kernel_rfl
    unfold loopOf
    rw [h0]
    unfold Pure.impl_State_rest_L0
    cases (decide (y4 < y3)) with
    | true =>
      cases (Pure.impl_State_damped_ok F y5 y6 y0 y1) with
      | true =>
        exact ih _ _ _
      | false =>
        intro h; exact absurd h Bool.false_ne_true
    | false =>
      intro _; rfl
theorem t_impl_State_rest_L0 : SmTo Try.prog 0 23 (S_impl_State_rest_L0 real) 0 (.loop (loopB 0 (codeOf Try.f73))) := by
  refine smTo_ev (cl := [(69, c_impl_State_damped real), (81, c_impl_box real)]) (ef := []) (sm := []) (un := 0) prog_ok (allOK_cons ok_impl_State_damped (allOK_cons ok_impl_box allOK_nil)) smL_nil ?_
  intro vals hp q r h hq
  unfold S_impl_State_rest_L0 at h
  dsimp only at h
  split at h
  · rename_i y0 y1 y2 y3 y4 y5 y6
    obtain rfl := Option.some.inj h
    have h1 := hq
    unfold resOf at h1
    rw [chk_some] at h1
    exact ⟨_, (l_impl_State_rest_L0 real y0 y1 y2 y3 _ y4 y5 y6 h1.1).trans hq⟩
  · cases h
def Pure.impl_State_rest (F : FOps) (x0 x1 x2 x3 x4 x5 : Int) : Int := Pure.impl_box F x5 (Prod.fst (Prod.snd (Pure.impl_State_rest_L0 F x2 x3 x5 x4 (Int.toNat ((x4 - 0) + 1)) 0 x0 x1)))
def Pure.impl_State_rest_ok (F : FOps) (x0 x1 x2 x3 x4 x5 : Int) : Bool := bif Prod.fst (Pure.impl_State_rest_L0 F x2 x3 x5 x4 (Int.toNat ((x4 - 0) + 1)) 0 x0 x1) then Pure.impl_box_ok F x5 (Prod.fst (Prod.snd (Pure.impl_State_rest_L0 F x2 x3 x5 x4 (Int.toNat ((x4 - 0) + 1)) 0 x0 x1))) else false
def c_impl_State_rest (F : FOps) : Con
  | [V.agg [A.fl .f32 x0, A.fl .f32 x1], V.at (A.fl .f32 x2), V.at (A.fl .f32 x3), V.at (A.int .i64 x4), V.at (A.int .i64 x5)], [] => some (Pure.impl_State_rest_ok F x0 x1 x2 x3 x4 x5, ⟨V.at (A.int .i64 (Pure.impl_State_rest F x0 x1 x2 x3 x4 x5)), none, []⟩)
  | _, _ => none
theorem e_impl_State_rest (F : FOps) (x0 x1 x2 x3 x4 x5 : Int) : Pure.impl_State_rest_ok F x0 x1 x2 x3 x4 x5 = true → evFn (cxS F tyl [(69, c_impl_State_damped F), (81, c_impl_box F)] [] [(0, S_impl_State_rest_L0 F)] 0) Try.f73 false [V.agg [A.fl .f32 x0, A.fl .f32 x1], V.at (A.fl .f32 x2), V.at (A.fl .f32 x3), V.at (A.int .i64 x4), V.at (A.int .i64 x5)] [] = some ⟨V.at (A.int .i64 (Pure.impl_State_rest F x0 x1 x2 x3 x4 x5)), none, []⟩ := by
  have h0 : evFn (cxS F tyl [(69, c_impl_State_damped F), (81, c_impl_box F)] [] [(0, S_impl_State_rest_L0 F)] 0) Try.f73 false [V.agg [A.fl .f32 x0, A.fl .f32 x1], V.at (A.fl .f32 x2), V.at (A.fl .f32 x3), V.at (A.int .i64 x4), V.at (A.int .i64 x5)] [] = bif Prod.fst (Pure.impl_State_rest_L0 F x2 x3 x5 x4 (Int.toNat ((x4 - 0) + 1)) 0 x0 x1) then bif Pure.impl_box_ok F x5 (Prod.fst (Prod.snd (Pure.impl_State_rest_L0 F x2 x3 x5 x4 (Int.toNat ((x4 - 0) + 1)) 0 x0 x1))) then some ⟨V.at (A.int .i64 (Pure.impl_box F x5 (Prod.fst (Prod.snd (Pure.impl_State_rest_L0 F x2 x3 x5 x4 (Int.toNat ((x4 - 0) + 1)) 0 x0 x1))))), none, []⟩ else none else none := by kernel_rfl
  rw [h0]
  unfold Pure.impl_State_rest Pure.impl_State_rest_ok
  cases (Prod.fst (Pure.impl_State_rest_L0 F x2 x3 x5 x4 (Int.toNat ((x4 - 0) + 1)) 0 x0 x1)) with
  | true =>
    cases (Pure.impl_box_ok F x5 (Prod.fst (Prod.snd (Pure.impl_State_rest_L0 F x2 x3 x5 x4 (Int.toNat ((x4 - 0) + 1)) 0 x0 x1)))) with
    | true =>
      intro _; rfl
    | false =>
      intro h; exact absurd h Bool.false_ne_true
  | false =>
    intro h; exact absurd h Bool.false_ne_true
theorem ok_impl_State_rest : CallOK Try.prog 73 (c_impl_State_rest real) := by
  refine callOK_of fun args h ret hc => ?_
  unfold c_impl_State_rest at hc
  split at hc
  · rename_i x0 x1 x2 x3 x4 x5
    obtain ⟨hok, rfl⟩ := some_ret hc
    exact holds_ev prog_ok (allOK_cons ok_impl_State_damped (allOK_cons ok_impl_box allOK_nil)) Try.func73 rfl rfl (smL_cons (body := .loop (loopB 0 (codeOf Try.f73))) (by kernel_rfl) t_impl_State_rest_L0 smL_nil) rfl (e_impl_State_rest real x0 x1 x2 x3 x4 x5 hok)
  · cases hc
end Go.Fx
