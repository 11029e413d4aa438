import Derived.Test.YtodilhnddnoekaaXr7cPB
namespace Go.Fx
open Go.Proofs
set_option maxRecDepth 100000
theorem l_laws_heldVectorS_L0 (F : FOps) (y2 : List (List Int)) : ∀ (fuel : Nat) (y0 y1 : Int), (Pure.laws_heldVectorS_L0 F y2 fuel y0 y1).1 = true → loopOf (cxS F tyl [] [] [] 0) 1 43 0 [0, 1, 5] [31, 3, 3] [1, 4] (loopB 0 (codeOf Try.f40)) fuel [V.at (A.sl 0), V.at (A.int .i64 y0), V.at (A.int .i64 y1)] [⟨false, .rows [K.f .f32, K.f .f32, K.f .f32] y2⟩] = resOf (R_laws_heldVectorS_L0 y2 (Pure.laws_heldVectorS_L0 F y2 fuel y0 y1)) := by
  intro fuel
  induction fuel with
  | zero => intro y0 y1 h; exact absurd h Bool.false_ne_true
  | succ n ih =>
    intro y0 y1
    have h0 : roundOf (cxS F tyl [] [] [] 0) 1 43 0 [0, 1, 5] [31, 3, 3] [1, 4] (loopB 0 (codeOf Try.f40)) [V.at (A.sl 0), V.at (A.int .i64 y0), V.at (A.int .i64 y1)] [⟨false, .rows [K.f .f32, K.f .f32, K.f .f32] y2⟩] = (bif decide (y1 < (Int.ofNat y2.length)) then bif decide (0 ≤ y1) then bif decide (y1 < (Int.ofNat y2.length)) then bif F.cmp .neq .f32 ((y2.getD y1.toNat []).getD 0 0) (F.ofInt .f32 y0) then some (false, (Ex.ret, ([V.at (A.int .i64 y0), V.at (A.int .i64 (-1))], [⟨false, .rows [K.f .f32, K.f .f32, K.f .f32] y2⟩]))) else bif decide (0 ≤ y1) then bif decide (y1 < (Int.ofNat y2.length)) then bif F.cmp .neq .f32 ((y2.getD y1.toNat []).getD 1 0) (F.ofInt .f32 (IntKind.wrap .i64 (y0 + 1))) then some (false, (Ex.ret, ([V.at (A.int .i64 (IntKind.wrap .i64 (y0 + 1))), V.at (A.int .i64 (-1))], [⟨false, .rows [K.f .f32, K.f .f32, K.f .f32] y2⟩]))) else bif decide (0 ≤ y1) then bif decide (y1 < (Int.ofNat y2.length)) then bif F.cmp .neq .f32 ((y2.getD y1.toNat []).getD 2 0) (F.ofInt .f32 (IntKind.wrap .i64 ((IntKind.wrap .i64 (y0 + 1)) + 1))) then some (false, (Ex.ret, ([V.at (A.int .i64 (IntKind.wrap .i64 ((IntKind.wrap .i64 (y0 + 1)) + 1))), V.at (A.int .i64 (-1))], [⟨false, .rows [K.f .f32, K.f .f32, K.f .f32] y2⟩]))) else some (true, (Ex.normal, ([V.at (A.sl 0), V.at (A.int .i64 (IntKind.wrap .i64 ((IntKind.wrap .i64 ((IntKind.wrap .i64 (y0 + 1)) + 1)) + 1))), V.at (A.int .i64 (IntKind.wrap .i64 (y1 + 1)))], [⟨false, .rows [K.f .f32, K.f .f32, K.f .f32] y2⟩]))) else none else none else none else none else none else none else some (false, (Ex.normal, ([V.at (A.int .i64 y0), V.at A.undef], [⟨false, .rows [K.f .f32, K.f .f32, K.f .f32] y2⟩])))) := by kernel_rfl
    unfold loopOf
    rw [h0]
    unfold Pure.laws_heldVectorS_L0
    cases (decide (y1 < (Int.ofNat y2.length))) with
    | true =>
      cases (decide (0 ≤ y1)) with
      | true =>
        cases (F.cmp .neq .f32 ((y2.getD y1.toNat []).getD 0 0) (F.ofInt .f32 y0)) with
        | true =>
          intro _; rfl
        | false =>
          cases (F.cmp .neq .f32 ((y2.getD y1.toNat []).getD 1 0) (F.ofInt .f32 (IntKind.wrap .i64 (y0 + 1)))) with
          | true =>
            intro _; rfl
          | false =>
            cases (F.cmp .neq .f32 ((y2.getD y1.toNat []).getD 2 0) (F.ofInt .f32 (IntKind.wrap .i64 ((IntKind.wrap .i64 (y0 + 1)) + 1)))) with
            | true =>
              intro _; rfl
            | false =>
              exact ih _ _
      | false =>
        intro h; exact absurd h Bool.false_ne_true
    | false =>
      intro _; rfl
theorem t_laws_heldVectorS_L0 : SmTo Try.prog 1 43 (S_laws_heldVectorS_L0 real) 0 (.loop (loopB 0 (codeOf Try.f40))) := by
  refine smTo_ev (cl := []) (ef := []) (sm := []) (un := 0) prog_ok allOK_nil smL_nil ?_
  intro vals hp q r h hq
  unfold S_laws_heldVectorS_L0 at h
  dsimp only at h
  split at h
  · rename_i y0 y1 y2
    obtain rfl := Option.some.inj h
    have h1 := hq
    unfold resOf at h1
    rw [chk_some] at h1
    exact ⟨_, (l_laws_heldVectorS_L0 real y2 _ y0 y1 h1.1).trans hq⟩
  · cases h
def Pure.laws_heldVectorS (F : FOps) (x0 : List (List Int)) (x1 : Int) : Int := bif Prod.fst (Prod.snd (Pure.laws_heldVectorS_L0 F x0 (Nat.succ (x0.length + 0)) x1 0)) then (-1) else Prod.fst (Prod.snd (Prod.snd (Pure.laws_heldVectorS_L0 F x0 (Nat.succ (x0.length + 0)) x1 0)))
def Pure.laws_heldVectorS_ok (F : FOps) (x0 : List (List Int)) (x1 : Int) : Bool := Prod.fst (Pure.laws_heldVectorS_L0 F x0 (Nat.succ (x0.length + 0)) x1 0)
def c_laws_heldVectorS (F : FOps) : Con
  | [V.at (A.sl 0), V.at (A.int .i64 x1)], [⟨false, .rows [K.f .f32, K.f .f32, K.f .f32] x0⟩] => some (Pure.laws_heldVectorS_ok F x0 x1, ⟨V.at (A.int .i64 (Pure.laws_heldVectorS F x0 x1)), none, []⟩)
  | _, _ => none
theorem e_laws_heldVectorS (F : FOps) (x0 : List (List Int)) (x1 : Int) : Pure.laws_heldVectorS_ok F x0 x1 = true → evFn (cxS F tyl [] [] [(0, S_laws_heldVectorS_L0 F)] 0) Try.f40 false [V.at (A.sl 0), V.at (A.int .i64 x1)] [⟨false, .rows [K.f .f32, K.f .f32, K.f .f32] x0⟩] = some ⟨V.at (A.int .i64 (Pure.laws_heldVectorS F x0 x1)), none, []⟩ := by
  have h0 : evFn (cxS F tyl [] [] [(0, S_laws_heldVectorS_L0 F)] 0) Try.f40 false [V.at (A.sl 0), V.at (A.int .i64 x1)] [⟨false, .rows [K.f .f32, K.f .f32, K.f .f32] x0⟩] = bif Prod.fst (Pure.laws_heldVectorS_L0 F x0 (Nat.succ (x0.length + 0)) x1 0) then bif Prod.fst (Prod.snd (Pure.laws_heldVectorS_L0 F x0 (Nat.succ (x0.length + 0)) x1 0)) then some ⟨V.at (A.int .i64 (-1)), none, []⟩ else some ⟨V.at (A.int .i64 (Prod.fst (Prod.snd (Prod.snd (Pure.laws_heldVectorS_L0 F x0 (Nat.succ (x0.length + 0)) x1 0))))), none, []⟩ else none := by kernel_rfl
  rw [h0]
  unfold Pure.laws_heldVectorS Pure.laws_heldVectorS_ok
  cases (Prod.fst (Pure.laws_heldVectorS_L0 F x0 (Nat.succ (x0.length + 0)) x1 0)) with
  | true =>
    cases (Prod.fst (Prod.snd (Pure.laws_heldVectorS_L0 F x0 (Nat.succ (x0.length + 0)) x1 0))) with
    | true =>
      intro _; rfl
    | false =>
      intro _; rfl
  | false =>
    intro h; exact absurd h Bool.false_ne_true
theorem ok_laws_heldVectorS : CallOK Try.prog 40 (c_laws_heldVectorS real) := by
  refine callOK_of fun args h ret hc => ?_
  unfold c_laws_heldVectorS at hc
  split at hc
  · rename_i x1 x0
    obtain ⟨hok, rfl⟩ := some_ret hc
    exact holds_ev prog_ok allOK_nil Try.func40 rfl rfl (smL_cons (body := .loop (loopB 0 (codeOf Try.f40))) (by kernel_rfl) t_laws_heldVectorS_L0 smL_nil) rfl (e_laws_heldVectorS real x0 x1 hok)
  · cases hc
def Pure.laws_heldFloat32S_L0 (F : FOps) (y2 : List (List Int)) : Nat → Int → Int → (Bool × Bool × Int × Int)
  | 0, _, _ => (false, false, 0, 0)
  | n + 1, y0, y1 => bif (decide (y1 < (Int.ofNat y2.length))) then (bif (decide (0 ≤ y1)) then (bif (decide (y1 < (Int.ofNat y2.length))) then (bif (F.cmp .neq .f32 ((y2.getD y1.toNat []).getD 0 0) (F.ofInt .f32 y0)) then ((true, true, 0, y0)) else (Pure.laws_heldFloat32S_L0 F y2 n (IntKind.wrap .i64 (y0 + 1)) (IntKind.wrap .i64 (y1 + 1)))) else ((false, false, 0, 0))) else ((false, false, 0, 0))) else ((true, false, y0, 0))
def R_laws_heldFloat32S_L0 (y2 : List (List Int)) (r : (Bool × Bool × Int × Int)) : Bool × Ends := ((r).1, .two (r).2.1 (.one Ex.normal [V.at (A.int .i64 (r).2.2.1), V.at A.undef] [⟨false, .rows [K.f .f32] y2⟩]) (.one Ex.ret [V.at (A.int .i64 (r).2.2.2), V.at (A.int .i64 (-1))] [⟨false, .rows [K.f .f32] y2⟩]))
def S_laws_heldFloat32S_L0 (F : FOps) : Sm := ⟨[0, 1, 5], [23, 3, 3], [1, 4], fun vals hp => match vals, hp with
  | [V.at (A.sl 0), V.at (A.int .i64 y0), V.at (A.int .i64 y1)], [⟨false, .rows [K.f .f32] y2⟩] => some (R_laws_heldFloat32S_L0 y2 (Pure.laws_heldFloat32S_L0 F y2 ((Int.ofNat y2.length) - y1 + 1).toNat y0 y1))
  | _, _ => none⟩
theorem l_laws_heldFloat32S_L0 (F : FOps) (y2 : List (List Int)) : ∀ (fuel : Nat) (y0 y1 : Int), (Pure.laws_heldFloat32S_L0 F y2 fuel y0 y1).1 = true → loopOf (cxS F tyl [] [] [] 0) 1 22 0 [0, 1, 5] [23, 3, 3] [1, 4] (loopB 0 (codeOf Try.f20)) fuel [V.at (A.sl 0), V.at (A.int .i64 y0), V.at (A.int .i64 y1)] [⟨false, .rows [K.f .f32] y2⟩] = resOf (R_laws_heldFloat32S_L0 y2 (Pure.laws_heldFloat32S_L0 F y2 fuel y0 y1)) := by
  intro fuel
  induction fuel with
  | zero => intro y0 y1 h; exact absurd h Bool.false_ne_true
  | succ n ih =>
    intro y0 y1
    have h0 : roundOf (cxS F tyl [] [] [] 0) 1 22 0 [0, 1, 5] [23, 3, 3] [1, 4] (loopB 0 (codeOf Try.f20)) [V.at (A.sl 0), V.at (A.int .i64 y0), V.at (A.int .i64 y1)] [⟨false, .rows [K.f .f32] y2⟩] = (bif decide (y1 < (Int.ofNat y2.length)) then bif decide (0 ≤ y1) then bif decide (y1 < (Int.ofNat y2.length)) then bif F.cmp .neq .f32 ((y2.getD y1.toNat []).getD 0 0) (F.ofInt .f32 y0) then some (false, (Ex.ret, ([V.at (A.int .i64 y0), V.at (A.int .i64 (-1))], [⟨false, .rows [K.f .f32] y2⟩]))) else some (true, (Ex.normal, ([V.at (A.sl 0), V.at (A.int .i64 (IntKind.wrap .i64 (y0 + 1))), V.at (A.int .i64 (IntKind.wrap .i64 (y1 + 1)))], [⟨false, .rows [K.f .f32] y2⟩]))) else none else none else some (false, (Ex.normal, ([V.at (A.int .i64 y0), V.at A.undef], [⟨false, .rows [K.f .f32] y2⟩])))) := by kernel_rfl
    unfold loopOf
    rw [h0]
    unfold Pure.laws_heldFloat32S_L0
    cases (decide (y1 < (Int.ofNat y2.length))) with
    | true =>
      cases (decide (0 ≤ y1)) with
      | true =>
        cases (F.cmp .neq .f32 ((y2.getD y1.toNat []).getD 0 0) (F.ofInt .f32 y0)) with
        | true =>
          intro _; rfl
        | false =>
          exact ih _ _
      | false =>
        intro h; exact absurd h Bool.false_ne_true
    | false =>
      intro _; rfl
theorem t_laws_heldFloat32S_L0 : SmTo Try.prog 1 22 (S_laws_heldFloat32S_L0 real) 0 (.loop (loopB 0 (codeOf Try.f20))) := by
  refine smTo_ev (cl := []) (ef := []) (sm := []) (un := 0) prog_ok allOK_nil smL_nil ?_
  intro vals hp q r h hq
  unfold S_laws_heldFloat32S_L0 at h
  dsimp only at h
  split at h
  · rename_i y0 y1 y2
    obtain rfl := Option.some.inj h
    have h1 := hq
    unfold resOf at h1
    rw [chk_some] at h1
    exact ⟨_, (l_laws_heldFloat32S_L0 real y2 _ y0 y1 h1.1).trans hq⟩
  · cases h
def Pure.laws_heldFloat32S (F : FOps) (x0 : List (List Int)) (x1 : Int) : Int := bif Prod.fst (Prod.snd (Pure.laws_heldFloat32S_L0 F x0 (Nat.succ (x0.length + 0)) x1 0)) then (-1) else Prod.fst (Prod.snd (Prod.snd (Pure.laws_heldFloat32S_L0 F x0 (Nat.succ (x0.length + 0)) x1 0)))
def Pure.laws_heldFloat32S_ok (F : FOps) (x0 : List (List Int)) (x1 : Int) : Bool := Prod.fst (Pure.laws_heldFloat32S_L0 F x0 (Nat.succ (x0.length + 0)) x1 0)
def c_laws_heldFloat32S (F : FOps) : Con
  | [V.at (A.sl 0), V.at (A.int .i64 x1)], [⟨false, .rows [K.f .f32] x0⟩] => some (Pure.laws_heldFloat32S_ok F x0 x1, ⟨V.at (A.int .i64 (Pure.laws_heldFloat32S F x0 x1)), none, []⟩)
  | _, _ => none
theorem e_laws_heldFloat32S (F : FOps) (x0 : List (List Int)) (x1 : Int) : Pure.laws_heldFloat32S_ok F x0 x1 = true → evFn (cxS F tyl [] [] [(0, S_laws_heldFloat32S_L0 F)] 0) Try.f20 false [V.at (A.sl 0), V.at (A.int .i64 x1)] [⟨false, .rows [K.f .f32] x0⟩] = some ⟨V.at (A.int .i64 (Pure.laws_heldFloat32S F x0 x1)), none, []⟩ := by
  have h0 : evFn (cxS F tyl [] [] [(0, S_laws_heldFloat32S_L0 F)] 0) Try.f20 false [V.at (A.sl 0), V.at (A.int .i64 x1)] [⟨false, .rows [K.f .f32] x0⟩] = bif Prod.fst (Pure.laws_heldFloat32S_L0 F x0 (Nat.succ (x0.length + 0)) x1 0) then bif Prod.fst (Prod.snd (Pure.laws_heldFloat32S_L0 F x0 (Nat.succ (x0.length + 0)) x1 0)) then some ⟨V.at (A.int .i64 (-1)), none, []⟩ else some ⟨V.at (A.int .i64 (Prod.fst (Prod.snd (Prod.snd (Pure.laws_heldFloat32S_L0 F x0 (Nat.succ (x0.length + 0)) x1 0))))), none, []⟩ else none := by kernel_rfl
  rw [h0]
  unfold Pure.laws_heldFloat32S Pure.laws_heldFloat32S_ok
  cases (Prod.fst (Pure.laws_heldFloat32S_L0 F x0 (Nat.succ (x0.length + 0)) x1 0)) with
  | true =>
    cases (Prod.fst (Prod.snd (Pure.laws_heldFloat32S_L0 F x0 (Nat.succ (x0.length + 0)) x1 0))) with
    | true =>
      intro _; rfl
    | false =>
      intro _; rfl
  | false =>
    intro h; exact absurd h Bool.false_ne_true
theorem ok_laws_heldFloat32S : CallOK Try.prog 20 (c_laws_heldFloat32S real) := by
  refine callOK_of fun args h ret hc => ?_
  unfold c_laws_heldFloat32S at hc
  split at hc
  · rename_i x1 x0
    obtain ⟨hok, rfl⟩ := some_ret hc
    exact holds_ev prog_ok allOK_nil Try.func20 rfl rfl (smL_cons (body := .loop (loopB 0 (codeOf Try.f20))) (by kernel_rfl) t_laws_heldFloat32S_L0 smL_nil) rfl (e_laws_heldFloat32S real x0 x1 hok)
  · cases hc
def Pure.laws_heldRodS_L0 (F : FOps) (y2 : List (List Int)) : Nat → Int → Int → (Bool × Bool × Int × Int)
  | 0, _, _ => (false, false, 0, 0)
  | n + 1, y0, y1 => bif (decide (y1 < (Int.ofNat y2.length))) then (bif (decide (0 ≤ y1)) then (bif (decide (y1 < (Int.ofNat y2.length))) then (bif (((y2.getD y1.toNat []).getD 0 0) != y0) then ((true, true, 0, y0)) else (bif (decide (0 ≤ y1)) then (bif (decide (y1 < (Int.ofNat y2.length))) then (bif (((y2.getD y1.toNat []).getD 1 0) != (IntKind.wrap .i64 (y0 + 1))) then ((true, true, 0, IntKind.wrap .i64 (y0 + 1))) else (bif (decide (0 ≤ y1)) then (bif (decide (y1 < (Int.ofNat y2.length))) then (bif (F.cmp .neq .f32 ((y2.getD y1.toNat []).getD 2 0) (F.ofInt .f32 (IntKind.wrap .i64 ((IntKind.wrap .i64 (y0 + 1)) + 1)))) then ((true, true, 0, IntKind.wrap .i64 ((IntKind.wrap .i64 (y0 + 1)) + 1))) else (Pure.laws_heldRodS_L0 F y2 n (IntKind.wrap .i64 ((IntKind.wrap .i64 ((IntKind.wrap .i64 (y0 + 1)) + 1)) + 1)) (IntKind.wrap .i64 (y1 + 1)))) else ((false, false, 0, 0))) else ((false, false, 0, 0)))) else ((false, false, 0, 0))) else ((false, false, 0, 0)))) else ((false, false, 0, 0))) else ((false, false, 0, 0))) else ((true, false, y0, 0))
def R_laws_heldRodS_L0 (y2 : List (List Int)) (r : (Bool × Bool × Int × Int)) : Bool × Ends := ((r).1, .two (r).2.1 (.one Ex.normal [V.at (A.int .i64 (r).2.2.1), V.at A.undef] [⟨false, .rows [K.i .i64, K.i .i64, K.f .f32] y2⟩]) (.one Ex.ret [V.at (A.int .i64 (r).2.2.2), V.at (A.int .i64 (-1))] [⟨false, .rows [K.i .i64, K.i .i64, K.f .f32] y2⟩]))
def S_laws_heldRodS_L0 (F : FOps) : Sm := ⟨[0, 1, 5], [32, 3, 3], [1, 4], fun vals hp => match vals, hp with
  | [V.at (A.sl 0), V.at (A.int .i64 y0), V.at (A.int .i64 y1)], [⟨false, .rows [K.i .i64, K.i .i64, K.f .f32] y2⟩] => some (R_laws_heldRodS_L0 y2 (Pure.laws_heldRodS_L0 F y2 ((Int.ofNat y2.length) - y1 + 1).toNat y0 y1))
  | _, _ => none⟩
theorem l_laws_heldRodS_L0 (F : FOps) (y2 : List (List Int)) : ∀ (fuel : Nat) (y0 y1 : Int), (Pure.laws_heldRodS_L0 F y2 fuel y0 y1).1 = true → loopOf (cxS F tyl [] [] [] 0) 1 41 0 [0, 1, 5] [32, 3, 3] [1, 4] (loopB 0 (codeOf Try.f41)) fuel [V.at (A.sl 0), V.at (A.int .i64 y0), V.at (A.int .i64 y1)] [⟨false, .rows [K.i .i64, K.i .i64, K.f .f32] y2⟩] = resOf (R_laws_heldRodS_L0 y2 (Pure.laws_heldRodS_L0 F y2 fuel y0 y1)) := by
  intro fuel
  induction fuel with
  | zero => intro y0 y1 h; exact absurd h Bool.false_ne_true
  | succ n ih =>
    intro y0 y1
    have h0 : roundOf (cxS F tyl [] [] [] 0) 1 41 0 [0, 1, 5] [32, 3, 3] [1, 4] (loopB 0 (codeOf Try.f41)) [V.at (A.sl 0), V.at (A.int .i64 y0), V.at (A.int .i64 y1)] [⟨false, .rows [K.i .i64, K.i .i64, K.f .f32] y2⟩] = (bif decide (y1 < (Int.ofNat y2.length)) then bif decide (0 ≤ y1) then bif decide (y1 < (Int.ofNat y2.length)) then bif ((y2.getD y1.toNat []).getD 0 0) != y0 then some (false, (Ex.ret, ([V.at (A.int .i64 y0), V.at (A.int .i64 (-1))], [⟨false, .rows [K.i .i64, K.i .i64, K.f .f32] y2⟩]))) else bif decide (0 ≤ y1) then bif decide (y1 < (Int.ofNat y2.length)) then bif ((y2.getD y1.toNat []).getD 1 0) != (IntKind.wrap .i64 (y0 + 1)) then some (false, (Ex.ret, ([V.at (A.int .i64 (IntKind.wrap .i64 (y0 + 1))), V.at (A.int .i64 (-1))], [⟨false, .rows [K.i .i64, K.i .i64, K.f .f32] y2⟩]))) else bif decide (0 ≤ y1) then bif decide (y1 < (Int.ofNat y2.length)) then bif F.cmp .neq .f32 ((y2.getD y1.toNat []).getD 2 0) (F.ofInt .f32 (IntKind.wrap .i64 ((IntKind.wrap .i64 (y0 + 1)) + 1))) then some (false, (Ex.ret, ([V.at (A.int .i64 (IntKind.wrap .i64 ((IntKind.wrap .i64 (y0 + 1)) + 1))), V.at (A.int .i64 (-1))], [⟨false, .rows [K.i .i64, K.i .i64, K.f .f32] y2⟩]))) else some (true, (Ex.normal, ([V.at (A.sl 0), V.at (A.int .i64 (IntKind.wrap .i64 ((IntKind.wrap .i64 ((IntKind.wrap .i64 (y0 + 1)) + 1)) + 1))), V.at (A.int .i64 (IntKind.wrap .i64 (y1 + 1)))], [⟨false, .rows [K.i .i64, K.i .i64, K.f .f32] y2⟩]))) else none else none else none else none else none else none else some (false, (Ex.normal, ([V.at (A.int .i64 y0), V.at A.undef], [⟨false, .rows [K.i .i64, K.i .i64, K.f .f32] y2⟩])))) := by kernel_rfl
    unfold loopOf
    rw [h0]
    unfold Pure.laws_heldRodS_L0
    cases (decide (y1 < (Int.ofNat y2.length))) with
    | true =>
      cases (decide (0 ≤ y1)) with
      | true =>
        cases (((y2.getD y1.toNat []).getD 0 0) != y0) with
        | true =>
          intro _; rfl
        | false =>
          cases (((y2.getD y1.toNat []).getD 1 0) != (IntKind.wrap .i64 (y0 + 1))) with
          | true =>
            intro _; rfl
          | false =>
            cases (F.cmp .neq .f32 ((y2.getD y1.toNat []).getD 2 0) (F.ofInt .f32 (IntKind.wrap .i64 ((IntKind.wrap .i64 (y0 + 1)) + 1)))) with
            | true =>
              intro _; rfl
            | false =>
              exact ih _ _
      | false =>
        intro h; exact absurd h Bool.false_ne_true
    | false =>
      intro _; rfl
theorem t_laws_heldRodS_L0 : SmTo Try.prog 1 41 (S_laws_heldRodS_L0 real) 0 (.loop (loopB 0 (codeOf Try.f41))) := by
  refine smTo_ev (cl := []) (ef := []) (sm := []) (un := 0) prog_ok allOK_nil smL_nil ?_
  intro vals hp q r h hq
  unfold S_laws_heldRodS_L0 at h
  dsimp only at h
  split at h
  · rename_i y0 y1 y2
    obtain rfl := Option.some.inj h
    have h1 := hq
    unfold resOf at h1
    rw [chk_some] at h1
    exact ⟨_, (l_laws_heldRodS_L0 real y2 _ y0 y1 h1.1).trans hq⟩
  · cases h
def Pure.laws_heldRodS (F : FOps) (x0 : List (List Int)) (x1 : Int) : Int := bif Prod.fst (Prod.snd (Pure.laws_heldRodS_L0 F x0 (Nat.succ (x0.length + 0)) x1 0)) then (-1) else Prod.fst (Prod.snd (Prod.snd (Pure.laws_heldRodS_L0 F x0 (Nat.succ (x0.length + 0)) x1 0)))
def Pure.laws_heldRodS_ok (F : FOps) (x0 : List (List Int)) (x1 : Int) : Bool := Prod.fst (Pure.laws_heldRodS_L0 F x0 (Nat.succ (x0.length + 0)) x1 0)
def c_laws_heldRodS (F : FOps) : Con
  | [V.at (A.sl 0), V.at (A.int .i64 x1)], [⟨false, .rows [K.i .i64, K.i .i64, K.f .f32] x0⟩] => some (Pure.laws_heldRodS_ok F x0 x1, ⟨V.at (A.int .i64 (Pure.laws_heldRodS F x0 x1)), none, []⟩)
  | _, _ => none
theorem e_laws_heldRodS (F : FOps) (x0 : List (List Int)) (x1 : Int) : Pure.laws_heldRodS_ok F x0 x1 = true → evFn (cxS F tyl [] [] [(0, S_laws_heldRodS_L0 F)] 0) Try.f41 false [V.at (A.sl 0), V.at (A.int .i64 x1)] [⟨false, .rows [K.i .i64, K.i .i64, K.f .f32] x0⟩] = some ⟨V.at (A.int .i64 (Pure.laws_heldRodS F x0 x1)), none, []⟩ := by
  have h0 : evFn (cxS F tyl [] [] [(0, S_laws_heldRodS_L0 F)] 0) Try.f41 false [V.at (A.sl 0), V.at (A.int .i64 x1)] [⟨false, .rows [K.i .i64, K.i .i64, K.f .f32] x0⟩] = bif Prod.fst (Pure.laws_heldRodS_L0 F x0 (Nat.succ (x0.length + 0)) x1 0) then bif Prod.fst (Prod.snd (Pure.laws_heldRodS_L0 F x0 (Nat.succ (x0.length + 0)) x1 0)) then some ⟨V.at (A.int .i64 (-1)), none, []⟩ else some ⟨V.at (A.int .i64 (Prod.fst (Prod.snd (Prod.snd (Pure.laws_heldRodS_L0 F x0 (Nat.succ (x0.length + 0)) x1 0))))), none, []⟩ else none := by kernel_rfl
  rw [h0]
  unfold Pure.laws_heldRodS Pure.laws_heldRodS_ok
  cases (Prod.fst (Pure.laws_heldRodS_L0 F x0 (Nat.succ (x0.length + 0)) x1 0)) with
  | true =>
    cases (Prod.fst (Prod.snd (Pure.laws_heldRodS_L0 F x0 (Nat.succ (x0.length + 0)) x1 0))) with
    | true =>
      intro _; rfl
    | false =>
      intro _; rfl
  | false =>
    intro h; exact absurd h Bool.false_ne_true
theorem ok_laws_heldRodS : CallOK Try.prog 41 (c_laws_heldRodS real) := by
  refine callOK_of fun args h ret hc => ?_
  unfold c_laws_heldRodS at hc
  split at hc
  · rename_i x1 x0
    obtain ⟨hok, rfl⟩ := some_ret hc
    exact holds_ev prog_ok allOK_nil Try.func41 rfl rfl (smL_cons (body := .loop (loopB 0 (codeOf Try.f41))) (by kernel_rfl) t_laws_heldRodS_L0 smL_nil) rfl (e_laws_heldRodS real x0 x1 hok)
  · cases hc
def Pure.laws_heldChain (F : FOps) (x0 x1 x2 x3 : List (List Int)) (x4 : Int) : Int := bif decide ((Pure.laws_heldVectorS F x0 x4) < 0) then (-1) else bif decide ((Pure.laws_heldVectorS F x1 (Pure.laws_heldVectorS F x0 x4)) < 0) then (-1) else bif decide ((Pure.laws_heldFloat32S F x2 (Pure.laws_heldVectorS F x1 (Pure.laws_heldVectorS F x0 x4))) < 0) then (-1) else bif decide ((Pure.laws_heldRodS F x3 (Pure.laws_heldFloat32S F x2 (Pure.laws_heldVectorS F x1 (Pure.laws_heldVectorS F x0 x4)))) < 0) then (-1) else Pure.laws_heldRodS F x3 (Pure.laws_heldFloat32S F x2 (Pure.laws_heldVectorS F x1 (Pure.laws_heldVectorS F x0 x4)))
def Pure.laws_heldChain_ok (F : FOps) (x0 x1 x2 x3 : List (List Int)) (x4 : Int) : Bool := bif Pure.laws_heldVectorS_ok F x0 x4 then bif decide ((Pure.laws_heldVectorS F x0 x4) < 0) then true else bif Pure.laws_heldVectorS_ok F x1 (Pure.laws_heldVectorS F x0 x4) then bif decide ((Pure.laws_heldVectorS F x1 (Pure.laws_heldVectorS F x0 x4)) < 0) then true else bif Pure.laws_heldFloat32S_ok F x2 (Pure.laws_heldVectorS F x1 (Pure.laws_heldVectorS F x0 x4)) then bif decide ((Pure.laws_heldFloat32S F x2 (Pure.laws_heldVectorS F x1 (Pure.laws_heldVectorS F x0 x4))) < 0) then true else Pure.laws_heldRodS_ok F x3 (Pure.laws_heldFloat32S F x2 (Pure.laws_heldVectorS F x1 (Pure.laws_heldVectorS F x0 x4))) else false else false else false
def c_laws_heldChain (F : FOps) : Con
  | [V.agg [A.sl 0, A.sl 1, A.sl 2, A.sl 3], V.at (A.int .i64 x4)], [⟨false, .rows [K.f .f32, K.f .f32, K.f .f32] x0⟩, ⟨false, .rows [K.f .f32, K.f .f32, K.f .f32] x1⟩, ⟨false, .rows [K.f .f32] x2⟩, ⟨false, .rows [K.i .i64, K.i .i64, K.f .f32] x3⟩] => some (Pure.laws_heldChain_ok F x0 x1 x2 x3 x4, ⟨V.at (A.int .i64 (Pure.laws_heldChain F x0 x1 x2 x3 x4)), none, []⟩)
  | _, _ => none
theorem e_laws_heldChain (F : FOps) (x0 x1 x2 x3 : List (List Int)) (x4 : Int) : Pure.laws_heldChain_ok F x0 x1 x2 x3 x4 = true → evFn (cxS F tyl [(40, c_laws_heldVectorS F), (20, c_laws_heldFloat32S F), (41, c_laws_heldRodS F)] [] [] 0) Try.f13 false [V.agg [A.sl 0, A.sl 1, A.sl 2, A.sl 3], V.at (A.int .i64 x4)] [⟨false, .rows [K.f .f32, K.f .f32, K.f .f32] x0⟩, ⟨false, .rows [K.f .f32, K.f .f32, K.f .f32] x1⟩, ⟨false, .rows [K.f .f32] x2⟩, ⟨false, .rows [K.i .i64, K.i .i64, K.f .f32] x3⟩] = some ⟨V.at (A.int .i64 (Pure.laws_heldChain F x0 x1 x2 x3 x4)), none, []⟩ := by
  have h0 : evFn (cxS F tyl [(40, c_laws_heldVectorS F), (20, c_laws_heldFloat32S F), (41, c_laws_heldRodS F)] [] [] 0) Try.f13 false [V.agg [A.sl 0, A.sl 1, A.sl 2, A.sl 3], V.at (A.int .i64 x4)] [⟨false, .rows [K.f .f32, K.f .f32, K.f .f32] x0⟩, ⟨false, .rows [K.f .f32, K.f .f32, K.f .f32] x1⟩, ⟨false, .rows [K.f .f32] x2⟩, ⟨false, .rows [K.i .i64, K.i .i64, K.f .f32] x3⟩] = bif Pure.laws_heldVectorS_ok F x0 x4 then bif decide ((Pure.laws_heldVectorS F x0 x4) < 0) then some ⟨V.at (A.int .i64 (-1)), none, []⟩ else bif Pure.laws_heldVectorS_ok F x1 (Pure.laws_heldVectorS F x0 x4) then bif decide ((Pure.laws_heldVectorS F x1 (Pure.laws_heldVectorS F x0 x4)) < 0) then some ⟨V.at (A.int .i64 (-1)), none, []⟩ else bif Pure.laws_heldFloat32S_ok F x2 (Pure.laws_heldVectorS F x1 (Pure.laws_heldVectorS F x0 x4)) then bif decide ((Pure.laws_heldFloat32S F x2 (Pure.laws_heldVectorS F x1 (Pure.laws_heldVectorS F x0 x4))) < 0) then some ⟨V.at (A.int .i64 (-1)), none, []⟩ else bif Pure.laws_heldRodS_ok F x3 (Pure.laws_heldFloat32S F x2 (Pure.laws_heldVectorS F x1 (Pure.laws_heldVectorS F x0 x4))) then bif decide ((Pure.laws_heldRodS F x3 (Pure.laws_heldFloat32S F x2 (Pure.laws_heldVectorS F x1 (Pure.laws_heldVectorS F x0 x4)))) < 0) then some ⟨V.at (A.int .i64 (-1)), none, []⟩ else some ⟨V.at (A.int .i64 (Pure.laws_heldRodS F x3 (Pure.laws_heldFloat32S F x2 (Pure.laws_heldVectorS F x1 (Pure.laws_heldVectorS F x0 x4))))), none, []⟩ else none else none else none else none := by kernel_rfl
  rw [h0]
  unfold Pure.laws_heldChain Pure.laws_heldChain_ok
  cases (Pure.laws_heldVectorS_ok F x0 x4) with
  | true =>
    cases (decide ((Pure.laws_heldVectorS F x0 x4) < 0)) with
    | true =>
      intro _; rfl
    | false =>
      cases (Pure.laws_heldVectorS_ok F x1 (Pure.laws_heldVectorS F x0 x4)) with
      | true =>
        cases (decide ((Pure.laws_heldVectorS F x1 (Pure.laws_heldVectorS F x0 x4)) < 0)) with
        | true =>
          intro _; rfl
        | false =>
          cases (Pure.laws_heldFloat32S_ok F x2 (Pure.laws_heldVectorS F x1 (Pure.laws_heldVectorS F x0 x4))) with
          | true =>
            cases (decide ((Pure.laws_heldFloat32S F x2 (Pure.laws_heldVectorS F x1 (Pure.laws_heldVectorS F x0 x4))) < 0)) with
            | true =>
              intro _; rfl
            | false =>
              cases (Pure.laws_heldRodS_ok F x3 (Pure.laws_heldFloat32S F x2 (Pure.laws_heldVectorS F x1 (Pure.laws_heldVectorS F x0 x4)))) with
              | true =>
                cases (decide ((Pure.laws_heldRodS F x3 (Pure.laws_heldFloat32S F x2 (Pure.laws_heldVectorS F x1 (Pure.laws_heldVectorS F x0 x4)))) < 0)) with
                | true =>
                  intro _; rfl
                | false =>
                  intro _; rfl
              | false =>
                intro h; exact absurd h Bool.false_ne_true
          | false =>
            intro h; exact absurd h Bool.false_ne_true
      | false =>
        intro h; exact absurd h Bool.false_ne_true
  | false =>
    intro h; exact absurd h Bool.false_ne_true
theorem ok_laws_heldChain : CallOK Try.prog 13 (c_laws_heldChain real) := by
  refine callOK_of fun args h ret hc => ?_
  unfold c_laws_heldChain at hc
  split at hc
  · rename_i x4 x0 x1 x2 x3
    obtain ⟨hok, rfl⟩ := some_ret hc
    exact holds_ev prog_ok (allOK_cons ok_laws_heldVectorS (allOK_cons ok_laws_heldFloat32S (allOK_cons ok_laws_heldRodS allOK_nil))) Try.func13 rfl rfl smL_nil rfl (e_laws_heldChain real x0 x1 x2 x3 x4 hok)
  · cases hc
end Go.Fx
