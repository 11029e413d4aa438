import Derived.Test.YtodilhnddnoekaaXr7cPA
namespace Go.Fx
open Go.Proofs
set_option maxRecDepth 100000
def Pure.spec_l03Fly_L0 (F : FOps) (y0 y1 y2 : Int) (y6 y7 : List (List Int)) (y8 y9 y10 : Int) : Nat → Int → (List (List Int)) → (List (List Int)) → (Bool × (List (List Int)) × (List (List Int)))
  | 0, _, _, _ => (false, [], [])
  | n + 1, y3, y4, y5 => bif (decide (y3 < y2)) then (bif (decide (0 ≤ y3)) then (bif (decide (y3 < (Int.ofNat y4.length))) then (bif (decide (0 ≤ y3)) then (bif (decide (y3 < (Int.ofNat y6.length))) then (bif (F.cmp .neq .f32 ((y6.getD y3.toNat []).getD 0 0) 0) then (bif (decide (0 ≤ y3)) then (bif (decide (y3 < (Int.ofNat y5.length))) then (bif (decide (0 ≤ y3)) then (bif (decide (y3 < (Int.ofNat y4.length))) then (bif (decide (0 ≤ y3)) then (bif (decide (y3 < (Int.ofNat y5.length))) then (Pure.spec_l03Fly_L0 F y0 y1 y2 y6 y7 y8 y9 y10 n (IntKind.wrap .i64 (y3 + 1)) (List.set y4 (Int.toNat y3) [Pure.spec_l01Add F (Pure.spec_l01Add F ((y4.getD y3.toNat []).getD 0 0) ((y4.getD y3.toNat []).getD 1 0) ((y4.getD y3.toNat []).getD 2 0) (Pure.spec_l01Scale F (Pure.spec_l01Less F ((y4.getD y3.toNat []).getD 0 0) ((y4.getD y3.toNat []).getD 1 0) ((y4.getD y3.toNat []).getD 2 0) ((y5.getD y3.toNat []).getD 0 0) ((y5.getD y3.toNat []).getD 1 0) ((y5.getD y3.toNat []).getD 2 0)) (Pure.spec_l01Less_1 F ((y4.getD y3.toNat []).getD 0 0) ((y4.getD y3.toNat []).getD 1 0) ((y4.getD y3.toNat []).getD 2 0) ((y5.getD y3.toNat []).getD 0 0) ((y5.getD y3.toNat []).getD 1 0) ((y5.getD y3.toNat []).getD 2 0)) (Pure.spec_l01Less_2 F ((y4.getD y3.toNat []).getD 0 0) ((y4.getD y3.toNat []).getD 1 0) ((y4.getD y3.toNat []).getD 2 0) ((y5.getD y3.toNat []).getD 0 0) ((y5.getD y3.toNat []).getD 1 0) ((y5.getD y3.toNat []).getD 2 0)) y0) (Pure.spec_l01Scale_1 F (Pure.spec_l01Less F ((y4.getD y3.toNat []).getD 0 0) ((y4.getD y3.toNat []).getD 1 0) ((y4.getD y3.toNat []).getD 2 0) ((y5.getD y3.toNat []).getD 0 0) ((y5.getD y3.toNat []).getD 1 0) ((y5.getD y3.toNat []).getD 2 0)) (Pure.spec_l01Less_1 F ((y4.getD y3.toNat []).getD 0 0) ((y4.getD y3.toNat []).getD 1 0) ((y4.getD y3.toNat []).getD 2 0) ((y5.getD y3.toNat []).getD 0 0) ((y5.getD y3.toNat []).getD 1 0) ((y5.getD y3.toNat []).getD 2 0)) (Pure.spec_l01Less_2 F ((y4.getD y3.toNat []).getD 0 0) ((y4.getD y3.toNat []).getD 1 0) ((y4.getD y3.toNat []).getD 2 0) ((y5.getD y3.toNat []).getD 0 0) ((y5.getD y3.toNat []).getD 1 0) ((y5.getD y3.toNat []).getD 2 0)) y0) (Pure.spec_l01Scale_2 F (Pure.spec_l01Less F ((y4.getD y3.toNat []).getD 0 0) ((y4.getD y3.toNat []).getD 1 0) ((y4.getD y3.toNat []).getD 2 0) ((y5.getD y3.toNat []).getD 0 0) ((y5.getD y3.toNat []).getD 1 0) ((y5.getD y3.toNat []).getD 2 0)) (Pure.spec_l01Less_1 F ((y4.getD y3.toNat []).getD 0 0) ((y4.getD y3.toNat []).getD 1 0) ((y4.getD y3.toNat []).getD 2 0) ((y5.getD y3.toNat []).getD 0 0) ((y5.getD y3.toNat []).getD 1 0) ((y5.getD y3.toNat []).getD 2 0)) (Pure.spec_l01Less_2 F ((y4.getD y3.toNat []).getD 0 0) ((y4.getD y3.toNat []).getD 1 0) ((y4.getD y3.toNat []).getD 2 0) ((y5.getD y3.toNat []).getD 0 0) ((y5.getD y3.toNat []).getD 1 0) ((y5.getD y3.toNat []).getD 2 0)) y0)) (Pure.spec_l01Add_1 F ((y4.getD y3.toNat []).getD 0 0) ((y4.getD y3.toNat []).getD 1 0) ((y4.getD y3.toNat []).getD 2 0) (Pure.spec_l01Scale F (Pure.spec_l01Less F ((y4.getD y3.toNat []).getD 0 0) ((y4.getD y3.toNat []).getD 1 0) ((y4.getD y3.toNat []).getD 2 0) ((y5.getD y3.toNat []).getD 0 0) ((y5.getD y3.toNat []).getD 1 0) ((y5.getD y3.toNat []).getD 2 0)) (Pure.spec_l01Less_1 F ((y4.getD y3.toNat []).getD 0 0) ((y4.getD y3.toNat []).getD 1 0) ((y4.getD y3.toNat []).getD 2 0) ((y5.getD y3.toNat []).getD 0 0) ((y5.getD y3.toNat []).getD 1 0) ((y5.getD y3.toNat []).getD 2 0)) (Pure.spec_l01Less_2 F ((y4.getD y3.toNat []).getD 0 0) ((y4.getD y3.toNat []).getD 1 0) ((y4.getD y3.toNat []).getD 2 0) ((y5.getD y3.toNat []).getD 0 0) ((y5.getD y3.toNat []).getD 1 0) ((y5.getD y3.toNat []).getD 2 0)) y0) (Pure.spec_l01Scale_1 F (Pure.spec_l01Less F ((y4.getD y3.toNat []).getD 0 0) ((y4.getD y3.toNat []).getD 1 0) ((y4.getD y3.toNat []).getD 2 0) ((y5.getD y3.toNat []).getD 0 0) ((y5.getD y3.toNat []).getD 1 0) ((y5.getD y3.toNat []).getD 2 0)) (Pure.spec_l01Less_1 F ((y4.getD y3.toNat []).getD 0 0) ((y4.getD y3.toNat []).getD 1 0) ((y4.getD y3.toNat []).getD 2 0) ((y5.getD y3.toNat []).getD 0 0) ((y5.getD y3.toNat []).getD 1 0) ((y5.getD y3.toNat []).getD 2 0)) (Pure.spec_l01Less_2 F ((y4.getD y3.toNat []).getD 0 0) ((y4.getD y3.toNat []).getD 1 0) ((y4.getD y3.toNat []).getD 2 0) ((y5.getD y3.toNat []).getD 0 0) ((y5.getD y3.toNat []).getD 1 0) ((y5.getD y3.toNat []).getD 2 0)) y0) (Pure.spec_l01Scale_2 F (Pure.spec_l01Less F ((y4.getD y3.toNat []).getD 0 0) ((y4.getD y3.toNat []).getD 1 0) ((y4.getD y3.toNat []).getD 2 0) ((y5.getD y3.toNat []).getD 0 0) ((y5.getD y3.toNat []).getD 1 0) ((y5.getD y3.toNat []).getD 2 0)) (Pure.spec_l01Less_1 F ((y4.getD y3.toNat []).getD 0 0) ((y4.getD y3.toNat []).getD 1 0) ((y4.getD y3.toNat []).getD 2 0) ((y5.getD y3.toNat []).getD 0 0) ((y5.getD y3.toNat []).getD 1 0) ((y5.getD y3.toNat []).getD 2 0)) (Pure.spec_l01Less_2 F ((y4.getD y3.toNat []).getD 0 0) ((y4.getD y3.toNat []).getD 1 0) ((y4.getD y3.toNat []).getD 2 0) ((y5.getD y3.toNat []).getD 0 0) ((y5.getD y3.toNat []).getD 1 0) ((y5.getD y3.toNat []).getD 2 0)) y0)) (Pure.spec_l01Add_2 F ((y4.getD y3.toNat []).getD 0 0) ((y4.getD y3.toNat []).getD 1 0) ((y4.getD y3.toNat []).getD 2 0) (Pure.spec_l01Scale F (Pure.spec_l01Less F ((y4.getD y3.toNat []).getD 0 0) ((y4.getD y3.toNat []).getD 1 0) ((y4.getD y3.toNat []).getD 2 0) ((y5.getD y3.toNat []).getD 0 0) ((y5.getD y3.toNat []).getD 1 0) ((y5.getD y3.toNat []).getD 2 0)) (Pure.spec_l01Less_1 F ((y4.getD y3.toNat []).getD 0 0) ((y4.getD y3.toNat []).getD 1 0) ((y4.getD y3.toNat []).getD 2 0) ((y5.getD y3.toNat []).getD 0 0) ((y5.getD y3.toNat []).getD 1 0) ((y5.getD y3.toNat []).getD 2 0)) (Pure.spec_l01Less_2 F ((y4.getD y3.toNat []).getD 0 0) ((y4.getD y3.toNat []).getD 1 0) ((y4.getD y3.toNat []).getD 2 0) ((y5.getD y3.toNat []).getD 0 0) ((y5.getD y3.toNat []).getD 1 0) ((y5.getD y3.toNat []).getD 2 0)) y0) (Pure.spec_l01Scale_1 F (Pure.spec_l01Less F ((y4.getD y3.toNat []).getD 0 0) ((y4.getD y3.toNat []).getD 1 0) ((y4.getD y3.toNat []).getD 2 0) ((y5.getD y3.toNat []).getD 0 0) ((y5.getD y3.toNat []).getD 1 0) ((y5.getD y3.toNat []).getD 2 0)) (Pure.spec_l01Less_1 F ((y4.getD y3.toNat []).getD 0 0) ((y4.getD y3.toNat []).getD 1 0) ((y4.getD y3.toNat []).getD 2 0) ((y5.getD y3.toNat []).getD 0 0) ((y5.getD y3.toNat []).getD 1 0) ((y5.getD y3.toNat []).getD 2 0)) (Pure.spec_l01Less_2 F ((y4.getD y3.toNat []).getD 0 0) ((y4.getD y3.toNat []).getD 1 0) ((y4.getD y3.toNat []).getD 2 0) ((y5.getD y3.toNat []).getD 0 0) ((y5.getD y3.toNat []).getD 1 0) ((y5.getD y3.toNat []).getD 2 0)) y0) (Pure.spec_l01Scale_2 F (Pure.spec_l01Less F ((y4.getD y3.toNat []).getD 0 0) ((y4.getD y3.toNat []).getD 1 0) ((y4.getD y3.toNat []).getD 2 0) ((y5.getD y3.toNat []).getD 0 0) ((y5.getD y3.toNat []).getD 1 0) ((y5.getD y3.toNat []).getD 2 0)) (Pure.spec_l01Less_1 F ((y4.getD y3.toNat []).getD 0 0) ((y4.getD y3.toNat []).getD 1 0) ((y4.getD y3.toNat []).getD 2 0) ((y5.getD y3.toNat []).getD 0 0) ((y5.getD y3.toNat []).getD 1 0) ((y5.getD y3.toNat []).getD 2 0)) (Pure.spec_l01Less_2 F ((y4.getD y3.toNat []).getD 0 0) ((y4.getD y3.toNat []).getD 1 0) ((y4.getD y3.toNat []).getD 2 0) ((y5.getD y3.toNat []).getD 0 0) ((y5.getD y3.toNat []).getD 1 0) ((y5.getD y3.toNat []).getD 2 0)) y0)) (Pure.spec_l01Scale F y8 y9 y10 (F.bin .mul .f32 y1 y1)) (Pure.spec_l01Scale_1 F y8 y9 y10 (F.bin .mul .f32 y1 y1)) (Pure.spec_l01Scale_2 F y8 y9 y10 (F.bin .mul .f32 y1 y1)), Pure.spec_l01Add_1 F (Pure.spec_l01Add F ((y4.getD y3.toNat []).getD 0 0) ((y4.getD y3.toNat []).getD 1 0) ((y4.getD y3.toNat []).getD 2 0) (Pure.spec_l01Scale F (Pure.spec_l01Less F ((y4.getD y3.toNat []).getD 0 0) ((y4.getD y3.toNat []).getD 1 0) ((y4.getD y3.toNat []).getD 2 0) ((y5.getD y3.toNat []).getD 0 0) ((y5.getD y3.toNat []).getD 1 0) ((y5.getD y3.toNat []).getD 2 0)) (Pure.spec_l01Less_1 F ((y4.getD y3.toNat []).getD 0 0) ((y4.getD y3.toNat []).getD 1 0) ((y4.getD y3.toNat []).getD 2 0) ((y5.getD y3.toNat []).getD 0 0) ((y5.getD y3.toNat []).getD 1 0) ((y5.getD y3.toNat []).getD 2 0)) (Pure.spec_l01Less_2 F ((y4.getD y3.toNat []).getD 0 0) ((y4.getD y3.toNat []).getD 1 0) ((y4.getD y3.toNat []).getD 2 0) ((y5.getD y3.toNat []).getD 0 0) ((y5.getD y3.toNat []).getD 1 0) ((y5.getD y3.toNat []).getD 2 0)) y0) (Pure.spec_l01Scale_1 F (Pure.spec_l01Less F ((y4.getD y3.toNat []).getD 0 0) ((y4.getD y3.toNat []).getD 1 0) ((y4.getD y3.toNat []).getD 2 0) ((y5.getD y3.toNat []).getD 0 0) ((y5.getD y3.toNat []).getD 1 0) ((y5.getD y3.toNat []).getD 2 0)) (Pure.spec_l01Less_1 F ((y4.getD y3.toNat []).getD 0 0) ((y4.getD y3.toNat []).getD 1 0) ((y4.getD y3.toNat []).getD 2 0) ((y5.getD y3.toNat []).getD 0 0) ((y5.getD y3.toNat []).getD 1 0) ((y5.getD y3.toNat []).getD 2 0)) (Pure.spec_l01Less_2 F ((y4.getD y3.toNat []).getD 0 0) ((y4.getD y3.toNat []).getD 1 0) ((y4.getD y3.toNat []).getD 2 0) ((y5.getD y3.toNat []).getD 0 0) ((y5.getD y3.toNat []).getD 1 0) ((y5.getD y3.toNat []).getD 2 0)) y0) (Pure.spec_l01Scale_2 F (Pure.spec_l01Less F ((y4.getD y3.toNat []).getD 0 0) ((y4.getD y3.toNat []).getD 1 0) ((y4.getD y3.toNat []).getD 2 0) ((y5.getD y3.toNat []).getD 0 0) ((y5.getD y3.toNat []).getD 1 0) ((y5.getD y3.toNat []).getD 2 0)) (Pure.spec_l01Less_1 F ((y4.getD y3.toNat []).getD 0 0) ((y4.getD y3.toNat []).getD 1 0) ((y4.getD y3.toNat []).getD 2 0) ((y5.getD y3.toNat []).getD 0 0) ((y5.getD y3.toNat []).getD 1 0) ((y5.getD y3.toNat []).getD 2 0)) (Pure.spec_l01Less_2 F ((y4.getD y3.toNat []).getD 0 0) ((y4.getD y3.toNat []).getD 1 0) ((y4.getD y3.toNat []).getD 2 0) ((y5.getD y3.toNat []).getD 0 0) ((y5.getD y3.toNat []).getD 1 0) ((y5.getD y3.toNat []).getD 2 0)) y0)) (Pure.spec_l01Add_1 F ((y4.getD y3.toNat []).getD 0 0) ((y4.getD y3.toNat []).getD 1 0) ((y4.getD y3.toNat []).getD 2 0) (Pure.spec_l01Scale F (Pure.spec_l01Less F ((y4.getD y3.toNat []).getD 0 0) ((y4.getD y3.toNat []).getD 1 0) ((y4.getD y3.toNat []).getD 2 0) ((y5.getD y3.toNat []).getD 0 0) ((y5.getD y3.toNat []).getD 1 0) ((y5.getD y3.toNat []).getD 2 0)) (Pure.spec_l01Less_1 F ((y4.getD y3.toNat []).getD 0 0) ((y4.getD y3.toNat []).getD 1 0) ((y4.getD y3.toNat []).getD 2 0) ((y5.getD y3.toNat []).getD 0 0) ((y5.getD y3.toNat []).getD 1 0) ((y5.getD y3.toNat []).getD 2 0)) (Pure.spec_l01Less_2 F ((y4.getD y3.toNat []).getD 0 0) ((y4.getD y3.toNat []).getD 1 0) ((y4.getD y3.toNat []).getD 2 0) ((y5.getD y3.toNat []).getD 0 0) ((y5.getD y3.toNat []).getD 1 0) ((y5.getD y3.toNat []).getD 2 0)) y0) (Pure.spec_l01Scale_1 F (Pure.spec_l01Less F ((y4.getD y3.toNat []).getD 0 0) ((y4.getD y3.toNat []).getD 1 0) ((y4.getD y3.toNat []).getD 2 0) ((y5.getD y3.toNat []).getD 0 0) ((y5.getD y3.toNat []).getD 1 0) ((y5.getD y3.toNat []).getD 2 0)) (Pure.spec_l01Less_1 F ((y4.getD y3.toNat []).getD 0 0) ((y4.getD y3.toNat []).getD 1 0) ((y4.getD y3.toNat []).getD 2 0) ((y5.getD y3.toNat []).getD 0 0) ((y5.getD y3.toNat []).getD 1 0) ((y5.getD y3.toNat []).getD 2 0)) (Pure.spec_l01Less_2 F ((y4.getD y3.toNat []).getD 0 0) ((y4.getD y3.toNat []).getD 1 0) ((y4.getD y3.toNat []).getD 2 0) ((y5.getD y3.toNat []).getD 0 0) ((y5.getD y3.toNat []).getD 1 0) ((y5.getD y3.toNat []).getD 2 0)) y0) (Pure.spec_l01Scale_2 F (Pure.spec_l01Less F ((y4.getD y3.toNat []).getD 0 0) ((y4.getD y3.toNat []).getD 1 0) ((y4.getD y3.toNat []).getD 2 0) ((y5.getD y3.toNat []).getD 0 0) ((y5.getD y3.toNat []).getD 1 0) ((y5.getD y3.toNat []).getD 2 0)) (Pure.spec_l01Less_1 F ((y4.getD y3.toNat []).getD 0 0) ((y4.getD y3.toNat []).getD 1 0) ((y4.getD y3.toNat []).getD 2 0) ((y5.getD y3.toNat []).getD 0 0) ((y5.getD y3.toNat []).getD 1 0) ((y5.getD y3.toNat []).getD 2 0)) (Pure.spec_l01Less_2 F ((y4.getD y3.toNat []).getD 0 0) ((y4.getD y3.toNat []).getD 1 0) ((y4.getD y3.toNat []).getD 2 0) ((y5.getD y3.toNat []).getD 0 0) ((y5.getD y3.toNat []).getD 1 0) ((y5.getD y3.toNat []).getD 2 0)) y0)) (Pure.spec_l01Add_2 F ((y4.getD y3.toNat []).getD 0 0) ((y4.getD y3.toNat []).getD 1 0) ((y4.getD y3.toNat []).getD 2 0) (Pure.spec_l01Scale F (Pure.spec_l01Less F ((y4.getD y3.toNat []).getD 0 0) ((y4.getD y3.toNat []).getD 1 0) ((y4.getD y3.toNat []).getD 2 0) ((y5.getD y3.toNat []).getD 0 0) ((y5.getD y3.toNat []).getD 1 0) ((y5.getD y3.toNat []).getD 2 0)) (Pure.spec_l01Less_1 F ((y4.getD y3.toNat []).getD 0 0) ((y4.getD y3.toNat []).getD 1 0) ((y4.getD y3.toNat []).getD 2 0) ((y5.getD y3.toNat []).getD 0 0) ((y5.getD y3.toNat []).getD 1 0) ((y5.getD y3.toNat []).getD 2 0)) (Pure.spec_l01Less_2 F ((y4.getD y3.toNat []).getD 0 0) ((y4.getD y3.toNat []).getD 1 0) ((y4.getD y3.toNat []).getD 2 0) ((y5.getD y3.toNat []).getD 0 0) ((y5.getD y3.toNat []).getD 1 0) ((y5.getD y3.toNat []).getD 2 0)) y0) (Pure.spec_l01Scale_1 F (Pure.spec_l01Less F ((y4.getD y3.toNat []).getD 0 0) ((y4.getD y3.toNat []).getD 1 0) ((y4.getD y3.toNat []).getD 2 0) ((y5.getD y3.toNat []).getD 0 0) ((y5.getD y3.toNat []).getD 1 0) ((y5.getD y3.toNat []).getD 2 0)) (Pure.spec_l01Less_1 F ((y4.getD y3.toNat []).getD 0 0) ((y4.getD y3.toNat []).getD 1 0) ((y4.getD y3.toNat []).getD 2 0) ((y5.getD y3.toNat []).getD 0 0) ((y5.getD y3.toNat []).getD 1 0) ((y5.getD y3.toNat []).getD 2 0)) (Pure.spec_l01Less_2 F ((y4.getD y3.toNat []).getD 0 0) ((y4.getD y3.toNat []).getD 1 0) ((y4.getD y3.toNat []).getD 2 0) ((y5.getD y3.toNat []).getD 0 0) ((y5.getD y3.toNat []).getD 1 0) ((y5.getD y3.toNat []).getD 2 0)) y0) (Pure.spec_l01Scale_2 F (Pure.spec_l01Less F ((y4.getD y3.toNat []).getD 0 0) ((y4.getD y3.toNat []).getD 1 0) ((y4.getD y3.toNat []).getD 2 0) ((y5.getD y3.toNat []).getD 0 0) ((y5.getD y3.toNat []).getD 1 0) ((y5.getD y3.toNat []).getD 2 0)) (Pure.spec_l01Less_1 F ((y4.getD y3.toNat []).getD 0 0) ((y4.getD y3.toNat []).getD 1 0) ((y4.getD y3.toNat []).getD 2 0) ((y5.getD y3.toNat []).getD 0 0) ((y5.getD y3.toNat []).getD 1 0) ((y5.getD y3.toNat []).getD 2 0)) (Pure.spec_l01Less_2 F ((y4.getD y3.toNat []).getD 0 0) ((y4.getD y3.toNat []).getD 1 0) ((y4.getD y3.toNat []).getD 2 0) ((y5.getD y3.toNat []).getD 0 0) ((y5.getD y3.toNat []).getD 1 0) ((y5.getD y3.toNat []).getD 2 0)) y0)) (Pure.spec_l01Scale F y8 y9 y10 (F.bin .mul .f32 y1 y1)) (Pure.spec_l01Scale_1 F y8 y9 y10 (F.bin .mul .f32 y1 y1)) (Pure.spec_l01Scale_2 F y8 y9 y10 (F.bin .mul .f32 y1 y1)), Pure.spec_l01Add_2 F (Pure.spec_l01Add F ((y4.getD y3.toNat []).getD 0 0) ((y4.getD y3.toNat []).getD 1 0) ((y4.getD y3.toNat []).getD 2 0) (Pure.spec_l01Scale F (Pure.spec_l01Less F ((y4.getD y3.toNat []).getD 0 0) ((y4.getD y3.toNat []).getD 1 0) ((y4.getD y3.toNat []).getD 2 0) ((y5.getD y3.toNat []).getD 0 0) ((y5.getD y3.toNat []).getD 1 0) ((y5.getD y3.toNat []).getD 2 0)) (Pure.spec_l01Less_1 F ((y4.getD y3.toNat []).getD 0 0) ((y4.getD y3.toNat []).getD 1 0) ((y4.getD y3.toNat []).getD 2 0) ((y5.getD y3.toNat []).getD 0 0) ((y5.getD y3.toNat []).getD 1 0) ((y5.getD y3.toNat []).getD 2 0)) (Pure.spec_l01Less_2 F ((y4.getD y3.toNat []).getD 0 0) ((y4.getD y3.toNat []).getD 1 0) ((y4.getD y3.toNat []).getD 2 0) ((y5.getD y3.toNat []).getD 0 0) ((y5.getD y3.toNat []).getD 1 0) ((y5.getD y3.toNat []).getD 2 0)) y0) (Pure.spec_l01Scale_1 F (Pure.spec_l01Less F ((y4.getD y3.toNat []).getD 0 0) ((y4.getD y3.toNat []).getD 1 0) ((y4.getD y3.toNat []).getD 2 0) ((y5.getD y3.toNat []).getD 0 0) ((y5.getD y3.toNat []).getD 1 0) ((y5.getD y3.toNat []).getD 2 0)) (Pure.spec_l01Less_1 F ((y4.getD y3.toNat []).getD 0 0) ((y4.getD y3.toNat []).getD 1 0) ((y4.getD y3.toNat []).getD 2 0) ((y5.getD y3.toNat []).getD 0 0) ((y5.getD y3.toNat []).getD 1 0) ((y5.getD y3.toNat []).getD 2 0)) (Pure.spec_l01Less_2 F ((y4.getD y3.toNat []).getD 0 0) ((y4.getD y3.toNat []).getD 1 0) ((y4.getD y3.toNat []).getD 2 0) ((y5.getD y3.toNat []).getD 0 0) ((y5.getD y3.toNat []).getD 1 0) ((y5.getD y3.toNat []).getD 2 0)) y0) (Pure.spec_l01Scale_2 F (Pure.spec_l01Less F ((y4.getD y3.toNat []).getD 0 0) ((y4.getD y3.toNat []).getD 1 0) ((y4.getD y3.toNat []).getD 2 0) ((y5.getD y3.toNat []).getD 0 0) ((y5.getD y3.toNat []).getD 1 0) ((y5.getD y3.toNat []).getD 2 0)) (Pure.spec_l01Less_1 F ((y4.getD y3.toNat []).getD 0 0) ((y4.getD y3.toNat []).getD 1 0) ((y4.getD y3.toNat []).getD 2 0) ((y5.getD y3.toNat []).getD 0 0) ((y5.getD y3.toNat []).getD 1 0) ((y5.getD y3.toNat []).getD 2 0)) (Pure.spec_l01Less_2 F ((y4.getD y3.toNat []).getD 0 0) ((y4.getD y3.toNat []).getD 1 0) ((y4.getD y3.toNat []).getD 2 0) ((y5.getD y3.toNat []).getD 0 0) ((y5.getD y3.toNat []).getD 1 0) ((y5.getD y3.toNat []).getD 2 0)) y0)) (Pure.spec_l01Add_1 F ((y4.getD y3.toNat []).getD 0 0) ((y4.getD y3.toNat []).getD 1 0) ((y4.getD y3.toNat []).getD 2 0) (Pure.spec_l01Scale F (Pure.spec_l01Less F ((y4.getD y3.toNat []).getD 0 0) ((y4.getD y3.toNat []).getD 1 0) ((y4.getD y3.toNat []).getD 2 0) ((y5.getD y3.toNat []).getD 0 0) ((y5.getD y3.toNat []).getD 1 0) ((y5.getD y3.toNat []).getD 2 0)) (Pure.spec_l01Less_1 F ((y4.getD y3.toNat []).getD 0 0) ((y4.getD y3.toNat []).getD 1 0) ((y4.getD y3.toNat []).getD 2 0) ((y5.getD y3.toNat []).getD 0 0) ((y5.getD y3.toNat []).getD 1 0) ((y5.getD y3.toNat []).getD 2 0)) (Pure.spec_l01Less_2 F ((y4.getD y3.toNat []).getD 0 0) ((y4.getD y3.toNat []).getD 1 0) ((y4.getD y3.toNat []).getD 2 0) ((y5.getD y3.toNat []).getD 0 0) ((y5.getD y3.toNat []).getD 1 0) ((y5.getD y3.toNat []).getD 2 0)) y0) (Pure.spec_l01Scale_1 F (Pure.spec_l01Less F ((y4.getD y3.toNat []).getD 0 0) ((y4.getD y3.toNat []).getD 1 0) ((y4.getD y3.toNat []).getD 2 0) ((y5.getD y3.toNat []).getD 0 0) ((y5.getD y3.toNat []).getD 1 0) ((y5.getD y3.toNat []).getD 2 0)) (Pure.spec_l01Less_1 F ((y4.getD y3.toNat []).getD 0 0) ((y4.getD y3.toNat []).getD 1 0) ((y4.getD y3.toNat []).getD 2 0) ((y5.getD y3.toNat []).getD 0 0) ((y5.getD y3.toNat []).getD 1 0) ((y5.getD y3.toNat []).getD 2 0)) (Pure.spec_l01Less_2 F ((y4.getD y3.toNat []).getD 0 0) ((y4.getD y3.toNat []).getD 1 0) ((y4.getD y3.toNat []).getD 2 0) ((y5.getD y3.toNat []).getD 0 0) ((y5.getD y3.toNat []).getD 1 0) ((y5.getD y3.toNat []).getD 2 0)) y0) (Pure.spec_l01Scale_2 F (Pure.spec_l01Less F ((y4.getD y3.toNat []).getD 0 0) ((y4.getD y3.toNat []).getD 1 0) ((y4.getD y3.toNat []).getD 2 0) ((y5.getD y3.toNat []).getD 0 0) ((y5.getD y3.toNat []).getD 1 0) ((y5.getD y3.toNat []).getD 2 0)) (Pure.spec_l01Less_1 F ((y4.getD y3.toNat []).getD 0 0) ((y4.getD y3.toNat []).getD 1 0) ((y4.getD y3.toNat []).getD 2 0) ((y5.getD y3.toNat []).getD 0 0) ((y5.getD y3.toNat []).getD 1 0) ((y5.getD y3.toNat []).getD 2 0)) (Pure.spec_l01Less_2 F ((y4.getD y3.toNat []).getD 0 0) ((y4.getD y3.toNat []).getD 1 0) ((y4.getD y3.toNat []).getD 2 0) ((y5.getD y3.toNat []).getD 0 0) ((y5.getD y3.toNat []).getD 1 0) ((y5.getD y3.toNat []).getD 2 0)) y0)) (Pure.spec_l01Add_2 F ((y4.getD y3.toNat []).getD 0 0) ((y4.getD y3.toNat []).getD 1 0) ((y4.getD y3.toNat []).getD 2 0) (Pure.spec_l01Scale F (Pure.spec_l01Less F ((y4.getD y3.toNat []).getD 0 0) ((y4.getD y3.toNat []).getD 1 0) ((y4.getD y3.toNat []).getD 2 0) ((y5.getD y3.toNat []).getD 0 0) ((y5.getD y3.toNat []).getD 1 0) ((y5.getD y3.toNat []).getD 2 0)) (Pure.spec_l01Less_1 F ((y4.getD y3.toNat []).getD 0 0) ((y4.getD y3.toNat []).getD 1 0) ((y4.getD y3.toNat []).getD 2 0) ((y5.getD y3.toNat []).getD 0 0) ((y5.getD y3.toNat []).getD 1 0) ((y5.getD y3.toNat []).getD 2 0)) (Pure.spec_l01Less_2 F ((y4.getD y3.toNat []).getD 0 0) ((y4.getD y3.toNat []).getD 1 0) ((y4.getD y3.toNat []).getD 2 0) ((y5.getD y3.toNat []).getD 0 0) ((y5.getD y3.toNat []).getD 1 0) ((y5.getD y3.toNat []).getD 2 0)) y0) (Pure.spec_l01Scale_1 F (Pure.spec_l01Less F ((y4.getD y3.toNat []).getD 0 0) ((y4.getD y3.toNat []).getD 1 0) ((y4.getD y3.toNat []).getD 2 0) ((y5.getD y3.toNat []).getD 0 0) ((y5.getD y3.toNat []).getD 1 0) ((y5.getD y3.toNat []).getD 2 0)) (Pure.spec_l01Less_1 F ((y4.getD y3.toNat []).getD 0 0) ((y4.getD y3.toNat []).getD 1 0) ((y4.getD y3.toNat []).getD 2 0) ((y5.getD y3.toNat []).getD 0 0) ((y5.getD y3.toNat []).getD 1 0) ((y5.getD y3.toNat []).getD 2 0)) (Pure.spec_l01Less_2 F ((y4.getD y3.toNat []).getD 0 0) ((y4.getD y3.toNat []).getD 1 0) ((y4.getD y3.toNat []).getD 2 0) ((y5.getD y3.toNat []).getD 0 0) ((y5.getD y3.toNat []).getD 1 0) ((y5.getD y3.toNat []).getD 2 0)) y0) (Pure.spec_l01Scale_2 F (Pure.spec_l01Less F ((y4.getD y3.toNat []).getD 0 0) ((y4.getD y3.toNat []).getD 1 0) ((y4.getD y3.toNat []).getD 2 0) ((y5.getD y3.toNat []).getD 0 0) ((y5.getD y3.toNat []).getD 1 0) ((y5.getD y3.toNat []).getD 2 0)) (Pure.spec_l01Less_1 F ((y4.getD y3.toNat []).getD 0 0) ((y4.getD y3.toNat []).getD 1 0) ((y4.getD y3.toNat []).getD 2 0) ((y5.getD y3.toNat []).getD 0 0) ((y5.getD y3.toNat []).getD 1 0) ((y5.getD y3.toNat []).getD 2 0)) (Pure.spec_l01Less_2 F ((y4.getD y3.toNat []).getD 0 0) ((y4.getD y3.toNat []).getD 1 0) ((y4.getD y3.toNat []).getD 2 0) ((y5.getD y3.toNat []).getD 0 0) ((y5.getD y3.toNat []).getD 1 0) ((y5.getD y3.toNat []).getD 2 0)) y0)) (Pure.spec_l01Scale F y8 y9 y10 (F.bin .mul .f32 y1 y1)) (Pure.spec_l01Scale_1 F y8 y9 y10 (F.bin .mul .f32 y1 y1)) (Pure.spec_l01Scale_2 F y8 y9 y10 (F.bin .mul .f32 y1 y1))]) (List.set y5 (Int.toNat y3) [List.getD (List.getD y4 (Int.toNat y3) []) 0 0, List.getD (List.getD y4 (Int.toNat y3) []) 1 0, List.getD (List.getD y4 (Int.toNat y3) []) 2 0])) else ((false, [], []))) else ((false, [], []))) else ((false, [], []))) else ((false, [], []))) else ((false, [], []))) else ((false, [], []))) else (bif (decide (0 ≤ y3)) then (bif (decide (y3 < (Int.ofNat y5.length))) then (Pure.spec_l03Fly_L0 F y0 y1 y2 y6 y7 y8 y9 y10 n (IntKind.wrap .i64 (y3 + 1)) y4 (List.set y5 (Int.toNat y3) [List.getD (List.getD y4 (Int.toNat y3) []) 0 0, List.getD (List.getD y4 (Int.toNat y3) []) 1 0, List.getD (List.getD y4 (Int.toNat y3) []) 2 0])) else ((false, [], []))) else ((false, [], [])))) else ((false, [], []))) else ((false, [], []))) else ((false, [], []))) else ((false, [], []))) else ((true, y4, y5))
def R_spec_l03Fly_L0 (y6 y7 : List (List Int)) (r : (Bool × (List (List Int)) × (List (List Int)))) : Bool × Ends := ((r).1, (.one Ex.normal [] [⟨true, .box [A.sl 1, A.sl 2, A.sl 3, A.sl 4]⟩, ⟨true, .rows [K.f .f32, K.f .f32, K.f .f32] (r).2.1⟩, ⟨true, .rows [K.f .f32, K.f .f32, K.f .f32] (r).2.2⟩, ⟨true, .rows [K.f .f32] y6⟩, ⟨true, .rows [K.i .i64, K.i .i64, K.f .f32] y7⟩]))
def S_spec_l03Fly_L0 (F : FOps) : Sm := ⟨[0, 2, 3, 5, 15, 16], [54, 27, 27, 0, 3, 3], [], fun vals hp => match vals, hp with
  | [V.at (A.ptr 0 0 0), V.at (A.fl .f32 y0), V.at (A.fl .f32 y1), V.at (A.ptr 5 0 0), V.at (A.int .i64 y2), V.at (A.int .i64 y3)], [⟨true, .box [A.sl 1, A.sl 2, A.sl 3, A.sl 4]⟩, ⟨true, .rows [K.f .f32, K.f .f32, K.f .f32] y4⟩, ⟨true, .rows [K.f .f32, K.f .f32, K.f .f32] y5⟩, ⟨true, .rows [K.f .f32] y6⟩, ⟨true, .rows [K.i .i64, K.i .i64, K.f .f32] y7⟩, ⟨true, .box [A.fl .f32 y8, A.fl .f32 y9, A.fl .f32 y10]⟩] => some (R_spec_l03Fly_L0 y6 y7 (Pure.spec_l03Fly_L0 F y0 y1 y2 y6 y7 y8 y9 y10 (y2 - y3 + 1).toNat y3 y4 y5))
  | _, _ => none⟩
theorem l_spec_l03Fly_L0 (F : FOps) (y0 y1 y2 : Int) (y6 y7 : List (List Int)) (y8 y9 y10 : Int) : ∀ (fuel : Nat) (y3 : Int) (y4 y5 : List (List Int)), (Pure.spec_l03Fly_L0 F y0 y1 y2 y6 y7 y8 y9 y10 fuel y3 y4 y5).1 = true → loopOf (cxS F tyl [(71, c_spec_l01Less F), (75, c_spec_l01Scale F), (78, c_spec_l01Add F)] [] [] 0) 5 68 0 [0, 2, 3, 5, 15, 16] [54, 27, 27, 0, 3, 3] [] (loopB 0 (codeOf Try.f57)) fuel [V.at (A.ptr 0 0 0), V.at (A.fl .f32 y0), V.at (A.fl .f32 y1), V.at (A.ptr 5 0 0), V.at (A.int .i64 y2), V.at (A.int .i64 y3)] [⟨true, .box [A.sl 1, A.sl 2, A.sl 3, A.sl 4]⟩, ⟨true, .rows [K.f .f32, K.f .f32, K.f .f32] y4⟩, ⟨true, .rows [K.f .f32, K.f .f32, K.f .f32] y5⟩, ⟨true, .rows [K.f .f32] y6⟩, ⟨true, .rows [K.i .i64, K.i .i64, K.f .f32] y7⟩, ⟨true, .box [A.fl .f32 y8, A.fl .f32 y9, A.fl .f32 y10]⟩] = resOf (R_spec_l03Fly_L0 y6 y7 (Pure.spec_l03Fly_L0 F y0 y1 y2 y6 y7 y8 y9 y10 fuel y3 y4 y5)) := by
  intro fuel
  induction fuel with
  | zero => intro y3 y4 y5 h; exact absurd h Bool.false_ne_true
  | succ n ih =>
    intro y3 y4 y5
    have h0 : roundOf (cxS F tyl [(71, c_spec_l01Less F), (75, c_spec_l01Scale F), (78, c_spec_l01Add F)] [] [] 0) 5 68 0 [0, 2, 3, 5, 15, 16] [54, 27, 27, 0, 3, 3] [] (loopB 0 (codeOf Try.f57)) [V.at (A.ptr 0 0 0), V.at (A.fl .f32 y0), V.at (A.fl .f32 y1), V.at (A.ptr 5 0 0), V.at (A.int .i64 y2), V.at (A.int .i64 y3)] [⟨true, .box [A.sl 1, A.sl 2, A.sl 3, A.sl 4]⟩, ⟨true, .rows [K.f .f32, K.f .f32, K.f .f32] y4⟩, ⟨true, .rows [K.f .f32, K.f .f32, K.f .f32] y5⟩, ⟨true, .rows [K.f .f32] y6⟩, ⟨true, .rows [K.i .i64, K.i .i64, K.f .f32] y7⟩, ⟨true, .box [A.fl .f32 y8, A.fl .f32 y9, A.fl .f32 y10]⟩] = (bif decide (y3 < y2) then bif decide (0 ≤ y3) then bif decide (y3 < (Int.ofNat y4.length)) then bif decide (0 ≤ y3) then bif decide (y3 < (Int.ofNat y6.length)) then bif F.cmp .neq .f32 ((y6.getD y3.toNat []).getD 0 0) 0 then bif decide (0 ≤ y3) then bif decide (y3 < (Int.ofNat y5.length)) then bif decide (0 ≤ y3) then bif decide (y3 < (Int.ofNat y4.length)) then bif decide (0 ≤ y3) then bif decide (y3 < (Int.ofNat y5.length)) then some (true, (Ex.normal, ([V.at (A.ptr 0 0 0), V.at (A.fl .f32 y0), V.at (A.fl .f32 y1), V.at (A.ptr 5 0 0), V.at (A.int .i64 y2), V.at (A.int .i64 (IntKind.wrap .i64 (y3 + 1)))], [⟨true, .box [A.sl 1, A.sl 2, A.sl 3, A.sl 4]⟩, ⟨true, .rows [K.f .f32, K.f .f32, K.f .f32] (List.set y4 (Int.toNat y3) [Pure.spec_l01Add F (Pure.spec_l01Add F ((y4.getD y3.toNat []).getD 0 0) ((y4.getD y3.toNat []).getD 1 0) ((y4.getD y3.toNat []).getD 2 0) (Pure.spec_l01Scale F (Pure.spec_l01Less F ((y4.getD y3.toNat []).getD 0 0) ((y4.getD y3.toNat []).getD 1 0) ((y4.getD y3.toNat []).getD 2 0) ((y5.getD y3.toNat []).getD 0 0) ((y5.getD y3.toNat []).getD 1 0) ((y5.getD y3.toNat []).getD 2 0)) (Pure.spec_l01Less_1 F ((y4.getD y3.toNat []).getD 0 0) ((y4.getD y3.toNat []).getD 1 0) ((y4.getD y3.toNat []).getD 2 0) ((y5.getD y3.toNat []).getD 0 0) ((y5.getD y3.toNat []).getD 1 0) ((y5.getD y3.toNat []).getD 2 0)) (Pure.spec_l01Less_2 F ((y4.getD y3.toNat []).getD 0 0) ((y4.getD y3.toNat []).getD 1 0) ((y4.getD y3.toNat []).getD 2 0) ((y5.getD y3.toNat []).getD 0 0) ((y5.getD y3.toNat []).getD 1 0) ((y5.getD y3.toNat []).getD 2 0)) y0) (Pure.spec_l01Scale_1 F (Pure.spec_l01Less F ((y4.getD y3.toNat []).getD 0 0) ((y4.getD y3.toNat []).getD 1 0) ((y4.getD y3.toNat []).getD 2 0) ((y5.getD y3.toNat []).getD 0 0) ((y5.getD y3.toNat []).getD 1 0) ((y5.getD y3.toNat []).getD 2 0)) (Pure.spec_l01Less_1 F ((y4.getD y3.toNat []).getD 0 0) ((y4.getD y3.toNat []).getD 1 0) ((y4.getD y3.toNat []).getD 2 0) ((y5.getD y3.toNat []).getD 0 0) ((y5.getD y3.toNat []).getD 1 0) ((y5.getD y3.toNat []).getD 2 0)) (Pure.spec_l01Less_2 F ((y4.getD y3.toNat []).getD 0 0) ((y4.getD y3.toNat []).getD 1 0) ((y4.getD y3.toNat []).getD 2 0) ((y5.getD y3.toNat []).getD 0 0) ((y5.getD y3.toNat []).getD 1 0) ((y5.getD y3.toNat []).getD 2 0)) y0) (Pure.spec_l01Scale_2 F (Pure.spec_l01Less F ((y4.getD y3.toNat []).getD 0 0) ((y4.getD y3.toNat []).getD 1 0) ((y4.getD y3.toNat []).getD 2 0) ((y5.getD y3.toNat []).getD 0 0) ((y5.getD y3.toNat []).getD 1 0) ((y5.getD y3.toNat []).getD 2 0)) (Pure.spec_l01Less_1 F ((y4.getD y3.toNat []).getD 0 0) ((y4.getD y3.toNat []).getD 1 0) ((y4.getD y3.toNat []).getD 2 0) ((y5.getD y3.toNat []).getD 0 0) ((y5.getD y3.toNat []).getD 1 0) ((y5.getD y3.toNat []).getD 2 0)) (Pure.spec_l01Less_2 F ((y4.getD y3.toNat []).getD 0 0) ((y4.getD y3.toNat []).getD 1 0) ((y4.getD y3.toNat []).getD 2 0) ((y5.getD y3.toNat []).getD 0 0) ((y5.getD y3.toNat []).getD 1 0) ((y5.getD y3.toNat []).getD 2 0)) y0)) (Pure.spec_l01Add_1 F ((y4.getD y3.toNat []).getD 0 0) ((y4.getD y3.toNat []).getD 1 0) ((y4.getD y3.toNat []).getD 2 0) (Pure.spec_l01Scale F (Pure.spec_l01Less F ((y4.getD y3.toNat []).getD 0 0) ((y4.getD y3.toNat []).getD 1 0) ((y4.getD y3.toNat []).getD 2 0) ((y5.getD y3.toNat []).getD 0 0) ((y5.getD y3.toNat []).getD 1 0) ((y5.getD y3.toNat []).getD 2 0)) (Pure.spec_l01Less_1 F ((y4.getD y3.toNat []).getD 0 0) ((y4.getD y3.toNat []).getD 1 0) ((y4.getD y3.toNat []).getD 2 0) ((y5.getD y3.toNat []).getD 0 0) ((y5.getD y3.toNat []).getD 1 0) ((y5.getD y3.toNat []).getD 2 0)) (Pure.spec_l01Less_2 F ((y4.getD y3.toNat []).getD 0 0) ((y4.getD y3.toNat []).getD 1 0) ((y4.getD y3.toNat []).getD 2 0) ((y5.getD y3.toNat []).getD 0 0) ((y5.getD y3.toNat []).getD 1 0) ((y5.getD y3.toNat []).getD 2 0)) y0) (Pure.spec_l01Scale_1 F (Pure.spec_l01Less F ((y4.getD y3.toNat []).getD 0 0) ((y4.getD y3.toNat []).getD 1 0) ((y4.getD y3.toNat []).getD 2 0) ((y5.getD y3.toNat []).getD 0 0) ((y5.getD y3.toNat []).getD 1 0) ((y5.getD y3.toNat []).getD 2 0)) (Pure.spec_l01Less_1 F ((y4.getD y3.toNat []).getD 0 0) ((y4.getD y3.toNat []).getD 1 0) ((y4.getD y3.toNat []).getD 2 0) ((y5.getD y3.toNat []).getD 0 0) ((y5.getD y3.toNat []).getD 1 0) ((y5.getD y3.toNat []).getD 2 0)) (Pure.spec_l01Less_2 F ((y4.getD y3.toNat []).getD 0 0) ((y4.getD y3.toNat []).getD 1 0) ((y4.getD y3.toNat []).getD 2 0) ((y5.getD y3.toNat []).getD 0 0) ((y5.getD y3.toNat []).getD 1 0) ((y5.getD y3.toNat []).getD 2 0)) y0) (Pure.spec_l01Scale_2 F (Pure.spec_l01Less F ((y4.getD y3.toNat []).getD 0 0) ((y4.getD y3.toNat []).getD 1 0) ((y4.getD y3.toNat []).getD 2 0) ((y5.getD y3.toNat []).getD 0 0) ((y5.getD y3.toNat []).getD 1 0) ((y5.getD y3.toNat []).getD 2 0)) (Pure.spec_l01Less_1 F ((y4.getD y3.toNat []).getD 0 0) ((y4.getD y3.toNat []).getD 1 0) ((y4.getD y3.toNat []).getD 2 0) ((y5.getD y3.toNat []).getD 0 0) ((y5.getD y3.toNat []).getD 1 0) ((y5.getD y3.toNat []).getD 2 0)) (Pure.spec_l01Less_2 F ((y4.getD y3.toNat []).getD 0 0) ((y4.getD y3.toNat []).getD 1 0) ((y4.getD y3.toNat []).getD 2 0) ((y5.getD y3.toNat []).getD 0 0) ((y5.getD y3.toNat []).getD 1 0) ((y5.getD y3.toNat []).getD 2 0)) y0)) (Pure.spec_l01Add_2 F ((y4.getD y3.toNat []).getD 0 0) ((y4.getD y3.toNat []).getD 1 0) ((y4.getD y3.toNat []).getD 2 0) (Pure.spec_l01Scale F (Pure.spec_l01Less F ((y4.getD y3.toNat []).getD 0 0) ((y4.getD y3.toNat []).getD 1 0) ((y4.getD y3.toNat []).getD 2 0) ((y5.getD y3.toNat []).getD 0 0) ((y5.getD y3.toNat []).getD 1 0) ((y5.getD y3.toNat []).getD 2 0)) (Pure.spec_l01Less_1 F ((y4.getD y3.toNat []).getD 0 0) ((y4.getD y3.toNat []).getD 1 0) ((y4.getD y3.toNat []).getD 2 0) ((y5.getD y3.toNat []).getD 0 0) ((y5.getD y3.toNat []).getD 1 0) ((y5.getD y3.toNat []).getD 2 0)) (Pure.spec_l01Less_2 F ((y4.getD y3.toNat []).getD 0 0) ((y4.getD y3.toNat []).getD 1 0) ((y4.getD y3.toNat []).getD 2 0) ((y5.getD y3.toNat []).getD 0 0) ((y5.getD y3.toNat []).getD 1 0) ((y5.getD y3.toNat []).getD 2 0)) y0) (Pure.spec_l01Scale_1 F (Pure.spec_l01Less F ((y4.getD y3.toNat []).getD 0 0) ((y4.getD y3.toNat []).getD 1 0) ((y4.getD y3.toNat []).getD 2 0) ((y5.getD y3.toNat []).getD 0 0) ((y5.getD y3.toNat []).getD 1 0) ((y5.getD y3.toNat []).getD 2 0)) (Pure.spec_l01Less_1 F ((y4.getD y3.toNat []).getD 0 0) ((y4.getD y3.toNat []).getD 1 0) ((y4.getD y3.toNat []).getD 2 0) ((y5.getD y3.toNat []).getD 0 0) ((y5.getD y3.toNat []).getD 1 0) ((y5.getD y3.toNat []).getD 2 0)) (Pure.spec_l01Less_2 F ((y4.getD y3.toNat []).getD 0 0) ((y4.getD y3.toNat []).getD 1 0) ((y4.getD y3.toNat []).getD 2 0) ((y5.getD y3.toNat []).getD 0 0) ((y5.getD y3.toNat []).getD 1 0) ((y5.getD y3.toNat []).getD 2 0)) y0) (Pure.spec_l01Scale_2 F (Pure.spec_l01Less F ((y4.getD y3.toNat []).getD 0 0) ((y4.getD y3.toNat []).getD 1 0) ((y4.getD y3.toNat []).getD 2 0) ((y5.getD y3.toNat []).getD 0 0) ((y5.getD y3.toNat []).getD 1 0) ((y5.getD y3.toNat []).getD 2 0)) (Pure.spec_l01Less_1 F ((y4.getD y3.toNat []).getD 0 0) ((y4.getD y3.toNat []).getD 1 0) ((y4.getD y3.toNat []).getD 2 0) ((y5.getD y3.toNat []).getD 0 0) ((y5.getD y3.toNat []).getD 1 0) ((y5.getD y3.toNat []).getD 2 0)) (Pure.spec_l01Less_2 F ((y4.getD y3.toNat []).getD 0 0) ((y4.getD y3.toNat []).getD 1 0) ((y4.getD y3.toNat []).getD 2 0) ((y5.getD y3.toNat []).getD 0 0) ((y5.getD y3.toNat []).getD 1 0) ((y5.getD y3.toNat []).getD 2 0)) y0)) (Pure.spec_l01Scale F y8 y9 y10 (F.bin .mul .f32 y1 y1)) (Pure.spec_l01Scale_1 F y8 y9 y10 (F.bin .mul .f32 y1 y1)) (Pure.spec_l01Scale_2 F y8 y9 y10 (F.bin .mul .f32 y1 y1)), Pure.spec_l01Add_1 F (Pure.spec_l01Add F ((y4.getD y3.toNat []).getD 0 0) ((y4.getD y3.toNat []).getD 1 0) ((y4.getD y3.toNat []).getD 2 0) (Pure.spec_l01Scale F (Pure.spec_l01Less F ((y4.getD y3.toNat []).getD 0 0) ((y4.getD y3.toNat []).getD 1 0) ((y4.getD y3.toNat []).getD 2 0) ((y5.getD y3.toNat []).getD 0 0) ((y5.getD y3.toNat []).getD 1 0) ((y5.getD y3.toNat []).getD 2 0)) (Pure.spec_l01Less_1 F ((y4.getD y3.toNat []).getD 0 0) ((y4.getD y3.toNat []).getD 1 0) ((y4.getD y3.toNat []).getD 2 0) ((y5.getD y3.toNat []).getD 0 0) ((y5.getD y3.toNat []).getD 1 0) ((y5.getD y3.toNat []).getD 2 0)) (Pure.spec_l01Less_2 F ((y4.getD y3.toNat []).getD 0 0) ((y4.getD y3.toNat []).getD 1 0) ((y4.getD y3.toNat []).getD 2 0) ((y5.getD y3.toNat []).getD 0 0) ((y5.getD y3.toNat []).getD 1 0) ((y5.getD y3.toNat []).getD 2 0)) y0) (Pure.spec_l01Scale_1 F (Pure.spec_l01Less F ((y4.getD y3.toNat []).getD 0 0) ((y4.getD y3.toNat []).getD 1 0) ((y4.getD y3.toNat []).getD 2 0) ((y5.getD y3.toNat []).getD 0 0) ((y5.getD y3.toNat []).getD 1 0) ((y5.getD y3.toNat []).getD 2 0)) (Pure.spec_l01Less_1 F ((y4.getD y3.toNat []).getD 0 0) ((y4.getD y3.toNat []).getD 1 0) ((y4.getD y3.toNat []).getD 2 0) ((y5.getD y3.toNat []).getD 0 0) ((y5.getD y3.toNat []).getD 1 0) ((y5.getD y3.toNat []).getD 2 0)) (Pure.spec_l01Less_2 F ((y4.getD y3.toNat []).getD 0 0) ((y4.getD y3.toNat []).getD 1 0) ((y4.getD y3.toNat []).getD 2 0) ((y5.getD y3.toNat []).getD 0 0) ((y5.getD y3.toNat []).getD 1 0) ((y5.getD y3.toNat []).getD 2 0)) y0) (Pure.spec_l01Scale_2 F (Pure.spec_l01Less F ((y4.getD y3.toNat []).getD 0 0) ((y4.getD y3.toNat []).getD 1 0) ((y4.getD y3.toNat []).getD 2 0) ((y5.getD y3.toNat []).getD 0 0) ((y5.getD y3.toNat []).getD 1 0) ((y5.getD y3.toNat []).getD 2 0)) (Pure.spec_l01Less_1 F ((y4.getD y3.toNat []).getD 0 0) ((y4.getD y3.toNat []).getD 1 0) ((y4.getD y3.toNat []).getD 2 0) ((y5.getD y3.toNat []).getD 0 0) ((y5.getD y3.toNat []).getD 1 0) ((y5.getD y3.toNat []).getD 2 0)) (Pure.spec_l01Less_2 F ((y4.getD y3.toNat []).getD 0 0) ((y4.getD y3.toNat []).getD 1 0) ((y4.getD y3.toNat []).getD 2 0) ((y5.getD y3.toNat []).getD 0 0) ((y5.getD y3.toNat []).getD 1 0) ((y5.getD y3.toNat []).getD 2 0)) y0)) (Pure.spec_l01Add_1 F ((y4.getD y3.toNat []).getD 0 0) ((y4.getD y3.toNat []).getD 1 0) ((y4.getD y3.toNat []).getD 2 0) (Pure.spec_l01Scale F (Pure.spec_l01Less F ((y4.getD y3.toNat []).getD 0 0) ((y4.getD y3.toNat []).getD 1 0) ((y4.getD y3.toNat []).getD 2 0) ((y5.getD y3.toNat []).getD 0 0) ((y5.getD y3.toNat []).getD 1 0) ((y5.getD y3.toNat []).getD 2 0)) (Pure.spec_l01Less_1 F ((y4.getD y3.toNat []).getD 0 0) ((y4.getD y3.toNat []).getD 1 0) ((y4.getD y3.toNat []).getD 2 0) ((y5.getD y3.toNat []).getD 0 0) ((y5.getD y3.toNat []).getD 1 0) ((y5.getD y3.toNat []).getD 2 0)) (Pure.spec_l01Less_2 F ((y4.getD y3.toNat []).getD 0 0) ((y4.getD y3.toNat []).getD 1 0) ((y4.getD y3.toNat []).getD 2 0) ((y5.getD y3.toNat []).getD 0 0) ((y5.getD y3.toNat []).getD 1 0) ((y5.getD y3.toNat []).getD 2 0)) y0) (Pure.spec_l01Scale_1 F (Pure.spec_l01Less F ((y4.getD y3.toNat []).getD 0 0) ((y4.getD y3.toNat []).getD 1 0) ((y4.getD y3.toNat []).getD 2 0) ((y5.getD y3.toNat []).getD 0 0) ((y5.getD y3.toNat []).getD 1 0) ((y5.getD y3.toNat []).getD 2 0)) (Pure.spec_l01Less_1 F ((y4.getD y3.toNat []).getD 0 0) ((y4.getD y3.toNat []).getD 1 0) ((y4.getD y3.toNat []).getD 2 0) ((y5.getD y3.toNat []).getD 0 0) ((y5.getD y3.toNat []).getD 1 0) ((y5.getD y3.toNat []).getD 2 0)) (Pure.spec_l01Less_2 F ((y4.getD y3.toNat []).getD 0 0) ((y4.getD y3.toNat []).getD 1 0) ((y4.getD y3.toNat []).getD 2 0) ((y5.getD y3.toNat []).getD 0 0) ((y5.getD y3.toNat []).getD 1 0) ((y5.getD y3.toNat []).getD 2 0)) y0) (Pure.spec_l01Scale_2 F (Pure.spec_l01Less F ((y4.getD y3.toNat []).getD 0 0) ((y4.getD y3.toNat []).getD 1 0) ((y4.getD y3.toNat []).getD 2 0) ((y5.getD y3.toNat []).getD 0 0) ((y5.getD y3.toNat []).getD 1 0) ((y5.getD y3.toNat []).getD 2 0)) (Pure.spec_l01Less_1 F ((y4.getD y3.toNat []).getD 0 0) ((y4.getD y3.toNat []).getD 1 0) ((y4.getD y3.toNat []).getD 2 0) ((y5.getD y3.toNat []).getD 0 0) ((y5.getD y3.toNat []).getD 1 0) ((y5.getD y3.toNat []).getD 2 0)) (Pure.spec_l01Less_2 F ((y4.getD y3.toNat []).getD 0 0) ((y4.getD y3.toNat []).getD 1 0) ((y4.getD y3.toNat []).getD 2 0) ((y5.getD y3.toNat []).getD 0 0) ((y5.getD y3.toNat []).getD 1 0) ((y5.getD y3.toNat []).getD 2 0)) y0)) (Pure.spec_l01Add_2 F ((y4.getD y3.toNat []).getD 0 0) ((y4.getD y3.toNat []).getD 1 0) ((y4.getD y3.toNat []).getD 2 0) (Pure.spec_l01Scale F (Pure.spec_l01Less F ((y4.getD y3.toNat []).getD 0 0) ((y4.getD y3.toNat []).getD 1 0) ((y4.getD y3.toNat []).getD 2 0) ((y5.getD y3.toNat []).getD 0 0) ((y5.getD y3.toNat []).getD 1 0) ((y5.getD y3.toNat []).getD 2 0)) (Pure.spec_l01Less_1 F ((y4.getD y3.toNat []).getD 0 0) ((y4.getD y3.toNat []).getD 1 0) ((y4.getD y3.toNat []).getD 2 0) ((y5.getD y3.toNat []).getD 0 0) ((y5.getD y3.toNat []).getD 1 0) ((y5.getD y3.toNat []).getD 2 0)) (Pure.spec_l01Less_2 F ((y4.getD y3.toNat []).getD 0 0) ((y4.getD y3.toNat []).getD 1 0) ((y4.getD y3.toNat []).getD 2 0) ((y5.getD y3.toNat []).getD 0 0) ((y5.getD y3.toNat []).getD 1 0) ((y5.getD y3.toNat []).getD 2 0)) y0) (Pure.spec_l01Scale_1 F (Pure.spec_l01Less F ((y4.getD y3.toNat []).getD 0 0) ((y4.getD y3.toNat []).getD 1 0) ((y4.getD y3.toNat []).getD 2 0) ((y5.getD y3.toNat []).getD 0 0) ((y5.getD y3.toNat []).getD 1 0) ((y5.getD y3.toNat []).getD 2 0)) (Pure.spec_l01Less_1 F ((y4.getD y3.toNat []).getD 0 0) ((y4.getD y3.toNat []).getD 1 0) ((y4.getD y3.toNat []).getD 2 0) ((y5.getD y3.toNat []).getD 0 0) ((y5.getD y3.toNat []).getD 1 0) ((y5.getD y3.toNat []).getD 2 0)) (Pure.spec_l01Less_2 F ((y4.getD y3.toNat []).getD 0 0) ((y4.getD y3.toNat []).getD 1 0) ((y4.getD y3.toNat []).getD 2 0) ((y5.getD y3.toNat []).getD 0 0) ((y5.getD y3.toNat []).getD 1 0) ((y5.getD y3.toNat []).getD 2 0)) y0) (Pure.spec_l01Scale_2 F (Pure.spec_l01Less F ((y4.getD y3.toNat []).getD 0 0) ((y4.getD y3.toNat []).getD 1 0) ((y4.getD y3.toNat []).getD 2 0) ((y5.getD y3.toNat []).getD 0 0) ((y5.getD y3.toNat []).getD 1 0) ((y5.getD y3.toNat []).getD 2 0)) (Pure.spec_l01Less_1 F ((y4.getD y3.toNat []).getD 0 0) ((y4.getD y3.toNat []).getD 1 0) ((y4.getD y3.toNat []).getD 2 0) ((y5.getD y3.toNat []).getD 0 0) ((y5.getD y3.toNat []).getD 1 0) ((y5.getD y3.toNat []).getD 2 0)) (Pure.spec_l01Less_2 F ((y4.getD y3.toNat []).getD 0 0) ((y4.getD y3.toNat []).getD 1 0) ((y4.getD y3.toNat []).getD 2 0) ((y5.getD y3.toNat []).getD 0 0) ((y5.getD y3.toNat []).getD 1 0) ((y5.getD y3.toNat []).getD 2 0)) y0)) (Pure.spec_l01Scale F y8 y9 y10 (F.bin .mul .f32 y1 y1)) (Pure.spec_l01Scale_1 F y8 y9 y10 (F.bin .mul .f32 y1 y1)) (Pure.spec_l01Scale_2 F y8 y9 y10 (F.bin .mul .f32 y1 y1)), Pure.spec_l01Add_2 F (Pure.spec_l01Add F ((y4.getD y3.toNat []).getD 0 0) ((y4.getD y3.toNat []).getD 1 0) ((y4.getD y3.toNat []).getD 2 0) (Pure.spec_l01Scale F (Pure.spec_l01Less F ((y4.getD y3.toNat []).getD 0 0) ((y4.getD y3.toNat []).getD 1 0) ((y4.getD y3.toNat []).getD 2 0) ((y5.getD y3.toNat []).getD 0 0) ((y5.getD y3.toNat []).getD 1 0) ((y5.getD y3.toNat []).getD 2 0)) (Pure.spec_l01Less_1 F ((y4.getD y3.toNat []).getD 0 0) ((y4.getD y3.toNat []).getD 1 0) ((y4.getD y3.toNat []).getD 2 0) ((y5.getD y3.toNat []).getD 0 0) ((y5.getD y3.toNat []).getD 1 0) ((y5.getD y3.toNat []).getD 2 0)) (Pure.spec_l01Less_2 F ((y4.getD y3.toNat []).getD 0 0) ((y4.getD y3.toNat []).getD 1 0) ((y4.getD y3.toNat []).getD 2 0) ((y5.getD y3.toNat []).getD 0 0) ((y5.getD y3.toNat []).getD 1 0) ((y5.getD y3.toNat []).getD 2 0)) y0) (Pure.spec_l01Scale_1 F (Pure.spec_l01Less F ((y4.getD y3.toNat []).getD 0 0) ((y4.getD y3.toNat []).getD 1 0) ((y4.getD y3.toNat []).getD 2 0) ((y5.getD y3.toNat []).getD 0 0) ((y5.getD y3.toNat []).getD 1 0) ((y5.getD y3.toNat []).getD 2 0)) (Pure.spec_l01Less_1 F ((y4.getD y3.toNat []).getD 0 0) ((y4.getD y3.toNat []).getD 1 0) ((y4.getD y3.toNat []).getD 2 0) ((y5.getD y3.toNat []).getD 0 0) ((y5.getD y3.toNat []).getD 1 0) ((y5.getD y3.toNat []).getD 2 0)) (Pure.spec_l01Less_2 F ((y4.getD y3.toNat []).getD 0 0) ((y4.getD y3.toNat []).getD 1 0) ((y4.getD y3.toNat []).getD 2 0) ((y5.getD y3.toNat []).getD 0 0) ((y5.getD y3.toNat []).getD 1 0) ((y5.getD y3.toNat []).getD 2 0)) y0) (Pure.spec_l01Scale_2 F (Pure.spec_l01Less F ((y4.getD y3.toNat []).getD 0 0) ((y4.getD y3.toNat []).getD 1 0) ((y4.getD y3.toNat []).getD 2 0) ((y5.getD y3.toNat []).getD 0 0) ((y5.getD y3.toNat []).getD 1 0) ((y5.getD y3.toNat []).getD 2 0)) (Pure.spec_l01Less_1 F ((y4.getD y3.toNat []).getD 0 0) ((y4.getD y3.toNat []).getD 1 0) ((y4.getD y3.toNat []).getD 2 0) ((y5.getD y3.toNat []).getD 0 0) ((y5.getD y3.toNat []).getD 1 0) ((y5.getD y3.toNat []).getD 2 0)) (Pure.spec_l01Less_2 F ((y4.getD y3.toNat []).getD 0 0) ((y4.getD y3.toNat []).getD 1 0) ((y4.getD y3.toNat []).getD 2 0) ((y5.getD y3.toNat []).getD 0 0) ((y5.getD y3.toNat []).getD 1 0) ((y5.getD y3.toNat []).getD 2 0)) y0)) (Pure.spec_l01Add_1 F ((y4.getD y3.toNat []).getD 0 0) ((y4.getD y3.toNat []).getD 1 0) ((y4.getD y3.toNat []).getD 2 0) (Pure.spec_l01Scale F (Pure.spec_l01Less F ((y4.getD y3.toNat []).getD 0 0) ((y4.getD y3.toNat []).getD 1 0) ((y4.getD y3.toNat []).getD 2 0) ((y5.getD y3.toNat []).getD 0 0) ((y5.getD y3.toNat []).getD 1 0) ((y5.getD y3.toNat []).getD 2 0)) (Pure.spec_l01Less_1 F ((y4.getD y3.toNat []).getD 0 0) ((y4.getD y3.toNat []).getD 1 0) ((y4.getD y3.toNat []).getD 2 0) ((y5.getD y3.toNat []).getD 0 0) ((y5.getD y3.toNat []).getD 1 0) ((y5.getD y3.toNat []).getD 2 0)) (Pure.spec_l01Less_2 F ((y4.getD y3.toNat []).getD 0 0) ((y4.getD y3.toNat []).getD 1 0) ((y4.getD y3.toNat []).getD 2 0) ((y5.getD y3.toNat []).getD 0 0) ((y5.getD y3.toNat []).getD 1 0) ((y5.getD y3.toNat []).getD 2 0)) y0) (Pure.spec_l01Scale_1 F (Pure.spec_l01Less F ((y4.getD y3.toNat []).getD 0 0) ((y4.getD y3.toNat []).getD 1 0) ((y4.getD y3.toNat []).getD 2 0) ((y5.getD y3.toNat []).getD 0 0) ((y5.getD y3.toNat []).getD 1 0) ((y5.getD y3.toNat []).getD 2 0)) (Pure.spec_l01Less_1 F ((y4.getD y3.toNat []).getD 0 0) ((y4.getD y3.toNat []).getD 1 0) ((y4.getD y3.toNat []).getD 2 0) ((y5.getD y3.toNat []).getD 0 0) ((y5.getD y3.toNat []).getD 1 0) ((y5.getD y3.toNat []).getD 2 0)) (Pure.spec_l01Less_2 F ((y4.getD y3.toNat []).getD 0 0) ((y4.getD y3.toNat []).getD 1 0) ((y4.getD y3.toNat []).getD 2 0) ((y5.getD y3.toNat []).getD 0 0) ((y5.getD y3.toNat []).getD 1 0) ((y5.getD y3.toNat []).getD 2 0)) y0) (Pure.spec_l01Scale_2 F (Pure.spec_l01Less F ((y4.getD y3.toNat []).getD 0 0) ((y4.getD y3.toNat []).getD 1 0) ((y4.getD y3.toNat []).getD 2 0) ((y5.getD y3.toNat []).getD 0 0) ((y5.getD y3.toNat []).getD 1 0) ((y5.getD y3.toNat []).getD 2 0)) (Pure.spec_l01Less_1 F ((y4.getD y3.toNat []).getD 0 0) ((y4.getD y3.toNat []).getD 1 0) ((y4.getD y3.toNat []).getD 2 0) ((y5.getD y3.toNat []).getD 0 0) ((y5.getD y3.toNat []).getD 1 0) ((y5.getD y3.toNat []).getD 2 0)) (Pure.spec_l01Less_2 F ((y4.getD y3.toNat []).getD 0 0) ((y4.getD y3.toNat []).getD 1 0) ((y4.getD y3.toNat []).getD 2 0) ((y5.getD y3.toNat []).getD 0 0) ((y5.getD y3.toNat []).getD 1 0) ((y5.getD y3.toNat []).getD 2 0)) y0)) (Pure.spec_l01Add_2 F ((y4.getD y3.toNat []).getD 0 0) ((y4.getD y3.toNat []).getD 1 0) ((y4.getD y3.toNat []).getD 2 0) (Pure.spec_l01Scale F (Pure.spec_l01Less F ((y4.getD y3.toNat []).getD 0 0) ((y4.getD y3.toNat []).getD 1 0) ((y4.getD y3.toNat []).getD 2 0) ((y5.getD y3.toNat []).getD 0 0) ((y5.getD y3.toNat []).getD 1 0) ((y5.getD y3.toNat []).getD 2 0)) (Pure.spec_l01Less_1 F ((y4.getD y3.toNat []).getD 0 0) ((y4.getD y3.toNat []).getD 1 0) ((y4.getD y3.toNat []).getD 2 0) ((y5.getD y3.toNat []).getD 0 0) ((y5.getD y3.toNat []).getD 1 0) ((y5.getD y3.toNat []).getD 2 0)) (Pure.spec_l01Less_2 F ((y4.getD y3.toNat []).getD 0 0) ((y4.getD y3.toNat []).getD 1 0) ((y4.getD y3.toNat []).getD 2 0) ((y5.getD y3.toNat []).getD 0 0) ((y5.getD y3.toNat []).getD 1 0) ((y5.getD y3.toNat []).getD 2 0)) y0) (Pure.spec_l01Scale_1 F (Pure.spec_l01Less F ((y4.getD y3.toNat []).getD 0 0) ((y4.getD y3.toNat []).getD 1 0) ((y4.getD y3.toNat []).getD 2 0) ((y5.getD y3.toNat []).getD 0 0) ((y5.getD y3.toNat []).getD 1 0) ((y5.getD y3.toNat []).getD 2 0)) (Pure.spec_l01Less_1 F ((y4.getD y3.toNat []).getD 0 0) ((y4.getD y3.toNat []).getD 1 0) ((y4.getD y3.toNat []).getD 2 0) ((y5.getD y3.toNat []).getD 0 0) ((y5.getD y3.toNat []).getD 1 0) ((y5.getD y3.toNat []).getD 2 0)) (Pure.spec_l01Less_2 F ((y4.getD y3.toNat []).getD 0 0) ((y4.getD y3.toNat []).getD 1 0) ((y4.getD y3.toNat []).getD 2 0) ((y5.getD y3.toNat []).getD 0 0) ((y5.getD y3.toNat []).getD 1 0) ((y5.getD y3.toNat []).getD 2 0)) y0) (Pure.spec_l01Scale_2 F (Pure.spec_l01Less F ((y4.getD y3.toNat []).getD 0 0) ((y4.getD y3.toNat []).getD 1 0) ((y4.getD y3.toNat []).getD 2 0) ((y5.getD y3.toNat []).getD 0 0) ((y5.getD y3.toNat []).getD 1 0) ((y5.getD y3.toNat []).getD 2 0)) (Pure.spec_l01Less_1 F ((y4.getD y3.toNat []).getD 0 0) ((y4.getD y3.toNat []).getD 1 0) ((y4.getD y3.toNat []).getD 2 0) ((y5.getD y3.toNat []).getD 0 0) ((y5.getD y3.toNat []).getD 1 0) ((y5.getD y3.toNat []).getD 2 0)) (Pure.spec_l01Less_2 F ((y4.getD y3.toNat []).getD 0 0) ((y4.getD y3.toNat []).getD 1 0) ((y4.getD y3.toNat []).getD 2 0) ((y5.getD y3.toNat []).getD 0 0) ((y5.getD y3.toNat []).getD 1 0) ((y5.getD y3.toNat []).getD 2 0)) y0)) (Pure.spec_l01Scale F y8 y9 y10 (F.bin .mul .f32 y1 y1)) (Pure.spec_l01Scale_1 F y8 y9 y10 (F.bin .mul .f32 y1 y1)) (Pure.spec_l01Scale_2 F y8 y9 y10 (F.bin .mul .f32 y1 y1))])⟩, ⟨true, .rows [K.f .f32, K.f .f32, K.f .f32] (List.set y5 (Int.toNat y3) [List.getD (List.getD y4 (Int.toNat y3) []) 0 0, List.getD (List.getD y4 (Int.toNat y3) []) 1 0, List.getD (List.getD y4 (Int.toNat y3) []) 2 0])⟩, ⟨true, .rows [K.f .f32] y6⟩, ⟨true, .rows [K.i .i64, K.i .i64, K.f .f32] y7⟩, ⟨true, .box [A.fl .f32 y8, A.fl .f32 y9, A.fl .f32 y10]⟩]))) else none else none else none else none else none else none else bif decide (0 ≤ y3) then bif decide (y3 < (Int.ofNat y5.length)) then some (true, (Ex.normal, ([V.at (A.ptr 0 0 0), V.at (A.fl .f32 y0), V.at (A.fl .f32 y1), V.at (A.ptr 5 0 0), V.at (A.int .i64 y2), V.at (A.int .i64 (IntKind.wrap .i64 (y3 + 1)))], [⟨true, .box [A.sl 1, A.sl 2, A.sl 3, A.sl 4]⟩, ⟨true, .rows [K.f .f32, K.f .f32, K.f .f32] y4⟩, ⟨true, .rows [K.f .f32, K.f .f32, K.f .f32] (List.set y5 (Int.toNat y3) [List.getD (List.getD y4 (Int.toNat y3) []) 0 0, List.getD (List.getD y4 (Int.toNat y3) []) 1 0, List.getD (List.getD y4 (Int.toNat y3) []) 2 0])⟩, ⟨true, .rows [K.f .f32] y6⟩, ⟨true, .rows [K.i .i64, K.i .i64, K.f .f32] y7⟩, ⟨true, .box [A.fl .f32 y8, A.fl .f32 y9, A.fl .f32 y10]⟩]))) else none else none else none else none else none else none else some (false, (Ex.normal, ([], [⟨true, .box [A.sl 1, A.sl 2, A.sl 3, A.sl 4]⟩, ⟨true, .rows [K.f .f32, K.f .f32, K.f .f32] y4⟩, ⟨true, .rows [K.f .f32, K.f .f32, K.f .f32] y5⟩, ⟨true, .rows [K.f .f32] y6⟩, ⟨true, .rows [K.i .i64, K.i .i64, K.f .f32] y7⟩])))) := by kernel_rfl
    unfold loopOf
    rw [h0]
    unfold Pure.spec_l03Fly_L0
    cases (decide (y3 < y2)) with
    | true =>
      cases (decide (0 ≤ y3)) with
      | true =>
        cases (decide (y3 < (Int.ofNat y4.length))) with
        | true =>
          cases (decide (y3 < (Int.ofNat y6.length))) with
          | true =>
            cases (F.cmp .neq .f32 ((y6.getD y3.toNat []).getD 0 0) 0) with
            | true =>
              cases (decide (y3 < (Int.ofNat y5.length))) with
              | true =>
                exact ih _ _ _
              | false =>
                intro h; exact absurd h Bool.false_ne_true
            | false =>
              cases (decide (y3 < (Int.ofNat y5.length))) with
              | true =>
                exact ih _ _ _
              | false =>
                intro h; exact absurd h Bool.false_ne_true
          | false =>
            intro h; exact absurd h Bool.false_ne_true
        | false =>
          intro h; exact absurd h Bool.false_ne_true
      | false =>
        intro h; exact absurd h Bool.false_ne_true
    | false =>
      intro _; rfl
theorem t_spec_l03Fly_L0 : SmTo Try.prog 5 68 (S_spec_l03Fly_L0 real) 0 (.loop (loopB 0 (codeOf Try.f57))) := by
  refine smTo_ev (cl := [(71, c_spec_l01Less real), (75, c_spec_l01Scale real), (78, c_spec_l01Add real)]) (ef := []) (sm := []) (un := 0) prog_ok (allOK_cons ok_spec_l01Less (allOK_cons ok_spec_l01Scale (allOK_cons ok_spec_l01Add allOK_nil))) smL_nil ?_
  intro vals hp q r h hq
  unfold S_spec_l03Fly_L0 at h
  dsimp only at h
  split at h
  · rename_i y0 y1 y2 y3 y4 y5 y6 y7 y8 y9 y10
    obtain rfl := Option.some.inj h
    have h1 := hq
    unfold resOf at h1
    rw [chk_some] at h1
    exact ⟨_, (l_spec_l03Fly_L0 real y0 y1 y2 y6 y7 y8 y9 y10 _ y3 y4 y5 h1.1).trans hq⟩
  · cases h
def Pure.spec_l03Fly (F : FOps) (x0 x1 x2 x3 : List (List Int)) (x4 x5 x6 x7 x8 : Int) : List (List Int) := Prod.fst (Prod.snd (Pure.spec_l03Fly_L0 F x7 x8 (Int.ofNat x0.length) x2 x3 x4 x5 x6 (Nat.succ (x0.length + 0)) 0 x0 x1))
def Pure.spec_l03Fly_1 (F : FOps) (x0 x1 x2 x3 : List (List Int)) (x4 x5 x6 x7 x8 : Int) : List (List Int) := Prod.snd (Prod.snd (Pure.spec_l03Fly_L0 F x7 x8 (Int.ofNat x0.length) x2 x3 x4 x5 x6 (Nat.succ (x0.length + 0)) 0 x0 x1))
def Pure.spec_l03Fly_ok (F : FOps) (x0 x1 x2 x3 : List (List Int)) (x4 x5 x6 x7 x8 : Int) : Bool := Prod.fst (Pure.spec_l03Fly_L0 F x7 x8 (Int.ofNat x0.length) x2 x3 x4 x5 x6 (Nat.succ (x0.length + 0)) 0 x0 x1)
def c_spec_l03Fly (F : FOps) : Con
  | [V.at (A.ptr 0 0 0), V.agg [A.fl .f32 x4, A.fl .f32 x5, A.fl .f32 x6], V.at (A.fl .f32 x7), V.at (A.fl .f32 x8)], [⟨true, .box [A.sl 1, A.sl 2, A.sl 3, A.sl 4]⟩, ⟨true, .rows [K.f .f32, K.f .f32, K.f .f32] x0⟩, ⟨true, .rows [K.f .f32, K.f .f32, K.f .f32] x1⟩, ⟨true, .rows [K.f .f32] x2⟩, ⟨true, .rows [K.i .i64, K.i .i64, K.f .f32] x3⟩] => some (Pure.spec_l03Fly_ok F x0 x1 x2 x3 x4 x5 x6 x7 x8, ⟨V.tup [], some [⟨true, .box [A.sl 1, A.sl 2, A.sl 3, A.sl 4]⟩, ⟨true, .rows [K.f .f32, K.f .f32, K.f .f32] (Pure.spec_l03Fly F x0 x1 x2 x3 x4 x5 x6 x7 x8)⟩, ⟨true, .rows [K.f .f32, K.f .f32, K.f .f32] (Pure.spec_l03Fly_1 F x0 x1 x2 x3 x4 x5 x6 x7 x8)⟩, ⟨true, .rows [K.f .f32] x2⟩, ⟨true, .rows [K.i .i64, K.i .i64, K.f .f32] x3⟩], []⟩)
  | _, _ => none
theorem e_spec_l03Fly (F : FOps) (x0 x1 x2 x3 : List (List Int)) (x4 x5 x6 x7 x8 : Int) : Pure.spec_l03Fly_ok F x0 x1 x2 x3 x4 x5 x6 x7 x8 = true → evFn (cxS F tyl [(71, c_spec_l01Less F), (75, c_spec_l01Scale F), (78, c_spec_l01Add F)] [] [(0, S_spec_l03Fly_L0 F)] 0) Try.f57 true [V.at (A.ptr 0 0 0), V.agg [A.fl .f32 x4, A.fl .f32 x5, A.fl .f32 x6], V.at (A.fl .f32 x7), V.at (A.fl .f32 x8)] [⟨true, .box [A.sl 1, A.sl 2, A.sl 3, A.sl 4]⟩, ⟨true, .rows [K.f .f32, K.f .f32, K.f .f32] x0⟩, ⟨true, .rows [K.f .f32, K.f .f32, K.f .f32] x1⟩, ⟨true, .rows [K.f .f32] x2⟩, ⟨true, .rows [K.i .i64, K.i .i64, K.f .f32] x3⟩] = some ⟨V.tup [], some [⟨true, .box [A.sl 1, A.sl 2, A.sl 3, A.sl 4]⟩, ⟨true, .rows [K.f .f32, K.f .f32, K.f .f32] (Pure.spec_l03Fly F x0 x1 x2 x3 x4 x5 x6 x7 x8)⟩, ⟨true, .rows [K.f .f32, K.f .f32, K.f .f32] (Pure.spec_l03Fly_1 F x0 x1 x2 x3 x4 x5 x6 x7 x8)⟩, ⟨true, .rows [K.f .f32] x2⟩, ⟨true, .rows [K.i .i64, K.i .i64, K.f .f32] x3⟩], []⟩ := by
  have h0 : evFn (cxS F tyl [(71, c_spec_l01Less F), (75, c_spec_l01Scale F), (78, c_spec_l01Add F)] [] [(0, S_spec_l03Fly_L0 F)] 0) Try.f57 true [V.at (A.ptr 0 0 0), V.agg [A.fl .f32 x4, A.fl .f32 x5, A.fl .f32 x6], V.at (A.fl .f32 x7), V.at (A.fl .f32 x8)] [⟨true, .box [A.sl 1, A.sl 2, A.sl 3, A.sl 4]⟩, ⟨true, .rows [K.f .f32, K.f .f32, K.f .f32] x0⟩, ⟨true, .rows [K.f .f32, K.f .f32, K.f .f32] x1⟩, ⟨true, .rows [K.f .f32] x2⟩, ⟨true, .rows [K.i .i64, K.i .i64, K.f .f32] x3⟩] = bif Prod.fst (Pure.spec_l03Fly_L0 F x7 x8 (Int.ofNat x0.length) x2 x3 x4 x5 x6 (Nat.succ (x0.length + 0)) 0 x0 x1) then some ⟨V.tup [], some [⟨true, .box [A.sl 1, A.sl 2, A.sl 3, A.sl 4]⟩, ⟨true, .rows [K.f .f32, K.f .f32, K.f .f32] (Prod.fst (Prod.snd (Pure.spec_l03Fly_L0 F x7 x8 (Int.ofNat x0.length) x2 x3 x4 x5 x6 (Nat.succ (x0.length + 0)) 0 x0 x1)))⟩, ⟨true, .rows [K.f .f32, K.f .f32, K.f .f32] (Prod.snd (Prod.snd (Pure.spec_l03Fly_L0 F x7 x8 (Int.ofNat x0.length) x2 x3 x4 x5 x6 (Nat.succ (x0.length + 0)) 0 x0 x1)))⟩, ⟨true, .rows [K.f .f32] x2⟩, ⟨true, .rows [K.i .i64, K.i .i64, K.f .f32] x3⟩], []⟩ else none := by kernel_rfl
  rw [h0]
  unfold Pure.spec_l03Fly Pure.spec_l03Fly_1 Pure.spec_l03Fly_ok
  cases (Prod.fst (Pure.spec_l03Fly_L0 F x7 x8 (Int.ofNat x0.length) x2 x3 x4 x5 x6 (Nat.succ (x0.length + 0)) 0 x0 x1)) with
  | true =>
    intro _; rfl
  | false =>
    intro h; exact absurd h Bool.false_ne_true
theorem ok_spec_l03Fly : CallOK Try.prog 57 (c_spec_l03Fly real) := by
  refine callOK_of fun args h ret hc => ?_
  unfold c_spec_l03Fly at hc
  split at hc
  · rename_i x4 x5 x6 x7 x8 x0 x1 x2 x3
    obtain ⟨hok, rfl⟩ := some_ret hc
    exact holdsE_ev prog_ok (allOK_cons ok_spec_l01Less (allOK_cons ok_spec_l01Scale (allOK_cons ok_spec_l01Add allOK_nil))) Try.func57 rfl rfl (smL_cons (body := .loop (loopB 0 (codeOf Try.f57))) (by kernel_rfl) t_spec_l03Fly_L0 smL_nil) (e_spec_l03Fly real x0 x1 x2 x3 x4 x5 x6 x7 x8 hok)
  · cases hc
def Pure.spec_l01Inner (F : FOps) (x0 x1 x2 x3 x4 x5 : Int) : Int := F.bin .add .f32 (F.bin .add .f32 (F.bin .mul .f32 x0 x3) (F.bin .mul .f32 x1 x4)) (F.bin .mul .f32 x2 x5)
def c_spec_l01Inner (F : FOps) : Con
  | [V.agg [A.fl .f32 x0, A.fl .f32 x1, A.fl .f32 x2], V.agg [A.fl .f32 x3, A.fl .f32 x4, A.fl .f32 x5]], [] => some (true, ⟨V.at (A.fl .f32 (Pure.spec_l01Inner F x0 x1 x2 x3 x4 x5)), none, []⟩)
  | _, _ => none
theorem e_spec_l01Inner (F : FOps) (x0 x1 x2 x3 x4 x5 : Int) : evFn (cxS F tyl [] [] [] 0) Try.f76 false [V.agg [A.fl .f32 x0, A.fl .f32 x1, A.fl .f32 x2], V.agg [A.fl .f32 x3, A.fl .f32 x4, A.fl .f32 x5]] [] = some ⟨V.at (A.fl .f32 (Pure.spec_l01Inner F x0 x1 x2 x3 x4 x5)), none, []⟩ := by
  kernel_rfl
theorem ok_spec_l01Inner : CallOK Try.prog 76 (c_spec_l01Inner real) := by
  refine callOK_of fun args h ret hc => ?_
  unfold c_spec_l01Inner at hc
  split at hc
  · rename_i x0 x1 x2 x3 x4 x5
    obtain ⟨_, rfl⟩ := some_ret hc
    exact holds_ev prog_ok allOK_nil Try.func76 rfl rfl smL_nil rfl (e_spec_l01Inner real x0 x1 x2 x3 x4 x5)
  · cases hc
def Pure.spec_l01Narrow (F : FOps) (x0 : Int) : Int := F.conv .f64 .f32 x0
def Pure.spec_l01Narrow_ok (F : FOps) (x0 : Int) : Bool := F.convOk .f64 .f32 x0
def c_spec_l01Narrow (F : FOps) : Con
  | [V.at (A.fl .f64 x0)], [] => some (Pure.spec_l01Narrow_ok F x0, ⟨V.at (A.fl .f32 (Pure.spec_l01Narrow F x0)), none, []⟩)
  | _, _ => none
theorem e_spec_l01Narrow (F : FOps) (x0 : Int) : Pure.spec_l01Narrow_ok F x0 = true → evFn (cxS F tyl [] [] [] 0) Try.f102 false [V.at (A.fl .f64 x0)] [] = some ⟨V.at (A.fl .f32 (Pure.spec_l01Narrow F x0)), none, []⟩ := by
  have h0 : evFn (cxS F tyl [] [] [] 0) Try.f102 false [V.at (A.fl .f64 x0)] [] = bif F.convOk .f64 .f32 x0 then some ⟨V.at (A.fl .f32 (F.conv .f64 .f32 x0)), none, []⟩ else none := by kernel_rfl
  rw [h0]
  unfold Pure.spec_l01Narrow Pure.spec_l01Narrow_ok
  cases (F.convOk .f64 .f32 x0) with
  | true =>
    intro _; rfl
  | false =>
    intro h; exact absurd h Bool.false_ne_true
theorem ok_spec_l01Narrow : CallOK Try.prog 102 (c_spec_l01Narrow real) := by
  refine callOK_of fun args h ret hc => ?_
  unfold c_spec_l01Narrow at hc
  split at hc
  · rename_i x0
    obtain ⟨hok, rfl⟩ := some_ret hc
    exact holds_ev prog_ok allOK_nil Try.func102 rfl rfl smL_nil rfl (e_spec_l01Narrow real x0 hok)
  · cases hc
def Pure.spec_l01Sqrt (F : FOps) (x0 : Int) : Int := Pure.spec_l01Narrow F (F.sqrt (F.conv .f32 .f64 x0))
def Pure.spec_l01Sqrt_ok (F : FOps) (x0 : Int) : Bool := bif F.convOk .f32 .f64 x0 then Pure.spec_l01Narrow_ok F (F.sqrt (F.conv .f32 .f64 x0)) else false
def c_spec_l01Sqrt (F : FOps) : Con
  | [V.at (A.fl .f32 x0)], [] => some (Pure.spec_l01Sqrt_ok F x0, ⟨V.at (A.fl .f32 (Pure.spec_l01Sqrt F x0)), none, []⟩)
  | _, _ => none
theorem e_spec_l01Sqrt (F : FOps) (x0 : Int) : Pure.spec_l01Sqrt_ok F x0 = true → evFn (cxS F tyl [(95, c_math_Sqrt F), (102, c_spec_l01Narrow F)] [] [] 0) Try.f93 false [V.at (A.fl .f32 x0)] [] = some ⟨V.at (A.fl .f32 (Pure.spec_l01Sqrt F x0)), none, []⟩ := by
  have h0 : evFn (cxS F tyl [(95, c_math_Sqrt F), (102, c_spec_l01Narrow F)] [] [] 0) Try.f93 false [V.at (A.fl .f32 x0)] [] = bif F.convOk .f32 .f64 x0 then bif Pure.spec_l01Narrow_ok F (F.sqrt (F.conv .f32 .f64 x0)) then some ⟨V.at (A.fl .f32 (Pure.spec_l01Narrow F (F.sqrt (F.conv .f32 .f64 x0)))), none, []⟩ else none else none := by kernel_rfl
  rw [h0]
  unfold Pure.spec_l01Sqrt Pure.spec_l01Sqrt_ok
  cases (F.convOk .f32 .f64 x0) with
  | true =>
    cases (Pure.spec_l01Narrow_ok F (F.sqrt (F.conv .f32 .f64 x0))) with
    | true =>
      intro _; rfl
    | false =>
      intro h; exact absurd h Bool.false_ne_true
  | false =>
    intro h; exact absurd h Bool.false_ne_true
theorem ok_spec_l01Sqrt : CallOK Try.prog 93 (c_spec_l01Sqrt real) := by
  refine callOK_of fun args h ret hc => ?_
  unfold c_spec_l01Sqrt at hc
  split at hc
  · rename_i x0
    obtain ⟨hok, rfl⟩ := some_ret hc
    exact holds_ev prog_ok (allOK_cons ok_math_Sqrt (allOK_cons ok_spec_l01Narrow allOK_nil)) Try.func93 rfl rfl smL_nil rfl (e_spec_l01Sqrt real x0 hok)
  · cases hc
def Pure.spec_l01Long (F : FOps) (x0 x1 x2 : Int) : Int := Pure.spec_l01Sqrt F (Pure.spec_l01Inner F x0 x1 x2 x0 x1 x2)
def Pure.spec_l01Long_ok (F : FOps) (x0 x1 x2 : Int) : Bool := Pure.spec_l01Sqrt_ok F (Pure.spec_l01Inner F x0 x1 x2 x0 x1 x2)
def c_spec_l01Long (F : FOps) : Con
  | [V.agg [A.fl .f32 x0, A.fl .f32 x1, A.fl .f32 x2]], [] => some (Pure.spec_l01Long_ok F x0 x1 x2, ⟨V.at (A.fl .f32 (Pure.spec_l01Long F x0 x1 x2)), none, []⟩)
  | _, _ => none
theorem e_spec_l01Long (F : FOps) (x0 x1 x2 : Int) : Pure.spec_l01Long_ok F x0 x1 x2 = true → evFn (cxS F tyl [(76, c_spec_l01Inner F), (93, c_spec_l01Sqrt F)] [] [] 0) Try.f70 false [V.agg [A.fl .f32 x0, A.fl .f32 x1, A.fl .f32 x2]] [] = some ⟨V.at (A.fl .f32 (Pure.spec_l01Long F x0 x1 x2)), none, []⟩ := by
  have h0 : evFn (cxS F tyl [(76, c_spec_l01Inner F), (93, c_spec_l01Sqrt F)] [] [] 0) Try.f70 false [V.agg [A.fl .f32 x0, A.fl .f32 x1, A.fl .f32 x2]] [] = bif Pure.spec_l01Sqrt_ok F (Pure.spec_l01Inner F x0 x1 x2 x0 x1 x2) then some ⟨V.at (A.fl .f32 (Pure.spec_l01Sqrt F (Pure.spec_l01Inner F x0 x1 x2 x0 x1 x2))), none, []⟩ else none := by kernel_rfl
  rw [h0]
  unfold Pure.spec_l01Long Pure.spec_l01Long_ok
  cases (Pure.spec_l01Sqrt_ok F (Pure.spec_l01Inner F x0 x1 x2 x0 x1 x2)) with
  | true =>
    intro _; rfl
  | false =>
    intro h; exact absurd h Bool.false_ne_true
theorem ok_spec_l01Long : CallOK Try.prog 70 (c_spec_l01Long real) := by
  refine callOK_of fun args h ret hc => ?_
  unfold c_spec_l01Long at hc
  split at hc
  · rename_i x0 x1 x2
    obtain ⟨hok, rfl⟩ := some_ret hc
    exact holds_ev prog_ok (allOK_cons ok_spec_l01Inner (allOK_cons ok_spec_l01Sqrt allOK_nil)) Try.func70 rfl rfl smL_nil rfl (e_spec_l01Long real x0 x1 x2 hok)
  · cases hc
def Pure.spec_l03Share (F : FOps) (x0 x1 x2 x3 : List (List Int)) (x4 : Int) : Int := bif F.cmp .eql .f32 ((x2.getD x4.toNat []).getD 0 0) 0 then 0 else F.bin .quo .f32 1065353216 ((x2.getD x4.toNat []).getD 0 0)
def Pure.spec_l03Share_ok (F : FOps) (x0 x1 x2 x3 : List (List Int)) (x4 : Int) : Bool := bif decide (0 ≤ x4) then decide (x4 < (Int.ofNat x2.length)) else false
def c_spec_l03Share (F : FOps) : Con
  | [V.at (A.ptr 0 0 0), V.at (A.int .i64 x4)], [⟨false, .box [A.sl 1, A.sl 2, A.sl 3, A.sl 4]⟩, ⟨false, .rows [K.f .f32, K.f .f32, K.f .f32] x0⟩, ⟨false, .rows [K.f .f32, K.f .f32, K.f .f32] x1⟩, ⟨false, .rows [K.f .f32] x2⟩, ⟨false, .rows [K.i .i64, K.i .i64, K.f .f32] x3⟩] => some (Pure.spec_l03Share_ok F x0 x1 x2 x3 x4, ⟨V.at (A.fl .f32 (Pure.spec_l03Share F x0 x1 x2 x3 x4)), none, []⟩)
  | _, _ => none
theorem e_spec_l03Share (F : FOps) (x0 x1 x2 x3 : List (List Int)) (x4 : Int) : Pure.spec_l03Share_ok F x0 x1 x2 x3 x4 = true → evFn (cxS F tyl [] [] [] 0) Try.f96 false [V.at (A.ptr 0 0 0), V.at (A.int .i64 x4)] [⟨false, .box [A.sl 1, A.sl 2, A.sl 3, A.sl 4]⟩, ⟨false, .rows [K.f .f32, K.f .f32, K.f .f32] x0⟩, ⟨false, .rows [K.f .f32, K.f .f32, K.f .f32] x1⟩, ⟨false, .rows [K.f .f32] x2⟩, ⟨false, .rows [K.i .i64, K.i .i64, K.f .f32] x3⟩] = some ⟨V.at (A.fl .f32 (Pure.spec_l03Share F x0 x1 x2 x3 x4)), none, []⟩ := by
  have h0 : evFn (cxS F tyl [] [] [] 0) Try.f96 false [V.at (A.ptr 0 0 0), V.at (A.int .i64 x4)] [⟨false, .box [A.sl 1, A.sl 2, A.sl 3, A.sl 4]⟩, ⟨false, .rows [K.f .f32, K.f .f32, K.f .f32] x0⟩, ⟨false, .rows [K.f .f32, K.f .f32, K.f .f32] x1⟩, ⟨false, .rows [K.f .f32] x2⟩, ⟨false, .rows [K.i .i64, K.i .i64, K.f .f32] x3⟩] = bif decide (0 ≤ x4) then bif decide (x4 < (Int.ofNat x2.length)) then bif F.cmp .eql .f32 ((x2.getD x4.toNat []).getD 0 0) 0 then some ⟨V.at (A.fl .f32 0), none, []⟩ else bif decide (0 ≤ x4) then bif decide (x4 < (Int.ofNat x2.length)) then some ⟨V.at (A.fl .f32 (F.bin .quo .f32 1065353216 ((x2.getD x4.toNat []).getD 0 0))), none, []⟩ else none else none else none else none := by kernel_rfl
  rw [h0]
  unfold Pure.spec_l03Share Pure.spec_l03Share_ok
  cases (decide (0 ≤ x4)) with
  | true =>
    cases (decide (x4 < (Int.ofNat x2.length))) with
    | true =>
      cases (F.cmp .eql .f32 ((x2.getD x4.toNat []).getD 0 0) 0) with
      | true =>
        intro _; rfl
      | false =>
        intro _; rfl
    | false =>
      intro h; exact absurd h Bool.false_ne_true
  | false =>
    intro h; exact absurd h Bool.false_ne_true
theorem ok_spec_l03Share : CallOK Try.prog 96 (c_spec_l03Share real) := by
  refine callOK_of fun args h ret hc => ?_
  unfold c_spec_l03Share at hc
  split at hc
  · rename_i x4 x0 x1 x2 x3
    obtain ⟨hok, rfl⟩ := some_ret hc
    exact holds_ev prog_ok allOK_nil Try.func96 rfl rfl smL_nil rfl (e_spec_l03Share real x0 x1 x2 x3 x4 hok)
  · cases hc
def Pure.s14_f79 (F : FOps) (x0 x3 : List (List Int)) (x4 : Int) : Int := Pure.spec_l01Less F (List.getD (List.getD x0 (Int.toNat ((x3.getD x4.toNat []).getD 1 0)) []) 0 0) (List.getD (List.getD x0 (Int.toNat ((x3.getD x4.toNat []).getD 1 0)) []) 1 0) (List.getD (List.getD x0 (Int.toNat ((x3.getD x4.toNat []).getD 1 0)) []) 2 0) (List.getD (List.getD x0 (Int.toNat ((x3.getD x4.toNat []).getD 0 0)) []) 0 0) (List.getD (List.getD x0 (Int.toNat ((x3.getD x4.toNat []).getD 0 0)) []) 1 0) (List.getD (List.getD x0 (Int.toNat ((x3.getD x4.toNat []).getD 0 0)) []) 2 0)
def Pure.s15_f79 (F : FOps) (x0 x3 : List (List Int)) (x4 : Int) : Int := Pure.spec_l01Less_1 F (List.getD (List.getD x0 (Int.toNat ((x3.getD x4.toNat []).getD 1 0)) []) 0 0) (List.getD (List.getD x0 (Int.toNat ((x3.getD x4.toNat []).getD 1 0)) []) 1 0) (List.getD (List.getD x0 (Int.toNat ((x3.getD x4.toNat []).getD 1 0)) []) 2 0) (List.getD (List.getD x0 (Int.toNat ((x3.getD x4.toNat []).getD 0 0)) []) 0 0) (List.getD (List.getD x0 (Int.toNat ((x3.getD x4.toNat []).getD 0 0)) []) 1 0) (List.getD (List.getD x0 (Int.toNat ((x3.getD x4.toNat []).getD 0 0)) []) 2 0)
def Pure.s16_f79 (F : FOps) (x0 x3 : List (List Int)) (x4 : Int) : Int := Pure.spec_l01Less_2 F (List.getD (List.getD x0 (Int.toNat ((x3.getD x4.toNat []).getD 1 0)) []) 0 0) (List.getD (List.getD x0 (Int.toNat ((x3.getD x4.toNat []).getD 1 0)) []) 1 0) (List.getD (List.getD x0 (Int.toNat ((x3.getD x4.toNat []).getD 1 0)) []) 2 0) (List.getD (List.getD x0 (Int.toNat ((x3.getD x4.toNat []).getD 0 0)) []) 0 0) (List.getD (List.getD x0 (Int.toNat ((x3.getD x4.toNat []).getD 0 0)) []) 1 0) (List.getD (List.getD x0 (Int.toNat ((x3.getD x4.toNat []).getD 0 0)) []) 2 0)
def Pure.s17_f79 (F : FOps) (x0 x3 : List (List Int)) (x4 : Int) : Int := Pure.spec_l01Long F (Pure.s14_f79 F x0 x3 x4) (Pure.s15_f79 F x0 x3 x4) (Pure.s16_f79 F x0 x3 x4)
def Pure.s18_f79 (F : FOps) (x0 x1 x2 x3 : List (List Int)) (x4 : Int) : Int := F.bin .add .f32 (Pure.spec_l03Share F x0 x1 x2 x3 ((x3.getD x4.toNat []).getD 0 0)) (Pure.spec_l03Share F x0 x1 x2 x3 ((x3.getD x4.toNat []).getD 1 0))
def Pure.s19_f79 (F : FOps) (x0 x1 x2 x3 : List (List Int)) (x4 : Int) : Int := F.bin .quo .f32 (F.bin .sub .f32 (Pure.s17_f79 F x0 x3 x4) ((x3.getD x4.toNat []).getD 2 0)) (F.bin .mul .f32 (Pure.s17_f79 F x0 x3 x4) (Pure.s18_f79 F x0 x1 x2 x3 x4))
def Pure.s20_f79 (F : FOps) (x0 x1 x2 x3 : List (List Int)) (x4 : Int) : Int := F.bin .mul .f32 (Pure.s19_f79 F x0 x1 x2 x3 x4) (Pure.spec_l03Share F x0 x1 x2 x3 ((x3.getD x4.toNat []).getD 0 0))
def Pure.s21_f79 (F : FOps) (x0 x1 x2 x3 : List (List Int)) (x4 : Int) : Int := Pure.spec_l01Scale F (Pure.s14_f79 F x0 x3 x4) (Pure.s15_f79 F x0 x3 x4) (Pure.s16_f79 F x0 x3 x4) (Pure.s20_f79 F x0 x1 x2 x3 x4)
def Pure.s22_f79 (F : FOps) (x0 x1 x2 x3 : List (List Int)) (x4 : Int) : Int := Pure.spec_l01Scale_1 F (Pure.s14_f79 F x0 x3 x4) (Pure.s15_f79 F x0 x3 x4) (Pure.s16_f79 F x0 x3 x4) (Pure.s20_f79 F x0 x1 x2 x3 x4)
def Pure.s23_f79 (F : FOps) (x0 x1 x2 x3 : List (List Int)) (x4 : Int) : Int := Pure.spec_l01Scale_2 F (Pure.s14_f79 F x0 x3 x4) (Pure.s15_f79 F x0 x3 x4) (Pure.s16_f79 F x0 x3 x4) (Pure.s20_f79 F x0 x1 x2 x3 x4)
def Pure.s24_f79 (F : FOps) (x0 x1 x2 x3 : List (List Int)) (x4 : Int) : Int := F.bin .mul .f32 (Pure.s19_f79 F x0 x1 x2 x3 x4) (Pure.spec_l03Share F x0 x1 x2 x3 ((x3.getD x4.toNat []).getD 1 0))
def Pure.s25_f79 (F : FOps) (x0 x1 x2 x3 : List (List Int)) (x4 : Int) : Int := Pure.spec_l01Scale F (Pure.s14_f79 F x0 x3 x4) (Pure.s15_f79 F x0 x3 x4) (Pure.s16_f79 F x0 x3 x4) (Pure.s24_f79 F x0 x1 x2 x3 x4)
def Pure.s26_f79 (F : FOps) (x0 x1 x2 x3 : List (List Int)) (x4 : Int) : Int := Pure.spec_l01Scale_1 F (Pure.s14_f79 F x0 x3 x4) (Pure.s15_f79 F x0 x3 x4) (Pure.s16_f79 F x0 x3 x4) (Pure.s24_f79 F x0 x1 x2 x3 x4)
def Pure.s27_f79 (F : FOps) (x0 x1 x2 x3 : List (List Int)) (x4 : Int) : Int := Pure.spec_l01Scale_2 F (Pure.s14_f79 F x0 x3 x4) (Pure.s15_f79 F x0 x3 x4) (Pure.s16_f79 F x0 x3 x4) (Pure.s24_f79 F x0 x1 x2 x3 x4)
def Pure.spec_l03Straighten (F : FOps) (x0 x1 x2 x3 : List (List Int)) (x4 : Int) : List (List Int) := bif F.cmp .gtr .f32 (Pure.s17_f79 F x0 x3 x4) 0 then bif F.cmp .gtr .f32 (Pure.s18_f79 F x0 x1 x2 x3 x4) 0 then List.set (List.set x0 (Int.toNat ((x3.getD x4.toNat []).getD 0 0)) [Pure.spec_l01Add F (List.getD (List.getD x0 (Int.toNat ((x3.getD x4.toNat []).getD 0 0)) []) 0 0) (List.getD (List.getD x0 (Int.toNat ((x3.getD x4.toNat []).getD 0 0)) []) 1 0) (List.getD (List.getD x0 (Int.toNat ((x3.getD x4.toNat []).getD 0 0)) []) 2 0) (Pure.s21_f79 F x0 x1 x2 x3 x4) (Pure.s22_f79 F x0 x1 x2 x3 x4) (Pure.s23_f79 F x0 x1 x2 x3 x4), Pure.spec_l01Add_1 F (List.getD (List.getD x0 (Int.toNat ((x3.getD x4.toNat []).getD 0 0)) []) 0 0) (List.getD (List.getD x0 (Int.toNat ((x3.getD x4.toNat []).getD 0 0)) []) 1 0) (List.getD (List.getD x0 (Int.toNat ((x3.getD x4.toNat []).getD 0 0)) []) 2 0) (Pure.s21_f79 F x0 x1 x2 x3 x4) (Pure.s22_f79 F x0 x1 x2 x3 x4) (Pure.s23_f79 F x0 x1 x2 x3 x4), Pure.spec_l01Add_2 F (List.getD (List.getD x0 (Int.toNat ((x3.getD x4.toNat []).getD 0 0)) []) 0 0) (List.getD (List.getD x0 (Int.toNat ((x3.getD x4.toNat []).getD 0 0)) []) 1 0) (List.getD (List.getD x0 (Int.toNat ((x3.getD x4.toNat []).getD 0 0)) []) 2 0) (Pure.s21_f79 F x0 x1 x2 x3 x4) (Pure.s22_f79 F x0 x1 x2 x3 x4) (Pure.s23_f79 F x0 x1 x2 x3 x4)]) (Int.toNat ((x3.getD x4.toNat []).getD 1 0)) [Pure.spec_l01Less F (List.getD (List.getD (List.set x0 (Int.toNat ((x3.getD x4.toNat []).getD 0 0)) [Pure.spec_l01Add F (List.getD (List.getD x0 (Int.toNat ((x3.getD x4.toNat []).getD 0 0)) []) 0 0) (List.getD (List.getD x0 (Int.toNat ((x3.getD x4.toNat []).getD 0 0)) []) 1 0) (List.getD (List.getD x0 (Int.toNat ((x3.getD x4.toNat []).getD 0 0)) []) 2 0) (Pure.s21_f79 F x0 x1 x2 x3 x4) (Pure.s22_f79 F x0 x1 x2 x3 x4) (Pure.s23_f79 F x0 x1 x2 x3 x4), Pure.spec_l01Add_1 F (List.getD (List.getD x0 (Int.toNat ((x3.getD x4.toNat []).getD 0 0)) []) 0 0) (List.getD (List.getD x0 (Int.toNat ((x3.getD x4.toNat []).getD 0 0)) []) 1 0) (List.getD (List.getD x0 (Int.toNat ((x3.getD x4.toNat []).getD 0 0)) []) 2 0) (Pure.s21_f79 F x0 x1 x2 x3 x4) (Pure.s22_f79 F x0 x1 x2 x3 x4) (Pure.s23_f79 F x0 x1 x2 x3 x4), Pure.spec_l01Add_2 F (List.getD (List.getD x0 (Int.toNat ((x3.getD x4.toNat []).getD 0 0)) []) 0 0) (List.getD (List.getD x0 (Int.toNat ((x3.getD x4.toNat []).getD 0 0)) []) 1 0) (List.getD (List.getD x0 (Int.toNat ((x3.getD x4.toNat []).getD 0 0)) []) 2 0) (Pure.s21_f79 F x0 x1 x2 x3 x4) (Pure.s22_f79 F x0 x1 x2 x3 x4) (Pure.s23_f79 F x0 x1 x2 x3 x4)]) (Int.toNat ((x3.getD x4.toNat []).getD 1 0)) []) 0 0) (List.getD (List.getD (List.set x0 (Int.toNat ((x3.getD x4.toNat []).getD 0 0)) [Pure.spec_l01Add F (List.getD (List.getD x0 (Int.toNat ((x3.getD x4.toNat []).getD 0 0)) []) 0 0) (List.getD (List.getD x0 (Int.toNat ((x3.getD x4.toNat []).getD 0 0)) []) 1 0) (List.getD (List.getD x0 (Int.toNat ((x3.getD x4.toNat []).getD 0 0)) []) 2 0) (Pure.s21_f79 F x0 x1 x2 x3 x4) (Pure.s22_f79 F x0 x1 x2 x3 x4) (Pure.s23_f79 F x0 x1 x2 x3 x4), Pure.spec_l01Add_1 F (List.getD (List.getD x0 (Int.toNat ((x3.getD x4.toNat []).getD 0 0)) []) 0 0) (List.getD (List.getD x0 (Int.toNat ((x3.getD x4.toNat []).getD 0 0)) []) 1 0) (List.getD (List.getD x0 (Int.toNat ((x3.getD x4.toNat []).getD 0 0)) []) 2 0) (Pure.s21_f79 F x0 x1 x2 x3 x4) (Pure.s22_f79 F x0 x1 x2 x3 x4) (Pure.s23_f79 F x0 x1 x2 x3 x4), Pure.spec_l01Add_2 F (List.getD (List.getD x0 (Int.toNat ((x3.getD x4.toNat []).getD 0 0)) []) 0 0) (List.getD (List.getD x0 (Int.toNat ((x3.getD x4.toNat []).getD 0 0)) []) 1 0) (List.getD (List.getD x0 (Int.toNat ((x3.getD x4.toNat []).getD 0 0)) []) 2 0) (Pure.s21_f79 F x0 x1 x2 x3 x4) (Pure.s22_f79 F x0 x1 x2 x3 x4) (Pure.s23_f79 F x0 x1 x2 x3 x4)]) (Int.toNat ((x3.getD x4.toNat []).getD 1 0)) []) 1 0) (List.getD (List.getD (List.set x0 (Int.toNat ((x3.getD x4.toNat []).getD 0 0)) [Pure.spec_l01Add F (List.getD (List.getD x0 (Int.toNat ((x3.getD x4.toNat []).getD 0 0)) []) 0 0) (List.getD (List.getD x0 (Int.toNat ((x3.getD x4.toNat []).getD 0 0)) []) 1 0) (List.getD (List.getD x0 (Int.toNat ((x3.getD x4.toNat []).getD 0 0)) []) 2 0) (Pure.s21_f79 F x0 x1 x2 x3 x4) (Pure.s22_f79 F x0 x1 x2 x3 x4) (Pure.s23_f79 F x0 x1 x2 x3 x4), Pure.spec_l01Add_1 F (List.getD (List.getD x0 (Int.toNat ((x3.getD x4.toNat []).getD 0 0)) []) 0 0) (List.getD (List.getD x0 (Int.toNat ((x3.getD x4.toNat []).getD 0 0)) []) 1 0) (List.getD (List.getD x0 (Int.toNat ((x3.getD x4.toNat []).getD 0 0)) []) 2 0) (Pure.s21_f79 F x0 x1 x2 x3 x4) (Pure.s22_f79 F x0 x1 x2 x3 x4) (Pure.s23_f79 F x0 x1 x2 x3 x4), Pure.spec_l01Add_2 F (List.getD (List.getD x0 (Int.toNat ((x3.getD x4.toNat []).getD 0 0)) []) 0 0) (List.getD (List.getD x0 (Int.toNat ((x3.getD x4.toNat []).getD 0 0)) []) 1 0) (List.getD (List.getD x0 (Int.toNat ((x3.getD x4.toNat []).getD 0 0)) []) 2 0) (Pure.s21_f79 F x0 x1 x2 x3 x4) (Pure.s22_f79 F x0 x1 x2 x3 x4) (Pure.s23_f79 F x0 x1 x2 x3 x4)]) (Int.toNat ((x3.getD x4.toNat []).getD 1 0)) []) 2 0) (Pure.s25_f79 F x0 x1 x2 x3 x4) (Pure.s26_f79 F x0 x1 x2 x3 x4) (Pure.s27_f79 F x0 x1 x2 x3 x4), Pure.spec_l01Less_1 F (List.getD (List.getD (List.set x0 (Int.toNat ((x3.getD x4.toNat []).getD 0 0)) [Pure.spec_l01Add F (List.getD (List.getD x0 (Int.toNat ((x3.getD x4.toNat []).getD 0 0)) []) 0 0) (List.getD (List.getD x0 (Int.toNat ((x3.getD x4.toNat []).getD 0 0)) []) 1 0) (List.getD (List.getD x0 (Int.toNat ((x3.getD x4.toNat []).getD 0 0)) []) 2 0) (Pure.s21_f79 F x0 x1 x2 x3 x4) (Pure.s22_f79 F x0 x1 x2 x3 x4) (Pure.s23_f79 F x0 x1 x2 x3 x4), Pure.spec_l01Add_1 F (List.getD (List.getD x0 (Int.toNat ((x3.getD x4.toNat []).getD 0 0)) []) 0 0) (List.getD (List.getD x0 (Int.toNat ((x3.getD x4.toNat []).getD 0 0)) []) 1 0) (List.getD (List.getD x0 (Int.toNat ((x3.getD x4.toNat []).getD 0 0)) []) 2 0) (Pure.s21_f79 F x0 x1 x2 x3 x4) (Pure.s22_f79 F x0 x1 x2 x3 x4) (Pure.s23_f79 F x0 x1 x2 x3 x4), Pure.spec_l01Add_2 F (List.getD (List.getD x0 (Int.toNat ((x3.getD x4.toNat []).getD 0 0)) []) 0 0) (List.getD (List.getD x0 (Int.toNat ((x3.getD x4.toNat []).getD 0 0)) []) 1 0) (List.getD (List.getD x0 (Int.toNat ((x3.getD x4.toNat []).getD 0 0)) []) 2 0) (Pure.s21_f79 F x0 x1 x2 x3 x4) (Pure.s22_f79 F x0 x1 x2 x3 x4) (Pure.s23_f79 F x0 x1 x2 x3 x4)]) (Int.toNat ((x3.getD x4.toNat []).getD 1 0)) []) 0 0) (List.getD (List.getD (List.set x0 (Int.toNat ((x3.getD x4.toNat []).getD 0 0)) [Pure.spec_l01Add F (List.getD (List.getD x0 (Int.toNat ((x3.getD x4.toNat []).getD 0 0)) []) 0 0) (List.getD (List.getD x0 (Int.toNat ((x3.getD x4.toNat []).getD 0 0)) []) 1 0) (List.getD (List.getD x0 (Int.toNat ((x3.getD x4.toNat []).getD 0 0)) []) 2 0) (Pure.s21_f79 F x0 x1 x2 x3 x4) (Pure.s22_f79 F x0 x1 x2 x3 x4) (Pure.s23_f79 F x0 x1 x2 x3 x4), Pure.spec_l01Add_1 F (List.getD (List.getD x0 (Int.toNat ((x3.getD x4.toNat []).getD 0 0)) []) 0 0) (List.getD (List.getD x0 (Int.toNat ((x3.getD x4.toNat []).getD 0 0)) []) 1 0) (List.getD (List.getD x0 (Int.toNat ((x3.getD x4.toNat []).getD 0 0)) []) 2 0) (Pure.s21_f79 F x0 x1 x2 x3 x4) (Pure.s22_f79 F x0 x1 x2 x3 x4) (Pure.s23_f79 F x0 x1 x2 x3 x4), Pure.spec_l01Add_2 F (List.getD (List.getD x0 (Int.toNat ((x3.getD x4.toNat []).getD 0 0)) []) 0 0) (List.getD (List.getD x0 (Int.toNat ((x3.getD x4.toNat []).getD 0 0)) []) 1 0) (List.getD (List.getD x0 (Int.toNat ((x3.getD x4.toNat []).getD 0 0)) []) 2 0) (Pure.s21_f79 F x0 x1 x2 x3 x4) (Pure.s22_f79 F x0 x1 x2 x3 x4) (Pure.s23_f79 F x0 x1 x2 x3 x4)]) (Int.toNat ((x3.getD x4.toNat []).getD 1 0)) []) 1 0) (List.getD (List.getD (List.set x0 (Int.toNat ((x3.getD x4.toNat []).getD 0 0)) [Pure.spec_l01Add F (List.getD (List.getD x0 (Int.toNat ((x3.getD x4.toNat []).getD 0 0)) []) 0 0) (List.getD (List.getD x0 (Int.toNat ((x3.getD x4.toNat []).getD 0 0)) []) 1 0) (List.getD (List.getD x0 (Int.toNat ((x3.getD x4.toNat []).getD 0 0)) []) 2 0) (Pure.s21_f79 F x0 x1 x2 x3 x4) (Pure.s22_f79 F x0 x1 x2 x3 x4) (Pure.s23_f79 F x0 x1 x2 x3 x4), Pure.spec_l01Add_1 F (List.getD (List.getD x0 (Int.toNat ((x3.getD x4.toNat []).getD 0 0)) []) 0 0) (List.getD (List.getD x0 (Int.toNat ((x3.getD x4.toNat []).getD 0 0)) []) 1 0) (List.getD (List.getD x0 (Int.toNat ((x3.getD x4.toNat []).getD 0 0)) []) 2 0) (Pure.s21_f79 F x0 x1 x2 x3 x4) (Pure.s22_f79 F x0 x1 x2 x3 x4) (Pure.s23_f79 F x0 x1 x2 x3 x4), Pure.spec_l01Add_2 F (List.getD (List.getD x0 (Int.toNat ((x3.getD x4.toNat []).getD 0 0)) []) 0 0) (List.getD (List.getD x0 (Int.toNat ((x3.getD x4.toNat []).getD 0 0)) []) 1 0) (List.getD (List.getD x0 (Int.toNat ((x3.getD x4.toNat []).getD 0 0)) []) 2 0) (Pure.s21_f79 F x0 x1 x2 x3 x4) (Pure.s22_f79 F x0 x1 x2 x3 x4) (Pure.s23_f79 F x0 x1 x2 x3 x4)]) (Int.toNat ((x3.getD x4.toNat []).getD 1 0)) []) 2 0) (Pure.s25_f79 F x0 x1 x2 x3 x4) (Pure.s26_f79 F x0 x1 x2 x3 x4) (Pure.s27_f79 F x0 x1 x2 x3 x4), Pure.spec_l01Less_2 F (List.getD (List.getD (List.set x0 (Int.toNat ((x3.getD x4.toNat []).getD 0 0)) [Pure.spec_l01Add F (List.getD (List.getD x0 (Int.toNat ((x3.getD x4.toNat []).getD 0 0)) []) 0 0) (List.getD (List.getD x0 (Int.toNat ((x3.getD x4.toNat []).getD 0 0)) []) 1 0) (List.getD (List.getD x0 (Int.toNat ((x3.getD x4.toNat []).getD 0 0)) []) 2 0) (Pure.s21_f79 F x0 x1 x2 x3 x4) (Pure.s22_f79 F x0 x1 x2 x3 x4) (Pure.s23_f79 F x0 x1 x2 x3 x4), Pure.spec_l01Add_1 F (List.getD (List.getD x0 (Int.toNat ((x3.getD x4.toNat []).getD 0 0)) []) 0 0) (List.getD (List.getD x0 (Int.toNat ((x3.getD x4.toNat []).getD 0 0)) []) 1 0) (List.getD (List.getD x0 (Int.toNat ((x3.getD x4.toNat []).getD 0 0)) []) 2 0) (Pure.s21_f79 F x0 x1 x2 x3 x4) (Pure.s22_f79 F x0 x1 x2 x3 x4) (Pure.s23_f79 F x0 x1 x2 x3 x4), Pure.spec_l01Add_2 F (List.getD (List.getD x0 (Int.toNat ((x3.getD x4.toNat []).getD 0 0)) []) 0 0) (List.getD (List.getD x0 (Int.toNat ((x3.getD x4.toNat []).getD 0 0)) []) 1 0) (List.getD (List.getD x0 (Int.toNat ((x3.getD x4.toNat []).getD 0 0)) []) 2 0) (Pure.s21_f79 F x0 x1 x2 x3 x4) (Pure.s22_f79 F x0 x1 x2 x3 x4) (Pure.s23_f79 F x0 x1 x2 x3 x4)]) (Int.toNat ((x3.getD x4.toNat []).getD 1 0)) []) 0 0) (List.getD (List.getD (List.set x0 (Int.toNat ((x3.getD x4.toNat []).getD 0 0)) [Pure.spec_l01Add F (List.getD (List.getD x0 (Int.toNat ((x3.getD x4.toNat []).getD 0 0)) []) 0 0) (List.getD (List.getD x0 (Int.toNat ((x3.getD x4.toNat []).getD 0 0)) []) 1 0) (List.getD (List.getD x0 (Int.toNat ((x3.getD x4.toNat []).getD 0 0)) []) 2 0) (Pure.s21_f79 F x0 x1 x2 x3 x4) (Pure.s22_f79 F x0 x1 x2 x3 x4) (Pure.s23_f79 F x0 x1 x2 x3 x4), Pure.spec_l01Add_1 F (List.getD (List.getD x0 (Int.toNat ((x3.getD x4.toNat []).getD 0 0)) []) 0 0) (List.getD (List.getD x0 (Int.toNat ((x3.getD x4.toNat []).getD 0 0)) []) 1 0) (List.getD (List.getD x0 (Int.toNat ((x3.getD x4.toNat []).getD 0 0)) []) 2 0) (Pure.s21_f79 F x0 x1 x2 x3 x4) (Pure.s22_f79 F x0 x1 x2 x3 x4) (Pure.s23_f79 F x0 x1 x2 x3 x4), Pure.spec_l01Add_2 F (List.getD (List.getD x0 (Int.toNat ((x3.getD x4.toNat []).getD 0 0)) []) 0 0) (List.getD (List.getD x0 (Int.toNat ((x3.getD x4.toNat []).getD 0 0)) []) 1 0) (List.getD (List.getD x0 (Int.toNat ((x3.getD x4.toNat []).getD 0 0)) []) 2 0) (Pure.s21_f79 F x0 x1 x2 x3 x4) (Pure.s22_f79 F x0 x1 x2 x3 x4) (Pure.s23_f79 F x0 x1 x2 x3 x4)]) (Int.toNat ((x3.getD x4.toNat []).getD 1 0)) []) 1 0) (List.getD (List.getD (List.set x0 (Int.toNat ((x3.getD x4.toNat []).getD 0 0)) [Pure.spec_l01Add F (List.getD (List.getD x0 (Int.toNat ((x3.getD x4.toNat []).getD 0 0)) []) 0 0) (List.getD (List.getD x0 (Int.toNat ((x3.getD x4.toNat []).getD 0 0)) []) 1 0) (List.getD (List.getD x0 (Int.toNat ((x3.getD x4.toNat []).getD 0 0)) []) 2 0) (Pure.s21_f79 F x0 x1 x2 x3 x4) (Pure.s22_f79 F x0 x1 x2 x3 x4) (Pure.s23_f79 F x0 x1 x2 x3 x4), Pure.spec_l01Add_1 F (List.getD (List.getD x0 (Int.toNat ((x3.getD x4.toNat []).getD 0 0)) []) 0 0) (List.getD (List.getD x0 (Int.toNat ((x3.getD x4.toNat []).getD 0 0)) []) 1 0) (List.getD (List.getD x0 (Int.toNat ((x3.getD x4.toNat []).getD 0 0)) []) 2 0) (Pure.s21_f79 F x0 x1 x2 x3 x4) (Pure.s22_f79 F x0 x1 x2 x3 x4) (Pure.s23_f79 F x0 x1 x2 x3 x4), Pure.spec_l01Add_2 F (List.getD (List.getD x0 (Int.toNat ((x3.getD x4.toNat []).getD 0 0)) []) 0 0) (List.getD (List.getD x0 (Int.toNat ((x3.getD x4.toNat []).getD 0 0)) []) 1 0) (List.getD (List.getD x0 (Int.toNat ((x3.getD x4.toNat []).getD 0 0)) []) 2 0) (Pure.s21_f79 F x0 x1 x2 x3 x4) (Pure.s22_f79 F x0 x1 x2 x3 x4) (Pure.s23_f79 F x0 x1 x2 x3 x4)]) (Int.toNat ((x3.getD x4.toNat []).getD 1 0)) []) 2 0) (Pure.s25_f79 F x0 x1 x2 x3 x4) (Pure.s26_f79 F x0 x1 x2 x3 x4) (Pure.s27_f79 F x0 x1 x2 x3 x4)] else x0 else x0
def Pure.spec_l03Straighten_ok (F : FOps) (x0 x1 x2 x3 : List (List Int)) (x4 : Int) : Bool := bif decide (0 ≤ x4) then bif decide (x4 < (Int.ofNat x3.length)) then bif decide (0 ≤ ((x3.getD x4.toNat []).getD 1 0)) then bif decide (((x3.getD x4.toNat []).getD 1 0) < (Int.ofNat x0.length)) then bif decide (0 ≤ ((x3.getD x4.toNat []).getD 0 0)) then bif decide (((x3.getD x4.toNat []).getD 0 0) < (Int.ofNat x0.length)) then bif Pure.spec_l01Long_ok F (Pure.s14_f79 F x0 x3 x4) (Pure.s15_f79 F x0 x3 x4) (Pure.s16_f79 F x0 x3 x4) then bif Pure.spec_l03Share_ok F x0 x1 x2 x3 ((x3.getD x4.toNat []).getD 0 0) then bif Pure.spec_l03Share_ok F x0 x1 x2 x3 ((x3.getD x4.toNat []).getD 1 0) then bif F.cmp .gtr .f32 (Pure.s17_f79 F x0 x3 x4) 0 then bif F.cmp .gtr .f32 (Pure.s18_f79 F x0 x1 x2 x3 x4) 0 then decide (((x3.getD x4.toNat []).getD 1 0) < (Int.ofNat (List.length (List.set x0 (Int.toNat ((x3.getD x4.toNat []).getD 0 0)) [Pure.spec_l01Add F (List.getD (List.getD x0 (Int.toNat ((x3.getD x4.toNat []).getD 0 0)) []) 0 0) (List.getD (List.getD x0 (Int.toNat ((x3.getD x4.toNat []).getD 0 0)) []) 1 0) (List.getD (List.getD x0 (Int.toNat ((x3.getD x4.toNat []).getD 0 0)) []) 2 0) (Pure.s21_f79 F x0 x1 x2 x3 x4) (Pure.s22_f79 F x0 x1 x2 x3 x4) (Pure.s23_f79 F x0 x1 x2 x3 x4), Pure.spec_l01Add_1 F (List.getD (List.getD x0 (Int.toNat ((x3.getD x4.toNat []).getD 0 0)) []) 0 0) (List.getD (List.getD x0 (Int.toNat ((x3.getD x4.toNat []).getD 0 0)) []) 1 0) (List.getD (List.getD x0 (Int.toNat ((x3.getD x4.toNat []).getD 0 0)) []) 2 0) (Pure.s21_f79 F x0 x1 x2 x3 x4) (Pure.s22_f79 F x0 x1 x2 x3 x4) (Pure.s23_f79 F x0 x1 x2 x3 x4), Pure.spec_l01Add_2 F (List.getD (List.getD x0 (Int.toNat ((x3.getD x4.toNat []).getD 0 0)) []) 0 0) (List.getD (List.getD x0 (Int.toNat ((x3.getD x4.toNat []).getD 0 0)) []) 1 0) (List.getD (List.getD x0 (Int.toNat ((x3.getD x4.toNat []).getD 0 0)) []) 2 0) (Pure.s21_f79 F x0 x1 x2 x3 x4) (Pure.s22_f79 F x0 x1 x2 x3 x4) (Pure.s23_f79 F x0 x1 x2 x3 x4)])))) else true else true else false else false else false else false else false else false else false else false else false
def c_spec_l03Straighten (F : FOps) : Con
  | [V.at (A.ptr 0 0 0), V.at (A.int .i64 x4)], [⟨true, .box [A.sl 1, A.sl 2, A.sl 3, A.sl 4]⟩, ⟨true, .rows [K.f .f32, K.f .f32, K.f .f32] x0⟩, ⟨true, .rows [K.f .f32, K.f .f32, K.f .f32] x1⟩, ⟨true, .rows [K.f .f32] x2⟩, ⟨true, .rows [K.i .i64, K.i .i64, K.f .f32] x3⟩] => some (Pure.spec_l03Straighten_ok F x0 x1 x2 x3 x4, ⟨V.tup [], some [⟨true, .box [A.sl 1, A.sl 2, A.sl 3, A.sl 4]⟩, ⟨true, .rows [K.f .f32, K.f .f32, K.f .f32] (Pure.spec_l03Straighten F x0 x1 x2 x3 x4)⟩, ⟨true, .rows [K.f .f32, K.f .f32, K.f .f32] x1⟩, ⟨true, .rows [K.f .f32] x2⟩, ⟨true, .rows [K.i .i64, K.i .i64, K.f .f32] x3⟩], []⟩)
  | _, _ => none
theorem e_spec_l03Straighten (F : FOps) (x0 x1 x2 x3 : List (List Int)) (x4 : Int) : Pure.spec_l03Straighten_ok F x0 x1 x2 x3 x4 = true → evFn (cxS F tyl [(71, c_spec_l01Less F), (70, c_spec_l01Long F), (96, c_spec_l03Share F), (75, c_spec_l01Scale F), (78, c_spec_l01Add F)] [] [] 0) Try.f79 true [V.at (A.ptr 0 0 0), V.at (A.int .i64 x4)] [⟨true, .box [A.sl 1, A.sl 2, A.sl 3, A.sl 4]⟩, ⟨true, .rows [K.f .f32, K.f .f32, K.f .f32] x0⟩, ⟨true, .rows [K.f .f32, K.f .f32, K.f .f32] x1⟩, ⟨true, .rows [K.f .f32] x2⟩, ⟨true, .rows [K.i .i64, K.i .i64, K.f .f32] x3⟩] = some ⟨V.tup [], some [⟨true, .box [A.sl 1, A.sl 2, A.sl 3, A.sl 4]⟩, ⟨true, .rows [K.f .f32, K.f .f32, K.f .f32] (Pure.spec_l03Straighten F x0 x1 x2 x3 x4)⟩, ⟨true, .rows [K.f .f32, K.f .f32, K.f .f32] x1⟩, ⟨true, .rows [K.f .f32] x2⟩, ⟨true, .rows [K.i .i64, K.i .i64, K.f .f32] x3⟩], []⟩ := by
  have h0 : evFn (cxS F tyl [(71, c_spec_l01Less F), (70, c_spec_l01Long F), (96, c_spec_l03Share F), (75, c_spec_l01Scale F), (78, c_spec_l01Add F)] [] [] 0) Try.f79 true [V.at (A.ptr 0 0 0), V.at (A.int .i64 x4)] [⟨true, .box [A.sl 1, A.sl 2, A.sl 3, A.sl 4]⟩, ⟨true, .rows [K.f .f32, K.f .f32, K.f .f32] x0⟩, ⟨true, .rows [K.f .f32, K.f .f32, K.f .f32] x1⟩, ⟨true, .rows [K.f .f32] x2⟩, ⟨true, .rows [K.i .i64, K.i .i64, K.f .f32] x3⟩] = bif decide (0 ≤ x4) then bif decide (x4 < (Int.ofNat x3.length)) then bif decide (0 ≤ ((x3.getD x4.toNat []).getD 1 0)) then bif decide (((x3.getD x4.toNat []).getD 1 0) < (Int.ofNat x0.length)) then bif decide (0 ≤ ((x3.getD x4.toNat []).getD 0 0)) then bif decide (((x3.getD x4.toNat []).getD 0 0) < (Int.ofNat x0.length)) then bif Pure.spec_l01Long_ok F (Pure.s14_f79 F x0 x3 x4) (Pure.s15_f79 F x0 x3 x4) (Pure.s16_f79 F x0 x3 x4) then bif Pure.spec_l03Share_ok F x0 x1 x2 x3 ((x3.getD x4.toNat []).getD 0 0) then bif Pure.spec_l03Share_ok F x0 x1 x2 x3 ((x3.getD x4.toNat []).getD 1 0) then bif Bool.not (F.cmp .gtr .f32 (Pure.s17_f79 F x0 x3 x4) 0) then some ⟨V.tup [], some [⟨true, .box [A.sl 1, A.sl 2, A.sl 3, A.sl 4]⟩, ⟨true, .rows [K.f .f32, K.f .f32, K.f .f32] x0⟩, ⟨true, .rows [K.f .f32, K.f .f32, K.f .f32] x1⟩, ⟨true, .rows [K.f .f32] x2⟩, ⟨true, .rows [K.i .i64, K.i .i64, K.f .f32] x3⟩], []⟩ else bif Bool.not (F.cmp .gtr .f32 (Pure.s18_f79 F x0 x1 x2 x3 x4) 0) then some ⟨V.tup [], some [⟨true, .box [A.sl 1, A.sl 2, A.sl 3, A.sl 4]⟩, ⟨true, .rows [K.f .f32, K.f .f32, K.f .f32] x0⟩, ⟨true, .rows [K.f .f32, K.f .f32, K.f .f32] x1⟩, ⟨true, .rows [K.f .f32] x2⟩, ⟨true, .rows [K.i .i64, K.i .i64, K.f .f32] x3⟩], []⟩ else bif decide (0 ≤ ((x3.getD x4.toNat []).getD 0 0)) then bif decide (((x3.getD x4.toNat []).getD 0 0) < (Int.ofNat x0.length)) then bif decide (0 ≤ ((x3.getD x4.toNat []).getD 0 0)) then bif decide (((x3.getD x4.toNat []).getD 0 0) < (Int.ofNat x0.length)) then bif decide (0 ≤ ((x3.getD x4.toNat []).getD 1 0)) then bif decide (((x3.getD x4.toNat []).getD 1 0) < (Int.ofNat (List.length (List.set x0 (Int.toNat ((x3.getD x4.toNat []).getD 0 0)) [Pure.spec_l01Add F (List.getD (List.getD x0 (Int.toNat ((x3.getD x4.toNat []).getD 0 0)) []) 0 0) (List.getD (List.getD x0 (Int.toNat ((x3.getD x4.toNat []).getD 0 0)) []) 1 0) (List.getD (List.getD x0 (Int.toNat ((x3.getD x4.toNat []).getD 0 0)) []) 2 0) (Pure.s21_f79 F x0 x1 x2 x3 x4) (Pure.s22_f79 F x0 x1 x2 x3 x4) (Pure.s23_f79 F x0 x1 x2 x3 x4), Pure.spec_l01Add_1 F (List.getD (List.getD x0 (Int.toNat ((x3.getD x4.toNat []).getD 0 0)) []) 0 0) (List.getD (List.getD x0 (Int.toNat ((x3.getD x4.toNat []).getD 0 0)) []) 1 0) (List.getD (List.getD x0 (Int.toNat ((x3.getD x4.toNat []).getD 0 0)) []) 2 0) (Pure.s21_f79 F x0 x1 x2 x3 x4) (Pure.s22_f79 F x0 x1 x2 x3 x4) (Pure.s23_f79 F x0 x1 x2 x3 x4), Pure.spec_l01Add_2 F (List.getD (List.getD x0 (Int.toNat ((x3.getD x4.toNat []).getD 0 0)) []) 0 0) (List.getD (List.getD x0 (Int.toNat ((x3.getD x4.toNat []).getD 0 0)) []) 1 0) (List.getD (List.getD x0 (Int.toNat ((x3.getD x4.toNat []).getD 0 0)) []) 2 0) (Pure.s21_f79 F x0 x1 x2 x3 x4) (Pure.s22_f79 F x0 x1 x2 x3 x4) (Pure.s23_f79 F x0 x1 x2 x3 x4)])))) then bif decide (0 ≤ ((x3.getD x4.toNat []).getD 1 0)) then bif decide (((x3.getD x4.toNat []).getD 1 0) < (Int.ofNat (List.length (List.set x0 (Int.toNat ((x3.getD x4.toNat []).getD 0 0)) [Pure.spec_l01Add F (List.getD (List.getD x0 (Int.toNat ((x3.getD x4.toNat []).getD 0 0)) []) 0 0) (List.getD (List.getD x0 (Int.toNat ((x3.getD x4.toNat []).getD 0 0)) []) 1 0) (List.getD (List.getD x0 (Int.toNat ((x3.getD x4.toNat []).getD 0 0)) []) 2 0) (Pure.s21_f79 F x0 x1 x2 x3 x4) (Pure.s22_f79 F x0 x1 x2 x3 x4) (Pure.s23_f79 F x0 x1 x2 x3 x4), Pure.spec_l01Add_1 F (List.getD (List.getD x0 (Int.toNat ((x3.getD x4.toNat []).getD 0 0)) []) 0 0) (List.getD (List.getD x0 (Int.toNat ((x3.getD x4.toNat []).getD 0 0)) []) 1 0) (List.getD (List.getD x0 (Int.toNat ((x3.getD x4.toNat []).getD 0 0)) []) 2 0) (Pure.s21_f79 F x0 x1 x2 x3 x4) (Pure.s22_f79 F x0 x1 x2 x3 x4) (Pure.s23_f79 F x0 x1 x2 x3 x4), Pure.spec_l01Add_2 F (List.getD (List.getD x0 (Int.toNat ((x3.getD x4.toNat []).getD 0 0)) []) 0 0) (List.getD (List.getD x0 (Int.toNat ((x3.getD x4.toNat []).getD 0 0)) []) 1 0) (List.getD (List.getD x0 (Int.toNat ((x3.getD x4.toNat []).getD 0 0)) []) 2 0) (Pure.s21_f79 F x0 x1 x2 x3 x4) (Pure.s22_f79 F x0 x1 x2 x3 x4) (Pure.s23_f79 F x0 x1 x2 x3 x4)])))) then some ⟨V.tup [], some [⟨true, .box [A.sl 1, A.sl 2, A.sl 3, A.sl 4]⟩, ⟨true, .rows [K.f .f32, K.f .f32, K.f .f32] (List.set (List.set x0 (Int.toNat ((x3.getD x4.toNat []).getD 0 0)) [Pure.spec_l01Add F (List.getD (List.getD x0 (Int.toNat ((x3.getD x4.toNat []).getD 0 0)) []) 0 0) (List.getD (List.getD x0 (Int.toNat ((x3.getD x4.toNat []).getD 0 0)) []) 1 0) (List.getD (List.getD x0 (Int.toNat ((x3.getD x4.toNat []).getD 0 0)) []) 2 0) (Pure.s21_f79 F x0 x1 x2 x3 x4) (Pure.s22_f79 F x0 x1 x2 x3 x4) (Pure.s23_f79 F x0 x1 x2 x3 x4), Pure.spec_l01Add_1 F (List.getD (List.getD x0 (Int.toNat ((x3.getD x4.toNat []).getD 0 0)) []) 0 0) (List.getD (List.getD x0 (Int.toNat ((x3.getD x4.toNat []).getD 0 0)) []) 1 0) (List.getD (List.getD x0 (Int.toNat ((x3.getD x4.toNat []).getD 0 0)) []) 2 0) (Pure.s21_f79 F x0 x1 x2 x3 x4) (Pure.s22_f79 F x0 x1 x2 x3 x4) (Pure.s23_f79 F x0 x1 x2 x3 x4), Pure.spec_l01Add_2 F (List.getD (List.getD x0 (Int.toNat ((x3.getD x4.toNat []).getD 0 0)) []) 0 0) (List.getD (List.getD x0 (Int.toNat ((x3.getD x4.toNat []).getD 0 0)) []) 1 0) (List.getD (List.getD x0 (Int.toNat ((x3.getD x4.toNat []).getD 0 0)) []) 2 0) (Pure.s21_f79 F x0 x1 x2 x3 x4) (Pure.s22_f79 F x0 x1 x2 x3 x4) (Pure.s23_f79 F x0 x1 x2 x3 x4)]) (Int.toNat ((x3.getD x4.toNat []).getD 1 0)) [Pure.spec_l01Less F (List.getD (List.getD (List.set x0 (Int.toNat ((x3.getD x4.toNat []).getD 0 0)) [Pure.spec_l01Add F (List.getD (List.getD x0 (Int.toNat ((x3.getD x4.toNat []).getD 0 0)) []) 0 0) (List.getD (List.getD x0 (Int.toNat ((x3.getD x4.toNat []).getD 0 0)) []) 1 0) (List.getD (List.getD x0 (Int.toNat ((x3.getD x4.toNat []).getD 0 0)) []) 2 0) (Pure.s21_f79 F x0 x1 x2 x3 x4) (Pure.s22_f79 F x0 x1 x2 x3 x4) (Pure.s23_f79 F x0 x1 x2 x3 x4), Pure.spec_l01Add_1 F (List.getD (List.getD x0 (Int.toNat ((x3.getD x4.toNat []).getD 0 0)) []) 0 0) (List.getD (List.getD x0 (Int.toNat ((x3.getD x4.toNat []).getD 0 0)) []) 1 0) (List.getD (List.getD x0 (Int.toNat ((x3.getD x4.toNat []).getD 0 0)) []) 2 0) (Pure.s21_f79 F x0 x1 x2 x3 x4) (Pure.s22_f79 F x0 x1 x2 x3 x4) (Pure.s23_f79 F x0 x1 x2 x3 x4), Pure.spec_l01Add_2 F (List.getD (List.getD x0 (Int.toNat ((x3.getD x4.toNat []).getD 0 0)) []) 0 0) (List.getD (List.getD x0 (Int.toNat ((x3.getD x4.toNat []).getD 0 0)) []) 1 0) (List.getD (List.getD x0 (Int.toNat ((x3.getD x4.toNat []).getD 0 0)) []) 2 0) (Pure.s21_f79 F x0 x1 x2 x3 x4) (Pure.s22_f79 F x0 x1 x2 x3 x4) (Pure.s23_f79 F x0 x1 x2 x3 x4)]) (Int.toNat ((x3.getD x4.toNat []).getD 1 0)) []) 0 0) (List.getD (List.getD (List.set x0 (Int.toNat ((x3.getD x4.toNat []).getD 0 0)) [Pure.spec_l01Add F (List.getD (List.getD x0 (Int.toNat ((x3.getD x4.toNat []).getD 0 0)) []) 0 0) (List.getD (List.getD x0 (Int.toNat ((x3.getD x4.toNat []).getD 0 0)) []) 1 0) (List.getD (List.getD x0 (Int.toNat ((x3.getD x4.toNat []).getD 0 0)) []) 2 0) (Pure.s21_f79 F x0 x1 x2 x3 x4) (Pure.s22_f79 F x0 x1 x2 x3 x4) (Pure.s23_f79 F x0 x1 x2 x3 x4), Pure.spec_l01Add_1 F (List.getD (List.getD x0 (Int.toNat ((x3.getD x4.toNat []).getD 0 0)) []) 0 0) (List.getD (List.getD x0 (Int.toNat ((x3.getD x4.toNat []).getD 0 0)) []) 1 0) (List.getD (List.getD x0 (Int.toNat ((x3.getD x4.toNat []).getD 0 0)) []) 2 0) (Pure.s21_f79 F x0 x1 x2 x3 x4) (Pure.s22_f79 F x0 x1 x2 x3 x4) (Pure.s23_f79 F x0 x1 x2 x3 x4), Pure.spec_l01Add_2 F (List.getD (List.getD x0 (Int.toNat ((x3.getD x4.toNat []).getD 0 0)) []) 0 0) (List.getD (List.getD x0 (Int.toNat ((x3.getD x4.toNat []).getD 0 0)) []) 1 0) (List.getD (List.getD x0 (Int.toNat ((x3.getD x4.toNat []).getD 0 0)) []) 2 0) (Pure.s21_f79 F x0 x1 x2 x3 x4) (Pure.s22_f79 F x0 x1 x2 x3 x4) (Pure.s23_f79 F x0 x1 x2 x3 x4)]) (Int.toNat ((x3.getD x4.toNat []).getD 1 0)) []) 1 0) (List.getD (List.getD (List.set x0 (Int.toNat ((x3.getD x4.toNat []).getD 0 0)) [Pure.spec_l01Add F (List.getD (List.getD x0 (Int.toNat ((x3.getD x4.toNat []).getD 0 0)) []) 0 0) (List.getD (List.getD x0 (Int.toNat ((x3.getD x4.toNat []).getD 0 0)) []) 1 0) (List.getD (List.getD x0 (Int.toNat ((x3.getD x4.toNat []).getD 0 0)) []) 2 0) (Pure.s21_f79 F x0 x1 x2 x3 x4) (Pure.s22_f79 F x0 x1 x2 x3 x4) (Pure.s23_f79 F x0 x1 x2 x3 x4), Pure.spec_l01Add_1 F (List.getD (List.getD x0 (Int.toNat ((x3.getD x4.toNat []).getD 0 0)) []) 0 0) (List.getD (List.getD x0 (Int.toNat ((x3.getD x4.toNat []).getD 0 0)) []) 1 0) (List.getD (List.getD x0 (Int.toNat ((x3.getD x4.toNat []).getD 0 0)) []) 2 0) (Pure.s21_f79 F x0 x1 x2 x3 x4) (Pure.s22_f79 F x0 x1 x2 x3 x4) (Pure.s23_f79 F x0 x1 x2 x3 x4), Pure.spec_l01Add_2 F (List.getD (List.getD x0 (Int.toNat ((x3.getD x4.toNat []).getD 0 0)) []) 0 0) (List.getD (List.getD x0 (Int.toNat ((x3.getD x4.toNat []).getD 0 0)) []) 1 0) (List.getD (List.getD x0 (Int.toNat ((x3.getD x4.toNat []).getD 0 0)) []) 2 0) (Pure.s21_f79 F x0 x1 x2 x3 x4) (Pure.s22_f79 F x0 x1 x2 x3 x4) (Pure.s23_f79 F x0 x1 x2 x3 x4)]) (Int.toNat ((x3.getD x4.toNat []).getD 1 0)) []) 2 0) (Pure.s25_f79 F x0 x1 x2 x3 x4) (Pure.s26_f79 F x0 x1 x2 x3 x4) (Pure.s27_f79 F x0 x1 x2 x3 x4), Pure.spec_l01Less_1 F (List.getD (List.getD (List.set x0 (Int.toNat ((x3.getD x4.toNat []).getD 0 0)) [Pure.spec_l01Add F (List.getD (List.getD x0 (Int.toNat ((x3.getD x4.toNat []).getD 0 0)) []) 0 0) (List.getD (List.getD x0 (Int.toNat ((x3.getD x4.toNat []).getD 0 0)) []) 1 0) (List.getD (List.getD x0 (Int.toNat ((x3.getD x4.toNat []).getD 0 0)) []) 2 0) (Pure.s21_f79 F x0 x1 x2 x3 x4) (Pure.s22_f79 F x0 x1 x2 x3 x4) (Pure.s23_f79 F x0 x1 x2 x3 x4), Pure.spec_l01Add_1 F (List.getD (List.getD x0 (Int.toNat ((x3.getD x4.toNat []).getD 0 0)) []) 0 0) (List.getD (List.getD x0 (Int.toNat ((x3.getD x4.toNat []).getD 0 0)) []) 1 0) (List.getD (List.getD x0 (Int.toNat ((x3.getD x4.toNat []).getD 0 0)) []) 2 0) (Pure.s21_f79 F x0 x1 x2 x3 x4) (Pure.s22_f79 F x0 x1 x2 x3 x4) (Pure.s23_f79 F x0 x1 x2 x3 x4), Pure.spec_l01Add_2 F (List.getD (List.getD x0 (Int.toNat ((x3.getD x4.toNat []).getD 0 0)) []) 0 0) (List.getD (List.getD x0 (Int.toNat ((x3.getD x4.toNat []).getD 0 0)) []) 1 0) (List.getD (List.getD x0 (Int.toNat ((x3.getD x4.toNat []).getD 0 0)) []) 2 0) (Pure.s21_f79 F x0 x1 x2 x3 x4) (Pure.s22_f79 F x0 x1 x2 x3 x4) (Pure.s23_f79 F x0 x1 x2 x3 x4)]) (Int.toNat ((x3.getD x4.toNat []).getD 1 0)) []) 0 0) (List.getD (List.getD (List.set x0 (Int.toNat ((x3.getD x4.toNat []).getD 0 0)) [Pure.spec_l01Add F (List.getD (List.getD x0 (Int.toNat ((x3.getD x4.toNat []).getD 0 0)) []) 0 0) (List.getD (List.getD x0 (Int.toNat ((x3.getD x4.toNat []).getD 0 0)) []) 1 0) (List.getD (List.getD x0 (Int.toNat ((x3.getD x4.toNat []).getD 0 0)) []) 2 0) (Pure.s21_f79 F x0 x1 x2 x3 x4) (Pure.s22_f79 F x0 x1 x2 x3 x4) (Pure.s23_f79 F x0 x1 x2 x3 x4), Pure.spec_l01Add_1 F (List.getD (List.getD x0 (Int.toNat ((x3.getD x4.toNat []).getD 0 0)) []) 0 0) (List.getD (List.getD x0 (Int.toNat ((x3.getD x4.toNat []).getD 0 0)) []) 1 0) (List.getD (List.getD x0 (Int.toNat ((x3.getD x4.toNat []).getD 0 0)) []) 2 0) (Pure.s21_f79 F x0 x1 x2 x3 x4) (Pure.s22_f79 F x0 x1 x2 x3 x4) (Pure.s23_f79 F x0 x1 x2 x3 x4), Pure.spec_l01Add_2 F (List.getD (List.getD x0 (Int.toNat ((x3.getD x4.toNat []).getD 0 0)) []) 0 0) (List.getD (List.getD x0 (Int.toNat ((x3.getD x4.toNat []).getD 0 0)) []) 1 0) (List.getD (List.getD x0 (Int.toNat ((x3.getD x4.toNat []).getD 0 0)) []) 2 0) (Pure.s21_f79 F x0 x1 x2 x3 x4) (Pure.s22_f79 F x0 x1 x2 x3 x4) (Pure.s23_f79 F x0 x1 x2 x3 x4)]) (Int.toNat ((x3.getD x4.toNat []).getD 1 0)) []) 1 0) (List.getD (List.getD (List.set x0 (Int.toNat ((x3.getD x4.toNat []).getD 0 0)) [Pure.spec_l01Add F (List.getD (List.getD x0 (Int.toNat ((x3.getD x4.toNat []).getD 0 0)) []) 0 0) (List.getD (List.getD x0 (Int.toNat ((x3.getD x4.toNat []).getD 0 0)) []) 1 0) (List.getD (List.getD x0 (Int.toNat ((x3.getD x4.toNat []).getD 0 0)) []) 2 0) (Pure.s21_f79 F x0 x1 x2 x3 x4) (Pure.s22_f79 F x0 x1 x2 x3 x4) (Pure.s23_f79 F x0 x1 x2 x3 x4), Pure.spec_l01Add_1 F (List.getD (List.getD x0 (Int.toNat ((x3.getD x4.toNat []).getD 0 0)) []) 0 0) (List.getD (List.getD x0 (Int.toNat ((x3.getD x4.toNat []).getD 0 0)) []) 1 0) (List.getD (List.getD x0 (Int.toNat ((x3.getD x4.toNat []).getD 0 0)) []) 2 0) (Pure.s21_f79 F x0 x1 x2 x3 x4) (Pure.s22_f79 F x0 x1 x2 x3 x4) (Pure.s23_f79 F x0 x1 x2 x3 x4), Pure.spec_l01Add_2 F (List.getD (List.getD x0 (Int.toNat ((x3.getD x4.toNat []).getD 0 0)) []) 0 0) (List.getD (List.getD x0 (Int.toNat ((x3.getD x4.toNat []).getD 0 0)) []) 1 0) (List.getD (List.getD x0 (Int.toNat ((x3.getD x4.toNat []).getD 0 0)) []) 2 0) (Pure.s21_f79 F x0 x1 x2 x3 x4) (Pure.s22_f79 F x0 x1 x2 x3 x4) (Pure.s23_f79 F x0 x1 x2 x3 x4)]) (Int.toNat ((x3.getD x4.toNat []).getD 1 0)) []) 2 0) (Pure.s25_f79 F x0 x1 x2 x3 x4) (Pure.s26_f79 F x0 x1 x2 x3 x4) (Pure.s27_f79 F x0 x1 x2 x3 x4), Pure.spec_l01Less_2 F (List.getD (List.getD (List.set x0 (Int.toNat ((x3.getD x4.toNat []).getD 0 0)) [Pure.spec_l01Add F (List.getD (List.getD x0 (Int.toNat ((x3.getD x4.toNat []).getD 0 0)) []) 0 0) (List.getD (List.getD x0 (Int.toNat ((x3.getD x4.toNat []).getD 0 0)) []) 1 0) (List.getD (List.getD x0 (Int.toNat ((x3.getD x4.toNat []).getD 0 0)) []) 2 0) (Pure.s21_f79 F x0 x1 x2 x3 x4) (Pure.s22_f79 F x0 x1 x2 x3 x4) (Pure.s23_f79 F x0 x1 x2 x3 x4), Pure.spec_l01Add_1 F (List.getD (List.getD x0 (Int.toNat ((x3.getD x4.toNat []).getD 0 0)) []) 0 0) (List.getD (List.getD x0 (Int.toNat ((x3.getD x4.toNat []).getD 0 0)) []) 1 0) (List.getD (List.getD x0 (Int.toNat ((x3.getD x4.toNat []).getD 0 0)) []) 2 0) (Pure.s21_f79 F x0 x1 x2 x3 x4) (Pure.s22_f79 F x0 x1 x2 x3 x4) (Pure.s23_f79 F x0 x1 x2 x3 x4), Pure.spec_l01Add_2 F (List.getD (List.getD x0 (Int.toNat ((x3.getD x4.toNat []).getD 0 0)) []) 0 0) (List.getD (List.getD x0 (Int.toNat ((x3.getD x4.toNat []).getD 0 0)) []) 1 0) (List.getD (List.getD x0 (Int.toNat ((x3.getD x4.toNat []).getD 0 0)) []) 2 0) (Pure.s21_f79 F x0 x1 x2 x3 x4) (Pure.s22_f79 F x0 x1 x2 x3 x4) (Pure.s23_f79 F x0 x1 x2 x3 x4)]) (Int.toNat ((x3.getD x4.toNat []).getD 1 0)) []) 0 0) (List.getD (List.getD (List.set x0 (Int.toNat ((x3.getD x4.toNat []).getD 0 0)) [Pure.spec_l01Add F (List.getD (List.getD x0 (Int.toNat ((x3.getD x4.toNat []).getD 0 0)) []) 0 0) (List.getD (List.getD x0 (Int.toNat ((x3.getD x4.toNat []).getD 0 0)) []) 1 0) (List.getD (List.getD x0 (Int.toNat ((x3.getD x4.toNat []).getD 0 0)) []) 2 0) (Pure.s21_f79 F x0 x1 x2 x3 x4) (Pure.s22_f79 F x0 x1 x2 x3 x4) (Pure.s23_f79 F x0 x1 x2 x3 x4), Pure.spec_l01Add_1 F (List.getD (List.getD x0 (Int.toNat ((x3.getD x4.toNat []).getD 0 0)) []) 0 0) (List.getD (List.getD x0 (Int.toNat ((x3.getD x4.toNat []).getD 0 0)) []) 1 0) (List.getD (List.getD x0 (Int.toNat ((x3.getD x4.toNat []).getD 0 0)) []) 2 0) (Pure.s21_f79 F x0 x1 x2 x3 x4) (Pure.s22_f79 F x0 x1 x2 x3 x4) (Pure.s23_f79 F x0 x1 x2 x3 x4), Pure.spec_l01Add_2 F (List.getD (List.getD x0 (Int.toNat ((x3.getD x4.toNat []).getD 0 0)) []) 0 0) (List.getD (List.getD x0 (Int.toNat ((x3.getD x4.toNat []).getD 0 0)) []) 1 0) (List.getD (List.getD x0 (Int.toNat ((x3.getD x4.toNat []).getD 0 0)) []) 2 0) (Pure.s21_f79 F x0 x1 x2 x3 x4) (Pure.s22_f79 F x0 x1 x2 x3 x4) (Pure.s23_f79 F x0 x1 x2 x3 x4)]) (Int.toNat ((x3.getD x4.toNat []).getD 1 0)) []) 1 0) (List.getD (List.getD (List.set x0 (Int.toNat ((x3.getD x4.toNat []).getD 0 0)) [Pure.spec_l01Add F (List.getD (List.getD x0 (Int.toNat ((x3.getD x4.toNat []).getD 0 0)) []) 0 0) (List.getD (List.getD x0 (Int.toNat ((x3.getD x4.toNat []).getD 0 0)) []) 1 0) (List.getD (List.getD x0 (Int.toNat ((x3.getD x4.toNat []).getD 0 0)) []) 2 0) (Pure.s21_f79 F x0 x1 x2 x3 x4) (Pure.s22_f79 F x0 x1 x2 x3 x4) (Pure.s23_f79 F x0 x1 x2 x3 x4), Pure.spec_l01Add_1 F (List.getD (List.getD x0 (Int.toNat ((x3.getD x4.toNat []).getD 0 0)) []) 0 0) (List.getD (List.getD x0 (Int.toNat ((x3.getD x4.toNat []).getD 0 0)) []) 1 0) (List.getD (List.getD x0 (Int.toNat ((x3.getD x4.toNat []).getD 0 0)) []) 2 0) (Pure.s21_f79 F x0 x1 x2 x3 x4) (Pure.s22_f79 F x0 x1 x2 x3 x4) (Pure.s23_f79 F x0 x1 x2 x3 x4), Pure.spec_l01Add_2 F (List.getD (List.getD x0 (Int.toNat ((x3.getD x4.toNat []).getD 0 0)) []) 0 0) (List.getD (List.getD x0 (Int.toNat ((x3.getD x4.toNat []).getD 0 0)) []) 1 0) (List.getD (List.getD x0 (Int.toNat ((x3.getD x4.toNat []).getD 0 0)) []) 2 0) (Pure.s21_f79 F x0 x1 x2 x3 x4) (Pure.s22_f79 F x0 x1 x2 x3 x4) (Pure.s23_f79 F x0 x1 x2 x3 x4)]) (Int.toNat ((x3.getD x4.toNat []).getD 1 0)) []) 2 0) (Pure.s25_f79 F x0 x1 x2 x3 x4) (Pure.s26_f79 F x0 x1 x2 x3 x4) (Pure.s27_f79 F x0 x1 x2 x3 x4)])⟩, ⟨true, .rows [K.f .f32, K.f .f32, K.f .f32] x1⟩, ⟨true, .rows [K.f .f32] x2⟩, ⟨true, .rows [K.i .i64, K.i .i64, K.f .f32] x3⟩], []⟩ else none else none else none else none else none else none else none else none else none else none else none else none else none else none else none else none else none := by kernel_rfl
  rw [h0]
  unfold Pure.spec_l03Straighten Pure.spec_l03Straighten_ok
  cases (decide (0 ≤ x4)) with
  | true =>
    cases (decide (x4 < (Int.ofNat x3.length))) with
    | true =>
      cases (decide (0 ≤ ((x3.getD x4.toNat []).getD 1 0))) with
      | true =>
        cases (decide (((x3.getD x4.toNat []).getD 1 0) < (Int.ofNat x0.length))) with
        | true =>
          cases (decide (0 ≤ ((x3.getD x4.toNat []).getD 0 0))) with
          | true =>
            cases (decide (((x3.getD x4.toNat []).getD 0 0) < (Int.ofNat x0.length))) with
            | true =>
              cases (Pure.spec_l01Long_ok F (Pure.s14_f79 F x0 x3 x4) (Pure.s15_f79 F x0 x3 x4) (Pure.s16_f79 F x0 x3 x4)) with
              | true =>
                cases (Pure.spec_l03Share_ok F x0 x1 x2 x3 ((x3.getD x4.toNat []).getD 0 0)) with
                | true =>
                  cases (Pure.spec_l03Share_ok F x0 x1 x2 x3 ((x3.getD x4.toNat []).getD 1 0)) with
                  | true =>
                    cases (F.cmp .gtr .f32 (Pure.s17_f79 F x0 x3 x4) 0) with
                    | true =>
                      cases (F.cmp .gtr .f32 (Pure.s18_f79 F x0 x1 x2 x3 x4) 0) with
                      | true =>
                        cases (decide (((x3.getD x4.toNat []).getD 1 0) < (Int.ofNat (List.length (List.set x0 (Int.toNat ((x3.getD x4.toNat []).getD 0 0)) [Pure.spec_l01Add F (List.getD (List.getD x0 (Int.toNat ((x3.getD x4.toNat []).getD 0 0)) []) 0 0) (List.getD (List.getD x0 (Int.toNat ((x3.getD x4.toNat []).getD 0 0)) []) 1 0) (List.getD (List.getD x0 (Int.toNat ((x3.getD x4.toNat []).getD 0 0)) []) 2 0) (Pure.s21_f79 F x0 x1 x2 x3 x4) (Pure.s22_f79 F x0 x1 x2 x3 x4) (Pure.s23_f79 F x0 x1 x2 x3 x4), Pure.spec_l01Add_1 F (List.getD (List.getD x0 (Int.toNat ((x3.getD x4.toNat []).getD 0 0)) []) 0 0) (List.getD (List.getD x0 (Int.toNat ((x3.getD x4.toNat []).getD 0 0)) []) 1 0) (List.getD (List.getD x0 (Int.toNat ((x3.getD x4.toNat []).getD 0 0)) []) 2 0) (Pure.s21_f79 F x0 x1 x2 x3 x4) (Pure.s22_f79 F x0 x1 x2 x3 x4) (Pure.s23_f79 F x0 x1 x2 x3 x4), Pure.spec_l01Add_2 F (List.getD (List.getD x0 (Int.toNat ((x3.getD x4.toNat []).getD 0 0)) []) 0 0) (List.getD (List.getD x0 (Int.toNat ((x3.getD x4.toNat []).getD 0 0)) []) 1 0) (List.getD (List.getD x0 (Int.toNat ((x3.getD x4.toNat []).getD 0 0)) []) 2 0) (Pure.s21_f79 F x0 x1 x2 x3 x4) (Pure.s22_f79 F x0 x1 x2 x3 x4) (Pure.s23_f79 F x0 x1 x2 x3 x4)]))))) with
                        | true =>
                          intro _; rfl
                        | false =>
                          intro h; exact absurd h Bool.false_ne_true
                      | false =>
                        intro _; rfl
                    | false =>
                      intro _; rfl
                  | false =>
                    intro h; exact absurd h Bool.false_ne_true
                | false =>
                  intro h; exact absurd h Bool.false_ne_true
              | false =>
                intro h; exact absurd h Bool.false_ne_true
            | false =>
              intro h; exact absurd h Bool.false_ne_true
          | false =>
            intro h; exact absurd h Bool.false_ne_true
        | false =>
          intro h; exact absurd h Bool.false_ne_true
      | false =>
        intro h; exact absurd h Bool.false_ne_true
    | false =>
      intro h; exact absurd h Bool.false_ne_true
  | false =>
    intro h; exact absurd h Bool.false_ne_true
theorem ok_spec_l03Straighten : CallOK Try.prog 79 (c_spec_l03Straighten real) := by
  refine callOK_of fun args h ret hc => ?_
  unfold c_spec_l03Straighten at hc
  split at hc
  · rename_i x4 x0 x1 x2 x3
    obtain ⟨hok, rfl⟩ := some_ret hc
    exact holdsE_ev prog_ok (allOK_cons ok_spec_l01Less (allOK_cons ok_spec_l01Long (allOK_cons ok_spec_l03Share (allOK_cons ok_spec_l01Scale (allOK_cons ok_spec_l01Add allOK_nil))))) Try.func79 rfl rfl smL_nil (e_spec_l03Straighten real x0 x1 x2 x3 x4 hok)
  · cases hc
def Pure.spec_l03All_L2 (F : FOps) (y0 y1 : Int) (y4 y5 y6 : List (List Int)) : Nat → Int → (List (List Int)) → (Bool × (List (List Int)))
  | 0, _, _ => (false, [])
  | n + 1, y2, y3 => bif (decide (y2 < y1)) then (bif (Pure.spec_l03Straighten_ok F y3 y4 y5 y6 y2) then (Pure.spec_l03All_L2 F y0 y1 y4 y5 y6 n (IntKind.wrap .i64 (y2 + 1)) (Pure.spec_l03Straighten F y3 y4 y5 y6 y2)) else ((false, []))) else ((true, y3))
def R_spec_l03All_L2 (y0 : Int) (y4 y5 y6 : List (List Int)) (r : (Bool × (List (List Int)))) : Bool × Ends := ((r).1, (.one Ex.normal [V.at (A.ptr 0 0 0), V.at (A.int .i64 y0)] [⟨true, .box [A.sl 1, A.sl 2, A.sl 3, A.sl 4]⟩, ⟨true, .rows [K.f .f32, K.f .f32, K.f .f32] (r).2⟩, ⟨true, .rows [K.f .f32, K.f .f32, K.f .f32] y4⟩, ⟨true, .rows [K.f .f32] y5⟩, ⟨true, .rows [K.i .i64, K.i .i64, K.f .f32] y6⟩]))
def S_spec_l03All_L2 (F : FOps) : Sm := ⟨[0, 1, 13, 14], [54, 2, 3, 3], [0, 1], fun vals hp => match vals, hp with
  | [V.at (A.ptr 0 0 0), V.at (A.int .i64 y0), V.at (A.int .i64 y1), V.at (A.int .i64 y2)], [⟨true, .box [A.sl 1, A.sl 2, A.sl 3, A.sl 4]⟩, ⟨true, .rows [K.f .f32, K.f .f32, K.f .f32] y3⟩, ⟨true, .rows [K.f .f32, K.f .f32, K.f .f32] y4⟩, ⟨true, .rows [K.f .f32] y5⟩, ⟨true, .rows [K.i .i64, K.i .i64, K.f .f32] y6⟩] => some (R_spec_l03All_L2 y0 y4 y5 y6 (Pure.spec_l03All_L2 F y0 y1 y4 y5 y6 (y1 - y2 + 1).toNat y2 y3))
  | _, _ => none⟩
theorem l_spec_l03All_L2 (F : FOps) (y0 y1 : Int) (y4 y5 y6 : List (List Int)) : ∀ (fuel : Nat) (y2 : Int) (y3 : List (List Int)), (Pure.spec_l03All_L2 F y0 y1 y4 y5 y6 fuel y2 y3).1 = true → loopOf (cxS F tyl [(79, c_spec_l03Straighten F)] [79] [] 0) 5 21 2 [0, 1, 13, 14] [54, 2, 3, 3] [0, 1] (loopB 2 (codeOf Try.f58)) fuel [V.at (A.ptr 0 0 0), V.at (A.int .i64 y0), V.at (A.int .i64 y1), V.at (A.int .i64 y2)] [⟨true, .box [A.sl 1, A.sl 2, A.sl 3, A.sl 4]⟩, ⟨true, .rows [K.f .f32, K.f .f32, K.f .f32] y3⟩, ⟨true, .rows [K.f .f32, K.f .f32, K.f .f32] y4⟩, ⟨true, .rows [K.f .f32] y5⟩, ⟨true, .rows [K.i .i64, K.i .i64, K.f .f32] y6⟩] = resOf (R_spec_l03All_L2 y0 y4 y5 y6 (Pure.spec_l03All_L2 F y0 y1 y4 y5 y6 fuel y2 y3)) := by
  intro fuel
  induction fuel with
  | zero => intro y2 y3 h; exact absurd h Bool.false_ne_true
  | succ n ih =>
    intro y2 y3
    have h0 : roundOf (cxS F tyl [(79, c_spec_l03Straighten F)] [79] [] 0) 5 21 2 [0, 1, 13, 14] [54, 2, 3, 3] [0, 1] (loopB 2 (codeOf Try.f58)) [V.at (A.ptr 0 0 0), V.at (A.int .i64 y0), V.at (A.int .i64 y1), V.at (A.int .i64 y2)] [⟨true, .box [A.sl 1, A.sl 2, A.sl 3, A.sl 4]⟩, ⟨true, .rows [K.f .f32, K.f .f32, K.f .f32] y3⟩, ⟨true, .rows [K.f .f32, K.f .f32, K.f .f32] y4⟩, ⟨true, .rows [K.f .f32] y5⟩, ⟨true, .rows [K.i .i64, K.i .i64, K.f .f32] y6⟩] = (bif decide (y2 < y1) then bif Pure.spec_l03Straighten_ok F y3 y4 y5 y6 y2 then some (true, (Ex.normal, ([V.at (A.ptr 0 0 0), V.at (A.int .i64 y0), V.at (A.int .i64 y1), V.at (A.int .i64 (IntKind.wrap .i64 (y2 + 1)))], [⟨true, .box [A.sl 1, A.sl 2, A.sl 3, A.sl 4]⟩, ⟨true, .rows [K.f .f32, K.f .f32, K.f .f32] (Pure.spec_l03Straighten F y3 y4 y5 y6 y2)⟩, ⟨true, .rows [K.f .f32, K.f .f32, K.f .f32] y4⟩, ⟨true, .rows [K.f .f32] y5⟩, ⟨true, .rows [K.i .i64, K.i .i64, K.f .f32] y6⟩]))) else none else some (false, (Ex.normal, ([V.at (A.ptr 0 0 0), V.at (A.int .i64 y0)], [⟨true, .box [A.sl 1, A.sl 2, A.sl 3, A.sl 4]⟩, ⟨true, .rows [K.f .f32, K.f .f32, K.f .f32] y3⟩, ⟨true, .rows [K.f .f32, K.f .f32, K.f .f32] y4⟩, ⟨true, .rows [K.f .f32] y5⟩, ⟨true, .rows [K.i .i64, K.i .i64, K.f .f32] y6⟩])))) := by kernel_rfl
    unfold loopOf
    rw [h0]
    unfold Pure.spec_l03All_L2
    cases (decide (y2 < y1)) with
    | true =>
      cases (Pure.spec_l03Straighten_ok F y3 y4 y5 y6 y2) with
      | true =>
        exact ih _ _
      | false =>
        intro h; exact absurd h Bool.false_ne_true
    | false =>
      intro _; rfl
theorem t_spec_l03All_L2 : SmTo Try.prog 5 21 (S_spec_l03All_L2 real) 2 (.loop (loopB 2 (codeOf Try.f58))) := by
  refine smTo_ev (cl := [(79, c_spec_l03Straighten real)]) (ef := [79]) (sm := []) (un := 0) prog_ok (allOK_cons ok_spec_l03Straighten allOK_nil) smL_nil ?_
  intro vals hp q r h hq
  unfold S_spec_l03All_L2 at h
  dsimp only at h
  split at h
  · rename_i y0 y1 y2 y3 y4 y5 y6
    obtain rfl := Option.some.inj h
    have h1 := hq
    unfold resOf at h1
    rw [chk_some] at h1
    exact ⟨_, (l_spec_l03All_L2 real y0 y1 y4 y5 y6 _ y2 y3 h1.1).trans hq⟩
  · cases h
def Pure.spec_l03All_L0 (F : FOps) (y2 y3 y4 : List (List Int)) : Nat → Int → (List (List Int)) → (Bool × (List (List Int)))
  | 0, _, _ => (false, [])
  | n + 1, y0, y1 => bif (decide (y0 > 0)) then (bif (Prod.fst (Pure.spec_l03All_L2 F y0 (Int.ofNat y4.length) y2 y3 y4 (Nat.succ (y4.length + 0)) 0 y1)) then (Pure.spec_l03All_L0 F y2 y3 y4 n (IntKind.wrap .i64 (y0 - 1)) (Prod.snd (Pure.spec_l03All_L2 F y0 (Int.ofNat y4.length) y2 y3 y4 (Nat.succ (y4.length + 0)) 0 y1))) else ((false, []))) else ((true, y1))
def R_spec_l03All_L0 (y2 y3 y4 : List (List Int)) (r : (Bool × (List (List Int)))) : Bool × Ends := ((r).1, (.one Ex.normal [] [⟨true, .box [A.sl 1, A.sl 2, A.sl 3, A.sl 4]⟩, ⟨true, .rows [K.f .f32, K.f .f32, K.f .f32] (r).2⟩, ⟨true, .rows [K.f .f32, K.f .f32, K.f .f32] y2⟩, ⟨true, .rows [K.f .f32] y3⟩, ⟨true, .rows [K.i .i64, K.i .i64, K.f .f32] y4⟩]))
def S_spec_l03All_L0 (F : FOps) : Sm := ⟨[0, 1], [54, 2], [], fun vals hp => match vals, hp with
  | [V.at (A.ptr 0 0 0), V.at (A.int .i64 y0)], [⟨true, .box [A.sl 1, A.sl 2, A.sl 3, A.sl 4]⟩, ⟨true, .rows [K.f .f32, K.f .f32, K.f .f32] y1⟩, ⟨true, .rows [K.f .f32, K.f .f32, K.f .f32] y2⟩, ⟨true, .rows [K.f .f32] y3⟩, ⟨true, .rows [K.i .i64, K.i .i64, K.f .f32] y4⟩] => some (R_spec_l03All_L0 y2 y3 y4 (Pure.spec_l03All_L0 F y2 y3 y4 (y0 - 0 + 1).toNat y0 y1))
  | _, _ => none⟩
theorem l_spec_l03All_L0 (F : FOps) (y2 y3 y4 : List (List Int)) : ∀ (fuel : Nat) (y0 : Int) (y1 : List (List Int)), (Pure.spec_l03All_L0 F y2 y3 y4 fuel y0 y1).1 = true → loopOf (cxS F tyl [(79, c_spec_l03Straighten F)] [79] [(2, S_spec_l03All_L2 F)] 0) 5 21 0 [0, 1] [54, 2] [] (loopB 0 (codeOf Try.f58)) fuel [V.at (A.ptr 0 0 0), V.at (A.int .i64 y0)] [⟨true, .box [A.sl 1, A.sl 2, A.sl 3, A.sl 4]⟩, ⟨true, .rows [K.f .f32, K.f .f32, K.f .f32] y1⟩, ⟨true, .rows [K.f .f32, K.f .f32, K.f .f32] y2⟩, ⟨true, .rows [K.f .f32] y3⟩, ⟨true, .rows [K.i .i64, K.i .i64, K.f .f32] y4⟩] = resOf (R_spec_l03All_L0 y2 y3 y4 (Pure.spec_l03All_L0 F y2 y3 y4 fuel y0 y1)) := by
  intro fuel
  induction fuel with
  | zero => intro y0 y1 h; exact absurd h Bool.false_ne_true
  | succ n ih =>
    intro y0 y1
    have h0 : roundOf (cxS F tyl [(79, c_spec_l03Straighten F)] [79] [(2, S_spec_l03All_L2 F)] 0) 5 21 0 [0, 1] [54, 2] [] (loopB 0 (codeOf Try.f58)) [V.at (A.ptr 0 0 0), V.at (A.int .i64 y0)] [⟨true, .box [A.sl 1, A.sl 2, A.sl 3, A.sl 4]⟩, ⟨true, .rows [K.f .f32, K.f .f32, K.f .f32] y1⟩, ⟨true, .rows [K.f .f32, K.f .f32, K.f .f32] y2⟩, ⟨true, .rows [K.f .f32] y3⟩, ⟨true, .rows [K.i .i64, K.i .i64, K.f .f32] y4⟩] = (bif decide (y0 > 0) then bif Prod.fst (Pure.spec_l03All_L2 F y0 (Int.ofNat y4.length) y2 y3 y4 (Nat.succ (y4.length + 0)) 0 y1) then some (true, (Ex.normal, ([V.at (A.ptr 0 0 0), V.at (A.int .i64 (IntKind.wrap .i64 (y0 - 1)))], [⟨true, .box [A.sl 1, A.sl 2, A.sl 3, A.sl 4]⟩, ⟨true, .rows [K.f .f32, K.f .f32, K.f .f32] (Prod.snd (Pure.spec_l03All_L2 F y0 (Int.ofNat y4.length) y2 y3 y4 (Nat.succ (y4.length + 0)) 0 y1))⟩, ⟨true, .rows [K.f .f32, K.f .f32, K.f .f32] y2⟩, ⟨true, .rows [K.f .f32] y3⟩, ⟨true, .rows [K.i .i64, K.i .i64, K.f .f32] y4⟩]))) else none else some (false, (Ex.normal, ([], [⟨true, .box [A.sl 1, A.sl 2, A.sl 3, A.sl 4]⟩, ⟨true, .rows [K.f .f32, K.f .f32, K.f .f32] y1⟩, ⟨true, .rows [K.f .f32, K.f .f32, K.f .f32] y2⟩, ⟨true, .rows [K.f .f32] y3⟩, ⟨true, .rows [K.i .i64, K.i .i64, K.f .f32] y4⟩])))) := by kernel_rfl
    unfold loopOf
    rw [h0]
    unfold Pure.spec_l03All_L0
    cases (decide (y0 > 0)) with
    | true =>
      cases (Prod.fst (Pure.spec_l03All_L2 F y0 (Int.ofNat y4.length) y2 y3 y4 (Nat.succ (y4.length + 0)) 0 y1)) with
      | true =>
        exact ih _ _
      | false =>
        intro h; exact absurd h Bool.false_ne_true
    | false =>
      intro _; rfl
theorem t_spec_l03All_L0 : SmTo Try.prog 5 21 (S_spec_l03All_L0 real) 0 (.loop (loopB 0 (codeOf Try.f58))) := by
  refine smTo_ev (cl := [(79, c_spec_l03Straighten real)]) (ef := [79]) (sm := [(2, S_spec_l03All_L2 real)]) (un := 0) prog_ok (allOK_cons ok_spec_l03Straighten allOK_nil) (smL_cons (body := .loop (loopB 2 (codeOf Try.f58))) (by kernel_rfl) t_spec_l03All_L2 smL_nil) ?_
  intro vals hp q r h hq
  unfold S_spec_l03All_L0 at h
  dsimp only at h
  split at h
  · rename_i y0 y1 y2 y3 y4
    obtain rfl := Option.some.inj h
    have h1 := hq
    unfold resOf at h1
    rw [chk_some] at h1
    exact ⟨_, (l_spec_l03All_L0 real y2 y3 y4 _ y0 y1 h1.1).trans hq⟩
  · cases h
def Pure.spec_l03All (F : FOps) (x0 x1 x2 x3 : List (List Int)) (x4 : Int) : List (List Int) := Prod.snd (Pure.spec_l03All_L0 F x1 x2 x3 (Int.toNat ((x4 - 0) + 1)) x4 x0)
def Pure.spec_l03All_ok (F : FOps) (x0 x1 x2 x3 : List (List Int)) (x4 : Int) : Bool := Prod.fst (Pure.spec_l03All_L0 F x1 x2 x3 (Int.toNat ((x4 - 0) + 1)) x4 x0)
def c_spec_l03All (F : FOps) : Con
  | [V.at (A.ptr 0 0 0), V.at (A.int .i64 x4)], [⟨true, .box [A.sl 1, A.sl 2, A.sl 3, A.sl 4]⟩, ⟨true, .rows [K.f .f32, K.f .f32, K.f .f32] x0⟩, ⟨true, .rows [K.f .f32, K.f .f32, K.f .f32] x1⟩, ⟨true, .rows [K.f .f32] x2⟩, ⟨true, .rows [K.i .i64, K.i .i64, K.f .f32] x3⟩] => some (Pure.spec_l03All_ok F x0 x1 x2 x3 x4, ⟨V.tup [], some [⟨true, .box [A.sl 1, A.sl 2, A.sl 3, A.sl 4]⟩, ⟨true, .rows [K.f .f32, K.f .f32, K.f .f32] (Pure.spec_l03All F x0 x1 x2 x3 x4)⟩, ⟨true, .rows [K.f .f32, K.f .f32, K.f .f32] x1⟩, ⟨true, .rows [K.f .f32] x2⟩, ⟨true, .rows [K.i .i64, K.i .i64, K.f .f32] x3⟩], []⟩)
  | _, _ => none
theorem e_spec_l03All (F : FOps) (x0 x1 x2 x3 : List (List Int)) (x4 : Int) : Pure.spec_l03All_ok F x0 x1 x2 x3 x4 = true → evFn (cxS F tyl [(79, c_spec_l03Straighten F)] [79] [(0, S_spec_l03All_L0 F)] 0) Try.f58 true [V.at (A.ptr 0 0 0), V.at (A.int .i64 x4)] [⟨true, .box [A.sl 1, A.sl 2, A.sl 3, A.sl 4]⟩, ⟨true, .rows [K.f .f32, K.f .f32, K.f .f32] x0⟩, ⟨true, .rows [K.f .f32, K.f .f32, K.f .f32] x1⟩, ⟨true, .rows [K.f .f32] x2⟩, ⟨true, .rows [K.i .i64, K.i .i64, K.f .f32] x3⟩] = some ⟨V.tup [], some [⟨true, .box [A.sl 1, A.sl 2, A.sl 3, A.sl 4]⟩, ⟨true, .rows [K.f .f32, K.f .f32, K.f .f32] (Pure.spec_l03All F x0 x1 x2 x3 x4)⟩, ⟨true, .rows [K.f .f32, K.f .f32, K.f .f32] x1⟩, ⟨true, .rows [K.f .f32] x2⟩, ⟨true, .rows [K.i .i64, K.i .i64, K.f .f32] x3⟩], []⟩ := by
  have h0 : evFn (cxS F tyl [(79, c_spec_l03Straighten F)] [79] [(0, S_spec_l03All_L0 F)] 0) Try.f58 true [V.at (A.ptr 0 0 0), V.at (A.int .i64 x4)] [⟨true, .box [A.sl 1, A.sl 2, A.sl 3, A.sl 4]⟩, ⟨true, .rows [K.f .f32, K.f .f32, K.f .f32] x0⟩, ⟨true, .rows [K.f .f32, K.f .f32, K.f .f32] x1⟩, ⟨true, .rows [K.f .f32] x2⟩, ⟨true, .rows [K.i .i64, K.i .i64, K.f .f32] x3⟩] = bif Prod.fst (Pure.spec_l03All_L0 F x1 x2 x3 (Int.toNat ((x4 - 0) + 1)) x4 x0) then some ⟨V.tup [], some [⟨true, .box [A.sl 1, A.sl 2, A.sl 3, A.sl 4]⟩, ⟨true, .rows [K.f .f32, K.f .f32, K.f .f32] (Prod.snd (Pure.spec_l03All_L0 F x1 x2 x3 (Int.toNat ((x4 - 0) + 1)) x4 x0))⟩, ⟨true, .rows [K.f .f32, K.f .f32, K.f .f32] x1⟩, ⟨true, .rows [K.f .f32] x2⟩, ⟨true, .rows [K.i .i64, K.i .i64, K.f .f32] x3⟩], []⟩ else none := by kernel_rfl
  rw [h0]
  unfold Pure.spec_l03All Pure.spec_l03All_ok
  cases (Prod.fst (Pure.spec_l03All_L0 F x1 x2 x3 (Int.toNat ((x4 - 0) + 1)) x4 x0)) with
  | true =>
    intro _; rfl
  | false =>
    intro h; exact absurd h Bool.false_ne_true
theorem ok_spec_l03All : CallOK Try.prog 58 (c_spec_l03All real) := by
  refine callOK_of fun args h ret hc => ?_
  unfold c_spec_l03All at hc
  split at hc
  · rename_i x4 x0 x1 x2 x3
    obtain ⟨hok, rfl⟩ := some_ret hc
    exact holdsE_ev prog_ok (allOK_cons ok_spec_l03Straighten allOK_nil) Try.func58 rfl rfl (smL_cons (body := .loop (loopB 0 (codeOf Try.f58))) (by kernel_rfl) t_spec_l03All_L0 smL_nil) (e_spec_l03All real x0 x1 x2 x3 x4 hok)
  · cases hc
def Pure.spec_l03Give_way (F : FOps) (x0 x1 x2 x3 : List (List Int)) : Bool := Pure.spec_l03Is F x0 x1 x2 x3
def Pure.spec_l03Give_okA (F : FOps) (x0 x1 x2 x3 : List (List Int)) : Bool := Pure.spec_l03Is_ok F x0 x1 x2 x3
def Pure.spec_l03Give_okB (F : FOps) (x0 x1 x2 x3 : List (List Int)) : Bool := Pure.spec_l03Is_ok F x0 x1 x2 x3
def c2_spec_l03Give (F : FOps) : Con2
  | [V.agg [A.sl 0, A.sl 1, A.sl 2, A.sl 3]], [⟨false, .rows [K.f .f32, K.f .f32, K.f .f32] x0⟩, ⟨false, .rows [K.f .f32, K.f .f32, K.f .f32] x1⟩, ⟨false, .rows [K.f .f32] x2⟩, ⟨false, .rows [K.i .i64, K.i .i64, K.f .f32] x3⟩] => some (Pure.spec_l03Give_way F x0 x1 x2 x3, (Pure.spec_l03Give_okA F x0 x1 x2 x3, ⟨V.tup [(true, [A.sl 0, A.sl 1, A.sl 2, A.sl 3]), (false, [A.bool true])], none, []⟩), (Pure.spec_l03Give_okB F x0 x1 x2 x3, ⟨V.tup [(true, [A.sl 4, A.sl 5, A.sl 6, A.sl 7]), (false, [A.bool false])], none, [⟨true, .rows [K.f .f32, K.f .f32, K.f .f32] []⟩, ⟨true, .rows [K.f .f32, K.f .f32, K.f .f32] []⟩, ⟨true, .rows [K.f .f32] []⟩, ⟨true, .rows [K.i .i64, K.i .i64, K.f .f32] []⟩]⟩))
  | _, _ => none
theorem e2_spec_l03Give_true (F : FOps) (x0 x1 x2 x3 : List (List Int)) : Pure.spec_l03Give_way F x0 x1 x2 x3 = true → Pure.spec_l03Give_okA F x0 x1 x2 x3 = true → evFn (cxS F tyl [(24, c_spec_l03Is F)] [] [] 0) Try.f59 false [V.agg [A.sl 0, A.sl 1, A.sl 2, A.sl 3]] [⟨false, .rows [K.f .f32, K.f .f32, K.f .f32] x0⟩, ⟨false, .rows [K.f .f32, K.f .f32, K.f .f32] x1⟩, ⟨false, .rows [K.f .f32] x2⟩, ⟨false, .rows [K.i .i64, K.i .i64, K.f .f32] x3⟩] = some ⟨V.tup [(true, [A.sl 0, A.sl 1, A.sl 2, A.sl 3]), (false, [A.bool true])], none, []⟩ := by
  have h0 : evFn (cxS F tyl [(24, c_spec_l03Is F)] [] [] 0) Try.f59 false [V.agg [A.sl 0, A.sl 1, A.sl 2, A.sl 3]] [⟨false, .rows [K.f .f32, K.f .f32, K.f .f32] x0⟩, ⟨false, .rows [K.f .f32, K.f .f32, K.f .f32] x1⟩, ⟨false, .rows [K.f .f32] x2⟩, ⟨false, .rows [K.i .i64, K.i .i64, K.f .f32] x3⟩] = bif Pure.spec_l03Is_ok F x0 x1 x2 x3 then bif Bool.not (Pure.spec_l03Is F x0 x1 x2 x3) then some ⟨V.tup [(true, [A.sl 4, A.sl 5, A.sl 6, A.sl 7]), (false, [A.bool false])], none, [⟨true, .rows [K.f .f32, K.f .f32, K.f .f32] []⟩, ⟨true, .rows [K.f .f32, K.f .f32, K.f .f32] []⟩, ⟨true, .rows [K.f .f32] []⟩, ⟨true, .rows [K.i .i64, K.i .i64, K.f .f32] []⟩]⟩ else some ⟨V.tup [(true, [A.sl 0, A.sl 1, A.sl 2, A.sl 3]), (false, [A.bool true])], none, []⟩ else none := by kernel_rfl
  rw [h0]
  unfold Pure.spec_l03Give_way Pure.spec_l03Give_okA
  cases (Pure.spec_l03Is_ok F x0 x1 x2 x3) with
  | true =>
    cases (Pure.spec_l03Is F x0 x1 x2 x3) with
    | true =>
      intro h1 h2; first | rfl | cases h1 | cases h2
    | false =>
      intro h1 h2; first | rfl | cases h1 | cases h2
  | false =>
    intro h1 h2; first | rfl | cases h1 | cases h2
theorem e2_spec_l03Give_false (F : FOps) (x0 x1 x2 x3 : List (List Int)) : Pure.spec_l03Give_way F x0 x1 x2 x3 = false → Pure.spec_l03Give_okB F x0 x1 x2 x3 = true → evFn (cxS F tyl [(24, c_spec_l03Is F)] [] [] 0) Try.f59 false [V.agg [A.sl 0, A.sl 1, A.sl 2, A.sl 3]] [⟨false, .rows [K.f .f32, K.f .f32, K.f .f32] x0⟩, ⟨false, .rows [K.f .f32, K.f .f32, K.f .f32] x1⟩, ⟨false, .rows [K.f .f32] x2⟩, ⟨false, .rows [K.i .i64, K.i .i64, K.f .f32] x3⟩] = some ⟨V.tup [(true, [A.sl 4, A.sl 5, A.sl 6, A.sl 7]), (false, [A.bool false])], none, [⟨true, .rows [K.f .f32, K.f .f32, K.f .f32] []⟩, ⟨true, .rows [K.f .f32, K.f .f32, K.f .f32] []⟩, ⟨true, .rows [K.f .f32] []⟩, ⟨true, .rows [K.i .i64, K.i .i64, K.f .f32] []⟩]⟩ := by
  have h0 : evFn (cxS F tyl [(24, c_spec_l03Is F)] [] [] 0) Try.f59 false [V.agg [A.sl 0, A.sl 1, A.sl 2, A.sl 3]] [⟨false, .rows [K.f .f32, K.f .f32, K.f .f32] x0⟩, ⟨false, .rows [K.f .f32, K.f .f32, K.f .f32] x1⟩, ⟨false, .rows [K.f .f32] x2⟩, ⟨false, .rows [K.i .i64, K.i .i64, K.f .f32] x3⟩] = bif Pure.spec_l03Is_ok F x0 x1 x2 x3 then bif Bool.not (Pure.spec_l03Is F x0 x1 x2 x3) then some ⟨V.tup [(true, [A.sl 4, A.sl 5, A.sl 6, A.sl 7]), (false, [A.bool false])], none, [⟨true, .rows [K.f .f32, K.f .f32, K.f .f32] []⟩, ⟨true, .rows [K.f .f32, K.f .f32, K.f .f32] []⟩, ⟨true, .rows [K.f .f32] []⟩, ⟨true, .rows [K.i .i64, K.i .i64, K.f .f32] []⟩]⟩ else some ⟨V.tup [(true, [A.sl 0, A.sl 1, A.sl 2, A.sl 3]), (false, [A.bool true])], none, []⟩ else none := by kernel_rfl
  rw [h0]
  unfold Pure.spec_l03Give_way Pure.spec_l03Give_okB
  cases (Pure.spec_l03Is_ok F x0 x1 x2 x3) with
  | true =>
    cases (Pure.spec_l03Is F x0 x1 x2 x3) with
    | true =>
      intro h1 h2; first | rfl | cases h1 | cases h2
    | false =>
      intro h1 h2; first | rfl | cases h1 | cases h2
  | false =>
    intro h1 h2; first | rfl | cases h1 | cases h2
theorem ok2_spec_l03Give : TwoOK Try.prog 59 (c2_spec_l03Give real) := by
  intro args h b x y r news hc hb
  unfold c2_spec_l03Give at hc
  split at hc
  · rename_i x0 x1 x2 x3
    obtain ⟨rfl, rfl, rfl⟩ := two_ret hc
    cases hq : Pure.spec_l03Give_way real x0 x1 x2 x3 with
    | true =>
      rw [hq] at hb
      obtain ⟨hok, hr⟩ := ret_two hb
      have he := e2_spec_l03Give_true real x0 x1 x2 x3 hq hok
      rw [hr] at he
      exact holds_ev prog_ok (allOK_cons ok_spec_l03Is allOK_nil) Try.func59 rfl rfl smL_nil rfl he
    | false =>
      rw [hq] at hb
      obtain ⟨hok, hr⟩ := ret_two hb
      have he := e2_spec_l03Give_false real x0 x1 x2 x3 hq hok
      rw [hr] at he
      exact holds_ev prog_ok (allOK_cons ok_spec_l03Is allOK_nil) Try.func59 rfl rfl smL_nil rfl he
  · cases hc
def Pure.spec_l03Step (F : FOps) (x0 x1 x2 x3 : List (List Int)) (x4 x5 x6 x7 x8 x9 : Int) : Bool := bif Pure.spec_l03Is F (Pure.spec_l03Fly F x0 x1 x2 x3 x4 x5 x6 x7 x8) (Pure.spec_l03Fly_1 F x0 x1 x2 x3 x4 x5 x6 x7 x8) x2 x3 then Pure.spec_l03Give_way F (Pure.spec_l03All F (Pure.spec_l03Fly F x0 x1 x2 x3 x4 x5 x6 x7 x8) (Pure.spec_l03Fly_1 F x0 x1 x2 x3 x4 x5 x6 x7 x8) x2 x3 x9) (Pure.spec_l03Fly_1 F x0 x1 x2 x3 x4 x5 x6 x7 x8) x2 x3 else false
def Pure.spec_l03Step_1 (F : FOps) (x0 x1 x2 x3 : List (List Int)) (x4 x5 x6 x7 x8 x9 : Int) : List (List Int) := bif Pure.spec_l03Is F (Pure.spec_l03Fly F x0 x1 x2 x3 x4 x5 x6 x7 x8) (Pure.spec_l03Fly_1 F x0 x1 x2 x3 x4 x5 x6 x7 x8) x2 x3 then bif Pure.spec_l03Give_way F (Pure.spec_l03All F (Pure.spec_l03Fly F x0 x1 x2 x3 x4 x5 x6 x7 x8) (Pure.spec_l03Fly_1 F x0 x1 x2 x3 x4 x5 x6 x7 x8) x2 x3 x9) (Pure.spec_l03Fly_1 F x0 x1 x2 x3 x4 x5 x6 x7 x8) x2 x3 then Pure.spec_l03All F (Pure.spec_l03Fly F x0 x1 x2 x3 x4 x5 x6 x7 x8) (Pure.spec_l03Fly_1 F x0 x1 x2 x3 x4 x5 x6 x7 x8) x2 x3 x9 else [] else []
def Pure.spec_l03Step_2 (F : FOps) (x0 x1 x2 x3 : List (List Int)) (x4 x5 x6 x7 x8 x9 : Int) : List (List Int) := bif Pure.spec_l03Is F (Pure.spec_l03Fly F x0 x1 x2 x3 x4 x5 x6 x7 x8) (Pure.spec_l03Fly_1 F x0 x1 x2 x3 x4 x5 x6 x7 x8) x2 x3 then bif Pure.spec_l03Give_way F (Pure.spec_l03All F (Pure.spec_l03Fly F x0 x1 x2 x3 x4 x5 x6 x7 x8) (Pure.spec_l03Fly_1 F x0 x1 x2 x3 x4 x5 x6 x7 x8) x2 x3 x9) (Pure.spec_l03Fly_1 F x0 x1 x2 x3 x4 x5 x6 x7 x8) x2 x3 then Pure.spec_l03Fly_1 F x0 x1 x2 x3 x4 x5 x6 x7 x8 else [] else []
def Pure.spec_l03Step_3 (F : FOps) (x0 x1 x2 x3 : List (List Int)) (x4 x5 x6 x7 x8 x9 : Int) : List (List Int) := bif Pure.spec_l03Is F (Pure.spec_l03Fly F x0 x1 x2 x3 x4 x5 x6 x7 x8) (Pure.spec_l03Fly_1 F x0 x1 x2 x3 x4 x5 x6 x7 x8) x2 x3 then bif Pure.spec_l03Give_way F (Pure.spec_l03All F (Pure.spec_l03Fly F x0 x1 x2 x3 x4 x5 x6 x7 x8) (Pure.spec_l03Fly_1 F x0 x1 x2 x3 x4 x5 x6 x7 x8) x2 x3 x9) (Pure.spec_l03Fly_1 F x0 x1 x2 x3 x4 x5 x6 x7 x8) x2 x3 then x2 else [] else []
def Pure.spec_l03Step_4 (F : FOps) (x0 x1 x2 x3 : List (List Int)) (x4 x5 x6 x7 x8 x9 : Int) : List (List Int) := bif Pure.spec_l03Is F (Pure.spec_l03Fly F x0 x1 x2 x3 x4 x5 x6 x7 x8) (Pure.spec_l03Fly_1 F x0 x1 x2 x3 x4 x5 x6 x7 x8) x2 x3 then bif Pure.spec_l03Give_way F (Pure.spec_l03All F (Pure.spec_l03Fly F x0 x1 x2 x3 x4 x5 x6 x7 x8) (Pure.spec_l03Fly_1 F x0 x1 x2 x3 x4 x5 x6 x7 x8) x2 x3 x9) (Pure.spec_l03Fly_1 F x0 x1 x2 x3 x4 x5 x6 x7 x8) x2 x3 then x3 else [] else []
def Pure.spec_l03Step_ok (F : FOps) (x0 x1 x2 x3 : List (List Int)) (x4 x5 x6 x7 x8 x9 : Int) : Bool := bif Pure.spec_l03Own_ok F x0 x1 x2 x3 then bif Pure.spec_l03Fly_ok F x0 x1 x2 x3 x4 x5 x6 x7 x8 then bif Pure.spec_l03Is_ok F (Pure.spec_l03Fly F x0 x1 x2 x3 x4 x5 x6 x7 x8) (Pure.spec_l03Fly_1 F x0 x1 x2 x3 x4 x5 x6 x7 x8) x2 x3 then bif Pure.spec_l03Is F (Pure.spec_l03Fly F x0 x1 x2 x3 x4 x5 x6 x7 x8) (Pure.spec_l03Fly_1 F x0 x1 x2 x3 x4 x5 x6 x7 x8) x2 x3 then bif Pure.spec_l03All_ok F (Pure.spec_l03Fly F x0 x1 x2 x3 x4 x5 x6 x7 x8) (Pure.spec_l03Fly_1 F x0 x1 x2 x3 x4 x5 x6 x7 x8) x2 x3 x9 then bif Pure.spec_l03Give_way F (Pure.spec_l03All F (Pure.spec_l03Fly F x0 x1 x2 x3 x4 x5 x6 x7 x8) (Pure.spec_l03Fly_1 F x0 x1 x2 x3 x4 x5 x6 x7 x8) x2 x3 x9) (Pure.spec_l03Fly_1 F x0 x1 x2 x3 x4 x5 x6 x7 x8) x2 x3 then Pure.spec_l03Give_okA F (Pure.spec_l03All F (Pure.spec_l03Fly F x0 x1 x2 x3 x4 x5 x6 x7 x8) (Pure.spec_l03Fly_1 F x0 x1 x2 x3 x4 x5 x6 x7 x8) x2 x3 x9) (Pure.spec_l03Fly_1 F x0 x1 x2 x3 x4 x5 x6 x7 x8) x2 x3 else Pure.spec_l03Give_okB F (Pure.spec_l03All F (Pure.spec_l03Fly F x0 x1 x2 x3 x4 x5 x6 x7 x8) (Pure.spec_l03Fly_1 F x0 x1 x2 x3 x4 x5 x6 x7 x8) x2 x3 x9) (Pure.spec_l03Fly_1 F x0 x1 x2 x3 x4 x5 x6 x7 x8) x2 x3 else false else true else false else false else false
def c_spec_l03Step (F : FOps) : Con
  | [V.at (A.ptr 0 0 0), V.agg [A.fl .f32 x4, A.fl .f32 x5, A.fl .f32 x6], V.at (A.fl .f32 x7), V.at (A.fl .f32 x8), V.at (A.int .i64 x9)], [⟨false, .box [A.sl 1, A.sl 2, A.sl 3, A.sl 4]⟩, ⟨false, .rows [K.f .f32, K.f .f32, K.f .f32] x0⟩, ⟨false, .rows [K.f .f32, K.f .f32, K.f .f32] x1⟩, ⟨false, .rows [K.f .f32] x2⟩, ⟨false, .rows [K.i .i64, K.i .i64, K.f .f32] x3⟩] => some (Pure.spec_l03Step_ok F x0 x1 x2 x3 x4 x5 x6 x7 x8 x9, ⟨V.tup [(true, [A.sl 5, A.sl 6, A.sl 7, A.sl 8]), (false, [A.bool (Pure.spec_l03Step F x0 x1 x2 x3 x4 x5 x6 x7 x8 x9)])], none, [⟨true, .rows [K.f .f32, K.f .f32, K.f .f32] (Pure.spec_l03Step_1 F x0 x1 x2 x3 x4 x5 x6 x7 x8 x9)⟩, ⟨true, .rows [K.f .f32, K.f .f32, K.f .f32] (Pure.spec_l03Step_2 F x0 x1 x2 x3 x4 x5 x6 x7 x8 x9)⟩, ⟨true, .rows [K.f .f32] (Pure.spec_l03Step_3 F x0 x1 x2 x3 x4 x5 x6 x7 x8 x9)⟩, ⟨true, .rows [K.i .i64, K.i .i64, K.f .f32] (Pure.spec_l03Step_4 F x0 x1 x2 x3 x4 x5 x6 x7 x8 x9)⟩]⟩)
  | _, _ => none
theorem e_spec_l03Step (F : FOps) (x0 x1 x2 x3 : List (List Int)) (x4 x5 x6 x7 x8 x9 : Int) : Pure.spec_l03Step_ok F x0 x1 x2 x3 x4 x5 x6 x7 x8 x9 = true → evFn (cxS F tyl [(44, c_spec_l03Own F), (57, c_spec_l03Fly F), (24, c_spec_l03Is F), (58, c_spec_l03All F)] [57, 58] [] 0 [(59, c2_spec_l03Give F)]) Try.f27 false [V.at (A.ptr 0 0 0), V.agg [A.fl .f32 x4, A.fl .f32 x5, A.fl .f32 x6], V.at (A.fl .f32 x7), V.at (A.fl .f32 x8), V.at (A.int .i64 x9)] [⟨false, .box [A.sl 1, A.sl 2, A.sl 3, A.sl 4]⟩, ⟨false, .rows [K.f .f32, K.f .f32, K.f .f32] x0⟩, ⟨false, .rows [K.f .f32, K.f .f32, K.f .f32] x1⟩, ⟨false, .rows [K.f .f32] x2⟩, ⟨false, .rows [K.i .i64, K.i .i64, K.f .f32] x3⟩] = some ⟨V.tup [(true, [A.sl 5, A.sl 6, A.sl 7, A.sl 8]), (false, [A.bool (Pure.spec_l03Step F x0 x1 x2 x3 x4 x5 x6 x7 x8 x9)])], none, [⟨true, .rows [K.f .f32, K.f .f32, K.f .f32] (Pure.spec_l03Step_1 F x0 x1 x2 x3 x4 x5 x6 x7 x8 x9)⟩, ⟨true, .rows [K.f .f32, K.f .f32, K.f .f32] (Pure.spec_l03Step_2 F x0 x1 x2 x3 x4 x5 x6 x7 x8 x9)⟩, ⟨true, .rows [K.f .f32] (Pure.spec_l03Step_3 F x0 x1 x2 x3 x4 x5 x6 x7 x8 x9)⟩, ⟨true, .rows [K.i .i64, K.i .i64, K.f .f32] (Pure.spec_l03Step_4 F x0 x1 x2 x3 x4 x5 x6 x7 x8 x9)⟩]⟩ := by
  have h0 : evFn (cxS F tyl [(44, c_spec_l03Own F), (57, c_spec_l03Fly F), (24, c_spec_l03Is F), (58, c_spec_l03All F)] [57, 58] [] 0 [(59, c2_spec_l03Give F)]) Try.f27 false [V.at (A.ptr 0 0 0), V.agg [A.fl .f32 x4, A.fl .f32 x5, A.fl .f32 x6], V.at (A.fl .f32 x7), V.at (A.fl .f32 x8), V.at (A.int .i64 x9)] [⟨false, .box [A.sl 1, A.sl 2, A.sl 3, A.sl 4]⟩, ⟨false, .rows [K.f .f32, K.f .f32, K.f .f32] x0⟩, ⟨false, .rows [K.f .f32, K.f .f32, K.f .f32] x1⟩, ⟨false, .rows [K.f .f32] x2⟩, ⟨false, .rows [K.i .i64, K.i .i64, K.f .f32] x3⟩] = bif Pure.spec_l03Own_ok F x0 x1 x2 x3 then bif Pure.spec_l03Fly_ok F x0 x1 x2 x3 x4 x5 x6 x7 x8 then bif Pure.spec_l03Is_ok F (Pure.spec_l03Fly F x0 x1 x2 x3 x4 x5 x6 x7 x8) (Pure.spec_l03Fly_1 F x0 x1 x2 x3 x4 x5 x6 x7 x8) x2 x3 then bif Bool.not (Pure.spec_l03Is F (Pure.spec_l03Fly F x0 x1 x2 x3 x4 x5 x6 x7 x8) (Pure.spec_l03Fly_1 F x0 x1 x2 x3 x4 x5 x6 x7 x8) x2 x3) then some ⟨V.tup [(true, [A.sl 5, A.sl 6, A.sl 7, A.sl 8]), (false, [A.bool false])], none, [⟨true, .rows [K.f .f32, K.f .f32, K.f .f32] []⟩, ⟨true, .rows [K.f .f32, K.f .f32, K.f .f32] []⟩, ⟨true, .rows [K.f .f32] []⟩, ⟨true, .rows [K.i .i64, K.i .i64, K.f .f32] []⟩]⟩ else bif Pure.spec_l03All_ok F (Pure.spec_l03Fly F x0 x1 x2 x3 x4 x5 x6 x7 x8) (Pure.spec_l03Fly_1 F x0 x1 x2 x3 x4 x5 x6 x7 x8) x2 x3 x9 then bif Pure.spec_l03Give_way F (Pure.spec_l03All F (Pure.spec_l03Fly F x0 x1 x2 x3 x4 x5 x6 x7 x8) (Pure.spec_l03Fly_1 F x0 x1 x2 x3 x4 x5 x6 x7 x8) x2 x3 x9) (Pure.spec_l03Fly_1 F x0 x1 x2 x3 x4 x5 x6 x7 x8) x2 x3 then bif Pure.spec_l03Give_okA F (Pure.spec_l03All F (Pure.spec_l03Fly F x0 x1 x2 x3 x4 x5 x6 x7 x8) (Pure.spec_l03Fly_1 F x0 x1 x2 x3 x4 x5 x6 x7 x8) x2 x3 x9) (Pure.spec_l03Fly_1 F x0 x1 x2 x3 x4 x5 x6 x7 x8) x2 x3 then some ⟨V.tup [(true, [A.sl 5, A.sl 6, A.sl 7, A.sl 8]), (false, [A.bool true])], none, [⟨true, .rows [K.f .f32, K.f .f32, K.f .f32] (Pure.spec_l03All F (Pure.spec_l03Fly F x0 x1 x2 x3 x4 x5 x6 x7 x8) (Pure.spec_l03Fly_1 F x0 x1 x2 x3 x4 x5 x6 x7 x8) x2 x3 x9)⟩, ⟨true, .rows [K.f .f32, K.f .f32, K.f .f32] (Pure.spec_l03Fly_1 F x0 x1 x2 x3 x4 x5 x6 x7 x8)⟩, ⟨true, .rows [K.f .f32] x2⟩, ⟨true, .rows [K.i .i64, K.i .i64, K.f .f32] x3⟩]⟩ else none else bif Pure.spec_l03Give_okB F (Pure.spec_l03All F (Pure.spec_l03Fly F x0 x1 x2 x3 x4 x5 x6 x7 x8) (Pure.spec_l03Fly_1 F x0 x1 x2 x3 x4 x5 x6 x7 x8) x2 x3 x9) (Pure.spec_l03Fly_1 F x0 x1 x2 x3 x4 x5 x6 x7 x8) x2 x3 then some ⟨V.tup [(true, [A.sl 5, A.sl 6, A.sl 7, A.sl 8]), (false, [A.bool false])], none, [⟨true, .rows [K.f .f32, K.f .f32, K.f .f32] []⟩, ⟨true, .rows [K.f .f32, K.f .f32, K.f .f32] []⟩, ⟨true, .rows [K.f .f32] []⟩, ⟨true, .rows [K.i .i64, K.i .i64, K.f .f32] []⟩]⟩ else none else none else none else none else none := by kernel_rfl
  rw [h0]
  unfold Pure.spec_l03Step Pure.spec_l03Step_1 Pure.spec_l03Step_2 Pure.spec_l03Step_3 Pure.spec_l03Step_4 Pure.spec_l03Step_ok
  cases (Pure.spec_l03Own_ok F x0 x1 x2 x3) with
  | true =>
    cases (Pure.spec_l03Fly_ok F x0 x1 x2 x3 x4 x5 x6 x7 x8) with
    | true =>
      cases (Pure.spec_l03Is_ok F (Pure.spec_l03Fly F x0 x1 x2 x3 x4 x5 x6 x7 x8) (Pure.spec_l03Fly_1 F x0 x1 x2 x3 x4 x5 x6 x7 x8) x2 x3) with
      | true =>
        cases (Pure.spec_l03Is F (Pure.spec_l03Fly F x0 x1 x2 x3 x4 x5 x6 x7 x8) (Pure.spec_l03Fly_1 F x0 x1 x2 x3 x4 x5 x6 x7 x8) x2 x3) with
        | true =>
          cases (Pure.spec_l03All_ok F (Pure.spec_l03Fly F x0 x1 x2 x3 x4 x5 x6 x7 x8) (Pure.spec_l03Fly_1 F x0 x1 x2 x3 x4 x5 x6 x7 x8) x2 x3 x9) with
          | true =>
            cases (Pure.spec_l03Give_way F (Pure.spec_l03All F (Pure.spec_l03Fly F x0 x1 x2 x3 x4 x5 x6 x7 x8) (Pure.spec_l03Fly_1 F x0 x1 x2 x3 x4 x5 x6 x7 x8) x2 x3 x9) (Pure.spec_l03Fly_1 F x0 x1 x2 x3 x4 x5 x6 x7 x8) x2 x3) with
            | true =>
              cases (Pure.spec_l03Give_okA F (Pure.spec_l03All F (Pure.spec_l03Fly F x0 x1 x2 x3 x4 x5 x6 x7 x8) (Pure.spec_l03Fly_1 F x0 x1 x2 x3 x4 x5 x6 x7 x8) x2 x3 x9) (Pure.spec_l03Fly_1 F x0 x1 x2 x3 x4 x5 x6 x7 x8) x2 x3) with
              | true =>
                intro _; rfl
              | false =>
                intro h; exact absurd h Bool.false_ne_true
            | false =>
              cases (Pure.spec_l03Give_okB F (Pure.spec_l03All F (Pure.spec_l03Fly F x0 x1 x2 x3 x4 x5 x6 x7 x8) (Pure.spec_l03Fly_1 F x0 x1 x2 x3 x4 x5 x6 x7 x8) x2 x3 x9) (Pure.spec_l03Fly_1 F x0 x1 x2 x3 x4 x5 x6 x7 x8) x2 x3) with
              | true =>
                intro _; rfl
              | false =>
                intro h; exact absurd h Bool.false_ne_true
          | false =>
            intro h; exact absurd h Bool.false_ne_true
        | false =>
          intro _; rfl
      | false =>
        intro h; exact absurd h Bool.false_ne_true
    | false =>
      intro h; exact absurd h Bool.false_ne_true
  | false =>
    intro h; exact absurd h Bool.false_ne_true
theorem ok_spec_l03Step : CallOK Try.prog 27 (c_spec_l03Step real) := by
  refine callOK_of fun args h ret hc => ?_
  unfold c_spec_l03Step at hc
  split at hc
  · rename_i x4 x5 x6 x7 x8 x9 x0 x1 x2 x3
    obtain ⟨hok, rfl⟩ := some_ret hc
    exact holds_ev2 prog_ok (allOK_cons ok_spec_l03Own (allOK_cons ok_spec_l03Fly (allOK_cons ok_spec_l03Is (allOK_cons ok_spec_l03All allOK_nil)))) (allTwo_cons ok2_spec_l03Give allTwo_nil) Try.func27 rfl rfl smL_nil rfl (e_spec_l03Step real x0 x1 x2 x3 x4 x5 x6 x7 x8 x9 hok)
  · cases hc
def Pure.laws_sameFloat (F : FOps) (x0 x1 : Int) : Bool := bif F.cmp .neq .f64 x0 x0 then F.cmp .neq .f64 x1 x1 else bif F.cmp .neq .f64 x1 x1 then false else bif F.cmp .eql .f64 x0 0 then bif F.cmp .eql .f64 x1 0 then (F.cmp .gtr .f64 (F.bin .quo .f64 4607182418800017408 x0) 0) == (F.cmp .gtr .f64 (F.bin .quo .f64 4607182418800017408 x1) 0) else F.cmp .eql .f64 x0 x1 else F.cmp .eql .f64 x0 x1
def c_laws_sameFloat (F : FOps) : Con
  | [V.at (A.fl .f64 x0), V.at (A.fl .f64 x1)], [] => some (true, ⟨V.at (A.bool (Pure.laws_sameFloat F x0 x1)), none, []⟩)
  | _, _ => none
theorem e_laws_sameFloat (F : FOps) (x0 x1 : Int) : evFn (cxS F tyl [] [] [] 0) Try.f54 false [V.at (A.fl .f64 x0), V.at (A.fl .f64 x1)] [] = some ⟨V.at (A.bool (Pure.laws_sameFloat F x0 x1)), none, []⟩ := by
  have h0 : evFn (cxS F tyl [] [] [] 0) Try.f54 false [V.at (A.fl .f64 x0), V.at (A.fl .f64 x1)] [] = bif F.cmp .neq .f64 x0 x0 then bif F.cmp .neq .f64 x0 x0 then some ⟨V.at (A.bool (F.cmp .neq .f64 x1 x1)), none, []⟩ else some ⟨V.at (A.bool false), none, []⟩ else bif F.cmp .neq .f64 x1 x1 then bif F.cmp .neq .f64 x0 x0 then some ⟨V.at (A.bool (F.cmp .neq .f64 x1 x1)), none, []⟩ else some ⟨V.at (A.bool false), none, []⟩ else bif F.cmp .eql .f64 x0 0 then bif F.cmp .eql .f64 x1 0 then some ⟨V.at (A.bool ((F.cmp .gtr .f64 (F.bin .quo .f64 4607182418800017408 x0) 0) == (F.cmp .gtr .f64 (F.bin .quo .f64 4607182418800017408 x1) 0))), none, []⟩ else some ⟨V.at (A.bool (F.cmp .eql .f64 x0 x1)), none, []⟩ else some ⟨V.at (A.bool (F.cmp .eql .f64 x0 x1)), none, []⟩ := by kernel_rfl
  rw [h0]
  unfold Pure.laws_sameFloat
  cases (F.cmp .neq .f64 x0 x0) with
  | true =>
    rfl
  | false =>
    cases (F.cmp .neq .f64 x1 x1) with
    | true =>
      rfl
    | false =>
      cases (F.cmp .eql .f64 x0 0) with
      | true =>
        cases (F.cmp .eql .f64 x1 0) with
        | true =>
          rfl
        | false =>
          rfl
      | false =>
        rfl
theorem ok_laws_sameFloat : CallOK Try.prog 54 (c_laws_sameFloat real) := by
  refine callOK_of fun args h ret hc => ?_
  unfold c_laws_sameFloat at hc
  split at hc
  · rename_i x0 x1
    obtain ⟨_, rfl⟩ := some_ret hc
    exact holds_ev prog_ok allOK_nil Try.func54 rfl rfl smL_nil rfl (e_laws_sameFloat real x0 x1)
  · cases hc
def Pure.laws_eqVector (F : FOps) (x0 x1 x2 x3 x4 x5 : Int) : Bool := bif Pure.laws_sameFloat F (F.conv .f32 .f64 x0) (F.conv .f32 .f64 x3) then bif Pure.laws_sameFloat F (F.conv .f32 .f64 x1) (F.conv .f32 .f64 x4) then Pure.laws_sameFloat F (F.conv .f32 .f64 x2) (F.conv .f32 .f64 x5) else false else false
def Pure.laws_eqVector_ok (F : FOps) (x0 x1 x2 x3 x4 x5 : Int) : Bool := bif F.convOk .f32 .f64 x0 then bif F.convOk .f32 .f64 x3 then bif Pure.laws_sameFloat F (F.conv .f32 .f64 x0) (F.conv .f32 .f64 x3) then bif F.convOk .f32 .f64 x1 then bif F.convOk .f32 .f64 x4 then bif Pure.laws_sameFloat F (F.conv .f32 .f64 x1) (F.conv .f32 .f64 x4) then bif F.convOk .f32 .f64 x2 then F.convOk .f32 .f64 x5 else false else true else false else false else true else false else false
def c_laws_eqVector (F : FOps) : Con
  | [V.agg [A.fl .f32 x0, A.fl .f32 x1, A.fl .f32 x2], V.agg [A.fl .f32 x3, A.fl .f32 x4, A.fl .f32 x5]], [] => some (Pure.laws_eqVector_ok F x0 x1 x2 x3 x4 x5, ⟨V.at (A.bool (Pure.laws_eqVector F x0 x1 x2 x3 x4 x5)), none, []⟩)
  | _, _ => none
theorem e_laws_eqVector (F : FOps) (x0 x1 x2 x3 x4 x5 : Int) : Pure.laws_eqVector_ok F x0 x1 x2 x3 x4 x5 = true → evFn (cxS F tyl [(54, c_laws_sameFloat F)] [] [] 0) Try.f67 false [V.agg [A.fl .f32 x0, A.fl .f32 x1, A.fl .f32 x2], V.agg [A.fl .f32 x3, A.fl .f32 x4, A.fl .f32 x5]] [] = some ⟨V.at (A.bool (Pure.laws_eqVector F x0 x1 x2 x3 x4 x5)), none, []⟩ := by
  have h0 : evFn (cxS F tyl [(54, c_laws_sameFloat F)] [] [] 0) Try.f67 false [V.agg [A.fl .f32 x0, A.fl .f32 x1, A.fl .f32 x2], V.agg [A.fl .f32 x3, A.fl .f32 x4, A.fl .f32 x5]] [] = bif F.convOk .f32 .f64 x0 then bif F.convOk .f32 .f64 x3 then bif Bool.not (Pure.laws_sameFloat F (F.conv .f32 .f64 x0) (F.conv .f32 .f64 x3)) then some ⟨V.at (A.bool false), none, []⟩ else bif F.convOk .f32 .f64 x1 then bif F.convOk .f32 .f64 x4 then bif Bool.not (Pure.laws_sameFloat F (F.conv .f32 .f64 x1) (F.conv .f32 .f64 x4)) then some ⟨V.at (A.bool false), none, []⟩ else bif F.convOk .f32 .f64 x2 then bif F.convOk .f32 .f64 x5 then bif Bool.not (Pure.laws_sameFloat F (F.conv .f32 .f64 x2) (F.conv .f32 .f64 x5)) then some ⟨V.at (A.bool false), none, []⟩ else some ⟨V.at (A.bool true), none, []⟩ else none else none else none else none else none else none := by kernel_rfl
  rw [h0]
  unfold Pure.laws_eqVector Pure.laws_eqVector_ok
  cases (F.convOk .f32 .f64 x0) with
  | true =>
    cases (F.convOk .f32 .f64 x3) with
    | true =>
      cases (Pure.laws_sameFloat F (F.conv .f32 .f64 x0) (F.conv .f32 .f64 x3)) with
      | true =>
        cases (F.convOk .f32 .f64 x1) with
        | true =>
          cases (F.convOk .f32 .f64 x4) with
          | true =>
            cases (Pure.laws_sameFloat F (F.conv .f32 .f64 x1) (F.conv .f32 .f64 x4)) with
            | true =>
              cases (F.convOk .f32 .f64 x2) with
              | true =>
                cases (F.convOk .f32 .f64 x5) with
                | true =>
                  cases (Pure.laws_sameFloat F (F.conv .f32 .f64 x2) (F.conv .f32 .f64 x5)) with
                  | true =>
                    intro _; rfl
                  | false =>
                    intro _; rfl
                | false =>
                  intro h; exact absurd h Bool.false_ne_true
              | false =>
                intro h; exact absurd h Bool.false_ne_true
            | false =>
              intro _; rfl
          | false =>
            intro h; exact absurd h Bool.false_ne_true
        | false =>
          intro h; exact absurd h Bool.false_ne_true
      | false =>
        intro _; rfl
    | false =>
      intro h; exact absurd h Bool.false_ne_true
  | false =>
    intro h; exact absurd h Bool.false_ne_true
theorem ok_laws_eqVector : CallOK Try.prog 67 (c_laws_eqVector real) := by
  refine callOK_of fun args h ret hc => ?_
  unfold c_laws_eqVector at hc
  split at hc
  · rename_i x0 x1 x2 x3 x4 x5
    obtain ⟨hok, rfl⟩ := some_ret hc
    exact holds_ev prog_ok (allOK_cons ok_laws_sameFloat allOK_nil) Try.func67 rfl rfl smL_nil rfl (e_laws_eqVector real x0 x1 x2 x3 x4 x5 hok)
  · cases hc
def Pure.laws_eqVectorS_L0 (F : FOps) (y1 y2 : List (List Int)) : Nat → Int → (Bool × Bool)
  | 0, _ => (false, false)
  | n + 1, y0 => bif (decide (y0 < (Int.ofNat y1.length))) then (bif (decide (0 ≤ y0)) then (bif (decide (y0 < (Int.ofNat y1.length))) then (bif (decide (0 ≤ y0)) then (bif (decide (y0 < (Int.ofNat y2.length))) then (bif (Pure.laws_eqVector_ok F ((y1.getD y0.toNat []).getD 0 0) ((y1.getD y0.toNat []).getD 1 0) ((y1.getD y0.toNat []).getD 2 0) ((y2.getD y0.toNat []).getD 0 0) ((y2.getD y0.toNat []).getD 1 0) ((y2.getD y0.toNat []).getD 2 0)) then (bif (Pure.laws_eqVector F ((y1.getD y0.toNat []).getD 0 0) ((y1.getD y0.toNat []).getD 1 0) ((y1.getD y0.toNat []).getD 2 0) ((y2.getD y0.toNat []).getD 0 0) ((y2.getD y0.toNat []).getD 1 0) ((y2.getD y0.toNat []).getD 2 0)) then (Pure.laws_eqVectorS_L0 F y1 y2 n (IntKind.wrap .i64 (y0 + 1))) else ((true, true))) else ((false, false))) else ((false, false))) else ((false, false))) else ((false, false))) else ((false, false))) else ((true, false))
def R_laws_eqVectorS_L0 (y1 y2 : List (List Int)) (r : (Bool × Bool)) : Bool × Ends := ((r).1, .two (r).2 (.one Ex.normal [V.at A.undef] [⟨false, .rows [K.f .f32, K.f .f32, K.f .f32] y1⟩, ⟨false, .rows [K.f .f32, K.f .f32, K.f .f32] y2⟩]) (.one Ex.ret [V.at (A.bool false)] [⟨false, .rows [K.f .f32, K.f .f32, K.f .f32] y1⟩, ⟨false, .rows [K.f .f32, K.f .f32, K.f .f32] y2⟩]))
def S_laws_eqVectorS_L0 (F : FOps) : Sm := ⟨[0, 1, 5], [31, 31, 3], [4], fun vals hp => match vals, hp with
  | [V.at (A.sl 0), V.at (A.sl 1), V.at (A.int .i64 y0)], [⟨false, .rows [K.f .f32, K.f .f32, K.f .f32] y1⟩, ⟨false, .rows [K.f .f32, K.f .f32, K.f .f32] y2⟩] => some (R_laws_eqVectorS_L0 y1 y2 (Pure.laws_eqVectorS_L0 F y1 y2 ((Int.ofNat y1.length) - y0 + 1).toNat y0))
  | _, _ => none⟩
theorem l_laws_eqVectorS_L0 (F : FOps) (y1 y2 : List (List Int)) : ∀ (fuel : Nat) (y0 : Int), (Pure.laws_eqVectorS_L0 F y1 y2 fuel y0).1 = true → loopOf (cxS F tyl [(67, c_laws_eqVector F)] [] [] 0) 2 27 0 [0, 1, 5] [31, 31, 3] [4] (loopB 0 (codeOf Try.f36)) fuel [V.at (A.sl 0), V.at (A.sl 1), V.at (A.int .i64 y0)] [⟨false, .rows [K.f .f32, K.f .f32, K.f .f32] y1⟩, ⟨false, .rows [K.f .f32, K.f .f32, K.f .f32] y2⟩] = resOf (R_laws_eqVectorS_L0 y1 y2 (Pure.laws_eqVectorS_L0 F y1 y2 fuel y0)) := by
  intro fuel
  induction fuel with
  | zero => intro y0 h; exact absurd h Bool.false_ne_true
  | succ n ih =>
    intro y0
    have h0 : roundOf (cxS F tyl [(67, c_laws_eqVector F)] [] [] 0) 2 27 0 [0, 1, 5] [31, 31, 3] [4] (loopB 0 (codeOf Try.f36)) [V.at (A.sl 0), V.at (A.sl 1), V.at (A.int .i64 y0)] [⟨false, .rows [K.f .f32, K.f .f32, K.f .f32] y1⟩, ⟨false, .rows [K.f .f32, K.f .f32, K.f .f32] y2⟩] = (bif decide (y0 < (Int.ofNat y1.length)) then bif decide (0 ≤ y0) then bif decide (y0 < (Int.ofNat y1.length)) then bif decide (0 ≤ y0) then bif decide (y0 < (Int.ofNat y2.length)) then bif Pure.laws_eqVector_ok F ((y1.getD y0.toNat []).getD 0 0) ((y1.getD y0.toNat []).getD 1 0) ((y1.getD y0.toNat []).getD 2 0) ((y2.getD y0.toNat []).getD 0 0) ((y2.getD y0.toNat []).getD 1 0) ((y2.getD y0.toNat []).getD 2 0) then bif Bool.not (Pure.laws_eqVector F ((y1.getD y0.toNat []).getD 0 0) ((y1.getD y0.toNat []).getD 1 0) ((y1.getD y0.toNat []).getD 2 0) ((y2.getD y0.toNat []).getD 0 0) ((y2.getD y0.toNat []).getD 1 0) ((y2.getD y0.toNat []).getD 2 0)) then some (false, (Ex.ret, ([V.at (A.bool false)], [⟨false, .rows [K.f .f32, K.f .f32, K.f .f32] y1⟩, ⟨false, .rows [K.f .f32, K.f .f32, K.f .f32] y2⟩]))) else some (true, (Ex.normal, ([V.at (A.sl 0), V.at (A.sl 1), V.at (A.int .i64 (IntKind.wrap .i64 (y0 + 1)))], [⟨false, .rows [K.f .f32, K.f .f32, K.f .f32] y1⟩, ⟨false, .rows [K.f .f32, K.f .f32, K.f .f32] y2⟩]))) else none else none else none else none else none else some (false, (Ex.normal, ([V.at A.undef], [⟨false, .rows [K.f .f32, K.f .f32, K.f .f32] y1⟩, ⟨false, .rows [K.f .f32, K.f .f32, K.f .f32] y2⟩])))) := by kernel_rfl
    unfold loopOf
    rw [h0]
    unfold Pure.laws_eqVectorS_L0
    cases (decide (y0 < (Int.ofNat y1.length))) with
    | true =>
      cases (decide (0 ≤ y0)) with
      | true =>
        cases (decide (y0 < (Int.ofNat y2.length))) with
        | true =>
          cases (Pure.laws_eqVector_ok F ((y1.getD y0.toNat []).getD 0 0) ((y1.getD y0.toNat []).getD 1 0) ((y1.getD y0.toNat []).getD 2 0) ((y2.getD y0.toNat []).getD 0 0) ((y2.getD y0.toNat []).getD 1 0) ((y2.getD y0.toNat []).getD 2 0)) with
          | true =>
            cases (Pure.laws_eqVector F ((y1.getD y0.toNat []).getD 0 0) ((y1.getD y0.toNat []).getD 1 0) ((y1.getD y0.toNat []).getD 2 0) ((y2.getD y0.toNat []).getD 0 0) ((y2.getD y0.toNat []).getD 1 0) ((y2.getD y0.toNat []).getD 2 0)) with
            | true =>
              exact ih _
            | false =>
              intro _; rfl
          | false =>
            intro h; exact absurd h Bool.false_ne_true
        | false =>
          intro h; exact absurd h Bool.false_ne_true
      | false =>
        intro h; exact absurd h Bool.false_ne_true
    | false =>
      intro _; rfl
theorem t_laws_eqVectorS_L0 : SmTo Try.prog 2 27 (S_laws_eqVectorS_L0 real) 0 (.loop (loopB 0 (codeOf Try.f36))) := by
  refine smTo_ev (cl := [(67, c_laws_eqVector real)]) (ef := []) (sm := []) (un := 0) prog_ok (allOK_cons ok_laws_eqVector allOK_nil) smL_nil ?_
  intro vals hp q r h hq
  unfold S_laws_eqVectorS_L0 at h
  dsimp only at h
  split at h
  · rename_i y0 y1 y2
    obtain rfl := Option.some.inj h
    have h1 := hq
    unfold resOf at h1
    rw [chk_some] at h1
    exact ⟨_, (l_laws_eqVectorS_L0 real y1 y2 _ y0 h1.1).trans hq⟩
  · cases h
def Pure.laws_eqVectorS (F : FOps) (x0 x1 : List (List Int)) : Bool := bif (Int.ofNat x0.length) != (Int.ofNat x1.length) then false else bif Prod.snd (Pure.laws_eqVectorS_L0 F x0 x1 (Nat.succ (x0.length + 0)) 0) then false else true
def Pure.laws_eqVectorS_ok (F : FOps) (x0 x1 : List (List Int)) : Bool := bif (Int.ofNat x0.length) != (Int.ofNat x1.length) then true else Prod.fst (Pure.laws_eqVectorS_L0 F x0 x1 (Nat.succ (x0.length + 0)) 0)
def c_laws_eqVectorS (F : FOps) : Con
  | [V.at (A.sl 0), V.at (A.sl 1)], [⟨false, .rows [K.f .f32, K.f .f32, K.f .f32] x0⟩, ⟨false, .rows [K.f .f32, K.f .f32, K.f .f32] x1⟩] => some (Pure.laws_eqVectorS_ok F x0 x1, ⟨V.at (A.bool (Pure.laws_eqVectorS F x0 x1)), none, []⟩)
  | _, _ => none
theorem e_laws_eqVectorS (F : FOps) (x0 x1 : List (List Int)) : Pure.laws_eqVectorS_ok F x0 x1 = true → evFn (cxS F tyl [(67, c_laws_eqVector F)] [] [(0, S_laws_eqVectorS_L0 F)] 0) Try.f36 false [V.at (A.sl 0), V.at (A.sl 1)] [⟨false, .rows [K.f .f32, K.f .f32, K.f .f32] x0⟩, ⟨false, .rows [K.f .f32, K.f .f32, K.f .f32] x1⟩] = some ⟨V.at (A.bool (Pure.laws_eqVectorS F x0 x1)), none, []⟩ := by
  have h0 : evFn (cxS F tyl [(67, c_laws_eqVector F)] [] [(0, S_laws_eqVectorS_L0 F)] 0) Try.f36 false [V.at (A.sl 0), V.at (A.sl 1)] [⟨false, .rows [K.f .f32, K.f .f32, K.f .f32] x0⟩, ⟨false, .rows [K.f .f32, K.f .f32, K.f .f32] x1⟩] = bif (Int.ofNat x0.length) != (Int.ofNat x1.length) then some ⟨V.at (A.bool false), none, []⟩ else bif Prod.fst (Pure.laws_eqVectorS_L0 F x0 x1 (Nat.succ (x0.length + 0)) 0) then bif Prod.snd (Pure.laws_eqVectorS_L0 F x0 x1 (Nat.succ (x0.length + 0)) 0) then some ⟨V.at (A.bool false), none, []⟩ else some ⟨V.at (A.bool true), none, []⟩ else none := by kernel_rfl
  rw [h0]
  unfold Pure.laws_eqVectorS Pure.laws_eqVectorS_ok
  cases ((Int.ofNat x0.length) != (Int.ofNat x1.length)) with
  | true =>
    intro _; rfl
  | false =>
    cases (Prod.fst (Pure.laws_eqVectorS_L0 F x0 x1 (Nat.succ (x0.length + 0)) 0)) with
    | true =>
      cases (Prod.snd (Pure.laws_eqVectorS_L0 F x0 x1 (Nat.succ (x0.length + 0)) 0)) with
      | true =>
        intro _; rfl
      | false =>
        intro _; rfl
    | false =>
      intro h; exact absurd h Bool.false_ne_true
theorem ok_laws_eqVectorS : CallOK Try.prog 36 (c_laws_eqVectorS real) := by
  refine callOK_of fun args h ret hc => ?_
  unfold c_laws_eqVectorS at hc
  split at hc
  · rename_i x0 x1
    obtain ⟨hok, rfl⟩ := some_ret hc
    exact holds_ev prog_ok (allOK_cons ok_laws_eqVector allOK_nil) Try.func36 rfl rfl (smL_cons (body := .loop (loopB 0 (codeOf Try.f36))) (by kernel_rfl) t_laws_eqVectorS_L0 smL_nil) rfl (e_laws_eqVectorS real x0 x1 hok)
  · cases hc
def Pure.laws_eqFloat32S_L0 (F : FOps) (y1 y2 : List (List Int)) : Nat → Int → (Bool × Bool)
  | 0, _ => (false, false)
  | n + 1, y0 => bif (decide (y0 < (Int.ofNat y1.length))) then (bif (decide (0 ≤ y0)) then (bif (decide (y0 < (Int.ofNat y1.length))) then (bif (F.convOk .f32 .f64 ((y1.getD y0.toNat []).getD 0 0)) then (bif (decide (0 ≤ y0)) then (bif (decide (y0 < (Int.ofNat y2.length))) then (bif (F.convOk .f32 .f64 ((y2.getD y0.toNat []).getD 0 0)) then (bif (Pure.laws_sameFloat F (F.conv .f32 .f64 ((y1.getD y0.toNat []).getD 0 0)) (F.conv .f32 .f64 ((y2.getD y0.toNat []).getD 0 0))) then (Pure.laws_eqFloat32S_L0 F y1 y2 n (IntKind.wrap .i64 (y0 + 1))) else ((true, true))) else ((false, false))) else ((false, false))) else ((false, false))) else ((false, false))) else ((false, false))) else ((false, false))) else ((true, false))
def R_laws_eqFloat32S_L0 (y1 y2 : List (List Int)) (r : (Bool × Bool)) : Bool × Ends := ((r).1, .two (r).2 (.one Ex.normal [V.at A.undef] [⟨false, .rows [K.f .f32] y1⟩, ⟨false, .rows [K.f .f32] y2⟩]) (.one Ex.ret [V.at (A.bool false)] [⟨false, .rows [K.f .f32] y1⟩, ⟨false, .rows [K.f .f32] y2⟩]))
def S_laws_eqFloat32S_L0 (F : FOps) : Sm := ⟨[0, 1, 5], [23, 23, 3], [4], fun vals hp => match vals, hp with
  | [V.at (A.sl 0), V.at (A.sl 1), V.at (A.int .i64 y0)], [⟨false, .rows [K.f .f32] y1⟩, ⟨false, .rows [K.f .f32] y2⟩] => some (R_laws_eqFloat32S_L0 y1 y2 (Pure.laws_eqFloat32S_L0 F y1 y2 ((Int.ofNat y1.length) - y0 + 1).toNat y0))
  | _, _ => none⟩
theorem l_laws_eqFloat32S_L0 (F : FOps) (y1 y2 : List (List Int)) : ∀ (fuel : Nat) (y0 : Int), (Pure.laws_eqFloat32S_L0 F y1 y2 fuel y0).1 = true → loopOf (cxS F tyl [(54, c_laws_sameFloat F)] [] [] 0) 2 29 0 [0, 1, 5] [23, 23, 3] [4] (loopB 0 (codeOf Try.f18)) fuel [V.at (A.sl 0), V.at (A.sl 1), V.at (A.int .i64 y0)] [⟨false, .rows [K.f .f32] y1⟩, ⟨false, .rows [K.f .f32] y2⟩] = resOf (R_laws_eqFloat32S_L0 y1 y2 (Pure.laws_eqFloat32S_L0 F y1 y2 fuel y0)) := by
  intro fuel
  induction fuel with
  | zero => intro y0 h; exact absurd h Bool.false_ne_true
  | succ n ih =>
    intro y0
    have h0 : roundOf (cxS F tyl [(54, c_laws_sameFloat F)] [] [] 0) 2 29 0 [0, 1, 5] [23, 23, 3] [4] (loopB 0 (codeOf Try.f18)) [V.at (A.sl 0), V.at (A.sl 1), V.at (A.int .i64 y0)] [⟨false, .rows [K.f .f32] y1⟩, ⟨false, .rows [K.f .f32] y2⟩] = (bif decide (y0 < (Int.ofNat y1.length)) then bif decide (0 ≤ y0) then bif decide (y0 < (Int.ofNat y1.length)) then bif F.convOk .f32 .f64 ((y1.getD y0.toNat []).getD 0 0) then bif decide (0 ≤ y0) then bif decide (y0 < (Int.ofNat y2.length)) then bif F.convOk .f32 .f64 ((y2.getD y0.toNat []).getD 0 0) then bif Bool.not (Pure.laws_sameFloat F (F.conv .f32 .f64 ((y1.getD y0.toNat []).getD 0 0)) (F.conv .f32 .f64 ((y2.getD y0.toNat []).getD 0 0))) then some (false, (Ex.ret, ([V.at (A.bool false)], [⟨false, .rows [K.f .f32] y1⟩, ⟨false, .rows [K.f .f32] y2⟩]))) else some (true, (Ex.normal, ([V.at (A.sl 0), V.at (A.sl 1), V.at (A.int .i64 (IntKind.wrap .i64 (y0 + 1)))], [⟨false, .rows [K.f .f32] y1⟩, ⟨false, .rows [K.f .f32] y2⟩]))) else none else none else none else none else none else none else some (false, (Ex.normal, ([V.at A.undef], [⟨false, .rows [K.f .f32] y1⟩, ⟨false, .rows [K.f .f32] y2⟩])))) := by kernel_rfl
    unfold loopOf
    rw [h0]
    unfold Pure.laws_eqFloat32S_L0
    cases (decide (y0 < (Int.ofNat y1.length))) with
    | true =>
      cases (decide (0 ≤ y0)) with
      | true =>
        cases (F.convOk .f32 .f64 ((y1.getD y0.toNat []).getD 0 0)) with
        | true =>
          cases (decide (y0 < (Int.ofNat y2.length))) with
          | true =>
            cases (F.convOk .f32 .f64 ((y2.getD y0.toNat []).getD 0 0)) with
            | true =>
              cases (Pure.laws_sameFloat F (F.conv .f32 .f64 ((y1.getD y0.toNat []).getD 0 0)) (F.conv .f32 .f64 ((y2.getD y0.toNat []).getD 0 0))) with
              | true =>
                exact ih _
              | false =>
                intro _; rfl
            | false =>
              intro h; exact absurd h Bool.false_ne_true
          | false =>
            intro h; exact absurd h Bool.false_ne_true
        | false =>
          intro h; exact absurd h Bool.false_ne_true
      | false =>
        intro h; exact absurd h Bool.false_ne_true
    | false =>
      intro _; rfl
theorem t_laws_eqFloat32S_L0 : SmTo Try.prog 2 29 (S_laws_eqFloat32S_L0 real) 0 (.loop (loopB 0 (codeOf Try.f18))) := by
  refine smTo_ev (cl := [(54, c_laws_sameFloat real)]) (ef := []) (sm := []) (un := 0) prog_ok (allOK_cons ok_laws_sameFloat allOK_nil) smL_nil ?_
  intro vals hp q r h hq
  unfold S_laws_eqFloat32S_L0 at h
  dsimp only at h
  split at h
  · rename_i y0 y1 y2
    obtain rfl := Option.some.inj h
    have h1 := hq
    unfold resOf at h1
    rw [chk_some] at h1
    exact ⟨_, (l_laws_eqFloat32S_L0 real y1 y2 _ y0 h1.1).trans hq⟩
  · cases h
def Pure.laws_eqFloat32S (F : FOps) (x0 x1 : List (List Int)) : Bool := bif (Int.ofNat x0.length) != (Int.ofNat x1.length) then false else bif Prod.snd (Pure.laws_eqFloat32S_L0 F x0 x1 (Nat.succ (x0.length + 0)) 0) then false else true
def Pure.laws_eqFloat32S_ok (F : FOps) (x0 x1 : List (List Int)) : Bool := bif (Int.ofNat x0.length) != (Int.ofNat x1.length) then true else Prod.fst (Pure.laws_eqFloat32S_L0 F x0 x1 (Nat.succ (x0.length + 0)) 0)
def c_laws_eqFloat32S (F : FOps) : Con
  | [V.at (A.sl 0), V.at (A.sl 1)], [⟨false, .rows [K.f .f32] x0⟩, ⟨false, .rows [K.f .f32] x1⟩] => some (Pure.laws_eqFloat32S_ok F x0 x1, ⟨V.at (A.bool (Pure.laws_eqFloat32S F x0 x1)), none, []⟩)
  | _, _ => none
theorem e_laws_eqFloat32S (F : FOps) (x0 x1 : List (List Int)) : Pure.laws_eqFloat32S_ok F x0 x1 = true → evFn (cxS F tyl [(54, c_laws_sameFloat F)] [] [(0, S_laws_eqFloat32S_L0 F)] 0) Try.f18 false [V.at (A.sl 0), V.at (A.sl 1)] [⟨false, .rows [K.f .f32] x0⟩, ⟨false, .rows [K.f .f32] x1⟩] = some ⟨V.at (A.bool (Pure.laws_eqFloat32S F x0 x1)), none, []⟩ := by
  have h0 : evFn (cxS F tyl [(54, c_laws_sameFloat F)] [] [(0, S_laws_eqFloat32S_L0 F)] 0) Try.f18 false [V.at (A.sl 0), V.at (A.sl 1)] [⟨false, .rows [K.f .f32] x0⟩, ⟨false, .rows [K.f .f32] x1⟩] = bif (Int.ofNat x0.length) != (Int.ofNat x1.length) then some ⟨V.at (A.bool false), none, []⟩ else bif Prod.fst (Pure.laws_eqFloat32S_L0 F x0 x1 (Nat.succ (x0.length + 0)) 0) then bif Prod.snd (Pure.laws_eqFloat32S_L0 F x0 x1 (Nat.succ (x0.length + 0)) 0) then some ⟨V.at (A.bool false), none, []⟩ else some ⟨V.at (A.bool true), none, []⟩ else none := by kernel_rfl
  rw [h0]
  unfold Pure.laws_eqFloat32S Pure.laws_eqFloat32S_ok
  cases ((Int.ofNat x0.length) != (Int.ofNat x1.length)) with
  | true =>
    intro _; rfl
  | false =>
    cases (Prod.fst (Pure.laws_eqFloat32S_L0 F x0 x1 (Nat.succ (x0.length + 0)) 0)) with
    | true =>
      cases (Prod.snd (Pure.laws_eqFloat32S_L0 F x0 x1 (Nat.succ (x0.length + 0)) 0)) with
      | true =>
        intro _; rfl
      | false =>
        intro _; rfl
    | false =>
      intro h; exact absurd h Bool.false_ne_true
theorem ok_laws_eqFloat32S : CallOK Try.prog 18 (c_laws_eqFloat32S real) := by
  refine callOK_of fun args h ret hc => ?_
  unfold c_laws_eqFloat32S at hc
  split at hc
  · rename_i x0 x1
    obtain ⟨hok, rfl⟩ := some_ret hc
    exact holds_ev prog_ok (allOK_cons ok_laws_sameFloat allOK_nil) Try.func18 rfl rfl (smL_cons (body := .loop (loopB 0 (codeOf Try.f18))) (by kernel_rfl) t_laws_eqFloat32S_L0 smL_nil) rfl (e_laws_eqFloat32S real x0 x1 hok)
  · cases hc
def Pure.laws_eqRod (F : FOps) (x0 x1 x2 x3 x4 x5 : Int) : Bool := bif x0 != x3 then false else bif x1 != x4 then false else Pure.laws_sameFloat F (F.conv .f32 .f64 x2) (F.conv .f32 .f64 x5)
def Pure.laws_eqRod_ok (F : FOps) (x0 x1 x2 x3 x4 x5 : Int) : Bool := bif x0 != x3 then true else bif x1 != x4 then true else bif F.convOk .f32 .f64 x2 then F.convOk .f32 .f64 x5 else false
def c_laws_eqRod (F : FOps) : Con
  | [V.agg [A.int .i64 x0, A.int .i64 x1, A.fl .f32 x2], V.agg [A.int .i64 x3, A.int .i64 x4, A.fl .f32 x5]], [] => some (Pure.laws_eqRod_ok F x0 x1 x2 x3 x4 x5, ⟨V.at (A.bool (Pure.laws_eqRod F x0 x1 x2 x3 x4 x5)), none, []⟩)
  | _, _ => none
theorem e_laws_eqRod (F : FOps) (x0 x1 x2 x3 x4 x5 : Int) : Pure.laws_eqRod_ok F x0 x1 x2 x3 x4 x5 = true → evFn (cxS F tyl [(54, c_laws_sameFloat F)] [] [] 0) Try.f68 false [V.agg [A.int .i64 x0, A.int .i64 x1, A.fl .f32 x2], V.agg [A.int .i64 x3, A.int .i64 x4, A.fl .f32 x5]] [] = some ⟨V.at (A.bool (Pure.laws_eqRod F x0 x1 x2 x3 x4 x5)), none, []⟩ := by
  have h0 : evFn (cxS F tyl [(54, c_laws_sameFloat F)] [] [] 0) Try.f68 false [V.agg [A.int .i64 x0, A.int .i64 x1, A.fl .f32 x2], V.agg [A.int .i64 x3, A.int .i64 x4, A.fl .f32 x5]] [] = bif x0 != x3 then some ⟨V.at (A.bool false), none, []⟩ else bif x1 != x4 then some ⟨V.at (A.bool false), none, []⟩ else bif F.convOk .f32 .f64 x2 then bif F.convOk .f32 .f64 x5 then bif Bool.not (Pure.laws_sameFloat F (F.conv .f32 .f64 x2) (F.conv .f32 .f64 x5)) then some ⟨V.at (A.bool false), none, []⟩ else some ⟨V.at (A.bool true), none, []⟩ else none else none := by kernel_rfl
  rw [h0]
  unfold Pure.laws_eqRod Pure.laws_eqRod_ok
  cases (x0 != x3) with
  | true =>
    intro _; rfl
  | false =>
    cases (x1 != x4) with
    | true =>
      intro _; rfl
    | false =>
      cases (F.convOk .f32 .f64 x2) with
      | true =>
        cases (F.convOk .f32 .f64 x5) with
        | true =>
          cases (Pure.laws_sameFloat F (F.conv .f32 .f64 x2) (F.conv .f32 .f64 x5)) with
          | true =>
            intro _; rfl
          | false =>
            intro _; rfl
        | false =>
          intro h; exact absurd h Bool.false_ne_true
      | false =>
        intro h; exact absurd h Bool.false_ne_true
theorem ok_laws_eqRod : CallOK Try.prog 68 (c_laws_eqRod real) := by
  refine callOK_of fun args h ret hc => ?_
  unfold c_laws_eqRod at hc
  split at hc
  · rename_i x0 x1 x2 x3 x4 x5
    obtain ⟨hok, rfl⟩ := some_ret hc
    exact holds_ev prog_ok (allOK_cons ok_laws_sameFloat allOK_nil) Try.func68 rfl rfl smL_nil rfl (e_laws_eqRod real x0 x1 x2 x3 x4 x5 hok)
  · cases hc
def Pure.laws_eqRodS_L0 (F : FOps) (y1 y2 : List (List Int)) : Nat → Int → (Bool × Bool)
  | 0, _ => (false, false)
  | n + 1, y0 => bif (decide (y0 < (Int.ofNat y1.length))) then (bif (decide (0 ≤ y0)) then (bif (decide (y0 < (Int.ofNat y1.length))) then (bif (decide (0 ≤ y0)) then (bif (decide (y0 < (Int.ofNat y2.length))) then (bif (Pure.laws_eqRod_ok F ((y1.getD y0.toNat []).getD 0 0) ((y1.getD y0.toNat []).getD 1 0) ((y1.getD y0.toNat []).getD 2 0) ((y2.getD y0.toNat []).getD 0 0) ((y2.getD y0.toNat []).getD 1 0) ((y2.getD y0.toNat []).getD 2 0)) then (bif (Pure.laws_eqRod F ((y1.getD y0.toNat []).getD 0 0) ((y1.getD y0.toNat []).getD 1 0) ((y1.getD y0.toNat []).getD 2 0) ((y2.getD y0.toNat []).getD 0 0) ((y2.getD y0.toNat []).getD 1 0) ((y2.getD y0.toNat []).getD 2 0)) then (Pure.laws_eqRodS_L0 F y1 y2 n (IntKind.wrap .i64 (y0 + 1))) else ((true, true))) else ((false, false))) else ((false, false))) else ((false, false))) else ((false, false))) else ((false, false))) else ((true, false))
def R_laws_eqRodS_L0 (y1 y2 : List (List Int)) (r : (Bool × Bool)) : Bool × Ends := ((r).1, .two (r).2 (.one Ex.normal [V.at A.undef] [⟨false, .rows [K.i .i64, K.i .i64, K.f .f32] y1⟩, ⟨false, .rows [K.i .i64, K.i .i64, K.f .f32] y2⟩]) (.one Ex.ret [V.at (A.bool false)] [⟨false, .rows [K.i .i64, K.i .i64, K.f .f32] y1⟩, ⟨false, .rows [K.i .i64, K.i .i64, K.f .f32] y2⟩]))
def S_laws_eqRodS_L0 (F : FOps) : Sm := ⟨[0, 1, 5], [32, 32, 3], [4], fun vals hp => match vals, hp with
  | [V.at (A.sl 0), V.at (A.sl 1), V.at (A.int .i64 y0)], [⟨false, .rows [K.i .i64, K.i .i64, K.f .f32] y1⟩, ⟨false, .rows [K.i .i64, K.i .i64, K.f .f32] y2⟩] => some (R_laws_eqRodS_L0 y1 y2 (Pure.laws_eqRodS_L0 F y1 y2 ((Int.ofNat y1.length) - y0 + 1).toNat y0))
  | _, _ => none⟩
theorem l_laws_eqRodS_L0 (F : FOps) (y1 y2 : List (List Int)) : ∀ (fuel : Nat) (y0 : Int), (Pure.laws_eqRodS_L0 F y1 y2 fuel y0).1 = true → loopOf (cxS F tyl [(68, c_laws_eqRod F)] [] [] 0) 2 27 0 [0, 1, 5] [32, 32, 3] [4] (loopB 0 (codeOf Try.f37)) fuel [V.at (A.sl 0), V.at (A.sl 1), V.at (A.int .i64 y0)] [⟨false, .rows [K.i .i64, K.i .i64, K.f .f32] y1⟩, ⟨false, .rows [K.i .i64, K.i .i64, K.f .f32] y2⟩] = resOf (R_laws_eqRodS_L0 y1 y2 (Pure.laws_eqRodS_L0 F y1 y2 fuel y0)) := by
  intro fuel
  induction fuel with
  | zero => intro y0 h; exact absurd h Bool.false_ne_true
  | succ n ih =>
    intro y0
    have h0 : roundOf (cxS F tyl [(68, c_laws_eqRod F)] [] [] 0) 2 27 0 [0, 1, 5] [32, 32, 3] [4] (loopB 0 (codeOf Try.f37)) [V.at (A.sl 0), V.at (A.sl 1), V.at (A.int .i64 y0)] [⟨false, .rows [K.i .i64, K.i .i64, K.f .f32] y1⟩, ⟨false, .rows [K.i .i64, K.i .i64, K.f .f32] y2⟩] = (bif decide (y0 < (Int.ofNat y1.length)) then bif decide (0 ≤ y0) then bif decide (y0 < (Int.ofNat y1.length)) then bif decide (0 ≤ y0) then bif decide (y0 < (Int.ofNat y2.length)) then bif Pure.laws_eqRod_ok F ((y1.getD y0.toNat []).getD 0 0) ((y1.getD y0.toNat []).getD 1 0) ((y1.getD y0.toNat []).getD 2 0) ((y2.getD y0.toNat []).getD 0 0) ((y2.getD y0.toNat []).getD 1 0) ((y2.getD y0.toNat []).getD 2 0) then bif Bool.not (Pure.laws_eqRod F ((y1.getD y0.toNat []).getD 0 0) ((y1.getD y0.toNat []).getD 1 0) ((y1.getD y0.toNat []).getD 2 0) ((y2.getD y0.toNat []).getD 0 0) ((y2.getD y0.toNat []).getD 1 0) ((y2.getD y0.toNat []).getD 2 0)) then some (false, (Ex.ret, ([V.at (A.bool false)], [⟨false, .rows [K.i .i64, K.i .i64, K.f .f32] y1⟩, ⟨false, .rows [K.i .i64, K.i .i64, K.f .f32] y2⟩]))) else some (true, (Ex.normal, ([V.at (A.sl 0), V.at (A.sl 1), V.at (A.int .i64 (IntKind.wrap .i64 (y0 + 1)))], [⟨false, .rows [K.i .i64, K.i .i64, K.f .f32] y1⟩, ⟨false, .rows [K.i .i64, K.i .i64, K.f .f32] y2⟩]))) else none else none else none else none else none else some (false, (Ex.normal, ([V.at A.undef], [⟨false, .rows [K.i .i64, K.i .i64, K.f .f32] y1⟩, ⟨false, .rows [K.i .i64, K.i .i64, K.f .f32] y2⟩])))) := by kernel_rfl
    unfold loopOf
    rw [h0]
    unfold Pure.laws_eqRodS_L0
    cases (decide (y0 < (Int.ofNat y1.length))) with
    | true =>
      cases (decide (0 ≤ y0)) with
      | true =>
        cases (decide (y0 < (Int.ofNat y2.length))) with
        | true =>
          cases (Pure.laws_eqRod_ok F ((y1.getD y0.toNat []).getD 0 0) ((y1.getD y0.toNat []).getD 1 0) ((y1.getD y0.toNat []).getD 2 0) ((y2.getD y0.toNat []).getD 0 0) ((y2.getD y0.toNat []).getD 1 0) ((y2.getD y0.toNat []).getD 2 0)) with
          | true =>
            cases (Pure.laws_eqRod F ((y1.getD y0.toNat []).getD 0 0) ((y1.getD y0.toNat []).getD 1 0) ((y1.getD y0.toNat []).getD 2 0) ((y2.getD y0.toNat []).getD 0 0) ((y2.getD y0.toNat []).getD 1 0) ((y2.getD y0.toNat []).getD 2 0)) with
            | true =>
              exact ih _
            | false =>
              intro _; rfl
          | false =>
            intro h; exact absurd h Bool.false_ne_true
        | false =>
          intro h; exact absurd h Bool.false_ne_true
      | false =>
        intro h; exact absurd h Bool.false_ne_true
    | false =>
      intro _; rfl
theorem t_laws_eqRodS_L0 : SmTo Try.prog 2 27 (S_laws_eqRodS_L0 real) 0 (.loop (loopB 0 (codeOf Try.f37))) := by
  refine smTo_ev (cl := [(68, c_laws_eqRod real)]) (ef := []) (sm := []) (un := 0) prog_ok (allOK_cons ok_laws_eqRod allOK_nil) smL_nil ?_
  intro vals hp q r h hq
  unfold S_laws_eqRodS_L0 at h
  dsimp only at h
  split at h
  · rename_i y0 y1 y2
    obtain rfl := Option.some.inj h
    have h1 := hq
    unfold resOf at h1
    rw [chk_some] at h1
    exact ⟨_, (l_laws_eqRodS_L0 real y1 y2 _ y0 h1.1).trans hq⟩
  · cases h
def Pure.laws_eqRodS (F : FOps) (x0 x1 : List (List Int)) : Bool := bif (Int.ofNat x0.length) != (Int.ofNat x1.length) then false else bif Prod.snd (Pure.laws_eqRodS_L0 F x0 x1 (Nat.succ (x0.length + 0)) 0) then false else true
def Pure.laws_eqRodS_ok (F : FOps) (x0 x1 : List (List Int)) : Bool := bif (Int.ofNat x0.length) != (Int.ofNat x1.length) then true else Prod.fst (Pure.laws_eqRodS_L0 F x0 x1 (Nat.succ (x0.length + 0)) 0)
def c_laws_eqRodS (F : FOps) : Con
  | [V.at (A.sl 0), V.at (A.sl 1)], [⟨false, .rows [K.i .i64, K.i .i64, K.f .f32] x0⟩, ⟨false, .rows [K.i .i64, K.i .i64, K.f .f32] x1⟩] => some (Pure.laws_eqRodS_ok F x0 x1, ⟨V.at (A.bool (Pure.laws_eqRodS F x0 x1)), none, []⟩)
  | _, _ => none
theorem e_laws_eqRodS (F : FOps) (x0 x1 : List (List Int)) : Pure.laws_eqRodS_ok F x0 x1 = true → evFn (cxS F tyl [(68, c_laws_eqRod F)] [] [(0, S_laws_eqRodS_L0 F)] 0) Try.f37 false [V.at (A.sl 0), V.at (A.sl 1)] [⟨false, .rows [K.i .i64, K.i .i64, K.f .f32] x0⟩, ⟨false, .rows [K.i .i64, K.i .i64, K.f .f32] x1⟩] = some ⟨V.at (A.bool (Pure.laws_eqRodS F x0 x1)), none, []⟩ := by
  have h0 : evFn (cxS F tyl [(68, c_laws_eqRod F)] [] [(0, S_laws_eqRodS_L0 F)] 0) Try.f37 false [V.at (A.sl 0), V.at (A.sl 1)] [⟨false, .rows [K.i .i64, K.i .i64, K.f .f32] x0⟩, ⟨false, .rows [K.i .i64, K.i .i64, K.f .f32] x1⟩] = bif (Int.ofNat x0.length) != (Int.ofNat x1.length) then some ⟨V.at (A.bool false), none, []⟩ else bif Prod.fst (Pure.laws_eqRodS_L0 F x0 x1 (Nat.succ (x0.length + 0)) 0) then bif Prod.snd (Pure.laws_eqRodS_L0 F x0 x1 (Nat.succ (x0.length + 0)) 0) then some ⟨V.at (A.bool false), none, []⟩ else some ⟨V.at (A.bool true), none, []⟩ else none := by kernel_rfl
  rw [h0]
  unfold Pure.laws_eqRodS Pure.laws_eqRodS_ok
  cases ((Int.ofNat x0.length) != (Int.ofNat x1.length)) with
  | true =>
    intro _; rfl
  | false =>
    cases (Prod.fst (Pure.laws_eqRodS_L0 F x0 x1 (Nat.succ (x0.length + 0)) 0)) with
    | true =>
      cases (Prod.snd (Pure.laws_eqRodS_L0 F x0 x1 (Nat.succ (x0.length + 0)) 0)) with
      | true =>
        intro _; rfl
      | false =>
        intro _; rfl
    | false =>
      intro h; exact absurd h Bool.false_ne_true
theorem ok_laws_eqRodS : CallOK Try.prog 37 (c_laws_eqRodS real) := by
  refine callOK_of fun args h ret hc => ?_
  unfold c_laws_eqRodS at hc
  split at hc
  · rename_i x0 x1
    obtain ⟨hok, rfl⟩ := some_ret hc
    exact holds_ev prog_ok (allOK_cons ok_laws_eqRod allOK_nil) Try.func37 rfl rfl (smL_cons (body := .loop (loopB 0 (codeOf Try.f37))) (by kernel_rfl) t_laws_eqRodS_L0 smL_nil) rfl (e_laws_eqRodS real x0 x1 hok)
  · cases hc
def Pure.laws_eqChain (F : FOps) (x0 x1 x2 x3 x4 x5 x6 x7 : List (List Int)) : Bool := bif Pure.laws_eqVectorS F x0 x4 then bif Pure.laws_eqVectorS F x1 x5 then bif Pure.laws_eqFloat32S F x2 x6 then Pure.laws_eqRodS F x3 x7 else false else false else false
def Pure.laws_eqChain_ok (F : FOps) (x0 x1 x2 x3 x4 x5 x6 x7 : List (List Int)) : Bool := bif Pure.laws_eqVectorS_ok F x0 x4 then bif Pure.laws_eqVectorS F x0 x4 then bif Pure.laws_eqVectorS_ok F x1 x5 then bif Pure.laws_eqVectorS F x1 x5 then bif Pure.laws_eqFloat32S_ok F x2 x6 then bif Pure.laws_eqFloat32S F x2 x6 then Pure.laws_eqRodS_ok F x3 x7 else true else false else true else false else true else false
def c_laws_eqChain (F : FOps) : Con
  | [V.agg [A.sl 0, A.sl 1, A.sl 2, A.sl 3], V.agg [A.sl 4, A.sl 5, A.sl 6, A.sl 7]], [⟨false, .rows [K.f .f32, K.f .f32, K.f .f32] x0⟩, ⟨false, .rows [K.f .f32, K.f .f32, K.f .f32] x1⟩, ⟨false, .rows [K.f .f32] x2⟩, ⟨false, .rows [K.i .i64, K.i .i64, K.f .f32] x3⟩, ⟨false, .rows [K.f .f32, K.f .f32, K.f .f32] x4⟩, ⟨false, .rows [K.f .f32, K.f .f32, K.f .f32] x5⟩, ⟨false, .rows [K.f .f32] x6⟩, ⟨false, .rows [K.i .i64, K.i .i64, K.f .f32] x7⟩] => some (Pure.laws_eqChain_ok F x0 x1 x2 x3 x4 x5 x6 x7, ⟨V.at (A.bool (Pure.laws_eqChain F x0 x1 x2 x3 x4 x5 x6 x7)), none, []⟩)
  | _, _ => none
theorem e_laws_eqChain (F : FOps) (x0 x1 x2 x3 x4 x5 x6 x7 : List (List Int)) : Pure.laws_eqChain_ok F x0 x1 x2 x3 x4 x5 x6 x7 = true → evFn (cxS F tyl [(36, c_laws_eqVectorS F), (18, c_laws_eqFloat32S F), (37, c_laws_eqRodS F)] [] [] 0) Try.f11 false [V.agg [A.sl 0, A.sl 1, A.sl 2, A.sl 3], V.agg [A.sl 4, A.sl 5, A.sl 6, A.sl 7]] [⟨false, .rows [K.f .f32, K.f .f32, K.f .f32] x0⟩, ⟨false, .rows [K.f .f32, K.f .f32, K.f .f32] x1⟩, ⟨false, .rows [K.f .f32] x2⟩, ⟨false, .rows [K.i .i64, K.i .i64, K.f .f32] x3⟩, ⟨false, .rows [K.f .f32, K.f .f32, K.f .f32] x4⟩, ⟨false, .rows [K.f .f32, K.f .f32, K.f .f32] x5⟩, ⟨false, .rows [K.f .f32] x6⟩, ⟨false, .rows [K.i .i64, K.i .i64, K.f .f32] x7⟩] = some ⟨V.at (A.bool (Pure.laws_eqChain F x0 x1 x2 x3 x4 x5 x6 x7)), none, []⟩ := by
  have h0 : evFn (cxS F tyl [(36, c_laws_eqVectorS F), (18, c_laws_eqFloat32S F), (37, c_laws_eqRodS F)] [] [] 0) Try.f11 false [V.agg [A.sl 0, A.sl 1, A.sl 2, A.sl 3], V.agg [A.sl 4, A.sl 5, A.sl 6, A.sl 7]] [⟨false, .rows [K.f .f32, K.f .f32, K.f .f32] x0⟩, ⟨false, .rows [K.f .f32, K.f .f32, K.f .f32] x1⟩, ⟨false, .rows [K.f .f32] x2⟩, ⟨false, .rows [K.i .i64, K.i .i64, K.f .f32] x3⟩, ⟨false, .rows [K.f .f32, K.f .f32, K.f .f32] x4⟩, ⟨false, .rows [K.f .f32, K.f .f32, K.f .f32] x5⟩, ⟨false, .rows [K.f .f32] x6⟩, ⟨false, .rows [K.i .i64, K.i .i64, K.f .f32] x7⟩] = bif Pure.laws_eqVectorS_ok F x0 x4 then bif Bool.not (Pure.laws_eqVectorS F x0 x4) then some ⟨V.at (A.bool false), none, []⟩ else bif Pure.laws_eqVectorS_ok F x1 x5 then bif Bool.not (Pure.laws_eqVectorS F x1 x5) then some ⟨V.at (A.bool false), none, []⟩ else bif Pure.laws_eqFloat32S_ok F x2 x6 then bif Bool.not (Pure.laws_eqFloat32S F x2 x6) then some ⟨V.at (A.bool false), none, []⟩ else bif Pure.laws_eqRodS_ok F x3 x7 then bif Bool.not (Pure.laws_eqRodS F x3 x7) then some ⟨V.at (A.bool false), none, []⟩ else some ⟨V.at (A.bool true), none, []⟩ else none else none else none else none := by kernel_rfl
  rw [h0]
  unfold Pure.laws_eqChain Pure.laws_eqChain_ok
  cases (Pure.laws_eqVectorS_ok F x0 x4) with
  | true =>
    cases (Pure.laws_eqVectorS F x0 x4) with
    | true =>
      cases (Pure.laws_eqVectorS_ok F x1 x5) with
      | true =>
        cases (Pure.laws_eqVectorS F x1 x5) with
        | true =>
          cases (Pure.laws_eqFloat32S_ok F x2 x6) with
          | true =>
            cases (Pure.laws_eqFloat32S F x2 x6) with
            | true =>
              cases (Pure.laws_eqRodS_ok F x3 x7) with
              | true =>
                cases (Pure.laws_eqRodS F x3 x7) with
                | true =>
                  intro _; rfl
                | false =>
                  intro _; rfl
              | false =>
                intro h; exact absurd h Bool.false_ne_true
            | false =>
              intro _; rfl
          | false =>
            intro h; exact absurd h Bool.false_ne_true
        | false =>
          intro _; rfl
      | false =>
        intro h; exact absurd h Bool.false_ne_true
    | false =>
      intro _; rfl
  | false =>
    intro h; exact absurd h Bool.false_ne_true
theorem ok_laws_eqChain : CallOK Try.prog 11 (c_laws_eqChain real) := by
  refine callOK_of fun args h ret hc => ?_
  unfold c_laws_eqChain at hc
  split at hc
  · rename_i x0 x1 x2 x3 x4 x5 x6 x7
    obtain ⟨hok, rfl⟩ := some_ret hc
    exact holds_ev prog_ok (allOK_cons ok_laws_eqVectorS (allOK_cons ok_laws_eqFloat32S (allOK_cons ok_laws_eqRodS allOK_nil))) Try.func11 rfl rfl smL_nil rfl (e_laws_eqChain real x0 x1 x2 x3 x4 x5 x6 x7 hok)
  · cases hc
def Pure.laws_markVectorS_L0 (F : FOps) : Nat → Int → Int → (List (List Int)) → (Bool × Int × (List (List Int)))
  | 0, _, _, _ => (false, 0, [])
  | n + 1, y0, y1, y2 => bif (decide (y1 < (Int.ofNat y2.length))) then (bif (decide (0 ≤ y1)) then (bif (decide (y1 < (Int.ofNat y2.length))) then (bif (decide (0 ≤ y1)) then (bif (decide (y1 < (Int.ofNat (List.length (List.set y2 (Int.toNat y1) (setFrom (List.getD y2 (Int.toNat y1) []) 0 [F.ofInt .f32 y0])))))) then (bif (decide (0 ≤ y1)) then (bif (decide (y1 < (Int.ofNat (List.length (List.set (List.set y2 (Int.toNat y1) (setFrom (List.getD y2 (Int.toNat y1) []) 0 [F.ofInt .f32 y0])) (Int.toNat y1) (setFrom (List.getD (List.set y2 (Int.toNat y1) (setFrom (List.getD y2 (Int.toNat y1) []) 0 [F.ofInt .f32 y0])) (Int.toNat y1) []) 1 [F.ofInt .f32 (IntKind.wrap .i64 (y0 + 1))])))))) then (Pure.laws_markVectorS_L0 F  n (IntKind.wrap .i64 ((IntKind.wrap .i64 ((IntKind.wrap .i64 (y0 + 1)) + 1)) + 1)) (IntKind.wrap .i64 (y1 + 1)) (List.set (List.set (List.set y2 (Int.toNat y1) (setFrom (List.getD y2 (Int.toNat y1) []) 0 [F.ofInt .f32 y0])) (Int.toNat y1) (setFrom (List.getD (List.set y2 (Int.toNat y1) (setFrom (List.getD y2 (Int.toNat y1) []) 0 [F.ofInt .f32 y0])) (Int.toNat y1) []) 1 [F.ofInt .f32 (IntKind.wrap .i64 (y0 + 1))])) (Int.toNat y1) (setFrom (List.getD (List.set (List.set y2 (Int.toNat y1) (setFrom (List.getD y2 (Int.toNat y1) []) 0 [F.ofInt .f32 y0])) (Int.toNat y1) (setFrom (List.getD (List.set y2 (Int.toNat y1) (setFrom (List.getD y2 (Int.toNat y1) []) 0 [F.ofInt .f32 y0])) (Int.toNat y1) []) 1 [F.ofInt .f32 (IntKind.wrap .i64 (y0 + 1))])) (Int.toNat y1) []) 2 [F.ofInt .f32 (IntKind.wrap .i64 ((IntKind.wrap .i64 (y0 + 1)) + 1))]))) else ((false, 0, []))) else ((false, 0, []))) else ((false, 0, []))) else ((false, 0, []))) else ((false, 0, []))) else ((false, 0, []))) else ((true, y0, y2))
def R_laws_markVectorS_L0 (r : (Bool × Int × (List (List Int)))) : Bool × Ends := ((r).1, (.one Ex.normal [V.at (A.int .i64 (r).2.1)] [⟨true, .rows [K.f .f32, K.f .f32, K.f .f32] (r).2.2⟩]))
def S_laws_markVectorS_L0 (F : FOps) : Sm := ⟨[0, 1, 5], [31, 3, 3], [1], fun vals hp => match vals, hp with
  | [V.at (A.sl 0), V.at (A.int .i64 y0), V.at (A.int .i64 y1)], [⟨true, .rows [K.f .f32, K.f .f32, K.f .f32] y2⟩] => some (R_laws_markVectorS_L0  (Pure.laws_markVectorS_L0 F  ((Int.ofNat y2.length) - y1 + 1).toNat y0 y1 y2))
  | _, _ => none⟩
theorem l_laws_markVectorS_L0 (F : FOps) : ∀ (fuel : Nat) (y0 y1 : Int) (y2 : List (List Int)), (Pure.laws_markVectorS_L0 F  fuel y0 y1 y2).1 = true → loopOf (cxS F tyl [] [] [] 0) 1 37 0 [0, 1, 5] [31, 3, 3] [1] (loopB 0 (codeOf Try.f38)) fuel [V.at (A.sl 0), V.at (A.int .i64 y0), V.at (A.int .i64 y1)] [⟨true, .rows [K.f .f32, K.f .f32, K.f .f32] y2⟩] = resOf (R_laws_markVectorS_L0  (Pure.laws_markVectorS_L0 F  fuel y0 y1 y2)) := by
  intro fuel
  induction fuel with
  | zero => intro y0 y1 y2 h; exact absurd h Bool.false_ne_true
  | succ n ih =>
    intro y0 y1 y2
    have h0 : roundOf (cxS F tyl [] [] [] 0) 1 37 0 [0, 1, 5] [31, 3, 3] [1] (loopB 0 (codeOf Try.f38)) [V.at (A.sl 0), V.at (A.int .i64 y0), V.at (A.int .i64 y1)] [⟨true, .rows [K.f .f32, K.f .f32, K.f .f32] y2⟩] = (bif decide (y1 < (Int.ofNat y2.length)) then bif decide (0 ≤ y1) then bif decide (y1 < (Int.ofNat y2.length)) then bif decide (0 ≤ y1) then bif decide (y1 < (Int.ofNat (List.length (List.set y2 (Int.toNat y1) (setFrom (List.getD y2 (Int.toNat y1) []) 0 [F.ofInt .f32 y0]))))) then bif decide (0 ≤ y1) then bif decide (y1 < (Int.ofNat (List.length (List.set (List.set y2 (Int.toNat y1) (setFrom (List.getD y2 (Int.toNat y1) []) 0 [F.ofInt .f32 y0])) (Int.toNat y1) (setFrom (List.getD (List.set y2 (Int.toNat y1) (setFrom (List.getD y2 (Int.toNat y1) []) 0 [F.ofInt .f32 y0])) (Int.toNat y1) []) 1 [F.ofInt .f32 (IntKind.wrap .i64 (y0 + 1))]))))) then some (true, (Ex.normal, ([V.at (A.sl 0), V.at (A.int .i64 (IntKind.wrap .i64 ((IntKind.wrap .i64 ((IntKind.wrap .i64 (y0 + 1)) + 1)) + 1))), V.at (A.int .i64 (IntKind.wrap .i64 (y1 + 1)))], [⟨true, .rows [K.f .f32, K.f .f32, K.f .f32] (List.set (List.set (List.set y2 (Int.toNat y1) (setFrom (List.getD y2 (Int.toNat y1) []) 0 [F.ofInt .f32 y0])) (Int.toNat y1) (setFrom (List.getD (List.set y2 (Int.toNat y1) (setFrom (List.getD y2 (Int.toNat y1) []) 0 [F.ofInt .f32 y0])) (Int.toNat y1) []) 1 [F.ofInt .f32 (IntKind.wrap .i64 (y0 + 1))])) (Int.toNat y1) (setFrom (List.getD (List.set (List.set y2 (Int.toNat y1) (setFrom (List.getD y2 (Int.toNat y1) []) 0 [F.ofInt .f32 y0])) (Int.toNat y1) (setFrom (List.getD (List.set y2 (Int.toNat y1) (setFrom (List.getD y2 (Int.toNat y1) []) 0 [F.ofInt .f32 y0])) (Int.toNat y1) []) 1 [F.ofInt .f32 (IntKind.wrap .i64 (y0 + 1))])) (Int.toNat y1) []) 2 [F.ofInt .f32 (IntKind.wrap .i64 ((IntKind.wrap .i64 (y0 + 1)) + 1))]))⟩]))) else none else none else none else none else none else none else some (false, (Ex.normal, ([V.at (A.int .i64 y0)], [⟨true, .rows [K.f .f32, K.f .f32, K.f .f32] y2⟩])))) := by kernel_rfl
    unfold loopOf
    rw [h0]
    unfold Pure.laws_markVectorS_L0
    cases (decide (y1 < (Int.ofNat y2.length))) with
    | true =>
      cases (decide (0 ≤ y1)) with
      | true =>
        cases (decide (y1 < (Int.ofNat (List.length (List.set y2 (Int.toNat y1) (setFrom (List.getD y2 (Int.toNat y1) []) 0 [F.ofInt .f32 y0])))))) with
        | true =>
          cases (decide (y1 < (Int.ofNat (List.length (List.set (List.set y2 (Int.toNat y1) (setFrom (List.getD y2 (Int.toNat y1) []) 0 [F.ofInt .f32 y0])) (Int.toNat y1) (setFrom (List.getD (List.set y2 (Int.toNat y1) (setFrom (List.getD y2 (Int.toNat y1) []) 0 [F.ofInt .f32 y0])) (Int.toNat y1) []) 1 [F.ofInt .f32 (IntKind.wrap .i64 (y0 + 1))])))))) with
          | true =>
            exact ih _ _ _
          | false =>
            intro h; exact absurd h Bool.false_ne_true
        | false =>
          intro h; exact absurd h Bool.false_ne_true
      | false =>
        intro h; exact absurd h Bool.false_ne_true
    | false =>
      intro _; rfl
theorem t_laws_markVectorS_L0 : SmTo Try.prog 1 37 (S_laws_markVectorS_L0 real) 0 (.loop (loopB 0 (codeOf Try.f38))) := by
  refine smTo_ev (cl := []) (ef := []) (sm := []) (un := 0) prog_ok allOK_nil smL_nil ?_
  intro vals hp q r h hq
  unfold S_laws_markVectorS_L0 at h
  dsimp only at h
  split at h
  · rename_i y0 y1 y2
    obtain rfl := Option.some.inj h
    have h1 := hq
    unfold resOf at h1
    rw [chk_some] at h1
    exact ⟨_, (l_laws_markVectorS_L0 real _ y0 y1 y2 h1.1).trans hq⟩
  · cases h
def Pure.laws_markVectorS (F : FOps) (x0 : List (List Int)) (x1 : Int) : Int := Prod.fst (Prod.snd (Pure.laws_markVectorS_L0 F (Nat.succ (x0.length + 0)) x1 0 x0))
def Pure.laws_markVectorS_1 (F : FOps) (x0 : List (List Int)) (x1 : Int) : List (List Int) := Prod.snd (Prod.snd (Pure.laws_markVectorS_L0 F (Nat.succ (x0.length + 0)) x1 0 x0))
def Pure.laws_markVectorS_ok (F : FOps) (x0 : List (List Int)) (x1 : Int) : Bool := Prod.fst (Pure.laws_markVectorS_L0 F (Nat.succ (x0.length + 0)) x1 0 x0)
def c_laws_markVectorS (F : FOps) : Con
  | [V.at (A.sl 0), V.at (A.int .i64 x1)], [⟨true, .rows [K.f .f32, K.f .f32, K.f .f32] x0⟩] => some (Pure.laws_markVectorS_ok F x0 x1, ⟨V.at (A.int .i64 (Pure.laws_markVectorS F x0 x1)), some [⟨true, .rows [K.f .f32, K.f .f32, K.f .f32] (Pure.laws_markVectorS_1 F x0 x1)⟩], []⟩)
  | _, _ => none
theorem e_laws_markVectorS (F : FOps) (x0 : List (List Int)) (x1 : Int) : Pure.laws_markVectorS_ok F x0 x1 = true → evFn (cxS F tyl [] [] [(0, S_laws_markVectorS_L0 F)] 0) Try.f38 true [V.at (A.sl 0), V.at (A.int .i64 x1)] [⟨true, .rows [K.f .f32, K.f .f32, K.f .f32] x0⟩] = some ⟨V.at (A.int .i64 (Pure.laws_markVectorS F x0 x1)), some [⟨true, .rows [K.f .f32, K.f .f32, K.f .f32] (Pure.laws_markVectorS_1 F x0 x1)⟩], []⟩ := by
  have h0 : evFn (cxS F tyl [] [] [(0, S_laws_markVectorS_L0 F)] 0) Try.f38 true [V.at (A.sl 0), V.at (A.int .i64 x1)] [⟨true, .rows [K.f .f32, K.f .f32, K.f .f32] x0⟩] = bif Prod.fst (Pure.laws_markVectorS_L0 F (Nat.succ (x0.length + 0)) x1 0 x0) then some ⟨V.at (A.int .i64 (Prod.fst (Prod.snd (Pure.laws_markVectorS_L0 F (Nat.succ (x0.length + 0)) x1 0 x0)))), some [⟨true, .rows [K.f .f32, K.f .f32, K.f .f32] (Prod.snd (Prod.snd (Pure.laws_markVectorS_L0 F (Nat.succ (x0.length + 0)) x1 0 x0)))⟩], []⟩ else none := by kernel_rfl
  rw [h0]
  unfold Pure.laws_markVectorS Pure.laws_markVectorS_1 Pure.laws_markVectorS_ok
  cases (Prod.fst (Pure.laws_markVectorS_L0 F (Nat.succ (x0.length + 0)) x1 0 x0)) with
  | true =>
    intro _; rfl
  | false =>
    intro h; exact absurd h Bool.false_ne_true
theorem ok_laws_markVectorS : CallOK Try.prog 38 (c_laws_markVectorS real) := by
  refine callOK_of fun args h ret hc => ?_
  unfold c_laws_markVectorS at hc
  split at hc
  · rename_i x1 x0
    obtain ⟨hok, rfl⟩ := some_ret hc
    exact holdsE_ev prog_ok allOK_nil Try.func38 rfl rfl (smL_cons (body := .loop (loopB 0 (codeOf Try.f38))) (by kernel_rfl) t_laws_markVectorS_L0 smL_nil) (e_laws_markVectorS real x0 x1 hok)
  · cases hc
def Pure.laws_markFloat32S_L0 (F : FOps) : Nat → Int → Int → (List (List Int)) → (Bool × Int × (List (List Int)))
  | 0, _, _, _ => (false, 0, [])
  | n + 1, y0, y1, y2 => bif (decide (y1 < (Int.ofNat y2.length))) then (bif (decide (0 ≤ y1)) then (bif (decide (y1 < (Int.ofNat y2.length))) then (Pure.laws_markFloat32S_L0 F  n (IntKind.wrap .i64 (y0 + 1)) (IntKind.wrap .i64 (y1 + 1)) (List.set y2 (Int.toNat y1) [F.ofInt .f32 y0])) else ((false, 0, []))) else ((false, 0, []))) else ((true, y0, y2))
def R_laws_markFloat32S_L0 (r : (Bool × Int × (List (List Int)))) : Bool × Ends := ((r).1, (.one Ex.normal [V.at (A.int .i64 (r).2.1)] [⟨true, .rows [K.f .f32] (r).2.2⟩]))
def S_laws_markFloat32S_L0 (F : FOps) : Sm := ⟨[0, 1, 5], [23, 3, 3], [1], fun vals hp => match vals, hp with
  | [V.at (A.sl 0), V.at (A.int .i64 y0), V.at (A.int .i64 y1)], [⟨true, .rows [K.f .f32] y2⟩] => some (R_laws_markFloat32S_L0  (Pure.laws_markFloat32S_L0 F  ((Int.ofNat y2.length) - y1 + 1).toNat y0 y1 y2))
  | _, _ => none⟩
theorem l_laws_markFloat32S_L0 (F : FOps) : ∀ (fuel : Nat) (y0 y1 : Int) (y2 : List (List Int)), (Pure.laws_markFloat32S_L0 F  fuel y0 y1 y2).1 = true → loopOf (cxS F tyl [] [] [] 0) 1 20 0 [0, 1, 5] [23, 3, 3] [1] (loopB 0 (codeOf Try.f19)) fuel [V.at (A.sl 0), V.at (A.int .i64 y0), V.at (A.int .i64 y1)] [⟨true, .rows [K.f .f32] y2⟩] = resOf (R_laws_markFloat32S_L0  (Pure.laws_markFloat32S_L0 F  fuel y0 y1 y2)) := by
  intro fuel
  induction fuel with
  | zero => intro y0 y1 y2 h; exact absurd h Bool.false_ne_true
  | succ n ih =>
    intro y0 y1 y2
    have h0 : roundOf (cxS F tyl [] [] [] 0) 1 20 0 [0, 1, 5] [23, 3, 3] [1] (loopB 0 (codeOf Try.f19)) [V.at (A.sl 0), V.at (A.int .i64 y0), V.at (A.int .i64 y1)] [⟨true, .rows [K.f .f32] y2⟩] = (bif decide (y1 < (Int.ofNat y2.length)) then bif decide (0 ≤ y1) then bif decide (y1 < (Int.ofNat y2.length)) then some (true, (Ex.normal, ([V.at (A.sl 0), V.at (A.int .i64 (IntKind.wrap .i64 (y0 + 1))), V.at (A.int .i64 (IntKind.wrap .i64 (y1 + 1)))], [⟨true, .rows [K.f .f32] (List.set y2 (Int.toNat y1) [F.ofInt .f32 y0])⟩]))) else none else none else some (false, (Ex.normal, ([V.at (A.int .i64 y0)], [⟨true, .rows [K.f .f32] y2⟩])))) := by kernel_rfl
    unfold loopOf
    rw [h0]
    unfold Pure.laws_markFloat32S_L0
    cases (decide (y1 < (Int.ofNat y2.length))) with
    | true =>
      cases (decide (0 ≤ y1)) with
      | true =>
        exact ih _ _ _
      | false =>
        intro h; exact absurd h Bool.false_ne_true
    | false =>
      intro _; rfl
theorem t_laws_markFloat32S_L0 : SmTo Try.prog 1 20 (S_laws_markFloat32S_L0 real) 0 (.loop (loopB 0 (codeOf Try.f19))) := by
  refine smTo_ev (cl := []) (ef := []) (sm := []) (un := 0) prog_ok allOK_nil smL_nil ?_
  intro vals hp q r h hq
  unfold S_laws_markFloat32S_L0 at h
  dsimp only at h
  split at h
  · rename_i y0 y1 y2
    obtain rfl := Option.some.inj h
    have h1 := hq
    unfold resOf at h1
    rw [chk_some] at h1
    exact ⟨_, (l_laws_markFloat32S_L0 real _ y0 y1 y2 h1.1).trans hq⟩
  · cases h
def Pure.laws_markFloat32S (F : FOps) (x0 : List (List Int)) (x1 : Int) : Int := Prod.fst (Prod.snd (Pure.laws_markFloat32S_L0 F (Nat.succ (x0.length + 0)) x1 0 x0))
def Pure.laws_markFloat32S_1 (F : FOps) (x0 : List (List Int)) (x1 : Int) : List (List Int) := Prod.snd (Prod.snd (Pure.laws_markFloat32S_L0 F (Nat.succ (x0.length + 0)) x1 0 x0))
def Pure.laws_markFloat32S_ok (F : FOps) (x0 : List (List Int)) (x1 : Int) : Bool := Prod.fst (Pure.laws_markFloat32S_L0 F (Nat.succ (x0.length + 0)) x1 0 x0)
def c_laws_markFloat32S (F : FOps) : Con
  | [V.at (A.sl 0), V.at (A.int .i64 x1)], [⟨true, .rows [K.f .f32] x0⟩] => some (Pure.laws_markFloat32S_ok F x0 x1, ⟨V.at (A.int .i64 (Pure.laws_markFloat32S F x0 x1)), some [⟨true, .rows [K.f .f32] (Pure.laws_markFloat32S_1 F x0 x1)⟩], []⟩)
  | _, _ => none
theorem e_laws_markFloat32S (F : FOps) (x0 : List (List Int)) (x1 : Int) : Pure.laws_markFloat32S_ok F x0 x1 = true → evFn (cxS F tyl [] [] [(0, S_laws_markFloat32S_L0 F)] 0) Try.f19 true [V.at (A.sl 0), V.at (A.int .i64 x1)] [⟨true, .rows [K.f .f32] x0⟩] = some ⟨V.at (A.int .i64 (Pure.laws_markFloat32S F x0 x1)), some [⟨true, .rows [K.f .f32] (Pure.laws_markFloat32S_1 F x0 x1)⟩], []⟩ := by
  have h0 : evFn (cxS F tyl [] [] [(0, S_laws_markFloat32S_L0 F)] 0) Try.f19 true [V.at (A.sl 0), V.at (A.int .i64 x1)] [⟨true, .rows [K.f .f32] x0⟩] = bif Prod.fst (Pure.laws_markFloat32S_L0 F (Nat.succ (x0.length + 0)) x1 0 x0) then some ⟨V.at (A.int .i64 (Prod.fst (Prod.snd (Pure.laws_markFloat32S_L0 F (Nat.succ (x0.length + 0)) x1 0 x0)))), some [⟨true, .rows [K.f .f32] (Prod.snd (Prod.snd (Pure.laws_markFloat32S_L0 F (Nat.succ (x0.length + 0)) x1 0 x0)))⟩], []⟩ else none := by kernel_rfl
  rw [h0]
  unfold Pure.laws_markFloat32S Pure.laws_markFloat32S_1 Pure.laws_markFloat32S_ok
  cases (Prod.fst (Pure.laws_markFloat32S_L0 F (Nat.succ (x0.length + 0)) x1 0 x0)) with
  | true =>
    intro _; rfl
  | false =>
    intro h; exact absurd h Bool.false_ne_true
theorem ok_laws_markFloat32S : CallOK Try.prog 19 (c_laws_markFloat32S real) := by
  refine callOK_of fun args h ret hc => ?_
  unfold c_laws_markFloat32S at hc
  split at hc
  · rename_i x1 x0
    obtain ⟨hok, rfl⟩ := some_ret hc
    exact holdsE_ev prog_ok allOK_nil Try.func19 rfl rfl (smL_cons (body := .loop (loopB 0 (codeOf Try.f19))) (by kernel_rfl) t_laws_markFloat32S_L0 smL_nil) (e_laws_markFloat32S real x0 x1 hok)
  · cases hc
def Pure.laws_markRodS_L0 (F : FOps) : Nat → Int → Int → (List (List Int)) → (Bool × Int × (List (List Int)))
  | 0, _, _, _ => (false, 0, [])
  | n + 1, y0, y1, y2 => bif (decide (y1 < (Int.ofNat y2.length))) then (bif (decide (0 ≤ y1)) then (bif (decide (y1 < (Int.ofNat y2.length))) then (bif (decide (0 ≤ y1)) then (bif (decide (y1 < (Int.ofNat (List.length (List.set y2 (Int.toNat y1) (setFrom (List.getD y2 (Int.toNat y1) []) 0 [y0])))))) then (bif (decide (0 ≤ y1)) then (bif (decide (y1 < (Int.ofNat (List.length (List.set (List.set y2 (Int.toNat y1) (setFrom (List.getD y2 (Int.toNat y1) []) 0 [y0])) (Int.toNat y1) (setFrom (List.getD (List.set y2 (Int.toNat y1) (setFrom (List.getD y2 (Int.toNat y1) []) 0 [y0])) (Int.toNat y1) []) 1 [IntKind.wrap .i64 (y0 + 1)])))))) then (Pure.laws_markRodS_L0 F  n (IntKind.wrap .i64 ((IntKind.wrap .i64 ((IntKind.wrap .i64 (y0 + 1)) + 1)) + 1)) (IntKind.wrap .i64 (y1 + 1)) (List.set (List.set (List.set y2 (Int.toNat y1) (setFrom (List.getD y2 (Int.toNat y1) []) 0 [y0])) (Int.toNat y1) (setFrom (List.getD (List.set y2 (Int.toNat y1) (setFrom (List.getD y2 (Int.toNat y1) []) 0 [y0])) (Int.toNat y1) []) 1 [IntKind.wrap .i64 (y0 + 1)])) (Int.toNat y1) (setFrom (List.getD (List.set (List.set y2 (Int.toNat y1) (setFrom (List.getD y2 (Int.toNat y1) []) 0 [y0])) (Int.toNat y1) (setFrom (List.getD (List.set y2 (Int.toNat y1) (setFrom (List.getD y2 (Int.toNat y1) []) 0 [y0])) (Int.toNat y1) []) 1 [IntKind.wrap .i64 (y0 + 1)])) (Int.toNat y1) []) 2 [F.ofInt .f32 (IntKind.wrap .i64 ((IntKind.wrap .i64 (y0 + 1)) + 1))]))) else ((false, 0, []))) else ((false, 0, []))) else ((false, 0, []))) else ((false, 0, []))) else ((false, 0, []))) else ((false, 0, []))) else ((true, y0, y2))
def R_laws_markRodS_L0 (r : (Bool × Int × (List (List Int)))) : Bool × Ends := ((r).1, (.one Ex.normal [V.at (A.int .i64 (r).2.1)] [⟨true, .rows [K.i .i64, K.i .i64, K.f .f32] (r).2.2⟩]))
def S_laws_markRodS_L0 (F : FOps) : Sm := ⟨[0, 1, 5], [32, 3, 3], [1], fun vals hp => match vals, hp with
  | [V.at (A.sl 0), V.at (A.int .i64 y0), V.at (A.int .i64 y1)], [⟨true, .rows [K.i .i64, K.i .i64, K.f .f32] y2⟩] => some (R_laws_markRodS_L0  (Pure.laws_markRodS_L0 F  ((Int.ofNat y2.length) - y1 + 1).toNat y0 y1 y2))
  | _, _ => none⟩
theorem l_laws_markRodS_L0 (F : FOps) : ∀ (fuel : Nat) (y0 y1 : Int) (y2 : List (List Int)), (Pure.laws_markRodS_L0 F  fuel y0 y1 y2).1 = true → loopOf (cxS F tyl [] [] [] 0) 1 35 0 [0, 1, 5] [32, 3, 3] [1] (loopB 0 (codeOf Try.f39)) fuel [V.at (A.sl 0), V.at (A.int .i64 y0), V.at (A.int .i64 y1)] [⟨true, .rows [K.i .i64, K.i .i64, K.f .f32] y2⟩] = resOf (R_laws_markRodS_L0  (Pure.laws_markRodS_L0 F  fuel y0 y1 y2)) := by
  intro fuel
  induction fuel with
  | zero => intro y0 y1 y2 h; exact absurd h Bool.false_ne_true
  | succ n ih =>
    intro y0 y1 y2
    have h0 : roundOf (cxS F tyl [] [] [] 0) 1 35 0 [0, 1, 5] [32, 3, 3] [1] (loopB 0 (codeOf Try.f39)) [V.at (A.sl 0), V.at (A.int .i64 y0), V.at (A.int .i64 y1)] [⟨true, .rows [K.i .i64, K.i .i64, K.f .f32] y2⟩] = (bif decide (y1 < (Int.ofNat y2.length)) then bif decide (0 ≤ y1) then bif decide (y1 < (Int.ofNat y2.length)) then bif decide (0 ≤ y1) then bif decide (y1 < (Int.ofNat (List.length (List.set y2 (Int.toNat y1) (setFrom (List.getD y2 (Int.toNat y1) []) 0 [y0]))))) then bif decide (0 ≤ y1) then bif decide (y1 < (Int.ofNat (List.length (List.set (List.set y2 (Int.toNat y1) (setFrom (List.getD y2 (Int.toNat y1) []) 0 [y0])) (Int.toNat y1) (setFrom (List.getD (List.set y2 (Int.toNat y1) (setFrom (List.getD y2 (Int.toNat y1) []) 0 [y0])) (Int.toNat y1) []) 1 [IntKind.wrap .i64 (y0 + 1)]))))) then some (true, (Ex.normal, ([V.at (A.sl 0), V.at (A.int .i64 (IntKind.wrap .i64 ((IntKind.wrap .i64 ((IntKind.wrap .i64 (y0 + 1)) + 1)) + 1))), V.at (A.int .i64 (IntKind.wrap .i64 (y1 + 1)))], [⟨true, .rows [K.i .i64, K.i .i64, K.f .f32] (List.set (List.set (List.set y2 (Int.toNat y1) (setFrom (List.getD y2 (Int.toNat y1) []) 0 [y0])) (Int.toNat y1) (setFrom (List.getD (List.set y2 (Int.toNat y1) (setFrom (List.getD y2 (Int.toNat y1) []) 0 [y0])) (Int.toNat y1) []) 1 [IntKind.wrap .i64 (y0 + 1)])) (Int.toNat y1) (setFrom (List.getD (List.set (List.set y2 (Int.toNat y1) (setFrom (List.getD y2 (Int.toNat y1) []) 0 [y0])) (Int.toNat y1) (setFrom (List.getD (List.set y2 (Int.toNat y1) (setFrom (List.getD y2 (Int.toNat y1) []) 0 [y0])) (Int.toNat y1) []) 1 [IntKind.wrap .i64 (y0 + 1)])) (Int.toNat y1) []) 2 [F.ofInt .f32 (IntKind.wrap .i64 ((IntKind.wrap .i64 (y0 + 1)) + 1))]))⟩]))) else none else none else none else none else none else none else some (false, (Ex.normal, ([V.at (A.int .i64 y0)], [⟨true, .rows [K.i .i64, K.i .i64, K.f .f32] y2⟩])))) := by kernel_rfl
    unfold loopOf
    rw [h0]
    unfold Pure.laws_markRodS_L0
    cases (decide (y1 < (Int.ofNat y2.length))) with
    | true =>
      cases (decide (0 ≤ y1)) with
      | true =>
        cases (decide (y1 < (Int.ofNat (List.length (List.set y2 (Int.toNat y1) (setFrom (List.getD y2 (Int.toNat y1) []) 0 [y0])))))) with
        | true =>
          cases (decide (y1 < (Int.ofNat (List.length (List.set (List.set y2 (Int.toNat y1) (setFrom (List.getD y2 (Int.toNat y1) []) 0 [y0])) (Int.toNat y1) (setFrom (List.getD (List.set y2 (Int.toNat y1) (setFrom (List.getD y2 (Int.toNat y1) []) 0 [y0])) (Int.toNat y1) []) 1 [IntKind.wrap .i64 (y0 + 1)])))))) with
          | true =>
            exact ih _ _ _
          | false =>
            intro h; exact absurd h Bool.false_ne_true
        | false =>
          intro h; exact absurd h Bool.false_ne_true
      | false =>
        intro h; exact absurd h Bool.false_ne_true
    | false =>
      intro _; rfl
theorem t_laws_markRodS_L0 : SmTo Try.prog 1 35 (S_laws_markRodS_L0 real) 0 (.loop (loopB 0 (codeOf Try.f39))) := by
  refine smTo_ev (cl := []) (ef := []) (sm := []) (un := 0) prog_ok allOK_nil smL_nil ?_
  intro vals hp q r h hq
  unfold S_laws_markRodS_L0 at h
  dsimp only at h
  split at h
  · rename_i y0 y1 y2
    obtain rfl := Option.some.inj h
    have h1 := hq
    unfold resOf at h1
    rw [chk_some] at h1
    exact ⟨_, (l_laws_markRodS_L0 real _ y0 y1 y2 h1.1).trans hq⟩
  · cases h
def Pure.laws_markRodS (F : FOps) (x0 : List (List Int)) (x1 : Int) : Int := Prod.fst (Prod.snd (Pure.laws_markRodS_L0 F (Nat.succ (x0.length + 0)) x1 0 x0))
def Pure.laws_markRodS_1 (F : FOps) (x0 : List (List Int)) (x1 : Int) : List (List Int) := Prod.snd (Prod.snd (Pure.laws_markRodS_L0 F (Nat.succ (x0.length + 0)) x1 0 x0))
def Pure.laws_markRodS_ok (F : FOps) (x0 : List (List Int)) (x1 : Int) : Bool := Prod.fst (Pure.laws_markRodS_L0 F (Nat.succ (x0.length + 0)) x1 0 x0)
def c_laws_markRodS (F : FOps) : Con
  | [V.at (A.sl 0), V.at (A.int .i64 x1)], [⟨true, .rows [K.i .i64, K.i .i64, K.f .f32] x0⟩] => some (Pure.laws_markRodS_ok F x0 x1, ⟨V.at (A.int .i64 (Pure.laws_markRodS F x0 x1)), some [⟨true, .rows [K.i .i64, K.i .i64, K.f .f32] (Pure.laws_markRodS_1 F x0 x1)⟩], []⟩)
  | _, _ => none
theorem e_laws_markRodS (F : FOps) (x0 : List (List Int)) (x1 : Int) : Pure.laws_markRodS_ok F x0 x1 = true → evFn (cxS F tyl [] [] [(0, S_laws_markRodS_L0 F)] 0) Try.f39 true [V.at (A.sl 0), V.at (A.int .i64 x1)] [⟨true, .rows [K.i .i64, K.i .i64, K.f .f32] x0⟩] = some ⟨V.at (A.int .i64 (Pure.laws_markRodS F x0 x1)), some [⟨true, .rows [K.i .i64, K.i .i64, K.f .f32] (Pure.laws_markRodS_1 F x0 x1)⟩], []⟩ := by
  have h0 : evFn (cxS F tyl [] [] [(0, S_laws_markRodS_L0 F)] 0) Try.f39 true [V.at (A.sl 0), V.at (A.int .i64 x1)] [⟨true, .rows [K.i .i64, K.i .i64, K.f .f32] x0⟩] = bif Prod.fst (Pure.laws_markRodS_L0 F (Nat.succ (x0.length + 0)) x1 0 x0) then some ⟨V.at (A.int .i64 (Prod.fst (Prod.snd (Pure.laws_markRodS_L0 F (Nat.succ (x0.length + 0)) x1 0 x0)))), some [⟨true, .rows [K.i .i64, K.i .i64, K.f .f32] (Prod.snd (Prod.snd (Pure.laws_markRodS_L0 F (Nat.succ (x0.length + 0)) x1 0 x0)))⟩], []⟩ else none := by kernel_rfl
  rw [h0]
  unfold Pure.laws_markRodS Pure.laws_markRodS_1 Pure.laws_markRodS_ok
  cases (Prod.fst (Pure.laws_markRodS_L0 F (Nat.succ (x0.length + 0)) x1 0 x0)) with
  | true =>
    intro _; rfl
  | false =>
    intro h; exact absurd h Bool.false_ne_true
theorem ok_laws_markRodS : CallOK Try.prog 39 (c_laws_markRodS real) := by
  refine callOK_of fun args h ret hc => ?_
  unfold c_laws_markRodS at hc
  split at hc
  · rename_i x1 x0
    obtain ⟨hok, rfl⟩ := some_ret hc
    exact holdsE_ev prog_ok allOK_nil Try.func39 rfl rfl (smL_cons (body := .loop (loopB 0 (codeOf Try.f39))) (by kernel_rfl) t_laws_markRodS_L0 smL_nil) (e_laws_markRodS real x0 x1 hok)
  · cases hc
def Pure.laws_markChain (F : FOps) (x0 x1 x2 x3 : List (List Int)) (x4 : Int) : Int := Pure.laws_markRodS F x3 (Pure.laws_markFloat32S F x2 (Pure.laws_markVectorS F x1 (Pure.laws_markVectorS F x0 x4)))
def Pure.laws_markChain_1 (F : FOps) (x0 x1 x2 x3 : List (List Int)) (x4 : Int) : List (List Int) := Pure.laws_markVectorS_1 F x1 (Pure.laws_markVectorS F x0 x4)
def Pure.laws_markChain_2 (F : FOps) (x0 x1 x2 x3 : List (List Int)) (x4 : Int) : List (List Int) := Pure.laws_markFloat32S_1 F x2 (Pure.laws_markVectorS F x1 (Pure.laws_markVectorS F x0 x4))
def Pure.laws_markChain_3 (F : FOps) (x0 x1 x2 x3 : List (List Int)) (x4 : Int) : List (List Int) := Pure.laws_markRodS_1 F x3 (Pure.laws_markFloat32S F x2 (Pure.laws_markVectorS F x1 (Pure.laws_markVectorS F x0 x4)))
def Pure.laws_markChain_ok (F : FOps) (x0 x1 x2 x3 : List (List Int)) (x4 : Int) : Bool := bif Pure.laws_markVectorS_ok F x0 x4 then bif Pure.laws_markVectorS_ok F x1 (Pure.laws_markVectorS F x0 x4) then bif Pure.laws_markFloat32S_ok F x2 (Pure.laws_markVectorS F x1 (Pure.laws_markVectorS F x0 x4)) then Pure.laws_markRodS_ok F x3 (Pure.laws_markFloat32S F x2 (Pure.laws_markVectorS F x1 (Pure.laws_markVectorS F x0 x4))) else false else false else false
def c_laws_markChain (F : FOps) : Con
  | [V.agg [A.sl 0, A.sl 1, A.sl 2, A.sl 3], V.at (A.int .i64 x4)], [⟨true, .rows [K.f .f32, K.f .f32, K.f .f32] x0⟩, ⟨true, .rows [K.f .f32, K.f .f32, K.f .f32] x1⟩, ⟨true, .rows [K.f .f32] x2⟩, ⟨true, .rows [K.i .i64, K.i .i64, K.f .f32] x3⟩] => some (Pure.laws_markChain_ok F x0 x1 x2 x3 x4, ⟨V.at (A.int .i64 (Pure.laws_markChain F x0 x1 x2 x3 x4)), some [⟨true, .rows [K.f .f32, K.f .f32, K.f .f32] (Pure.laws_markVectorS_1 F x0 x4)⟩, ⟨true, .rows [K.f .f32, K.f .f32, K.f .f32] (Pure.laws_markChain_1 F x0 x1 x2 x3 x4)⟩, ⟨true, .rows [K.f .f32] (Pure.laws_markChain_2 F x0 x1 x2 x3 x4)⟩, ⟨true, .rows [K.i .i64, K.i .i64, K.f .f32] (Pure.laws_markChain_3 F x0 x1 x2 x3 x4)⟩], []⟩)
  | _, _ => none
theorem e_laws_markChain (F : FOps) (x0 x1 x2 x3 : List (List Int)) (x4 : Int) : Pure.laws_markChain_ok F x0 x1 x2 x3 x4 = true → evFn (cxS F tyl [(38, c_laws_markVectorS F), (19, c_laws_markFloat32S F), (39, c_laws_markRodS F)] [38, 19, 39] [] 0) Try.f12 true [V.agg [A.sl 0, A.sl 1, A.sl 2, A.sl 3], V.at (A.int .i64 x4)] [⟨true, .rows [K.f .f32, K.f .f32, K.f .f32] x0⟩, ⟨true, .rows [K.f .f32, K.f .f32, K.f .f32] x1⟩, ⟨true, .rows [K.f .f32] x2⟩, ⟨true, .rows [K.i .i64, K.i .i64, K.f .f32] x3⟩] = some ⟨V.at (A.int .i64 (Pure.laws_markChain F x0 x1 x2 x3 x4)), some [⟨true, .rows [K.f .f32, K.f .f32, K.f .f32] (Pure.laws_markVectorS_1 F x0 x4)⟩, ⟨true, .rows [K.f .f32, K.f .f32, K.f .f32] (Pure.laws_markChain_1 F x0 x1 x2 x3 x4)⟩, ⟨true, .rows [K.f .f32] (Pure.laws_markChain_2 F x0 x1 x2 x3 x4)⟩, ⟨true, .rows [K.i .i64, K.i .i64, K.f .f32] (Pure.laws_markChain_3 F x0 x1 x2 x3 x4)⟩], []⟩ := by
  have h0 : evFn (cxS F tyl [(38, c_laws_markVectorS F), (19, c_laws_markFloat32S F), (39, c_laws_markRodS F)] [38, 19, 39] [] 0) Try.f12 true [V.agg [A.sl 0, A.sl 1, A.sl 2, A.sl 3], V.at (A.int .i64 x4)] [⟨true, .rows [K.f .f32, K.f .f32, K.f .f32] x0⟩, ⟨true, .rows [K.f .f32, K.f .f32, K.f .f32] x1⟩, ⟨true, .rows [K.f .f32] x2⟩, ⟨true, .rows [K.i .i64, K.i .i64, K.f .f32] x3⟩] = bif Pure.laws_markVectorS_ok F x0 x4 then bif Pure.laws_markVectorS_ok F x1 (Pure.laws_markVectorS F x0 x4) then bif Pure.laws_markFloat32S_ok F x2 (Pure.laws_markVectorS F x1 (Pure.laws_markVectorS F x0 x4)) then bif Pure.laws_markRodS_ok F x3 (Pure.laws_markFloat32S F x2 (Pure.laws_markVectorS F x1 (Pure.laws_markVectorS F x0 x4))) then some ⟨V.at (A.int .i64 (Pure.laws_markRodS F x3 (Pure.laws_markFloat32S F x2 (Pure.laws_markVectorS F x1 (Pure.laws_markVectorS F x0 x4))))), some [⟨true, .rows [K.f .f32, K.f .f32, K.f .f32] (Pure.laws_markVectorS_1 F x0 x4)⟩, ⟨true, .rows [K.f .f32, K.f .f32, K.f .f32] (Pure.laws_markVectorS_1 F x1 (Pure.laws_markVectorS F x0 x4))⟩, ⟨true, .rows [K.f .f32] (Pure.laws_markFloat32S_1 F x2 (Pure.laws_markVectorS F x1 (Pure.laws_markVectorS F x0 x4)))⟩, ⟨true, .rows [K.i .i64, K.i .i64, K.f .f32] (Pure.laws_markRodS_1 F x3 (Pure.laws_markFloat32S F x2 (Pure.laws_markVectorS F x1 (Pure.laws_markVectorS F x0 x4))))⟩], []⟩ else none else none else none else none := by kernel_rfl
  rw [h0]
  unfold Pure.laws_markChain Pure.laws_markChain_1 Pure.laws_markChain_2 Pure.laws_markChain_3 Pure.laws_markChain_ok
  cases (Pure.laws_markVectorS_ok F x0 x4) with
  | true =>
    cases (Pure.laws_markVectorS_ok F x1 (Pure.laws_markVectorS F x0 x4)) with
    | true =>
      cases (Pure.laws_markFloat32S_ok F x2 (Pure.laws_markVectorS F x1 (Pure.laws_markVectorS F x0 x4))) with
      | true =>
        cases (Pure.laws_markRodS_ok F x3 (Pure.laws_markFloat32S F x2 (Pure.laws_markVectorS F x1 (Pure.laws_markVectorS F x0 x4)))) with
        | true =>
          intro _; rfl
        | false =>
          intro h; exact absurd h Bool.false_ne_true
      | false =>
        intro h; exact absurd h Bool.false_ne_true
    | false =>
      intro h; exact absurd h Bool.false_ne_true
  | false =>
    intro h; exact absurd h Bool.false_ne_true
theorem ok_laws_markChain : CallOK Try.prog 12 (c_laws_markChain real) := by
  refine callOK_of fun args h ret hc => ?_
  unfold c_laws_markChain at hc
  split at hc
  · rename_i x4 x0 x1 x2 x3
    obtain ⟨hok, rfl⟩ := some_ret hc
    exact holdsE_ev prog_ok (allOK_cons ok_laws_markVectorS (allOK_cons ok_laws_markFloat32S (allOK_cons ok_laws_markRodS allOK_nil))) Try.func12 rfl rfl smL_nil (e_laws_markChain real x0 x1 x2 x3 x4 hok)
  · cases hc
def Pure.laws_heldVectorS_L0 (F : FOps) (y2 : List (List Int)) : Nat → Int → Int → (Bool × Bool × Int × Int)
  | 0, _, _ => (false, false, 0, 0)
  | n + 1, y0, y1 => bif (decide (y1 < (Int.ofNat y2.length))) then (bif (decide (0 ≤ y1)) then (bif (decide (y1 < (Int.ofNat y2.length))) then (bif (F.cmp .neq .f32 ((y2.getD y1.toNat []).getD 0 0) (F.ofInt .f32 y0)) then ((true, true, 0, y0)) else (bif (decide (0 ≤ y1)) then (bif (decide (y1 < (Int.ofNat y2.length))) then (bif (F.cmp .neq .f32 ((y2.getD y1.toNat []).getD 1 0) (F.ofInt .f32 (IntKind.wrap .i64 (y0 + 1)))) then ((true, true, 0, IntKind.wrap .i64 (y0 + 1))) else (bif (decide (0 ≤ y1)) then (bif (decide (y1 < (Int.ofNat y2.length))) then (bif (F.cmp .neq .f32 ((y2.getD y1.toNat []).getD 2 0) (F.ofInt .f32 (IntKind.wrap .i64 ((IntKind.wrap .i64 (y0 + 1)) + 1)))) then ((true, true, 0, IntKind.wrap .i64 ((IntKind.wrap .i64 (y0 + 1)) + 1))) else (Pure.laws_heldVectorS_L0 F y2 n (IntKind.wrap .i64 ((IntKind.wrap .i64 ((IntKind.wrap .i64 (y0 + 1)) + 1)) + 1)) (IntKind.wrap .i64 (y1 + 1)))) else ((false, false, 0, 0))) else ((false, false, 0, 0)))) else ((false, false, 0, 0))) else ((false, false, 0, 0)))) else ((false, false, 0, 0))) else ((false, false, 0, 0))) else ((true, false, y0, 0))
def R_laws_heldVectorS_L0 (y2 : List (List Int)) (r : (Bool × Bool × Int × Int)) : Bool × Ends := ((r).1, .two (r).2.1 (.one Ex.normal [V.at (A.int .i64 (r).2.2.1), V.at A.undef] [⟨false, .rows [K.f .f32, K.f .f32, K.f .f32] y2⟩]) (.one Ex.ret [V.at (A.int .i64 (r).2.2.2), V.at (A.int .i64 (-1))] [⟨false, .rows [K.f .f32, K.f .f32, K.f .f32] y2⟩]))
def S_laws_heldVectorS_L0 (F : FOps) : Sm := ⟨[0, 1, 5], [31, 3, 3], [1, 4], fun vals hp => match vals, hp with
  | [V.at (A.sl 0), V.at (A.int .i64 y0), V.at (A.int .i64 y1)], [⟨false, .rows [K.f .f32, K.f .f32, K.f .f32] y2⟩] => some (R_laws_heldVectorS_L0 y2 (Pure.laws_heldVectorS_L0 F y2 ((Int.ofNat y2.length) - y1 + 1).toNat y0 y1))
  | _, _ => none⟩
end Go.Fx
