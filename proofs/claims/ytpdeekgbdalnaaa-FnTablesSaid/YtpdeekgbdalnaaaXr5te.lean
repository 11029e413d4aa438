import Derived.Test.YtpdeekgbdalnaaaXr5tc
/- The sizes that are drawn, and flights of three quarters: tables. -/
namespace Go.Fx
open Ieee
set_option exponentiation.threshold 5000

def finB (k : FloatKind) (x : Int) : Bool := decide (0 ≤ x) && decide (x.toNat < 2 * k.format.signWeight) && decide (rg k x < k.format.infRung)
theorem finB_is {k : FloatKind} {x : Int} (h : finB k x = true) : Fin k x := by
  unfold finB at h
  simp only [Bool.and_eq_true, decide_eq_true_eq] at h
  exact ⟨h.1.1, h.1.2, h.2⟩
theorem all_range {n : Nat} {p : Nat → Bool} (h : (List.range n).all p = true) {j : Nat} (hj : j < n) : p j = true := List.all_eq_true.1 h j (List.mem_range.2 hj)

def wS (a : Nat) : Int := real.bin .quo .f32 (real.ofInt .f32 (a : Int)) 1107296256
def wR (a : Nat) : Int := real.bin .quo .f32 (real.ofInt .f32 (a : Int)) 1082130432
def wP (a : Nat) : Int := real.bin .quo .f32 (real.ofInt .f32 (IntKind.wrap .i64 (1 + (a : Int)))) 1073741824
def wA (a : Nat) : Int := real.bin .quo .f32 (real.ofInt .f32 (IntKind.wrap .i64 (4 + (a : Int)))) 1090519040
def wV (a : Nat) : Int := real.bin .quo .f32 (real.ofInt .f32 (IntKind.wrap .i64 ((a : Int) - 8))) 1082130432
def wT (a : Nat) : Int := real.bin .quo .f32 (real.ofInt .f32 (a : Int)) 1090519040

theorem tS : ((List.range 9).all fun a => finB .f32 (wS a) && decide (0 ≤ fv .f32 (wS a)) && decide (fv .f32 (wS a) ≤ 2 ^ 147)) = true := by decide +kernel
theorem tR : ((List.range 9).all fun a => finB .f32 (wR a) && decide (0 ≤ fv .f32 (wR a)) && decide (fv .f32 (wR a) ≤ 2 ^ 150)) = true := by decide +kernel
theorem tK : ((List.range 5).all fun a => decide (fv .f32 (wR a) ≤ 2 ^ 149)) = true := by decide +kernel
theorem tP : ((List.range 8).all fun a => finB .f32 (wP a) && decide (2 ^ 148 ≤ fv .f32 (wP a)) && decide (fv .f32 (wP a) ≤ 2 ^ 151) && finB .f32 (real.bin .quo .f32 (wP a) 1073741824) && decide (2 * fv .f32 (real.bin .quo .f32 (wP a) 1073741824) = fv .f32 (wP a))) = true := by decide +kernel
theorem tA : ((List.range 13).all fun a => finB .f32 (wA a) && decide (2 ^ 148 ≤ fv .f32 (wA a)) && decide (fv .f32 (wA a) ≤ 2 ^ 150)) = true := by decide +kernel
theorem tV : ((List.range 17).all fun a => finB .f32 (wV a) && decide ((fv .f32 (wV a)).natAbs ≤ 2 ^ 150)) = true := by decide +kernel

def qtr : Int := 1048576000
def hlf : Int := 1056964608
def tqr : Int := 1061158912

def okT (T : Int) : Bool := finB .f32 T && decide (0 ≤ fv .f32 T) && decide (fv .f32 T ≤ 2 ^ 149) && finB .f32 (gT T qtr) && finB .f32 (gT (gT T qtr) hlf) && finB .f32 (gT T tqr) && real.cmp .eql .f32 (gT (gT T qtr) hlf) (gT T tqr)
theorem tT : ((List.range 9).all fun a => okT (wT a)) = true := by decide +kernel

def gap64 (a b : Int) : Int := real.mx .f64 (real.bin .sub .f64 a b) (real.bin .sub .f64 b a)
def okF3 (P A V : Int) : Bool :=
  finB .f32 (gA A V P qtr) && finB .f32 (gS V P qtr) && finB .f32 (gA (gA A V P qtr) (gS V P qtr) P hlf) && finB .f32 (gS (gS V P qtr) P hlf) && finB .f32 (gA A V P tqr) && finB .f32 (gS V P tqr) &&
  real.cmp .lss .f64 (gap64 (real.conv .f32 .f64 (gA (gA A V P qtr) (gS V P qtr) P hlf)) (real.conv .f32 .f64 (gA A V P tqr))) 4562254508917369340 &&
  real.cmp .lss .f64 (gap64 (real.conv .f32 .f64 (gS (gS V P qtr) P hlf)) (real.conv .f32 .f64 (gS V P tqr))) 4562254508917369340
theorem tF : ((List.range 8).all fun d => (List.range 13).all fun e => (List.range 17).all fun f => okF3 (wP d) (wA e) (wV f)) = true := by decide +kernel

theorem draw_is {a b c d e f g : Nat} (ha : a < 9) (hb : b < 9) (hc : c < 5) (hd : d < 8) (he : e < 13) (hf : f < 17) (hg : g < 9) : Draw (wS a) (wR b) (wR c) (wP d) (wA e) (wV f) (wT g) := by
  have h1 := all_range tS ha
  have h2 := all_range tR hb
  have h3 := all_range tR (show c < 9 by omega)
  have h4 := all_range tK hc
  have h5 := all_range tP hd
  have h6 := all_range tA he
  have h7 := all_range tV hf
  have h8 := all_range tT hg
  unfold okT at h8
  simp only [Bool.and_eq_true, decide_eq_true_eq] at h1 h2 h3 h4 h5 h6 h7 h8
  exact ⟨finB_is h1.1.1, h1.1.2, h1.2, finB_is h2.1.1, h2.1.2, h2.2, finB_is h3.1.1, h3.1.2, h4, finB_is h5.1.1.1.1, h5.1.1.1.2, h5.1.1.2, finB_is h5.1.2, h5.2, finB_is h6.1.1, h6.1.2, h6.2, finB_is h7.1, h7.2, finB_is h8.1.1.1.1.1.1, h8.1.1.1.1.1.2, h8.1.1.1.1.2⟩
end Go.Fx
