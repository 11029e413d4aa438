import Derived.Test.YtfefhcbffepdlaaXr6g
import Derived.Test.YtfefhcbffepdlaaF3
namespace Go.Fx
def rootW (n : Nat) : Int := Pure.impl_RootNumber real (real.ofInt .f32 (n : Int))
def gapN (m n : Nat) : Bool := real.cmp .lss .f64 (Pure.laws_r8Gap real (real.conv .f32 .f64 (rootW (m * n))) (real.bin .mul .f64 (real.conv .f32 .f64 (rootW m)) (real.conv .f32 .f64 (rootW n)))) (real.bin .mul .f64 4562254508917369340 (real.bin .add .f64 4607182418800017408 (real.conv .f32 .f64 (rootW (m * n)))))
def gapR (m k : Nat) : Bool := (List.range k).all fun i => (List.range 64).all fun n => gapN (m + i + 1) (n + 1)
theorem gap0 : gapR 0 2 = true := by decide +kernel
theorem gap1 : gapR 2 2 = true := by decide +kernel
theorem gap2 : gapR 4 2 = true := by decide +kernel
theorem gap3 : gapR 6 2 = true := by decide +kernel
theorem gap4 : gapR 8 2 = true := by decide +kernel
theorem gap5 : gapR 10 2 = true := by decide +kernel
theorem gap6 : gapR 12 2 = true := by decide +kernel
theorem gap7 : gapR 14 2 = true := by decide +kernel
theorem gap8 : gapR 16 2 = true := by decide +kernel
theorem gap9 : gapR 18 2 = true := by decide +kernel
theorem gap10 : gapR 20 2 = true := by decide +kernel
theorem gap11 : gapR 22 2 = true := by decide +kernel
theorem gap12 : gapR 24 2 = true := by decide +kernel
theorem gap13 : gapR 26 2 = true := by decide +kernel
theorem gap14 : gapR 28 2 = true := by decide +kernel
theorem gap15 : gapR 30 2 = true := by decide +kernel
theorem gap16 : gapR 32 2 = true := by decide +kernel
theorem gap17 : gapR 34 2 = true := by decide +kernel
theorem gap18 : gapR 36 2 = true := by decide +kernel
theorem gap19 : gapR 38 2 = true := by decide +kernel
theorem gap20 : gapR 40 2 = true := by decide +kernel
theorem gap21 : gapR 42 2 = true := by decide +kernel
theorem gap22 : gapR 44 2 = true := by decide +kernel
theorem gap23 : gapR 46 2 = true := by decide +kernel
theorem gap24 : gapR 48 2 = true := by decide +kernel
theorem gap25 : gapR 50 2 = true := by decide +kernel
theorem gap26 : gapR 52 2 = true := by decide +kernel
theorem gap27 : gapR 54 2 = true := by decide +kernel
theorem gap28 : gapR 56 2 = true := by decide +kernel
theorem gap29 : gapR 58 2 = true := by decide +kernel
theorem gap30 : gapR 60 2 = true := by decide +kernel
theorem gap31 : gapR 62 2 = true := by decide +kernel
theorem gapR_is {m k : Nat} (h : gapR m k = true) {i n : Nat} (hi : m < i) (h2 : i ≤ m + k) (hn : 1 ≤ n ∧ n ≤ 64) : gapN i n = true := by
  unfold gapR at h
  rw [List.all_eq_true] at h
  have h1 := h (i - m - 1) (List.mem_range.2 (by omega))
  rw [List.all_eq_true] at h1
  have h2 := h1 (n - 1) (List.mem_range.2 (by omega))
  rwa [show m + (i - m - 1) + 1 = i by omega, show n - 1 + 1 = n by omega] at h2
theorem gap_is {m n : Nat} (hm : 1 ≤ m ∧ m ≤ 64) (hn : 1 ≤ n ∧ n ≤ 64) : gapN m n = true := by
  by_cases h0 : m ≤ 2
  · exact gapR_is gap0 (by omega) (by omega) hn
  by_cases h1 : m ≤ 4
  · exact gapR_is gap1 (by omega) (by omega) hn
  by_cases h2 : m ≤ 6
  · exact gapR_is gap2 (by omega) (by omega) hn
  by_cases h3 : m ≤ 8
  · exact gapR_is gap3 (by omega) (by omega) hn
  by_cases h4 : m ≤ 10
  · exact gapR_is gap4 (by omega) (by omega) hn
  by_cases h5 : m ≤ 12
  · exact gapR_is gap5 (by omega) (by omega) hn
  by_cases h6 : m ≤ 14
  · exact gapR_is gap6 (by omega) (by omega) hn
  by_cases h7 : m ≤ 16
  · exact gapR_is gap7 (by omega) (by omega) hn
  by_cases h8 : m ≤ 18
  · exact gapR_is gap8 (by omega) (by omega) hn
  by_cases h9 : m ≤ 20
  · exact gapR_is gap9 (by omega) (by omega) hn
  by_cases h10 : m ≤ 22
  · exact gapR_is gap10 (by omega) (by omega) hn
  by_cases h11 : m ≤ 24
  · exact gapR_is gap11 (by omega) (by omega) hn
  by_cases h12 : m ≤ 26
  · exact gapR_is gap12 (by omega) (by omega) hn
  by_cases h13 : m ≤ 28
  · exact gapR_is gap13 (by omega) (by omega) hn
  by_cases h14 : m ≤ 30
  · exact gapR_is gap14 (by omega) (by omega) hn
  by_cases h15 : m ≤ 32
  · exact gapR_is gap15 (by omega) (by omega) hn
  by_cases h16 : m ≤ 34
  · exact gapR_is gap16 (by omega) (by omega) hn
  by_cases h17 : m ≤ 36
  · exact gapR_is gap17 (by omega) (by omega) hn
  by_cases h18 : m ≤ 38
  · exact gapR_is gap18 (by omega) (by omega) hn
  by_cases h19 : m ≤ 40
  · exact gapR_is gap19 (by omega) (by omega) hn
  by_cases h20 : m ≤ 42
  · exact gapR_is gap20 (by omega) (by omega) hn
  by_cases h21 : m ≤ 44
  · exact gapR_is gap21 (by omega) (by omega) hn
  by_cases h22 : m ≤ 46
  · exact gapR_is gap22 (by omega) (by omega) hn
  by_cases h23 : m ≤ 48
  · exact gapR_is gap23 (by omega) (by omega) hn
  by_cases h24 : m ≤ 50
  · exact gapR_is gap24 (by omega) (by omega) hn
  by_cases h25 : m ≤ 52
  · exact gapR_is gap25 (by omega) (by omega) hn
  by_cases h26 : m ≤ 54
  · exact gapR_is gap26 (by omega) (by omega) hn
  by_cases h27 : m ≤ 56
  · exact gapR_is gap27 (by omega) (by omega) hn
  by_cases h28 : m ≤ 58
  · exact gapR_is gap28 (by omega) (by omega) hn
  by_cases h29 : m ≤ 60
  · exact gapR_is gap29 (by omega) (by omega) hn
  by_cases h30 : m ≤ 62
  · exact gapR_is gap30 (by omega) (by omega) hn
  by_cases h31 : m ≤ 64
  · exact gapR_is gap31 (by omega) (by omega) hn
  omega

def finB (x : Int) : Bool := decide (0 ≤ x) && decide (x.toNat < 2 * FloatKind.f32.format.signWeight) && decide (rg .f32 x < FloatKind.f32.format.infRung)
def quoW (w : Int) (n : Nat) : Int := real.bin .quo .f32 (real.ofInt .f32 w) (rootW n)
def sqN (w n : Nat) : Int := real.bin .mul .f32 (quoW (w : Int) n) (quoW (w : Int) n)
def quoB (i n : Nat) : Bool := finB (quoW ((i : Int) - 4) n) && (Nat.beq i 4 || real.cmp .neq .f32 (quoW ((i : Int) - 4) n) 0) && decide (real.bin .mul .f32 (quoW ((i : Int) - 4) n) (quoW ((i : Int) - 4) n) = sqN ((i : Int) - 4).natAbs n)
def quoR (i : Nat) : Bool := (List.range 64).all fun n => quoB i (n + 1)
theorem quo0 : quoR 0 = true := by decide +kernel
theorem quo1 : quoR 1 = true := by decide +kernel
theorem quo2 : quoR 2 = true := by decide +kernel
theorem quo3 : quoR 3 = true := by decide +kernel
theorem quo4 : quoR 4 = true := by decide +kernel
theorem quo5 : quoR 5 = true := by decide +kernel
theorem quo6 : quoR 6 = true := by decide +kernel
theorem quo7 : quoR 7 = true := by decide +kernel
theorem quo8 : quoR 8 = true := by decide +kernel
theorem quo_is {i n : Nat} (hi : i < 9) (hn : 1 ≤ n ∧ n ≤ 64) : quoB i n = true := by
  have h : quoR i = true := by
    match i, hi with
    | 0, _ => exact quo0
    | 1, _ => exact quo1
    | 2, _ => exact quo2
    | 3, _ => exact quo3
    | 4, _ => exact quo4
    | 5, _ => exact quo5
    | 6, _ => exact quo6
    | 7, _ => exact quo7
    | 8, _ => exact quo8
  unfold quoR at h
  rw [List.all_eq_true] at h
  have h2 := h (n - 1) (List.mem_range.2 (by omega))
  rwa [show n - 1 + 1 = n by omega] at h2

def normB (a b c d : Nat) : Bool :=
  match a * a + b * b + c * c + d * d with
  | 0 => true
  | s + 1 => real.cmp .lss .f64 (Pure.laws_r8Gap real (real.conv .f32 .f64 (Pure.impl_RootNumber real (real.bin .add .f32 (real.bin .add .f32 (real.bin .add .f32 (sqN a (s + 1)) (sqN b (s + 1))) (sqN c (s + 1))) (sqN d (s + 1))))) 4607182418800017408) 4562254508917369340
def normR (a b : Nat) : Bool := (List.range 5).all fun c => (List.range 5).all fun d => normB a b c d
theorem norm00 : normR 0 0 = true := by decide +kernel
theorem norm01 : normR 0 1 = true := by decide +kernel
theorem norm02 : normR 0 2 = true := by decide +kernel
theorem norm03 : normR 0 3 = true := by decide +kernel
theorem norm04 : normR 0 4 = true := by decide +kernel
theorem norm10 : normR 1 0 = true := by decide +kernel
theorem norm11 : normR 1 1 = true := by decide +kernel
theorem norm12 : normR 1 2 = true := by decide +kernel
theorem norm13 : normR 1 3 = true := by decide +kernel
theorem norm14 : normR 1 4 = true := by decide +kernel
theorem norm20 : normR 2 0 = true := by decide +kernel
theorem norm21 : normR 2 1 = true := by decide +kernel
theorem norm22 : normR 2 2 = true := by decide +kernel
theorem norm23 : normR 2 3 = true := by decide +kernel
theorem norm24 : normR 2 4 = true := by decide +kernel
theorem norm30 : normR 3 0 = true := by decide +kernel
theorem norm31 : normR 3 1 = true := by decide +kernel
theorem norm32 : normR 3 2 = true := by decide +kernel
theorem norm33 : normR 3 3 = true := by decide +kernel
theorem norm34 : normR 3 4 = true := by decide +kernel
theorem norm40 : normR 4 0 = true := by decide +kernel
theorem norm41 : normR 4 1 = true := by decide +kernel
theorem norm42 : normR 4 2 = true := by decide +kernel
theorem norm43 : normR 4 3 = true := by decide +kernel
theorem norm44 : normR 4 4 = true := by decide +kernel
theorem norm_of {a b c d : Nat} (ha : a < 5) (hb : b < 5) (hc : c < 5) (hd : d < 5) : normB a b c d = true := by
  have h : normR a b = true := by
    match a, b, ha, hb with
    | 0, 0, _, _ => exact norm00
    | 0, 1, _, _ => exact norm01
    | 0, 2, _, _ => exact norm02
    | 0, 3, _, _ => exact norm03
    | 0, 4, _, _ => exact norm04
    | 1, 0, _, _ => exact norm10
    | 1, 1, _, _ => exact norm11
    | 1, 2, _, _ => exact norm12
    | 1, 3, _, _ => exact norm13
    | 1, 4, _, _ => exact norm14
    | 2, 0, _, _ => exact norm20
    | 2, 1, _, _ => exact norm21
    | 2, 2, _, _ => exact norm22
    | 2, 3, _, _ => exact norm23
    | 2, 4, _, _ => exact norm24
    | 3, 0, _, _ => exact norm30
    | 3, 1, _, _ => exact norm31
    | 3, 2, _, _ => exact norm32
    | 3, 3, _, _ => exact norm33
    | 3, 4, _, _ => exact norm34
    | 4, 0, _, _ => exact norm40
    | 4, 1, _, _ => exact norm41
    | 4, 2, _, _ => exact norm42
    | 4, 3, _, _ => exact norm43
    | 4, 4, _, _ => exact norm44
  unfold normR at h
  rw [List.all_eq_true] at h
  have h2 := h c (List.mem_range.2 hc)
  rw [List.all_eq_true] at h2
  exact h2 d (List.mem_range.2 hd)
end Go.Fx
