import Derived.Test.YtmcfcijddhgphaaXr4n
import Derived.Test.YtmcfcijddhgphaaF3
import Derived.Test.YtmcfcijddhgphaaF4
namespace Go.Fx
set_option maxRecDepth 100000
def stepG (r o : Int) : Int := real.bin .mul .f32 (real.bin .mul .f32 r o) (real.bin .sub .f32 1065353216 o)
def itG (r : Int) : Nat → Int → Int
  | 0, o => o
  | n + 1, o => itG r n (stepG r o)
theorem itG_last (r : Int) : ∀ (n : Nat) (o : Int), itG r (n + 1) o = stepG r (itG r n o)
  | 0, _ => rfl
  | n + 1, o => itG_last r n (stepG r o)
theorem itG_add (r : Int) (m : Nat) : ∀ (n : Nat) (o : Int), itG r (n + m) o = itG r m (itG r n o)
  | 0, o => by rw [Nat.zero_add]; rfl
  | n + 1, o => by
    rw [show n + 1 + m = (n + m) + 1 by omega]
    exact itG_add r m n (stepG r o)
def fx (i : Int) : Int := real.bin .quo .f32 (real.ofInt .f32 (1 + i)) 1098907648
def fr (i : Int) : Int := real.bin .quo .f32 (real.ofInt .f32 i) 1090519040
def ft (i : Int) : Int := real.bin .quo .f32 (real.ofInt .f32 (12 + i)) 1090519040

def goodA (o : Int) : Bool := Pure.impl_IsFinite real o && !real.cmp .lss .f32 o 3129152111 && !real.cmp .gtr .f32 o 1065361605
def runA (r : Int) : Nat → Int → Bool
  | 0, o => goodA o
  | n + 1, o => goodA o && runA r n (stepG r o)
theorem runA_at {r : Int} : ∀ {n : Nat} {o : Int}, runA r n o = true → ∀ m, m ≤ n → goodA (itG r m o) = true
  | 0, o, h, m, hm => by
    obtain rfl : m = 0 := by omega
    exact h
  | n + 1, o, h, m, hm => by
    simp only [runA, Bool.and_eq_true] at h
    cases m with
    | zero => exact h.1
    | succ m => exact runA_at h.2 m (by omega)
def tabA (a b : Nat) : Bool := (List.range' a b).all fun i => (List.range 33).all fun r => Pure.impl_IsFinite real (fr r) && runA (fr r) 13 (fx i)
theorem tabA1 : tabA 0 4 = true := by decide +kernel
theorem tabA2 : tabA 4 4 = true := by decide +kernel
theorem tabA3 : tabA 8 4 = true := by decide +kernel
theorem tabA4 : tabA 12 3 = true := by decide +kernel

def ends : Nat → List Int
  | 0 => [1051372202]
  | 1 => [1053092942]
  | 2 => [1054567862]
  | 3 => [1055846126, 1055846127]
  | 4 => [1056964607, 1056964608]
  | 5 => [1057458055]
  | 6 => [1057896675]
  | 7 => [1058289125]
  | 8 => [1058642330, 1058642329]
  | _ => [1058961896, 1058961895]
def runB (r : Int) (l : List Int) : Nat → Int → Bool
  | 0, o => l.any fun e => decide (o = e)
  | n + 1, o => Pure.impl_IsFinite real o && runB r l n (stepG r o)
theorem runB_at {r : Int} {l : List Int} : ∀ {n : Nat} {o : Int}, runB r l n o = true → (∀ m, m < n → Pure.impl_IsFinite real (itG r m o) = true) ∧ itG r n o ∈ l
  | 0, o, h => by
    refine ⟨fun m hm => by omega, ?_⟩
    simp only [runB, List.any_eq_true, decide_eq_true_eq] at h
    obtain ⟨e, he, rfl⟩ := h
    exact he
  | n + 1, o, h => by
    simp only [runB, Bool.and_eq_true] at h
    obtain ⟨h1, h2⟩ := runB_at h.2
    refine ⟨fun m hm => ?_, h2⟩
    cases m with
    | zero => exact h.1
    | succ m => exact h1 m (by omega)
def tabB (a b : Nat) : Bool := (List.range' a b).all fun t => (List.range 15).all fun i => runB (ft t) (ends t) 100 (fx i)
theorem tabB1 : tabB 0 2 = true := by decide +kernel
theorem tabB2 : tabB 2 2 = true := by decide +kernel
theorem tabB3 : tabB 4 2 = true := by decide +kernel
theorem tabB4 : tabB 6 2 = true := by decide +kernel
theorem tabB5 : tabB 8 2 = true := by decide +kernel

def logG (r o : Int) : Int := real.abs .f32 (real.bin .mul .f32 r (real.bin .sub .f32 1065353216 (real.bin .mul .f32 1073741824 o)))
def sum2 : Nat → Int → Int → Int → Int
  | 0, a, _, _ => a
  | n + 1, a, p, q => sum2 n (real.bin .add .f32 a p) q p
def toldE (e : Int) : Bool := bif Pure.impl_IsFinite real e then real.cmp .lss .f32 (bif Pure.impl_IsFinite real e then e else 0) 0 else true
def endB (t : Nat) (o : Int) : Bool :=
  decide (stepG (ft t) (stepG (ft t) o) = o) && Pure.impl_IsFinite real o && Pure.impl_IsFinite real (stepG (ft t) o) && Pure.impl_IsFinite real (ft t) &&
  real.cmp .leq .f32 (real.abs .f32 (real.bin .sub .f32 (stepG (ft t) o) o)) 981668463 &&
  real.cmp .lss .f64 (Pure.laws_b10Gap real (real.conv .f32 .f64 o) (real.bin .sub .f64 4607182418800017408 (real.bin .quo .f64 4607182418800017408 (real.conv .f32 .f64 (ft t))))) 4576918229304087675 &&
  Pure.impl_LogNumber_ok real (logG (ft t) o) && Pure.impl_LogNumber_ok real (logG (ft t) (stepG (ft t) o)) &&
  toldE (real.bin .quo .f32 (sum2 20 0 (Pure.impl_LogNumber real (logG (ft t) o)) (Pure.impl_LogNumber real (logG (ft t) (stepG (ft t) o)))) (real.ofInt .f32 20))
def tabE (a b : Nat) : Bool := (List.range' a b).all fun t => (ends t).all fun o => endB t o
theorem tabE1 : tabE 0 5 = true := by decide +kernel
theorem tabE2 : tabE 5 5 = true := by decide +kernel
end Go.Fx
