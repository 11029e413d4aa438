/-
  No cell of these rows narrows 'for every input' (looked for: loops, veiled, ifaces, maps, wideKeys, modest, calm, conditions, laid).
  DERIVED. THE GIVEN ROWS OF THIS SEAT. 5 by the template 'for every input the law returns true; each argument reads behind the call as it read before'; 0 by the template 'total and deterministic' (their statements: YtfefhcbffepdlaaTotals.lean).
  GIVEN WITH THE SEED: the statements are not yours to turn. If you find one false, say at which input.
  Laid BY PROGRAM, IN A SANDBOX (cutbox-rows.mjs): the forced cells as the released guide's own fill.sh prints them over the translation d5bc91ef40b8b6bd… (all of the seat's roots in one cut). By AI agents, Wed Nov 11 2026. No macro, syntax, notation, axiom, sorry.
-/
import Derived.Test.YtfefhcbffepdlaaChecked
import GoSem.Claim
import GoSem.ClaimJoined
import GoSem.ClaimMapViews
import Derived.JoinedTies
import Derived.KernelRfl
namespace Go.Proofs.Ytfefhcbffepdlaa
/- THE CELL 'sum', in the pinned program and in every row, IS THE sha256 OF THE DUMP (.gsa) THAT YtfefhcbffepdlaaProg.lean LOADS. Nothing in Lean hashes anything: it is a label: what it is worth is what the hold of that sum in a sandbox is worth. -/
noncomputable def Try.pinned : Pinned := { name := "ytfefhcbffepdlaa", sum := "d5bc91ef40b8b6bda4b6200071c871b3ca8c77fbe955a79607a3fdf5378591e5", checked := Try.checked }
namespace Rows
def none {H : Type} : Left H := { results := [], args := [] }

/-- 'laws.FnSpins': WHATEVER THE INPUT: true; the input reads as it did. -/
def fnSpinsSpec : ChangeSpec := { name := "fnSpins", fn := fun _ => fun
  | [d1, d2] => { results := [.lit (.bool true)], args := [d1, d2] }
  | _ => none }
def fnSpinsRow : OpenClaim := { program := "ytfefhcbffepdlaa", sum := "d5bc91ef40b8b6bda4b6200071c871b3ca8c77fbe955a79607a3fdf5378591e5", func := "loop.example/g01253/laws.FnSpins", spec := "fnSpins", inPlace := ["math.sqrt", "math.Float32bits"], unfollowed := true, recurses := true, apart := false }
def FnSpinsSaid : Prop := fnSpinsRow.holds Try.pinned (OpenSpec.ofChange fnSpinsSpec)

/-- ITS FALSE NEIGHBOUR: 'it returns false'. Refute it at one input. -/
def fnSpinsWrong : ChangeSpec := { name := "fnSpins", fn := fun _ => fun
  | [d1, d2] => { results := [.lit (.bool false)], args := [d1, d2] }
  | _ => none }
def FnSpinsWrongFalsely : Prop := fnSpinsRow.holds Try.pinned (OpenSpec.ofChange fnSpinsWrong)

/-- 'laws.FnExactBetweenSpins': WHATEVER THE INPUT: true; the input reads as it did. -/
def fnExactBetweenSpinsSpec : ChangeSpec := { name := "fnExactBetweenSpins", fn := fun _ => fun
  | [d1, d2, d3] => { results := [.lit (.bool true)], args := [d1, d2, d3] }
  | _ => none }
def fnExactBetweenSpinsRow : OpenClaim := { program := "ytfefhcbffepdlaa", sum := "d5bc91ef40b8b6bda4b6200071c871b3ca8c77fbe955a79607a3fdf5378591e5", func := "loop.example/g01253/laws.FnExactBetweenSpins", spec := "fnExactBetweenSpins", inPlace := ["math.sqrt"], unfollowed := true, recurses := true, apart := false }
def FnExactBetweenSpinsSaid : Prop := fnExactBetweenSpinsRow.holds Try.pinned (OpenSpec.ofChange fnExactBetweenSpinsSpec)

/-- ITS FALSE NEIGHBOUR: 'it returns false'. Refute it at one input. -/
def fnExactBetweenSpinsWrong : ChangeSpec := { name := "fnExactBetweenSpins", fn := fun _ => fun
  | [d1, d2, d3] => { results := [.lit (.bool false)], args := [d1, d2, d3] }
  | _ => none }
def FnExactBetweenSpinsWrongFalsely : Prop := fnExactBetweenSpinsRow.holds Try.pinned (OpenSpec.ofChange fnExactBetweenSpinsWrong)

/-- 'laws.FnExactStepTop': WHATEVER THE INPUT: true; the input reads as it did. -/
def fnExactStepTopSpec : ChangeSpec := { name := "fnExactStepTop", fn := fun _ => fun
  | [d1, d2, d3] => { results := [.lit (.bool true)], args := [d1, d2, d3] }
  | _ => none }
def fnExactStepTopRow : OpenClaim := { program := "ytfefhcbffepdlaa", sum := "d5bc91ef40b8b6bda4b6200071c871b3ca8c77fbe955a79607a3fdf5378591e5", func := "loop.example/g01253/laws.FnExactStepTop", spec := "fnExactStepTop", inPlace := ["math.sqrt"], unfollowed := true, recurses := true, apart := false }
def FnExactStepTopSaid : Prop := fnExactStepTopRow.holds Try.pinned (OpenSpec.ofChange fnExactStepTopSpec)

/-- ITS FALSE NEIGHBOUR: 'it returns false'. Refute it at one input. -/
def fnExactStepTopWrong : ChangeSpec := { name := "fnExactStepTop", fn := fun _ => fun
  | [d1, d2, d3] => { results := [.lit (.bool false)], args := [d1, d2, d3] }
  | _ => none }
def FnExactStepTopWrongFalsely : Prop := fnExactStepTopRow.holds Try.pinned (OpenSpec.ofChange fnExactStepTopWrong)

/-- 'laws.FnExactScanRates': WHATEVER THE INPUT: true; the input reads as it did. -/
def fnExactScanRatesSpec : ChangeSpec := { name := "fnExactScanRates", fn := fun _ => fun
  | [d1, d2, d3, d4, d5, d6] => { results := [.lit (.bool true)], args := [d1, d2, d3, d4, d5, d6] }
  | _ => none }
def fnExactScanRatesRow : OpenClaim := { program := "ytfefhcbffepdlaa", sum := "d5bc91ef40b8b6bda4b6200071c871b3ca8c77fbe955a79607a3fdf5378591e5", func := "loop.example/g01253/laws.FnExactScanRates", spec := "fnExactScanRates", inPlace := ["math.Float64frombits", "math.Float64bits", "math.archTrunc", "math.Float32bits", "math.Float32frombits"], unfollowed := true, recurses := true, apart := false }
def FnExactScanRatesSaid : Prop := fnExactScanRatesRow.holds Try.pinned (OpenSpec.ofChange fnExactScanRatesSpec)

/-- ITS FALSE NEIGHBOUR: 'it returns false'. Refute it at one input. -/
def fnExactScanRatesWrong : ChangeSpec := { name := "fnExactScanRates", fn := fun _ => fun
  | [d1, d2, d3, d4, d5, d6] => { results := [.lit (.bool false)], args := [d1, d2, d3, d4, d5, d6] }
  | _ => none }
def FnExactScanRatesWrongFalsely : Prop := fnExactScanRatesRow.holds Try.pinned (OpenSpec.ofChange fnExactScanRatesWrong)

/-- 'laws.FnExactBestRate': WHATEVER THE INPUT: true; the input reads as it did. -/
def fnExactBestRateSpec : ChangeSpec := { name := "fnExactBestRate", fn := fun _ => fun
  | [d1, d2, d3, d4, d5, d6] => { results := [.lit (.bool true)], args := [d1, d2, d3, d4, d5, d6] }
  | _ => none }
def fnExactBestRateRow : OpenClaim := { program := "ytfefhcbffepdlaa", sum := "d5bc91ef40b8b6bda4b6200071c871b3ca8c77fbe955a79607a3fdf5378591e5", func := "loop.example/g01253/laws.FnExactBestRate", spec := "fnExactBestRate", inPlace := ["math.Float64frombits", "math.Float64bits", "math.archTrunc", "math.Float32bits", "math.Float32frombits"], unfollowed := true, recurses := true, apart := false }
def FnExactBestRateSaid : Prop := fnExactBestRateRow.holds Try.pinned (OpenSpec.ofChange fnExactBestRateSpec)

/-- ITS FALSE NEIGHBOUR: 'it returns false'. Refute it at one input. -/
def fnExactBestRateWrong : ChangeSpec := { name := "fnExactBestRate", fn := fun _ => fun
  | [d1, d2, d3, d4, d5, d6] => { results := [.lit (.bool false)], args := [d1, d2, d3, d4, d5, d6] }
  | _ => none }
def FnExactBestRateWrongFalsely : Prop := fnExactBestRateRow.holds Try.pinned (OpenSpec.ofChange fnExactBestRateWrong)

/- THE SECOND FORM. 'bulk': how many values and letters a reading holds, each counted each time it is reached (what is shared counts as often as it is met; a slice's spare places count too). A statement '..UptoSaid' is the law's where the arguments, and the package variables that the reading takes, are together of bulk at most 1048576: NARROWER than '..Said'. Prove '..Said' where nothing that the law and all that it calls make is longer than what came in: it says more and counts as full. Else prove '..UptoSaid'. A law counts once. -/
mutual
def uptoBulk {H : Type} : DataW H → Nat
  | .lit (.string bytes) => bytes.length + 1
  | .lit _ => 1
  | .nil => 1
  | .ptr d => uptoBulk d + 1
  | .slice elems spare => uptoBulkAll elems + uptoBulkAll spare + 1
  | .agg parts => uptoBulkAll parts + 1
  | .iface _ d => uptoBulk d + 1
  | .map entries => uptoBulkEntries entries + 1
  | .held _ => 1
def uptoBulkAll {H : Type} : List (DataW H) → Nat
  | [] => 0
  | d :: r => uptoBulk d + uptoBulkAll r
def uptoBulkEntries {H : Type} : List (Lit × DataW H) → Nat
  | [] => 0
  | x :: r => uptoBulkEntry x + uptoBulkEntries r
def uptoBulkEntry {H : Type} : Lit × DataW H → Nat
  | (.string bytes, d) => bytes.length + uptoBulk d + 1
  | (_, d) => uptoBulk d + 1
 end
def uptoSmall : (H : Type) → List (DataW H) → Bool := fun _ ds => decide (uptoBulkAll ds ≤ 1048576)
def OpenSpec.upto (s : _root_.Go.ChangeSpec) : _root_.Go.OpenSpec := { _root_.Go.OpenSpec.ofChange s with cond := some uptoSmall }

/-- 'laws.FnSpins', WHERE WHAT IT READS IS OF BULK AT MOST 1048576: true; the input reads as it did. -/
def fnSpinsUptoRow : OpenClaim := { program := "ytfefhcbffepdlaa", sum := "d5bc91ef40b8b6bda4b6200071c871b3ca8c77fbe955a79607a3fdf5378591e5", func := "loop.example/g01253/laws.FnSpins", spec := "fnSpins", inPlace := ["math.sqrt", "math.Float32bits"], unfollowed := true, recurses := true, apart := false, narrowed := true }
def FnSpinsUptoSaid : Prop := fnSpinsUptoRow.holds Try.pinned (OpenSpec.upto fnSpinsSpec)

/-- 'laws.FnExactBetweenSpins', WHERE WHAT IT READS IS OF BULK AT MOST 1048576: true; the input reads as it did. -/
def fnExactBetweenSpinsUptoRow : OpenClaim := { program := "ytfefhcbffepdlaa", sum := "d5bc91ef40b8b6bda4b6200071c871b3ca8c77fbe955a79607a3fdf5378591e5", func := "loop.example/g01253/laws.FnExactBetweenSpins", spec := "fnExactBetweenSpins", inPlace := ["math.sqrt"], unfollowed := true, recurses := true, apart := false, narrowed := true }
def FnExactBetweenSpinsUptoSaid : Prop := fnExactBetweenSpinsUptoRow.holds Try.pinned (OpenSpec.upto fnExactBetweenSpinsSpec)

/-- 'laws.FnExactStepTop', WHERE WHAT IT READS IS OF BULK AT MOST 1048576: true; the input reads as it did. -/
def fnExactStepTopUptoRow : OpenClaim := { program := "ytfefhcbffepdlaa", sum := "d5bc91ef40b8b6bda4b6200071c871b3ca8c77fbe955a79607a3fdf5378591e5", func := "loop.example/g01253/laws.FnExactStepTop", spec := "fnExactStepTop", inPlace := ["math.sqrt"], unfollowed := true, recurses := true, apart := false, narrowed := true }
def FnExactStepTopUptoSaid : Prop := fnExactStepTopUptoRow.holds Try.pinned (OpenSpec.upto fnExactStepTopSpec)

/-- 'laws.FnExactScanRates', WHERE WHAT IT READS IS OF BULK AT MOST 1048576: true; the input reads as it did. -/
def fnExactScanRatesUptoRow : OpenClaim := { program := "ytfefhcbffepdlaa", sum := "d5bc91ef40b8b6bda4b6200071c871b3ca8c77fbe955a79607a3fdf5378591e5", func := "loop.example/g01253/laws.FnExactScanRates", spec := "fnExactScanRates", inPlace := ["math.Float64frombits", "math.Float64bits", "math.archTrunc", "math.Float32bits", "math.Float32frombits"], unfollowed := true, recurses := true, apart := false, narrowed := true }
def FnExactScanRatesUptoSaid : Prop := fnExactScanRatesUptoRow.holds Try.pinned (OpenSpec.upto fnExactScanRatesSpec)

/-- 'laws.FnExactBestRate', WHERE WHAT IT READS IS OF BULK AT MOST 1048576: true; the input reads as it did. -/
def fnExactBestRateUptoRow : OpenClaim := { program := "ytfefhcbffepdlaa", sum := "d5bc91ef40b8b6bda4b6200071c871b3ca8c77fbe955a79607a3fdf5378591e5", func := "loop.example/g01253/laws.FnExactBestRate", spec := "fnExactBestRate", inPlace := ["math.Float64frombits", "math.Float64bits", "math.archTrunc", "math.Float32bits", "math.Float32frombits"], unfollowed := true, recurses := true, apart := false, narrowed := true }
def FnExactBestRateUptoSaid : Prop := fnExactBestRateUptoRow.holds Try.pinned (OpenSpec.upto fnExactBestRateSpec)

end Rows
end Go.Proofs.Ytfefhcbffepdlaa
