/-
  No cell of these rows narrows 'for every input' (looked for: loops, veiled, ifaces, maps, wideKeys, modest, calm, conditions, laid).
  DERIVED. THE GIVEN ROWS OF THIS SEAT. 12 by the template 'for every input the law returns true; each argument reads behind the call as it read before'; 0 by the template 'total and deterministic' (their statements: YtpdeekgbdalnaaaTotals.lean).
  GIVEN WITH THE SEED: the statements are not yours to turn. If you find one false, say at which input.
  Laid BY PROGRAM, IN A SANDBOX (cutbox-rows.mjs): the forced cells as the released guide's own fill.sh prints them over the translation b11597a0666b755b… (all of the seat's roots in one cut). By AI agents, Wed Nov 11 2026. No macro, syntax, notation, axiom, sorry.
-/
import Derived.Test.YtpdeekgbdalnaaaChecked
import GoSem.Claim
import GoSem.ClaimJoined
import GoSem.ClaimMapViews
import Derived.JoinedTies
import Derived.KernelRfl
namespace Go.Proofs.Ytpdeekgbdalnaaa
/- THE CELL 'sum', in the pinned program and in every row, IS THE sha256 OF THE DUMP (.gsa) THAT YtpdeekgbdalnaaaProg.lean LOADS. Nothing in Lean hashes anything: it is a label: what it is worth is what the hold of that sum in a sandbox is worth. -/
noncomputable def Try.pinned : Pinned := { name := "ytpdeekgbdalnaaa", sum := "b11597a0666b755bf4cac8302abdef00301338580201e8296e73a01a118498f0", checked := Try.checked }
namespace Rows
def none {H : Type} : Left H := { results := [], args := [] }

/-- 'laws.FnExactTableAt': WHATEVER THE INPUT: true; the input reads as it did. -/
def fnExactTableAtSpec : ChangeSpec := { name := "fnExactTableAt", fn := fun _ => fun
  | [d1, d2] => { results := [.lit (.bool true)], args := [d1, d2] }
  | _ => none }
def fnExactTableAtRow : OpenClaim := { program := "ytpdeekgbdalnaaa", sum := "b11597a0666b755bf4cac8302abdef00301338580201e8296e73a01a118498f0", func := "loop.example/g01253/laws.FnExactTableAt", spec := "fnExactTableAt", inPlace := ["math.Float64frombits", "math.Float64bits", "math.archTrunc"], unfollowed := true, recurses := true, apart := false }
def FnExactTableAtSaid : Prop := fnExactTableAtRow.holds Try.pinned (OpenSpec.ofChange fnExactTableAtSpec)

/-- ITS FALSE NEIGHBOUR: 'it returns false'. Refute it at one input. -/
def fnExactTableAtWrong : ChangeSpec := { name := "fnExactTableAt", fn := fun _ => fun
  | [d1, d2] => { results := [.lit (.bool false)], args := [d1, d2] }
  | _ => none }
def FnExactTableAtWrongFalsely : Prop := fnExactTableAtRow.holds Try.pinned (OpenSpec.ofChange fnExactTableAtWrong)

/-- 'laws.FnExactTableSpeed': WHATEVER THE INPUT: true; the input reads as it did. -/
def fnExactTableSpeedSpec : ChangeSpec := { name := "fnExactTableSpeed", fn := fun _ => fun
  | [d1, d2] => { results := [.lit (.bool true)], args := [d1, d2] }
  | _ => none }
def fnExactTableSpeedRow : OpenClaim := { program := "ytpdeekgbdalnaaa", sum := "b11597a0666b755bf4cac8302abdef00301338580201e8296e73a01a118498f0", func := "loop.example/g01253/laws.FnExactTableSpeed", spec := "fnExactTableSpeed", inPlace := ["math.Float64frombits", "math.Float64bits", "math.archTrunc"], unfollowed := true, recurses := true, apart := false }
def FnExactTableSpeedSaid : Prop := fnExactTableSpeedRow.holds Try.pinned (OpenSpec.ofChange fnExactTableSpeedSpec)

/-- ITS FALSE NEIGHBOUR: 'it returns false'. Refute it at one input. -/
def fnExactTableSpeedWrong : ChangeSpec := { name := "fnExactTableSpeed", fn := fun _ => fun
  | [d1, d2] => { results := [.lit (.bool false)], args := [d1, d2] }
  | _ => none }
def FnExactTableSpeedWrongFalsely : Prop := fnExactTableSpeedRow.holds Try.pinned (OpenSpec.ofChange fnExactTableSpeedWrong)

/-- 'laws.FnTables': WHATEVER THE INPUT: true; the input reads as it did. -/
def fnTablesSpec : ChangeSpec := { name := "fnTables", fn := fun _ => fun
  | [d1, d2] => { results := [.lit (.bool true)], args := [d1, d2] }
  | _ => none }
def fnTablesRow : OpenClaim := { program := "ytpdeekgbdalnaaa", sum := "b11597a0666b755bf4cac8302abdef00301338580201e8296e73a01a118498f0", func := "loop.example/g01253/laws.FnTables", spec := "fnTables", inPlace := ["math.Float64frombits", "math.Float64bits", "math.archTrunc"], unfollowed := true, recurses := true, apart := false }
def FnTablesSaid : Prop := fnTablesRow.holds Try.pinned (OpenSpec.ofChange fnTablesSpec)

/-- ITS FALSE NEIGHBOUR: 'it returns false'. Refute it at one input. -/
def fnTablesWrong : ChangeSpec := { name := "fnTables", fn := fun _ => fun
  | [d1, d2] => { results := [.lit (.bool false)], args := [d1, d2] }
  | _ => none }
def FnTablesWrongFalsely : Prop := fnTablesRow.holds Try.pinned (OpenSpec.ofChange fnTablesWrong)

/-- 'laws.FnExactHitFall': WHATEVER THE INPUT: true; the input reads as it did. -/
def fnExactHitFallSpec : ChangeSpec := { name := "fnExactHitFall", fn := fun _ => fun
  | [d1, d2] => { results := [.lit (.bool true)], args := [d1, d2] }
  | _ => none }
def fnExactHitFallRow : OpenClaim := { program := "ytpdeekgbdalnaaa", sum := "b11597a0666b755bf4cac8302abdef00301338580201e8296e73a01a118498f0", func := "loop.example/g01253/laws.FnExactHitFall", spec := "fnExactHitFall", inPlace := ["math.Float64frombits", "math.Float64bits", "math.archTrunc"], unfollowed := true, recurses := true, apart := false }
def FnExactHitFallSaid : Prop := fnExactHitFallRow.holds Try.pinned (OpenSpec.ofChange fnExactHitFallSpec)

/-- ITS FALSE NEIGHBOUR: 'it returns false'. Refute it at one input. -/
def fnExactHitFallWrong : ChangeSpec := { name := "fnExactHitFall", fn := fun _ => fun
  | [d1, d2] => { results := [.lit (.bool false)], args := [d1, d2] }
  | _ => none }
def FnExactHitFallWrongFalsely : Prop := fnExactHitFallRow.holds Try.pinned (OpenSpec.ofChange fnExactHitFallWrong)

/-- 'laws.FnExactStepSwing': WHATEVER THE INPUT: true; the input reads as it did. -/
def fnExactStepSwingSpec : ChangeSpec := { name := "fnExactStepSwing", fn := fun _ => fun
  | [d1, d2, d3] => { results := [.lit (.bool true)], args := [d1, d2, d3] }
  | _ => none }
def fnExactStepSwingRow : OpenClaim := { program := "ytpdeekgbdalnaaa", sum := "b11597a0666b755bf4cac8302abdef00301338580201e8296e73a01a118498f0", func := "loop.example/g01253/laws.FnExactStepSwing", spec := "fnExactStepSwing", inPlace := ["math.Float64frombits", "math.Float64bits", "math.archTrunc"], unfollowed := true, recurses := true, apart := false }
def FnExactStepSwingSaid : Prop := fnExactStepSwingRow.holds Try.pinned (OpenSpec.ofChange fnExactStepSwingSpec)

/-- ITS FALSE NEIGHBOUR: 'it returns false'. Refute it at one input. -/
def fnExactStepSwingWrong : ChangeSpec := { name := "fnExactStepSwing", fn := fun _ => fun
  | [d1, d2, d3] => { results := [.lit (.bool false)], args := [d1, d2, d3] }
  | _ => none }
def FnExactStepSwingWrongFalsely : Prop := fnExactStepSwingRow.holds Try.pinned (OpenSpec.ofChange fnExactStepSwingWrong)

/-- 'laws.FnExactNextHit': WHATEVER THE INPUT: true; the input reads as it did. -/
def fnExactNextHitSpec : ChangeSpec := { name := "fnExactNextHit", fn := fun _ => fun
  | [d1, d2, d3, d4] => { results := [.lit (.bool true)], args := [d1, d2, d3, d4] }
  | _ => none }
def fnExactNextHitRow : OpenClaim := { program := "ytpdeekgbdalnaaa", sum := "b11597a0666b755bf4cac8302abdef00301338580201e8296e73a01a118498f0", func := "loop.example/g01253/laws.FnExactNextHit", spec := "fnExactNextHit", inPlace := ["math.Float64frombits", "math.Float64bits", "math.archTrunc"], unfollowed := true, recurses := true, apart := false }
def FnExactNextHitSaid : Prop := fnExactNextHitRow.holds Try.pinned (OpenSpec.ofChange fnExactNextHitSpec)

/-- ITS FALSE NEIGHBOUR: 'it returns false'. Refute it at one input. -/
def fnExactNextHitWrong : ChangeSpec := { name := "fnExactNextHit", fn := fun _ => fun
  | [d1, d2, d3, d4] => { results := [.lit (.bool false)], args := [d1, d2, d3, d4] }
  | _ => none }
def FnExactNextHitWrongFalsely : Prop := fnExactNextHitRow.holds Try.pinned (OpenSpec.ofChange fnExactNextHitWrong)

/-- 'laws.FnExactRunSwing': WHATEVER THE INPUT: true; the input reads as it did. -/
def fnExactRunSwingSpec : ChangeSpec := { name := "fnExactRunSwing", fn := fun _ => fun
  | [d1, d2, d3, d4] => { results := [.lit (.bool true)], args := [d1, d2, d3, d4] }
  | _ => none }
def fnExactRunSwingRow : OpenClaim := { program := "ytpdeekgbdalnaaa", sum := "b11597a0666b755bf4cac8302abdef00301338580201e8296e73a01a118498f0", func := "loop.example/g01253/laws.FnExactRunSwing", spec := "fnExactRunSwing", inPlace := ["math.Float64frombits", "math.Float64bits", "math.archTrunc"], unfollowed := true, recurses := true, apart := false }
def FnExactRunSwingSaid : Prop := fnExactRunSwingRow.holds Try.pinned (OpenSpec.ofChange fnExactRunSwingSpec)

/-- ITS FALSE NEIGHBOUR: 'it returns false'. Refute it at one input. -/
def fnExactRunSwingWrong : ChangeSpec := { name := "fnExactRunSwing", fn := fun _ => fun
  | [d1, d2, d3, d4] => { results := [.lit (.bool false)], args := [d1, d2, d3, d4] }
  | _ => none }
def FnExactRunSwingWrongFalsely : Prop := fnExactRunSwingRow.holds Try.pinned (OpenSpec.ofChange fnExactRunSwingWrong)

/-- 'laws.FnExactResponseOf': WHATEVER THE INPUT: true; the input reads as it did. -/
def fnExactResponseOfSpec : ChangeSpec := { name := "fnExactResponseOf", fn := fun _ => fun
  | [d1, d2, d3, d4, d5] => { results := [.lit (.bool true)], args := [d1, d2, d3, d4, d5] }
  | _ => none }
def fnExactResponseOfRow : OpenClaim := { program := "ytpdeekgbdalnaaa", sum := "b11597a0666b755bf4cac8302abdef00301338580201e8296e73a01a118498f0", func := "loop.example/g01253/laws.FnExactResponseOf", spec := "fnExactResponseOf", inPlace := ["math.Float64frombits", "math.Float64bits", "math.archTrunc", "math.Float32bits", "math.Float32frombits"], unfollowed := true, recurses := true, apart := false }
def FnExactResponseOfSaid : Prop := fnExactResponseOfRow.holds Try.pinned (OpenSpec.ofChange fnExactResponseOfSpec)

/-- ITS FALSE NEIGHBOUR: 'it returns false'. Refute it at one input. -/
def fnExactResponseOfWrong : ChangeSpec := { name := "fnExactResponseOf", fn := fun _ => fun
  | [d1, d2, d3, d4, d5] => { results := [.lit (.bool false)], args := [d1, d2, d3, d4, d5] }
  | _ => none }
def FnExactResponseOfWrongFalsely : Prop := fnExactResponseOfRow.holds Try.pinned (OpenSpec.ofChange fnExactResponseOfWrong)

/-- 'laws.FnExactPeriodOfRun': WHATEVER THE INPUT: true; the input reads as it did. -/
def fnExactPeriodOfRunSpec : ChangeSpec := { name := "fnExactPeriodOfRun", fn := fun _ => fun
  | [d1, d2, d3, d4] => { results := [.lit (.bool true)], args := [d1, d2, d3, d4] }
  | _ => none }
def fnExactPeriodOfRunRow : OpenClaim := { program := "ytpdeekgbdalnaaa", sum := "b11597a0666b755bf4cac8302abdef00301338580201e8296e73a01a118498f0", func := "loop.example/g01253/laws.FnExactPeriodOfRun", spec := "fnExactPeriodOfRun", inPlace := ["math.Float64frombits", "math.Float64bits", "math.archTrunc"], unfollowed := true, recurses := true, apart := false }
def FnExactPeriodOfRunSaid : Prop := fnExactPeriodOfRunRow.holds Try.pinned (OpenSpec.ofChange fnExactPeriodOfRunSpec)

/-- ITS FALSE NEIGHBOUR: 'it returns false'. Refute it at one input. -/
def fnExactPeriodOfRunWrong : ChangeSpec := { name := "fnExactPeriodOfRun", fn := fun _ => fun
  | [d1, d2, d3, d4] => { results := [.lit (.bool false)], args := [d1, d2, d3, d4] }
  | _ => none }
def FnExactPeriodOfRunWrongFalsely : Prop := fnExactPeriodOfRunRow.holds Try.pinned (OpenSpec.ofChange fnExactPeriodOfRunWrong)

/-- 'laws.FnExactSamplesOf': WHATEVER THE INPUT: true; the input reads as it did. -/
def fnExactSamplesOfSpec : ChangeSpec := { name := "fnExactSamplesOf", fn := fun _ => fun
  | [d1, d2, d3, d4, d5] => { results := [.lit (.bool true)], args := [d1, d2, d3, d4, d5] }
  | _ => none }
def fnExactSamplesOfRow : OpenClaim := { program := "ytpdeekgbdalnaaa", sum := "b11597a0666b755bf4cac8302abdef00301338580201e8296e73a01a118498f0", func := "loop.example/g01253/laws.FnExactSamplesOf", spec := "fnExactSamplesOf", inPlace := ["math.Float64frombits", "math.Float64bits", "math.archTrunc"], unfollowed := true, recurses := true, apart := false }
def FnExactSamplesOfSaid : Prop := fnExactSamplesOfRow.holds Try.pinned (OpenSpec.ofChange fnExactSamplesOfSpec)

/-- ITS FALSE NEIGHBOUR: 'it returns false'. Refute it at one input. -/
def fnExactSamplesOfWrong : ChangeSpec := { name := "fnExactSamplesOf", fn := fun _ => fun
  | [d1, d2, d3, d4, d5] => { results := [.lit (.bool false)], args := [d1, d2, d3, d4, d5] }
  | _ => none }
def FnExactSamplesOfWrongFalsely : Prop := fnExactSamplesOfRow.holds Try.pinned (OpenSpec.ofChange fnExactSamplesOfWrong)

/-- 'laws.FnExactSwingsApart': WHATEVER THE INPUT: true; the input reads as it did. -/
def fnExactSwingsApartSpec : ChangeSpec := { name := "fnExactSwingsApart", fn := fun _ => fun
  | [d1, d2, d3, d4, d5] => { results := [.lit (.bool true)], args := [d1, d2, d3, d4, d5] }
  | _ => none }
def fnExactSwingsApartRow : OpenClaim := { program := "ytpdeekgbdalnaaa", sum := "b11597a0666b755bf4cac8302abdef00301338580201e8296e73a01a118498f0", func := "loop.example/g01253/laws.FnExactSwingsApart", spec := "fnExactSwingsApart", inPlace := ["math.Float64frombits", "math.Float64bits", "math.archTrunc", "math.Float32bits", "math.Float32frombits"], unfollowed := true, recurses := true, apart := false }
def FnExactSwingsApartSaid : Prop := fnExactSwingsApartRow.holds Try.pinned (OpenSpec.ofChange fnExactSwingsApartSpec)

/-- ITS FALSE NEIGHBOUR: 'it returns false'. Refute it at one input. -/
def fnExactSwingsApartWrong : ChangeSpec := { name := "fnExactSwingsApart", fn := fun _ => fun
  | [d1, d2, d3, d4, d5] => { results := [.lit (.bool false)], args := [d1, d2, d3, d4, d5] }
  | _ => none }
def FnExactSwingsApartWrongFalsely : Prop := fnExactSwingsApartRow.holds Try.pinned (OpenSpec.ofChange fnExactSwingsApartWrong)

/-- 'laws.FnExactRunFalls': WHATEVER THE INPUT: true; the input reads as it did. -/
def fnExactRunFallsSpec : ChangeSpec := { name := "fnExactRunFalls", fn := fun _ => fun
  | [d1, d2, d3, d4, d5] => { results := [.lit (.bool true)], args := [d1, d2, d3, d4, d5] }
  | _ => none }
def fnExactRunFallsRow : OpenClaim := { program := "ytpdeekgbdalnaaa", sum := "b11597a0666b755bf4cac8302abdef00301338580201e8296e73a01a118498f0", func := "loop.example/g01253/laws.FnExactRunFalls", spec := "fnExactRunFalls", inPlace := ["math.Float64frombits", "math.Float64bits", "math.archTrunc"], unfollowed := true, recurses := true, apart := false }
def FnExactRunFallsSaid : Prop := fnExactRunFallsRow.holds Try.pinned (OpenSpec.ofChange fnExactRunFallsSpec)

/-- ITS FALSE NEIGHBOUR: 'it returns false'. Refute it at one input. -/
def fnExactRunFallsWrong : ChangeSpec := { name := "fnExactRunFalls", fn := fun _ => fun
  | [d1, d2, d3, d4, d5] => { results := [.lit (.bool false)], args := [d1, d2, d3, d4, d5] }
  | _ => none }
def FnExactRunFallsWrongFalsely : Prop := fnExactRunFallsRow.holds Try.pinned (OpenSpec.ofChange fnExactRunFallsWrong)

/- THE SECOND FORM. 'bulk': how many values and letters a reading holds, each counted each time it is reached (what is shared counts as often as it is met; a slice's spare places count too). A statement '..UptoSaid' is the law's where the arguments, and the package variables that the reading takes, are together of bulk at most 1048576: NARROWER than '..Said'. Prove '..Said' where nothing that the law and all that it calls make is longer than what came in: it says more and counts as full. Else prove '..UptoSaid'. A law counts once. -/
mutual
def uptoBulk {H : Type} : DataW H → Nat
  | .lit (.string bytes) => bytes.length + 1
  | .lit _ => 1
  | .nil => 1
  | .ptr d => uptoBulk d + 1
  | .slice elems spare => uptoBulkAll elems + uptoBulkAll spare + 1
  | .agg parts => uptoBulkAll parts + 1
  | .iface _ d => uptoBulk d + 1
  | .map entries => uptoBulkEntries entries + 1
  | .held _ => 1
def uptoBulkAll {H : Type} : List (DataW H) → Nat
  | [] => 0
  | d :: r => uptoBulk d + uptoBulkAll r
def uptoBulkEntries {H : Type} : List (Lit × DataW H) → Nat
  | [] => 0
  | x :: r => uptoBulkEntry x + uptoBulkEntries r
def uptoBulkEntry {H : Type} : Lit × DataW H → Nat
  | (.string bytes, d) => bytes.length + uptoBulk d + 1
  | (_, d) => uptoBulk d + 1
 end
def uptoSmall : (H : Type) → List (DataW H) → Bool := fun _ ds => decide (uptoBulkAll ds ≤ 1048576)
def OpenSpec.upto (s : _root_.Go.ChangeSpec) : _root_.Go.OpenSpec := { _root_.Go.OpenSpec.ofChange s with cond := some uptoSmall }

/-- 'laws.FnExactTableAt', WHERE WHAT IT READS IS OF BULK AT MOST 1048576: true; the input reads as it did. -/
def fnExactTableAtUptoRow : OpenClaim := { program := "ytpdeekgbdalnaaa", sum := "b11597a0666b755bf4cac8302abdef00301338580201e8296e73a01a118498f0", func := "loop.example/g01253/laws.FnExactTableAt", spec := "fnExactTableAt", inPlace := ["math.Float64frombits", "math.Float64bits", "math.archTrunc"], unfollowed := true, recurses := true, apart := false, narrowed := true }
def FnExactTableAtUptoSaid : Prop := fnExactTableAtUptoRow.holds Try.pinned (OpenSpec.upto fnExactTableAtSpec)

/-- 'laws.FnExactTableSpeed', WHERE WHAT IT READS IS OF BULK AT MOST 1048576: true; the input reads as it did. -/
def fnExactTableSpeedUptoRow : OpenClaim := { program := "ytpdeekgbdalnaaa", sum := "b11597a0666b755bf4cac8302abdef00301338580201e8296e73a01a118498f0", func := "loop.example/g01253/laws.FnExactTableSpeed", spec := "fnExactTableSpeed", inPlace := ["math.Float64frombits", "math.Float64bits", "math.archTrunc"], unfollowed := true, recurses := true, apart := false, narrowed := true }
def FnExactTableSpeedUptoSaid : Prop := fnExactTableSpeedUptoRow.holds Try.pinned (OpenSpec.upto fnExactTableSpeedSpec)

/-- 'laws.FnTables', WHERE WHAT IT READS IS OF BULK AT MOST 1048576: true; the input reads as it did. -/
def fnTablesUptoRow : OpenClaim := { program := "ytpdeekgbdalnaaa", sum := "b11597a0666b755bf4cac8302abdef00301338580201e8296e73a01a118498f0", func := "loop.example/g01253/laws.FnTables", spec := "fnTables", inPlace := ["math.Float64frombits", "math.Float64bits", "math.archTrunc"], unfollowed := true, recurses := true, apart := false, narrowed := true }
def FnTablesUptoSaid : Prop := fnTablesUptoRow.holds Try.pinned (OpenSpec.upto fnTablesSpec)

/-- 'laws.FnExactHitFall', WHERE WHAT IT READS IS OF BULK AT MOST 1048576: true; the input reads as it did. -/
def fnExactHitFallUptoRow : OpenClaim := { program := "ytpdeekgbdalnaaa", sum := "b11597a0666b755bf4cac8302abdef00301338580201e8296e73a01a118498f0", func := "loop.example/g01253/laws.FnExactHitFall", spec := "fnExactHitFall", inPlace := ["math.Float64frombits", "math.Float64bits", "math.archTrunc"], unfollowed := true, recurses := true, apart := false, narrowed := true }
def FnExactHitFallUptoSaid : Prop := fnExactHitFallUptoRow.holds Try.pinned (OpenSpec.upto fnExactHitFallSpec)

/-- 'laws.FnExactStepSwing', WHERE WHAT IT READS IS OF BULK AT MOST 1048576: true; the input reads as it did. -/
def fnExactStepSwingUptoRow : OpenClaim := { program := "ytpdeekgbdalnaaa", sum := "b11597a0666b755bf4cac8302abdef00301338580201e8296e73a01a118498f0", func := "loop.example/g01253/laws.FnExactStepSwing", spec := "fnExactStepSwing", inPlace := ["math.Float64frombits", "math.Float64bits", "math.archTrunc"], unfollowed := true, recurses := true, apart := false, narrowed := true }
def FnExactStepSwingUptoSaid : Prop := fnExactStepSwingUptoRow.holds Try.pinned (OpenSpec.upto fnExactStepSwingSpec)

/-- 'laws.FnExactNextHit', WHERE WHAT IT READS IS OF BULK AT MOST 1048576: true; the input reads as it did. -/
def fnExactNextHitUptoRow : OpenClaim := { program := "ytpdeekgbdalnaaa", sum := "b11597a0666b755bf4cac8302abdef00301338580201e8296e73a01a118498f0", func := "loop.example/g01253/laws.FnExactNextHit", spec := "fnExactNextHit", inPlace := ["math.Float64frombits", "math.Float64bits", "math.archTrunc"], unfollowed := true, recurses := true, apart := false, narrowed := true }
def FnExactNextHitUptoSaid : Prop := fnExactNextHitUptoRow.holds Try.pinned (OpenSpec.upto fnExactNextHitSpec)

/-- 'laws.FnExactRunSwing', WHERE WHAT IT READS IS OF BULK AT MOST 1048576: true; the input reads as it did. -/
def fnExactRunSwingUptoRow : OpenClaim := { program := "ytpdeekgbdalnaaa", sum := "b11597a0666b755bf4cac8302abdef00301338580201e8296e73a01a118498f0", func := "loop.example/g01253/laws.FnExactRunSwing", spec := "fnExactRunSwing", inPlace := ["math.Float64frombits", "math.Float64bits", "math.archTrunc"], unfollowed := true, recurses := true, apart := false, narrowed := true }
def FnExactRunSwingUptoSaid : Prop := fnExactRunSwingUptoRow.holds Try.pinned (OpenSpec.upto fnExactRunSwingSpec)

/-- 'laws.FnExactResponseOf', WHERE WHAT IT READS IS OF BULK AT MOST 1048576: true; the input reads as it did. -/
def fnExactResponseOfUptoRow : OpenClaim := { program := "ytpdeekgbdalnaaa", sum := "b11597a0666b755bf4cac8302abdef00301338580201e8296e73a01a118498f0", func := "loop.example/g01253/laws.FnExactResponseOf", spec := "fnExactResponseOf", inPlace := ["math.Float64frombits", "math.Float64bits", "math.archTrunc", "math.Float32bits", "math.Float32frombits"], unfollowed := true, recurses := true, apart := false, narrowed := true }
def FnExactResponseOfUptoSaid : Prop := fnExactResponseOfUptoRow.holds Try.pinned (OpenSpec.upto fnExactResponseOfSpec)

/-- 'laws.FnExactPeriodOfRun', WHERE WHAT IT READS IS OF BULK AT MOST 1048576: true; the input reads as it did. -/
def fnExactPeriodOfRunUptoRow : OpenClaim := { program := "ytpdeekgbdalnaaa", sum := "b11597a0666b755bf4cac8302abdef00301338580201e8296e73a01a118498f0", func := "loop.example/g01253/laws.FnExactPeriodOfRun", spec := "fnExactPeriodOfRun", inPlace := ["math.Float64frombits", "math.Float64bits", "math.archTrunc"], unfollowed := true, recurses := true, apart := false, narrowed := true }
def FnExactPeriodOfRunUptoSaid : Prop := fnExactPeriodOfRunUptoRow.holds Try.pinned (OpenSpec.upto fnExactPeriodOfRunSpec)

/-- 'laws.FnExactSamplesOf', WHERE WHAT IT READS IS OF BULK AT MOST 1048576: true; the input reads as it did. -/
def fnExactSamplesOfUptoRow : OpenClaim := { program := "ytpdeekgbdalnaaa", sum := "b11597a0666b755bf4cac8302abdef00301338580201e8296e73a01a118498f0", func := "loop.example/g01253/laws.FnExactSamplesOf", spec := "fnExactSamplesOf", inPlace := ["math.Float64frombits", "math.Float64bits", "math.archTrunc"], unfollowed := true, recurses := true, apart := false, narrowed := true }
def FnExactSamplesOfUptoSaid : Prop := fnExactSamplesOfUptoRow.holds Try.pinned (OpenSpec.upto fnExactSamplesOfSpec)

/-- 'laws.FnExactSwingsApart', WHERE WHAT IT READS IS OF BULK AT MOST 1048576: true; the input reads as it did. -/
def fnExactSwingsApartUptoRow : OpenClaim := { program := "ytpdeekgbdalnaaa", sum := "b11597a0666b755bf4cac8302abdef00301338580201e8296e73a01a118498f0", func := "loop.example/g01253/laws.FnExactSwingsApart", spec := "fnExactSwingsApart", inPlace := ["math.Float64frombits", "math.Float64bits", "math.archTrunc", "math.Float32bits", "math.Float32frombits"], unfollowed := true, recurses := true, apart := false, narrowed := true }
def FnExactSwingsApartUptoSaid : Prop := fnExactSwingsApartUptoRow.holds Try.pinned (OpenSpec.upto fnExactSwingsApartSpec)

/-- 'laws.FnExactRunFalls', WHERE WHAT IT READS IS OF BULK AT MOST 1048576: true; the input reads as it did. -/
def fnExactRunFallsUptoRow : OpenClaim := { program := "ytpdeekgbdalnaaa", sum := "b11597a0666b755bf4cac8302abdef00301338580201e8296e73a01a118498f0", func := "loop.example/g01253/laws.FnExactRunFalls", spec := "fnExactRunFalls", inPlace := ["math.Float64frombits", "math.Float64bits", "math.archTrunc"], unfollowed := true, recurses := true, apart := false, narrowed := true }
def FnExactRunFallsUptoSaid : Prop := fnExactRunFallsUptoRow.holds Try.pinned (OpenSpec.upto fnExactRunFallsSpec)

end Rows
end Go.Proofs.Ytpdeekgbdalnaaa
