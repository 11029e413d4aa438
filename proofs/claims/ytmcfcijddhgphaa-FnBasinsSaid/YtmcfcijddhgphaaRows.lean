/-
  No cell of these rows narrows 'for every input' (looked for: loops, veiled, ifaces, maps, wideKeys, modest, calm, conditions, laid).
  DERIVED. THE GIVEN ROWS OF THIS SEAT. 9 by the template 'for every input the law returns true; each argument reads behind the call as it read before'; 0 by the template 'total and deterministic' (their statements: YtmcfcijddhgphaaTotals.lean).
  GIVEN WITH THE SEED: the statements are not yours to turn. If you find one false, say at which input.
  Laid BY PROGRAM, IN A SANDBOX (cutbox-rows.mjs): the forced cells as the released guide's own fill.sh prints them over the translation 842969336df5fff8… (all of the seat's roots in one cut). By AI agents, Wed Nov 11 2026. No macro, syntax, notation, axiom, sorry.
-/
import Derived.Test.YtmcfcijddhgphaaChecked
import GoSem.Claim
import GoSem.ClaimJoined
import GoSem.ClaimMapViews
import Derived.JoinedTies
import Derived.KernelRfl
namespace Go.Proofs.Ytmcfcijddhgphaa
/- THE CELL 'sum', in the pinned program and in every row, IS THE sha256 OF THE DUMP (.gsa) THAT YtmcfcijddhgphaaProg.lean LOADS. Nothing in Lean hashes anything: it is a label: what it is worth is what the hold of that sum in a sandbox is worth. -/
noncomputable def Try.pinned : Pinned := { name := "ytmcfcijddhgphaa", sum := "842969336df5fff8eff35c58b646d2e18173fdd81cab4f0dd60fa08477124b5a", checked := Try.checked }
namespace Rows
def none {H : Type} : Left H := { results := [], args := [] }

/-- 'laws.FnTurns': WHATEVER THE INPUT: true; the input reads as it did. -/
def fnTurnsSpec : ChangeSpec := { name := "fnTurns", fn := fun _ => fun
  | [d1, d2] => { results := [.lit (.bool true)], args := [d1, d2] }
  | _ => none }
def fnTurnsRow : OpenClaim := { program := "ytmcfcijddhgphaa", sum := "842969336df5fff8eff35c58b646d2e18173fdd81cab4f0dd60fa08477124b5a", func := "loop.example/g01253/laws.FnTurns", spec := "fnTurns", inPlace := ["math.archFloor", "math.Float64bits", "math.Float64frombits", "math.archTrunc"], unfollowed := true, recurses := true, apart := false }
def FnTurnsSaid : Prop := fnTurnsRow.holds Try.pinned (OpenSpec.ofChange fnTurnsSpec)

/-- ITS FALSE NEIGHBOUR: 'it returns false'. Refute it at one input. -/
def fnTurnsWrong : ChangeSpec := { name := "fnTurns", fn := fun _ => fun
  | [d1, d2] => { results := [.lit (.bool false)], args := [d1, d2] }
  | _ => none }
def FnTurnsWrongFalsely : Prop := fnTurnsRow.holds Try.pinned (OpenSpec.ofChange fnTurnsWrong)

/-- 'laws.FnGrowth': WHATEVER THE INPUT: true; the input reads as it did. -/
def fnGrowthSpec : ChangeSpec := { name := "fnGrowth", fn := fun _ => fun
  | [d1, d2] => { results := [.lit (.bool true)], args := [d1, d2] }
  | _ => none }
def fnGrowthRow : OpenClaim := { program := "ytmcfcijddhgphaa", sum := "842969336df5fff8eff35c58b646d2e18173fdd81cab4f0dd60fa08477124b5a", func := "loop.example/g01253/laws.FnGrowth", spec := "fnGrowth", inPlace := ["math.Float32bits", "math.Float32frombits", "math.Float64frombits"], unfollowed := true, recurses := true, apart := false }
def FnGrowthSaid : Prop := fnGrowthRow.holds Try.pinned (OpenSpec.ofChange fnGrowthSpec)

/-- ITS FALSE NEIGHBOUR: 'it returns false'. Refute it at one input. -/
def fnGrowthWrong : ChangeSpec := { name := "fnGrowth", fn := fun _ => fun
  | [d1, d2] => { results := [.lit (.bool false)], args := [d1, d2] }
  | _ => none }
def FnGrowthWrongFalsely : Prop := fnGrowthRow.holds Try.pinned (OpenSpec.ofChange fnGrowthWrong)

/-- 'laws.FnExactGrowExponent': WHATEVER THE INPUT: true; the input reads as it did. -/
def fnExactGrowExponentSpec : ChangeSpec := { name := "fnExactGrowExponent", fn := fun _ => fun
  | [d1, d2, d3, d4] => { results := [.lit (.bool true)], args := [d1, d2, d3, d4] }
  | _ => none }
def fnExactGrowExponentRow : OpenClaim := { program := "ytmcfcijddhgphaa", sum := "842969336df5fff8eff35c58b646d2e18173fdd81cab4f0dd60fa08477124b5a", func := "loop.example/g01253/laws.FnExactGrowExponent", spec := "fnExactGrowExponent", inPlace := ["math.Float64frombits", "math.Float64bits", "math.Float32bits", "math.Float32frombits"], unfollowed := true, recurses := true, apart := false }
def FnExactGrowExponentSaid : Prop := fnExactGrowExponentRow.holds Try.pinned (OpenSpec.ofChange fnExactGrowExponentSpec)

/-- ITS FALSE NEIGHBOUR: 'it returns false'. Refute it at one input. -/
def fnExactGrowExponentWrong : ChangeSpec := { name := "fnExactGrowExponent", fn := fun _ => fun
  | [d1, d2, d3, d4] => { results := [.lit (.bool false)], args := [d1, d2, d3, d4] }
  | _ => none }
def FnExactGrowExponentWrongFalsely : Prop := fnExactGrowExponentRow.holds Try.pinned (OpenSpec.ofChange fnExactGrowExponentWrong)

/-- 'laws.FnBasins': WHATEVER THE INPUT: true; the input reads as it did. -/
def fnBasinsSpec : ChangeSpec := { name := "fnBasins", fn := fun _ => fun
  | [d1, d2] => { results := [.lit (.bool true)], args := [d1, d2] }
  | _ => none }
def fnBasinsRow : OpenClaim := { program := "ytmcfcijddhgphaa", sum := "842969336df5fff8eff35c58b646d2e18173fdd81cab4f0dd60fa08477124b5a", func := "loop.example/g01253/laws.FnBasins", spec := "fnBasins", inPlace := ["math.archFloor", "math.Float64bits", "math.Float64frombits", "math.archTrunc"], apart := false }
def FnBasinsSaid : Prop := fnBasinsRow.holds Try.pinned (OpenSpec.ofChange fnBasinsSpec)

/-- ITS FALSE NEIGHBOUR: 'it returns false'. Refute it at one input. -/
def fnBasinsWrong : ChangeSpec := { name := "fnBasins", fn := fun _ => fun
  | [d1, d2] => { results := [.lit (.bool false)], args := [d1, d2] }
  | _ => none }
def FnBasinsWrongFalsely : Prop := fnBasinsRow.holds Try.pinned (OpenSpec.ofChange fnBasinsWrong)

/-- 'laws.FnExactSlopesAlong': WHATEVER THE INPUT: true; the input reads as it did. -/
def fnExactSlopesAlongSpec : ChangeSpec := { name := "fnExactSlopesAlong", fn := fun _ => fun
  | [d1, d2, d3] => { results := [.lit (.bool true)], args := [d1, d2, d3] }
  | _ => none }
def fnExactSlopesAlongRow : OpenClaim := { program := "ytmcfcijddhgphaa", sum := "842969336df5fff8eff35c58b646d2e18173fdd81cab4f0dd60fa08477124b5a", func := "loop.example/g01253/laws.FnExactSlopesAlong", spec := "fnExactSlopesAlong", inPlace := ["math.Float64frombits", "math.archFloor", "math.Float64bits", "math.archTrunc"], unfollowed := true, recurses := true, apart := false }
def FnExactSlopesAlongSaid : Prop := fnExactSlopesAlongRow.holds Try.pinned (OpenSpec.ofChange fnExactSlopesAlongSpec)

/-- ITS FALSE NEIGHBOUR: 'it returns false'. Refute it at one input. -/
def fnExactSlopesAlongWrong : ChangeSpec := { name := "fnExactSlopesAlong", fn := fun _ => fun
  | [d1, d2, d3] => { results := [.lit (.bool false)], args := [d1, d2, d3] }
  | _ => none }
def FnExactSlopesAlongWrongFalsely : Prop := fnExactSlopesAlongRow.holds Try.pinned (OpenSpec.ofChange fnExactSlopesAlongWrong)

/-- 'laws.FnExactBasinsShared': WHATEVER THE INPUT: true; the input reads as it did. -/
def fnExactBasinsSharedSpec : ChangeSpec := { name := "fnExactBasinsShared", fn := fun _ => fun
  | [d1, d2, d3, d4, d5, d6, d7] => { results := [.lit (.bool true)], args := [d1, d2, d3, d4, d5, d6, d7] }
  | _ => none }
def fnExactBasinsSharedRow : OpenClaim := { program := "ytmcfcijddhgphaa", sum := "842969336df5fff8eff35c58b646d2e18173fdd81cab4f0dd60fa08477124b5a", func := "loop.example/g01253/laws.FnExactBasinsShared", spec := "fnExactBasinsShared", inPlace := ["math.archFloor", "math.Float64bits", "math.Float64frombits", "math.archTrunc"], apart := false }
def FnExactBasinsSharedSaid : Prop := fnExactBasinsSharedRow.holds Try.pinned (OpenSpec.ofChange fnExactBasinsSharedSpec)

/-- ITS FALSE NEIGHBOUR: 'it returns false'. Refute it at one input. -/
def fnExactBasinsSharedWrong : ChangeSpec := { name := "fnExactBasinsShared", fn := fun _ => fun
  | [d1, d2, d3, d4, d5, d6, d7] => { results := [.lit (.bool false)], args := [d1, d2, d3, d4, d5, d6, d7] }
  | _ => none }
def FnExactBasinsSharedWrongFalsely : Prop := fnExactBasinsSharedRow.holds Try.pinned (OpenSpec.ofChange fnExactBasinsSharedWrong)

/-- 'laws.FnExactReturnOf': WHATEVER THE INPUT: true; the input reads as it did. -/
def fnExactReturnOfSpec : ChangeSpec := { name := "fnExactReturnOf", fn := fun _ => fun
  | [d1, d2, d3, d4] => { results := [.lit (.bool true)], args := [d1, d2, d3, d4] }
  | _ => none }
def fnExactReturnOfRow : OpenClaim := { program := "ytmcfcijddhgphaa", sum := "842969336df5fff8eff35c58b646d2e18173fdd81cab4f0dd60fa08477124b5a", func := "loop.example/g01253/laws.FnExactReturnOf", spec := "fnExactReturnOf", inPlace := ["math.Float64frombits", "math.archFloor", "math.Float64bits", "math.archTrunc", "math.sqrt"], apart := false }
def FnExactReturnOfSaid : Prop := fnExactReturnOfRow.holds Try.pinned (OpenSpec.ofChange fnExactReturnOfSpec)

/-- ITS FALSE NEIGHBOUR: 'it returns false'. Refute it at one input. -/
def fnExactReturnOfWrong : ChangeSpec := { name := "fnExactReturnOf", fn := fun _ => fun
  | [d1, d2, d3, d4] => { results := [.lit (.bool false)], args := [d1, d2, d3, d4] }
  | _ => none }
def FnExactReturnOfWrongFalsely : Prop := fnExactReturnOfRow.holds Try.pinned (OpenSpec.ofChange fnExactReturnOfWrong)

/-- 'laws.FnExactExponentOf': WHATEVER THE INPUT: true; the input reads as it did. -/
def fnExactExponentOfSpec : ChangeSpec := { name := "fnExactExponentOf", fn := fun _ => fun
  | [d1, d2, d3] => { results := [.lit (.bool true)], args := [d1, d2, d3] }
  | _ => none }
def fnExactExponentOfRow : OpenClaim := { program := "ytmcfcijddhgphaa", sum := "842969336df5fff8eff35c58b646d2e18173fdd81cab4f0dd60fa08477124b5a", func := "loop.example/g01253/laws.FnExactExponentOf", spec := "fnExactExponentOf", inPlace := ["math.Float64frombits", "math.archFloor", "math.Float64bits", "math.archTrunc", "math.sqrt"], apart := false }
def FnExactExponentOfSaid : Prop := fnExactExponentOfRow.holds Try.pinned (OpenSpec.ofChange fnExactExponentOfSpec)

/-- ITS FALSE NEIGHBOUR: 'it returns false'. Refute it at one input. -/
def fnExactExponentOfWrong : ChangeSpec := { name := "fnExactExponentOf", fn := fun _ => fun
  | [d1, d2, d3] => { results := [.lit (.bool false)], args := [d1, d2, d3] }
  | _ => none }
def FnExactExponentOfWrongFalsely : Prop := fnExactExponentOfRow.holds Try.pinned (OpenSpec.ofChange fnExactExponentOfWrong)

/-- 'laws.FnExactFindReturn': WHATEVER THE INPUT: true; the input reads as it did. -/
def fnExactFindReturnSpec : ChangeSpec := { name := "fnExactFindReturn", fn := fun _ => fun
  | [d1, d2, d3, d4] => { results := [.lit (.bool true)], args := [d1, d2, d3, d4] }
  | _ => none }
def fnExactFindReturnRow : OpenClaim := { program := "ytmcfcijddhgphaa", sum := "842969336df5fff8eff35c58b646d2e18173fdd81cab4f0dd60fa08477124b5a", func := "loop.example/g01253/laws.FnExactFindReturn", spec := "fnExactFindReturn", inPlace := ["math.Float64frombits", "math.archFloor", "math.Float64bits", "math.archTrunc", "math.sqrt"], unfollowed := true, recurses := true, apart := false }
def FnExactFindReturnSaid : Prop := fnExactFindReturnRow.holds Try.pinned (OpenSpec.ofChange fnExactFindReturnSpec)

/-- ITS FALSE NEIGHBOUR: 'it returns false'. Refute it at one input. -/
def fnExactFindReturnWrong : ChangeSpec := { name := "fnExactFindReturn", fn := fun _ => fun
  | [d1, d2, d3, d4] => { results := [.lit (.bool false)], args := [d1, d2, d3, d4] }
  | _ => none }
def FnExactFindReturnWrongFalsely : Prop := fnExactFindReturnRow.holds Try.pinned (OpenSpec.ofChange fnExactFindReturnWrong)

/- THE SECOND FORM. 'bulk': how many values and letters a reading holds, each counted each time it is reached (what is shared counts as often as it is met; a slice's spare places count too). A statement '..UptoSaid' is the law's where the arguments, and the package variables that the reading takes, are together of bulk at most 1048576: NARROWER than '..Said'. Prove '..Said' where nothing that the law and all that it calls make is longer than what came in: it says more and counts as full. Else prove '..UptoSaid'. A law counts once. -/
mutual
def uptoBulk {H : Type} : DataW H → Nat
  | .lit (.string bytes) => bytes.length + 1
  | .lit _ => 1
  | .nil => 1
  | .ptr d => uptoBulk d + 1
  | .slice elems spare => uptoBulkAll elems + uptoBulkAll spare + 1
  | .agg parts => uptoBulkAll parts + 1
  | .iface _ d => uptoBulk d + 1
  | .map entries => uptoBulkEntries entries + 1
  | .held _ => 1
def uptoBulkAll {H : Type} : List (DataW H) → Nat
  | [] => 0
  | d :: r => uptoBulk d + uptoBulkAll r
def uptoBulkEntries {H : Type} : List (Lit × DataW H) → Nat
  | [] => 0
  | x :: r => uptoBulkEntry x + uptoBulkEntries r
def uptoBulkEntry {H : Type} : Lit × DataW H → Nat
  | (.string bytes, d) => bytes.length + uptoBulk d + 1
  | (_, d) => uptoBulk d + 1
 end
def uptoSmall : (H : Type) → List (DataW H) → Bool := fun _ ds => decide (uptoBulkAll ds ≤ 1048576)
def OpenSpec.upto (s : _root_.Go.ChangeSpec) : _root_.Go.OpenSpec := { _root_.Go.OpenSpec.ofChange s with cond := some uptoSmall }

/-- 'laws.FnTurns', WHERE WHAT IT READS IS OF BULK AT MOST 1048576: true; the input reads as it did. -/
def fnTurnsUptoRow : OpenClaim := { program := "ytmcfcijddhgphaa", sum := "842969336df5fff8eff35c58b646d2e18173fdd81cab4f0dd60fa08477124b5a", func := "loop.example/g01253/laws.FnTurns", spec := "fnTurns", inPlace := ["math.archFloor", "math.Float64bits", "math.Float64frombits", "math.archTrunc"], unfollowed := true, recurses := true, apart := false, narrowed := true }
def FnTurnsUptoSaid : Prop := fnTurnsUptoRow.holds Try.pinned (OpenSpec.upto fnTurnsSpec)

/-- 'laws.FnGrowth', WHERE WHAT IT READS IS OF BULK AT MOST 1048576: true; the input reads as it did. -/
def fnGrowthUptoRow : OpenClaim := { program := "ytmcfcijddhgphaa", sum := "842969336df5fff8eff35c58b646d2e18173fdd81cab4f0dd60fa08477124b5a", func := "loop.example/g01253/laws.FnGrowth", spec := "fnGrowth", inPlace := ["math.Float32bits", "math.Float32frombits", "math.Float64frombits"], unfollowed := true, recurses := true, apart := false, narrowed := true }
def FnGrowthUptoSaid : Prop := fnGrowthUptoRow.holds Try.pinned (OpenSpec.upto fnGrowthSpec)

/-- 'laws.FnExactGrowExponent', WHERE WHAT IT READS IS OF BULK AT MOST 1048576: true; the input reads as it did. -/
def fnExactGrowExponentUptoRow : OpenClaim := { program := "ytmcfcijddhgphaa", sum := "842969336df5fff8eff35c58b646d2e18173fdd81cab4f0dd60fa08477124b5a", func := "loop.example/g01253/laws.FnExactGrowExponent", spec := "fnExactGrowExponent", inPlace := ["math.Float64frombits", "math.Float64bits", "math.Float32bits", "math.Float32frombits"], unfollowed := true, recurses := true, apart := false, narrowed := true }
def FnExactGrowExponentUptoSaid : Prop := fnExactGrowExponentUptoRow.holds Try.pinned (OpenSpec.upto fnExactGrowExponentSpec)

/-- 'laws.FnBasins', WHERE WHAT IT READS IS OF BULK AT MOST 1048576: true; the input reads as it did. -/
def fnBasinsUptoRow : OpenClaim := { program := "ytmcfcijddhgphaa", sum := "842969336df5fff8eff35c58b646d2e18173fdd81cab4f0dd60fa08477124b5a", func := "loop.example/g01253/laws.FnBasins", spec := "fnBasins", inPlace := ["math.archFloor", "math.Float64bits", "math.Float64frombits", "math.archTrunc"], apart := false, narrowed := true }
def FnBasinsUptoSaid : Prop := fnBasinsUptoRow.holds Try.pinned (OpenSpec.upto fnBasinsSpec)

/-- 'laws.FnExactSlopesAlong', WHERE WHAT IT READS IS OF BULK AT MOST 1048576: true; the input reads as it did. -/
def fnExactSlopesAlongUptoRow : OpenClaim := { program := "ytmcfcijddhgphaa", sum := "842969336df5fff8eff35c58b646d2e18173fdd81cab4f0dd60fa08477124b5a", func := "loop.example/g01253/laws.FnExactSlopesAlong", spec := "fnExactSlopesAlong", inPlace := ["math.Float64frombits", "math.archFloor", "math.Float64bits", "math.archTrunc"], unfollowed := true, recurses := true, apart := false, narrowed := true }
def FnExactSlopesAlongUptoSaid : Prop := fnExactSlopesAlongUptoRow.holds Try.pinned (OpenSpec.upto fnExactSlopesAlongSpec)

/-- 'laws.FnExactBasinsShared', WHERE WHAT IT READS IS OF BULK AT MOST 1048576: true; the input reads as it did. -/
def fnExactBasinsSharedUptoRow : OpenClaim := { program := "ytmcfcijddhgphaa", sum := "842969336df5fff8eff35c58b646d2e18173fdd81cab4f0dd60fa08477124b5a", func := "loop.example/g01253/laws.FnExactBasinsShared", spec := "fnExactBasinsShared", inPlace := ["math.archFloor", "math.Float64bits", "math.Float64frombits", "math.archTrunc"], apart := false, narrowed := true }
def FnExactBasinsSharedUptoSaid : Prop := fnExactBasinsSharedUptoRow.holds Try.pinned (OpenSpec.upto fnExactBasinsSharedSpec)

/-- 'laws.FnExactReturnOf', WHERE WHAT IT READS IS OF BULK AT MOST 1048576: true; the input reads as it did. -/
def fnExactReturnOfUptoRow : OpenClaim := { program := "ytmcfcijddhgphaa", sum := "842969336df5fff8eff35c58b646d2e18173fdd81cab4f0dd60fa08477124b5a", func := "loop.example/g01253/laws.FnExactReturnOf", spec := "fnExactReturnOf", inPlace := ["math.Float64frombits", "math.archFloor", "math.Float64bits", "math.archTrunc", "math.sqrt"], apart := false, narrowed := true }
def FnExactReturnOfUptoSaid : Prop := fnExactReturnOfUptoRow.holds Try.pinned (OpenSpec.upto fnExactReturnOfSpec)

/-- 'laws.FnExactExponentOf', WHERE WHAT IT READS IS OF BULK AT MOST 1048576: true; the input reads as it did. -/
def fnExactExponentOfUptoRow : OpenClaim := { program := "ytmcfcijddhgphaa", sum := "842969336df5fff8eff35c58b646d2e18173fdd81cab4f0dd60fa08477124b5a", func := "loop.example/g01253/laws.FnExactExponentOf", spec := "fnExactExponentOf", inPlace := ["math.Float64frombits", "math.archFloor", "math.Float64bits", "math.archTrunc", "math.sqrt"], apart := false, narrowed := true }
def FnExactExponentOfUptoSaid : Prop := fnExactExponentOfUptoRow.holds Try.pinned (OpenSpec.upto fnExactExponentOfSpec)

/-- 'laws.FnExactFindReturn', WHERE WHAT IT READS IS OF BULK AT MOST 1048576: true; the input reads as it did. -/
def fnExactFindReturnUptoRow : OpenClaim := { program := "ytmcfcijddhgphaa", sum := "842969336df5fff8eff35c58b646d2e18173fdd81cab4f0dd60fa08477124b5a", func := "loop.example/g01253/laws.FnExactFindReturn", spec := "fnExactFindReturn", inPlace := ["math.Float64frombits", "math.archFloor", "math.Float64bits", "math.archTrunc", "math.sqrt"], unfollowed := true, recurses := true, apart := false, narrowed := true }
def FnExactFindReturnUptoSaid : Prop := fnExactFindReturnUptoRow.holds Try.pinned (OpenSpec.upto fnExactFindReturnSpec)

end Rows
end Go.Proofs.Ytmcfcijddhgphaa
