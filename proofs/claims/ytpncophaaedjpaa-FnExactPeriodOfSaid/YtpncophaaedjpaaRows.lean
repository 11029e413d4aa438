/-
  No cell of these rows narrows 'for every input' (looked for: loops, veiled, ifaces, maps, wideKeys, modest, calm, conditions, laid).
  DERIVED. THE GIVEN ROWS OF THIS SEAT. 6 by the template 'for every input the law returns true; each argument reads behind the call as it read before'; 0 by the template 'total and deterministic' (their statements: YtpncophaaedjpaaTotals.lean).
  GIVEN WITH THE SEED: the statements are not yours to turn. If you find one false, say at which input.
  Laid BY PROGRAM, IN A SANDBOX (cutbox-rows.mjs): the forced cells as the released guide's own fill.sh prints them over the translation c44f9c197064ee5b… (all of the seat's roots in one cut). By AI agents, Wed Nov 11 2026. No macro, syntax, notation, axiom, sorry.
-/
import Derived.Test.YtpncophaaedjpaaChecked
import GoSem.Claim
import GoSem.ClaimJoined
import GoSem.ClaimMapViews
import Derived.JoinedTies
import Derived.KernelRfl
namespace Go.Proofs.Ytpncophaaedjpaa
/- THE CELL 'sum', in the pinned program and in every row, IS THE sha256 OF THE DUMP (.gsa) THAT YtpncophaaedjpaaProg.lean LOADS. Nothing in Lean hashes anything: it is a label: what it is worth is what the hold of that sum in a sandbox is worth. -/
noncomputable def Try.pinned : Pinned := { name := "ytpncophaaedjpaa", sum := "c44f9c197064ee5b61ac9db96aeefc896d5e3a83b23480e0247cc518df7a2a88", checked := Try.checked }
namespace Rows
def none {H : Type} : Left H := { results := [], args := [] }

/-- 'laws.FnExactValidState': WHATEVER THE INPUT: true; the input reads as it did. -/
def fnExactValidStateSpec : ChangeSpec := { name := "fnExactValidState", fn := fun _ => fun
  | [d] => { results := [.lit (.bool true)], args := [d] }
  | _ => none }
def fnExactValidStateRow : OpenClaim := { program := "ytpncophaaedjpaa", sum := "c44f9c197064ee5b61ac9db96aeefc896d5e3a83b23480e0247cc518df7a2a88", func := "loop.example/g01253/laws.FnExactValidState", spec := "fnExactValidState", apart := false }
def FnExactValidStateSaid : Prop := fnExactValidStateRow.holds Try.pinned (OpenSpec.ofChange fnExactValidStateSpec)

/-- ITS FALSE NEIGHBOUR: 'it returns false'. Refute it at one input. -/
def fnExactValidStateWrong : ChangeSpec := { name := "fnExactValidState", fn := fun _ => fun
  | [d] => { results := [.lit (.bool false)], args := [d] }
  | _ => none }
def FnExactValidStateWrongFalsely : Prop := fnExactValidStateRow.holds Try.pinned (OpenSpec.ofChange fnExactValidStateWrong)

/-- 'laws.FnExactSameState': WHATEVER THE INPUT: true; the input reads as it did. -/
def fnExactSameStateSpec : ChangeSpec := { name := "fnExactSameState", fn := fun _ => fun
  | [d1, d2] => { results := [.lit (.bool true)], args := [d1, d2] }
  | _ => none }
def fnExactSameStateRow : OpenClaim := { program := "ytpncophaaedjpaa", sum := "c44f9c197064ee5b61ac9db96aeefc896d5e3a83b23480e0247cc518df7a2a88", func := "loop.example/g01253/laws.FnExactSameState", spec := "fnExactSameState", inPlace := ["math.Float32bits"], apart := false }
def FnExactSameStateSaid : Prop := fnExactSameStateRow.holds Try.pinned (OpenSpec.ofChange fnExactSameStateSpec)

/-- ITS FALSE NEIGHBOUR: 'it returns false'. Refute it at one input. -/
def fnExactSameStateWrong : ChangeSpec := { name := "fnExactSameState", fn := fun _ => fun
  | [d1, d2] => { results := [.lit (.bool false)], args := [d1, d2] }
  | _ => none }
def FnExactSameStateWrongFalsely : Prop := fnExactSameStateRow.holds Try.pinned (OpenSpec.ofChange fnExactSameStateWrong)

/-- 'laws.FnExactGrowNext': WHATEVER THE INPUT: true; the input reads as it did. -/
def fnExactGrowNextSpec : ChangeSpec := { name := "fnExactGrowNext", fn := fun _ => fun
  | [d1, d2] => { results := [.lit (.bool true)], args := [d1, d2] }
  | _ => none }
def fnExactGrowNextRow : OpenClaim := { program := "ytpncophaaedjpaa", sum := "c44f9c197064ee5b61ac9db96aeefc896d5e3a83b23480e0247cc518df7a2a88", func := "loop.example/g01253/laws.FnExactGrowNext", spec := "fnExactGrowNext", unfollowed := true, recurses := true, apart := false }
def FnExactGrowNextSaid : Prop := fnExactGrowNextRow.holds Try.pinned (OpenSpec.ofChange fnExactGrowNextSpec)

/-- ITS FALSE NEIGHBOUR: 'it returns false'. Refute it at one input. -/
def fnExactGrowNextWrong : ChangeSpec := { name := "fnExactGrowNext", fn := fun _ => fun
  | [d1, d2] => { results := [.lit (.bool false)], args := [d1, d2] }
  | _ => none }
def FnExactGrowNextWrongFalsely : Prop := fnExactGrowNextRow.holds Try.pinned (OpenSpec.ofChange fnExactGrowNextWrong)

/-- 'laws.FnExactPeriodOf': WHATEVER THE INPUT: true; the input reads as it did. -/
def fnExactPeriodOfSpec : ChangeSpec := { name := "fnExactPeriodOf", fn := fun _ => fun
  | [d1, d2, d3, d4, d5] => { results := [.lit (.bool true)], args := [d1, d2, d3, d4, d5] }
  | _ => none }
def fnExactPeriodOfRow : OpenClaim := { program := "ytpncophaaedjpaa", sum := "c44f9c197064ee5b61ac9db96aeefc896d5e3a83b23480e0247cc518df7a2a88", func := "loop.example/g01253/laws.FnExactPeriodOf", spec := "fnExactPeriodOf", inPlace := ["math.Float32bits", "math.Float32frombits"], unfollowed := true, recurses := true, apart := false }
def FnExactPeriodOfSaid : Prop := fnExactPeriodOfRow.holds Try.pinned (OpenSpec.ofChange fnExactPeriodOfSpec)

/-- ITS FALSE NEIGHBOUR: 'it returns false'. Refute it at one input. -/
def fnExactPeriodOfWrong : ChangeSpec := { name := "fnExactPeriodOf", fn := fun _ => fun
  | [d1, d2, d3, d4, d5] => { results := [.lit (.bool false)], args := [d1, d2, d3, d4, d5] }
  | _ => none }
def FnExactPeriodOfWrongFalsely : Prop := fnExactPeriodOfRow.holds Try.pinned (OpenSpec.ofChange fnExactPeriodOfWrong)

/-- 'laws.FnExactGrowOrbit': WHATEVER THE INPUT: true; the input reads as it did. -/
def fnExactGrowOrbitSpec : ChangeSpec := { name := "fnExactGrowOrbit", fn := fun _ => fun
  | [d1, d2, d3, d4] => { results := [.lit (.bool true)], args := [d1, d2, d3, d4] }
  | _ => none }
def fnExactGrowOrbitRow : OpenClaim := { program := "ytpncophaaedjpaa", sum := "c44f9c197064ee5b61ac9db96aeefc896d5e3a83b23480e0247cc518df7a2a88", func := "loop.example/g01253/laws.FnExactGrowOrbit", spec := "fnExactGrowOrbit", unfollowed := true, recurses := true, apart := false }
def FnExactGrowOrbitSaid : Prop := fnExactGrowOrbitRow.holds Try.pinned (OpenSpec.ofChange fnExactGrowOrbitSpec)

/-- ITS FALSE NEIGHBOUR: 'it returns false'. Refute it at one input. -/
def fnExactGrowOrbitWrong : ChangeSpec := { name := "fnExactGrowOrbit", fn := fun _ => fun
  | [d1, d2, d3, d4] => { results := [.lit (.bool false)], args := [d1, d2, d3, d4] }
  | _ => none }
def FnExactGrowOrbitWrongFalsely : Prop := fnExactGrowOrbitRow.holds Try.pinned (OpenSpec.ofChange fnExactGrowOrbitWrong)

/-- 'laws.FnExactWrapKick': WHATEVER THE INPUT: true; the input reads as it did. -/
def fnExactWrapKickSpec : ChangeSpec := { name := "fnExactWrapKick", fn := fun _ => fun
  | [d] => { results := [.lit (.bool true)], args := [d] }
  | _ => none }
def fnExactWrapKickRow : OpenClaim := { program := "ytpncophaaedjpaa", sum := "c44f9c197064ee5b61ac9db96aeefc896d5e3a83b23480e0247cc518df7a2a88", func := "loop.example/g01253/laws.FnExactWrapKick", spec := "fnExactWrapKick", inPlace := ["math.archFloor", "math.Float64bits", "math.Float64frombits", "math.archTrunc"], apart := false }
def FnExactWrapKickSaid : Prop := fnExactWrapKickRow.holds Try.pinned (OpenSpec.ofChange fnExactWrapKickSpec)

/-- ITS FALSE NEIGHBOUR: 'it returns false'. Refute it at one input. -/
def fnExactWrapKickWrong : ChangeSpec := { name := "fnExactWrapKick", fn := fun _ => fun
  | [d] => { results := [.lit (.bool false)], args := [d] }
  | _ => none }
def FnExactWrapKickWrongFalsely : Prop := fnExactWrapKickRow.holds Try.pinned (OpenSpec.ofChange fnExactWrapKickWrong)

/- THE SECOND FORM. 'bulk': how many values and letters a reading holds, each counted each time it is reached (what is shared counts as often as it is met; a slice's spare places count too). A statement '..UptoSaid' is the law's where the arguments, and the package variables that the reading takes, are together of bulk at most 1048576: NARROWER than '..Said'. Prove '..Said' where nothing that the law and all that it calls make is longer than what came in: it says more and counts as full. Else prove '..UptoSaid'. A law counts once. -/
mutual
def uptoBulk {H : Type} : DataW H → Nat
  | .lit (.string bytes) => bytes.length + 1
  | .lit _ => 1
  | .nil => 1
  | .ptr d => uptoBulk d + 1
  | .slice elems spare => uptoBulkAll elems + uptoBulkAll spare + 1
  | .agg parts => uptoBulkAll parts + 1
  | .iface _ d => uptoBulk d + 1
  | .map entries => uptoBulkEntries entries + 1
  | .held _ => 1
def uptoBulkAll {H : Type} : List (DataW H) → Nat
  | [] => 0
  | d :: r => uptoBulk d + uptoBulkAll r
def uptoBulkEntries {H : Type} : List (Lit × DataW H) → Nat
  | [] => 0
  | x :: r => uptoBulkEntry x + uptoBulkEntries r
def uptoBulkEntry {H : Type} : Lit × DataW H → Nat
  | (.string bytes, d) => bytes.length + uptoBulk d + 1
  | (_, d) => uptoBulk d + 1
 end
def uptoSmall : (H : Type) → List (DataW H) → Bool := fun _ ds => decide (uptoBulkAll ds ≤ 1048576)
def OpenSpec.upto (s : _root_.Go.ChangeSpec) : _root_.Go.OpenSpec := { _root_.Go.OpenSpec.ofChange s with cond := some uptoSmall }

/-- 'laws.FnExactValidState', WHERE WHAT IT READS IS OF BULK AT MOST 1048576: true; the input reads as it did. -/
def fnExactValidStateUptoRow : OpenClaim := { program := "ytpncophaaedjpaa", sum := "c44f9c197064ee5b61ac9db96aeefc896d5e3a83b23480e0247cc518df7a2a88", func := "loop.example/g01253/laws.FnExactValidState", spec := "fnExactValidState", apart := false, narrowed := true }
def FnExactValidStateUptoSaid : Prop := fnExactValidStateUptoRow.holds Try.pinned (OpenSpec.upto fnExactValidStateSpec)

/-- 'laws.FnExactSameState', WHERE WHAT IT READS IS OF BULK AT MOST 1048576: true; the input reads as it did. -/
def fnExactSameStateUptoRow : OpenClaim := { program := "ytpncophaaedjpaa", sum := "c44f9c197064ee5b61ac9db96aeefc896d5e3a83b23480e0247cc518df7a2a88", func := "loop.example/g01253/laws.FnExactSameState", spec := "fnExactSameState", inPlace := ["math.Float32bits"], apart := false, narrowed := true }
def FnExactSameStateUptoSaid : Prop := fnExactSameStateUptoRow.holds Try.pinned (OpenSpec.upto fnExactSameStateSpec)

/-- 'laws.FnExactGrowNext', WHERE WHAT IT READS IS OF BULK AT MOST 1048576: true; the input reads as it did. -/
def fnExactGrowNextUptoRow : OpenClaim := { program := "ytpncophaaedjpaa", sum := "c44f9c197064ee5b61ac9db96aeefc896d5e3a83b23480e0247cc518df7a2a88", func := "loop.example/g01253/laws.FnExactGrowNext", spec := "fnExactGrowNext", unfollowed := true, recurses := true, apart := false, narrowed := true }
def FnExactGrowNextUptoSaid : Prop := fnExactGrowNextUptoRow.holds Try.pinned (OpenSpec.upto fnExactGrowNextSpec)

/-- 'laws.FnExactPeriodOf', WHERE WHAT IT READS IS OF BULK AT MOST 1048576: true; the input reads as it did. -/
def fnExactPeriodOfUptoRow : OpenClaim := { program := "ytpncophaaedjpaa", sum := "c44f9c197064ee5b61ac9db96aeefc896d5e3a83b23480e0247cc518df7a2a88", func := "loop.example/g01253/laws.FnExactPeriodOf", spec := "fnExactPeriodOf", inPlace := ["math.Float32bits", "math.Float32frombits"], unfollowed := true, recurses := true, apart := false, narrowed := true }
def FnExactPeriodOfUptoSaid : Prop := fnExactPeriodOfUptoRow.holds Try.pinned (OpenSpec.upto fnExactPeriodOfSpec)

/-- 'laws.FnExactGrowOrbit', WHERE WHAT IT READS IS OF BULK AT MOST 1048576: true; the input reads as it did. -/
def fnExactGrowOrbitUptoRow : OpenClaim := { program := "ytpncophaaedjpaa", sum := "c44f9c197064ee5b61ac9db96aeefc896d5e3a83b23480e0247cc518df7a2a88", func := "loop.example/g01253/laws.FnExactGrowOrbit", spec := "fnExactGrowOrbit", unfollowed := true, recurses := true, apart := false, narrowed := true }
def FnExactGrowOrbitUptoSaid : Prop := fnExactGrowOrbitUptoRow.holds Try.pinned (OpenSpec.upto fnExactGrowOrbitSpec)

/-- 'laws.FnExactWrapKick', WHERE WHAT IT READS IS OF BULK AT MOST 1048576: true; the input reads as it did. -/
def fnExactWrapKickUptoRow : OpenClaim := { program := "ytpncophaaedjpaa", sum := "c44f9c197064ee5b61ac9db96aeefc896d5e3a83b23480e0247cc518df7a2a88", func := "loop.example/g01253/laws.FnExactWrapKick", spec := "fnExactWrapKick", inPlace := ["math.archFloor", "math.Float64bits", "math.Float64frombits", "math.archTrunc"], apart := false, narrowed := true }
def FnExactWrapKickUptoSaid : Prop := fnExactWrapKickUptoRow.holds Try.pinned (OpenSpec.upto fnExactWrapKickSpec)

end Rows
end Go.Proofs.Ytpncophaaedjpaa
