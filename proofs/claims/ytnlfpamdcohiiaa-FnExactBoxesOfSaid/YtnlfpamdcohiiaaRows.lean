/-
  No cell of these rows narrows 'for every input' (looked for: loops, veiled, ifaces, maps, wideKeys, modest, calm, conditions, laid).
  DERIVED. THE GIVEN ROWS OF THIS SEAT. 12 by the template 'for every input the law returns true; each argument reads behind the call as it read before'; 0 by the template 'total and deterministic' (their statements: YtnlfpamdcohiiaaTotals.lean).
  GIVEN WITH THE SEED: the statements are not yours to turn. If you find one false, say at which input.
  Laid BY PROGRAM, IN A SANDBOX (cutbox-rows.mjs): the forced cells as the released guide's own fill.sh prints them over the translation d5c1ddbdf879ec58… (all of the seat's roots in one cut). By AI agents, Wed Nov 11 2026. No macro, syntax, notation, axiom, sorry.
-/
import Derived.Test.YtnlfpamdcohiiaaChecked
import GoSem.Claim
import GoSem.ClaimJoined
import GoSem.ClaimMapViews
import Derived.JoinedTies
import Derived.KernelRfl
namespace Go.Proofs.Ytnlfpamdcohiiaa
/- THE CELL 'sum', in the pinned program and in every row, IS THE sha256 OF THE DUMP (.gsa) THAT YtnlfpamdcohiiaaProg.lean LOADS. Nothing in Lean hashes anything: it is a label: what it is worth is what the hold of that sum in a sandbox is worth. -/
noncomputable def Try.pinned : Pinned := { name := "ytnlfpamdcohiiaa", sum := "d5c1ddbdf879ec582dd0bc273d536d138ef3cac53ccf96db1324c90e081aeec9", checked := Try.checked }
namespace Rows
def none {H : Type} : Left H := { results := [], args := [] }

/-- 'laws.FnExactMirrorState': WHATEVER THE INPUT: true; the input reads as it did. -/
def fnExactMirrorStateSpec : ChangeSpec := { name := "fnExactMirrorState", fn := fun _ => fun
  | [d] => { results := [.lit (.bool true)], args := [d] }
  | _ => none }
def fnExactMirrorStateRow : OpenClaim := { program := "ytnlfpamdcohiiaa", sum := "d5c1ddbdf879ec582dd0bc273d536d138ef3cac53ccf96db1324c90e081aeec9", func := "loop.example/g01253/laws.FnExactMirrorState", spec := "fnExactMirrorState", inPlace := ["math.archFloor", "math.Float64bits", "math.Float64frombits", "math.archTrunc"], plainKeys := false, apart := false }
def FnExactMirrorStateSaid : Prop := fnExactMirrorStateRow.holds Try.pinned (OpenSpec.ofChange fnExactMirrorStateSpec)

/-- ITS FALSE NEIGHBOUR: 'it returns false'. Refute it at one input. -/
def fnExactMirrorStateWrong : ChangeSpec := { name := "fnExactMirrorState", fn := fun _ => fun
  | [d] => { results := [.lit (.bool false)], args := [d] }
  | _ => none }
def FnExactMirrorStateWrongFalsely : Prop := fnExactMirrorStateRow.holds Try.pinned (OpenSpec.ofChange fnExactMirrorStateWrong)

/-- 'laws.FnExactSlopesOf': WHATEVER THE INPUT: true; the input reads as it did. -/
def fnExactSlopesOfSpec : ChangeSpec := { name := "fnExactSlopesOf", fn := fun _ => fun
  | [d1, d2] => { results := [.lit (.bool true)], args := [d1, d2] }
  | _ => none }
def fnExactSlopesOfRow : OpenClaim := { program := "ytnlfpamdcohiiaa", sum := "d5c1ddbdf879ec582dd0bc273d536d138ef3cac53ccf96db1324c90e081aeec9", func := "loop.example/g01253/laws.FnExactSlopesOf", spec := "fnExactSlopesOf", inPlace := ["math.Float64frombits", "math.Float64bits", "math.archTrunc"], unfollowed := true, recurses := true, plainKeys := false, apart := false }
def FnExactSlopesOfSaid : Prop := fnExactSlopesOfRow.holds Try.pinned (OpenSpec.ofChange fnExactSlopesOfSpec)

/-- ITS FALSE NEIGHBOUR: 'it returns false'. Refute it at one input. -/
def fnExactSlopesOfWrong : ChangeSpec := { name := "fnExactSlopesOf", fn := fun _ => fun
  | [d1, d2] => { results := [.lit (.bool false)], args := [d1, d2] }
  | _ => none }
def FnExactSlopesOfWrongFalsely : Prop := fnExactSlopesOfRow.holds Try.pinned (OpenSpec.ofChange fnExactSlopesOfWrong)

/-- 'laws.FnExactBackState': WHATEVER THE INPUT: true; the input reads as it did. -/
def fnExactBackStateSpec : ChangeSpec := { name := "fnExactBackState", fn := fun _ => fun
  | [d1, d2] => { results := [.lit (.bool true)], args := [d1, d2] }
  | _ => none }
def fnExactBackStateRow : OpenClaim := { program := "ytnlfpamdcohiiaa", sum := "d5c1ddbdf879ec582dd0bc273d536d138ef3cac53ccf96db1324c90e081aeec9", func := "loop.example/g01253/laws.FnExactBackState", spec := "fnExactBackState", inPlace := ["math.archFloor", "math.Float64bits", "math.Float64frombits", "math.archTrunc"], plainKeys := false, apart := false }
def FnExactBackStateSaid : Prop := fnExactBackStateRow.holds Try.pinned (OpenSpec.ofChange fnExactBackStateSpec)

/-- ITS FALSE NEIGHBOUR: 'it returns false'. Refute it at one input. -/
def fnExactBackStateWrong : ChangeSpec := { name := "fnExactBackState", fn := fun _ => fun
  | [d1, d2] => { results := [.lit (.bool false)], args := [d1, d2] }
  | _ => none }
def FnExactBackStateWrongFalsely : Prop := fnExactBackStateRow.holds Try.pinned (OpenSpec.ofChange fnExactBackStateWrong)

/-- 'laws.FnExactMapState': WHATEVER THE INPUT: true; the input reads as it did. -/
def fnExactMapStateSpec : ChangeSpec := { name := "fnExactMapState", fn := fun _ => fun
  | [d1, d2] => { results := [.lit (.bool true)], args := [d1, d2] }
  | _ => none }
def fnExactMapStateRow : OpenClaim := { program := "ytnlfpamdcohiiaa", sum := "d5c1ddbdf879ec582dd0bc273d536d138ef3cac53ccf96db1324c90e081aeec9", func := "loop.example/g01253/laws.FnExactMapState", spec := "fnExactMapState", inPlace := ["math.Float64frombits", "math.archFloor", "math.Float64bits", "math.archTrunc"], plainKeys := false, apart := false }
def FnExactMapStateSaid : Prop := fnExactMapStateRow.holds Try.pinned (OpenSpec.ofChange fnExactMapStateSpec)

/-- ITS FALSE NEIGHBOUR: 'it returns false'. Refute it at one input. -/
def fnExactMapStateWrong : ChangeSpec := { name := "fnExactMapState", fn := fun _ => fun
  | [d1, d2] => { results := [.lit (.bool false)], args := [d1, d2] }
  | _ => none }
def FnExactMapStateWrongFalsely : Prop := fnExactMapStateRow.holds Try.pinned (OpenSpec.ofChange fnExactMapStateWrong)

/-- 'laws.FnExactDampState': WHATEVER THE INPUT: true; the input reads as it did. -/
def fnExactDampStateSpec : ChangeSpec := { name := "fnExactDampState", fn := fun _ => fun
  | [d1, d2, d3] => { results := [.lit (.bool true)], args := [d1, d2, d3] }
  | _ => none }
def fnExactDampStateRow : OpenClaim := { program := "ytnlfpamdcohiiaa", sum := "d5c1ddbdf879ec582dd0bc273d536d138ef3cac53ccf96db1324c90e081aeec9", func := "loop.example/g01253/laws.FnExactDampState", spec := "fnExactDampState", inPlace := ["math.Float64frombits", "math.archFloor", "math.Float64bits", "math.archTrunc"], plainKeys := false, apart := false }
def FnExactDampStateSaid : Prop := fnExactDampStateRow.holds Try.pinned (OpenSpec.ofChange fnExactDampStateSpec)

/-- ITS FALSE NEIGHBOUR: 'it returns false'. Refute it at one input. -/
def fnExactDampStateWrong : ChangeSpec := { name := "fnExactDampState", fn := fun _ => fun
  | [d1, d2, d3] => { results := [.lit (.bool false)], args := [d1, d2, d3] }
  | _ => none }
def FnExactDampStateWrongFalsely : Prop := fnExactDampStateRow.holds Try.pinned (OpenSpec.ofChange fnExactDampStateWrong)

/-- 'laws.FnExactRestOf': WHATEVER THE INPUT: true; the input reads as it did. -/
def fnExactRestOfSpec : ChangeSpec := { name := "fnExactRestOf", fn := fun _ => fun
  | [d1, d2, d3, d4, d5] => { results := [.lit (.bool true)], args := [d1, d2, d3, d4, d5] }
  | _ => none }
def fnExactRestOfRow : OpenClaim := { program := "ytnlfpamdcohiiaa", sum := "d5c1ddbdf879ec582dd0bc273d536d138ef3cac53ccf96db1324c90e081aeec9", func := "loop.example/g01253/laws.FnExactRestOf", spec := "fnExactRestOf", inPlace := ["math.Float64frombits", "math.archFloor", "math.Float64bits", "math.archTrunc"], plainKeys := false, apart := false }
def FnExactRestOfSaid : Prop := fnExactRestOfRow.holds Try.pinned (OpenSpec.ofChange fnExactRestOfSpec)

/-- ITS FALSE NEIGHBOUR: 'it returns false'. Refute it at one input. -/
def fnExactRestOfWrong : ChangeSpec := { name := "fnExactRestOf", fn := fun _ => fun
  | [d1, d2, d3, d4, d5] => { results := [.lit (.bool false)], args := [d1, d2, d3, d4, d5] }
  | _ => none }
def FnExactRestOfWrongFalsely : Prop := fnExactRestOfRow.holds Try.pinned (OpenSpec.ofChange fnExactRestOfWrong)

/-- 'laws.FnExactWindingOf': WHATEVER THE INPUT: true; the input reads as it did. -/
def fnExactWindingOfSpec : ChangeSpec := { name := "fnExactWindingOf", fn := fun _ => fun
  | [d1, d2, d3] => { results := [.lit (.bool true)], args := [d1, d2, d3] }
  | _ => none }
def fnExactWindingOfRow : OpenClaim := { program := "ytnlfpamdcohiiaa", sum := "d5c1ddbdf879ec582dd0bc273d536d138ef3cac53ccf96db1324c90e081aeec9", func := "loop.example/g01253/laws.FnExactWindingOf", spec := "fnExactWindingOf", inPlace := ["math.Float64frombits", "math.archFloor", "math.Float64bits", "math.archTrunc"], plainKeys := false, apart := false }
def FnExactWindingOfSaid : Prop := fnExactWindingOfRow.holds Try.pinned (OpenSpec.ofChange fnExactWindingOfSpec)

/-- ITS FALSE NEIGHBOUR: 'it returns false'. Refute it at one input. -/
def fnExactWindingOfWrong : ChangeSpec := { name := "fnExactWindingOf", fn := fun _ => fun
  | [d1, d2, d3] => { results := [.lit (.bool false)], args := [d1, d2, d3] }
  | _ => none }
def FnExactWindingOfWrongFalsely : Prop := fnExactWindingOfRow.holds Try.pinned (OpenSpec.ofChange fnExactWindingOfWrong)

/-- 'laws.FnExactBoxesOf': WHATEVER THE INPUT: true; the input reads as it did. -/
def fnExactBoxesOfSpec : ChangeSpec := { name := "fnExactBoxesOf", fn := fun _ => fun
  | [d1, d2, d3, d4] => { results := [.lit (.bool true)], args := [d1, d2, d3, d4] }
  | _ => none }
def fnExactBoxesOfRow : OpenClaim := { program := "ytnlfpamdcohiiaa", sum := "d5c1ddbdf879ec582dd0bc273d536d138ef3cac53ccf96db1324c90e081aeec9", func := "loop.example/g01253/laws.FnExactBoxesOf", spec := "fnExactBoxesOf", inPlace := ["math.Float64frombits", "math.archFloor", "math.Float64bits", "math.archTrunc"], plainKeys := false, apart := false }
def FnExactBoxesOfSaid : Prop := fnExactBoxesOfRow.holds Try.pinned (OpenSpec.ofChange fnExactBoxesOfSpec)

/-- ITS FALSE NEIGHBOUR: 'it returns false'. Refute it at one input. -/
def fnExactBoxesOfWrong : ChangeSpec := { name := "fnExactBoxesOf", fn := fun _ => fun
  | [d1, d2, d3, d4] => { results := [.lit (.bool false)], args := [d1, d2, d3, d4] }
  | _ => none }
def FnExactBoxesOfWrongFalsely : Prop := fnExactBoxesOfRow.holds Try.pinned (OpenSpec.ofChange fnExactBoxesOfWrong)

/-- 'laws.FnExactBasinRow': WHATEVER THE INPUT: true; the input reads as it did. -/
def fnExactBasinRowSpec : ChangeSpec := { name := "fnExactBasinRow", fn := fun _ => fun
  | [d1, d2, d3, d4, d5, d6, d7] => { results := [.lit (.bool true)], args := [d1, d2, d3, d4, d5, d6, d7] }
  | _ => none }
def fnExactBasinRowRow : OpenClaim := { program := "ytnlfpamdcohiiaa", sum := "d5c1ddbdf879ec582dd0bc273d536d138ef3cac53ccf96db1324c90e081aeec9", func := "loop.example/g01253/laws.FnExactBasinRow", spec := "fnExactBasinRow", inPlace := ["math.archFloor", "math.Float64bits", "math.Float64frombits", "math.archTrunc"], plainKeys := false, apart := false }
def FnExactBasinRowSaid : Prop := fnExactBasinRowRow.holds Try.pinned (OpenSpec.ofChange fnExactBasinRowSpec)

/-- ITS FALSE NEIGHBOUR: 'it returns false'. Refute it at one input. -/
def fnExactBasinRowWrong : ChangeSpec := { name := "fnExactBasinRow", fn := fun _ => fun
  | [d1, d2, d3, d4, d5, d6, d7] => { results := [.lit (.bool false)], args := [d1, d2, d3, d4, d5, d6, d7] }
  | _ => none }
def FnExactBasinRowWrongFalsely : Prop := fnExactBasinRowRow.holds Try.pinned (OpenSpec.ofChange fnExactBasinRowWrong)

/-- 'laws.FnExactOrbitOf': WHATEVER THE INPUT: true; the input reads as it did. -/
def fnExactOrbitOfSpec : ChangeSpec := { name := "fnExactOrbitOf", fn := fun _ => fun
  | [d1, d2, d3] => { results := [.lit (.bool true)], args := [d1, d2, d3] }
  | _ => none }
def fnExactOrbitOfRow : OpenClaim := { program := "ytnlfpamdcohiiaa", sum := "d5c1ddbdf879ec582dd0bc273d536d138ef3cac53ccf96db1324c90e081aeec9", func := "loop.example/g01253/laws.FnExactOrbitOf", spec := "fnExactOrbitOf", inPlace := ["math.Float64frombits", "math.archFloor", "math.Float64bits", "math.archTrunc"], plainKeys := false, apart := false }
def FnExactOrbitOfSaid : Prop := fnExactOrbitOfRow.holds Try.pinned (OpenSpec.ofChange fnExactOrbitOfSpec)

/-- ITS FALSE NEIGHBOUR: 'it returns false'. Refute it at one input. -/
def fnExactOrbitOfWrong : ChangeSpec := { name := "fnExactOrbitOf", fn := fun _ => fun
  | [d1, d2, d3] => { results := [.lit (.bool false)], args := [d1, d2, d3] }
  | _ => none }
def FnExactOrbitOfWrongFalsely : Prop := fnExactOrbitOfRow.holds Try.pinned (OpenSpec.ofChange fnExactOrbitOfWrong)

/-- 'laws.FnExactIsCalmOrbit': WHATEVER THE INPUT: true; the input reads as it did. -/
def fnExactIsCalmOrbitSpec : ChangeSpec := { name := "fnExactIsCalmOrbit", fn := fun _ => fun
  | [d1, d2, d3] => { results := [.lit (.bool true)], args := [d1, d2, d3] }
  | _ => none }
def fnExactIsCalmOrbitRow : OpenClaim := { program := "ytnlfpamdcohiiaa", sum := "d5c1ddbdf879ec582dd0bc273d536d138ef3cac53ccf96db1324c90e081aeec9", func := "loop.example/g01253/laws.FnExactIsCalmOrbit", spec := "fnExactIsCalmOrbit", inPlace := ["math.Float64frombits", "math.archFloor", "math.Float64bits", "math.archTrunc"], unfollowed := true, recurses := true, plainKeys := false, apart := false }
def FnExactIsCalmOrbitSaid : Prop := fnExactIsCalmOrbitRow.holds Try.pinned (OpenSpec.ofChange fnExactIsCalmOrbitSpec)

/-- ITS FALSE NEIGHBOUR: 'it returns false'. Refute it at one input. -/
def fnExactIsCalmOrbitWrong : ChangeSpec := { name := "fnExactIsCalmOrbit", fn := fun _ => fun
  | [d1, d2, d3] => { results := [.lit (.bool false)], args := [d1, d2, d3] }
  | _ => none }
def FnExactIsCalmOrbitWrongFalsely : Prop := fnExactIsCalmOrbitRow.holds Try.pinned (OpenSpec.ofChange fnExactIsCalmOrbitWrong)

/-- 'laws.FnExactBasinsOf': WHATEVER THE INPUT: true; the input reads as it did. -/
def fnExactBasinsOfSpec : ChangeSpec := { name := "fnExactBasinsOf", fn := fun _ => fun
  | [d1, d2, d3, d4, d5, d6] => { results := [.lit (.bool true)], args := [d1, d2, d3, d4, d5, d6] }
  | _ => none }
def fnExactBasinsOfRow : OpenClaim := { program := "ytnlfpamdcohiiaa", sum := "d5c1ddbdf879ec582dd0bc273d536d138ef3cac53ccf96db1324c90e081aeec9", func := "loop.example/g01253/laws.FnExactBasinsOf", spec := "fnExactBasinsOf", inPlace := ["math.archFloor", "math.Float64bits", "math.Float64frombits", "math.archTrunc"], plainKeys := false, apart := false }
def FnExactBasinsOfSaid : Prop := fnExactBasinsOfRow.holds Try.pinned (OpenSpec.ofChange fnExactBasinsOfSpec)

/-- ITS FALSE NEIGHBOUR: 'it returns false'. Refute it at one input. -/
def fnExactBasinsOfWrong : ChangeSpec := { name := "fnExactBasinsOf", fn := fun _ => fun
  | [d1, d2, d3, d4, d5, d6] => { results := [.lit (.bool false)], args := [d1, d2, d3, d4, d5, d6] }
  | _ => none }
def FnExactBasinsOfWrongFalsely : Prop := fnExactBasinsOfRow.holds Try.pinned (OpenSpec.ofChange fnExactBasinsOfWrong)

/- THE SECOND FORM. 'bulk': how many values and letters a reading holds, each counted each time it is reached (what is shared counts as often as it is met; a slice's spare places count too). A statement '..UptoSaid' is the law's where the arguments, and the package variables that the reading takes, are together of bulk at most 1048576: NARROWER than '..Said'. Prove '..Said' where nothing that the law and all that it calls make is longer than what came in: it says more and counts as full. Else prove '..UptoSaid'. A law counts once. -/
mutual
def uptoBulk {H : Type} : DataW H → Nat
  | .lit (.string bytes) => bytes.length + 1
  | .lit _ => 1
  | .nil => 1
  | .ptr d => uptoBulk d + 1
  | .slice elems spare => uptoBulkAll elems + uptoBulkAll spare + 1
  | .agg parts => uptoBulkAll parts + 1
  | .iface _ d => uptoBulk d + 1
  | .map entries => uptoBulkEntries entries + 1
  | .held _ => 1
def uptoBulkAll {H : Type} : List (DataW H) → Nat
  | [] => 0
  | d :: r => uptoBulk d + uptoBulkAll r
def uptoBulkEntries {H : Type} : List (Lit × DataW H) → Nat
  | [] => 0
  | x :: r => uptoBulkEntry x + uptoBulkEntries r
def uptoBulkEntry {H : Type} : Lit × DataW H → Nat
  | (.string bytes, d) => bytes.length + uptoBulk d + 1
  | (_, d) => uptoBulk d + 1
 end
def uptoSmall : (H : Type) → List (DataW H) → Bool := fun _ ds => decide (uptoBulkAll ds ≤ 1048576)
def OpenSpec.upto (s : _root_.Go.ChangeSpec) : _root_.Go.OpenSpec := { _root_.Go.OpenSpec.ofChange s with cond := some uptoSmall }

/-- 'laws.FnExactMirrorState', WHERE WHAT IT READS IS OF BULK AT MOST 1048576: true; the input reads as it did. -/
def fnExactMirrorStateUptoRow : OpenClaim := { program := "ytnlfpamdcohiiaa", sum := "d5c1ddbdf879ec582dd0bc273d536d138ef3cac53ccf96db1324c90e081aeec9", func := "loop.example/g01253/laws.FnExactMirrorState", spec := "fnExactMirrorState", inPlace := ["math.archFloor", "math.Float64bits", "math.Float64frombits", "math.archTrunc"], plainKeys := false, apart := false, narrowed := true }
def FnExactMirrorStateUptoSaid : Prop := fnExactMirrorStateUptoRow.holds Try.pinned (OpenSpec.upto fnExactMirrorStateSpec)

/-- 'laws.FnExactSlopesOf', WHERE WHAT IT READS IS OF BULK AT MOST 1048576: true; the input reads as it did. -/
def fnExactSlopesOfUptoRow : OpenClaim := { program := "ytnlfpamdcohiiaa", sum := "d5c1ddbdf879ec582dd0bc273d536d138ef3cac53ccf96db1324c90e081aeec9", func := "loop.example/g01253/laws.FnExactSlopesOf", spec := "fnExactSlopesOf", inPlace := ["math.Float64frombits", "math.Float64bits", "math.archTrunc"], unfollowed := true, recurses := true, plainKeys := false, apart := false, narrowed := true }
def FnExactSlopesOfUptoSaid : Prop := fnExactSlopesOfUptoRow.holds Try.pinned (OpenSpec.upto fnExactSlopesOfSpec)

/-- 'laws.FnExactBackState', WHERE WHAT IT READS IS OF BULK AT MOST 1048576: true; the input reads as it did. -/
def fnExactBackStateUptoRow : OpenClaim := { program := "ytnlfpamdcohiiaa", sum := "d5c1ddbdf879ec582dd0bc273d536d138ef3cac53ccf96db1324c90e081aeec9", func := "loop.example/g01253/laws.FnExactBackState", spec := "fnExactBackState", inPlace := ["math.archFloor", "math.Float64bits", "math.Float64frombits", "math.archTrunc"], plainKeys := false, apart := false, narrowed := true }
def FnExactBackStateUptoSaid : Prop := fnExactBackStateUptoRow.holds Try.pinned (OpenSpec.upto fnExactBackStateSpec)

/-- 'laws.FnExactMapState', WHERE WHAT IT READS IS OF BULK AT MOST 1048576: true; the input reads as it did. -/
def fnExactMapStateUptoRow : OpenClaim := { program := "ytnlfpamdcohiiaa", sum := "d5c1ddbdf879ec582dd0bc273d536d138ef3cac53ccf96db1324c90e081aeec9", func := "loop.example/g01253/laws.FnExactMapState", spec := "fnExactMapState", inPlace := ["math.Float64frombits", "math.archFloor", "math.Float64bits", "math.archTrunc"], plainKeys := false, apart := false, narrowed := true }
def FnExactMapStateUptoSaid : Prop := fnExactMapStateUptoRow.holds Try.pinned (OpenSpec.upto fnExactMapStateSpec)

/-- 'laws.FnExactDampState', WHERE WHAT IT READS IS OF BULK AT MOST 1048576: true; the input reads as it did. -/
def fnExactDampStateUptoRow : OpenClaim := { program := "ytnlfpamdcohiiaa", sum := "d5c1ddbdf879ec582dd0bc273d536d138ef3cac53ccf96db1324c90e081aeec9", func := "loop.example/g01253/laws.FnExactDampState", spec := "fnExactDampState", inPlace := ["math.Float64frombits", "math.archFloor", "math.Float64bits", "math.archTrunc"], plainKeys := false, apart := false, narrowed := true }
def FnExactDampStateUptoSaid : Prop := fnExactDampStateUptoRow.holds Try.pinned (OpenSpec.upto fnExactDampStateSpec)

/-- 'laws.FnExactRestOf', WHERE WHAT IT READS IS OF BULK AT MOST 1048576: true; the input reads as it did. -/
def fnExactRestOfUptoRow : OpenClaim := { program := "ytnlfpamdcohiiaa", sum := "d5c1ddbdf879ec582dd0bc273d536d138ef3cac53ccf96db1324c90e081aeec9", func := "loop.example/g01253/laws.FnExactRestOf", spec := "fnExactRestOf", inPlace := ["math.Float64frombits", "math.archFloor", "math.Float64bits", "math.archTrunc"], plainKeys := false, apart := false, narrowed := true }
def FnExactRestOfUptoSaid : Prop := fnExactRestOfUptoRow.holds Try.pinned (OpenSpec.upto fnExactRestOfSpec)

/-- 'laws.FnExactWindingOf', WHERE WHAT IT READS IS OF BULK AT MOST 1048576: true; the input reads as it did. -/
def fnExactWindingOfUptoRow : OpenClaim := { program := "ytnlfpamdcohiiaa", sum := "d5c1ddbdf879ec582dd0bc273d536d138ef3cac53ccf96db1324c90e081aeec9", func := "loop.example/g01253/laws.FnExactWindingOf", spec := "fnExactWindingOf", inPlace := ["math.Float64frombits", "math.archFloor", "math.Float64bits", "math.archTrunc"], plainKeys := false, apart := false, narrowed := true }
def FnExactWindingOfUptoSaid : Prop := fnExactWindingOfUptoRow.holds Try.pinned (OpenSpec.upto fnExactWindingOfSpec)

/-- 'laws.FnExactBoxesOf', WHERE WHAT IT READS IS OF BULK AT MOST 1048576: true; the input reads as it did. -/
def fnExactBoxesOfUptoRow : OpenClaim := { program := "ytnlfpamdcohiiaa", sum := "d5c1ddbdf879ec582dd0bc273d536d138ef3cac53ccf96db1324c90e081aeec9", func := "loop.example/g01253/laws.FnExactBoxesOf", spec := "fnExactBoxesOf", inPlace := ["math.Float64frombits", "math.archFloor", "math.Float64bits", "math.archTrunc"], plainKeys := false, apart := false, narrowed := true }
def FnExactBoxesOfUptoSaid : Prop := fnExactBoxesOfUptoRow.holds Try.pinned (OpenSpec.upto fnExactBoxesOfSpec)

/-- 'laws.FnExactBasinRow', WHERE WHAT IT READS IS OF BULK AT MOST 1048576: true; the input reads as it did. -/
def fnExactBasinRowUptoRow : OpenClaim := { program := "ytnlfpamdcohiiaa", sum := "d5c1ddbdf879ec582dd0bc273d536d138ef3cac53ccf96db1324c90e081aeec9", func := "loop.example/g01253/laws.FnExactBasinRow", spec := "fnExactBasinRow", inPlace := ["math.archFloor", "math.Float64bits", "math.Float64frombits", "math.archTrunc"], plainKeys := false, apart := false, narrowed := true }
def FnExactBasinRowUptoSaid : Prop := fnExactBasinRowUptoRow.holds Try.pinned (OpenSpec.upto fnExactBasinRowSpec)

/-- 'laws.FnExactOrbitOf', WHERE WHAT IT READS IS OF BULK AT MOST 1048576: true; the input reads as it did. -/
def fnExactOrbitOfUptoRow : OpenClaim := { program := "ytnlfpamdcohiiaa", sum := "d5c1ddbdf879ec582dd0bc273d536d138ef3cac53ccf96db1324c90e081aeec9", func := "loop.example/g01253/laws.FnExactOrbitOf", spec := "fnExactOrbitOf", inPlace := ["math.Float64frombits", "math.archFloor", "math.Float64bits", "math.archTrunc"], plainKeys := false, apart := false, narrowed := true }
def FnExactOrbitOfUptoSaid : Prop := fnExactOrbitOfUptoRow.holds Try.pinned (OpenSpec.upto fnExactOrbitOfSpec)

/-- 'laws.FnExactIsCalmOrbit', WHERE WHAT IT READS IS OF BULK AT MOST 1048576: true; the input reads as it did. -/
def fnExactIsCalmOrbitUptoRow : OpenClaim := { program := "ytnlfpamdcohiiaa", sum := "d5c1ddbdf879ec582dd0bc273d536d138ef3cac53ccf96db1324c90e081aeec9", func := "loop.example/g01253/laws.FnExactIsCalmOrbit", spec := "fnExactIsCalmOrbit", inPlace := ["math.Float64frombits", "math.archFloor", "math.Float64bits", "math.archTrunc"], unfollowed := true, recurses := true, plainKeys := false, apart := false, narrowed := true }
def FnExactIsCalmOrbitUptoSaid : Prop := fnExactIsCalmOrbitUptoRow.holds Try.pinned (OpenSpec.upto fnExactIsCalmOrbitSpec)

/-- 'laws.FnExactBasinsOf', WHERE WHAT IT READS IS OF BULK AT MOST 1048576: true; the input reads as it did. -/
def fnExactBasinsOfUptoRow : OpenClaim := { program := "ytnlfpamdcohiiaa", sum := "d5c1ddbdf879ec582dd0bc273d536d138ef3cac53ccf96db1324c90e081aeec9", func := "loop.example/g01253/laws.FnExactBasinsOf", spec := "fnExactBasinsOf", inPlace := ["math.archFloor", "math.Float64bits", "math.Float64frombits", "math.archTrunc"], plainKeys := false, apart := false, narrowed := true }
def FnExactBasinsOfUptoSaid : Prop := fnExactBasinsOfUptoRow.holds Try.pinned (OpenSpec.upto fnExactBasinsOfSpec)

end Rows
end Go.Proofs.Ytnlfpamdcohiiaa
