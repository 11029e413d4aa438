/-
  No cell of these rows narrows 'for every input' (looked for: loops, veiled, ifaces, maps, wideKeys, modest, calm, conditions, laid).
  DERIVED. THE GIVEN ROWS OF THIS SEAT. 11 by the template 'for every input the law returns true; each argument reads behind the call as it read before'; 0 by the template 'total and deterministic' (their statements: YtpgpjkkncghbhaaTotals.lean).
  GIVEN WITH THE SEED: the statements are not yours to turn. If you find one false, say at which input.
  Laid BY PROGRAM, IN A SANDBOX (cutbox-rows.mjs): the forced cells as the released guide's own fill.sh prints them over the translation 68968dd3ff41a5e5… (all of the seat's roots in one cut). By AI agents, Wed Nov 11 2026. No macro, syntax, notation, axiom, sorry.
-/
import Derived.Test.YtpgpjkkncghbhaaChecked
import GoSem.Claim
import GoSem.ClaimJoined
import GoSem.ClaimMapViews
import Derived.JoinedTies
import Derived.KernelRfl
namespace Go.Proofs.Ytpgpjkkncghbhaa
/- THE CELL 'sum', in the pinned program and in every row, IS THE sha256 OF THE DUMP (.gsa) THAT YtpgpjkkncghbhaaProg.lean LOADS. Nothing in Lean hashes anything: it is a label: what it is worth is what the hold of that sum in a sandbox is worth. -/
noncomputable def Try.pinned : Pinned := { name := "ytpgpjkkncghbhaa", sum := "68968dd3ff41a5e516017830b12d675ed51eb631ca331c58ce395e11f90046d7", checked := Try.checked }
namespace Rows
def none {H : Type} : Left H := { results := [], args := [] }

/-- 'laws.FnExactEvenRow': WHATEVER THE INPUT: true; the input reads as it did. -/
def fnExactEvenRowSpec : ChangeSpec := { name := "fnExactEvenRow", fn := fun _ => fun
  | [d1, d2, d3, d4] => { results := [.lit (.bool true)], args := [d1, d2, d3, d4] }
  | _ => none }
def fnExactEvenRowRow : OpenClaim := { program := "ytpgpjkkncghbhaa", sum := "68968dd3ff41a5e516017830b12d675ed51eb631ca331c58ce395e11f90046d7", func := "loop.example/g01253/laws.FnExactEvenRow", spec := "fnExactEvenRow", unfollowed := true, recurses := true, apart := false }
def FnExactEvenRowSaid : Prop := fnExactEvenRowRow.holds Try.pinned (OpenSpec.ofChange fnExactEvenRowSpec)

/-- ITS FALSE NEIGHBOUR: 'it returns false'. Refute it at one input. -/
def fnExactEvenRowWrong : ChangeSpec := { name := "fnExactEvenRow", fn := fun _ => fun
  | [d1, d2, d3, d4] => { results := [.lit (.bool false)], args := [d1, d2, d3, d4] }
  | _ => none }
def FnExactEvenRowWrongFalsely : Prop := fnExactEvenRowRow.holds Try.pinned (OpenSpec.ofChange fnExactEvenRowWrong)

/-- 'laws.FnExactMomentumOfRow': WHATEVER THE INPUT: true; the input reads as it did. -/
def fnExactMomentumOfRowSpec : ChangeSpec := { name := "fnExactMomentumOfRow", fn := fun _ => fun
  | [d] => { results := [.lit (.bool true)], args := [d] }
  | _ => none }
def fnExactMomentumOfRowRow : OpenClaim := { program := "ytpgpjkkncghbhaa", sum := "68968dd3ff41a5e516017830b12d675ed51eb631ca331c58ce395e11f90046d7", func := "loop.example/g01253/laws.FnExactMomentumOfRow", spec := "fnExactMomentumOfRow", unfollowed := true, recurses := true, apart := false }
def FnExactMomentumOfRowSaid : Prop := fnExactMomentumOfRowRow.holds Try.pinned (OpenSpec.ofChange fnExactMomentumOfRowSpec)

/-- ITS FALSE NEIGHBOUR: 'it returns false'. Refute it at one input. -/
def fnExactMomentumOfRowWrong : ChangeSpec := { name := "fnExactMomentumOfRow", fn := fun _ => fun
  | [d] => { results := [.lit (.bool false)], args := [d] }
  | _ => none }
def FnExactMomentumOfRowWrongFalsely : Prop := fnExactMomentumOfRowRow.holds Try.pinned (OpenSpec.ofChange fnExactMomentumOfRowWrong)

/-- 'laws.FnExactEnergyOfRow': WHATEVER THE INPUT: true; the input reads as it did. -/
def fnExactEnergyOfRowSpec : ChangeSpec := { name := "fnExactEnergyOfRow", fn := fun _ => fun
  | [d] => { results := [.lit (.bool true)], args := [d] }
  | _ => none }
def fnExactEnergyOfRowRow : OpenClaim := { program := "ytpgpjkkncghbhaa", sum := "68968dd3ff41a5e516017830b12d675ed51eb631ca331c58ce395e11f90046d7", func := "loop.example/g01253/laws.FnExactEnergyOfRow", spec := "fnExactEnergyOfRow", unfollowed := true, recurses := true, apart := false }
def FnExactEnergyOfRowSaid : Prop := fnExactEnergyOfRowRow.holds Try.pinned (OpenSpec.ofChange fnExactEnergyOfRowSpec)

/-- ITS FALSE NEIGHBOUR: 'it returns false'. Refute it at one input. -/
def fnExactEnergyOfRowWrong : ChangeSpec := { name := "fnExactEnergyOfRow", fn := fun _ => fun
  | [d] => { results := [.lit (.bool false)], args := [d] }
  | _ => none }
def FnExactEnergyOfRowWrongFalsely : Prop := fnExactEnergyOfRowRow.holds Try.pinned (OpenSpec.ofChange fnExactEnergyOfRowWrong)

/-- 'laws.FnExactCentreOfRow': WHATEVER THE INPUT: true; the input reads as it did. -/
def fnExactCentreOfRowSpec : ChangeSpec := { name := "fnExactCentreOfRow", fn := fun _ => fun
  | [d] => { results := [.lit (.bool true)], args := [d] }
  | _ => none }
def fnExactCentreOfRowRow : OpenClaim := { program := "ytpgpjkkncghbhaa", sum := "68968dd3ff41a5e516017830b12d675ed51eb631ca331c58ce395e11f90046d7", func := "loop.example/g01253/laws.FnExactCentreOfRow", spec := "fnExactCentreOfRow", unfollowed := true, recurses := true, apart := false }
def FnExactCentreOfRowSaid : Prop := fnExactCentreOfRowRow.holds Try.pinned (OpenSpec.ofChange fnExactCentreOfRowSpec)

/-- ITS FALSE NEIGHBOUR: 'it returns false'. Refute it at one input. -/
def fnExactCentreOfRowWrong : ChangeSpec := { name := "fnExactCentreOfRow", fn := fun _ => fun
  | [d] => { results := [.lit (.bool false)], args := [d] }
  | _ => none }
def FnExactCentreOfRowWrongFalsely : Prop := fnExactCentreOfRowRow.holds Try.pinned (OpenSpec.ofChange fnExactCentreOfRowWrong)

/-- 'laws.FnExactSpeedsOfRow': WHATEVER THE INPUT: true; the input reads as it did. -/
def fnExactSpeedsOfRowSpec : ChangeSpec := { name := "fnExactSpeedsOfRow", fn := fun _ => fun
  | [d] => { results := [.lit (.bool true)], args := [d] }
  | _ => none }
def fnExactSpeedsOfRowRow : OpenClaim := { program := "ytpgpjkkncghbhaa", sum := "68968dd3ff41a5e516017830b12d675ed51eb631ca331c58ce395e11f90046d7", func := "loop.example/g01253/laws.FnExactSpeedsOfRow", spec := "fnExactSpeedsOfRow", unfollowed := true, recurses := true, apart := false }
def FnExactSpeedsOfRowSaid : Prop := fnExactSpeedsOfRowRow.holds Try.pinned (OpenSpec.ofChange fnExactSpeedsOfRowSpec)

/-- ITS FALSE NEIGHBOUR: 'it returns false'. Refute it at one input. -/
def fnExactSpeedsOfRowWrong : ChangeSpec := { name := "fnExactSpeedsOfRow", fn := fun _ => fun
  | [d] => { results := [.lit (.bool false)], args := [d] }
  | _ => none }
def FnExactSpeedsOfRowWrongFalsely : Prop := fnExactSpeedsOfRowRow.holds Try.pinned (OpenSpec.ofChange fnExactSpeedsOfRowWrong)

/-- 'laws.FnExactBackRow': WHATEVER THE INPUT: true; the input reads as it did. -/
def fnExactBackRowSpec : ChangeSpec := { name := "fnExactBackRow", fn := fun _ => fun
  | [d] => { results := [.lit (.bool true)], args := [d] }
  | _ => none }
def fnExactBackRowRow : OpenClaim := { program := "ytpgpjkkncghbhaa", sum := "68968dd3ff41a5e516017830b12d675ed51eb631ca331c58ce395e11f90046d7", func := "loop.example/g01253/laws.FnExactBackRow", spec := "fnExactBackRow", unfollowed := true, recurses := true, apart := false }
def FnExactBackRowSaid : Prop := fnExactBackRowRow.holds Try.pinned (OpenSpec.ofChange fnExactBackRowSpec)

/-- ITS FALSE NEIGHBOUR: 'it returns false'. Refute it at one input. -/
def fnExactBackRowWrong : ChangeSpec := { name := "fnExactBackRow", fn := fun _ => fun
  | [d] => { results := [.lit (.bool false)], args := [d] }
  | _ => none }
def FnExactBackRowWrongFalsely : Prop := fnExactBackRowRow.holds Try.pinned (OpenSpec.ofChange fnExactBackRowWrong)

/-- 'laws.FnExactMirrorRow': WHATEVER THE INPUT: true; the input reads as it did. -/
def fnExactMirrorRowSpec : ChangeSpec := { name := "fnExactMirrorRow", fn := fun _ => fun
  | [d] => { results := [.lit (.bool true)], args := [d] }
  | _ => none }
def fnExactMirrorRowRow : OpenClaim := { program := "ytpgpjkkncghbhaa", sum := "68968dd3ff41a5e516017830b12d675ed51eb631ca331c58ce395e11f90046d7", func := "loop.example/g01253/laws.FnExactMirrorRow", spec := "fnExactMirrorRow", unfollowed := true, recurses := true, apart := false }
def FnExactMirrorRowSaid : Prop := fnExactMirrorRowRow.holds Try.pinned (OpenSpec.ofChange fnExactMirrorRowSpec)

/-- ITS FALSE NEIGHBOUR: 'it returns false'. Refute it at one input. -/
def fnExactMirrorRowWrong : ChangeSpec := { name := "fnExactMirrorRow", fn := fun _ => fun
  | [d] => { results := [.lit (.bool false)], args := [d] }
  | _ => none }
def FnExactMirrorRowWrongFalsely : Prop := fnExactMirrorRowRow.holds Try.pinned (OpenSpec.ofChange fnExactMirrorRowWrong)

/-- 'laws.FnExactSetBall': WHATEVER THE INPUT: true; the input reads as it did. -/
def fnExactSetBallSpec : ChangeSpec := { name := "fnExactSetBall", fn := fun _ => fun
  | [d1, d2, d3] => { results := [.lit (.bool true)], args := [d1, d2, d3] }
  | _ => none }
def fnExactSetBallRow : OpenClaim := { program := "ytpgpjkkncghbhaa", sum := "68968dd3ff41a5e516017830b12d675ed51eb631ca331c58ce395e11f90046d7", func := "loop.example/g01253/laws.FnExactSetBall", spec := "fnExactSetBall", unfollowed := true, recurses := true, apart := false }
def FnExactSetBallSaid : Prop := fnExactSetBallRow.holds Try.pinned (OpenSpec.ofChange fnExactSetBallSpec)

/-- ITS FALSE NEIGHBOUR: 'it returns false'. Refute it at one input. -/
def fnExactSetBallWrong : ChangeSpec := { name := "fnExactSetBall", fn := fun _ => fun
  | [d1, d2, d3] => { results := [.lit (.bool false)], args := [d1, d2, d3] }
  | _ => none }
def FnExactSetBallWrongFalsely : Prop := fnExactSetBallRow.holds Try.pinned (OpenSpec.ofChange fnExactSetBallWrong)

/-- 'laws.FnExactPushRow': WHATEVER THE INPUT: true; the input reads as it did. -/
def fnExactPushRowSpec : ChangeSpec := { name := "fnExactPushRow", fn := fun _ => fun
  | [d1, d2] => { results := [.lit (.bool true)], args := [d1, d2] }
  | _ => none }
def fnExactPushRowRow : OpenClaim := { program := "ytpgpjkkncghbhaa", sum := "68968dd3ff41a5e516017830b12d675ed51eb631ca331c58ce395e11f90046d7", func := "loop.example/g01253/laws.FnExactPushRow", spec := "fnExactPushRow", unfollowed := true, recurses := true, apart := false }
def FnExactPushRowSaid : Prop := fnExactPushRowRow.holds Try.pinned (OpenSpec.ofChange fnExactPushRowSpec)

/-- ITS FALSE NEIGHBOUR: 'it returns false'. Refute it at one input. -/
def fnExactPushRowWrong : ChangeSpec := { name := "fnExactPushRow", fn := fun _ => fun
  | [d1, d2] => { results := [.lit (.bool false)], args := [d1, d2] }
  | _ => none }
def FnExactPushRowWrongFalsely : Prop := fnExactPushRowRow.holds Try.pinned (OpenSpec.ofChange fnExactPushRowWrong)

/-- 'laws.FnExactMoveRow': WHATEVER THE INPUT: true; the input reads as it did. -/
def fnExactMoveRowSpec : ChangeSpec := { name := "fnExactMoveRow", fn := fun _ => fun
  | [d1, d2] => { results := [.lit (.bool true)], args := [d1, d2] }
  | _ => none }
def fnExactMoveRowRow : OpenClaim := { program := "ytpgpjkkncghbhaa", sum := "68968dd3ff41a5e516017830b12d675ed51eb631ca331c58ce395e11f90046d7", func := "loop.example/g01253/laws.FnExactMoveRow", spec := "fnExactMoveRow", unfollowed := true, recurses := true, apart := false }
def FnExactMoveRowSaid : Prop := fnExactMoveRowRow.holds Try.pinned (OpenSpec.ofChange fnExactMoveRowSpec)

/-- ITS FALSE NEIGHBOUR: 'it returns false'. Refute it at one input. -/
def fnExactMoveRowWrong : ChangeSpec := { name := "fnExactMoveRow", fn := fun _ => fun
  | [d1, d2] => { results := [.lit (.bool false)], args := [d1, d2] }
  | _ => none }
def FnExactMoveRowWrongFalsely : Prop := fnExactMoveRowRow.holds Try.pinned (OpenSpec.ofChange fnExactMoveRowWrong)

/-- 'laws.FnExactMeetBalls': WHATEVER THE INPUT: true; the input reads as it did. -/
def fnExactMeetBallsSpec : ChangeSpec := { name := "fnExactMeetBalls", fn := fun _ => fun
  | [d1, d2] => { results := [.lit (.bool true)], args := [d1, d2] }
  | _ => none }
def fnExactMeetBallsRow : OpenClaim := { program := "ytpgpjkkncghbhaa", sum := "68968dd3ff41a5e516017830b12d675ed51eb631ca331c58ce395e11f90046d7", func := "loop.example/g01253/laws.FnExactMeetBalls", spec := "fnExactMeetBalls", unfollowed := true, recurses := true, apart := false }
def FnExactMeetBallsSaid : Prop := fnExactMeetBallsRow.holds Try.pinned (OpenSpec.ofChange fnExactMeetBallsSpec)

/-- ITS FALSE NEIGHBOUR: 'it returns false'. Refute it at one input. -/
def fnExactMeetBallsWrong : ChangeSpec := { name := "fnExactMeetBalls", fn := fun _ => fun
  | [d1, d2] => { results := [.lit (.bool false)], args := [d1, d2] }
  | _ => none }
def FnExactMeetBallsWrongFalsely : Prop := fnExactMeetBallsRow.holds Try.pinned (OpenSpec.ofChange fnExactMeetBallsWrong)

/- THE SECOND FORM. 'bulk': how many values and letters a reading holds, each counted each time it is reached (what is shared counts as often as it is met; a slice's spare places count too). A statement '..UptoSaid' is the law's where the arguments, and the package variables that the reading takes, are together of bulk at most 1048576: NARROWER than '..Said'. Prove '..Said' where nothing that the law and all that it calls make is longer than what came in: it says more and counts as full. Else prove '..UptoSaid'. A law counts once. -/
mutual
def uptoBulk {H : Type} : DataW H → Nat
  | .lit (.string bytes) => bytes.length + 1
  | .lit _ => 1
  | .nil => 1
  | .ptr d => uptoBulk d + 1
  | .slice elems spare => uptoBulkAll elems + uptoBulkAll spare + 1
  | .agg parts => uptoBulkAll parts + 1
  | .iface _ d => uptoBulk d + 1
  | .map entries => uptoBulkEntries entries + 1
  | .held _ => 1
def uptoBulkAll {H : Type} : List (DataW H) → Nat
  | [] => 0
  | d :: r => uptoBulk d + uptoBulkAll r
def uptoBulkEntries {H : Type} : List (Lit × DataW H) → Nat
  | [] => 0
  | x :: r => uptoBulkEntry x + uptoBulkEntries r
def uptoBulkEntry {H : Type} : Lit × DataW H → Nat
  | (.string bytes, d) => bytes.length + uptoBulk d + 1
  | (_, d) => uptoBulk d + 1
 end
def uptoSmall : (H : Type) → List (DataW H) → Bool := fun _ ds => decide (uptoBulkAll ds ≤ 1048576)
def OpenSpec.upto (s : _root_.Go.ChangeSpec) : _root_.Go.OpenSpec := { _root_.Go.OpenSpec.ofChange s with cond := some uptoSmall }

/-- 'laws.FnExactEvenRow', WHERE WHAT IT READS IS OF BULK AT MOST 1048576: true; the input reads as it did. -/
def fnExactEvenRowUptoRow : OpenClaim := { program := "ytpgpjkkncghbhaa", sum := "68968dd3ff41a5e516017830b12d675ed51eb631ca331c58ce395e11f90046d7", func := "loop.example/g01253/laws.FnExactEvenRow", spec := "fnExactEvenRow", unfollowed := true, recurses := true, apart := false, narrowed := true }
def FnExactEvenRowUptoSaid : Prop := fnExactEvenRowUptoRow.holds Try.pinned (OpenSpec.upto fnExactEvenRowSpec)

/-- 'laws.FnExactMomentumOfRow', WHERE WHAT IT READS IS OF BULK AT MOST 1048576: true; the input reads as it did. -/
def fnExactMomentumOfRowUptoRow : OpenClaim := { program := "ytpgpjkkncghbhaa", sum := "68968dd3ff41a5e516017830b12d675ed51eb631ca331c58ce395e11f90046d7", func := "loop.example/g01253/laws.FnExactMomentumOfRow", spec := "fnExactMomentumOfRow", unfollowed := true, recurses := true, apart := false, narrowed := true }
def FnExactMomentumOfRowUptoSaid : Prop := fnExactMomentumOfRowUptoRow.holds Try.pinned (OpenSpec.upto fnExactMomentumOfRowSpec)

/-- 'laws.FnExactEnergyOfRow', WHERE WHAT IT READS IS OF BULK AT MOST 1048576: true; the input reads as it did. -/
def fnExactEnergyOfRowUptoRow : OpenClaim := { program := "ytpgpjkkncghbhaa", sum := "68968dd3ff41a5e516017830b12d675ed51eb631ca331c58ce395e11f90046d7", func := "loop.example/g01253/laws.FnExactEnergyOfRow", spec := "fnExactEnergyOfRow", unfollowed := true, recurses := true, apart := false, narrowed := true }
def FnExactEnergyOfRowUptoSaid : Prop := fnExactEnergyOfRowUptoRow.holds Try.pinned (OpenSpec.upto fnExactEnergyOfRowSpec)

/-- 'laws.FnExactCentreOfRow', WHERE WHAT IT READS IS OF BULK AT MOST 1048576: true; the input reads as it did. -/
def fnExactCentreOfRowUptoRow : OpenClaim := { program := "ytpgpjkkncghbhaa", sum := "68968dd3ff41a5e516017830b12d675ed51eb631ca331c58ce395e11f90046d7", func := "loop.example/g01253/laws.FnExactCentreOfRow", spec := "fnExactCentreOfRow", unfollowed := true, recurses := true, apart := false, narrowed := true }
def FnExactCentreOfRowUptoSaid : Prop := fnExactCentreOfRowUptoRow.holds Try.pinned (OpenSpec.upto fnExactCentreOfRowSpec)

/-- 'laws.FnExactSpeedsOfRow', WHERE WHAT IT READS IS OF BULK AT MOST 1048576: true; the input reads as it did. -/
def fnExactSpeedsOfRowUptoRow : OpenClaim := { program := "ytpgpjkkncghbhaa", sum := "68968dd3ff41a5e516017830b12d675ed51eb631ca331c58ce395e11f90046d7", func := "loop.example/g01253/laws.FnExactSpeedsOfRow", spec := "fnExactSpeedsOfRow", unfollowed := true, recurses := true, apart := false, narrowed := true }
def FnExactSpeedsOfRowUptoSaid : Prop := fnExactSpeedsOfRowUptoRow.holds Try.pinned (OpenSpec.upto fnExactSpeedsOfRowSpec)

/-- 'laws.FnExactBackRow', WHERE WHAT IT READS IS OF BULK AT MOST 1048576: true; the input reads as it did. -/
def fnExactBackRowUptoRow : OpenClaim := { program := "ytpgpjkkncghbhaa", sum := "68968dd3ff41a5e516017830b12d675ed51eb631ca331c58ce395e11f90046d7", func := "loop.example/g01253/laws.FnExactBackRow", spec := "fnExactBackRow", unfollowed := true, recurses := true, apart := false, narrowed := true }
def FnExactBackRowUptoSaid : Prop := fnExactBackRowUptoRow.holds Try.pinned (OpenSpec.upto fnExactBackRowSpec)

/-- 'laws.FnExactMirrorRow', WHERE WHAT IT READS IS OF BULK AT MOST 1048576: true; the input reads as it did. -/
def fnExactMirrorRowUptoRow : OpenClaim := { program := "ytpgpjkkncghbhaa", sum := "68968dd3ff41a5e516017830b12d675ed51eb631ca331c58ce395e11f90046d7", func := "loop.example/g01253/laws.FnExactMirrorRow", spec := "fnExactMirrorRow", unfollowed := true, recurses := true, apart := false, narrowed := true }
def FnExactMirrorRowUptoSaid : Prop := fnExactMirrorRowUptoRow.holds Try.pinned (OpenSpec.upto fnExactMirrorRowSpec)

/-- 'laws.FnExactSetBall', WHERE WHAT IT READS IS OF BULK AT MOST 1048576: true; the input reads as it did. -/
def fnExactSetBallUptoRow : OpenClaim := { program := "ytpgpjkkncghbhaa", sum := "68968dd3ff41a5e516017830b12d675ed51eb631ca331c58ce395e11f90046d7", func := "loop.example/g01253/laws.FnExactSetBall", spec := "fnExactSetBall", unfollowed := true, recurses := true, apart := false, narrowed := true }
def FnExactSetBallUptoSaid : Prop := fnExactSetBallUptoRow.holds Try.pinned (OpenSpec.upto fnExactSetBallSpec)

/-- 'laws.FnExactPushRow', WHERE WHAT IT READS IS OF BULK AT MOST 1048576: true; the input reads as it did. -/
def fnExactPushRowUptoRow : OpenClaim := { program := "ytpgpjkkncghbhaa", sum := "68968dd3ff41a5e516017830b12d675ed51eb631ca331c58ce395e11f90046d7", func := "loop.example/g01253/laws.FnExactPushRow", spec := "fnExactPushRow", unfollowed := true, recurses := true, apart := false, narrowed := true }
def FnExactPushRowUptoSaid : Prop := fnExactPushRowUptoRow.holds Try.pinned (OpenSpec.upto fnExactPushRowSpec)

/-- 'laws.FnExactMoveRow', WHERE WHAT IT READS IS OF BULK AT MOST 1048576: true; the input reads as it did. -/
def fnExactMoveRowUptoRow : OpenClaim := { program := "ytpgpjkkncghbhaa", sum := "68968dd3ff41a5e516017830b12d675ed51eb631ca331c58ce395e11f90046d7", func := "loop.example/g01253/laws.FnExactMoveRow", spec := "fnExactMoveRow", unfollowed := true, recurses := true, apart := false, narrowed := true }
def FnExactMoveRowUptoSaid : Prop := fnExactMoveRowUptoRow.holds Try.pinned (OpenSpec.upto fnExactMoveRowSpec)

/-- 'laws.FnExactMeetBalls', WHERE WHAT IT READS IS OF BULK AT MOST 1048576: true; the input reads as it did. -/
def fnExactMeetBallsUptoRow : OpenClaim := { program := "ytpgpjkkncghbhaa", sum := "68968dd3ff41a5e516017830b12d675ed51eb631ca331c58ce395e11f90046d7", func := "loop.example/g01253/laws.FnExactMeetBalls", spec := "fnExactMeetBalls", unfollowed := true, recurses := true, apart := false, narrowed := true }
def FnExactMeetBallsUptoSaid : Prop := fnExactMeetBallsUptoRow.holds Try.pinned (OpenSpec.upto fnExactMeetBallsSpec)

end Rows
end Go.Proofs.Ytpgpjkkncghbhaa
