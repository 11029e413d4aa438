/-
  No cell of these rows narrows 'for every input' (looked for: loops, veiled, ifaces, maps, wideKeys, modest, calm, conditions, laid).
  DERIVED. THE GIVEN ROWS OF THIS SEAT. 3 by the template 'for every input the law returns true; each argument reads behind the call as it read before'; 0 by the template 'total and deterministic' (their statements: YtodilhnddnoekaaTotals.lean).
  GIVEN WITH THE SEED: the statements are not yours to turn. If you find one false, say at which input.
  Laid BY PROGRAM, IN A SANDBOX (cutbox-rows.mjs): the forced cells as the released guide's own fill.sh prints them over the translation 11711a7d1c8ccba7… (all of the seat's roots in one cut). By AI agents, Wed Nov 11 2026. No macro, syntax, notation, axiom, sorry.
-/
import Derived.Test.YtodilhnddnoekaaChecked
import GoSem.Claim
import GoSem.ClaimJoined
import GoSem.ClaimMapViews
import Derived.JoinedTies
import Derived.KernelRfl
namespace Go.Proofs.Ytodilhnddnoekaa
/- THE CELL 'sum', in the pinned program and in every row, IS THE sha256 OF THE DUMP (.gsa) THAT YtodilhnddnoekaaProg.lean LOADS. Nothing in Lean hashes anything: it is a label: what it is worth is what the hold of that sum in a sandbox is worth. -/
noncomputable def Try.pinned : Pinned := { name := "ytodilhnddnoekaa", sum := "11711a7d1c8ccba768d6d809282ff8e811c658836c21911a93bc806b5509fb0f", checked := Try.checked }
namespace Rows
def none {H : Type} : Left H := { results := [], args := [] }

/-- 'laws.FnExactStepChain': WHATEVER THE INPUT: true; the input reads as it did. -/
def fnExactStepChainSpec : ChangeSpec := { name := "fnExactStepChain", fn := fun _ => fun
  | [d1, d2, d3, d4, d5] => { results := [.lit (.bool true)], args := [d1, d2, d3, d4, d5] }
  | _ => none }
def fnExactStepChainRow : OpenClaim := { program := "ytodilhnddnoekaa", sum := "11711a7d1c8ccba768d6d809282ff8e811c658836c21911a93bc806b5509fb0f", func := "loop.example/g01253/laws.FnExactStepChain", spec := "fnExactStepChain", inPlace := ["math.sqrt"], unfollowed := true, recurses := true, apart := false }
def FnExactStepChainSaid : Prop := fnExactStepChainRow.holds Try.pinned (OpenSpec.ofChange fnExactStepChainSpec)

/-- ITS FALSE NEIGHBOUR: 'it returns false'. Refute it at one input. -/
def fnExactStepChainWrong : ChangeSpec := { name := "fnExactStepChain", fn := fun _ => fun
  | [d1, d2, d3, d4, d5] => { results := [.lit (.bool false)], args := [d1, d2, d3, d4, d5] }
  | _ => none }
def FnExactStepChainWrongFalsely : Prop := fnExactStepChainRow.holds Try.pinned (OpenSpec.ofChange fnExactStepChainWrong)

/-- 'laws.FnExactHangChain': WHATEVER THE INPUT: true; the input reads as it did. -/
def fnExactHangChainSpec : ChangeSpec := { name := "fnExactHangChain", fn := fun _ => fun
  | [d1, d2, d3, d4] => { results := [.lit (.bool true)], args := [d1, d2, d3, d4] }
  | _ => none }
def fnExactHangChainRow : OpenClaim := { program := "ytodilhnddnoekaa", sum := "11711a7d1c8ccba768d6d809282ff8e811c658836c21911a93bc806b5509fb0f", func := "loop.example/g01253/laws.FnExactHangChain", spec := "fnExactHangChain", inPlace := ["math.sqrt"], unfollowed := true, recurses := true, apart := false }
def FnExactHangChainSaid : Prop := fnExactHangChainRow.holds Try.pinned (OpenSpec.ofChange fnExactHangChainSpec)

/-- ITS FALSE NEIGHBOUR: 'it returns false'. Refute it at one input. -/
def fnExactHangChainWrong : ChangeSpec := { name := "fnExactHangChain", fn := fun _ => fun
  | [d1, d2, d3, d4] => { results := [.lit (.bool false)], args := [d1, d2, d3, d4] }
  | _ => none }
def FnExactHangChainWrongFalsely : Prop := fnExactHangChainRow.holds Try.pinned (OpenSpec.ofChange fnExactHangChainWrong)

/-- 'laws.FnExactRunChain': WHATEVER THE INPUT: true; the input reads as it did. -/
def fnExactRunChainSpec : ChangeSpec := { name := "fnExactRunChain", fn := fun _ => fun
  | [d1, d2, d3, d4, d5, d6] => { results := [.lit (.bool true)], args := [d1, d2, d3, d4, d5, d6] }
  | _ => none }
def fnExactRunChainRow : OpenClaim := { program := "ytodilhnddnoekaa", sum := "11711a7d1c8ccba768d6d809282ff8e811c658836c21911a93bc806b5509fb0f", func := "loop.example/g01253/laws.FnExactRunChain", spec := "fnExactRunChain", inPlace := ["math.sqrt"], unfollowed := true, recurses := true, apart := false }
def FnExactRunChainSaid : Prop := fnExactRunChainRow.holds Try.pinned (OpenSpec.ofChange fnExactRunChainSpec)

/-- ITS FALSE NEIGHBOUR: 'it returns false'. Refute it at one input. -/
def fnExactRunChainWrong : ChangeSpec := { name := "fnExactRunChain", fn := fun _ => fun
  | [d1, d2, d3, d4, d5, d6] => { results := [.lit (.bool false)], args := [d1, d2, d3, d4, d5, d6] }
  | _ => none }
def FnExactRunChainWrongFalsely : Prop := fnExactRunChainRow.holds Try.pinned (OpenSpec.ofChange fnExactRunChainWrong)

/- THE SECOND FORM. 'bulk': how many values and letters a reading holds, each counted each time it is reached (what is shared counts as often as it is met; a slice's spare places count too). A statement '..UptoSaid' is the law's where the arguments, and the package variables that the reading takes, are together of bulk at most 1048576: NARROWER than '..Said'. Prove '..Said' where nothing that the law and all that it calls make is longer than what came in: it says more and counts as full. Else prove '..UptoSaid'. A law counts once. -/
mutual
def uptoBulk {H : Type} : DataW H → Nat
  | .lit (.string bytes) => bytes.length + 1
  | .lit _ => 1
  | .nil => 1
  | .ptr d => uptoBulk d + 1
  | .slice elems spare => uptoBulkAll elems + uptoBulkAll spare + 1
  | .agg parts => uptoBulkAll parts + 1
  | .iface _ d => uptoBulk d + 1
  | .map entries => uptoBulkEntries entries + 1
  | .held _ => 1
def uptoBulkAll {H : Type} : List (DataW H) → Nat
  | [] => 0
  | d :: r => uptoBulk d + uptoBulkAll r
def uptoBulkEntries {H : Type} : List (Lit × DataW H) → Nat
  | [] => 0
  | x :: r => uptoBulkEntry x + uptoBulkEntries r
def uptoBulkEntry {H : Type} : Lit × DataW H → Nat
  | (.string bytes, d) => bytes.length + uptoBulk d + 1
  | (_, d) => uptoBulk d + 1
 end
def uptoSmall : (H : Type) → List (DataW H) → Bool := fun _ ds => decide (uptoBulkAll ds ≤ 1048576)
def OpenSpec.upto (s : _root_.Go.ChangeSpec) : _root_.Go.OpenSpec := { _root_.Go.OpenSpec.ofChange s with cond := some uptoSmall }

/-- 'laws.FnExactStepChain', WHERE WHAT IT READS IS OF BULK AT MOST 1048576: true; the input reads as it did. -/
def fnExactStepChainUptoRow : OpenClaim := { program := "ytodilhnddnoekaa", sum := "11711a7d1c8ccba768d6d809282ff8e811c658836c21911a93bc806b5509fb0f", func := "loop.example/g01253/laws.FnExactStepChain", spec := "fnExactStepChain", inPlace := ["math.sqrt"], unfollowed := true, recurses := true, apart := false, narrowed := true }
def FnExactStepChainUptoSaid : Prop := fnExactStepChainUptoRow.holds Try.pinned (OpenSpec.upto fnExactStepChainSpec)

/-- 'laws.FnExactHangChain', WHERE WHAT IT READS IS OF BULK AT MOST 1048576: true; the input reads as it did. -/
def fnExactHangChainUptoRow : OpenClaim := { program := "ytodilhnddnoekaa", sum := "11711a7d1c8ccba768d6d809282ff8e811c658836c21911a93bc806b5509fb0f", func := "loop.example/g01253/laws.FnExactHangChain", spec := "fnExactHangChain", inPlace := ["math.sqrt"], unfollowed := true, recurses := true, apart := false, narrowed := true }
def FnExactHangChainUptoSaid : Prop := fnExactHangChainUptoRow.holds Try.pinned (OpenSpec.upto fnExactHangChainSpec)

/-- 'laws.FnExactRunChain', WHERE WHAT IT READS IS OF BULK AT MOST 1048576: true; the input reads as it did. -/
def fnExactRunChainUptoRow : OpenClaim := { program := "ytodilhnddnoekaa", sum := "11711a7d1c8ccba768d6d809282ff8e811c658836c21911a93bc806b5509fb0f", func := "loop.example/g01253/laws.FnExactRunChain", spec := "fnExactRunChain", inPlace := ["math.sqrt"], unfollowed := true, recurses := true, apart := false, narrowed := true }
def FnExactRunChainUptoSaid : Prop := fnExactRunChainUptoRow.holds Try.pinned (OpenSpec.upto fnExactRunChainSpec)

end Rows
end Go.Proofs.Ytodilhnddnoekaa
