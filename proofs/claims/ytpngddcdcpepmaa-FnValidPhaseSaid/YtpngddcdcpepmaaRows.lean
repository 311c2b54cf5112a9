/-
  No cell of these rows narrows 'for every input' (looked for: loops, veiled, ifaces, maps, wideKeys, modest, calm, conditions, laid).
  DERIVED. THE GIVEN ROWS OF THIS SEAT. 4 by the template 'for every input the law returns true; each argument reads behind the call as it read before'; 0 by the template 'total and deterministic' (their statements: YtpngddcdcpepmaaTotals.lean).
  GIVEN WITH THE SEED: the statements are not yours to turn. If you find one false, say at which input.
  Laid BY PROGRAM, IN A SANDBOX (cutbox-rows.mjs): the forced cells as the released guide's own fill.sh prints them over the translation 0bbbc838fe6a94de… (all of the seat's roots in one cut). By AI agents, Wed Nov 11 2026. No macro, syntax, notation, axiom, sorry.
-/
import Derived.Test.YtpngddcdcpepmaaChecked
import GoSem.Claim
import GoSem.ClaimJoined
import GoSem.ClaimMapViews
import Derived.JoinedTies
import Derived.KernelRfl
namespace Go.Proofs.Ytpngddcdcpepmaa
/- THE CELL 'sum', in the pinned program and in every row, IS THE sha256 OF THE DUMP (.gsa) THAT YtpngddcdcpepmaaProg.lean LOADS. Nothing in Lean hashes anything: it is a label: what it is worth is what the hold of that sum in a sandbox is worth. -/
noncomputable def Try.pinned : Pinned := { name := "ytpngddcdcpepmaa", sum := "0bbbc838fe6a94de954f37437149a055da349d3854c8ff7220ff78d5c26d5878", checked := Try.checked }
namespace Rows
def none {H : Type} : Left H := { results := [], args := [] }

/-- 'laws.FnExactValidConflicts': WHATEVER THE INPUT: true; the input reads as it did. -/
def fnExactValidConflictsSpec : ChangeSpec := { name := "fnExactValidConflicts", fn := fun _ => fun
  | [d] => { results := [.lit (.bool true)], args := [d] }
  | _ => none }
def fnExactValidConflictsRow : OpenClaim := { program := "ytpngddcdcpepmaa", sum := "0bbbc838fe6a94de954f37437149a055da349d3854c8ff7220ff78d5c26d5878", func := "loop.example/liftsandlights/laws.FnExactValidConflicts", spec := "fnExactValidConflicts", apart := false }
def FnExactValidConflictsSaid : Prop := fnExactValidConflictsRow.holds Try.pinned (OpenSpec.ofChange fnExactValidConflictsSpec)

/-- ITS FALSE NEIGHBOUR: 'it returns false'. Refute it at one input. -/
def fnExactValidConflictsWrong : ChangeSpec := { name := "fnExactValidConflicts", fn := fun _ => fun
  | [d] => { results := [.lit (.bool false)], args := [d] }
  | _ => none }
def FnExactValidConflictsWrongFalsely : Prop := fnExactValidConflictsRow.holds Try.pinned (OpenSpec.ofChange fnExactValidConflictsWrong)

/-- 'laws.FnValidConflicts': WHATEVER THE INPUT: true; the input reads as it did. -/
def fnValidConflictsSpec : ChangeSpec := { name := "fnValidConflicts", fn := fun _ => fun
  | [d] => { results := [.lit (.bool true)], args := [d] }
  | _ => none }
def fnValidConflictsRow : OpenClaim := { program := "ytpngddcdcpepmaa", sum := "0bbbc838fe6a94de954f37437149a055da349d3854c8ff7220ff78d5c26d5878", func := "loop.example/liftsandlights/laws.FnValidConflicts", spec := "fnValidConflicts", apart := false }
def FnValidConflictsSaid : Prop := fnValidConflictsRow.holds Try.pinned (OpenSpec.ofChange fnValidConflictsSpec)

/-- ITS FALSE NEIGHBOUR: 'it returns false'. Refute it at one input. -/
def fnValidConflictsWrong : ChangeSpec := { name := "fnValidConflicts", fn := fun _ => fun
  | [d] => { results := [.lit (.bool false)], args := [d] }
  | _ => none }
def FnValidConflictsWrongFalsely : Prop := fnValidConflictsRow.holds Try.pinned (OpenSpec.ofChange fnValidConflictsWrong)

/-- 'laws.FnExactValidPhase': WHATEVER THE INPUT: true; the input reads as it did. -/
def fnExactValidPhaseSpec : ChangeSpec := { name := "fnExactValidPhase", fn := fun _ => fun
  | [d1, d2] => { results := [.lit (.bool true)], args := [d1, d2] }
  | _ => none }
def fnExactValidPhaseRow : OpenClaim := { program := "ytpngddcdcpepmaa", sum := "0bbbc838fe6a94de954f37437149a055da349d3854c8ff7220ff78d5c26d5878", func := "loop.example/liftsandlights/laws.FnExactValidPhase", spec := "fnExactValidPhase", apart := false }
def FnExactValidPhaseSaid : Prop := fnExactValidPhaseRow.holds Try.pinned (OpenSpec.ofChange fnExactValidPhaseSpec)

/-- ITS FALSE NEIGHBOUR: 'it returns false'. Refute it at one input. -/
def fnExactValidPhaseWrong : ChangeSpec := { name := "fnExactValidPhase", fn := fun _ => fun
  | [d1, d2] => { results := [.lit (.bool false)], args := [d1, d2] }
  | _ => none }
def FnExactValidPhaseWrongFalsely : Prop := fnExactValidPhaseRow.holds Try.pinned (OpenSpec.ofChange fnExactValidPhaseWrong)

/-- 'laws.FnValidPhase': WHATEVER THE INPUT: true; the input reads as it did. -/
def fnValidPhaseSpec : ChangeSpec := { name := "fnValidPhase", fn := fun _ => fun
  | [d] => { results := [.lit (.bool true)], args := [d] }
  | _ => none }
def fnValidPhaseRow : OpenClaim := { program := "ytpngddcdcpepmaa", sum := "0bbbc838fe6a94de954f37437149a055da349d3854c8ff7220ff78d5c26d5878", func := "loop.example/liftsandlights/laws.FnValidPhase", spec := "fnValidPhase", apart := false }
def FnValidPhaseSaid : Prop := fnValidPhaseRow.holds Try.pinned (OpenSpec.ofChange fnValidPhaseSpec)

/-- ITS FALSE NEIGHBOUR: 'it returns false'. Refute it at one input. -/
def fnValidPhaseWrong : ChangeSpec := { name := "fnValidPhase", fn := fun _ => fun
  | [d] => { results := [.lit (.bool false)], args := [d] }
  | _ => none }
def FnValidPhaseWrongFalsely : Prop := fnValidPhaseRow.holds Try.pinned (OpenSpec.ofChange fnValidPhaseWrong)

/- THE SECOND FORM. 'bulk': how many values and letters a reading holds, each counted each time it is reached (what is shared counts as often as it is met; a slice's spare places count too). A statement '..UptoSaid' is the law's where the arguments, and the package variables that the reading takes, are together of bulk at most 1048576: NARROWER than '..Said'. Prove '..Said' where nothing that the law and all that it calls make is longer than what came in: it says more and counts as full. Else prove '..UptoSaid'. A law counts once. -/
mutual
def uptoBulk {H : Type} : DataW H → Nat
  | .lit (.string bytes) => bytes.length + 1
  | .lit _ => 1
  | .nil => 1
  | .ptr d => uptoBulk d + 1
  | .slice elems spare => uptoBulkAll elems + uptoBulkAll spare + 1
  | .agg parts => uptoBulkAll parts + 1
  | .iface _ d => uptoBulk d + 1
  | .map entries => uptoBulkEntries entries + 1
  | .held _ => 1
def uptoBulkAll {H : Type} : List (DataW H) → Nat
  | [] => 0
  | d :: r => uptoBulk d + uptoBulkAll r
def uptoBulkEntries {H : Type} : List (Lit × DataW H) → Nat
  | [] => 0
  | x :: r => uptoBulkEntry x + uptoBulkEntries r
def uptoBulkEntry {H : Type} : Lit × DataW H → Nat
  | (.string bytes, d) => bytes.length + uptoBulk d + 1
  | (_, d) => uptoBulk d + 1
 end
def uptoSmall : (H : Type) → List (DataW H) → Bool := fun _ ds => decide (uptoBulkAll ds ≤ 1048576)
def OpenSpec.upto (s : _root_.Go.ChangeSpec) : _root_.Go.OpenSpec := { _root_.Go.OpenSpec.ofChange s with cond := some uptoSmall }

/-- 'laws.FnExactValidConflicts', WHERE WHAT IT READS IS OF BULK AT MOST 1048576: true; the input reads as it did. -/
def fnExactValidConflictsUptoRow : OpenClaim := { program := "ytpngddcdcpepmaa", sum := "0bbbc838fe6a94de954f37437149a055da349d3854c8ff7220ff78d5c26d5878", func := "loop.example/liftsandlights/laws.FnExactValidConflicts", spec := "fnExactValidConflicts", apart := false, narrowed := true }
def FnExactValidConflictsUptoSaid : Prop := fnExactValidConflictsUptoRow.holds Try.pinned (OpenSpec.upto fnExactValidConflictsSpec)

/-- 'laws.FnValidConflicts', WHERE WHAT IT READS IS OF BULK AT MOST 1048576: true; the input reads as it did. -/
def fnValidConflictsUptoRow : OpenClaim := { program := "ytpngddcdcpepmaa", sum := "0bbbc838fe6a94de954f37437149a055da349d3854c8ff7220ff78d5c26d5878", func := "loop.example/liftsandlights/laws.FnValidConflicts", spec := "fnValidConflicts", apart := false, narrowed := true }
def FnValidConflictsUptoSaid : Prop := fnValidConflictsUptoRow.holds Try.pinned (OpenSpec.upto fnValidConflictsSpec)

/-- 'laws.FnExactValidPhase', WHERE WHAT IT READS IS OF BULK AT MOST 1048576: true; the input reads as it did. -/
def fnExactValidPhaseUptoRow : OpenClaim := { program := "ytpngddcdcpepmaa", sum := "0bbbc838fe6a94de954f37437149a055da349d3854c8ff7220ff78d5c26d5878", func := "loop.example/liftsandlights/laws.FnExactValidPhase", spec := "fnExactValidPhase", apart := false, narrowed := true }
def FnExactValidPhaseUptoSaid : Prop := fnExactValidPhaseUptoRow.holds Try.pinned (OpenSpec.upto fnExactValidPhaseSpec)

/-- 'laws.FnValidPhase', WHERE WHAT IT READS IS OF BULK AT MOST 1048576: true; the input reads as it did. -/
def fnValidPhaseUptoRow : OpenClaim := { program := "ytpngddcdcpepmaa", sum := "0bbbc838fe6a94de954f37437149a055da349d3854c8ff7220ff78d5c26d5878", func := "loop.example/liftsandlights/laws.FnValidPhase", spec := "fnValidPhase", apart := false, narrowed := true }
def FnValidPhaseUptoSaid : Prop := fnValidPhaseUptoRow.holds Try.pinned (OpenSpec.upto fnValidPhaseSpec)

end Rows
end Go.Proofs.Ytpngddcdcpepmaa
