/-
  No cell of these rows narrows 'for every input' (looked for: loops, veiled, ifaces, maps, wideKeys, modest, calm, conditions, laid).
  DERIVED. THE GIVEN ROWS OF THIS SEAT. 6 by the template 'for every input the law returns true; each argument reads behind the call as it read before'; 0 by the template 'total and deterministic' (their statements: YtpfdhggejnbpbaaTotals.lean).
  GIVEN WITH THE SEED: the statements are not yours to turn. If you find one false, say at which input.
  Laid BY PROGRAM, IN A SANDBOX (cutbox-rows.mjs): the forced cells as the released guide's own fill.sh prints them over the translation 36e35407662b04f4… (all of the seat's roots in one cut). By AI agents, Wed Nov 11 2026. No macro, syntax, notation, axiom, sorry.
-/
import Derived.Test.YtpfdhggejnbpbaaChecked
import GoSem.Claim
import GoSem.ClaimJoined
import GoSem.ClaimMapViews
import Derived.JoinedTies
import Derived.KernelRfl
namespace Go.Proofs.Ytpfdhggejnbpbaa
/- THE CELL 'sum', in the pinned program and in every row, IS THE sha256 OF THE DUMP (.gsa) THAT YtpfdhggejnbpbaaProg.lean LOADS. Nothing in Lean hashes anything: it is a label: what it is worth is what the hold of that sum in a sandbox is worth. -/
noncomputable def Try.pinned : Pinned := { name := "ytpfdhggejnbpbaa", sum := "36e35407662b04f40c4eadf1dbfc1bb2db2f19442414bec899b620ecf5ed1f8a", checked := Try.checked }
namespace Rows
def none {H : Type} : Left H := { results := [], args := [] }

/-- 'laws.FnGreenTimeConflict': WHATEVER THE INPUT: true; the input reads as it did. -/
def fnGreenTimeConflictSpec : ChangeSpec := { name := "fnGreenTimeConflict", fn := fun _ => fun
  | [d] => { results := [.lit (.bool true)], args := [d] }
  | _ => none }
def fnGreenTimeConflictRow : OpenClaim := { program := "ytpfdhggejnbpbaa", sum := "36e35407662b04f40c4eadf1dbfc1bb2db2f19442414bec899b620ecf5ed1f8a", func := "loop.example/liftsandlights/laws.FnGreenTimeConflict", spec := "fnGreenTimeConflict", apart := false }
def FnGreenTimeConflictSaid : Prop := fnGreenTimeConflictRow.holds Try.pinned (OpenSpec.ofChange fnGreenTimeConflictSpec)

/-- ITS FALSE NEIGHBOUR: 'it returns false'. Refute it at one input. -/
def fnGreenTimeConflictWrong : ChangeSpec := { name := "fnGreenTimeConflict", fn := fun _ => fun
  | [d] => { results := [.lit (.bool false)], args := [d] }
  | _ => none }
def FnGreenTimeConflictWrongFalsely : Prop := fnGreenTimeConflictRow.holds Try.pinned (OpenSpec.ofChange fnGreenTimeConflictWrong)

/-- 'laws.FnGreenTime': WHATEVER THE INPUT: true; the input reads as it did. -/
def fnGreenTimeSpec : ChangeSpec := { name := "fnGreenTime", fn := fun _ => fun
  | [d] => { results := [.lit (.bool true)], args := [d] }
  | _ => none }
def fnGreenTimeRow : OpenClaim := { program := "ytpfdhggejnbpbaa", sum := "36e35407662b04f40c4eadf1dbfc1bb2db2f19442414bec899b620ecf5ed1f8a", func := "loop.example/liftsandlights/laws.FnGreenTime", spec := "fnGreenTime", apart := false }
def FnGreenTimeSaid : Prop := fnGreenTimeRow.holds Try.pinned (OpenSpec.ofChange fnGreenTimeSpec)

/-- ITS FALSE NEIGHBOUR: 'it returns false'. Refute it at one input. -/
def fnGreenTimeWrong : ChangeSpec := { name := "fnGreenTime", fn := fun _ => fun
  | [d] => { results := [.lit (.bool false)], args := [d] }
  | _ => none }
def FnGreenTimeWrongFalsely : Prop := fnGreenTimeRow.holds Try.pinned (OpenSpec.ofChange fnGreenTimeWrong)

/-- 'laws.FnExactGreenTime': WHATEVER THE INPUT: true; the input reads as it did. -/
def fnExactGreenTimeSpec : ChangeSpec := { name := "fnExactGreenTime", fn := fun _ => fun
  | [d1, d2] => { results := [.lit (.bool true)], args := [d1, d2] }
  | _ => none }
def fnExactGreenTimeRow : OpenClaim := { program := "ytpfdhggejnbpbaa", sum := "36e35407662b04f40c4eadf1dbfc1bb2db2f19442414bec899b620ecf5ed1f8a", func := "loop.example/liftsandlights/laws.FnExactGreenTime", spec := "fnExactGreenTime", apart := false }
def FnExactGreenTimeSaid : Prop := fnExactGreenTimeRow.holds Try.pinned (OpenSpec.ofChange fnExactGreenTimeSpec)

/-- ITS FALSE NEIGHBOUR: 'it returns false'. Refute it at one input. -/
def fnExactGreenTimeWrong : ChangeSpec := { name := "fnExactGreenTime", fn := fun _ => fun
  | [d1, d2] => { results := [.lit (.bool false)], args := [d1, d2] }
  | _ => none }
def FnExactGreenTimeWrongFalsely : Prop := fnExactGreenTimeRow.holds Try.pinned (OpenSpec.ofChange fnExactGreenTimeWrong)

/-- 'laws.FnLongestRedPlan': WHATEVER THE INPUT: true; the input reads as it did. -/
def fnLongestRedPlanSpec : ChangeSpec := { name := "fnLongestRedPlan", fn := fun _ => fun
  | [d] => { results := [.lit (.bool true)], args := [d] }
  | _ => none }
def fnLongestRedPlanRow : OpenClaim := { program := "ytpfdhggejnbpbaa", sum := "36e35407662b04f40c4eadf1dbfc1bb2db2f19442414bec899b620ecf5ed1f8a", func := "loop.example/liftsandlights/laws.FnLongestRedPlan", spec := "fnLongestRedPlan", apart := false }
def FnLongestRedPlanSaid : Prop := fnLongestRedPlanRow.holds Try.pinned (OpenSpec.ofChange fnLongestRedPlanSpec)

/-- ITS FALSE NEIGHBOUR: 'it returns false'. Refute it at one input. -/
def fnLongestRedPlanWrong : ChangeSpec := { name := "fnLongestRedPlan", fn := fun _ => fun
  | [d] => { results := [.lit (.bool false)], args := [d] }
  | _ => none }
def FnLongestRedPlanWrongFalsely : Prop := fnLongestRedPlanRow.holds Try.pinned (OpenSpec.ofChange fnLongestRedPlanWrong)

/-- 'laws.FnExactLongestRed': WHATEVER THE INPUT: true; the input reads as it did. -/
def fnExactLongestRedSpec : ChangeSpec := { name := "fnExactLongestRed", fn := fun _ => fun
  | [d1, d2] => { results := [.lit (.bool true)], args := [d1, d2] }
  | _ => none }
def fnExactLongestRedRow : OpenClaim := { program := "ytpfdhggejnbpbaa", sum := "36e35407662b04f40c4eadf1dbfc1bb2db2f19442414bec899b620ecf5ed1f8a", func := "loop.example/liftsandlights/laws.FnExactLongestRed", spec := "fnExactLongestRed", apart := false }
def FnExactLongestRedSaid : Prop := fnExactLongestRedRow.holds Try.pinned (OpenSpec.ofChange fnExactLongestRedSpec)

/-- ITS FALSE NEIGHBOUR: 'it returns false'. Refute it at one input. -/
def fnExactLongestRedWrong : ChangeSpec := { name := "fnExactLongestRed", fn := fun _ => fun
  | [d1, d2] => { results := [.lit (.bool false)], args := [d1, d2] }
  | _ => none }
def FnExactLongestRedWrongFalsely : Prop := fnExactLongestRedRow.holds Try.pinned (OpenSpec.ofChange fnExactLongestRedWrong)

/-- 'laws.FnLongestRed': WHATEVER THE INPUT: true; the input reads as it did. -/
def fnLongestRedSpec : ChangeSpec := { name := "fnLongestRed", fn := fun _ => fun
  | [d] => { results := [.lit (.bool true)], args := [d] }
  | _ => none }
def fnLongestRedRow : OpenClaim := { program := "ytpfdhggejnbpbaa", sum := "36e35407662b04f40c4eadf1dbfc1bb2db2f19442414bec899b620ecf5ed1f8a", func := "loop.example/liftsandlights/laws.FnLongestRed", spec := "fnLongestRed", apart := false }
def FnLongestRedSaid : Prop := fnLongestRedRow.holds Try.pinned (OpenSpec.ofChange fnLongestRedSpec)

/-- ITS FALSE NEIGHBOUR: 'it returns false'. Refute it at one input. -/
def fnLongestRedWrong : ChangeSpec := { name := "fnLongestRed", fn := fun _ => fun
  | [d] => { results := [.lit (.bool false)], args := [d] }
  | _ => none }
def FnLongestRedWrongFalsely : Prop := fnLongestRedRow.holds Try.pinned (OpenSpec.ofChange fnLongestRedWrong)

/- THE SECOND FORM. 'bulk': how many values and letters a reading holds, each counted each time it is reached (what is shared counts as often as it is met; a slice's spare places count too). A statement '..UptoSaid' is the law's where the arguments, and the package variables that the reading takes, are together of bulk at most 1048576: NARROWER than '..Said'. Prove '..Said' where nothing that the law and all that it calls make is longer than what came in: it says more and counts as full. Else prove '..UptoSaid'. A law counts once. -/
mutual
def uptoBulk {H : Type} : DataW H → Nat
  | .lit (.string bytes) => bytes.length + 1
  | .lit _ => 1
  | .nil => 1
  | .ptr d => uptoBulk d + 1
  | .slice elems spare => uptoBulkAll elems + uptoBulkAll spare + 1
  | .agg parts => uptoBulkAll parts + 1
  | .iface _ d => uptoBulk d + 1
  | .map entries => uptoBulkEntries entries + 1
  | .held _ => 1
def uptoBulkAll {H : Type} : List (DataW H) → Nat
  | [] => 0
  | d :: r => uptoBulk d + uptoBulkAll r
def uptoBulkEntries {H : Type} : List (Lit × DataW H) → Nat
  | [] => 0
  | x :: r => uptoBulkEntry x + uptoBulkEntries r
def uptoBulkEntry {H : Type} : Lit × DataW H → Nat
  | (.string bytes, d) => bytes.length + uptoBulk d + 1
  | (_, d) => uptoBulk d + 1
 end
def uptoSmall : (H : Type) → List (DataW H) → Bool := fun _ ds => decide (uptoBulkAll ds ≤ 1048576)
def OpenSpec.upto (s : _root_.Go.ChangeSpec) : _root_.Go.OpenSpec := { _root_.Go.OpenSpec.ofChange s with cond := some uptoSmall }

/-- 'laws.FnGreenTimeConflict', WHERE WHAT IT READS IS OF BULK AT MOST 1048576: true; the input reads as it did. -/
def fnGreenTimeConflictUptoRow : OpenClaim := { program := "ytpfdhggejnbpbaa", sum := "36e35407662b04f40c4eadf1dbfc1bb2db2f19442414bec899b620ecf5ed1f8a", func := "loop.example/liftsandlights/laws.FnGreenTimeConflict", spec := "fnGreenTimeConflict", apart := false, narrowed := true }
def FnGreenTimeConflictUptoSaid : Prop := fnGreenTimeConflictUptoRow.holds Try.pinned (OpenSpec.upto fnGreenTimeConflictSpec)

/-- 'laws.FnGreenTime', WHERE WHAT IT READS IS OF BULK AT MOST 1048576: true; the input reads as it did. -/
def fnGreenTimeUptoRow : OpenClaim := { program := "ytpfdhggejnbpbaa", sum := "36e35407662b04f40c4eadf1dbfc1bb2db2f19442414bec899b620ecf5ed1f8a", func := "loop.example/liftsandlights/laws.FnGreenTime", spec := "fnGreenTime", apart := false, narrowed := true }
def FnGreenTimeUptoSaid : Prop := fnGreenTimeUptoRow.holds Try.pinned (OpenSpec.upto fnGreenTimeSpec)

/-- 'laws.FnExactGreenTime', WHERE WHAT IT READS IS OF BULK AT MOST 1048576: true; the input reads as it did. -/
def fnExactGreenTimeUptoRow : OpenClaim := { program := "ytpfdhggejnbpbaa", sum := "36e35407662b04f40c4eadf1dbfc1bb2db2f19442414bec899b620ecf5ed1f8a", func := "loop.example/liftsandlights/laws.FnExactGreenTime", spec := "fnExactGreenTime", apart := false, narrowed := true }
def FnExactGreenTimeUptoSaid : Prop := fnExactGreenTimeUptoRow.holds Try.pinned (OpenSpec.upto fnExactGreenTimeSpec)

/-- 'laws.FnLongestRedPlan', WHERE WHAT IT READS IS OF BULK AT MOST 1048576: true; the input reads as it did. -/
def fnLongestRedPlanUptoRow : OpenClaim := { program := "ytpfdhggejnbpbaa", sum := "36e35407662b04f40c4eadf1dbfc1bb2db2f19442414bec899b620ecf5ed1f8a", func := "loop.example/liftsandlights/laws.FnLongestRedPlan", spec := "fnLongestRedPlan", apart := false, narrowed := true }
def FnLongestRedPlanUptoSaid : Prop := fnLongestRedPlanUptoRow.holds Try.pinned (OpenSpec.upto fnLongestRedPlanSpec)

/-- 'laws.FnExactLongestRed', WHERE WHAT IT READS IS OF BULK AT MOST 1048576: true; the input reads as it did. -/
def fnExactLongestRedUptoRow : OpenClaim := { program := "ytpfdhggejnbpbaa", sum := "36e35407662b04f40c4eadf1dbfc1bb2db2f19442414bec899b620ecf5ed1f8a", func := "loop.example/liftsandlights/laws.FnExactLongestRed", spec := "fnExactLongestRed", apart := false, narrowed := true }
def FnExactLongestRedUptoSaid : Prop := fnExactLongestRedUptoRow.holds Try.pinned (OpenSpec.upto fnExactLongestRedSpec)

/-- 'laws.FnLongestRed', WHERE WHAT IT READS IS OF BULK AT MOST 1048576: true; the input reads as it did. -/
def fnLongestRedUptoRow : OpenClaim := { program := "ytpfdhggejnbpbaa", sum := "36e35407662b04f40c4eadf1dbfc1bb2db2f19442414bec899b620ecf5ed1f8a", func := "loop.example/liftsandlights/laws.FnLongestRed", spec := "fnLongestRed", apart := false, narrowed := true }
def FnLongestRedUptoSaid : Prop := fnLongestRedUptoRow.holds Try.pinned (OpenSpec.upto fnLongestRedSpec)

end Rows
end Go.Proofs.Ytpfdhggejnbpbaa
