/-
  No cell of these rows narrows 'for every input' (looked for: loops, veiled, ifaces, maps, wideKeys, modest, calm, conditions, laid).
  DERIVED. THE GIVEN ROWS OF THIS SEAT. 5 by the template 'for every input the law returns true; each argument reads behind the call as it read before'; 0 by the template 'total and deterministic' (their statements: YtpihjabmllcldaaTotals.lean).
  GIVEN WITH THE SEED: the statements are not yours to turn. If you find one false, say at which input.
  Laid BY PROGRAM, IN A SANDBOX (cutbox-rows.mjs): the forced cells as the released guide's own fill.sh prints them over the translation f0261290510938ec… (all of the seat's roots in one cut). By AI agents, Wed Nov 11 2026. No macro, syntax, notation, axiom, sorry.
-/
import Derived.Test.YtpihjabmllcldaaChecked
import GoSem.Claim
import GoSem.ClaimJoined
import GoSem.ClaimMapViews
import Derived.JoinedTies
import Derived.KernelRfl
namespace Go.Proofs.Ytpihjabmllcldaa
/- THE CELL 'sum', in the pinned program and in every row, IS THE sha256 OF THE DUMP (.gsa) THAT YtpihjabmllcldaaProg.lean LOADS. Nothing in Lean hashes anything: it is a label: what it is worth is what the hold of that sum in a sandbox is worth. -/
noncomputable def Try.pinned : Pinned := { name := "ytpihjabmllcldaa", sum := "f0261290510938ec0ed35179332435177945155db7972b28ed22ecb76d9fa867", checked := Try.checked }
namespace Rows
def none {H : Type} : Left H := { results := [], args := [] }

/-- 'laws.FnValidPlan': WHATEVER THE INPUT: true; the input reads as it did. -/
def fnValidPlanSpec : ChangeSpec := { name := "fnValidPlan", fn := fun _ => fun
  | [d] => { results := [.lit (.bool true)], args := [d] }
  | _ => none }
def fnValidPlanRow : OpenClaim := { program := "ytpihjabmllcldaa", sum := "f0261290510938ec0ed35179332435177945155db7972b28ed22ecb76d9fa867", func := "loop.example/liftsandlights/laws.FnValidPlan", spec := "fnValidPlan", apart := false }
def FnValidPlanSaid : Prop := fnValidPlanRow.holds Try.pinned (OpenSpec.ofChange fnValidPlanSpec)

/-- ITS FALSE NEIGHBOUR: 'it returns false'. Refute it at one input. -/
def fnValidPlanWrong : ChangeSpec := { name := "fnValidPlan", fn := fun _ => fun
  | [d] => { results := [.lit (.bool false)], args := [d] }
  | _ => none }
def FnValidPlanWrongFalsely : Prop := fnValidPlanRow.holds Try.pinned (OpenSpec.ofChange fnValidPlanWrong)

/-- 'laws.FnExactValidPlan': WHATEVER THE INPUT: true; the input reads as it did. -/
def fnExactValidPlanSpec : ChangeSpec := { name := "fnExactValidPlan", fn := fun _ => fun
  | [d] => { results := [.lit (.bool true)], args := [d] }
  | _ => none }
def fnExactValidPlanRow : OpenClaim := { program := "ytpihjabmllcldaa", sum := "f0261290510938ec0ed35179332435177945155db7972b28ed22ecb76d9fa867", func := "loop.example/liftsandlights/laws.FnExactValidPlan", spec := "fnExactValidPlan", apart := false }
def FnExactValidPlanSaid : Prop := fnExactValidPlanRow.holds Try.pinned (OpenSpec.ofChange fnExactValidPlanSpec)

/-- ITS FALSE NEIGHBOUR: 'it returns false'. Refute it at one input. -/
def fnExactValidPlanWrong : ChangeSpec := { name := "fnExactValidPlan", fn := fun _ => fun
  | [d] => { results := [.lit (.bool false)], args := [d] }
  | _ => none }
def FnExactValidPlanWrongFalsely : Prop := fnExactValidPlanRow.holds Try.pinned (OpenSpec.ofChange fnExactValidPlanWrong)

/-- 'laws.FnCycleOfTwice': WHATEVER THE INPUT: true; the input reads as it did. -/
def fnCycleOfTwiceSpec : ChangeSpec := { name := "fnCycleOfTwice", fn := fun _ => fun
  | [d] => { results := [.lit (.bool true)], args := [d] }
  | _ => none }
def fnCycleOfTwiceRow : OpenClaim := { program := "ytpihjabmllcldaa", sum := "f0261290510938ec0ed35179332435177945155db7972b28ed22ecb76d9fa867", func := "loop.example/liftsandlights/laws.FnCycleOfTwice", spec := "fnCycleOfTwice", apart := false }
def FnCycleOfTwiceSaid : Prop := fnCycleOfTwiceRow.holds Try.pinned (OpenSpec.ofChange fnCycleOfTwiceSpec)

/-- ITS FALSE NEIGHBOUR: 'it returns false'. Refute it at one input. -/
def fnCycleOfTwiceWrong : ChangeSpec := { name := "fnCycleOfTwice", fn := fun _ => fun
  | [d] => { results := [.lit (.bool false)], args := [d] }
  | _ => none }
def FnCycleOfTwiceWrongFalsely : Prop := fnCycleOfTwiceRow.holds Try.pinned (OpenSpec.ofChange fnCycleOfTwiceWrong)

/-- 'laws.FnCycleOf': WHATEVER THE INPUT: true; the input reads as it did. -/
def fnCycleOfSpec : ChangeSpec := { name := "fnCycleOf", fn := fun _ => fun
  | [d] => { results := [.lit (.bool true)], args := [d] }
  | _ => none }
def fnCycleOfRow : OpenClaim := { program := "ytpihjabmllcldaa", sum := "f0261290510938ec0ed35179332435177945155db7972b28ed22ecb76d9fa867", func := "loop.example/liftsandlights/laws.FnCycleOf", spec := "fnCycleOf", apart := false }
def FnCycleOfSaid : Prop := fnCycleOfRow.holds Try.pinned (OpenSpec.ofChange fnCycleOfSpec)

/-- ITS FALSE NEIGHBOUR: 'it returns false'. Refute it at one input. -/
def fnCycleOfWrong : ChangeSpec := { name := "fnCycleOf", fn := fun _ => fun
  | [d] => { results := [.lit (.bool false)], args := [d] }
  | _ => none }
def FnCycleOfWrongFalsely : Prop := fnCycleOfRow.holds Try.pinned (OpenSpec.ofChange fnCycleOfWrong)

/-- 'laws.FnExactCycleOf': WHATEVER THE INPUT: true; the input reads as it did. -/
def fnExactCycleOfSpec : ChangeSpec := { name := "fnExactCycleOf", fn := fun _ => fun
  | [d] => { results := [.lit (.bool true)], args := [d] }
  | _ => none }
def fnExactCycleOfRow : OpenClaim := { program := "ytpihjabmllcldaa", sum := "f0261290510938ec0ed35179332435177945155db7972b28ed22ecb76d9fa867", func := "loop.example/liftsandlights/laws.FnExactCycleOf", spec := "fnExactCycleOf", apart := false }
def FnExactCycleOfSaid : Prop := fnExactCycleOfRow.holds Try.pinned (OpenSpec.ofChange fnExactCycleOfSpec)

/-- ITS FALSE NEIGHBOUR: 'it returns false'. Refute it at one input. -/
def fnExactCycleOfWrong : ChangeSpec := { name := "fnExactCycleOf", fn := fun _ => fun
  | [d] => { results := [.lit (.bool false)], args := [d] }
  | _ => none }
def FnExactCycleOfWrongFalsely : Prop := fnExactCycleOfRow.holds Try.pinned (OpenSpec.ofChange fnExactCycleOfWrong)

/- THE SECOND FORM. 'bulk': how many values and letters a reading holds, each counted each time it is reached (what is shared counts as often as it is met; a slice's spare places count too). A statement '..UptoSaid' is the law's where the arguments, and the package variables that the reading takes, are together of bulk at most 1048576: NARROWER than '..Said'. Prove '..Said' where nothing that the law and all that it calls make is longer than what came in: it says more and counts as full. Else prove '..UptoSaid'. A law counts once. -/
mutual
def uptoBulk {H : Type} : DataW H → Nat
  | .lit (.string bytes) => bytes.length + 1
  | .lit _ => 1
  | .nil => 1
  | .ptr d => uptoBulk d + 1
  | .slice elems spare => uptoBulkAll elems + uptoBulkAll spare + 1
  | .agg parts => uptoBulkAll parts + 1
  | .iface _ d => uptoBulk d + 1
  | .map entries => uptoBulkEntries entries + 1
  | .held _ => 1
def uptoBulkAll {H : Type} : List (DataW H) → Nat
  | [] => 0
  | d :: r => uptoBulk d + uptoBulkAll r
def uptoBulkEntries {H : Type} : List (Lit × DataW H) → Nat
  | [] => 0
  | x :: r => uptoBulkEntry x + uptoBulkEntries r
def uptoBulkEntry {H : Type} : Lit × DataW H → Nat
  | (.string bytes, d) => bytes.length + uptoBulk d + 1
  | (_, d) => uptoBulk d + 1
 end
def uptoSmall : (H : Type) → List (DataW H) → Bool := fun _ ds => decide (uptoBulkAll ds ≤ 1048576)
def OpenSpec.upto (s : _root_.Go.ChangeSpec) : _root_.Go.OpenSpec := { _root_.Go.OpenSpec.ofChange s with cond := some uptoSmall }

/-- 'laws.FnValidPlan', WHERE WHAT IT READS IS OF BULK AT MOST 1048576: true; the input reads as it did. -/
def fnValidPlanUptoRow : OpenClaim := { program := "ytpihjabmllcldaa", sum := "f0261290510938ec0ed35179332435177945155db7972b28ed22ecb76d9fa867", func := "loop.example/liftsandlights/laws.FnValidPlan", spec := "fnValidPlan", apart := false, narrowed := true }
def FnValidPlanUptoSaid : Prop := fnValidPlanUptoRow.holds Try.pinned (OpenSpec.upto fnValidPlanSpec)

/-- 'laws.FnExactValidPlan', WHERE WHAT IT READS IS OF BULK AT MOST 1048576: true; the input reads as it did. -/
def fnExactValidPlanUptoRow : OpenClaim := { program := "ytpihjabmllcldaa", sum := "f0261290510938ec0ed35179332435177945155db7972b28ed22ecb76d9fa867", func := "loop.example/liftsandlights/laws.FnExactValidPlan", spec := "fnExactValidPlan", apart := false, narrowed := true }
def FnExactValidPlanUptoSaid : Prop := fnExactValidPlanUptoRow.holds Try.pinned (OpenSpec.upto fnExactValidPlanSpec)

/-- 'laws.FnCycleOfTwice', WHERE WHAT IT READS IS OF BULK AT MOST 1048576: true; the input reads as it did. -/
def fnCycleOfTwiceUptoRow : OpenClaim := { program := "ytpihjabmllcldaa", sum := "f0261290510938ec0ed35179332435177945155db7972b28ed22ecb76d9fa867", func := "loop.example/liftsandlights/laws.FnCycleOfTwice", spec := "fnCycleOfTwice", apart := false, narrowed := true }
def FnCycleOfTwiceUptoSaid : Prop := fnCycleOfTwiceUptoRow.holds Try.pinned (OpenSpec.upto fnCycleOfTwiceSpec)

/-- 'laws.FnCycleOf', WHERE WHAT IT READS IS OF BULK AT MOST 1048576: true; the input reads as it did. -/
def fnCycleOfUptoRow : OpenClaim := { program := "ytpihjabmllcldaa", sum := "f0261290510938ec0ed35179332435177945155db7972b28ed22ecb76d9fa867", func := "loop.example/liftsandlights/laws.FnCycleOf", spec := "fnCycleOf", apart := false, narrowed := true }
def FnCycleOfUptoSaid : Prop := fnCycleOfUptoRow.holds Try.pinned (OpenSpec.upto fnCycleOfSpec)

/-- 'laws.FnExactCycleOf', WHERE WHAT IT READS IS OF BULK AT MOST 1048576: true; the input reads as it did. -/
def fnExactCycleOfUptoRow : OpenClaim := { program := "ytpihjabmllcldaa", sum := "f0261290510938ec0ed35179332435177945155db7972b28ed22ecb76d9fa867", func := "loop.example/liftsandlights/laws.FnExactCycleOf", spec := "fnExactCycleOf", apart := false, narrowed := true }
def FnExactCycleOfUptoSaid : Prop := fnExactCycleOfUptoRow.holds Try.pinned (OpenSpec.upto fnExactCycleOfSpec)

end Rows
end Go.Proofs.Ytpihjabmllcldaa
