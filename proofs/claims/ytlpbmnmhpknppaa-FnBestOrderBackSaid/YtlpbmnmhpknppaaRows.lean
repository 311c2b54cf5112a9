/-
  No cell of these rows narrows 'for every input' (looked for: loops, veiled, ifaces, maps, wideKeys, modest, calm, conditions, laid).
  DERIVED. THE GIVEN ROWS OF THIS SEAT. 13 by the template 'for every input the law returns true; each argument reads behind the call as it read before'; 0 by the template 'total and deterministic' (their statements: YtlpbmnmhpknppaaTotals.lean).
  GIVEN WITH THE SEED: the statements are not yours to turn. If you find one false, say at which input.
  Laid BY PROGRAM, IN A SANDBOX (cutbox-rows.mjs): the forced cells as the released guide's own fill.sh prints them over the translation 45d28f7c53367cfb… (all of the seat's roots in one cut). By AI agents, Wed Nov 11 2026. No macro, syntax, notation, axiom, sorry.
-/
import Derived.Test.YtlpbmnmhpknppaaChecked
import GoSem.Claim
import GoSem.ClaimJoined
import GoSem.ClaimMapViews
import Derived.JoinedTies
import Derived.KernelRfl
namespace Go.Proofs.Ytlpbmnmhpknppaa
/- THE CELL 'sum', in the pinned program and in every row, IS THE sha256 OF THE DUMP (.gsa) THAT YtlpbmnmhpknppaaProg.lean LOADS. Nothing in Lean hashes anything: it is a label: what it is worth is what the hold of that sum in a sandbox is worth. -/
noncomputable def Try.pinned : Pinned := { name := "ytlpbmnmhpknppaa", sum := "45d28f7c53367cfbb96797932335176ffe11807de660d1d8d37c56b5d26ab0b0", checked := Try.checked }
namespace Rows
def none {H : Type} : Left H := { results := [], args := [] }

/-- 'laws.FnExactValidClearance': WHATEVER THE INPUT: true; the input reads as it did. -/
def fnExactValidClearanceSpec : ChangeSpec := { name := "fnExactValidClearance", fn := fun _ => fun
  | [d] => { results := [.lit (.bool true)], args := [d] }
  | _ => none }
def fnExactValidClearanceRow : OpenClaim := { program := "ytlpbmnmhpknppaa", sum := "45d28f7c53367cfbb96797932335176ffe11807de660d1d8d37c56b5d26ab0b0", func := "loop.example/liftsandlights/laws.FnExactValidClearance", spec := "fnExactValidClearance", apart := false }
def FnExactValidClearanceSaid : Prop := fnExactValidClearanceRow.holds Try.pinned (OpenSpec.ofChange fnExactValidClearanceSpec)

/-- ITS FALSE NEIGHBOUR: 'it returns false'. Refute it at one input. -/
def fnExactValidClearanceWrong : ChangeSpec := { name := "fnExactValidClearance", fn := fun _ => fun
  | [d] => { results := [.lit (.bool false)], args := [d] }
  | _ => none }
def FnExactValidClearanceWrongFalsely : Prop := fnExactValidClearanceRow.holds Try.pinned (OpenSpec.ofChange fnExactValidClearanceWrong)

/-- 'laws.FnValidClearance': WHATEVER THE INPUT: true; the input reads as it did. -/
def fnValidClearanceSpec : ChangeSpec := { name := "fnValidClearance", fn := fun _ => fun
  | [d] => { results := [.lit (.bool true)], args := [d] }
  | _ => none }
def fnValidClearanceRow : OpenClaim := { program := "ytlpbmnmhpknppaa", sum := "45d28f7c53367cfbb96797932335176ffe11807de660d1d8d37c56b5d26ab0b0", func := "loop.example/liftsandlights/laws.FnValidClearance", spec := "fnValidClearance", apart := false }
def FnValidClearanceSaid : Prop := fnValidClearanceRow.holds Try.pinned (OpenSpec.ofChange fnValidClearanceSpec)

/-- ITS FALSE NEIGHBOUR: 'it returns false'. Refute it at one input. -/
def fnValidClearanceWrong : ChangeSpec := { name := "fnValidClearance", fn := fun _ => fun
  | [d] => { results := [.lit (.bool false)], args := [d] }
  | _ => none }
def FnValidClearanceWrongFalsely : Prop := fnValidClearanceRow.holds Try.pinned (OpenSpec.ofChange fnValidClearanceWrong)

/-- 'laws.FnConflictsOf': WHATEVER THE INPUT: true; the input reads as it did. -/
def fnConflictsOfSpec : ChangeSpec := { name := "fnConflictsOf", fn := fun _ => fun
  | [d] => { results := [.lit (.bool true)], args := [d] }
  | _ => none }
def fnConflictsOfRow : OpenClaim := { program := "ytlpbmnmhpknppaa", sum := "45d28f7c53367cfbb96797932335176ffe11807de660d1d8d37c56b5d26ab0b0", func := "loop.example/liftsandlights/laws.FnConflictsOf", spec := "fnConflictsOf", apart := false }
def FnConflictsOfSaid : Prop := fnConflictsOfRow.holds Try.pinned (OpenSpec.ofChange fnConflictsOfSpec)

/-- ITS FALSE NEIGHBOUR: 'it returns false'. Refute it at one input. -/
def fnConflictsOfWrong : ChangeSpec := { name := "fnConflictsOf", fn := fun _ => fun
  | [d] => { results := [.lit (.bool false)], args := [d] }
  | _ => none }
def FnConflictsOfWrongFalsely : Prop := fnConflictsOfRow.holds Try.pinned (OpenSpec.ofChange fnConflictsOfWrong)

/-- 'laws.FnExactConflictsOf': WHATEVER THE INPUT: true; the input reads as it did. -/
def fnExactConflictsOfSpec : ChangeSpec := { name := "fnExactConflictsOf", fn := fun _ => fun
  | [d] => { results := [.lit (.bool true)], args := [d] }
  | _ => none }
def fnExactConflictsOfRow : OpenClaim := { program := "ytlpbmnmhpknppaa", sum := "45d28f7c53367cfbb96797932335176ffe11807de660d1d8d37c56b5d26ab0b0", func := "loop.example/liftsandlights/laws.FnExactConflictsOf", spec := "fnExactConflictsOf", apart := false }
def FnExactConflictsOfSaid : Prop := fnExactConflictsOfRow.holds Try.pinned (OpenSpec.ofChange fnExactConflictsOfSpec)

/-- ITS FALSE NEIGHBOUR: 'it returns false'. Refute it at one input. -/
def fnExactConflictsOfWrong : ChangeSpec := { name := "fnExactConflictsOf", fn := fun _ => fun
  | [d] => { results := [.lit (.bool false)], args := [d] }
  | _ => none }
def FnExactConflictsOfWrongFalsely : Prop := fnExactConflictsOfRow.holds Try.pinned (OpenSpec.ofChange fnExactConflictsOfWrong)

/-- 'laws.FnExactChangeTime': WHATEVER THE INPUT: true; the input reads as it did. -/
def fnExactChangeTimeSpec : ChangeSpec := { name := "fnExactChangeTime", fn := fun _ => fun
  | [d1, d2, d3] => { results := [.lit (.bool true)], args := [d1, d2, d3] }
  | _ => none }
def fnExactChangeTimeRow : OpenClaim := { program := "ytlpbmnmhpknppaa", sum := "45d28f7c53367cfbb96797932335176ffe11807de660d1d8d37c56b5d26ab0b0", func := "loop.example/liftsandlights/laws.FnExactChangeTime", spec := "fnExactChangeTime", apart := false }
def FnExactChangeTimeSaid : Prop := fnExactChangeTimeRow.holds Try.pinned (OpenSpec.ofChange fnExactChangeTimeSpec)

/-- ITS FALSE NEIGHBOUR: 'it returns false'. Refute it at one input. -/
def fnExactChangeTimeWrong : ChangeSpec := { name := "fnExactChangeTime", fn := fun _ => fun
  | [d1, d2, d3] => { results := [.lit (.bool false)], args := [d1, d2, d3] }
  | _ => none }
def FnExactChangeTimeWrongFalsely : Prop := fnExactChangeTimeRow.holds Try.pinned (OpenSpec.ofChange fnExactChangeTimeWrong)

/-- 'laws.FnChangeTime': WHATEVER THE INPUT: true; the input reads as it did. -/
def fnChangeTimeSpec : ChangeSpec := { name := "fnChangeTime", fn := fun _ => fun
  | [d] => { results := [.lit (.bool true)], args := [d] }
  | _ => none }
def fnChangeTimeRow : OpenClaim := { program := "ytlpbmnmhpknppaa", sum := "45d28f7c53367cfbb96797932335176ffe11807de660d1d8d37c56b5d26ab0b0", func := "loop.example/liftsandlights/laws.FnChangeTime", spec := "fnChangeTime", apart := false }
def FnChangeTimeSaid : Prop := fnChangeTimeRow.holds Try.pinned (OpenSpec.ofChange fnChangeTimeSpec)

/-- ITS FALSE NEIGHBOUR: 'it returns false'. Refute it at one input. -/
def fnChangeTimeWrong : ChangeSpec := { name := "fnChangeTime", fn := fun _ => fun
  | [d] => { results := [.lit (.bool false)], args := [d] }
  | _ => none }
def FnChangeTimeWrongFalsely : Prop := fnChangeTimeRow.holds Try.pinned (OpenSpec.ofChange fnChangeTimeWrong)

/-- 'laws.FnChangeTimeParts': WHATEVER THE INPUT: true; the input reads as it did. -/
def fnChangeTimePartsSpec : ChangeSpec := { name := "fnChangeTimeParts", fn := fun _ => fun
  | [d] => { results := [.lit (.bool true)], args := [d] }
  | _ => none }
def fnChangeTimePartsRow : OpenClaim := { program := "ytlpbmnmhpknppaa", sum := "45d28f7c53367cfbb96797932335176ffe11807de660d1d8d37c56b5d26ab0b0", func := "loop.example/liftsandlights/laws.FnChangeTimeParts", spec := "fnChangeTimeParts", apart := false }
def FnChangeTimePartsSaid : Prop := fnChangeTimePartsRow.holds Try.pinned (OpenSpec.ofChange fnChangeTimePartsSpec)

/-- ITS FALSE NEIGHBOUR: 'it returns false'. Refute it at one input. -/
def fnChangeTimePartsWrong : ChangeSpec := { name := "fnChangeTimeParts", fn := fun _ => fun
  | [d] => { results := [.lit (.bool false)], args := [d] }
  | _ => none }
def FnChangeTimePartsWrongFalsely : Prop := fnChangeTimePartsRow.holds Try.pinned (OpenSpec.ofChange fnChangeTimePartsWrong)

/-- 'laws.FnExactLostTime': WHATEVER THE INPUT: true; the input reads as it did. -/
def fnExactLostTimeSpec : ChangeSpec := { name := "fnExactLostTime", fn := fun _ => fun
  | [d1, d2] => { results := [.lit (.bool true)], args := [d1, d2] }
  | _ => none }
def fnExactLostTimeRow : OpenClaim := { program := "ytlpbmnmhpknppaa", sum := "45d28f7c53367cfbb96797932335176ffe11807de660d1d8d37c56b5d26ab0b0", func := "loop.example/liftsandlights/laws.FnExactLostTime", spec := "fnExactLostTime", apart := false }
def FnExactLostTimeSaid : Prop := fnExactLostTimeRow.holds Try.pinned (OpenSpec.ofChange fnExactLostTimeSpec)

/-- ITS FALSE NEIGHBOUR: 'it returns false'. Refute it at one input. -/
def fnExactLostTimeWrong : ChangeSpec := { name := "fnExactLostTime", fn := fun _ => fun
  | [d1, d2] => { results := [.lit (.bool false)], args := [d1, d2] }
  | _ => none }
def FnExactLostTimeWrongFalsely : Prop := fnExactLostTimeRow.holds Try.pinned (OpenSpec.ofChange fnExactLostTimeWrong)

/-- 'laws.FnLostTimeOne': WHATEVER THE INPUT: true; the input reads as it did. -/
def fnLostTimeOneSpec : ChangeSpec := { name := "fnLostTimeOne", fn := fun _ => fun
  | [d] => { results := [.lit (.bool true)], args := [d] }
  | _ => none }
def fnLostTimeOneRow : OpenClaim := { program := "ytlpbmnmhpknppaa", sum := "45d28f7c53367cfbb96797932335176ffe11807de660d1d8d37c56b5d26ab0b0", func := "loop.example/liftsandlights/laws.FnLostTimeOne", spec := "fnLostTimeOne", apart := false }
def FnLostTimeOneSaid : Prop := fnLostTimeOneRow.holds Try.pinned (OpenSpec.ofChange fnLostTimeOneSpec)

/-- ITS FALSE NEIGHBOUR: 'it returns false'. Refute it at one input. -/
def fnLostTimeOneWrong : ChangeSpec := { name := "fnLostTimeOne", fn := fun _ => fun
  | [d] => { results := [.lit (.bool false)], args := [d] }
  | _ => none }
def FnLostTimeOneWrongFalsely : Prop := fnLostTimeOneRow.holds Try.pinned (OpenSpec.ofChange fnLostTimeOneWrong)

/-- 'laws.FnLostTime': WHATEVER THE INPUT: true; the input reads as it did. -/
def fnLostTimeSpec : ChangeSpec := { name := "fnLostTime", fn := fun _ => fun
  | [d] => { results := [.lit (.bool true)], args := [d] }
  | _ => none }
def fnLostTimeRow : OpenClaim := { program := "ytlpbmnmhpknppaa", sum := "45d28f7c53367cfbb96797932335176ffe11807de660d1d8d37c56b5d26ab0b0", func := "loop.example/liftsandlights/laws.FnLostTime", spec := "fnLostTime", apart := false }
def FnLostTimeSaid : Prop := fnLostTimeRow.holds Try.pinned (OpenSpec.ofChange fnLostTimeSpec)

/-- ITS FALSE NEIGHBOUR: 'it returns false'. Refute it at one input. -/
def fnLostTimeWrong : ChangeSpec := { name := "fnLostTime", fn := fun _ => fun
  | [d] => { results := [.lit (.bool false)], args := [d] }
  | _ => none }
def FnLostTimeWrongFalsely : Prop := fnLostTimeRow.holds Try.pinned (OpenSpec.ofChange fnLostTimeWrong)

/-- 'laws.FnExactBestOrder': WHATEVER THE INPUT: true; the input reads as it did. -/
def fnExactBestOrderSpec : ChangeSpec := { name := "fnExactBestOrder", fn := fun _ => fun
  | [d1, d2] => { results := [.lit (.bool true)], args := [d1, d2] }
  | _ => none }
def fnExactBestOrderRow : OpenClaim := { program := "ytlpbmnmhpknppaa", sum := "45d28f7c53367cfbb96797932335176ffe11807de660d1d8d37c56b5d26ab0b0", func := "loop.example/liftsandlights/laws.FnExactBestOrder", spec := "fnExactBestOrder", unfollowed := true, recurses := true, apart := false }
def FnExactBestOrderSaid : Prop := fnExactBestOrderRow.holds Try.pinned (OpenSpec.ofChange fnExactBestOrderSpec)

/-- ITS FALSE NEIGHBOUR: 'it returns false'. Refute it at one input. -/
def fnExactBestOrderWrong : ChangeSpec := { name := "fnExactBestOrder", fn := fun _ => fun
  | [d1, d2] => { results := [.lit (.bool false)], args := [d1, d2] }
  | _ => none }
def FnExactBestOrderWrongFalsely : Prop := fnExactBestOrderRow.holds Try.pinned (OpenSpec.ofChange fnExactBestOrderWrong)

/-- 'laws.FnBestOrderBack': WHATEVER THE INPUT: true; the input reads as it did. -/
def fnBestOrderBackSpec : ChangeSpec := { name := "fnBestOrderBack", fn := fun _ => fun
  | [d] => { results := [.lit (.bool true)], args := [d] }
  | _ => none }
def fnBestOrderBackRow : OpenClaim := { program := "ytlpbmnmhpknppaa", sum := "45d28f7c53367cfbb96797932335176ffe11807de660d1d8d37c56b5d26ab0b0", func := "loop.example/liftsandlights/laws.FnBestOrderBack", spec := "fnBestOrderBack", unfollowed := true, recurses := true, apart := false }
def FnBestOrderBackSaid : Prop := fnBestOrderBackRow.holds Try.pinned (OpenSpec.ofChange fnBestOrderBackSpec)

/-- ITS FALSE NEIGHBOUR: 'it returns false'. Refute it at one input. -/
def fnBestOrderBackWrong : ChangeSpec := { name := "fnBestOrderBack", fn := fun _ => fun
  | [d] => { results := [.lit (.bool false)], args := [d] }
  | _ => none }
def FnBestOrderBackWrongFalsely : Prop := fnBestOrderBackRow.holds Try.pinned (OpenSpec.ofChange fnBestOrderBackWrong)

/-- 'laws.FnBestOrder': WHATEVER THE INPUT: true; the input reads as it did. -/
def fnBestOrderSpec : ChangeSpec := { name := "fnBestOrder", fn := fun _ => fun
  | [d] => { results := [.lit (.bool true)], args := [d] }
  | _ => none }
def fnBestOrderRow : OpenClaim := { program := "ytlpbmnmhpknppaa", sum := "45d28f7c53367cfbb96797932335176ffe11807de660d1d8d37c56b5d26ab0b0", func := "loop.example/liftsandlights/laws.FnBestOrder", spec := "fnBestOrder", unfollowed := true, recurses := true, apart := false }
def FnBestOrderSaid : Prop := fnBestOrderRow.holds Try.pinned (OpenSpec.ofChange fnBestOrderSpec)

/-- ITS FALSE NEIGHBOUR: 'it returns false'. Refute it at one input. -/
def fnBestOrderWrong : ChangeSpec := { name := "fnBestOrder", fn := fun _ => fun
  | [d] => { results := [.lit (.bool false)], args := [d] }
  | _ => none }
def FnBestOrderWrongFalsely : Prop := fnBestOrderRow.holds Try.pinned (OpenSpec.ofChange fnBestOrderWrong)

/- THE SECOND FORM. 'bulk': how many values and letters a reading holds, each counted each time it is reached (what is shared counts as often as it is met; a slice's spare places count too). A statement '..UptoSaid' is the law's where the arguments, and the package variables that the reading takes, are together of bulk at most 1048576: NARROWER than '..Said'. Prove '..Said' where nothing that the law and all that it calls make is longer than what came in: it says more and counts as full. Else prove '..UptoSaid'. A law counts once. -/
mutual
def uptoBulk {H : Type} : DataW H → Nat
  | .lit (.string bytes) => bytes.length + 1
  | .lit _ => 1
  | .nil => 1
  | .ptr d => uptoBulk d + 1
  | .slice elems spare => uptoBulkAll elems + uptoBulkAll spare + 1
  | .agg parts => uptoBulkAll parts + 1
  | .iface _ d => uptoBulk d + 1
  | .map entries => uptoBulkEntries entries + 1
  | .held _ => 1
def uptoBulkAll {H : Type} : List (DataW H) → Nat
  | [] => 0
  | d :: r => uptoBulk d + uptoBulkAll r
def uptoBulkEntries {H : Type} : List (Lit × DataW H) → Nat
  | [] => 0
  | x :: r => uptoBulkEntry x + uptoBulkEntries r
def uptoBulkEntry {H : Type} : Lit × DataW H → Nat
  | (.string bytes, d) => bytes.length + uptoBulk d + 1
  | (_, d) => uptoBulk d + 1
 end
def uptoSmall : (H : Type) → List (DataW H) → Bool := fun _ ds => decide (uptoBulkAll ds ≤ 1048576)
def OpenSpec.upto (s : _root_.Go.ChangeSpec) : _root_.Go.OpenSpec := { _root_.Go.OpenSpec.ofChange s with cond := some uptoSmall }

/-- 'laws.FnExactValidClearance', WHERE WHAT IT READS IS OF BULK AT MOST 1048576: true; the input reads as it did. -/
def fnExactValidClearanceUptoRow : OpenClaim := { program := "ytlpbmnmhpknppaa", sum := "45d28f7c53367cfbb96797932335176ffe11807de660d1d8d37c56b5d26ab0b0", func := "loop.example/liftsandlights/laws.FnExactValidClearance", spec := "fnExactValidClearance", apart := false, narrowed := true }
def FnExactValidClearanceUptoSaid : Prop := fnExactValidClearanceUptoRow.holds Try.pinned (OpenSpec.upto fnExactValidClearanceSpec)

/-- 'laws.FnValidClearance', WHERE WHAT IT READS IS OF BULK AT MOST 1048576: true; the input reads as it did. -/
def fnValidClearanceUptoRow : OpenClaim := { program := "ytlpbmnmhpknppaa", sum := "45d28f7c53367cfbb96797932335176ffe11807de660d1d8d37c56b5d26ab0b0", func := "loop.example/liftsandlights/laws.FnValidClearance", spec := "fnValidClearance", apart := false, narrowed := true }
def FnValidClearanceUptoSaid : Prop := fnValidClearanceUptoRow.holds Try.pinned (OpenSpec.upto fnValidClearanceSpec)

/-- 'laws.FnConflictsOf', WHERE WHAT IT READS IS OF BULK AT MOST 1048576: true; the input reads as it did. -/
def fnConflictsOfUptoRow : OpenClaim := { program := "ytlpbmnmhpknppaa", sum := "45d28f7c53367cfbb96797932335176ffe11807de660d1d8d37c56b5d26ab0b0", func := "loop.example/liftsandlights/laws.FnConflictsOf", spec := "fnConflictsOf", apart := false, narrowed := true }
def FnConflictsOfUptoSaid : Prop := fnConflictsOfUptoRow.holds Try.pinned (OpenSpec.upto fnConflictsOfSpec)

/-- 'laws.FnExactConflictsOf', WHERE WHAT IT READS IS OF BULK AT MOST 1048576: true; the input reads as it did. -/
def fnExactConflictsOfUptoRow : OpenClaim := { program := "ytlpbmnmhpknppaa", sum := "45d28f7c53367cfbb96797932335176ffe11807de660d1d8d37c56b5d26ab0b0", func := "loop.example/liftsandlights/laws.FnExactConflictsOf", spec := "fnExactConflictsOf", apart := false, narrowed := true }
def FnExactConflictsOfUptoSaid : Prop := fnExactConflictsOfUptoRow.holds Try.pinned (OpenSpec.upto fnExactConflictsOfSpec)

/-- 'laws.FnExactChangeTime', WHERE WHAT IT READS IS OF BULK AT MOST 1048576: true; the input reads as it did. -/
def fnExactChangeTimeUptoRow : OpenClaim := { program := "ytlpbmnmhpknppaa", sum := "45d28f7c53367cfbb96797932335176ffe11807de660d1d8d37c56b5d26ab0b0", func := "loop.example/liftsandlights/laws.FnExactChangeTime", spec := "fnExactChangeTime", apart := false, narrowed := true }
def FnExactChangeTimeUptoSaid : Prop := fnExactChangeTimeUptoRow.holds Try.pinned (OpenSpec.upto fnExactChangeTimeSpec)

/-- 'laws.FnChangeTime', WHERE WHAT IT READS IS OF BULK AT MOST 1048576: true; the input reads as it did. -/
def fnChangeTimeUptoRow : OpenClaim := { program := "ytlpbmnmhpknppaa", sum := "45d28f7c53367cfbb96797932335176ffe11807de660d1d8d37c56b5d26ab0b0", func := "loop.example/liftsandlights/laws.FnChangeTime", spec := "fnChangeTime", apart := false, narrowed := true }
def FnChangeTimeUptoSaid : Prop := fnChangeTimeUptoRow.holds Try.pinned (OpenSpec.upto fnChangeTimeSpec)

/-- 'laws.FnChangeTimeParts', WHERE WHAT IT READS IS OF BULK AT MOST 1048576: true; the input reads as it did. -/
def fnChangeTimePartsUptoRow : OpenClaim := { program := "ytlpbmnmhpknppaa", sum := "45d28f7c53367cfbb96797932335176ffe11807de660d1d8d37c56b5d26ab0b0", func := "loop.example/liftsandlights/laws.FnChangeTimeParts", spec := "fnChangeTimeParts", apart := false, narrowed := true }
def FnChangeTimePartsUptoSaid : Prop := fnChangeTimePartsUptoRow.holds Try.pinned (OpenSpec.upto fnChangeTimePartsSpec)

/-- 'laws.FnExactLostTime', WHERE WHAT IT READS IS OF BULK AT MOST 1048576: true; the input reads as it did. -/
def fnExactLostTimeUptoRow : OpenClaim := { program := "ytlpbmnmhpknppaa", sum := "45d28f7c53367cfbb96797932335176ffe11807de660d1d8d37c56b5d26ab0b0", func := "loop.example/liftsandlights/laws.FnExactLostTime", spec := "fnExactLostTime", apart := false, narrowed := true }
def FnExactLostTimeUptoSaid : Prop := fnExactLostTimeUptoRow.holds Try.pinned (OpenSpec.upto fnExactLostTimeSpec)

/-- 'laws.FnLostTimeOne', WHERE WHAT IT READS IS OF BULK AT MOST 1048576: true; the input reads as it did. -/
def fnLostTimeOneUptoRow : OpenClaim := { program := "ytlpbmnmhpknppaa", sum := "45d28f7c53367cfbb96797932335176ffe11807de660d1d8d37c56b5d26ab0b0", func := "loop.example/liftsandlights/laws.FnLostTimeOne", spec := "fnLostTimeOne", apart := false, narrowed := true }
def FnLostTimeOneUptoSaid : Prop := fnLostTimeOneUptoRow.holds Try.pinned (OpenSpec.upto fnLostTimeOneSpec)

/-- 'laws.FnLostTime', WHERE WHAT IT READS IS OF BULK AT MOST 1048576: true; the input reads as it did. -/
def fnLostTimeUptoRow : OpenClaim := { program := "ytlpbmnmhpknppaa", sum := "45d28f7c53367cfbb96797932335176ffe11807de660d1d8d37c56b5d26ab0b0", func := "loop.example/liftsandlights/laws.FnLostTime", spec := "fnLostTime", apart := false, narrowed := true }
def FnLostTimeUptoSaid : Prop := fnLostTimeUptoRow.holds Try.pinned (OpenSpec.upto fnLostTimeSpec)

/-- 'laws.FnExactBestOrder', WHERE WHAT IT READS IS OF BULK AT MOST 1048576: true; the input reads as it did. -/
def fnExactBestOrderUptoRow : OpenClaim := { program := "ytlpbmnmhpknppaa", sum := "45d28f7c53367cfbb96797932335176ffe11807de660d1d8d37c56b5d26ab0b0", func := "loop.example/liftsandlights/laws.FnExactBestOrder", spec := "fnExactBestOrder", unfollowed := true, recurses := true, apart := false, narrowed := true }
def FnExactBestOrderUptoSaid : Prop := fnExactBestOrderUptoRow.holds Try.pinned (OpenSpec.upto fnExactBestOrderSpec)

/-- 'laws.FnBestOrderBack', WHERE WHAT IT READS IS OF BULK AT MOST 1048576: true; the input reads as it did. -/
def fnBestOrderBackUptoRow : OpenClaim := { program := "ytlpbmnmhpknppaa", sum := "45d28f7c53367cfbb96797932335176ffe11807de660d1d8d37c56b5d26ab0b0", func := "loop.example/liftsandlights/laws.FnBestOrderBack", spec := "fnBestOrderBack", unfollowed := true, recurses := true, apart := false, narrowed := true }
def FnBestOrderBackUptoSaid : Prop := fnBestOrderBackUptoRow.holds Try.pinned (OpenSpec.upto fnBestOrderBackSpec)

/-- 'laws.FnBestOrder', WHERE WHAT IT READS IS OF BULK AT MOST 1048576: true; the input reads as it did. -/
def fnBestOrderUptoRow : OpenClaim := { program := "ytlpbmnmhpknppaa", sum := "45d28f7c53367cfbb96797932335176ffe11807de660d1d8d37c56b5d26ab0b0", func := "loop.example/liftsandlights/laws.FnBestOrder", spec := "fnBestOrder", unfollowed := true, recurses := true, apart := false, narrowed := true }
def FnBestOrderUptoSaid : Prop := fnBestOrderUptoRow.holds Try.pinned (OpenSpec.upto fnBestOrderSpec)

end Rows
end Go.Proofs.Ytlpbmnmhpknppaa
