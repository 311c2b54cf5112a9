/-
  No cell of these rows narrows 'for every input' (looked for: loops, veiled, ifaces, maps, wideKeys, modest, calm, conditions, laid).
  DERIVED. THE GIVEN ROWS OF THIS SEAT. 5 by the template 'for every input the law returns true; each argument reads behind the call as it read before'; 0 by the template 'total and deterministic' (their statements: YtafhjkhpibpldaaTotals.lean).
  GIVEN WITH THE SEED: the statements are not yours to turn. If you find one false, say at which input.
  Laid BY PROGRAM, IN A SANDBOX (cutbox-rows.mjs): the forced cells as the released guide's own fill.sh prints them over the translation 74dac9de3b237161… (all of the seat's roots in one cut). By AI agents, Wed Nov 11 2026. No macro, syntax, notation, axiom, sorry.
-/
import Derived.Test.YtafhjkhpibpldaaChecked
import GoSem.Claim
import GoSem.ClaimJoined
import GoSem.ClaimMapViews
import Derived.JoinedTies
import Derived.KernelRfl
namespace Go.Proofs.Ytafhjkhpibpldaa
/- THE CELL 'sum', in the pinned program and in every row, IS THE sha256 OF THE DUMP (.gsa) THAT YtafhjkhpibpldaaProg.lean LOADS. Nothing in Lean hashes anything: it is a label: what it is worth is what the hold of that sum in a sandbox is worth. -/
noncomputable def Try.pinned : Pinned := { name := "ytafhjkhpibpldaa", sum := "74dac9de3b23716163843b668830761efa0b2c9c2d2ed33e1eee18d77d631690", checked := Try.checked }
namespace Rows
def none {H : Type} : Left H := { results := [], args := [] }

/-- 'laws.FnExactFirstBadLamp': WHATEVER THE INPUT: true; the input reads as it did. -/
def fnExactFirstBadLampSpec : ChangeSpec := { name := "fnExactFirstBadLamp", fn := fun _ => fun
  | [d] => { results := [.lit (.bool true)], args := [d] }
  | _ => none }
def fnExactFirstBadLampRow : OpenClaim := { program := "ytafhjkhpibpldaa", sum := "74dac9de3b23716163843b668830761efa0b2c9c2d2ed33e1eee18d77d631690", func := "loop.example/liftsandlights/laws.FnExactFirstBadLamp", spec := "fnExactFirstBadLamp", apart := false }
def FnExactFirstBadLampSaid : Prop := fnExactFirstBadLampRow.holds Try.pinned (OpenSpec.ofChange fnExactFirstBadLampSpec)

/-- ITS FALSE NEIGHBOUR: 'it returns false'. Refute it at one input. -/
def fnExactFirstBadLampWrong : ChangeSpec := { name := "fnExactFirstBadLamp", fn := fun _ => fun
  | [d] => { results := [.lit (.bool false)], args := [d] }
  | _ => none }
def FnExactFirstBadLampWrongFalsely : Prop := fnExactFirstBadLampRow.holds Try.pinned (OpenSpec.ofChange fnExactFirstBadLampWrong)

/-- 'laws.FnExactGreensOf': WHATEVER THE INPUT: true; the input reads as it did. -/
def fnExactGreensOfSpec : ChangeSpec := { name := "fnExactGreensOf", fn := fun _ => fun
  | [d] => { results := [.lit (.bool true)], args := [d] }
  | _ => none }
def fnExactGreensOfRow : OpenClaim := { program := "ytafhjkhpibpldaa", sum := "74dac9de3b23716163843b668830761efa0b2c9c2d2ed33e1eee18d77d631690", func := "loop.example/liftsandlights/laws.FnExactGreensOf", spec := "fnExactGreensOf", apart := false }
def FnExactGreensOfSaid : Prop := fnExactGreensOfRow.holds Try.pinned (OpenSpec.ofChange fnExactGreensOfSpec)

/-- ITS FALSE NEIGHBOUR: 'it returns false'. Refute it at one input. -/
def fnExactGreensOfWrong : ChangeSpec := { name := "fnExactGreensOf", fn := fun _ => fun
  | [d] => { results := [.lit (.bool false)], args := [d] }
  | _ => none }
def FnExactGreensOfWrongFalsely : Prop := fnExactGreensOfRow.holds Try.pinned (OpenSpec.ofChange fnExactGreensOfWrong)

/-- 'laws.FnExactLampsOf': WHATEVER THE INPUT: true; the input reads as it did. -/
def fnExactLampsOfSpec : ChangeSpec := { name := "fnExactLampsOf", fn := fun _ => fun
  | [d] => { results := [.lit (.bool true)], args := [d] }
  | _ => none }
def fnExactLampsOfRow : OpenClaim := { program := "ytafhjkhpibpldaa", sum := "74dac9de3b23716163843b668830761efa0b2c9c2d2ed33e1eee18d77d631690", func := "loop.example/liftsandlights/laws.FnExactLampsOf", spec := "fnExactLampsOf", inPlace := ["internal/abi.NoEscape"], apart := false }
def FnExactLampsOfSaid : Prop := fnExactLampsOfRow.holds Try.pinned (OpenSpec.ofChange fnExactLampsOfSpec)

/-- ITS FALSE NEIGHBOUR: 'it returns false'. Refute it at one input. -/
def fnExactLampsOfWrong : ChangeSpec := { name := "fnExactLampsOf", fn := fun _ => fun
  | [d] => { results := [.lit (.bool false)], args := [d] }
  | _ => none }
def FnExactLampsOfWrongFalsely : Prop := fnExactLampsOfRow.holds Try.pinned (OpenSpec.ofChange fnExactLampsOfWrong)

/-- 'laws.FnLampsOfGreen': WHATEVER THE INPUT: true; the input reads as it did. -/
def fnLampsOfGreenSpec : ChangeSpec := { name := "fnLampsOfGreen", fn := fun _ => fun
  | [d] => { results := [.lit (.bool true)], args := [d] }
  | _ => none }
def fnLampsOfGreenRow : OpenClaim := { program := "ytafhjkhpibpldaa", sum := "74dac9de3b23716163843b668830761efa0b2c9c2d2ed33e1eee18d77d631690", func := "loop.example/liftsandlights/laws.FnLampsOfGreen", spec := "fnLampsOfGreen", inPlace := ["internal/abi.NoEscape"], apart := false }
def FnLampsOfGreenSaid : Prop := fnLampsOfGreenRow.holds Try.pinned (OpenSpec.ofChange fnLampsOfGreenSpec)

/-- ITS FALSE NEIGHBOUR: 'it returns false'. Refute it at one input. -/
def fnLampsOfGreenWrong : ChangeSpec := { name := "fnLampsOfGreen", fn := fun _ => fun
  | [d] => { results := [.lit (.bool false)], args := [d] }
  | _ => none }
def FnLampsOfGreenWrongFalsely : Prop := fnLampsOfGreenRow.holds Try.pinned (OpenSpec.ofChange fnLampsOfGreenWrong)

/-- 'laws.FnLampsOfYellow': WHATEVER THE INPUT: true; the input reads as it did. -/
def fnLampsOfYellowSpec : ChangeSpec := { name := "fnLampsOfYellow", fn := fun _ => fun
  | [d] => { results := [.lit (.bool true)], args := [d] }
  | _ => none }
def fnLampsOfYellowRow : OpenClaim := { program := "ytafhjkhpibpldaa", sum := "74dac9de3b23716163843b668830761efa0b2c9c2d2ed33e1eee18d77d631690", func := "loop.example/liftsandlights/laws.FnLampsOfYellow", spec := "fnLampsOfYellow", inPlace := ["internal/abi.NoEscape"], apart := false }
def FnLampsOfYellowSaid : Prop := fnLampsOfYellowRow.holds Try.pinned (OpenSpec.ofChange fnLampsOfYellowSpec)

/-- ITS FALSE NEIGHBOUR: 'it returns false'. Refute it at one input. -/
def fnLampsOfYellowWrong : ChangeSpec := { name := "fnLampsOfYellow", fn := fun _ => fun
  | [d] => { results := [.lit (.bool false)], args := [d] }
  | _ => none }
def FnLampsOfYellowWrongFalsely : Prop := fnLampsOfYellowRow.holds Try.pinned (OpenSpec.ofChange fnLampsOfYellowWrong)

/- THE SECOND FORM. 'bulk': how many values and letters a reading holds, each counted each time it is reached (what is shared counts as often as it is met; a slice's spare places count too). A statement '..UptoSaid' is the law's where the arguments, and the package variables that the reading takes, are together of bulk at most 1048576: NARROWER than '..Said'. Prove '..Said' where nothing that the law and all that it calls make is longer than what came in: it says more and counts as full. Else prove '..UptoSaid'. A law counts once. -/
mutual
def uptoBulk {H : Type} : DataW H → Nat
  | .lit (.string bytes) => bytes.length + 1
  | .lit _ => 1
  | .nil => 1
  | .ptr d => uptoBulk d + 1
  | .slice elems spare => uptoBulkAll elems + uptoBulkAll spare + 1
  | .agg parts => uptoBulkAll parts + 1
  | .iface _ d => uptoBulk d + 1
  | .map entries => uptoBulkEntries entries + 1
  | .held _ => 1
def uptoBulkAll {H : Type} : List (DataW H) → Nat
  | [] => 0
  | d :: r => uptoBulk d + uptoBulkAll r
def uptoBulkEntries {H : Type} : List (Lit × DataW H) → Nat
  | [] => 0
  | x :: r => uptoBulkEntry x + uptoBulkEntries r
def uptoBulkEntry {H : Type} : Lit × DataW H → Nat
  | (.string bytes, d) => bytes.length + uptoBulk d + 1
  | (_, d) => uptoBulk d + 1
 end
def uptoSmall : (H : Type) → List (DataW H) → Bool := fun _ ds => decide (uptoBulkAll ds ≤ 1048576)
def OpenSpec.upto (s : _root_.Go.ChangeSpec) : _root_.Go.OpenSpec := { _root_.Go.OpenSpec.ofChange s with cond := some uptoSmall }

/-- 'laws.FnExactFirstBadLamp', WHERE WHAT IT READS IS OF BULK AT MOST 1048576: true; the input reads as it did. -/
def fnExactFirstBadLampUptoRow : OpenClaim := { program := "ytafhjkhpibpldaa", sum := "74dac9de3b23716163843b668830761efa0b2c9c2d2ed33e1eee18d77d631690", func := "loop.example/liftsandlights/laws.FnExactFirstBadLamp", spec := "fnExactFirstBadLamp", apart := false, narrowed := true }
def FnExactFirstBadLampUptoSaid : Prop := fnExactFirstBadLampUptoRow.holds Try.pinned (OpenSpec.upto fnExactFirstBadLampSpec)

/-- 'laws.FnExactGreensOf', WHERE WHAT IT READS IS OF BULK AT MOST 1048576: true; the input reads as it did. -/
def fnExactGreensOfUptoRow : OpenClaim := { program := "ytafhjkhpibpldaa", sum := "74dac9de3b23716163843b668830761efa0b2c9c2d2ed33e1eee18d77d631690", func := "loop.example/liftsandlights/laws.FnExactGreensOf", spec := "fnExactGreensOf", apart := false, narrowed := true }
def FnExactGreensOfUptoSaid : Prop := fnExactGreensOfUptoRow.holds Try.pinned (OpenSpec.upto fnExactGreensOfSpec)

/-- 'laws.FnExactLampsOf', WHERE WHAT IT READS IS OF BULK AT MOST 1048576: true; the input reads as it did. -/
def fnExactLampsOfUptoRow : OpenClaim := { program := "ytafhjkhpibpldaa", sum := "74dac9de3b23716163843b668830761efa0b2c9c2d2ed33e1eee18d77d631690", func := "loop.example/liftsandlights/laws.FnExactLampsOf", spec := "fnExactLampsOf", inPlace := ["internal/abi.NoEscape"], apart := false, narrowed := true }
def FnExactLampsOfUptoSaid : Prop := fnExactLampsOfUptoRow.holds Try.pinned (OpenSpec.upto fnExactLampsOfSpec)

/-- 'laws.FnLampsOfGreen', WHERE WHAT IT READS IS OF BULK AT MOST 1048576: true; the input reads as it did. -/
def fnLampsOfGreenUptoRow : OpenClaim := { program := "ytafhjkhpibpldaa", sum := "74dac9de3b23716163843b668830761efa0b2c9c2d2ed33e1eee18d77d631690", func := "loop.example/liftsandlights/laws.FnLampsOfGreen", spec := "fnLampsOfGreen", inPlace := ["internal/abi.NoEscape"], apart := false, narrowed := true }
def FnLampsOfGreenUptoSaid : Prop := fnLampsOfGreenUptoRow.holds Try.pinned (OpenSpec.upto fnLampsOfGreenSpec)

/-- 'laws.FnLampsOfYellow', WHERE WHAT IT READS IS OF BULK AT MOST 1048576: true; the input reads as it did. -/
def fnLampsOfYellowUptoRow : OpenClaim := { program := "ytafhjkhpibpldaa", sum := "74dac9de3b23716163843b668830761efa0b2c9c2d2ed33e1eee18d77d631690", func := "loop.example/liftsandlights/laws.FnLampsOfYellow", spec := "fnLampsOfYellow", inPlace := ["internal/abi.NoEscape"], apart := false, narrowed := true }
def FnLampsOfYellowUptoSaid : Prop := fnLampsOfYellowUptoRow.holds Try.pinned (OpenSpec.upto fnLampsOfYellowSpec)

end Rows
end Go.Proofs.Ytafhjkhpibpldaa
