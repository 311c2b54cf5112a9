/-
  No cell of these rows narrows 'for every input' (looked for: loops, veiled, ifaces, maps, wideKeys, modest, calm, conditions, laid).
  DERIVED. THE GIVEN ROWS OF THIS SEAT. 9 by the template 'for every input the law returns true; each argument reads behind the call as it read before'; 0 by the template 'total and deterministic' (their statements: YtbekpfaghimmeaaTotals.lean).
  GIVEN WITH THE SEED: the statements are not yours to turn. If you find one false, say at which input.
  Laid BY PROGRAM, IN A SANDBOX (cutbox-rows.mjs): the forced cells as the released guide's own fill.sh prints them over the translation 470f9a4fb88e4d1a… (all of the seat's roots in one cut). By AI agents, Wed Nov 11 2026. No macro, syntax, notation, axiom, sorry.
-/
import Derived.Test.YtbekpfaghimmeaaChecked
import GoSem.Claim
import GoSem.ClaimJoined
import GoSem.ClaimMapViews
import Derived.JoinedTies
import Derived.KernelRfl
namespace Go.Proofs.Ytbekpfaghimmeaa
/- THE CELL 'sum', in the pinned program and in every row, IS THE sha256 OF THE DUMP (.gsa) THAT YtbekpfaghimmeaaProg.lean LOADS. Nothing in Lean hashes anything: it is a label: what it is worth is what the hold of that sum in a sandbox is worth. -/
noncomputable def Try.pinned : Pinned := { name := "ytbekpfaghimmeaa", sum := "470f9a4fb88e4d1adde9452efac173df5894e5499bc65ce4dd519631b185bfeb", checked := Try.checked }
namespace Rows
def none {H : Type} : Left H := { results := [], args := [] }

/-- 'laws.FnExactValidPanel': WHATEVER THE INPUT: true; the input reads as it did. -/
def fnExactValidPanelSpec : ChangeSpec := { name := "fnExactValidPanel", fn := fun _ => fun
  | [d] => { results := [.lit (.bool true)], args := [d] }
  | _ => none }
def fnExactValidPanelRow : OpenClaim := { program := "ytbekpfaghimmeaa", sum := "470f9a4fb88e4d1adde9452efac173df5894e5499bc65ce4dd519631b185bfeb", func := "loop.example/liftsandlights/laws.FnExactValidPanel", spec := "fnExactValidPanel", apart := false }
def FnExactValidPanelSaid : Prop := fnExactValidPanelRow.holds Try.pinned (OpenSpec.ofChange fnExactValidPanelSpec)

/-- ITS FALSE NEIGHBOUR: 'it returns false'. Refute it at one input. -/
def fnExactValidPanelWrong : ChangeSpec := { name := "fnExactValidPanel", fn := fun _ => fun
  | [d] => { results := [.lit (.bool false)], args := [d] }
  | _ => none }
def FnExactValidPanelWrongFalsely : Prop := fnExactValidPanelRow.holds Try.pinned (OpenSpec.ofChange fnExactValidPanelWrong)

/-- 'laws.FnValidPanel': WHATEVER THE INPUT: true; the input reads as it did. -/
def fnValidPanelSpec : ChangeSpec := { name := "fnValidPanel", fn := fun _ => fun
  | [d] => { results := [.lit (.bool true)], args := [d] }
  | _ => none }
def fnValidPanelRow : OpenClaim := { program := "ytbekpfaghimmeaa", sum := "470f9a4fb88e4d1adde9452efac173df5894e5499bc65ce4dd519631b185bfeb", func := "loop.example/liftsandlights/laws.FnValidPanel", spec := "fnValidPanel", apart := false }
def FnValidPanelSaid : Prop := fnValidPanelRow.holds Try.pinned (OpenSpec.ofChange fnValidPanelSpec)

/-- ITS FALSE NEIGHBOUR: 'it returns false'. Refute it at one input. -/
def fnValidPanelWrong : ChangeSpec := { name := "fnValidPanel", fn := fun _ => fun
  | [d] => { results := [.lit (.bool false)], args := [d] }
  | _ => none }
def FnValidPanelWrongFalsely : Prop := fnValidPanelRow.holds Try.pinned (OpenSpec.ofChange fnValidPanelWrong)

/-- 'laws.FnExactPressPanel': WHATEVER THE INPUT: true; the input reads as it did. -/
def fnExactPressPanelSpec : ChangeSpec := { name := "fnExactPressPanel", fn := fun _ => fun
  | [d1, d2] => { results := [.lit (.bool true)], args := [d1, d2] }
  | _ => none }
def fnExactPressPanelRow : OpenClaim := { program := "ytbekpfaghimmeaa", sum := "470f9a4fb88e4d1adde9452efac173df5894e5499bc65ce4dd519631b185bfeb", func := "loop.example/liftsandlights/laws.FnExactPressPanel", spec := "fnExactPressPanel", apart := false }
def FnExactPressPanelSaid : Prop := fnExactPressPanelRow.holds Try.pinned (OpenSpec.ofChange fnExactPressPanelSpec)

/-- ITS FALSE NEIGHBOUR: 'it returns false'. Refute it at one input. -/
def fnExactPressPanelWrong : ChangeSpec := { name := "fnExactPressPanel", fn := fun _ => fun
  | [d1, d2] => { results := [.lit (.bool false)], args := [d1, d2] }
  | _ => none }
def FnExactPressPanelWrongFalsely : Prop := fnExactPressPanelRow.holds Try.pinned (OpenSpec.ofChange fnExactPressPanelWrong)

/-- 'laws.FnExactRescueTime': WHATEVER THE INPUT: true; the input reads as it did. -/
def fnExactRescueTimeSpec : ChangeSpec := { name := "fnExactRescueTime", fn := fun _ => fun
  | [d] => { results := [.lit (.bool true)], args := [d] }
  | _ => none }
def fnExactRescueTimeRow : OpenClaim := { program := "ytbekpfaghimmeaa", sum := "470f9a4fb88e4d1adde9452efac173df5894e5499bc65ce4dd519631b185bfeb", func := "loop.example/liftsandlights/laws.FnExactRescueTime", spec := "fnExactRescueTime", apart := false }
def FnExactRescueTimeSaid : Prop := fnExactRescueTimeRow.holds Try.pinned (OpenSpec.ofChange fnExactRescueTimeSpec)

/-- ITS FALSE NEIGHBOUR: 'it returns false'. Refute it at one input. -/
def fnExactRescueTimeWrong : ChangeSpec := { name := "fnExactRescueTime", fn := fun _ => fun
  | [d] => { results := [.lit (.bool false)], args := [d] }
  | _ => none }
def FnExactRescueTimeWrongFalsely : Prop := fnExactRescueTimeRow.holds Try.pinned (OpenSpec.ofChange fnExactRescueTimeWrong)

/-- 'laws.FnPressPanelDoor': WHATEVER THE INPUT: true; the input reads as it did. -/
def fnPressPanelDoorSpec : ChangeSpec := { name := "fnPressPanelDoor", fn := fun _ => fun
  | [d] => { results := [.lit (.bool true)], args := [d] }
  | _ => none }
def fnPressPanelDoorRow : OpenClaim := { program := "ytbekpfaghimmeaa", sum := "470f9a4fb88e4d1adde9452efac173df5894e5499bc65ce4dd519631b185bfeb", func := "loop.example/liftsandlights/laws.FnPressPanelDoor", spec := "fnPressPanelDoor", apart := false }
def FnPressPanelDoorSaid : Prop := fnPressPanelDoorRow.holds Try.pinned (OpenSpec.ofChange fnPressPanelDoorSpec)

/-- ITS FALSE NEIGHBOUR: 'it returns false'. Refute it at one input. -/
def fnPressPanelDoorWrong : ChangeSpec := { name := "fnPressPanelDoor", fn := fun _ => fun
  | [d] => { results := [.lit (.bool false)], args := [d] }
  | _ => none }
def FnPressPanelDoorWrongFalsely : Prop := fnPressPanelDoorRow.holds Try.pinned (OpenSpec.ofChange fnPressPanelDoorWrong)

/-- 'laws.FnPressPanelFire': WHATEVER THE INPUT: true; the input reads as it did. -/
def fnPressPanelFireSpec : ChangeSpec := { name := "fnPressPanelFire", fn := fun _ => fun
  | [d] => { results := [.lit (.bool true)], args := [d] }
  | _ => none }
def fnPressPanelFireRow : OpenClaim := { program := "ytbekpfaghimmeaa", sum := "470f9a4fb88e4d1adde9452efac173df5894e5499bc65ce4dd519631b185bfeb", func := "loop.example/liftsandlights/laws.FnPressPanelFire", spec := "fnPressPanelFire", apart := false }
def FnPressPanelFireSaid : Prop := fnPressPanelFireRow.holds Try.pinned (OpenSpec.ofChange fnPressPanelFireSpec)

/-- ITS FALSE NEIGHBOUR: 'it returns false'. Refute it at one input. -/
def fnPressPanelFireWrong : ChangeSpec := { name := "fnPressPanelFire", fn := fun _ => fun
  | [d] => { results := [.lit (.bool false)], args := [d] }
  | _ => none }
def FnPressPanelFireWrongFalsely : Prop := fnPressPanelFireRow.holds Try.pinned (OpenSpec.ofChange fnPressPanelFireWrong)

/-- 'laws.FnPressPanelRise': WHATEVER THE INPUT: true; the input reads as it did. -/
def fnPressPanelRiseSpec : ChangeSpec := { name := "fnPressPanelRise", fn := fun _ => fun
  | [d] => { results := [.lit (.bool true)], args := [d] }
  | _ => none }
def fnPressPanelRiseRow : OpenClaim := { program := "ytbekpfaghimmeaa", sum := "470f9a4fb88e4d1adde9452efac173df5894e5499bc65ce4dd519631b185bfeb", func := "loop.example/liftsandlights/laws.FnPressPanelRise", spec := "fnPressPanelRise", apart := false }
def FnPressPanelRiseSaid : Prop := fnPressPanelRiseRow.holds Try.pinned (OpenSpec.ofChange fnPressPanelRiseSpec)

/-- ITS FALSE NEIGHBOUR: 'it returns false'. Refute it at one input. -/
def fnPressPanelRiseWrong : ChangeSpec := { name := "fnPressPanelRise", fn := fun _ => fun
  | [d] => { results := [.lit (.bool false)], args := [d] }
  | _ => none }
def FnPressPanelRiseWrongFalsely : Prop := fnPressPanelRiseRow.holds Try.pinned (OpenSpec.ofChange fnPressPanelRiseWrong)

/-- 'laws.FnPressPanelTwice': WHATEVER THE INPUT: true; the input reads as it did. -/
def fnPressPanelTwiceSpec : ChangeSpec := { name := "fnPressPanelTwice", fn := fun _ => fun
  | [d] => { results := [.lit (.bool true)], args := [d] }
  | _ => none }
def fnPressPanelTwiceRow : OpenClaim := { program := "ytbekpfaghimmeaa", sum := "470f9a4fb88e4d1adde9452efac173df5894e5499bc65ce4dd519631b185bfeb", func := "loop.example/liftsandlights/laws.FnPressPanelTwice", spec := "fnPressPanelTwice", apart := false }
def FnPressPanelTwiceSaid : Prop := fnPressPanelTwiceRow.holds Try.pinned (OpenSpec.ofChange fnPressPanelTwiceSpec)

/-- ITS FALSE NEIGHBOUR: 'it returns false'. Refute it at one input. -/
def fnPressPanelTwiceWrong : ChangeSpec := { name := "fnPressPanelTwice", fn := fun _ => fun
  | [d] => { results := [.lit (.bool false)], args := [d] }
  | _ => none }
def FnPressPanelTwiceWrongFalsely : Prop := fnPressPanelTwiceRow.holds Try.pinned (OpenSpec.ofChange fnPressPanelTwiceWrong)

/-- 'laws.FnRescueTime': WHATEVER THE INPUT: true; the input reads as it did. -/
def fnRescueTimeSpec : ChangeSpec := { name := "fnRescueTime", fn := fun _ => fun
  | [d] => { results := [.lit (.bool true)], args := [d] }
  | _ => none }
def fnRescueTimeRow : OpenClaim := { program := "ytbekpfaghimmeaa", sum := "470f9a4fb88e4d1adde9452efac173df5894e5499bc65ce4dd519631b185bfeb", func := "loop.example/liftsandlights/laws.FnRescueTime", spec := "fnRescueTime", apart := false }
def FnRescueTimeSaid : Prop := fnRescueTimeRow.holds Try.pinned (OpenSpec.ofChange fnRescueTimeSpec)

/-- ITS FALSE NEIGHBOUR: 'it returns false'. Refute it at one input. -/
def fnRescueTimeWrong : ChangeSpec := { name := "fnRescueTime", fn := fun _ => fun
  | [d] => { results := [.lit (.bool false)], args := [d] }
  | _ => none }
def FnRescueTimeWrongFalsely : Prop := fnRescueTimeRow.holds Try.pinned (OpenSpec.ofChange fnRescueTimeWrong)

/- THE SECOND FORM. 'bulk': how many values and letters a reading holds, each counted each time it is reached (what is shared counts as often as it is met; a slice's spare places count too). A statement '..UptoSaid' is the law's where the arguments, and the package variables that the reading takes, are together of bulk at most 1048576: NARROWER than '..Said'. Prove '..Said' where nothing that the law and all that it calls make is longer than what came in: it says more and counts as full. Else prove '..UptoSaid'. A law counts once. -/
mutual
def uptoBulk {H : Type} : DataW H → Nat
  | .lit (.string bytes) => bytes.length + 1
  | .lit _ => 1
  | .nil => 1
  | .ptr d => uptoBulk d + 1
  | .slice elems spare => uptoBulkAll elems + uptoBulkAll spare + 1
  | .agg parts => uptoBulkAll parts + 1
  | .iface _ d => uptoBulk d + 1
  | .map entries => uptoBulkEntries entries + 1
  | .held _ => 1
def uptoBulkAll {H : Type} : List (DataW H) → Nat
  | [] => 0
  | d :: r => uptoBulk d + uptoBulkAll r
def uptoBulkEntries {H : Type} : List (Lit × DataW H) → Nat
  | [] => 0
  | x :: r => uptoBulkEntry x + uptoBulkEntries r
def uptoBulkEntry {H : Type} : Lit × DataW H → Nat
  | (.string bytes, d) => bytes.length + uptoBulk d + 1
  | (_, d) => uptoBulk d + 1
 end
def uptoSmall : (H : Type) → List (DataW H) → Bool := fun _ ds => decide (uptoBulkAll ds ≤ 1048576)
def OpenSpec.upto (s : _root_.Go.ChangeSpec) : _root_.Go.OpenSpec := { _root_.Go.OpenSpec.ofChange s with cond := some uptoSmall }

/-- 'laws.FnExactValidPanel', WHERE WHAT IT READS IS OF BULK AT MOST 1048576: true; the input reads as it did. -/
def fnExactValidPanelUptoRow : OpenClaim := { program := "ytbekpfaghimmeaa", sum := "470f9a4fb88e4d1adde9452efac173df5894e5499bc65ce4dd519631b185bfeb", func := "loop.example/liftsandlights/laws.FnExactValidPanel", spec := "fnExactValidPanel", apart := false, narrowed := true }
def FnExactValidPanelUptoSaid : Prop := fnExactValidPanelUptoRow.holds Try.pinned (OpenSpec.upto fnExactValidPanelSpec)

/-- 'laws.FnValidPanel', WHERE WHAT IT READS IS OF BULK AT MOST 1048576: true; the input reads as it did. -/
def fnValidPanelUptoRow : OpenClaim := { program := "ytbekpfaghimmeaa", sum := "470f9a4fb88e4d1adde9452efac173df5894e5499bc65ce4dd519631b185bfeb", func := "loop.example/liftsandlights/laws.FnValidPanel", spec := "fnValidPanel", apart := false, narrowed := true }
def FnValidPanelUptoSaid : Prop := fnValidPanelUptoRow.holds Try.pinned (OpenSpec.upto fnValidPanelSpec)

/-- 'laws.FnExactPressPanel', WHERE WHAT IT READS IS OF BULK AT MOST 1048576: true; the input reads as it did. -/
def fnExactPressPanelUptoRow : OpenClaim := { program := "ytbekpfaghimmeaa", sum := "470f9a4fb88e4d1adde9452efac173df5894e5499bc65ce4dd519631b185bfeb", func := "loop.example/liftsandlights/laws.FnExactPressPanel", spec := "fnExactPressPanel", apart := false, narrowed := true }
def FnExactPressPanelUptoSaid : Prop := fnExactPressPanelUptoRow.holds Try.pinned (OpenSpec.upto fnExactPressPanelSpec)

/-- 'laws.FnExactRescueTime', WHERE WHAT IT READS IS OF BULK AT MOST 1048576: true; the input reads as it did. -/
def fnExactRescueTimeUptoRow : OpenClaim := { program := "ytbekpfaghimmeaa", sum := "470f9a4fb88e4d1adde9452efac173df5894e5499bc65ce4dd519631b185bfeb", func := "loop.example/liftsandlights/laws.FnExactRescueTime", spec := "fnExactRescueTime", apart := false, narrowed := true }
def FnExactRescueTimeUptoSaid : Prop := fnExactRescueTimeUptoRow.holds Try.pinned (OpenSpec.upto fnExactRescueTimeSpec)

/-- 'laws.FnPressPanelDoor', WHERE WHAT IT READS IS OF BULK AT MOST 1048576: true; the input reads as it did. -/
def fnPressPanelDoorUptoRow : OpenClaim := { program := "ytbekpfaghimmeaa", sum := "470f9a4fb88e4d1adde9452efac173df5894e5499bc65ce4dd519631b185bfeb", func := "loop.example/liftsandlights/laws.FnPressPanelDoor", spec := "fnPressPanelDoor", apart := false, narrowed := true }
def FnPressPanelDoorUptoSaid : Prop := fnPressPanelDoorUptoRow.holds Try.pinned (OpenSpec.upto fnPressPanelDoorSpec)

/-- 'laws.FnPressPanelFire', WHERE WHAT IT READS IS OF BULK AT MOST 1048576: true; the input reads as it did. -/
def fnPressPanelFireUptoRow : OpenClaim := { program := "ytbekpfaghimmeaa", sum := "470f9a4fb88e4d1adde9452efac173df5894e5499bc65ce4dd519631b185bfeb", func := "loop.example/liftsandlights/laws.FnPressPanelFire", spec := "fnPressPanelFire", apart := false, narrowed := true }
def FnPressPanelFireUptoSaid : Prop := fnPressPanelFireUptoRow.holds Try.pinned (OpenSpec.upto fnPressPanelFireSpec)

/-- 'laws.FnPressPanelRise', WHERE WHAT IT READS IS OF BULK AT MOST 1048576: true; the input reads as it did. -/
def fnPressPanelRiseUptoRow : OpenClaim := { program := "ytbekpfaghimmeaa", sum := "470f9a4fb88e4d1adde9452efac173df5894e5499bc65ce4dd519631b185bfeb", func := "loop.example/liftsandlights/laws.FnPressPanelRise", spec := "fnPressPanelRise", apart := false, narrowed := true }
def FnPressPanelRiseUptoSaid : Prop := fnPressPanelRiseUptoRow.holds Try.pinned (OpenSpec.upto fnPressPanelRiseSpec)

/-- 'laws.FnPressPanelTwice', WHERE WHAT IT READS IS OF BULK AT MOST 1048576: true; the input reads as it did. -/
def fnPressPanelTwiceUptoRow : OpenClaim := { program := "ytbekpfaghimmeaa", sum := "470f9a4fb88e4d1adde9452efac173df5894e5499bc65ce4dd519631b185bfeb", func := "loop.example/liftsandlights/laws.FnPressPanelTwice", spec := "fnPressPanelTwice", apart := false, narrowed := true }
def FnPressPanelTwiceUptoSaid : Prop := fnPressPanelTwiceUptoRow.holds Try.pinned (OpenSpec.upto fnPressPanelTwiceSpec)

/-- 'laws.FnRescueTime', WHERE WHAT IT READS IS OF BULK AT MOST 1048576: true; the input reads as it did. -/
def fnRescueTimeUptoRow : OpenClaim := { program := "ytbekpfaghimmeaa", sum := "470f9a4fb88e4d1adde9452efac173df5894e5499bc65ce4dd519631b185bfeb", func := "loop.example/liftsandlights/laws.FnRescueTime", spec := "fnRescueTime", apart := false, narrowed := true }
def FnRescueTimeUptoSaid : Prop := fnRescueTimeUptoRow.holds Try.pinned (OpenSpec.upto fnRescueTimeSpec)

end Rows
end Go.Proofs.Ytbekpfaghimmeaa
