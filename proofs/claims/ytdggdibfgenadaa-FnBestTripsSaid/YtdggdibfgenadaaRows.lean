/-
  No cell of these rows narrows 'for every input' (looked for: loops, veiled, ifaces, maps, wideKeys, modest, calm, conditions, laid).
  DERIVED. THE GIVEN ROWS OF THIS SEAT. 8 by the template 'for every input the law returns true; each argument reads behind the call as it read before'; 0 by the template 'total and deterministic' (their statements: YtdggdibfgenadaaTotals.lean).
  GIVEN WITH THE SEED: the statements are not yours to turn. If you find one false, say at which input.
  Laid BY PROGRAM, IN A SANDBOX (cutbox-rows.mjs): the forced cells as the released guide's own fill.sh prints them over the translation 2a3ab220f2b40ce8… (all of the seat's roots in one cut). By AI agents, Wed Nov 11 2026. No macro, syntax, notation, axiom, sorry.
-/
import Derived.Test.YtdggdibfgenadaaChecked
import GoSem.Claim
import GoSem.ClaimJoined
import GoSem.ClaimMapViews
import Derived.JoinedTies
import Derived.KernelRfl
namespace Go.Proofs.Ytdggdibfgenadaa
/- THE CELL 'sum', in the pinned program and in every row, IS THE sha256 OF THE DUMP (.gsa) THAT YtdggdibfgenadaaProg.lean LOADS. Nothing in Lean hashes anything: it is a label: what it is worth is what the hold of that sum in a sandbox is worth. -/
noncomputable def Try.pinned : Pinned := { name := "ytdggdibfgenadaa", sum := "2a3ab220f2b40ce858b552d08b08c2bcb6c91116f04fa4615262ccc8584f834d", checked := Try.checked }
namespace Rows
def none {H : Type} : Left H := { results := [], args := [] }

/-- 'laws.FnExactTripTime': WHATEVER THE INPUT: true; the input reads as it did. -/
def fnExactTripTimeSpec : ChangeSpec := { name := "fnExactTripTime", fn := fun _ => fun
  | [d] => { results := [.lit (.bool true)], args := [d] }
  | _ => none }
def fnExactTripTimeRow : OpenClaim := { program := "ytdggdibfgenadaa", sum := "2a3ab220f2b40ce858b552d08b08c2bcb6c91116f04fa4615262ccc8584f834d", func := "loop.example/liftsandlights/laws.FnExactTripTime", spec := "fnExactTripTime", apart := false }
def FnExactTripTimeSaid : Prop := fnExactTripTimeRow.holds Try.pinned (OpenSpec.ofChange fnExactTripTimeSpec)

/-- ITS FALSE NEIGHBOUR: 'it returns false'. Refute it at one input. -/
def fnExactTripTimeWrong : ChangeSpec := { name := "fnExactTripTime", fn := fun _ => fun
  | [d] => { results := [.lit (.bool false)], args := [d] }
  | _ => none }
def FnExactTripTimeWrongFalsely : Prop := fnExactTripTimeRow.holds Try.pinned (OpenSpec.ofChange fnExactTripTimeWrong)

/-- 'laws.FnExactTripsTime': WHATEVER THE INPUT: true; the input reads as it did. -/
def fnExactTripsTimeSpec : ChangeSpec := { name := "fnExactTripsTime", fn := fun _ => fun
  | [d1, d2] => { results := [.lit (.bool true)], args := [d1, d2] }
  | _ => none }
def fnExactTripsTimeRow : OpenClaim := { program := "ytdggdibfgenadaa", sum := "2a3ab220f2b40ce858b552d08b08c2bcb6c91116f04fa4615262ccc8584f834d", func := "loop.example/liftsandlights/laws.FnExactTripsTime", spec := "fnExactTripsTime", apart := false }
def FnExactTripsTimeSaid : Prop := fnExactTripsTimeRow.holds Try.pinned (OpenSpec.ofChange fnExactTripsTimeSpec)

/-- ITS FALSE NEIGHBOUR: 'it returns false'. Refute it at one input. -/
def fnExactTripsTimeWrong : ChangeSpec := { name := "fnExactTripsTime", fn := fun _ => fun
  | [d1, d2] => { results := [.lit (.bool false)], args := [d1, d2] }
  | _ => none }
def FnExactTripsTimeWrongFalsely : Prop := fnExactTripsTimeRow.holds Try.pinned (OpenSpec.ofChange fnExactTripsTimeWrong)

/-- 'laws.FnTripTime': WHATEVER THE INPUT: true; the input reads as it did. -/
def fnTripTimeSpec : ChangeSpec := { name := "fnTripTime", fn := fun _ => fun
  | [d] => { results := [.lit (.bool true)], args := [d] }
  | _ => none }
def fnTripTimeRow : OpenClaim := { program := "ytdggdibfgenadaa", sum := "2a3ab220f2b40ce858b552d08b08c2bcb6c91116f04fa4615262ccc8584f834d", func := "loop.example/liftsandlights/laws.FnTripTime", spec := "fnTripTime", apart := false }
def FnTripTimeSaid : Prop := fnTripTimeRow.holds Try.pinned (OpenSpec.ofChange fnTripTimeSpec)

/-- ITS FALSE NEIGHBOUR: 'it returns false'. Refute it at one input. -/
def fnTripTimeWrong : ChangeSpec := { name := "fnTripTime", fn := fun _ => fun
  | [d] => { results := [.lit (.bool false)], args := [d] }
  | _ => none }
def FnTripTimeWrongFalsely : Prop := fnTripTimeRow.holds Try.pinned (OpenSpec.ofChange fnTripTimeWrong)

/-- 'laws.FnTripTimeParts': WHATEVER THE INPUT: true; the input reads as it did. -/
def fnTripTimePartsSpec : ChangeSpec := { name := "fnTripTimeParts", fn := fun _ => fun
  | [d] => { results := [.lit (.bool true)], args := [d] }
  | _ => none }
def fnTripTimePartsRow : OpenClaim := { program := "ytdggdibfgenadaa", sum := "2a3ab220f2b40ce858b552d08b08c2bcb6c91116f04fa4615262ccc8584f834d", func := "loop.example/liftsandlights/laws.FnTripTimeParts", spec := "fnTripTimeParts", apart := false }
def FnTripTimePartsSaid : Prop := fnTripTimePartsRow.holds Try.pinned (OpenSpec.ofChange fnTripTimePartsSpec)

/-- ITS FALSE NEIGHBOUR: 'it returns false'. Refute it at one input. -/
def fnTripTimePartsWrong : ChangeSpec := { name := "fnTripTimeParts", fn := fun _ => fun
  | [d] => { results := [.lit (.bool false)], args := [d] }
  | _ => none }
def FnTripTimePartsWrongFalsely : Prop := fnTripTimePartsRow.holds Try.pinned (OpenSpec.ofChange fnTripTimePartsWrong)

/-- 'laws.FnTripsTime': WHATEVER THE INPUT: true; the input reads as it did. -/
def fnTripsTimeSpec : ChangeSpec := { name := "fnTripsTime", fn := fun _ => fun
  | [d] => { results := [.lit (.bool true)], args := [d] }
  | _ => none }
def fnTripsTimeRow : OpenClaim := { program := "ytdggdibfgenadaa", sum := "2a3ab220f2b40ce858b552d08b08c2bcb6c91116f04fa4615262ccc8584f834d", func := "loop.example/liftsandlights/laws.FnTripsTime", spec := "fnTripsTime", apart := false }
def FnTripsTimeSaid : Prop := fnTripsTimeRow.holds Try.pinned (OpenSpec.ofChange fnTripsTimeSpec)

/-- ITS FALSE NEIGHBOUR: 'it returns false'. Refute it at one input. -/
def fnTripsTimeWrong : ChangeSpec := { name := "fnTripsTime", fn := fun _ => fun
  | [d] => { results := [.lit (.bool false)], args := [d] }
  | _ => none }
def FnTripsTimeWrongFalsely : Prop := fnTripsTimeRow.holds Try.pinned (OpenSpec.ofChange fnTripsTimeWrong)

/-- 'laws.FnExactBestTrips': WHATEVER THE INPUT: true; the input reads as it did. -/
def fnExactBestTripsSpec : ChangeSpec := { name := "fnExactBestTrips", fn := fun _ => fun
  | [d1, d2] => { results := [.lit (.bool true)], args := [d1, d2] }
  | _ => none }
def fnExactBestTripsRow : OpenClaim := { program := "ytdggdibfgenadaa", sum := "2a3ab220f2b40ce858b552d08b08c2bcb6c91116f04fa4615262ccc8584f834d", func := "loop.example/liftsandlights/laws.FnExactBestTrips", spec := "fnExactBestTrips", recurses := true, apart := false }
def FnExactBestTripsSaid : Prop := fnExactBestTripsRow.holds Try.pinned (OpenSpec.ofChange fnExactBestTripsSpec)

/-- ITS FALSE NEIGHBOUR: 'it returns false'. Refute it at one input. -/
def fnExactBestTripsWrong : ChangeSpec := { name := "fnExactBestTrips", fn := fun _ => fun
  | [d1, d2] => { results := [.lit (.bool false)], args := [d1, d2] }
  | _ => none }
def FnExactBestTripsWrongFalsely : Prop := fnExactBestTripsRow.holds Try.pinned (OpenSpec.ofChange fnExactBestTripsWrong)

/-- 'laws.FnBestTripsRoom': WHATEVER THE INPUT: true; the input reads as it did. -/
def fnBestTripsRoomSpec : ChangeSpec := { name := "fnBestTripsRoom", fn := fun _ => fun
  | [d] => { results := [.lit (.bool true)], args := [d] }
  | _ => none }
def fnBestTripsRoomRow : OpenClaim := { program := "ytdggdibfgenadaa", sum := "2a3ab220f2b40ce858b552d08b08c2bcb6c91116f04fa4615262ccc8584f834d", func := "loop.example/liftsandlights/laws.FnBestTripsRoom", spec := "fnBestTripsRoom", recurses := true, apart := false }
def FnBestTripsRoomSaid : Prop := fnBestTripsRoomRow.holds Try.pinned (OpenSpec.ofChange fnBestTripsRoomSpec)

/-- ITS FALSE NEIGHBOUR: 'it returns false'. Refute it at one input. -/
def fnBestTripsRoomWrong : ChangeSpec := { name := "fnBestTripsRoom", fn := fun _ => fun
  | [d] => { results := [.lit (.bool false)], args := [d] }
  | _ => none }
def FnBestTripsRoomWrongFalsely : Prop := fnBestTripsRoomRow.holds Try.pinned (OpenSpec.ofChange fnBestTripsRoomWrong)

/-- 'laws.FnBestTrips': WHATEVER THE INPUT: true; the input reads as it did. -/
def fnBestTripsSpec : ChangeSpec := { name := "fnBestTrips", fn := fun _ => fun
  | [d] => { results := [.lit (.bool true)], args := [d] }
  | _ => none }
def fnBestTripsRow : OpenClaim := { program := "ytdggdibfgenadaa", sum := "2a3ab220f2b40ce858b552d08b08c2bcb6c91116f04fa4615262ccc8584f834d", func := "loop.example/liftsandlights/laws.FnBestTrips", spec := "fnBestTrips", recurses := true, apart := false }
def FnBestTripsSaid : Prop := fnBestTripsRow.holds Try.pinned (OpenSpec.ofChange fnBestTripsSpec)

/-- ITS FALSE NEIGHBOUR: 'it returns false'. Refute it at one input. -/
def fnBestTripsWrong : ChangeSpec := { name := "fnBestTrips", fn := fun _ => fun
  | [d] => { results := [.lit (.bool false)], args := [d] }
  | _ => none }
def FnBestTripsWrongFalsely : Prop := fnBestTripsRow.holds Try.pinned (OpenSpec.ofChange fnBestTripsWrong)

/- THE SECOND FORM. 'bulk': how many values and letters a reading holds, each counted each time it is reached (what is shared counts as often as it is met; a slice's spare places count too). A statement '..UptoSaid' is the law's where the arguments, and the package variables that the reading takes, are together of bulk at most 1048576: NARROWER than '..Said'. Prove '..Said' where nothing that the law and all that it calls make is longer than what came in: it says more and counts as full. Else prove '..UptoSaid'. A law counts once. -/
mutual
def uptoBulk {H : Type} : DataW H → Nat
  | .lit (.string bytes) => bytes.length + 1
  | .lit _ => 1
  | .nil => 1
  | .ptr d => uptoBulk d + 1
  | .slice elems spare => uptoBulkAll elems + uptoBulkAll spare + 1
  | .agg parts => uptoBulkAll parts + 1
  | .iface _ d => uptoBulk d + 1
  | .map entries => uptoBulkEntries entries + 1
  | .held _ => 1
def uptoBulkAll {H : Type} : List (DataW H) → Nat
  | [] => 0
  | d :: r => uptoBulk d + uptoBulkAll r
def uptoBulkEntries {H : Type} : List (Lit × DataW H) → Nat
  | [] => 0
  | x :: r => uptoBulkEntry x + uptoBulkEntries r
def uptoBulkEntry {H : Type} : Lit × DataW H → Nat
  | (.string bytes, d) => bytes.length + uptoBulk d + 1
  | (_, d) => uptoBulk d + 1
 end
def uptoSmall : (H : Type) → List (DataW H) → Bool := fun _ ds => decide (uptoBulkAll ds ≤ 1048576)
def OpenSpec.upto (s : _root_.Go.ChangeSpec) : _root_.Go.OpenSpec := { _root_.Go.OpenSpec.ofChange s with cond := some uptoSmall }

/-- 'laws.FnExactTripTime', WHERE WHAT IT READS IS OF BULK AT MOST 1048576: true; the input reads as it did. -/
def fnExactTripTimeUptoRow : OpenClaim := { program := "ytdggdibfgenadaa", sum := "2a3ab220f2b40ce858b552d08b08c2bcb6c91116f04fa4615262ccc8584f834d", func := "loop.example/liftsandlights/laws.FnExactTripTime", spec := "fnExactTripTime", apart := false, narrowed := true }
def FnExactTripTimeUptoSaid : Prop := fnExactTripTimeUptoRow.holds Try.pinned (OpenSpec.upto fnExactTripTimeSpec)

/-- 'laws.FnExactTripsTime', WHERE WHAT IT READS IS OF BULK AT MOST 1048576: true; the input reads as it did. -/
def fnExactTripsTimeUptoRow : OpenClaim := { program := "ytdggdibfgenadaa", sum := "2a3ab220f2b40ce858b552d08b08c2bcb6c91116f04fa4615262ccc8584f834d", func := "loop.example/liftsandlights/laws.FnExactTripsTime", spec := "fnExactTripsTime", apart := false, narrowed := true }
def FnExactTripsTimeUptoSaid : Prop := fnExactTripsTimeUptoRow.holds Try.pinned (OpenSpec.upto fnExactTripsTimeSpec)

/-- 'laws.FnTripTime', WHERE WHAT IT READS IS OF BULK AT MOST 1048576: true; the input reads as it did. -/
def fnTripTimeUptoRow : OpenClaim := { program := "ytdggdibfgenadaa", sum := "2a3ab220f2b40ce858b552d08b08c2bcb6c91116f04fa4615262ccc8584f834d", func := "loop.example/liftsandlights/laws.FnTripTime", spec := "fnTripTime", apart := false, narrowed := true }
def FnTripTimeUptoSaid : Prop := fnTripTimeUptoRow.holds Try.pinned (OpenSpec.upto fnTripTimeSpec)

/-- 'laws.FnTripTimeParts', WHERE WHAT IT READS IS OF BULK AT MOST 1048576: true; the input reads as it did. -/
def fnTripTimePartsUptoRow : OpenClaim := { program := "ytdggdibfgenadaa", sum := "2a3ab220f2b40ce858b552d08b08c2bcb6c91116f04fa4615262ccc8584f834d", func := "loop.example/liftsandlights/laws.FnTripTimeParts", spec := "fnTripTimeParts", apart := false, narrowed := true }
def FnTripTimePartsUptoSaid : Prop := fnTripTimePartsUptoRow.holds Try.pinned (OpenSpec.upto fnTripTimePartsSpec)

/-- 'laws.FnTripsTime', WHERE WHAT IT READS IS OF BULK AT MOST 1048576: true; the input reads as it did. -/
def fnTripsTimeUptoRow : OpenClaim := { program := "ytdggdibfgenadaa", sum := "2a3ab220f2b40ce858b552d08b08c2bcb6c91116f04fa4615262ccc8584f834d", func := "loop.example/liftsandlights/laws.FnTripsTime", spec := "fnTripsTime", apart := false, narrowed := true }
def FnTripsTimeUptoSaid : Prop := fnTripsTimeUptoRow.holds Try.pinned (OpenSpec.upto fnTripsTimeSpec)

/-- 'laws.FnExactBestTrips', WHERE WHAT IT READS IS OF BULK AT MOST 1048576: true; the input reads as it did. -/
def fnExactBestTripsUptoRow : OpenClaim := { program := "ytdggdibfgenadaa", sum := "2a3ab220f2b40ce858b552d08b08c2bcb6c91116f04fa4615262ccc8584f834d", func := "loop.example/liftsandlights/laws.FnExactBestTrips", spec := "fnExactBestTrips", recurses := true, apart := false, narrowed := true }
def FnExactBestTripsUptoSaid : Prop := fnExactBestTripsUptoRow.holds Try.pinned (OpenSpec.upto fnExactBestTripsSpec)

/-- 'laws.FnBestTripsRoom', WHERE WHAT IT READS IS OF BULK AT MOST 1048576: true; the input reads as it did. -/
def fnBestTripsRoomUptoRow : OpenClaim := { program := "ytdggdibfgenadaa", sum := "2a3ab220f2b40ce858b552d08b08c2bcb6c91116f04fa4615262ccc8584f834d", func := "loop.example/liftsandlights/laws.FnBestTripsRoom", spec := "fnBestTripsRoom", recurses := true, apart := false, narrowed := true }
def FnBestTripsRoomUptoSaid : Prop := fnBestTripsRoomUptoRow.holds Try.pinned (OpenSpec.upto fnBestTripsRoomSpec)

/-- 'laws.FnBestTrips', WHERE WHAT IT READS IS OF BULK AT MOST 1048576: true; the input reads as it did. -/
def fnBestTripsUptoRow : OpenClaim := { program := "ytdggdibfgenadaa", sum := "2a3ab220f2b40ce858b552d08b08c2bcb6c91116f04fa4615262ccc8584f834d", func := "loop.example/liftsandlights/laws.FnBestTrips", spec := "fnBestTrips", recurses := true, apart := false, narrowed := true }
def FnBestTripsUptoSaid : Prop := fnBestTripsUptoRow.holds Try.pinned (OpenSpec.upto fnBestTripsSpec)

end Rows
end Go.Proofs.Ytdggdibfgenadaa
