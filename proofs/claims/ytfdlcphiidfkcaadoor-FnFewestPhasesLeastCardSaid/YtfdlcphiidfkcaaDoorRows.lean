/-
  NARROWER THAN 'FOR EVERY INPUT', by the rows' own cells (each row's printed sentence says how): FnFewestPhasesLeast: laid · FnFewestPhases: laid · FnExactFewestPhases: laid · FnFullPhasesNone: laid · FnExactFullPhases: laid · FnFullPhasesGrow: laid · FnFullPhasesApart: laid · FnFullPhases: laid.
  DERIVED. THE GIVEN ROWS OF THIS SEAT. 8 by the template 'for every input the law returns true; each argument reads behind the call as it read before'; 0 by the template 'total and deterministic' (their statements: YtfdlcphiidfkcaaDoorTotals.lean).
  GIVEN WITH THE SEED: the statements are not yours to turn. If you find one false, say at which input.
  Laid BY PROGRAM, IN A SANDBOX (cutbox-rows.mjs): the forced cells as the released guide's own fill.sh prints them over the translation e9ea1aab75bb75a0… (all of the seat's roots in one cut). By AI agents, Wed Nov 11 2026. No macro, syntax, notation, axiom, sorry.
-/
import Derived.Test.YtfdlcphiidfkcaaDoorChecked
import GoSem.Claim
import GoSem.ClaimJoined
import GoSem.ClaimMapViews
import Derived.JoinedTies
import Derived.KernelRfl
namespace Go.Proofs.YtfdlcphiidfkcaaDoor
/- THE CELL 'sum', in the pinned program and in every row, IS THE sha256 OF THE DUMP (.gsa) THAT YtfdlcphiidfkcaaDoorProg.lean LOADS. Nothing in Lean hashes anything: it is a label: what it is worth is what the hold of that sum in a sandbox is worth. -/
noncomputable def Tryd.pinned : Pinned := { name := "ytfdlcphiidfkcaadoor", sum := "e9ea1aab75bb75a0ff97f4da7d45eca4b96732964e15731f17c0ccb01b9bd455", checked := Tryd.checked }
namespace Rows
def none {H : Type} : Left H := { results := [], args := [] }

/- WHAT THE LISTED PACKAGE-LEVEL VARIABLES READ AS WHEN THE CALL BEGINS. Each datum BY PROGRAM (the guide's laid-datum.mjs) off the statement by which the dump's own 'gosem.cut.vars' lays the variable. In a bare row this is a premise. The card (YtfdlcphiidfkcaaDoorCards.lean) ties it to the program's text. -/
def laid_math_bits_deBruijn32tab {H : Type} : DataW H := .agg [.lit (.int .u8 0), .lit (.int .u8 1), .lit (.int .u8 28), .lit (.int .u8 2), .lit (.int .u8 29), .lit (.int .u8 14), .lit (.int .u8 24), .lit (.int .u8 3), .lit (.int .u8 30), .lit (.int .u8 22), .lit (.int .u8 20), .lit (.int .u8 15), .lit (.int .u8 25), .lit (.int .u8 17), .lit (.int .u8 4), .lit (.int .u8 8), .lit (.int .u8 31), .lit (.int .u8 27), .lit (.int .u8 13), .lit (.int .u8 23), .lit (.int .u8 21), .lit (.int .u8 19), .lit (.int .u8 16), .lit (.int .u8 7), .lit (.int .u8 26), .lit (.int .u8 12), .lit (.int .u8 18), .lit (.int .u8 6), .lit (.int .u8 11), .lit (.int .u8 5), .lit (.int .u8 10), .lit (.int .u8 9)]
def laid_math_bits_deBruijn64tab {H : Type} : DataW H := .agg [.lit (.int .u8 0), .lit (.int .u8 1), .lit (.int .u8 56), .lit (.int .u8 2), .lit (.int .u8 57), .lit (.int .u8 49), .lit (.int .u8 28), .lit (.int .u8 3), .lit (.int .u8 61), .lit (.int .u8 58), .lit (.int .u8 42), .lit (.int .u8 50), .lit (.int .u8 38), .lit (.int .u8 29), .lit (.int .u8 17), .lit (.int .u8 4), .lit (.int .u8 62), .lit (.int .u8 47), .lit (.int .u8 59), .lit (.int .u8 36), .lit (.int .u8 45), .lit (.int .u8 43), .lit (.int .u8 51), .lit (.int .u8 22), .lit (.int .u8 53), .lit (.int .u8 39), .lit (.int .u8 33), .lit (.int .u8 30), .lit (.int .u8 24), .lit (.int .u8 18), .lit (.int .u8 12), .lit (.int .u8 5), .lit (.int .u8 63), .lit (.int .u8 55), .lit (.int .u8 48), .lit (.int .u8 27), .lit (.int .u8 60), .lit (.int .u8 41), .lit (.int .u8 37), .lit (.int .u8 16), .lit (.int .u8 46), .lit (.int .u8 35), .lit (.int .u8 44), .lit (.int .u8 21), .lit (.int .u8 52), .lit (.int .u8 32), .lit (.int .u8 23), .lit (.int .u8 11), .lit (.int .u8 54), .lit (.int .u8 26), .lit (.int .u8 40), .lit (.int .u8 15), .lit (.int .u8 34), .lit (.int .u8 20), .lit (.int .u8 31), .lit (.int .u8 10), .lit (.int .u8 25), .lit (.int .u8 14), .lit (.int .u8 19), .lit (.int .u8 9), .lit (.int .u8 13), .lit (.int .u8 8), .lit (.int .u8 7), .lit (.int .u8 6)]

/-- 'laws.FnFewestPhasesLeast': WHATEVER THE INPUT: true; the input reads as it did. -/
def fnFewestPhasesLeastSpec : ChangeSpec := { name := "fnFewestPhasesLeast", fn := fun _ => fun
  | [d] => { results := [.lit (.bool true)], args := [d] }
  | _ => none }
def fnFewestPhasesLeastRow : OpenClaim := { program := "ytfdlcphiidfkcaadoor", sum := "e9ea1aab75bb75a0ff97f4da7d45eca4b96732964e15731f17c0ccb01b9bd455", func := "loop.example/liftsandlights/laws.FnFewestPhasesLeast", spec := "fnFewestPhasesLeast", unfollowed := true, recurses := true, named := ["math/bits.deBruijn32tab", "math/bits.deBruijn64tab"], apart := false, laid := [("math/bits.deBruijn32tab", laid_math_bits_deBruijn32tab), ("math/bits.deBruijn64tab", laid_math_bits_deBruijn64tab)] }
def FnFewestPhasesLeastSaid : Prop := fnFewestPhasesLeastRow.holds Tryd.pinned (OpenSpec.ofChange fnFewestPhasesLeastSpec)

/-- ITS FALSE NEIGHBOUR: 'it returns false'. Refute it at one input. -/
def fnFewestPhasesLeastWrong : ChangeSpec := { name := "fnFewestPhasesLeast", fn := fun _ => fun
  | [d] => { results := [.lit (.bool false)], args := [d] }
  | _ => none }
def FnFewestPhasesLeastWrongFalsely : Prop := fnFewestPhasesLeastRow.holds Tryd.pinned (OpenSpec.ofChange fnFewestPhasesLeastWrong)

/-- 'laws.FnFewestPhases': WHATEVER THE INPUT: true; the input reads as it did. -/
def fnFewestPhasesSpec : ChangeSpec := { name := "fnFewestPhases", fn := fun _ => fun
  | [d] => { results := [.lit (.bool true)], args := [d] }
  | _ => none }
def fnFewestPhasesRow : OpenClaim := { program := "ytfdlcphiidfkcaadoor", sum := "e9ea1aab75bb75a0ff97f4da7d45eca4b96732964e15731f17c0ccb01b9bd455", func := "loop.example/liftsandlights/laws.FnFewestPhases", spec := "fnFewestPhases", unfollowed := true, recurses := true, named := ["math/bits.deBruijn32tab", "math/bits.deBruijn64tab"], apart := false, laid := [("math/bits.deBruijn32tab", laid_math_bits_deBruijn32tab), ("math/bits.deBruijn64tab", laid_math_bits_deBruijn64tab)] }
def FnFewestPhasesSaid : Prop := fnFewestPhasesRow.holds Tryd.pinned (OpenSpec.ofChange fnFewestPhasesSpec)

/-- ITS FALSE NEIGHBOUR: 'it returns false'. Refute it at one input. -/
def fnFewestPhasesWrong : ChangeSpec := { name := "fnFewestPhases", fn := fun _ => fun
  | [d] => { results := [.lit (.bool false)], args := [d] }
  | _ => none }
def FnFewestPhasesWrongFalsely : Prop := fnFewestPhasesRow.holds Tryd.pinned (OpenSpec.ofChange fnFewestPhasesWrong)

/-- 'laws.FnExactFewestPhases': WHATEVER THE INPUT: true; the input reads as it did. -/
def fnExactFewestPhasesSpec : ChangeSpec := { name := "fnExactFewestPhases", fn := fun _ => fun
  | [d] => { results := [.lit (.bool true)], args := [d] }
  | _ => none }
def fnExactFewestPhasesRow : OpenClaim := { program := "ytfdlcphiidfkcaadoor", sum := "e9ea1aab75bb75a0ff97f4da7d45eca4b96732964e15731f17c0ccb01b9bd455", func := "loop.example/liftsandlights/laws.FnExactFewestPhases", spec := "fnExactFewestPhases", unfollowed := true, recurses := true, named := ["math/bits.deBruijn32tab", "math/bits.deBruijn64tab"], apart := false, laid := [("math/bits.deBruijn32tab", laid_math_bits_deBruijn32tab), ("math/bits.deBruijn64tab", laid_math_bits_deBruijn64tab)] }
def FnExactFewestPhasesSaid : Prop := fnExactFewestPhasesRow.holds Tryd.pinned (OpenSpec.ofChange fnExactFewestPhasesSpec)

/-- ITS FALSE NEIGHBOUR: 'it returns false'. Refute it at one input. -/
def fnExactFewestPhasesWrong : ChangeSpec := { name := "fnExactFewestPhases", fn := fun _ => fun
  | [d] => { results := [.lit (.bool false)], args := [d] }
  | _ => none }
def FnExactFewestPhasesWrongFalsely : Prop := fnExactFewestPhasesRow.holds Tryd.pinned (OpenSpec.ofChange fnExactFewestPhasesWrong)

/-- 'laws.FnFullPhasesNone': WHATEVER THE INPUT: true; the input reads as it did. -/
def fnFullPhasesNoneSpec : ChangeSpec := { name := "fnFullPhasesNone", fn := fun _ => fun
  | [d] => { results := [.lit (.bool true)], args := [d] }
  | _ => none }
def fnFullPhasesNoneRow : OpenClaim := { program := "ytfdlcphiidfkcaadoor", sum := "e9ea1aab75bb75a0ff97f4da7d45eca4b96732964e15731f17c0ccb01b9bd455", func := "loop.example/liftsandlights/laws.FnFullPhasesNone", spec := "fnFullPhasesNone", unfollowed := true, recurses := true, named := ["math/bits.deBruijn32tab", "math/bits.deBruijn64tab"], apart := false, laid := [("math/bits.deBruijn32tab", laid_math_bits_deBruijn32tab), ("math/bits.deBruijn64tab", laid_math_bits_deBruijn64tab)] }
def FnFullPhasesNoneSaid : Prop := fnFullPhasesNoneRow.holds Tryd.pinned (OpenSpec.ofChange fnFullPhasesNoneSpec)

/-- ITS FALSE NEIGHBOUR: 'it returns false'. Refute it at one input. -/
def fnFullPhasesNoneWrong : ChangeSpec := { name := "fnFullPhasesNone", fn := fun _ => fun
  | [d] => { results := [.lit (.bool false)], args := [d] }
  | _ => none }
def FnFullPhasesNoneWrongFalsely : Prop := fnFullPhasesNoneRow.holds Tryd.pinned (OpenSpec.ofChange fnFullPhasesNoneWrong)

/-- 'laws.FnExactFullPhases': WHATEVER THE INPUT: true; the input reads as it did. -/
def fnExactFullPhasesSpec : ChangeSpec := { name := "fnExactFullPhases", fn := fun _ => fun
  | [d] => { results := [.lit (.bool true)], args := [d] }
  | _ => none }
def fnExactFullPhasesRow : OpenClaim := { program := "ytfdlcphiidfkcaadoor", sum := "e9ea1aab75bb75a0ff97f4da7d45eca4b96732964e15731f17c0ccb01b9bd455", func := "loop.example/liftsandlights/laws.FnExactFullPhases", spec := "fnExactFullPhases", unfollowed := true, recurses := true, named := ["math/bits.deBruijn32tab", "math/bits.deBruijn64tab"], apart := false, laid := [("math/bits.deBruijn32tab", laid_math_bits_deBruijn32tab), ("math/bits.deBruijn64tab", laid_math_bits_deBruijn64tab)] }
def FnExactFullPhasesSaid : Prop := fnExactFullPhasesRow.holds Tryd.pinned (OpenSpec.ofChange fnExactFullPhasesSpec)

/-- ITS FALSE NEIGHBOUR: 'it returns false'. Refute it at one input. -/
def fnExactFullPhasesWrong : ChangeSpec := { name := "fnExactFullPhases", fn := fun _ => fun
  | [d] => { results := [.lit (.bool false)], args := [d] }
  | _ => none }
def FnExactFullPhasesWrongFalsely : Prop := fnExactFullPhasesRow.holds Tryd.pinned (OpenSpec.ofChange fnExactFullPhasesWrong)

/-- 'laws.FnFullPhasesGrow': WHATEVER THE INPUT: true; the input reads as it did. -/
def fnFullPhasesGrowSpec : ChangeSpec := { name := "fnFullPhasesGrow", fn := fun _ => fun
  | [d] => { results := [.lit (.bool true)], args := [d] }
  | _ => none }
def fnFullPhasesGrowRow : OpenClaim := { program := "ytfdlcphiidfkcaadoor", sum := "e9ea1aab75bb75a0ff97f4da7d45eca4b96732964e15731f17c0ccb01b9bd455", func := "loop.example/liftsandlights/laws.FnFullPhasesGrow", spec := "fnFullPhasesGrow", unfollowed := true, recurses := true, named := ["math/bits.deBruijn32tab", "math/bits.deBruijn64tab"], apart := false, laid := [("math/bits.deBruijn32tab", laid_math_bits_deBruijn32tab), ("math/bits.deBruijn64tab", laid_math_bits_deBruijn64tab)] }
def FnFullPhasesGrowSaid : Prop := fnFullPhasesGrowRow.holds Tryd.pinned (OpenSpec.ofChange fnFullPhasesGrowSpec)

/-- ITS FALSE NEIGHBOUR: 'it returns false'. Refute it at one input. -/
def fnFullPhasesGrowWrong : ChangeSpec := { name := "fnFullPhasesGrow", fn := fun _ => fun
  | [d] => { results := [.lit (.bool false)], args := [d] }
  | _ => none }
def FnFullPhasesGrowWrongFalsely : Prop := fnFullPhasesGrowRow.holds Tryd.pinned (OpenSpec.ofChange fnFullPhasesGrowWrong)

/-- 'laws.FnFullPhasesApart': WHATEVER THE INPUT: true; the input reads as it did. -/
def fnFullPhasesApartSpec : ChangeSpec := { name := "fnFullPhasesApart", fn := fun _ => fun
  | [d] => { results := [.lit (.bool true)], args := [d] }
  | _ => none }
def fnFullPhasesApartRow : OpenClaim := { program := "ytfdlcphiidfkcaadoor", sum := "e9ea1aab75bb75a0ff97f4da7d45eca4b96732964e15731f17c0ccb01b9bd455", func := "loop.example/liftsandlights/laws.FnFullPhasesApart", spec := "fnFullPhasesApart", unfollowed := true, recurses := true, named := ["math/bits.deBruijn32tab", "math/bits.deBruijn64tab"], apart := false, laid := [("math/bits.deBruijn32tab", laid_math_bits_deBruijn32tab), ("math/bits.deBruijn64tab", laid_math_bits_deBruijn64tab)] }
def FnFullPhasesApartSaid : Prop := fnFullPhasesApartRow.holds Tryd.pinned (OpenSpec.ofChange fnFullPhasesApartSpec)

/-- ITS FALSE NEIGHBOUR: 'it returns false'. Refute it at one input. -/
def fnFullPhasesApartWrong : ChangeSpec := { name := "fnFullPhasesApart", fn := fun _ => fun
  | [d] => { results := [.lit (.bool false)], args := [d] }
  | _ => none }
def FnFullPhasesApartWrongFalsely : Prop := fnFullPhasesApartRow.holds Tryd.pinned (OpenSpec.ofChange fnFullPhasesApartWrong)

/-- 'laws.FnFullPhases': WHATEVER THE INPUT: true; the input reads as it did. -/
def fnFullPhasesSpec : ChangeSpec := { name := "fnFullPhases", fn := fun _ => fun
  | [d] => { results := [.lit (.bool true)], args := [d] }
  | _ => none }
def fnFullPhasesRow : OpenClaim := { program := "ytfdlcphiidfkcaadoor", sum := "e9ea1aab75bb75a0ff97f4da7d45eca4b96732964e15731f17c0ccb01b9bd455", func := "loop.example/liftsandlights/laws.FnFullPhases", spec := "fnFullPhases", unfollowed := true, recurses := true, named := ["math/bits.deBruijn32tab", "math/bits.deBruijn64tab"], apart := false, laid := [("math/bits.deBruijn32tab", laid_math_bits_deBruijn32tab), ("math/bits.deBruijn64tab", laid_math_bits_deBruijn64tab)] }
def FnFullPhasesSaid : Prop := fnFullPhasesRow.holds Tryd.pinned (OpenSpec.ofChange fnFullPhasesSpec)

/-- ITS FALSE NEIGHBOUR: 'it returns false'. Refute it at one input. -/
def fnFullPhasesWrong : ChangeSpec := { name := "fnFullPhases", fn := fun _ => fun
  | [d] => { results := [.lit (.bool false)], args := [d] }
  | _ => none }
def FnFullPhasesWrongFalsely : Prop := fnFullPhasesRow.holds Tryd.pinned (OpenSpec.ofChange fnFullPhasesWrong)

/- THE SECOND FORM. 'bulk': how many values and letters a reading holds, each counted each time it is reached (what is shared counts as often as it is met; a slice's spare places count too). A statement '..UptoSaid' is the law's where the arguments, and the package variables that the reading takes, are together of bulk at most 1048576: NARROWER than '..Said'. Prove '..Said' where nothing that the law and all that it calls make is longer than what came in: it says more and counts as full. Else prove '..UptoSaid'. A law counts once. -/
mutual
def uptoBulk {H : Type} : DataW H → Nat
  | .lit (.string bytes) => bytes.length + 1
  | .lit _ => 1
  | .nil => 1
  | .ptr d => uptoBulk d + 1
  | .slice elems spare => uptoBulkAll elems + uptoBulkAll spare + 1
  | .agg parts => uptoBulkAll parts + 1
  | .iface _ d => uptoBulk d + 1
  | .map entries => uptoBulkEntries entries + 1
  | .held _ => 1
def uptoBulkAll {H : Type} : List (DataW H) → Nat
  | [] => 0
  | d :: r => uptoBulk d + uptoBulkAll r
def uptoBulkEntries {H : Type} : List (Lit × DataW H) → Nat
  | [] => 0
  | x :: r => uptoBulkEntry x + uptoBulkEntries r
def uptoBulkEntry {H : Type} : Lit × DataW H → Nat
  | (.string bytes, d) => bytes.length + uptoBulk d + 1
  | (_, d) => uptoBulk d + 1
 end
def uptoSmall : (H : Type) → List (DataW H) → Bool := fun _ ds => decide (uptoBulkAll ds ≤ 1048576)
def OpenSpec.upto (s : _root_.Go.ChangeSpec) : _root_.Go.OpenSpec := { _root_.Go.OpenSpec.ofChange s with cond := some uptoSmall }

/-- 'laws.FnFewestPhasesLeast', WHERE WHAT IT READS IS OF BULK AT MOST 1048576: true; the input reads as it did. -/
def fnFewestPhasesLeastUptoRow : OpenClaim := { program := "ytfdlcphiidfkcaadoor", sum := "e9ea1aab75bb75a0ff97f4da7d45eca4b96732964e15731f17c0ccb01b9bd455", func := "loop.example/liftsandlights/laws.FnFewestPhasesLeast", spec := "fnFewestPhasesLeast", unfollowed := true, recurses := true, named := ["math/bits.deBruijn32tab", "math/bits.deBruijn64tab"], apart := false, laid := [("math/bits.deBruijn32tab", laid_math_bits_deBruijn32tab), ("math/bits.deBruijn64tab", laid_math_bits_deBruijn64tab)], narrowed := true }
def FnFewestPhasesLeastUptoSaid : Prop := fnFewestPhasesLeastUptoRow.holds Tryd.pinned (OpenSpec.upto fnFewestPhasesLeastSpec)

/-- 'laws.FnFewestPhases', WHERE WHAT IT READS IS OF BULK AT MOST 1048576: true; the input reads as it did. -/
def fnFewestPhasesUptoRow : OpenClaim := { program := "ytfdlcphiidfkcaadoor", sum := "e9ea1aab75bb75a0ff97f4da7d45eca4b96732964e15731f17c0ccb01b9bd455", func := "loop.example/liftsandlights/laws.FnFewestPhases", spec := "fnFewestPhases", unfollowed := true, recurses := true, named := ["math/bits.deBruijn32tab", "math/bits.deBruijn64tab"], apart := false, laid := [("math/bits.deBruijn32tab", laid_math_bits_deBruijn32tab), ("math/bits.deBruijn64tab", laid_math_bits_deBruijn64tab)], narrowed := true }
def FnFewestPhasesUptoSaid : Prop := fnFewestPhasesUptoRow.holds Tryd.pinned (OpenSpec.upto fnFewestPhasesSpec)

/-- 'laws.FnExactFewestPhases', WHERE WHAT IT READS IS OF BULK AT MOST 1048576: true; the input reads as it did. -/
def fnExactFewestPhasesUptoRow : OpenClaim := { program := "ytfdlcphiidfkcaadoor", sum := "e9ea1aab75bb75a0ff97f4da7d45eca4b96732964e15731f17c0ccb01b9bd455", func := "loop.example/liftsandlights/laws.FnExactFewestPhases", spec := "fnExactFewestPhases", unfollowed := true, recurses := true, named := ["math/bits.deBruijn32tab", "math/bits.deBruijn64tab"], apart := false, laid := [("math/bits.deBruijn32tab", laid_math_bits_deBruijn32tab), ("math/bits.deBruijn64tab", laid_math_bits_deBruijn64tab)], narrowed := true }
def FnExactFewestPhasesUptoSaid : Prop := fnExactFewestPhasesUptoRow.holds Tryd.pinned (OpenSpec.upto fnExactFewestPhasesSpec)

/-- 'laws.FnFullPhasesNone', WHERE WHAT IT READS IS OF BULK AT MOST 1048576: true; the input reads as it did. -/
def fnFullPhasesNoneUptoRow : OpenClaim := { program := "ytfdlcphiidfkcaadoor", sum := "e9ea1aab75bb75a0ff97f4da7d45eca4b96732964e15731f17c0ccb01b9bd455", func := "loop.example/liftsandlights/laws.FnFullPhasesNone", spec := "fnFullPhasesNone", unfollowed := true, recurses := true, named := ["math/bits.deBruijn32tab", "math/bits.deBruijn64tab"], apart := false, laid := [("math/bits.deBruijn32tab", laid_math_bits_deBruijn32tab), ("math/bits.deBruijn64tab", laid_math_bits_deBruijn64tab)], narrowed := true }
def FnFullPhasesNoneUptoSaid : Prop := fnFullPhasesNoneUptoRow.holds Tryd.pinned (OpenSpec.upto fnFullPhasesNoneSpec)

/-- 'laws.FnExactFullPhases', WHERE WHAT IT READS IS OF BULK AT MOST 1048576: true; the input reads as it did. -/
def fnExactFullPhasesUptoRow : OpenClaim := { program := "ytfdlcphiidfkcaadoor", sum := "e9ea1aab75bb75a0ff97f4da7d45eca4b96732964e15731f17c0ccb01b9bd455", func := "loop.example/liftsandlights/laws.FnExactFullPhases", spec := "fnExactFullPhases", unfollowed := true, recurses := true, named := ["math/bits.deBruijn32tab", "math/bits.deBruijn64tab"], apart := false, laid := [("math/bits.deBruijn32tab", laid_math_bits_deBruijn32tab), ("math/bits.deBruijn64tab", laid_math_bits_deBruijn64tab)], narrowed := true }
def FnExactFullPhasesUptoSaid : Prop := fnExactFullPhasesUptoRow.holds Tryd.pinned (OpenSpec.upto fnExactFullPhasesSpec)

/-- 'laws.FnFullPhasesGrow', WHERE WHAT IT READS IS OF BULK AT MOST 1048576: true; the input reads as it did. -/
def fnFullPhasesGrowUptoRow : OpenClaim := { program := "ytfdlcphiidfkcaadoor", sum := "e9ea1aab75bb75a0ff97f4da7d45eca4b96732964e15731f17c0ccb01b9bd455", func := "loop.example/liftsandlights/laws.FnFullPhasesGrow", spec := "fnFullPhasesGrow", unfollowed := true, recurses := true, named := ["math/bits.deBruijn32tab", "math/bits.deBruijn64tab"], apart := false, laid := [("math/bits.deBruijn32tab", laid_math_bits_deBruijn32tab), ("math/bits.deBruijn64tab", laid_math_bits_deBruijn64tab)], narrowed := true }
def FnFullPhasesGrowUptoSaid : Prop := fnFullPhasesGrowUptoRow.holds Tryd.pinned (OpenSpec.upto fnFullPhasesGrowSpec)

/-- 'laws.FnFullPhasesApart', WHERE WHAT IT READS IS OF BULK AT MOST 1048576: true; the input reads as it did. -/
def fnFullPhasesApartUptoRow : OpenClaim := { program := "ytfdlcphiidfkcaadoor", sum := "e9ea1aab75bb75a0ff97f4da7d45eca4b96732964e15731f17c0ccb01b9bd455", func := "loop.example/liftsandlights/laws.FnFullPhasesApart", spec := "fnFullPhasesApart", unfollowed := true, recurses := true, named := ["math/bits.deBruijn32tab", "math/bits.deBruijn64tab"], apart := false, laid := [("math/bits.deBruijn32tab", laid_math_bits_deBruijn32tab), ("math/bits.deBruijn64tab", laid_math_bits_deBruijn64tab)], narrowed := true }
def FnFullPhasesApartUptoSaid : Prop := fnFullPhasesApartUptoRow.holds Tryd.pinned (OpenSpec.upto fnFullPhasesApartSpec)

/-- 'laws.FnFullPhases', WHERE WHAT IT READS IS OF BULK AT MOST 1048576: true; the input reads as it did. -/
def fnFullPhasesUptoRow : OpenClaim := { program := "ytfdlcphiidfkcaadoor", sum := "e9ea1aab75bb75a0ff97f4da7d45eca4b96732964e15731f17c0ccb01b9bd455", func := "loop.example/liftsandlights/laws.FnFullPhases", spec := "fnFullPhases", unfollowed := true, recurses := true, named := ["math/bits.deBruijn32tab", "math/bits.deBruijn64tab"], apart := false, laid := [("math/bits.deBruijn32tab", laid_math_bits_deBruijn32tab), ("math/bits.deBruijn64tab", laid_math_bits_deBruijn64tab)], narrowed := true }
def FnFullPhasesUptoSaid : Prop := fnFullPhasesUptoRow.holds Tryd.pinned (OpenSpec.upto fnFullPhasesSpec)

end Rows
end Go.Proofs.YtfdlcphiidfkcaaDoor
