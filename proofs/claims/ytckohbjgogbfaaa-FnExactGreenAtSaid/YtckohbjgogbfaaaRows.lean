/-
  No cell of these rows narrows 'for every input' (looked for: loops, veiled, ifaces, maps, wideKeys, modest, calm, conditions, laid).
  DERIVED. THE GIVEN ROWS OF THIS SEAT. 4 by the template 'for every input the law returns true; each argument reads behind the call as it read before'; 0 by the template 'total and deterministic' (their statements: YtckohbjgogbfaaaTotals.lean).
  GIVEN WITH THE SEED: the statements are not yours to turn. If you find one false, say at which input.
  Laid BY PROGRAM, IN A SANDBOX (cutbox-rows.mjs): the forced cells as the released guide's own fill.sh prints them over the translation 93a1df7b62b89329… (all of the seat's roots in one cut). By AI agents, Wed Nov 11 2026. No macro, syntax, notation, axiom, sorry.
-/
import Derived.Test.YtckohbjgogbfaaaChecked
import GoSem.Claim
import GoSem.ClaimJoined
import GoSem.ClaimMapViews
import Derived.JoinedTies
import Derived.KernelRfl
namespace Go.Proofs.Ytckohbjgogbfaaa
/- THE CELL 'sum', in the pinned program and in every row, IS THE sha256 OF THE DUMP (.gsa) THAT YtckohbjgogbfaaaProg.lean LOADS. Nothing in Lean hashes anything: it is a label: what it is worth is what the hold of that sum in a sandbox is worth. -/
noncomputable def Try.pinned : Pinned := { name := "ytckohbjgogbfaaa", sum := "93a1df7b62b89329618711d432280eaedb35f31177558dcfecd73dbda667828b", checked := Try.checked }
namespace Rows
def none {H : Type} : Left H := { results := [], args := [] }

/-- 'laws.FnGreenAtClear': WHATEVER THE INPUT: true; the input reads as it did. -/
def fnGreenAtClearSpec : ChangeSpec := { name := "fnGreenAtClear", fn := fun _ => fun
  | [d] => { results := [.lit (.bool true)], args := [d] }
  | _ => none }
def fnGreenAtClearRow : OpenClaim := { program := "ytckohbjgogbfaaa", sum := "93a1df7b62b89329618711d432280eaedb35f31177558dcfecd73dbda667828b", func := "loop.example/liftsandlights/laws.FnGreenAtClear", spec := "fnGreenAtClear", apart := false }
def FnGreenAtClearSaid : Prop := fnGreenAtClearRow.holds Try.pinned (OpenSpec.ofChange fnGreenAtClearSpec)

/-- ITS FALSE NEIGHBOUR: 'it returns false'. Refute it at one input. -/
def fnGreenAtClearWrong : ChangeSpec := { name := "fnGreenAtClear", fn := fun _ => fun
  | [d] => { results := [.lit (.bool false)], args := [d] }
  | _ => none }
def FnGreenAtClearWrongFalsely : Prop := fnGreenAtClearRow.holds Try.pinned (OpenSpec.ofChange fnGreenAtClearWrong)

/-- 'laws.FnGreenAtStages': WHATEVER THE INPUT: true; the input reads as it did. -/
def fnGreenAtStagesSpec : ChangeSpec := { name := "fnGreenAtStages", fn := fun _ => fun
  | [d] => { results := [.lit (.bool true)], args := [d] }
  | _ => none }
def fnGreenAtStagesRow : OpenClaim := { program := "ytckohbjgogbfaaa", sum := "93a1df7b62b89329618711d432280eaedb35f31177558dcfecd73dbda667828b", func := "loop.example/liftsandlights/laws.FnGreenAtStages", spec := "fnGreenAtStages", apart := false }
def FnGreenAtStagesSaid : Prop := fnGreenAtStagesRow.holds Try.pinned (OpenSpec.ofChange fnGreenAtStagesSpec)

/-- ITS FALSE NEIGHBOUR: 'it returns false'. Refute it at one input. -/
def fnGreenAtStagesWrong : ChangeSpec := { name := "fnGreenAtStages", fn := fun _ => fun
  | [d] => { results := [.lit (.bool false)], args := [d] }
  | _ => none }
def FnGreenAtStagesWrongFalsely : Prop := fnGreenAtStagesRow.holds Try.pinned (OpenSpec.ofChange fnGreenAtStagesWrong)

/-- 'laws.FnGreenAt': WHATEVER THE INPUT: true; the input reads as it did. -/
def fnGreenAtSpec : ChangeSpec := { name := "fnGreenAt", fn := fun _ => fun
  | [d] => { results := [.lit (.bool true)], args := [d] }
  | _ => none }
def fnGreenAtRow : OpenClaim := { program := "ytckohbjgogbfaaa", sum := "93a1df7b62b89329618711d432280eaedb35f31177558dcfecd73dbda667828b", func := "loop.example/liftsandlights/laws.FnGreenAt", spec := "fnGreenAt", apart := false }
def FnGreenAtSaid : Prop := fnGreenAtRow.holds Try.pinned (OpenSpec.ofChange fnGreenAtSpec)

/-- ITS FALSE NEIGHBOUR: 'it returns false'. Refute it at one input. -/
def fnGreenAtWrong : ChangeSpec := { name := "fnGreenAt", fn := fun _ => fun
  | [d] => { results := [.lit (.bool false)], args := [d] }
  | _ => none }
def FnGreenAtWrongFalsely : Prop := fnGreenAtRow.holds Try.pinned (OpenSpec.ofChange fnGreenAtWrong)

/-- 'laws.FnExactGreenAt': WHATEVER THE INPUT: true; the input reads as it did. -/
def fnExactGreenAtSpec : ChangeSpec := { name := "fnExactGreenAt", fn := fun _ => fun
  | [d1, d2] => { results := [.lit (.bool true)], args := [d1, d2] }
  | _ => none }
def fnExactGreenAtRow : OpenClaim := { program := "ytckohbjgogbfaaa", sum := "93a1df7b62b89329618711d432280eaedb35f31177558dcfecd73dbda667828b", func := "loop.example/liftsandlights/laws.FnExactGreenAt", spec := "fnExactGreenAt", apart := false }
def FnExactGreenAtSaid : Prop := fnExactGreenAtRow.holds Try.pinned (OpenSpec.ofChange fnExactGreenAtSpec)

/-- ITS FALSE NEIGHBOUR: 'it returns false'. Refute it at one input. -/
def fnExactGreenAtWrong : ChangeSpec := { name := "fnExactGreenAt", fn := fun _ => fun
  | [d1, d2] => { results := [.lit (.bool false)], args := [d1, d2] }
  | _ => none }
def FnExactGreenAtWrongFalsely : Prop := fnExactGreenAtRow.holds Try.pinned (OpenSpec.ofChange fnExactGreenAtWrong)

/- THE SECOND FORM. 'bulk': how many values and letters a reading holds, each counted each time it is reached (what is shared counts as often as it is met; a slice's spare places count too). A statement '..UptoSaid' is the law's where the arguments, and the package variables that the reading takes, are together of bulk at most 1048576: NARROWER than '..Said'. Prove '..Said' where nothing that the law and all that it calls make is longer than what came in: it says more and counts as full. Else prove '..UptoSaid'. A law counts once. -/
mutual
def uptoBulk {H : Type} : DataW H → Nat
  | .lit (.string bytes) => bytes.length + 1
  | .lit _ => 1
  | .nil => 1
  | .ptr d => uptoBulk d + 1
  | .slice elems spare => uptoBulkAll elems + uptoBulkAll spare + 1
  | .agg parts => uptoBulkAll parts + 1
  | .iface _ d => uptoBulk d + 1
  | .map entries => uptoBulkEntries entries + 1
  | .held _ => 1
def uptoBulkAll {H : Type} : List (DataW H) → Nat
  | [] => 0
  | d :: r => uptoBulk d + uptoBulkAll r
def uptoBulkEntries {H : Type} : List (Lit × DataW H) → Nat
  | [] => 0
  | x :: r => uptoBulkEntry x + uptoBulkEntries r
def uptoBulkEntry {H : Type} : Lit × DataW H → Nat
  | (.string bytes, d) => bytes.length + uptoBulk d + 1
  | (_, d) => uptoBulk d + 1
 end
def uptoSmall : (H : Type) → List (DataW H) → Bool := fun _ ds => decide (uptoBulkAll ds ≤ 1048576)
def OpenSpec.upto (s : _root_.Go.ChangeSpec) : _root_.Go.OpenSpec := { _root_.Go.OpenSpec.ofChange s with cond := some uptoSmall }

/-- 'laws.FnGreenAtClear', WHERE WHAT IT READS IS OF BULK AT MOST 1048576: true; the input reads as it did. -/
def fnGreenAtClearUptoRow : OpenClaim := { program := "ytckohbjgogbfaaa", sum := "93a1df7b62b89329618711d432280eaedb35f31177558dcfecd73dbda667828b", func := "loop.example/liftsandlights/laws.FnGreenAtClear", spec := "fnGreenAtClear", apart := false, narrowed := true }
def FnGreenAtClearUptoSaid : Prop := fnGreenAtClearUptoRow.holds Try.pinned (OpenSpec.upto fnGreenAtClearSpec)

/-- 'laws.FnGreenAtStages', WHERE WHAT IT READS IS OF BULK AT MOST 1048576: true; the input reads as it did. -/
def fnGreenAtStagesUptoRow : OpenClaim := { program := "ytckohbjgogbfaaa", sum := "93a1df7b62b89329618711d432280eaedb35f31177558dcfecd73dbda667828b", func := "loop.example/liftsandlights/laws.FnGreenAtStages", spec := "fnGreenAtStages", apart := false, narrowed := true }
def FnGreenAtStagesUptoSaid : Prop := fnGreenAtStagesUptoRow.holds Try.pinned (OpenSpec.upto fnGreenAtStagesSpec)

/-- 'laws.FnGreenAt', WHERE WHAT IT READS IS OF BULK AT MOST 1048576: true; the input reads as it did. -/
def fnGreenAtUptoRow : OpenClaim := { program := "ytckohbjgogbfaaa", sum := "93a1df7b62b89329618711d432280eaedb35f31177558dcfecd73dbda667828b", func := "loop.example/liftsandlights/laws.FnGreenAt", spec := "fnGreenAt", apart := false, narrowed := true }
def FnGreenAtUptoSaid : Prop := fnGreenAtUptoRow.holds Try.pinned (OpenSpec.upto fnGreenAtSpec)

/-- 'laws.FnExactGreenAt', WHERE WHAT IT READS IS OF BULK AT MOST 1048576: true; the input reads as it did. -/
def fnExactGreenAtUptoRow : OpenClaim := { program := "ytckohbjgogbfaaa", sum := "93a1df7b62b89329618711d432280eaedb35f31177558dcfecd73dbda667828b", func := "loop.example/liftsandlights/laws.FnExactGreenAt", spec := "fnExactGreenAt", apart := false, narrowed := true }
def FnExactGreenAtUptoSaid : Prop := fnExactGreenAtUptoRow.holds Try.pinned (OpenSpec.upto fnExactGreenAtSpec)

end Rows
end Go.Proofs.Ytckohbjgogbfaaa
