/-
  DERIVED. GIVEN WITH THE SEED: THE CARDS: each row of YtfdlcphiidfkcaaDoorRows.lean that lists a variable, with what it lists TIED to the program's text (the seventh form; the later family's looks); each row that meets fmt, with fmt's text TOLD by the authors' own Lean function (tested against real Go, not proved from fmt's source: count such statements apart). THE CARD IS WHAT COUNTS. Prove the row's statement (the work); the ties are given (YtfdlcphiidfkcaaDoorTie.lean); close each card by the builder's one call (the guide's Derived/Test/ToyasCard.lean, 'card_holds'). Laid BY PROGRAM, IN A SANDBOX (cutbox-door.mjs). By AI agents, Wed Nov 11 2026. No macro, syntax, notation, axiom, sorry.
-/
import Derived.Test.YtfdlcphiidfkcaaDoorRows
import GoSem.ClaimSeven
namespace Go.Proofs.YtfdlcphiidfkcaaDoor
namespace Rows

/-- THE TIED CARD OF 'laws.FnFewestPhasesLeast'. -/
def fnFewestPhasesLeastCard : Claim7 := { stood := { row := fnFewestPhasesLeastRow, standIns := [], harness := (true, "f1dc9137c7fdbd6ffbf24dc9ffe1533f65fc60c4e92e5f9ada46c21c4e1728d0"), looks := false }, kinds := [], alts := [], laidByText := true, laidKinds := [.data, .data], laidTests := true, laidLooks := .later }
def FnFewestPhasesLeastCardSaid : Prop := Claim7.holds Tryd.pinned (.plain (OpenSpec.ofChange fnFewestPhasesLeastSpec)) fnFewestPhasesLeastCard

/-- THE TIED CARD OF 'laws.FnFewestPhases'. -/
def fnFewestPhasesCard : Claim7 := { stood := { row := fnFewestPhasesRow, standIns := [], harness := (true, "f1dc9137c7fdbd6ffbf24dc9ffe1533f65fc60c4e92e5f9ada46c21c4e1728d0"), looks := false }, kinds := [], alts := [], laidByText := true, laidKinds := [.data, .data], laidTests := true, laidLooks := .later }
def FnFewestPhasesCardSaid : Prop := Claim7.holds Tryd.pinned (.plain (OpenSpec.ofChange fnFewestPhasesSpec)) fnFewestPhasesCard

/-- THE TIED CARD OF 'laws.FnExactFewestPhases'. -/
def fnExactFewestPhasesCard : Claim7 := { stood := { row := fnExactFewestPhasesRow, standIns := [], harness := (true, "f1dc9137c7fdbd6ffbf24dc9ffe1533f65fc60c4e92e5f9ada46c21c4e1728d0"), looks := false }, kinds := [], alts := [], laidByText := true, laidKinds := [.data, .data], laidTests := true, laidLooks := .later }
def FnExactFewestPhasesCardSaid : Prop := Claim7.holds Tryd.pinned (.plain (OpenSpec.ofChange fnExactFewestPhasesSpec)) fnExactFewestPhasesCard

/-- THE TIED CARD OF 'laws.FnFullPhasesNone'. -/
def fnFullPhasesNoneCard : Claim7 := { stood := { row := fnFullPhasesNoneRow, standIns := [], harness := (true, "f1dc9137c7fdbd6ffbf24dc9ffe1533f65fc60c4e92e5f9ada46c21c4e1728d0"), looks := false }, kinds := [], alts := [], laidByText := true, laidKinds := [.data, .data], laidTests := true, laidLooks := .later }
def FnFullPhasesNoneCardSaid : Prop := Claim7.holds Tryd.pinned (.plain (OpenSpec.ofChange fnFullPhasesNoneSpec)) fnFullPhasesNoneCard

/-- THE TIED CARD OF 'laws.FnExactFullPhases'. -/
def fnExactFullPhasesCard : Claim7 := { stood := { row := fnExactFullPhasesRow, standIns := [], harness := (true, "f1dc9137c7fdbd6ffbf24dc9ffe1533f65fc60c4e92e5f9ada46c21c4e1728d0"), looks := false }, kinds := [], alts := [], laidByText := true, laidKinds := [.data, .data], laidTests := true, laidLooks := .later }
def FnExactFullPhasesCardSaid : Prop := Claim7.holds Tryd.pinned (.plain (OpenSpec.ofChange fnExactFullPhasesSpec)) fnExactFullPhasesCard

/-- THE TIED CARD OF 'laws.FnFullPhasesGrow'. -/
def fnFullPhasesGrowCard : Claim7 := { stood := { row := fnFullPhasesGrowRow, standIns := [], harness := (true, "f1dc9137c7fdbd6ffbf24dc9ffe1533f65fc60c4e92e5f9ada46c21c4e1728d0"), looks := false }, kinds := [], alts := [], laidByText := true, laidKinds := [.data, .data], laidTests := true, laidLooks := .later }
def FnFullPhasesGrowCardSaid : Prop := Claim7.holds Tryd.pinned (.plain (OpenSpec.ofChange fnFullPhasesGrowSpec)) fnFullPhasesGrowCard

/-- THE TIED CARD OF 'laws.FnFullPhasesApart'. -/
def fnFullPhasesApartCard : Claim7 := { stood := { row := fnFullPhasesApartRow, standIns := [], harness := (true, "f1dc9137c7fdbd6ffbf24dc9ffe1533f65fc60c4e92e5f9ada46c21c4e1728d0"), looks := false }, kinds := [], alts := [], laidByText := true, laidKinds := [.data, .data], laidTests := true, laidLooks := .later }
def FnFullPhasesApartCardSaid : Prop := Claim7.holds Tryd.pinned (.plain (OpenSpec.ofChange fnFullPhasesApartSpec)) fnFullPhasesApartCard

/-- THE TIED CARD OF 'laws.FnFullPhases'. -/
def fnFullPhasesCard : Claim7 := { stood := { row := fnFullPhasesRow, standIns := [], harness := (true, "f1dc9137c7fdbd6ffbf24dc9ffe1533f65fc60c4e92e5f9ada46c21c4e1728d0"), looks := false }, kinds := [], alts := [], laidByText := true, laidKinds := [.data, .data], laidTests := true, laidLooks := .later }
def FnFullPhasesCardSaid : Prop := Claim7.holds Tryd.pinned (.plain (OpenSpec.ofChange fnFullPhasesSpec)) fnFullPhasesCard

/-- THE SECOND FORM's CARD OF 'laws.FnFewestPhasesLeast'. -/
def fnFewestPhasesLeastUptoCard : Claim7 := { stood := { row := fnFewestPhasesLeastUptoRow, standIns := [], harness := (true, "f1dc9137c7fdbd6ffbf24dc9ffe1533f65fc60c4e92e5f9ada46c21c4e1728d0"), looks := false }, kinds := [], alts := [], laidByText := true, laidKinds := [.data, .data], laidTests := true, laidLooks := .later }
def FnFewestPhasesLeastUptoCardSaid : Prop := Claim7.holds Tryd.pinned (.plain (OpenSpec.upto fnFewestPhasesLeastSpec)) fnFewestPhasesLeastUptoCard

/-- THE SECOND FORM's CARD OF 'laws.FnFewestPhases'. -/
def fnFewestPhasesUptoCard : Claim7 := { stood := { row := fnFewestPhasesUptoRow, standIns := [], harness := (true, "f1dc9137c7fdbd6ffbf24dc9ffe1533f65fc60c4e92e5f9ada46c21c4e1728d0"), looks := false }, kinds := [], alts := [], laidByText := true, laidKinds := [.data, .data], laidTests := true, laidLooks := .later }
def FnFewestPhasesUptoCardSaid : Prop := Claim7.holds Tryd.pinned (.plain (OpenSpec.upto fnFewestPhasesSpec)) fnFewestPhasesUptoCard

/-- THE SECOND FORM's CARD OF 'laws.FnExactFewestPhases'. -/
def fnExactFewestPhasesUptoCard : Claim7 := { stood := { row := fnExactFewestPhasesUptoRow, standIns := [], harness := (true, "f1dc9137c7fdbd6ffbf24dc9ffe1533f65fc60c4e92e5f9ada46c21c4e1728d0"), looks := false }, kinds := [], alts := [], laidByText := true, laidKinds := [.data, .data], laidTests := true, laidLooks := .later }
def FnExactFewestPhasesUptoCardSaid : Prop := Claim7.holds Tryd.pinned (.plain (OpenSpec.upto fnExactFewestPhasesSpec)) fnExactFewestPhasesUptoCard

/-- THE SECOND FORM's CARD OF 'laws.FnFullPhasesNone'. -/
def fnFullPhasesNoneUptoCard : Claim7 := { stood := { row := fnFullPhasesNoneUptoRow, standIns := [], harness := (true, "f1dc9137c7fdbd6ffbf24dc9ffe1533f65fc60c4e92e5f9ada46c21c4e1728d0"), looks := false }, kinds := [], alts := [], laidByText := true, laidKinds := [.data, .data], laidTests := true, laidLooks := .later }
def FnFullPhasesNoneUptoCardSaid : Prop := Claim7.holds Tryd.pinned (.plain (OpenSpec.upto fnFullPhasesNoneSpec)) fnFullPhasesNoneUptoCard

/-- THE SECOND FORM's CARD OF 'laws.FnExactFullPhases'. -/
def fnExactFullPhasesUptoCard : Claim7 := { stood := { row := fnExactFullPhasesUptoRow, standIns := [], harness := (true, "f1dc9137c7fdbd6ffbf24dc9ffe1533f65fc60c4e92e5f9ada46c21c4e1728d0"), looks := false }, kinds := [], alts := [], laidByText := true, laidKinds := [.data, .data], laidTests := true, laidLooks := .later }
def FnExactFullPhasesUptoCardSaid : Prop := Claim7.holds Tryd.pinned (.plain (OpenSpec.upto fnExactFullPhasesSpec)) fnExactFullPhasesUptoCard

/-- THE SECOND FORM's CARD OF 'laws.FnFullPhasesGrow'. -/
def fnFullPhasesGrowUptoCard : Claim7 := { stood := { row := fnFullPhasesGrowUptoRow, standIns := [], harness := (true, "f1dc9137c7fdbd6ffbf24dc9ffe1533f65fc60c4e92e5f9ada46c21c4e1728d0"), looks := false }, kinds := [], alts := [], laidByText := true, laidKinds := [.data, .data], laidTests := true, laidLooks := .later }
def FnFullPhasesGrowUptoCardSaid : Prop := Claim7.holds Tryd.pinned (.plain (OpenSpec.upto fnFullPhasesGrowSpec)) fnFullPhasesGrowUptoCard

/-- THE SECOND FORM's CARD OF 'laws.FnFullPhasesApart'. -/
def fnFullPhasesApartUptoCard : Claim7 := { stood := { row := fnFullPhasesApartUptoRow, standIns := [], harness := (true, "f1dc9137c7fdbd6ffbf24dc9ffe1533f65fc60c4e92e5f9ada46c21c4e1728d0"), looks := false }, kinds := [], alts := [], laidByText := true, laidKinds := [.data, .data], laidTests := true, laidLooks := .later }
def FnFullPhasesApartUptoCardSaid : Prop := Claim7.holds Tryd.pinned (.plain (OpenSpec.upto fnFullPhasesApartSpec)) fnFullPhasesApartUptoCard

/-- THE SECOND FORM's CARD OF 'laws.FnFullPhases'. -/
def fnFullPhasesUptoCard : Claim7 := { stood := { row := fnFullPhasesUptoRow, standIns := [], harness := (true, "f1dc9137c7fdbd6ffbf24dc9ffe1533f65fc60c4e92e5f9ada46c21c4e1728d0"), looks := false }, kinds := [], alts := [], laidByText := true, laidKinds := [.data, .data], laidTests := true, laidLooks := .later }
def FnFullPhasesUptoCardSaid : Prop := Claim7.holds Tryd.pinned (.plain (OpenSpec.upto fnFullPhasesSpec)) fnFullPhasesUptoCard
end Rows
end Go.Proofs.YtfdlcphiidfkcaaDoor
