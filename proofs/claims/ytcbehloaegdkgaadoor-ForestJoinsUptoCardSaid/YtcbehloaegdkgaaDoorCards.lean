/-
  DERIVED. GIVEN WITH THE SEED: THE CARDS: each row of YtcbehloaegdkgaaDoorRows.lean that lists a variable, with what it lists TIED to the program's text (the seventh form; the later family's looks); each row that meets fmt, with fmt's text TOLD by the authors' own Lean function (tested against real Go, not proved from fmt's source: count such statements apart). THE CARD IS WHAT COUNTS. Prove the row's statement (the work); the ties are given (YtcbehloaegdkgaaDoorTie.lean); close each card by the builder's one call (the guide's Derived/Test/ToyasCard.lean, 'card_holds'). Laid BY PROGRAM, IN A SANDBOX (cutbox-door.mjs). By AI agents, Wed Nov 11 2026. No macro, syntax, notation, axiom, sorry.
-/
import Derived.Test.YtcbehloaegdkgaaDoorRows
import GoSem.ClaimSeven
namespace Go.Proofs.YtcbehloaegdkgaaDoor
namespace Rows

/-- THE TIED CARD OF 'stencillaw7.ForestChecks'. -/
def forestChecksCard : Claim7 := { stood := { row := forestChecksRow, standIns := [], harness := (true, "e4823c6827f0b4191d5fd39dd4a59cd829e60c7a9985a43ff3a5e51dcceb9003"), looks := false }, kinds := [], alts := [], laidByText := true, laidKinds := [.data, .pinned], laidTests := true, laidLooks := .later }
def ForestChecksCardSaid : Prop := Claim7.holds Tryd.pinned (.plain (OpenSpec.ofChange forestChecksSpec)) forestChecksCard

/-- THE TIED CARD OF 'stencillaw7.ForestSames'. -/
def forestSamesCard : Claim7 := { stood := { row := forestSamesRow, standIns := [], harness := (true, "e4823c6827f0b4191d5fd39dd4a59cd829e60c7a9985a43ff3a5e51dcceb9003"), looks := false }, kinds := [], alts := [], laidByText := true, laidKinds := [.data, .pinned], laidTests := true, laidLooks := .later }
def ForestSamesCardSaid : Prop := Claim7.holds Tryd.pinned (.plain (OpenSpec.ofChange forestSamesSpec)) forestSamesCard

/-- THE TIED CARD OF 'stencillaw7.ForestJoins'. -/
def forestJoinsCard : Claim7 := { stood := { row := forestJoinsRow, standIns := [], harness := (true, "e4823c6827f0b4191d5fd39dd4a59cd829e60c7a9985a43ff3a5e51dcceb9003"), looks := false }, kinds := [], alts := [], laidByText := true, laidKinds := [.data, .pinned], laidTests := true, laidLooks := .later }
def ForestJoinsCardSaid : Prop := Claim7.holds Tryd.pinned (.plain (OpenSpec.ofChange forestJoinsSpec)) forestJoinsCard

/-- THE SECOND FORM's CARD OF 'stencillaw7.ForestChecks'. -/
def forestChecksUptoCard : Claim7 := { stood := { row := forestChecksUptoRow, standIns := [], harness := (true, "e4823c6827f0b4191d5fd39dd4a59cd829e60c7a9985a43ff3a5e51dcceb9003"), looks := false }, kinds := [], alts := [], laidByText := true, laidKinds := [.data, .pinned], laidTests := true, laidLooks := .later }
def ForestChecksUptoCardSaid : Prop := Claim7.holds Tryd.pinned (.plain (OpenSpec.upto forestChecksSpec)) forestChecksUptoCard

/-- THE SECOND FORM's CARD OF 'stencillaw7.ForestSames'. -/
def forestSamesUptoCard : Claim7 := { stood := { row := forestSamesUptoRow, standIns := [], harness := (true, "e4823c6827f0b4191d5fd39dd4a59cd829e60c7a9985a43ff3a5e51dcceb9003"), looks := false }, kinds := [], alts := [], laidByText := true, laidKinds := [.data, .pinned], laidTests := true, laidLooks := .later }
def ForestSamesUptoCardSaid : Prop := Claim7.holds Tryd.pinned (.plain (OpenSpec.upto forestSamesSpec)) forestSamesUptoCard

/-- THE SECOND FORM's CARD OF 'stencillaw7.ForestJoins'. -/
def forestJoinsUptoCard : Claim7 := { stood := { row := forestJoinsUptoRow, standIns := [], harness := (true, "e4823c6827f0b4191d5fd39dd4a59cd829e60c7a9985a43ff3a5e51dcceb9003"), looks := false }, kinds := [], alts := [], laidByText := true, laidKinds := [.data, .pinned], laidTests := true, laidLooks := .later }
def ForestJoinsUptoCardSaid : Prop := Claim7.holds Tryd.pinned (.plain (OpenSpec.upto forestJoinsSpec)) forestJoinsUptoCard
end Rows
end Go.Proofs.YtcbehloaegdkgaaDoor
