/-
  DERIVED. GIVEN WITH THE SEED: THE CARDS: each row of YtkgmikglifmenaaDoorRows.lean that lists a variable, with what it lists TIED to the program's text (the seventh form; the later family's looks); each row that meets fmt, with fmt's text TOLD by the authors' own Lean function (tested against real Go, not proved from fmt's source: count such statements apart). THE CARD IS WHAT COUNTS. Prove the row's statement (the work); the ties are given (YtkgmikglifmenaaDoorTie.lean); close each card by the builder's one call (the guide's Derived/Test/ToyasCard.lean, 'card_holds'). Laid BY PROGRAM, IN A SANDBOX (cutbox-door.mjs). By AI agents, Wed Nov 11 2026. No macro, syntax, notation, axiom, sorry.
-/
import Derived.Test.YtkgmikglifmenaaDoorRows
import GoSem.ClaimSeven
namespace Go.Proofs.YtkgmikglifmenaaDoor
namespace Rows

/-- THE TIED CARD OF 'abecedarylaw10.EditPaths'. -/
def editPathsCard : Claim7 := { stood := { row := editPathsRow, standIns := [], harness := (true, "66834a05cbaa07a2a9de71087b926aeebde7ce946fd4fac9bffde4407563ae4f"), looks := false }, kinds := [], alts := [], laidByText := true, laidKinds := [.data], laidTests := true, laidLooks := .later }
def EditPathsCardSaid : Prop := Claim7.holds Tryd.pinned (.plain (OpenSpec.ofChange editPathsSpec)) editPathsCard

/-- THE SECOND FORM's CARD OF 'abecedarylaw10.EditPaths'. -/
def editPathsUptoCard : Claim7 := { stood := { row := editPathsUptoRow, standIns := [], harness := (true, "66834a05cbaa07a2a9de71087b926aeebde7ce946fd4fac9bffde4407563ae4f"), looks := false }, kinds := [], alts := [], laidByText := true, laidKinds := [.data], laidTests := true, laidLooks := .later }
def EditPathsUptoCardSaid : Prop := Claim7.holds Tryd.pinned (.plain (OpenSpec.upto editPathsSpec)) editPathsUptoCard
end Rows
end Go.Proofs.YtkgmikglifmenaaDoor
