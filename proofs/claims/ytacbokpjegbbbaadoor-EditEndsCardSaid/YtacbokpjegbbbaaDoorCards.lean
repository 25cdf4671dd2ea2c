/-
  DERIVED. GIVEN WITH THE SEED: THE CARDS: each row of YtacbokpjegbbbaaDoorRows.lean that lists a variable, with what it lists TIED to the program's text (the seventh form; the later family's looks); each row that meets fmt, with fmt's text TOLD by the authors' own Lean function (tested against real Go, not proved from fmt's source: count such statements apart). THE CARD IS WHAT COUNTS. Prove the row's statement (the work); the ties are given (YtacbokpjegbbbaaDoorTie.lean); close each card by the builder's one call (the guide's Derived/Test/ToyasCard.lean, 'card_holds'). Laid BY PROGRAM, IN A SANDBOX (cutbox-door.mjs). By AI agents, Wed Nov 11 2026. No macro, syntax, notation, axiom, sorry.
-/
import Derived.Test.YtacbokpjegbbbaaDoorRows
import GoSem.ClaimSeven
namespace Go.Proofs.YtacbokpjegbbbaaDoor
namespace Rows

/-- THE TIED CARD OF 'abecedarylaw10.EditFar'. -/
def editFarCard : Claim7 := { stood := { row := editFarRow, standIns := [], harness := (true, "9ca9476aaf494a486edd9804e1b31137eee3a8349ef08c7ade95588f174fec35"), looks := false }, kinds := [], alts := [], laidByText := true, laidKinds := [.data], laidTests := true, laidLooks := .later }
def EditFarCardSaid : Prop := Claim7.holds Tryd.pinned (.plain (OpenSpec.ofChange editFarSpec)) editFarCard

/-- THE TIED CARD OF 'abecedarylaw10.EditWithin'. -/
def editWithinCard : Claim7 := { stood := { row := editWithinRow, standIns := [], harness := (true, "9ca9476aaf494a486edd9804e1b31137eee3a8349ef08c7ade95588f174fec35"), looks := false }, kinds := [], alts := [], laidByText := true, laidKinds := [.data], laidTests := true, laidLooks := .later }
def EditWithinCardSaid : Prop := Claim7.holds Tryd.pinned (.plain (OpenSpec.ofChange editWithinSpec)) editWithinCard

/-- THE TIED CARD OF 'abecedarylaw10.EditBack'. -/
def editBackCard : Claim7 := { stood := { row := editBackRow, standIns := [], harness := (true, "9ca9476aaf494a486edd9804e1b31137eee3a8349ef08c7ade95588f174fec35"), looks := false }, kinds := [], alts := [], laidByText := true, laidKinds := [.data], laidTests := true, laidLooks := .later }
def EditBackCardSaid : Prop := Claim7.holds Tryd.pinned (.plain (OpenSpec.ofChange editBackSpec)) editBackCard

/-- THE TIED CARD OF 'abecedarylaw10.EditAround'. -/
def editAroundCard : Claim7 := { stood := { row := editAroundRow, standIns := [], harness := (true, "9ca9476aaf494a486edd9804e1b31137eee3a8349ef08c7ade95588f174fec35"), looks := false }, kinds := [], alts := [], laidByText := true, laidKinds := [.data], laidTests := true, laidLooks := .later }
def EditAroundCardSaid : Prop := Claim7.holds Tryd.pinned (.plain (OpenSpec.ofChange editAroundSpec)) editAroundCard

/-- THE TIED CARD OF 'abecedarylaw10.EditBounds'. -/
def editBoundsCard : Claim7 := { stood := { row := editBoundsRow, standIns := [], harness := (true, "9ca9476aaf494a486edd9804e1b31137eee3a8349ef08c7ade95588f174fec35"), looks := false }, kinds := [], alts := [], laidByText := true, laidKinds := [.data], laidTests := true, laidLooks := .later }
def EditBoundsCardSaid : Prop := Claim7.holds Tryd.pinned (.plain (OpenSpec.ofChange editBoundsSpec)) editBoundsCard

/-- THE TIED CARD OF 'abecedarylaw10.EditEnds'. -/
def editEndsCard : Claim7 := { stood := { row := editEndsRow, standIns := [], harness := (true, "9ca9476aaf494a486edd9804e1b31137eee3a8349ef08c7ade95588f174fec35"), looks := false }, kinds := [], alts := [], laidByText := true, laidKinds := [.data], laidTests := true, laidLooks := .later }
def EditEndsCardSaid : Prop := Claim7.holds Tryd.pinned (.plain (OpenSpec.ofChange editEndsSpec)) editEndsCard

/-- THE TIED CARD OF 'abecedarylaw10.EditOnce'. -/
def editOnceCard : Claim7 := { stood := { row := editOnceRow, standIns := [], harness := (true, "9ca9476aaf494a486edd9804e1b31137eee3a8349ef08c7ade95588f174fec35"), looks := false }, kinds := [], alts := [], laidByText := true, laidKinds := [.data], laidTests := true, laidLooks := .later }
def EditOnceCardSaid : Prop := Claim7.holds Tryd.pinned (.plain (OpenSpec.ofChange editOnceSpec)) editOnceCard

/-- THE TIED CARD OF 'abecedarylaw10.EditPaths'. -/
def editPathsCard : Claim7 := { stood := { row := editPathsRow, standIns := [], harness := (true, "9ca9476aaf494a486edd9804e1b31137eee3a8349ef08c7ade95588f174fec35"), looks := false }, kinds := [], alts := [], laidByText := true, laidKinds := [.data], laidTests := true, laidLooks := .later }
def EditPathsCardSaid : Prop := Claim7.holds Tryd.pinned (.plain (OpenSpec.ofChange editPathsSpec)) editPathsCard

/-- THE SECOND FORM's CARD OF 'abecedarylaw10.EditFar'. -/
def editFarUptoCard : Claim7 := { stood := { row := editFarUptoRow, standIns := [], harness := (true, "9ca9476aaf494a486edd9804e1b31137eee3a8349ef08c7ade95588f174fec35"), looks := false }, kinds := [], alts := [], laidByText := true, laidKinds := [.data], laidTests := true, laidLooks := .later }
def EditFarUptoCardSaid : Prop := Claim7.holds Tryd.pinned (.plain (OpenSpec.upto editFarSpec)) editFarUptoCard

/-- THE SECOND FORM's CARD OF 'abecedarylaw10.EditWithin'. -/
def editWithinUptoCard : Claim7 := { stood := { row := editWithinUptoRow, standIns := [], harness := (true, "9ca9476aaf494a486edd9804e1b31137eee3a8349ef08c7ade95588f174fec35"), looks := false }, kinds := [], alts := [], laidByText := true, laidKinds := [.data], laidTests := true, laidLooks := .later }
def EditWithinUptoCardSaid : Prop := Claim7.holds Tryd.pinned (.plain (OpenSpec.upto editWithinSpec)) editWithinUptoCard

/-- THE SECOND FORM's CARD OF 'abecedarylaw10.EditBack'. -/
def editBackUptoCard : Claim7 := { stood := { row := editBackUptoRow, standIns := [], harness := (true, "9ca9476aaf494a486edd9804e1b31137eee3a8349ef08c7ade95588f174fec35"), looks := false }, kinds := [], alts := [], laidByText := true, laidKinds := [.data], laidTests := true, laidLooks := .later }
def EditBackUptoCardSaid : Prop := Claim7.holds Tryd.pinned (.plain (OpenSpec.upto editBackSpec)) editBackUptoCard

/-- THE SECOND FORM's CARD OF 'abecedarylaw10.EditAround'. -/
def editAroundUptoCard : Claim7 := { stood := { row := editAroundUptoRow, standIns := [], harness := (true, "9ca9476aaf494a486edd9804e1b31137eee3a8349ef08c7ade95588f174fec35"), looks := false }, kinds := [], alts := [], laidByText := true, laidKinds := [.data], laidTests := true, laidLooks := .later }
def EditAroundUptoCardSaid : Prop := Claim7.holds Tryd.pinned (.plain (OpenSpec.upto editAroundSpec)) editAroundUptoCard

/-- THE SECOND FORM's CARD OF 'abecedarylaw10.EditBounds'. -/
def editBoundsUptoCard : Claim7 := { stood := { row := editBoundsUptoRow, standIns := [], harness := (true, "9ca9476aaf494a486edd9804e1b31137eee3a8349ef08c7ade95588f174fec35"), looks := false }, kinds := [], alts := [], laidByText := true, laidKinds := [.data], laidTests := true, laidLooks := .later }
def EditBoundsUptoCardSaid : Prop := Claim7.holds Tryd.pinned (.plain (OpenSpec.upto editBoundsSpec)) editBoundsUptoCard

/-- THE SECOND FORM's CARD OF 'abecedarylaw10.EditEnds'. -/
def editEndsUptoCard : Claim7 := { stood := { row := editEndsUptoRow, standIns := [], harness := (true, "9ca9476aaf494a486edd9804e1b31137eee3a8349ef08c7ade95588f174fec35"), looks := false }, kinds := [], alts := [], laidByText := true, laidKinds := [.data], laidTests := true, laidLooks := .later }
def EditEndsUptoCardSaid : Prop := Claim7.holds Tryd.pinned (.plain (OpenSpec.upto editEndsSpec)) editEndsUptoCard

/-- THE SECOND FORM's CARD OF 'abecedarylaw10.EditOnce'. -/
def editOnceUptoCard : Claim7 := { stood := { row := editOnceUptoRow, standIns := [], harness := (true, "9ca9476aaf494a486edd9804e1b31137eee3a8349ef08c7ade95588f174fec35"), looks := false }, kinds := [], alts := [], laidByText := true, laidKinds := [.data], laidTests := true, laidLooks := .later }
def EditOnceUptoCardSaid : Prop := Claim7.holds Tryd.pinned (.plain (OpenSpec.upto editOnceSpec)) editOnceUptoCard

/-- THE SECOND FORM's CARD OF 'abecedarylaw10.EditPaths'. -/
def editPathsUptoCard : Claim7 := { stood := { row := editPathsUptoRow, standIns := [], harness := (true, "9ca9476aaf494a486edd9804e1b31137eee3a8349ef08c7ade95588f174fec35"), looks := false }, kinds := [], alts := [], laidByText := true, laidKinds := [.data], laidTests := true, laidLooks := .later }
def EditPathsUptoCardSaid : Prop := Claim7.holds Tryd.pinned (.plain (OpenSpec.upto editPathsSpec)) editPathsUptoCard
end Rows
end Go.Proofs.YtacbokpjegbbbaaDoor
