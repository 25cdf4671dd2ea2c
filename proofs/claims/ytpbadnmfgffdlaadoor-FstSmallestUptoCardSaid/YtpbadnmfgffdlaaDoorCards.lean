/-
  DERIVED. GIVEN WITH THE SEED: THE CARDS: each row of YtpbadnmfgffdlaaDoorRows.lean that lists a variable, with what it lists TIED to the program's text (the seventh form; the later family's looks); each row that meets fmt, with fmt's text TOLD by the authors' own Lean function (tested against real Go, not proved from fmt's source: count such statements apart). THE CARD IS WHAT COUNTS. Prove the row's statement (the work); the ties are given (YtpbadnmfgffdlaaDoorTie.lean); close each card by the builder's one call (the guide's Derived/Test/ToyasCard.lean, 'card_holds'). Laid BY PROGRAM, IN A SANDBOX (cutbox-door.mjs). By AI agents, Wed Nov 11 2026. No macro, syntax, notation, axiom, sorry.
-/
import Derived.Test.YtpbadnmfgffdlaaDoorRows
import GoSem.ClaimSeven
namespace Go.Proofs.YtpbadnmfgffdlaaDoor
namespace Rows

/-- THE TIED CARD OF 'abecedarylaw07.FstBuilds'. -/
def fstBuildsCard : Claim7 := { stood := { row := fstBuildsRow, standIns := [], harness := (true, "4d38d6f7c3a6f1f9120eeb2ade06d8155f033609eaa3fb9973c733948b42547f"), looks := false }, kinds := [], alts := [], laidByText := true, laidKinds := [.data], laidTests := true, laidLooks := .later }
def FstBuildsCardSaid : Prop := Claim7.holds Tryd.pinned (.plain (OpenSpec.ofChange fstBuildsSpec)) fstBuildsCard

/-- THE TIED CARD OF 'abecedarylaw07.FstSays'. -/
def fstSaysCard : Claim7 := { stood := { row := fstSaysRow, standIns := [], harness := (true, "4d38d6f7c3a6f1f9120eeb2ade06d8155f033609eaa3fb9973c733948b42547f"), looks := false }, kinds := [], alts := [], laidByText := true, laidKinds := [.data], laidTests := true, laidLooks := .later }
def FstSaysCardSaid : Prop := Claim7.holds Tryd.pinned (.plain (OpenSpec.ofChange fstSaysSpec)) fstSaysCard

/-- THE TIED CARD OF 'abecedarylaw07.FstWords'. -/
def fstWordsCard : Claim7 := { stood := { row := fstWordsRow, standIns := [], harness := (true, "4d38d6f7c3a6f1f9120eeb2ade06d8155f033609eaa3fb9973c733948b42547f"), looks := false }, kinds := [], alts := [], laidByText := true, laidKinds := [.data], laidTests := true, laidLooks := .later }
def FstWordsCardSaid : Prop := Claim7.holds Tryd.pinned (.plain (OpenSpec.ofChange fstWordsSpec)) fstWordsCard

/-- THE TIED CARD OF 'abecedarylaw07.FstApart'. -/
def fstApartCard : Claim7 := { stood := { row := fstApartRow, standIns := [], harness := (true, "4d38d6f7c3a6f1f9120eeb2ade06d8155f033609eaa3fb9973c733948b42547f"), looks := false }, kinds := [], alts := [], laidByText := true, laidKinds := [.data], laidTests := true, laidLooks := .later }
def FstApartCardSaid : Prop := Claim7.holds Tryd.pinned (.plain (OpenSpec.ofChange fstApartSpec)) fstApartCard

/-- THE TIED CARD OF 'abecedarylaw07.FstLevel'. -/
def fstLevelCard : Claim7 := { stood := { row := fstLevelRow, standIns := [], harness := (true, "4d38d6f7c3a6f1f9120eeb2ade06d8155f033609eaa3fb9973c733948b42547f"), looks := false }, kinds := [], alts := [], laidByText := true, laidKinds := [.data], laidTests := true, laidLooks := .later }
def FstLevelCardSaid : Prop := Claim7.holds Tryd.pinned (.plain (OpenSpec.ofChange fstLevelSpec)) fstLevelCard

/-- THE TIED CARD OF 'abecedarylaw07.FstSmallest'. -/
def fstSmallestCard : Claim7 := { stood := { row := fstSmallestRow, standIns := [], harness := (true, "4d38d6f7c3a6f1f9120eeb2ade06d8155f033609eaa3fb9973c733948b42547f"), looks := false }, kinds := [], alts := [], laidByText := true, laidKinds := [.data], laidTests := true, laidLooks := .later }
def FstSmallestCardSaid : Prop := Claim7.holds Tryd.pinned (.plain (OpenSpec.ofChange fstSmallestSpec)) fstSmallestCard

/-- THE TIED CARD OF 'abecedarylaw07.FstShifts'. -/
def fstShiftsCard : Claim7 := { stood := { row := fstShiftsRow, standIns := [], harness := (true, "4d38d6f7c3a6f1f9120eeb2ade06d8155f033609eaa3fb9973c733948b42547f"), looks := false }, kinds := [], alts := [], laidByText := true, laidKinds := [.data], laidTests := true, laidLooks := .later }
def FstShiftsCardSaid : Prop := Claim7.holds Tryd.pinned (.plain (OpenSpec.ofChange fstShiftsSpec)) fstShiftsCard

/-- THE TIED CARD OF 'abecedarylaw07.FstChain'. -/
def fstChainCard : Claim7 := { stood := { row := fstChainRow, standIns := [], harness := (true, "4d38d6f7c3a6f1f9120eeb2ade06d8155f033609eaa3fb9973c733948b42547f"), looks := false }, kinds := [], alts := [], laidByText := true, laidKinds := [.data], laidTests := true, laidLooks := .later }
def FstChainCardSaid : Prop := Claim7.holds Tryd.pinned (.plain (OpenSpec.ofChange fstChainSpec)) fstChainCard

/-- THE SECOND FORM's CARD OF 'abecedarylaw07.FstBuilds'. -/
def fstBuildsUptoCard : Claim7 := { stood := { row := fstBuildsUptoRow, standIns := [], harness := (true, "4d38d6f7c3a6f1f9120eeb2ade06d8155f033609eaa3fb9973c733948b42547f"), looks := false }, kinds := [], alts := [], laidByText := true, laidKinds := [.data], laidTests := true, laidLooks := .later }
def FstBuildsUptoCardSaid : Prop := Claim7.holds Tryd.pinned (.plain (OpenSpec.upto fstBuildsSpec)) fstBuildsUptoCard

/-- THE SECOND FORM's CARD OF 'abecedarylaw07.FstSays'. -/
def fstSaysUptoCard : Claim7 := { stood := { row := fstSaysUptoRow, standIns := [], harness := (true, "4d38d6f7c3a6f1f9120eeb2ade06d8155f033609eaa3fb9973c733948b42547f"), looks := false }, kinds := [], alts := [], laidByText := true, laidKinds := [.data], laidTests := true, laidLooks := .later }
def FstSaysUptoCardSaid : Prop := Claim7.holds Tryd.pinned (.plain (OpenSpec.upto fstSaysSpec)) fstSaysUptoCard

/-- THE SECOND FORM's CARD OF 'abecedarylaw07.FstWords'. -/
def fstWordsUptoCard : Claim7 := { stood := { row := fstWordsUptoRow, standIns := [], harness := (true, "4d38d6f7c3a6f1f9120eeb2ade06d8155f033609eaa3fb9973c733948b42547f"), looks := false }, kinds := [], alts := [], laidByText := true, laidKinds := [.data], laidTests := true, laidLooks := .later }
def FstWordsUptoCardSaid : Prop := Claim7.holds Tryd.pinned (.plain (OpenSpec.upto fstWordsSpec)) fstWordsUptoCard

/-- THE SECOND FORM's CARD OF 'abecedarylaw07.FstApart'. -/
def fstApartUptoCard : Claim7 := { stood := { row := fstApartUptoRow, standIns := [], harness := (true, "4d38d6f7c3a6f1f9120eeb2ade06d8155f033609eaa3fb9973c733948b42547f"), looks := false }, kinds := [], alts := [], laidByText := true, laidKinds := [.data], laidTests := true, laidLooks := .later }
def FstApartUptoCardSaid : Prop := Claim7.holds Tryd.pinned (.plain (OpenSpec.upto fstApartSpec)) fstApartUptoCard

/-- THE SECOND FORM's CARD OF 'abecedarylaw07.FstLevel'. -/
def fstLevelUptoCard : Claim7 := { stood := { row := fstLevelUptoRow, standIns := [], harness := (true, "4d38d6f7c3a6f1f9120eeb2ade06d8155f033609eaa3fb9973c733948b42547f"), looks := false }, kinds := [], alts := [], laidByText := true, laidKinds := [.data], laidTests := true, laidLooks := .later }
def FstLevelUptoCardSaid : Prop := Claim7.holds Tryd.pinned (.plain (OpenSpec.upto fstLevelSpec)) fstLevelUptoCard

/-- THE SECOND FORM's CARD OF 'abecedarylaw07.FstSmallest'. -/
def fstSmallestUptoCard : Claim7 := { stood := { row := fstSmallestUptoRow, standIns := [], harness := (true, "4d38d6f7c3a6f1f9120eeb2ade06d8155f033609eaa3fb9973c733948b42547f"), looks := false }, kinds := [], alts := [], laidByText := true, laidKinds := [.data], laidTests := true, laidLooks := .later }
def FstSmallestUptoCardSaid : Prop := Claim7.holds Tryd.pinned (.plain (OpenSpec.upto fstSmallestSpec)) fstSmallestUptoCard

/-- THE SECOND FORM's CARD OF 'abecedarylaw07.FstShifts'. -/
def fstShiftsUptoCard : Claim7 := { stood := { row := fstShiftsUptoRow, standIns := [], harness := (true, "4d38d6f7c3a6f1f9120eeb2ade06d8155f033609eaa3fb9973c733948b42547f"), looks := false }, kinds := [], alts := [], laidByText := true, laidKinds := [.data], laidTests := true, laidLooks := .later }
def FstShiftsUptoCardSaid : Prop := Claim7.holds Tryd.pinned (.plain (OpenSpec.upto fstShiftsSpec)) fstShiftsUptoCard

/-- THE SECOND FORM's CARD OF 'abecedarylaw07.FstChain'. -/
def fstChainUptoCard : Claim7 := { stood := { row := fstChainUptoRow, standIns := [], harness := (true, "4d38d6f7c3a6f1f9120eeb2ade06d8155f033609eaa3fb9973c733948b42547f"), looks := false }, kinds := [], alts := [], laidByText := true, laidKinds := [.data], laidTests := true, laidLooks := .later }
def FstChainUptoCardSaid : Prop := Claim7.holds Tryd.pinned (.plain (OpenSpec.upto fstChainSpec)) fstChainUptoCard
end Rows
end Go.Proofs.YtpbadnmfgffdlaaDoor
