/-
  DERIVED. GIVEN WITH THE SEED: THE CARDS: each row of YtmbbgfdgekphoaaDoorRows.lean that lists a variable, with what it lists TIED to the program's text (the seventh form; the later family's looks); each row that meets fmt, with fmt's text TOLD by the authors' own Lean function (tested against real Go, not proved from fmt's source: count such statements apart). THE CARD IS WHAT COUNTS. Prove the row's statement (the work); the ties are given (YtmbbgfdgekphoaaDoorTie.lean); close each card by the builder's one call (the guide's Derived/Test/ToyasCard.lean, 'card_holds'). Laid BY PROGRAM, IN A SANDBOX (cutbox-door.mjs). By AI agents, Wed Nov 11 2026. No macro, syntax, notation, axiom, sorry.
-/
import Derived.Test.YtmbbgfdgekphoaaDoorRows
import GoSem.ClaimSeven
namespace Go.Proofs.YtmbbgfdgekphoaaDoor
namespace Rows

/-- THE TIED CARD OF 'abecedarylaw01.LettersReads'. -/
def lettersReadsCard : Claim7 := { stood := { row := lettersReadsRow, standIns := [], harness := (true, "10eb7302daed3e5979256c3e15c04e0d68a9392ddf0646b0398d7e588d7fc93b"), looks := false }, kinds := [], alts := [], laidByText := true, laidKinds := [.data], laidTests := true, laidLooks := .later }
def LettersReadsCardSaid : Prop := Claim7.holds Tryd.pinned (.plain (OpenSpec.ofChange lettersReadsSpec)) lettersReadsCard

/-- THE TIED CARD OF 'abecedarylaw01.LettersWrites'. -/
def lettersWritesCard : Claim7 := { stood := { row := lettersWritesRow, standIns := [], harness := (true, "10eb7302daed3e5979256c3e15c04e0d68a9392ddf0646b0398d7e588d7fc93b"), looks := false }, kinds := [], alts := [], laidByText := true, laidKinds := [.data], laidTests := true, laidLooks := .later }
def LettersWritesCardSaid : Prop := Claim7.holds Tryd.pinned (.plain (OpenSpec.ofChange lettersWritesSpec)) lettersWritesCard

/-- THE TIED CARD OF 'abecedarylaw01.LettersBack'. -/
def lettersBackCard : Claim7 := { stood := { row := lettersBackRow, standIns := [], harness := (true, "10eb7302daed3e5979256c3e15c04e0d68a9392ddf0646b0398d7e588d7fc93b"), looks := false }, kinds := [], alts := [], laidByText := true, laidKinds := [.data], laidTests := true, laidLooks := .later }
def LettersBackCardSaid : Prop := Claim7.holds Tryd.pinned (.plain (OpenSpec.ofChange lettersBackSpec)) lettersBackCard

/-- THE TIED CARD OF 'abecedarylaw01.LettersAgain'. -/
def lettersAgainCard : Claim7 := { stood := { row := lettersAgainRow, standIns := [], harness := (true, "10eb7302daed3e5979256c3e15c04e0d68a9392ddf0646b0398d7e588d7fc93b"), looks := false }, kinds := [], alts := [], laidByText := true, laidKinds := [.data], laidTests := true, laidLooks := .later }
def LettersAgainCardSaid : Prop := Claim7.holds Tryd.pinned (.plain (OpenSpec.ofChange lettersAgainSpec)) lettersAgainCard

/-- THE TIED CARD OF 'abecedarylaw01.LettersJoins'. -/
def lettersJoinsCard : Claim7 := { stood := { row := lettersJoinsRow, standIns := [], harness := (true, "10eb7302daed3e5979256c3e15c04e0d68a9392ddf0646b0398d7e588d7fc93b"), looks := false }, kinds := [], alts := [], laidByText := true, laidKinds := [.data], laidTests := true, laidLooks := .later }
def LettersJoinsCardSaid : Prop := Claim7.holds Tryd.pinned (.plain (OpenSpec.ofChange lettersJoinsSpec)) lettersJoinsCard

/-- THE TIED CARD OF 'abecedarylaw01.LettersApart'. -/
def lettersApartCard : Claim7 := { stood := { row := lettersApartRow, standIns := [], harness := (true, "10eb7302daed3e5979256c3e15c04e0d68a9392ddf0646b0398d7e588d7fc93b"), looks := false }, kinds := [], alts := [], laidByText := true, laidKinds := [.data], laidTests := true, laidLooks := .later }
def LettersApartCardSaid : Prop := Claim7.holds Tryd.pinned (.plain (OpenSpec.ofChange lettersApartSpec)) lettersApartCard

/-- THE TIED CARD OF 'abecedarylaw01.LettersWords'. -/
def lettersWordsCard : Claim7 := { stood := { row := lettersWordsRow, standIns := [], harness := (true, "10eb7302daed3e5979256c3e15c04e0d68a9392ddf0646b0398d7e588d7fc93b"), looks := false }, kinds := [], alts := [], laidByText := true, laidKinds := [.data], laidTests := true, laidLooks := .later }
def LettersWordsCardSaid : Prop := Claim7.holds Tryd.pinned (.plain (OpenSpec.ofChange lettersWordsSpec)) lettersWordsCard

/-- THE TIED CARD OF 'abecedarylaw01.LettersOrder'. -/
def lettersOrderCard : Claim7 := { stood := { row := lettersOrderRow, standIns := [], harness := (true, "10eb7302daed3e5979256c3e15c04e0d68a9392ddf0646b0398d7e588d7fc93b"), looks := false }, kinds := [], alts := [], laidByText := true, laidKinds := [.data], laidTests := true, laidLooks := .later }
def LettersOrderCardSaid : Prop := Claim7.holds Tryd.pinned (.plain (OpenSpec.ofChange lettersOrderSpec)) lettersOrderCard

/-- THE TIED CARD OF 'abecedarylaw01.LettersCommon'. -/
def lettersCommonCard : Claim7 := { stood := { row := lettersCommonRow, standIns := [], harness := (true, "10eb7302daed3e5979256c3e15c04e0d68a9392ddf0646b0398d7e588d7fc93b"), looks := false }, kinds := [], alts := [], laidByText := true, laidKinds := [.data], laidTests := true, laidLooks := .later }
def LettersCommonCardSaid : Prop := Claim7.holds Tryd.pinned (.plain (OpenSpec.ofChange lettersCommonSpec)) lettersCommonCard

/-- THE SECOND FORM's CARD OF 'abecedarylaw01.LettersReads'. -/
def lettersReadsUptoCard : Claim7 := { stood := { row := lettersReadsUptoRow, standIns := [], harness := (true, "10eb7302daed3e5979256c3e15c04e0d68a9392ddf0646b0398d7e588d7fc93b"), looks := false }, kinds := [], alts := [], laidByText := true, laidKinds := [.data], laidTests := true, laidLooks := .later }
def LettersReadsUptoCardSaid : Prop := Claim7.holds Tryd.pinned (.plain (OpenSpec.upto lettersReadsSpec)) lettersReadsUptoCard

/-- THE SECOND FORM's CARD OF 'abecedarylaw01.LettersWrites'. -/
def lettersWritesUptoCard : Claim7 := { stood := { row := lettersWritesUptoRow, standIns := [], harness := (true, "10eb7302daed3e5979256c3e15c04e0d68a9392ddf0646b0398d7e588d7fc93b"), looks := false }, kinds := [], alts := [], laidByText := true, laidKinds := [.data], laidTests := true, laidLooks := .later }
def LettersWritesUptoCardSaid : Prop := Claim7.holds Tryd.pinned (.plain (OpenSpec.upto lettersWritesSpec)) lettersWritesUptoCard

/-- THE SECOND FORM's CARD OF 'abecedarylaw01.LettersBack'. -/
def lettersBackUptoCard : Claim7 := { stood := { row := lettersBackUptoRow, standIns := [], harness := (true, "10eb7302daed3e5979256c3e15c04e0d68a9392ddf0646b0398d7e588d7fc93b"), looks := false }, kinds := [], alts := [], laidByText := true, laidKinds := [.data], laidTests := true, laidLooks := .later }
def LettersBackUptoCardSaid : Prop := Claim7.holds Tryd.pinned (.plain (OpenSpec.upto lettersBackSpec)) lettersBackUptoCard

/-- THE SECOND FORM's CARD OF 'abecedarylaw01.LettersAgain'. -/
def lettersAgainUptoCard : Claim7 := { stood := { row := lettersAgainUptoRow, standIns := [], harness := (true, "10eb7302daed3e5979256c3e15c04e0d68a9392ddf0646b0398d7e588d7fc93b"), looks := false }, kinds := [], alts := [], laidByText := true, laidKinds := [.data], laidTests := true, laidLooks := .later }
def LettersAgainUptoCardSaid : Prop := Claim7.holds Tryd.pinned (.plain (OpenSpec.upto lettersAgainSpec)) lettersAgainUptoCard

/-- THE SECOND FORM's CARD OF 'abecedarylaw01.LettersJoins'. -/
def lettersJoinsUptoCard : Claim7 := { stood := { row := lettersJoinsUptoRow, standIns := [], harness := (true, "10eb7302daed3e5979256c3e15c04e0d68a9392ddf0646b0398d7e588d7fc93b"), looks := false }, kinds := [], alts := [], laidByText := true, laidKinds := [.data], laidTests := true, laidLooks := .later }
def LettersJoinsUptoCardSaid : Prop := Claim7.holds Tryd.pinned (.plain (OpenSpec.upto lettersJoinsSpec)) lettersJoinsUptoCard

/-- THE SECOND FORM's CARD OF 'abecedarylaw01.LettersApart'. -/
def lettersApartUptoCard : Claim7 := { stood := { row := lettersApartUptoRow, standIns := [], harness := (true, "10eb7302daed3e5979256c3e15c04e0d68a9392ddf0646b0398d7e588d7fc93b"), looks := false }, kinds := [], alts := [], laidByText := true, laidKinds := [.data], laidTests := true, laidLooks := .later }
def LettersApartUptoCardSaid : Prop := Claim7.holds Tryd.pinned (.plain (OpenSpec.upto lettersApartSpec)) lettersApartUptoCard

/-- THE SECOND FORM's CARD OF 'abecedarylaw01.LettersWords'. -/
def lettersWordsUptoCard : Claim7 := { stood := { row := lettersWordsUptoRow, standIns := [], harness := (true, "10eb7302daed3e5979256c3e15c04e0d68a9392ddf0646b0398d7e588d7fc93b"), looks := false }, kinds := [], alts := [], laidByText := true, laidKinds := [.data], laidTests := true, laidLooks := .later }
def LettersWordsUptoCardSaid : Prop := Claim7.holds Tryd.pinned (.plain (OpenSpec.upto lettersWordsSpec)) lettersWordsUptoCard

/-- THE SECOND FORM's CARD OF 'abecedarylaw01.LettersOrder'. -/
def lettersOrderUptoCard : Claim7 := { stood := { row := lettersOrderUptoRow, standIns := [], harness := (true, "10eb7302daed3e5979256c3e15c04e0d68a9392ddf0646b0398d7e588d7fc93b"), looks := false }, kinds := [], alts := [], laidByText := true, laidKinds := [.data], laidTests := true, laidLooks := .later }
def LettersOrderUptoCardSaid : Prop := Claim7.holds Tryd.pinned (.plain (OpenSpec.upto lettersOrderSpec)) lettersOrderUptoCard

/-- THE SECOND FORM's CARD OF 'abecedarylaw01.LettersCommon'. -/
def lettersCommonUptoCard : Claim7 := { stood := { row := lettersCommonUptoRow, standIns := [], harness := (true, "10eb7302daed3e5979256c3e15c04e0d68a9392ddf0646b0398d7e588d7fc93b"), looks := false }, kinds := [], alts := [], laidByText := true, laidKinds := [.data], laidTests := true, laidLooks := .later }
def LettersCommonUptoCardSaid : Prop := Claim7.holds Tryd.pinned (.plain (OpenSpec.upto lettersCommonSpec)) lettersCommonUptoCard
end Rows
end Go.Proofs.YtmbbgfdgekphoaaDoor
