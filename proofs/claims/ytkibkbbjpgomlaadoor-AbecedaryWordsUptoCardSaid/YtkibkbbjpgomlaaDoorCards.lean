/-
  DERIVED. GIVEN WITH THE SEED: THE CARDS: each row of YtkibkbbjpgomlaaDoorRows.lean that lists a variable, with what it lists TIED to the program's text (the seventh form; the later family's looks); each row that meets fmt, with fmt's text TOLD by the authors' own Lean function (tested against real Go, not proved from fmt's source: count such statements apart). THE CARD IS WHAT COUNTS. Prove the row's statement (the work); the ties are given (YtkibkbbjpgomlaaDoorTie.lean); close each card by the builder's one call (the guide's Derived/Test/ToyasCard.lean, 'card_holds'). Laid BY PROGRAM, IN A SANDBOX (cutbox-door.mjs). By AI agents, Wed Nov 11 2026. No macro, syntax, notation, axiom, sorry.
-/
import Derived.Test.YtkibkbbjpgomlaaDoorRows
import GoSem.ClaimSeven
namespace Go.Proofs.YtkibkbbjpgomlaaDoor
namespace Rows

/-- THE TIED CARD OF 'abecedarytop.AbecedaryWords'. -/
def abecedaryWordsCard : Claim7 := { stood := { row := abecedaryWordsRow, standIns := [], harness := (true, "af0bd3c7773e58ec11794787d5e2d45ae29a9443e382e499319a20d1de8d5581"), looks := false }, kinds := [], alts := [], laidByText := true, laidKinds := [.data], laidTests := true, laidLooks := .later }
def AbecedaryWordsCardSaid : Prop := Claim7.holds Tryd.pinned (.plain (OpenSpec.ofChange abecedaryWordsSpec)) abecedaryWordsCard

/-- THE SECOND FORM's CARD OF 'abecedarytop.AbecedaryWords'. -/
def abecedaryWordsUptoCard : Claim7 := { stood := { row := abecedaryWordsUptoRow, standIns := [], harness := (true, "af0bd3c7773e58ec11794787d5e2d45ae29a9443e382e499319a20d1de8d5581"), looks := false }, kinds := [], alts := [], laidByText := true, laidKinds := [.data], laidTests := true, laidLooks := .later }
def AbecedaryWordsUptoCardSaid : Prop := Claim7.holds Tryd.pinned (.plain (OpenSpec.upto abecedaryWordsSpec)) abecedaryWordsUptoCard
end Rows
end Go.Proofs.YtkibkbbjpgomlaaDoor
