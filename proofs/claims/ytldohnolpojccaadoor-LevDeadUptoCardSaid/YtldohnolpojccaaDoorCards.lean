/-
  DERIVED. GIVEN WITH THE SEED: THE CARDS: each row of YtldohnolpojccaaDoorRows.lean that lists a variable, with what it lists TIED to the program's text (the seventh form; the later family's looks); each row that meets fmt, with fmt's text TOLD by the authors' own Lean function (tested against real Go, not proved from fmt's source: count such statements apart). THE CARD IS WHAT COUNTS. Prove the row's statement (the work); the ties are given (YtldohnolpojccaaDoorTie.lean); close each card by the builder's one call (the guide's Derived/Test/ToyasCard.lean, 'card_holds'). Laid BY PROGRAM, IN A SANDBOX (cutbox-door.mjs). By AI agents, Wed Nov 11 2026. No macro, syntax, notation, axiom, sorry.
-/
import Derived.Test.YtldohnolpojccaaDoorRows
import GoSem.ClaimSeven
namespace Go.Proofs.YtldohnolpojccaaDoor
namespace Rows

/-- THE TIED CARD OF 'abecedarylaw11.LevMade'. -/
def levMadeCard : Claim7 := { stood := { row := levMadeRow, standIns := [], harness := (true, "4380ed363252a5728b7fe052fb37e5053c5ae8a9dae2f1c4c9865a172b04bac9"), looks := false }, kinds := [], alts := [], laidByText := true, laidKinds := [.data], laidTests := true, laidLooks := .later }
def LevMadeCardSaid : Prop := Claim7.holds Tryd.pinned (.plain (OpenSpec.ofChange levMadeSpec)) levMadeCard

/-- THE TIED CARD OF 'abecedarylaw11.LevStarts'. -/
def levStartsCard : Claim7 := { stood := { row := levStartsRow, standIns := [], harness := (true, "4380ed363252a5728b7fe052fb37e5053c5ae8a9dae2f1c4c9865a172b04bac9"), looks := false }, kinds := [], alts := [], laidByText := true, laidKinds := [.data], laidTests := true, laidLooks := .later }
def LevStartsCardSaid : Prop := Claim7.holds Tryd.pinned (.plain (OpenSpec.ofChange levStartsSpec)) levStartsCard

/-- THE TIED CARD OF 'abecedarylaw11.LevSteps'. -/
def levStepsCard : Claim7 := { stood := { row := levStepsRow, standIns := [], harness := (true, "4380ed363252a5728b7fe052fb37e5053c5ae8a9dae2f1c4c9865a172b04bac9"), looks := false }, kinds := [], alts := [], laidByText := true, laidKinds := [.data], laidTests := true, laidLooks := .later }
def LevStepsCardSaid : Prop := Claim7.holds Tryd.pinned (.plain (OpenSpec.ofChange levStepsSpec)) levStepsCard

/-- THE TIED CARD OF 'abecedarylaw11.LevReads'. -/
def levReadsCard : Claim7 := { stood := { row := levReadsRow, standIns := [], harness := (true, "4380ed363252a5728b7fe052fb37e5053c5ae8a9dae2f1c4c9865a172b04bac9"), looks := false }, kinds := [], alts := [], laidByText := true, laidKinds := [.data], laidTests := true, laidLooks := .later }
def LevReadsCardSaid : Prop := Claim7.holds Tryd.pinned (.plain (OpenSpec.ofChange levReadsSpec)) levReadsCard

/-- THE TIED CARD OF 'abecedarylaw11.LevNear'. -/
def levNearCard : Claim7 := { stood := { row := levNearRow, standIns := [], harness := (true, "4380ed363252a5728b7fe052fb37e5053c5ae8a9dae2f1c4c9865a172b04bac9"), looks := false }, kinds := [], alts := [], laidByText := true, laidKinds := [.data], laidTests := true, laidLooks := .later }
def LevNearCardSaid : Prop := Claim7.holds Tryd.pinned (.plain (OpenSpec.ofChange levNearSpec)) levNearCard

/-- THE TIED CARD OF 'abecedarylaw11.LevAsks'. -/
def levAsksCard : Claim7 := { stood := { row := levAsksRow, standIns := [], harness := (true, "4380ed363252a5728b7fe052fb37e5053c5ae8a9dae2f1c4c9865a172b04bac9"), looks := false }, kinds := [], alts := [], laidByText := true, laidKinds := [.data], laidTests := true, laidLooks := .later }
def LevAsksCardSaid : Prop := Claim7.holds Tryd.pinned (.plain (OpenSpec.ofChange levAsksSpec)) levAsksCard

/-- THE TIED CARD OF 'abecedarylaw11.LevDead'. -/
def levDeadCard : Claim7 := { stood := { row := levDeadRow, standIns := [], harness := (true, "4380ed363252a5728b7fe052fb37e5053c5ae8a9dae2f1c4c9865a172b04bac9"), looks := false }, kinds := [], alts := [], laidByText := true, laidKinds := [.data], laidTests := true, laidLooks := .later }
def LevDeadCardSaid : Prop := Claim7.holds Tryd.pinned (.plain (OpenSpec.ofChange levDeadSpec)) levDeadCard

/-- THE TIED CARD OF 'abecedarylaw11.LevLess'. -/
def levLessCard : Claim7 := { stood := { row := levLessRow, standIns := [], harness := (true, "4380ed363252a5728b7fe052fb37e5053c5ae8a9dae2f1c4c9865a172b04bac9"), looks := false }, kinds := [], alts := [], laidByText := true, laidKinds := [.data], laidTests := true, laidLooks := .later }
def LevLessCardSaid : Prop := Claim7.holds Tryd.pinned (.plain (OpenSpec.ofChange levLessSpec)) levLessCard

/-- THE SECOND FORM's CARD OF 'abecedarylaw11.LevMade'. -/
def levMadeUptoCard : Claim7 := { stood := { row := levMadeUptoRow, standIns := [], harness := (true, "4380ed363252a5728b7fe052fb37e5053c5ae8a9dae2f1c4c9865a172b04bac9"), looks := false }, kinds := [], alts := [], laidByText := true, laidKinds := [.data], laidTests := true, laidLooks := .later }
def LevMadeUptoCardSaid : Prop := Claim7.holds Tryd.pinned (.plain (OpenSpec.upto levMadeSpec)) levMadeUptoCard

/-- THE SECOND FORM's CARD OF 'abecedarylaw11.LevStarts'. -/
def levStartsUptoCard : Claim7 := { stood := { row := levStartsUptoRow, standIns := [], harness := (true, "4380ed363252a5728b7fe052fb37e5053c5ae8a9dae2f1c4c9865a172b04bac9"), looks := false }, kinds := [], alts := [], laidByText := true, laidKinds := [.data], laidTests := true, laidLooks := .later }
def LevStartsUptoCardSaid : Prop := Claim7.holds Tryd.pinned (.plain (OpenSpec.upto levStartsSpec)) levStartsUptoCard

/-- THE SECOND FORM's CARD OF 'abecedarylaw11.LevSteps'. -/
def levStepsUptoCard : Claim7 := { stood := { row := levStepsUptoRow, standIns := [], harness := (true, "4380ed363252a5728b7fe052fb37e5053c5ae8a9dae2f1c4c9865a172b04bac9"), looks := false }, kinds := [], alts := [], laidByText := true, laidKinds := [.data], laidTests := true, laidLooks := .later }
def LevStepsUptoCardSaid : Prop := Claim7.holds Tryd.pinned (.plain (OpenSpec.upto levStepsSpec)) levStepsUptoCard

/-- THE SECOND FORM's CARD OF 'abecedarylaw11.LevReads'. -/
def levReadsUptoCard : Claim7 := { stood := { row := levReadsUptoRow, standIns := [], harness := (true, "4380ed363252a5728b7fe052fb37e5053c5ae8a9dae2f1c4c9865a172b04bac9"), looks := false }, kinds := [], alts := [], laidByText := true, laidKinds := [.data], laidTests := true, laidLooks := .later }
def LevReadsUptoCardSaid : Prop := Claim7.holds Tryd.pinned (.plain (OpenSpec.upto levReadsSpec)) levReadsUptoCard

/-- THE SECOND FORM's CARD OF 'abecedarylaw11.LevNear'. -/
def levNearUptoCard : Claim7 := { stood := { row := levNearUptoRow, standIns := [], harness := (true, "4380ed363252a5728b7fe052fb37e5053c5ae8a9dae2f1c4c9865a172b04bac9"), looks := false }, kinds := [], alts := [], laidByText := true, laidKinds := [.data], laidTests := true, laidLooks := .later }
def LevNearUptoCardSaid : Prop := Claim7.holds Tryd.pinned (.plain (OpenSpec.upto levNearSpec)) levNearUptoCard

/-- THE SECOND FORM's CARD OF 'abecedarylaw11.LevAsks'. -/
def levAsksUptoCard : Claim7 := { stood := { row := levAsksUptoRow, standIns := [], harness := (true, "4380ed363252a5728b7fe052fb37e5053c5ae8a9dae2f1c4c9865a172b04bac9"), looks := false }, kinds := [], alts := [], laidByText := true, laidKinds := [.data], laidTests := true, laidLooks := .later }
def LevAsksUptoCardSaid : Prop := Claim7.holds Tryd.pinned (.plain (OpenSpec.upto levAsksSpec)) levAsksUptoCard

/-- THE SECOND FORM's CARD OF 'abecedarylaw11.LevDead'. -/
def levDeadUptoCard : Claim7 := { stood := { row := levDeadUptoRow, standIns := [], harness := (true, "4380ed363252a5728b7fe052fb37e5053c5ae8a9dae2f1c4c9865a172b04bac9"), looks := false }, kinds := [], alts := [], laidByText := true, laidKinds := [.data], laidTests := true, laidLooks := .later }
def LevDeadUptoCardSaid : Prop := Claim7.holds Tryd.pinned (.plain (OpenSpec.upto levDeadSpec)) levDeadUptoCard

/-- THE SECOND FORM's CARD OF 'abecedarylaw11.LevLess'. -/
def levLessUptoCard : Claim7 := { stood := { row := levLessUptoRow, standIns := [], harness := (true, "4380ed363252a5728b7fe052fb37e5053c5ae8a9dae2f1c4c9865a172b04bac9"), looks := false }, kinds := [], alts := [], laidByText := true, laidKinds := [.data], laidTests := true, laidLooks := .later }
def LevLessUptoCardSaid : Prop := Claim7.holds Tryd.pinned (.plain (OpenSpec.upto levLessSpec)) levLessUptoCard
end Rows
end Go.Proofs.YtldohnolpojccaaDoor
