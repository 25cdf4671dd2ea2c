/-
  NARROWER THAN 'FOR EVERY INPUT', by the rows' own cells (each row's printed sentence says how): LevMade: laid · LevStarts: laid · LevSteps: laid · LevReads: laid · LevNear: laid · LevAsks: laid · LevDead: laid · LevLess: laid.
  DERIVED. THE GIVEN ROWS OF THIS SEAT. 8 by the template 'for every input the law returns true; each argument reads behind the call as it read before'; 0 by the template 'total and deterministic' (their statements: YtldohnolpojccaaDoorTotals.lean).
  GIVEN WITH THE SEED: the statements are not yours to turn. If you find one false, say at which input.
  Laid BY PROGRAM, IN A SANDBOX (cutbox-rows.mjs): the forced cells as the released guide's own fill.sh prints them over the translation 32c0202f5ff10caf… (all of the seat's roots in one cut). By AI agents, Wed Nov 11 2026. No macro, syntax, notation, axiom, sorry.
-/
import Derived.Test.YtldohnolpojccaaDoorChecked
import GoSem.Claim
import GoSem.ClaimJoined
import GoSem.ClaimMapViews
import Derived.JoinedTies
import Derived.KernelRfl
namespace Go.Proofs.YtldohnolpojccaaDoor
/- THE CELL 'sum', in the pinned program and in every row, IS THE sha256 OF THE DUMP (.gsa) THAT YtldohnolpojccaaDoorProg.lean LOADS. Nothing in Lean hashes anything: it is a label: what it is worth is what the hold of that sum in a sandbox is worth. -/
noncomputable def Tryd.pinned : Pinned := { name := "ytldohnolpojccaadoor", sum := "32c0202f5ff10caf4249bfa9b7bb6f7f76b55da62a0cd401670939060914a941", checked := Tryd.checked }
namespace Rows
def none {H : Type} : Left H := { results := [], args := [] }

/- WHAT THE LISTED PACKAGE-LEVEL VARIABLES READ AS WHEN THE CALL BEGINS. Each datum BY PROGRAM (the guide's laid-datum.mjs) off the statement by which the dump's own 'gosem.cut.vars' lays the variable. In a bare row this is a premise. The card (YtldohnolpojccaaDoorCards.lean) ties it to the program's text. -/
def laid_abecedary_letters_least {H : Type} : DataW H := .agg [.lit (.int .i32 0), .lit (.int .i32 0), .lit (.int .i32 128), .lit (.int .i32 2048), .lit (.int .i32 65536)]

/-- 'abecedarylaw11.LevMade': WHATEVER THE INPUT: true; the input reads as it did. -/
def levMadeSpec : ChangeSpec := { name := "levMade", fn := fun _ => fun
  | [d1, d2] => { results := [.lit (.bool true)], args := [d1, d2] }
  | _ => none }
def levMadeRow : OpenClaim := { program := "ytldohnolpojccaadoor", sum := "32c0202f5ff10caf4249bfa9b7bb6f7f76b55da62a0cd401670939060914a941", func := "abecedary/abecedarylaw11.LevMade", spec := "levMade", named := ["abecedary/letters.least"], apart := false, laid := [("abecedary/letters.least", laid_abecedary_letters_least)] }
def LevMadeSaid : Prop := levMadeRow.holds Tryd.pinned (OpenSpec.ofChange levMadeSpec)

/-- ITS FALSE NEIGHBOUR: 'it returns false'. Refute it at one input. -/
def levMadeWrong : ChangeSpec := { name := "levMade", fn := fun _ => fun
  | [d1, d2] => { results := [.lit (.bool false)], args := [d1, d2] }
  | _ => none }
def LevMadeWrongFalsely : Prop := levMadeRow.holds Tryd.pinned (OpenSpec.ofChange levMadeWrong)

/-- 'abecedarylaw11.LevStarts': WHATEVER THE INPUT: true; the input reads as it did. -/
def levStartsSpec : ChangeSpec := { name := "levStarts", fn := fun _ => fun
  | [d1, d2] => { results := [.lit (.bool true)], args := [d1, d2] }
  | _ => none }
def levStartsRow : OpenClaim := { program := "ytldohnolpojccaadoor", sum := "32c0202f5ff10caf4249bfa9b7bb6f7f76b55da62a0cd401670939060914a941", func := "abecedary/abecedarylaw11.LevStarts", spec := "levStarts", named := ["abecedary/letters.least"], apart := false, laid := [("abecedary/letters.least", laid_abecedary_letters_least)] }
def LevStartsSaid : Prop := levStartsRow.holds Tryd.pinned (OpenSpec.ofChange levStartsSpec)

/-- ITS FALSE NEIGHBOUR: 'it returns false'. Refute it at one input. -/
def levStartsWrong : ChangeSpec := { name := "levStarts", fn := fun _ => fun
  | [d1, d2] => { results := [.lit (.bool false)], args := [d1, d2] }
  | _ => none }
def LevStartsWrongFalsely : Prop := levStartsRow.holds Tryd.pinned (OpenSpec.ofChange levStartsWrong)

/-- 'abecedarylaw11.LevSteps': WHATEVER THE INPUT: true; the input reads as it did. -/
def levStepsSpec : ChangeSpec := { name := "levSteps", fn := fun _ => fun
  | [d1, d2, d3] => { results := [.lit (.bool true)], args := [d1, d2, d3] }
  | _ => none }
def levStepsRow : OpenClaim := { program := "ytldohnolpojccaadoor", sum := "32c0202f5ff10caf4249bfa9b7bb6f7f76b55da62a0cd401670939060914a941", func := "abecedary/abecedarylaw11.LevSteps", spec := "levSteps", named := ["abecedary/letters.least"], apart := false, laid := [("abecedary/letters.least", laid_abecedary_letters_least)] }
def LevStepsSaid : Prop := levStepsRow.holds Tryd.pinned (OpenSpec.ofChange levStepsSpec)

/-- ITS FALSE NEIGHBOUR: 'it returns false'. Refute it at one input. -/
def levStepsWrong : ChangeSpec := { name := "levSteps", fn := fun _ => fun
  | [d1, d2, d3] => { results := [.lit (.bool false)], args := [d1, d2, d3] }
  | _ => none }
def LevStepsWrongFalsely : Prop := levStepsRow.holds Tryd.pinned (OpenSpec.ofChange levStepsWrong)

/-- 'abecedarylaw11.LevReads': WHATEVER THE INPUT: true; the input reads as it did. -/
def levReadsSpec : ChangeSpec := { name := "levReads", fn := fun _ => fun
  | [d1, d2, d3] => { results := [.lit (.bool true)], args := [d1, d2, d3] }
  | _ => none }
def levReadsRow : OpenClaim := { program := "ytldohnolpojccaadoor", sum := "32c0202f5ff10caf4249bfa9b7bb6f7f76b55da62a0cd401670939060914a941", func := "abecedary/abecedarylaw11.LevReads", spec := "levReads", named := ["abecedary/letters.least"], apart := false, laid := [("abecedary/letters.least", laid_abecedary_letters_least)] }
def LevReadsSaid : Prop := levReadsRow.holds Tryd.pinned (OpenSpec.ofChange levReadsSpec)

/-- ITS FALSE NEIGHBOUR: 'it returns false'. Refute it at one input. -/
def levReadsWrong : ChangeSpec := { name := "levReads", fn := fun _ => fun
  | [d1, d2, d3] => { results := [.lit (.bool false)], args := [d1, d2, d3] }
  | _ => none }
def LevReadsWrongFalsely : Prop := levReadsRow.holds Tryd.pinned (OpenSpec.ofChange levReadsWrong)

/-- 'abecedarylaw11.LevNear': WHATEVER THE INPUT: true; the input reads as it did. -/
def levNearSpec : ChangeSpec := { name := "levNear", fn := fun _ => fun
  | [d1, d2, d3] => { results := [.lit (.bool true)], args := [d1, d2, d3] }
  | _ => none }
def levNearRow : OpenClaim := { program := "ytldohnolpojccaadoor", sum := "32c0202f5ff10caf4249bfa9b7bb6f7f76b55da62a0cd401670939060914a941", func := "abecedary/abecedarylaw11.LevNear", spec := "levNear", named := ["abecedary/letters.least"], apart := false, laid := [("abecedary/letters.least", laid_abecedary_letters_least)] }
def LevNearSaid : Prop := levNearRow.holds Tryd.pinned (OpenSpec.ofChange levNearSpec)

/-- ITS FALSE NEIGHBOUR: 'it returns false'. Refute it at one input. -/
def levNearWrong : ChangeSpec := { name := "levNear", fn := fun _ => fun
  | [d1, d2, d3] => { results := [.lit (.bool false)], args := [d1, d2, d3] }
  | _ => none }
def LevNearWrongFalsely : Prop := levNearRow.holds Tryd.pinned (OpenSpec.ofChange levNearWrong)

/-- 'abecedarylaw11.LevAsks': WHATEVER THE INPUT: true; the input reads as it did. -/
def levAsksSpec : ChangeSpec := { name := "levAsks", fn := fun _ => fun
  | [d1, d2, d3] => { results := [.lit (.bool true)], args := [d1, d2, d3] }
  | _ => none }
def levAsksRow : OpenClaim := { program := "ytldohnolpojccaadoor", sum := "32c0202f5ff10caf4249bfa9b7bb6f7f76b55da62a0cd401670939060914a941", func := "abecedary/abecedarylaw11.LevAsks", spec := "levAsks", named := ["abecedary/letters.least"], apart := false, laid := [("abecedary/letters.least", laid_abecedary_letters_least)] }
def LevAsksSaid : Prop := levAsksRow.holds Tryd.pinned (OpenSpec.ofChange levAsksSpec)

/-- ITS FALSE NEIGHBOUR: 'it returns false'. Refute it at one input. -/
def levAsksWrong : ChangeSpec := { name := "levAsks", fn := fun _ => fun
  | [d1, d2, d3] => { results := [.lit (.bool false)], args := [d1, d2, d3] }
  | _ => none }
def LevAsksWrongFalsely : Prop := levAsksRow.holds Tryd.pinned (OpenSpec.ofChange levAsksWrong)

/-- 'abecedarylaw11.LevDead': WHATEVER THE INPUT: true; the input reads as it did. -/
def levDeadSpec : ChangeSpec := { name := "levDead", fn := fun _ => fun
  | [d1, d2, d3] => { results := [.lit (.bool true)], args := [d1, d2, d3] }
  | _ => none }
def levDeadRow : OpenClaim := { program := "ytldohnolpojccaadoor", sum := "32c0202f5ff10caf4249bfa9b7bb6f7f76b55da62a0cd401670939060914a941", func := "abecedary/abecedarylaw11.LevDead", spec := "levDead", named := ["abecedary/letters.least"], apart := false, laid := [("abecedary/letters.least", laid_abecedary_letters_least)] }
def LevDeadSaid : Prop := levDeadRow.holds Tryd.pinned (OpenSpec.ofChange levDeadSpec)

/-- ITS FALSE NEIGHBOUR: 'it returns false'. Refute it at one input. -/
def levDeadWrong : ChangeSpec := { name := "levDead", fn := fun _ => fun
  | [d1, d2, d3] => { results := [.lit (.bool false)], args := [d1, d2, d3] }
  | _ => none }
def LevDeadWrongFalsely : Prop := levDeadRow.holds Tryd.pinned (OpenSpec.ofChange levDeadWrong)

/-- 'abecedarylaw11.LevLess': WHATEVER THE INPUT: true; the input reads as it did. -/
def levLessSpec : ChangeSpec := { name := "levLess", fn := fun _ => fun
  | [d1, d2, d3] => { results := [.lit (.bool true)], args := [d1, d2, d3] }
  | _ => none }
def levLessRow : OpenClaim := { program := "ytldohnolpojccaadoor", sum := "32c0202f5ff10caf4249bfa9b7bb6f7f76b55da62a0cd401670939060914a941", func := "abecedary/abecedarylaw11.LevLess", spec := "levLess", named := ["abecedary/letters.least"], apart := false, laid := [("abecedary/letters.least", laid_abecedary_letters_least)] }
def LevLessSaid : Prop := levLessRow.holds Tryd.pinned (OpenSpec.ofChange levLessSpec)

/-- ITS FALSE NEIGHBOUR: 'it returns false'. Refute it at one input. -/
def levLessWrong : ChangeSpec := { name := "levLess", fn := fun _ => fun
  | [d1, d2, d3] => { results := [.lit (.bool false)], args := [d1, d2, d3] }
  | _ => none }
def LevLessWrongFalsely : Prop := levLessRow.holds Tryd.pinned (OpenSpec.ofChange levLessWrong)

/- THE SECOND FORM. 'bulk': how many values and letters a reading holds, each counted each time it is reached (what is shared counts as often as it is met; a slice's spare places count too). A statement '..UptoSaid' is the law's where the arguments, and the package variables that the reading takes, are together of bulk at most 1048576: NARROWER than '..Said'. Prove '..Said' where nothing that the law and all that it calls make is longer than what came in: it says more and counts as full. Else prove '..UptoSaid'. A law counts once. -/
mutual
def uptoBulk {H : Type} : DataW H → Nat
  | .lit (.string bytes) => bytes.length + 1
  | .lit _ => 1
  | .nil => 1
  | .ptr d => uptoBulk d + 1
  | .slice elems spare => uptoBulkAll elems + uptoBulkAll spare + 1
  | .agg parts => uptoBulkAll parts + 1
  | .iface _ d => uptoBulk d + 1
  | .map entries => uptoBulkEntries entries + 1
  | .held _ => 1
def uptoBulkAll {H : Type} : List (DataW H) → Nat
  | [] => 0
  | d :: r => uptoBulk d + uptoBulkAll r
def uptoBulkEntries {H : Type} : List (Lit × DataW H) → Nat
  | [] => 0
  | x :: r => uptoBulkEntry x + uptoBulkEntries r
def uptoBulkEntry {H : Type} : Lit × DataW H → Nat
  | (.string bytes, d) => bytes.length + uptoBulk d + 1
  | (_, d) => uptoBulk d + 1
 end
def uptoSmall : (H : Type) → List (DataW H) → Bool := fun _ ds => decide (uptoBulkAll ds ≤ 1048576)
def OpenSpec.upto (s : _root_.Go.ChangeSpec) : _root_.Go.OpenSpec := { _root_.Go.OpenSpec.ofChange s with cond := some uptoSmall }

/-- 'abecedarylaw11.LevMade', WHERE WHAT IT READS IS OF BULK AT MOST 1048576: true; the input reads as it did. -/
def levMadeUptoRow : OpenClaim := { program := "ytldohnolpojccaadoor", sum := "32c0202f5ff10caf4249bfa9b7bb6f7f76b55da62a0cd401670939060914a941", func := "abecedary/abecedarylaw11.LevMade", spec := "levMade", named := ["abecedary/letters.least"], apart := false, laid := [("abecedary/letters.least", laid_abecedary_letters_least)], narrowed := true }
def LevMadeUptoSaid : Prop := levMadeUptoRow.holds Tryd.pinned (OpenSpec.upto levMadeSpec)

/-- 'abecedarylaw11.LevStarts', WHERE WHAT IT READS IS OF BULK AT MOST 1048576: true; the input reads as it did. -/
def levStartsUptoRow : OpenClaim := { program := "ytldohnolpojccaadoor", sum := "32c0202f5ff10caf4249bfa9b7bb6f7f76b55da62a0cd401670939060914a941", func := "abecedary/abecedarylaw11.LevStarts", spec := "levStarts", named := ["abecedary/letters.least"], apart := false, laid := [("abecedary/letters.least", laid_abecedary_letters_least)], narrowed := true }
def LevStartsUptoSaid : Prop := levStartsUptoRow.holds Tryd.pinned (OpenSpec.upto levStartsSpec)

/-- 'abecedarylaw11.LevSteps', WHERE WHAT IT READS IS OF BULK AT MOST 1048576: true; the input reads as it did. -/
def levStepsUptoRow : OpenClaim := { program := "ytldohnolpojccaadoor", sum := "32c0202f5ff10caf4249bfa9b7bb6f7f76b55da62a0cd401670939060914a941", func := "abecedary/abecedarylaw11.LevSteps", spec := "levSteps", named := ["abecedary/letters.least"], apart := false, laid := [("abecedary/letters.least", laid_abecedary_letters_least)], narrowed := true }
def LevStepsUptoSaid : Prop := levStepsUptoRow.holds Tryd.pinned (OpenSpec.upto levStepsSpec)

/-- 'abecedarylaw11.LevReads', WHERE WHAT IT READS IS OF BULK AT MOST 1048576: true; the input reads as it did. -/
def levReadsUptoRow : OpenClaim := { program := "ytldohnolpojccaadoor", sum := "32c0202f5ff10caf4249bfa9b7bb6f7f76b55da62a0cd401670939060914a941", func := "abecedary/abecedarylaw11.LevReads", spec := "levReads", named := ["abecedary/letters.least"], apart := false, laid := [("abecedary/letters.least", laid_abecedary_letters_least)], narrowed := true }
def LevReadsUptoSaid : Prop := levReadsUptoRow.holds Tryd.pinned (OpenSpec.upto levReadsSpec)

/-- 'abecedarylaw11.LevNear', WHERE WHAT IT READS IS OF BULK AT MOST 1048576: true; the input reads as it did. -/
def levNearUptoRow : OpenClaim := { program := "ytldohnolpojccaadoor", sum := "32c0202f5ff10caf4249bfa9b7bb6f7f76b55da62a0cd401670939060914a941", func := "abecedary/abecedarylaw11.LevNear", spec := "levNear", named := ["abecedary/letters.least"], apart := false, laid := [("abecedary/letters.least", laid_abecedary_letters_least)], narrowed := true }
def LevNearUptoSaid : Prop := levNearUptoRow.holds Tryd.pinned (OpenSpec.upto levNearSpec)

/-- 'abecedarylaw11.LevAsks', WHERE WHAT IT READS IS OF BULK AT MOST 1048576: true; the input reads as it did. -/
def levAsksUptoRow : OpenClaim := { program := "ytldohnolpojccaadoor", sum := "32c0202f5ff10caf4249bfa9b7bb6f7f76b55da62a0cd401670939060914a941", func := "abecedary/abecedarylaw11.LevAsks", spec := "levAsks", named := ["abecedary/letters.least"], apart := false, laid := [("abecedary/letters.least", laid_abecedary_letters_least)], narrowed := true }
def LevAsksUptoSaid : Prop := levAsksUptoRow.holds Tryd.pinned (OpenSpec.upto levAsksSpec)

/-- 'abecedarylaw11.LevDead', WHERE WHAT IT READS IS OF BULK AT MOST 1048576: true; the input reads as it did. -/
def levDeadUptoRow : OpenClaim := { program := "ytldohnolpojccaadoor", sum := "32c0202f5ff10caf4249bfa9b7bb6f7f76b55da62a0cd401670939060914a941", func := "abecedary/abecedarylaw11.LevDead", spec := "levDead", named := ["abecedary/letters.least"], apart := false, laid := [("abecedary/letters.least", laid_abecedary_letters_least)], narrowed := true }
def LevDeadUptoSaid : Prop := levDeadUptoRow.holds Tryd.pinned (OpenSpec.upto levDeadSpec)

/-- 'abecedarylaw11.LevLess', WHERE WHAT IT READS IS OF BULK AT MOST 1048576: true; the input reads as it did. -/
def levLessUptoRow : OpenClaim := { program := "ytldohnolpojccaadoor", sum := "32c0202f5ff10caf4249bfa9b7bb6f7f76b55da62a0cd401670939060914a941", func := "abecedary/abecedarylaw11.LevLess", spec := "levLess", named := ["abecedary/letters.least"], apart := false, laid := [("abecedary/letters.least", laid_abecedary_letters_least)], narrowed := true }
def LevLessUptoSaid : Prop := levLessUptoRow.holds Tryd.pinned (OpenSpec.upto levLessSpec)

end Rows
end Go.Proofs.YtldohnolpojccaaDoor
