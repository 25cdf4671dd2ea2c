/-
  NARROWER THAN 'FOR EVERY INPUT', by the rows' own cells (each row's printed sentence says how): LettersReads: laid · LettersWrites: laid · LettersBack: laid · LettersAgain: laid · LettersJoins: laid · LettersApart: laid · LettersWords: laid · LettersOrder: laid · LettersCommon: laid.
  DERIVED. THE GIVEN ROWS OF THIS SEAT. 9 by the template 'for every input the law returns true; each argument reads behind the call as it read before'; 0 by the template 'total and deterministic' (their statements: YtmbbgfdgekphoaaDoorTotals.lean).
  GIVEN WITH THE SEED: the statements are not yours to turn. If you find one false, say at which input.
  Laid BY PROGRAM, IN A SANDBOX (cutbox-rows.mjs): the forced cells as the released guide's own fill.sh prints them over the translation 7a77a741944369ff… (all of the seat's roots in one cut). By AI agents, Wed Nov 11 2026. No macro, syntax, notation, axiom, sorry.
-/
import Derived.Test.YtmbbgfdgekphoaaDoorChecked
import GoSem.Claim
import GoSem.ClaimJoined
import GoSem.ClaimMapViews
import Derived.JoinedTies
import Derived.KernelRfl
namespace Go.Proofs.YtmbbgfdgekphoaaDoor
/- THE CELL 'sum', in the pinned program and in every row, IS THE sha256 OF THE DUMP (.gsa) THAT YtmbbgfdgekphoaaDoorProg.lean LOADS. Nothing in Lean hashes anything: it is a label: what it is worth is what the hold of that sum in a sandbox is worth. -/
noncomputable def Tryd.pinned : Pinned := { name := "ytmbbgfdgekphoaadoor", sum := "7a77a741944369ffb490b42cc7e6dce88ba701c9e74994f0e1758bfed4e5acef", checked := Tryd.checked }
namespace Rows
def none {H : Type} : Left H := { results := [], args := [] }

/- WHAT THE LISTED PACKAGE-LEVEL VARIABLES READ AS WHEN THE CALL BEGINS. Each datum BY PROGRAM (the guide's laid-datum.mjs) off the statement by which the dump's own 'gosem.cut.vars' lays the variable. In a bare row this is a premise. The card (YtmbbgfdgekphoaaDoorCards.lean) ties it to the program's text. -/
def laid_abecedary_letters_least {H : Type} : DataW H := .agg [.lit (.int .i32 0), .lit (.int .i32 0), .lit (.int .i32 128), .lit (.int .i32 2048), .lit (.int .i32 65536)]

/-- 'abecedarylaw01.LettersReads': WHATEVER THE INPUT: true; the input reads as it did. -/
def lettersReadsSpec : ChangeSpec := { name := "lettersReads", fn := fun _ => fun
  | [d] => { results := [.lit (.bool true)], args := [d] }
  | _ => none }
def lettersReadsRow : OpenClaim := { program := "ytmbbgfdgekphoaadoor", sum := "7a77a741944369ffb490b42cc7e6dce88ba701c9e74994f0e1758bfed4e5acef", func := "abecedary/abecedarylaw01.LettersReads", spec := "lettersReads", named := ["abecedary/letters.least"], apart := false, laid := [("abecedary/letters.least", laid_abecedary_letters_least)] }
def LettersReadsSaid : Prop := lettersReadsRow.holds Tryd.pinned (OpenSpec.ofChange lettersReadsSpec)

/-- ITS FALSE NEIGHBOUR: 'it returns false'. Refute it at one input. -/
def lettersReadsWrong : ChangeSpec := { name := "lettersReads", fn := fun _ => fun
  | [d] => { results := [.lit (.bool false)], args := [d] }
  | _ => none }
def LettersReadsWrongFalsely : Prop := lettersReadsRow.holds Tryd.pinned (OpenSpec.ofChange lettersReadsWrong)

/-- 'abecedarylaw01.LettersWrites': WHATEVER THE INPUT: true; the input reads as it did. -/
def lettersWritesSpec : ChangeSpec := { name := "lettersWrites", fn := fun _ => fun
  | [d] => { results := [.lit (.bool true)], args := [d] }
  | _ => none }
def lettersWritesRow : OpenClaim := { program := "ytmbbgfdgekphoaadoor", sum := "7a77a741944369ffb490b42cc7e6dce88ba701c9e74994f0e1758bfed4e5acef", func := "abecedary/abecedarylaw01.LettersWrites", spec := "lettersWrites", named := ["abecedary/letters.least"], apart := false, laid := [("abecedary/letters.least", laid_abecedary_letters_least)] }
def LettersWritesSaid : Prop := lettersWritesRow.holds Tryd.pinned (OpenSpec.ofChange lettersWritesSpec)

/-- ITS FALSE NEIGHBOUR: 'it returns false'. Refute it at one input. -/
def lettersWritesWrong : ChangeSpec := { name := "lettersWrites", fn := fun _ => fun
  | [d] => { results := [.lit (.bool false)], args := [d] }
  | _ => none }
def LettersWritesWrongFalsely : Prop := lettersWritesRow.holds Tryd.pinned (OpenSpec.ofChange lettersWritesWrong)

/-- 'abecedarylaw01.LettersBack': WHATEVER THE INPUT: true; the input reads as it did. -/
def lettersBackSpec : ChangeSpec := { name := "lettersBack", fn := fun _ => fun
  | [d] => { results := [.lit (.bool true)], args := [d] }
  | _ => none }
def lettersBackRow : OpenClaim := { program := "ytmbbgfdgekphoaadoor", sum := "7a77a741944369ffb490b42cc7e6dce88ba701c9e74994f0e1758bfed4e5acef", func := "abecedary/abecedarylaw01.LettersBack", spec := "lettersBack", named := ["abecedary/letters.least"], apart := false, laid := [("abecedary/letters.least", laid_abecedary_letters_least)] }
def LettersBackSaid : Prop := lettersBackRow.holds Tryd.pinned (OpenSpec.ofChange lettersBackSpec)

/-- ITS FALSE NEIGHBOUR: 'it returns false'. Refute it at one input. -/
def lettersBackWrong : ChangeSpec := { name := "lettersBack", fn := fun _ => fun
  | [d] => { results := [.lit (.bool false)], args := [d] }
  | _ => none }
def LettersBackWrongFalsely : Prop := lettersBackRow.holds Tryd.pinned (OpenSpec.ofChange lettersBackWrong)

/-- 'abecedarylaw01.LettersAgain': WHATEVER THE INPUT: true; the input reads as it did. -/
def lettersAgainSpec : ChangeSpec := { name := "lettersAgain", fn := fun _ => fun
  | [d] => { results := [.lit (.bool true)], args := [d] }
  | _ => none }
def lettersAgainRow : OpenClaim := { program := "ytmbbgfdgekphoaadoor", sum := "7a77a741944369ffb490b42cc7e6dce88ba701c9e74994f0e1758bfed4e5acef", func := "abecedary/abecedarylaw01.LettersAgain", spec := "lettersAgain", named := ["abecedary/letters.least"], apart := false, laid := [("abecedary/letters.least", laid_abecedary_letters_least)] }
def LettersAgainSaid : Prop := lettersAgainRow.holds Tryd.pinned (OpenSpec.ofChange lettersAgainSpec)

/-- ITS FALSE NEIGHBOUR: 'it returns false'. Refute it at one input. -/
def lettersAgainWrong : ChangeSpec := { name := "lettersAgain", fn := fun _ => fun
  | [d] => { results := [.lit (.bool false)], args := [d] }
  | _ => none }
def LettersAgainWrongFalsely : Prop := lettersAgainRow.holds Tryd.pinned (OpenSpec.ofChange lettersAgainWrong)

/-- 'abecedarylaw01.LettersJoins': WHATEVER THE INPUT: true; the input reads as it did. -/
def lettersJoinsSpec : ChangeSpec := { name := "lettersJoins", fn := fun _ => fun
  | [d1, d2] => { results := [.lit (.bool true)], args := [d1, d2] }
  | _ => none }
def lettersJoinsRow : OpenClaim := { program := "ytmbbgfdgekphoaadoor", sum := "7a77a741944369ffb490b42cc7e6dce88ba701c9e74994f0e1758bfed4e5acef", func := "abecedary/abecedarylaw01.LettersJoins", spec := "lettersJoins", named := ["abecedary/letters.least"], apart := false, laid := [("abecedary/letters.least", laid_abecedary_letters_least)] }
def LettersJoinsSaid : Prop := lettersJoinsRow.holds Tryd.pinned (OpenSpec.ofChange lettersJoinsSpec)

/-- ITS FALSE NEIGHBOUR: 'it returns false'. Refute it at one input. -/
def lettersJoinsWrong : ChangeSpec := { name := "lettersJoins", fn := fun _ => fun
  | [d1, d2] => { results := [.lit (.bool false)], args := [d1, d2] }
  | _ => none }
def LettersJoinsWrongFalsely : Prop := lettersJoinsRow.holds Tryd.pinned (OpenSpec.ofChange lettersJoinsWrong)

/-- 'abecedarylaw01.LettersApart': WHATEVER THE INPUT: true; the input reads as it did. -/
def lettersApartSpec : ChangeSpec := { name := "lettersApart", fn := fun _ => fun
  | [d1, d2] => { results := [.lit (.bool true)], args := [d1, d2] }
  | _ => none }
def lettersApartRow : OpenClaim := { program := "ytmbbgfdgekphoaadoor", sum := "7a77a741944369ffb490b42cc7e6dce88ba701c9e74994f0e1758bfed4e5acef", func := "abecedary/abecedarylaw01.LettersApart", spec := "lettersApart", named := ["abecedary/letters.least"], apart := false, laid := [("abecedary/letters.least", laid_abecedary_letters_least)] }
def LettersApartSaid : Prop := lettersApartRow.holds Tryd.pinned (OpenSpec.ofChange lettersApartSpec)

/-- ITS FALSE NEIGHBOUR: 'it returns false'. Refute it at one input. -/
def lettersApartWrong : ChangeSpec := { name := "lettersApart", fn := fun _ => fun
  | [d1, d2] => { results := [.lit (.bool false)], args := [d1, d2] }
  | _ => none }
def LettersApartWrongFalsely : Prop := lettersApartRow.holds Tryd.pinned (OpenSpec.ofChange lettersApartWrong)

/-- 'abecedarylaw01.LettersWords': WHATEVER THE INPUT: true; the input reads as it did. -/
def lettersWordsSpec : ChangeSpec := { name := "lettersWords", fn := fun _ => fun
  | [d] => { results := [.lit (.bool true)], args := [d] }
  | _ => none }
def lettersWordsRow : OpenClaim := { program := "ytmbbgfdgekphoaadoor", sum := "7a77a741944369ffb490b42cc7e6dce88ba701c9e74994f0e1758bfed4e5acef", func := "abecedary/abecedarylaw01.LettersWords", spec := "lettersWords", named := ["abecedary/letters.least"], apart := false, laid := [("abecedary/letters.least", laid_abecedary_letters_least)] }
def LettersWordsSaid : Prop := lettersWordsRow.holds Tryd.pinned (OpenSpec.ofChange lettersWordsSpec)

/-- ITS FALSE NEIGHBOUR: 'it returns false'. Refute it at one input. -/
def lettersWordsWrong : ChangeSpec := { name := "lettersWords", fn := fun _ => fun
  | [d] => { results := [.lit (.bool false)], args := [d] }
  | _ => none }
def LettersWordsWrongFalsely : Prop := lettersWordsRow.holds Tryd.pinned (OpenSpec.ofChange lettersWordsWrong)

/-- 'abecedarylaw01.LettersOrder': WHATEVER THE INPUT: true; the input reads as it did. -/
def lettersOrderSpec : ChangeSpec := { name := "lettersOrder", fn := fun _ => fun
  | [d1, d2] => { results := [.lit (.bool true)], args := [d1, d2] }
  | _ => none }
def lettersOrderRow : OpenClaim := { program := "ytmbbgfdgekphoaadoor", sum := "7a77a741944369ffb490b42cc7e6dce88ba701c9e74994f0e1758bfed4e5acef", func := "abecedary/abecedarylaw01.LettersOrder", spec := "lettersOrder", named := ["abecedary/letters.least"], apart := false, laid := [("abecedary/letters.least", laid_abecedary_letters_least)] }
def LettersOrderSaid : Prop := lettersOrderRow.holds Tryd.pinned (OpenSpec.ofChange lettersOrderSpec)

/-- ITS FALSE NEIGHBOUR: 'it returns false'. Refute it at one input. -/
def lettersOrderWrong : ChangeSpec := { name := "lettersOrder", fn := fun _ => fun
  | [d1, d2] => { results := [.lit (.bool false)], args := [d1, d2] }
  | _ => none }
def LettersOrderWrongFalsely : Prop := lettersOrderRow.holds Tryd.pinned (OpenSpec.ofChange lettersOrderWrong)

/-- 'abecedarylaw01.LettersCommon': WHATEVER THE INPUT: true; the input reads as it did. -/
def lettersCommonSpec : ChangeSpec := { name := "lettersCommon", fn := fun _ => fun
  | [d1, d2] => { results := [.lit (.bool true)], args := [d1, d2] }
  | _ => none }
def lettersCommonRow : OpenClaim := { program := "ytmbbgfdgekphoaadoor", sum := "7a77a741944369ffb490b42cc7e6dce88ba701c9e74994f0e1758bfed4e5acef", func := "abecedary/abecedarylaw01.LettersCommon", spec := "lettersCommon", named := ["abecedary/letters.least"], apart := false, laid := [("abecedary/letters.least", laid_abecedary_letters_least)] }
def LettersCommonSaid : Prop := lettersCommonRow.holds Tryd.pinned (OpenSpec.ofChange lettersCommonSpec)

/-- ITS FALSE NEIGHBOUR: 'it returns false'. Refute it at one input. -/
def lettersCommonWrong : ChangeSpec := { name := "lettersCommon", fn := fun _ => fun
  | [d1, d2] => { results := [.lit (.bool false)], args := [d1, d2] }
  | _ => none }
def LettersCommonWrongFalsely : Prop := lettersCommonRow.holds Tryd.pinned (OpenSpec.ofChange lettersCommonWrong)

/- THE SECOND FORM. 'bulk': how many values and letters a reading holds, each counted each time it is reached (what is shared counts as often as it is met; a slice's spare places count too). A statement '..UptoSaid' is the law's where the arguments, and the package variables that the reading takes, are together of bulk at most 1048576: NARROWER than '..Said'. Prove '..Said' where nothing that the law and all that it calls make is longer than what came in: it says more and counts as full. Else prove '..UptoSaid'. A law counts once. -/
mutual
def uptoBulk {H : Type} : DataW H → Nat
  | .lit (.string bytes) => bytes.length + 1
  | .lit _ => 1
  | .nil => 1
  | .ptr d => uptoBulk d + 1
  | .slice elems spare => uptoBulkAll elems + uptoBulkAll spare + 1
  | .agg parts => uptoBulkAll parts + 1
  | .iface _ d => uptoBulk d + 1
  | .map entries => uptoBulkEntries entries + 1
  | .held _ => 1
def uptoBulkAll {H : Type} : List (DataW H) → Nat
  | [] => 0
  | d :: r => uptoBulk d + uptoBulkAll r
def uptoBulkEntries {H : Type} : List (Lit × DataW H) → Nat
  | [] => 0
  | x :: r => uptoBulkEntry x + uptoBulkEntries r
def uptoBulkEntry {H : Type} : Lit × DataW H → Nat
  | (.string bytes, d) => bytes.length + uptoBulk d + 1
  | (_, d) => uptoBulk d + 1
 end
def uptoSmall : (H : Type) → List (DataW H) → Bool := fun _ ds => decide (uptoBulkAll ds ≤ 1048576)
def OpenSpec.upto (s : _root_.Go.ChangeSpec) : _root_.Go.OpenSpec := { _root_.Go.OpenSpec.ofChange s with cond := some uptoSmall }

/-- 'abecedarylaw01.LettersReads', WHERE WHAT IT READS IS OF BULK AT MOST 1048576: true; the input reads as it did. -/
def lettersReadsUptoRow : OpenClaim := { program := "ytmbbgfdgekphoaadoor", sum := "7a77a741944369ffb490b42cc7e6dce88ba701c9e74994f0e1758bfed4e5acef", func := "abecedary/abecedarylaw01.LettersReads", spec := "lettersReads", named := ["abecedary/letters.least"], apart := false, laid := [("abecedary/letters.least", laid_abecedary_letters_least)], narrowed := true }
def LettersReadsUptoSaid : Prop := lettersReadsUptoRow.holds Tryd.pinned (OpenSpec.upto lettersReadsSpec)

/-- 'abecedarylaw01.LettersWrites', WHERE WHAT IT READS IS OF BULK AT MOST 1048576: true; the input reads as it did. -/
def lettersWritesUptoRow : OpenClaim := { program := "ytmbbgfdgekphoaadoor", sum := "7a77a741944369ffb490b42cc7e6dce88ba701c9e74994f0e1758bfed4e5acef", func := "abecedary/abecedarylaw01.LettersWrites", spec := "lettersWrites", named := ["abecedary/letters.least"], apart := false, laid := [("abecedary/letters.least", laid_abecedary_letters_least)], narrowed := true }
def LettersWritesUptoSaid : Prop := lettersWritesUptoRow.holds Tryd.pinned (OpenSpec.upto lettersWritesSpec)

/-- 'abecedarylaw01.LettersBack', WHERE WHAT IT READS IS OF BULK AT MOST 1048576: true; the input reads as it did. -/
def lettersBackUptoRow : OpenClaim := { program := "ytmbbgfdgekphoaadoor", sum := "7a77a741944369ffb490b42cc7e6dce88ba701c9e74994f0e1758bfed4e5acef", func := "abecedary/abecedarylaw01.LettersBack", spec := "lettersBack", named := ["abecedary/letters.least"], apart := false, laid := [("abecedary/letters.least", laid_abecedary_letters_least)], narrowed := true }
def LettersBackUptoSaid : Prop := lettersBackUptoRow.holds Tryd.pinned (OpenSpec.upto lettersBackSpec)

/-- 'abecedarylaw01.LettersAgain', WHERE WHAT IT READS IS OF BULK AT MOST 1048576: true; the input reads as it did. -/
def lettersAgainUptoRow : OpenClaim := { program := "ytmbbgfdgekphoaadoor", sum := "7a77a741944369ffb490b42cc7e6dce88ba701c9e74994f0e1758bfed4e5acef", func := "abecedary/abecedarylaw01.LettersAgain", spec := "lettersAgain", named := ["abecedary/letters.least"], apart := false, laid := [("abecedary/letters.least", laid_abecedary_letters_least)], narrowed := true }
def LettersAgainUptoSaid : Prop := lettersAgainUptoRow.holds Tryd.pinned (OpenSpec.upto lettersAgainSpec)

/-- 'abecedarylaw01.LettersJoins', WHERE WHAT IT READS IS OF BULK AT MOST 1048576: true; the input reads as it did. -/
def lettersJoinsUptoRow : OpenClaim := { program := "ytmbbgfdgekphoaadoor", sum := "7a77a741944369ffb490b42cc7e6dce88ba701c9e74994f0e1758bfed4e5acef", func := "abecedary/abecedarylaw01.LettersJoins", spec := "lettersJoins", named := ["abecedary/letters.least"], apart := false, laid := [("abecedary/letters.least", laid_abecedary_letters_least)], narrowed := true }
def LettersJoinsUptoSaid : Prop := lettersJoinsUptoRow.holds Tryd.pinned (OpenSpec.upto lettersJoinsSpec)

/-- 'abecedarylaw01.LettersApart', WHERE WHAT IT READS IS OF BULK AT MOST 1048576: true; the input reads as it did. -/
def lettersApartUptoRow : OpenClaim := { program := "ytmbbgfdgekphoaadoor", sum := "7a77a741944369ffb490b42cc7e6dce88ba701c9e74994f0e1758bfed4e5acef", func := "abecedary/abecedarylaw01.LettersApart", spec := "lettersApart", named := ["abecedary/letters.least"], apart := false, laid := [("abecedary/letters.least", laid_abecedary_letters_least)], narrowed := true }
def LettersApartUptoSaid : Prop := lettersApartUptoRow.holds Tryd.pinned (OpenSpec.upto lettersApartSpec)

/-- 'abecedarylaw01.LettersWords', WHERE WHAT IT READS IS OF BULK AT MOST 1048576: true; the input reads as it did. -/
def lettersWordsUptoRow : OpenClaim := { program := "ytmbbgfdgekphoaadoor", sum := "7a77a741944369ffb490b42cc7e6dce88ba701c9e74994f0e1758bfed4e5acef", func := "abecedary/abecedarylaw01.LettersWords", spec := "lettersWords", named := ["abecedary/letters.least"], apart := false, laid := [("abecedary/letters.least", laid_abecedary_letters_least)], narrowed := true }
def LettersWordsUptoSaid : Prop := lettersWordsUptoRow.holds Tryd.pinned (OpenSpec.upto lettersWordsSpec)

/-- 'abecedarylaw01.LettersOrder', WHERE WHAT IT READS IS OF BULK AT MOST 1048576: true; the input reads as it did. -/
def lettersOrderUptoRow : OpenClaim := { program := "ytmbbgfdgekphoaadoor", sum := "7a77a741944369ffb490b42cc7e6dce88ba701c9e74994f0e1758bfed4e5acef", func := "abecedary/abecedarylaw01.LettersOrder", spec := "lettersOrder", named := ["abecedary/letters.least"], apart := false, laid := [("abecedary/letters.least", laid_abecedary_letters_least)], narrowed := true }
def LettersOrderUptoSaid : Prop := lettersOrderUptoRow.holds Tryd.pinned (OpenSpec.upto lettersOrderSpec)

/-- 'abecedarylaw01.LettersCommon', WHERE WHAT IT READS IS OF BULK AT MOST 1048576: true; the input reads as it did. -/
def lettersCommonUptoRow : OpenClaim := { program := "ytmbbgfdgekphoaadoor", sum := "7a77a741944369ffb490b42cc7e6dce88ba701c9e74994f0e1758bfed4e5acef", func := "abecedary/abecedarylaw01.LettersCommon", spec := "lettersCommon", named := ["abecedary/letters.least"], apart := false, laid := [("abecedary/letters.least", laid_abecedary_letters_least)], narrowed := true }
def LettersCommonUptoSaid : Prop := lettersCommonUptoRow.holds Tryd.pinned (OpenSpec.upto lettersCommonSpec)

end Rows
end Go.Proofs.YtmbbgfdgekphoaaDoor
