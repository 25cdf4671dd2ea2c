/-
  NARROWER THAN 'FOR EVERY INPUT', by the rows' own cells (each row's printed sentence says how): EditFar: laid · EditWithin: laid · EditBack: laid · EditAround: laid · EditBounds: laid · EditEnds: laid · EditOnce: laid · EditPaths: laid.
  DERIVED. THE GIVEN ROWS OF THIS SEAT. 8 by the template 'for every input the law returns true; each argument reads behind the call as it read before'; 0 by the template 'total and deterministic' (their statements: YtacbokpjegbbbaaDoorTotals.lean).
  GIVEN WITH THE SEED: the statements are not yours to turn. If you find one false, say at which input.
  Laid BY PROGRAM, IN A SANDBOX (cutbox-rows.mjs): the forced cells as the released guide's own fill.sh prints them over the translation 1588256244f22eff… (all of the seat's roots in one cut). By AI agents, Wed Nov 11 2026. No macro, syntax, notation, axiom, sorry.
-/
import Derived.Test.YtacbokpjegbbbaaDoorChecked
import GoSem.Claim
import GoSem.ClaimJoined
import GoSem.ClaimMapViews
import Derived.JoinedTies
import Derived.KernelRfl
namespace Go.Proofs.YtacbokpjegbbbaaDoor
/- THE CELL 'sum', in the pinned program and in every row, IS THE sha256 OF THE DUMP (.gsa) THAT YtacbokpjegbbbaaDoorProg.lean LOADS. Nothing in Lean hashes anything: it is a label: what it is worth is what the hold of that sum in a sandbox is worth. -/
noncomputable def Tryd.pinned : Pinned := { name := "ytacbokpjegbbbaadoor", sum := "1588256244f22eff305bb88b89f9a0460486669091b91ef79a1f732814451a5d", checked := Tryd.checked }
namespace Rows
def none {H : Type} : Left H := { results := [], args := [] }

/- WHAT THE LISTED PACKAGE-LEVEL VARIABLES READ AS WHEN THE CALL BEGINS. Each datum BY PROGRAM (the guide's laid-datum.mjs) off the statement by which the dump's own 'gosem.cut.vars' lays the variable. In a bare row this is a premise. The card (YtacbokpjegbbbaaDoorCards.lean) ties it to the program's text. -/
def laid_abecedary_letters_least {H : Type} : DataW H := .agg [.lit (.int .i32 0), .lit (.int .i32 0), .lit (.int .i32 128), .lit (.int .i32 2048), .lit (.int .i32 65536)]

/-- 'abecedarylaw10.EditFar': WHATEVER THE INPUT: true; the input reads as it did. -/
def editFarSpec : ChangeSpec := { name := "editFar", fn := fun _ => fun
  | [d1, d2] => { results := [.lit (.bool true)], args := [d1, d2] }
  | _ => none }
def editFarRow : OpenClaim := { program := "ytacbokpjegbbbaadoor", sum := "1588256244f22eff305bb88b89f9a0460486669091b91ef79a1f732814451a5d", func := "abecedary/abecedarylaw10.EditFar", spec := "editFar", named := ["abecedary/letters.least"], apart := false, laid := [("abecedary/letters.least", laid_abecedary_letters_least)] }
def EditFarSaid : Prop := editFarRow.holds Tryd.pinned (OpenSpec.ofChange editFarSpec)

/-- ITS FALSE NEIGHBOUR: 'it returns false'. Refute it at one input. -/
def editFarWrong : ChangeSpec := { name := "editFar", fn := fun _ => fun
  | [d1, d2] => { results := [.lit (.bool false)], args := [d1, d2] }
  | _ => none }
def EditFarWrongFalsely : Prop := editFarRow.holds Tryd.pinned (OpenSpec.ofChange editFarWrong)

/-- 'abecedarylaw10.EditWithin': WHATEVER THE INPUT: true; the input reads as it did. -/
def editWithinSpec : ChangeSpec := { name := "editWithin", fn := fun _ => fun
  | [d1, d2, d3] => { results := [.lit (.bool true)], args := [d1, d2, d3] }
  | _ => none }
def editWithinRow : OpenClaim := { program := "ytacbokpjegbbbaadoor", sum := "1588256244f22eff305bb88b89f9a0460486669091b91ef79a1f732814451a5d", func := "abecedary/abecedarylaw10.EditWithin", spec := "editWithin", named := ["abecedary/letters.least"], apart := false, laid := [("abecedary/letters.least", laid_abecedary_letters_least)] }
def EditWithinSaid : Prop := editWithinRow.holds Tryd.pinned (OpenSpec.ofChange editWithinSpec)

/-- ITS FALSE NEIGHBOUR: 'it returns false'. Refute it at one input. -/
def editWithinWrong : ChangeSpec := { name := "editWithin", fn := fun _ => fun
  | [d1, d2, d3] => { results := [.lit (.bool false)], args := [d1, d2, d3] }
  | _ => none }
def EditWithinWrongFalsely : Prop := editWithinRow.holds Tryd.pinned (OpenSpec.ofChange editWithinWrong)

/-- 'abecedarylaw10.EditBack': WHATEVER THE INPUT: true; the input reads as it did. -/
def editBackSpec : ChangeSpec := { name := "editBack", fn := fun _ => fun
  | [d1, d2] => { results := [.lit (.bool true)], args := [d1, d2] }
  | _ => none }
def editBackRow : OpenClaim := { program := "ytacbokpjegbbbaadoor", sum := "1588256244f22eff305bb88b89f9a0460486669091b91ef79a1f732814451a5d", func := "abecedary/abecedarylaw10.EditBack", spec := "editBack", named := ["abecedary/letters.least"], apart := false, laid := [("abecedary/letters.least", laid_abecedary_letters_least)] }
def EditBackSaid : Prop := editBackRow.holds Tryd.pinned (OpenSpec.ofChange editBackSpec)

/-- ITS FALSE NEIGHBOUR: 'it returns false'. Refute it at one input. -/
def editBackWrong : ChangeSpec := { name := "editBack", fn := fun _ => fun
  | [d1, d2] => { results := [.lit (.bool false)], args := [d1, d2] }
  | _ => none }
def EditBackWrongFalsely : Prop := editBackRow.holds Tryd.pinned (OpenSpec.ofChange editBackWrong)

/-- 'abecedarylaw10.EditAround': WHATEVER THE INPUT: true; the input reads as it did. -/
def editAroundSpec : ChangeSpec := { name := "editAround", fn := fun _ => fun
  | [d1, d2, d3] => { results := [.lit (.bool true)], args := [d1, d2, d3] }
  | _ => none }
def editAroundRow : OpenClaim := { program := "ytacbokpjegbbbaadoor", sum := "1588256244f22eff305bb88b89f9a0460486669091b91ef79a1f732814451a5d", func := "abecedary/abecedarylaw10.EditAround", spec := "editAround", named := ["abecedary/letters.least"], apart := false, laid := [("abecedary/letters.least", laid_abecedary_letters_least)] }
def EditAroundSaid : Prop := editAroundRow.holds Tryd.pinned (OpenSpec.ofChange editAroundSpec)

/-- ITS FALSE NEIGHBOUR: 'it returns false'. Refute it at one input. -/
def editAroundWrong : ChangeSpec := { name := "editAround", fn := fun _ => fun
  | [d1, d2, d3] => { results := [.lit (.bool false)], args := [d1, d2, d3] }
  | _ => none }
def EditAroundWrongFalsely : Prop := editAroundRow.holds Tryd.pinned (OpenSpec.ofChange editAroundWrong)

/-- 'abecedarylaw10.EditBounds': WHATEVER THE INPUT: true; the input reads as it did. -/
def editBoundsSpec : ChangeSpec := { name := "editBounds", fn := fun _ => fun
  | [d1, d2] => { results := [.lit (.bool true)], args := [d1, d2] }
  | _ => none }
def editBoundsRow : OpenClaim := { program := "ytacbokpjegbbbaadoor", sum := "1588256244f22eff305bb88b89f9a0460486669091b91ef79a1f732814451a5d", func := "abecedary/abecedarylaw10.EditBounds", spec := "editBounds", named := ["abecedary/letters.least"], apart := false, laid := [("abecedary/letters.least", laid_abecedary_letters_least)] }
def EditBoundsSaid : Prop := editBoundsRow.holds Tryd.pinned (OpenSpec.ofChange editBoundsSpec)

/-- ITS FALSE NEIGHBOUR: 'it returns false'. Refute it at one input. -/
def editBoundsWrong : ChangeSpec := { name := "editBounds", fn := fun _ => fun
  | [d1, d2] => { results := [.lit (.bool false)], args := [d1, d2] }
  | _ => none }
def EditBoundsWrongFalsely : Prop := editBoundsRow.holds Tryd.pinned (OpenSpec.ofChange editBoundsWrong)

/-- 'abecedarylaw10.EditEnds': WHATEVER THE INPUT: true; the input reads as it did. -/
def editEndsSpec : ChangeSpec := { name := "editEnds", fn := fun _ => fun
  | [d1, d2, d3] => { results := [.lit (.bool true)], args := [d1, d2, d3] }
  | _ => none }
def editEndsRow : OpenClaim := { program := "ytacbokpjegbbbaadoor", sum := "1588256244f22eff305bb88b89f9a0460486669091b91ef79a1f732814451a5d", func := "abecedary/abecedarylaw10.EditEnds", spec := "editEnds", named := ["abecedary/letters.least"], apart := false, laid := [("abecedary/letters.least", laid_abecedary_letters_least)] }
def EditEndsSaid : Prop := editEndsRow.holds Tryd.pinned (OpenSpec.ofChange editEndsSpec)

/-- ITS FALSE NEIGHBOUR: 'it returns false'. Refute it at one input. -/
def editEndsWrong : ChangeSpec := { name := "editEnds", fn := fun _ => fun
  | [d1, d2, d3] => { results := [.lit (.bool false)], args := [d1, d2, d3] }
  | _ => none }
def EditEndsWrongFalsely : Prop := editEndsRow.holds Tryd.pinned (OpenSpec.ofChange editEndsWrong)

/-- 'abecedarylaw10.EditOnce': WHATEVER THE INPUT: true; the input reads as it did. -/
def editOnceSpec : ChangeSpec := { name := "editOnce", fn := fun _ => fun
  | [d1, d2] => { results := [.lit (.bool true)], args := [d1, d2] }
  | _ => none }
def editOnceRow : OpenClaim := { program := "ytacbokpjegbbbaadoor", sum := "1588256244f22eff305bb88b89f9a0460486669091b91ef79a1f732814451a5d", func := "abecedary/abecedarylaw10.EditOnce", spec := "editOnce", recurses := true, named := ["abecedary/letters.least"], apart := false, laid := [("abecedary/letters.least", laid_abecedary_letters_least)] }
def EditOnceSaid : Prop := editOnceRow.holds Tryd.pinned (OpenSpec.ofChange editOnceSpec)

/-- ITS FALSE NEIGHBOUR: 'it returns false'. Refute it at one input. -/
def editOnceWrong : ChangeSpec := { name := "editOnce", fn := fun _ => fun
  | [d1, d2] => { results := [.lit (.bool false)], args := [d1, d2] }
  | _ => none }
def EditOnceWrongFalsely : Prop := editOnceRow.holds Tryd.pinned (OpenSpec.ofChange editOnceWrong)

/-- 'abecedarylaw10.EditPaths': WHATEVER THE INPUT: true; the input reads as it did. -/
def editPathsSpec : ChangeSpec := { name := "editPaths", fn := fun _ => fun
  | [d1, d2] => { results := [.lit (.bool true)], args := [d1, d2] }
  | _ => none }
def editPathsRow : OpenClaim := { program := "ytacbokpjegbbbaadoor", sum := "1588256244f22eff305bb88b89f9a0460486669091b91ef79a1f732814451a5d", func := "abecedary/abecedarylaw10.EditPaths", spec := "editPaths", inPlace := ["slices.overlaps[rune]"], recurses := true, named := ["abecedary/letters.least"], apart := false, laid := [("abecedary/letters.least", laid_abecedary_letters_least)] }
def EditPathsSaid : Prop := editPathsRow.holds Tryd.pinned (OpenSpec.ofChange editPathsSpec)

/-- ITS FALSE NEIGHBOUR: 'it returns false'. Refute it at one input. -/
def editPathsWrong : ChangeSpec := { name := "editPaths", fn := fun _ => fun
  | [d1, d2] => { results := [.lit (.bool false)], args := [d1, d2] }
  | _ => none }
def EditPathsWrongFalsely : Prop := editPathsRow.holds Tryd.pinned (OpenSpec.ofChange editPathsWrong)

/- THE SECOND FORM. 'bulk': how many values and letters a reading holds, each counted each time it is reached (what is shared counts as often as it is met; a slice's spare places count too). A statement '..UptoSaid' is the law's where the arguments, and the package variables that the reading takes, are together of bulk at most 1048576: NARROWER than '..Said'. Prove '..Said' where nothing that the law and all that it calls make is longer than what came in: it says more and counts as full. Else prove '..UptoSaid'. A law counts once. -/
mutual
def uptoBulk {H : Type} : DataW H → Nat
  | .lit (.string bytes) => bytes.length + 1
  | .lit _ => 1
  | .nil => 1
  | .ptr d => uptoBulk d + 1
  | .slice elems spare => uptoBulkAll elems + uptoBulkAll spare + 1
  | .agg parts => uptoBulkAll parts + 1
  | .iface _ d => uptoBulk d + 1
  | .map entries => uptoBulkEntries entries + 1
  | .held _ => 1
def uptoBulkAll {H : Type} : List (DataW H) → Nat
  | [] => 0
  | d :: r => uptoBulk d + uptoBulkAll r
def uptoBulkEntries {H : Type} : List (Lit × DataW H) → Nat
  | [] => 0
  | x :: r => uptoBulkEntry x + uptoBulkEntries r
def uptoBulkEntry {H : Type} : Lit × DataW H → Nat
  | (.string bytes, d) => bytes.length + uptoBulk d + 1
  | (_, d) => uptoBulk d + 1
 end
def uptoSmall : (H : Type) → List (DataW H) → Bool := fun _ ds => decide (uptoBulkAll ds ≤ 1048576)
def OpenSpec.upto (s : _root_.Go.ChangeSpec) : _root_.Go.OpenSpec := { _root_.Go.OpenSpec.ofChange s with cond := some uptoSmall }

/-- 'abecedarylaw10.EditFar', WHERE WHAT IT READS IS OF BULK AT MOST 1048576: true; the input reads as it did. -/
def editFarUptoRow : OpenClaim := { program := "ytacbokpjegbbbaadoor", sum := "1588256244f22eff305bb88b89f9a0460486669091b91ef79a1f732814451a5d", func := "abecedary/abecedarylaw10.EditFar", spec := "editFar", named := ["abecedary/letters.least"], apart := false, laid := [("abecedary/letters.least", laid_abecedary_letters_least)], narrowed := true }
def EditFarUptoSaid : Prop := editFarUptoRow.holds Tryd.pinned (OpenSpec.upto editFarSpec)

/-- 'abecedarylaw10.EditWithin', WHERE WHAT IT READS IS OF BULK AT MOST 1048576: true; the input reads as it did. -/
def editWithinUptoRow : OpenClaim := { program := "ytacbokpjegbbbaadoor", sum := "1588256244f22eff305bb88b89f9a0460486669091b91ef79a1f732814451a5d", func := "abecedary/abecedarylaw10.EditWithin", spec := "editWithin", named := ["abecedary/letters.least"], apart := false, laid := [("abecedary/letters.least", laid_abecedary_letters_least)], narrowed := true }
def EditWithinUptoSaid : Prop := editWithinUptoRow.holds Tryd.pinned (OpenSpec.upto editWithinSpec)

/-- 'abecedarylaw10.EditBack', WHERE WHAT IT READS IS OF BULK AT MOST 1048576: true; the input reads as it did. -/
def editBackUptoRow : OpenClaim := { program := "ytacbokpjegbbbaadoor", sum := "1588256244f22eff305bb88b89f9a0460486669091b91ef79a1f732814451a5d", func := "abecedary/abecedarylaw10.EditBack", spec := "editBack", named := ["abecedary/letters.least"], apart := false, laid := [("abecedary/letters.least", laid_abecedary_letters_least)], narrowed := true }
def EditBackUptoSaid : Prop := editBackUptoRow.holds Tryd.pinned (OpenSpec.upto editBackSpec)

/-- 'abecedarylaw10.EditAround', WHERE WHAT IT READS IS OF BULK AT MOST 1048576: true; the input reads as it did. -/
def editAroundUptoRow : OpenClaim := { program := "ytacbokpjegbbbaadoor", sum := "1588256244f22eff305bb88b89f9a0460486669091b91ef79a1f732814451a5d", func := "abecedary/abecedarylaw10.EditAround", spec := "editAround", named := ["abecedary/letters.least"], apart := false, laid := [("abecedary/letters.least", laid_abecedary_letters_least)], narrowed := true }
def EditAroundUptoSaid : Prop := editAroundUptoRow.holds Tryd.pinned (OpenSpec.upto editAroundSpec)

/-- 'abecedarylaw10.EditBounds', WHERE WHAT IT READS IS OF BULK AT MOST 1048576: true; the input reads as it did. -/
def editBoundsUptoRow : OpenClaim := { program := "ytacbokpjegbbbaadoor", sum := "1588256244f22eff305bb88b89f9a0460486669091b91ef79a1f732814451a5d", func := "abecedary/abecedarylaw10.EditBounds", spec := "editBounds", named := ["abecedary/letters.least"], apart := false, laid := [("abecedary/letters.least", laid_abecedary_letters_least)], narrowed := true }
def EditBoundsUptoSaid : Prop := editBoundsUptoRow.holds Tryd.pinned (OpenSpec.upto editBoundsSpec)

/-- 'abecedarylaw10.EditEnds', WHERE WHAT IT READS IS OF BULK AT MOST 1048576: true; the input reads as it did. -/
def editEndsUptoRow : OpenClaim := { program := "ytacbokpjegbbbaadoor", sum := "1588256244f22eff305bb88b89f9a0460486669091b91ef79a1f732814451a5d", func := "abecedary/abecedarylaw10.EditEnds", spec := "editEnds", named := ["abecedary/letters.least"], apart := false, laid := [("abecedary/letters.least", laid_abecedary_letters_least)], narrowed := true }
def EditEndsUptoSaid : Prop := editEndsUptoRow.holds Tryd.pinned (OpenSpec.upto editEndsSpec)

/-- 'abecedarylaw10.EditOnce', WHERE WHAT IT READS IS OF BULK AT MOST 1048576: true; the input reads as it did. -/
def editOnceUptoRow : OpenClaim := { program := "ytacbokpjegbbbaadoor", sum := "1588256244f22eff305bb88b89f9a0460486669091b91ef79a1f732814451a5d", func := "abecedary/abecedarylaw10.EditOnce", spec := "editOnce", recurses := true, named := ["abecedary/letters.least"], apart := false, laid := [("abecedary/letters.least", laid_abecedary_letters_least)], narrowed := true }
def EditOnceUptoSaid : Prop := editOnceUptoRow.holds Tryd.pinned (OpenSpec.upto editOnceSpec)

/-- 'abecedarylaw10.EditPaths', WHERE WHAT IT READS IS OF BULK AT MOST 1048576: true; the input reads as it did. -/
def editPathsUptoRow : OpenClaim := { program := "ytacbokpjegbbbaadoor", sum := "1588256244f22eff305bb88b89f9a0460486669091b91ef79a1f732814451a5d", func := "abecedary/abecedarylaw10.EditPaths", spec := "editPaths", inPlace := ["slices.overlaps[rune]"], recurses := true, named := ["abecedary/letters.least"], apart := false, laid := [("abecedary/letters.least", laid_abecedary_letters_least)], narrowed := true }
def EditPathsUptoSaid : Prop := editPathsUptoRow.holds Tryd.pinned (OpenSpec.upto editPathsSpec)

end Rows
end Go.Proofs.YtacbokpjegbbbaaDoor
