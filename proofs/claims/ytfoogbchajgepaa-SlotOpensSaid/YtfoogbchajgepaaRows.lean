/-
  No cell of these rows narrows 'for every input' (looked for: loops, veiled, ifaces, maps, wideKeys, modest, calm, conditions, laid).
  DERIVED. THE GIVEN ROWS OF THIS SEAT. 4 by the template 'for every input the law returns true; each argument reads behind the call as it read before'; 0 by the template 'total and deterministic' (their statements: YtfoogbchajgepaaTotals.lean).
  GIVEN WITH THE SEED: the statements are not yours to turn. If you find one false, say at which input.
  Laid BY PROGRAM, IN A SANDBOX (cutbox-rows.mjs): the forced cells as the released guide's own fill.sh prints them over the translation ac5c4d98ba2f275c… (all of the seat's roots in one cut). By AI agents, Wed Nov 11 2026. No macro, syntax, notation, axiom, sorry.
-/
import Derived.Test.YtfoogbchajgepaaChecked
import GoSem.Claim
import GoSem.ClaimJoined
import GoSem.ClaimMapViews
import Derived.JoinedTies
import Derived.KernelRfl
namespace Go.Proofs.Ytfoogbchajgepaa
/- THE CELL 'sum', in the pinned program and in every row, IS THE sha256 OF THE DUMP (.gsa) THAT YtfoogbchajgepaaProg.lean LOADS. Nothing in Lean hashes anything: it is a label: what it is worth is what the hold of that sum in a sandbox is worth. -/
noncomputable def Try.pinned : Pinned := { name := "ytfoogbchajgepaa", sum := "ac5c4d98ba2f275cd05a3a9a50b4c03db97244057443e69728368f6666e0e210", checked := Try.checked }
namespace Rows
def none {H : Type} : Left H := { results := [], args := [] }

/-- 'abecedarylaw04.SlotAgain': WHATEVER THE INPUT: true; the input reads as it did. -/
def slotAgainSpec : ChangeSpec := { name := "slotAgain", fn := fun _ => fun
  | [d1, d2, d3] => { results := [.lit (.bool true)], args := [d1, d2, d3] }
  | _ => none }
def slotAgainRow : OpenClaim := { program := "ytfoogbchajgepaa", sum := "ac5c4d98ba2f275cd05a3a9a50b4c03db97244057443e69728368f6666e0e210", func := "abecedary/abecedarylaw04.SlotAgain", spec := "slotAgain", apart := false }
def SlotAgainSaid : Prop := slotAgainRow.holds Try.pinned (OpenSpec.ofChange slotAgainSpec)

/-- ITS FALSE NEIGHBOUR: 'it returns false'. Refute it at one input. -/
def slotAgainWrong : ChangeSpec := { name := "slotAgain", fn := fun _ => fun
  | [d1, d2, d3] => { results := [.lit (.bool false)], args := [d1, d2, d3] }
  | _ => none }
def SlotAgainWrongFalsely : Prop := slotAgainRow.holds Try.pinned (OpenSpec.ofChange slotAgainWrong)

/-- 'abecedarylaw04.SlotApart': WHATEVER THE INPUT: true; the input reads as it did. -/
def slotApartSpec : ChangeSpec := { name := "slotApart", fn := fun _ => fun
  | [d1, d2, d3] => { results := [.lit (.bool true)], args := [d1, d2, d3] }
  | _ => none }
def slotApartRow : OpenClaim := { program := "ytfoogbchajgepaa", sum := "ac5c4d98ba2f275cd05a3a9a50b4c03db97244057443e69728368f6666e0e210", func := "abecedary/abecedarylaw04.SlotApart", spec := "slotApart", apart := false }
def SlotApartSaid : Prop := slotApartRow.holds Try.pinned (OpenSpec.ofChange slotApartSpec)

/-- ITS FALSE NEIGHBOUR: 'it returns false'. Refute it at one input. -/
def slotApartWrong : ChangeSpec := { name := "slotApart", fn := fun _ => fun
  | [d1, d2, d3] => { results := [.lit (.bool false)], args := [d1, d2, d3] }
  | _ => none }
def SlotApartWrongFalsely : Prop := slotApartRow.holds Try.pinned (OpenSpec.ofChange slotApartWrong)

/-- 'abecedarylaw04.SlotOpens': WHATEVER THE INPUT: true; the input reads as it did. -/
def slotOpensSpec : ChangeSpec := { name := "slotOpens", fn := fun _ => fun
  | [d1, d2] => { results := [.lit (.bool true)], args := [d1, d2] }
  | _ => none }
def slotOpensRow : OpenClaim := { program := "ytfoogbchajgepaa", sum := "ac5c4d98ba2f275cd05a3a9a50b4c03db97244057443e69728368f6666e0e210", func := "abecedary/abecedarylaw04.SlotOpens", spec := "slotOpens", apart := false }
def SlotOpensSaid : Prop := slotOpensRow.holds Try.pinned (OpenSpec.ofChange slotOpensSpec)

/-- ITS FALSE NEIGHBOUR: 'it returns false'. Refute it at one input. -/
def slotOpensWrong : ChangeSpec := { name := "slotOpens", fn := fun _ => fun
  | [d1, d2] => { results := [.lit (.bool false)], args := [d1, d2] }
  | _ => none }
def SlotOpensWrongFalsely : Prop := slotOpensRow.holds Try.pinned (OpenSpec.ofChange slotOpensWrong)

/-- 'abecedarylaw04.SlotCrash': WHATEVER THE INPUT: true; the input reads as it did. -/
def slotCrashSpec : ChangeSpec := { name := "slotCrash", fn := fun _ => fun
  | [d1, d2, d3] => { results := [.lit (.bool true)], args := [d1, d2, d3] }
  | _ => none }
def slotCrashRow : OpenClaim := { program := "ytfoogbchajgepaa", sum := "ac5c4d98ba2f275cd05a3a9a50b4c03db97244057443e69728368f6666e0e210", func := "abecedary/abecedarylaw04.SlotCrash", spec := "slotCrash", unfollowed := true, recurses := true, apart := false }
def SlotCrashSaid : Prop := slotCrashRow.holds Try.pinned (OpenSpec.ofChange slotCrashSpec)

/-- ITS FALSE NEIGHBOUR: 'it returns false'. Refute it at one input. -/
def slotCrashWrong : ChangeSpec := { name := "slotCrash", fn := fun _ => fun
  | [d1, d2, d3] => { results := [.lit (.bool false)], args := [d1, d2, d3] }
  | _ => none }
def SlotCrashWrongFalsely : Prop := slotCrashRow.holds Try.pinned (OpenSpec.ofChange slotCrashWrong)

/- THE SECOND FORM. 'bulk': how many values and letters a reading holds, each counted each time it is reached (what is shared counts as often as it is met; a slice's spare places count too). A statement '..UptoSaid' is the law's where the arguments, and the package variables that the reading takes, are together of bulk at most 1048576: NARROWER than '..Said'. Prove '..Said' where nothing that the law and all that it calls make is longer than what came in: it says more and counts as full. Else prove '..UptoSaid'. A law counts once. -/
mutual
def uptoBulk {H : Type} : DataW H → Nat
  | .lit (.string bytes) => bytes.length + 1
  | .lit _ => 1
  | .nil => 1
  | .ptr d => uptoBulk d + 1
  | .slice elems spare => uptoBulkAll elems + uptoBulkAll spare + 1
  | .agg parts => uptoBulkAll parts + 1
  | .iface _ d => uptoBulk d + 1
  | .map entries => uptoBulkEntries entries + 1
  | .held _ => 1
def uptoBulkAll {H : Type} : List (DataW H) → Nat
  | [] => 0
  | d :: r => uptoBulk d + uptoBulkAll r
def uptoBulkEntries {H : Type} : List (Lit × DataW H) → Nat
  | [] => 0
  | x :: r => uptoBulkEntry x + uptoBulkEntries r
def uptoBulkEntry {H : Type} : Lit × DataW H → Nat
  | (.string bytes, d) => bytes.length + uptoBulk d + 1
  | (_, d) => uptoBulk d + 1
 end
def uptoSmall : (H : Type) → List (DataW H) → Bool := fun _ ds => decide (uptoBulkAll ds ≤ 1048576)
def OpenSpec.upto (s : _root_.Go.ChangeSpec) : _root_.Go.OpenSpec := { _root_.Go.OpenSpec.ofChange s with cond := some uptoSmall }

/-- 'abecedarylaw04.SlotAgain', WHERE WHAT IT READS IS OF BULK AT MOST 1048576: true; the input reads as it did. -/
def slotAgainUptoRow : OpenClaim := { program := "ytfoogbchajgepaa", sum := "ac5c4d98ba2f275cd05a3a9a50b4c03db97244057443e69728368f6666e0e210", func := "abecedary/abecedarylaw04.SlotAgain", spec := "slotAgain", apart := false, narrowed := true }
def SlotAgainUptoSaid : Prop := slotAgainUptoRow.holds Try.pinned (OpenSpec.upto slotAgainSpec)

/-- 'abecedarylaw04.SlotApart', WHERE WHAT IT READS IS OF BULK AT MOST 1048576: true; the input reads as it did. -/
def slotApartUptoRow : OpenClaim := { program := "ytfoogbchajgepaa", sum := "ac5c4d98ba2f275cd05a3a9a50b4c03db97244057443e69728368f6666e0e210", func := "abecedary/abecedarylaw04.SlotApart", spec := "slotApart", apart := false, narrowed := true }
def SlotApartUptoSaid : Prop := slotApartUptoRow.holds Try.pinned (OpenSpec.upto slotApartSpec)

/-- 'abecedarylaw04.SlotOpens', WHERE WHAT IT READS IS OF BULK AT MOST 1048576: true; the input reads as it did. -/
def slotOpensUptoRow : OpenClaim := { program := "ytfoogbchajgepaa", sum := "ac5c4d98ba2f275cd05a3a9a50b4c03db97244057443e69728368f6666e0e210", func := "abecedary/abecedarylaw04.SlotOpens", spec := "slotOpens", apart := false, narrowed := true }
def SlotOpensUptoSaid : Prop := slotOpensUptoRow.holds Try.pinned (OpenSpec.upto slotOpensSpec)

/-- 'abecedarylaw04.SlotCrash', WHERE WHAT IT READS IS OF BULK AT MOST 1048576: true; the input reads as it did. -/
def slotCrashUptoRow : OpenClaim := { program := "ytfoogbchajgepaa", sum := "ac5c4d98ba2f275cd05a3a9a50b4c03db97244057443e69728368f6666e0e210", func := "abecedary/abecedarylaw04.SlotCrash", spec := "slotCrash", unfollowed := true, recurses := true, apart := false, narrowed := true }
def SlotCrashUptoSaid : Prop := slotCrashUptoRow.holds Try.pinned (OpenSpec.upto slotCrashSpec)

end Rows
end Go.Proofs.Ytfoogbchajgepaa
