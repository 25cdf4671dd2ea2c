/-
  No cell of these rows narrows 'for every input' (looked for: loops, veiled, ifaces, maps, wideKeys, modest, calm, conditions, laid).
  DERIVED. THE GIVEN ROWS OF THIS SEAT. 12 by the template 'for every input the law returns true; each argument reads behind the call as it read before'; 0 by the template 'total and deterministic' (their statements: YtmokfpjiibociaaTotals.lean).
  GIVEN WITH THE SEED: the statements are not yours to turn. If you find one false, say at which input.
  Laid BY PROGRAM, IN A SANDBOX (cutbox-rows.mjs): the forced cells as the released guide's own fill.sh prints them over the translation 9fd5f9ff8afb7bb9… (all of the seat's roots in one cut). By AI agents, Wed Nov 11 2026. No macro, syntax, notation, axiom, sorry.
-/
import Derived.Test.YtmokfpjiibociaaChecked
import GoSem.Claim
import GoSem.ClaimJoined
import GoSem.ClaimMapViews
import Derived.JoinedTies
import Derived.KernelRfl
namespace Go.Proofs.Ytmokfpjiibociaa
/- THE CELL 'sum', in the pinned program and in every row, IS THE sha256 OF THE DUMP (.gsa) THAT YtmokfpjiibociaaProg.lean LOADS. Nothing in Lean hashes anything: it is a label: what it is worth is what the hold of that sum in a sandbox is worth. -/
noncomputable def Try.pinned : Pinned := { name := "ytmokfpjiibociaa", sum := "9fd5f9ff8afb7bb94d2ec73524f201a3e7b7c513dbfe166b08dac29847aa863d", checked := Try.checked }
namespace Rows
def none {H : Type} : Left H := { results := [], args := [] }

/-- 'abecedarylaw19.RulesNewer': WHATEVER THE INPUT: true; the input reads as it did. -/
def rulesNewerSpec : ChangeSpec := { name := "rulesNewer", fn := fun _ => fun
  | [d1, d2] => { results := [.lit (.bool true)], args := [d1, d2] }
  | _ => none }
def rulesNewerRow : OpenClaim := { program := "ytmokfpjiibociaa", sum := "9fd5f9ff8afb7bb94d2ec73524f201a3e7b7c513dbfe166b08dac29847aa863d", func := "abecedary/abecedarylaw19.RulesNewer", spec := "rulesNewer", recurses := true, apart := false }
def RulesNewerSaid : Prop := rulesNewerRow.holds Try.pinned (OpenSpec.ofChange rulesNewerSpec)

/-- ITS FALSE NEIGHBOUR: 'it returns false'. Refute it at one input. -/
def rulesNewerWrong : ChangeSpec := { name := "rulesNewer", fn := fun _ => fun
  | [d1, d2] => { results := [.lit (.bool false)], args := [d1, d2] }
  | _ => none }
def RulesNewerWrongFalsely : Prop := rulesNewerRow.holds Try.pinned (OpenSpec.ofChange rulesNewerWrong)

/-- 'abecedarylaw19.RulesOrder': WHATEVER THE INPUT: true; the input reads as it did. -/
def rulesOrderSpec : ChangeSpec := { name := "rulesOrder", fn := fun _ => fun
  | [d1, d2, d3] => { results := [.lit (.bool true)], args := [d1, d2, d3] }
  | _ => none }
def rulesOrderRow : OpenClaim := { program := "ytmokfpjiibociaa", sum := "9fd5f9ff8afb7bb94d2ec73524f201a3e7b7c513dbfe166b08dac29847aa863d", func := "abecedary/abecedarylaw19.RulesOrder", spec := "rulesOrder", recurses := true, apart := false }
def RulesOrderSaid : Prop := rulesOrderRow.holds Try.pinned (OpenSpec.ofChange rulesOrderSpec)

/-- ITS FALSE NEIGHBOUR: 'it returns false'. Refute it at one input. -/
def rulesOrderWrong : ChangeSpec := { name := "rulesOrder", fn := fun _ => fun
  | [d1, d2, d3] => { results := [.lit (.bool false)], args := [d1, d2, d3] }
  | _ => none }
def RulesOrderWrongFalsely : Prop := rulesOrderRow.holds Try.pinned (OpenSpec.ofChange rulesOrderWrong)

/-- 'abecedarylaw19.RulesGrants': WHATEVER THE INPUT: true; the input reads as it did. -/
def rulesGrantsSpec : ChangeSpec := { name := "rulesGrants", fn := fun _ => fun
  | [d1, d2] => { results := [.lit (.bool true)], args := [d1, d2] }
  | _ => none }
def rulesGrantsRow : OpenClaim := { program := "ytmokfpjiibociaa", sum := "9fd5f9ff8afb7bb94d2ec73524f201a3e7b7c513dbfe166b08dac29847aa863d", func := "abecedary/abecedarylaw19.RulesGrants", spec := "rulesGrants", recurses := true, apart := false }
def RulesGrantsSaid : Prop := rulesGrantsRow.holds Try.pinned (OpenSpec.ofChange rulesGrantsSpec)

/-- ITS FALSE NEIGHBOUR: 'it returns false'. Refute it at one input. -/
def rulesGrantsWrong : ChangeSpec := { name := "rulesGrants", fn := fun _ => fun
  | [d1, d2] => { results := [.lit (.bool false)], args := [d1, d2] }
  | _ => none }
def RulesGrantsWrongFalsely : Prop := rulesGrantsRow.holds Try.pinned (OpenSpec.ofChange rulesGrantsWrong)

/-- 'abecedarylaw19.RulesOnce': WHATEVER THE INPUT: true; the input reads as it did. -/
def rulesOnceSpec : ChangeSpec := { name := "rulesOnce", fn := fun _ => fun
  | [d1, d2] => { results := [.lit (.bool true)], args := [d1, d2] }
  | _ => none }
def rulesOnceRow : OpenClaim := { program := "ytmokfpjiibociaa", sum := "9fd5f9ff8afb7bb94d2ec73524f201a3e7b7c513dbfe166b08dac29847aa863d", func := "abecedary/abecedarylaw19.RulesOnce", spec := "rulesOnce", recurses := true, apart := false }
def RulesOnceSaid : Prop := rulesOnceRow.holds Try.pinned (OpenSpec.ofChange rulesOnceSpec)

/-- ITS FALSE NEIGHBOUR: 'it returns false'. Refute it at one input. -/
def rulesOnceWrong : ChangeSpec := { name := "rulesOnce", fn := fun _ => fun
  | [d1, d2] => { results := [.lit (.bool false)], args := [d1, d2] }
  | _ => none }
def RulesOnceWrongFalsely : Prop := rulesOnceRow.holds Try.pinned (OpenSpec.ofChange rulesOnceWrong)

/-- 'abecedarylaw19.RulesAgreed': WHATEVER THE INPUT: true; the input reads as it did. -/
def rulesAgreedSpec : ChangeSpec := { name := "rulesAgreed", fn := fun _ => fun
  | [d1, d2] => { results := [.lit (.bool true)], args := [d1, d2] }
  | _ => none }
def rulesAgreedRow : OpenClaim := { program := "ytmokfpjiibociaa", sum := "9fd5f9ff8afb7bb94d2ec73524f201a3e7b7c513dbfe166b08dac29847aa863d", func := "abecedary/abecedarylaw19.RulesAgreed", spec := "rulesAgreed", recurses := true, apart := false }
def RulesAgreedSaid : Prop := rulesAgreedRow.holds Try.pinned (OpenSpec.ofChange rulesAgreedSpec)

/-- ITS FALSE NEIGHBOUR: 'it returns false'. Refute it at one input. -/
def rulesAgreedWrong : ChangeSpec := { name := "rulesAgreed", fn := fun _ => fun
  | [d1, d2] => { results := [.lit (.bool false)], args := [d1, d2] }
  | _ => none }
def RulesAgreedWrongFalsely : Prop := rulesAgreedRow.holds Try.pinned (OpenSpec.ofChange rulesAgreedWrong)

/-- 'abecedarylaw19.RulesEnough': WHATEVER THE INPUT: true; the input reads as it did. -/
def rulesEnoughSpec : ChangeSpec := { name := "rulesEnough", fn := fun _ => fun
  | [d1, d2] => { results := [.lit (.bool true)], args := [d1, d2] }
  | _ => none }
def rulesEnoughRow : OpenClaim := { program := "ytmokfpjiibociaa", sum := "9fd5f9ff8afb7bb94d2ec73524f201a3e7b7c513dbfe166b08dac29847aa863d", func := "abecedary/abecedarylaw19.RulesEnough", spec := "rulesEnough", recurses := true, apart := false }
def RulesEnoughSaid : Prop := rulesEnoughRow.holds Try.pinned (OpenSpec.ofChange rulesEnoughSpec)

/-- ITS FALSE NEIGHBOUR: 'it returns false'. Refute it at one input. -/
def rulesEnoughWrong : ChangeSpec := { name := "rulesEnough", fn := fun _ => fun
  | [d1, d2] => { results := [.lit (.bool false)], args := [d1, d2] }
  | _ => none }
def RulesEnoughWrongFalsely : Prop := rulesEnoughRow.holds Try.pinned (OpenSpec.ofChange rulesEnoughWrong)

/-- 'abecedarylaw19.RulesWaits': WHATEVER THE INPUT: true; the input reads as it did. -/
def rulesWaitsSpec : ChangeSpec := { name := "rulesWaits", fn := fun _ => fun
  | [d] => { results := [.lit (.bool true)], args := [d] }
  | _ => none }
def rulesWaitsRow : OpenClaim := { program := "ytmokfpjiibociaa", sum := "9fd5f9ff8afb7bb94d2ec73524f201a3e7b7c513dbfe166b08dac29847aa863d", func := "abecedary/abecedarylaw19.RulesWaits", spec := "rulesWaits", recurses := true, apart := false }
def RulesWaitsSaid : Prop := rulesWaitsRow.holds Try.pinned (OpenSpec.ofChange rulesWaitsSpec)

/-- ITS FALSE NEIGHBOUR: 'it returns false'. Refute it at one input. -/
def rulesWaitsWrong : ChangeSpec := { name := "rulesWaits", fn := fun _ => fun
  | [d] => { results := [.lit (.bool false)], args := [d] }
  | _ => none }
def RulesWaitsWrongFalsely : Prop := rulesWaitsRow.holds Try.pinned (OpenSpec.ofChange rulesWaitsWrong)

/-- 'abecedarylaw19.RulesBack': WHATEVER THE INPUT: true; the input reads as it did. -/
def rulesBackSpec : ChangeSpec := { name := "rulesBack", fn := fun _ => fun
  | [d1, d2, d3] => { results := [.lit (.bool true)], args := [d1, d2, d3] }
  | _ => none }
def rulesBackRow : OpenClaim := { program := "ytmokfpjiibociaa", sum := "9fd5f9ff8afb7bb94d2ec73524f201a3e7b7c513dbfe166b08dac29847aa863d", func := "abecedary/abecedarylaw19.RulesBack", spec := "rulesBack", recurses := true, apart := false }
def RulesBackSaid : Prop := rulesBackRow.holds Try.pinned (OpenSpec.ofChange rulesBackSpec)

/-- ITS FALSE NEIGHBOUR: 'it returns false'. Refute it at one input. -/
def rulesBackWrong : ChangeSpec := { name := "rulesBack", fn := fun _ => fun
  | [d1, d2, d3] => { results := [.lit (.bool false)], args := [d1, d2, d3] }
  | _ => none }
def RulesBackWrongFalsely : Prop := rulesBackRow.holds Try.pinned (OpenSpec.ofChange rulesBackWrong)

/-- 'abecedarylaw19.RulesConfigs': WHATEVER THE INPUT: true; the input reads as it did. -/
def rulesConfigsSpec : ChangeSpec := { name := "rulesConfigs", fn := fun _ => fun
  | [d1, d2] => { results := [.lit (.bool true)], args := [d1, d2] }
  | _ => none }
def rulesConfigsRow : OpenClaim := { program := "ytmokfpjiibociaa", sum := "9fd5f9ff8afb7bb94d2ec73524f201a3e7b7c513dbfe166b08dac29847aa863d", func := "abecedary/abecedarylaw19.RulesConfigs", spec := "rulesConfigs", recurses := true, apart := false }
def RulesConfigsSaid : Prop := rulesConfigsRow.holds Try.pinned (OpenSpec.ofChange rulesConfigsSpec)

/-- ITS FALSE NEIGHBOUR: 'it returns false'. Refute it at one input. -/
def rulesConfigsWrong : ChangeSpec := { name := "rulesConfigs", fn := fun _ => fun
  | [d1, d2] => { results := [.lit (.bool false)], args := [d1, d2] }
  | _ => none }
def RulesConfigsWrongFalsely : Prop := rulesConfigsRow.holds Try.pinned (OpenSpec.ofChange rulesConfigsWrong)

/-- 'abecedarylaw19.RulesChanges': WHATEVER THE INPUT: true; the input reads as it did. -/
def rulesChangesSpec : ChangeSpec := { name := "rulesChanges", fn := fun _ => fun
  | [d1, d2] => { results := [.lit (.bool true)], args := [d1, d2] }
  | _ => none }
def rulesChangesRow : OpenClaim := { program := "ytmokfpjiibociaa", sum := "9fd5f9ff8afb7bb94d2ec73524f201a3e7b7c513dbfe166b08dac29847aa863d", func := "abecedary/abecedarylaw19.RulesChanges", spec := "rulesChanges", recurses := true, apart := false }
def RulesChangesSaid : Prop := rulesChangesRow.holds Try.pinned (OpenSpec.ofChange rulesChangesSpec)

/-- ITS FALSE NEIGHBOUR: 'it returns false'. Refute it at one input. -/
def rulesChangesWrong : ChangeSpec := { name := "rulesChanges", fn := fun _ => fun
  | [d1, d2] => { results := [.lit (.bool false)], args := [d1, d2] }
  | _ => none }
def RulesChangesWrongFalsely : Prop := rulesChangesRow.holds Try.pinned (OpenSpec.ofChange rulesChangesWrong)

/-- 'abecedarylaw19.RulesUndo': WHATEVER THE INPUT: true; the input reads as it did. -/
def rulesUndoSpec : ChangeSpec := { name := "rulesUndo", fn := fun _ => fun
  | [d1, d2] => { results := [.lit (.bool true)], args := [d1, d2] }
  | _ => none }
def rulesUndoRow : OpenClaim := { program := "ytmokfpjiibociaa", sum := "9fd5f9ff8afb7bb94d2ec73524f201a3e7b7c513dbfe166b08dac29847aa863d", func := "abecedary/abecedarylaw19.RulesUndo", spec := "rulesUndo", recurses := true, apart := false }
def RulesUndoSaid : Prop := rulesUndoRow.holds Try.pinned (OpenSpec.ofChange rulesUndoSpec)

/-- ITS FALSE NEIGHBOUR: 'it returns false'. Refute it at one input. -/
def rulesUndoWrong : ChangeSpec := { name := "rulesUndo", fn := fun _ => fun
  | [d1, d2] => { results := [.lit (.bool false)], args := [d1, d2] }
  | _ => none }
def RulesUndoWrongFalsely : Prop := rulesUndoRow.holds Try.pinned (OpenSpec.ofChange rulesUndoWrong)

/-- 'abecedarylaw19.RulesMeet': WHATEVER THE INPUT: true; the input reads as it did. -/
def rulesMeetSpec : ChangeSpec := { name := "rulesMeet", fn := fun _ => fun
  | [d1, d2, d3] => { results := [.lit (.bool true)], args := [d1, d2, d3] }
  | _ => none }
def rulesMeetRow : OpenClaim := { program := "ytmokfpjiibociaa", sum := "9fd5f9ff8afb7bb94d2ec73524f201a3e7b7c513dbfe166b08dac29847aa863d", func := "abecedary/abecedarylaw19.RulesMeet", spec := "rulesMeet", recurses := true, apart := false }
def RulesMeetSaid : Prop := rulesMeetRow.holds Try.pinned (OpenSpec.ofChange rulesMeetSpec)

/-- ITS FALSE NEIGHBOUR: 'it returns false'. Refute it at one input. -/
def rulesMeetWrong : ChangeSpec := { name := "rulesMeet", fn := fun _ => fun
  | [d1, d2, d3] => { results := [.lit (.bool false)], args := [d1, d2, d3] }
  | _ => none }
def RulesMeetWrongFalsely : Prop := rulesMeetRow.holds Try.pinned (OpenSpec.ofChange rulesMeetWrong)

/- THE SECOND FORM. 'bulk': how many values and letters a reading holds, each counted each time it is reached (what is shared counts as often as it is met; a slice's spare places count too). A statement '..UptoSaid' is the law's where the arguments, and the package variables that the reading takes, are together of bulk at most 1048576: NARROWER than '..Said'. Prove '..Said' where nothing that the law and all that it calls make is longer than what came in: it says more and counts as full. Else prove '..UptoSaid'. A law counts once. -/
mutual
def uptoBulk {H : Type} : DataW H → Nat
  | .lit (.string bytes) => bytes.length + 1
  | .lit _ => 1
  | .nil => 1
  | .ptr d => uptoBulk d + 1
  | .slice elems spare => uptoBulkAll elems + uptoBulkAll spare + 1
  | .agg parts => uptoBulkAll parts + 1
  | .iface _ d => uptoBulk d + 1
  | .map entries => uptoBulkEntries entries + 1
  | .held _ => 1
def uptoBulkAll {H : Type} : List (DataW H) → Nat
  | [] => 0
  | d :: r => uptoBulk d + uptoBulkAll r
def uptoBulkEntries {H : Type} : List (Lit × DataW H) → Nat
  | [] => 0
  | x :: r => uptoBulkEntry x + uptoBulkEntries r
def uptoBulkEntry {H : Type} : Lit × DataW H → Nat
  | (.string bytes, d) => bytes.length + uptoBulk d + 1
  | (_, d) => uptoBulk d + 1
 end
def uptoSmall : (H : Type) → List (DataW H) → Bool := fun _ ds => decide (uptoBulkAll ds ≤ 1048576)
def OpenSpec.upto (s : _root_.Go.ChangeSpec) : _root_.Go.OpenSpec := { _root_.Go.OpenSpec.ofChange s with cond := some uptoSmall }

/-- 'abecedarylaw19.RulesNewer', WHERE WHAT IT READS IS OF BULK AT MOST 1048576: true; the input reads as it did. -/
def rulesNewerUptoRow : OpenClaim := { program := "ytmokfpjiibociaa", sum := "9fd5f9ff8afb7bb94d2ec73524f201a3e7b7c513dbfe166b08dac29847aa863d", func := "abecedary/abecedarylaw19.RulesNewer", spec := "rulesNewer", recurses := true, apart := false, narrowed := true }
def RulesNewerUptoSaid : Prop := rulesNewerUptoRow.holds Try.pinned (OpenSpec.upto rulesNewerSpec)

/-- 'abecedarylaw19.RulesOrder', WHERE WHAT IT READS IS OF BULK AT MOST 1048576: true; the input reads as it did. -/
def rulesOrderUptoRow : OpenClaim := { program := "ytmokfpjiibociaa", sum := "9fd5f9ff8afb7bb94d2ec73524f201a3e7b7c513dbfe166b08dac29847aa863d", func := "abecedary/abecedarylaw19.RulesOrder", spec := "rulesOrder", recurses := true, apart := false, narrowed := true }
def RulesOrderUptoSaid : Prop := rulesOrderUptoRow.holds Try.pinned (OpenSpec.upto rulesOrderSpec)

/-- 'abecedarylaw19.RulesGrants', WHERE WHAT IT READS IS OF BULK AT MOST 1048576: true; the input reads as it did. -/
def rulesGrantsUptoRow : OpenClaim := { program := "ytmokfpjiibociaa", sum := "9fd5f9ff8afb7bb94d2ec73524f201a3e7b7c513dbfe166b08dac29847aa863d", func := "abecedary/abecedarylaw19.RulesGrants", spec := "rulesGrants", recurses := true, apart := false, narrowed := true }
def RulesGrantsUptoSaid : Prop := rulesGrantsUptoRow.holds Try.pinned (OpenSpec.upto rulesGrantsSpec)

/-- 'abecedarylaw19.RulesOnce', WHERE WHAT IT READS IS OF BULK AT MOST 1048576: true; the input reads as it did. -/
def rulesOnceUptoRow : OpenClaim := { program := "ytmokfpjiibociaa", sum := "9fd5f9ff8afb7bb94d2ec73524f201a3e7b7c513dbfe166b08dac29847aa863d", func := "abecedary/abecedarylaw19.RulesOnce", spec := "rulesOnce", recurses := true, apart := false, narrowed := true }
def RulesOnceUptoSaid : Prop := rulesOnceUptoRow.holds Try.pinned (OpenSpec.upto rulesOnceSpec)

/-- 'abecedarylaw19.RulesAgreed', WHERE WHAT IT READS IS OF BULK AT MOST 1048576: true; the input reads as it did. -/
def rulesAgreedUptoRow : OpenClaim := { program := "ytmokfpjiibociaa", sum := "9fd5f9ff8afb7bb94d2ec73524f201a3e7b7c513dbfe166b08dac29847aa863d", func := "abecedary/abecedarylaw19.RulesAgreed", spec := "rulesAgreed", recurses := true, apart := false, narrowed := true }
def RulesAgreedUptoSaid : Prop := rulesAgreedUptoRow.holds Try.pinned (OpenSpec.upto rulesAgreedSpec)

/-- 'abecedarylaw19.RulesEnough', WHERE WHAT IT READS IS OF BULK AT MOST 1048576: true; the input reads as it did. -/
def rulesEnoughUptoRow : OpenClaim := { program := "ytmokfpjiibociaa", sum := "9fd5f9ff8afb7bb94d2ec73524f201a3e7b7c513dbfe166b08dac29847aa863d", func := "abecedary/abecedarylaw19.RulesEnough", spec := "rulesEnough", recurses := true, apart := false, narrowed := true }
def RulesEnoughUptoSaid : Prop := rulesEnoughUptoRow.holds Try.pinned (OpenSpec.upto rulesEnoughSpec)

/-- 'abecedarylaw19.RulesWaits', WHERE WHAT IT READS IS OF BULK AT MOST 1048576: true; the input reads as it did. -/
def rulesWaitsUptoRow : OpenClaim := { program := "ytmokfpjiibociaa", sum := "9fd5f9ff8afb7bb94d2ec73524f201a3e7b7c513dbfe166b08dac29847aa863d", func := "abecedary/abecedarylaw19.RulesWaits", spec := "rulesWaits", recurses := true, apart := false, narrowed := true }
def RulesWaitsUptoSaid : Prop := rulesWaitsUptoRow.holds Try.pinned (OpenSpec.upto rulesWaitsSpec)

/-- 'abecedarylaw19.RulesBack', WHERE WHAT IT READS IS OF BULK AT MOST 1048576: true; the input reads as it did. -/
def rulesBackUptoRow : OpenClaim := { program := "ytmokfpjiibociaa", sum := "9fd5f9ff8afb7bb94d2ec73524f201a3e7b7c513dbfe166b08dac29847aa863d", func := "abecedary/abecedarylaw19.RulesBack", spec := "rulesBack", recurses := true, apart := false, narrowed := true }
def RulesBackUptoSaid : Prop := rulesBackUptoRow.holds Try.pinned (OpenSpec.upto rulesBackSpec)

/-- 'abecedarylaw19.RulesConfigs', WHERE WHAT IT READS IS OF BULK AT MOST 1048576: true; the input reads as it did. -/
def rulesConfigsUptoRow : OpenClaim := { program := "ytmokfpjiibociaa", sum := "9fd5f9ff8afb7bb94d2ec73524f201a3e7b7c513dbfe166b08dac29847aa863d", func := "abecedary/abecedarylaw19.RulesConfigs", spec := "rulesConfigs", recurses := true, apart := false, narrowed := true }
def RulesConfigsUptoSaid : Prop := rulesConfigsUptoRow.holds Try.pinned (OpenSpec.upto rulesConfigsSpec)

/-- 'abecedarylaw19.RulesChanges', WHERE WHAT IT READS IS OF BULK AT MOST 1048576: true; the input reads as it did. -/
def rulesChangesUptoRow : OpenClaim := { program := "ytmokfpjiibociaa", sum := "9fd5f9ff8afb7bb94d2ec73524f201a3e7b7c513dbfe166b08dac29847aa863d", func := "abecedary/abecedarylaw19.RulesChanges", spec := "rulesChanges", recurses := true, apart := false, narrowed := true }
def RulesChangesUptoSaid : Prop := rulesChangesUptoRow.holds Try.pinned (OpenSpec.upto rulesChangesSpec)

/-- 'abecedarylaw19.RulesUndo', WHERE WHAT IT READS IS OF BULK AT MOST 1048576: true; the input reads as it did. -/
def rulesUndoUptoRow : OpenClaim := { program := "ytmokfpjiibociaa", sum := "9fd5f9ff8afb7bb94d2ec73524f201a3e7b7c513dbfe166b08dac29847aa863d", func := "abecedary/abecedarylaw19.RulesUndo", spec := "rulesUndo", recurses := true, apart := false, narrowed := true }
def RulesUndoUptoSaid : Prop := rulesUndoUptoRow.holds Try.pinned (OpenSpec.upto rulesUndoSpec)

/-- 'abecedarylaw19.RulesMeet', WHERE WHAT IT READS IS OF BULK AT MOST 1048576: true; the input reads as it did. -/
def rulesMeetUptoRow : OpenClaim := { program := "ytmokfpjiibociaa", sum := "9fd5f9ff8afb7bb94d2ec73524f201a3e7b7c513dbfe166b08dac29847aa863d", func := "abecedary/abecedarylaw19.RulesMeet", spec := "rulesMeet", recurses := true, apart := false, narrowed := true }
def RulesMeetUptoSaid : Prop := rulesMeetUptoRow.holds Try.pinned (OpenSpec.upto rulesMeetSpec)

end Rows
end Go.Proofs.Ytmokfpjiibociaa
