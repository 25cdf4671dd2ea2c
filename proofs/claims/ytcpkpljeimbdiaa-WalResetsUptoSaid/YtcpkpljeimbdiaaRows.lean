/-
  No cell of these rows narrows 'for every input' (looked for: loops, veiled, ifaces, maps, wideKeys, modest, calm, conditions, laid).
  DERIVED. THE GIVEN ROWS OF THIS SEAT. 4 by the template 'for every input the law returns true; each argument reads behind the call as it read before'; 0 by the template 'total and deterministic' (their statements: YtcpkpljeimbdiaaTotals.lean).
  GIVEN WITH THE SEED: the statements are not yours to turn. If you find one false, say at which input.
  Laid BY PROGRAM, IN A SANDBOX (cutbox-rows.mjs): the forced cells as the released guide's own fill.sh prints them over the translation 1fbdfbcd5685c679… (all of the seat's roots in one cut). By AI agents, Wed Nov 11 2026. No macro, syntax, notation, axiom, sorry.
-/
import Derived.Test.YtcpkpljeimbdiaaChecked
import GoSem.Claim
import GoSem.ClaimJoined
import GoSem.ClaimMapViews
import Derived.JoinedTies
import Derived.KernelRfl
namespace Go.Proofs.Ytcpkpljeimbdiaa
/- THE CELL 'sum', in the pinned program and in every row, IS THE sha256 OF THE DUMP (.gsa) THAT YtcpkpljeimbdiaaProg.lean LOADS. Nothing in Lean hashes anything: it is a label: what it is worth is what the hold of that sum in a sandbox is worth. -/
noncomputable def Try.pinned : Pinned := { name := "ytcpkpljeimbdiaa", sum := "1fbdfbcd5685c67939c6052b31947593dba178eee406ec2ea8e5c46f9e8de57d", checked := Try.checked }
namespace Rows
def none {H : Type} : Left H := { results := [], args := [] }

/-- 'abecedarylaw05.WalRaw': WHATEVER THE INPUT: true; the input reads as it did. -/
def walRawSpec : ChangeSpec := { name := "walRaw", fn := fun _ => fun
  | [d1, d2, d3] => { results := [.lit (.bool true)], args := [d1, d2, d3] }
  | _ => none }
def walRawRow : OpenClaim := { program := "ytcpkpljeimbdiaa", sum := "1fbdfbcd5685c67939c6052b31947593dba178eee406ec2ea8e5c46f9e8de57d", func := "abecedary/abecedarylaw05.WalRaw", spec := "walRaw", unfollowed := true, recurses := true, apart := false }
def WalRawSaid : Prop := walRawRow.holds Try.pinned (OpenSpec.ofChange walRawSpec)

/-- ITS FALSE NEIGHBOUR: 'it returns false'. Refute it at one input. -/
def walRawWrong : ChangeSpec := { name := "walRaw", fn := fun _ => fun
  | [d1, d2, d3] => { results := [.lit (.bool false)], args := [d1, d2, d3] }
  | _ => none }
def WalRawWrongFalsely : Prop := walRawRow.holds Try.pinned (OpenSpec.ofChange walRawWrong)

/-- 'abecedarylaw05.WalFrees': WHATEVER THE INPUT: true; the input reads as it did. -/
def walFreesSpec : ChangeSpec := { name := "walFrees", fn := fun _ => fun
  | [d] => { results := [.lit (.bool true)], args := [d] }
  | _ => none }
def walFreesRow : OpenClaim := { program := "ytcpkpljeimbdiaa", sum := "1fbdfbcd5685c67939c6052b31947593dba178eee406ec2ea8e5c46f9e8de57d", func := "abecedary/abecedarylaw05.WalFrees", spec := "walFrees", unfollowed := true, recurses := true, apart := false }
def WalFreesSaid : Prop := walFreesRow.holds Try.pinned (OpenSpec.ofChange walFreesSpec)

/-- ITS FALSE NEIGHBOUR: 'it returns false'. Refute it at one input. -/
def walFreesWrong : ChangeSpec := { name := "walFrees", fn := fun _ => fun
  | [d] => { results := [.lit (.bool false)], args := [d] }
  | _ => none }
def WalFreesWrongFalsely : Prop := walFreesRow.holds Try.pinned (OpenSpec.ofChange walFreesWrong)

/-- 'abecedarylaw05.WalHalts': WHATEVER THE INPUT: true; the input reads as it did. -/
def walHaltsSpec : ChangeSpec := { name := "walHalts", fn := fun _ => fun
  | [d1, d2, d3] => { results := [.lit (.bool true)], args := [d1, d2, d3] }
  | _ => none }
def walHaltsRow : OpenClaim := { program := "ytcpkpljeimbdiaa", sum := "1fbdfbcd5685c67939c6052b31947593dba178eee406ec2ea8e5c46f9e8de57d", func := "abecedary/abecedarylaw05.WalHalts", spec := "walHalts", unfollowed := true, recurses := true, apart := false }
def WalHaltsSaid : Prop := walHaltsRow.holds Try.pinned (OpenSpec.ofChange walHaltsSpec)

/-- ITS FALSE NEIGHBOUR: 'it returns false'. Refute it at one input. -/
def walHaltsWrong : ChangeSpec := { name := "walHalts", fn := fun _ => fun
  | [d1, d2, d3] => { results := [.lit (.bool false)], args := [d1, d2, d3] }
  | _ => none }
def WalHaltsWrongFalsely : Prop := walHaltsRow.holds Try.pinned (OpenSpec.ofChange walHaltsWrong)

/-- 'abecedarylaw05.WalResets': WHATEVER THE INPUT: true; the input reads as it did. -/
def walResetsSpec : ChangeSpec := { name := "walResets", fn := fun _ => fun
  | [d1, d2, d3] => { results := [.lit (.bool true)], args := [d1, d2, d3] }
  | _ => none }
def walResetsRow : OpenClaim := { program := "ytcpkpljeimbdiaa", sum := "1fbdfbcd5685c67939c6052b31947593dba178eee406ec2ea8e5c46f9e8de57d", func := "abecedary/abecedarylaw05.WalResets", spec := "walResets", unfollowed := true, recurses := true, apart := false }
def WalResetsSaid : Prop := walResetsRow.holds Try.pinned (OpenSpec.ofChange walResetsSpec)

/-- ITS FALSE NEIGHBOUR: 'it returns false'. Refute it at one input. -/
def walResetsWrong : ChangeSpec := { name := "walResets", fn := fun _ => fun
  | [d1, d2, d3] => { results := [.lit (.bool false)], args := [d1, d2, d3] }
  | _ => none }
def WalResetsWrongFalsely : Prop := walResetsRow.holds Try.pinned (OpenSpec.ofChange walResetsWrong)

/- THE SECOND FORM. 'bulk': how many values and letters a reading holds, each counted each time it is reached (what is shared counts as often as it is met; a slice's spare places count too). A statement '..UptoSaid' is the law's where the arguments, and the package variables that the reading takes, are together of bulk at most 1048576: NARROWER than '..Said'. Prove '..Said' where nothing that the law and all that it calls make is longer than what came in: it says more and counts as full. Else prove '..UptoSaid'. A law counts once. -/
mutual
def uptoBulk {H : Type} : DataW H → Nat
  | .lit (.string bytes) => bytes.length + 1
  | .lit _ => 1
  | .nil => 1
  | .ptr d => uptoBulk d + 1
  | .slice elems spare => uptoBulkAll elems + uptoBulkAll spare + 1
  | .agg parts => uptoBulkAll parts + 1
  | .iface _ d => uptoBulk d + 1
  | .map entries => uptoBulkEntries entries + 1
  | .held _ => 1
def uptoBulkAll {H : Type} : List (DataW H) → Nat
  | [] => 0
  | d :: r => uptoBulk d + uptoBulkAll r
def uptoBulkEntries {H : Type} : List (Lit × DataW H) → Nat
  | [] => 0
  | x :: r => uptoBulkEntry x + uptoBulkEntries r
def uptoBulkEntry {H : Type} : Lit × DataW H → Nat
  | (.string bytes, d) => bytes.length + uptoBulk d + 1
  | (_, d) => uptoBulk d + 1
 end
def uptoSmall : (H : Type) → List (DataW H) → Bool := fun _ ds => decide (uptoBulkAll ds ≤ 1048576)
def OpenSpec.upto (s : _root_.Go.ChangeSpec) : _root_.Go.OpenSpec := { _root_.Go.OpenSpec.ofChange s with cond := some uptoSmall }

/-- 'abecedarylaw05.WalRaw', WHERE WHAT IT READS IS OF BULK AT MOST 1048576: true; the input reads as it did. -/
def walRawUptoRow : OpenClaim := { program := "ytcpkpljeimbdiaa", sum := "1fbdfbcd5685c67939c6052b31947593dba178eee406ec2ea8e5c46f9e8de57d", func := "abecedary/abecedarylaw05.WalRaw", spec := "walRaw", unfollowed := true, recurses := true, apart := false, narrowed := true }
def WalRawUptoSaid : Prop := walRawUptoRow.holds Try.pinned (OpenSpec.upto walRawSpec)

/-- 'abecedarylaw05.WalFrees', WHERE WHAT IT READS IS OF BULK AT MOST 1048576: true; the input reads as it did. -/
def walFreesUptoRow : OpenClaim := { program := "ytcpkpljeimbdiaa", sum := "1fbdfbcd5685c67939c6052b31947593dba178eee406ec2ea8e5c46f9e8de57d", func := "abecedary/abecedarylaw05.WalFrees", spec := "walFrees", unfollowed := true, recurses := true, apart := false, narrowed := true }
def WalFreesUptoSaid : Prop := walFreesUptoRow.holds Try.pinned (OpenSpec.upto walFreesSpec)

/-- 'abecedarylaw05.WalHalts', WHERE WHAT IT READS IS OF BULK AT MOST 1048576: true; the input reads as it did. -/
def walHaltsUptoRow : OpenClaim := { program := "ytcpkpljeimbdiaa", sum := "1fbdfbcd5685c67939c6052b31947593dba178eee406ec2ea8e5c46f9e8de57d", func := "abecedary/abecedarylaw05.WalHalts", spec := "walHalts", unfollowed := true, recurses := true, apart := false, narrowed := true }
def WalHaltsUptoSaid : Prop := walHaltsUptoRow.holds Try.pinned (OpenSpec.upto walHaltsSpec)

/-- 'abecedarylaw05.WalResets', WHERE WHAT IT READS IS OF BULK AT MOST 1048576: true; the input reads as it did. -/
def walResetsUptoRow : OpenClaim := { program := "ytcpkpljeimbdiaa", sum := "1fbdfbcd5685c67939c6052b31947593dba178eee406ec2ea8e5c46f9e8de57d", func := "abecedary/abecedarylaw05.WalResets", spec := "walResets", unfollowed := true, recurses := true, apart := false, narrowed := true }
def WalResetsUptoSaid : Prop := walResetsUptoRow.holds Try.pinned (OpenSpec.upto walResetsSpec)

end Rows
end Go.Proofs.Ytcpkpljeimbdiaa
