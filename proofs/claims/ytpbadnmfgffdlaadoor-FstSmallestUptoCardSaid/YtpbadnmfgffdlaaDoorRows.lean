/-
  NARROWER THAN 'FOR EVERY INPUT', by the rows' own cells (each row's printed sentence says how): FstBuilds: laid · FstSays: laid · FstWords: laid · FstApart: laid · FstLevel: laid · FstSmallest: laid · FstShifts: laid · FstChain: laid.
  DERIVED. THE GIVEN ROWS OF THIS SEAT. 8 by the template 'for every input the law returns true; each argument reads behind the call as it read before'; 0 by the template 'total and deterministic' (their statements: YtpbadnmfgffdlaaDoorTotals.lean).
  GIVEN WITH THE SEED: the statements are not yours to turn. If you find one false, say at which input.
  Laid BY PROGRAM, IN A SANDBOX (cutbox-rows.mjs): the forced cells as the released guide's own fill.sh prints them over the translation 492756c10dc48107… (all of the seat's roots in one cut). By AI agents, Wed Nov 11 2026. No macro, syntax, notation, axiom, sorry.
-/
import Derived.Test.YtpbadnmfgffdlaaDoorChecked
import GoSem.Claim
import GoSem.ClaimJoined
import GoSem.ClaimMapViews
import Derived.JoinedTies
import Derived.KernelRfl
namespace Go.Proofs.YtpbadnmfgffdlaaDoor
/- THE CELL 'sum', in the pinned program and in every row, IS THE sha256 OF THE DUMP (.gsa) THAT YtpbadnmfgffdlaaDoorProg.lean LOADS. Nothing in Lean hashes anything: it is a label: what it is worth is what the hold of that sum in a sandbox is worth. -/
noncomputable def Tryd.pinned : Pinned := { name := "ytpbadnmfgffdlaadoor", sum := "492756c10dc481077546b926764324e63ae77e65dfe7bb3ed36e5ebd50983eb8", checked := Tryd.checked }
namespace Rows
def none {H : Type} : Left H := { results := [], args := [] }

/- WHAT THE LISTED PACKAGE-LEVEL VARIABLES READ AS WHEN THE CALL BEGINS. Each datum BY PROGRAM (the guide's laid-datum.mjs) off the statement by which the dump's own 'gosem.cut.vars' lays the variable. In a bare row this is a premise. The card (YtpbadnmfgffdlaaDoorCards.lean) ties it to the program's text. -/
def laid_abecedary_letters_least {H : Type} : DataW H := .agg [.lit (.int .i32 0), .lit (.int .i32 0), .lit (.int .i32 128), .lit (.int .i32 2048), .lit (.int .i32 65536)]

/-- 'abecedarylaw07.FstBuilds': WHATEVER THE INPUT: true; the input reads as it did. -/
def fstBuildsSpec : ChangeSpec := { name := "fstBuilds", fn := fun _ => fun
  | [d] => { results := [.lit (.bool true)], args := [d] }
  | _ => none }
def fstBuildsRow : OpenClaim := { program := "ytpbadnmfgffdlaadoor", sum := "492756c10dc481077546b926764324e63ae77e65dfe7bb3ed36e5ebd50983eb8", func := "abecedary/abecedarylaw07.FstBuilds", spec := "fstBuilds", unfollowed := true, recurses := true, named := ["abecedary/letters.least"], plainKeys := false, apart := false, laid := [("abecedary/letters.least", laid_abecedary_letters_least)] }
def FstBuildsSaid : Prop := fstBuildsRow.holds Tryd.pinned (OpenSpec.ofChange fstBuildsSpec)

/-- ITS FALSE NEIGHBOUR: 'it returns false'. Refute it at one input. -/
def fstBuildsWrong : ChangeSpec := { name := "fstBuilds", fn := fun _ => fun
  | [d] => { results := [.lit (.bool false)], args := [d] }
  | _ => none }
def FstBuildsWrongFalsely : Prop := fstBuildsRow.holds Tryd.pinned (OpenSpec.ofChange fstBuildsWrong)

/-- 'abecedarylaw07.FstSays': WHATEVER THE INPUT: true; the input reads as it did. -/
def fstSaysSpec : ChangeSpec := { name := "fstSays", fn := fun _ => fun
  | [d1, d2] => { results := [.lit (.bool true)], args := [d1, d2] }
  | _ => none }
def fstSaysRow : OpenClaim := { program := "ytpbadnmfgffdlaadoor", sum := "492756c10dc481077546b926764324e63ae77e65dfe7bb3ed36e5ebd50983eb8", func := "abecedary/abecedarylaw07.FstSays", spec := "fstSays", unfollowed := true, recurses := true, named := ["abecedary/letters.least"], plainKeys := false, apart := false, laid := [("abecedary/letters.least", laid_abecedary_letters_least)] }
def FstSaysSaid : Prop := fstSaysRow.holds Tryd.pinned (OpenSpec.ofChange fstSaysSpec)

/-- ITS FALSE NEIGHBOUR: 'it returns false'. Refute it at one input. -/
def fstSaysWrong : ChangeSpec := { name := "fstSays", fn := fun _ => fun
  | [d1, d2] => { results := [.lit (.bool false)], args := [d1, d2] }
  | _ => none }
def FstSaysWrongFalsely : Prop := fstSaysRow.holds Tryd.pinned (OpenSpec.ofChange fstSaysWrong)

/-- 'abecedarylaw07.FstWords': WHATEVER THE INPUT: true; the input reads as it did. -/
def fstWordsSpec : ChangeSpec := { name := "fstWords", fn := fun _ => fun
  | [d] => { results := [.lit (.bool true)], args := [d] }
  | _ => none }
def fstWordsRow : OpenClaim := { program := "ytpbadnmfgffdlaadoor", sum := "492756c10dc481077546b926764324e63ae77e65dfe7bb3ed36e5ebd50983eb8", func := "abecedary/abecedarylaw07.FstWords", spec := "fstWords", unfollowed := true, recurses := true, named := ["abecedary/letters.least"], plainKeys := false, apart := false, laid := [("abecedary/letters.least", laid_abecedary_letters_least)] }
def FstWordsSaid : Prop := fstWordsRow.holds Tryd.pinned (OpenSpec.ofChange fstWordsSpec)

/-- ITS FALSE NEIGHBOUR: 'it returns false'. Refute it at one input. -/
def fstWordsWrong : ChangeSpec := { name := "fstWords", fn := fun _ => fun
  | [d] => { results := [.lit (.bool false)], args := [d] }
  | _ => none }
def FstWordsWrongFalsely : Prop := fstWordsRow.holds Tryd.pinned (OpenSpec.ofChange fstWordsWrong)

/-- 'abecedarylaw07.FstApart': WHATEVER THE INPUT: true; the input reads as it did. -/
def fstApartSpec : ChangeSpec := { name := "fstApart", fn := fun _ => fun
  | [d] => { results := [.lit (.bool true)], args := [d] }
  | _ => none }
def fstApartRow : OpenClaim := { program := "ytpbadnmfgffdlaadoor", sum := "492756c10dc481077546b926764324e63ae77e65dfe7bb3ed36e5ebd50983eb8", func := "abecedary/abecedarylaw07.FstApart", spec := "fstApart", unfollowed := true, recurses := true, named := ["abecedary/letters.least"], plainKeys := false, apart := false, laid := [("abecedary/letters.least", laid_abecedary_letters_least)] }
def FstApartSaid : Prop := fstApartRow.holds Tryd.pinned (OpenSpec.ofChange fstApartSpec)

/-- ITS FALSE NEIGHBOUR: 'it returns false'. Refute it at one input. -/
def fstApartWrong : ChangeSpec := { name := "fstApart", fn := fun _ => fun
  | [d] => { results := [.lit (.bool false)], args := [d] }
  | _ => none }
def FstApartWrongFalsely : Prop := fstApartRow.holds Tryd.pinned (OpenSpec.ofChange fstApartWrong)

/-- 'abecedarylaw07.FstLevel': WHATEVER THE INPUT: true; the input reads as it did. -/
def fstLevelSpec : ChangeSpec := { name := "fstLevel", fn := fun _ => fun
  | [d] => { results := [.lit (.bool true)], args := [d] }
  | _ => none }
def fstLevelRow : OpenClaim := { program := "ytpbadnmfgffdlaadoor", sum := "492756c10dc481077546b926764324e63ae77e65dfe7bb3ed36e5ebd50983eb8", func := "abecedary/abecedarylaw07.FstLevel", spec := "fstLevel", unfollowed := true, recurses := true, named := ["abecedary/letters.least"], plainKeys := false, apart := false, laid := [("abecedary/letters.least", laid_abecedary_letters_least)] }
def FstLevelSaid : Prop := fstLevelRow.holds Tryd.pinned (OpenSpec.ofChange fstLevelSpec)

/-- ITS FALSE NEIGHBOUR: 'it returns false'. Refute it at one input. -/
def fstLevelWrong : ChangeSpec := { name := "fstLevel", fn := fun _ => fun
  | [d] => { results := [.lit (.bool false)], args := [d] }
  | _ => none }
def FstLevelWrongFalsely : Prop := fstLevelRow.holds Tryd.pinned (OpenSpec.ofChange fstLevelWrong)

/-- 'abecedarylaw07.FstSmallest': WHATEVER THE INPUT: true; the input reads as it did. -/
def fstSmallestSpec : ChangeSpec := { name := "fstSmallest", fn := fun _ => fun
  | [d] => { results := [.lit (.bool true)], args := [d] }
  | _ => none }
def fstSmallestRow : OpenClaim := { program := "ytpbadnmfgffdlaadoor", sum := "492756c10dc481077546b926764324e63ae77e65dfe7bb3ed36e5ebd50983eb8", func := "abecedary/abecedarylaw07.FstSmallest", spec := "fstSmallest", unfollowed := true, recurses := true, named := ["abecedary/letters.least"], plainKeys := false, apart := false, laid := [("abecedary/letters.least", laid_abecedary_letters_least)] }
def FstSmallestSaid : Prop := fstSmallestRow.holds Tryd.pinned (OpenSpec.ofChange fstSmallestSpec)

/-- ITS FALSE NEIGHBOUR: 'it returns false'. Refute it at one input. -/
def fstSmallestWrong : ChangeSpec := { name := "fstSmallest", fn := fun _ => fun
  | [d] => { results := [.lit (.bool false)], args := [d] }
  | _ => none }
def FstSmallestWrongFalsely : Prop := fstSmallestRow.holds Tryd.pinned (OpenSpec.ofChange fstSmallestWrong)

/-- 'abecedarylaw07.FstShifts': WHATEVER THE INPUT: true; the input reads as it did. -/
def fstShiftsSpec : ChangeSpec := { name := "fstShifts", fn := fun _ => fun
  | [d1, d2] => { results := [.lit (.bool true)], args := [d1, d2] }
  | _ => none }
def fstShiftsRow : OpenClaim := { program := "ytpbadnmfgffdlaadoor", sum := "492756c10dc481077546b926764324e63ae77e65dfe7bb3ed36e5ebd50983eb8", func := "abecedary/abecedarylaw07.FstShifts", spec := "fstShifts", unfollowed := true, recurses := true, named := ["abecedary/letters.least"], plainKeys := false, apart := false, laid := [("abecedary/letters.least", laid_abecedary_letters_least)] }
def FstShiftsSaid : Prop := fstShiftsRow.holds Tryd.pinned (OpenSpec.ofChange fstShiftsSpec)

/-- ITS FALSE NEIGHBOUR: 'it returns false'. Refute it at one input. -/
def fstShiftsWrong : ChangeSpec := { name := "fstShifts", fn := fun _ => fun
  | [d1, d2] => { results := [.lit (.bool false)], args := [d1, d2] }
  | _ => none }
def FstShiftsWrongFalsely : Prop := fstShiftsRow.holds Tryd.pinned (OpenSpec.ofChange fstShiftsWrong)

/-- 'abecedarylaw07.FstChain': WHATEVER THE INPUT: true; the input reads as it did. -/
def fstChainSpec : ChangeSpec := { name := "fstChain", fn := fun _ => fun
  | [d1, d2] => { results := [.lit (.bool true)], args := [d1, d2] }
  | _ => none }
def fstChainRow : OpenClaim := { program := "ytpbadnmfgffdlaadoor", sum := "492756c10dc481077546b926764324e63ae77e65dfe7bb3ed36e5ebd50983eb8", func := "abecedary/abecedarylaw07.FstChain", spec := "fstChain", unfollowed := true, recurses := true, named := ["abecedary/letters.least"], plainKeys := false, apart := false, laid := [("abecedary/letters.least", laid_abecedary_letters_least)] }
def FstChainSaid : Prop := fstChainRow.holds Tryd.pinned (OpenSpec.ofChange fstChainSpec)

/-- ITS FALSE NEIGHBOUR: 'it returns false'. Refute it at one input. -/
def fstChainWrong : ChangeSpec := { name := "fstChain", fn := fun _ => fun
  | [d1, d2] => { results := [.lit (.bool false)], args := [d1, d2] }
  | _ => none }
def FstChainWrongFalsely : Prop := fstChainRow.holds Tryd.pinned (OpenSpec.ofChange fstChainWrong)

/- THE SECOND FORM. 'bulk': how many values and letters a reading holds, each counted each time it is reached (what is shared counts as often as it is met; a slice's spare places count too). A statement '..UptoSaid' is the law's where the arguments, and the package variables that the reading takes, are together of bulk at most 1048576: NARROWER than '..Said'. Prove '..Said' where nothing that the law and all that it calls make is longer than what came in: it says more and counts as full. Else prove '..UptoSaid'. A law counts once. -/
mutual
def uptoBulk {H : Type} : DataW H → Nat
  | .lit (.string bytes) => bytes.length + 1
  | .lit _ => 1
  | .nil => 1
  | .ptr d => uptoBulk d + 1
  | .slice elems spare => uptoBulkAll elems + uptoBulkAll spare + 1
  | .agg parts => uptoBulkAll parts + 1
  | .iface _ d => uptoBulk d + 1
  | .map entries => uptoBulkEntries entries + 1
  | .held _ => 1
def uptoBulkAll {H : Type} : List (DataW H) → Nat
  | [] => 0
  | d :: r => uptoBulk d + uptoBulkAll r
def uptoBulkEntries {H : Type} : List (Lit × DataW H) → Nat
  | [] => 0
  | x :: r => uptoBulkEntry x + uptoBulkEntries r
def uptoBulkEntry {H : Type} : Lit × DataW H → Nat
  | (.string bytes, d) => bytes.length + uptoBulk d + 1
  | (_, d) => uptoBulk d + 1
 end
def uptoSmall : (H : Type) → List (DataW H) → Bool := fun _ ds => decide (uptoBulkAll ds ≤ 1048576)
def OpenSpec.upto (s : _root_.Go.ChangeSpec) : _root_.Go.OpenSpec := { _root_.Go.OpenSpec.ofChange s with cond := some uptoSmall }

/-- 'abecedarylaw07.FstBuilds', WHERE WHAT IT READS IS OF BULK AT MOST 1048576: true; the input reads as it did. -/
def fstBuildsUptoRow : OpenClaim := { program := "ytpbadnmfgffdlaadoor", sum := "492756c10dc481077546b926764324e63ae77e65dfe7bb3ed36e5ebd50983eb8", func := "abecedary/abecedarylaw07.FstBuilds", spec := "fstBuilds", unfollowed := true, recurses := true, named := ["abecedary/letters.least"], plainKeys := false, apart := false, laid := [("abecedary/letters.least", laid_abecedary_letters_least)], narrowed := true }
def FstBuildsUptoSaid : Prop := fstBuildsUptoRow.holds Tryd.pinned (OpenSpec.upto fstBuildsSpec)

/-- 'abecedarylaw07.FstSays', WHERE WHAT IT READS IS OF BULK AT MOST 1048576: true; the input reads as it did. -/
def fstSaysUptoRow : OpenClaim := { program := "ytpbadnmfgffdlaadoor", sum := "492756c10dc481077546b926764324e63ae77e65dfe7bb3ed36e5ebd50983eb8", func := "abecedary/abecedarylaw07.FstSays", spec := "fstSays", unfollowed := true, recurses := true, named := ["abecedary/letters.least"], plainKeys := false, apart := false, laid := [("abecedary/letters.least", laid_abecedary_letters_least)], narrowed := true }
def FstSaysUptoSaid : Prop := fstSaysUptoRow.holds Tryd.pinned (OpenSpec.upto fstSaysSpec)

/-- 'abecedarylaw07.FstWords', WHERE WHAT IT READS IS OF BULK AT MOST 1048576: true; the input reads as it did. -/
def fstWordsUptoRow : OpenClaim := { program := "ytpbadnmfgffdlaadoor", sum := "492756c10dc481077546b926764324e63ae77e65dfe7bb3ed36e5ebd50983eb8", func := "abecedary/abecedarylaw07.FstWords", spec := "fstWords", unfollowed := true, recurses := true, named := ["abecedary/letters.least"], plainKeys := false, apart := false, laid := [("abecedary/letters.least", laid_abecedary_letters_least)], narrowed := true }
def FstWordsUptoSaid : Prop := fstWordsUptoRow.holds Tryd.pinned (OpenSpec.upto fstWordsSpec)

/-- 'abecedarylaw07.FstApart', WHERE WHAT IT READS IS OF BULK AT MOST 1048576: true; the input reads as it did. -/
def fstApartUptoRow : OpenClaim := { program := "ytpbadnmfgffdlaadoor", sum := "492756c10dc481077546b926764324e63ae77e65dfe7bb3ed36e5ebd50983eb8", func := "abecedary/abecedarylaw07.FstApart", spec := "fstApart", unfollowed := true, recurses := true, named := ["abecedary/letters.least"], plainKeys := false, apart := false, laid := [("abecedary/letters.least", laid_abecedary_letters_least)], narrowed := true }
def FstApartUptoSaid : Prop := fstApartUptoRow.holds Tryd.pinned (OpenSpec.upto fstApartSpec)

/-- 'abecedarylaw07.FstLevel', WHERE WHAT IT READS IS OF BULK AT MOST 1048576: true; the input reads as it did. -/
def fstLevelUptoRow : OpenClaim := { program := "ytpbadnmfgffdlaadoor", sum := "492756c10dc481077546b926764324e63ae77e65dfe7bb3ed36e5ebd50983eb8", func := "abecedary/abecedarylaw07.FstLevel", spec := "fstLevel", unfollowed := true, recurses := true, named := ["abecedary/letters.least"], plainKeys := false, apart := false, laid := [("abecedary/letters.least", laid_abecedary_letters_least)], narrowed := true }
def FstLevelUptoSaid : Prop := fstLevelUptoRow.holds Tryd.pinned (OpenSpec.upto fstLevelSpec)

/-- 'abecedarylaw07.FstSmallest', WHERE WHAT IT READS IS OF BULK AT MOST 1048576: true; the input reads as it did. -/
def fstSmallestUptoRow : OpenClaim := { program := "ytpbadnmfgffdlaadoor", sum := "492756c10dc481077546b926764324e63ae77e65dfe7bb3ed36e5ebd50983eb8", func := "abecedary/abecedarylaw07.FstSmallest", spec := "fstSmallest", unfollowed := true, recurses := true, named := ["abecedary/letters.least"], plainKeys := false, apart := false, laid := [("abecedary/letters.least", laid_abecedary_letters_least)], narrowed := true }
def FstSmallestUptoSaid : Prop := fstSmallestUptoRow.holds Tryd.pinned (OpenSpec.upto fstSmallestSpec)

/-- 'abecedarylaw07.FstShifts', WHERE WHAT IT READS IS OF BULK AT MOST 1048576: true; the input reads as it did. -/
def fstShiftsUptoRow : OpenClaim := { program := "ytpbadnmfgffdlaadoor", sum := "492756c10dc481077546b926764324e63ae77e65dfe7bb3ed36e5ebd50983eb8", func := "abecedary/abecedarylaw07.FstShifts", spec := "fstShifts", unfollowed := true, recurses := true, named := ["abecedary/letters.least"], plainKeys := false, apart := false, laid := [("abecedary/letters.least", laid_abecedary_letters_least)], narrowed := true }
def FstShiftsUptoSaid : Prop := fstShiftsUptoRow.holds Tryd.pinned (OpenSpec.upto fstShiftsSpec)

/-- 'abecedarylaw07.FstChain', WHERE WHAT IT READS IS OF BULK AT MOST 1048576: true; the input reads as it did. -/
def fstChainUptoRow : OpenClaim := { program := "ytpbadnmfgffdlaadoor", sum := "492756c10dc481077546b926764324e63ae77e65dfe7bb3ed36e5ebd50983eb8", func := "abecedary/abecedarylaw07.FstChain", spec := "fstChain", unfollowed := true, recurses := true, named := ["abecedary/letters.least"], plainKeys := false, apart := false, laid := [("abecedary/letters.least", laid_abecedary_letters_least)], narrowed := true }
def FstChainUptoSaid : Prop := fstChainUptoRow.holds Tryd.pinned (OpenSpec.upto fstChainSpec)

end Rows
end Go.Proofs.YtpbadnmfgffdlaaDoor
