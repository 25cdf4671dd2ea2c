/-
  A slice in a struct by value is no longer than its room.
-/
import Derived.Test.YtmokfpjiibociaaRulOpen
import Derived.Test.YtmokfpjiibociaaRulAdd
namespace Go.Proofs.Ytmokfpjiibociaa.R
open Go.ChangeShapes Go.WideShapes Go.ChangeAt Go.RowKit Aid
set_option linter.unusedVariables false
theorem box_cap {H : Type} {enc : TypeId × Value → H} {P : Program} {w : World} {base : Nat} {sp : Nat → Bool} {held : Bool} {r : Reach} {b0 : Nat} {t e : TypeId} {f0 : Field} {u : Value} {d : DataW H} {p : List MemPlace}
    (hs : P.underlying t = some (.struct #[f0])) (hC : P.cellsOf t = 1) (o0 : f0.offset = 0) (c0 : P.cellsOf f0.type = 1) (ht : P.underlying f0.type = some (.slice e))
    (hval : Value.okWide P w r b0 t (.agg #[u])) (h : DataW.Trod enc P w base sp held t (.agg #[u]) d p) : CapOk u := by
  obtain ⟨u', d0, fuel, hu, hd, hf⟩ := open_box hs hC o0 c0 hval h
  simp at hu
  subst hu
  rcases Go.Deep.open_slice ht hf with ⟨hcs, _⟩ | ⟨a', len', cap', _, _, _, _, hcs, _, hl, _⟩
  · simp at hcs; subst hcs; exact Nat.le_refl 0
  · simp at hcs; subst hcs; exact hl
end Go.Proofs.Ytmokfpjiibociaa.R
