/-
  An array of two texts by value, as the reader reads it.
-/
import Derived.Test.YtacbokpjegbbbaaDoorEdLawsD
import Derived.Test.YtacbokpjegbbbaaDoorShut
namespace Go.Proofs.YtacbokpjegbbbaaDoor.E
open Go.ChangeShapes Go.WideShapes Go.ChangeAt Go.RowKit
set_option linter.unusedSimpArgs false
set_option linter.unusedVariables false

theorem list2 {α : Type} (l : List α) (h : (⟨l⟩ : Array α).size = 2) : ∃ a b, l = [a, b] := by
  match l, h with
  | [a, b], _ => exact ⟨a, b, rfl⟩
theorem open_two {H : Type} {enc : TypeId × Value → H} {P : Program} {w : World} {base : Nat} {sp : Nat → Bool} {held : Bool} {r : Reach} {b0 : Nat} {t e : TypeId} {v : Value} {d : DataW H} {ps : List MemPlace}
    (ht : P.underlying t = some (.array 2 e)) (he : P.underlying e = some .string) (hc : P.cellsOf e = 1) (hct : P.cellsOf t = 2) (hval : Value.okWide P w r b0 t v) (hd : DataW.Trod enc P w base sp held t v d ps) :
    ∃ s u : ByteArray, v = .agg #[.string s, .string u] ∧ d = .agg [.lit (.string s.data.toList), .lit (.string u.data.toList)] ∧ ps = [] ∧ s.size ≤ maxLen ∧ u.size ≤ maxLen := by
  obtain ⟨cs, rfl, hsz⟩ : ∃ cs, v = .agg cs ∧ cs.size = P.cellsOf t := by
    cases v <;> simp_all [Value.okWide]
  rw [hct] at hsz
  obtain ⟨l⟩ := cs
  obtain ⟨c0, c1, rfl⟩ := list2 l hsz
  obtain ⟨fuel, hf⟩ := hd
  obtain ⟨xs, m, _, hx, _, hl, hxs⟩ := DataW.trod_array ht hf
  have h0 := hxs 0 (by decide)
  have h1 := hxs 1 (by decide)
  rw [hc] at h0 h1
  obtain ⟨x0, x1, rfl⟩ : ∃ a b, xs = [a, b] := list2 xs hl
  obtain ⟨s, e0, rfl, ws⟩ := DataW.trod_string he h0
  obtain ⟨u, e1, rfl, wu⟩ := DataW.trod_string he h1
  simp [Value.cells] at e0 e1
  subst e0 e1
  simp at hx
  exact ⟨s, u, rfl, hx.1, hx.2, ws, wu⟩
end Go.Proofs.YtacbokpjegbbbaaDoor.E
