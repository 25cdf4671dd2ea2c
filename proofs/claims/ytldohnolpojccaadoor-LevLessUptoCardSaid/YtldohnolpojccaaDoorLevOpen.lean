/-
  A row by value, and steps that came in, as the reader reads them.
-/
import Derived.Test.YtldohnolpojccaaDoorLevLawsE
import Derived.Test.YtldohnolpojccaaDoorShut
import Derived.Deep.Slices
namespace Go.Proofs.YtldohnolpojccaaDoor.V
open Go.ChangeShapes Go.WideShapes Go.ChangeAt Go.RowKit Aid
set_option linter.unusedSimpArgs false
set_option linter.unusedVariables false

/-- a slice's length is within its room -/
theorem arg_cap {H : Type} {enc : TypeId × Value → H} {P : Program} {W : World} {base : Nat} {sp : Nat → Bool} {held : Bool} {t e : TypeId} {v : Value} {d : DataW H} {p : List MemPlace}
    (ht : P.underlying t = some (.slice e)) (h : DataW.Trod enc P W base sp held t v d p) {a : Option Addr} {len cap : Nat} (hv : v = .slice a len cap) : len ≤ cap := by
  obtain ⟨fuel, hf⟩ := h
  subst hv
  rcases DataW.trod_slice ht hf with ⟨hcs, _⟩ | ⟨a', len', cap', _, _, _, _, hcs, _, _, hl, _⟩
  · simp [Value.cells] at hcs; omega
  · simp [Value.cells] at hcs; omega

/-- cells that read as small numbers -/
theorem cells_u8 {H : Type} {enc : TypeId × Value → H} {P : Program} {w : World} {base : Nat} {sp : Nat → Bool} {held : Bool} {t e : TypeId} {fuel : Nat} {cs : List Value} {x : DataW H × List MemPlace}
    (ht : P.underlying t = some (.array 25 e)) (he : P.underlying e = some (.int .u8)) (hc : P.cellsOf e = 1) (hct : P.cellsOf t = 25) (h : DataW.trod enc P w base sp held fuel t cs = some x) :
    ∃ f : Nat → Nat, (∀ j, f j ≤ 255) ∧ cs = (u8A 25 f).toList := by
  obtain ⟨xs, m, _, hx, hlen, hl, hxs⟩ := DataW.trod_array ht h
  rw [hct] at hlen
  have hcell : ∀ i, i < 25 → ∃ n : Int, cs[i]? = some (.int .u8 n) ∧ 0 ≤ n ∧ n ≤ 255 := by
    intro i hi
    have h1 := hxs i hi
    rw [hc, List.getElem?_eq_getElem (by omega : i < xs.length)] at h1
    obtain ⟨n, hcs, _, hw⟩ := DataW.trod_int he h1
    have hdrop : (cs.drop (i * 1)).take 1 = [cs[i]'(by omega)] := by
      rw [Nat.mul_one, List.drop_eq_getElem_cons (by omega), List.take_succ_cons, List.take_zero]
    rw [hdrop] at hcs
    simp only [List.cons.injEq, and_true] at hcs
    have hw' : 0 ≤ n ∧ n ≤ 255 := by simpa [Lit.wf, IntKind.min, IntKind.max, IntKind.signed, IntKind.bits] using hw
    exact ⟨n, by rw [List.getElem?_eq_getElem (by omega), hcs], hw'.1, hw'.2⟩
  refine ⟨fun j => match cs[j]? with | some (.int _ n) => min n.toNat 255 | _ => 0, ?_, ?_⟩
  · intro j
    dsimp only
    split <;> omega
  · apply List.ext_getElem?
    intro i
    by_cases hi : i < 25
    · obtain ⟨n, h1, h2, h3⟩ := hcell i hi
      rw [h1, Array.getElem?_toList (xs := u8A 25 _), u8A_get _ _ _ hi, h1]
      simp only [Option.some.injEq, Value.int.injEq, true_and]
      omega
    · rw [List.getElem?_eq_none (by omega), List.getElem?_eq_none (by simp [u8A_size]; omega)]

/-- a row by value -/
theorem open_row {H : Type} {enc : TypeId × Value → H} {P : Program} {w : World} {base : Nat} {sp : Nat → Bool} {held : Bool} {r : Reach} {b0 : Nat} {t e : TypeId} {v : Value} {d : DataW H} {ps : List MemPlace}
    (ht : P.underlying t = some (.array 25 e)) (he : P.underlying e = some (.int .u8)) (hc : P.cellsOf e = 1) (hct : P.cellsOf t = 25) (hval : Value.okWide P w r b0 t v) (hd : DataW.Trod enc P w base sp held t v d ps) :
    ∃ f : Nat → Nat, (∀ j, f j ≤ 255) ∧ v = .agg (u8A 25 f) := by
  obtain ⟨cs, rfl, hsz⟩ : ∃ cs, v = .agg cs ∧ cs.size = P.cellsOf t := by
    cases v <;> simp_all [Value.okWide]
  obtain ⟨fuel, hf⟩ := hd
  obtain ⟨f, hf1, hf2⟩ := cells_u8 ht he hc hct hf
  refine ⟨f, hf1, ?_⟩
  have : cs = u8A 25 f := by
    apply Array.ext'
    simpa [Value.cells] using hf2
  rw [this]
end Go.Proofs.YtldohnolpojccaaDoor.V
