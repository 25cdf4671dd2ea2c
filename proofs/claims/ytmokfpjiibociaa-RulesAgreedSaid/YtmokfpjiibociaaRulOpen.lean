/-
  Structs by value, as the reader reads them.
-/
import Derived.Test.YtmokfpjiibociaaShut
import Derived.Deep.Slices
import Derived.Deep.Strs
namespace Go.Proofs.Ytmokfpjiibociaa.R
open Go.ChangeShapes Go.WideShapes Go.ChangeAt Go.RowKit Aid
set_option linter.unusedSimpArgs false
set_option linter.unusedVariables false

theorem arr1 {α : Type} {cs : Array α} (h : cs.size = 1) : ∃ c0, cs = #[c0] := by
  obtain ⟨l⟩ := cs
  match l, h with
  | [c0], _ => exact ⟨c0, rfl⟩
theorem arr2 {α : Type} {cs : Array α} (h : cs.size = 2) : ∃ c0 c1, cs = #[c0, c1] := by
  obtain ⟨l⟩ := cs
  match l, h with
  | [c0, c1], _ => exact ⟨c0, c1, rfl⟩
theorem arr3 {α : Type} {cs : Array α} (h : cs.size = 3) : ∃ c0 c1 c2, cs = #[c0, c1, c2] := by
  obtain ⟨l⟩ := cs
  match l, h with
  | [c0, c1, c2], _ => exact ⟨c0, c1, c2, rfl⟩

/-- two numbers by value -/
theorem open_pair {H : Type} {enc : TypeId × Value → H} {P : Program} {w : World} {base : Nat} {sp : Nat → Bool} {held : Bool} {r : Reach} {b0 : Nat} {t : TypeId} {f0 f1 : Field} {k0 k1 : IntKind} {v : Value} {d : DataW H} {p : List MemPlace}
    (hs : P.underlying t = some (.struct #[f0, f1])) (hC : P.cellsOf t = 2) (o0 : f0.offset = 0) (o1 : f1.offset = 1) (c0 : P.cellsOf f0.type = 1) (c1 : P.cellsOf f1.type = 1)
    (h0 : P.underlying f0.type = some (.int k0)) (h1 : P.underlying f1.type = some (.int k1)) (hv : Value.okWide P w r b0 t v) (h : DataW.Trod enc P w base sp held t v d p) :
    ∃ a b, v = .agg #[.int k0 a, .int k1 b] ∧ (Lit.int k0 a).wf = true ∧ (Lit.int k1 b).wf = true := by
  obtain ⟨cs, rfl, hsz⟩ : ∃ cs, v = .agg cs ∧ cs.size = P.cellsOf t := by
    cases v <;> simp_all [Value.okWide]
  obtain ⟨x0, x1, rfl⟩ := arr2 (hsz.trans hC)
  obtain ⟨fuel, hf⟩ := h
  obtain ⟨y0, y1, n, hx, _, g0, g1⟩ := trod_struct2 hs hf
  rw [o0, c0] at g0
  rw [o1, c1] at g1
  obtain ⟨a, e0, _, wa⟩ := DataW.trod_int h0 g0
  obtain ⟨b, e1, _, wb⟩ := DataW.trod_int h1 g1
  simp [Value.cells] at e0 e1
  subst e0 e1
  exact ⟨a, b, rfl, wa, wb⟩
/-- two numbers and whether -/
theorem open_ask {H : Type} {enc : TypeId × Value → H} {P : Program} {w : World} {base : Nat} {sp : Nat → Bool} {held : Bool} {r : Reach} {b0 : Nat} {t : TypeId} {f0 f1 f2 : Field} {k0 k1 : IntKind} {v : Value} {d : DataW H} {p : List MemPlace}
    (hs : P.underlying t = some (.struct #[f0, f1, f2])) (hC : P.cellsOf t = 3) (o0 : f0.offset = 0) (o1 : f1.offset = 1) (o2 : f2.offset = 2) (c0 : P.cellsOf f0.type = 1) (c1 : P.cellsOf f1.type = 1) (c2 : P.cellsOf f2.type = 1)
    (h0 : P.underlying f0.type = some (.int k0)) (h1 : P.underlying f1.type = some (.int k1)) (h2 : P.underlying f2.type = some .bool) (hv : Value.okWide P w r b0 t v) (h : DataW.Trod enc P w base sp held t v d p) :
    ∃ a b c, v = .agg #[.int k0 a, .int k1 b, .bool c] ∧ (Lit.int k0 a).wf = true ∧ (Lit.int k1 b).wf = true := by
  obtain ⟨cs, rfl, hsz⟩ : ∃ cs, v = .agg cs ∧ cs.size = P.cellsOf t := by
    cases v <;> simp_all [Value.okWide]
  obtain ⟨x0, x1, x2, rfl⟩ := arr3 (hsz.trans hC)
  obtain ⟨fuel, hf⟩ := h
  obtain ⟨y0, y1, y2, n, hx, _, g0, g1, g2⟩ := Go.Deep.trod_struct3 hs hf
  rw [o0, c0] at g0
  rw [o1, c1] at g1
  rw [o2, c2] at g2
  obtain ⟨a, e0, _, wa⟩ := DataW.trod_int h0 g0
  obtain ⟨b, e1, _, wb⟩ := DataW.trod_int h1 g1
  obtain ⟨c, e2, _⟩ := DataW.trod_bool h2 g2
  simp [Value.cells] at e0 e1 e2
  subst e0 e1 e2
  exact ⟨a, b, c, rfl, wa, wb⟩
/-- a slice that lies in a struct by value -/
theorem open_box {H : Type} {enc : TypeId × Value → H} {P : Program} {w : World} {base : Nat} {sp : Nat → Bool} {held : Bool} {r : Reach} {b0 : Nat} {t : TypeId} {f0 : Field} {v : Value} {d : DataW H} {p : List MemPlace}
    (hs : P.underlying t = some (.struct #[f0])) (hC : P.cellsOf t = 1) (o0 : f0.offset = 0) (c0 : P.cellsOf f0.type = 1)
    (hv : Value.okWide P w r b0 t v) (h : DataW.Trod enc P w base sp held t v d p) :
    ∃ u d0 fuel, v = .agg #[u] ∧ d = .agg [d0] ∧ DataW.trod enc P w base sp held fuel f0.type [u] = some (d0, p) := by
  obtain ⟨cs, rfl, hsz⟩ : ∃ cs, v = .agg cs ∧ cs.size = P.cellsOf t := by
    cases v <;> simp_all [Value.okWide]
  obtain ⟨x0, rfl⟩ := arr1 (hsz.trans hC)
  obtain ⟨fuel, hf⟩ := h
  obtain ⟨y0, n, hx, _, g0⟩ := trod_struct1 hs hf
  rw [o0, c0] at g0
  simp only [Prod.mk.injEq] at hx
  obtain ⟨y, z⟩ := y0
  obtain ⟨rfl, rfl⟩ := hx
  exact ⟨x0, y, n, rfl, rfl, g0⟩
theorem sized_box {H : Type} {P : Program} {ts : List TypeId} {ds : List (DataW H)} (h : (DataW.weightsEach P ts ds).all (· ≤ reachBytes) = true) {j : Nat} {t e : TypeId} {f0 : Field} {elems spare : List (DataW H)} (ht : ts[j]? = some t) (hd : ds[j]? = some (.agg [.slice elems spare]))
    (hs : P.underlying t = some (.struct #[f0])) (hu : P.underlying f0.type = some (.slice e)) : (elems.length + spare.length) * P.bytesOf e ≤ reachBytes := by
  have := List.all_eq_true.1 h _ (DataW.weights_mem_each ht hd ((elems.length + spare.length) * P.bytesOf e) (by simp [DataW.weights, DataW.weightsEach, hs, hu]))
  simpa using this
/-- integers in a struct by value -/
theorem open_ints_box {H : Type} {enc : TypeId × Value → H} {P : Program} {W : World} {b0 : Nat} {t e : TypeId} {k : IntKind} {f0 : Field} {v : Value} {d : DataW H} {p : List MemPlace} {r : Reach}
    (hs : P.underlying t = some (.struct #[f0])) (hC : P.cellsOf t = 1) (o0 : f0.offset = 0) (c0 : P.cellsOf f0.type = 1) (ht : P.underlying f0.type = some (.slice e)) (he : P.underlying e = some (.int k)) (hc : P.cellsOf e = 1)
    (hval : Value.okWide P W r b0 t v)
    (h : DataW.Trod enc P W 0 (fun _ => true) true t v d p) (hlt : ∀ x ∈ p, x.block < W.heap.size) (hsize : ∀ elems spare, d = .agg [.slice elems spare] → elems.length + spare.length ≤ 140737488355328) :
    ∃ u l, v = .agg #[u] ∧ Ints W k u l ∧ (∀ x ∈ l, (Lit.int k x).wf = true) ∧ (d = .agg [.nil] ∧ l = [] ∨ ∃ spare, d = .agg [.slice (lits k l) spare]) := by
  obtain ⟨u, d0, fuel, rfl, rfl, hf⟩ := open_box hs hC o0 c0 hval h
  rcases open_ints ht he hc hf with ⟨hcs, hx⟩ | ⟨a, len', cap', zs, hcs, hab, hl, hm, hz, hx, hcell, hwz⟩
  · simp at hcs
    subst hcs
    simp only [Prod.mk.injEq] at hx
    exact ⟨_, [], rfl, Ints.nil _ _, by simp, .inl ⟨by rw [hx.1], rfl⟩⟩
  · simp at hcs
    subst hcs
    simp only [Prod.mk.injEq] at hx
    simp only [if_true] at hz
    have h1 := hsize _ _ (by rw [hx.1])
    simp only [lits, List.length_map, List.length_take, List.length_drop] at h1
    refine ⟨_, zs.take len', rfl, ?_, fun x hx => hwz x (List.mem_of_mem_take hx), .inr ⟨_, by rw [hx.1]⟩⟩
    by_cases h0 : len' = 0
    · subst h0
      exact ⟨by simp, .inl ⟨by simp, .inr ⟨a, cap', rfl⟩⟩⟩
    · have hlz : len' ≤ zs.length := by omega
      obtain ⟨b, off, rfl, hc'⟩ := ints_at hcell (by omega)
      have hlen : (zs.take len').length = len' := by simp [hlz]
      refine ⟨by omega, .inr ⟨b, off, cap', by rw [hlen], ?_, ?_⟩⟩
      · refine hlt (.cell b off) ?_
        rw [hx.2]
        exact MemPlace.mem_row.2 ⟨0, by omega, by simp⟩
      · intro j hj
        rw [hlen] at hj
        have := hc' j (by omega)
        rw [this]
        simp only [List.getD_eq_getElem?_getD, List.getElem?_take]
        rw [if_pos hj]
end Go.Proofs.Ytmokfpjiibociaa.R
