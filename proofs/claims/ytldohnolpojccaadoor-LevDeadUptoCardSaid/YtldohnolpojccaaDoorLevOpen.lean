/-
  A row by value, and steps that came in, as the reader reads them.
-/
import Derived.Test.YtldohnolpojccaaDoorLevLawsG
import Derived.Test.YtldohnolpojccaaDoorShut
import Derived.Deep.Slices
namespace Go.Proofs.YtldohnolpojccaaDoor.V
open Go.ChangeShapes Go.WideShapes Go.ChangeAt Go.RowKit Aid
set_option linter.unusedSimpArgs false
set_option linter.unusedVariables false

/-- a slice's length is within its room -/
theorem arg_cap {H : Type} {enc : TypeId × Value → H} {P : Program} {W : World} {base : Nat} {sp : Nat → Bool} {held : Bool} {t e : TypeId} {v : Value} {d : DataW H} {p : List MemPlace}
    (ht : P.underlying t = some (.slice e)) (h : DataW.Trod enc P W base sp held t v d p) {a : Option Addr} {len cap : Nat} (hv : v = .slice a len cap) : len ≤ cap := by
  obtain ⟨fuel, hf⟩ := h
  subst hv
  rcases DataW.trod_slice ht hf with ⟨hcs, _⟩ | ⟨a', len', cap', _, _, _, _, hcs, _, _, hl, _⟩
  · simp [Value.cells] at hcs; omega
  · simp [Value.cells] at hcs; omega

/-- cells that read as small numbers -/
theorem cells_u8 {H : Type} {enc : TypeId × Value → H} {P : Program} {w : World} {base : Nat} {sp : Nat → Bool} {held : Bool} {t e : TypeId} {fuel : Nat} {cs : List Value} {x : DataW H × List MemPlace}
    (ht : P.underlying t = some (.array 25 e)) (he : P.underlying e = some (.int .u8)) (hc : P.cellsOf e = 1) (hct : P.cellsOf t = 25) (h : DataW.trod enc P w base sp held fuel t cs = some x) :
    ∃ f : Nat → Nat, (∀ j, f j ≤ 255) ∧ cs = (u8A 25 f).toList := by
  obtain ⟨xs, m, _, hx, hlen, hl, hxs⟩ := DataW.trod_array ht h
  rw [hct] at hlen
  have hcell : ∀ i, i < 25 → ∃ n : Int, cs[i]? = some (.int .u8 n) ∧ 0 ≤ n ∧ n ≤ 255 := by
    intro i hi
    have h1 := hxs i hi
    rw [hc, List.getElem?_eq_getElem (by omega : i < xs.length)] at h1
    obtain ⟨n, hcs, _, hw⟩ := DataW.trod_int he h1
    have hdrop : (cs.drop (i * 1)).take 1 = [cs[i]'(by omega)] := by
      rw [Nat.mul_one, List.drop_eq_getElem_cons (by omega), List.take_succ_cons, List.take_zero]
    rw [hdrop] at hcs
    simp only [List.cons.injEq, and_true] at hcs
    have hw' : 0 ≤ n ∧ n ≤ 255 := by simpa [Lit.wf, IntKind.min, IntKind.max, IntKind.signed, IntKind.bits] using hw
    exact ⟨n, by rw [List.getElem?_eq_getElem (by omega), hcs], hw'.1, hw'.2⟩
  refine ⟨fun j => match cs[j]? with | some (.int _ n) => min n.toNat 255 | _ => 0, ?_, ?_⟩
  · intro j
    dsimp only
    split <;> omega
  · apply List.ext_getElem?
    intro i
    by_cases hi : i < 25
    · obtain ⟨n, h1, h2, h3⟩ := hcell i hi
      rw [h1, Array.getElem?_toList (xs := u8A 25 _), u8A_get _ _ _ hi, h1]
      simp only [Option.some.injEq, Value.int.injEq, true_and]
      omega
    · rw [List.getElem?_eq_none (by omega), List.getElem?_eq_none (by simp [u8A_size]; omega)]

/-- a row by value -/
theorem open_row {H : Type} {enc : TypeId × Value → H} {P : Program} {w : World} {base : Nat} {sp : Nat → Bool} {held : Bool} {r : Reach} {b0 : Nat} {t e : TypeId} {v : Value} {d : DataW H} {ps : List MemPlace}
    (ht : P.underlying t = some (.array 25 e)) (he : P.underlying e = some (.int .u8)) (hc : P.cellsOf e = 1) (hct : P.cellsOf t = 25) (hval : Value.okWide P w r b0 t v) (hd : DataW.Trod enc P w base sp held t v d ps) :
    ∃ f : Nat → Nat, (∀ j, f j ≤ 255) ∧ v = .agg (u8A 25 f) := by
  obtain ⟨cs, rfl, hsz⟩ : ∃ cs, v = .agg cs ∧ cs.size = P.cellsOf t := by
    cases v <;> simp_all [Value.okWide]
  obtain ⟨fuel, hf⟩ := hd
  obtain ⟨f, hf1, hf2⟩ := cells_u8 ht he hc hct hf
  refine ⟨f, hf1, ?_⟩
  have : cs = u8A 25 f := by
    apply Array.ext'
    simpa [Value.cells] using hf2
  rw [this]

/-- steps that came in -/
theorem arg_steps {H : Type} {enc : TypeId × Value → H} {P : Program} {W : World} {b0 : Nat} {t e a u i : TypeId} {f0 f1 : Field} {v : Value} {d : DataW H} {p : List MemPlace} {rc : Reach}
    (ht : P.underlying t = some (.slice e)) (he : P.underlying e = some (.struct #[f0, f1])) (ce : P.cellsOf e = 26) (o0 : f0.offset = 0) (o1 : f1.offset = 25) (t0 : f0.type = a) (t1 : f1.type = i)
    (ha : P.underlying a = some (.array 25 u)) (hu : P.underlying u = some (.int .u8)) (hcu : P.cellsOf u = 1) (hca : P.cellsOf a = 25) (hi : P.underlying i = some (.int .i32)) (hci : P.cellsOf i = 1)
    (hval : Value.okWide P W rc b0 t v) (h : DataW.Trod enc P W 0 (fun _ => true) true t v d p) (hlt : ∀ x ∈ p, x.block < W.heap.size)
    (hsize : ∀ elems spare, d = .slice elems spare → elems.length ≤ 140737488355328) :
    ∃ n f r, Stps W v n f r := by
  obtain ⟨av, len, cap, rfl⟩ := okWide_slice ht hval
  obtain ⟨fuel, hf⟩ := h
  rcases Go.Deep.open_slice ht hf with ⟨hcs, hx⟩ | ⟨a', len', cap', m, n, D, Pl, hcs, hab, hl, hm, hmm, hx, hel⟩
  · simp [Value.cells] at hcs
    obtain ⟨rfl, rfl, rfl⟩ := hcs
    exact ⟨0, fun _ _ => 0, fun _ => 0, by omega, fun _ _ => Nat.zero_le _, .inl ⟨rfl, _, _, rfl⟩⟩
  · simp [Value.cells] at hcs
    obtain ⟨rfl, rfl, rfl⟩ := hcs
    simp only [if_true] at hmm
    subst hmm
    simp only [Prod.mk.injEq] at hx
    have hn := hsize _ _ hx.1
    simp only [List.length_map, List.length_range] at hn
    by_cases h0 : len = 0
    · subst h0
      exact ⟨0, fun _ _ => 0, fun _ => 0, by omega, fun _ _ => Nat.zero_le _, .inl ⟨rfl, _, _, rfl⟩⟩
    · have hrd : ∀ k, ∃ (g : Nat → Nat) (z : Int), (∀ j, g j ≤ 255) ∧ (k < len → ∀ j (hj : j < (stepA g z).size), W.cell? (a'.add (k * 26 + j)) = some (stepA g z)[j]) := by
        intro k
        by_cases hk : k < len
        · obtain ⟨cs, hcs, htr⟩ := hel k (by omega)
          rw [ce] at hcs
          obtain ⟨y0, y1, q, _, hlen, hr0, hr1⟩ := trod_struct2 he htr
          rw [ce] at hlen
          rw [o0, t0, hca, List.drop_zero] at hr0
          rw [o1, t1, hci] at hr1
          obtain ⟨g, hg, hcg⟩ := cells_u8 ha hu hcu hca hr0
          obtain ⟨z, hz, _, _⟩ := DataW.trod_int hi hr1
          have hcsA : cs = (stepA g z).toList := by
            rw [← List.take_append_drop 25 cs, hcg]
            have : cs.drop 25 = [.int .i32 z] := by
              rw [← hz]; exact (List.take_of_length_le (by simp; omega)).symm
            rw [this]
            simp [stepA]
          refine ⟨g, z, hg, fun _ j hj => ?_⟩
          have hj26 : j < 26 := by rw [stepA_size] at hj; exact hj
          have h1 := (World.cells?_some hcs).2.2 j hj26
          rw [Addr.add_add] at h1
          rw [h1, hcsA, Array.getElem?_toList (xs := stepA g z)]
          exact Array.getElem?_eq_getElem hj
        · exact ⟨fun _ => 0, 0, fun _ => Nat.zero_le _, fun h => absurd h hk⟩
      obtain ⟨g, z, hg, hc⟩ : ∃ (g : Nat → Nat → Nat) (z : Nat → Int), (∀ k j, g k j ≤ 255) ∧ ∀ k, k < len → ∀ j (hj : j < (stepA (g k) (z k)).size), W.cell? (a'.add (k * 26 + j)) = some (stepA (g k) (z k))[j] :=
        ⟨fun k => (hrd k).choose, fun k => (hrd k).choose_spec.choose, fun k => (hrd k).choose_spec.choose_spec.1, fun k => (hrd k).choose_spec.choose_spec.2⟩
      obtain ⟨b, off, spot⟩ := a'
      have h00 := hc 0 (by omega) 0 (by rw [stepA_size]; omega)
      have hspot : spot = none := by simpa [Addr.add] using World.cell?_spot h00
      subst hspot
      have hb : b < W.heap.size := by
        refine hlt (.cell b off) ?_
        rw [hx.2]
        refine List.mem_append_left _ (MemPlace.mem_row.2 ⟨0, ?_, by simp⟩)
        rw [ce]
        have : 1 ≤ len := by omega
        omega
      refine ⟨len, g, z, by omega, hg, .inr ⟨b, off, _, rfl, hb, fun k hk j hj => ?_⟩⟩
      have := hc k hk j hj
      rw [WideShapes.add_plain] at this
      rw [Nat.add_assoc]
      exact this
end Go.Proofs.YtldohnolpojccaaDoor.V
