/-
  Values that came in: a slice of slices of bytes.
-/
import Derived.Test.YtfoogbchajgepaaSloPlain
import Derived.Test.YtfoogbchajgepaaDskOpen
namespace Go.Proofs.Ytfoogbchajgepaa.S
open Go.ChangeShapes Go.WideShapes Go.ChangeAt Go.RowKit
open Aid K
set_option linter.unusedSimpArgs false
set_option linter.unusedVariables false

theorem ValsAre.arg {H : Type} {enc : TypeId × Value → H} {P : Program} {W : World} {b0 : Nat} {t e u : TypeId} {v : Value} {d : DataW H} {p : List MemPlace} {r : Reach}
    (ht : P.underlying t = some (.slice e)) (hs : P.underlying e = some (.slice u)) (hC : P.cellsOf e = 1)
    (hu : P.underlying u = some (.int .u8)) (hcu : P.cellsOf u = 1)
    (hbe : P.bytesOf e = 24) (hbu : P.bytesOf u = 1) (hval : Value.okWide P W r b0 t v)
    (h : DataW.Trod enc P W 0 (fun _ => true) true t v d p) (hlt : ∀ x ∈ p, x.block < W.heap.size) (hsize : ∀ x ∈ d.weights P t, x ≤ reachBytes) : ∃ n f, ValsAre W v n f := by
  obtain ⟨a0, len, cap, rfl⟩ : ∃ a l c, v = .slice a l c := okWide_slice ht hval
  obtain ⟨fuel, hf⟩ := h
  rcases Go.Deep.open_slice ht hf with ⟨hcs, hx⟩ | ⟨a', len', cap', m, n, D, Pl, hcs, hab, hl, hm, hmm, hx, hel⟩
  · simp [Value.cells] at hcs
    obtain ⟨rfl, rfl, rfl⟩ := hcs
    exact ⟨0, fun _ => (.slice none 0 0, []), by omega, none, 0, rfl, fun k hk => by omega⟩
  · simp [Value.cells] at hcs
    obtain ⟨rfl, rfl, rfl⟩ := hcs
    simp only [if_true] at hmm
    subst hmm
    simp only [Prod.mk.injEq] at hx
    obtain ⟨hd, hp⟩ := hx
    have hn : len * 24 ≤ reachBytes := by
      have := hsize ((((List.range len).map D).length + ((List.range (m - len)).map fun j => D (len + j)).length) * P.bytesOf e) (by rw [hd]; simp [DataW.weights, ht])
      simp only [List.length_map, List.length_range] at this
      rw [hbe] at this
      omega
    have hrb := reachBytes_lt
    have hrd : ∀ j, ∃ (x : Value × List Int), j < len → W.cell? (a'.add (j * 1)) = some x.1 ∧ ValOk W x := by
      intro j
      by_cases hk : j < len
      · obtain ⟨cs, hcs, htr⟩ := hel j (by omega)
        rw [hC] at hcs
        have hlen := (World.cells?_some hcs).2.1
        obtain ⟨q0, rfl⟩ : ∃ q0, cs = [q0] := by
          match cs, hlen with
          | [q0], _ => exact ⟨q0, rfl⟩
          | [], h => simp at h
          | _ :: _ :: _, h => simp at h
        have hDm : D j ∈ (List.range len).map D := List.mem_map.2 ⟨j, List.mem_range.2 hk, rfl⟩
        have hp3 : ∀ x ∈ Pl j, x.block < W.heap.size := fun x hx => hlt x (by
          rw [hp]
          refine List.mem_append_right _ (List.mem_flatMap.2 ⟨j, List.mem_range.2 (by omega), ?_⟩)
          exact hx)
        obtain ⟨l, hI, hw⟩ := trod_ints hs hu hcu htr hp3 (fun elems spare hh => by
          have h5 : (elems.length + spare.length) * P.bytesOf u ∈ (D j).weights P e := by
            rw [hh]
            simp [DataW.weights, hs]
          have h6 := hsize _ (by
            rw [hd]
            simp only [DataW.weights, ht]
            exact List.mem_cons_of_mem _ (List.mem_append_left _ (weights_all_mem hDm h5)))
          rw [hbu] at h6
          omega)
        have hh := (World.cells?_some hcs).2.2
        have j0 := hh 0 (by omega)
        rw [Addr.add_add] at j0
        refine ⟨(q0, l), fun _ => ⟨by simpa using j0, hI, fun y hy => ?_⟩⟩
        have := hw y hy
        simp [Lit.wf, IntKind.min, IntKind.max, IntKind.signed, IntKind.bits] at this
        omega
      · exact ⟨(.slice none 0 0, []), fun h => absurd h hk⟩
    obtain ⟨f, hc⟩ : ∃ f : Nat → Value × List Int, ∀ j, j < len → W.cell? (a'.add (j * 1)) = some (f j).1 ∧ ValOk W (f j) :=
      ⟨fun k => (hrd k).choose, fun k => (hrd k).choose_spec⟩
    refine ⟨len, f, by omega, some a', _, rfl, fun k hk => ?_⟩
    obtain ⟨b, off, spot⟩ := a'
    obtain ⟨i0, i4⟩ := hc k hk
    have hspot : spot = none := by
      obtain ⟨i0', i4'⟩ := hc 0 (by omega)
      obtain ⟨a9, c9, e9, _⟩ := ints_slice i4'.1
      rw [e9] at i0'
      simpa [Addr.add] using World.cell?_spot i0'
    subst hspot
    have add : ∀ j, (⟨b, off, none⟩ : Addr).add j = ⟨b, off + j, none⟩ := fun j => by unfold Addr.add; split <;> simp_all
    rw [add, Nat.mul_one] at i0
    exact ⟨b, off, rfl, World.block_lt_of_cell? W _ i0, i0, i4⟩
theorem ValsAre.below {w w' : World} {v : Value} {n : Nat} {f : Nat → Value × List Int} (h : ValsAre w v n f) (hb : Below w.heap.size w w') : ValsAre w' v n f := by
  obtain ⟨h0, a, cap, hv, h⟩ := h
  refine ⟨h0, a, cap, hv, fun j hj => ?_⟩
  obtain ⟨b, o, h1, h2, h3, h4⟩ := h j hj
  exact ⟨b, o, h1, by have := hb.size; omega, (hb.cell (p := ⟨b, o + j, none⟩) h2).trans h3, h4.below hb⟩
end Go.Proofs.Ytfoogbchajgepaa.S
