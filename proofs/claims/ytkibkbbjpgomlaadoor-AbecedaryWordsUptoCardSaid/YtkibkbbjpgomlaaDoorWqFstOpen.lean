/-
  FstOpen.
-/
import Derived.Test.YtkibkbbjpgomlaaDoorWqFstMach
import Derived.Test.YtkibkbbjpgomlaaDoorWqA
import Derived.Deep.Slices
namespace Go.Proofs.YtkibkbbjpgomlaaDoor.F
open Go.ChangeShapes Go.WideShapes Go.ChangeAt Go.RowKit
open Aid L LM
set_option linter.unusedSimpArgs false
set_option linter.unusedVariables false

theorem bulk_mem {H : Type} {d : DataW H} : ∀ {l : List (DataW H)}, d ∈ l → Rows.uptoBulk d ≤ Rows.uptoBulkAll l
  | [], h => by cases h
  | y :: l, h => by
    simp only [Rows.uptoBulkAll]
    rcases List.mem_cons.1 h with rfl | h
    · omega
    · have := bulk_mem h; omega
theorem PairsIn.arg {H : Type} {enc : TypeId × Value → H} {P : Program} {W : World} {b0 : Nat} {t e : TypeId} {f0 f1 : Field} {v : Value} {d : DataW H} {p : List MemPlace} {r : Reach}
    (ht : P.underlying t = some (.slice e)) (hs : P.underlying e = some (.struct #[f0, f1])) (hC : P.cellsOf e = 2) (o0 : f0.offset = 0) (o1 : f1.offset = 1)
    (c0 : P.cellsOf f0.type = 1) (c1 : P.cellsOf f1.type = 1) (h0 : P.underlying f0.type = some .string) (h1 : P.underlying f1.type = some (.int .i64))
    (hbe : P.bytesOf e = 24) (hval : Value.okWide P W r b0 t v)
    (h : DataW.Trod enc P W 0 (fun _ => true) true t v d p) (hlt : ∀ x ∈ p, x.block < W.heap.size) (hsize : ∀ x ∈ d.weights P t, x ≤ reachBytes) (hbulk : Rows.uptoBulk d ≤ 1048576) : ∃ l, PairsIn W v l := by
  obtain ⟨a0, len, cap, rfl⟩ : ∃ a l c, v = .slice a l c := okWide_slice ht hval
  obtain ⟨fuel, hf⟩ := h
  rcases Go.Deep.open_slice ht hf with ⟨hcs, hx⟩ | ⟨a', len', cap', m, n, D, Pl, hcs, hab, hl, hm, hmm, hx, hel⟩
  · simp [Value.cells] at hcs
    obtain ⟨rfl, rfl, rfl⟩ := hcs
    exact ⟨[], none, 0, rfl, by simp, by simp, by simp, fun j x hj => by simp at hj⟩
  · simp [Value.cells] at hcs
    obtain ⟨rfl, rfl, rfl⟩ := hcs
    simp only [if_true] at hmm
    subst hmm
    simp only [Prod.mk.injEq] at hx
    obtain ⟨hd, hp⟩ := hx
    have hn : len * 24 ≤ reachBytes := by
      have := hsize ((((List.range len).map D).length + ((List.range (m - len)).map fun j => D (len + j)).length) * P.bytesOf e) (by rw [hd]; simp [DataW.weights, ht])
      simp only [List.length_map, List.length_range] at this
      rw [hbe] at this
      omega
    have hrb : reachBytes = 140737488351232 := rfl
    have hrd : ∀ j, ∃ (x : Wd), j < len → W.cell? (a'.add (j * 2)) = some (.string x.1) ∧ W.cell? (a'.add (j * 2 + 1)) = some (.int .i64 x.2) ∧ ((x.1.size : Int) ≤ 35184372088832 ∧ i64 x.2) := by
      intro j
      by_cases hk : j < len
      · obtain ⟨cs, hcs, htr⟩ := hel j (by omega)
        rw [hC] at hcs
        obtain ⟨y0, y1, q, hy, hlen, g0, g1⟩ := trod_struct2 hs htr
        rw [hC] at hlen
        rw [o0, c0] at g0
        rw [o1, c1] at g1
        obtain ⟨s, e0, d0, w0⟩ := DataW.trod_string h0 g0
        obtain ⟨x, e1, d1, w1⟩ := DataW.trod_int h1 g1
        obtain ⟨q0, q1, rfl⟩ : ∃ q0 q1, cs = [q0, q1] := by
          match cs, hlen with
          | [q0, q1], _ => exact ⟨q0, q1, rfl⟩
        simp at e0 e1
        subst e0 e1
        have hh := (World.cells?_some hcs).2.2
        have j0 := hh 0 (by omega)
        have j1 := hh 1 (by omega)
        rw [Addr.add_add] at j0 j1
        refine ⟨(s, x), fun _ => ⟨by simpa using j0, by simpa using j1, ?_, w1⟩⟩
        have hDm : D j ∈ (List.range len).map D := List.mem_map.2 ⟨j, List.mem_range.2 hk, rfl⟩
        have hb1 := bulk_mem hDm
        rw [hd] at hbulk
        simp only [Rows.uptoBulk] at hbulk
        simp only [Prod.mk.injEq] at hy
        obtain ⟨hy1, _⟩ := hy
        rw [hy1, d0] at hb1
        simp only [Rows.uptoBulk, Rows.uptoBulkAll] at hb1
        have hzs : s.data.toList.length = s.size := by rw [Array.length_toList]; rfl
        show (s.size : Int) ≤ _
        omega
      · exact ⟨(⟨#[]⟩, 0), fun h => absurd h hk⟩
    obtain ⟨f, hc⟩ : ∃ f : Nat → Wd, ∀ j, j < len → W.cell? (a'.add (j * 2)) = some (.string (f j).1) ∧ W.cell? (a'.add (j * 2 + 1)) = some (.int .i64 (f j).2) ∧ (((f j).1.size : Int) ≤ 35184372088832 ∧ i64 (f j).2) :=
      ⟨fun k => (hrd k).choose, fun k => (hrd k).choose_spec⟩
    refine ⟨(List.range len).map f, some a', m, by simp, by simp; omega, by simpa using hl, ?_, fun j x hj => ?_⟩
    · intro x hx
      obtain ⟨j, hj, rfl⟩ := List.mem_map.1 hx
      exact (hc j (List.mem_range.1 hj)).2.2
    · have hk : j < len := by have := (List.getElem?_eq_some_iff.1 hj).1; simpa using this
      obtain rfl : f j = x := by
        rw [List.getElem?_map, List.getElem?_range hk] at hj
        simpa using hj
      obtain ⟨b, off, spot⟩ := a'
      obtain ⟨i0, i1, _⟩ := hc j hk
      have hspot : spot = none := by
        have := (hc 0 (by omega)).1
        simpa [Addr.add] using World.cell?_spot this
      subst hspot
      have add : ∀ j, (⟨b, off, none⟩ : Addr).add j = ⟨b, off + j, none⟩ := fun j => by unfold Addr.add; split <;> simp_all
      rw [add] at i0 i1
      exact ⟨b, off, rfl, World.block_lt_of_cell? W _ i0, i0, by rw [Nat.add_assoc]; exact i1⟩
end Go.Proofs.YtkibkbbjpgomlaaDoor.F
