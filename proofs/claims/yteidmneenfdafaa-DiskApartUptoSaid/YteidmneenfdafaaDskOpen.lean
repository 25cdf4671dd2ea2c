/-
  Calls on a disk that came in: a slice of structs, each with a slice of bytes.
-/
import Derived.Test.YteidmneenfdafaaDskSt
import Derived.Test.YteidmneenfdafaaShut
import Derived.Lib.SmallJoins
import Derived.Deep.Slices
namespace Go.Proofs.Yteidmneenfdafaa.K
open Go.ChangeShapes Go.WideShapes Go.ChangeAt Go.RowKit
open Aid
set_option linter.unusedSimpArgs false
set_option linter.unusedVariables false

structure OpR where
  k : Int
  a : Int
  n : Int
  v : Value
  l : List Int
instance : Inhabited OpR := ⟨⟨0, 0, 0, .slice none 0 0, []⟩⟩
structure OpOk (w : World) (x : OpR) : Prop where
  ints : Ints w .u8 x.v x.l
  bytes : ∀ y ∈ x.l, 0 ≤ y ∧ y ≤ 255
  wk : (Lit.int .i64 x.k).wf = true
  wa : (Lit.int .u64 x.a).wf = true
  wn : (Lit.int .i64 x.n).wf = true
  lt : ∀ b o n c, x.v = .slice (some ⟨b, o, none⟩) n c → b < w.heap.size ∨ n = 0
def OpsAre (w : World) (v : Value) (n : Nat) (f : Nat → OpR) : Prop := n ≤ 2932031007317 ∧ ∃ a cap, v = .slice a n cap ∧ ∀ j, j < n → ∃ b o, a = some ⟨b, o, none⟩ ∧ b < w.heap.size ∧
  w.cell? ⟨b, o + j * 4, none⟩ = some (.int .i64 (f j).k) ∧ w.cell? ⟨b, o + j * 4 + 1, none⟩ = some (.int .u64 (f j).a) ∧ w.cell? ⟨b, o + j * 4 + 2, none⟩ = some (.int .i64 (f j).n) ∧ w.cell? ⟨b, o + j * 4 + 3, none⟩ = some (f j).v ∧ OpOk w (f j)

theorem weights_all_mem {H : Type} {P : Program} {e : TypeId} {x : Nat} {d : DataW H} : ∀ {l : List (DataW H)}, d ∈ l → x ∈ d.weights P e → x ∈ DataW.weightsAll P e l
  | [], h, _ => by cases h
  | y :: l, h, hx => by
    simp only [DataW.weightsAll, List.mem_append]
    rcases List.mem_cons.1 h with rfl | h
    · exact .inl hx
    · exact .inr (weights_all_mem h hx)
/-- a slice of integers in one cell -/
theorem trod_ints {H : Type} {enc : TypeId × Value → H} {P : Program} {W : World} {t e : TypeId} {k : IntKind} {u : Value} {d : DataW H} {p : List MemPlace} {fuel : Nat}
    (ht : P.underlying t = some (.slice e)) (he : P.underlying e = some (.int k)) (hc : P.cellsOf e = 1) (hf : DataW.trod enc P W 0 (fun _ => true) true fuel t [u] = some (d, p))
    (hlt : ∀ x ∈ p, x.block < W.heap.size) (hsize : ∀ elems spare, d = .slice elems spare → elems.length + spare.length ≤ 140737488355328) :
    ∃ l, Ints W k u l ∧ (∀ x ∈ l, (Lit.int k x).wf = true) := by
  rcases open_ints ht he hc hf with ⟨hcs, hx⟩ | ⟨a, len', cap', zs, hcs, hab, hl, hm, hz, hx, hcell, hwz⟩
  · simp at hcs
    subst hcs
    exact ⟨[], Ints.nil _ _, by simp⟩
  · simp at hcs
    subst hcs
    simp only [Prod.mk.injEq] at hx
    simp only [if_true] at hz
    have h1 := hsize _ _ (by rw [hx.1])
    simp only [lits, List.length_map, List.length_take, List.length_drop] at h1
    refine ⟨zs.take len', ?_, fun x hx => hwz x (List.mem_of_mem_take hx)⟩
    by_cases h0 : len' = 0
    · subst h0
      exact ⟨by simp, .inl ⟨by simp, .inr ⟨a, cap', rfl⟩⟩⟩
    · have hlz : len' ≤ zs.length := by omega
      obtain ⟨b, off, rfl, hc'⟩ := ints_at hcell (by omega)
      have hlen : (zs.take len').length = len' := by simp [hlz]
      refine ⟨by omega, .inr ⟨b, off, cap', by rw [hlen], ?_, ?_⟩⟩
      · refine hlt (.cell b off) ?_
        rw [hx.2]
        exact MemPlace.mem_row.2 ⟨0, by omega, by simp⟩
      · intro j hj
        rw [hlen] at hj
        have := hc' j (by omega)
        rw [this]
        simp only [List.getD_eq_getElem?_getD, List.getElem?_take]
        rw [if_pos hj]
theorem OpsAre.arg {H : Type} {enc : TypeId × Value → H} {P : Program} {W : World} {b0 : Nat} {t e u : TypeId} {f0 f1 f2 f3 : Field} {v : Value} {d : DataW H} {p : List MemPlace} {r : Reach}
    (ht : P.underlying t = some (.slice e)) (hs : P.underlying e = some (.struct #[f0, f1, f2, f3])) (hC : P.cellsOf e = 4) (o0 : f0.offset = 0) (o1 : f1.offset = 1) (o2 : f2.offset = 2) (o3 : f3.offset = 3)
    (c0 : P.cellsOf f0.type = 1) (c1 : P.cellsOf f1.type = 1) (c2 : P.cellsOf f2.type = 1) (c3 : P.cellsOf f3.type = 1)
    (h0 : P.underlying f0.type = some (.int .i64)) (h1 : P.underlying f1.type = some (.int .u64)) (h2 : P.underlying f2.type = some (.int .i64)) (h3 : P.underlying f3.type = some (.slice u)) (hu : P.underlying u = some (.int .u8)) (hcu : P.cellsOf u = 1)
    (hbe : P.bytesOf e = 48) (hbu : P.bytesOf u = 1) (hval : Value.okWide P W r b0 t v)
    (h : DataW.Trod enc P W 0 (fun _ => true) true t v d p) (hlt : ∀ x ∈ p, x.block < W.heap.size) (hsize : ∀ x ∈ d.weights P t, x ≤ reachBytes) : ∃ n f, OpsAre W v n f := by
  obtain ⟨a0, len, cap, rfl⟩ : ∃ a l c, v = .slice a l c := okWide_slice ht hval
  obtain ⟨fuel, hf⟩ := h
  rcases Go.Deep.open_slice ht hf with ⟨hcs, hx⟩ | ⟨a', len', cap', m, n, D, Pl, hcs, hab, hl, hm, hmm, hx, hel⟩
  · simp [Value.cells] at hcs
    obtain ⟨rfl, rfl, rfl⟩ := hcs
    exact ⟨0, fun _ => default, by omega, none, 0, rfl, fun k hk => by omega⟩
  · simp [Value.cells] at hcs
    obtain ⟨rfl, rfl, rfl⟩ := hcs
    simp only [if_true] at hmm
    subst hmm
    simp only [Prod.mk.injEq] at hx
    obtain ⟨hd, hp⟩ := hx
    have hn : len * 48 ≤ reachBytes := by
      have := hsize ((((List.range len).map D).length + ((List.range (m - len)).map fun j => D (len + j)).length) * P.bytesOf e) (by rw [hd]; simp [DataW.weights, ht])
      simp only [List.length_map, List.length_range] at this
      rw [hbe] at this
      omega
    have hrb : reachBytes = 140737488351232 := rfl
    have hrd : ∀ j, ∃ (x : OpR), j < len → W.cell? (a'.add (j * 4)) = some (.int .i64 x.k) ∧ W.cell? (a'.add (j * 4 + 1)) = some (.int .u64 x.a) ∧ W.cell? (a'.add (j * 4 + 2)) = some (.int .i64 x.n) ∧ W.cell? (a'.add (j * 4 + 3)) = some x.v ∧ OpOk W x := by
      intro j
      by_cases hk : j < len
      · obtain ⟨cs, hcs, htr⟩ := hel j (by omega)
        rw [hC] at hcs
        obtain ⟨y0, y1, y2, y3, q, hy, hlen, g0, g1, g2, g3⟩ := Go.Joins.trod_struct4 hs htr
        rw [hC] at hlen
        rw [o0, c0] at g0
        rw [o1, c1] at g1
        rw [o2, c2] at g2
        rw [o3, c3] at g3
        obtain ⟨x, e0, _, w0⟩ := DataW.trod_int h0 g0
        obtain ⟨y, e1, _, w1⟩ := DataW.trod_int h1 g1
        obtain ⟨z, e2, _, w2⟩ := DataW.trod_int h2 g2
        obtain ⟨q0, q1, q2, q3, rfl⟩ : ∃ q0 q1 q2 q3, cs = [q0, q1, q2, q3] := by
          match cs, hlen with
          | [q0, q1, q2, q3], _ => exact ⟨q0, q1, q2, q3, rfl⟩
        simp at e0 e1 e2
        subst e0 e1 e2
        simp only [List.drop_succ_cons, List.drop_zero, List.take_succ_cons, List.take_zero] at g3
        simp only [Prod.mk.injEq] at hy
        obtain ⟨hy1, hy2⟩ := hy
        have hDm : D j ∈ (List.range len).map D := List.mem_map.2 ⟨j, List.mem_range.2 hk, rfl⟩
        obtain ⟨yd, yp⟩ := y3
        have hp3 : ∀ x ∈ yp, x.block < W.heap.size := fun x hx => hlt x (by
          rw [hp]
          refine List.mem_append_right _ (List.mem_flatMap.2 ⟨j, List.mem_range.2 (by omega), ?_⟩)
          rw [hy2]
          simp [hx])
        obtain ⟨l, hI, hw⟩ := trod_ints h3 hu hcu g3 hp3 (fun elems spare hh => by
          have hh' : yd = .slice elems spare := hh
          have h5 : (elems.length + spare.length) * P.bytesOf u ∈ (D j).weights P e := by
            rw [hy1, hh']
            simp [DataW.weights, DataW.weightsEach, hs, h3]
          have h6 := hsize _ (by
            rw [hd]
            simp only [DataW.weights, ht]
            exact List.mem_cons_of_mem _ (List.mem_append_left _ (weights_all_mem hDm h5)))
          rw [hbu] at h6
          omega)
        have hh := (World.cells?_some hcs).2.2
        have j0 := hh 0 (by omega)
        have j1 := hh 1 (by omega)
        have j2 := hh 2 (by omega)
        have j3 := hh 3 (by omega)
        rw [Addr.add_add] at j0 j1 j2 j3
        refine ⟨⟨x, y, z, q3, l⟩, fun _ => ⟨by simpa using j0, by simpa using j1, by simpa using j2, by simpa using j3, hI, fun y hy => ?_, w0, w1, w2, fun b o n c hv => ?_⟩⟩
        · have := hw y hy
          simp [Lit.wf, IntKind.min, IntKind.max, IntKind.signed, IntKind.bits] at this
          omega
        · simp only at hv
          subst hv
          obtain ⟨_, ⟨_, hq⟩ | ⟨b', o', c', hq, hb', _⟩⟩ := hI
          · right
            rcases hq with hq | ⟨_, _, hq⟩ <;> simp at hq
            exact hq.2.1
          · left
            simp at hq
            obtain ⟨⟨rfl, rfl⟩, _⟩ := hq
            exact hb'
      · exact ⟨default, fun h => absurd h hk⟩
    obtain ⟨f, hc⟩ : ∃ f : Nat → OpR, ∀ j, j < len → W.cell? (a'.add (j * 4)) = some (.int .i64 (f j).k) ∧ W.cell? (a'.add (j * 4 + 1)) = some (.int .u64 (f j).a) ∧ W.cell? (a'.add (j * 4 + 2)) = some (.int .i64 (f j).n) ∧ W.cell? (a'.add (j * 4 + 3)) = some (f j).v ∧ OpOk W (f j) :=
      ⟨fun k => (hrd k).choose, fun k => (hrd k).choose_spec⟩
    refine ⟨len, f, by omega, some a', _, rfl, fun k hk => ?_⟩
    obtain ⟨b, off, spot⟩ := a'
    obtain ⟨i0, i1, i2, i3, i4⟩ := hc k hk
    have hspot : spot = none := by
      have := (hc 0 (by omega)).1
      simpa [Addr.add] using World.cell?_spot this
    subst hspot
    have add : ∀ j, (⟨b, off, none⟩ : Addr).add j = ⟨b, off + j, none⟩ := fun j => by unfold Addr.add; split <;> simp_all
    rw [add] at i0 i1 i2 i3
    exact ⟨b, off, rfl, World.block_lt_of_cell? W _ i0, i0, by rw [Nat.add_assoc]; exact i1, by rw [Nat.add_assoc]; exact i2, by rw [Nat.add_assoc]; exact i3, i4⟩
theorem OpOk.below {w w' : World} {x : OpR} (h : OpOk w x) (hb : Below w.heap.size w w') : OpOk w' x :=
  ⟨h.ints.below hb, h.bytes, h.wk, h.wa, h.wn, fun b o n c e => by have := hb.size; rcases h.lt b o n c e with h | h; left; omega; exact .inr h⟩
theorem OpsAre.below {w w' : World} {v : Value} {n : Nat} {f : Nat → OpR} (h : OpsAre w v n f) (hb : Below w.heap.size w w') : OpsAre w' v n f := by
  obtain ⟨h0, a, cap, hv, h⟩ := h
  refine ⟨h0, a, cap, hv, fun j hj => ?_⟩
  obtain ⟨b, o, h1, h2, h3, h4, h5, h6, h7⟩ := h j hj
  exact ⟨b, o, h1, by have := hb.size; omega, (hb.cell (p := ⟨b, o + j * 4, none⟩) h2).trans h3, (hb.cell (p := ⟨b, o + j * 4 + 1, none⟩) h2).trans h4, (hb.cell (p := ⟨b, o + j * 4 + 2, none⟩) h2).trans h5, (hb.cell (p := ⟨b, o + j * 4 + 3, none⟩) h2).trans h6, h7.below hb⟩
end Go.Proofs.Yteidmneenfdafaa.K
