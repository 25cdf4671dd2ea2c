/-
  FstRest.
-/
import Derived.Test.YtkibkbbjpgomlaaDoorWqFstMem
namespace Go.Proofs.YtkibkbbjpgomlaaDoor.F
open Go.RowKit Go.Maps
open Aid
set_option linter.unusedSimpArgs false
set_option linter.unusedVariables false

theorem addr_add (g o j : Nat) : (⟨g, o, none⟩ : Addr).add j = ⟨g, o + j, none⟩ := by unfold Addr.add; split <;> simp_all
/-- blocks of w that O does not name are in w' as they were -/
structure Turn (O : Nat → Prop) (w w' : World) : Prop where
  size : w.heap.size ≤ w'.heap.size
  os : w'.os = w.os
  tape : w'.tape = w.tape
  output : w'.output = w.output
  kept : ∀ x, x < w.heap.size → ¬ O x → w'.heap[x]? = w.heap[x]?
theorem Turn.refl (O : Nat → Prop) (w : World) : Turn O w w := ⟨Nat.le_refl _, rfl, rfl, rfl, fun _ _ _ => rfl⟩
theorem Turn.of_below {O : Nat → Prop} {w w' : World} (h : Below w.heap.size w w') : Turn O w w' := ⟨h.size, h.os, h.tape, h.output, fun x hx _ => h.block x hx⟩
theorem Turn.cell {O : Nat → Prop} {w w' : World} (h : Turn O w w') {g : Nat} (hg : g < w.heap.size) (hO : ¬ O g) (j : Nat) : w'.cell? ⟨g, j, none⟩ = w.cell? ⟨g, j, none⟩ := by
  unfold World.cell?; simp only [h.kept g hg hO]
/-- a slice of integers with room, in blocks that O does not name -/
def IntsC (O : Nat → Prop) (w : World) (k : IntKind) (v : Value) (l : List Int) : Prop :=
  ∃ a cap, v = .slice a l.length cap ∧ l.length ≤ cap ∧ l.length ≤ 140737488355328 ∧ (l = [] → a = none → cap = 0) ∧
    ∀ j, j < l.length → ∃ g off, a = some ⟨g, off, none⟩ ∧ g < w.heap.size ∧ ¬ O g ∧ w.cell? ⟨g, off + j, none⟩ = some (.int k (l.getD j 0))
theorem IntsC.turn {O O' : Nat → Prop} {w w' : World} {k : IntKind} {v : Value} {l : List Int} (h : IntsC O w k v l) (ht : Turn O w w') (hO : ∀ x, x < w.heap.size → O' x → O x) : IntsC O' w' k v l := by
  obtain ⟨a, cap, rfl, h1, h2, h0, h3⟩ := h
  refine ⟨a, cap, rfl, h1, h2, h0, fun j hj => ?_⟩
  obtain ⟨g, off, e, hg, hn, hc⟩ := h3 j hj
  exact ⟨g, off, e, Nat.lt_of_lt_of_le hg ht.size, fun hx => hn (hO g hg hx), (ht.cell hg hn _).trans hc⟩
theorem IntsC.tail {O : Nat → Prop} {w : World} {k : IntKind} {a : Option Addr} {n cap : Nat} {c : Int} {r : List Int} (h : IntsC O w k (.slice a n cap) (c :: r)) :
    IntsC O w k (sliced a 1 n cap 1) r := by
  obtain ⟨a', cap', e, h1, h2, h0, h3⟩ := h
  simp only [Value.slice.injEq] at e
  obtain ⟨rfl, rfl, rfl⟩ := e
  rw [List.length_cons] at h1 h2
  obtain ⟨g, off, rfl, _⟩ := h3 0 (by simp)
  unfold sliced
  refine ⟨_, cap - 1, by rw [List.length_cons, Nat.add_sub_cancel], by omega, by omega, ?_, fun j hj => ?_⟩
  · intro _ hn; split at hn <;> cases hn
  · obtain ⟨g', off', e, hg, hn, hc⟩ := h3 (j + 1) (by simp; omega)
    simp only [Option.some.injEq, Addr.mk.injEq] at e
    obtain ⟨rfl, rfl, _⟩ := e
    refine ⟨g, off + 1, ?_, hg, hn, ?_⟩
    · rw [if_neg (by omega)]
      exact congrArg some (addr_add g off _)
    · rw [show off + 1 + j = off + (j + 1) by omega, hc]; rfl
theorem IntsC.ints {O : Nat → Prop} {w : World} {k : IntKind} {v : Value} {l : List Int} (h : IntsC O w k v l) : Ints w k v l := by
  obtain ⟨a, cap, rfl, h1, h2, h0, h3⟩ := h
  refine ⟨h2, ?_⟩
  cases l with
  | nil =>
    left
    refine ⟨rfl, ?_⟩
    cases a with
    | none => left; rw [h0 rfl rfl]; rfl
    | some a => right; exact ⟨a, cap, rfl⟩
  | cons c r =>
    right
    obtain ⟨g, off, rfl, hg, _, _⟩ := h3 0 (by simp)
    refine ⟨g, off, cap, rfl, hg, fun j hj => ?_⟩
    obtain ⟨g', off', e, _, _, hc⟩ := h3 j hj
    simp only [Option.some.injEq, Addr.mk.injEq] at e
    obtain ⟨rfl, rfl, _⟩ := e
    exact hc

/-- a rest: its runes, its weight, and where the runes lie -/
structure RS where
  r : List Int
  wt : Int
  u : Value
/-- a row of rests in blocks that O does not name -/
structure RestsAre (O : Nat → Prop) (w : World) (v : Value) (q : List RS) : Prop where
  form : ∃ a cap, v = .slice a q.length cap ∧ q.length ≤ cap ∧ ∀ j x, q[j]? = some x → ∃ g off, a = some ⟨g, off, none⟩ ∧ g < w.heap.size ∧ ¬ O g ∧ w.cell? ⟨g, off + j * 2, none⟩ = some x.u ∧ w.cell? ⟨g, off + j * 2 + 1, none⟩ = some (.int .i64 x.wt)
  runes : ∀ x ∈ q, IntsC O w .i32 x.u x.r
  len : q.length ≤ 4096
theorem RestsAre.turn {O O' : Nat → Prop} {w w' : World} {v : Value} {q : List RS} (h : RestsAre O w v q) (ht : Turn O w w') (hO : ∀ x, x < w.heap.size → O' x → O x) : RestsAre O' w' v q := by
  obtain ⟨⟨a, cap, rfl, h1, h3⟩, h4, h5⟩ := h
  refine ⟨⟨a, cap, rfl, h1, fun j x hj => ?_⟩, fun x hx => (h4 x hx).turn ht hO, h5⟩
  obtain ⟨g, off, e, hg, hn, hc, hd⟩ := h3 j x hj
  exact ⟨g, off, e, Nat.lt_of_lt_of_le hg ht.size, fun hx => hn (hO g hg hx), (ht.cell hg hn _).trans hc, (ht.cell hg hn _).trans hd⟩
theorem RestsAre.tail {O : Nat → Prop} {w : World} {a : Option Addr} {n cap : Nat} {x : RS} {q : List RS} (h : RestsAre O w (.slice a n cap) (x :: q)) :
    RestsAre O w (sliced a 1 n cap 2) q := by
  obtain ⟨⟨a', cap', e, h1, h3⟩, h4, h5⟩ := h
  simp only [Value.slice.injEq] at e
  obtain ⟨rfl, rfl, rfl⟩ := e
  rw [List.length_cons] at h1 h5
  obtain ⟨g, off, rfl, _⟩ := h3 0 x rfl
  unfold sliced
  refine ⟨⟨_, cap - 1, by rw [List.length_cons, Nat.add_sub_cancel], by omega, fun j y hj => ?_⟩, fun y hy => h4 y (List.mem_cons_of_mem _ hy), by omega⟩
  have hjl := (List.getElem?_eq_some_iff.1 hj).1
  obtain ⟨g', off', e, hg, hn, hc, hd⟩ := h3 (j + 1) y (by simpa using hj)
  simp only [Option.some.injEq, Addr.mk.injEq] at e
  obtain ⟨rfl, rfl, _⟩ := e
  refine ⟨g, off + 2, ?_, hg, hn, ?_, ?_⟩
  · rw [if_neg (by omega)]
    exact congrArg some (addr_add g off _)
  · rw [show off + 2 + j * 2 = off + (j + 1) * 2 by omega, hc]
  · rw [show off + 2 + j * 2 = off + (j + 1) * 2 by omega, hd]
theorem RestsAre.slice {O : Nat → Prop} {w : World} {v : Value} {q : List RS} (h : RestsAre O w v q) : ∃ a cap, v = .slice a q.length cap := by
  obtain ⟨⟨a, cap, rfl, _⟩, _⟩ := h; exact ⟨a, cap, rfl⟩
theorem RestsAre.at_ {O : Nat → Prop} {w : World} {a : Option Addr} {n cap : Nat} {q : List RS} (h : RestsAre O w (.slice a n cap) q) {j : Nat} {x : RS} (hx : q[j]? = some x) :
    ∃ g off, a = some ⟨g, off, none⟩ ∧ g < w.heap.size ∧ ¬ O g ∧ w.cell? ⟨g, off + j * 2, none⟩ = some x.u ∧ w.cell? ⟨g, off + j * 2 + 1, none⟩ = some (.int .i64 x.wt) := by
  obtain ⟨⟨a', cap', e, h1, h3⟩, h4, h5⟩ := h
  simp only [Value.slice.injEq] at e
  obtain ⟨rfl, rfl, rfl⟩ := e
  exact h3 j x hx

/-- the least weight of the first i and of n -/
def leastU (n : Int) (l : List Int) : Int := l.foldl (fun a b => if b < a then b else a) n
def leastF (l : List Int) : Int := leastU (l.headD 0) l
theorem leastU_snoc (n : Int) (l : List Int) (x : Int) : leastU n (l ++ [x]) = if x < leastU n l then x else leastU n l := by unfold leastU; rw [List.foldl_append]; rfl
theorem take_snoc {α : Type} {l : List α} {i : Nat} {x : α} (h : l[i]? = some x) : l.take (i + 1) = l.take i ++ [x] := by
  rw [List.take_add_one, h]; rfl
theorem two_cells {w : World} {g o : Nat} {a b : Value} (h0 : w.cell? ⟨g, o, none⟩ = some a) (h1 : w.cell? ⟨g, o + 1, none⟩ = some b) : ∀ j (hj : j < (#[a, b] : Array Value).size), w.cell? ⟨g, o + j, none⟩ = some (#[a, b] : Array Value)[j]
  | 0, _ => h0
  | 1, _ => h1
set_option maxRecDepth 100000 in
set_option maxHeartbeats 2000000 in
theorem least_any (O : Nat → Prop) (v : Value) (q : List RS) (w : World) (h : RestsAre O w v q) (hne : q ≠ []) : Calls Tryd.prog 15 #[v] w fun e w' => e = .returned (.int .i64 (leastF (q.map (·.wt)))) ∧ Below w.heap.size w w' := by
  have hlen := h.len
  have hpos : 0 < q.length := by cases q with | nil => exact absurd rfl hne | cons => simp
  obtain ⟨av, cv, rfl⟩ := h.slice
  obtain ⟨x0, hx0⟩ : ∃ x, q[0]? = some x := ⟨_, List.getElem?_eq_getElem hpos⟩
  obtain ⟨g0, off, rfl, hg0, _, k0, k1⟩ := h.at_ hx0
  have hhead : (q.map (·.wt)).headD 0 = x0.wt := by cases q with | nil => exact absurd rfl hne | cons y q => simp at hx0; subst hx0; rfl
  obtain ⟨M, hM⟩ : ∃ M, x0.wt = M := ⟨_, rfl⟩
  rw [hM] at k1 hhead
  have i1 : (0 : Int) < (q.length : Int) := by omega
  go_enter Tryd.func15, Tryd.ntmps15
  go_wp2_with fail
  go_loopw [3, 12] (fun x3 x12 wr => ∃ i : Nat, x12 = .int .i64 i ∧ i ≤ q.length ∧ x3 = .int .i64 (leastU M ((q.map (·.wt)).take i)) ∧ Below w.heap.size w wr) (fun _ x12 _ => q.length - (intOf x12).toNat)
  case atStart => exact ⟨0, rfl, Nat.zero_le _, rfl, Below.refl _ _⟩
  case round =>
    obtain ⟨i, rfl, hi, rfl, hb⟩ := hrel
    by_cases hlt : (i : Int) < (q.length : Int)
    · have hiq : i < q.length := by omega
      obtain ⟨x, hx⟩ : ∃ x, q[i]? = some x := ⟨_, List.getElem?_eq_getElem hiq⟩
      obtain ⟨g, off', e, hg, _, c0, c1⟩ := h.at_ hx
      simp only [Option.some.injEq, Addr.mk.injEq] at e
      obtain ⟨rfl, rfl, _⟩ := e
      obtain ⟨y, hy⟩ : ∃ y, x.wt = y := ⟨_, rfl⟩
      rw [hy] at c1
      have hts := take_snoc (l := q.map (·.wt)) (i := i) (x := y) (by rw [List.getElem?_map, hx, ← hy]; rfl)
      obtain ⟨N, hN⟩ : ∃ N, leastU M ((q.map (·.wt)).take i) = N := ⟨_, rfl⟩
      have hnx : leastU M ((q.map (·.wt)).take (i + 1)) = if y < N then y else N := by rw [hts, leastU_snoc, hN]
      rw [hN]
      have HNX := Lib.hid hnx
      have HB := Lib.hid hb
      have d0 := (hb.cell (p := ⟨g0, off + i * 2, none⟩) hg0).trans c0
      have d1 := (hb.cell (p := ⟨g0, off + i * 2 + 1, none⟩) hg0).trans c1
      obtain ⟨ua, uc, hu, _⟩ := h.runes x (List.mem_of_getElem? hx)
      rw [hu] at d0
      have hcs := two_cells d0 d1
      have i0 : (0 : Int) ≤ (i : Int) := by omega
      clear hts hnx hb hN hy c0 c1
      go_wp2_with fail
      refine ⟨⟨i + 1, by first | rfl | congr 1, by omega, by rw [HNX.out], HB.out.alloc HB.out.size _⟩, ?_⟩
      simp [intOf]; omega
    · have hie : i = q.length := by omega
      subst hie
      rw [List.take_of_length_le (by simp)]
      have HB := Lib.hid hb
      have HH := Lib.hid hhead
      clear hb hhead
      go_wp2_with fail
      go_ret
      refine ⟨?_, HB.out⟩
      unfold leastF
      rw [HH.out]
      rfl
end Go.Proofs.YtkibkbbjpgomlaaDoor.F
