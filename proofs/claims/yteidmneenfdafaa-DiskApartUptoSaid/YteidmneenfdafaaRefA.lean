/-
  RefAt + RefPut + RefSt + RefWhole.
-/
import Derived.Test.YteidmneenfdafaaDskSt
import Derived.Test.YteidmneenfdafaaAidC
import Derived.Deep.AppendLies
import Derived.Laws.ResultCell
import Derived.Test.YteidmneenfdafaaDskGood
namespace Go.Proofs.Yteidmneenfdafaa.R
open Go.RowKit
open Aid K
set_option linter.unusedSimpArgs false
set_option linter.unusedVariables false

structure RSec where
  area : Int
  n : Int
  L : List ByteArray
  sync : Bool
structure RSt where
  room : Int
  steps : Int
  left : Int
  armed : Bool
  dead : Bool
  l : List RSec
def secR (s : RSec) (u : Value) : Array Value := #[.int .u64 s.area, .int .i64 s.n, u, .bool s.sync]
def diskR (r : RSt) (v : Value) : Array Value := #[.int .i64 r.room, .int .i64 r.steps, .int .i64 r.left, .bool r.armed, .bool r.dead, v]
def rowR (q : List (RSec × Value)) : List Value := q.flatMap fun x => (secR x.1 x.2).toList
/-- versions that nobody turns -/
def SecIs (w : World) (x : RSec × Value) : Prop := Vers (fun _ => True) w x.2 x.1.L ∧ x.1.L ≠ []
theorem SecIs.below {w w' : World} {x : RSec × Value} (h : SecIs w x) (hb : Below w.heap.size w w') : SecIs w' x := ⟨h.1.keep (O' := fun _ => False) (Keeps.of_below hb) (fun _ _ h => h), h.2⟩
/-- a row of sectors -/
structure RowIs (w : World) (v : Value) (q : List (RSec × Value)) : Prop where
  form : (q = [] ∧ v = .slice none 0 0) ∨ ∃ g cap, v = .slice (some ⟨g, 0, none⟩) q.length cap ∧ g < w.heap.size ∧ ∀ j x, (rowR q)[j]? = some x → w.cell? ⟨g, j, none⟩ = some x
  secs : ∀ x ∈ q, SecIs w x
  len : q.length ≤ 2932031007390
theorem RowIs.below {w w' : World} {v : Value} {q : List (RSec × Value)} (h : RowIs w v q) (hb : Below w.heap.size w w') : RowIs w' v q := by
  refine ⟨?_, fun x hx => (h.secs x hx).below hb, h.len⟩
  rcases h.form with h | ⟨g, cap, h1, h2, h3⟩
  · exact .inl h
  · exact .inr ⟨g, cap, h1, by have := hb.size; omega, fun j x hx => (hb.cell (p := ⟨g, j, none⟩) h2).trans (h3 j x hx)⟩
theorem RowIs.slice {w : World} {v : Value} {q : List (RSec × Value)} (h : RowIs w v q) : ∃ a cap, v = .slice a q.length cap := by
  rcases h.form with ⟨rfl, rfl⟩ | ⟨g, cap, h1, _⟩
  · exact ⟨_, _, rfl⟩
  · exact ⟨_, _, h1⟩
theorem rowR_length (q : List (RSec × Value)) : (rowR q).length = q.length * 4 := by
  induction q with
  | nil => rfl
  | cons x q ih =>
    unfold rowR at ih ⊢
    rw [List.flatMap_cons, List.length_append, ih, List.length_cons]
    show 4 + _ = _
    omega
theorem rowR_at : ∀ (q : List (RSec × Value)) (j i : Nat), i < 4 → (rowR q)[4 * j + i]? = (q[j]?).bind fun x => (secR x.1 x.2)[i]?
  | [], j, i, h => by simp [rowR]
  | x :: q, 0, i, h => by
    unfold rowR
    rw [List.flatMap_cons, List.getElem?_append_left (by show _ < 4; omega)]
    simp
  | x :: q, j + 1, i, h => by
    have := rowR_at q j i h
    unfold rowR at this ⊢
    rw [List.flatMap_cons, List.getElem?_append_right (by show 4 ≤ _; omega)]
    rw [show 4 * (j + 1) + i - (secR x.1 x.2).toList.length = 4 * j + i by show _ - 4 = _; omega, this, List.getElem?_cons_succ]
/-- the cells of one of them -/
theorem RowIs.at_ {w : World} {a : Option Addr} {n cap : Nat} {q : List (RSec × Value)} (h : RowIs w (.slice a n cap) q) {j : Nat} {x : RSec × Value} (hx : q[j]? = some x) :
    ∃ g, a = some ⟨g, 0, none⟩ ∧ g < w.heap.size ∧ w.cell? ⟨g, j * 4, none⟩ = some (.int .u64 x.1.area) ∧ w.cell? ⟨g, j * 4 + 1, none⟩ = some (.int .i64 x.1.n) ∧ w.cell? ⟨g, j * 4 + 2, none⟩ = some x.2 ∧ w.cell? ⟨g, j * 4 + 3, none⟩ = some (.bool x.1.sync) := by
  rcases h.form with ⟨rfl, _⟩ | ⟨g, cap', h1, h2, h3⟩
  · cases hx
  · simp only [Value.slice.injEq] at h1
    rw [Nat.mul_comm j 4]
    refine ⟨g, h1.1, h2, h3 _ _ ?_, h3 _ _ ?_, h3 _ _ ?_, h3 _ _ ?_⟩
    · rw [show 4 * j = 4 * j + 0 by rfl, rowR_at q j 0 (by omega), hx]; rfl
    · rw [rowR_at q j 1 (by omega), hx]; rfl
    · rw [rowR_at q j 2 (by omega), hx]; rfl
    · rw [rowR_at q j 3 (by omega), hx]; rfl
/-- a disk -/
def RDisk (w : World) (v : Value) (r : RSt) (q : List (RSec × Value)) : Prop := RowIs w v q ∧ q.map (·.1) = r.l

theorem results_cellT {P : Program} {fn : Func} {p u : Tmp} {ty : TypeId} (h : fn.results = #[.cell p ty, .tmp u]) (tmps : Array Value) (w : World) (g : Nat) (hp : tmps.getD p undef = .pointer (some ⟨g, 0, none⟩)) (b : Value) (hu2 : tmps.getD u undef = b)
    (T : TypeId) (vs : Array Value) (hb : Blk w g T vs) (d : TypeDesc) (hu : P.underlying ty = some d) (hd : aggD d = true) (hi : (P.info? ty).map (·.size) = some vs.size) :
    (results fn tmps).run P w = .ok (.tuple #[.agg vs, b]) w := by
  rw [results_cell_tmp h, hu2]
  rw [hp]
  simp [asAddr, Result.andThen, run_loadVar_cells w ty d hu hd g 0 vs hi hb.cells]
theorem two_blk (w : World) (o : Obj) (cs : Array Value) (t : TypeId) : Blk ((w.alloc o).alloc (.cells cs t)) (w.heap.size + 1) t cs := by
  have e : (w.alloc o).heap.size = w.heap.size + 1 := by simp
  rw [← e]; exact Blk.alloc_new _ _ _
theorem two_under (w : World) (o p : Obj) : Below w.heap.size w ((w.alloc o).alloc p) := ((Below.refl _ _).alloc (Nat.le_refl _) _).alloc (by simp) _
theorem size_disk : (Try.prog.info? 40).map (·.size) = some 6 := by kernel_rfl
def diesR (r : RSt) : Bool := r.armed && decide (r.left = 0)
def stepR (r : RSt) : RSt := { r with steps := r.steps + 1, dead := r.dead || diesR r, left := if r.armed = true ∧ r.left ≠ 0 then r.left - 1 else r.left }
set_option maxRecDepth 100000 in
theorem rstep_any (r : RSt) (va : Option Addr) (vn vc : Nat) (w : World) (hs : 0 ≤ r.steps ∧ r.steps ≤ 4611686018427387904) (hl : r.armed = true → 0 ≤ r.left) (hl2 : r.left ≤ 9223372036854775807) :
    Calls Try.prog 49 #[.agg (diskR r (.slice va vn vc))] w fun e w' => e = .returned (.tuple #[.agg (diskR (stepR r) (.slice va vn vc)), .bool (diesR r)]) ∧ Below w.heap.size w w' := by
  obtain ⟨room, steps, left, armed, dead, l⟩ := r
  dsimp only at hs hl hl2
  have W1 : wrap64 (steps + 1) = steps + 1 := IntWalk.wrap64_in _ (by omega)
  cases armed
  · have H1 : stepR ⟨room, steps, left, false, dead, l⟩ = ⟨room, steps + 1, left, false, dead, l⟩ := by simp [stepR, diesR]
    have H2 : diesR ⟨room, steps, left, false, dead, l⟩ = false := by rfl
    rw [H1, H2]
    clear H1 H2
    unfold diskR
    dsimp only
    go_enter Try.func49, Try.ntmps49
    go_wp2_with fail
    refine bodyPost_ret (results_cellT rfl _ _ (w.heap.size + 1) rfl _ rfl _ _ (two_blk _ _ _ _) _ Try.underlying40 rfl size_disk) rfl ?_
    exact ⟨rfl, two_under _ _ _⟩
  · have hl0 := hl rfl
    have W2 : wrap64 (left - 1) = left - 1 := IntWalk.wrap64_in _ (by omega)
    by_cases h0 : left = 0
    · subst h0
      have H1 : stepR ⟨room, steps, 0, true, dead, l⟩ = ⟨room, steps + 1, 0, true, true, l⟩ := by simp [stepR, diesR]
      have H2 : diesR ⟨room, steps, 0, true, dead, l⟩ = true := by rfl
      rw [H1, H2]
      clear H1 H2
      unfold diskR
      dsimp only
      go_enter Try.func49, Try.ntmps49
      go_wp2_with fail
      refine bodyPost_ret (results_cellT rfl _ _ (w.heap.size + 1) rfl _ rfl _ _ (two_blk _ _ _ _) _ Try.underlying40 rfl size_disk) rfl ?_
      exact ⟨rfl, two_under _ _ _⟩
    · have H1 : stepR ⟨room, steps, left, true, dead, l⟩ = ⟨room, steps + 1, left - 1, true, dead, l⟩ := by simp [stepR, diesR, h0]
      have H2 : diesR ⟨room, steps, left, true, dead, l⟩ = false := by simp [diesR, h0]
      rw [H1, H2]
      clear H1 H2
      unfold diskR
      dsimp only
      go_enter Try.func49, Try.ntmps49
      go_wp2_with fail
      refine bodyPost_ret (results_cellT rfl _ _ (w.heap.size + 1) rfl _ rfl _ _ (two_blk _ _ _ _) _ Try.underlying40 rfl size_disk) rfl ?_
      exact ⟨rfl, two_under _ _ _⟩
set_option maxRecDepth 100000 in
theorem rlast_any (s : RSec) (u : Value) (w : World) (h : SecIs w (s, u)) : Calls Try.prog 36 #[.agg (secR s u)] w fun e w' => e = .returned (.string (s.L.getLastD ByteArray.empty)) ∧ Below w.heap.size w w' := by
  obtain ⟨⟨h63, av, cv, hu, hlc, hnil, hcell⟩, hne⟩ := h
  dsimp only at hu hne h63 hlc hnil hcell
  subst hu
  obtain ⟨area, n, L, sync⟩ := s
  dsimp only at hne h63 hlc hnil hcell ⊢
  unfold secR
  dsimp only
  obtain ⟨k, hk⟩ : ∃ k, L.length - 1 = k := ⟨_, rfl⟩
  have hL0 : 0 < L.length := List.length_pos_iff.2 hne
  obtain ⟨b, o, rfl, _, hb, hc⟩ := hcell k (by omega)
  have hlast : L.getD k ByteArray.empty = L.getLastD ByteArray.empty := by
    rw [List.getLastD_eq_getLast?, List.getLast?_eq_getElem?, List.getD_eq_getElem?_getD, hk]
  rw [hlast] at hc
  obtain ⟨S, hS⟩ : ∃ S, L.getLastD ByteArray.empty = S := ⟨_, rfl⟩
  rw [hS] at hc ⊢
  have hB : Below w.heap.size w (w.alloc (.cells #[.int .u64 area, .int .i64 n, .slice (some ⟨b, o, none⟩) L.length cv, .bool sync] 76)) := (Below.refl _ _).alloc (Nat.le_refl _) _
  have hc2 := (hB.cell (p := ⟨b, o + k, none⟩) hb).trans hc
  have W1 : wrap64 ((L.length : Int) - 1) = (k : Int) := by rw [IntWalk.wrap64_in _ (by omega)]; omega
  have W2 : IntKind.i64.wrap ((L.length : Int) - 1) = (k : Int) := by rw [IntWalk.i64_in _ (by omega)]; omega
  have W3 : (L.length : Int) - 1 = (k : Int) := by omega
  have hk1 : (k : Int) < (L.length : Int) := by omega
  have hk0 : (0 : Int) ≤ (k : Int) := by omega
  go_enter Try.func36, Try.ntmps36
  clear hcell hnil
  go_wp2_with fail
  go_ret
  exact ⟨rfl, hB⟩
end Go.Proofs.Yteidmneenfdafaa.R
namespace Go.Proofs.Yteidmneenfdafaa.R
open Go.RowKit
open Aid K
set_option linter.unusedSimpArgs false
set_option linter.unusedVariables false

/-- where a sector stands -/
def AtIs (q : List (RSec × Value)) (a n x : Int) : Prop := (x = -1 ∧ ∀ s ∈ q, ¬ (s.1.area = a ∧ s.1.n = n)) ∨ ∃ (i : Nat) (s : RSec × Value), q[i]? = some s ∧ x = (i : Int) ∧ s.1.area = a ∧ s.1.n = n
set_option maxRecDepth 100000 in
set_option maxHeartbeats 2000000 in
theorem rat_any (r : RSt) (v : Value) (q : List (RSec × Value)) (a n : Int) (w : World) (h : RowIs w v q) : Calls Try.prog 47 #[.agg (diskR r v), .int .u64 a, .int .i64 n] w fun e w' => ∃ x, e = .returned (.int .i64 x) ∧ AtIs q a n x ∧ Below w.heap.size w w' := by
  have hlen := h.len
  obtain ⟨av, cv, rfl⟩ := h.slice
  obtain ⟨room, steps, left, armed, dead, l⟩ := r
  unfold diskR
  dsimp only
  obtain ⟨W1, hW1⟩ : ∃ W1, w.alloc (.cells #[.int .i64 room, .int .i64 steps, .int .i64 left, .bool armed, .bool dead, .slice av q.length cv] 40) = W1 := ⟨_, rfl⟩
  obtain ⟨B, hB⟩ : ∃ B, w.heap.size = B := ⟨_, rfl⟩
  have hb1 : Below w.heap.size w W1 := by rw [← hW1]; exact (Below.refl _ _).alloc (Nat.le_refl _) _
  have h1 := h.below hb1
  have hblk : Blk W1 B 40 #[.int .i64 room, .int .i64 steps, .int .i64 left, .bool armed, .bool dead, .slice av q.length cv] := by rw [← hW1, ← hB]; exact Blk.alloc_new _ _ _
  have c5 : W1.cell? ⟨B, 5, none⟩ = some (.slice av q.length cv) := by rw [Blk.cell hblk]; rfl
  clear h
  go_enter Try.func47, Try.ntmps47
  go_wp2_with fail
  try rw [hB]
  try rw [hW1]
  go_loopw [7] (fun x7 wr => ∃ i : Nat, x7 = .int .i64 i ∧ i ≤ q.length ∧ (∀ (j : Nat) s, j < i → q[j]? = some s → ¬ (s.1.area = a ∧ s.1.n = n)) ∧ wr = W1) (fun x7 _ => q.length - (intOf x7).toNat)
  case atStart => exact ⟨0, rfl, Nat.zero_le _, fun j s hj => absurd hj (Nat.not_lt_zero _), rfl⟩
  case round =>
    obtain ⟨i, rfl, hi, hno, rfl⟩ := hrel
    by_cases hlt : (i : Int) < (q.length : Int)
    · have hiq : i < q.length := by omega
      obtain ⟨x, hx⟩ : ∃ x, q[i]? = some x := ⟨_, List.getElem?_eq_getElem hiq⟩
      obtain ⟨g, rfl, hg, k0, k1, k2, k3⟩ := h1.at_ hx
      have hnext : ∀ (z : Nat), ¬ (x.1.area = a ∧ x.1.n = n) → (∀ (j : Nat) s, j < i + 1 → q[j]? = some s → ¬ (s.1.area = a ∧ s.1.n = n)) := fun z hne j s hj hs => by
        by_cases e : j = i
        · subst e; rw [hx] at hs; obtain rfl := Option.some.inj hs; exact hne
        · exact hno j s (by omega) hs
      have hinext : IntKind.i64.wrap ((i : Int) + 1) = ((i + 1 : Nat) : Int) := IntWalk.i64_in _ (by omega)
      have i0 : (0 : Int) ≤ (i : Int) := by omega
      by_cases ha : x.1.area = a
      · by_cases hn : x.1.n = n
        · rw [ha] at k0
          rw [hn] at k1
          have HX := Lib.hid hx
          have HE := Lib.hid (And.intro ha hn)
          clear hnext hno ha hn hx
          go_wp2_with fail
          go_ret
          exact ⟨_, rfl, .inr ⟨i, x, HX.out, rfl, HE.out.1, HE.out.2⟩, hb1⟩
        · have HN := Lib.hid (hnext 0 (fun e => hn e.2))
          rw [ha] at k0
          obtain ⟨y, hy⟩ : ∃ y, x.1.n = y := ⟨_, rfl⟩
          rw [hy] at k1 hn
          clear hnext hno ha
          go_wp2_with fail
          refine ⟨⟨i + 1, ?_, by omega, HN.out, trivial⟩, ?_⟩
          · first | rfl | congr 1
          · simp [intOf]; omega
      · have HN := Lib.hid (hnext 0 (fun e => ha e.1))
        obtain ⟨y, hy⟩ : ∃ y, x.1.area = y := ⟨_, rfl⟩
        rw [hy] at k0 ha
        clear hnext hno
        go_wp2_with fail
        refine ⟨⟨i + 1, ?_, by omega, HN.out, trivial⟩, ?_⟩
        · first | rfl | congr 1
        · simp [intOf]; omega
    · have hie : i = q.length := by omega
      subst hie
      have HNO := Lib.hid hno
      clear hno
      go_wp2_with fail
      go_ret
      refine ⟨_, rfl, .inl ⟨rfl, fun s hs => ?_⟩, by first | exact hb1 | (rw [← hB]; exact hb1)⟩
      obtain ⟨j, hj, hje⟩ := List.mem_iff_getElem.1 hs
      exact HNO.out j s hj (by rw [List.getElem?_eq_getElem hj, hje])

def armR (r : RSt) (x : Int) : RSt := if r.dead = true then r else { r with armed := decide (0 ≤ x), left := x }
set_option maxRecDepth 100000 in
theorem rarm_any (r : RSt) (va : Option Addr) (vn vc : Nat) (x : Int) (w : World) : Calls Try.prog 40 #[.agg (diskR r (.slice va vn vc)), .int .i64 x] w fun e w' => e = .returned (.agg (diskR (armR r x) (.slice va vn vc))) ∧ Below w.heap.size w w' := by
  obtain ⟨room, steps, left, armed, dead, l⟩ := r
  cases dead
  · have H1 : armR ⟨room, steps, left, armed, false, l⟩ x = ⟨room, steps, x, decide (0 ≤ x), false, l⟩ := by simp [armR]
    rw [H1]
    clear H1
    obtain ⟨y, hy⟩ : ∃ y, decide (0 ≤ x) = y := ⟨_, rfl⟩
    unfold diskR
    dsimp only
    rw [hy]
    go_enter Try.func40, Try.ntmps40
    go_wp2_with fail
    refine bodyPost_ret (results_cellN rfl _ _ (w.heap.size + 1) rfl _ _ (two_blk _ _ _ _) _ Try.underlying40 rfl size_disk) rfl ?_
    exact ⟨rfl, two_under _ _ _⟩
  · have H1 : armR ⟨room, steps, left, armed, true, l⟩ x = ⟨room, steps, left, armed, true, l⟩ := by simp [armR]
    rw [H1]
    clear H1
    unfold diskR
    dsimp only
    go_enter Try.func40, Try.ntmps40
    go_wp2_with fail
    refine bodyPost_ret (results_cellN rfl _ _ (w.heap.size + 1) rfl _ _ (two_blk _ _ _ _) _ Try.underlying40 rfl size_disk) rfl ?_
    exact ⟨rfl, two_under _ _ _⟩
def newR (room : Int) : RSt := { room := max room 0, steps := 0, left := 0, armed := false, dead := false, l := [] }
set_option maxRecDepth 100000 in
theorem rnew_any (room : Int) (w : World) : Calls Try.prog 20 #[.int .i64 room] w fun e w' => e = .returned (.agg (diskR (newR room) (.slice none 0 0))) ∧ Below w.heap.size w w' := by
  obtain ⟨y, hy⟩ : ∃ y, max room 0 = y := ⟨_, rfl⟩
  unfold newR diskR
  dsimp only
  go_enter Try.func20, Try.ntmps20
  go_wp2_with fail
  · obtain rfl : y = 0 := by omega
    refine bodyPost_ret (results_cellN rfl _ _ w.heap.size rfl _ _ (Blk.alloc_new _ _ _) _ Try.underlying40 rfl size_disk) rfl ?_
    exact ⟨rfl, (Below.refl _ _).alloc (Nat.le_refl _) _⟩
  · obtain rfl : y = room := by omega
    refine bodyPost_ret (results_cellN rfl _ _ w.heap.size rfl _ _ (Blk.alloc_new _ _ _) _ Try.underlying40 rfl size_disk) rfl ?_
    exact ⟨rfl, (Below.refl _ _).alloc (Nat.le_refl _) _⟩
end Go.Proofs.Yteidmneenfdafaa.R
namespace Go.Proofs.Yteidmneenfdafaa.R
open Go.RowKit
open Aid K
set_option linter.unusedSimpArgs false
set_option linter.unusedVariables false

theorem info_sec : (Try.prog.info? 76).map (fun i => (i.zero.map (·.cells.size), i.size, i.bytes)) = some (some 4, 4, 48) := by kernel_rfl
theorem info_sec' : ∃ i z, Try.prog.info? 76 = some i ∧ i.zero = some z ∧ i.size = 4 ∧ i.bytes = 48 ∧ z.cells.size = 4 := by
  have h := info_sec
  cases hq : Try.prog.info? 76 with
  | none => rw [hq] at h; cases h
  | some i =>
    rw [hq] at h
    simp only [Option.map_some, Option.some.injEq, Prod.mk.injEq] at h
    cases hz : i.zero with
    | none => rw [hz] at h; cases h.1
    | some z =>
      rw [hz] at h
      simp only [Option.map_some, Option.some.injEq] at h
      exact ⟨i, z, rfl, hz, h.2.1, h.2.2, h.1⟩
theorem rowR_snoc (q : List (RSec × Value)) (y : RSec × Value) : rowR (q ++ [y]) = rowR q ++ (secR y.1 y.2).toList := by unfold rowR; simp
/-- 'append(v, y)', v a row of the call's own: y has just been laid in a block -/
theorem wpList_pushS {ops : Array Oper} {rest : List Oper} {o : Oper} {a : Act} {Q : Exit → Act → World → Prop} (w : World)
    (hw : Region.wanted o (yielded ops a.tmps) = true) (s x : Operand)
    (ho : o.op = .call { callee := .builtin .append, args := #[s, x], argTypes := #[38, 38] })
    (base : Nat) (v : Value) (q : List (RSec × Value)) (hs : a.eval s = v) (hown : w.ownsRow base 76 4 v q.length (rowR q)) (g : Nat) (T : TypeId) (y : RSec × Value) (hx : a.eval x = .slice (some ⟨g, 0, none⟩) 1 1)
    (hc : Blk w g T (secR y.1 y.2)) (h1 : y.2.oneCell' = true) (hn : q.length ≤ 2932031007391) (hbase : base ≤ w.heap.size)
    (h : ∀ v' w', w'.ownsRow base 76 4 v' (q.length + 1) (rowR (q ++ [y])) → Below base w w' → (∀ k, k < w.heap.size → v.ownBlock ≠ some k → w'.heap[k]? = w.heap[k]?) → wpList Try.prog ops Q rest (a.put o.dst v') w') : wpList Try.prog ops Q (o :: rest) a w := by
  obtain ⟨i, z, hi, hz, hsz, hby, hzs⟩ := info_sec'
  refine wpList_want hw fun K hK => ?_
  refine wp_append_own w s x _ ho base _ i z 4 48 Try.underlying38 hi hz hsz hby hzs (by decide) v q.length (rowR q) hs hown ⟨g, 0, none⟩ 1 1 (secR y.1 y.2).toList hx rfl ?_ ?_ (by unfold maxLen; omega) (by omega) hbase ?_
  · exact World.news_of_block hc
  · intro u hu
    have hu : u ∈ [Value.int .u64 y.1.area, Value.int .i64 y.1.n, y.2, Value.bool y.1.sync] := hu
    simp only [List.mem_cons, List.not_mem_nil, or_false] at hu
    rcases hu with rfl | rfl | rfl | rfl
    · rfl
    · rfl
    · exact h1
    · rfl
  · intro v' w' h2 h3 _
    refine hK _ _ (h v' w' (by rw [rowR_snoc]; exact h2) (below_of_grown h3 hbase (owns_base hown)) (fun k hk hne => h3.block k hk (fun e => hne e.symm)))
theorem own_row {w : World} {base : Nat} {v : Value} {q : List (RSec × Value)} (h : w.ownsRow base 76 4 v q.length (rowR q)) (hs : ∀ x ∈ q, SecIs w x) (hl : q.length ≤ 2932031007390) : RowIs w v q := by
  refine ⟨?_, hs, hl⟩
  by_cases h0 : q.length = 0
  · obtain rfl : q = [] := List.eq_nil_of_length_eq_zero h0
    rcases h.2 with ⟨e, _⟩ | ⟨g, cap, cur, hv, hb, hg, _⟩
    · exact .inl ⟨rfl, e⟩
    · refine .inr ⟨g, cap, hv, ?_, fun j x hx => by simp [rowR] at hx⟩
      rcases Nat.lt_or_ge g w.heap.size with hlt | hge
      · exact hlt
      · rw [Array.getElem?_eq_none hge] at hg; cases hg
  · obtain ⟨g, cap, rfl, _, hlt⟩ := h.form (by omega)
    refine .inr ⟨g, cap, rfl, hlt, fun j x hx => ?_⟩
    have hjl : j < (rowR q).length := (List.getElem?_eq_some_iff.1 hx).1
    rw [h.cellAt j (by rw [rowR_length] at hjl; exact hjl)]; exact hx

theorem own_fresh {w : World} {base : Nat} {e : TypeId} {size n : Nat} {v : Value} {xs : List Value} (h : w.ownsRow base e size v n xs) : ∀ b m c, v = .slice (some b) m c → base ≤ b.block := by
  intro b m c hv
  rcases h.2 with ⟨e, h0⟩ | ⟨g, cap, cur, hv', hb, _⟩
  · rw [e] at hv; cases hv
  · rw [hv'] at hv
    simp only [Value.slice.injEq, Option.some.injEq] at hv
    rw [← hv.1]; exact hb
theorem own_shape {w : World} {base : Nat} {e : TypeId} {size n : Nat} {v : Value} {xs : List Value} (h : w.ownsRow base e size v n xs) : ∃ a c, v = .slice a n c := by
  rcases h.2 with ⟨e, h0⟩ | ⟨g, cap, cur, hv, _⟩
  · exact ⟨none, 0, by rw [e, h0]⟩
  · exact ⟨_, cap, hv⟩
theorem blk_other {w : World} {g b j : Nat} {t : TypeId} {cs : Array Value} (h : Blk w g t cs) (hne : g ≠ b) (u : Value) : Blk (w.setCell ⟨b, j, none⟩ u) g t cs := by
  unfold Blk at h ⊢
  rw [Below.heap_setCell _ _ _ _ hne]; exact h
def six (w : World) (b : Nat) (x0 x1 x2 x3 x4 x5 : Value) : World := (((((w.setCell ⟨b, 0, none⟩ x0).setCell ⟨b, 1, none⟩ x1).setCell ⟨b, 2, none⟩ x2).setCell ⟨b, 3, none⟩ x3).setCell ⟨b, 4, none⟩ x4).setCell ⟨b, 5, none⟩ x5
theorem six_blk {w : World} {b : Nat} {T : TypeId} {c0 c1 c2 c3 c4 c5 : Value} (h : Blk w b T #[c0, c1, c2, c3, c4, c5]) (x0 x1 x2 x3 x4 x5 : Value) : Blk (six w b x0 x1 x2 x3 x4 x5) b T #[x0, x1, x2, x3, x4, x5] := by
  have := (((((h.set 0 x0).set 1 x1).set 2 x2).set 3 x3).set 4 x4).set 5 x5
  exact this
theorem six_below {w0 w : World} {B b : Nat} (h : Below B w0 w) (hb : B ≤ b) (x0 x1 x2 x3 x4 x5 : Value) : Below B w0 (six w b x0 x1 x2 x3 x4 x5) :=
  (((((h.setCell (p := ⟨b, 0, none⟩) hb x0).setCell (p := ⟨b, 1, none⟩) hb x1).setCell (p := ⟨b, 2, none⟩) hb x2).setCell (p := ⟨b, 3, none⟩) hb x3).setCell (p := ⟨b, 4, none⟩) hb x4).setCell (p := ⟨b, 5, none⟩) hb x5
theorem six_own {w : World} {base b : Nat} {e : TypeId} {size n : Nat} {v : Value} {xs : List Value} (h : w.ownsRow base e size v n xs) (hb : b < base) (x0 x1 x2 x3 x4 x5 : Value) : (six w b x0 x1 x2 x3 x4 x5).ownsRow base e size v n xs :=
  ownsRow_setCell_below (ownsRow_setCell_below (ownsRow_setCell_below (ownsRow_setCell_below (ownsRow_setCell_below (ownsRow_setCell_below h (a := ⟨b, 0, none⟩) hb x0) (a := ⟨b, 1, none⟩) hb x1) (a := ⟨b, 2, none⟩) hb x2) (a := ⟨b, 3, none⟩) hb x3) (a := ⟨b, 4, none⟩) hb x4) (a := ⟨b, 5, none⟩) hb x5
theorem put_end {w w2 : World} {B M : Nat} (hB : w.heap.size = B) (hb : Below B w w2) (hM : B + 1 + 1 < M) {v : Value} {q : List (RSec × Value)} (hown : w2.ownsRow M 76 4 v q.length (rowR q)) (hs : ∀ x ∈ q, SecIs w x) (hl : q.length ≤ 2932031007390) (u x0 x1 x2 x3 x4 x5 : Value) :
    RowIs (six (w2.setCell ⟨B, 5, none⟩ u) (B + 1 + 1) x0 x1 x2 x3 x4 x5) v q ∧ Below B w (six (w2.setCell ⟨B, 5, none⟩ u) (B + 1 + 1) x0 x1 x2 x3 x4 x5) := by
  have h1 : Below B w (six (w2.setCell ⟨B, 5, none⟩ u) (B + 1 + 1) x0 x1 x2 x3 x4 x5) := six_below (hb.setCell (p := ⟨B, 5, none⟩) (Nat.le_refl _) u) (by omega) x0 x1 x2 x3 x4 x5
  refine ⟨own_row (six_own (ownsRow_setCell_below hown (a := ⟨B, 5, none⟩) (by show B < M; omega) u) (by omega) x0 x1 x2 x3 x4 x5) (fun x hx => (hs x hx).below (by rw [hB]; exact h1)) hl, h1⟩
def sameR (x s : RSec) : Bool := decide (x.area = s.area ∧ x.n = s.n)
def behindR (x s : RSec) : Bool := decide (s.area < x.area ∨ x.area = s.area ∧ s.n < x.n)
def putStep (s : RSec × Value) (c : List (RSec × Value) × Bool) (x : RSec × Value) : List (RSec × Value) × Bool :=
  let c1 := if (!c.2 && (sameR x.1 s.1 || behindR x.1 s.1)) = true then (c.1 ++ [s], true) else c
  (if sameR x.1 s.1 = true then c1.1 else c1.1 ++ [x], c1.2)
def putQ (q : List (RSec × Value)) (s : RSec × Value) : List (RSec × Value) :=
  let c := q.foldl (putStep s) ([], false)
  if c.2 = true then c.1 else c.1 ++ [s]
theorem putStep_len (s : RSec × Value) (c : List (RSec × Value) × Bool) (x : RSec × Value) : (putStep s c x).1.length + (if c.2 = true then 1 else 0) ≤ c.1.length + 1 + (if (putStep s c x).2 = true then 1 else 0) := by
  obtain ⟨a, d⟩ := c
  unfold putStep
  cases d <;> cases sameR x.1 s.1 <;> cases behindR x.1 s.1 <;> simp <;> omega
theorem putStep_mem (s : RSec × Value) (c : List (RSec × Value) × Bool) (x : RSec × Value) (y : RSec × Value) (hy : y ∈ (putStep s c x).1) : y ∈ c.1 ∨ y = s ∨ y = x := by
  obtain ⟨a, d⟩ := c
  unfold putStep at hy
  dsimp only at hy ⊢
  have key : y ∈ (if (!d && (sameR x.1 s.1 || behindR x.1 s.1)) = true then (a ++ [s], true) else (a, d)).1 → y ∈ a ∨ y = s ∨ y = x := by
    intro hy
    split at hy
    · rcases List.mem_append.1 hy with h | h
      · exact .inl h
      · exact .inr (.inl (List.mem_singleton.1 h))
    · exact .inl hy
  split at hy
  · exact key hy
  · rcases List.mem_append.1 hy with h | h
    · exact key h
    · exact .inr (.inr (List.mem_singleton.1 h))
/-- what the loop keeps -/
structure PutIn (W0 W1 : World) (q : List (RSec × Value)) (s : RSec × Value) (i : Nat) (v : Value) (c : List (RSec × Value) × Bool) (w : World) : Prop where
  fold : c = (q.take i).foldl (putStep s) ([], false)
  own : w.ownsRow W1.heap.size 76 4 v c.1.length (rowR c.1)
  len : c.1.length ≤ i + (if c.2 = true then 1 else 0)
  mem : ∀ x ∈ c.1, x ∈ q ∨ x = s
  below : Below W1.heap.size W1 w
theorem PutIn.next {W0 W1 w w' : World} {q : List (RSec × Value)} {s x : RSec × Value} {i : Nat} {v v' : Value} {c c' : List (RSec × Value) × Bool} (h : PutIn W0 W1 q s i v c w) (hx : q[i]? = some x) (hc : putStep s c x = c')
    (hown : w'.ownsRow W1.heap.size 76 4 v' c'.1.length (rowR c'.1)) (hb : Below W1.heap.size w w') : PutIn W0 W1 q s (i + 1) v' c' w' := by
  refine ⟨?_, hown, ?_, fun y hy => ?_, h.below.trans hb⟩
  · rw [List.take_add_one, hx, List.foldl_append, ← h.fold]; exact hc.symm
  · have h1 := putStep_len s c x
    rw [hc] at h1
    have h2 := h.len
    omega
  · rw [← hc] at hy
    have hm := putStep_mem s c x
    rcases hm y hy with h1 | h1 | h1
    · exact h.mem y h1
    · exact .inr h1
    · rw [h1]; exact .inl (List.mem_of_getElem? hx)
set_option maxRecDepth 100000 in
set_option maxHeartbeats 8000000 in
theorem rput_any (r : RSt) (v : Value) (q : List (RSec × Value)) (s : RSec × Value) (w : World) (h : RowIs w v q) (hs : SecIs w s) (hl : q.length < 2932031007390) :
    Calls Try.prog 50 #[.agg (diskR r v), .agg (secR s.1 s.2)] w fun e w' => ∃ v', e = .returned (.agg (diskR r v')) ∧ RowIs w' v' (putQ q s) ∧ (∀ b m c, v' = .slice (some b) m c → w.heap.size ≤ b.block) ∧ Below w.heap.size w w' := by
  obtain ⟨av, cv, rfl⟩ := h.slice
  have HS := Lib.hid hs
  obtain ⟨⟨sa, sn, sL, ss⟩, su⟩ := s
  obtain ⟨⟨_, ua, uc, hu, _⟩, _⟩ := hs
  dsimp only at hu
  subst hu
  obtain ⟨un, hun⟩ : ∃ un, sL.length = un := ⟨_, rfl⟩
  obtain ⟨s, hs2⟩ : ∃ s : RSec × Value, s = (⟨sa, sn, sL, ss⟩, .slice ua sL.length uc) := ⟨_, rfl⟩
  have HS2 := Lib.hid hs2
  rw [← hs2] at HS ⊢
  obtain ⟨room, steps, left, armed, dead, l⟩ := r
  have hsv : secR s.1 s.2 = #[.int .u64 sa, .int .i64 sn, .slice ua un uc, .bool ss] := by rw [hs2, ← hun]; rfl
  rw [hsv]
  unfold diskR
  dsimp only
  obtain ⟨B, hB⟩ : ∃ B, w.heap.size = B := ⟨_, rfl⟩
  obtain ⟨W1, hW1⟩ : ∃ W1, ((w.alloc (.cells #[.int .i64 room, .int .i64 steps, .int .i64 left, .bool armed, .bool dead, .slice av q.length cv] 40)).alloc (.cells #[.int .u64 sa, .int .i64 sn, .slice ua un uc, .bool ss] 76)).alloc (.cells #[.int .i64 0, .int .i64 0, .int .i64 0, .bool false, .bool false, .slice none 0 0] 40) = W1 := ⟨_, rfl⟩
  have hb1 : Below w.heap.size w W1 := by rw [← hW1]; exact (((Below.refl _ _).alloc (Nat.le_refl _) _).alloc (by simp) _).alloc (by simp; omega) _
  have hz1 : W1.heap.size = B + 3 := by rw [← hW1, ← hB]; simp
  have h1 := h.below hb1
  have HB := Lib.hid hb1
  have bA : Blk W1 B 40 #[.int .i64 room, .int .i64 steps, .int .i64 left, .bool armed, .bool dead, .slice av q.length cv] := by
    rw [← hW1, ← hB]; exact ((Blk.alloc_new _ _ _).below ((Below.refl _ _).alloc (Nat.le_refl _) _) (by simp)).below ((Below.refl _ _).alloc (Nat.le_refl _) _) (by simp; omega)
  have bS : Blk W1 (B + 1) 76 #[.int .u64 sa, .int .i64 sn, .slice ua un uc, .bool ss] := by
    rw [← hW1, ← hB]; exact (two_blk _ _ _ _).below ((Below.refl _ _).alloc (Nat.le_refl _) _) (by simp)
  have bR : Blk W1 (B + 1 + 1) 40 #[.int .i64 0, .int .i64 0, .int .i64 0, .bool false, .bool false, .slice none 0 0] := by
    rw [← hW1]
    have e : B + 1 + 1 = ((w.alloc (.cells #[.int .i64 room, .int .i64 steps, .int .i64 left, .bool armed, .bool dead, .slice av q.length cv] 40)).alloc (.cells #[.int .u64 sa, .int .i64 sn, .slice ua un uc, .bool ss] 76)).heap.size := by rw [← hB]; simp
    rw [e]; exact Blk.alloc_new _ _ _
  have hrel0 : PutIn w W1 q s 0 (.slice none 0 0) ([], false) W1 := ⟨rfl, World.ownsRow_nil _ _ _ _, Nat.le_refl _, fun x hx => (nomatch hx), Below.refl _ _⟩
  have HSV := Lib.hid hsv
  have HW1 := Lib.hid hW1
  have HZ1 := Lib.hid hz1
  have HH := Lib.hid h
  clear h hb1 hs2 hsv hz1
  go_enter Try.func50, Try.ntmps50
  go_wp2_with fail
  try rw [hB]
  try rw [HW1.out]
  clear hW1 HW1
  go_loopw [5, 6, 7] (fun x5 x6 x7 wr => ∃ (i : Nat) (v : Value) (c : List (RSec × Value) × Bool), x5 = v ∧ x6 = .bool c.2 ∧ x7 = .int .i64 i ∧ i ≤ q.length ∧ PutIn w W1 q s i v c wr) (fun _ _ x7 _ => q.length - (intOf x7).toNat)
  case atStart => exact ⟨0, _, ([], false), rfl, rfl, rfl, Nat.zero_le _, hrel0⟩
  case round =>
    clear hrel0
    obtain ⟨i, v, ⟨acc, dn⟩, rfl, rfl, rfl, hi, hP⟩ := hrel
    have bA2 := bA.below hP.below (by have := HZ1.out; omega)
    have bS2 := bS.below hP.below (by have := HZ1.out; omega)
    have hb2 := hP.below
    by_cases hlt : (i : Int) < (q.length : Int)
    · have hiq : i < q.length := by omega
      obtain ⟨x, hx⟩ : ∃ x, q[i]? = some x := ⟨_, List.getElem?_eq_getElem hiq⟩
      have h2 := h1.below hb2
      obtain ⟨g, rfl, hg, k0, k1, k2, k3⟩ := h2.at_ hx
      obtain ⟨⟨_, xa, xc, hxu, _⟩, _⟩ := h2.secs x (List.mem_of_getElem? hx)
      rw [hxu] at k2
      have hinext : IntKind.i64.wrap ((i : Int) + 1) = ((i + 1 : Nat) : Int) := IntWalk.i64_in _ (by omega)
      have i0 : (0 : Int) ≤ (i : Int) := by omega
      have hown := hP.own
      have c5 : wr.cell? ⟨B, 5, none⟩ = some (.slice (some ⟨g, 0, none⟩) q.length cv) := by rw [Blk.cell bA2]; rfl
      obtain ⟨X, hX⟩ : ∃ X, x.1.area = X := ⟨_, rfl⟩
      obtain ⟨Y, hY⟩ : ∃ Y, x.1.n = Y := ⟨_, rfl⟩
      obtain ⟨Z, hZ⟩ : ∃ Z, x.1.sync = Z := ⟨_, rfl⟩
      rw [hX] at k0
      rw [hY] at k1
      rw [hZ] at k3
      have HX := Lib.hid hx
      have hxs0 : secR x.1 x.2 = #[.int .u64 X, .int .i64 Y, .slice xa x.1.L.length xc, .bool Z] := by rw [← hX, ← hY, ← hZ, ← hxu]; rfl
      have HP := Lib.hid hP
      have haL : acc.length ≤ 2932031007390 := by have := hP.len; dsimp only at this; split at this <;> omega
      have HSM := Lib.hid (show sameR x.1 s.1 = decide (X = sa ∧ Y = sn) by rw [← hX, ← hY, HS2.out]; rfl)
      have HBH := Lib.hid (show behindR x.1 s.1 = decide (sa < X ∨ X = sa ∧ sn < Y) by rw [← hX, ← hY, HS2.out]; rfl)
      clear hx hX hY hZ hP
      obtain ⟨xn, hxn⟩ : ∃ xn, x.1.L.length = xn := ⟨_, rfl⟩
      rw [hxn] at k2 hxs0
      have HXS := Lib.hid hxs0
      clear hxs0
      have HXN := Lib.hid hxn
      have ba : Below wr.heap.size wr (wr.alloc (.cells #[.int .u64 X, .int .i64 Y, .slice xa xn xc, .bool Z] 76)) := (Below.refl _ _).alloc (Nat.le_refl _) _
      have b3 := bS2.below ba (Blk.lt bS2)
      have c6 : (wr.alloc (.cells #[.int .u64 X, .int .i64 Y, .slice xa xn xc, .bool Z] 76)).cell? ⟨B + 1, 0, none⟩ = some (.int .u64 sa) := by rw [Blk.cell b3]; rfl
      have c7 : (wr.alloc (.cells #[.int .u64 X, .int .i64 Y, .slice xa xn xc, .bool Z] 76)).cell? ⟨B + 1, 1, none⟩ = some (.int .i64 sn) := by rw [Blk.cell b3]; rfl
      have c8 : (wr.alloc (.cells #[.int .u64 X, .int .i64 Y, .slice xa xn xc, .bool Z] 76)).cell? ⟨B + 1, 2, none⟩ = some (.slice ua un uc) := by rw [Blk.cell b3]; rfl
      have c9 : (wr.alloc (.cells #[.int .u64 X, .int .i64 Y, .slice xa xn xc, .bool Z] 76)).cell? ⟨B + 1, 3, none⟩ = some (.bool ss) := by rw [Blk.cell b3]; rfl
      have HBA := Lib.hid ba
      have hvo := fun e => (absurd (hown.lt wr.heap.size e).2 (Nat.lt_irrefl _) : False)
      have hbs : W1.heap.size ≤ wr.heap.size := hb2.size
      have HXU := Lib.hid hxu
      clear hxn hxu ba hb2 h1 h2 bS
      cases dn
      · by_cases ha : X = sa
        · by_cases hn : Y = sn
          · have E1 : decide (X = sa ∧ Y = sn) = true := decide_eq_true (by omega)
            have E2 : decide (sa < X ∨ X = sa ∧ sn < Y) = false := decide_eq_false (by omega)
            have HE1 := Lib.hid (HSM.out.trans E1)
            have HE2 := Lib.hid (HBH.out.trans E2)
            clear E1 E2
            subst ha hn
            go_wp2_with (at_builtin; refine wpList_pushS _ (by rfl) _ _ rfl W1.heap.size _ acc rfl ((hown.alloc _).alloc _) (wr.heap.size + 1) 76 s rfl (by rw [HSV.out]; exact two_blk wr _ _ _) (by rw [HS2.out]; rfl) (by omega) (by simp; omega) ?_; intro v2 w2 hown2 hb2 hk2; have bx2 : Blk w2 wr.heap.size 76 #[.int .u64 X, .int .i64 Y, .slice xa xn xc, .bool Z] := (by unfold Blk; rw [hk2 _ (by simp; omega) hvo]; exact (Blk.alloc_new _ _ _).below ((Below.refl _ _).alloc (Nat.le_refl _) _) (by simp)); have d0 : w2.cell? ⟨wr.heap.size, 0, none⟩ = some (.int .u64 X) := (by rw [Blk.cell bx2]; rfl); have d1 : w2.cell? ⟨wr.heap.size, 1, none⟩ = some (.int .i64 Y) := (by rw [Blk.cell bx2]; rfl); have d2 : w2.cell? ⟨wr.heap.size, 2, none⟩ = some (.slice xa xn xc) := (by rw [Blk.cell bx2]; rfl); have d3 : w2.cell? ⟨wr.heap.size, 3, none⟩ = some (.bool Z) := (by rw [Blk.cell bx2]; rfl); have bz2 := hb2.size; have hown2' : w2.ownsRow W1.heap.size 76 4 v2 (acc ++ [s]).length (rowR (acc ++ [s])) := (by rw [List.length_append]; exact hown2))
            refine ⟨⟨i + 1, _, (acc ++ [s], true), rfl, rfl, ?_, by omega, HP.out.next HX.out (by unfold putStep; rw [HE1.out, HE2.out]; rfl) (by simpa using hown2) ((((Below.refl W1.heap.size wr).alloc hbs _).alloc (by simp; omega) _).trans hb2)⟩, ?_⟩
            · first | rfl | congr 1
            · simp [intOf]; omega
          · by_cases hg2 : sn < Y
            · have E1 : decide (X = sa ∧ Y = sn) = false := decide_eq_false (by omega)
              have E2 : decide (sa < X ∨ X = sa ∧ sn < Y) = true := decide_eq_true (by omega)
              have HE1 := Lib.hid (HSM.out.trans E1)
              have HE2 := Lib.hid (HBH.out.trans E2)
              clear E1 E2
              subst ha
              go_wp2_with (first | (at_builtin; refine wpList_pushS _ (by rfl) _ _ rfl W1.heap.size _ acc rfl ((hown.alloc _).alloc _) (wr.heap.size + 1) 76 s rfl (by rw [HSV.out]; exact two_blk wr _ _ _) (by rw [HS2.out]; rfl) (by omega) (by simp; omega) ?_; intro v2 w2 hown2 hb2 hk2; have bx2 : Blk w2 wr.heap.size 76 #[.int .u64 X, .int .i64 Y, .slice xa xn xc, .bool Z] := (by unfold Blk; rw [hk2 _ (by simp; omega) hvo]; exact (Blk.alloc_new _ _ _).below ((Below.refl _ _).alloc (Nat.le_refl _) _) (by simp)); have d0 : w2.cell? ⟨wr.heap.size, 0, none⟩ = some (.int .u64 X) := (by rw [Blk.cell bx2]; rfl); have d1 : w2.cell? ⟨wr.heap.size, 1, none⟩ = some (.int .i64 Y) := (by rw [Blk.cell bx2]; rfl); have d2 : w2.cell? ⟨wr.heap.size, 2, none⟩ = some (.slice xa xn xc) := (by rw [Blk.cell bx2]; rfl); have d3 : w2.cell? ⟨wr.heap.size, 3, none⟩ = some (.bool Z) := (by rw [Blk.cell bx2]; rfl); have bz2 := hb2.size; have hown2' : w2.ownsRow W1.heap.size 76 4 v2 (acc ++ [s]).length (rowR (acc ++ [s])) := (by rw [List.length_append]; exact hown2)) | (at_builtin; refine wpList_pushS _ (by rfl) _ _ rfl W1.heap.size _ (acc ++ [s]) rfl (hown2'.alloc _) w2.heap.size 76 x rfl (by rw [HXS.out]; exact Blk.alloc_new _ _ _) (by rw [HXU.out]; rfl) (by simp; omega) (by simp at bz2 ⊢; omega) ?_; intro v3 w3 hown3 hb3 hk3))
              any_goals (exfalso; rename_i hz; revert hz; simp [hn]; done)
              refine ⟨⟨i + 1, _, ((acc ++ [s]) ++ [x], true), rfl, rfl, ?_, by omega, HP.out.next HX.out (by unfold putStep; rw [HE1.out, HE2.out]; rfl) (by simpa using hown3) (((((Below.refl W1.heap.size wr).alloc hbs _).alloc (by simp; omega) _).trans hb2).trans (((Below.refl W1.heap.size w2).alloc (by simp at bz2 ⊢; omega) _).trans hb3))⟩, ?_⟩
              · first | rfl | congr 1
              · simp [intOf]; omega
            · have E1 : decide (X = sa ∧ Y = sn) = false := decide_eq_false (by omega)
              have E2 : decide (sa < X ∨ X = sa ∧ sn < Y) = false := decide_eq_false (by omega)
              have HE1 := Lib.hid (HSM.out.trans E1)
              have HE2 := Lib.hid (HBH.out.trans E2)
              clear E1 E2
              subst ha
              go_wp2_with (at_builtin; refine wpList_pushS _ (by rfl) _ _ rfl W1.heap.size _ acc rfl ((hown.alloc _).alloc _) (wr.heap.size + 1) 76 x rfl (by rw [HXS.out]; exact two_blk wr _ _ _) (by rw [HXU.out]; rfl) (by omega) (by simp; omega) ?_; intro v3 w3 hown3 hb3 hk3)
              refine ⟨⟨i + 1, _, (acc ++ [x], false), rfl, rfl, ?_, by omega, HP.out.next HX.out (by unfold putStep; rw [HE1.out, HE2.out]; rfl) (by simpa using hown3) ((((Below.refl W1.heap.size wr).alloc hbs _).alloc (by simp; omega) _).trans hb3)⟩, ?_⟩
              · first | rfl | congr 1
              · simp [intOf]; omega
        · by_cases hg2 : sa < X
          · have E1 : decide (X = sa ∧ Y = sn) = false := decide_eq_false (by omega)
            have E2 : decide (sa < X ∨ X = sa ∧ sn < Y) = true := decide_eq_true (by omega)
            have HE1 := Lib.hid (HSM.out.trans E1)
            have HE2 := Lib.hid (HBH.out.trans E2)
            clear E1 E2
            go_wp2_with (first | (at_builtin; refine wpList_pushS _ (by rfl) _ _ rfl W1.heap.size _ acc rfl ((hown.alloc _).alloc _) (wr.heap.size + 1) 76 s rfl (by rw [HSV.out]; exact two_blk wr _ _ _) (by rw [HS2.out]; rfl) (by omega) (by simp; omega) ?_; intro v2 w2 hown2 hb2 hk2; have bx2 : Blk w2 wr.heap.size 76 #[.int .u64 X, .int .i64 Y, .slice xa xn xc, .bool Z] := (by unfold Blk; rw [hk2 _ (by simp; omega) hvo]; exact (Blk.alloc_new _ _ _).below ((Below.refl _ _).alloc (Nat.le_refl _) _) (by simp)); have d0 : w2.cell? ⟨wr.heap.size, 0, none⟩ = some (.int .u64 X) := (by rw [Blk.cell bx2]; rfl); have d1 : w2.cell? ⟨wr.heap.size, 1, none⟩ = some (.int .i64 Y) := (by rw [Blk.cell bx2]; rfl); have d2 : w2.cell? ⟨wr.heap.size, 2, none⟩ = some (.slice xa xn xc) := (by rw [Blk.cell bx2]; rfl); have d3 : w2.cell? ⟨wr.heap.size, 3, none⟩ = some (.bool Z) := (by rw [Blk.cell bx2]; rfl); have bz2 := hb2.size; have hown2' : w2.ownsRow W1.heap.size 76 4 v2 (acc ++ [s]).length (rowR (acc ++ [s])) := (by rw [List.length_append]; exact hown2)) | (at_builtin; refine wpList_pushS _ (by rfl) _ _ rfl W1.heap.size _ (acc ++ [s]) rfl (hown2'.alloc _) w2.heap.size 76 x rfl (by rw [HXS.out]; exact Blk.alloc_new _ _ _) (by rw [HXU.out]; rfl) (by simp; omega) (by simp at bz2 ⊢; omega) ?_; intro v3 w3 hown3 hb3 hk3))
            refine ⟨⟨i + 1, _, ((acc ++ [s]) ++ [x], true), rfl, rfl, ?_, by omega, HP.out.next HX.out (by unfold putStep; rw [HE1.out, HE2.out]; rfl) (by simpa using hown3) (((((Below.refl W1.heap.size wr).alloc hbs _).alloc (by simp; omega) _).trans hb2).trans (((Below.refl W1.heap.size w2).alloc (by simp at bz2 ⊢; omega) _).trans hb3))⟩, ?_⟩
            · first | rfl | congr 1
            · simp [intOf]; omega
          · have E1 : decide (X = sa ∧ Y = sn) = false := decide_eq_false (by omega)
            have E2 : decide (sa < X ∨ X = sa ∧ sn < Y) = false := decide_eq_false (by omega)
            have HE1 := Lib.hid (HSM.out.trans E1)
            have HE2 := Lib.hid (HBH.out.trans E2)
            clear E1 E2
            go_wp2_with (at_builtin; refine wpList_pushS _ (by rfl) _ _ rfl W1.heap.size _ acc rfl ((hown.alloc _).alloc _) (wr.heap.size + 1) 76 x rfl (by rw [HXS.out]; exact two_blk wr _ _ _) (by rw [HXU.out]; rfl) (by omega) (by simp; omega) ?_; intro v3 w3 hown3 hb3 hk3)
            refine ⟨⟨i + 1, _, (acc ++ [x], false), rfl, rfl, ?_, by omega, HP.out.next HX.out (by unfold putStep; rw [HE1.out, HE2.out]; rfl) (by simpa using hown3) ((((Below.refl W1.heap.size wr).alloc hbs _).alloc (by simp; omega) _).trans hb3)⟩, ?_⟩
            · first | rfl | congr 1
            · simp [intOf]; omega
      · by_cases ha : X = sa
        · by_cases hn : Y = sn
          · have E1 : decide (X = sa ∧ Y = sn) = true := decide_eq_true (by omega)
            have E2 : decide (sa < X ∨ X = sa ∧ sn < Y) = false := decide_eq_false (by omega)
            have HE1 := Lib.hid (HSM.out.trans E1)
            have HE2 := Lib.hid (HBH.out.trans E2)
            clear E1 E2
            subst ha hn
            go_wp2_with fail
            refine ⟨⟨i + 1, _, (acc, true), rfl, rfl, ?_, by omega, HP.out.next HX.out (by unfold putStep; rw [HE1.out, HE2.out]; rfl) (hown.alloc _) ((Below.refl W1.heap.size wr).alloc hbs _)⟩, ?_⟩
            · first | rfl | congr 1
            · simp [intOf]; omega
          · by_cases hg2 : sn < Y
            · have E1 : decide (X = sa ∧ Y = sn) = false := decide_eq_false (by omega)
              have E2 : decide (sa < X ∨ X = sa ∧ sn < Y) = true := decide_eq_true (by omega)
              have HE1 := Lib.hid (HSM.out.trans E1)
              have HE2 := Lib.hid (HBH.out.trans E2)
              clear E1 E2
              subst ha
              go_wp2_with (at_builtin; refine wpList_pushS _ (by rfl) _ _ rfl W1.heap.size _ acc rfl ((hown.alloc _).alloc _) (wr.heap.size + 1) 76 x rfl (by rw [HXS.out]; exact two_blk wr _ _ _) (by rw [HXU.out]; rfl) (by omega) (by simp; omega) ?_; intro v3 w3 hown3 hb3 hk3)
              any_goals (exfalso; rename_i hz; revert hz; simp [hn]; done)
              refine ⟨⟨i + 1, _, (acc ++ [x], true), rfl, rfl, ?_, by omega, HP.out.next HX.out (by unfold putStep; rw [HE1.out, HE2.out]; rfl) (by simpa using hown3) ((((Below.refl W1.heap.size wr).alloc hbs _).alloc (by simp; omega) _).trans hb3)⟩, ?_⟩
              · first | rfl | congr 1
              · simp [intOf]; omega
            · have E1 : decide (X = sa ∧ Y = sn) = false := decide_eq_false (by omega)
              have E2 : decide (sa < X ∨ X = sa ∧ sn < Y) = false := decide_eq_false (by omega)
              have HE1 := Lib.hid (HSM.out.trans E1)
              have HE2 := Lib.hid (HBH.out.trans E2)
              clear E1 E2
              subst ha
              go_wp2_with (at_builtin; refine wpList_pushS _ (by rfl) _ _ rfl W1.heap.size _ acc rfl ((hown.alloc _).alloc _) (wr.heap.size + 1) 76 x rfl (by rw [HXS.out]; exact two_blk wr _ _ _) (by rw [HXU.out]; rfl) (by omega) (by simp; omega) ?_; intro v3 w3 hown3 hb3 hk3)
              any_goals (exfalso; rename_i hz; revert hz; simp [hn]; done)
              refine ⟨⟨i + 1, _, (acc ++ [x], true), rfl, rfl, ?_, by omega, HP.out.next HX.out (by unfold putStep; rw [HE1.out, HE2.out]; rfl) (by simpa using hown3) ((((Below.refl W1.heap.size wr).alloc hbs _).alloc (by simp; omega) _).trans hb3)⟩, ?_⟩
              · first | rfl | congr 1
              · simp [intOf]; omega
        · by_cases hg2 : sa < X
          · have E1 : decide (X = sa ∧ Y = sn) = false := decide_eq_false (by omega)
            have E2 : decide (sa < X ∨ X = sa ∧ sn < Y) = true := decide_eq_true (by omega)
            have HE1 := Lib.hid (HSM.out.trans E1)
            have HE2 := Lib.hid (HBH.out.trans E2)
            clear E1 E2
            go_wp2_with (at_builtin; refine wpList_pushS _ (by rfl) _ _ rfl W1.heap.size _ acc rfl ((hown.alloc _).alloc _) (wr.heap.size + 1) 76 x rfl (by rw [HXS.out]; exact two_blk wr _ _ _) (by rw [HXU.out]; rfl) (by omega) (by simp; omega) ?_; intro v3 w3 hown3 hb3 hk3)
            refine ⟨⟨i + 1, _, (acc ++ [x], true), rfl, rfl, ?_, by omega, HP.out.next HX.out (by unfold putStep; rw [HE1.out, HE2.out]; rfl) (by simpa using hown3) ((((Below.refl W1.heap.size wr).alloc hbs _).alloc (by simp; omega) _).trans hb3)⟩, ?_⟩
            · first | rfl | congr 1
            · simp [intOf]; omega
          · have E1 : decide (X = sa ∧ Y = sn) = false := decide_eq_false (by omega)
            have E2 : decide (sa < X ∨ X = sa ∧ sn < Y) = false := decide_eq_false (by omega)
            have HE1 := Lib.hid (HSM.out.trans E1)
            have HE2 := Lib.hid (HBH.out.trans E2)
            clear E1 E2
            go_wp2_with (at_builtin; refine wpList_pushS _ (by rfl) _ _ rfl W1.heap.size _ acc rfl ((hown.alloc _).alloc _) (wr.heap.size + 1) 76 x rfl (by rw [HXS.out]; exact two_blk wr _ _ _) (by rw [HXU.out]; rfl) (by omega) (by simp; omega) ?_; intro v3 w3 hown3 hb3 hk3)
            refine ⟨⟨i + 1, _, (acc ++ [x], true), rfl, rfl, ?_, by omega, HP.out.next HX.out (by unfold putStep; rw [HE1.out, HE2.out]; rfl) (by simpa using hown3) ((((Below.refl W1.heap.size wr).alloc hbs _).alloc (by simp; omega) _).trans hb3)⟩, ?_⟩
            · first | rfl | congr 1
            · simp [intOf]; omega
    · have hie : i = q.length := by omega
      subst hie
      have hown := hP.own
      have hbz := hb2.size
      have c5 : wr.cell? ⟨B, 5, none⟩ = some (.slice av q.length cv) := by rw [Blk.cell bA2]; rfl
      have c6 : wr.cell? ⟨B + 1, 0, none⟩ = some (.int .u64 sa) := by rw [Blk.cell bS2]; rfl
      have c7 : wr.cell? ⟨B + 1, 1, none⟩ = some (.int .i64 sn) := by rw [Blk.cell bS2]; rfl
      have c8 : wr.cell? ⟨B + 1, 2, none⟩ = some (.slice ua un uc) := by rw [Blk.cell bS2]; rfl
      have c9 : wr.cell? ⟨B + 1, 3, none⟩ = some (.bool ss) := by rw [Blk.cell bS2]; rfl
      have haL : acc.length ≤ 2932031007390 := by have := hP.len; dsimp only at this; split at this <;> omega
      have HP := Lib.hid hP
      have HB2 := Lib.hid hb2
      have H1 := Lib.hid h1
      have bR2 := bR.below hb2 (by have := HZ1.out; omega)
      clear hP hb2 h1 bA bS bR
      cases dn
      · go_wp2_with (at_builtin; refine wpList_pushS _ (by rfl) _ _ rfl W1.heap.size _ acc rfl (hown.alloc _) wr.heap.size 76 s rfl (by rw [HSV.out]; exact Blk.alloc_new _ _ _) (by rw [HS2.out]; rfl) (by omega) (by simp; omega) ?_; intro v2 w2 hown2 hb2 hk2; obtain ⟨a2, p2, rfl⟩ := own_shape hown2; have bA3 := bA2.below (((Below.refl W1.heap.size wr).alloc hbz _).trans hb2) (by have := HZ1.out; omega); have bR3 := bR2.below (((Below.refl W1.heap.size wr).alloc hbz _).trans hb2) (by have := HZ1.out; omega); have e0 : w2.cell? ⟨B, 0, none⟩ = some (.int .i64 room) := (by rw [Blk.cell bA3]; rfl); have e1 : w2.cell? ⟨B, 1, none⟩ = some (.int .i64 steps) := (by rw [Blk.cell bA3]; rfl); have e2 : w2.cell? ⟨B, 2, none⟩ = some (.int .i64 left) := (by rw [Blk.cell bA3]; rfl); have e3 : w2.cell? ⟨B, 3, none⟩ = some (.bool armed) := (by rw [Blk.cell bA3]; rfl); have e4 : w2.cell? ⟨B, 4, none⟩ = some (.bool dead) := (by rw [Blk.cell bA3]; rfl); have e5 : w2.cell? ⟨B, 5, none⟩ = some (.slice av q.length cv) := (by rw [Blk.cell bA3]; rfl); have g5 := Blk.free bA3 5; have h0 : w2.frozen? ⟨B + 1 + 1, 0, none⟩ = false := Blk.free bR3 0; have h1 : w2.frozen? ⟨B + 1 + 1, 1, none⟩ = false := Blk.free bR3 1; have h2 : w2.frozen? ⟨B + 1 + 1, 2, none⟩ = false := Blk.free bR3 2; have h3 : w2.frozen? ⟨B + 1 + 1, 3, none⟩ = false := Blk.free bR3 3; have h4 : w2.frozen? ⟨B + 1 + 1, 4, none⟩ = false := Blk.free bR3 4; have h5 : w2.frozen? ⟨B + 1 + 1, 5, none⟩ = false := Blk.free bR3 5; have r0 : w2.cell? ⟨B + 1 + 1, 0, none⟩ = some (.int .i64 0) := (by rw [Blk.cell bR3]; rfl); have r1 : w2.cell? ⟨B + 1 + 1, 1, none⟩ = some (.int .i64 0) := (by rw [Blk.cell bR3]; rfl); have r2 : w2.cell? ⟨B + 1 + 1, 2, none⟩ = some (.int .i64 0) := (by rw [Blk.cell bR3]; rfl); have r3 : w2.cell? ⟨B + 1 + 1, 3, none⟩ = some (.bool false) := (by rw [Blk.cell bR3]; rfl); have r4 : w2.cell? ⟨B + 1 + 1, 4, none⟩ = some (.bool false) := (by rw [Blk.cell bR3]; rfl); have r5 : w2.cell? ⟨B + 1 + 1, 5, none⟩ = some (.slice none 0 0) := (by rw [Blk.cell bR3]; rfl))
        refine bodyPost_ret (results_cellN rfl _ _ (B + 1 + 1) rfl _ _ (six_blk (blk_other bR3 (by omega) _) _ _ _ _ _ _) _ Try.underlying40 rfl size_disk) rfl ?_
        obtain ⟨z1, z2⟩ := put_end (M := W1.heap.size) hB ((by rw [← hB]; exact HB.out : Below B w W1).trans ((HB2.out.mono (by have := HZ1.out; omega)).trans ((((Below.refl W1.heap.size wr).alloc hbz _).trans hb2).mono (by have := HZ1.out; omega)))) (by have := HZ1.out; omega) (q := acc ++ [s]) (by rw [List.length_append]; exact hown2) (fun x hx => (List.mem_append.1 hx).elim (fun hx => (HP.out.mem x hx).elim (fun h => HH.out.secs x h) (fun h => by rw [h]; exact HS.out)) (fun hx => by rw [List.mem_singleton.1 hx]; exact HS.out)) (by have := HP.out.len; simp at this ⊢; omega) (.slice a2 (acc.length + 1) p2) (.int .i64 room) (.int .i64 steps) (.int .i64 left) (.bool armed) (.bool dead) (.slice a2 (acc.length + 1) p2)
        refine ⟨_, rfl, ?_, fun b m c hv => Nat.le_trans (by have := HZ1.out; omega) (own_fresh hown2 b m c hv), z2⟩
        have e := HP.out.fold
        rw [List.take_length] at e
        have e2 : putQ q s = acc ++ [s] := by unfold putQ; rw [← e]; rfl
        rw [e2]; exact z1
      · obtain ⟨a2, p2, rfl⟩ := own_shape hown
        have bA3 := bA2
        have bR3 := bR2
        have e0 : wr.cell? ⟨B, 0, none⟩ = some (.int .i64 room) := (by rw [Blk.cell bA3]; rfl)
        have e1 : wr.cell? ⟨B, 1, none⟩ = some (.int .i64 steps) := (by rw [Blk.cell bA3]; rfl)
        have e2 : wr.cell? ⟨B, 2, none⟩ = some (.int .i64 left) := (by rw [Blk.cell bA3]; rfl)
        have e3 : wr.cell? ⟨B, 3, none⟩ = some (.bool armed) := (by rw [Blk.cell bA3]; rfl)
        have e4 : wr.cell? ⟨B, 4, none⟩ = some (.bool dead) := (by rw [Blk.cell bA3]; rfl)
        have e5 : wr.cell? ⟨B, 5, none⟩ = some (.slice av q.length cv) := (by rw [Blk.cell bA3]; rfl)
        have g5 := Blk.free bA3 5
        have h0 : wr.frozen? ⟨B + 1 + 1, 0, none⟩ = false := Blk.free bR3 0
        have h1 : wr.frozen? ⟨B + 1 + 1, 1, none⟩ = false := Blk.free bR3 1
        have h2 : wr.frozen? ⟨B + 1 + 1, 2, none⟩ = false := Blk.free bR3 2
        have h3 : wr.frozen? ⟨B + 1 + 1, 3, none⟩ = false := Blk.free bR3 3
        have h4 : wr.frozen? ⟨B + 1 + 1, 4, none⟩ = false := Blk.free bR3 4
        have h5 : wr.frozen? ⟨B + 1 + 1, 5, none⟩ = false := Blk.free bR3 5
        have r0 : wr.cell? ⟨B + 1 + 1, 0, none⟩ = some (.int .i64 0) := (by rw [Blk.cell bR3]; rfl)
        have r1 : wr.cell? ⟨B + 1 + 1, 1, none⟩ = some (.int .i64 0) := (by rw [Blk.cell bR3]; rfl)
        have r2 : wr.cell? ⟨B + 1 + 1, 2, none⟩ = some (.int .i64 0) := (by rw [Blk.cell bR3]; rfl)
        have r3 : wr.cell? ⟨B + 1 + 1, 3, none⟩ = some (.bool false) := (by rw [Blk.cell bR3]; rfl)
        have r4 : wr.cell? ⟨B + 1 + 1, 4, none⟩ = some (.bool false) := (by rw [Blk.cell bR3]; rfl)
        have r5 : wr.cell? ⟨B + 1 + 1, 5, none⟩ = some (.slice none 0 0) := (by rw [Blk.cell bR3]; rfl)
        go_wp2_with fail
        refine bodyPost_ret (results_cellN rfl _ _ (B + 1 + 1) rfl _ _ (six_blk (blk_other bR3 (by omega) _) _ _ _ _ _ _) _ Try.underlying40 rfl size_disk) rfl ?_
        obtain ⟨z1, z2⟩ := put_end (M := W1.heap.size) hB ((by rw [← hB]; exact HB.out : Below B w W1).trans (HB2.out.mono (by have := HZ1.out; omega))) (by have := HZ1.out; omega) (q := acc) hown (fun x hx => (HP.out.mem x hx).elim (fun h => HH.out.secs x h) (fun h => by rw [h]; exact HS.out)) haL (.slice a2 acc.length p2) (.int .i64 room) (.int .i64 steps) (.int .i64 left) (.bool armed) (.bool dead) (.slice a2 acc.length p2)
        refine ⟨_, rfl, ?_, fun b m c hv => Nat.le_trans (by have := HZ1.out; omega) (own_fresh hown b m c hv), z2⟩
        have e := HP.out.fold
        rw [List.take_length] at e
        have e2 : putQ q s = acc := by unfold putQ; rw [← e]; rfl
        rw [e2]; exact z1
end Go.Proofs.Yteidmneenfdafaa.R
namespace Go.Proofs.Yteidmneenfdafaa.R
open Go.RowKit
open Aid K
set_option linter.unusedSimpArgs false
set_option linter.unusedVariables false

theorem u8_info : ∃ i, Try.prog.info? 5 = some i ∧ i.zero = some (.int .u8 0) ∧ i.size = 1 ∧ i.bytes = 1 := by
  have h : (Try.prog.info? 5).map (fun i => (i.zero, i.size, i.bytes)) = some (some (.int .u8 0), 1, 1) := by kernel_rfl
  cases hq : Try.prog.info? 5 with
  | none => rw [hq] at h; cases h
  | some i =>
    rw [hq] at h
    simp only [Option.map_some, Option.some.injEq, Prod.mk.injEq] at h
    exact ⟨i, rfl, h.1, h.2.1, h.2.2⟩
theorem str_info : ∃ i, Try.prog.info? 9 = some i ∧ i.zero = some (.string ByteArray.empty) ∧ i.size = 1 ∧ i.bytes = 16 := by
  have h : (Try.prog.info? 9).map (fun i => (i.zero, i.size, i.bytes)) = some (some (.string ByteArray.empty), 1, 16) := by kernel_rfl
  cases hq : Try.prog.info? 9 with
  | none => rw [hq] at h; cases h
  | some i =>
    rw [hq] at h
    simp only [Option.map_some, Option.some.injEq, Prod.mk.injEq] at h
    exact ⟨i, rfl, h.1, h.2.1, h.2.2⟩
theorem owns_none (w : World) (e : TypeId) (base : Nat) (h : base ≤ w.heap.size) : (w.alloc (.cells #[] e)).ownsRow base e 1 (.slice (some ⟨w.heap.size, 0, none⟩) 0 0) 0 [] :=
  ⟨rfl, .inr ⟨w.heap.size, 0, #[], rfl, h, heap_alloc_new w _, Nat.le_refl _, Nat.zero_le _, rfl, rfl⟩⟩
theorem own_slice {w : World} {base : Nat} {e : TypeId} {size n : Nat} {v : Value} {xs : List Value} (h : w.ownsRow base e size v n xs) : ∃ a c, v = .slice a n c := by
  rcases h.2 with ⟨e, h0⟩ | ⟨g, cap, cur, hv, _⟩
  · exact ⟨none, 0, by rw [e, h0]⟩
  · exact ⟨_, cap, hv⟩
def lenV : Value → Nat
  | .slice _ n _ => n
  | _ => 0
theorem owns_len {w : World} {base : Nat} {e : TypeId} {size n : Nat} {v : Value} {xs : List Value} (h : w.ownsRow base e size v n xs) : lenV v = n := by
  rcases h.2 with ⟨rfl, h0⟩ | ⟨g, cap, cur, hv, _⟩
  · exact h0.symm
  · rw [hv]; rfl
/-- 'append(v, u...)', rows of strings -/
theorem wpList_append_strs {P : Program} {ops : Array Oper} {rest : List Oper} {o : Oper} {a : Act} {Q : Exit → Act → World → Prop} (w : World)
    (hw : Region.wanted o (yielded ops a.tmps) = true) (s x : Operand) (t : TypeId)
    (ho : o.op = .call { callee := .builtin .append, args := #[s, x], argTypes := #[t, t] })
    (base : Nat) (e : TypeId) (i : TypeInfo) (z : Value) (bytes : Nat) (ht : P.underlying t = some (.slice e)) (hi : P.info? e = some i) (hz : i.zero = some z)
    (hsize : i.size = 1) (hby : i.bytes = bytes) (hzs : z.cells.size = 1)
    (v : Value) (n : Nat) (xs : List Value) (hs : a.eval s = v) (hown : w.ownsRow base e 1 v n xs) (u : Value) (L : List ByteArray) (hx : a.eval x = u) (hl : Vers (fun _ => True) w u L)
    (h63 : n + L.length ≤ maxLen) (hbytes : (n + L.length) * bytes ≤ 140737488355328) (hbase : base ≤ w.heap.size)
    (h : ∀ v' w', w'.ownsRow base e 1 v' (n + L.length) (xs ++ L.map .string) → Below base w w' → wpList P ops Q rest (a.put o.dst v') w') : wpList P ops Q (o :: rest) a w := by
  refine wpList_want hw fun K hK => ?_
  obtain ⟨_, ad, cap, rfl, hc, hnil, hat⟩ := hl
  cases ad with
  | none =>
    obtain ⟨rfl, rfl⟩ := hnil rfl
    have hrun := run_append_owned_none (P := P) (w := w) base t o.type e i 1 ht hi v n xs hown
    unfold Oper.wp
    simp [execOp, ho, resolve, invoke, builtin, hs, hx, hrun, Result.andThen]
    exact hK _ _ (h v w (by simpa using hown) (Below.refl _ _))
  | some ad =>
    refine wp_append_own w s x t ho base e i z 1 bytes ht hi hz hsize hby hzs (by decide) v n xs hs hown ad L.length cap (L.map .string) (by rw [hx]) (by simp) (fun j y hj => ?_) ?_ h63 hbytes hbase ?_
    · have hj' : j < L.length := by have := (List.getElem?_eq_some_iff.1 hj).1; simpa using this
      obtain ⟨b, off, e1, _, _, e2⟩ := hat j hj'
      simp only [Option.some.injEq] at e1
      subst e1
      have hadd : (⟨b, off, none⟩ : Addr).add j = ⟨b, off + j, none⟩ := by unfold Addr.add; split <;> simp_all
      rw [hadd, e2]
      simp [List.getElem?_eq_getElem hj'] at hj
      simp [List.getD_eq_getElem?_getD, List.getElem?_eq_getElem hj', hj]
    · intro y hy; obtain ⟨q, _, rfl⟩ := List.mem_map.1 hy; rfl
    · intro v' w' h2 h3 _
      exact hK _ _ (h v' w' h2 (below_of_grown h3 hbase (owns_base hown)))
theorem vers_of_own {w : World} {base : Nat} {v : Value} {L : List ByteArray} (h : w.ownsRow base 9 1 v L.length (L.map .string)) (hL : L.length ≤ 140737488355328) : Vers (fun _ => True) w v L := by
  rcases h.2 with ⟨rfl, h0⟩ | ⟨g, cap, cur, rfl, hb, hg, hcm, _⟩
  · obtain rfl : L = [] := List.eq_nil_of_length_eq_zero h0
    exact ⟨hL, none, 0, rfl, Nat.le_refl _, fun _ => ⟨rfl, rfl⟩, fun j hj => absurd hj (Nat.not_lt_zero _)⟩
  · refine ⟨hL, _, cap, rfl, by first | exact hcm | omega, fun e => (nomatch e), fun j hj => ⟨g, 0, rfl, ⟨trivial, ⟨cur, (0, 0), hg⟩⟩, ?_, ?_⟩⟩
    · exact (h.lt g rfl).2
    · rw [Nat.zero_add, h.cellAt j (by omega)]
      rw [List.getElem?_map, List.getElem?_eq_getElem hj, List.getD_eq_getElem?_getD, List.getElem?_eq_getElem hj]; rfl
theorem bytes_u8 {l : List Int} (hl : ∀ x ∈ l, 0 ≤ x ∧ x ≤ 255) (k : Nat) : bytesV (l.map K.u8 ++ List.replicate k 0) = (l ++ List.replicate k 0).map (Value.int .u8) := by
  unfold bytesV
  rw [List.map_append, List.map_append, List.map_map, List.map_replicate, List.map_replicate]
  congr 1
  refine List.map_congr_left fun x hx => ?_
  have := hl x hx
  show Value.int .u8 ((u8 x).toNat : Int) = _
  rw [u8_int this.1 this.2]
structure WholeIn (w : World) (l : List Int) (k : Nat) (v : Value) (wr : World) : Prop where
  own : wr.ownsRow w.heap.size 5 1 v (l.length + k) ((l ++ List.replicate k 0).map (Value.int .u8))
  below : Below w.heap.size w wr
  len : l.length + k ≤ 64
set_option maxRecDepth 100000 in
set_option maxHeartbeats 2000000 in
theorem rwhole_any (v : Value) (l : List Int) (w : World) (hI : Ints w .u8 v l) (h64 : l.length ≤ 64) (hl : ∀ x ∈ l, 0 ≤ x ∧ x ≤ 255) :
    Calls Try.prog 48 #[v] w fun e w' => e = .returned (.string (wholeI l)) ∧ Below w.heap.size w w' := by
  obtain ⟨i0, hi, hz0, hz1, hz2⟩ := u8_info
  have HI := Lib.hid hI
  have HL := Lib.hid hl
  obtain ⟨av, cv, rfl⟩ := Ints.form hI
  clear hI hl
  go_enter Try.func48, Try.ntmps48
  go_wp2_with (at_builtin; refine wpList_append_ints _ (by rfl) _ _ 28 rfl w.heap.size 5 i0 (.int .u8 0) 1 Try.underlying28 hi hz0 hz1 hz2 rfl .u8 _ 0 [] rfl (owns_none w _ _ (Nat.le_refl _)) _ l rfl (HI.out.below ((Below.refl _ _).alloc (Nat.le_refl _) _)) (by unfold maxLen; omega) (by omega) (by simp) ?_; intro v1 w1 hown1 hb1)
  have hrel0 : WholeIn w l 0 v1 w1 := ⟨by simpa using hown1, ((Below.refl _ _).alloc (Nat.le_refl _) _).trans hb1, h64⟩
  clear hown1 hb1
  go_loopw [3] (fun x3 wr => ∃ k : Nat, WholeIn w l k x3 wr) (fun x3 _ => 64 - lenV x3)
  case atStart => exact ⟨0, hrel0⟩
  case round =>
    clear hrel0
    obtain ⟨k, hk⟩ := hrel
    have hown := hk.own
    have hbs := hk.below.size
    have hlv := owns_len hown
    have hlen := hk.len
    have HK := Lib.hid hk
    obtain ⟨a3, c3, hv3⟩ := own_slice hown
    subst hv3
    obtain ⟨n, hn⟩ : ∃ n, l.length + k = n := ⟨_, rfl⟩
    obtain ⟨xs, hxs⟩ : ∃ xs, (l ++ List.replicate k 0).map (Value.int .u8) = xs := ⟨_, rfl⟩
    rw [hn, hxs] at hown
    rw [hn] at hlen HK
    try rw [hn]
    have HN := Lib.hid hn
    have HXS := Lib.hid hxs
    clear hk hlv hn hxs
    by_cases hlt : (n : Int) < 64
    · go_wp2_with (at_builtin; refine wpList_push _ (by rfl) _ _ 28 rfl w.heap.size 5 i0 (.int .u8 0) 1 Try.underlying28 hi hz0 hz1 hz2 rfl _ n _ rfl (hown.alloc _) wr.heap.size (.int .u8 0) rfl (cell_new _ _ _ _ rfl) rfl (by unfold maxLen; omega) (by omega) (by simp; omega) ?_; intro v' w2 hown2 hb2)
      refine ⟨⟨k + 1, ⟨?_, HK.out.below.trans (((Below.refl _ _).alloc hbs _).trans hb2), by have := HN.out; omega⟩⟩, ?_⟩
      · have e1 : l.length + (k + 1) = n + 1 := by have := HN.out; omega
        have e2 : (l ++ List.replicate (k + 1) 0).map (Value.int .u8) = xs ++ [Value.int .u8 0] := by rw [← HXS.out, List.replicate_succ']; simp
        rw [e1, e2]; exact hown2
      · rw [owns_len hown2]; show 64 - (n + 1) < 64 - n; omega
    · obtain rfl : n = 64 := by omega
      have hlen2 : (l.map K.u8 ++ List.replicate k 0).length = 64 := by have := HN.out; simp; omega
      have hwh : (⟨(l.map K.u8 ++ List.replicate k 0).toArray⟩ : ByteArray) = wholeI l := by
        have e : k = 64 - (l.map K.u8).length := by have := HN.out; simp; omega
        rw [e]; rfl
      have hown' : wr.ownsRow w.heap.size 5 1 (.slice a3 64 c3) (l.map K.u8 ++ List.replicate k 0).length (bytesV (l.map K.u8 ++ List.replicate k 0)) := by rw [hlen2, bytes_u8 HL.out, HXS.out]; exact hown
      have HWH := Lib.hid hwh
      clear hwh hlen2
      go_wp2_with (with_reducible refine wpList_string_own _ rfl 28 9 _ rfl 5 Try.underlying28 Try.underlying9 Try.underlying5 w.heap.size (.slice a3 64 c3) (l.map K.u8 ++ List.replicate k 0) rfl hown' ?_)
      go_ret
      exact ⟨by rw [HWH.out]; rfl, HK.out.below⟩
end Go.Proofs.Yteidmneenfdafaa.R
