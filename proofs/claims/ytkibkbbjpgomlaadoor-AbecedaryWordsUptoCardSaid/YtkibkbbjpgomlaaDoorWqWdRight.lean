/-
  WdRight.
-/
import Derived.Test.YtkibkbbjpgomlaaDoorWqWdNum
import Derived.Test.YtkibkbbjpgomlaaDoorWqWdSame
import Derived.Laws.MakeOwn
import Derived.WalkMore
namespace Go.Proofs.YtkibkbbjpgomlaaDoor.F
open Go.RowKit Go.Shelf Go.Maps
open Aid L LM
set_option linter.unusedSimpArgs false
set_option linter.unusedVariables false
attribute [local go_sem] Oper.semAt_some

theorem info_sums : ∃ i z, Tryd.prog.info? 83 = some i ∧ i.zero = some z ∧ i.size = 3 ∧ i.bytes = 24 := by
  have h : (Tryd.prog.info? 83).map (fun i => (i.zero.map (·.cells.size), i.size, i.bytes)) = some (some 3, 3, 24) := by kernel_rfl
  cases hq : Tryd.prog.info? 83 with
  | none => rw [hq] at h; cases h
  | some i =>
    rw [hq] at h
    simp only [Option.map_some, Option.some.injEq, Prod.mk.injEq] at h
    cases hz : i.zero with
    | none => rw [hz] at h; cases h.1
    | some z => exact ⟨i, z, rfl, hz, h.2.1, h.2.2⟩
/-- the sums of the first i states are laid in block R -/
def SumsAt (w : World) (R N i : Nat) (sm : Nat → Sm) : Prop := ∃ cur, Blk w R 83 cur ∧ cur.size = N * 3 ∧ ∀ j, j < i → cur[j * 3]? = some (.int .i64 (sm j).1) ∧ cur[j * 3 + 1]? = some (.int .i64 (sm j).2.1) ∧ cur[j * 3 + 2]? = some (.int .i64 (sm j).2.2)
theorem SumsAt.in_ {w : World} {R N i : Nat} {sm : Nat → Sm} (h : SumsAt w R N i sm) : SumsIn w R i sm := by
  obtain ⟨cur, hb, _, hc⟩ := h
  exact ⟨hb.lt, fun j hj => ⟨(hb.cell _).trans (hc j hj).1, (hb.cell _).trans (hc j hj).2.1, (hb.cell _).trans (hc j hj).2.2⟩⟩
theorem SumsAt.below {w w' : World} {R N i : Nat} {sm : Nat → Sm} (h : SumsAt w R N i sm) (hb : Below w.heap.size w w') : SumsAt w' R N i sm := by
  obtain ⟨cur, h1, h2, h3⟩ := h
  exact ⟨cur, h1.below hb h1.lt, h2, h3⟩
/-- the cells of the next one are there -/
theorem SumsAt.free {w : World} {R N i : Nat} {sm : Nat → Sm} (h : SumsAt w R N i sm) {k : Nat} (hk : k < N * 3) : (∃ v, w.cell? ⟨R, k, none⟩ = some v) ∧ w.frozen? ⟨R, k, none⟩ = false := by
  obtain ⟨cur, h1, h2, h3⟩ := h
  exact ⟨⟨cur[k]'(by omega), by rw [h1.cell, Array.getElem?_eq_getElem]⟩, h1.free k⟩
theorem SumsAt.set {w : World} {R N i : Nat} {sm : Nat → Sm} (h : SumsAt w R N i sm) (hi : i < N) :
    SumsAt (((w.setCell ⟨R, i * 3, none⟩ (.int .i64 (sm i).1)).setCell ⟨R, i * 3 + 1, none⟩ (.int .i64 (sm i).2.1)).setCell ⟨R, i * 3 + 2, none⟩ (.int .i64 (sm i).2.2)) R N (i + 1) sm := by
  obtain ⟨cur, h1, h2, h3⟩ := h
  refine ⟨_, ((h1.set _ _).set _ _).set _ _, by simp [h2], fun j hj => ?_⟩
  simp only [Array.getElem?_setIfInBounds, Array.size_setIfInBounds]
  by_cases e : j = i
  · subst e
    refine ⟨?_, ?_, ?_⟩
    · rw [if_neg (by omega), if_neg (by omega), if_pos rfl, if_pos (by omega)]
    · rw [if_neg (by omega), if_pos rfl, if_pos (by omega)]
    · rw [if_pos rfl, if_pos (by omega)]
  · obtain ⟨q0, q1, q2⟩ := h3 j (by omega)
    refine ⟨?_, ?_, ?_⟩
    · rw [if_neg (by omega), if_neg (by omega), if_neg (by omega)]; exact q0
    · rw [if_neg (by omega), if_neg (by omega), if_neg (by omega)]; exact q1
    · rw [if_neg (by omega), if_neg (by omega), if_neg (by omega)]; exact q2
theorem SameIn.keep {B0 mb : Nat} {w w' : World} {i : Nat} {f : K4 → Option Value} {c : Nat} (h : SameIn B0 mb w i f c) (hs : w.heap.size ≤ w'.heap.size) (hk : ∀ y, y = mb ∨ B0 ≤ y → w'.heap[y]? = w.heap[y]? ∨ w.heap.size ≤ y) : SameIn B0 mb w' i f c := by
  refine ⟨h.map.kept ?_, h.cnt, fun x v hx => ?_, h.apart, h.lt, Nat.le_trans h.le hs⟩
  · rcases hk mb (.inl rfl) with e | e
    · exact e
    · have := h.map.lt; omega
  · obtain ⟨l, h1, h2⟩ := h.rows x v hx
    refine ⟨l, ⟨h1.1, ?_⟩, h2⟩
    rcases h1.2 with h3 | ⟨g, cap, cur, e1, e2, e3, r⟩
    · exact .inl h3
    · refine .inr ⟨g, cap, cur, e1, e2, ?_, r⟩
      rcases hk g (.inr e2) with e | e
      · rw [e]; exact e3
      · have := (Array.getElem?_eq_some_iff.1 e3).1; omega
theorem four_cells {w : World} {g o : Nat} {a b c d : Value} (h0 : w.cell? ⟨g, o, none⟩ = some a) (h1 : w.cell? ⟨g, o + 1, none⟩ = some b) (h2 : w.cell? ⟨g, o + 2, none⟩ = some c) (h3 : w.cell? ⟨g, o + 3, none⟩ = some d) : ∀ j (hj : j < (#[a, b, c, d] : Array Value).size), w.cell? ⟨g, o + j, none⟩ = some (#[a, b, c, d] : Array Value)[j]
  | 0, _ => h0
  | 1, _ => h1
  | 2, _ => h2
  | 3, _ => h3
theorem wpList_append_run {P : Program} {ops : Array Oper} {rest : List Oper} {o : Oper} {a : Act} {Q : Exit → Act → World → Prop} (w : World)
    (hw : Region.wanted o (yielded ops a.tmps) = true) (s x : Operand) (t : TypeId) (ho : o.op = .call { callee := .builtin .append, args := #[s, x], argTypes := #[t, t] })
    (u v : Value) (hs : a.eval s = u) (hx : a.eval x = v) (v' : Value) (w' : World) (hr : (Builtin.append_ #[t, t] o.type #[u, v]).run P w = .ok v' w') (h : wpList P ops Q rest (a.put o.dst v') w') : wpList P ops Q (o :: rest) a w := by
  refine wpList_want hw fun K hK => ?_
  unfold Oper.wp execOp
  simp only [ho, resolve, invoke, builtin, Sem.run_bind, Sem.run_pure, Result.andThen_ok, List.map_toArray, List.map_cons, List.map_nil, hs, hx, hr]
  exact hK _ _ h
/-- what the loop of Right keeps -/
structure RtLp (w : World) (Q : Nat) (B : Int) (sv : Value) (S : List StM) (wr : World) (i : Nat) : Prop where
  bel : Below Q w wr
  mbx : Blk wr Q 25 #[.int .i64 B, sv]
  sums : SumsAt wr (Q + 1) S.length i (fun k => smW (wordsS S k))
  same : ∃ f c, SameIn (Q + 1 + 1 + 1) (Q + 1 + 1) wr i f c
set_option maxRecDepth 100000 in
set_option maxHeartbeats 8000000 in
theorem right_any (B : Int) (sv : Value) (S : List StM) (w : World) (hS : StatesAre (fun _ => False) w sv S) (hM : MachOk B S) (T : Tab w) :
    Calls Tryd.prog 18 #[.agg #[.int .i64 B, sv]] w fun e w' => e = .returned (.bool true) ∧ Below w.heap.size w w' := by
  obtain ⟨a, cp, rfl⟩ := hS.slice
  have hpos := hM.pos
  have hfew := hM.few
  obtain ⟨hbase1, hbase2⟩ := hM.base
  have htop := hM.top
  have hroot := hM.root
  obtain ⟨N, hN⟩ : ∃ N, S.length = N := ⟨_, rfl⟩
  obtain ⟨s0, hs0⟩ : ∃ s0, S[S.length - 1]? = some s0 := ⟨_, List.getElem?_eq_getElem (by omega)⟩
  rw [stA_some hs0] at hroot
  rw [hN] at htop hs0
  have hS' := hS
  rw [hN] at hS'
  obtain ⟨g, off, _, rfl, hg, _, k0, _, _, _⟩ := hS'.at_ hs0
  rw [hroot] at k0
  have hSl := hS.len
  rw [hN] at hfew hSl hpos ⊢
  obtain ⟨ib, zb, hib, hz0, hz1, hz2⟩ := info_sums
  have hmm := @run_makeMap Tryd.prog
  obtain ⟨Z0, hZ0⟩ : ∃ Z0, madeCells zb.cells (N * 3) = Z0 := ⟨_, rfl⟩
  have hZs : Z0.size = N * 3 := by rw [← hZ0, size_madeCells]
  have hmk : ∀ u : World, (Instr.makeSlice 79 (.int .i64 (N : Int)) (.int .i64 (N : Int))).run Tryd.prog u = .ok (.slice (some ⟨u.heap.size, 0, none⟩) N N) (u.alloc (.cells Z0 83)) := fun u => by
    have := run_make (P := Tryd.prog) u 79 83 ib zb Tryd.underlying79 hib hz0 .i64 .i64 (N : Int) (N : Int) (by omega) (by omega) (by rw [hz2]; omega) (by omega)
    rw [this, hz1, show ((N : Int).toNat) = N by omega, hZ0]
  have HM := Lib.hid hM
  have HS := Lib.hid hS
  have HT := Lib.hid T
  have HN := Lib.hid (And.intro hN (And.intro htop hZs))
  have hN0 : (N : Int) - 1 < 98305 := by omega
  have hN1 : (0 : Int) ≤ (N : Int) - 1 := by omega
  have hN2 : (N : Int) - 1 < (N : Int) := by omega
  have hN3 : (0 : Int) < (N : Int) := by omega
  have hd1 : decide (B < 1) = false := decide_eq_false (by omega)
  have hd2 : decide (1048576 < B) = false := decide_eq_false (by omega)
  have hd3 : decide (98305 ≤ (N : Int) - 1) = false := decide_eq_false (by omega)
  clear hM hS hS' T hN htop hroot hs0 hib hz0 hz1 hz2 hZ0 hZs
  go_enter Tryd.func18, Tryd.ntmps18
  go_wp2_with fail
  go_step3
  go_wp2_with fail
  go_step3
  go_wp2_with fail
  obtain ⟨Q, hQ⟩ : ∃ Q, w.heap.size = Q := ⟨_, rfl⟩
  obtain ⟨W1, hW1⟩ : ∃ W1, ((w.alloc (.cells #[.int .i64 B, .slice (some ⟨g, off, none⟩) N cp] 25)).alloc (.cells Z0 83)).alloc (.map #[] 0) = W1 := ⟨_, rfl⟩
  rw [hW1, hQ]
  have hst : RtLp w Q B (.slice (some ⟨g, off, none⟩) N cp) S W1 0 := by
    have hZs := HN.out.2.2
    have hNN := HN.out.1
    have e1 : (w.alloc (.cells #[.int .i64 B, .slice (some ⟨g, off, none⟩) N cp] 25)).heap.size = Q + 1 := by rw [← hQ]; simp
    have e2 : ((w.alloc (.cells #[.int .i64 B, .slice (some ⟨g, off, none⟩) N cp] 25)).alloc (.cells Z0 83)).heap.size = Q + 1 + 1 := by rw [← hQ]; simp
    refine ⟨?_, ?_, ⟨Z0, ?_, by rw [hNN]; exact hZs, fun j hj => by omega⟩, fun _ => none, 0, ⟨?_, Nat.le_refl _, (fun x v hx => by cases hx), (fun x y v u q h => by cases h), by omega, ?_⟩⟩
    · rw [← hW1, ← hQ]; exact ((two_under _ _ _).alloc (by simp; omega) _)
    · rw [← hW1, ← hQ]
      exact ((Blk.alloc_new _ _ _).below ((Below.refl _ _).alloc (Nat.le_refl _) _) (by simp)).below ((Below.refl _ _).alloc (Nat.le_refl _) _) (by simp; omega)
    · rw [← hW1, ← hQ]
      exact (two_blk _ _ _ _).below ((Below.refl _ _).alloc (Nat.le_refl _) _) (by simp)
    · rw [← hW1, ← e2]
      exact MapG.made _
    · rw [← hW1]; simp; omega
  have HST := Lib.hid hst
  clear hst hW1 k0 hmm hmk
  go_loopw [5, 51] (fun x5 x51 wr => x5 = .map (some (Q + 1 + 1)) ∧ ∃ i : Nat, x51 = .int .i64 i ∧ i ≤ N ∧ Hid (RtLp w Q B (.slice (some ⟨g, off, none⟩) N cp) S wr i)) (fun _ x51 _ => N - (intOf x51).toNat)
  case atStart => exact ⟨rfl, 0, rfl, Nat.zero_le _, HST⟩
  case round =>
    clear HST
    obtain ⟨rfl, i, rfl, hi, HR⟩ := hrel
    by_cases hlt : (i : Int) < (N : Int)
    · obtain ⟨s, hs⟩ : ∃ s, S[i]? = some s := ⟨_, List.getElem?_eq_getElem (by have := HN.out.1; omega)⟩
      have hOK := HM.out.st hs
      have HSI := Lib.hid hs
      have hS := HS.out
      rw [HN.out.1] at hS
      obtain ⟨_, _, u, eg, _, _, c0, c1, c2, hu⟩ := hS.at_ hs
      simp only [Option.some.injEq, Addr.mk.injEq, and_true] at eg
      obtain ⟨rfl, rfl⟩ := eg
      obtain ⟨fin, out, A⟩ := s
      dsimp only at c0 c1 c2 hu
      obtain ⟨ua, uc, rfl⟩ := hu.slice
      obtain ⟨n, hn⟩ : ∃ n, A.length = n := ⟨_, rfl⟩
      rw [hn] at c2 hu
      obtain ⟨hbel, hmbx, hsums, hsame⟩ := HR.out
      rw [hQ] at hg
      have d0 := (hbel.cell (p := ⟨g, off + i * 3, none⟩) hg).trans c0
      have d1 := (hbel.cell (p := ⟨g, off + i * 3 + 1, none⟩) hg).trans c1
      have d2 := (hbel.cell (p := ⟨g, off + i * 3 + 2, none⟩) hg).trans c2
      have hd := three_cells d0 d1 d2
      obtain ⟨K, hK⟩ : ∃ K, wr.heap.size = K := ⟨_, rfl⟩
      obtain ⟨W5, hW5⟩ : ∃ W5, wr.alloc (.cells #[.bool fin, .int .i64 out, .slice ua n uc] 61) = W5 := ⟨_, rfl⟩
      have hb5 : Below wr.heap.size wr W5 := by rw [← hW5]; exact (Below.refl _ _).alloc (Nat.le_refl _) _
      have bK : Blk W5 K 61 #[.bool fin, .int .i64 out, .slice ua n uc] := by rw [← hW5, ← hK]; exact Blk.alloc_new _ _ _
      have hw5 : Below w.heap.size w W5 := by rw [hQ]; exact hbel.trans (hb5.mono (by rw [← hQ]; exact hbel.size))
      have k0 : W5.cell? ⟨K, 0, none⟩ = some (.bool fin) := (Blk.cell bK 0).trans rfl
      have k1 : W5.cell? ⟨K, 1, none⟩ = some (.int .i64 out) := (Blk.cell bK 1).trans rfl
      have k2 : W5.cell? ⟨K, 2, none⟩ = some (.slice ua n uc) := (Blk.cell bK 2).trans rfl
      have HFO := formed_any (fun _ => False) ⟨fin, out, A⟩ (.slice ua n uc) i W5 (by rw [← hn] at hu ⊢; exact hu.turn (Turn.of_below hw5) (fun _ _ h => h)) (HT.out.below hw5) hOK.out hOK.fin0 hOK.rise (fun a ha => ⟨(hOK.arcs a ha).1, (hOK.arcs a ha).2.1, (hOK.arcs a ha).2.2⟩) hOK.zero
      unfold stV at HFO
      have HFO := Lib.hid HFO
      have HB5 := Lib.hid (And.intro hb5 (And.intro bK (And.intro hw5 (And.intro hsums (And.intro hsame hmbx)))))
      have HOK := Lib.hid hOK
      have HU := Lib.hid (And.intro hu hn)
      have hi0 : (0 : Int) ≤ (i : Int) := by omega
      have kk := three_cells k0 k1 k2
      clear hbel hmbx hsums hsame hb5 bK hw5 hOK hS hu c0 c1 c2 hs HR
      go_wp2_with fail
      refine HFO.out.mono ?_
      rintro e w6 ⟨rfl, hb6⟩
      obtain ⟨hb5, bK, hw5, hsums, hsame, hmbx⟩ := HB5.out
      have bK6 := bK.below hb6 bK.lt
      have k0 : w6.cell? ⟨K, 0, none⟩ = some (.bool fin) := (Blk.cell bK6 0).trans rfl
      have k1 : w6.cell? ⟨K, 1, none⟩ = some (.int .i64 out) := (Blk.cell bK6 1).trans rfl
      have k2 : w6.cell? ⟨K, 2, none⟩ = some (.slice ua n uc) := (Blk.cell bK6 2).trans rfl
      have kk := three_cells k0 k1 k2
      have hw6 := hw5.trans (hb6.mono hw5.size)
      have hsums6 := (hsums.below hb5).below hb6
      have hOK := HOK.out
      have hNN := HN.out.1
      have HSU := sum_any (fun _ => False) ⟨fin, out, A⟩ (.slice ua n uc) (Q + 1) N i (fun k => smW (wordsS S k)) (smW (wordsS S i)) w6 (by obtain ⟨hu, hn⟩ := HU.out; rw [← hn] at hu ⊢; exact hu.turn (Turn.of_below hw6) (fun _ _ h => h)) hsums6.in_ hi (by omega)
        (fun a ha => ⟨(hOK.arcs a ha).1, (hOK.arcs a ha).2.1⟩) (fun j hj => by
          obtain ⟨sj, hsj⟩ : ∃ sj, S[j]? = some sj := ⟨_, List.getElem?_eq_getElem (by omega)⟩
          have h := HM.out.st hsj
          exact ⟨h.words.2, h.deep, topW_nonneg _, h.weight⟩) hOK.out hOK.sum hOK.words.2 hOK.deep hOK.weight
      unfold stV at HSU
      have HSU := Lib.hid HSU
      have HB6 := Lib.hid (And.intro hb6 (And.intro bK6 (And.intro hw6 (And.intro hsums6 (And.intro hsame hmbx)))))
      clear hb5 bK hw5 hsums hsame hmbx hb6 bK6 hw6 hsums6 hOK hNN HFO
      go_wp2_with fail
      refine HSU.out.mono ?_
      rintro e w7 ⟨rfl, hb7⟩
      obtain ⟨hb6, bK6, hw6, hsums6, hsame, hmbx⟩ := HB6.out
      obtain ⟨hb5, _⟩ := HB5.out
      have hNN := HN.out.1
      have bK7 := bK6.below hb7 bK6.lt
      have hw7 := hw6.trans (hb7.mono hw6.size)
      have hsums7 := hsums6.below hb7
      have hb57 := (hb5.trans (hb6.mono hb5.size)).trans (hb7.mono (Nat.le_trans hb5.size hb6.size))
      obtain ⟨⟨z0, q0⟩, p0⟩ := hsums7.free (k := i * 3) (by omega)
      obtain ⟨⟨z1, q1⟩, p1⟩ := hsums7.free (k := i * 3 + 1) (by omega)
      obtain ⟨⟨z2, q2⟩, p2⟩ := hsums7.free (k := i * 3 + 2) (by omega)
      have hset := hsums7.set (by omega)
      obtain ⟨⟨m0, m1, m2⟩, hm⟩ : ∃ m, smW (wordsS S i) = m := ⟨_, rfl⟩
      rw [hm] at hset ⊢
      dsimp only at hset ⊢
      have HB7 := Lib.hid (And.intro hb57 (And.intro bK7 (And.intro hw7 (And.intro hset (And.intro hsame hmbx)))))
      clear hb6 bK6 hw6 hsums6 hsame hmbx hb5 hb7 bK7 hw7 hsums7 hb57 hset hm HSU HB6 hNN kk k0 k1 k2
      go_upto_region 14 with fail
      obtain ⟨W8, hW8⟩ : ∃ W8, (((w7.setCell ⟨Q + 1, i * 3, none⟩ (.int .i64 m0)).setCell ⟨Q + 1, i * 3 + 1, none⟩ (.int .i64 m1)).setCell ⟨Q + 1, i * 3 + 2, none⟩ (.int .i64 m2)) = W8 := ⟨_, rfl⟩
      rw [hW8]
      obtain ⟨hb57, bK7, hw7, hset, ⟨f, c, hsame⟩, hmbx⟩ := HB7.out
      rw [hW8] at hset
      have hKB : Q + 1 + 1 + 1 ≤ K := by rw [← hK]; exact hsame.le
      have hs8 : W8.heap.size = w7.heap.size := by rw [← hW8]; simp [World.setCell]
      have ho8 : ∀ y, y ≠ Q + 1 → W8.heap[y]? = w7.heap[y]? := fun y hy => by
        rw [← hW8, Below.heap_setCell _ _ _ _ (fun e => hy e), Below.heap_setCell _ _ _ _ (fun e => hy e), Below.heap_setCell _ _ _ _ (fun e => hy e)]
      have hw8 : Below w.heap.size w W8 := by rw [← hW8]; exact below_setW (below_setW (below_setW hw7 (by omega)) (by omega)) (by omega)
      have bK8 : Blk W8 K 61 #[.bool fin, .int .i64 out, .slice ua n uc] := (ho8 K (by omega)).trans bK7
      have bM8 : Blk W8 Q 25 #[.int .i64 B, .slice (some ⟨g, off, none⟩) N cp] := (ho8 Q (by omega)).trans (hmbx.below hb57 hmbx.lt)
      have hsame8 : SameIn (Q + 1 + 1 + 1) (Q + 1 + 1) W8 i f c := (hsame.below hb57).keep (by rw [hs8]; exact Nat.le_refl _) (fun y hy => .inl (ho8 y (by omega)))
      have hKEY := key_any (fun _ => False) ⟨fin, out, A⟩ (.slice ua n uc) W8 (by obtain ⟨hu, hn⟩ := HU.out; rw [← hn] at hu ⊢; exact hu.turn (Turn.of_below hw8) (fun _ _ h => h)) (show i64 out from WalkArith.wf_i64 (by have := HOK.out.out; dsimp only at this; omega))
      unfold stV at hKEY
      have HKEY := Lib.hid hKEY
      have k0 : W8.cell? ⟨K, 0, none⟩ = some (.bool fin) := (Blk.cell bK8 0).trans rfl
      have k1 : W8.cell? ⟨K, 1, none⟩ = some (.int .i64 out) := (Blk.cell bK8 1).trans rfl
      have k2 : W8.cell? ⟨K, 2, none⟩ = some (.slice ua n uc) := (Blk.cell bK8 2).trans rfl
      have kk := three_cells k0 k1 k2
      have HB8 := Lib.hid (And.intro hw8 (And.intro bK8 (And.intro bM8 (And.intro hset (And.intro hsame8 (And.intro hKB bK8.lt))))))
      clear hb57 bK7 hw7 hset hsame hmbx hs8 ho8 hw8 bK8 bM8 hsame8 hKEY hKB hW8 HB7 q0 q1 q2 p0 p1 p2
      go_wp2_with fail
      refine HKEY.out.mono ?_
      rintro e w9 ⟨ka, kb, kc, kd, rfl, i1, i2, i3, i4, hb9⟩
      obtain ⟨hw8, bK8, bM8, hset, hsame8, hKB, hKl⟩ := HB8.out
      obtain ⟨K9, hK9⟩ : ∃ K9, w9.heap.size = K9 := ⟨_, rfl⟩
      obtain ⟨W10, hW10⟩ : ∃ W10, w9.alloc (.cells #[.int .i64 ka, .int .i64 kb, .int .i64 kc, .int .i64 kd] 86) = W10 := ⟨_, rfl⟩
      have hb10 : Below w9.heap.size w9 W10 := by rw [← hW10]; exact (Below.refl _ _).alloc (Nat.le_refl _) _
      have bK9 : Blk W10 K9 86 #[.int .i64 ka, .int .i64 kb, .int .i64 kc, .int .i64 kd] := by rw [← hW10, ← hK9]; exact Blk.alloc_new _ _ _
      have hb810 := hb9.trans (hb10.mono hb9.size)
      have hsame10 := hsame8.below hb810
      have hlook := hsame10.look ⟨ka, kb, kc, kd⟩ ⟨i1, i2, i3, i4⟩
      unfold K4.v at hlook
      dsimp only at hlook
      obtain ⟨l, hrow, hrl, hrn⟩ := hsame10.row ⟨ka, kb, kc, kd⟩
      obtain ⟨v, hv⟩ : ∃ v, (f ⟨ka, kb, kc, kd⟩).getD (.slice none 0 0) = v := ⟨_, rfl⟩
      rw [hv] at hlook hrow
      have hints : Ints W10 .i64 v l := Ints.own hrow (by omega)
      obtain ⟨va, vc, rfl⟩ := hints.form
      obtain ⟨ln, hln⟩ : ∃ ln, l.length = ln := ⟨_, rfl⟩
      rw [hln] at hlook hints
      have x0 : W10.cell? ⟨K9, 0, none⟩ = some (.int .i64 ka) := (Blk.cell bK9 0).trans rfl
      have x1 : W10.cell? ⟨K9, 1, none⟩ = some (.int .i64 kb) := (Blk.cell bK9 1).trans rfl
      have x2 : W10.cell? ⟨K9, 2, none⟩ = some (.int .i64 kc) := (Blk.cell bK9 2).trans rfl
      have x3 : W10.cell? ⟨K9, 3, none⟩ = some (.int .i64 kd) := (Blk.cell bK9 3).trans rfl
      have xx := four_cells x0 x1 x2 x3
      have HB10 := Lib.hid (And.intro (hw8.trans (hb810.mono hw8.size)) (And.intro (bK8.below hb810 bK8.lt) (And.intro (bM8.below hb810 bM8.lt) (And.intro (hset.below hb810) (And.intro hsame10 (And.intro hKB (And.intro bK9 (And.intro (show K < K9 by rw [← hK9]; exact Nat.le_trans hKl hb9.size) hv))))))))
      have hlnb : ln ≤ i := by rw [← hln]; exact hrn
      have HI4 := Lib.hid (And.intro i1 (And.intro i2 (And.intro i3 i4)))
      have HLN := Lib.hid (And.intro hints (And.intro hrl (And.intro hrn hln)))
      clear hw8 bK8 bM8 hset hsame8 hKB hKl hb10 bK9 hb810 hsame10 hrow hrl hrn hv hints hln i1 i2 i3 i4 hb9 kk k0 k1 k2 HB8 HKEY
      go_wp2_with fail
      go_loopw [5, 77] (fun x5 x77 wr2 => x5 = .map (some (Q + 1 + 1)) ∧ ∃ j : Nat, x77 = .int .i64 j ∧ j ≤ ln ∧ Hid (Below W10.heap.size W10 wr2)) (fun _ x77 _ => ln - (intOf x77).toNat)
      case atStart => exact ⟨rfl, 0, rfl, Nat.zero_le _, Lib.hid (Below.refl _ _)⟩
      case round =>
        obtain ⟨rfl, j, rfl, hj, HBJ⟩ := hrel
        by_cases hjl : (j : Int) < (ln : Int)
        · obtain ⟨hints, hrl, hrn, hln⟩ := HLN.out
          obtain ⟨y, hy⟩ : ∃ y, l.getD j 0 = y := ⟨_, rfl⟩
          obtain ⟨gr, offr, rfl, hgr, r0⟩ := hints.at_ (k := j) (by omega) hy
          have hym : y ∈ l := by
            rw [← hy, List.getD_eq_getElem?_getD, List.getElem?_eq_getElem (by omega : j < l.length)]
            exact List.getElem_mem _
          obtain ⟨y0, y1⟩ := hrl y hym
          obtain ⟨t, rfl⟩ : ∃ t : Nat, y = (t : Int) := ⟨y.toNat, by omega⟩
          have hti : t < i := by omega
          obtain ⟨hw10, bK10, bM10, hset10, hsame10, hKB, bK9, hK9l, hv⟩ := HB10.out
          have hbj := HBJ.out
          have hwj : Below w.heap.size w wr := hw10.trans (hbj.mono hw10.size)
          have hNN := HN.out.1
          obtain ⟨sy, hsy⟩ : ∃ sy, S[t]? = some sy := ⟨_, List.getElem?_eq_getElem (by omega)⟩
          have hS := HS.out
          rw [hNN] at hS
          obtain ⟨_, _, u2, eg, _, _, c0, c1, c2, hu2⟩ := hS.at_ hsy
          simp only [Option.some.injEq, Addr.mk.injEq, and_true] at eg
          obtain ⟨rfl, rfl⟩ := eg
          have hne : (⟨fin, out, A⟩ : StM) ≠ sy := fun e => by
            obtain ⟨l1, e1⟩ := List.getElem?_eq_some_iff.1 HSI.out
            obtain ⟨l2, e2⟩ := List.getElem?_eq_some_iff.1 hsy
            exact List.pairwise_iff_getElem.1 HM.out.nd t i l2 l1 hti (by rw [e1, e2, e])
          obtain ⟨fin2, out2, A2⟩ := sy
          dsimp only at c0 c1 c2 hu2
          obtain ⟨ua2, uc2, rfl⟩ := hu2.slice
          obtain ⟨n2, hn2⟩ : ∃ n2, A2.length = n2 := ⟨_, rfl⟩
          rw [hn2] at c2 hu2
          have hAL : ∀ w', Below wr.heap.size wr w' → Calls Tryd.prog 35 #[.agg #[.bool fin, .int .i64 out, .slice ua n uc], .agg #[.bool fin2, .int .i64 out2, .slice ua2 n2 uc2]] w' fun e w2 => e = .returned (.bool false) ∧ Below w'.heap.size w' w2 := fun w' hb' => by
            obtain ⟨hu, hn⟩ := HU.out
            have hww := hwj.trans (hb'.mono hwj.size)
            have := alike_any (fun _ => False) (fun _ => False) ⟨fin, out, A⟩ ⟨fin2, out2, A2⟩ (.slice ua n uc) (.slice ua2 n2 uc2) w' (by rw [← hn] at hu ⊢; exact hu.turn (Turn.of_below hww) (fun _ _ h => h)) (by rw [← hn2] at hu2 ⊢; exact hu2.turn (Turn.of_below hww) (fun _ _ h => h))
            rw [decide_eq_false hne] at this
            exact this
          have HAL := Lib.hid hAL
          have bK := bK10.below hbj bK10.lt
          have k0 : wr.cell? ⟨K, 0, none⟩ = some (.bool fin) := (Blk.cell bK 0).trans rfl
          have k1 : wr.cell? ⟨K, 1, none⟩ = some (.int .i64 out) := (Blk.cell bK 1).trans rfl
          have k2 : wr.cell? ⟨K, 2, none⟩ = some (.slice ua n uc) := (Blk.cell bK 2).trans rfl
          have kk := three_cells k0 k1 k2
          have m1 : wr.cell? ⟨Q, 1, none⟩ = some (.slice (some ⟨g, off, none⟩) N cp) := (Blk.cell (bM10.below hbj bM10.lt) 1).trans rfl
          have d0 := (hwj.cell (p := ⟨g, off + t * 3, none⟩) (by rw [hQ]; exact hg)).trans c0
          have d1 := (hwj.cell (p := ⟨g, off + t * 3 + 1, none⟩) (by rw [hQ]; exact hg)).trans c1
          have d2 := (hwj.cell (p := ⟨g, off + t * 3 + 2, none⟩) (by rw [hQ]; exact hg)).trans c2
          have hd := three_cells d0 d1 d2
          have r1 := (hbj.cell (p := ⟨gr, offr + j, none⟩) hgr).trans r0
          have ht0 : (0 : Int) ≤ (t : Int) := by omega
          have htN : (t : Int) < (N : Int) := by omega
          have hj0 : (0 : Int) ≤ (j : Int) := by omega
          clear hrl hints hrn hln hy hgr r0 hym y0 y1 hti hw10 bK10 bM10 hset10 hsame10 hKB bK9 hK9l hv hwj hNN hsy hS c0 c1 c2 hu2 hne hAL bK hn2
          go_wp2_with fail
          go_still_tail 6, (by kernel_rfl)
          change wpList _ _ _ _ _ wr.drew
          go_wp2_with fail
          refine (HAL.out wr.drew (Below.drew (Below.refl _ _))).mono ?_
          rintro e wx ⟨rfl, hbx⟩
          have HBX := Lib.hid (HBJ.out.trans (((Below.drew (Below.refl _ _) : Below wr.heap.size wr wr.drew).trans hbx).mono HBJ.out.size))
          clear hbx HAL
          go_wp2_with fail
          exact ⟨⟨rfl, j + 1, rfl, by omega, HBX⟩, by simp only [intOf]; omega⟩
        · obtain ⟨hw10, bK10, bM10, hset10, hsame10, hKB, bK9, hK9l, hv⟩ := HB10.out
          have hbj := HBJ.out
          have hNN := HN.out.1
          obtain ⟨K11, hK11⟩ : ∃ K11, wr.heap.size = K11 := ⟨_, rfl⟩
          obtain ⟨W11, hW11⟩ : ∃ W11, wr.alloc (.cells #[.int .i64 i] 3) = W11 := ⟨_, rfl⟩
          have hb11 : Below wr.heap.size wr W11 := by rw [← hW11]; exact (Below.refl _ _).alloc (Nat.le_refl _) _
          have bK11 : Blk W11 K11 3 #[.int .i64 i] := by rw [← hW11, ← hK11]; exact Blk.alloc_new _ _ _
          have hb1011 := hbj.trans (hb11.mono hbj.size)
          have hsame11 := hsame10.below hb1011
          have hK11l : Q + 1 + 1 + 1 ≤ K11 := by rw [← hK11]; exact (hsame10.below hbj).le
          obtain ⟨i1, i2, i3, i4⟩ := HI4.out
          obtain ⟨st, wA, v', wB, wC, f', c', he, ha, hc, hsameC, hTC⟩ := hsame11.step ⟨ka, kb, kc, kd⟩ ⟨i1, i2, i3, i4⟩ (by omega) K11 ((Blk.cell bK11 0).trans rfl) (by omega) 70
          rw [hv, HLN.out.2.2.2] at he ha
          unfold K4.v at he
          dsimp only at he
          have hw11 := hw10.trans (hb1011.mono hw10.size)
          have hRT : RtLp w Q B (.slice (some ⟨g, off, none⟩) N cp) S wC (i + 1) := by
            refine ⟨⟨hTC.os.trans hw11.os, hTC.tape.trans hw11.tape, hTC.output.trans hw11.output, Nat.le_trans hw11.size hTC.size, fun x hx => ?_⟩, ?_, ?_, f', c', hsameC⟩
            · have h1 : x < W11.heap.size := by have := hw11.size; omega
              rw [hTC.kept x h1 (by omega)]
              exact hw11.block x (by omega)
            · exact hTC.blk (bM10.below hb1011 bM10.lt) (by omega)
            · rw [hNN]
              obtain ⟨cur, e1, e2, e3⟩ := hset10.below hb1011
              exact ⟨cur, hTC.blk e1 (by omega), by rw [e2, hNN], e3⟩
          have HRT := Lib.hid hRT
          have bK9j := (bK9.below hb1011 bK9.lt)
          have bK9r := (bK9.below hbj bK9.lt)
          have x0 : wr.cell? ⟨K9, 0, none⟩ = some (.int .i64 ka) := (Blk.cell bK9r 0).trans rfl
          have x1 : wr.cell? ⟨K9, 1, none⟩ = some (.int .i64 kb) := (Blk.cell bK9r 1).trans rfl
          have x2 : wr.cell? ⟨K9, 2, none⟩ = some (.int .i64 kc) := (Blk.cell bK9r 2).trans rfl
          have x3 : wr.cell? ⟨K9, 3, none⟩ = some (.int .i64 kd) := (Blk.cell bK9r 3).trans rfl
          have xx := four_cells x0 x1 x2 x3
          clear hw10 bK10 bM10 hset10 hsame10 hKB bK9 hK9l hv hbj hb11 bK11 hb1011 hsame11 hK11l i1 i2 i3 i4 hsameC hTC hw11 hRT bK9j bK9r hNN hlook
          go_wp2_with (at_builtin; refine wpList_append_run _ (by rfl) _ _ _ rfl _ _ rfl rfl _ _ ha ?_)
          exact ⟨⟨_, _, _, _, _, _, _, _, ⟨rfl, i + 1, rfl, by omega, HRT⟩, rfl, rfl, rfl, rfl, rfl, rfl, rfl, rfl⟩, by simp only [intOf]; omega⟩
    · have hie : i = N := by omega
      subst hie
      obtain ⟨hbel, hmbx, ⟨cur, hcur, hcs, hcc⟩, hsame⟩ := HR.out
      have hNN := HN.out.1
      have htop := HN.out.2.1
      obtain ⟨_, _, c2⟩ := hcc (i - 1) (by omega)
      have b0 : wr.cell? ⟨Q, 0, none⟩ = some (.int .i64 B) := (Blk.cell hmbx 0).trans rfl
      have b1 : wr.cell? ⟨Q, 1, none⟩ = some (.slice (some ⟨g, off, none⟩) i cp) := (Blk.cell hmbx 1).trans rfl
      have bb := two_cells b0 b1
      have s2 : wr.cell? ⟨Q + 1, (i - 1) * 3 + 2, none⟩ = some (.int .i64 (topW (wordsS S (i - 1)))) := (Blk.cell hcur _).trans c2
      obtain ⟨tp, htp⟩ : ∃ tp, topW (wordsS S (i - 1)) = tp := ⟨_, rfl⟩
      rw [htp] at htop s2
      have htp0 : 0 ≤ tp := by rw [← htp]; exact topW_nonneg _
      have hwr : Below w.heap.size w wr := by rw [hQ]; exact hbel
      have HNU := Lib.hid (show ∀ w', Below wr.heap.size wr w' → Calls Tryd.prog 36 #[.agg #[.int .i64 B, .slice (some ⟨g, off, none⟩) i cp]] w' (fun e w2 => e = .returned (.bool true) ∧ Below w'.heap.size w' w2) from fun w' hb' => by
        have hS := HS.out
        rw [hNN] at hS
        exact numbered_any B _ S w' (hS.below (hwr.trans (hb'.mono hwr.size))) HM.out)
      have hde : decide (B + tp ≤ 1048576) = true := decide_eq_true htop
      have HWR := Lib.hid hwr
      clear hbel hmbx hcur hcc hsame hNN hwr htp c2 hcs
      go_wp2_with fail
      obtain ⟨L, hL, hLn⟩ : ∃ L : Nat, (i : Int) - 1 = (L : Int) ∧ i - 1 = L := ⟨i - 1, by omega, rfl⟩
      rw [hL]
      rw [hLn] at s2
      have l0 : (0 : Int) ≤ (L : Int) := by omega
      have l1 : (L : Int) < (i : Int) := by omega
      clear hN0 hN1 hN2 hd3 hL hLn
      have hwt : IntKind.i64.wrap (B + tp) = B + tp := IntWalk.i64_in _ (by omega)
      have hnm : ∀ u : World, (binOp .neq 80 (.map (some (Q + 1 + 1))) (.map none)).run Tryd.prog u = .ok (.bool true) u := fun u => Go.run_neq_map_nil u _ _ _ _ Tryd.underlying80
      go_still_tail 15, (by kernel_rfl)
      change wpList _ _ _ _ _ wr.drew
      go_wp2_with fail
      refine (HNU.out wr.drew (Below.drew (Below.refl _ _))).mono ?_
      rintro e wx ⟨rfl, hbx⟩
      have HBX := Lib.hid (HWR.out.trans (((Below.drew (Below.refl _ _) : Below wr.heap.size wr wr.drew).trans hbx).mono HWR.out.size))
      clear hbx HNU
      go_wp2_with fail
      try rw [Exit.noGoto_ret]
      go_ret
      exact ⟨rfl, HBX.out⟩
end Go.Proofs.YtkibkbbjpgomlaaDoor.F
