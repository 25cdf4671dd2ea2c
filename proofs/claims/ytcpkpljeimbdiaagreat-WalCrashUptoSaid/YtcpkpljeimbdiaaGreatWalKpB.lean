/-
  DskNew + DskOpen + WalNum + WalStl + WalFol + WalLay + WalRea + WalRdw + WalOpp + WalGon + WalOpg + WalOpn + WalAll + WalSam + WalAlvM + WalAl + WalAlv + WalHalA.
-/
import Derived.Test.YtcpkpljeimbdiaaGreatDskGood
import Derived.Test.YtcpkpljeimbdiaaGreatDskRead
import Derived.Lib.SlBytesConst
import Derived.Test.YtcpkpljeimbdiaaGreatDskSt
import Derived.Test.YtcpkpljeimbdiaaGreatShut
import Derived.Lib.SmallJoins
import Derived.Deep.Slices
import Derived.Test.YtcpkpljeimbdiaaGreatWalKpA
import Derived.Test.YtcpkpljeimbdiaaGreatDskCrashM
import Derived.Deep.Strs
namespace Go.Proofs.YtcpkpljeimbdiaaGreat.K
open Go.RowKit
open Aid
set_option linter.unusedSimpArgs false
set_option linter.unusedVariables false
set_option maxRecDepth 100000 in
set_option maxHeartbeats 1000000 in
theorem new_fine (room : Int) (w : World) : Calls Tryz.prog 4 #[.int .i64 room] w fun e w' => ∃ p O, e = .returned (.pointer (some ⟨p, 0, none⟩)) ∧ DiskIs O w' p (newSt room) ∧ (∀ k, O k → w.heap.size ≤ k ∧ k < w'.heap.size) ∧ Below w.heap.size w w' := by
  have hmk : ∀ w : World, (Instr.makeMap 45 none).run Tryz.prog w = .ok (.map (some w.heap.size)) (w.alloc (.map #[] 0)) := fun w => rfl
  go_enter Tryz.func4, Tryz.ntmps4
  go_wp2_with fail
  all_goals go_ret
  all_goals refine ⟨w.heap.size + 1, rfl, two w.heap.size (w.heap.size + 1), new_is w room _ ?_, ?_, two_below _ _ _⟩
  all_goals first
    | (intro k hk; rcases hk with rfl | rfl <;> simp; omega)
    | (unfold diskV newSt; have e : max room 0 = 0 := (by omega); simp only [e])
    | (unfold diskV newSt; have e : max room 0 = room := (by omega); simp only [e])
end Go.Proofs.YtcpkpljeimbdiaaGreat.K
namespace Go.Proofs.YtcpkpljeimbdiaaGreat.K
open Go.ChangeShapes Go.WideShapes Go.ChangeAt Go.RowKit
open Aid
set_option linter.unusedSimpArgs false
set_option linter.unusedVariables false
structure OpR where
  k : Int
  a : Int
  n : Int
  v : Value
  l : List Int
instance : Inhabited OpR := ⟨⟨0, 0, 0, .slice none 0 0, []⟩⟩
structure OpOk (w : World) (x : OpR) : Prop where
  ints : Ints w .u8 x.v x.l
  bytes : ∀ y ∈ x.l, 0 ≤ y ∧ y ≤ 255
  wk : (Lit.int .i64 x.k).wf = true
  wa : (Lit.int .u64 x.a).wf = true
  wn : (Lit.int .i64 x.n).wf = true
  lt : ∀ b o n c, x.v = .slice (some ⟨b, o, none⟩) n c → b < w.heap.size ∨ n = 0
def OpsAre (w : World) (v : Value) (n : Nat) (f : Nat → OpR) : Prop := n ≤ 2932031007317 ∧ ∃ a cap, v = .slice a n cap ∧ ∀ j, j < n → ∃ b o, a = some ⟨b, o, none⟩ ∧ b < w.heap.size ∧
  w.cell? ⟨b, o + j * 4, none⟩ = some (.int .i64 (f j).k) ∧ w.cell? ⟨b, o + j * 4 + 1, none⟩ = some (.int .u64 (f j).a) ∧ w.cell? ⟨b, o + j * 4 + 2, none⟩ = some (.int .i64 (f j).n) ∧ w.cell? ⟨b, o + j * 4 + 3, none⟩ = some (f j).v ∧ OpOk w (f j)
theorem weights_all_mem {H : Type} {P : Program} {e : TypeId} {x : Nat} {d : DataW H} : ∀ {l : List (DataW H)}, d ∈ l → x ∈ d.weights P e → x ∈ DataW.weightsAll P e l
  | [], h, _ => by cases h
  | y :: l, h, hx => by
    simp only [DataW.weightsAll, List.mem_append]
    rcases List.mem_cons.1 h with rfl | h
    · exact .inl hx
    · exact .inr (weights_all_mem h hx)
theorem trod_ints {H : Type} {enc : TypeId × Value → H} {P : Program} {W : World} {t e : TypeId} {k : IntKind} {u : Value} {d : DataW H} {p : List MemPlace} {fuel : Nat}
    (ht : P.underlying t = some (.slice e)) (he : P.underlying e = some (.int k)) (hc : P.cellsOf e = 1) (hf : DataW.trod enc P W 0 (fun _ => true) true fuel t [u] = some (d, p))
    (hlt : ∀ x ∈ p, x.block < W.heap.size) (hsize : ∀ elems spare, d = .slice elems spare → elems.length + spare.length ≤ 140737488355328) :
    ∃ l, Ints W k u l ∧ (∀ x ∈ l, (Lit.int k x).wf = true) := by
  rcases open_ints ht he hc hf with ⟨hcs, hx⟩ | ⟨a, len', cap', zs, hcs, hab, hl, hm, hz, hx, hcell, hwz⟩
  · simp at hcs
    subst hcs
    exact ⟨[], Ints.nil _ _, by simp⟩
  · simp at hcs
    subst hcs
    simp only [Prod.mk.injEq] at hx
    simp only [if_true] at hz
    have h1 := hsize _ _ (by rw [hx.1])
    simp only [lits, List.length_map, List.length_take, List.length_drop] at h1
    refine ⟨zs.take len', ?_, fun x hx => hwz x (List.mem_of_mem_take hx)⟩
    by_cases h0 : len' = 0
    · subst h0
      exact ⟨by simp, .inl ⟨by simp, .inr ⟨a, cap', rfl⟩⟩⟩
    · have hlz : len' ≤ zs.length := by omega
      obtain ⟨b, off, rfl, hc'⟩ := ints_at hcell (by omega)
      have hlen : (zs.take len').length = len' := by simp [hlz]
      refine ⟨by omega, .inr ⟨b, off, cap', by rw [hlen], ?_, ?_⟩⟩
      · refine hlt (.cell b off) ?_
        rw [hx.2]
        exact MemPlace.mem_row.2 ⟨0, by omega, by simp⟩
      · intro j hj
        rw [hlen] at hj
        have := hc' j (by omega)
        rw [this]
        simp only [List.getD_eq_getElem?_getD, List.getElem?_take]
        rw [if_pos hj]
theorem OpsAre.arg {H : Type} {enc : TypeId × Value → H} {P : Program} {W : World} {b0 : Nat} {t e u : TypeId} {f0 f1 f2 f3 : Field} {v : Value} {d : DataW H} {p : List MemPlace} {r : Reach}
    (ht : P.underlying t = some (.slice e)) (hs : P.underlying e = some (.struct #[f0, f1, f2, f3])) (hC : P.cellsOf e = 4) (o0 : f0.offset = 0) (o1 : f1.offset = 1) (o2 : f2.offset = 2) (o3 : f3.offset = 3)
    (c0 : P.cellsOf f0.type = 1) (c1 : P.cellsOf f1.type = 1) (c2 : P.cellsOf f2.type = 1) (c3 : P.cellsOf f3.type = 1)
    (h0 : P.underlying f0.type = some (.int .i64)) (h1 : P.underlying f1.type = some (.int .u64)) (h2 : P.underlying f2.type = some (.int .i64)) (h3 : P.underlying f3.type = some (.slice u)) (hu : P.underlying u = some (.int .u8)) (hcu : P.cellsOf u = 1)
    (hbe : P.bytesOf e = 48) (hbu : P.bytesOf u = 1) (hval : Value.okWide P W r b0 t v)
    (h : DataW.Trod enc P W 0 (fun _ => true) true t v d p) (hlt : ∀ x ∈ p, x.block < W.heap.size) (hsize : ∀ x ∈ d.weights P t, x ≤ reachBytes) : ∃ n f, OpsAre W v n f := by
  obtain ⟨a0, len, cap, rfl⟩ : ∃ a l c, v = .slice a l c := okWide_slice ht hval
  obtain ⟨fuel, hf⟩ := h
  rcases Go.Deep.open_slice ht hf with ⟨hcs, hx⟩ | ⟨a', len', cap', m, n, D, Pl, hcs, hab, hl, hm, hmm, hx, hel⟩
  · simp [Value.cells] at hcs
    obtain ⟨rfl, rfl, rfl⟩ := hcs
    exact ⟨0, fun _ => default, by omega, none, 0, rfl, fun k hk => by omega⟩
  · simp [Value.cells] at hcs
    obtain ⟨rfl, rfl, rfl⟩ := hcs
    simp only [if_true] at hmm
    subst hmm
    simp only [Prod.mk.injEq] at hx
    obtain ⟨hd, hp⟩ := hx
    have hn : len * 48 ≤ reachBytes := by
      have := hsize ((((List.range len).map D).length + ((List.range (m - len)).map fun j => D (len + j)).length) * P.bytesOf e) (by rw [hd]; simp [DataW.weights, ht])
      simp only [List.length_map, List.length_range] at this
      rw [hbe] at this
      omega
    have hrb : reachBytes = 140737488351232 := rfl
    have hrd : ∀ j, ∃ (x : OpR), j < len → W.cell? (a'.add (j * 4)) = some (.int .i64 x.k) ∧ W.cell? (a'.add (j * 4 + 1)) = some (.int .u64 x.a) ∧ W.cell? (a'.add (j * 4 + 2)) = some (.int .i64 x.n) ∧ W.cell? (a'.add (j * 4 + 3)) = some x.v ∧ OpOk W x := by
      intro j
      by_cases hk : j < len
      · obtain ⟨cs, hcs, htr⟩ := hel j (by omega)
        rw [hC] at hcs
        obtain ⟨y0, y1, y2, y3, q, hy, hlen, g0, g1, g2, g3⟩ := Go.Joins.trod_struct4 hs htr
        rw [hC] at hlen
        rw [o0, c0] at g0
        rw [o1, c1] at g1
        rw [o2, c2] at g2
        rw [o3, c3] at g3
        obtain ⟨x, e0, _, w0⟩ := DataW.trod_int h0 g0
        obtain ⟨y, e1, _, w1⟩ := DataW.trod_int h1 g1
        obtain ⟨z, e2, _, w2⟩ := DataW.trod_int h2 g2
        obtain ⟨q0, q1, q2, q3, rfl⟩ : ∃ q0 q1 q2 q3, cs = [q0, q1, q2, q3] := by
          match cs, hlen with
          | [q0, q1, q2, q3], _ => exact ⟨q0, q1, q2, q3, rfl⟩
        simp at e0 e1 e2
        subst e0 e1 e2
        simp only [List.drop_succ_cons, List.drop_zero, List.take_succ_cons, List.take_zero] at g3
        simp only [Prod.mk.injEq] at hy
        obtain ⟨hy1, hy2⟩ := hy
        have hDm : D j ∈ (List.range len).map D := List.mem_map.2 ⟨j, List.mem_range.2 hk, rfl⟩
        obtain ⟨yd, yp⟩ := y3
        have hp3 : ∀ x ∈ yp, x.block < W.heap.size := fun x hx => hlt x (by
          rw [hp]
          refine List.mem_append_right _ (List.mem_flatMap.2 ⟨j, List.mem_range.2 (by omega), ?_⟩)
          rw [hy2]
          simp [hx])
        obtain ⟨l, hI, hw⟩ := trod_ints h3 hu hcu g3 hp3 (fun elems spare hh => by
          have hh' : yd = .slice elems spare := hh
          have h5 : (elems.length + spare.length) * P.bytesOf u ∈ (D j).weights P e := by
            rw [hy1, hh']
            simp [DataW.weights, DataW.weightsEach, hs, h3]
          have h6 := hsize _ (by
            rw [hd]
            simp only [DataW.weights, ht]
            exact List.mem_cons_of_mem _ (List.mem_append_left _ (weights_all_mem hDm h5)))
          rw [hbu] at h6
          omega)
        have hh := (World.cells?_some hcs).2.2
        have j0 := hh 0 (by omega)
        have j1 := hh 1 (by omega)
        have j2 := hh 2 (by omega)
        have j3 := hh 3 (by omega)
        rw [Addr.add_add] at j0 j1 j2 j3
        refine ⟨⟨x, y, z, q3, l⟩, fun _ => ⟨by simpa using j0, by simpa using j1, by simpa using j2, by simpa using j3, hI, fun y hy => ?_, w0, w1, w2, fun b o n c hv => ?_⟩⟩
        · have := hw y hy
          simp [Lit.wf, IntKind.min, IntKind.max, IntKind.signed, IntKind.bits] at this
          omega
        · simp only at hv
          subst hv
          obtain ⟨_, ⟨_, hq⟩ | ⟨b', o', c', hq, hb', _⟩⟩ := hI
          · right
            rcases hq with hq | ⟨_, _, hq⟩ <;> simp at hq
            exact hq.2.1
          · left
            simp at hq
            obtain ⟨⟨rfl, rfl⟩, _⟩ := hq
            exact hb'
      · exact ⟨default, fun h => absurd h hk⟩
    obtain ⟨f, hc⟩ : ∃ f : Nat → OpR, ∀ j, j < len → W.cell? (a'.add (j * 4)) = some (.int .i64 (f j).k) ∧ W.cell? (a'.add (j * 4 + 1)) = some (.int .u64 (f j).a) ∧ W.cell? (a'.add (j * 4 + 2)) = some (.int .i64 (f j).n) ∧ W.cell? (a'.add (j * 4 + 3)) = some (f j).v ∧ OpOk W (f j) :=
      ⟨fun k => (hrd k).choose, fun k => (hrd k).choose_spec⟩
    refine ⟨len, f, by omega, some a', _, rfl, fun k hk => ?_⟩
    obtain ⟨b, off, spot⟩ := a'
    obtain ⟨i0, i1, i2, i3, i4⟩ := hc k hk
    have hspot : spot = none := by
      have := (hc 0 (by omega)).1
      simpa [Addr.add] using World.cell?_spot this
    subst hspot
    have add : ∀ j, (⟨b, off, none⟩ : Addr).add j = ⟨b, off + j, none⟩ := fun j => by unfold Addr.add; split <;> simp_all
    rw [add] at i0 i1 i2 i3
    exact ⟨b, off, rfl, World.block_lt_of_cell? W _ i0, i0, by rw [Nat.add_assoc]; exact i1, by rw [Nat.add_assoc]; exact i2, by rw [Nat.add_assoc]; exact i3, i4⟩
theorem OpOk.below {w w' : World} {x : OpR} (h : OpOk w x) (hb : Below w.heap.size w w') : OpOk w' x :=
  ⟨h.ints.below hb, h.bytes, h.wk, h.wa, h.wn, fun b o n c e => by have := hb.size; rcases h.lt b o n c e with h | h; left; omega; exact .inr h⟩
theorem OpsAre.below {w w' : World} {v : Value} {n : Nat} {f : Nat → OpR} (h : OpsAre w v n f) (hb : Below w.heap.size w w') : OpsAre w' v n f := by
  obtain ⟨h0, a, cap, hv, h⟩ := h
  refine ⟨h0, a, cap, hv, fun j hj => ?_⟩
  obtain ⟨b, o, h1, h2, h3, h4, h5, h6, h7⟩ := h j hj
  exact ⟨b, o, h1, by have := hb.size; omega, (hb.cell (p := ⟨b, o + j * 4, none⟩) h2).trans h3, (hb.cell (p := ⟨b, o + j * 4 + 1, none⟩) h2).trans h4, (hb.cell (p := ⟨b, o + j * 4 + 2, none⟩) h2).trans h5, (hb.cell (p := ⟨b, o + j * 4 + 3, none⟩) h2).trans h6, h7.below hb⟩
end Go.Proofs.YtcpkpljeimbdiaaGreat.K
namespace Go.Proofs.YtcpkpljeimbdiaaGreat.W
open Go.RowKit
open Aid K
set_option linter.unusedSimpArgs false
set_option linter.unusedVariables false
def numsF (l : List Int) : List Int := (l.filter fun a => decide (a % 4 = 1)).map fun a => a / 4
def nextF (n : Int) (l : List Int) : Int := l.foldl (fun n a => if a % 4 = 1 then a / 4 + 1 else n) n
abbrev Own64 (w : World) (base : Nat) (v : Value) (l : List Int) : Prop := w.ownsRow base 37 1 v l.length (l.map (.int .u64))
def NumEnd (O Q : Nat → Prop) (g p : Nat) (s : LSt) (st : DSt) (w : World) (e : Ending) (w' : World) : Prop :=
  ∃ v xs, e = .returned v ∧ AreasOf st xs ∧ xs.length ≤ st.C ∧ Own64 w' w.heap.size v (numsF (QU.srt xs)) ∧ (∀ x ∈ QU.srt xs, 0 ≤ x ∧ x < 18446744073709551616) ∧ LogAt O Q w g p { s with next := nextF s.next (QU.srt xs) } st O Q w' ∧ Keeps (fun k => k = g) w w'
theorem info_u64 : (Tryz.prog.info? 37).map (fun i => (i.zero, i.size, i.bytes)) = some (some (.int .u64 0), 1, 8) := by kernel_rfl
theorem keeps_below {P : Nat → Prop} {w1 wr w2 : World} (h : Keeps P w1 wr) (hb : Below w1.heap.size wr w2) : Keeps P w1 w2 :=
  ⟨hb.os.trans h.os, hb.tape.trans h.tape, hb.output.trans h.output, Nat.le_trans h.size hb.size, fun k hk hn => (hb.block k hk).trans (h.block k hk hn), fun k hk => (hb.block k hk.lt).trans (h.rows k hk)⟩
theorem blk_below' {B : Nat} {w w' : World} {g : Nat} {T : TypeId} {cs : Array Value} (h : Blk w g T cs) (hb : Below B w w') (hg : g < B) : Blk w' g T cs := by
  unfold Blk at h ⊢
  rw [hb.block g hg]; exact h
theorem own64_keep {O : Nat → Prop} {w w' : World} {base : Nat} {v : Value} {l : List Int} (h : Own64 w base v l) (hK : Keeps O w w') (hO : ∀ g, base ≤ g → ¬ O g) : Own64 w' base v l := by
  obtain ⟨h1, h2⟩ := h
  refine ⟨h1, ?_⟩
  rcases h2 with h2 | ⟨g, cap, cur, rfl, hb2, hg, rest⟩
  · exact .inl h2
  · exact .inr ⟨g, cap, cur, rfl, hb2, blk_keep hg hK (hO g hb2), rest⟩
theorem own64_base {w : World} {base base' : Nat} {v : Value} {l : List Int} (h : Own64 w base v l) (hb : base' ≤ base) : Own64 w base' v l := by
  obtain ⟨h1, h2⟩ := h
  refine ⟨h1, ?_⟩
  rcases h2 with h2 | ⟨g, cap, cur, rfl, hb2, hg, rest⟩
  · exact .inl h2
  · exact .inr ⟨g, cap, cur, rfl, by omega, hg, rest⟩
set_option maxRecDepth 100000 in
set_option maxHeartbeats 2000000 in
theorem numbers_any (O Q : Nat → Prop) (g p : Nat) (s : LSt) (st : DSt) (w : World) (hW : WalIs O Q w g p s) (hD : DiskIs O w p st) (hO : ∀ k, O k → k < w.heap.size) (hC : st.C ≤ 4398046511104) :
    Calls Tryz.prog 26 #[.pointer (some ⟨g, 0, none⟩)] w (NumEnd O Q g p s st w) := by
  have hWis := hW
  obtain ⟨ov, lv, oldv, hW⟩ := hW
  obtain ⟨c0, c1, c2, c3, c4, c5, c6⟩ := blk7 hW.blk
  have HAR := Lib.hid (areas_any O p st w hD hC)
  have HREF := Lib.hid (LogAt.refl hWis hD hO)
  have HW := Lib.hid hW
  obtain ⟨iu, hiu, hzu, hsu, hbu⟩ := info_parts info_u64
  clear hW hWis hD
  go_enter Tryz.func26, Tryz.ntmps26
  go_wp2_with fail
  refine HAR.out.mono ?_
  rintro e w1 ⟨v, xs, rfl, ⟨hxs, hxl⟩, hsrt, hb1⟩
  obtain ⟨Y, hY⟩ : ∃ Y, QU.srt xs = Y := ⟨_, rfl⟩
  rw [hY] at hsrt
  have hYb : ∀ x ∈ Y, 0 ≤ x ∧ x < 18446744073709551616 := fun x hx => by
    rw [← hY] at hx
    have := hxs.2.1 x ((List.mergeSort_perm xs _).mem_iff.1 hx)
    simp [Lit.wf, IntKind.min, IntKind.max, IntKind.signed, IntKind.bits] at this
    omega
  have hYl : Y.length ≤ 4398046511104 := by rw [← hY, show (QU.srt xs).length = xs.length from (List.mergeSort_perm xs _).length_eq]; omega
  have hI : Ints w1 .u64 v Y := by
    rcases hsrt with ⟨rfl, rfl⟩ | ⟨b, cap, rfl, h1, h2, h3⟩
    · exact Ints.nil _ _
    · refine ⟨by omega, .inr ⟨b, 0, cap, rfl, ?_, fun j hj => ?_⟩⟩
      · obtain ⟨rest, h3⟩ := h3; exact Blk.lt h3
      · rw [Nat.zero_add]
        refine h3.cell (by simpa using hj) ?_
        rw [getElem!_pos _ _ (by simpa using hj), List.getD_eq_getElem?_getD, List.getElem?_eq_getElem hj]
        rfl
  have hvb : ∀ k, v.ownBlock = some k → k ≠ g := fun k hk => by
    rcases hsrt with ⟨rfl, _⟩ | ⟨b, cap, rfl, h1, _⟩
    · cases hk
    · have e : b = k := by simpa [Value.ownBlock] using hk
      have := Blk.lt HW.out.blk
      omega
  obtain ⟨va, vc, rfl⟩ := hI.form
  have HI := Lib.hid hI
  have HYB := Lib.hid hYb
  have HXS := Lib.hid (And.intro hxs (And.intro hxl hY))
  have HB1 := Lib.hid hb1
  have HVB := Lib.hid hvb
  clear hI hYb hxs hxl hY hsrt hb1 HAR hvb
  obtain ⟨n, hn⟩ : ∃ n, Y.length = n := ⟨_, rfl⟩
  have HN := Lib.hid hn
  rw [hn] at hYl ⊢
  clear hn
  have hgl : g < w.heap.size := Blk.lt HW.out.blk
  have hb1s := HB1.out.size
  have HW1 := Lib.hid (HW.out.below HB1.out)
  have hgl1 : g < w1.heap.size := by omega
  have HBK := Lib.hid HW1.out.blk
  clear c0 c1 c2 c3 c4 c5 c6
  go_wp2_with fail
  go_loopw [3, 12] (fun x3 x12 wr => ∃ k : Nat, x12 = .int .i64 k ∧ k ≤ n ∧ Hid (Own64 wr w1.heap.size x3 (numsF (Y.take k))) ∧ Hid (Blk wr g 75 (walV ov p s.first lv oldv (nextF s.next (Y.take k)) s.code)) ∧ Hid (Keeps (fun k => k = g) w1 wr)) (fun _ x12 _ => (n - intOf x12).toNat)
  case atStart => exact ⟨0, rfl, Nat.zero_le _, Lib.hid (World.ownsRow_nil _ _ _ _), HBK, Lib.hid (Keeps.refl _ _)⟩
  case round =>
    obtain ⟨k, rfl, hk, hO3, hWr, hKr⟩ := hrel
    have hsz := hKr.out.size
    by_cases hlt : (k : Int) < (n : Int)
    · have hkY : k < Y.length := by rw [HN.out]; omega
      have hIr := ints_kept2 HI.out hKr.out (fun b hb => HVB.out b hb)
      obtain ⟨b, o, rfl, hb, hcell⟩ := hIr.at_ (k := k) hkY rfl
      obtain ⟨y, hy⟩ : ∃ y, Y.getD k 0 = y := ⟨_, rfl⟩
      rw [hy] at hcell
      have hyk : Y[k]? = some y := by rw [← hy, List.getD_eq_getElem?_getD, List.getElem?_eq_getElem hkY]; rfl
      have htk : Y.take (k + 1) = Y.take k ++ [y] := by rw [List.take_add_one, hyk]; rfl
      obtain ⟨hy0, hy1⟩ := HYB.out y (List.mem_of_getElem? hyk)
      have hn1 : numsF (Y.take (k + 1)) = if y % 4 = 1 then numsF (Y.take k) ++ [y / 4] else numsF (Y.take k) := by
        rw [htk]; unfold numsF
        rw [List.filter_append, List.map_append]
        by_cases h : y % 4 = 1
        · rw [if_pos h]; simp [h]
        · rw [if_neg h]; simp [h]
      have hn2 : nextF s.next (Y.take (k + 1)) = if y % 4 = 1 then y / 4 + 1 else nextF s.next (Y.take k) := by
        rw [htk]; unfold nextF
        rw [List.foldl_append]
        rfl
      have HN1 := Lib.hid (And.intro hn1 hn2)
      have hnl : (numsF (Y.take k)).length ≤ 4398046511104 := by
        unfold numsF
        rw [List.length_map]
        have h1 := List.length_filter_le (fun a => decide (a % 4 = 1)) (Y.take k)
        rw [List.length_take] at h1
        omega
      clear hIr hyk htk hn1 hn2 hy
      have hinext : wrap64 ((k : Int) + 1) = ((k + 1 : Nat) : Int) := by rw [← IntWalk.i64_left]; exact IntWalk.i64_in _ (by omega)
      have HINX := Lib.hid hinext
      clear hinext
      by_cases hm : y % 4 = 1
      · have hwq : IntKind.u64.wrap (y / 4 + 1) = y / 4 + 1 := by rw [IntKind.wrap_u64]; omega
        have hdv : y.tdiv 4 = y / 4 := Int.tdiv_eq_ediv_of_nonneg hy0
        have htm : y.tmod 4 = y % 4 := Int.tmod_eq_emod_of_nonneg hy0
        go_wp2_with (at_builtin; refine wpList_push _ (by rfl) _ _ 60 rfl w1.heap.size 37 iu (.int .u64 0) 8 Tryz.underlying60 hiu hzu hsu hbu rfl _ (numsF (Y.take k)).length _ rfl (hO3.out.alloc _) wr.heap.size (.int .u64 (y / 4)) rfl (cell_new _ _ _ _ rfl) rfl (by unfold maxLen; omega) (by omega) (by simp; omega) ?_; intro v' w2 hown2 hb2; have hbX : Below w1.heap.size wr w2 := ((Below.refl _ _).alloc (by omega) _).trans hb2; have hB2 := blk_below' hWr.out hbX hgl1; have g5 := (blk7 hB2).2.2.2.2.2.1; have f5 := (free7 hB2).2.2.2.2.2.1; have HX := Lib.hid (And.intro hown2 (And.intro hbX hB2)); clear hown2 hbX hB2 hb2)
        obtain ⟨hown2, hbX, hB2⟩ := HX.out
        have hKX := keeps_below hKr.out hbX
        have hKg : Keeps (fun k => k = g) w2 (w2.setCell ⟨g, 5, none⟩ (.int .u64 (y / 4 + 1))) := set_keeps (Keeps.refl _ _) rfl (StrRow.no_blk hB2 (by decide))
        refine ⟨⟨k + 1, rfl, by omega, Lib.hid ?_, Lib.hid ?_, Lib.hid (hKX.trans hKg (fun k hk => .inl hk))⟩, by simp only [intOf]; omega⟩
        · rw [HN1.out.1, if_pos hm]
          refine own64_keep ?_ hKg (fun g' hg' e => by omega)
          show World.ownsRow _ _ _ _ _ _ _
          simpa using hown2
        · rw [HN1.out.2, if_pos hm]
          exact hB2.set 5 _
      · have hmb : (y % 4 == 1) = false := by rw [beq_eq_false_iff_ne]; exact hm
        have htm : y.tmod 4 = y % 4 := Int.tmod_eq_emod_of_nonneg hy0
        go_wp2_with fail
        refine ⟨⟨k + 1, rfl, by omega, ?_, ?_, hKr⟩, by simp only [intOf]; omega⟩
        · rw [HN1.out.1, if_neg hm]; exact hO3
        · rw [HN1.out.2, if_neg hm]; exact hWr
    · go_wp2_with fail
      go_ret
      have hkn : k = n := by omega
      subst hkn
      have ht : Y.take k = Y := List.take_of_length_le (by rw [HN.out]; exact Nat.le_refl _)
      have h1 := hO3.out
      have h2 := hWr.out
      rw [ht] at h1 h2
      obtain ⟨q1, q2, q3⟩ := HXS.out
      have hKw : Keeps (fun k => k = g) w wr := (Keeps.of_below (O := fun k => k = g) HB1.out).trans hKr.out (fun k hk => .inl hk)
      have hWn := HW.out.calls (O' := O) (s' := { s with next := nextF s.next Y }) hKw (fun k hk => .inr hk) (fun k hk => .inl hk) h2 rfl rfl rfl
      refine ⟨_, xs, rfl, q1, q2, ?_, by rw [q3]; exact HYB.out, ?_, hKw⟩
      · rw [q3]
        exact own64_base h1 (by omega)
      · rw [q3]
        exact ⟨⟨_, _, _, hWn⟩, HREF.out.disk.keep hKw (fun k hk e => HW.out.apart k (e ▸ HW.out.qg) hk), fun k hk => by have := hO k hk; have := hKw.size; omega, fun k hk => .inl hk, keeps_mono hKw (fun k hk => .inr (hk ▸ HW.out.qg))⟩
end Go.Proofs.YtcpkpljeimbdiaaGreat.W
namespace Go.Proofs.YtcpkpljeimbdiaaGreat.W
open Go.RowKit
open Aid K
set_option linter.unusedSimpArgs false
set_option linter.unusedVariables false
theorem ret_i {k : IntKind} {a b : Int} (h : a = b) : Ending.returned (.int k a) = .returned (.int k b) := by rw [h]
def hasB (l : List Int) (x : Int) : Bool := l.contains x
def ixF (l : List Int) (x : Int) : Int := if l.contains x then (l.idxOf x : Int) else -1
theorem not_take_next {l : List Int} {x y : Int} {k : Nat} (h : (l.take k).contains x = false) (hk : k < l.length) (hy : l.getD k 0 = y) (hne : x ≠ y) : (l.take (k + 1)).contains x = false := by
  have e1 : l[k] = y := by rw [← hy]; simp [List.getD_eq_getElem?_getD, hk]
  rw [List.take_succ_eq_append_getElem hk, e1]
  simp only [List.contains_eq_any_beq, List.any_append, List.any_cons, List.any_nil] at h ⊢
  rw [h]; simp [hne]
theorem ix_at {l : List Int} {x : Int} {k : Nat} (h : (l.take k).contains x = false) (hk : k < l.length) (hy : l.getD k 0 = x) : ixF l x = (k : Int) := by
  have e1 : l[k] = x := by rw [← hy]; simp [List.getD_eq_getElem?_getD, hk]
  have hm : x ∈ l := by rw [← e1]; exact List.getElem_mem hk
  unfold ixF
  rw [if_pos (by simpa using hm)]
  have hn : x ∉ l.take k := by intro hh; have : (l.take k).contains x = true := by simpa using hh
                               rw [this] at h; cases h
  have hd : l = l.take k ++ x :: l.drop (k + 1) := by rw [← e1, ← List.drop_eq_getElem_cons hk, List.take_append_drop]
  rw [hd, List.idxOf_append, if_neg hn]
  simp [List.idxOf_cons]; omega
theorem ix_no {l : List Int} {x : Int} (h : (l.take l.length).contains x = false) : ixF l x = -1 := by
  rw [List.take_length] at h
  unfold ixF; rw [h]; simp
theorem ix_has (l : List Int) (x : Int) : decide (0 ≤ ixF l x) = hasB l x := by
  unfold ixF hasB
  cases h : l.contains x <;> simp <;> omega
set_option maxRecDepth 100000 in
set_option maxHeartbeats 1000000 in
theorem index64_any (v : Value) (l : List Int) (x : Int) (w : World) (h : Ints w .u64 v l) : Calls Tryz.prog 68 #[v, .int .u64 x] w fun e w' => e = .returned (.int .i64 (ixF l x)) ∧ w' = w := by
  have HI := Lib.hid h
  have h63 := h.1
  clear h
  obtain ⟨a, c, rfl⟩ := Ints.form HI.out
  go_enter Tryz.func68, Tryz.ntmps68
  go_wp2_with fail
  go_loop [8] (fun i => ∃ k : Nat, i = .int .i64 k ∧ k ≤ l.length ∧ Hid ((l.take k).contains x = false)) (fun i => l.length - (intOf i).toNat)
  case atStart => exact ⟨0, rfl, Nat.zero_le _, by simp [Hid]⟩
  case round =>
    obtain ⟨k, rfl, hk, HK⟩ := hrel
    by_cases hlt : (k : Int) < (l.length : Int)
    · obtain ⟨y, hy⟩ : ∃ y, l.getD k 0 = y := ⟨_, rfl⟩
      obtain ⟨b1, o1, rfl, _, cy⟩ := Ints.at_ HI.out (k := k) (by omega) hy
      by_cases hxy : x = y
      · have hb : (x == y) = true := by rw [beq_iff_eq]; exact hxy
        have HX : Hid (ixF l x = (k : Int)) := ix_at HK.out (by omega) (hy.trans hxy.symm)
        clear hxy hy
        go_wp2_with fail
        go_ret
        exact ⟨ret_i HX.out.symm, rfl⟩
      · have hb : (x == y) = false := by rw [beq_eq_false_iff_ne]; exact hxy
        have HX : Hid ((l.take (k + 1)).contains x = false) := not_take_next HK.out (by omega) hy hxy
        clear hxy hy
        go_wp2_with fail
        exact ⟨⟨k + 1, by go_num, by omega, HX⟩, by simp [intOf]; omega⟩
    · have hke : k = l.length := by omega
      subst hke
      have HX : Hid (ixF l x = -1) := ix_no HK.out
      go_wp2_with fail
      go_ret
      exact ⟨ret_i HX.out.symm, rfl⟩
set_option maxRecDepth 100000 in
theorem contains64_any (v : Value) (l : List Int) (x : Int) (w : World) (h : Ints w .u64 v l) : Calls Tryz.prog 53 #[v, .int .u64 x] w fun e w' => e = .returned (.bool (hasB l x)) ∧ w' = w := by
  have hx : Hid (decide (0 ≤ ixF l x) = hasB l x) := ix_has l x
  obtain ⟨i, hi⟩ : ∃ i, ixF l x = i := ⟨_, rfl⟩
  rw [hi] at hx
  have HI := Lib.hid hi
  clear hi
  go_enter Tryz.func53, Tryz.ntmps53
  go_wp2_with (go_at_call 68; refine (index64_any _ l x _ h).mono ?_; rintro e w1 ⟨rfl, rfl⟩; rw [HI.out])
  go_ret
  exact ⟨ret_bool hx.out, rfl⟩
noncomputable def setF : List Int → List Int → DSt → DSt × Int
  | [], _, st => (st, 0)
  | n :: ns, gone, st =>
    let k : Int := if hasB gone n = true then 2 else 1
    if doE st k (4 * n + 1) 0 [] ≠ 0 then (doS st k (4 * n + 1) 0 [], doE st k (4 * n + 1) 0 []) else setF ns gone (doS st k (4 * n + 1) 0 [])
def StlEnd (O : Nat → Prop) (p : Nat) (r : DSt × Int) (w : World) (e : Ending) (w' : World) : Prop :=
  e = .returned (.int .i64 r.2) ∧ Keeps O w w' ∧ ∃ O', DiskIs O' w' p r.1 ∧ (∀ k, O' k → O k ∨ w.heap.size ≤ k) ∧ (∀ k, O' k → k < w'.heap.size)
def StlInv (O : Nat → Prop) (p : Nat) (R : Int) (I : Nat) (N G : List Int) (T : DSt × Int) (w : World) (k : Nat) (wr : World) : Prop :=
  ∃ st O' i, DiskIs O' wr p st ∧ Keeps O w wr ∧ (∀ k, O' k → O k ∨ w.heap.size ≤ k) ∧ (∀ k, O' k → k < wr.heap.size) ∧ T = setF (N.drop k) G st ∧ FitS st R i ∧ i + (N.length - k) ≤ I
set_option maxRecDepth 100000 in
set_option maxHeartbeats 2000000 in
theorem settle_any (O : Nat → Prop) (g p : Nat) (ov : Value) (first : Int) (lv oldv : Value) (next code : Int) (st : DSt) (R : Int) (i : Nat) (v u : Value) (N G : List Int) (w : World) (hB : Blk w g 75 (walV ov p first lv oldv next code)) (hgo : ¬ O g) (hD : DiskIs O w p st) (hO : ∀ k, O k → k < w.heap.size)
    (hF : FitS st R i) (hi : i + N.length ≤ 4398046511103) (hR : R ≤ 9223372036854775807) (hI : Ints w .u64 v N) (hv : ∀ k, v.ownBlock = some k → ¬ O k) (hG : Ints w .u64 u G) (hu : ∀ k, u.ownBlock = some k → ¬ O k) (hN : ∀ x ∈ N, 0 ≤ x ∧ x < 4611686018427387904) :
    Calls Tryz.prog 31 #[.pointer (some ⟨g, 0, none⟩), v, u] w (StlEnd O p (setF N G st) w) := by
  obtain ⟨T, hT⟩ : ∃ T, setF N G st = T := ⟨_, rfl⟩
  rw [hT]
  obtain ⟨va, vc, rfl⟩ := hI.form
  have hgl := Blk.lt hB
  have hst : StlInv O p R (i + N.length) N G T w 0 w := ⟨st, O, i, hD, Keeps.refl _ _, fun k hk => .inl hk, hO, hT.symm, hF, by omega⟩
  have HST := Lib.hid hst
  have HI := Lib.hid hI
  have HG := Lib.hid hG
  have HB := Lib.hid hB
  have HV := Lib.hid (And.intro hv hu)
  have HNB := Lib.hid hN
  obtain ⟨n, hn⟩ : ∃ n, N.length = n := ⟨_, rfl⟩
  have HN := Lib.hid hn
  rw [hn] at hi ⊢
  clear hst hI hG hB hv hu hN hT hD hF hn
  go_enter Tryz.func31, Tryz.ntmps31
  go_wp2_with fail
  go_loopw [12] (fun x12 wr => ∃ k : Nat, x12 = .int .i64 k ∧ k ≤ n ∧ Hid (StlInv O p R (i + n) N G T w k wr)) (fun x12 _ => (n - intOf x12).toNat)
  case atStart => exact ⟨0, rfl, Nat.zero_le _, by rw [← HN.out]; exact HST⟩
  case round =>
    clear HST
    obtain ⟨k, rfl, hk, hinv⟩ := hrel
    obtain ⟨st', O', i', hD', hK', hgr, holt, hT, hF, hi'⟩ := hinv.out
    by_cases hlt : (k : Int) < (n : Int)
    · have hkN : k < N.length := by rw [HN.out]; omega
      have hIr := ints_kept2 HI.out hK' (fun b hb => HV.out.1 b hb)
      have hGr := ints_kept2 HG.out hK' (fun b hb => HV.out.2 b hb)
      have HGR0 := hgr
      obtain ⟨b, o, rfl, hb, hcell⟩ := hIr.at_ (k := k) hkN rfl
      obtain ⟨y, hy⟩ : ∃ y, N.getD k 0 = y := ⟨_, rfl⟩
      rw [hy] at hcell
      have hyk : N[k]? = some y := by rw [← hy, List.getD_eq_getElem?_getD, List.getElem?_eq_getElem hkN]; rfl
      obtain ⟨hy0, hy1⟩ := HNB.out y (List.mem_of_getElem? hyk)
      have hdr : N.drop k = y :: N.drop (k + 1) := by
        rw [List.drop_eq_getElem_cons hkN]
        congr 1
        rw [List.getElem?_eq_getElem hkN] at hyk
        cases hyk; rfl
      have hBr : Blk wr g 75 (walV ov p first lv oldv next code) := blk_keep HB.out hK' hgo
      have g1 := (blk7 hBr).2.1
      have hgr' := Blk.lt hBr
      have hgO : ¬ O' g := fun h => by
        rcases hgr g h with h1 | h1
        · exact hgo h1
        · omega
      have hgr : g < wr.heap.size := hgr'
      have HCO := Lib.hid (contains64_any u G y wr hGr)
      obtain ⟨bb, hbb⟩ : ∃ bb, hasB G y = bb := ⟨_, rfl⟩
      rw [hbb] at HCO
      have HBB := Lib.hid hbb
      have HT := Lib.hid hT
      have HF := Lib.hid (And.intro hF hi')
      have HK := Lib.hid hK'
      have HGR := Lib.hid (And.intro (show ∀ k, O' k → O k ∨ w.heap.size ≤ k from HGR0) holt)
      have HDI := Lib.hid hD'
      have HAR := Lib.hid (show ∀ w', Calls Tryz.prog 39 #[.int .u64 y] w' fun e w2 => e = .returned (.int .u64 (4 * y + 1)) ∧ w2 = w' from fun w' => area_any y w' hy0 (by omega))
      have hinext : wrap64 ((k : Int) + 1) = ((k + 1 : Nat) : Int) := by rw [← IntWalk.i64_left]; exact IntWalk.i64_in _ (by omega)
      have HINX := Lib.hid hinext
      clear hinext hIr hGr hbb hT hF hi' hK' holt hD' hBr hinv hy hyk HGR0
      go_wp2_with fail
      refine HCO.out.mono ?_
      rintro e w5 ⟨rfl, hw5⟩
      obtain rfl : wr = w5 := hw5.symm
      cases bb with
      | true =>
        obtain ⟨E, hE⟩ : ∃ E, doE st' 2 (4 * y + 1) 0 [] = E := ⟨_, rfl⟩
        obtain ⟨st2, hst2⟩ : ∃ st2, doS st' 2 (4 * y + 1) 0 [] = st2 := ⟨_, rfl⟩
        have HFC := Lib.hid (show ∀ w', Below wr.heap.size wr w' → w'.heap.size = wr.heap.size → Calls Tryz.prog 54 #[.pointer (some ⟨p, 0, none⟩), .int .u64 (4 * y + 1)] w' (DoEnd O' p E st2 w') from fun w' hb hs => by
          rw [← hE, ← hst2]
          exact free_do O' p st' R i' (4 * y + 1) 0 [] w' (HDI.out.below hb) HF.out.1 (by have := HF.out.2; have := HN.out; omega) hR (wf_u64 (by omega) (by omega)))
        have HTE := Lib.hid (show T = if E ≠ 0 then (st2, E) else setF (N.drop (k + 1)) G st2 from by
          rw [HT.out, hdr, setF]
          simp only [HBB.out]
          simp only [if_true, Bool.false_eq_true, if_false]
          rw [hE, hst2])
        have HFT := Lib.hid (show FitS st2 R (i' + 1) from by rw [← hst2]; exact fit_do (n := 0) HF.out.1 (by decide))
        clear hE hst2 hdr
        go_wp2_with fail
        have hS0 : wr.cell? ⟨g, 1, none⟩ = some (.pointer (some ⟨p, 0, none⟩)) := g1
        go_region_held3 (fun w' => w'.cell? ⟨g, 1, none⟩ = some (.pointer (some ⟨p, 0, none⟩))) (first | assumption) (first
          | (go_at_call 39; refine (HAR.out _).mono ?_; rintro e wz ⟨rfl, rfl⟩)
          | (go_at_call 54
             refine (HFC.out _ (Below.refl _ _).drew rfl).mono ?_
             rintro e wz ⟨rfl, hK, O2, hD2, hO2⟩
             have hSz : wz.cell? ⟨g, 1, none⟩ = some (.pointer (some ⟨p, 0, none⟩)) := (hK.cell (p := ⟨g, 1, none⟩) hgr hgO).trans g1
             have HSZ := Lib.hid (And.intro hK (And.intro hD2 hO2))
             clear hK hD2 hO2))
        all_goals
          have hKw : Keeps O w wz := HK.out.trans ((Keeps.of_below (O := O') (Below.refl wr.heap.size wr).drew).trans HSZ.out.1 (fun k hk => .inl hk)) (fun k hk => HGR.out.1 k hk)
          have hsz := HSZ.out.1.size
          have hgrow : ∀ k, O2 k → O k ∨ w.heap.size ≤ k := fun k hk => by
            rcases HSZ.out.2.2 k hk with h1 | h1
            · exact HGR.out.1 k h1
            · have := HK.out.size; exact .inr (by have h2 : wr.heap.size ≤ k := h1.1; omega)
          have holt : ∀ k, O2 k → k < wz.heap.size := fun k hk => by
            rcases HSZ.out.2.2 k hk with h1 | h1
            · have h3 : wr.heap.size ≤ wz.heap.size := hsz
              have := HGR.out.2 k h1; omega
            · exact h1.2
          have HEND := Lib.hid (And.intro hKw (And.intro HSZ.out.2.1 (And.intro hgrow holt)))
          clear hKw hgrow holt hSz HSZ
          by_cases hE0 : E = 0
          · subst hE0
            go_wp2_with fail
            refine ⟨⟨k + 1, rfl, by omega, Lib.hid ⟨st2, O2, i' + 1, HEND.out.2.1, HEND.out.1, HEND.out.2.2.1, HEND.out.2.2.2, ?_, HFT.out, ?_⟩⟩, by simp only [intOf]; omega⟩
            · rw [HTE.out, if_neg (by simp)]
            · have := HF.out.2; have := HN.out; omega
          · have hc1 : (E == 0) = false := by simpa using hE0
            have hc2 : (E != 0) = true := by simpa using hE0
            go_wp2_with fail
            go_ret
            rw [HTE.out, if_pos hE0]
            exact ⟨rfl, HEND.out.1, O2, HEND.out.2.1, HEND.out.2.2.1, HEND.out.2.2.2⟩
      | false =>
        obtain ⟨E, hE⟩ : ∃ E, doE st' 1 (4 * y + 1) 0 [] = E := ⟨_, rfl⟩
        obtain ⟨st2, hst2⟩ : ∃ st2, doS st' 1 (4 * y + 1) 0 [] = st2 := ⟨_, rfl⟩
        have HFC := Lib.hid (show ∀ w', Below wr.heap.size wr w' → w'.heap.size = wr.heap.size → Calls Tryz.prog 38 #[.pointer (some ⟨p, 0, none⟩), .int .u64 (4 * y + 1)] w' (DoEnd O' p E st2 w') from fun w' hb hs => by
          rw [← hE, ← hst2]
          exact sync_do O' p st' R i' (4 * y + 1) 0 [] w' (HDI.out.below hb) (fun k hk => by have := HGR.out.2 k hk; omega) HF.out.1 (by have := HF.out.2; have := HN.out; omega) hR (wf_u64 (by omega) (by omega)))
        have HTE := Lib.hid (show T = if E ≠ 0 then (st2, E) else setF (N.drop (k + 1)) G st2 from by
          rw [HT.out, hdr, setF]
          simp only [HBB.out]
          simp only [if_true, Bool.false_eq_true, if_false]
          rw [hE, hst2])
        have HFT := Lib.hid (show FitS st2 R (i' + 1) from by rw [← hst2]; exact fit_do (n := 0) HF.out.1 (by decide))
        clear hE hst2 hdr
        go_wp2_with fail
        have hS0 : wr.cell? ⟨g, 1, none⟩ = some (.pointer (some ⟨p, 0, none⟩)) := g1
        go_region_held3 (fun w' => w'.cell? ⟨g, 1, none⟩ = some (.pointer (some ⟨p, 0, none⟩))) (first | assumption) (first
          | (go_at_call 39; refine (HAR.out _).mono ?_; rintro e wz ⟨rfl, rfl⟩)
          | (go_at_call 38
             refine (HFC.out _ (Below.refl _ _).drew rfl).mono ?_
             rintro e wz ⟨rfl, hK, O2, hD2, hO2⟩
             have hSz : wz.cell? ⟨g, 1, none⟩ = some (.pointer (some ⟨p, 0, none⟩)) := (hK.cell (p := ⟨g, 1, none⟩) hgr hgO).trans g1
             have HSZ := Lib.hid (And.intro hK (And.intro hD2 hO2))
             clear hK hD2 hO2))
        all_goals
          have hKw : Keeps O w wz := HK.out.trans ((Keeps.of_below (O := O') (Below.refl wr.heap.size wr).drew).trans HSZ.out.1 (fun k hk => .inl hk)) (fun k hk => HGR.out.1 k hk)
          have hsz := HSZ.out.1.size
          have hgrow : ∀ k, O2 k → O k ∨ w.heap.size ≤ k := fun k hk => by
            rcases HSZ.out.2.2 k hk with h1 | h1
            · exact HGR.out.1 k h1
            · have := HK.out.size; exact .inr (by have h2 : wr.heap.size ≤ k := h1.1; omega)
          have holt : ∀ k, O2 k → k < wz.heap.size := fun k hk => by
            rcases HSZ.out.2.2 k hk with h1 | h1
            · have h3 : wr.heap.size ≤ wz.heap.size := hsz
              have := HGR.out.2 k h1; omega
            · exact h1.2
          have HEND := Lib.hid (And.intro hKw (And.intro HSZ.out.2.1 (And.intro hgrow holt)))
          clear hKw hgrow holt hSz HSZ
          by_cases hE0 : E = 0
          · subst hE0
            go_wp2_with fail
            refine ⟨⟨k + 1, rfl, by omega, Lib.hid ⟨st2, O2, i' + 1, HEND.out.2.1, HEND.out.1, HEND.out.2.2.1, HEND.out.2.2.2, ?_, HFT.out, ?_⟩⟩, by simp only [intOf]; omega⟩
            · rw [HTE.out, if_neg (by simp)]
            · have := HF.out.2; have := HN.out; omega
          · have hc1 : (E == 0) = false := by simpa using hE0
            have hc2 : (E != 0) = true := by simpa using hE0
            go_wp2_with fail
            go_ret
            rw [HTE.out, if_pos hE0]
            exact ⟨rfl, HEND.out.1, O2, HEND.out.2.1, HEND.out.2.2.1, HEND.out.2.2.2⟩
    · have hT2 : T = (st', 0) := by
        rw [hT, List.drop_eq_nil_of_le (by rw [HN.out]; omega)]
        rfl
      have HE := Lib.hid (And.intro hT2 (And.intro hK' (And.intro hD' (And.intro hgr holt))))
      clear hT2 hK' hD' hgr holt hT hF hi' hinv
      go_wp2_with fail
      go_ret
      rw [HE.out.1]
      exact ⟨rfl, HE.out.2.1, O', HE.out.2.2.1, HE.out.2.2.2.1, HE.out.2.2.2.2⟩
end Go.Proofs.YtcpkpljeimbdiaaGreat.W
namespace Go.Proofs.YtcpkpljeimbdiaaGreat.W
open Go.RowKit
open Aid K
set_option linter.unusedSimpArgs false
set_option linter.unusedVariables false
theorem old_push {O Q O5 Q5 : Nat → Prop} {w w5 wX : World} {g p B : Nat} {s : LSt} {st : DSt} {ov lv : Value} {oa : Option Addr} {n oc : Nat} {a b : Int} (hA : LogAt O Q w g p s st O5 Q5 w5) (hW : WalIn O5 Q5 w5 g p s ov lv (.slice oa n oc)) (hn : n = s.old.length)
    (hbX : Below w5.heap.size w5 wX) (hBB : Blk wX B 80 #[.int .u64 a, .int .u64 b]) (hl : (n + 1) * 16 ≤ 140737488355328) :
    ∃ a1 k1 w7, (∀ ty, (Builtin.append_ #[73, 73] ty #[.slice oa n oc, .slice (some ⟨B, 0, none⟩) 1 1]).run Tryz.prog wX = .ok (.slice a1 (n + 1) k1) w7) ∧
      Blk w7 g 75 (walV ov p s.first lv (.slice oa n oc) s.next s.code) ∧ ∃ Q7, LogAt O Q w g p { s with old := s.old ++ [(a, b)] } st O5 Q7 (w7.setCell ⟨g, 4, none⟩ (.slice a1 (n + 1) k1)) ∧ WalIn O5 Q7 (w7.setCell ⟨g, 4, none⟩ (.slice a1 (n + 1) k1)) g p { s with old := s.old ++ [(a, b)] } ov lv (.slice a1 (n + 1) k1) := by
  subst hn
  have hX := hW.below hbX
  obtain ⟨iu, hiu, hzu, hsu, hbu⟩ := info_parts seg_info
  obtain ⟨v1, w2, hrun1, hoff1, hK1, hown1⟩ := run_append_off (P := Tryz.prog) wX 73 80 iu _ 2 16 Tryz.underlying73 hiu hzu hsu hbu rfl (by decide) (by decide) _ _ _ hX.segs
    ⟨B, 0, none⟩ 1 1 [.int .u64 a, .int .u64 b] rfl (fun j u hj => by
      rw [add_any, hBB.cell, Nat.zero_add]
      simpa using hj) (fun u hu => by simp at hu; rcases hu with rfl | rfl <;> rfl) (by unfold maxLen; omega) (by omega)
  have hsegs : Segs w2 v1 (s.old ++ [(a, b)]) := by
    unfold Segs
    rw [List.length_append, segC_append]
    exact hoff1
  obtain ⟨a1, k1, rfl, _, _⟩ := OffRow.slice hsegs
  have hlen1 : (s.old ++ [(a, b)]).length = s.old.length + 1 := by rw [List.length_append]; rfl
  rw [hlen1] at hrun1 hsegs hown1
  obtain ⟨hnew, hKn⟩ := hX.old_new (fun k hk => by have := hA.olt k hk; have := hbX.size; omega) hK1 hsegs hown1
  have hb2 := blk_keep hX.blk hK1 (fun hk => offrow_ne hX.blk hX.segs (by decide) g hk rfl)
  have hKW : Keeps (fun k => Q5 k) w5 _ := (Keeps.of_below (O := fun k => Q5 k) hbX).trans hKn (fun k hk => .inl hk)
  refine ⟨a1, k1, w2, hrun1, hb2, _, hA.trans ⟨⟨_, _, _, hnew⟩, hA.disk.keep hKW (fun k hk hq => hW.apart k hq hk), fun k hk => by have := hA.olt k hk; have := hKW.size; omega, fun k hk => ?_, keeps_mono hKW (fun k hk => .inr hk)⟩, hnew⟩
  rcases hk with hk | hk | hk
  · exact .inl (.inl hk)
  · exact .inl (.inr hk)
  · rcases hown1 k hk with h1 | h1
    · exact .inl (.inr (hW.qs k h1))
    · exact .inr (by have := hbX.size; omega)
def folF (s : LSt) (n ix : Int) : Option LSt :=
  if s.old = [] ∨ ix < s.first then some { s with first := ix, L := [], old := s.old ++ [(n, ix)] }
  else if (s.L.length : Int) < ix - s.first then none
  else some { s with L := s.L.take (ix - s.first).toNat, old := s.old ++ [(n, ix)] }
def FolEnd (O Q : Nat → Prop) (g p : Nat) (s : LSt) (st : DSt) (r : Option LSt) (w : World) (e : Ending) (w' : World) : Prop :=
  e = .returned (.bool r.isSome) ∧ ∃ Q', LogAt O Q w g p (r.getD s) st O Q' w'
set_option maxRecDepth 100000 in
set_option maxHeartbeats 2000000 in
theorem follows_any (O Q : Nat → Prop) (g p : Nat) (s : LSt) (st : DSt) (n ix : Int) (w : World) (hW : WalIs O Q w g p s) (hD : DiskIs O w p st) (hO : ∀ k, O k → k < w.heap.size)
    (hf0 : 0 ≤ s.first ∧ s.first < 18446744073709551616) (hix : 0 ≤ ix ∧ ix < 18446744073709551616) (hL : s.L.length ≤ 4611686018427387904) (hol : s.old.length ≤ 4398046511104) :
    Calls Tryz.prog 29 #[.pointer (some ⟨g, 0, none⟩), .agg #[.int .u64 n, .int .u64 ix]] w (FolEnd O Q g p s st (folF s n ix) w) := by
  have hWis := hW
  obtain ⟨ov, lv, oldv, hW⟩ := hW
  obtain ⟨c0, c1, c2, c3, c4, c5, c6⟩ := blk7 hW.blk
  obtain ⟨f0, f1, f2, f3, f4, f5, f6⟩ := free7 hW.blk
  obtain ⟨vs, hrec⟩ := hW.recs
  obtain ⟨la, lc, rfl, hlc, hlz⟩ := hrec.row.slice
  obtain ⟨oa, oc, rfl, hoc, hoz⟩ := OffRow.slice hW.segs
  have hlen := hrec.len
  obtain ⟨Z, hZ⟩ : ∃ Z, folF s n ix = Z := ⟨_, rfl⟩
  rw [hZ]
  have HZ := Lib.hid hZ
  have HREF := Lib.hid (LogAt.refl hWis hD hO)
  have HW := Lib.hid hW
  obtain ⟨ON, hON⟩ : ∃ ON, s.old.length = ON := ⟨_, rfl⟩
  obtain ⟨LN, hLN⟩ : ∃ LN, vs.length = LN := ⟨_, rfl⟩
  rw [hON] at c4 hoc
  rw [hLN] at c3 hlc
  have HON := Lib.hid hON
  have HLN := Lib.hid hLN
  have hwL : IntKind.u64.wrap (LN : Int) = (LN : Int) := by rw [IntKind.wrap_u64]; omega
  have hgl := Blk.lt hW.blk
  clear hZ hWis hD hW hON hLN
  by_cases hz : ON = 0
  · have hzb : ((ON : Int) == 0) = true := by rw [hz]; rfl
    have HZE := Lib.hid hz
    clear hz
    go_enter Tryz.func29, Tryz.ntmps29
    go_wp2_with fail
    obtain ⟨wA, hwA⟩ : ∃ wA, w.alloc (.cells #[.int .u64 n, .int .u64 ix] 80) = wA := ⟨_, rfl⟩
    have hbA : Below w.heap.size w wA := by rw [← hwA]; exact (Below.refl _ _).alloc (Nat.le_refl _) _
    have hBA : Blk wA w.heap.size 80 #[.int .u64 n, .int .u64 ix] := by rw [← hwA]; exact Blk.alloc_new _ _ _
    rw [hwA]
    obtain ⟨B, hB⟩ : ∃ B, w.heap.size = B := ⟨_, rfl⟩
    have hgB : g < B := by omega
    rw [hB] at hBA ⊢
    have e0 := hBA.cell 0
    have e1 := hBA.cell 1
    obtain ⟨d0, d1, d2, d3, d4, d5, d6⟩ := blk7 (HW.out.below hbA).blk
    rw [HON.out] at d4
    rw [HLN.out] at d3
    clear hwA c0 c1 c2 c3 c4 c5 c6 f0 f1 f2 f3 f4 f5 f6
    go_quiet (fail)
    obtain ⟨wb, hwb⟩ : ∃ wb, wA.drewN nq = wb := ⟨_, rfl⟩
    have hbb : Below wA.heap.size wA wb := by rw [← hwb]; exact below_drewN (Below.refl _ _) nq
    have hbw : Below w.heap.size w wb := hbA.trans (hbb.mono hbA.size)
    rw [hwb]
    clear hwb
    have hBb : Blk wb B 80 #[.int .u64 n, .int .u64 ix] := blk_keep (O := fun _ => False) hBA (Keeps.of_below hbb) (fun h => h)
    have hWb := HW.out.below hbw
    obtain ⟨d0, d1, d2, d3, d4, d5, d6⟩ := blk7 hWb.blk
    obtain ⟨f0, f1, f2, f3, f4, f5, f6⟩ := free7 hWb.blk
    have e0 := hBb.cell 0
    have e1 := hBb.cell 1
    rw [HON.out] at d4
    rw [HLN.out] at d3
    -- the records go
    have HAB := Lib.hid ((HREF.out.below hbw))
    have hKg : Keeps (fun k => k = g) wb (wb.setCell ⟨g, 2, none⟩ (.int .u64 ix)) := set_keeps (Keeps.refl _ _) rfl (StrRow.no_blk hWb.blk (by decide))
    have hW1 := hWb.turn (s' := { s with first := ix }) hKg (by simp [World.setCell]) (hWb.blk.set 2 _) rfl rfl rfl
    have hA1 : LogAt O Q w g p { s with first := ix } st O Q (wb.setCell ⟨g, 2, none⟩ (.int .u64 ix)) := HAB.out.trans ⟨⟨_, _, _, hW1⟩, HAB.out.disk.keep hKg (fun k hk e => hWb.apart k (e ▸ hWb.qg) hk), fun k hk => by have := HAB.out.olt k hk; have := hKg.size; omega, fun k hk => .inl hk, keeps_mono hKg (fun k hk => .inr (hk ▸ hWb.qg))⟩
    obtain ⟨vs1, hr1⟩ := hW1.recs
    obtain ⟨Q2, hA2, hW2⟩ := l_cut (vs' := []) (L' := []) (lv' := .slice none 0 0) hA1 hW1 hr1 rfl (OffRow.nil _ _ _) (fun k hk => by cases hk) (fun j v l hv hl => by cases hv)
    have hB2 : Blk ((wb.setCell ⟨g, 2, none⟩ (.int .u64 ix)).setCell ⟨g, 3, none⟩ (.slice none 0 0)) B 80 #[.int .u64 n, .int .u64 ix] := by
      have hK3 : Keeps (fun k => k = g) (wb.setCell ⟨g, 2, none⟩ (.int .u64 ix)) ((wb.setCell ⟨g, 2, none⟩ (.int .u64 ix)).setCell ⟨g, 3, none⟩ (.slice none 0 0)) := set_keeps (Keeps.refl _ _) rfl (StrRow.no_blk hW1.blk (by decide))
      exact blk_keep (blk_keep hBb hKg (by omega)) hK3 (by omega)
    obtain ⟨W2, hWW2⟩ : ∃ W2, (wb.setCell ⟨g, 2, none⟩ (.int .u64 ix)).setCell ⟨g, 3, none⟩ (.slice none 0 0) = W2 := ⟨_, rfl⟩
    rw [hWW2] at hA2 hW2 hB2
    have hdr : Below W2.heap.size W2 W2.drew := (Below.refl _ _).drew
    have hW2d := hW2.below hdr
    obtain ⟨vs2, hr2⟩ := hW2d.recs
    obtain ⟨Q3, hA3, hW3⟩ := l_cut (vs' := []) (L' := []) (lv' := .slice none 0 0) (hA2.below hdr) hW2d hr2 rfl (OffRow.nil _ _ _) (fun k hk => by cases hk) (fun j v l hv hl => by cases hv)
    have hB3 : Blk (W2.drew.setCell ⟨g, 3, none⟩ (.slice none 0 0)) B 80 #[.int .u64 n, .int .u64 ix] := by
      have hK3 : Keeps (fun k => k = g) W2.drew (W2.drew.setCell ⟨g, 3, none⟩ (.slice none 0 0)) := set_keeps (Keeps.refl _ _) rfl (StrRow.no_blk hW2d.blk (by decide))
      exact blk_keep (blk_keep (O := fun _ => False) hB2 (Keeps.of_below hdr) (fun h => h)) hK3 (by omega)
    obtain ⟨W3, hWW3⟩ : ∃ W3, (W2.setCell ⟨g, 3, none⟩ (.slice none 0 0)).drew = W3 := ⟨_, rfl⟩
    have hWW3' : W2.drew.setCell ⟨g, 3, none⟩ (.slice none 0 0) = W3 := hWW3
    rw [hWW3'] at hA3 hW3 hB3
    have HA3 := Lib.hid hA3
    have HW3 := Lib.hid hW3
    have HBB3 := Lib.hid hB3
    have HON3 := HON
    have HZ3 := Lib.hid (show some { s with first := ix, L := [], old := s.old ++ [(n, ix)] } = Z from by rw [← HZ.out]; unfold folF; rw [if_pos (.inl (List.eq_nil_of_length_eq_zero (by rw [HON.out]; exact HZE.out)))])
    obtain ⟨y0, y1, y2, y3, y4, y5, y6⟩ := blk7 hW2.blk
    obtain ⟨t0, t1, t2, t3, t4, t5, t6⟩ := free7 hW2.blk
    have e0 := hB2.cell 0
    have e1 := hB2.cell 1
    have hz0 : IntKind.u64.wrap 0 = 0 := by decide
    clear hA1 hW1 hr1 hA2 hW2 hB2 hdr hW2d hr2 hA3 hW3 hB3 hWW3' hKg hWb hBb hBA
    go_wp2_with fail
    try rw [hWW2]
    refine' wp_cut0 _ _ ?rega1 ?impa1
    case rega1 =>
      go_region_law (fail)
      all_goals
        refine ⟨rfl, ?_, ?_⟩
        · exact Eq.refl _
        · exact Eq.refl _
    case impa1 =>
      try rw [hWW3]
      obtain ⟨e0, e1⟩ := And.intro (HBB3.out.cell 0) (HBB3.out.cell 1)
      have hgl3 : g < W3.heap.size := Blk.lt HW3.out.blk
      have hbX : Below W3.heap.size W3 (W3.alloc (.cells #[.int .u64 n, .int .u64 ix] 80)).drew := ((Below.refl _ _).alloc (Nat.le_refl _) _).drew
      have hBX : Blk (W3.alloc (.cells #[.int .u64 n, .int .u64 ix] 80)).drew W3.heap.size 80 #[.int .u64 n, .int .u64 ix] := Blk.alloc_new _ _ _
      obtain ⟨a1, k1, w7, hrun, hb7, Q7, hA7, hW7⟩ := old_push HA3.out HW3.out rfl hbX hBX (by have := HON3.out; omega)
      rw [HON3.out] at hrun hb7 hA7
      obtain ⟨d0, d1, d2, d3, d4, d5, d6⟩ := blk7 HW3.out.blk
      rw [HON3.out] at d4
      obtain ⟨_, _, _, _, z4, _, _⟩ := blk7 hb7
      obtain ⟨_, _, _, _, y4, _, _⟩ := free7 hb7
      have x4 : ∀ x : Obj, (W3.alloc x).cell? ⟨g, 4, none⟩ = some (.slice oa ON oc) := fun x => (((Below.refl W3.heap.size W3).alloc (Nat.le_refl _) x).cell (p := ⟨g, 4, none⟩) hgl3).trans d4
      have HRUN := Lib.hid hrun
      have HA7 := Lib.hid hA7
      clear hbX hBX hrun hb7 hA7 hW7
      go_wp2_with fail
      refine' wp_cut0 _ _ ?reg1 ?imp1
      case reg1 =>
        go_region_law (refine step_append_off rfl (.tmp 63) (.tmp 65) 73 rfl _ _ w7 ⟨W3.heap.size, 0, none⟩ 1 1 rfl rfl HRUN.out ?_)
        all_goals
          refine ⟨rfl, ?_, ?_⟩
          · exact Eq.refl _
          · exact Eq.refl _
      case imp1 =>
        go_wp2_with fail
        go_ret
        rw [← HZ3.out]
        exact ⟨rfl, Q7, HA7.out⟩
  · have hzb : ((ON : Int) == 0) = false := by rw [beq_eq_false_iff_ne]; omega
    by_cases hlt : ix < s.first
    · have HLT := Lib.hid hlt
      go_enter Tryz.func29, Tryz.ntmps29
      go_wp2_with fail
      obtain ⟨wA, hwA⟩ : ∃ wA, w.alloc (.cells #[.int .u64 n, .int .u64 ix] 80) = wA := ⟨_, rfl⟩
      have hbA : Below w.heap.size w wA := by rw [← hwA]; exact (Below.refl _ _).alloc (Nat.le_refl _) _
      have hBA : Blk wA w.heap.size 80 #[.int .u64 n, .int .u64 ix] := by rw [← hwA]; exact Blk.alloc_new _ _ _
      rw [hwA]
      obtain ⟨B, hB⟩ : ∃ B, w.heap.size = B := ⟨_, rfl⟩
      have hgB : g < B := by omega
      rw [hB] at hBA ⊢
      have e0 := hBA.cell 0
      have e1 := hBA.cell 1
      obtain ⟨d0, d1, d2, d3, d4, d5, d6⟩ := blk7 (HW.out.below hbA).blk
      rw [HON.out] at d4
      rw [HLN.out] at d3
      clear hwA c0 c1 c2 c3 c4 c5 c6 f0 f1 f2 f3 f4 f5 f6
      go_quiet (fail)
      obtain ⟨wb, hwb⟩ : ∃ wb, wA.drewN nq = wb := ⟨_, rfl⟩
      have hbb : Below wA.heap.size wA wb := by rw [← hwb]; exact below_drewN (Below.refl _ _) nq
      have hbw : Below w.heap.size w wb := hbA.trans (hbb.mono hbA.size)
      rw [hwb]
      clear hwb
      have hBb : Blk wb B 80 #[.int .u64 n, .int .u64 ix] := blk_keep (O := fun _ => False) hBA (Keeps.of_below hbb) (fun h => h)
      have hWb := HW.out.below hbw
      obtain ⟨d0, d1, d2, d3, d4, d5, d6⟩ := blk7 hWb.blk
      obtain ⟨f0, f1, f2, f3, f4, f5, f6⟩ := free7 hWb.blk
      have e0 := hBb.cell 0
      have e1 := hBb.cell 1
      rw [HON.out] at d4
      rw [HLN.out] at d3
      -- the records go
      have HAB := Lib.hid ((HREF.out.below hbw))
      have hKg : Keeps (fun k => k = g) wb (wb.setCell ⟨g, 2, none⟩ (.int .u64 ix)) := set_keeps (Keeps.refl _ _) rfl (StrRow.no_blk hWb.blk (by decide))
      have hW1 := hWb.turn (s' := { s with first := ix }) hKg (by simp [World.setCell]) (hWb.blk.set 2 _) rfl rfl rfl
      have hA1 : LogAt O Q w g p { s with first := ix } st O Q (wb.setCell ⟨g, 2, none⟩ (.int .u64 ix)) := HAB.out.trans ⟨⟨_, _, _, hW1⟩, HAB.out.disk.keep hKg (fun k hk e => hWb.apart k (e ▸ hWb.qg) hk), fun k hk => by have := HAB.out.olt k hk; have := hKg.size; omega, fun k hk => .inl hk, keeps_mono hKg (fun k hk => .inr (hk ▸ hWb.qg))⟩
      obtain ⟨vs1, hr1⟩ := hW1.recs
      obtain ⟨Q2, hA2, hW2⟩ := l_cut (vs' := []) (L' := []) (lv' := .slice none 0 0) hA1 hW1 hr1 rfl (OffRow.nil _ _ _) (fun k hk => by cases hk) (fun j v l hv hl => by cases hv)
      have hB2 : Blk ((wb.setCell ⟨g, 2, none⟩ (.int .u64 ix)).setCell ⟨g, 3, none⟩ (.slice none 0 0)) B 80 #[.int .u64 n, .int .u64 ix] := by
        have hK3 : Keeps (fun k => k = g) (wb.setCell ⟨g, 2, none⟩ (.int .u64 ix)) ((wb.setCell ⟨g, 2, none⟩ (.int .u64 ix)).setCell ⟨g, 3, none⟩ (.slice none 0 0)) := set_keeps (Keeps.refl _ _) rfl (StrRow.no_blk hW1.blk (by decide))
        exact blk_keep (blk_keep hBb hKg (by omega)) hK3 (by omega)
      obtain ⟨W2, hWW2⟩ : ∃ W2, (wb.setCell ⟨g, 2, none⟩ (.int .u64 ix)).setCell ⟨g, 3, none⟩ (.slice none 0 0) = W2 := ⟨_, rfl⟩
      rw [hWW2] at hA2 hW2 hB2
      have hdr : Below W2.heap.size W2 W2.drew := (Below.refl _ _).drew
      have hW2d := hW2.below hdr
      obtain ⟨vs2, hr2⟩ := hW2d.recs
      obtain ⟨Q3, hA3, hW3⟩ := l_cut (vs' := []) (L' := []) (lv' := .slice none 0 0) (hA2.below hdr) hW2d hr2 rfl (OffRow.nil _ _ _) (fun k hk => by cases hk) (fun j v l hv hl => by cases hv)
      have hB3 : Blk (W2.drew.setCell ⟨g, 3, none⟩ (.slice none 0 0)) B 80 #[.int .u64 n, .int .u64 ix] := by
        have hK3 : Keeps (fun k => k = g) W2.drew (W2.drew.setCell ⟨g, 3, none⟩ (.slice none 0 0)) := set_keeps (Keeps.refl _ _) rfl (StrRow.no_blk hW2d.blk (by decide))
        exact blk_keep (blk_keep (O := fun _ => False) hB2 (Keeps.of_below hdr) (fun h => h)) hK3 (by omega)
      obtain ⟨W3, hWW3⟩ : ∃ W3, (W2.setCell ⟨g, 3, none⟩ (.slice none 0 0)).drew = W3 := ⟨_, rfl⟩
      have hWW3' : W2.drew.setCell ⟨g, 3, none⟩ (.slice none 0 0) = W3 := hWW3
      rw [hWW3'] at hA3 hW3 hB3
      have HA3 := Lib.hid hA3
      have HW3 := Lib.hid hW3
      have HBB3 := Lib.hid hB3
      have HON3 := HON
      have HZ3 := Lib.hid (show some { s with first := ix, L := [], old := s.old ++ [(n, ix)] } = Z from by rw [← HZ.out]; unfold folF; rw [if_pos (.inr HLT.out)])
      obtain ⟨y0, y1, y2, y3, y4, y5, y6⟩ := blk7 hW2.blk
      obtain ⟨t0, t1, t2, t3, t4, t5, t6⟩ := free7 hW2.blk
      have e0 := hB2.cell 0
      have e1 := hB2.cell 1
      have hz0 : IntKind.u64.wrap 0 = 0 := by decide
      clear hA1 hW1 hr1 hA2 hW2 hB2 hdr hW2d hr2 hA3 hW3 hB3 hWW3' hKg hWb hBb hBA
      go_wp2_with fail
      try rw [hWW2]
      refine' wp_cut0 _ _ ?rega2 ?impa2
      case rega2 =>
        go_region_law (fail)
        all_goals
          refine ⟨rfl, ?_, ?_⟩
          · exact Eq.refl _
          · exact Eq.refl _
      case impa2 =>
        try rw [hWW3]
        obtain ⟨e0, e1⟩ := And.intro (HBB3.out.cell 0) (HBB3.out.cell 1)
        have hgl3 : g < W3.heap.size := Blk.lt HW3.out.blk
        have hbX : Below W3.heap.size W3 (W3.alloc (.cells #[.int .u64 n, .int .u64 ix] 80)).drew := ((Below.refl _ _).alloc (Nat.le_refl _) _).drew
        have hBX : Blk (W3.alloc (.cells #[.int .u64 n, .int .u64 ix] 80)).drew W3.heap.size 80 #[.int .u64 n, .int .u64 ix] := Blk.alloc_new _ _ _
        obtain ⟨a1, k1, w7, hrun, hb7, Q7, hA7, hW7⟩ := old_push HA3.out HW3.out rfl hbX hBX (by have := HON3.out; omega)
        rw [HON3.out] at hrun hb7 hA7
        obtain ⟨d0, d1, d2, d3, d4, d5, d6⟩ := blk7 HW3.out.blk
        rw [HON3.out] at d4
        obtain ⟨_, _, _, _, z4, _, _⟩ := blk7 hb7
        obtain ⟨_, _, _, _, y4, _, _⟩ := free7 hb7
        have x4 : ∀ x : Obj, (W3.alloc x).cell? ⟨g, 4, none⟩ = some (.slice oa ON oc) := fun x => (((Below.refl W3.heap.size W3).alloc (Nat.le_refl _) x).cell (p := ⟨g, 4, none⟩) hgl3).trans d4
        have HRUN := Lib.hid hrun
        have HA7 := Lib.hid hA7
        clear hbX hBX hrun hb7 hA7 hW7
        go_wp2_with fail
        refine' wp_cut0 _ _ ?reg2 ?imp2
        case reg2 =>
          go_region_law (refine step_append_off rfl (.tmp 63) (.tmp 65) 73 rfl _ _ w7 ⟨W3.heap.size, 0, none⟩ 1 1 rfl rfl HRUN.out ?_)
          all_goals
            refine ⟨rfl, ?_, ?_⟩
            · exact Eq.refl _
            · exact Eq.refl _
        case imp2 =>
          go_wp2_with fail
          go_ret
          rw [← HZ3.out]
          exact ⟨rfl, Q7, HA7.out⟩
    · have hdec : decide (ix < s.first) = false := decide_eq_false hlt
      obtain ⟨j, hj⟩ : ∃ j : Nat, ix = s.first + j := ⟨(ix - s.first).toNat, by omega⟩
      have hsub : IntKind.u64.wrap (ix - s.first) = (j : Int) := by rw [IntKind.wrap_u64]; omega
      have HJ := Lib.hid hj
      clear hj
      by_cases hgt : (LN : Int) < (j : Int)
      · skip
        go_enter Tryz.func29, Tryz.ntmps29
        go_wp2_with fail
        obtain ⟨wA, hwA⟩ : ∃ wA, w.alloc (.cells #[.int .u64 n, .int .u64 ix] 80) = wA := ⟨_, rfl⟩
        have hbA : Below w.heap.size w wA := by rw [← hwA]; exact (Below.refl _ _).alloc (Nat.le_refl _) _
        have hBA : Blk wA w.heap.size 80 #[.int .u64 n, .int .u64 ix] := by rw [← hwA]; exact Blk.alloc_new _ _ _
        rw [hwA]
        obtain ⟨B, hB⟩ : ∃ B, w.heap.size = B := ⟨_, rfl⟩
        have hgB : g < B := by omega
        rw [hB] at hBA ⊢
        have e0 := hBA.cell 0
        have e1 := hBA.cell 1
        obtain ⟨d0, d1, d2, d3, d4, d5, d6⟩ := blk7 (HW.out.below hbA).blk
        rw [HON.out] at d4
        rw [HLN.out] at d3
        clear hwA c0 c1 c2 c3 c4 c5 c6 f0 f1 f2 f3 f4 f5 f6
        go_quiet (fail)
        obtain ⟨wb, hwb⟩ : ∃ wb, wA.drewN nq = wb := ⟨_, rfl⟩
        have hbb : Below wA.heap.size wA wb := by rw [← hwb]; exact below_drewN (Below.refl _ _) nq
        have hbw : Below w.heap.size w wb := hbA.trans (hbb.mono hbA.size)
        rw [hwb]
        clear hwb
        have hBb : Blk wb B 80 #[.int .u64 n, .int .u64 ix] := blk_keep (O := fun _ => False) hBA (Keeps.of_below hbb) (fun h => h)
        have hWb := HW.out.below hbw
        obtain ⟨d0, d1, d2, d3, d4, d5, d6⟩ := blk7 hWb.blk
        obtain ⟨f0, f1, f2, f3, f4, f5, f6⟩ := free7 hWb.blk
        have e0 := hBb.cell 0
        have e1 := hBb.cell 1
        rw [HON.out] at d4
        rw [HLN.out] at d3
        go_wp2_with fail
        go_quiet (fail)
        obtain ⟨wc, hwc⟩ : ∃ wc, wb.drewN nq = wc := ⟨_, rfl⟩
        have hbc : Below wb.heap.size wb wc := by rw [← hwc]; exact below_drewN (Below.refl _ _) nq
        rw [hwc]
        clear hwc
        have hbwc : Below w.heap.size w wc := hbw.trans (hbc.mono hbw.size)
        have hBc : Blk wc B 80 #[.int .u64 n, .int .u64 ix] := blk_keep (O := fun _ => False) hBb (Keeps.of_below hbc) (fun h => h)
        have hWc := HW.out.below hbwc
        obtain ⟨d0, d1, d2, d3, d4, d5, d6⟩ := blk7 hWc.blk
        obtain ⟨f0, f1, f2, f3, f4, f5, f6⟩ := free7 hWc.blk
        have e0 := hBc.cell 0
        have e1 := hBc.cell 1
        rw [HON.out] at d4
        rw [HLN.out] at d3
        go_wp2_with fail
        go_ret
        have hz : none = Z := by
          rw [← HZ.out]
          unfold folF
          rw [if_neg (fun h => ?_), if_pos (by have := HJ.out; have := HLN.out; omega)]
          rcases h with h | h
          · have := HON.out; rw [h] at this; exact absurd this.symm (by simp only [List.length_nil]; omega)
          · omega
        rw [← hz]
        exact ⟨rfl, Q, HREF.out.below hbwc⟩
      · have hdec2 : decide ((LN : Int) < (j : Int)) = false := decide_eq_false hgt
        have hjN : (j : Int) ≤ (LN : Int) := by omega
        have hj0 : (0 : Int) ≤ (j : Int) := by omega
        have hjn : j ≤ LN := by omega
        have hjc : (j : Int) ≤ (lc : Int) := by omega
        have hjc' : j ≤ lc := by omega
        go_enter Tryz.func29, Tryz.ntmps29
        go_wp2_with fail
        obtain ⟨wA, hwA⟩ : ∃ wA, w.alloc (.cells #[.int .u64 n, .int .u64 ix] 80) = wA := ⟨_, rfl⟩
        have hbA : Below w.heap.size w wA := by rw [← hwA]; exact (Below.refl _ _).alloc (Nat.le_refl _) _
        have hBA : Blk wA w.heap.size 80 #[.int .u64 n, .int .u64 ix] := by rw [← hwA]; exact Blk.alloc_new _ _ _
        rw [hwA]
        obtain ⟨B, hB⟩ : ∃ B, w.heap.size = B := ⟨_, rfl⟩
        have hgB : g < B := by omega
        rw [hB] at hBA ⊢
        have e0 := hBA.cell 0
        have e1 := hBA.cell 1
        obtain ⟨d0, d1, d2, d3, d4, d5, d6⟩ := blk7 (HW.out.below hbA).blk
        rw [HON.out] at d4
        rw [HLN.out] at d3
        clear hwA c0 c1 c2 c3 c4 c5 c6 f0 f1 f2 f3 f4 f5 f6
        go_quiet (fail)
        obtain ⟨wb, hwb⟩ : ∃ wb, wA.drewN nq = wb := ⟨_, rfl⟩
        have hbb : Below wA.heap.size wA wb := by rw [← hwb]; exact below_drewN (Below.refl _ _) nq
        have hbw : Below w.heap.size w wb := hbA.trans (hbb.mono hbA.size)
        rw [hwb]
        clear hwb
        have hBb : Blk wb B 80 #[.int .u64 n, .int .u64 ix] := blk_keep (O := fun _ => False) hBA (Keeps.of_below hbb) (fun h => h)
        have hWb := HW.out.below hbw
        obtain ⟨d0, d1, d2, d3, d4, d5, d6⟩ := blk7 hWb.blk
        obtain ⟨f0, f1, f2, f3, f4, f5, f6⟩ := free7 hWb.blk
        have e0 := hBb.cell 0
        have e1 := hBb.cell 1
        rw [HON.out] at d4
        rw [HLN.out] at d3
        go_wp2_with fail
        go_quiet (fail)
        obtain ⟨wc, hwc⟩ : ∃ wc, wb.drewN nq = wc := ⟨_, rfl⟩
        have hbc : Below wb.heap.size wb wc := by rw [← hwc]; exact below_drewN (Below.refl _ _) nq
        rw [hwc]
        clear hwc
        have hbwc : Below w.heap.size w wc := hbw.trans (hbc.mono hbw.size)
        have hBc : Blk wc B 80 #[.int .u64 n, .int .u64 ix] := blk_keep (O := fun _ => False) hBb (Keeps.of_below hbc) (fun h => h)
        have hWc := HW.out.below hbwc
        obtain ⟨d0, d1, d2, d3, d4, d5, d6⟩ := blk7 hWc.blk
        obtain ⟨f0, f1, f2, f3, f4, f5, f6⟩ := free7 hWc.blk
        have e0 := hBc.cell 0
        have e1 := hBc.cell 1
        rw [HON.out] at d4
        rw [HLN.out] at d3
        have hdr : Below wc.heap.size wc wc.drew := (Below.refl _ _).drew
        have hWd := hWc.below hdr
        have hrd := hrec.keep (P := fun _ => False) (w' := wc.drew) (Keeps.of_below (hbwc.trans (hdr.mono hbwc.size))) (fun _ _ h => h) (fun _ h => h.elim) (fun k hk => .inl hk)
        have hAd := (HREF.out.below hbwc).below hdr
        obtain ⟨Q3, hA3, hW3⟩ := l_take hAd hWd hrd rfl (j := j) (by rw [HLN.out]; omega)
        have hK3 : Keeps (fun k => k = g) wc.drew (wc.drew.setCell ⟨g, 3, none⟩ (.slice la j lc)) := set_keeps (Keeps.refl _ _) rfl (StrRow.no_blk hWd.blk (by decide))
        have hB3 : Blk (wc.drew.setCell ⟨g, 3, none⟩ (.slice la j lc)) B 80 #[.int .u64 n, .int .u64 ix] := blk_keep (blk_keep (O := fun _ => False) hBc (Keeps.of_below hdr) (fun h => h)) hK3 (by omega)
        obtain ⟨W3, hWW3⟩ : ∃ W3, (wc.setCell ⟨g, 3, none⟩ (.slice la j lc)).drew = W3 := ⟨_, rfl⟩
        have hWW3' : wc.drew.setCell ⟨g, 3, none⟩ (.slice la j lc) = W3 := hWW3
        rw [hWW3'] at hA3 hW3 hB3
        have HA3 := Lib.hid hA3
        have HW3 := Lib.hid hW3
        have HBB3 := Lib.hid hB3
        have HON3 := HON
        have HZ3 := Lib.hid (show some { s with L := s.L.take j, old := s.old ++ [(n, ix)] } = Z from by
          rw [← HZ.out]
          unfold folF
          have hjj : (ix - s.first).toNat = j := by have := HJ.out; omega
          rw [if_neg (fun h => ?_), if_neg (by have := HJ.out; have := HLN.out; omega), hjj]
          rcases h with h | h
          · have := HON.out; rw [h] at this; exact absurd this.symm (by simp only [List.length_nil]; omega)
          · omega)
        clear hdr hWd hrd hAd hA3 hW3 hB3 hK3 hWW3' hWc hBc hWb hBb hBA
        go_wp2_with fail
        refine' wp_cut0 _ _ ?regc ?impc
        case regc =>
          go_region_law (fail)
          all_goals
            refine ⟨rfl, ?_, ?_⟩
            · exact Eq.refl _
            · exact Eq.refl _
        case impc =>
          try rw [hWW3]
          obtain ⟨e0, e1⟩ := And.intro (HBB3.out.cell 0) (HBB3.out.cell 1)
          have hgl3 : g < W3.heap.size := Blk.lt HW3.out.blk
          have hbX : Below W3.heap.size W3 (W3.alloc (.cells #[.int .u64 n, .int .u64 ix] 80)).drew := ((Below.refl _ _).alloc (Nat.le_refl _) _).drew
          have hBX : Blk (W3.alloc (.cells #[.int .u64 n, .int .u64 ix] 80)).drew W3.heap.size 80 #[.int .u64 n, .int .u64 ix] := Blk.alloc_new _ _ _
          obtain ⟨a1, k1, w7, hrun, hb7, Q7, hA7, hW7⟩ := old_push HA3.out HW3.out rfl hbX hBX (by have := HON3.out; omega)
          rw [HON3.out] at hrun hb7 hA7
          obtain ⟨d0, d1, d2, d3, d4, d5, d6⟩ := blk7 HW3.out.blk
          rw [HON3.out] at d4
          obtain ⟨_, _, _, _, z4, _, _⟩ := blk7 hb7
          obtain ⟨_, _, _, _, y4, _, _⟩ := free7 hb7
          have x4 : ∀ x : Obj, (W3.alloc x).cell? ⟨g, 4, none⟩ = some (.slice oa ON oc) := fun x => (((Below.refl W3.heap.size W3).alloc (Nat.le_refl _) x).cell (p := ⟨g, 4, none⟩) hgl3).trans d4
          have HRUN := Lib.hid hrun
          have HA7 := Lib.hid hA7
          clear hbX hBX hrun hb7 hA7 hW7
          go_wp2_with fail
          refine' wp_cut0 _ _ ?reg3 ?imp3
          case reg3 =>
            go_region_law (refine step_append_off rfl (.tmp 63) (.tmp 65) 73 rfl _ _ w7 ⟨W3.heap.size, 0, none⟩ 1 1 rfl rfl HRUN.out ?_)
            all_goals
              refine ⟨rfl, ?_, ?_⟩
              · exact Eq.refl _
              · exact Eq.refl _
          case imp3 =>
            go_wp2_with fail
            go_ret
            rw [← HZ3.out]
            exact ⟨rfl, Q7, HA7.out⟩
end Go.Proofs.YtcpkpljeimbdiaaGreat.W
namespace Go.Proofs.YtcpkpljeimbdiaaGreat.W
open Go.RowKit
open Aid K
set_option linter.unusedSimpArgs false
set_option linter.unusedVariables false
theorem l_lay {O Q O5 Q5 : Nat → Prop} {w w6 wX : World} {g p B : Nat} {s : LSt} {st : DSt} {ov oldv v6 : Value} {la : Option Addr} {n lc : Nat} {vs : List Value} {b : List Int} (hA : LogAt O Q w g p s st O5 Q5 w6) (hW : WalIn O5 Q5 w6 g p s ov (.slice la n lc) oldv) (hR : Recs (fun k => O5 k ∨ Q5 k) w6 (.slice la n lc) s.L vs) (hn : n = vs.length)
    (hI6 : Ints w6 .u8 v6 b) (hv : ∀ k, v6.ownBlock = some k → ¬ (O5 k ∨ Q5 k) ∧ k < w6.heap.size) (hbX : Below w6.heap.size w6 wX) (hBB : Blk wX B 49 #[v6]) (hl : (vs.length + 1) * 24 ≤ 140737488355328) :
    ∃ a1 k1 w7, (∀ ty, (Builtin.append_ #[72, 72] ty #[.slice la n lc, .slice (some ⟨B, 0, none⟩) 1 1]).run Tryz.prog wX = .ok (.slice a1 (n + 1) k1) w7) ∧
      Blk w7 g 75 (walV ov p s.first (.slice la n lc) oldv s.next s.code) ∧ Keeps (fun k => Q5 k) w6 w7 ∧ ∃ Q7, LogAt O Q w g p { s with L := s.L ++ [b] } st O5 Q7 (w7.setCell ⟨g, 3, none⟩ (.slice a1 (n + 1) k1)) := by
  subst hn
  obtain ⟨iu, hiu, hzu, hsu, hbu⟩ := info_parts lst_info
  have hWX := hW.below hbX
  have hRX := hR.keep (Q' := fun k => O5 k ∨ Q5 k) (P := fun _ => False) (Keeps.of_below hbX) (fun _ _ h => h) (fun _ h => h.elim) (fun k hk => .inl hk)
  have hone : v6.oneCell' = true := by
    obtain ⟨a6, c6, e⟩ := hI6.form
    rw [e]; rfl
  obtain ⟨v1, w7, hrun1, hoff1, hK1, hown1⟩ := run_append_off (P := Tryz.prog) wX 72 49 iu _ 1 24 Tryz.underlying72 hiu hzu hsu hbu rfl (by decide) (by decide) _ _ _ hRX.row
    ⟨B, 0, none⟩ 1 1 [v6] rfl (fun j u hj => by
      rw [add_any, hBB.cell, Nat.zero_add]
      simpa using hj) (fun u hu => by simp at hu; rw [hu]; exact hone) (by unfold maxLen; omega) (by omega)
  have hlen : vs.length + 1 = (vs ++ [v6]).length := by simp
  rw [hlen] at hoff1
  obtain ⟨a1, k1, rfl, _, _⟩ := hoff1.slice
  have hb7 := blk_keep hWX.blk hK1 (fun hk => offrow_ne hWX.blk hRX.row (by decide) g hk rfl)
  obtain ⟨hnew, hKn⟩ := hWX.l_new (L' := s.L ++ [b]) (fun k hk => by have := hA.olt k hk; have := hbX.size; omega) hK1 (by simp [hR.len]) hoff1 hown1 (fun j v l hv' hl' => by
    by_cases hj : j < vs.length
    · rw [List.getElem?_append_left hj] at hv'
      rw [List.getElem?_append_left (by rw [← hR.len]; exact hj)] at hl'
      exact hRX.ints j v l hv' hl'
    · have hj2 : j = vs.length := by
        have := (List.getElem?_eq_some_iff.1 hv').1
        simp at this; omega
      subst hj2
      rw [List.getElem?_append_right (Nat.le_refl _), Nat.sub_self] at hv'
      rw [List.getElem?_append_right (by rw [hR.len]; exact Nat.le_refl _), hR.len, Nat.sub_self] at hl'
      cases hv'
      cases hl'
      refine ⟨hI6.below hbX, fun k hk => ⟨(hv k hk).1, by have := (hv k hk).2; have := hbX.size; omega⟩⟩)
  rw [← hlen] at hnew hKn hown1 hrun1
  have hKW : Keeps (fun k => Q5 k) w6 _ := (Keeps.of_below (O := fun k => Q5 k) hbX).trans hKn (fun k hk => .inl hk)
  refine ⟨a1, k1, w7, hrun1, hb7, (Keeps.of_below (O := fun k => Q5 k) hbX).trans (keeps_mono hK1 (fun k hk => hW.ql k hk)) (fun k hk => .inl hk), _, hA.trans ⟨⟨_, _, _, hnew⟩, hA.disk.keep hKW (fun k hk hq => hW.apart k hq hk), fun k hk => by have := hA.olt k hk; have := hKW.size; omega, fun k hk => ?_, keeps_mono hKW (fun k hk => .inr hk)⟩⟩
  rcases hk with hk | hk | hk
  · exact .inl (.inl hk)
  · exact .inl (.inr hk)
  · rcases hown1 k hk with h1 | h1
    · exact .inl (.inr (hW.ql k h1))
    · exact .inr (by have := hbX.size; omega)
set_option maxRecDepth 100000 in
set_option maxHeartbeats 2000000 in
theorem lay_any (O Q : Nat → Prop) (g p bw : Nat) (s : LSt) (st : DSt) (v6 : Value) (b : List Int) (w : World) (hW : WalIs O Q w g p s) (hD : DiskIs O w p st) (hO : ∀ k, O k → k < w.heap.size) (hbw : w.cell? ⟨bw, 0, none⟩ = some (.pointer (some ⟨g, 0, none⟩))) (hbq : ¬ Q bw)
    (hI6 : Ints w .u8 v6 b) (hv : ∀ k, v6.ownBlock = some k → ¬ (O k ∨ Q k) ∧ k < w.heap.size) (hl : (s.L.length + 1) * 24 ≤ 140737488355328) :
    Calls Tryz.prog 30 #[v6, .pointer (some ⟨bw, 0, none⟩)] w fun e w' => e = .returned (.tuple #[]) ∧ ∃ Q', LogAt O Q w g p { s with L := s.L ++ [b] } st O Q' w' := by
  have hWis := hW
  obtain ⟨ov, lv, oldv, hW⟩ := hW
  obtain ⟨vs, hrec⟩ := hW.recs
  obtain ⟨la, lc, rfl, hlc, hlz⟩ := hrec.row.slice
  obtain ⟨a6, c6, rfl⟩ := hI6.form
  have hbX : Below w.heap.size w (w.alloc (.cells #[.slice a6 b.length c6] 49)).drew := ((Below.refl _ _).alloc (Nat.le_refl _) _).drew
  have hBX : Blk (w.alloc (.cells #[.slice a6 b.length c6] 49)).drew w.heap.size 49 #[.slice a6 b.length c6] := Blk.alloc_new _ _ _
  obtain ⟨a1, k1, w7, hrun, hb7, hK7, Q7, hA7⟩ := l_lay (LogAt.refl hWis hD hO) hW hrec rfl hI6 hv hbX hBX (by rw [hrec.len]; exact hl)
  have g3 := (blk7 hW.blk).2.2.2.1
  have z3 := (blk7 hb7).2.2.2.1
  have y3 := (free7 hb7).2.2.2.1
  have hgl := Blk.lt hW.blk
  have hbl : bw < w.heap.size := World.block_lt_of_cell? w _ hbw
  have x3 : ∀ x : Obj, (w.alloc x).cell? ⟨g, 3, none⟩ = some (.slice la vs.length lc) := fun x => (((Below.refl w.heap.size w).alloc (Nat.le_refl _) x).cell (p := ⟨g, 3, none⟩) hgl).trans g3
  have xb : ∀ x : Obj, (w.alloc x).cell? ⟨bw, 0, none⟩ = some (.pointer (some ⟨g, 0, none⟩)) := fun x => (((Below.refl w.heap.size w).alloc (Nat.le_refl _) x).cell (p := ⟨bw, 0, none⟩) hbl).trans hbw
  have xb7 : w7.cell? ⟨bw, 0, none⟩ = some (.pointer (some ⟨g, 0, none⟩)) := (hK7.cell (p := ⟨bw, 0, none⟩) hbl hbq).trans hbw
  have HRUN := Lib.hid hrun
  have HA7 := Lib.hid hA7
  clear hWis hW hrec hD hI6 hbX hBX hrun hb7 hA7 hv hK7
  go_enter Tryz.func30, Tryz.ntmps30
  go_wp2_with fail
  refine' wp_cut0 _ _ ?reg ?imp
  case reg =>
    go_region_law (refine step_append_off rfl (.tmp 7) (.tmp 9) 72 rfl _ _ w7 ⟨w.heap.size, 0, none⟩ 1 1 rfl rfl HRUN.out ?_)
    all_goals
      refine ⟨rfl, ?_, ?_⟩
      · exact Eq.refl _
      · exact Eq.refl _
  case imp =>
    go_wp2_with fail
    go_end0
    exact ⟨rfl, Q7, HA7.out⟩
set_option maxRecDepth 100000 in
set_option maxHeartbeats 2000000 in
theorem fol_any (O Q : Nat → Prop) (g p bw bn : Nat) (s : LSt) (st : DSt) (n ix : Int) (w : World) (hW : WalIs O Q w g p s) (hD : DiskIs O w p st) (hO : ∀ k, O k → k < w.heap.size) (hbw : w.cell? ⟨bw, 0, none⟩ = some (.pointer (some ⟨g, 0, none⟩))) (hbn : w.cell? ⟨bn, 0, none⟩ = some (.int .u64 n))
    (hf0 : 0 ≤ s.first ∧ s.first < 18446744073709551616) (hix : 0 ≤ ix ∧ ix < 18446744073709551616) (hL : s.L.length ≤ 4611686018427387904) (hol : s.old.length ≤ 4398046511104) :
    Calls Tryz.prog 28 #[.int .u64 ix, .pointer (some ⟨bw, 0, none⟩), .pointer (some ⟨bn, 0, none⟩)] w (FolEnd O Q g p s st (folF s n ix) w) := by
  have HF := Lib.hid (show ∀ w', Below w.heap.size w w' → Calls Tryz.prog 29 #[.pointer (some ⟨g, 0, none⟩), .agg #[.int .u64 n, .int .u64 ix]] w' (FolEnd O Q g p s st (folF s n ix) w') from fun w' hb => by
    have hA := (LogAt.refl hW hD hO).below hb
    exact follows_any O Q g p s st n ix w' hA.wal hA.disk hA.olt hf0 hix hL hol)
  have HREF := Lib.hid (LogAt.refl hW hD hO)
  obtain ⟨Z, hZ⟩ : ∃ Z, folF s n ix = Z := ⟨_, rfl⟩
  rw [hZ] at HF ⊢
  clear hW hD hZ
  go_enter Tryz.func28, Tryz.ntmps28
  go_wp2_with fail
  refine (HF.out _ (Below.refl _ _)).mono ?_
  rintro e w1 ⟨rfl, Q1, hA⟩
  have HA := Lib.hid hA
  clear hA
  go_wp2_with fail
  go_ret
  exact ⟨rfl, Q1, HA.out⟩
end Go.Proofs.YtcpkpljeimbdiaaGreat.W
namespace Go.Proofs.YtcpkpljeimbdiaaGreat.W
open Go.RowKit
open Aid K
set_option linter.unusedSimpArgs false
set_option linter.unusedVariables false
theorem Recs.reader {Q : Nat → Prop} {w w' : World} {lv x : Value} {e : Int} {pr : Nat} {L : List (List Int)} {vs : List Value} (h : Recs Q w lv L vs) (hb : Blk w pr 113 #[x, .int .i64 e]) (hx : ∃ a n c, x = .slice a n c) (hK : Keeps (fun k => k = pr) w w') : Recs Q w' lv L vs := by
  obtain ⟨xa, xn, xc, rfl⟩ := hx
  refine ⟨h.len, h.row.keep hK (fun k hk e => offrow_ne hb h.row (by decide) k hk e), fun j v l hv hl => ?_⟩
  obtain ⟨h1, h2⟩ := h.ints j v l hv hl
  refine ⟨⟨h1.1, ?_⟩, fun k hk => ⟨(h2 k hk).1, by have := (h2 k hk).2; have := hK.size; omega⟩⟩
  rcases h1.2 with h3 | ⟨b, off, cap, hv', hlt, hc⟩
  · exact .inl h3
  · refine .inr ⟨b, off, cap, hv', by have := hK.size; omega, fun j hj => ?_⟩
    have h4 := hc j hj
    by_cases hbp : b = pr
    · exfalso
      subst hbp
      rw [hb.cell] at h4
      match off + j, h4 with
      | 0, h4 => simp at h4
      | 1, h4 => simp at h4
      | k + 2, h4 => simp at h4
    · exact (hK.cell (p := ⟨b, off + j, none⟩) hlt hbp).trans h4
theorem WalIn.reader {O Q : Nat → Prop} {w w' : World} {g p pr : Nat} {s : LSt} {ov lv oldv x : Value} {e : Int} (h : WalIn O Q w g p s ov lv oldv) (hb : Blk w pr 113 #[x, .int .i64 e]) (hx : ∃ a n c, x = .slice a n c) (hK : Keeps (fun k => k = pr) w w') : WalIn O Q w' g p s ov lv oldv where
  blk := blk_keep h.blk hK (fun e => blk_ne hb h.blk (by decide) e)
  qg := h.qg
  opn := h.opn.apart (g := g) (T := 75) (cs := #[]) hK (fun k hk => ⟨_, _, hk ▸ hb, by decide, by decide⟩)
  recs := by
    obtain ⟨vs, hr⟩ := h.recs
    exact ⟨vs, hr.reader hb hx hK⟩
  ql := h.ql
  segs := h.segs.keep hK (fun k hk e => offrow_ne hb h.segs (by decide) k hk e)
  qs := h.qs
  lt := fun k hk => by have := h.lt k hk; have := hK.size; omega
  apart := h.apart
theorem RdIs.blk {b0 : Nat} {w : World} {pr : Nat} {l : List Int} {e : Int} (h : RdIs b0 w pr l e) : ∃ x, Blk w pr 113 #[x, .int .i64 e] ∧ ∃ a n c, x = .slice a n c := by
  obtain ⟨_, v, hb, hI, _⟩ := h
  obtain ⟨a, c, e⟩ := hI.form
  exact ⟨v, hb, a, _, c, e⟩
theorem LogAt.reader {O Q O' Q' : Nat → Prop} {w wr w' : World} {g p pr b0 : Nat} {s : LSt} {st : DSt} {l : List Int} {e : Int} (h : LogAt O Q w g p s st O' Q' wr) (hr : RdIs b0 wr pr l e) (hK : Keeps (fun k => k = pr) wr w') (hO : ¬ O' pr) (hn : w.heap.size ≤ pr) : LogAt O Q w g p s st O' Q' w' := by
  obtain ⟨x, hb, hx⟩ := hr.blk
  obtain ⟨ov, lv, oldv, hW⟩ := h.wal
  refine ⟨⟨ov, lv, oldv, hW.reader hb hx hK⟩, h.disk.keep hK (fun k hk e => hO (e ▸ hk)), fun k hk => by have := h.olt k hk; have := hK.size; omega, h.grow, h.keep.trans hK (fun k hk => .inr (by omega))⟩
theorem RdIs.keep {P : Nat → Prop} {b0 : Nat} {w w' : World} {pr : Nat} {l : List Int} {e : Int} (h : RdIs b0 w pr l e) (hK : Keeps P w w') (hp : ¬ P pr) (hb : l ≠ [] → ¬ P b0) : RdIs b0 w' pr l e := by
  obtain ⟨h0, v, hB, hI, hC, hn⟩ := h
  refine ⟨h0, v, blk_keep hB hK hp, ⟨hI.1, ?_⟩, hC, hn⟩
  rcases hI.2 with h1 | ⟨b, off, cap, hv, hlt, hc⟩
  · exact .inl h1
  · refine .inr ⟨b, off, cap, hv, by have := hK.size; omega, fun j hj => ?_⟩
    have hne : l ≠ [] := fun e => by rw [e] at hj; simp at hj
    have hbb : b = b0 := hn b off _ _ hv (by have := List.length_pos_iff.2 hne; omega)
    exact (hK.cell (p := ⟨b, off + j, none⟩) hlt (by rw [hbb]; exact hb hne)).trans (hc j hj)
def recF : Nat → List Int → LSt → LSt
  | 0, _, s => s
  | f + 1, l, s => match (bytesF 512 l 0).1 with
    | none => s
    | some x => recF f (bytesF 512 l 0).2.1 { s with L := s.L ++ [x] }
def rdS (s : LSt) (n : Int) (T : List Int) : LSt × Bool × Bool :=
  let u := uintF 4611686018427387904 T 0
  if u.2.2 ≠ 0 then (s, true, true) else
  match folF s n u.1 with
  | none => (s, false, false)
  | some s' => (recF (T.length + 1) u.2.1 s', true, false)
theorem numF_pos : ∀ (l : List Int) (i acc : Nat), (numF i acc l).2.2 = 0 → 1 ≤ (numF i acc l).2.1 := by
  intro l
  induction l with
  | nil => intro i acc h; simp [numF] at h
  | cons c t ih =>
    intro i acc h
    rw [numF] at h ⊢
    split
    · rename_i h1; rw [if_pos h1] at h; simp at h
    · rename_i h1
      rw [if_neg h1] at h
      split
      · rename_i h2; rw [if_pos h2] at h; exact ih _ _ h
      · rename_i h2
        rw [if_neg h2] at h
        split
        · rename_i h3; rw [if_pos h3] at h; simp at h
        · exact Nat.le_add_left _ _
theorem bytesF_some {most : Int} {l x : List Int} (h : (bytesF most l 0).1 = some x) : (bytesF most l 0).2.2 = 0 ∧ (bytesF most l 0).2.1.length < l.length ∧ (∃ k, (bytesF most l 0).2.1 = l.drop k) ∧ (∀ y ∈ x, y ∈ l) := by
  unfold bytesF at h ⊢
  simp only at h ⊢
  split
  · rename_i h1; rw [if_pos h1] at h; cases h
  · rename_i h1
    rw [if_neg h1] at h
    split
    · rename_i h2; rw [if_pos h2] at h; cases h
    · rename_i h2
      rw [if_neg h2] at h
      simp only [Option.some.injEq] at h
      unfold uintF at h1 h ⊢
      rw [if_neg (by simp)] at h1 h ⊢
      simp only at h1 h ⊢
      split
      · rename_i h3; rw [if_pos h3] at h1; exact absurd h1 (by simpa using h3)
      · rename_i h3
        rw [if_neg h3] at h1 h
        split
        · rename_i h4; rw [if_pos h4] at h1; simp at h1
        · rename_i h4
          rw [if_neg h4] at h
          have hp := numF_pos l 0 0 (by simpa using h3)
          have hk := numF_k l 0 0
          have hn := numF_nil (l := l) (by simpa using h3)
          have hl := List.length_pos_iff.2 hn
          refine ⟨trivial, ?_, ⟨(numF 0 0 l).2.1 + ((numF 0 0 l).1 : Int).toNat, ?_⟩, fun y hy => ?_⟩
          · simp only [List.length_drop]; omega
          · simp only [List.drop_drop]
          · rw [← h] at hy
            exact List.mem_of_mem_drop (List.mem_of_mem_take hy)
theorem bytesF_none {most : Int} {l : List Int} (h : (bytesF most l 0).1 = none) : (bytesF most l 0).2.2 ≠ 0 := by
  unfold bytesF at h ⊢
  simp only at h ⊢
  split
  · rename_i h1; exact h1
  · rename_i h1
    rw [if_neg h1] at h
    split
    · simp
    · rename_i h2; rw [if_neg h2] at h; cases h
theorem textF_len (st : DSt) (a : Int) : ∀ (f n : Nat), (textF st a f n).length ≤ 63 * f
  | 0, n => by simp [textF]
  | f + 1, n => by
    rw [textF]
    split
    · simp
    · rename_i s hs
      rw [List.length_append, List.length_take]
      have hu : usedF s ≤ 63 := by unfold usedF; omega
      split
      · simp; omega
      · have := textF_len st a f (n + 1); omega
theorem textF_by (st : DSt) (a : Int) : ∀ (f n : Nat), By8 (textF st a f n)
  | 0, n => fun x hx => by simp [textF] at hx
  | f + 1, n => by
    rw [textF]
    split
    · intro x hx; simp at hx
    · rename_i s hs
      intro x hx
      have hb : By8 s := by
        unfold sectF at hs
        cases e : st.F a n with
        | none => rw [e] at hs; cases hs
        | some y => rw [e] at hs; cases hs; exact bytesI_by _
      rcases List.mem_append.1 hx with hx | hx
      · exact hb x (List.mem_of_mem_drop (List.mem_of_mem_take hx))
      · split at hx
        · simp at hx
        · exact textF_by st a f (n + 1) x hx
end Go.Proofs.YtcpkpljeimbdiaaGreat.W
namespace Go.Proofs.YtcpkpljeimbdiaaGreat.W
open Go.RowKit
open Aid K
set_option linter.unusedSimpArgs false
set_option linter.unusedVariables false
def ReadEnd (O Q : Nat → Prop) (g p : Nat) (r : LSt × Bool × Bool) (st : DSt) (w : World) (e : Ending) (w' : World) : Prop :=
  e = .returned (.tuple #[.bool r.2.1, .bool r.2.2]) ∧ ∃ Q', LogAt O Q w g p r.1 st O Q' w'
def RdInv (O Q : Nat → Prop) (g p pr b0 bw : Nat) (st : DSt) (T : LSt) (N : Nat) (w wr : World) : Prop :=
  ∃ f l s Q', LogAt O Q w g p s st O Q' wr ∧ RdIs b0 wr pr l 0 ∧ T = recF f l s ∧ l.length < f ∧ By8 l ∧ s.L.length + l.length ≤ N ∧ ¬ Q' pr ∧ ¬ Q' bw ∧ (l ≠ [] → ¬ Q' b0 ∧ ¬ O b0 ∧ b0 < wr.heap.size) ∧ pr < wr.heap.size
def msrR (pr : Nat) (wr : World) : Nat := match wr.cell? ⟨pr, 0, none⟩ with | some (.slice _ n _) => n | _ => 0
theorem RdIs.msr {b0 : Nat} {w : World} {pr : Nat} {l : List Int} {e : Int} (h : RdIs b0 w pr l e) : msrR pr w = l.length := by
  obtain ⟨_, v, hB, hI, _⟩ := h
  obtain ⟨a, c, rfl⟩ := hI.form
  unfold msrR
  rw [show w.cell? ⟨pr, 0, none⟩ = some (.slice a l.length c) from hB.cell 0]
theorem folF_len {s s4 : LSt} {n ix : Int} (h : folF s n ix = some s4) : s4.L.length ≤ s.L.length := by
  unfold folF at h
  split at h
  · cases h; simp
  · split at h
    · cases h
    · cases h; simp only [List.length_take]; omega
theorem bytesF_len {l x yl : List Int} {ye : Int} (h : bytesF 512 l 0 = (some x, yl, ye)) : x.length ≤ 512 := by
  have hr := uintF_range 512 l 0 (by decide)
  unfold bytesF at h
  simp only at h
  split at h
  · cases h
  · split at h
    · cases h
    · simp only [Prod.mk.injEq, Option.some.injEq] at h
      rw [← h.1, List.length_take]
      omega
set_option maxRecDepth 100000 in
set_option maxHeartbeats 2000000 in
theorem read_seg (O Q : Nat → Prop) (g p bw bn : Nat) (s : LSt) (st : DSt) (n : Int) (w : World) (hW : WalIs O Q w g p s) (hD : DiskIs O w p st) (hO : ∀ k, O k → k < w.heap.size) (hbw : w.cell? ⟨bw, 0, none⟩ = some (.pointer (some ⟨g, 0, none⟩))) (hbn : w.cell? ⟨bn, 0, none⟩ = some (.int .u64 n))
    (hqw : ¬ Q bw) (how : ¬ O bw) (hS : Sects st) (hn0 : 0 ≤ n) (hn1 : 4 * n + 1 < 18446744073709551616) (hf0 : 0 ≤ s.first ∧ s.first < 18446744073709551616) (hL : s.L.length + 4128832 ≤ 4398046511104) (hol : s.old.length ≤ 4398046511104) :
    Calls Tryz.prog 27 #[.pointer (some ⟨p, 0, none⟩), .int .u64 n, .func (.func 28) #[] #[.pointer (some ⟨bw, 0, none⟩), .pointer (some ⟨bn, 0, none⟩)], .func (.func 30) #[] #[.pointer (some ⟨bw, 0, none⟩)]] w (ReadEnd O Q g p (rdS s n (textF st (4 * n + 1) 65537 0)) st w) := by
  obtain ⟨T, hT⟩ : ∃ T, textF st (4 * n + 1) 65537 0 = T := ⟨_, rfl⟩
  have hTl : T.length ≤ 4128831 := by rw [← hT]; exact textF_len _ _ _ _
  have hTb : By8 T := by rw [← hT]; exact textF_by _ _ _ _
  obtain ⟨Z, hZ⟩ : ∃ Z, rdS s n T = Z := ⟨_, rfl⟩
  have htx := text_any O p st n w hD hS hn0 hn1
  rw [hT] at htx ⊢
  rw [hZ]
  unfold rdS at hZ
  have HZ := Lib.hid hZ
  have HREF := Lib.hid (LogAt.refl hW hD hO)
  have HTX := Lib.hid htx
  have HQL := Lib.hid (show ∀ k, Q k → k < w.heap.size from by
    obtain ⟨ov, lv, oldv, hW'⟩ := hW
    exact hW'.lt)
  clear hT hZ htx hD hW
  go_enter Tryz.func27, Tryz.ntmps27
  go_wp2_with fail
  refine HTX.out.mono ?_
  rintro e w1 ⟨v1, rfl, hO1, hb1⟩
  have hI1 : Ints w1 .u8 v1 T := Ints.own hO1 (by omega)
  have HB1 := Lib.hid hb1
  clear hO1 hb1
  go_wp2_with fail
  refine (read_any v1 T w1 hI1).mono ?_
  rintro e w2 ⟨pr, b0, rfl, hp1, hp2, hR2, hb02, hb2⟩
  have hw12 := HB1.out.size
  have hB2 : Below w.heap.size w w2 := HB1.out.trans (hb2.mono hw12)
  have HB2 := Lib.hid hB2
  have HB0 := Lib.hid hb02
  have HR2 := Lib.hid hR2
  clear hB2 hb2 hb02 hR2 hI1
  go_wp2_with fail
  refine (uint_any b0 pr T 0 4611686018427387904 w2 HR2.out hTb (by decide)).mono ?_
  rintro e w3 ⟨rfl, hR3, hK3⟩
  have hrange := uintF_range 4611686018427387904 T 0 (by decide)
  obtain ⟨kd, hkd⟩ := uintF_sub 4611686018427387904 T 0
  obtain ⟨u, hu⟩ : ∃ u, uintF 4611686018427387904 T 0 = u := ⟨_, rfl⟩
  rw [hu] at hR3 hrange hkd ⊢
  have hz := HZ.out
  rw [hu] at hz
  try simp only at hz
  obtain ⟨ux, ul, ue⟩ := u
  simp only at hR3 hrange hkd hz ⊢
  have hB3 : Below w.heap.size w w3 := hK3.below HB2.out (by have := HB2.out.size; omega) (fun x hx => by omega)
  have HZ2 := Lib.hid hz
  have HR3 := Lib.hid hR3
  have hA3 := HREF.out.below hB3
  have HA3 := Lib.hid hA3
  have hkw3 := hK3.size
  have HKD := Lib.hid hkd
  have hs3 : pr < w3.heap.size := by omega
  have HB3 := Lib.hid hB3
  have HU := Lib.hid hu
  clear hK3 hB3 hA3 hz hkd hR3 hu
  go_wp2_with fail
  refine (err_any b0 pr ul ue w3 HR3.out).mono ?_
  rintro e w3' ⟨rfl, hw3⟩
  obtain rfl : w3 = w3' := hw3.symm
  by_cases hue : ue = 0
  · subst hue
    have hz := HZ2.out
    rw [if_neg (by simp)] at hz
    have HZ3 := Lib.hid hz
    clear hz
    have hbl : bw < w.heap.size := World.block_lt_of_cell? w _ hbw
    have hbnl : bn < w.heap.size := World.block_lt_of_cell? w _ hbn
    have hfol := fol_any O Q g p bw bn s st n ux w3 HA3.out.wal HA3.out.disk HA3.out.olt ((HB3.out.cell (p := ⟨bw, 0, none⟩) hbl).trans hbw) ((HB3.out.cell (p := ⟨bn, 0, none⟩) hbnl).trans hbn) hf0 (by omega) (by omega) hol
    obtain ⟨F, hF⟩ : ∃ F, folF s n ux = F := ⟨_, rfl⟩
    rw [hF] at hfol
    have HFO := Lib.hid hfol
    have HFE := Lib.hid hF
    clear hfol hF
    go_wp2_with fail
    refine HFO.out.mono ?_
    rintro e w4 ⟨rfl, Q4, hA4⟩
    have HA4 := Lib.hid hA4
    clear hA4
    cases F with
    | none =>
      go_wp2_with fail
      go_ret2
      have hz := HZ3.out
      rw [HFE.out] at hz
      rw [← hz]
      exact ⟨rfl, Q4, HA3.out.trans HA4.out⟩
    | some s4 =>
      have hz := HZ3.out
      rw [HFE.out] at hz
      have HZ4 := Lib.hid hz
      have hs4L : s4.L.length ≤ s.L.length := folF_len HFE.out
      have hnO : ¬ O pr := fun h => by have := HREF.out.olt pr h; omega
      have hnQ : ¬ Q pr := fun h => by have := HQL.out pr h; omega
      have hulT : ul ≠ [] → w.heap.size ≤ b0 ∧ b0 < w2.heap.size := fun hne => by
        have h1 : T ≠ [] := fun e => hne (by rw [HKD.out, e]; simp)
        have := HB0.out h1
        omega
      have hw34 := HA4.out.keep.size
      have hst : RdInv O Q g p pr b0 bw st (recF (T.length + 1) ul s4) (s.L.length + T.length) w w4 := by
        have hull : ul.length ≤ T.length := by rw [HKD.out, List.length_drop]; omega
        refine ⟨_, ul, s4, Q4, HA3.out.trans HA4.out, HR3.out.keep HA4.out.keep (fun h => h.elim hnO hnQ) (fun hne h => ?_), rfl, by omega, fun x hx => hTb x (by rw [HKD.out] at hx; exact List.mem_of_mem_drop hx), by omega, fun h => ?_, fun h => ?_, fun hne => ⟨fun h => ?_, fun h => ?_, ?_⟩, by omega⟩
        · have h1 := (hulT hne).1
          rcases h with h | h
          · have := HREF.out.olt b0 h; omega
          · have := HQL.out b0 h; omega
        · rcases HA4.out.grow pr (.inr h) with h1 | h1
          · exact h1.elim hnO hnQ
          · omega
        · rcases HA4.out.grow bw (.inr h) with h1 | h1
          · exact h1.elim how hqw
          · have := HB3.out.size; omega
        · have h3 := hulT hne
          rcases HA4.out.grow b0 (.inr h) with h1 | h1
          · rcases h1 with h1 | h1
            · have := HREF.out.olt b0 h1; omega
            · have := HQL.out b0 h1; omega
          · omega
        · have := (hulT hne).1; have := HREF.out.olt b0 h; omega
        · have := hulT hne; omega
      have HST := Lib.hid hst
      clear hst hz
      go_wp2_with fail
      go_loopw [] (fun wr => RdInv O Q g p pr b0 bw st (recF (T.length + 1) ul s4) (s.L.length + T.length) w wr) (fun wr => msrR pr wr)
      case atStart => exact HST.out
      case round =>
        clear HST
        obtain ⟨f, l, sj, Qj, hAj, hRj, hTj, hlf, hbyj, hLj, hqpr, hqbw, hqb0, hprw⟩ := hrel
        obtain ⟨f, rfl⟩ : ∃ f', f = f' + 1 := ⟨f - 1, by omega⟩
        have HAJ := Lib.hid hAj
        have HRJ := Lib.hid hRj
        have HTJ := Lib.hid hTj
        have HBJ := Lib.hid hbyj
        have HQ0 := Lib.hid hqb0
        obtain ⟨y, hy⟩ : ∃ y, bytesF 512 l 0 = y := ⟨_, rfl⟩
        have hby := bytes_any b0 pr l 0 512 wr hRj hbyj (by decide)
        rw [show ((512 : Nat) : Int) = 512 from rfl, hy] at hby
        have HBY := Lib.hid hby
        have HY := Lib.hid hy
        clear hAj hRj hTj hbyj hqb0 hby hy
        go_wp2_with fail
        refine HBY.out.mono ?_
        rintro e w5 ⟨v, rfl, hv1, hv2, hR5, hK5⟩
        have hA5 := HAJ.out.reader HRJ.out hK5 hnO (by omega)
        have hk5 := hK5.size
        have HA5 := Lib.hid hA5
        have HR5 := Lib.hid hR5
        have HV1 := Lib.hid hv1
        have HV2 := Lib.hid hv2
        clear hA5 hv1 hv2 hK5 hR5
        obtain ⟨yx, yl, ye⟩ := y
        cases yx with
        | none =>
          have hye : ye ≠ 0 := by
            have := bytesF_none (most := 512) (l := l) (by rw [HY.out])
            rw [HY.out] at this
            exact this
          have hc1 : (ye == 0) = false := by simpa using hye
          have hc2 : (ye != 0) = true := by simpa using hye
          have hv : v = .slice none 0 0 := HV1.out rfl
          subst hv
          go_wp2_with fail
          refine (err_any b0 pr yl ye w5 HR5.out).mono ?_
          rintro e w5' ⟨rfl, hw5⟩
          obtain rfl : w5 = w5' := hw5.symm
          go_wp2_with fail
          go_ret2
          have hz := HZ4.out
          have ht : recF (T.length + 1) ul s4 = sj := by
            rw [HTJ.out, recF, HY.out]
          try simp only at hz
          rw [ht] at hz
          rw [← hz]
          exact ⟨rfl, Qj, HA5.out⟩
        | some x =>
          obtain ⟨q1, q2, q3, q4⟩ := bytesF_some (most := 512) (l := l) (x := x) (by rw [HY.out])
          rw [HY.out] at q1 q2 q3
          simp only at q1 q2 q3
          subst q1
          have hown := HV2.out x rfl
          have hxl : x.length ≤ 140737488355328 := by
            have h3 := hown.1
            have h5 : x.length ≤ 512 := bytesF_len HY.out
            omega
          have hI5 : Ints w5 .u8 v x := Ints.own hown hxl
          have hvb : ∀ k, v.ownBlock = some k → ¬ (O k ∨ Qj k) ∧ k < w5.heap.size := fun k hk => by
            rcases hown.2 with ⟨e2, _⟩ | ⟨g', cap, cur, e2, h2, h3, _⟩
            · rw [e2] at hk; cases hk
            · rw [e2] at hk
              cases hk
              refine ⟨fun h => ?_, Blk.lt h3⟩
              rcases h with h | h
              · have h9 : g' < wr.heap.size := HAJ.out.olt g' h
                omega
              · obtain ⟨ov', lv', oldv', hW'⟩ := HAJ.out.wal
                have h9 : g' < wr.heap.size := hW'.lt g' h
                omega
          have hbw5 : w5.cell? ⟨bw, 0, none⟩ = some (.pointer (some ⟨g, 0, none⟩)) := (HA5.out.keep.cell (p := ⟨bw, 0, none⟩) hbl (fun h => h.elim how hqw)).trans hbw
          have hlay := lay_any O Qj g p bw sj st v x w5 HA5.out.wal HA5.out.disk HA5.out.olt hbw5 hqbw hI5 hvb (by omega)
          have HLAY := Lib.hid hlay
          have HQ3 := Lib.hid q3
          obtain ⟨va, vc, rfl⟩ := hI5.form
          clear hown hI5 hvb hlay q3 q4
          go_wp2_with fail
          refine (err_any b0 pr yl 0 w5 HR5.out).mono ?_
          rintro e w5' ⟨rfl, hw5⟩
          obtain rfl : w5 = w5' := hw5.symm
          go_wp2_with fail
          refine HLAY.out.mono ?_
          rintro e w6 ⟨rfl, Q6, hA6⟩
          have hk6 := hA6.keep.size
          have hylne : yl ≠ [] → l ≠ [] := fun hne e => by rw [e] at q2; simp at q2
          have hR6 := HR5.out.keep hA6.keep (fun h => h.elim hnO hqpr) (fun hne h => by
            have h1 := HQ0.out (hylne hne)
            rcases h with h | h
            · exact h1.2.1 h
            · exact h1.1 h)
          have HA6 := Lib.hid hA6
          have HR6 := Lib.hid hR6
          clear hA6 hR6
          go_wp2_with fail
          refine ⟨⟨f, yl, { sj with L := sj.L ++ [x] }, Q6, HA5.out.trans HA6.out, HR6.out, ?_, by omega, ?_, ?_, fun h => ?_, fun h => ?_, fun hne => ⟨fun h => ?_, (HQ0.out (hylne hne)).2.1, ?_⟩, by omega⟩, ?_⟩
          · rw [HTJ.out, recF, HY.out]
          · obtain ⟨kk, hkk⟩ := HQ3.out
            intro z hz
            rw [hkk] at hz
            exact HBJ.out z (List.mem_of_mem_drop hz)
          · simp only [List.length_append, List.length_cons, List.length_nil]
            omega
          · rcases HA6.out.grow pr (.inr h) with h1 | h1
            · exact h1.elim hnO hqpr
            · omega
          · rcases HA6.out.grow bw (.inr h) with h1 | h1
            · exact h1.elim how hqbw
            · have := HA5.out.keep.size; omega
          · have h0 := HQ0.out (hylne hne)
            rcases HA6.out.grow b0 (.inr h) with h1 | h1
            · exact h1.elim h0.2.1 h0.1
            · omega
          · have h0 := HQ0.out (hylne hne); omega
          · rw [HR6.out.msr, HRJ.out.msr]
            exact q2
  · have hc1 : (ue == 0) = false := by simpa using hue
    have hc2 : (ue != 0) = true := by simpa using hue
    go_wp2_with fail
    go_ret2
    have hz := HZ2.out
    rw [if_pos hue] at hz
    rw [← hz]
    exact ⟨rfl, Q, HA3.out⟩
end Go.Proofs.YtcpkpljeimbdiaaGreat.W
namespace Go.Proofs.YtcpkpljeimbdiaaGreat.W
open Go.RowKit
open Aid K
set_option linter.unusedSimpArgs false
set_option linter.unusedVariables false
def opL (st : DSt) (fr : Int) : List Int → LSt → List Int → Option (LSt × List Int)
  | [], s, gone => some (s, gone)
  | n :: ns, s, gone =>
    let r := if n < fr then (s, true, true) else rdS s n (textF st (4 * n + 1) 65537 0)
    if r.2.1 = false ∨ 4611686018427387904 < r.1.first + r.1.L.length then none else opL st fr ns r.1 (if r.2.2 = true then gone ++ [n] else gone)
noncomputable def opF (st : DSt) (xs : List Int) (fr first : Int) : Option LSt × DSt × Int :=
  if st.dead = true then (none, st, 30) else
  if 4611686018427387904 < first then (none, st, 52) else
  let nx := max (nextF 0 (QU.srt xs)) fr
  if 1152921504606846976 < nx then (none, st, 52) else
  match opL st fr (numsF (QU.srt xs)) ⟨none, first, [], [], nx, 0⟩ [] with
  | none => (none, st, 52)
  | some (s, gone) =>
    let t := setF (numsF (QU.srt xs)) gone st
    if t.2 ≠ 0 then (none, t.1, t.2) else (some s, t.1, 0)
def OpEnd (O : Nat → Prop) (p : Nat) (r : Option LSt × DSt × Int) (w : World) (e : Ending) (w' : World) : Prop :=
  Keeps O w w' ∧ ∃ O', DiskIs O' w' p r.2.1 ∧ (∀ k, O' k → O k ∨ w.heap.size ≤ k) ∧ (∀ k, O' k → k < w'.heap.size) ∧
    match r.1 with
    | none => e = .returned (.tuple #[.pointer none, .int .i64 r.2.2])
    | some s => ∃ g Q, e = .returned (.tuple #[.pointer (some ⟨g, 0, none⟩), .int .i64 r.2.2]) ∧ WalIs O' Q w' g p s ∧ ∀ k, Q k → w.heap.size ≤ k
theorem OpEnd.no {O O' : Nat → Prop} {p : Nat} {r : Option LSt × DSt × Int} {w w' : World} {e : Ending} (h1 : r.1 = none) (hK : Keeps O w w') (hD : DiskIs O' w' p r.2.1) (hg : ∀ k, O' k → O k ∨ w.heap.size ≤ k) (hl : ∀ k, O' k → k < w'.heap.size)
    (he : e = .returned (.tuple #[.pointer none, .int .i64 r.2.2])) : OpEnd O p r w e w' := by
  refine ⟨hK, O', hD, hg, hl, ?_⟩
  rw [h1]; exact he
theorem OpEnd.yes {O O' Q : Nat → Prop} {p g : Nat} {r : Option LSt × DSt × Int} {s : LSt} {w w' : World} {e : Ending} (h1 : r.1 = some s) (hK : Keeps O w w') (hD : DiskIs O' w' p r.2.1) (hg : ∀ k, O' k → O k ∨ w.heap.size ≤ k) (hl : ∀ k, O' k → k < w'.heap.size)
    (he : e = .returned (.tuple #[.pointer (some ⟨g, 0, none⟩), .int .i64 r.2.2])) (hW : WalIs O' Q w' g p s) (hQ : ∀ k, Q k → w.heap.size ≤ k) : OpEnd O p r w e w' := by
  refine ⟨hK, O', hD, hg, hl, ?_⟩
  rw [h1]; exact ⟨g, Q, he, hW, hQ⟩
theorem own64_blk {w : World} {base : Nat} {v : Value} {l : List Int} (h : Own64 w base v l) : ∀ k, v.ownBlock = some k → base ≤ k ∧ k < w.heap.size := by
  intro k hk
  rcases h.2 with ⟨e, _⟩ | ⟨g, cap, cur, e, h1, h2, _⟩
  · rw [e] at hk; cases hk
  · rw [e] at hk; cases hk; exact ⟨h1, Blk.lt h2⟩
theorem recF_same : ∀ (f : Nat) (l : List Int) (s : LSt), (recF f l s).first = s.first ∧ (recF f l s).old = s.old ∧ (recF f l s).opn = s.opn ∧ (recF f l s).code = s.code ∧ (recF f l s).next = s.next ∧ (recF f l s).L.length ≤ s.L.length + l.length
  | 0, l, s => ⟨rfl, rfl, rfl, rfl, rfl, Nat.le_add_right _ _⟩
  | f + 1, l, s => by
    rw [recF]
    cases h : (bytesF 512 l 0).1 with
    | none => exact ⟨rfl, rfl, rfl, rfl, rfl, Nat.le_add_right _ _⟩
    | some x =>
      obtain ⟨h1, h2, h3, h4, h5, h6⟩ := recF_same f (bytesF 512 l 0).2.1 { s with L := s.L ++ [x] }
      have h7 := (bytesF_some (most := 512) h).2.1
      refine ⟨h1, h2, h3, h4, h5, ?_⟩
      simp only [List.length_append, List.length_cons, List.length_nil] at h6
      simp only
      omega
theorem rdS_same {s : LSt} {n : Int} {T : List Int} (h0 : 0 ≤ s.first) (h1 : s.first ≤ 4611686018427387904) :
    (rdS s n T).1.opn = s.opn ∧ (rdS s n T).1.code = s.code ∧ (rdS s n T).1.next = s.next ∧ (rdS s n T).1.L.length ≤ s.L.length + T.length ∧ (rdS s n T).1.old.length ≤ s.old.length + 1 ∧ 0 ≤ (rdS s n T).1.first ∧ (rdS s n T).1.first ≤ 4611686018427387904 := by
  have hr := uintF_range 4611686018427387904 T 0 (by decide)
  obtain ⟨k, hk⟩ := uintF_sub 4611686018427387904 T 0
  unfold rdS
  simp only
  split
  · exact ⟨rfl, rfl, rfl, Nat.le_add_right _ _, Nat.le_succ _, h0, h1⟩
  · cases hf : folF s n (uintF 4611686018427387904 T 0).1 with
    | none => exact ⟨rfl, rfl, rfl, Nat.le_add_right _ _, Nat.le_succ _, h0, h1⟩
    | some s' =>
      simp only
      obtain ⟨q1, q2, q3, q4, q5, q6⟩ := recF_same (T.length + 1) (uintF 4611686018427387904 T 0).2.1 s'
      have hl := folF_len hf
      have hlen : (uintF 4611686018427387904 T 0).2.1.length ≤ T.length := by rw [hk, List.length_drop]; omega
      have hs' : s'.opn = s.opn ∧ s'.code = s.code ∧ s'.next = s.next ∧ s'.old.length = s.old.length + 1 ∧ 0 ≤ s'.first ∧ s'.first ≤ 4611686018427387904 := by
        unfold folF at hf
        split at hf
        · cases hf; exact ⟨rfl, rfl, rfl, by simp, hr.1, hr.2⟩
        · split at hf
          · cases hf
          · cases hf; exact ⟨rfl, rfl, rfl, by simp, h0, h1⟩
      rw [q1, q2, q3, q4, q5]
      exact ⟨hs'.1, hs'.2.1, hs'.2.2.1, by omega, by rw [hs'.2.2.2.1]; exact Nat.le_refl _, hs'.2.2.2.2.1, hs'.2.2.2.2.2⟩
end Go.Proofs.YtcpkpljeimbdiaaGreat.W
namespace Go.Proofs.YtcpkpljeimbdiaaGreat.W
open Go.RowKit
open Aid K
set_option linter.unusedSimpArgs false
set_option linter.unusedVariables false
def G64 (w : World) (v : Value) (l : List Int) : Prop :=
  (v = .slice none 0 0 ∧ l = []) ∨ ∃ b cap cur, v = .slice (some ⟨b, 0, none⟩) l.length cap ∧ Blk w b 37 cur ∧ l.length ≤ cap ∧ cap ≤ maxLen ∧ cur.size = cap ∧ (∀ (j : Nat) x, l[j]? = some x → cur[j]? = some (.int .u64 x)) ∧ ∀ (j : Nat) u, cur[j]? = some u → ∃ x, u = .int .u64 x
theorem G64.nil (w : World) : G64 w (.slice none 0 0) [] := .inl ⟨rfl, rfl⟩
theorem G64.ints {w : World} {v : Value} {l : List Int} (h : G64 w v l) (hl : l.length ≤ 140737488355328) : Ints w .u64 v l := by
  rcases h with ⟨rfl, rfl⟩ | ⟨b, cap, cur, rfl, hb, h1, h2, h3, h4, h5⟩
  · exact Ints.nil _ _
  · refine ⟨hl, .inr ⟨b, 0, cap, rfl, Blk.lt hb, fun j hj => ?_⟩⟩
    rw [hb.cell, Nat.zero_add, h4 j (l.getD j 0) (by rw [List.getD_eq_getElem?_getD, List.getElem?_eq_getElem hj]; rfl)]
theorem G64.lt {w : World} {v : Value} {l : List Int} (h : G64 w v l) : ∀ k, v.ownBlock = some k → k < w.heap.size := fun k hk => by
  rcases h with ⟨rfl, rfl⟩ | ⟨b, cap, cur, rfl, hb, _⟩
  · cases hk
  · cases hk; exact Blk.lt hb
theorem G64.keep {P : Nat → Prop} {w w' : World} {v : Value} {l : List Int} (h : G64 w v l) (hK : Keeps P w w') (hP : ∀ k, v.ownBlock = some k → ¬ P k) : G64 w' v l := by
  rcases h with h | ⟨b, cap, cur, rfl, hb, r⟩
  · exact .inl h
  · exact .inr ⟨b, cap, cur, rfl, blk_keep hb hK (hP b rfl), r⟩
theorem G64.form {w : World} {v : Value} {l : List Int} (h : G64 w v l) : ∃ a c, v = .slice a l.length c := by
  rcases h with ⟨rfl, rfl⟩ | ⟨b, cap, cur, rfl, _⟩
  · exact ⟨_, _, rfl⟩
  · exact ⟨_, _, rfl⟩
theorem zc_get (x : Value) (n j : Nat) (u : Value) (h : (Builtin.zeroCells #[x] n)[j]? = some u) : u = x := by
  have hm := Array.mem_of_getElem? h
  simp [Builtin.zeroCells] at hm
  obtain ⟨i, _, h2⟩ := hm
  rw [Nat.mod_one] at h2
  exact h2.symm
theorem push64 (w : World) (v : Value) (l : List Int) (hG : G64 w v l) (g : Nat) (y : Int) (hc : w.cell? ⟨g, 0, none⟩ = some (.int .u64 y)) (hl : l.length ≤ 4398046511104) :
    ∃ v' w', (∀ ty, (Builtin.append_ #[60, 60] ty #[v, .slice (some ⟨g, 0, none⟩) 1 1]).run Tryz.prog w = .ok v' w') ∧ G64 w' v' (l ++ [y]) ∧ Keeps (fun k => v.ownBlock = some k) w w' ∧ (∀ k, v'.ownBlock = some k → v.ownBlock = some k ∨ w.heap.size ≤ k) := by
  obtain ⟨iu, hiu, hzu, hsu, hbu⟩ := info_parts info_u64
  have hnews : ∀ (j : Nat) u, ([Value.int .u64 y] : List Value)[j]? = some u → w.cell? ((⟨g, 0, none⟩ : Addr).add j) = some u := fun j u hj => by
    match j, hj with
    | 0, hj => simp at hj; subst hj; simpa [Addr.add] using hc
    | j + 1, hj => simp at hj
  have hkeep : ∀ (o : Obj), Keeps (fun k => v.ownBlock = some k) w (w.drew.alloc o) := fun o => Keeps.of_below ((Below.refl w.heap.size w).drew.alloc (by simp) o)
  rcases hG with ⟨rfl, rfl⟩ | ⟨b, cap, cur, rfl, hb, h1, h2, h3, h4, h5⟩
  · have hge := grownCap_ge w 1 0 37
    have hcm : grownCap w 1 0 37 ≤ maxLen := grownCap_le_maxLen w 1 0 37 (by unfold maxLen; omega)
    refine ⟨_, _, fun ty => run_append_nil (P := Tryz.prog) w 60 ty 37 iu _ Tryz.underlying60 hiu hzu ⟨g, 0, none⟩ 1 1 [.int .u64 y] (by rw [hsu]; rfl) hnews (by decide) (by decide) (by rw [hbu]; decide), .inr ⟨w.heap.size, _, _, rfl, heap_alloc_new w.drew _, hge, hcm, ?_, fun j x hj => ?_, fun j u hj => ?_⟩, hkeep _, fun k hk => ?_⟩
    · simp only [Array.size_append, List.size_toArray, size_zeroCells]
      show [Value.int .u64 y].length + (grownCap w 1 0 37 - 1) * 1 = _
      simp only [List.length_cons, List.length_nil]
      omega
    · match j, hj with
      | 0, hj => simp at hj; subst hj; rw [Array.getElem?_append_left (by simp)]; rfl
      | j + 1, hj => simp at hj
    · rw [Array.getElem?_append] at hj
      split at hj
      · match j, hj with
        | 0, hj => simp at hj; exact ⟨y, hj.symm⟩
        | j + 1, hj => simp at hj
      · exact ⟨0, zc_get _ _ _ _ hj⟩
    · cases hk; exact .inr (Nat.le_refl _)
  · have hlt := Blk.lt hb
    by_cases hroom : l.length + 1 ≤ cap
    · have hr := fun ty => run_append_room (P := Tryz.prog) w 60 ty 37 iu Tryz.underlying60 hiu b l.length cap cur hb ⟨g, 0, none⟩ 1 1 [.int .u64 y] (by rw [hsu]; rfl) hnews (fun u hu => by simp at hu; subst hu; rfl) hroom (by rw [hsu]; simp only [List.length_cons, List.length_nil]; omega)
      rw [hsu] at hr
      simp only [Nat.mul_one, List.length_cons, List.length_nil, Nat.zero_add] at hr
      have hget : ∀ j : Nat, ((cur.toList.take l.length ++ [Value.int .u64 y] ++ cur.toList.drop (l.length + 1)).toArray)[j]? = if j = l.length then some (.int .u64 y) else cur[j]? := fun j => by
        simp only [List.getElem?_toArray]
        have ht : (cur.toList.take l.length).length = l.length := by simp only [List.length_take, Array.length_toList]; omega
        by_cases hj : j < l.length
        · rw [if_neg (by omega), List.append_assoc, List.getElem?_append_left (by omega), List.getElem?_take_of_lt hj, Array.getElem?_toList]
        · by_cases hj2 : j = l.length
          · subst hj2
            rw [if_pos rfl, List.append_assoc, List.getElem?_append_right (by omega), ht, Nat.sub_self]
            rfl
          · rw [if_neg hj2, List.getElem?_append_right (by rw [List.length_append, ht]; simp only [List.length_cons, List.length_nil]; omega), List.length_append, ht, List.getElem?_drop]
            simp only [List.length_cons, List.length_nil, Nat.zero_add]
            rw [show l.length + 1 + (j - (l.length + 1)) = j by omega, Array.getElem?_toList]
      refine ⟨_, _, hr, .inr ⟨b, cap, _, by rw [List.length_append]; rfl, setRow_heap w b cur _ _ _ hb, by rw [List.length_append]; exact hroom, h2, ?_, fun j x hj => ?_, fun j u hj => ?_⟩, ⟨rfl, rfl, rfl, by simp [World.setRow], fun k _ hk => setRow_other w b k _ (fun e => hk (by rw [e]; rfl)), fun k hk => setRow_other w b k _ (fun e => StrRow.no_blk hb (by decide) (e ▸ hk))⟩, fun k hk => .inl hk⟩
      · simp only [List.size_toArray, List.length_append, List.length_take, List.length_drop, Array.length_toList, List.length_cons, List.length_nil]
        omega
      · rw [hget]
        by_cases hj2 : j = l.length
        · subst hj2
          rw [if_pos rfl]
          rw [List.getElem?_append_right (Nat.le_refl _), Nat.sub_self] at hj
          simp at hj; subst hj; rfl
        · rw [if_neg hj2]
          have := (List.getElem?_eq_some_iff.1 hj).1
          rw [List.length_append] at this
          simp only [List.length_cons, List.length_nil] at this
          rw [List.getElem?_append_left (by omega)] at hj
          exact h4 j x hj
      · rw [hget] at hj
        split at hj
        · exact ⟨y, by cases hj; rfl⟩
        · exact h5 j u hj
    · have hold : ∀ (j : Nat) u, (l.map (Value.int .u64))[j]? = some u → w.cell? ((⟨b, 0, none⟩ : Addr).add j) = some u := fun j u hj => by
        rw [add_any, hb.cell, Nat.zero_add]
        rw [List.getElem?_map] at hj
        cases hx : l[j]? with
        | none => rw [hx] at hj; cases hj
        | some x => rw [hx] at hj; cases hj; exact h4 j x hx
      have hge := grownCap_ge w (l.length + 1) cap 37
      have hcm : grownCap w (l.length + 1) cap 37 ≤ maxLen := grownCap_le_maxLen w (l.length + 1) cap 37 (by unfold maxLen; omega)
      refine ⟨_, _, fun ty => run_append_grow (P := Tryz.prog) w 60 ty 37 iu _ Tryz.underlying60 hiu hzu ⟨b, 0, none⟩ l.length cap (l.map (.int .u64)) (by rw [hsu, List.length_map]; omega) hold ⟨g, 0, none⟩ 1 1 [.int .u64 y] (by rw [hsu]; rfl) hnews (by omega) (by omega) (growslice_fits (by omega) (by rw [hbu]; omega)), .inr ⟨w.heap.size, _, _, by rw [List.length_append]; rfl, heap_alloc_new w.drew _, by rw [List.length_append]; exact hge, hcm, ?_, fun j x hj => ?_, fun j u hj => ?_⟩, hkeep _, fun k hk => ?_⟩
      · simp only [Array.size_append, List.size_toArray, size_zeroCells, List.length_map]
        show l.length + [Value.int .u64 y].length + (grownCap w (l.length + 1) cap 37 - (l.length + 1)) * 1 = _
        simp only [List.length_cons, List.length_nil]
        omega
      · have hjl := (List.getElem?_eq_some_iff.1 hj).1
        rw [Array.getElem?_append_left (by simpa using hjl)]
        rw [← List.map_singleton (f := Value.int .u64), List.append_toArray, ← List.map_append, List.getElem?_toArray, List.getElem?_map, hj]
        rfl
      · rw [Array.getElem?_append] at hj
        split at hj
        · rw [← List.map_singleton (f := Value.int .u64), List.append_toArray, ← List.map_append, List.getElem?_toArray, List.getElem?_map] at hj
          cases hx : (l ++ [y])[j]? with
          | none => rw [hx] at hj; cases hj
          | some x => rw [hx] at hj; cases hj; exact ⟨x, rfl⟩
        · exact ⟨0, zc_get _ _ _ _ hj⟩
      · cases hk; exact .inr (Nat.le_refl _)
theorem wpList_push64 {ops : Array Oper} {rest : List Oper} {o : Oper} {a : Act} {Q : Exit → Act → World → Prop} (w : World)
    (hw : Region.wanted o (yielded ops a.tmps) = true) (s x : Operand) (t : TypeId)
    (ho : o.op = .call { callee := .builtin .append, args := #[s, x], argTypes := #[t, t] })
    (v v' : Value) (w' : World) (ad : Addr) (m c : Nat) (hs : a.eval s = v) (hx : a.eval x = .slice (some ad) m c)
    (hrun : ∀ ty, (Builtin.append_ #[t, t] ty #[v, .slice (some ad) m c]).run Tryz.prog w = .ok v' w')
    (h : wpList Tryz.prog ops Q rest (a.put o.dst v') w') : wpList Tryz.prog ops Q (o :: rest) a w := by
  refine wpList_want hw fun K hK => ?_
  have hrun := hrun o.type
  unfold Oper.wp
  simp [execOp, ho, resolve, invoke, builtin, hs, hx, hrun, Result.andThen]
  exact hK _ _ h
theorem ints_u64 {w w' : World} {v gv : Value} {x l : List Int} (h : Ints w .u8 v x) (hG : G64 w gv l) (hK : Keeps (fun k => gv.ownBlock = some k) w w') : Ints w' .u8 v x := by
  refine ints_kept3 h hK fun b hb hx e => ?_
  obtain ⟨_, ⟨h0, _⟩ | ⟨b', off, cap, hv, hlt, hc⟩⟩ := h
  · exact hx h0
  · rw [hv] at hb
    have hbb : b' = b := by simpa [Value.ownBlock] using hb
    subst hbb
    rcases hG with ⟨rfl, _⟩ | ⟨b2, cap2, cur, rfl, hb2, _, _, _, _, h5⟩
    · cases e
    · have e2 : b2 = b' := by simpa [Value.ownBlock] using e
      subst e2
      have h6 := hc 0 (by
        cases x with
        | nil => exact absurd rfl hx
        | cons a t => simp)
      rw [hb2.cell] at h6
      obtain ⟨z, hz⟩ := h5 _ _ h6
      cases hz
theorem Recs.gone {Q : Nat → Prop} {w w' : World} {lv gv : Value} {L : List (List Int)} {vs : List Value} {l : List Int} (h : Recs Q w lv L vs) (hG : G64 w gv l) (hR : OffRow w 37 1 gv l.length (l.map (.int .u64))) (hK : Keeps (fun k => gv.ownBlock = some k) w w') : Recs Q w' lv L vs := by
  refine ⟨h.len, h.row.keep hK (fun k hk e => offrow_ne2 h.row hR (by decide) k hk k e rfl), fun j v x hv hl => ?_⟩
  obtain ⟨h1, h2⟩ := h.ints j v x hv hl
  exact ⟨ints_u64 h1 hG hK, fun k hk => ⟨(h2 k hk).1, by have := (h2 k hk).2; have := hK.size; omega⟩⟩
theorem G64.off {w : World} {v : Value} {l : List Int} (h : G64 w v l) : OffRow w 37 1 v l.length (l.map (.int .u64)) := by
  rcases h with ⟨rfl, rfl⟩ | ⟨b, cap, cur, rfl, hb, h1, h2, h3, h4, h5⟩
  · exact OffRow.nil _ _ _
  · refine ⟨by simp, .inr ⟨b, 0, cap, cur, rfl, hb, h1, h2, by omega, fun j u hj => ?_⟩⟩
    rw [List.getElem?_map] at hj
    rw [Nat.zero_add]
    cases hx : l[j]? with
    | none => rw [hx] at hj; cases hj
    | some x => rw [hx] at hj; cases hj; exact h4 j x hx
theorem WalIn.gone {O Q : Nat → Prop} {w w' : World} {g p : Nat} {s : LSt} {ov lv oldv gv : Value} {l : List Int} (h : WalIn O Q w g p s ov lv oldv) (hG : G64 w gv l) (hK : Keeps (fun k => gv.ownBlock = some k) w w') : WalIn O Q w' g p s ov lv oldv where
  blk := blk_keep h.blk hK (fun hp => offrow_ne h.blk hG.off (by decide) g hp rfl)
  qg := h.qg
  opn := by
    have ho := h.opn
    cases hq : s.opn with
    | none => rw [hq] at ho; exact ho
    | some q =>
      rw [hq] at ho
      obtain ⟨o, rv, e1, e2, e3, e4, e5⟩ := ho
      exact ⟨o, rv, e1, blk_keep e2 hK (fun hp => offrow_ne e2 hG.off (by decide) o hp rfl), e3, e4.keep hK (fun k hk e => offrow_ne2 e4 hG.off (by decide) k hk k e rfl), e5⟩
  recs := by
    obtain ⟨vs, hr⟩ := h.recs
    exact ⟨vs, hr.gone hG hG.off hK⟩
  ql := h.ql
  segs := h.segs.keep hK (fun k hk e => offrow_ne2 h.segs hG.off (by decide) k hk k e rfl)
  qs := h.qs
  lt := fun k hk => by have := h.lt k hk; have := hK.size; omega
  apart := h.apart
theorem LogAt.gone {O Q O' Q' : Nat → Prop} {w w' w2 : World} {g p : Nat} {s : LSt} {st : DSt} {gv : Value} {l : List Int} (h : LogAt O Q w g p s st O' Q' w') (hG : G64 w' gv l) (hK : Keeps (fun k => gv.ownBlock = some k) w' w2) (hn : ∀ k, gv.ownBlock = some k → ¬ O' k ∧ w.heap.size ≤ k) : LogAt O Q w g p s st O' Q' w2 := by
  obtain ⟨ov, lv, oldv, hW⟩ := h.wal
  exact ⟨⟨ov, lv, oldv, hW.gone hG hK⟩, h.disk.keep hK (fun k hk e => (hn k e).1 hk), fun k hk => by have := h.olt k hk; have := hK.size; omega, h.grow, h.keep.trans hK (fun k hk => .inr (hn k hk).2)⟩
end Go.Proofs.YtcpkpljeimbdiaaGreat.W
namespace Go.Proofs.YtcpkpljeimbdiaaGreat.W
open Go.RowKit
open Aid K
set_option linter.unusedSimpArgs false
set_option linter.unusedVariables false
theorem opb_next {k : Nat} {s : LSt} (h1 : s.L.length ≤ k * 4128832) (h2 : s.old.length ≤ k) (h3 : 0 ≤ s.first) (h4 : s.first ≤ 4611686018427387904) (h5 : s.opn = none) (h6 : s.code = 0) : s.L.length ≤ (k + 1) * 4128832 ∧ s.old.length ≤ k + 1 ∧ 0 ≤ s.first ∧ s.first ≤ 4611686018427387904 ∧ s.opn = none ∧ s.code = 0 :=
  ⟨Nat.le_trans h1 (Nat.mul_le_mul_right _ (Nat.le_succ k)), Nat.le_succ_of_le h2, h3, h4, h5, h6⟩
def OpG (O : Nat → Prop) (G p : Nat) (st : DSt) (fr : Int) (N : List Int) (T0 : Option (LSt × List Int)) (na : Option Addr) (nc : Nat) (wI : World) (gv : Value) (k : Nat) (wr : World) : Prop :=
  ∃ s Q' gone, LogAt O (fun k => k = G) wI G p s st O Q' wr ∧ T0 = opL st fr (N.drop k) s gone ∧
    Ints wr .u64 (.slice na N.length nc) N ∧ (∀ k, (Value.slice na N.length nc).ownBlock = some k → (¬ (O k ∨ Q' k) ∧ k < wr.heap.size) ∧ ¬ gv.ownBlock = some k) ∧ wr.cell? ⟨G + 1, 0, none⟩ = some (.pointer (some ⟨G, 0, none⟩)) ∧ (¬ O (G + 1) ∧ ¬ Q' (G + 1)) ∧
    (G64 wr gv gone ∧ (∀ k, gv.ownBlock = some k → (¬ O k ∧ ¬ Q' k) ∧ wI.heap.size ≤ k) ∧ gone.length ≤ k) ∧
    s.L.length ≤ k * 4128832 ∧ s.old.length ≤ k ∧ 0 ≤ s.first ∧ s.first ≤ 4611686018427387904 ∧ s.opn = none ∧ s.code = 0
set_option maxRecDepth 100000 in
set_option maxHeartbeats 4000000 in
theorem open_gen (O : Nat → Prop) (p : Nat) (st : DSt) (R : Int) (i : Nat) (fr first : Int) (w : World) (hD : DiskIs O w p st) (hO : ∀ k, O k → k < w.heap.size) (hS : Sects st) (hF : FitS st R i) (hi : i + 1048600 ≤ 4398046511103) (hC : st.C ≤ 1048600) (hR : R ≤ 9223372036854775807)
    (hfr : 0 ≤ fr ∧ fr < 18446744073709551616) (hfi : 0 ≤ first ∧ first < 18446744073709551616) :
    Calls Tryz.prog 8 #[.pointer (some ⟨p, 0, none⟩), .int .u64 fr, .int .u64 first] w fun e w' => ∃ xs, (st.dead = false → first ≤ 4611686018427387904 → AreasOf st xs) ∧ OpEnd O p (opF st xs fr first) w e w' := by
  have HDI := Lib.hid hD
  have HS := Lib.hid hS
  have HF := Lib.hid hF
  have HDD := Lib.hid (dead_any O p st w hD)
  obtain ⟨dd, hdd⟩ : ∃ dd, st.dead = dd := ⟨_, rfl⟩
  rw [hdd] at HDD ⊢
  have HD := Lib.hid hdd
  clear hD hS hF hdd
  cases dd with
  | true =>
    go_enter Tryz.func8, Tryz.ntmps8
    go_wp2_with fail
    refine HDD.out.mono ?_
    rintro e w1 ⟨rfl, hw1⟩
    obtain rfl : w = w1 := hw1.symm
    go_wp2_with fail
    go_ret2
    have hz : opF st [] fr first = (none, st, 30) := by unfold opF; rw [if_pos HD.out]
    refine ⟨[], fun h => absurd h (by decide), ?_⟩
    rw [hz]
    exact OpEnd.no rfl (Keeps.refl _ _) HDI.out (fun k hk => .inl hk) hO rfl
  | false =>
    have hnd : ¬ st.dead = true := by rw [HD.out]; decide
    by_cases htop : 4611686018427387904 < first
    · go_enter Tryz.func8, Tryz.ntmps8
      go_wp2_with fail
      refine HDD.out.mono ?_
      rintro e w1 ⟨rfl, hw1⟩
      obtain rfl : w = w1 := hw1.symm
      go_wp2_with fail
      go_ret2
      have hz : opF st [] fr first = (none, st, 52) := by unfold opF; rw [if_neg hnd, if_pos htop]
      refine ⟨[], fun _ h => by omega, ?_⟩
      rw [hz]
      exact OpEnd.no rfl (Keeps.refl _ _) HDI.out (fun k hk => .inl hk) hO rfl
    · go_enter Tryz.func8, Tryz.ntmps8
      go_wp2_with fail
      refine HDD.out.mono ?_
      rintro e w1 ⟨rfl, hw1⟩
      obtain rfl : w = w1 := hw1.symm
      go_wp2_with fail
      obtain ⟨G, hG⟩ : ∃ G, w.heap.size = G := ⟨_, rfl⟩
      have hbI : Below w.heap.size w ((w.alloc (.cells (walV (.pointer none) p first (.slice none 0 0) (.slice none 0 0) 0 0) 75)).alloc (.cells #[.pointer (some ⟨w.heap.size, 0, none⟩)] 32)) := ((Below.refl _ _).alloc (Nat.le_refl _) _).alloc (by simp) _
      have hB1 : Blk (w.alloc (.cells (walV (.pointer none) p first (.slice none 0 0) (.slice none 0 0) 0 0) 75)) w.heap.size 75 (walV (.pointer none) p first (.slice none 0 0) (.slice none 0 0) 0 0) := Blk.alloc_new _ _ _
      have hBI : Blk ((w.alloc (.cells (walV (.pointer none) p first (.slice none 0 0) (.slice none 0 0) 0 0) 75)).alloc (.cells #[.pointer (some ⟨w.heap.size, 0, none⟩)] 32)) w.heap.size 75 (walV (.pointer none) p first (.slice none 0 0) (.slice none 0 0) 0 0) := blk_keep (O := fun _ => False) hB1 (Keeps.of_below ((Below.refl _ _).alloc (Nat.le_refl _) _)) (fun h => h)
      have hBW : Blk ((w.alloc (.cells (walV (.pointer none) p first (.slice none 0 0) (.slice none 0 0) 0 0) 75)).alloc (.cells #[.pointer (some ⟨w.heap.size, 0, none⟩)] 32)) (w.heap.size + 1) 32 #[.pointer (some ⟨w.heap.size, 0, none⟩)] := by
        have := Blk.alloc_new (w.alloc (.cells (walV (.pointer none) p first (.slice none 0 0) (.slice none 0 0) 0 0) 75)) #[.pointer (some ⟨w.heap.size, 0, none⟩)] 32
        rw [show (w.alloc (.cells (walV (.pointer none) p first (.slice none 0 0) (.slice none 0 0) 0 0) 75)).heap.size = w.heap.size + 1 by simp] at this
        exact this
      obtain ⟨wI, hwI⟩ : ∃ wI, (w.alloc (.cells #[.pointer none, .pointer (some ⟨p, 0, none⟩), .int .u64 first, .slice none 0 0, .slice none 0 0, .int .u64 0, .int .i64 0] 75)).alloc (.cells #[.pointer (some ⟨w.heap.size, 0, none⟩)] 32) = wI := ⟨_, rfl⟩
      have hwI' : (w.alloc (.cells (walV (.pointer none) p first (.slice none 0 0) (.slice none 0 0) 0 0) 75)).alloc (.cells #[.pointer (some ⟨w.heap.size, 0, none⟩)] 32) = wI := hwI
      rw [hwI'] at hbI hBI hBW
      rw [hwI, hG]
      rw [hG] at hBI hBW
      have hGs : G < wI.heap.size := Blk.lt hBI
      have hbwl : G + 1 < wI.heap.size := Blk.lt hBW
      have hWI : WalIn O (fun k => k = G) wI G p ⟨none, first, [], [], 0, 0⟩ (.pointer none) (.slice none 0 0) (.slice none 0 0) :=
        ⟨hBI, rfl, rfl, ⟨[], ⟨rfl, OffRow.nil _ _ _, fun j v l hv => (by cases hv)⟩⟩, fun k hk => (by cases hk), Segs.nil _, fun k hk => (by cases hk), fun k hk => (by omega), fun k hk ho => (by have := hO k ho; omega)⟩
      have hOI : ∀ k, O k → k < wI.heap.size := fun k hk => by have := hO k hk; omega
      have hDI := HDI.out.below hbI
      have hnum := numbers_any O (fun k => k = G) G p ⟨none, first, [], [], 0, 0⟩ st wI ⟨_, _, _, hWI⟩ hDI hOI (by omega)
      have HNUM := Lib.hid hnum
      have HBI := Lib.hid hbI
      have HBW := Lib.hid hBW
      clear hwI hwI' hB1 hBI hBW hWI hDI hnum hbI
      refine HNUM.out.mono ?_
      rintro e w2 ⟨vN, xs, rfl, hxs, hxl, hvN, hxb, hA2, hK2⟩
      obtain ⟨Y, hY⟩ : ∃ Y, QU.srt xs = Y := ⟨_, rfl⟩
      rw [hY] at hvN hxb hA2
      have hbw2 : w2.cell? ⟨G + 1, 0, none⟩ = some (.pointer (some ⟨G, 0, none⟩)) := (hK2.cell (p := ⟨G + 1, 0, none⟩) hbwl (by show ¬ (G + 1 = G); omega)).trans (HBW.out.cell 0)
      obtain ⟨ov2, lv2, oldv2, hW2⟩ := hA2.wal
      obtain ⟨c0, c1, c2, c3, c4, c5, c6⟩ := blk7 hW2.blk
      obtain ⟨f0, f1, f2, f3, f4, f5, f6⟩ := free7 hW2.blk
      obtain ⟨NX, hNX⟩ : ∃ NX, nextF 0 Y = NX := ⟨_, rfl⟩
      rw [hNX] at hA2 hW2
      simp only [hNX] at c5
      obtain ⟨N, hN⟩ : ∃ N, numsF Y = N := ⟨_, rfl⟩
      rw [hN] at hvN
      obtain ⟨MX, hMX⟩ : ∃ MX, max NX fr = MX := ⟨_, rfl⟩
      have hmx : (if NX < fr then fr else NX) = MX := by rw [← hMX]; split <;> omega
      have HA2 := Lib.hid hA2
      have HW2 := Lib.hid hW2
      have HVN := Lib.hid hvN
      have HXS := Lib.hid (And.intro hxs (And.intro hxl (And.intro hY (And.intro hNX (And.intro hN hMX)))))
      have HXB := Lib.hid hxb
      clear hA2 hW2 hvN hxs hxl hY hNX hN hMX hxb hK2
      go_wp2_with fail
      refine' wp_cut0 _ _ ?reg7 ?imp7
      case reg7 =>
        go_region_law (fail)
        all_goals
          refine ⟨rfl, ?_, ?_⟩
          · exact Eq.refl _
          · exact Eq.refl _
      case imp7 =>
        have hKg : Keeps (fun k => k = G) w2 (w2.setCell ⟨G, 5, none⟩ (.int .u64 MX)) := set_keeps (Keeps.refl _ _) rfl (StrRow.no_blk HW2.out.blk (by decide))
        have hW3 := HW2.out.turn (s' := ⟨none, first, [], [], MX, 0⟩) hKg (by simp [World.setCell]) (HW2.out.blk.set 5 _) rfl rfl rfl
        have hA3 : LogAt O (fun k => k = G) wI G p ⟨none, first, [], [], MX, 0⟩ st O (fun k => k = G) (w2.setCell ⟨G, 5, none⟩ (.int .u64 MX)) :=
          HA2.out.trans ⟨⟨_, _, _, hW3⟩, HA2.out.disk.keep hKg (fun k hk e => HW2.out.apart k e hk), fun k hk => (by have := HA2.out.olt k hk; have := hKg.size; omega), fun k hk => .inl hk, keeps_mono hKg (fun k hk => .inr hk)⟩
        have hdr : Below (w2.setCell ⟨G, 5, none⟩ (.int .u64 MX)).heap.size (w2.setCell ⟨G, 5, none⟩ (.int .u64 MX)) (w2.setCell ⟨G, 5, none⟩ (.int .u64 MX)).drew := (Below.refl _ _).drew
        have hvN3 : Own64 (w2.setCell ⟨G, 5, none⟩ (.int .u64 MX)).drew wI.heap.size vN N := own64_keep (own64_keep HVN.out hKg (fun g' hg' e => (by omega))) (Keeps.of_below (O := fun _ => False) hdr) (fun _ _ h => h)
        have hbw3 : (w2.setCell ⟨G, 5, none⟩ (.int .u64 MX)).drew.cell? ⟨G + 1, 0, none⟩ = some (.pointer (some ⟨G, 0, none⟩)) := (hKg.cell (p := ⟨G + 1, 0, none⟩) (Nat.lt_of_lt_of_le hbwl HA2.out.keep.size) (by show ¬ (G + 1 = G); omega)).trans hbw2
        have hW3d := hW3.below hdr
        have hA3d := hA3.below hdr
        obtain ⟨w3, hw3⟩ : ∃ w3, (w2.setCell ⟨G, 5, none⟩ (.int .u64 MX)).drew = w3 := ⟨_, rfl⟩
        rw [hw3] at hvN3 hbw3 hW3d hA3d
        have HVN := Lib.hid hvN3
        have HA3 := Lib.hid hA3d
        obtain ⟨d0, d1, d2, d3, d4, d5, d6⟩ := blk7 hW3d.blk
        have HW3 := Lib.hid hW3d
        clear hKg hW3 hA3 hdr hvN3 hW3d hA3d c0 c1 c2 c3 c4 c5 c6 f0 f1 f2 f3 f4 f5 f6
        try rw [hw3]
        simp only at d5
        by_cases hmany : 1152921504606846976 < MX
        · go_wp2_with fail
          go_ret2
          obtain ⟨q1, q2, q3, q4, q5, q6⟩ := HXS.out
          refine ⟨xs, q1, ?_⟩
          have hz : opF st xs fr first = (none, st, 52) := by
            unfold opF
            rw [if_neg hnd, if_neg (by omega)]
            simp only [q3, q4, q6]
            rw [if_pos hmany]
          rw [hz]
          exact OpEnd.no rfl ((Keeps.of_below (O := O) HBI.out).trans HA3.out.keep (fun k hk => hk.elim .inl (fun e => .inr (by omega)))) HA3.out.disk (fun k hk => .inl hk) HA3.out.olt rfl
        · have hNl : N.length ≤ 1048600 := by
            obtain ⟨q1, q2, q3, q4, q5, q6⟩ := HXS.out
            rw [← q5, ← q3]
            unfold numsF
            rw [List.length_map]
            have h1 := List.length_filter_le (fun a => decide (a % 4 = 1)) (QU.srt xs)
            have h2 : (QU.srt xs).length = xs.length := (List.mergeSort_perm xs _).length_eq
            omega
          have hIN : Ints w3 .u64 vN N := Ints.own HVN.out (by omega)
          obtain ⟨na, nc, rfl⟩ := hIN.form
          have HIN := Lib.hid hIN
          obtain ⟨n, hn⟩ : ∃ n, N.length = n := ⟨_, rfl⟩
          have HN := Lib.hid hn
          rw [hn] at hNl ⊢
          obtain ⟨T0, hT0⟩ : ∃ T0, opL st fr N ⟨none, first, [], [], MX, 0⟩ [] = T0 := ⟨_, rfl⟩
          have HT0 := Lib.hid hT0
          have htop' : first ≤ 4611686018427387904 := by omega
          have HNB := Lib.hid (show ∀ x ∈ N, 0 ≤ x ∧ x < 4611686018427387904 from by
            obtain ⟨q1, q2, q3, q4, q5, q6⟩ := HXS.out
            intro x hx
            rw [← q5] at hx
            unfold numsF at hx
            obtain ⟨z, hz, rfl⟩ := List.mem_map.1 hx
            have := HXB.out z (List.mem_filter.1 hz).1
            omega)
          clear hIN hn hT0
          have HST := Lib.hid (show OpG O G p st fr N T0 na nc wI (.slice none 0 0) 0 w3 from ⟨⟨none, first, [], [], MX, 0⟩, fun k => k = G, [], HA3.out, HT0.out.symm, HIN.out, fun k hk => (by
            have h1 := own64_blk HVN.out k hk
            refine ⟨⟨fun h => ?_, h1.2⟩, (fun h => by cases h)⟩
            rcases h with h | h
            · have := hOI k h; omega
            · omega), hbw3, ⟨fun h => (by have := hO _ h; omega), by omega⟩, ⟨G64.nil _, (fun k hk => by cases hk), Nat.le_refl _⟩, by simp, by simp, hfi.1, htop', rfl, rfl⟩)
          have hGI : G + 1 < wI.heap.size := hbwl
          go_wp2_with fail
          go_loopw [10, 42] (fun x10 x42 wr => ∃ (k : Nat) (gv : Value), gv = x10 ∧ x42 = .int .i64 k ∧ k ≤ n ∧ Hid (OpG O G p st fr N T0 na nc wI gv k wr)) (fun _ x42 _ => (n - intOf x42).toNat)
          case atStart => exact ⟨0, _, rfl, rfl, Nat.zero_le _, HST⟩
          case round =>
            clear HST
            obtain ⟨k, x10, hx10, rfl, hk, hinv⟩ := hrel
            subst hx10
            by_cases hlt : (k : Int) < (n : Int)
            · obtain ⟨sj, Qj, gl, hAj, hTj, hIj, hib, hbwj, hbq, hG3, hLj, holj, hfj0, hfj1, hoj, hcj⟩ := hinv.out
              have hkN : k < N.length := by rw [HN.out]; omega
              obtain ⟨nb, no, rfl, hnb, hcell⟩ := hIj.at_ (k := k) hkN rfl
              obtain ⟨y, hy⟩ : ∃ y, N.getD k 0 = y := ⟨_, rfl⟩
              rw [hy] at hcell
              have hyk : N[k]? = some y := by rw [← hy, List.getD_eq_getElem?_getD, List.getElem?_eq_getElem hkN]; rfl
              have hdrp : N.drop k = y :: N.drop (k + 1) := by
                rw [List.drop_eq_getElem_cons hkN]
                congr 1
                rw [List.getElem?_eq_getElem hkN] at hyk
                cases hyk; rfl
              obtain ⟨hy0, hy1⟩ := HNB.out y (List.mem_of_getElem? hyk)
              clear hy
              obtain ⟨dv, hdy⟩ : ∃ dv, decide (y < fr) = dv := ⟨_, rfl⟩
              go_wp2_with fail
              obtain ⟨w1, hw1e⟩ : ∃ w1, wr.alloc (.cells #[.int .u64 y] 37) = w1 := ⟨_, rfl⟩
              have hb1 : Below wr.heap.size wr w1 := by rw [← hw1e]; exact (Below.refl _ _).alloc (Nat.le_refl _) _
              have hBn : Blk w1 wr.heap.size 37 #[.int .u64 y] := by rw [← hw1e]; exact Blk.alloc_new _ _ _
              rw [hw1e]
              obtain ⟨bn, hbn⟩ : ∃ bn, wr.heap.size = bn := ⟨_, rfl⟩
              rw [hbn] at hBn ⊢
              have hn1 := hBn.cell 0
              clear hw1e
              have HDRP := Lib.hid hdrp
              have HB1 := Lib.hid hb1
              have HAJ := Lib.hid hAj
              have HIJ := Lib.hid (And.intro hIj hib)
              have HTJ := Lib.hid hTj
              have HBN := Lib.hid hBn
              have HG3 := Lib.hid hG3
              have hqlt : ∀ k, Qj k → k < wr.heap.size := by
                obtain ⟨_, _, _, hW⟩ := hAj.wal
                exact hW.lt
              have HQL := Lib.hid hqlt
              clear hdrp hb1 hAj hIj hib hTj hBn hyk hG3 hqlt
              first
              | (go_quiet (fail))
              | fail "quiet"
              obtain ⟨w4, hw4⟩ : ∃ w4, w1.drewN nq = w4 := ⟨_, rfl⟩
              have hb4 : Below w1.heap.size w1 w4 := by rw [← hw4]; exact below_drewN (Below.refl _ _) nq
              rw [hw4]
              clear hw4
              have hB14 : Below wr.heap.size wr w4 := HB1.out.trans (hb4.mono HB1.out.size)
              have hA4 := HAJ.out.below hB14
              have hbnl : bn < w1.heap.size := Blk.lt HBN.out
              have hn4 : w4.cell? ⟨bn, 0, none⟩ = some (.int .u64 y) := (hb4.cell (p := ⟨bn, 0, none⟩) hbnl).trans (HBN.out.cell 0)
              have hbwjl : G + 1 < wr.heap.size := World.block_lt_of_cell? wr _ hbwj
              have hbw4 : w4.cell? ⟨G + 1, 0, none⟩ = some (.pointer (some ⟨G, 0, none⟩)) := (hB14.cell (p := ⟨G + 1, 0, none⟩) hbwjl).trans hbwj
              have hG4 : G64 w4 x10 gl := HG3.out.1.keep (Keeps.of_below (O := fun _ => False) hB14) (fun _ _ h => h)
              have hrw4 := hB14.size
              have hI4 : Ints w4 .u64 (.slice (some ⟨nb, no, none⟩) N.length nc) N := HIJ.out.1.below hB14
              have hbn4 : bn < w4.heap.size := World.block_lt_of_cell? w4 _ hn4
              cases dv with
              | true =>
                have hyf : y < fr := of_decide_eq_true hdy
                have hib4 : ∀ k, (Value.slice (some ⟨nb, no, none⟩) N.length nc).ownBlock = some k → (¬ (O k ∨ Qj k) ∧ k < w4.heap.size) ∧ ¬ x10.ownBlock = some k := fun k hk => ⟨⟨((HIJ.out.2 k hk).1).1, by have := (HIJ.out.2 k hk).1.2; omega⟩, (HIJ.out.2 k hk).2⟩
                have hown4 : ∀ k, x10.ownBlock = some k → (¬ O k ∧ ¬ Qj k) ∧ wI.heap.size ≤ k := HG3.out.2.1
                have hgl4 := HG3.out.2.2
                have HT5 := Lib.hid (show ∀ TV, sj.first + (sj.L.length : Int) = TV → T0 = if true = false ∨ 4611686018427387904 < TV then none else opL st fr (N.drop (k + 1)) sj (gl ++ [y]) from fun TV hTV => by
                  rw [HTJ.out, HDRP.out, opL]
                  try simp only
                  rw [if_pos hyf]
                  simp only [if_true]
                  rw [hTV])
                have HA5 := Lib.hid hA4
                have hb4q := hbq
                have hsm5 := opb_next hLj holj hfj0 hfj1 hoj hcj
                obtain ⟨s5, hs5⟩ : ∃ s5, sj = s5 := ⟨_, rfl⟩
                rw [hs5] at HA5 HT5 hsm5
                clear hfj0 hfj1 hoj hcj hLj holj hb4
                obtain ⟨wa, hwa⟩ : ∃ wa, w4.alloc (.cells #[.int .u64 y] 37) = wa := ⟨_, rfl⟩
                have hba : Below w4.heap.size w4 wa := by rw [← hwa]; exact (Below.refl _ _).alloc (Nat.le_refl _) _
                have hca : wa.cell? ⟨w4.heap.size, 0, none⟩ = some (.int .u64 y) := by rw [← hwa]; exact cell_new _ _ _ _ rfl
                obtain ⟨gv, w6, hrun, hG6, hK6, hown6⟩ := push64 wa x10 gl (hG4.keep (Keeps.of_below (O := fun _ => False) hba) (fun _ _ h => h)) w4.heap.size y hca (by have := hgl4; omega)
                have hsa := hba.size
                have hs6 := hK6.size
                have hGa : G64 wa x10 gl := hG4.keep (Keeps.of_below (O := fun _ => False) hba) (fun _ _ h => h)
                have hA6 := (HA5.out.below hba).gone hGa hK6 (fun k hk => ⟨(hown4 k hk).1.1, (hown4 k hk).2⟩)
                have HA6 := Lib.hid hA6
                have hbwl5 : G + 1 < w4.heap.size := World.block_lt_of_cell? w4 _ hbw4
                have hbw6 : w6.cell? ⟨G + 1, 0, none⟩ = some (.pointer (some ⟨G, 0, none⟩)) := (hK6.cell (p := ⟨G + 1, 0, none⟩) (by show G + 1 < wa.heap.size; omega) (fun h => by have := (hown4 (G + 1) h).2; omega)).trans ((hba.cell (p := ⟨G + 1, 0, none⟩) hbwl5).trans hbw4)
                have hI6 : Ints w6 .u64 (.slice (some ⟨nb, no, none⟩) N.length nc) N := ints_kept2 (hI4.below hba) hK6 (fun b hb => (hib4 b hb).2)
                have hib6 : ∀ k, (Value.slice (some ⟨nb, no, none⟩) N.length nc).ownBlock = some k → (¬ (O k ∨ Qj k) ∧ k < w6.heap.size) ∧ ¬ gv.ownBlock = some k := fun k hk => by
                  have h1 := hib4 k hk
                  refine ⟨⟨h1.1.1, by omega⟩, fun h => ?_⟩
                  rcases hown6 k h with h2 | h2
                  · exact h1.2 h2
                  · omega
                have hql5 : ∀ k, Qj k → k < w4.heap.size := by
                  obtain ⟨_, _, _, hW⟩ := HA5.out.wal
                  exact hW.lt
                have hown7 : ∀ k, gv.ownBlock = some k → (¬ O k ∧ ¬ Qj k) ∧ wI.heap.size ≤ k := fun k hk => by
                  rcases hown6 k hk with h2 | h2
                  · exact hown4 k h2
                  · have hIs := HA5.out.keep.size
                    exact ⟨⟨fun h => (by have := HA5.out.olt k h; omega), fun h => (by have := hql5 k h; omega)⟩, by omega⟩
                have hW5 := HA6.out.wal
                obtain ⟨ov5, lv5, oldv5, hW5⟩ := hW5
                obtain ⟨vs5, hrec5⟩ := hW5.recs
                obtain ⟨la5, lc5, rfl, _, _⟩ := hrec5.row.slice
                have hl5 := hrec5.len
                obtain ⟨LN, hLN⟩ : ∃ LN, vs5.length = LN := ⟨_, rfl⟩
                have hwL : IntKind.u64.wrap (LN : Int) = (LN : Int) := by rw [IntKind.wrap_u64]; omega
                obtain ⟨TV, hTV⟩ : ∃ TV, s5.first + (LN : Int) = TV := ⟨_, rfl⟩
                have hwT : IntKind.u64.wrap (s5.first + (LN : Int)) = TV := by rw [IntKind.wrap_u64]; omega
                have hwTT : IntKind.u64.wrap TV = TV := by rw [IntKind.wrap_u64]; omega
                have hTE := HT5.out TV (by rw [← hl5, hLN]; exact hTV)
                have HTE := Lib.hid hTE
                have HSM := Lib.hid hsm5
                clear hTE hsm5 HT5
                obtain ⟨d0, d1, d2, d3, d4, d5, d6⟩ := blk7 hW5.blk
                rw [hLN] at d3
                have HI5 := Lib.hid (And.intro hI6 (And.intro hib6 hb4q))
                have HGG := Lib.hid (And.intro hG6 (And.intro hown7 (show (gl ++ [y]).length ≤ k + 1 by rw [List.length_append]; have := hgl4; simp only [List.length_cons, List.length_nil]; omega)))
                have HWA := Lib.hid hwa
                clear hW5 hrec5 hl5 hLN hA6 hI6 hib6 hG6 hown7 hwa
                try simp only at d2
                go_wp2_with (at_builtin; rw [HWA.out]; refine wpList_push64 _ (by rfl) _ _ 60 rfl x10 gv w6 ⟨w4.heap.size, 0, none⟩ 1 1 rfl rfl hrun ?_)
                by_cases hbig : 4611686018427387904 < TV
                · go_wp2_with fail
                  first
                  | (go_quiet (fail))
                  | fail "quiet"
                  go_wp2_with fail
                  go_ret2
                  obtain ⟨q1, q2, q3, q4, q5, q6⟩ := HXS.out
                  refine ⟨xs, (by first | exact q1 | exact fun _ _ => q1), ?_⟩
                  have hz : opF st xs fr first = (none, st, 52) := by
                    unfold opF
                    rw [if_neg hnd, if_neg (by omega)]
                    simp only [q3, q4, q5, q6]
                    rw [if_neg (by omega), HT0.out, HTE.out, if_pos (.inr hbig)]
                  rw [hz]
                  have hA6 := HA6.out.below (below_drewN (Below.refl _ _) nq)
                  exact OpEnd.no rfl ((Keeps.of_below (O := O) HBI.out).trans hA6.keep (fun k hk => hk.elim .inl (fun e => .inr (by omega)))) hA6.disk (fun k hk => .inl hk) hA6.olt rfl
                · have hbd : decide (4611686018427387904 < TV) = false := decide_eq_false hbig
                  have hinext : wrap64 ((k : Int) + 1) = ((k + 1 : Nat) : Int) := by rw [← IntWalk.i64_left]; exact IntWalk.i64_in _ (by omega)
                  have HINX := Lib.hid hinext
                  clear hinext
                  go_wp2_with fail
                  first
                  | (go_quiet (fail))
                  | fail "quiet"
                  go_wp2_with fail
                  have hbq6 : Below w6.heap.size w6 (w6.drewN nq) := below_drewN (Below.refl _ _) nq
                  refine ⟨⟨k + 1, _, rfl, rfl, by omega, Lib.hid ⟨s5, Qj, gl ++ [y], HA6.out.below hbq6, ?_, HI5.out.1.below hbq6, fun k hk => ⟨⟨(HI5.out.2.1 k hk).1.1, (by have := (HI5.out.2.1 k hk).1.2; have := hbq6.size; omega)⟩, (HI5.out.2.1 k hk).2⟩, (hbq6.cell (p := ⟨G + 1, 0, none⟩) (World.block_lt_of_cell? w6 _ hbw6)).trans hbw6, HI5.out.2.2, ⟨HGG.out.1.keep (Keeps.of_below (O := fun _ => False) hbq6) (fun _ _ h => h), HGG.out.2.1, HGG.out.2.2⟩, HSM.out.1, HSM.out.2.1, HSM.out.2.2.1, HSM.out.2.2.2.1, HSM.out.2.2.2.2.1, HSM.out.2.2.2.2.2⟩⟩, by simp only [intOf]; omega⟩
                  rw [HTE.out, if_neg (by simp; omega)]
              | false =>
                have hyf : ¬ y < fr := of_decide_eq_false hdy
                have hrs := read_seg O Qj G p (G + 1) bn sj st y w4 hA4.wal hA4.disk hA4.olt hbw4 hn4 hbq.2 hbq.1 HS.out hy0 (by omega) (by omega) (by omega) (by omega)
                obtain ⟨rr, hrr⟩ : ∃ rr, rdS sj y (textF st (4 * y + 1) 65537 0) = rr := ⟨_, rfl⟩
                have hsm := rdS_same (s := sj) (n := y) (T := textF st (4 * y + 1) 65537 0) hfj0 hfj1
                have hvoid : rr.2.1 = false → rr.2.2 = false := by
                  rw [← hrr]
                  unfold rdS
                  simp only
                  split
                  · intro h; cases h
                  · split
                    · intro _; rfl
                    · intro _; rfl
                have htl := textF_len st (4 * y + 1) 65537 0
                rw [hrr] at hrs hsm
                obtain ⟨s5, ok, vo⟩ := rr
                simp only at hvoid hsm
                have HRS := Lib.hid hrs
                have HRR := Lib.hid hrr
                have HB14 := Lib.hid hB14
                have HA4 := Lib.hid hA4
                clear hrs hrr hB14 hA4
                go_wp2_with fail
                refine HRS.out.mono ?_
                rintro e w5 ⟨rfl, Q5, hA5⟩
                change LogAt O Qj w4 G p s5 st O Q5 w5 at hA5
                have hA5w := HA4.out.trans hA5
                have hk45 := hA5.keep.size
                have hbw5 : w5.cell? ⟨G + 1, 0, none⟩ = some (.pointer (some ⟨G, 0, none⟩)) := (hA5.keep.cell (p := ⟨G + 1, 0, none⟩) (by show G + 1 < w4.heap.size; omega) (fun h => h.elim hbq.1 hbq.2)).trans hbw4
                have hbnq : ¬ (O bn ∨ Qj bn) := fun h => by
                  rcases h with h | h
                  · have := HAJ.out.olt bn h; omega
                  · have := HQL.out bn h; omega
                have hn5 : w5.cell? ⟨bn, 0, none⟩ = some (.int .u64 y) := (hA5.keep.cell (p := ⟨bn, 0, none⟩) hbn4 hbnq).trans hn4
                have hbn5 : bn < w5.heap.size := by omega
                have hI5 : Ints w5 .u64 (.slice (some ⟨nb, no, none⟩) N.length nc) N := ints_kept2 hI4 hA5.keep (fun b hb => (HIJ.out.2 b hb).1.1)
                have hgr5 : ∀ k, k < w4.heap.size → ¬ (O k ∨ Qj k) → ¬ (O k ∨ Q5 k) := fun k h1 h2 h => by
                  rcases h with h | h
                  · exact h2 (.inl h)
                  · rcases hA5.grow k (.inr h) with h3 | h3
                    · exact h2 h3
                    · omega
                have hib5 : ∀ k, (Value.slice (some ⟨nb, no, none⟩) N.length nc).ownBlock = some k → (¬ (O k ∨ Q5 k) ∧ k < w5.heap.size) ∧ ¬ x10.ownBlock = some k := fun k hk => by
                  have h1 := HIJ.out.2 k hk
                  exact ⟨⟨hgr5 k (by omega) h1.1.1, by omega⟩, h1.2⟩
                have hbq5 : ¬ O (G + 1) ∧ ¬ Q5 (G + 1) := by
                  have := hgr5 (G + 1) (by omega) (fun h => h.elim hbq.1 hbq.2)
                  exact ⟨fun h => this (.inl h), fun h => this (.inr h)⟩
                have hG5 : G64 w5 x10 gl := hG4.keep hA5.keep (fun k hk h => by
                  have h1 := HG3.out.2.1 k hk
                  exact h.elim h1.1.1 h1.1.2)
                have hown5 : ∀ k, x10.ownBlock = some k → (¬ O k ∧ ¬ Q5 k) ∧ wI.heap.size ≤ k := fun k hk => by
                  have h1 := HG3.out.2.1 k hk
                  have h2 := hgr5 k (hG4.lt k hk) (fun h => h.elim h1.1.1 h1.1.2)
                  exact ⟨⟨fun h => h2 (.inl h), fun h => h2 (.inr h)⟩, h1.2⟩
                have hgl5 := HG3.out.2.2
                have HA5 := Lib.hid hA5w
                obtain ⟨u1, u2, u3, u4, u5, u6, u7⟩ := hsm
                have hsm5 : s5.L.length ≤ (k + 1) * 4128832 ∧ s5.old.length ≤ k + 1 ∧ 0 ≤ s5.first ∧ s5.first ≤ 4611686018427387904 ∧ s5.opn = none ∧ s5.code = 0 := ⟨by omega, by omega, u6, u7, by rw [u1]; exact hoj, by rw [u2]; exact hcj⟩
                have HT5 := Lib.hid (show ∀ TV, s5.first + (s5.L.length : Int) = TV → T0 = if ok = false ∨ 4611686018427387904 < TV then none else opL st fr (N.drop (k + 1)) s5 (if vo = true then gl ++ [y] else gl) from fun TV hTV => by
                  rw [HTJ.out, HDRP.out, opL]
                  try simp only
                  rw [if_neg (show ¬ y < fr by omega), HRR.out]
                  try simp only
                  rw [hTV])
                clear hA5 hA5w u1 u2 u3 u4 u5 u6 u7 hfj0 hfj1 hoj hcj hLj holj hgr5 htl hbnq hbw4 hn4 hG4 hI4 hb4
                cases vo with
                | true =>
                  obtain rfl : ok = true := by
                    cases ok with
                    | true => rfl
                    | false => cases hvoid rfl
                  simp only [if_true] at HT5
                  obtain ⟨wa, hwa⟩ : ∃ wa, w5.alloc (.cells #[.int .u64 y] 37) = wa := ⟨_, rfl⟩
                  have hba : Below w5.heap.size w5 wa := by rw [← hwa]; exact (Below.refl _ _).alloc (Nat.le_refl _) _
                  have hca : wa.cell? ⟨w5.heap.size, 0, none⟩ = some (.int .u64 y) := by rw [← hwa]; exact cell_new _ _ _ _ rfl
                  obtain ⟨gv, w6, hrun, hG6, hK6, hown6⟩ := push64 wa x10 gl (hG5.keep (Keeps.of_below (O := fun _ => False) hba) (fun _ _ h => h)) w5.heap.size y hca (by have := hgl5; omega)
                  have hsa := hba.size
                  have hs6 := hK6.size
                  have hGa : G64 wa x10 gl := hG5.keep (Keeps.of_below (O := fun _ => False) hba) (fun _ _ h => h)
                  have hA6 := (HA5.out.below hba).gone hGa hK6 (fun k hk => ⟨(hown5 k hk).1.1, (hown5 k hk).2⟩)
                  have HA6 := Lib.hid hA6
                  have hbwl5 : G + 1 < w5.heap.size := World.block_lt_of_cell? w5 _ hbw5
                  have hbw6 : w6.cell? ⟨G + 1, 0, none⟩ = some (.pointer (some ⟨G, 0, none⟩)) := (hK6.cell (p := ⟨G + 1, 0, none⟩) (by show G + 1 < wa.heap.size; omega) (fun h => by have := (hown5 (G + 1) h).2; omega)).trans ((hba.cell (p := ⟨G + 1, 0, none⟩) hbwl5).trans hbw5)
                  have hI6 : Ints w6 .u64 (.slice (some ⟨nb, no, none⟩) N.length nc) N := ints_kept2 (hI5.below hba) hK6 (fun b hb => (hib5 b hb).2)
                  have hib6 : ∀ k, (Value.slice (some ⟨nb, no, none⟩) N.length nc).ownBlock = some k → (¬ (O k ∨ Q5 k) ∧ k < w6.heap.size) ∧ ¬ gv.ownBlock = some k := fun k hk => by
                    have h1 := hib5 k hk
                    refine ⟨⟨h1.1.1, by omega⟩, fun h => ?_⟩
                    rcases hown6 k h with h2 | h2
                    · exact h1.2 h2
                    · omega
                  have hql5 : ∀ k, Q5 k → k < w5.heap.size := by
                    obtain ⟨_, _, _, hW⟩ := HA5.out.wal
                    exact hW.lt
                  have hown7 : ∀ k, gv.ownBlock = some k → (¬ O k ∧ ¬ Q5 k) ∧ wI.heap.size ≤ k := fun k hk => by
                    rcases hown6 k hk with h2 | h2
                    · exact hown5 k h2
                    · have hIs := HA5.out.keep.size
                      exact ⟨⟨fun h => (by have := HA5.out.olt k h; omega), fun h => (by have := hql5 k h; omega)⟩, by omega⟩
                  have hW5 := HA6.out.wal
                  obtain ⟨ov5, lv5, oldv5, hW5⟩ := hW5
                  obtain ⟨vs5, hrec5⟩ := hW5.recs
                  obtain ⟨la5, lc5, rfl, _, _⟩ := hrec5.row.slice
                  have hl5 := hrec5.len
                  obtain ⟨LN, hLN⟩ : ∃ LN, vs5.length = LN := ⟨_, rfl⟩
                  have hwL : IntKind.u64.wrap (LN : Int) = (LN : Int) := by rw [IntKind.wrap_u64]; omega
                  obtain ⟨TV, hTV⟩ : ∃ TV, s5.first + (LN : Int) = TV := ⟨_, rfl⟩
                  have hwT : IntKind.u64.wrap (s5.first + (LN : Int)) = TV := by rw [IntKind.wrap_u64]; omega
                  have hwTT : IntKind.u64.wrap TV = TV := by rw [IntKind.wrap_u64]; omega
                  have hTE := HT5.out TV (by rw [← hl5, hLN]; exact hTV)
                  have HTE := Lib.hid hTE
                  have HSM := Lib.hid hsm5
                  clear hTE hsm5 HT5
                  obtain ⟨d0, d1, d2, d3, d4, d5, d6⟩ := blk7 hW5.blk
                  rw [hLN] at d3
                  have HI5 := Lib.hid (And.intro hI6 (And.intro hib6 hbq5))
                  have HGG := Lib.hid (And.intro hG6 (And.intro hown7 (show (gl ++ [y]).length ≤ k + 1 by rw [List.length_append]; have := hgl5; simp only [List.length_cons, List.length_nil]; omega)))
                  have HWA := Lib.hid hwa
                  clear hW5 hrec5 hl5 hLN hA6 hI6 hib6 hG6 hown7 hwa
                  try simp only at d2
                  go_wp2_with (at_builtin; rw [HWA.out]; refine wpList_push64 _ (by rfl) _ _ 60 rfl x10 gv w6 ⟨w5.heap.size, 0, none⟩ 1 1 rfl rfl hrun ?_)
                  by_cases hbig : 4611686018427387904 < TV
                  · go_wp2_with fail
                    first
                    | (go_quiet (fail))
                    | fail "quiet"
                    go_wp2_with fail
                    go_ret2
                    obtain ⟨q1, q2, q3, q4, q5, q6⟩ := HXS.out
                    refine ⟨xs, (by first | exact q1 | exact fun _ _ => q1), ?_⟩
                    have hz : opF st xs fr first = (none, st, 52) := by
                      unfold opF
                      rw [if_neg hnd, if_neg (by omega)]
                      simp only [q3, q4, q5, q6]
                      rw [if_neg (by omega), HT0.out, HTE.out, if_pos (.inr hbig)]
                    rw [hz]
                    have hA6 := HA6.out.below (below_drewN (Below.refl _ _) nq)
                    exact OpEnd.no rfl ((Keeps.of_below (O := O) HBI.out).trans hA6.keep (fun k hk => hk.elim .inl (fun e => .inr (by omega)))) hA6.disk (fun k hk => .inl hk) hA6.olt rfl
                  · have hbd : decide (4611686018427387904 < TV) = false := decide_eq_false hbig
                    have hinext : wrap64 ((k : Int) + 1) = ((k + 1 : Nat) : Int) := by rw [← IntWalk.i64_left]; exact IntWalk.i64_in _ (by omega)
                    have HINX := Lib.hid hinext
                    clear hinext
                    go_wp2_with fail
                    first
                    | (go_quiet (fail))
                    | fail "quiet"
                    go_wp2_with fail
                    have hbq6 : Below w6.heap.size w6 (w6.drewN nq) := below_drewN (Below.refl _ _) nq
                    refine ⟨⟨k + 1, _, rfl, rfl, by omega, Lib.hid ⟨s5, Q5, gl ++ [y], HA6.out.below hbq6, ?_, HI5.out.1.below hbq6, fun k hk => ⟨⟨(HI5.out.2.1 k hk).1.1, (by have := (HI5.out.2.1 k hk).1.2; have := hbq6.size; omega)⟩, (HI5.out.2.1 k hk).2⟩, (hbq6.cell (p := ⟨G + 1, 0, none⟩) (World.block_lt_of_cell? w6 _ hbw6)).trans hbw6, HI5.out.2.2, ⟨HGG.out.1.keep (Keeps.of_below (O := fun _ => False) hbq6) (fun _ _ h => h), HGG.out.2.1, HGG.out.2.2⟩, HSM.out.1, HSM.out.2.1, HSM.out.2.2.1, HSM.out.2.2.2.1, HSM.out.2.2.2.2.1, HSM.out.2.2.2.2.2⟩⟩, by simp only [intOf]; omega⟩
                    rw [HTE.out, if_neg (by simp; omega)]
                | false =>
                  simp only [Bool.false_eq_true, if_false] at HT5
                  have hW5 := HA5.out.wal
                  obtain ⟨ov5, lv5, oldv5, hW5⟩ := hW5
                  obtain ⟨vs5, hrec5⟩ := hW5.recs
                  obtain ⟨la5, lc5, rfl, _, _⟩ := hrec5.row.slice
                  have hl5 := hrec5.len
                  obtain ⟨LN, hLN⟩ : ∃ LN, vs5.length = LN := ⟨_, rfl⟩
                  have hwL : IntKind.u64.wrap (LN : Int) = (LN : Int) := by rw [IntKind.wrap_u64]; omega
                  obtain ⟨TV, hTV⟩ : ∃ TV, s5.first + (LN : Int) = TV := ⟨_, rfl⟩
                  have hwT : IntKind.u64.wrap (s5.first + (LN : Int)) = TV := by rw [IntKind.wrap_u64]; omega
                  have hwTT : IntKind.u64.wrap TV = TV := by rw [IntKind.wrap_u64]; omega
                  have hTE := HT5.out TV (by rw [← hl5, hLN]; exact hTV)
                  have HTE := Lib.hid hTE
                  have HSM := Lib.hid hsm5
                  clear hTE hsm5 HT5
                  obtain ⟨d0, d1, d2, d3, d4, d5, d6⟩ := blk7 hW5.blk
                  rw [hLN] at d3
                  have HI5 := Lib.hid (And.intro hI5 (And.intro hib5 hbq5))
                  have HGG := Lib.hid (And.intro hG5 (And.intro hown5 hgl5))
                  clear hW5 hrec5 hl5 hLN
                  try simp only at d2
                  cases ok with
                  | false =>
                    go_wp2_with fail
                    first
                    | (go_quiet (fail))
                    | fail "quiet"
                    go_wp2_with fail
                    go_ret2
                    obtain ⟨q1, q2, q3, q4, q5, q6⟩ := HXS.out
                    refine ⟨xs, (by first | exact q1 | exact fun _ _ => q1), ?_⟩
                    have hz : opF st xs fr first = (none, st, 52) := by
                      unfold opF
                      rw [if_neg hnd, if_neg (by omega)]
                      simp only [q3, q4, q5, q6]
                      rw [if_neg (by omega), HT0.out, HTE.out, if_pos (by simp)]
                    rw [hz]
                    have hA6 := HA5.out.below (below_drewN (Below.refl _ _) nq)
                    exact OpEnd.no rfl ((Keeps.of_below (O := O) HBI.out).trans hA6.keep (fun k hk => hk.elim .inl (fun e => .inr (by omega)))) hA6.disk (fun k hk => .inl hk) hA6.olt rfl
                  | true =>
                    by_cases hbig : 4611686018427387904 < TV
                    · go_wp2_with fail
                      first
                      | (go_quiet (fail))
                      | fail "quiet"
                      go_wp2_with fail
                      go_ret2
                      obtain ⟨q1, q2, q3, q4, q5, q6⟩ := HXS.out
                      refine ⟨xs, (by first | exact q1 | exact fun _ _ => q1), ?_⟩
                      have hz : opF st xs fr first = (none, st, 52) := by
                        unfold opF
                        rw [if_neg hnd, if_neg (by omega)]
                        simp only [q3, q4, q5, q6]
                        rw [if_neg (by omega), HT0.out, HTE.out, if_pos (.inr hbig)]
                      rw [hz]
                      have hA6 := HA5.out.below (below_drewN (Below.refl _ _) nq)
                      exact OpEnd.no rfl ((Keeps.of_below (O := O) HBI.out).trans hA6.keep (fun k hk => hk.elim .inl (fun e => .inr (by omega)))) hA6.disk (fun k hk => .inl hk) hA6.olt rfl
                    · have hbd : decide (4611686018427387904 < TV) = false := decide_eq_false hbig
                      have hinext : wrap64 ((k : Int) + 1) = ((k + 1 : Nat) : Int) := by rw [← IntWalk.i64_left]; exact IntWalk.i64_in _ (by omega)
                      have HINX := Lib.hid hinext
                      clear hinext
                      go_wp2_with fail
                      first
                      | (go_quiet (fail))
                      | fail "quiet"
                      go_wp2_with fail
                      have hbq6 : Below w5.heap.size w5 (w5.drewN nq) := below_drewN (Below.refl _ _) nq
                      refine ⟨⟨k + 1, _, rfl, rfl, by omega, Lib.hid ⟨s5, Q5, gl, HA5.out.below hbq6, ?_, HI5.out.1.below hbq6, fun k hk => ⟨⟨(HI5.out.2.1 k hk).1.1, (by have := (HI5.out.2.1 k hk).1.2; have := hbq6.size; omega)⟩, (HI5.out.2.1 k hk).2⟩, (hbq6.cell (p := ⟨G + 1, 0, none⟩) (World.block_lt_of_cell? w5 _ hbw5)).trans hbw5, HI5.out.2.2, ⟨HGG.out.1.keep (Keeps.of_below (O := fun _ => False) hbq6) (fun _ _ h => h), HGG.out.2.1, Nat.le_succ_of_le HGG.out.2.2⟩, HSM.out.1, HSM.out.2.1, HSM.out.2.2.1, HSM.out.2.2.2.1, HSM.out.2.2.2.2.1, HSM.out.2.2.2.2.2⟩⟩, by simp only [intOf]; omega⟩
                      rw [HTE.out, if_neg (by simp; omega)]
            · obtain ⟨sj, Qj, gl, hAj, hTj, hIj, hib, hbwj, hbq, hG3, hLj, holj, hfj0, hfj1, hoj, hcj⟩ := hinv.out
              have hkn : k = n := by omega
              subst hkn
              have hT : T0 = some (sj, gl) := by
                rw [hTj, List.drop_eq_nil_of_le (by rw [HN.out]; exact Nat.le_refl _)]
                rfl
              obtain ⟨ovj, lvj, oldvj, hWj⟩ := hAj.wal
              have hstl := settle_any O G p ovj sj.first lvj oldvj sj.next sj.code st R i (.slice na N.length nc) x10 N gl wr hWj.blk (hWj.apart G hWj.qg) hAj.disk hAj.olt HF.out (by rw [HN.out]; omega) hR hIj (fun k hk h => (hib k hk).1.1 (.inl h)) (hG3.1.ints (by have := hG3.2.2; omega)) (fun k hk => (hG3.2.1 k hk).1.1) HNB.out
              have HSTL := Lib.hid hstl
              have HAJ := Lib.hid hAj
              have HWJ := Lib.hid hWj
              have HTT := Lib.hid hT
              clear hstl hAj hWj hT hTj hIj hib hinv
              obtain ⟨E, hE⟩ : ∃ E, setF N gl st = E := ⟨_, rfl⟩
              rw [hE] at HSTL
              obtain ⟨st9, e9⟩ := E
              have HE := Lib.hid hE
              clear hE
              rw [HN.out] at HSTL
              go_wp2_with fail
              refine HSTL.out.mono ?_
              rintro e w9 ⟨rfl, hK9, O9, hD9, hg9, hl9⟩
              have hbwl9 : G + 1 < wr.heap.size := World.block_lt_of_cell? wr _ hbwj
              have hbw9 : w9.cell? ⟨G + 1, 0, none⟩ = some (.pointer (some ⟨G, 0, none⟩)) := (hK9.cell (p := ⟨G + 1, 0, none⟩) hbwl9 hbq.1).trans hbwj
              have hKall : Keeps O w w9 := ((Keeps.of_below (O := O) HBI.out).trans HAJ.out.keep (fun k hk => hk.elim .inl (fun e => .inr (by
                rcases e with rfl
                omega)))).trans hK9 (fun k hk => .inl hk)
              have hsz9 := HAJ.out.keep.size
              have hbIs := HBI.out.size
              have hgr9 : ∀ k, O9 k → O k ∨ w.heap.size ≤ k := fun k hk => by
                rcases hg9 k hk with h | h
                · exact .inl h
                · exact .inr (by omega)
              have hW9 := HWJ.out.disk hK9 (fun k hk => hk) hg9
              have hQ9 : ∀ k, Qj k → w.heap.size ≤ k := fun k hk => by
                rcases HAJ.out.grow k (.inr hk) with h | h
                · rcases h with h | h
                  · exact absurd h (HWJ.out.apart k hk)
                  · have : k = G := h
                    omega
                · omega
              have HFIN := Lib.hid (And.intro hKall (And.intro hD9 (And.intro hgr9 (And.intro hl9 (And.intro hW9 hQ9)))))
              clear hKall hD9 hgr9 hl9 hW9 hQ9 hK9 hg9
              obtain ⟨q1, q2, q3, q4, q5, q6⟩ := HXS.out
              by_cases he9 : e9 = 0
              · subst he9
                have hz : opF st xs fr first = (some sj, st9, 0) := by
                  unfold opF
                  rw [if_neg hnd, if_neg (by omega)]
                  simp only [q3, q4, q5, q6]
                  rw [if_neg (by omega), HT0.out, HTT.out]
                  simp only
                  rw [HE.out]
                  simp
                have HZ := Lib.hid hz
                clear hz q1 q2 q3 q4 q5 q6
                go_wp2_with fail
                go_ret2
                refine ⟨xs, (by first | exact HXS.out.1 | exact fun _ _ => HXS.out.1), ?_⟩
                rw [HZ.out]
                exact OpEnd.yes rfl HFIN.out.1 HFIN.out.2.1 HFIN.out.2.2.1 HFIN.out.2.2.2.1 rfl ⟨_, _, _, HFIN.out.2.2.2.2.1⟩ HFIN.out.2.2.2.2.2
              · have hc1 : (e9 == 0) = false := by simpa using he9
                have hc2 : (e9 != 0) = true := by simpa using he9
                have hz : opF st xs fr first = (none, st9, e9) := by
                  unfold opF
                  rw [if_neg hnd, if_neg (by omega)]
                  simp only [q3, q4, q5, q6]
                  rw [if_neg (by omega), HT0.out, HTT.out]
                  simp only
                  rw [HE.out]
                  simp [he9]
                have HZ := Lib.hid hz
                clear hz q1 q2 q3 q4 q5 q6
                go_wp2_with fail
                go_ret2
                refine ⟨xs, (by first | exact HXS.out.1 | exact fun _ _ => HXS.out.1), ?_⟩
                rw [HZ.out]
                exact OpEnd.no rfl HFIN.out.1 HFIN.out.2.1 HFIN.out.2.2.1 HFIN.out.2.2.2.1 rfl
end Go.Proofs.YtcpkpljeimbdiaaGreat.W
namespace Go.Proofs.YtcpkpljeimbdiaaGreat.W
open Go.ChangeShapes Go.WideShapes Go.ChangeAt Go.RowKit
open Aid K
set_option linter.unusedSimpArgs false
set_option linter.unusedVariables false
structure WOp where
  k : Int
  n : Int
  v : Value
  l : List Int
instance : Inhabited WOp := ⟨⟨0, 0, .slice none 0 0, []⟩⟩
structure WOk (w : World) (x : WOp) : Prop where
  ints : Ints w .u8 x.v x.l
  bytes : ∀ y ∈ x.l, 0 ≤ y ∧ y ≤ 255
  wk : (Lit.int .i64 x.k).wf = true
  wn : (Lit.int .i64 x.n).wf = true
  lt : ∀ b o n c, x.v = .slice (some ⟨b, o, none⟩) n c → b < w.heap.size ∨ n = 0
def WOps (w : World) (v : Value) (n : Nat) (f : Nat → WOp) : Prop := n ≤ 3518437208782 ∧ ∃ a cap, v = .slice a n cap ∧ ∀ j, j < n → ∃ b o, a = some ⟨b, o, none⟩ ∧ b < w.heap.size ∧
  w.cell? ⟨b, o + j * 3, none⟩ = some (.int .i64 (f j).k) ∧ w.cell? ⟨b, o + j * 3 + 1, none⟩ = some (.int .i64 (f j).n) ∧ w.cell? ⟨b, o + j * 3 + 2, none⟩ = some (f j).v ∧ WOk w (f j)
theorem WOps.arg0 {H : Type} {enc : TypeId × Value → H} {P : Program} {W : World} {t e u : TypeId} {f0 f1 f2 : Field} {v : Value} {d : DataW H} {p : List MemPlace}
    (ht : P.underlying t = some (.slice e)) (hs : P.underlying e = some (.struct #[f0, f1, f2])) (hC : P.cellsOf e = 3) (o0 : f0.offset = 0) (o1 : f1.offset = 1) (o2 : f2.offset = 2)
    (c0 : P.cellsOf f0.type = 1) (c1 : P.cellsOf f1.type = 1) (c2 : P.cellsOf f2.type = 1)
    (h0 : P.underlying f0.type = some (.int .i64)) (h1 : P.underlying f1.type = some (.int .i64)) (h3 : P.underlying f2.type = some (.slice u)) (hu : P.underlying u = some (.int .u8)) (hcu : P.cellsOf u = 1)
    (hbe : P.bytesOf e = 40) (hbu : P.bytesOf u = 1) (hval : ∃ a l c, v = .slice a l c)
    (h : DataW.Trod enc P W 0 (fun _ => true) true t v d p) (hlt : ∀ x ∈ p, x.block < W.heap.size) (hsize : ∀ x ∈ d.weights P t, x ≤ reachBytes) : ∃ n f, WOps W v n f := by
  obtain ⟨a0, len, cap, rfl⟩ : ∃ a l c, v = .slice a l c := hval
  obtain ⟨fuel, hf⟩ := h
  rcases Go.Deep.open_slice ht hf with ⟨hcs, hx⟩ | ⟨a', len', cap', m, n, D, Pl, hcs, hab, hl, hm, hmm, hx, hel⟩
  · simp [Value.cells] at hcs
    obtain ⟨rfl, rfl, rfl⟩ := hcs
    exact ⟨0, fun _ => default, by omega, none, 0, rfl, fun k hk => by omega⟩
  · simp [Value.cells] at hcs
    obtain ⟨rfl, rfl, rfl⟩ := hcs
    simp only [if_true] at hmm
    subst hmm
    simp only [Prod.mk.injEq] at hx
    obtain ⟨hd, hp⟩ := hx
    have hn : len * 40 ≤ reachBytes := by
      have := hsize ((((List.range len).map D).length + ((List.range (m - len)).map fun j => D (len + j)).length) * P.bytesOf e) (by rw [hd]; simp [DataW.weights, ht])
      simp only [List.length_map, List.length_range] at this
      rw [hbe] at this
      omega
    have hrb : reachBytes = 140737488351232 := rfl
    have hrd : ∀ j, ∃ (x : WOp), j < len → W.cell? (a'.add (j * 3)) = some (.int .i64 x.k) ∧ W.cell? (a'.add (j * 3 + 1)) = some (.int .i64 x.n) ∧ W.cell? (a'.add (j * 3 + 2)) = some x.v ∧ WOk W x := by
      intro j
      by_cases hk : j < len
      · obtain ⟨cs, hcs, htr⟩ := hel j (by omega)
        rw [hC] at hcs
        obtain ⟨y0, y1, y3, q, hy, hlen, g0, g1, g3⟩ := Go.Deep.trod_struct3 hs htr
        rw [hC] at hlen
        rw [o0, c0] at g0
        rw [o1, c1] at g1
        rw [o2, c2] at g3
        obtain ⟨x, e0, _, w0⟩ := DataW.trod_int h0 g0
        obtain ⟨y, e1, _, w1⟩ := DataW.trod_int h1 g1
        obtain ⟨q0, q1, q3, rfl⟩ : ∃ q0 q1 q3, cs = [q0, q1, q3] := by
          match cs, hlen with
          | [q0, q1, q3], _ => exact ⟨q0, q1, q3, rfl⟩
        simp at e0 e1
        subst e0 e1
        simp only [List.drop_succ_cons, List.drop_zero, List.take_succ_cons, List.take_zero] at g3
        simp only [Prod.mk.injEq] at hy
        obtain ⟨hy1, hy2⟩ := hy
        have hDm : D j ∈ (List.range len).map D := List.mem_map.2 ⟨j, List.mem_range.2 hk, rfl⟩
        obtain ⟨yd, yp⟩ := y3
        have hp3 : ∀ x ∈ yp, x.block < W.heap.size := fun x hx => hlt x (by
          rw [hp]
          refine List.mem_append_right _ (List.mem_flatMap.2 ⟨j, List.mem_range.2 (by omega), ?_⟩)
          rw [hy2]
          simp [hx])
        obtain ⟨l, hI, hw⟩ := trod_ints h3 hu hcu g3 hp3 (fun elems spare hh => by
          have hh' : yd = .slice elems spare := hh
          have h5 : (elems.length + spare.length) * P.bytesOf u ∈ (D j).weights P e := by
            rw [hy1, hh']
            simp [DataW.weights, DataW.weightsEach, hs, h3]
          have h6 := hsize _ (by
            rw [hd]
            simp only [DataW.weights, ht]
            exact List.mem_cons_of_mem _ (List.mem_append_left _ (weights_all_mem hDm h5)))
          rw [hbu] at h6
          omega)
        have hh := (World.cells?_some hcs).2.2
        have j0 := hh 0 (by omega)
        have j1 := hh 1 (by omega)
        have j2 := hh 2 (by omega)
        rw [Addr.add_add] at j0 j1 j2
        refine ⟨⟨x, y, q3, l⟩, fun _ => ⟨by simpa using j0, by simpa using j1, by simpa using j2, hI, fun y hy => ?_, w0, w1, fun b o n c hv => ?_⟩⟩
        · have := hw y hy
          simp [Lit.wf, IntKind.min, IntKind.max, IntKind.signed, IntKind.bits] at this
          omega
        · simp only at hv
          subst hv
          obtain ⟨_, ⟨_, hq⟩ | ⟨b', o', c', hq, hb', _⟩⟩ := hI
          · right
            rcases hq with hq | ⟨_, _, hq⟩ <;> simp at hq
            exact hq.2.1
          · left
            simp at hq
            obtain ⟨⟨rfl, rfl⟩, _⟩ := hq
            exact hb'
      · exact ⟨default, fun h => absurd h hk⟩
    obtain ⟨f, hc⟩ : ∃ f : Nat → WOp, ∀ j, j < len → W.cell? (a'.add (j * 3)) = some (.int .i64 (f j).k) ∧ W.cell? (a'.add (j * 3 + 1)) = some (.int .i64 (f j).n) ∧ W.cell? (a'.add (j * 3 + 2)) = some (f j).v ∧ WOk W (f j) :=
      ⟨fun k => (hrd k).choose, fun k => (hrd k).choose_spec⟩
    refine ⟨len, f, by omega, some a', _, rfl, fun k hk => ?_⟩
    obtain ⟨b, off, spot⟩ := a'
    obtain ⟨i0, i1, i2, i4⟩ := hc k hk
    have hspot : spot = none := by
      have := (hc 0 (by omega)).1
      simpa [Addr.add] using World.cell?_spot this
    subst hspot
    have add : ∀ j, (⟨b, off, none⟩ : Addr).add j = ⟨b, off + j, none⟩ := fun j => by unfold Addr.add; split <;> simp_all
    rw [add] at i0 i1 i2
    exact ⟨b, off, rfl, World.block_lt_of_cell? W _ i0, i0, by rw [Nat.add_assoc]; exact i1, by rw [Nat.add_assoc]; exact i2, i4⟩
theorem WOps.arg {H : Type} {enc : TypeId × Value → H} {P : Program} {W : World} {b0 : Nat} {t e u : TypeId} {f0 f1 f2 : Field} {v : Value} {d : DataW H} {p : List MemPlace} {r : Reach}
    (ht : P.underlying t = some (.slice e)) (hs : P.underlying e = some (.struct #[f0, f1, f2])) (hC : P.cellsOf e = 3) (o0 : f0.offset = 0) (o1 : f1.offset = 1) (o2 : f2.offset = 2)
    (c0 : P.cellsOf f0.type = 1) (c1 : P.cellsOf f1.type = 1) (c2 : P.cellsOf f2.type = 1)
    (h0 : P.underlying f0.type = some (.int .i64)) (h1 : P.underlying f1.type = some (.int .i64)) (h3 : P.underlying f2.type = some (.slice u)) (hu : P.underlying u = some (.int .u8)) (hcu : P.cellsOf u = 1)
    (hbe : P.bytesOf e = 40) (hbu : P.bytesOf u = 1) (hval : Value.okWide P W r b0 t v)
    (h : DataW.Trod enc P W 0 (fun _ => true) true t v d p) (hlt : ∀ x ∈ p, x.block < W.heap.size) (hsize : ∀ x ∈ d.weights P t, x ≤ reachBytes) : ∃ n f, WOps W v n f :=
  WOps.arg0 ht hs hC o0 o1 o2 c0 c1 c2 h0 h1 h3 hu hcu hbe hbu (okWide_slice ht hval) h hlt hsize
theorem WOk.below {w w' : World} {x : WOp} (h : WOk w x) (hb : Below w.heap.size w w') : WOk w' x :=
  ⟨h.ints.below hb, h.bytes, h.wk, h.wn, fun b o n c e => by have := hb.size; rcases h.lt b o n c e with h | h; left; omega; exact .inr h⟩
theorem WOps.below {w w' : World} {v : Value} {n : Nat} {f : Nat → WOp} (h : WOps w v n f) (hb : Below w.heap.size w w') : WOps w' v n f := by
  obtain ⟨h0, a, cap, hv, h⟩ := h
  refine ⟨h0, a, cap, hv, fun j hj => ?_⟩
  obtain ⟨b, o, h1, h2, h3, h4, h5, h6⟩ := h j hj
  exact ⟨b, o, h1, by have := hb.size; omega, (hb.cell (p := ⟨b, o + j * 3, none⟩) h2).trans h3, (hb.cell (p := ⟨b, o + j * 3 + 1, none⟩) h2).trans h4, (hb.cell (p := ⟨b, o + j * 3 + 2, none⟩) h2).trans h5, h6.below hb⟩
end Go.Proofs.YtcpkpljeimbdiaaGreat.W
namespace Go.Proofs.YtcpkpljeimbdiaaGreat.W
open Go.RowKit
open Aid K
set_option linter.unusedSimpArgs false
set_option linter.unusedVariables false
def strI (l : List Int) : ByteArray := ⟨(l.map u8).toArray⟩
theorem bytesV_u8 {l : List Int} (h : By8 l) : bytesV (l.map u8) = l.map (.int .u8) := by
  unfold bytesV
  rw [List.map_map]
  apply List.map_congr_left
  intro x hx
  have := h x hx
  show Value.int .u8 ((u8 x).toNat : Int) = Value.int .u8 x
  have e : ((u8 x).toNat : Int) = x := by
    unfold u8
    simp [UInt8.toNat_ofNat']
    omega
  rw [e]
abbrev OwnS (w : World) (base : Nat) (v : Value) (S : List ByteArray) : Prop := w.ownsRow base 9 1 v S.length (S.map .string)
theorem info_str : (Tryz.prog.info? 9).map (fun i => (i.zero, i.size, i.bytes)) = some (some (.string ByteArray.empty), 1, 16) := by kernel_rfl
set_option maxRecDepth 100000 in
set_option maxHeartbeats 2000000 in
theorem all_any (O Q : Nat → Prop) (g p : Nat) (s : LSt) (w : World) (hW : WalIs O Q w g p s) (hf0 : 0 ≤ s.first) (hft : s.first + s.L.length ≤ 4611686018427387904) (hl : s.L.length ≤ 4398046511104) (hb : ∀ l ∈ s.L, By8 l) :
    Calls Tryz.prog 10 #[.pointer (some ⟨g, 0, none⟩)] w fun e w' => ∃ v, e = .returned v ∧ OwnS w' w.heap.size v (s.L.map strI) ∧ Below w.heap.size w w' := by
  obtain ⟨ov, lv, oldv, hW⟩ := hW
  obtain ⟨vs, hrec⟩ := hW.recs
  obtain ⟨la, lc, rfl, hlc, hlz⟩ := hrec.row.slice
  have hlen := hrec.len
  obtain ⟨iu, hiu, hzu, hsu, hbu⟩ := info_parts info_str
  obtain ⟨n, hn⟩ : ∃ n, s.L.length = n := ⟨_, rfl⟩
  obtain ⟨LV, hLV⟩ : ∃ LV, IntKind.u64.wrap (IntKind.u64.wrap (s.first + vs.length) - 1) = LV := ⟨_, rfl⟩
  have hlw := last_wrap (first := s.first) (n := vs.length) hf0 (by omega)
  rw [hLV] at hlw
  obtain ⟨TV, hTV⟩ : ∃ TV, s.first + (vs.length : Int) = TV := ⟨_, rfl⟩
  rw [hTV] at hlw
  have hsub : IntKind.u64.wrap (TV - s.first) = (n : Int) := by rw [IntKind.wrap_u64]; omega
  have HLA := Lib.hid (show ∀ w', Below w.heap.size w w' → Calls Tryz.prog 13 #[.pointer (some ⟨g, 0, none⟩)] w' fun e w2 => e = .returned (.int .u64 LV) ∧ Below w'.heap.size w' w2 from fun w' hb => by
    have := last_any g ov p s.first la vs.length lc oldv s.next s.code w' (hW.below hb).blk (by omega)
    rw [hLV] at this
    exact this)
  have HFI := Lib.hid (show ∀ w', Below w.heap.size w w' → Calls Tryz.prog 12 #[.pointer (some ⟨g, 0, none⟩)] w' fun e w2 => e = .returned (.int .u64 s.first) ∧ w2 = w' from fun w' hb => first_any g ov p s.first _ oldv s.next s.code w' (hW.below hb).blk)
  have HGE := Lib.hid (show ∀ (w' : World) (i : Int), Below w.heap.size w w' → 0 ≤ i → i < 18446744073709551616 → Calls Tryz.prog 16 #[.pointer (some ⟨g, 0, none⟩), .int .u64 i] w' (GetEnd s.L s.first i w') from fun w' i hb h0 h1 =>
    get_any (fun k => O k ∨ Q k) g ov p s.first _ oldv s.next s.code s.L vs i w' (hW.below hb).blk (hrec.keep (P := fun _ => False) (Keeps.of_below hb) (fun _ _ h => h) (fun _ h => h.elim) (fun k hk => .inl hk)) (by omega) ⟨h0, h1⟩ (by omega))
  have HN := Lib.hid hn
  have HBY := Lib.hid hb
  clear hW hrec hlen hLV hTV hn
  go_enter Tryz.func10, Tryz.ntmps10
  go_wp2_with fail
  go_loopw [3, 4] (fun x3 x4 wr => ∃ k : Nat, x4 = .int .u64 k ∧ k ≤ n ∧ Hid (OwnS wr w.heap.size x3 ((s.L.take k).map strI)) ∧ Hid (Below w.heap.size w wr)) (fun _ x4 _ => (n - intOf x4).toNat)
  case atStart => exact ⟨0, rfl, Nat.zero_le _, Lib.hid (World.ownsRow_nil _ _ _ _), Lib.hid (Below.refl _ _)⟩
  case round =>
    obtain ⟨k, rfl, hk, hO3, hbr⟩ := hrel
    have hsr := hbr.out.size
    go_wp2_with fail
    refine (HLA.out _ hbr.out).mono ?_
    rintro e w1 ⟨rfl, hb1⟩
    have HB1 := Lib.hid (hbr.out.trans (hb1.mono hsr))
    have HO1 := Lib.hid (owns_below hO3.out hb1)
    have hs1 := hb1.size
    clear hb1
    go_wp2_with fail
    refine (HFI.out _ HB1.out).mono ?_
    rintro e w2 ⟨rfl, hw2⟩
    obtain rfl : w1 = w2 := hw2.symm
    by_cases hlt : (k : Int) < (n : Int)
    · have hkL : k < s.L.length := by rw [HN.out]; omega
      obtain ⟨x, hx⟩ : ∃ x, s.L[k]? = some x := ⟨_, List.getElem?_eq_getElem hkL⟩
      obtain ⟨ix, hix⟩ : ∃ ix, IntKind.u64.wrap (s.first + (k : Int)) = ix := ⟨_, rfl⟩
      have hixe : ix = s.first + (k : Int) := by rw [← hix, IntKind.wrap_u64]; omega
      have HIX := Lib.hid hixe
      have htk : s.L.take (k + 1) = s.L.take k ++ [x] := by rw [List.take_add_one, hx]; rfl
      have HTK := Lib.hid htk
      have HX := Lib.hid hx
      have hxb := HBY.out x (List.mem_of_getElem? hx)
      clear hixe htk hx
      have hinext : IntKind.u64.wrap ((k : Int) + 1) = ((k + 1 : Nat) : Int) := by rw [IntKind.wrap_u64]; omega
      have HINX := Lib.hid hinext
      clear hinext
      go_wp2_with fail
      refine (HFI.out _ HB1.out).mono ?_
      rintro e w2 ⟨rfl, hw2⟩
      obtain rfl : w1 = w2 := hw2.symm
      go_wp2_with fail
      refine (HGE.out w1 ix HB1.out (by have := HIX.out; omega) (by have := HIX.out; omega)).mono ?_
      rintro e w3 ⟨hb3, _, hget⟩
      obtain ⟨v, rfl, hv⟩ := hget k x HIX.out HX.out
      have HB3 := Lib.hid (HB1.out.trans (hb3.mono (by omega)))
      have HO3' := Lib.hid (owns_below HO1.out (hb3.mono (Nat.le_refl _)))
      have hs3 := hb3.size
      have hvo : w3.ownsRow w1.heap.size 5 1 v (x.map K.u8).length (bytesV (x.map K.u8)) := by
        rw [bytesV_u8 hxb, List.length_map]
        exact hv
      have HV := Lib.hid hvo
      have hse : (⟨(x.map K.u8).toArray⟩ : ByteArray) = strI x := rfl
      have hlL : ((s.L.take k).map strI).length ≤ 4398046511104 := by rw [List.length_map, List.length_take]; omega
      clear hb3 hget hv hvo
      go_wp2_with (first
        | (with_reducible refine wpList_string_own _ rfl 49 9 _ rfl 5 Tryz.underlying49 Tryz.underlying9 Tryz.underlying5 w1.heap.size v (x.map K.u8) rfl HV.out ?_; rw [hse])
        | (at_builtin; refine wpList_push _ (by rfl) _ _ 38 rfl w.heap.size 9 iu (.string ByteArray.empty) 16 Tryz.underlying38 hiu hzu hsu hbu rfl _ ((s.L.take k).map strI).length _ rfl (HO3'.out.alloc _) w3.heap.size (.string (strI x)) rfl (cell_new _ _ _ _ rfl) rfl (by unfold maxLen; omega) (by omega) (by simp; omega) ?_; intro v' w4 hown4 hb4))
      have hb34 : Below w.heap.size w3 w4 := ((Below.refl _ _).alloc (by omega) _).trans hb4
      refine ⟨⟨k + 1, rfl, by omega, Lib.hid ?_, Lib.hid (HB3.out.trans hb34)⟩, by simp only [intOf]; omega⟩
      rw [HTK.out]
      show World.ownsRow _ _ _ _ _ _ _
      simpa using hown4
    · go_wp2_with fail
      go_ret
      have hkn : k = n := by omega
      subst hkn
      have ht : s.L.take k = s.L := List.take_of_length_le (by rw [HN.out]; exact Nat.le_refl _)
      have h1 := HO1.out
      rw [ht] at h1
      exact ⟨_, rfl, h1, HB1.out⟩
end Go.Proofs.YtcpkpljeimbdiaaGreat.W
namespace Go.Proofs.YtcpkpljeimbdiaaGreat.W
open Go.RowKit
open Aid K
set_option linter.unusedSimpArgs false
set_option linter.unusedVariables false
def SRow (w : World) (v : Value) (S : List ByteArray) : Prop := S.length ≤ 140737488355328 ∧ ∃ a c, v = .slice a S.length c ∧ ∀ j x, S[j]? = some x → ∃ b o, a = some ⟨b, o, none⟩ ∧ b < w.heap.size ∧ w.cell? ⟨b, o + j, none⟩ = some (.string x)
theorem SRow.below {w w' : World} {v : Value} {S : List ByteArray} (h : SRow w v S) (hb : Below w.heap.size w w') : SRow w' v S := by
  obtain ⟨h0, a, c, e, h1⟩ := h
  refine ⟨h0, a, c, e, fun j x hx => ?_⟩
  obtain ⟨b, o, e2, h2, h3⟩ := h1 j x hx
  exact ⟨b, o, e2, by have := hb.size; omega, (hb.cell (p := ⟨b, o + j, none⟩) h2).trans h3⟩
theorem SRow.of_own {w : World} {base : Nat} {v : Value} {S : List ByteArray} (h : OwnS w base v S) (hl : S.length ≤ 140737488355328) : SRow w v S := by
  refine ⟨hl, ?_⟩
  obtain ⟨h1, ⟨e, h0⟩ | ⟨g, cap, cur, e, hb, hg, h2, h3, h4, h5⟩⟩ := h
  · exact ⟨none, 0, by rw [e, h0], fun j x hx => by rw [List.eq_nil_of_length_eq_zero h0] at hx; cases hx⟩
  · refine ⟨some ⟨g, 0, none⟩, cap, e, fun j x hx => ⟨g, 0, rfl, Blk.lt hg, ?_⟩⟩
    have hj := (List.getElem?_eq_some_iff.1 hx).1
    rw [Blk.cell hg, Nat.zero_add, ← Array.getElem?_toList]
    have h6 : (cur.toList.take (S.length * 1))[j]? = (S.map Value.string)[j]? := by rw [h5]
    rw [List.getElem?_take_of_lt (by omega), List.getElem?_map, hx] at h6
    exact h6
end Go.Proofs.YtcpkpljeimbdiaaGreat.W
namespace Go.Proofs.YtcpkpljeimbdiaaGreat.W
open Go.RowKit
open Aid K
set_option linter.unusedSimpArgs false
set_option linter.unusedVariables false
structure Alv (st : DSt) (l : List Int) : Prop where
  dead : st.dead = false
  left : st.left = -1
  area : ∀ x, st.A x = true ↔ x = 1
  C : st.C ≤ 1
  sec : ∃ L s, st.F 1 0 = some (L, s) ∧ L ≠ [] ∧ L.getLastD ByteArray.empty = wholeI l
  other : ∀ a n, (a ≠ 1 ∨ n ≠ 0) → st.F a n = none
theorem do_write {st : DSt} {a n : Int} {l : List Int} (hd : st.dead = false) (hl : st.left = -1) (hn : 0 ≤ n ∧ n < 65536 ∧ l.length ≤ 64) (hr : (st.F a n).isSome = true ∨ st.room ≠ 0) :
    doE st 0 a n l = 0 ∧ doS st 0 a n l = writeF st a n l ∧ (writeF st a n l).dead = false ∧ (writeF st a n l).left = -1 := by
  have hb : ¬ BadW st a n l := by
    unfold BadW
    rintro (h | h | ⟨h1, h2⟩)
    · rw [hd] at h; cases h
    · omega
    · rcases hr with h | h
      · rw [h1] at h; cases h
      · exact h h2
  have hw : (writeF st a n l).dead = false ∧ (writeF st a n l).left = -1 := by
    unfold writeF
    split
    · unfold stepF putS; simp [hl]
    · split <;> (unfold stepF putS; simp [hl, openA])
  refine ⟨?_, ?_, hw⟩
  · unfold doE; rw [if_pos rfl, if_neg hb, if_neg (by rw [hw.1]; decide)]
  · unfold doS; rw [if_pos rfl, if_neg hb]
theorem alv_new {l : List Int} (hl : l.length ≤ 64) : doE (newSt 100) 0 1 0 l = 0 ∧ Alv (doS (newSt 100) 0 1 0 l) l := by
  obtain ⟨h1, h2, h3, h4⟩ := do_write (st := newSt 100) (a := 1) (n := 0) (l := l) rfl rfl ⟨by decide, by decide, hl⟩ (.inr (by decide))
  refine ⟨h1, ?_⟩
  rw [h2]
  refine ⟨h3, h4, fun x => ?_, ?_, ⟨[wholeI l], false, ?_, by simp, rfl⟩, fun a n h => ?_⟩
  · show updA (fun _ => false) 1 true x = true ↔ x = 1
    unfold updA; split <;> simp_all
  · exact Nat.le_refl _
  · show updF (fun _ _ => none) 1 0 (some ([wholeI l], false)) 1 0 = _
    unfold updF; rw [if_pos ⟨rfl, rfl⟩]
  · show updF (fun _ _ => none) 1 0 (some ([wholeI l], false)) a n = none
    unfold updF; rw [if_neg (by omega)]
theorem alv_write {st : DSt} {l l' : List Int} (h : Alv st l) (hl : l'.length ≤ 64) : doE st 0 1 0 l' = 0 ∧ Alv (doS st 0 1 0 l') l' := by
  obtain ⟨L, sb, hF, hL, _⟩ := h.sec
  obtain ⟨h1, h2, h3, h4⟩ := do_write (st := st) (a := 1) (n := 0) (l := l') h.dead h.left ⟨by decide, by decide, hl⟩ (.inl (by rw [hF]; rfl))
  refine ⟨h1, ?_⟩
  rw [h2]
  have hw : writeF st 1 0 l' = stepF (putS st 1 0 (L ++ [wholeI l'], sb)) := by unfold writeF; rw [hF]
  refine ⟨h3, h4, ?_, ?_, ⟨L ++ [wholeI l'], sb, ?_, by simp, by simp⟩, fun a n hh => ?_⟩
  · rw [hw]; exact h.area
  · rw [hw]; exact h.C
  · rw [hw]
    show updF st.F 1 0 (some (L ++ [wholeI l'], sb)) 1 0 = _
    unfold updF; rw [if_pos ⟨rfl, rfl⟩]
  · rw [hw]
    show updF st.F 1 0 (some (L ++ [wholeI l'], sb)) a n = none
    unfold updF; rw [if_neg (by omega)]
    exact h.other a n hh
theorem alv_sync {st : DSt} {l : List Int} {n : Int} (h : Alv st l) : doE st 1 1 n [] = 0 ∧ Alv (doS st 1 1 n []) l := by
  obtain ⟨L, sb, hF, hL, hg⟩ := h.sec
  have ht : (tickF st).dead = false := by unfold tickF; rw [if_neg (by rw [h.dead]; decide)]; unfold stepF; simp [h.left]
  have ht2 : ¬ (tickF st).dead = true := by rw [ht]; decide
  have hs : doS st 1 1 n [] = syncF st 1 := by unfold doS; rw [if_neg (by decide), if_pos rfl, if_neg ht2]
  refine ⟨by unfold doE; rw [if_neg (by decide), if_pos (.inl rfl), if_neg ht2], ?_⟩
  rw [hs]
  refine ⟨?_, ?_, h.area, h.C, ⟨[L.getLastD ByteArray.empty], true, ?_, by simp, by simpa using hg⟩, fun a n hh => ?_⟩
  · show (stepF st).dead = false; unfold stepF; simp [h.left]
  · show (stepF st).left = -1; unfold stepF; simp [h.left]
  · show (if (1 : Int) = 1 ∧ false = false ∧ (Lit.int .i64 0).wf = true then ((stepF st).F 1 0).map lastS else (stepF st).F 1 0) = _
    rw [if_pos ⟨rfl, rfl, by decide⟩]
    show (st.F 1 0).map lastS = _
    rw [hF]; rfl
  · show (if a = 1 ∧ false = false ∧ (Lit.int .i64 n).wf = true then ((stepF st).F 1 n).map lastS else (stepF st).F a n) = none
    split
    · rename_i hc
      show (st.F 1 n).map lastS = none
      rw [h.other 1 n (by omega)]; rfl
    · exact h.other a n hh
theorem wholeI_len {l : List Int} (h : l.length ≤ 64) : (wholeI l).size = 64 := by
  unfold wholeI whole; simp [ByteArray.size]; omega
theorem Alv.sects {st : DSt} {l : List Int} (h : Alv st l) (hl : l.length ≤ 64) : Sects st := by
  obtain ⟨L, sb, hF, hL, hg⟩ := h.sec
  refine ⟨fun a m L' s' e => ?_, fun a m e => ?_⟩
  · by_cases hh : a ≠ 1 ∨ m ≠ 0
    · rw [h.other a m hh] at e; cases e
    · obtain rfl : a = 1 := by omega
      obtain rfl : m = 0 := by omega
      rw [hF] at e; cases e
      exact ⟨hL, by rw [hg]; exact wholeI_len hl⟩
  · by_cases hh : a ≠ 1 ∨ m ≠ 0
    · rw [h.other a m hh] at e; cases e
    · omega
theorem wrS_small {s : LSt} {st : DSt} {b : List Int} {q : Opn} (hq : s.opn = some q) (h0 : 0 < b.length) (h1 : (q.rest ++ b).length < 63) :
    wrS s st b = ({ s with opn := some ⟨q.nu, q.ix, q.fu, q.rest ++ b⟩, code := doE st 0 (4 * q.nu + 1) q.fu (secW (q.rest ++ b)) }, doS st 0 (4 * q.nu + 1) q.fu (secW (q.rest ++ b))) := by
  obtain ⟨m, hm⟩ : ∃ m, q.rest.length + b.length = m + 1 := ⟨q.rest.length + b.length - 1, by omega⟩
  unfold wrS
  rw [hq]
  simp only
  rw [hm, wrF, if_pos (.inr h1)]
def sA0 : LSt := ⟨none, 5, [], [], 0, 0⟩
theorem putU5 : putU 5 = [5] := putU_small (by decide)
theorem putU1 : putU 1 = [1] := putU_small (by decide)
theorem ap_one : ∃ st1, apS sA0 (newSt 100) [97] = (⟨some ⟨0, 5, 0, [5, 1, 97]⟩, 5, [[97]], [(0, 5)], 1, 0⟩, st1, 0) ∧ Alv st1 [3, 5, 1, 97] := by
  obtain ⟨a1, a2⟩ := alv_new (l := secW [5]) (by decide)
  obtain ⟨b1, b2⟩ := alv_write (l' := secW [5, 1, 97]) a2 (by decide)
  refine ⟨doS (doS (newSt 100) 0 1 0 (secW [5])) 0 1 0 (secW [5, 1, 97]), ?_, b2⟩
  have hbe : beS sA0 (newSt 100) 5 = (⟨some ⟨0, 5, 0, [5]⟩, 5, [], [(0, 5)], 1, 0⟩, doS (newSt 100) 0 1 0 (secW [5])) := by
    have hs : syS sA0 (newSt 100) = (sA0, newSt 100) := by unfold syS sA0; rw [if_neg (by decide)]
    unfold beS
    simp only [hs]
    rw [if_neg (by show ¬ ((0 : Int) ≠ 0); decide)]
    rw [show putU (5 : Int).toNat = [5] from putU5, wrS_small (q := ⟨0, 5, 0, []⟩) rfl (by decide) (by decide)]
    show (_, _) = _
    simp only [sA0, List.nil_append]
    rw [show (4 * (0 : Int) + 1) = 1 by decide, show ((0 : Nat) : Int) = 0 from rfl, a1]
    rfl
  unfold apS
  rw [if_neg (by decide), if_neg (by decide), if_neg (by decide)]
  simp only
  rw [if_pos (show wantS sA0 = true from rfl)]
  rw [show sA0.first + (sA0.L.length : Int) = 5 from rfl, hbe]
  simp only
  rw [if_neg (by decide)]
  have e1 : putU ([97] : List Int).length = [1] := putU1
  rw [e1, wrS_small (q := ⟨0, 5, 0, [5]⟩) rfl (by decide) (by decide)]
  simp only
  rw [show (4 * (0 : Int) + 1) = 1 by decide, show ((0 : Nat) : Int) = 0 from rfl, show ([5] ++ ([1] ++ [97]) : List Int) = [5, 1, 97] from rfl, b1]
  rfl
theorem ap_two {st : DSt} (h : Alv st [3, 5, 1, 97]) : ∃ st1, apS ⟨some ⟨0, 5, 0, [5, 1, 97]⟩, 5, [[97]], [(0, 5)], 1, 0⟩ st [98] = (⟨some ⟨0, 5, 0, [5, 1, 97, 1, 98]⟩, 5, [[97], [98]], [(0, 5)], 1, 0⟩, st1, 0) ∧ Alv st1 [5, 5, 1, 97, 1, 98] := by
  obtain ⟨b1, b2⟩ := alv_write (l' := secW [5, 1, 97, 1, 98]) h (by decide)
  refine ⟨doS st 0 1 0 (secW [5, 1, 97, 1, 98]), ?_, b2⟩
  unfold apS
  rw [if_neg (by decide), if_neg (by decide), if_neg (by decide)]
  have e0 : wantS ⟨some ⟨0, 5, 0, [5, 1, 97]⟩, 5, [[97]], [(0, 5)], 1, 0⟩ = false := rfl
  have e1 : putU ([98] : List Int).length = [1] := putU1
  simp only [e0, e1]
  rw [if_neg (show ¬ false = true by decide)]
  simp only
  rw [if_neg (by decide), wrS_small (q := ⟨0, 5, 0, [5, 1, 97]⟩) rfl (by decide) (by decide)]
  simp only
  rw [show (4 * (0 : Int) + 1) = 1 by decide, show ((0 : Nat) : Int) = 0 from rfl, show ([5, 1, 97] ++ ([1] ++ [98]) : List Int) = [5, 1, 97, 1, 98] from rfl, b1]
  rfl
theorem sy_two {st : DSt} (h : Alv st [5, 5, 1, 97, 1, 98]) : ∃ st1, syS ⟨some ⟨0, 5, 0, [5, 1, 97, 1, 98]⟩, 5, [[97], [98]], [(0, 5)], 1, 0⟩ st = (⟨some ⟨0, 5, 0, [5, 1, 97, 1, 98]⟩, 5, [[97], [98]], [(0, 5)], 1, 0⟩, st1) ∧ Alv st1 [5, 5, 1, 97, 1, 98] := by
  obtain ⟨b1, b2⟩ := alv_sync (n := 0) h
  refine ⟨doS st 1 1 0 [], ?_, b2⟩
  unfold syS
  rw [if_neg (by decide)]
  simp only
  rw [show (4 * (0 : Int) + 1) = 1 by decide, b1]
theorem byI : bytesI (wholeI [5, 5, 1, 97, 1, 98]) = [5, 5, 1, 97, 1, 98] ++ List.replicate 58 0 := by decide +kernel
theorem tx_two {st : DSt} (h : Alv st [5, 5, 1, 97, 1, 98]) : textF st 1 65537 0 = [5, 1, 97, 1, 98] := by
  obtain ⟨L, sb, hF, hL, hg⟩ := h.sec
  rw [show 65537 = 65536 + 1 from rfl, textF]
  have : sectF st 1 0 = some ([5, 5, 1, 97, 1, 98] ++ List.replicate 58 0) := by
    unfold sectF
    rw [show ((0 : Nat) : Int) = 0 from rfl, hF]
    simp only [Option.map_some]
    rw [hg, byI]
  rw [this]
  rfl
theorem areas_one {st : DSt} {l : List Int} {xs : List Int} (h : Alv st l) (hx : AreasOf st xs) : xs = [1] := by
  obtain ⟨h1, h2, h3⟩ := hx
  have hm : 1 ∈ xs := (h3 1 (by decide)).2 ((h.area 1).2 rfl)
  have ha : ∀ x ∈ xs, x = 1 := fun x hx => (h.area x).1 ((h3 x (h2 x hx)).1 hx)
  match xs, h1, hm, ha with
  | [a], _, _, ha => rw [ha a (by simp)]
  | a :: b :: r, h1, _, ha =>
    have ea := ha a (by simp)
    have eb := ha b (by simp)
    rw [ea, eb] at h1
    simp at h1
theorem areas_none {R : Int} {xs : List Int} (hx : AreasOf (newSt R) xs) : xs = [] := by
  obtain ⟨h1, h2, h3⟩ := hx
  cases xs with
  | nil => rfl
  | cons a t => exact absurd ((h3 a (h2 a (by simp))).1 (by simp)) (fun h => by cases h)
theorem srt_one (x : Int) : QU.srt [x] = [x] := by simp [QU.srt]
theorem op_none {R first : Int} (hf : first ≤ 4611686018427387904) : opF (newSt R) [] 0 first = (some ⟨none, first, [], [], 0, 0⟩, newSt R, 0) := by
  unfold opF
  rw [if_neg (show ¬ (newSt R).dead = true from fun h => by cases h), if_neg (by omega)]
  have hs : QU.srt [] = [] := by simp [QU.srt]
  simp only [hs]
  rw [if_neg (by decide)]
  rfl
theorem op_two {st : DSt} (h : Alv st [5, 5, 1, 97, 1, 98]) : ∃ st1, opF st [1] 0 5 = (some ⟨none, 5, [[97], [98]], [(0, 5)], 1, 0⟩, st1, 0) := by
  obtain ⟨b1, b2⟩ := alv_sync (n := 0) h
  refine ⟨doS st 1 1 0 [], ?_⟩
  unfold opF
  rw [if_neg (by rw [h.dead]; decide), if_neg (by decide)]
  simp only [srt_one]
  rw [show numsF [1] = [0] from rfl, show max (nextF 0 [1]) 0 = 1 from rfl, if_neg (by decide)]
  have hl : opL st 0 [0] ⟨none, 5, [], [], 1, 0⟩ [] = some (⟨none, 5, [[97], [98]], [(0, 5)], 1, 0⟩, []) := by
    unfold opL
    rw [show (4 * (0 : Int) + 1) = 1 by decide, tx_two h]
    rfl
  rw [hl]
  simp only
  have hst : setF [0] [] st = (doS st 1 1 0 [], 0) := by
    unfold setF
    simp only
    rw [show hasB [] 0 = false from rfl, if_neg (show ¬ false = true by decide), show (4 * (0 : Int) + 1) = 1 by decide, if_neg (show ¬ doE st 1 1 0 [] ≠ 0 by rw [b1]; decide)]
    rfl
  rw [hst]
  rfl
theorem nv_two {st : DSt} (h : Alv st [5, 5, 1, 97, 1, 98]) : ∀ y, 0 ≤ y → st.A (4 * y + 1) = true → 0 ≤ y ∧ (uintF 4611686018427387904 (textF st (4 * y + 1) 65537 0) 0).2.2 = 0 := by
  intro y hy hA
  obtain rfl : y = 0 := by have := (h.area _).1 hA; omega
  refine ⟨Int.le_refl _, ?_⟩
  rw [show (4 * (0 : Int) + 1) = 1 by decide, tx_two h]
  rfl
theorem inv_zero {R first : Int} (hR : 0 ≤ R) (hf : 0 ≤ first ∧ first ≤ 4611686018427387904) : Inv ⟨none, first, [], [], 0, 0⟩ (newSt R) R 0 0 :=
  ⟨(fun h => by cases h), (fun _ q hq => by cases hq), ⟨Int.le_refl _, Int.le_refl _⟩, hf.1, by simpa using hf.2, Nat.le_refl _, Nat.le_refl _, (fun x hx => by cases hx), (fun l hl => by cases hl), (fun q hq => by cases hq), fit_new hR⟩
end Go.Proofs.YtcpkpljeimbdiaaGreat.W
namespace Go.Proofs.YtcpkpljeimbdiaaGreat.W
open Go.RowKit
open Aid K
set_option linter.unusedSimpArgs false
set_option linter.unusedVariables false
structure AL (w0 W : World) (N g p : Nat) (s : LSt) (st : DSt) (O Q : Nat → Prop) : Prop where
  wal : WalIs O Q W g p s
  disk : DiskIs O W p st
  lt : ∀ k, O k ∨ Q k → w0.heap.size ≤ k ∧ k < N
  nle : N ≤ W.heap.size
  below : Below w0.heap.size w0 W
def ALs (w0 W : World) (N g p : Nat) (s : LSt) (st : DSt) : Prop := ∃ O Q, AL w0 W N g p s st O Q
def DL (w0 W : World) (p : Nat) (st : DSt) : Prop := ∃ O, DiskIs O W p st ∧ (∀ k, O k → w0.heap.size ≤ k ∧ k < W.heap.size) ∧ Below w0.heap.size w0 W
theorem WalIs.below {O Q : Nat → Prop} {w w' : World} {g p : Nat} {s : LSt} (h : WalIs O Q w g p s) (hb : Below w.heap.size w w') : WalIs O Q w' g p s := by
  obtain ⟨ov, lv, oldv, hw⟩ := h
  exact ⟨ov, lv, oldv, hw.below hb⟩
theorem ALs.below {w0 W W' : World} {N g p : Nat} {s : LSt} {st : DSt} (h : ALs w0 W N g p s st) (hb : Below W.heap.size W W') : ALs w0 W' N g p s st := by
  obtain ⟨O, Q, h⟩ := h
  exact ⟨O, Q, h.wal.below hb, h.disk.below hb, h.lt, Nat.le_trans h.nle hb.size, h.below.trans (hb.mono h.below.size)⟩
theorem ALs.bel {w0 W : World} {N g p : Nat} {s : LSt} {st : DSt} (h : ALs w0 W N g p s st) : Below w0.heap.size w0 W ∧ N ≤ W.heap.size := by
  obtain ⟨O, Q, h⟩ := h
  exact ⟨h.below, h.nle⟩
theorem ALs.dl {w0 W : World} {N g p : Nat} {s : LSt} {st : DSt} (h : ALs w0 W N g p s st) : DL w0 W p st := by
  obtain ⟨O, Q, h⟩ := h
  exact ⟨O, h.disk, fun k hk => by have := h.lt k (.inl hk); have := h.nle; omega, h.below⟩
theorem DL.below {w0 W W' : World} {p : Nat} {st : DSt} (h : DL w0 W p st) (hb : Below W.heap.size W W') : DL w0 W' p st := by
  obtain ⟨O, h1, h2, h3⟩ := h
  exact ⟨O, h1.below hb, fun k hk => by have := h2 k hk; have := hb.size; omega, h3.trans (hb.mono h3.size)⟩
theorem AL.step {w0 W W' : World} {N g p : Nat} {s s' : LSt} {st st' : DSt} {O Q O' Q' : Nat → Prop} (h : AL w0 W N g p s st O Q) (hA : LogAt O Q W g p s' st' O' Q' W') : ALs w0 W' W'.heap.size g p s' st' := by
  refine ⟨O', Q', hA.wal, hA.disk, fun k hk => ⟨?_, ?_⟩, Nat.le_refl _, hA.keep.below h.below h.below.size (fun x hx => (h.lt x hx).1)⟩
  · rcases hA.grow k hk with h1 | h1
    · exact (h.lt k h1).1
    · have := h.below.size; omega
  · rcases hk with hk | hk
    · exact hA.olt k hk
    · obtain ⟨_, _, _, hw⟩ := hA.wal
      exact hw.lt k hk
def Fresh (w0 : World) (N : Nat) (bv : Value) (b : List Int) : Prop := ∀ k, bv.ownBlock = some k → b ≠ [] → (k < w0.heap.size ∨ N ≤ k)
theorem AL.fresh {w0 W : World} {N g p : Nat} {s : LSt} {st : DSt} {O Q : Nat → Prop} {bv : Value} {b : List Int} (h : AL w0 W N g p s st O Q) (hb : Fresh w0 N bv b) : ∀ k, bv.ownBlock = some k → b ≠ [] → ¬ (O k ∨ Q k) := fun k hk hn hq => by
  have h1 := hb k hk hn
  have := h.lt k hq
  omega
def AEnd (w0 : World) (g p : Nat) (r : LSt × DSt × Int) (e : Ending) (W' : World) : Prop := e = .returned (.int .i64 r.2.2) ∧ ALs w0 W' W'.heap.size g p r.1 r.2.1
theorem al_append {w0 W : World} {N g p : Nat} {s : LSt} {st : DSt} {R : Int} {k i : Nat} {bv : Value} {b : List Int} (h : ALs w0 W N g p s st) (hv : Inv s st R k i) (hk : k ≤ 2000000) (hi : i + 2200 ≤ 4398046511103) (hR : R ≤ 9223372036854775807) (hI : Ints W .u8 bv b) (hb : By8 b) (hf : Fresh w0 N bv b) :
    Calls Tryz.prog 14 #[.pointer (some ⟨g, 0, none⟩), bv] W (AEnd w0 g p (apS s st b)) := by
  obtain ⟨O, Q, h⟩ := h
  refine (append_any O Q g p s st R i 2000000 bv b W h.wal h.disk (fun k hk => by have := h.lt k (.inl hk); have := h.nle; omega) hv.fit hi hR (fun hc => hv.ok hk hc) hv.first hv.top hI hb (h.fresh hf)).mono ?_
  rintro e W' ⟨he, O', Q', hA⟩
  exact ⟨he, h.step hA⟩
theorem al_sync {w0 W : World} {N g p : Nat} {s : LSt} {st : DSt} {R : Int} {k i : Nat} (h : ALs w0 W N g p s st) (hv : Inv s st R k i) (hi : i ≤ 4398046511103) (hR : R ≤ 9223372036854775807) :
    Calls Tryz.prog 15 #[.pointer (some ⟨g, 0, none⟩)] W (AEnd w0 g p ((syS s st).1, (syS s st).2, (syS s st).1.code)) := by
  obtain ⟨O, Q, h⟩ := h
  refine (sync_log O Q g p s st R i W h.wal h.disk (fun k hk => by have := h.lt k (.inl hk); have := h.nle; omega) hv.fit hi hR hv.nu).mono ?_
  rintro e W' ⟨he, O', Q', hA⟩
  exact ⟨he, h.step hA⟩
theorem al_first {w0 W : World} {N g p : Nat} {s : LSt} {st : DSt} (h : ALs w0 W N g p s st) : Calls Tryz.prog 12 #[.pointer (some ⟨g, 0, none⟩)] W fun e w' => e = .returned (.int .u64 s.first) ∧ w' = W := by
  obtain ⟨O, Q, h⟩ := h
  obtain ⟨ov, lv, oldv, hW⟩ := h.wal
  exact first_any g ov p s.first lv oldv s.next s.code W hW.blk
theorem al_last {w0 W : World} {N g p : Nat} {s : LSt} {st : DSt} (h : ALs w0 W N g p s st) (hl : s.L.length ≤ 4398046511104) : Calls Tryz.prog 13 #[.pointer (some ⟨g, 0, none⟩)] W fun e w' => e = .returned (.int .u64 (IntKind.u64.wrap (IntKind.u64.wrap (s.first + s.L.length) - 1))) ∧ Below W.heap.size W w' := by
  obtain ⟨O, Q, h⟩ := h
  obtain ⟨ov, lv, oldv, hW⟩ := h.wal
  obtain ⟨vs, hrec⟩ := hW.recs
  obtain ⟨la, lc, rfl, hlc, hlz⟩ := hrec.row.slice
  have hlen := hrec.len
  have := last_any g ov p s.first la vs.length lc oldv s.next s.code W hW.blk (by omega)
  rw [hlen] at this
  exact this
theorem al_get {w0 W : World} {N g p : Nat} {s : LSt} {st : DSt} {i : Int} (h : ALs w0 W N g p s st) (hf : 0 ≤ s.first ∧ s.first ≤ 4611686018427387904) (hi : 0 ≤ i ∧ i < 18446744073709551616) (hl : s.L.length ≤ 4398046511104) : Calls Tryz.prog 16 #[.pointer (some ⟨g, 0, none⟩), .int .u64 i] W (GetEnd s.L s.first i W) := by
  obtain ⟨O, Q, h⟩ := h
  obtain ⟨ov, lv, oldv, hW⟩ := h.wal
  obtain ⟨vs, hrec⟩ := hW.recs
  exact get_any _ g ov p s.first _ oldv s.next s.code s.L vs i W hW.blk hrec (by omega) hi (by omega)
theorem al_all {w0 W : World} {N g p : Nat} {s : LSt} {st : DSt} {R : Int} {k i : Nat} (h : ALs w0 W N g p s st) (hv : Inv s st R k i) (hk : k ≤ 2000000) :
    Calls Tryz.prog 10 #[.pointer (some ⟨g, 0, none⟩)] W fun e w' => ∃ v, e = .returned v ∧ OwnS w' W.heap.size v (s.L.map strI) ∧ Below W.heap.size W w' := by
  obtain ⟨O, Q, h⟩ := h
  exact all_any O Q g p s W h.wal hv.first hv.top (by have := hv.len; omega) hv.by8
theorem dl_dead {w0 W : World} {p : Nat} {st : DSt} (h : DL w0 W p st) : Calls Tryz.prog 21 #[.pointer (some ⟨p, 0, none⟩)] W fun e w' => e = .returned (.bool st.dead) ∧ w' = W := by
  obtain ⟨O, h1, h2, h3⟩ := h
  exact dead_any O p st W h1
theorem dl_open {w0 W : World} {p : Nat} {st : DSt} {R : Int} {i : Nat} {fr first : Int} (h : DL w0 W p st) (hS : Sects st) (hF : FitS st R i) (hi : i + 1048600 ≤ 4398046511103) (hC : st.C ≤ 1048600) (hR : R ≤ 9223372036854775807) (hd : st.dead = false)
    (hnv : ∀ y, 0 ≤ y → st.A (4 * y + 1) = true → fr ≤ y ∧ (uintF 4611686018427387904 (textF st (4 * y + 1) 65537 0) 0).2.2 = 0) (hfr : 0 ≤ fr ∧ fr < 18446744073709551616) (hfi : 0 ≤ first ∧ first ≤ 4611686018427387904)
    {s' : LSt} {st' : DSt} (hx : ∀ xs, AreasOf st xs → opF st xs fr first = (some s', st', 0)) :
    Calls Tryz.prog 8 #[.pointer (some ⟨p, 0, none⟩), .int .u64 fr, .int .u64 first] W fun e w' => ∃ g, e = .returned (.tuple #[.pointer (some ⟨g, 0, none⟩), .int .i64 0]) ∧ ALs w0 w' w'.heap.size g p s' st' := by
  obtain ⟨O, h1, h2, h3⟩ := h
  refine (open_gen O p st R i fr first W h1 (fun k hk => (h2 k hk).2) hS hF hi hC hR hfr ⟨hfi.1, by omega⟩).mono ?_
  rintro e w' ⟨xs, hxs, hE⟩
  rw [hx xs (hxs hd hfi.2)] at hE
  obtain ⟨hK, O', hD, hg, hl, g, Q, he, hW, hQ⟩ := hE
  have hs := h3.size
  refine ⟨g, he, O', Q, hW, hD, fun k hk => ?_, Nat.le_refl _, hK.below h3 h3.size (fun x hx => (h2 x hx).1)⟩
  rcases hk with hk | hk
  · refine ⟨?_, hl k hk⟩
    rcases hg k hk with h4 | h4
    · exact (h2 k h4).1
    · omega
  · obtain ⟨_, _, _, hw⟩ := hW
    have := hQ k hk
    exact ⟨by omega, hw.lt k hk⟩
theorem new_dl {w0 W : World} {room : Int} (h : Below w0.heap.size w0 W) : Calls Tryz.prog 4 #[.int .i64 room] W fun e w' => ∃ p, e = .returned (.pointer (some ⟨p, 0, none⟩)) ∧ DL w0 w' p (newSt room) := by
  refine (new_fine room W).mono ?_
  rintro e w' ⟨p, O, rfl, hD, hO, hb⟩
  exact ⟨p, rfl, O, hD, fun k hk => by have := hO k hk; have := h.size; omega, h.trans (hb.mono h.size)⟩
theorem sects_new (R : Int) : Sects (newSt R) := ⟨(fun a m L s e => by cases e), (fun a m e => by cases e)⟩
theorem nv_new (R fr : Int) : ∀ y, 0 ≤ y → (newSt R).A (4 * y + 1) = true → fr ≤ y ∧ (uintF 4611686018427387904 (textF (newSt R) (4 * y + 1) 65537 0) 0).2.2 = 0 := fun y _ h => by cases h
end Go.Proofs.YtcpkpljeimbdiaaGreat.W
namespace Go.Proofs.YtcpkpljeimbdiaaGreat.W
open Go.RowKit
open Aid K
set_option linter.unusedSimpArgs false
set_option linter.unusedVariables false
theorem by97 : By8 [97] := by unfold By8; decide
theorem by98 : By8 [98] := by unfold By8; decide
theorem ints_one (w : World) (x : Int) (t : TypeId) (fr : Nat × Nat) : Ints (w.alloc (.cells #[.int .u8 x] t fr)) .u8 (.slice (some ⟨w.heap.size, 0, none⟩) 1 1) [x] := by
  refine ⟨by simp, .inr ⟨w.heap.size, 0, 1, rfl, by simp, fun j hj => ?_⟩⟩
  have h1 := World.cell?_alloc_mark w #[.int .u8 x] t fr j
  rw [Nat.zero_add, h1]
  match j, hj with
  | 0, _ => rfl
set_option maxRecDepth 100000 in
set_option maxHeartbeats 8000000 in
theorem alive_any (w : World) : Calls Tryz.prog 5 #[] w fun e w' => e = .returned (.bool true) ∧ Below w.heap.size w w' := by
  go_enter Tryz.func5, Tryz.ntmps5
  go_wp2_with fail
  refine (new_dl (w0 := w) (room := 100) (Below.refl _ _)).mono ?_
  rintro e w1 ⟨p, rfl, D1⟩
  go_wp2_with fail
  refine (dl_open (R := 100) (i := 0) (fr := 0) (first := 5) D1 (sects_new _) (fit_new (by decide)) (by decide) (by decide) (by decide) rfl (nv_new _ _) (by decide) (by decide) (fun xs hx => by rw [areas_none hx]; exact op_none (by decide))).mono ?_
  rintro e w2 ⟨g, rfl, H2⟩
  have I0 : Inv ⟨none, 5, [], [], 0, 0⟩ (newSt 100) 100 0 0 := inv_zero (by decide) (by decide)
  have L2 := al_last H2 (by decide)
  have F2 := al_first H2
  simp only [show IntKind.u64.wrap (IntKind.u64.wrap ((5 : Int) + (([] : List (List Int)).length : Int)) - 1) = 4 by decide] at L2
  go_wp2_with fail
  refine F2.mono ?_
  rintro e w3 ⟨rfl, hw3⟩
  obtain rfl : w2 = w3 := hw3.symm
  go_wp2_with fail
  refine L2.mono ?_
  rintro e w3 ⟨rfl, hb3⟩
  have H3 := H2.below hb3
  clear D1 H2 hb3 L2 F2
  have hN3 := H3.bel
  have hconv := Lib.run_convert_bytes_const (P := Tryz.prog) w3 49 5 #[.int .u8 97] 1 1 Tryz.underlying49 Tryz.underlying5
  have hbX : Below w3.heap.size w3 (w3.alloc (.cells #[.int .u8 97] 5 (1, 2))) := (Below.refl _ _).alloc (Nat.le_refl _) _
  have hIX := ints_one w3 97 5 (1, 2)
  have HX := H3.below hbX
  obtain ⟨st1, e1, A1⟩ := ap_one
  have I1 : Inv (apS sA0 (newSt 100) [97]).1 (apS sA0 (newSt 100) [97]).2.1 100 1 1800 := I0.append (by decide) by97
  have C1 := al_append (b := [97]) HX I0 (by decide) (by decide) (by decide) hIX by97 (fun k hk _ => by cases hk; exact .inr hN3.2)
  unfold sA0 at e1 I1
  rw [e1] at I1 C1
  clear e1 HX hIX
  go_wp2_with fail
  refine C1.mono ?_
  rintro e w4 ⟨rfl, H4⟩
  obtain ⟨st2, e2, A2⟩ := ap_two A1
  have I2 := I1.append (b := [98]) (by decide) by98
  have hconv4 := Lib.run_convert_bytes_const (P := Tryz.prog) w4 49 5 #[.int .u8 98] 1 1 Tryz.underlying49 Tryz.underlying5
  have hbY : Below w4.heap.size w4 (w4.alloc (.cells #[.int .u8 98] 5 (1, 2))) := (Below.refl _ _).alloc (Nat.le_refl _) _
  have hIY := ints_one w4 98 5 (1, 2)
  have C2 := al_append (b := [98]) (H4.below hbY) I1 (by decide) (by decide) (by decide) hIY by98 (fun k hk _ => by cases hk; exact .inr (Nat.le_refl _))
  simp only [e2] at I2 C2
  clear e2 hIY H4 H3 C1
  go_wp2_with fail
  refine C2.mono ?_
  rintro e w5 ⟨rfl, H5⟩
  obtain ⟨st3, e3, A3⟩ := sy_two A2
  have I3 := I2.sync
  have C3 := al_sync H5 I2 (by decide) (by decide)
  simp only [e3] at I3 C3
  clear e3 H5 C2
  go_wp2_with fail
  refine C3.mono ?_
  rintro e w6 ⟨rfl, H6⟩
  obtain ⟨st4, e4⟩ := op_two A3
  have C4 := dl_open (R := 100) (i := 3601) (fr := 0) (first := 5) H6.dl (A3.sects (by decide)) I3.fit (by decide) (Nat.le_trans A3.C (by decide)) (by decide) A3.dead (nv_two A3) (by decide) (by decide) (fun xs hx => by rw [areas_one A3 hx]; exact e4)
  clear H6 C3 e4 I3 I2 I1 I0
  go_wp2_with fail
  refine C4.mono ?_
  rintro e w7 ⟨v, rfl, H7⟩
  have C5 := al_get (i := 6) H7 (by decide) (by decide) (by decide)
  clear C4
  go_wp2_with fail
  refine C5.mono ?_
  rintro e w8 ⟨hb8, _, h8⟩
  obtain ⟨bv, rfl, hO8⟩ := h8 1 [98] rfl rfl
  have H8 := H7.below hb8
  have L8 := al_last H8 (by decide)
  simp only [show IntKind.u64.wrap (IntKind.u64.wrap ((5 : Int) + (([[97], [98]] : List (List Int)).length : Int)) - 1) = 6 by decide] at L8
  clear h8 H7 C5 hb8
  go_wp2_with fail
  refine L8.mono ?_
  rintro e w9 ⟨rfl, hb9⟩
  have H9 := H8.below hb9
  have HV : Hid (w9.ownsRow w7.heap.size 5 1 bv ([98] : List UInt8).length (bytesV [98])) := Lib.hid (own_keep hO8 (Keeps.of_below (O := fun _ => False) hb9) (fun _ _ h => h))
  clear L8 hO8 H8 hb9
  have hB9 := H9.bel.1
  obtain ⟨gb, bc, rfl⟩ : ∃ gb bc, bv = .slice (some ⟨gb, 0, none⟩) 1 bc := by
    rcases HV.out.2 with ⟨_, hl⟩ | ⟨g, cap, cur, hv, _⟩
    · simp at hl
    · exact ⟨g, cap, hv⟩
  have hrun := run_convert_bytes_back (P := Tryz.prog) w9 49 9 5 ⟨gb, 0, none⟩ bc [98] Tryz.underlying49 Tryz.underlying5 Tryz.underlying9 (fun j hj => by
    rw [add_plain]
    have := HV.out.cells (g := gb) rfl j (.int .u8 (([98] : List UInt8)[j].toNat : Int)) (by unfold bytesV; rw [List.getElem?_map, List.getElem?_eq_getElem hj]; rfl)
    rw [add_plain] at this; exact this)
  simp only [List.length_cons, List.length_nil, Nat.zero_add] at hrun
  go_wp2_with fail
  go_ret
  exact ⟨rfl, hB9⟩
end Go.Proofs.YtcpkpljeimbdiaaGreat.W
namespace Go.Proofs.YtcpkpljeimbdiaaGreat.W
open Go.RowKit
open Aid K
set_option linter.unusedSimpArgs false
set_option linter.unusedVariables false
def TrueIn (w : World) (e : Ending) (w' : World) : Prop := e = .returned (.bool true) ∧ Below w.heap.size w w'
theorem op_cells {w : World} {T : Nat} {x : WOp} (h : Blk w T 55 #[.int .i64 x.k, .int .i64 x.n, x.v]) : w.cell? ⟨T, 0, none⟩ = some (.int .i64 x.k) ∧ w.cell? ⟨T, 1, none⟩ = some (.int .i64 x.n) ∧ w.cell? ⟨T, 2, none⟩ = some x.v :=
  ⟨by rw [Blk.cell h]; rfl, by rw [Blk.cell h]; rfl, by rw [Blk.cell h]; rfl⟩
theorem wop_by {w : World} {x : WOp} (h : WOk w x) : By8 x.l := fun y hy => by have := h.bytes y hy; omega
theorem inv_arm {s : LSt} {st : DSt} {R at_ : Int} {k i : Nat} (h : Inv s st R k i) (ha : at_ ≤ 9223372036854775807) : Inv s (armF st at_) R k i := by
  have hf := h.fit
  have e : armF st at_ = st ∨ (armF st at_ = { st with left := max at_ (-1) }) := by
    unfold armF; split
    · exact .inl rfl
    · exact .inr rfl
  have hd : (armF st at_).dead = st.dead := by rcases e with e | e <;> rw [e]
  refine ⟨fun hh => h.pd (hd ▸ hh), h.opn, h.next, h.first, h.top, h.len, h.old, h.olds, h.by8, h.nu, ?_⟩
  rcases e with e | e
  · rw [e]; exact hf
  · rw [e]; exact ⟨hf.steps, by show max at_ (-1) ≤ _; omega, hf.N, hf.C, hf.V, hf.room, hf.sum⟩
structure HL (w0 wF : World) (N : Nat) (W : World) (g p : Nat) (s : LSt) (st : DSt) (O Q : Nat → Prop) : Prop where
  wal : WalIs O Q W g p s
  disk : DiskIs O W p st
  olt : ∀ k, O k → k < W.heap.size
  ge : ∀ k, O k ∨ Q k → w0.heap.size ≤ k
  low : ∀ k, O k ∨ Q k → k < N ∨ wF.heap.size ≤ k
  keep : ∀ k, N ≤ k → k < wF.heap.size → W.heap[k]? = wF.heap[k]?
  size : wF.heap.size ≤ W.heap.size
  below : Below w0.heap.size w0 W
def HLs (w0 wF : World) (N : Nat) (W : World) (g p : Nat) (s : LSt) (st : DSt) : Prop := ∃ O Q, HL w0 wF N W g p s st O Q
theorem ALs.hl {w0 W : World} {N g p : Nat} {s : LSt} {st : DSt} (h : ALs w0 W N g p s st) : HLs w0 W N W g p s st := by
  obtain ⟨O, Q, h⟩ := h
  exact ⟨O, Q, h.wal, h.disk, fun k hk => by have := h.lt k (.inl hk); have := h.nle; omega, fun k hk => (h.lt k hk).1, fun k hk => .inl (h.lt k hk).2, fun _ _ _ => rfl, Nat.le_refl _, h.below⟩
theorem HLs.below {w0 wF W W' : World} {N g p : Nat} {s : LSt} {st : DSt} (h : HLs w0 wF N W g p s st) (hb : Below W.heap.size W W') : HLs w0 wF N W' g p s st := by
  obtain ⟨O, Q, h⟩ := h
  have hs := hb.size
  exact ⟨O, Q, h.wal.below hb, h.disk.below hb, fun k hk => by have := h.olt k hk; omega, h.ge, h.low, fun k h1 h2 => (hb.block k (by have := h.size; omega)).trans (h.keep k h1 h2), by have := h.size; omega, h.below.trans (hb.mono h.below.size)⟩
theorem HLs.bel {w0 wF W : World} {N g p : Nat} {s : LSt} {st : DSt} (h : HLs w0 wF N W g p s st) : Below w0.heap.size w0 W ∧ wF.heap.size ≤ W.heap.size := by
  obtain ⟨O, Q, h⟩ := h
  exact ⟨h.below, h.size⟩
theorem HLs.dl {w0 wF W : World} {N g p : Nat} {s : LSt} {st : DSt} (h : HLs w0 wF N W g p s st) : DL w0 W p st := by
  obtain ⟨O, Q, h⟩ := h
  exact ⟨O, h.disk, fun k hk => ⟨h.ge k (.inl hk), h.olt k hk⟩, h.below⟩
theorem HLs.cell {w0 wF W : World} {N g p : Nat} {s : LSt} {st : DSt} (h : HLs w0 wF N W g p s st) {k o : Nat} (h1 : N ≤ k) (h2 : k < wF.heap.size) : W.cell? ⟨k, o, none⟩ = wF.cell? ⟨k, o, none⟩ := by
  obtain ⟨O, Q, h⟩ := h
  exact World.cell?_of_block (h.keep k h1 h2)
theorem HLs.srow {w0 wF W : World} {N g p : Nat} {s : LSt} {st : DSt} (h : HLs w0 wF N W g p s st) {base : Nat} {v : Value} {S : List ByteArray} (hN : N ≤ base) (hv : OwnS wF base v S) (hl : S.length ≤ 140737488355328) : SRow W v S := by
  obtain ⟨O, Q, h⟩ := h
  refine SRow.of_own (base := base) ?_ hl
  obtain ⟨h1, h2⟩ := hv
  refine ⟨h1, ?_⟩
  rcases h2 with h2 | ⟨g, cap, cur, rfl, hb2, hg, rest⟩
  · exact .inl h2
  · exact .inr ⟨g, cap, cur, rfl, hb2, (h.keep g (by omega) (Array.getElem?_eq_some_iff.1 hg).1).trans hg, rest⟩
end Go.Proofs.YtcpkpljeimbdiaaGreat.W
