/-
  FstBuild.
-/
import Derived.Test.YtkibkbbjpgomlaaDoorWqFstBldA
import Derived.Test.YtkibkbbjpgomlaaDoorWqFstState
import Derived.Test.YtkibkbbjpgomlaaDoorWqA
import Derived.Deep.RegionHeld3
import Derived.BigQuiet
namespace Go.Proofs.YtkibkbbjpgomlaaDoor.F
open Go.RowKit Go.Shelf Go.Maps
open Aid L LM
set_option linter.unusedSimpArgs false
set_option linter.unusedVariables false
attribute [local go_sem] Oper.semAt_some

set_option maxRecDepth 100000 in
set_option maxHeartbeats 4000000 in
theorem build_new (v : Value) (l : List Wd) (w : World) (h : PairsIn w v l) (T : Tab w) : Calls Tryd.prog 4 #[v] w (BuildNew w l) := by
  obtain ⟨av, cv, rfl⟩ := h.slice
  have hlen := h.len
  obtain ⟨n, hn⟩ : ∃ n, l.length = n := ⟨_, rfl⟩
  have hcap : (n : Int) ≤ (cv : Int) := by obtain ⟨_, _, e, _, h, _⟩ := h; cases e; omega
  rw [hn] at h hlen ⊢
  obtain ⟨rB, hrB⟩ : ∃ rB, w.heap.size = rB := ⟨_, rfl⟩
  have bR : ∀ vs, Blk (w.alloc (.cells vs 25)) rB 25 vs := fun vs => by rw [← hrB]; exact Blk.alloc_new _ _ _
  have hbR : ∀ o, Below w.heap.size w (w.alloc o) := fun o => (Below.refl _ _).alloc (Nat.le_refl _) _
  by_cases hm : (4096 : Int) < (n : Int)
  · have he : buildE l = 70 := by unfold buildE; rw [if_pos (by omega)]
    go_enter Tryd.func4, Tryd.ntmps4
    go_wp2_with fail
    try rw [hrB]
    refine bodyPost_ret (results_cellT rfl _ _ rB rfl _ rfl _ _ (bR _) _ Tryd.underlying25 rfl size_mach) rfl ?_
    exact refused he (by decide) (hbR _)
  have hmany : buildE l = errF none l := by unfold buildE; rw [if_neg (by omega)]
  obtain ⟨W0, hW0⟩ : ∃ W0, w.alloc (.cells #[.int .i64 0, .slice none 0 0] 25) = W0 := ⟨_, rfl⟩
  have b0 : Blk W0 rB 25 #[.int .i64 0, .slice none 0 0] := by rw [← hW0]; exact bR _
  have hb0 : Below w.heap.size w W0 := by rw [← hW0]; exact hbR _
  have hz0 : W0.heap.size = rB + 1 := by rw [← hW0, ← hrB]; simp
  go_enter Tryd.func4, Tryd.ntmps4
  go_wp2_with fail
  try rw [hW0]
  try rw [hrB]
  go_loopw [4, 16] (fun x4 x16 wr => ∃ (i : Nat) (q : List RS), x16 = .int .i64 i ∧ i ≤ n ∧ BL W0 l i q x4 wr) (fun _ x16 _ => n - (intOf x16).toNat)
  case atStart => exact ⟨0, [], rfl, Nat.zero_le _, rfl, World.ownsRow_nil _ _ _ _, by simp, rfl, Below.refl _ _⟩
  case round =>
    obtain ⟨i, q, rfl, hi, hBL⟩ := hrel
    have hb := hBL.below
    have herr := hBL.err
    have hbw : Below w.heap.size w wr := hb0.trans (hb.mono (by omega))
    have bW := b0.below hb (by omega)
    by_cases hlt : (i : Int) < (n : Int)
    · have hil : i < l.length := by omega
      obtain ⟨x, hx⟩ : ∃ x, l[i]? = some x := ⟨_, List.getElem?_eq_getElem hil⟩
      obtain ⟨g, off, rfl, hg, c0, c1⟩ := h.at_ hx
      obtain ⟨xs, xw⟩ := x
      dsimp only at c0 c1
      obtain ⟨hxs, hxw⟩ := h.ok _ (List.mem_of_getElem? hx)
      dsimp only at hxs hxw
      have hbz := hbw.size
      have hbz0 := hb.size
      have d0 := (hbw.cell (p := ⟨g, off + i * 2, none⟩) hg).trans c0
      have d1 := (hbw.cell (p := ⟨g, off + i * 2 + 1, none⟩) hg).trans c1
      have hcs := two_cells d0 d1
      have hgr : g < wr.heap.size := by omega
      have hdr : l.drop i = (xs, xw) :: l.drop (i + 1) := by
        rw [List.drop_eq_getElem_cons hil]
        rw [List.getElem?_eq_getElem hil] at hx
        rw [Option.some.inj hx]
      have hts := take_snoc hx
      have i0 : (0 : Int) ≤ (i : Int) := by omega
      rw [hdr] at herr
      have HBL := Lib.hid hBL
      have hqi : q.length = i := by have := congrArg List.length hBL.rests; rw [rw_len] at this; unfold restsF at this; rw [List.length_map, List.length_take] at this; omega
      have hown := hBL.row
      have HERR := Lib.hid herr
      have HTS := Lib.hid hts
      have HDR := Lib.hid hdr
      have HB := Lib.hid hb
      have HBW := Lib.hid hbw
      obtain ⟨K, hK⟩ : ∃ K, wr.heap.size = K := ⟨_, rfl⟩
      obtain ⟨W1, hW1⟩ : ∃ W1, wr.alloc (.cells #[.string xs, .int .i64 xw] 42) = W1 := ⟨_, rfl⟩
      have hb1 : Below wr.heap.size wr W1 := by rw [← hW1]; exact (Below.refl _ _).alloc (Nat.le_refl _) _
      have hz1 : W1.heap.size = K + 1 := by rw [← hW1, ← hK]; simp
      have bP1 : Blk W1 K 42 #[.string xs, .int .i64 xw] := by rw [← hW1, ← hK]; exact Blk.alloc_new _ _ _
      have p0 : W1.cell? ⟨K, 0, none⟩ = some (.string xs) := (Blk.cell bP1 0).trans rfl
      have p1 : W1.cell? ⟨K, 1, none⟩ = some (.int .i64 xw) := (Blk.cell bP1 1).trans rfl
      have T1 : Tab W1 := (T.below hbw).below hb1
      have hrl : rB < wr.heap.size := by omega
      have HX := Lib.hid hx
      clear herr hts hdr hb hbw hBL hx
      cases hwx : wordB xs
      · go_wp2_with (first | (go_at_call 12; refine (word_any xs _ (by omega) T2).mono ?_; rintro e w3 ⟨rfl, hb3⟩; rw [hwx]; have hbr3 := hR2.trans (hb3.mono hR2.size); have q0 : w3.cell? ⟨rB, 0, none⟩ = some (.int .i64 0) := (Blk.cell (bW.below hbr3 hrl) 0).trans rfl; have q1 : w3.cell? ⟨rB, 1, none⟩ = some (.slice none 0 0) := (Blk.cell (bW.below hbr3 hrl) 1).trans rfl; have q2 := Blk.free (bW.below hbr3 hrl) 0; have q3 := Blk.free (bW.below hbr3 hrl) 1) | (go_at_call 11; refine (runes_uni xs _ hxs T1).mono ?_; rintro e w2 ⟨rv, rb, rfl, hb2, hrv, ra, rn, rc, hrs⟩; have T2 := T1.below hb2; have hR2 := hb1.trans (hb2.mono hb1.size); have p0 := (hb2.cell (p := ⟨K, 0, none⟩) (by show K < _; omega)).trans p0))
        refine bodyPost_ret (results_cellT rfl _ _ rB rfl _ rfl _ _ (Blk.set2 (bW.below hbr3 hrl)) _ Tryd.underlying25 rfl size_mach) rfl ?_
        refine refused (l := l) (by rw [hmany, HERR.out]; unfold errF; rw [if_pos hwx]) (by decide) (below_set (below_set (HBW.out.trans (hbr3.mono hbz)) (by omega)) (by omega))
      · have hw1 : True := trivial
        by_cases hx1 : xw < 1
        · go_wp2_with (first | (go_at_call 12; refine (word_any xs _ (by omega) T2).mono ?_; rintro e w3 ⟨rfl, hb3⟩; rw [hwx]; have hbr3 := hR2.trans (hb3.mono hR2.size); have q0 : w3.cell? ⟨rB, 0, none⟩ = some (.int .i64 0) := (Blk.cell (bW.below hbr3 hrl) 0).trans rfl; have q1 : w3.cell? ⟨rB, 1, none⟩ = some (.slice none 0 0) := (Blk.cell (bW.below hbr3 hrl) 1).trans rfl; have q2 := Blk.free (bW.below hbr3 hrl) 0; have q3 := Blk.free (bW.below hbr3 hrl) 1; have p1 := ((hb2.trans (hb3.mono hb2.size)).cell (p := ⟨K, 1, none⟩) (by show K < _; omega)).trans p1) | (go_at_call 11; refine (runes_uni xs _ hxs T1).mono ?_; rintro e w2 ⟨rv, rb, rfl, hb2, hrv, ra, rn, rc, hrs⟩; have T2 := T1.below hb2; have hR2 := hb1.trans (hb2.mono hb1.size); have p0 := (hb2.cell (p := ⟨K, 0, none⟩) (by show K < _; omega)).trans p0))
          refine bodyPost_ret (results_cellT rfl _ _ rB rfl _ rfl _ _ (Blk.set2 (bW.below hbr3 hrl)) _ Tryd.underlying25 rfl size_mach) rfl ?_
          refine refused (l := l) (by rw [hmany, HERR.out, errF_cons, if_neg (by rw [hwx]; simp), if_pos (.inl hx1)]) (by decide) (below_set (below_set (HBW.out.trans (hbr3.mono hbz)) (by omega)) (by omega))
        by_cases hx2 : 1048576 < xw
        · go_wp2_with (first | (go_at_call 12; refine (word_any xs _ (by omega) T2).mono ?_; rintro e w3 ⟨rfl, hb3⟩; rw [hwx]; have hbr3 := hR2.trans (hb3.mono hR2.size); have q0 : w3.cell? ⟨rB, 0, none⟩ = some (.int .i64 0) := (Blk.cell (bW.below hbr3 hrl) 0).trans rfl; have q1 : w3.cell? ⟨rB, 1, none⟩ = some (.slice none 0 0) := (Blk.cell (bW.below hbr3 hrl) 1).trans rfl; have q2 := Blk.free (bW.below hbr3 hrl) 0; have q3 := Blk.free (bW.below hbr3 hrl) 1; have p1 := ((hb2.trans (hb3.mono hb2.size)).cell (p := ⟨K, 1, none⟩) (by show K < _; omega)).trans p1; have p0 := (hb3.cell (p := ⟨K, 0, none⟩) (by have := hb2.size; show K < _; omega)).trans p0; have HU3 := Lib.hid hb3) | (go_at_call 11; refine (runes_uni xs _ hxs T1).mono ?_; rintro e w2 ⟨rv, rb, rfl, hb2, hrv, ra, rn, rc, hrs⟩; have T2 := T1.below hb2; have hR2 := hb1.trans (hb2.mono hb1.size); have p0 := (hb2.cell (p := ⟨K, 0, none⟩) (by show K < _; omega)).trans p0))
          refine bodyPost_ret (results_cellT rfl _ _ rB rfl _ rfl _ _ (Blk.set2 (bW.below hbr3 hrl)) _ Tryd.underlying25 rfl size_mach) rfl ?_
          refine refused (l := l) (by rw [hmany, HERR.out, errF_cons, if_neg (by rw [hwx]; simp), if_pos (.inr hx2)]) (by decide) (below_set (below_set (HBW.out.trans (hbr3.mono hbz)) (by omega)) (by omega))
        by_cases hi0 : i = 0
        · have hgd : decide ((0 : Int) < (i : Int)) = false := decide_eq_false (by omega)
          have hgd' : decide (0 < i) = false := decide_eq_false (by omega)
          have HI0 := Lib.hid hi0
          clear hi0
          go_wp2_with (first | (go_at_call 12; refine (word_any xs _ (by omega) T2).mono ?_; rintro e w3 ⟨rfl, hb3⟩; rw [hwx]; have hbr3 := hR2.trans (hb3.mono hR2.size); have q0 : w3.cell? ⟨rB, 0, none⟩ = some (.int .i64 0) := (Blk.cell (bW.below hbr3 hrl) 0).trans rfl; have q1 : w3.cell? ⟨rB, 1, none⟩ = some (.slice none 0 0) := (Blk.cell (bW.below hbr3 hrl) 1).trans rfl; have q2 := Blk.free (bW.below hbr3 hrl) 0; have q3 := Blk.free (bW.below hbr3 hrl) 1; have p1 := ((hb2.trans (hb3.mono hb2.size)).cell (p := ⟨K, 1, none⟩) (by show K < _; omega)).trans p1; have p0 := (hb3.cell (p := ⟨K, 0, none⟩) (by have := hb2.size; show K < _; omega)).trans p0; have HU3 := Lib.hid hb3) | (go_at_call 11; refine (runes_uni xs _ hxs T1).mono ?_; rintro e w2 ⟨rv, rb, rfl, hb2, hrv, ra, rn, rc, hrs⟩; have T2 := T1.below hb2; have hR2 := hb1.trans (hb2.mono hb1.size); have p0 := (hb2.cell (p := ⟨K, 0, none⟩) (by show K < _; omega)).trans p0))
          go_quiet (fail)
          have hbq := below_drewN (Below.refl w3.heap.size w3) nq
          obtain ⟨W5, hW5⟩ : ∃ W5, w3.drewN nq = W5 := ⟨_, rfl⟩
          rw [hW5] at hbq ⊢
          have hb35 := hb3.trans (hbq.mono hb3.size)
          have hbr5 := hbr3.trans (hbq.mono hbr3.size)
          have p1 := (hbq.cell (p := ⟨K, 1, none⟩) (by have h1 := hbr3.size; have h2 := hb2.size; have h3 := hb3.size; show K < _; omega)).trans p1
          have own5 : W5.ownsRow W0.heap.size 50 2 u4 q.length (rowR q) := owns_below hown hbr5
          have hrv' := hrv hwx
          obtain ⟨i0, z0, hi0, hz0', hsz0, hby0, hzs0⟩ := info_rest
          have h5s := hbr5.size
          rw [hrs] at hrv'
          clear hW5
          go_wp2_with (at_builtin; refine wpList_append_own_at _ rfl _ _ 43 rfl W0.heap.size 50 i0 z0 2 32 Tryd.underlying43 hi0 hz0' hsz0 hby0 hzs0 (by decide) _ _ _ rfl (own5.alloc _) ⟨W5.heap.size, 0, none⟩ 1 1 _ rfl rfl (World.news_of_block (Blk.alloc_new _ _ _)) (by intro y hy; simp at hy; rcases hy with rfl | rfl <;> rfl) (by unfold maxLen; omega) (by omega) (by simp; omega) ?_; intro v' w1 hown' hgrow hnil hat)
          refine ⟨⟨i + 1, q ++ [⟨runesOf xs, xw, .slice ra rn rc⟩], by first | rfl | congr 1, by omega, BL.next HBL.out HX.out HDR.out ⟨hwx, by show (1 : Int) ≤ xw; omega, by show xw ≤ 1048576; omega, fun y e => by rw [HI0.out] at e; cases e⟩ hR2 hb1.size hrv' hb35 hown' hgrow hat⟩, ?_⟩
          simp [intOf]; omega
        · obtain ⟨j, hj⟩ : ∃ j, i = j + 1 := ⟨i - 1, by omega⟩
          obtain ⟨y, hy⟩ : ∃ y, l[j]? = some y := ⟨_, List.getElem?_eq_getElem (by omega)⟩
          obtain ⟨g', off', eg, hg', k0, k1⟩ := h.at_ hy
          simp only [Option.some.injEq, Addr.mk.injEq] at eg
          obtain ⟨rfl, rfl, _⟩ := eg
          obtain ⟨ys, yw⟩ := y
          dsimp only at k0 k1
          have HWJ : Hid (IntKind.i64.wrap ((i : Int) - 1) = (j : Int)) := by show IntKind.i64.wrap ((i : Int) - 1) = (j : Int); rw [IntWalk.i64_in _ (by omega)]; omega
          have hjn : (j : Int) < (n : Int) := by omega
          have hj0 : (0 : Int) ≤ (j : Int) := by omega
          have hgd : decide ((0 : Int) < (i : Int)) = true := decide_eq_true (by omega)
          have hgd' : decide (0 < i) = true := decide_eq_true (by omega)
          have hlast : lastO none (l.take i) = some ys := by
            rw [hj, take_snoc hy]
            unfold lastO
            simp
          have HLAST := Lib.hid hlast
          have HJ := Lib.hid hj
          have HY := Lib.hid hy
          clear hj hi0 hy hlast
          cases hls : Op.bytesLess ys.toList xs.toList
          · go_wp2_with (first | (go_at_call 12; refine (word_any xs _ (by omega) T2).mono ?_; rintro e w3 ⟨rfl, hb3⟩; rw [hwx]; have hbr3 := hR2.trans (hb3.mono hR2.size); have q0 : w3.cell? ⟨rB, 0, none⟩ = some (.int .i64 0) := (Blk.cell (bW.below hbr3 hrl) 0).trans rfl; have q1 : w3.cell? ⟨rB, 1, none⟩ = some (.slice none 0 0) := (Blk.cell (bW.below hbr3 hrl) 1).trans rfl; have q2 := Blk.free (bW.below hbr3 hrl) 0; have q3 := Blk.free (bW.below hbr3 hrl) 1; have p1 := ((hb2.trans (hb3.mono hb2.size)).cell (p := ⟨K, 1, none⟩) (by show K < _; omega)).trans p1; have p0 := (hb3.cell (p := ⟨K, 0, none⟩) (by have := hb2.size; show K < _; omega)).trans p0; have HU3 := Lib.hid hb3) | (go_at_call 11; refine (runes_uni xs _ hxs T1).mono ?_; rintro e w2 ⟨rv, rb, rfl, hb2, hrv, ra, rn, rc, hrs⟩; have T2 := T1.below hb2; have hR2 := hb1.trans (hb2.mono hb1.size); have p0 := (hb2.cell (p := ⟨K, 0, none⟩) (by show K < _; omega)).trans p0))
            have k0' := ((HBW.out.trans (hbr3.mono hbz)).cell (p := ⟨g, off + j * 2, none⟩) hg).trans k0
            have hwj := HWJ.out
            go_quiet ((go_at_call 13; exact Calls.quiet_of_same (by refine (less_any _ _ _).mono ?_; rintro e w1 ⟨rfl, rfl⟩; exact ⟨by rw [hls], rfl⟩)))
            clear hwj
            have hbq := below_drewN (Below.refl w3.heap.size w3) nq
            obtain ⟨W5, hW5⟩ : ∃ W5, w3.drewN nq = W5 := ⟨_, rfl⟩
            rw [hW5] at hbq ⊢
            have hbr5 := hbr3.trans (hbq.mono hbr3.size)
            have r0 : W5.cell? ⟨rB, 0, none⟩ = some (.int .i64 0) := (Blk.cell (bW.below hbr5 hrl) 0).trans rfl
            have r1 : W5.cell? ⟨rB, 1, none⟩ = some (.slice none 0 0) := (Blk.cell (bW.below hbr5 hrl) 1).trans rfl
            have r2 := Blk.free (bW.below hbr5 hrl) 0
            have r3 := Blk.free (bW.below hbr5 hrl) 1
            clear hW5
            go_wp2_with fail
            refine bodyPost_ret (results_cellT rfl _ _ rB rfl _ rfl _ _ (Blk.set2 (bW.below hbr5 hrl)) _ Tryd.underlying25 rfl size_mach) rfl ?_
            refine refused (l := l) ?_ (by decide) (below_set (below_set (HBW.out.trans (hbr5.mono hbz)) (by omega)) (by omega))
            rw [hmany, HERR.out, errF_cons, if_neg (by rw [hwx]; simp), if_neg (by omega), HLAST.out]
            simp [hls]
          · go_wp2_with (first | (go_at_call 12; refine (word_any xs _ (by omega) T2).mono ?_; rintro e w3 ⟨rfl, hb3⟩; rw [hwx]; have hbr3 := hR2.trans (hb3.mono hR2.size); have q0 : w3.cell? ⟨rB, 0, none⟩ = some (.int .i64 0) := (Blk.cell (bW.below hbr3 hrl) 0).trans rfl; have q1 : w3.cell? ⟨rB, 1, none⟩ = some (.slice none 0 0) := (Blk.cell (bW.below hbr3 hrl) 1).trans rfl; have q2 := Blk.free (bW.below hbr3 hrl) 0; have q3 := Blk.free (bW.below hbr3 hrl) 1; have p1 := ((hb2.trans (hb3.mono hb2.size)).cell (p := ⟨K, 1, none⟩) (by show K < _; omega)).trans p1; have p0 := (hb3.cell (p := ⟨K, 0, none⟩) (by have := hb2.size; show K < _; omega)).trans p0; have HU3 := Lib.hid hb3) | (go_at_call 11; refine (runes_uni xs _ hxs T1).mono ?_; rintro e w2 ⟨rv, rb, rfl, hb2, hrv, ra, rn, rc, hrs⟩; have T2 := T1.below hb2; have hR2 := hb1.trans (hb2.mono hb1.size); have p0 := (hb2.cell (p := ⟨K, 0, none⟩) (by show K < _; omega)).trans p0))
            have k0' := ((HBW.out.trans (hbr3.mono hbz)).cell (p := ⟨g, off + j * 2, none⟩) hg).trans k0
            have hwj := HWJ.out
            go_quiet ((go_at_call 13; exact Calls.quiet_of_same (by refine (less_any _ _ _).mono ?_; rintro e w1 ⟨rfl, rfl⟩; exact ⟨by rw [hls], rfl⟩)))
            clear hwj
            have hbq := below_drewN (Below.refl w3.heap.size w3) nq
            obtain ⟨W5, hW5⟩ : ∃ W5, w3.drewN nq = W5 := ⟨_, rfl⟩
            rw [hW5] at hbq ⊢
            have hb35 := hb3.trans (hbq.mono hb3.size)
            have hbr5 := hbr3.trans (hbq.mono hbr3.size)
            have p1 := (hbq.cell (p := ⟨K, 1, none⟩) (by have h1 := hbr3.size; have h2 := hb2.size; have h3 := hb3.size; show K < _; omega)).trans p1
            have own5 : W5.ownsRow W0.heap.size 50 2 u4 q.length (rowR q) := owns_below hown hbr5
            have hrv' := hrv hwx
            obtain ⟨i0, z0, hi0, hz0', hsz0, hby0, hzs0⟩ := info_rest
            have h5s := hbr5.size
            rw [hrs] at hrv'
            clear hW5
            go_wp2_with (at_builtin; refine wpList_append_own_at _ rfl _ _ 43 rfl W0.heap.size 50 i0 z0 2 32 Tryd.underlying43 hi0 hz0' hsz0 hby0 hzs0 (by decide) _ _ _ rfl (own5.alloc _) ⟨W5.heap.size, 0, none⟩ 1 1 _ rfl rfl (World.news_of_block (Blk.alloc_new _ _ _)) (by intro y hy; simp at hy; rcases hy with rfl | rfl <;> rfl) (by unfold maxLen; omega) (by omega) (by simp; omega) ?_; intro v' w1 hown' hgrow hnil hat)
            refine ⟨⟨i + 1, q ++ [⟨runesOf xs, xw, .slice ra rn rc⟩], by first | rfl | congr 1, by omega, BL.next HBL.out HX.out HDR.out ⟨hwx, by show (1 : Int) ≤ xw; omega, by show xw ≤ 1048576; omega, fun y e => by rw [HLAST.out] at e; cases e; exact hls⟩ hR2 hb1.size hrv' hb35 hown' hgrow hat⟩, ?_⟩
            simp [intOf]; omega
    · --EXIT
      have hin : i = n := by omega
      subst hin
      have htl : l.take i = l := List.take_of_length_le (by omega)
      have hq := hBL.rests
      rw [htl] at hq
      have he0 : buildE l = 0 := by
        rw [hmany, hBL.err, List.drop_eq_nil_of_le (by omega)]
        cases lastO none (l.take i) <;> rfl
      have hql : q.length = i := by have := congrArg List.length hq; rw [rw_len] at this; unfold restsF at this; rw [List.length_map] at this; omega
      obtain ⟨a, c, hu4⟩ := owns_shape hBL.row
      have hrow := hBL.row
      have hic := hBL.ints
      rw [hu4] at hrow hic
      by_cases hn0 : i = 0
      · subst hn0
        have hl0 : l = [] := List.eq_nil_of_length_eq_zero hn
        have hend : BuildNew w l (.returned (.tuple #[.agg #[.int .i64 0, .slice none 0 0], .int .i64 0])) ((wr.setCell ⟨rB, 0, none⟩ (.int .i64 0)).setCell ⟨rB, 1, none⟩ (.slice none 0 0)) := by
          subst hl0
          exact ⟨_, rfl, StatesAre.nil _ _, below_set (below_set hbw (by omega)) (by omega)⟩
        have HEND := Lib.hid hend
        rw [hql] at hu4
        have r0 : wr.cell? ⟨rB, 0, none⟩ = some (.int .i64 0) := (Blk.cell bW 0).trans rfl
        have r1 : wr.cell? ⟨rB, 1, none⟩ = some (.slice none 0 0) := (Blk.cell bW 1).trans rfl
        have r2 := Blk.free bW 0
        have r3 := Blk.free bW 1
        clear hend hq hrow hic hBL herr hb he0 hmany
        go_wp2_with fail
        refine bodyPost_ret (results_cellT rfl _ _ rB rfl _ rfl _ _ (Blk.set2 bW) _ Tryd.underlying25 rfl size_mach) rfl ?_
        subst hl0
        exact HEND.out
      · have hqne : q ≠ [] := fun e => by rw [e] at hql; simp at hql; omega
        obtain ⟨L, hLL⟩ : ∃ L, wr.heap.size = L := ⟨_, rfl⟩
        have hrbL : rB < L := by have := hb.size; omega
        obtain ⟨W1, hW1⟩ : ∃ W1, ((wr.alloc (.map #[] 0)).alloc (.map #[] 0)).alloc (.cells #[.slice none 0 0, .map (some L), .map (some (L + 1))] 55) = W1 := ⟨_, rfl⟩
        have hb1 : Below wr.heap.size wr W1 := by rw [← hW1]; exact (two_under _ _ _).alloc (by simp; omega) _
        have hz1 : W1.heap.size = L + 3 := by rw [← hW1]; simp; omega
        have hBok : Bok W1 ⟨L + 2, L, L + 1, .slice none 0 0⟩ [] 0 (fun x => x < L) := by
          refine ⟨[], ⟨fun _ => none, 0⟩, fun _ => none, ⟨?_, ?_, ?_, World.ownsRow_nil _ _ _ _, by show L < L + 2; omega, by show L + 1 < L + 2; omega, by show L ≠ L + 1; omega, by simp⟩, rfl, ⟨by simp, by simp⟩, ⟨by simp, by simp⟩, Nat.le_refl _, by simp⟩
          · rw [← hW1, ← hLL]
            have := Blk.alloc_new ((wr.alloc (.map #[] 0)).alloc (.map #[] 0)) #[.slice none 0 0, .map (some wr.heap.size), .map (some (wr.heap.size + 1))] 55
            simpa using this
          · have h1 := MapG.made (P := Tryd.prog) (k := 102) (κ := Link.v) (ok := Link.ok) wr
            rw [hLL] at h1
            have e1 : L < (wr.alloc (.map #[] 0)).heap.size := by simp; omega
            rw [← hW1]
            exact h1.kept (((Below.heap_alloc _ _ _ (by simp; omega))).trans (Below.heap_alloc _ _ _ e1))
          · have h1 := MapF.made (P := Tryd.prog) (k := 3) (q := .i64) Tryd.underlying3 (wr.alloc (.map #[] 0))
            have e0 : (wr.alloc (.map #[] 0)).heap.size = L + 1 := by simp; omega
            rw [e0] at h1
            rw [← hW1]
            exact h1.kept (Below.heap_alloc _ _ _ (by simp; omega))
        have hOb : ∀ x, Bd.O ⟨L + 2, L, L + 1, .slice none 0 0⟩ x → L ≤ x := fun x hx => by
          rcases hx with rfl | rfl | rfl | hx
          · show L ≤ L + 2; omega
          · exact Nat.le_refl _
          · show L ≤ L + 1; omega
          · exact nomatch hx
        have hR1 : RestsAre (Bd.O ⟨L + 2, L, L + 1, .slice none 0 0⟩) W1 (.slice a q.length c) q := by
          refine rests_own (owns_below hrow hb1) (by omega) (fun x hx ho => ?_) (fun y hy => (hic y hy).turn (Turn.of_below hb1) (fun x hx ho => ?_))
          · have h1 := (hrow.lt x hx).2; have h2 := hOb x ho; omega
          · have h2 := hOb x ho; omega
        have hok := rests_ok he0
        rw [← hq] at hok
        have htot := tot_rests 24 (rw q) hok.len
        rw [rw_len] at htot
        have hstate := state_any 25 ⟨L + 2, L, L + 1, .slice none 0 0⟩ [] 0 (fun x => x < L) _ q W1 (fun x h => by have h' : x < L := h; omega) hBok hR1 hqne hok (by simp only [List.length_nil]; omega) (by omega)
        obtain ⟨⟨S2, t2⟩, hst⟩ : ∃ p, stateF 25 [] (rw q) = p := ⟨_, rfl⟩
        have hS2 := (stateF_len 25 [] (rw q) hok).1
        rw [hst] at hstate hS2
        have hS2b : S2.length ≤ 900000 := by simp only [List.length_nil] at hS2; omega
        obtain ⟨lo, hlo⟩ : ∃ lo, low (rw q) = lo := ⟨_, rfl⟩
        have hbf : buildF l = ((lo, S2), 0) := by
          unfold buildF makeF
          rw [if_pos he0, if_neg (by intro e; rw [e] at hn; simp at hn; omega), ← hq, hst, hlo]
        dsimp only at hstate
        rw [hql] at hstate
        have hq0 : ¬ q.length = 0 := by omega
        have hq0b : ((q.length : Int) == 0) = false := by rw [beq_eq_false_iff_ne]; omega
        have HHS := Lib.hid hstate
        have HBF := Lib.hid hbf
        have HOB := Lib.hid hOb
        have HBW := Lib.hid hbw
        have bR1 := bW.below hb1 (by omega)
        have htab : True := trivial
        clear hstate hbf hOb hBok hrow hic hBL herr hb he0 hmany hq hok hst htot
        have hmk1 : ∀ w : World, (Instr.makeMap 52 none).run Tryd.prog w = .ok (.map (some w.heap.size)) (w.alloc (.map #[] 0)) := fun w => rfl
        have hmk2 : ∀ w : World, (Instr.makeMap 53 none).run Tryd.prog w = .ok (.map (some w.heap.size)) (w.alloc (.map #[] 0)) := fun w => rfl
        go_wp2_with (go_at_call 14; refine HHS.out.mono ?_; rintro e w2 ⟨sv, rfl, hB2, hT2, hO2⟩)
        have hst2 := Bok.states (b := ⟨L + 2, L, L + 1, sv⟩) hB2 (by omega)
        dsimp only at hst2
        obtain ⟨sa, sc, rfl⟩ := hst2.slice
        have hz2 := hT2.size
        have hpl : L + 2 < w2.heap.size := by omega
        have SD0 : w2.cell? ⟨L + 2, 0, none⟩ = some (.slice sa S2.length sc) := by
          obtain ⟨_, _, _, h1, _⟩ := hB2
          exact (Blk.cell h1.blk 0).trans rfl
        have SD : w2.drew.cell? ⟨L + 2, 0, none⟩ = some (.slice sa S2.length sc) := SD0
        obtain ⟨sv, hsv⟩ : ∃ sv, Value.slice sa S2.length sc = sv := ⟨_, rfl⟩
        have hOL : ∀ x, x < L → ¬ Bd.O ⟨L + 2, L, L + 1, .slice none 0 0⟩ x := fun x hx ho => by have := HOB.out x ho; omega
        have bR2 : Blk w2 rB 25 #[.int .i64 0, .slice none 0 0] := hT2.blk bR1 (hOL rB hrbL)
        have hb12 : Below L wr w2 := ⟨hT2.os.trans hb1.os, hT2.tape.trans hb1.tape, hT2.output.trans hb1.output, by omega, fun x hx => (hT2.kept x (by omega) (hOL x hx)).trans (hb1.block x (by omega))⟩
        have hbw2 : Below w.heap.size w w2 := HBW.out.trans (hb12.mono (by have := HBW.out.size; omega))
        have hHLS : ∀ W', Turn (Bd.O ⟨L + 2, L, L + 1, .slice none 0 0⟩) w2 W' → Calls Tryd.prog 15 #[.slice a i c] W' fun e w' => e = .returned (.int .i64 lo) ∧ Below W'.heap.size W' w' := fun W' hT => by
          rw [← hql]
          have hT' := hT2.trans hT (fun _ _ h => h)
          have h1 := least_any (fun _ => False) (.slice a q.length c) q W' (hR1.turn hT' (fun _ _ h => h.elim)) hqne
          rw [show leastF (q.map (·.wt)) = lo by rw [← hlo]; unfold low rw; rw [List.map_map]; rfl] at h1
          exact h1
        have hend : ∀ wA, Below w2.heap.size w2 wA → BuildNew w l (.returned (.tuple #[.agg #[.int .i64 lo, .slice sa S2.length sc], .int .i64 0])) ((wA.setCell ⟨rB, 0, none⟩ (.int .i64 lo)).setCell ⟨rB, 1, none⟩ (.slice sa S2.length sc)) := fun wA hbA => by
          refine ⟨_, by rw [HBF.out], ?_, below_set (below_set (hbw2.trans (hbA.mono hbw2.size)) (by omega)) (by omega)⟩
          rw [HBF.out]
          have hne : ∀ x, x < w2.heap.size → x ≠ rB → ((wA.setCell ⟨rB, 0, none⟩ (.int .i64 lo)).setCell ⟨rB, 1, none⟩ (.slice sa S2.length sc)).heap[x]? = w2.heap[x]? := fun x hx h => (Below.heap_setCell _ _ _ _ (by show x ≠ rB; exact h)).trans ((Below.heap_setCell _ _ _ _ (by show x ≠ rB; exact h)).trans (hbA.block x hx))
          have hTz : Turn (fun x => x = rB) w2 ((wA.setCell ⟨rB, 0, none⟩ (.int .i64 lo)).setCell ⟨rB, 1, none⟩ (.slice sa S2.length sc)) := ⟨by rw [World.size_setCell, World.size_setCell]; exact hbA.size, hbA.os, hbA.tape, hbA.output, hne⟩
          refine StatesAre.turn (O := fun x => x < L) ?_ (hTz.more (fun x _ h => by have h' : x = rB := h; show x < L; omega)) (fun x hx h => by have h' : x < w.heap.size := h; show x < L; omega)
          exact states_off' (S := S2) (b := ⟨L + 2, L, L + 1, .slice sa S2.length sc⟩) hB2 (fun x hx e => by obtain ⟨_, _, _, h1, _⟩ := hB2; have := owns_base h1.own x hx; dsimp only at this; have e' : x < L := e; omega) (by omega)
        rw [hsv] at SD0 SD hend
        have hsl : ∃ a n c, sv = .slice a n c := ⟨_, _, _, hsv.symm⟩
        obtain ⟨sva, svn, svc, rfl⟩ := hsl
        have HLS := Lib.hid hHLS
        have HEND := Lib.hid hend
        clear hend hHLS hsv hB2 hT2 hO2 hst2 hR1 bR1
        go_wp2_with fail
        refine wp_region_noPanic ?_
        refine wp_region_held_drew (S := fun w' => w'.cell? ⟨L + 2, 0, none⟩ = some (.slice sva svn svc)) (by kernel_rfl) SD (fun hHeld => ?_)
        refine wpAnyH_take (i := 0) (v := .slice a i c) rfl (by kernel_rfl) (by kernel_rfl) (by kernel_rfl) (fun _ _ _ h => h) (.inl ⟨by rfl, by intro w hSw; go_simp⟩) hHeld ?_
        simp only [Act.put, List.getElem_toArray, List.getElem_cons_succ, List.getElem_cons_zero, List.setIfInBounds_toArray, List.set_cons_zero, List.set_cons_succ]
        refine wpAnyH_take (i := 2) (v := .pointer (some ⟨L + 2, 0, none⟩)) rfl (by kernel_rfl) (by kernel_rfl) (by kernel_rfl) (fun _ _ _ h => h) (.inl ⟨by rfl, by intro w hSw; go_simp⟩) hHeld ?_
        simp only [Act.put, List.getElem_toArray, List.getElem_cons_succ, List.getElem_cons_zero, List.setIfInBounds_toArray, List.set_cons_zero, List.set_cons_succ]
        refine wpAnyH_ready (rs := [1, 3]) (by kernel_rfl) (by simp) ?_
        refine AllReadyH.cons rfl (fun K hK => ?_) (AllReadyH.cons rfl (fun K hK => ?_) AllReadyH.nil)
        · go_simp
          (go_at_call 15; refine (HLS.out _ (Turn.of_below (Below.refl _ _).drew)).mono ?_; rintro e wA ⟨rfl, hbA⟩)
          try go_wp2_with fail
          have hbA' : Below w2.heap.size w2 wA := (Below.refl _ _).drew.trans hbA
          have SA : wA.cell? ⟨L + 2, 0, none⟩ = some (.slice sva svn svc) := (hbA'.cell (p := ⟨L + 2, 0, none⟩) hpl).trans SD0
          refine hK.out _ _ SA (fun hHeld => ?_)
          clear hK K
          try simp only [Act.put, List.getElem_toArray, List.getElem_cons_succ, List.getElem_cons_zero, List.setIfInBounds_toArray, List.set_cons_zero, List.set_cons_succ]
          refine wpAnyH_ready (rs := [3]) (by kernel_rfl) (by simp) ?_
          refine AllReadyH.cons rfl (fun K hK => ?_) AllReadyH.nil
          go_simp
          refine hK.out _ _ SA (fun hHeld => ?_)
          clear hK K
          try simp only [Act.put, List.getElem_toArray, List.getElem_cons_succ, List.getElem_cons_zero, List.setIfInBounds_toArray, List.set_cons_zero, List.set_cons_succ]
          refine wpAnyH_take (i := 4) (v := .pointer (some ⟨L + 2, 0, none⟩)) rfl (by kernel_rfl) (by kernel_rfl) (by kernel_rfl) (fun _ _ _ h => h) (.inl ⟨by rfl, by intro w hSw; go_simp⟩) hHeld ?_
          simp only [Act.put, List.getElem_toArray, List.getElem_cons_succ, List.getElem_cons_zero, List.setIfInBounds_toArray, List.set_cons_zero, List.set_cons_succ]
          refine wpAnyH_take (i := 5) (v := .slice sva svn svc) rfl (by kernel_rfl) (by kernel_rfl) (by kernel_rfl) (fun _ _ _ h => h) (.inl ⟨by rfl, by intro w hSw; have hx := hSw; go_simp⟩) hHeld ?_
          simp only [Act.put, List.getElem_toArray, List.getElem_cons_succ, List.getElem_cons_zero, List.setIfInBounds_toArray, List.set_cons_zero, List.set_cons_succ]
          refine wpAnyH_take (i := 6) (v := .agg #[.int .i64 lo, .slice sva svn svc]) rfl (by kernel_rfl) (by kernel_rfl) (by kernel_rfl) (fun _ _ _ h => h) (.inl ⟨by rfl, by intro w hSw; go_simp⟩) hHeld ?_
          simp only [Act.put, List.getElem_toArray, List.getElem_cons_succ, List.getElem_cons_zero, List.setIfInBounds_toArray, List.set_cons_zero, List.set_cons_succ]
          have bRA : Blk wA rB 25 #[.int .i64 0, .slice none 0 0] := bR2.below hbA' (by omega)
          have r0 : wA.cell? ⟨rB, 0, none⟩ = some (.int .i64 0) := (Blk.cell bRA 0).trans rfl
          have r1 : wA.cell? ⟨rB, 1, none⟩ = some (.slice none 0 0) := (Blk.cell bRA 1).trans rfl
          have r2 := Blk.free bRA 0
          have r3 := Blk.free bRA 1
          have SZ : ((wA.setCell ⟨rB, 0, none⟩ (.int .i64 lo)).setCell ⟨rB, 1, none⟩ (.slice sva svn svc)).cell? ⟨L + 2, 0, none⟩ = some (.slice sva svn svc) := by
            rw [World.cell?_setCell_far _ _ _ _ (by show rB ≠ L + 2; omega), World.cell?_setCell_far _ _ _ _ (by show rB ≠ L + 2; omega)]
            exact SA
          refine wpAnyH_ready (rs := [7]) (by kernel_rfl) (by simp) ?_
          refine AllReadyH.cons rfl (fun K hK => ?_) AllReadyH.nil
          go_simp
          refine hK.out _ _ SZ (fun hHeld => ?_)
          clear hK K
          try simp only [Act.put, List.getElem_toArray, List.getElem_cons_succ, List.getElem_cons_zero, List.setIfInBounds_toArray, List.set_cons_zero, List.set_cons_succ]
          refine wpAnyH_ready (rs := [8]) (by kernel_rfl) (by simp) ?_
          refine AllReadyH.cons rfl (fun K hK => ?_) AllReadyH.nil
          go_simp
          refine hK.out _ _ SZ (fun hHeld => ?_)
          clear hK K
          try simp only [Act.put, List.getElem_toArray, List.getElem_cons_succ, List.getElem_cons_zero, List.setIfInBounds_toArray, List.set_cons_zero, List.set_cons_succ]
          refine wpAnyH_done (by kernel_rfl) ?_ _
          refine NoPanic.normal ?_
          go_wp2_with fail
          refine bodyPost_ret (results_cellT rfl _ _ rB rfl _ rfl _ _ (Blk.set2 bRA) _ Tryd.underlying25 rfl size_mach) rfl ?_
          exact HEND.out wA hbA'
        · go_simp
          refine hK.out _ _ SD (fun hHeld => ?_)
          clear hK K
          try simp only [Act.put, List.getElem_toArray, List.getElem_cons_succ, List.getElem_cons_zero, List.setIfInBounds_toArray, List.set_cons_zero, List.set_cons_succ]
          refine wpAnyH_take (i := 4) (v := .pointer (some ⟨L + 2, 0, none⟩)) rfl (by kernel_rfl) (by kernel_rfl) (by kernel_rfl) (fun _ _ _ h => h) (.inl ⟨by rfl, by intro w hSw; go_simp⟩) hHeld ?_
          simp only [Act.put, List.getElem_toArray, List.getElem_cons_succ, List.getElem_cons_zero, List.setIfInBounds_toArray, List.set_cons_zero, List.set_cons_succ]
          refine wpAnyH_take (i := 5) (v := .slice sva svn svc) rfl (by kernel_rfl) (by kernel_rfl) (by kernel_rfl) (fun _ _ _ h => h) (.inl ⟨by rfl, by intro w hSw; have hx := hSw; go_simp⟩) hHeld ?_
          simp only [Act.put, List.getElem_toArray, List.getElem_cons_succ, List.getElem_cons_zero, List.setIfInBounds_toArray, List.set_cons_zero, List.set_cons_succ]
          refine wpAnyH_ready (rs := [1]) (by kernel_rfl) (by simp) ?_
          refine AllReadyH.cons rfl (fun K hK => ?_) AllReadyH.nil
          go_simp
          (go_at_call 15; refine (HLS.out _ (Turn.of_below (Below.refl _ _).drew)).mono ?_; rintro e wA ⟨rfl, hbA⟩)
          try go_wp2_with fail
          have hbA' : Below w2.heap.size w2 wA := (Below.refl _ _).drew.trans hbA
          have SA : wA.cell? ⟨L + 2, 0, none⟩ = some (.slice sva svn svc) := (hbA'.cell (p := ⟨L + 2, 0, none⟩) hpl).trans SD0
          refine hK.out _ _ SA (fun hHeld => ?_)
          clear hK K
          try simp only [Act.put, List.getElem_toArray, List.getElem_cons_succ, List.getElem_cons_zero, List.setIfInBounds_toArray, List.set_cons_zero, List.set_cons_succ]
          refine wpAnyH_take (i := 6) (v := .agg #[.int .i64 lo, .slice sva svn svc]) rfl (by kernel_rfl) (by kernel_rfl) (by kernel_rfl) (fun _ _ _ h => h) (.inl ⟨by rfl, by intro w hSw; go_simp⟩) hHeld ?_
          simp only [Act.put, List.getElem_toArray, List.getElem_cons_succ, List.getElem_cons_zero, List.setIfInBounds_toArray, List.set_cons_zero, List.set_cons_succ]
          have bRA : Blk wA rB 25 #[.int .i64 0, .slice none 0 0] := bR2.below hbA' (by omega)
          have r0 : wA.cell? ⟨rB, 0, none⟩ = some (.int .i64 0) := (Blk.cell bRA 0).trans rfl
          have r1 : wA.cell? ⟨rB, 1, none⟩ = some (.slice none 0 0) := (Blk.cell bRA 1).trans rfl
          have r2 := Blk.free bRA 0
          have r3 := Blk.free bRA 1
          have SZ : ((wA.setCell ⟨rB, 0, none⟩ (.int .i64 lo)).setCell ⟨rB, 1, none⟩ (.slice sva svn svc)).cell? ⟨L + 2, 0, none⟩ = some (.slice sva svn svc) := by
            rw [World.cell?_setCell_far _ _ _ _ (by show rB ≠ L + 2; omega), World.cell?_setCell_far _ _ _ _ (by show rB ≠ L + 2; omega)]
            exact SA
          refine wpAnyH_ready (rs := [7]) (by kernel_rfl) (by simp) ?_
          refine AllReadyH.cons rfl (fun K hK => ?_) AllReadyH.nil
          go_simp
          refine hK.out _ _ SZ (fun hHeld => ?_)
          clear hK K
          try simp only [Act.put, List.getElem_toArray, List.getElem_cons_succ, List.getElem_cons_zero, List.setIfInBounds_toArray, List.set_cons_zero, List.set_cons_succ]
          refine wpAnyH_ready (rs := [8]) (by kernel_rfl) (by simp) ?_
          refine AllReadyH.cons rfl (fun K hK => ?_) AllReadyH.nil
          go_simp
          refine hK.out _ _ SZ (fun hHeld => ?_)
          clear hK K
          try simp only [Act.put, List.getElem_toArray, List.getElem_cons_succ, List.getElem_cons_zero, List.setIfInBounds_toArray, List.set_cons_zero, List.set_cons_succ]
          refine wpAnyH_done (by kernel_rfl) ?_ _
          refine NoPanic.normal ?_
          go_wp2_with fail
          refine bodyPost_ret (results_cellT rfl _ _ rB rfl _ rfl _ _ (Blk.set2 bRA) _ Tryd.underlying25 rfl size_mach) rfl ?_
          exact HEND.out wA hbA'
theorem build_any (v : Value) (l : List Wd) (w : World) (h : PairsIn w v l) (T : Tab w) : Calls Tryd.prog 4 #[v] w (BuildIs w l) := (build_new v l w h T).mono fun _ _ h => h.is
end Go.Proofs.YtkibkbbjpgomlaaDoor.F
