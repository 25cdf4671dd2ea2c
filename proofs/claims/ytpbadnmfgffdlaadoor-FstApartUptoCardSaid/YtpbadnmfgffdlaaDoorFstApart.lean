/-
  FstApart, as a call: it answers true.
-/
import Derived.Test.YtpbadnmfgffdlaaDoorFstSameS
import Derived.StillTailTactics
namespace Go.Proofs.YtpbadnmfgffdlaaDoor.F
open Go.RowKit Go.Shelf Go.Maps
open Aid L LM
set_option linter.unusedSimpArgs false
set_option linter.unusedVariables false
attribute [local go_sem] Oper.semAt_some

set_option maxRecDepth 100000 in
set_option maxHeartbeats 4000000 in
theorem apart_law (v : Value) (l : List Wd) (w : World) (h : PairsIn w v l) (T : Tab w) : Calls Tryd.prog 6 #[v] w fun e w' => e = .returned (.bool true) ∧ Below w.heap.size w w' := by
  have hbuild := build_any v l w h T
  by_cases he : buildE l = 0
  · obtain ⟨hinv, hnd, hrise⟩ := make_ok l he
    unfold BuildIs at hbuild
    rw [build_ok he] at hbuild
    obtain ⟨⟨B, S⟩, hm⟩ : ∃ p, makeF l = p := ⟨_, rfl⟩
    rw [hm] at hbuild hinv hnd hrise
    dsimp only at hbuild hinv hnd hrise
    have HBD := Lib.hid hbuild
    have HINV := Lib.hid hinv
    have HND := Lib.hid hnd
    have HRS := Lib.hid hrise
    obtain ⟨fw, hfw⟩ : ∃ fw, decide (l.length ≤ 300 ∨ 4096 < l.length) = fw := ⟨_, rfl⟩
    have HFW := Lib.hid (fun (W : World) (hb : Below w.heap.size w W) => (by have := few_any l v W (h.below hb); rw [hfw] at this; exact this : Calls Tryd.prog 11 #[v] W fun e w' => e = .returned (.bool fw) ∧ W = w'))
    clear hbuild hinv hnd hrise he hm h hfw
    go_enter Tryd.func6, Tryd.ntmps6
    go_upto_region 2 with (go_at_call 13; refine HBD.out.mono ?_; rintro e w2 ⟨sv, rfl, hSt, hb2⟩; obtain ⟨sa, sc, rfl⟩ := hSt.slice)
    obtain ⟨N, hN⟩ : ∃ N, S.length = N := ⟨_, rfl⟩
    obtain ⟨W0, hW0⟩ : ∃ W0, w2.alloc (.cells #[.int .i64 B, .slice sa S.length sc] 27) = W0 := ⟨_, rfl⟩
    have hb0 : Below w2.heap.size w2 W0 := by rw [← hW0]; exact (Below.refl _ _).alloc (Nat.le_refl _) _
    have bM : Blk W0 w2.heap.size 27 #[.int .i64 B, .slice sa S.length sc] := by rw [← hW0]; exact Blk.alloc_new _ _ _
    have hSt0 := hSt.below hb0
    have hbw0 : Below w.heap.size w W0 := hb2.trans (hb0.mono hb2.size)
    have hNl := hSt.len
    obtain ⟨Q, hQ⟩ : ∃ Q, w2.heap.size = Q := ⟨_, rfl⟩
    rw [hN] at hSt0 bM hNl hW0
    rw [hQ] at bM
    have m1 : W0.cell? ⟨Q, 1, none⟩ = some (.slice sa N sc) := (Blk.cell bM 1).trans rfl
    have T0 := T.below hbw0
    try rw [hN]
    try rw [hW0]
    try rw [hQ]
    have HT0 := Lib.hid T0
    have HST := Lib.hid hSt0
    have HBW := Lib.hid hbw0
    clear hSt hSt0 hbw0 hb0 T0 hb2
    cases fw
    · go_wp2_with (first | (go_at_call 12; refine (alive_any _ HT0.out).mono ?_; rintro e w4 ⟨rfl, hb4⟩) | (go_at_call 11; refine (HFW.out _ HBW.out).mono ?_; rintro e w3 ⟨rfl, rfl⟩))
      go_ret
      exact ⟨rfl, HBW.out.trans (hb4.mono HBW.out.size)⟩
    go_wp2_with (go_at_call 11; refine (HFW.out _ HBW.out).mono ?_; rintro e w3 ⟨rfl, rfl⟩)
    go_loopw [5, 6, 7, 8, 9, 26] (fun x5 x6 x7 x8 x9 x26 wr => ∃ i : Nat, x26 = .int .i64 i ∧ i ≤ N ∧ Below W0.heap.size W0 wr) (fun _ _ _ _ _ x26 _ => N - (intOf x26).toNat)
    case atStart => exact ⟨0, rfl, Nat.zero_le _, Below.refl _ _⟩
    case round =>
      rename World => wa
      obtain ⟨i, rfl, hi, hb⟩ := hrel
      by_cases hlt : (i : Int) < (N : Int)
      · obtain ⟨s, hs⟩ : ∃ s, S[i]? = some s := ⟨_, List.getElem?_eq_getElem (by omega)⟩
        have hinv := HINV.out i s hs
        have hrise := HRS.out s (List.mem_of_getElem? hs)
        have hHS := Lib.hid hs
        obtain ⟨g, off, u, rfl, hg, _, c0, c1, c2, hu⟩ := HST.out.at_ hs
        obtain ⟨ua, uc, rfl⟩ := hu.slice
        obtain ⟨n, hn⟩ : ∃ n, s.arcs.length = n := ⟨_, rfl⟩
        have hnl : n ≤ 1000000 := by obtain ⟨_, _, _, h, _⟩ := hu; omega
        rw [hn] at hu c2
        obtain ⟨fin, out, arcs⟩ := s
        dsimp only at *
        have hbz := hb.size
        have d0 := (hb.cell (p := ⟨g, off + i * 3, none⟩) hg).trans c0
        have d1 := (hb.cell (p := ⟨g, off + i * 3 + 1, none⟩) hg).trans c1
        have d2 := (hb.cell (p := ⟨g, off + i * 3 + 2, none⟩) hg).trans c2
        have hdc := three_cells d0 d1 d2
        obtain ⟨K, hK⟩ : ∃ K, wa.heap.size = K := ⟨_, rfl⟩
        obtain ⟨W1, hW1⟩ : ∃ W1, wa.alloc (.cells #[.bool fin, .int .i64 out, .slice ua n uc] 43) = W1 := ⟨_, rfl⟩
        have hb1 : Below wa.heap.size wa W1 := by rw [← hW1]; exact (Below.refl _ _).alloc (Nat.le_refl _) _
        have hz1 : W1.heap.size = K + 1 := by rw [← hW1, ← hK]; simp
        have bK : Blk W1 K 43 #[.bool fin, .int .i64 out, .slice ua n uc] := by rw [← hW1, ← hK]; exact Blk.alloc_new _ _ _
        have hb01 : Below W0.heap.size W0 W1 := hb.trans (hb1.mono hb.size)
        have hQl := bM.lt
        have i0 : (0 : Int) ≤ (i : Int) := by omega
        have HINV1 := Lib.hid hinv
        have HRS1 := Lib.hid hrise
        have HU := Lib.hid hu
        have HB01 := Lib.hid hb01
        clear hb1 c0 c1 c2 hinv hrise hs hu hb01
        go_wp2_with fail
        go_loopw [7, 32] (fun x7 x32 wr => ∃ k : Nat, x32 = .int .i64 k ∧ k ≤ i ∧ Below W1.heap.size W1 wr) (fun _ x32 _ => i - (intOf x32).toNat)
        case atStart => exact ⟨0, rfl, Nat.zero_le _, Below.refl _ _⟩
        case round =>
          rename World => wb
          obtain ⟨k, rfl, hk, hbk⟩ := hrel
          have hbkz := hbk.size
          have hb0k : Below W0.heap.size W0 wb := HB01.out.trans (hbk.mono (by have := HB01.out.size; omega))
          have r0 : wb.cell? ⟨K, 0, none⟩ = some (.bool fin) := (Blk.cell (bK.below hbk (by omega)) 0).trans rfl
          have r1 : wb.cell? ⟨K, 1, none⟩ = some (.int .i64 out) := (Blk.cell (bK.below hbk (by omega)) 1).trans rfl
          have r2 : wb.cell? ⟨K, 2, none⟩ = some (.slice ua n uc) := (Blk.cell (bK.below hbk (by omega)) 2).trans rfl
          have r1' : wb.cell? ⟨K, 0 + 1, none⟩ = some (.int .i64 out) := r1
          by_cases hki : (k : Int) < (i : Int)
          · have hm1 : wb.cell? ⟨Q, 1, none⟩ = some (.slice (some ⟨g, off, none⟩) N sc) := (Blk.cell (bM.below hb0k hQl) 1).trans rfl
            obtain ⟨s', hs'⟩ : ∃ s, S[k]? = some s := ⟨_, List.getElem?_eq_getElem (by omega)⟩
            obtain ⟨g', off', u', eg, hg', _, c0, c1, c2, hu'⟩ := HST.out.at_ hs'
            simp only [Option.some.injEq, Addr.mk.injEq] at eg
            obtain ⟨rfl, rfl, _⟩ := eg
            obtain ⟨ua', uc', rfl⟩ := hu'.slice
            obtain ⟨n', hn'⟩ : ∃ n, s'.arcs.length = n := ⟨_, rfl⟩
            rw [hn'] at hu' c2
            have hne : ¬ (⟨fin, out, arcs⟩ : StM) = s' := fun e => by
              subst e
              have h1 := (List.getElem?_eq_some_iff.1 hHS.out)
              have h2 := (List.getElem?_eq_some_iff.1 hs')
              obtain ⟨h1a, h1b⟩ := h1
              obtain ⟨h2a, h2b⟩ := h2
              have := (List.nodup_iff_pairwise_ne.1 HND.out)
              have h3 := List.pairwise_iff_getElem.1 this k i h2a h1a (by omega)
              exact h3 (h2b.trans h1b.symm)
            obtain ⟨fin', out', arcs'⟩ := s'
            dsimp only at *
            have e0 := (hb0k.cell (p := ⟨g, off + k * 3, none⟩) hg).trans c0
            have e1 := (hb0k.cell (p := ⟨g, off + k * 3 + 1, none⟩) hg).trans c1
            have e2 := (hb0k.cell (p := ⟨g, off + k * 3 + 2, none⟩) hg).trans c2
            have hec := three_cells e0 e1 e2
            have hrc := Blk.cells (bK.below hbk (by omega))
            have j0 : (0 : Int) ≤ (k : Int) := by omega
            have j1 : (k : Int) < (N : Int) := by omega
            have hsame := sameS_any (fun _ => False) (fun _ => False) ⟨fin, out, arcs⟩ ⟨fin', out', arcs'⟩ (.slice ua n uc) (.slice ua' n' uc') wb.drew ((HU.out.turn (Turn.of_below hb0k) (fun _ _ h => h)).turn (Turn.of_below (Below.refl _ _).drew) (fun _ _ h => h)) ((hu'.turn (Turn.of_below hb0k) (fun _ _ h => h)).turn (Turn.of_below (Below.refl _ _).drew) (fun _ _ h => h))
            rw [decide_eq_false hne] at hsame
            unfold stV at hsame
            dsimp only at hsame
            have HSM := Lib.hid hsame
            have HBK := Lib.hid hbk
            clear hsame hne hu' hs' c0 c1 c2 hbk hb0k
            go_wp2_with fail
            go_still_tail 6, (by kernel_rfl)
            change wpList _ _ _ _ _ wb.drew
            go_wp2_with (go_at_call 19; refine HSM.out.mono ?_; rintro e wc ⟨rfl, hbc⟩)
            refine ⟨⟨k + 1, by first | rfl | congr 1, by omega, HBK.out.trans (((Below.refl _ _).drew.trans hbc).mono hbkz)⟩, ?_⟩
            simp [intOf]; omega
          · have hki' : k = i := by omega
            have HB0K := Lib.hid hb0k
            have HBK := Lib.hid hbk
            have bKb := bK.below hbk (by omega)
            have hKl := bKb.lt
            clear hb0k hbk r0 r1 r1'
            go_wp2_with fail
            go_loopw [8, 9, 46] (fun x8 x9 x46 wr => ∃ j : Nat, x46 = .int .i64 j ∧ j ≤ n ∧ Below wb.heap.size wb wr) (fun _ _ x46 _ => n - (intOf x46).toNat)
            case atStart => exact ⟨0, rfl, Nat.zero_le _, Below.refl _ _⟩
            case round =>
              obtain ⟨j, rfl, hj, hbj⟩ := hrel
              have hbjz := hbj.size
              by_cases hjn : (j : Int) < (n : Int)
              · obtain ⟨x, hx⟩ : ∃ x, arcs[j]? = some x := ⟨_, List.getElem?_eq_getElem (by omega)⟩
                obtain ⟨ga, offa, ea, hga, _, hca⟩ := HU.out.at_ hx
                subst ea
                have hto := HINV1.out x (List.mem_of_getElem? hx)
                obtain ⟨la, ou, tt⟩ := x
                dsimp only at hto
                have hb0j : Below W0.heap.size W0 wr := HB0K.out.trans (hbj.mono HB0K.out.size)
                have e0 : wr.cell? ⟨ga, offa + j * 3, none⟩ = some (.int .i32 la) := (hb0j.cell (p := ⟨ga, offa + j * 3, none⟩) hga).trans (hca 0 (by show 0 < 3; omega))
                have e1 : wr.cell? ⟨ga, offa + j * 3 + 1, none⟩ = some (.int .i64 ou) := (hb0j.cell (p := ⟨ga, offa + j * 3 + 1, none⟩) hga).trans (hca 1 (by show 1 < 3; omega))
                have e2 : wr.cell? ⟨ga, offa + j * 3 + 2, none⟩ = some (.int .i64 tt) := (hb0j.cell (p := ⟨ga, offa + j * 3 + 2, none⟩) hga).trans (hca 2 (by show 2 < 3; omega))
                have hec := three_cells e0 e1 e2
                obtain ⟨K2, hK2⟩ : ∃ K2, wr.heap.size = K2 := ⟨_, rfl⟩
                obtain ⟨W5, hW5⟩ : ∃ W5, wr.alloc (.cells #[.int .i32 la, .int .i64 ou, .int .i64 tt] 46) = W5 := ⟨_, rfl⟩
                have hb5 : Below wr.heap.size wr W5 := by rw [← hW5]; exact (Below.refl _ _).alloc (Nat.le_refl _) _
                have bK2 : Blk W5 K2 46 #[.int .i32 la, .int .i64 ou, .int .i64 tt] := by rw [← hW5, ← hK2]; exact Blk.alloc_new _ _ _
                have p0 : W5.cell? ⟨K2, 0, none⟩ = some (.int .i32 la) := (Blk.cell bK2 0).trans rfl
                have p2 : W5.cell? ⟨K2, 2, none⟩ = some (.int .i64 tt) := (Blk.cell bK2 2).trans rfl
                have bKj := (bKb.below hbj hKl).below hb5 (by omega)
                have s2 : W5.cell? ⟨K, 2, none⟩ = some (.slice (some ⟨ga, offa, none⟩) n uc) := (Blk.cell bKj 2).trans rfl
                have hbj5 : Below wb.heap.size wb W5 := hbj.trans (hb5.mono hbjz)
                have dt1 : decide (tt < 0) = false := decide_eq_false (by omega)
                have dt2 : decide ((i : Int) ≤ tt) = false := decide_eq_false (by omega)
                have j0 : (0 : Int) ≤ (j : Int) := by omega
                have HBJ5 := Lib.hid hbj5
                by_cases hj0 : j = 0
                · have dg : decide ((0 : Int) < (j : Int)) = false := decide_eq_false (by omega)
                  have dg' : decide (0 < j) = false := decide_eq_false (by omega)
                  have HJ0 := Lib.hid hj0
                  clear hj0 hb0j hca hbj hb5 hbj5 hx
                  go_wp2_with fail
                  go_quiet (fail)
                  go_wp2_with fail
                  refine ⟨⟨j + 1, by first | rfl | congr 1, by omega, below_drewN HBJ5.out _⟩, ?_⟩
                  simp [intOf]; omega
                · obtain ⟨m, hm⟩ : ∃ m, j = m + 1 := ⟨j - 1, by omega⟩
                  obtain ⟨y, hy⟩ : ∃ y, arcs[m]? = some y := ⟨_, List.getElem?_eq_getElem (by omega)⟩
                  obtain ⟨ga', offa', ea', hga', _, hca'⟩ := HU.out.at_ hy
                  simp only [Option.some.injEq, Addr.mk.injEq] at ea'
                  obtain ⟨rfl, rfl, _⟩ := ea'
                  have hlab : y.label < la := by
                    obtain ⟨h1a, h1b⟩ := List.getElem?_eq_some_iff.1 hx
                    obtain ⟨h2a, h2b⟩ := List.getElem?_eq_some_iff.1 hy
                    have h3 := List.pairwise_iff_getElem.1 (show arcs.Pairwise (fun a b => a.label < b.label) from HRS1.out) m j h2a h1a (by omega)
                    rw [h1b, h2b] at h3
                    exact h3
                  obtain ⟨lp, op, tp⟩ := y
                  dsimp only at hlab
                  have f0 : W5.cell? ⟨ga, offa + m * 3, none⟩ = some (.int .i32 lp) := ((hb0j.trans (hb5.mono hb0j.size)).cell (p := ⟨ga, offa + m * 3, none⟩) hga).trans (hca' 0 (by show 0 < 3; omega))
                  have HWM : Hid (IntKind.i64.wrap ((j : Int) - 1) = (m : Int)) := by show IntKind.i64.wrap ((j : Int) - 1) = (m : Int); rw [IntWalk.i64_in _ (by omega)]; omega
                  have dg : decide ((0 : Int) < (j : Int)) = true := decide_eq_true (by omega)
                  have dg' : decide (0 < j) = true := decide_eq_true (by omega)
                  have dl : decide (la ≤ lp) = false := decide_eq_false (by omega)
                  have m0 : (0 : Int) ≤ (m : Int) := by omega
                  have m1 : (m : Int) < (n : Int) := by omega
                  have HM := Lib.hid hm
                  clear hj0 hb0j hca hbj hb5 hbj5 hx hy hca' hm
                  go_wp2_with fail
                  have hwm := HWM.out
                  go_quiet (fail)
                  clear hwm
                  go_wp2_with fail
                  refine ⟨⟨j + 1, by first | rfl | congr 1, by omega, below_drewN HBJ5.out _⟩, ?_⟩
                  simp [intOf]; omega
              · have hbz2 := HB0K.out.size
                go_wp2_with fail
                refine ⟨⟨i + 1, by first | rfl | congr 1, by omega, HB0K.out.trans (hbj.mono hbz2)⟩, ?_⟩
                simp [intOf]; omega
      · have hT1 := HT0.out.below hb
        go_wp2_with (go_at_call 12; refine (alive_any _ hT1).mono ?_; rintro e w4 ⟨rfl, hb4⟩)
        go_ret
        exact ⟨rfl, HBW.out.trans ((hb.trans (hb4.mono hb.size)).mono HBW.out.size)⟩
  · have herr := build_err he
    unfold BuildIs at hbuild
    rw [herr] at hbuild
    dsimp only at hbuild
    obtain ⟨E, hE⟩ : ∃ E, buildE l = E := ⟨_, rfl⟩
    rw [hE] at hbuild he
    have heb : (E == 0) = false := by rw [beq_eq_false_iff_ne]; exact he
    have heb' : (E != 0) = true := by rw [bne_iff_ne]; exact he
    have HBD := Lib.hid hbuild
    clear hbuild h herr
    go_enter Tryd.func6, Tryd.ntmps6
    go_wp2_with (first | (go_at_call 12; refine (alive_any _ (T.below hb3)).mono ?_; rintro e w4 ⟨rfl, hb4⟩) | (go_at_call 13; refine HBD.out.mono ?_; rintro e w2 ⟨sv, rfl, hSt, hb2⟩; obtain ⟨sa, sc, rfl⟩ := hSt.slice; have hb3 := hb2.alloc hb2.size (.cells #[.int .i64 0, .slice sa ([] : List StM).length sc] 27)))
    go_ret
    exact ⟨rfl, hb3.trans (hb4.mono hb3.size)⟩
end Go.Proofs.YtpbadnmfgffdlaaDoor.F
