/-
  FstLevel, as a call: it answers true.
-/
import Derived.Test.YtpbadnmfgffdlaaDoorFstAlive
import Derived.Test.YtpbadnmfgffdlaaDoorFstLawN
namespace Go.Proofs.YtpbadnmfgffdlaaDoor.F
open Go.RowKit Go.Shelf Go.Maps
open Aid L LM
set_option linter.unusedSimpArgs false
set_option linter.unusedVariables false

/-- what Build's answer is, split -/
theorem build_err {l : List Wd} (h : buildE l ≠ 0) : buildF l = ((0, []), buildE l) := by unfold buildF; rw [if_neg h]
theorem build_ok {l : List Wd} (h : buildE l = 0) : buildF l = (makeF l, 0) := by unfold buildF; rw [if_pos h]
theorem three_cells {w : World} {g o : Nat} {a b c : Value} (h0 : w.cell? ⟨g, o, none⟩ = some a) (h1 : w.cell? ⟨g, o + 1, none⟩ = some b) (h2 : w.cell? ⟨g, o + 2, none⟩ = some c) : ∀ j (hj : j < (#[a, b, c] : Array Value).size), w.cell? ⟨g, o + j, none⟩ = some (#[a, b, c] : Array Value)[j]
  | 0, _ => h0
  | 1, _ => h1
  | 2, _ => h2
set_option maxRecDepth 100000 in
set_option maxHeartbeats 4000000 in
theorem level_law (v : Value) (l : List Wd) (w : World) (h : PairsIn w v l) (T : Tab w) : Calls Tryd.prog 7 #[v] w fun e w' => e = .returned (.bool true) ∧ Below w.heap.size w w' := by
  have hbuild := build_any v l w h T
  by_cases he : buildE l = 0
  · have hlev := make_level l he
    unfold BuildIs at hbuild
    rw [build_ok he] at hbuild
    obtain ⟨⟨B, S⟩, hm⟩ : ∃ p, makeF l = p := ⟨_, rfl⟩
    rw [hm] at hbuild hlev
    dsimp only at hbuild hlev
    have HBD := Lib.hid hbuild
    have HLV := Lib.hid hlev
    clear hbuild hlev he hm h
    go_enter Tryd.func7, Tryd.ntmps7
    go_upto_region 4 with (go_at_call 13; refine HBD.out.mono ?_; rintro e w2 ⟨sv, rfl, hSt, hb2⟩; obtain ⟨sa, sc, rfl⟩ := hSt.slice)
    obtain ⟨N, hN⟩ : ∃ N, S.length = N := ⟨_, rfl⟩
    obtain ⟨W0, hW0⟩ : ∃ W0, w2.alloc (.cells #[.int .i64 B, .slice sa S.length sc] 27) = W0 := ⟨_, rfl⟩
    have hb0 : Below w2.heap.size w2 W0 := by rw [← hW0]; exact (Below.refl _ _).alloc (Nat.le_refl _) _
    have bM : Blk W0 w2.heap.size 27 #[.int .i64 B, .slice sa S.length sc] := by rw [← hW0]; exact Blk.alloc_new _ _ _
    have hSt0 := hSt.below hb0
    have hbw0 : Below w.heap.size w W0 := hb2.trans (hb0.mono hb2.size)
    have hNl := hSt.len
    obtain ⟨Q, hQ⟩ : ∃ Q, w2.heap.size = Q := ⟨_, rfl⟩
    rw [hN] at hSt0 bM hNl hW0
    rw [hQ] at bM
    have m1 : W0.cell? ⟨Q, 1, none⟩ = some (.slice sa N sc) := (Blk.cell bM 1).trans rfl
    have T0 := T.below hbw0
    try rw [hN]
    try rw [hW0]
    try rw [hQ]
    have HT0 := Lib.hid T0
    have HST := Lib.hid hSt0
    have HBW := Lib.hid hbw0
    clear hSt hSt0 hbw0 hb0 bM T0 hb2
    go_wp2_with fail
    go_loopw [6, 7, 9, 21] (fun x6 x7 x9 x21 wr => ∃ i : Nat, x21 = .int .i64 i ∧ i ≤ N ∧ Below W0.heap.size W0 wr) (fun _ _ _ x21 _ => N - (intOf x21).toNat)
    case atStart => exact ⟨0, rfl, Nat.zero_le _, Below.refl _ _⟩
    case round =>
      rename World => wa
      obtain ⟨i, rfl, hi, hb⟩ := hrel
      by_cases hlt : (i : Int) < (N : Int)
      · obtain ⟨s, hs⟩ : ∃ s, S[i]? = some s := ⟨_, List.getElem?_eq_getElem (by omega)⟩
        have hlv := HLV.out s (List.mem_of_getElem? hs)
        obtain ⟨g, off, u, rfl, hg, _, c0, c1, c2, hu⟩ := HST.out.at_ hs
        obtain ⟨ua, uc, rfl⟩ := hu.slice
        obtain ⟨n, hn⟩ : ∃ n, s.arcs.length = n := ⟨_, rfl⟩
        have hnl : n ≤ 1000000 := by obtain ⟨_, _, _, h, _⟩ := hu; omega
        rw [hn] at hu c2
        obtain ⟨fin, out, arcs⟩ := s
        dsimp only at *
        have hbz := hb.size
        have d0 := (hb.cell (p := ⟨g, off + i * 3, none⟩) hg).trans c0
        have d1 := (hb.cell (p := ⟨g, off + i * 3 + 1, none⟩) hg).trans c1
        have d2 := (hb.cell (p := ⟨g, off + i * 3 + 2, none⟩) hg).trans c2
        have hdc := three_cells d0 d1 d2
        obtain ⟨K, hK⟩ : ∃ K, wa.heap.size = K := ⟨_, rfl⟩
        obtain ⟨W1, hW1⟩ : ∃ W1, wa.alloc (.cells #[.bool fin, .int .i64 out, .slice ua n uc] 43) = W1 := ⟨_, rfl⟩
        have hb1 : Below wa.heap.size wa W1 := by rw [← hW1]; exact (Below.refl _ _).alloc (Nat.le_refl _) _
        have hz1 : W1.heap.size = K + 1 := by rw [← hW1, ← hK]; simp
        have bK : Blk W1 K 43 #[.bool fin, .int .i64 out, .slice ua n uc] := by rw [← hW1, ← hK]; exact Blk.alloc_new _ _ _
        have p0 : W1.cell? ⟨K, 0, none⟩ = some (.bool fin) := (Blk.cell bK 0).trans rfl
        have p1 : W1.cell? ⟨K, 1, none⟩ = some (.int .i64 out) := (Blk.cell bK 1).trans rfl
        have p2 : W1.cell? ⟨K, 2, none⟩ = some (.slice ua n uc) := (Blk.cell bK 2).trans rfl
        have i0 : (0 : Int) ≤ (i : Int) := by omega
        have HB1 := Lib.hid hb1
        clear hb1 c0 c1 c2 bK
        cases fin
        · have hlv' : leastU (1099511627776 : Int) (arcs.map (·.out)) = 0 := hlv
          have HLV' := Lib.hid hlv'
          clear hlv hlv'
          go_wp2_with fail
          go_loopw [7, 9, 32] (fun x7 x9 x32 wr => ∃ k : Nat, x32 = .int .i64 k ∧ k ≤ n ∧ x7 = .int .i64 (leastU (1099511627776 : Int) ((arcs.map (·.out)).take k)) ∧ Below W1.heap.size W1 wr) (fun _ _ x32 _ => n - (intOf x32).toNat)
          case atStart => exact ⟨0, rfl, Nat.zero_le _, rfl, Below.refl _ _⟩
          case round =>
            obtain ⟨k, rfl, hk, rfl, hbk⟩ := hrel
            by_cases hkn : (k : Int) < (n : Int)
            · obtain ⟨a, ha⟩ : ∃ a, arcs[k]? = some a := ⟨_, List.getElem?_eq_getElem (by omega)⟩
              obtain ⟨ga, offa, ea, hga, _, hca⟩ := hu.at_ ha
              subst ea
              obtain ⟨la, ou, tt⟩ := a
              have hgaw : ga < W1.heap.size := by omega
              have hbka : Below W0.heap.size W0 wr := (hb.trans (HB1.out.mono hb.size)).trans (hbk.mono (by omega))
              have e0 := (hbka.cell (p := ⟨ga, offa + k * 3, none⟩) hga).trans (hca 0 (by show 0 < 3; omega))
              have e1 := (hbka.cell (p := ⟨ga, offa + k * 3 + 1, none⟩) hga).trans (hca 1 (by show 1 < 3; omega))
              have e2 := (hbka.cell (p := ⟨ga, offa + k * 3 + 2, none⟩) hga).trans (hca 2 (by show 2 < 3; omega))
              replace e0 : wr.cell? ⟨ga, offa + k * 3, none⟩ = some (.int .i32 la) := e0
              replace e1 : wr.cell? ⟨ga, offa + k * 3 + 1, none⟩ = some (.int .i64 ou) := e1
              replace e2 : wr.cell? ⟨ga, offa + k * 3 + 2, none⟩ = some (.int .i64 tt) := e2
              have hec := three_cells e0 e1 e2
              have hts := take_snoc (l := arcs.map (·.out)) (i := k) (x := ou) (by rw [List.getElem?_map, ha]; rfl)
              obtain ⟨M, hM⟩ : ∃ M, leastU (1099511627776 : Int) ((arcs.map (·.out)).take k) = M := ⟨_, rfl⟩
              have hnx : leastU (1099511627776 : Int) ((arcs.map (·.out)).take (k + 1)) = if ou < M then ou else M := by rw [hts, leastU_snoc, hM]
              rw [hM]
              have HNX := Lib.hid hnx
              have HBK := Lib.hid hbk
              have i1 : (0 : Int) ≤ (k : Int) := by omega
              clear hts hnx hbk hM hca hbka
              go_wp2_with fail
              refine ⟨⟨k + 1, by first | rfl | congr 1, by omega, by rw [HNX.out], HBK.out.alloc HBK.out.size _⟩, ?_⟩
              simp [intOf]; omega
            · have hkk : k = n := by omega
              subst hkk
              rw [List.take_of_length_le (by rw [List.length_map]; omega), HLV'.out]
              have HBK := Lib.hid hbk
              clear hbk
              go_wp2_with fail
              refine ⟨⟨i + 1, by first | rfl | congr 1, by omega, (hb.trans (HB1.out.mono hb.size)).trans (HBK.out.mono (by have := HB1.out.size; have := hb.size; omega))⟩, ?_⟩
              simp [intOf]; omega
        · have hlv' : leastU out (arcs.map (·.out)) = 0 := hlv
          have HLV' := Lib.hid hlv'
          clear hlv hlv'
          go_wp2_with fail
          go_loopw [7, 9, 32] (fun x7 x9 x32 wr => ∃ k : Nat, x32 = .int .i64 k ∧ k ≤ n ∧ x7 = .int .i64 (leastU out ((arcs.map (·.out)).take k)) ∧ Below W1.heap.size W1 wr) (fun _ _ x32 _ => n - (intOf x32).toNat)
          case atStart => exact ⟨0, rfl, Nat.zero_le _, rfl, Below.refl _ _⟩
          case round =>
            obtain ⟨k, rfl, hk, rfl, hbk⟩ := hrel
            by_cases hkn : (k : Int) < (n : Int)
            · obtain ⟨a, ha⟩ : ∃ a, arcs[k]? = some a := ⟨_, List.getElem?_eq_getElem (by omega)⟩
              obtain ⟨ga, offa, ea, hga, _, hca⟩ := hu.at_ ha
              subst ea
              obtain ⟨la, ou, tt⟩ := a
              have hgaw : ga < W1.heap.size := by omega
              have hbka : Below W0.heap.size W0 wr := (hb.trans (HB1.out.mono hb.size)).trans (hbk.mono (by omega))
              have e0 := (hbka.cell (p := ⟨ga, offa + k * 3, none⟩) hga).trans (hca 0 (by show 0 < 3; omega))
              have e1 := (hbka.cell (p := ⟨ga, offa + k * 3 + 1, none⟩) hga).trans (hca 1 (by show 1 < 3; omega))
              have e2 := (hbka.cell (p := ⟨ga, offa + k * 3 + 2, none⟩) hga).trans (hca 2 (by show 2 < 3; omega))
              replace e0 : wr.cell? ⟨ga, offa + k * 3, none⟩ = some (.int .i32 la) := e0
              replace e1 : wr.cell? ⟨ga, offa + k * 3 + 1, none⟩ = some (.int .i64 ou) := e1
              replace e2 : wr.cell? ⟨ga, offa + k * 3 + 2, none⟩ = some (.int .i64 tt) := e2
              have hec := three_cells e0 e1 e2
              have hts := take_snoc (l := arcs.map (·.out)) (i := k) (x := ou) (by rw [List.getElem?_map, ha]; rfl)
              obtain ⟨M, hM⟩ : ∃ M, leastU out ((arcs.map (·.out)).take k) = M := ⟨_, rfl⟩
              have hnx : leastU out ((arcs.map (·.out)).take (k + 1)) = if ou < M then ou else M := by rw [hts, leastU_snoc, hM]
              rw [hM]
              have HNX := Lib.hid hnx
              have HBK := Lib.hid hbk
              have i1 : (0 : Int) ≤ (k : Int) := by omega
              clear hts hnx hbk hM hca hbka
              go_wp2_with fail
              refine ⟨⟨k + 1, by first | rfl | congr 1, by omega, by rw [HNX.out], HBK.out.alloc HBK.out.size _⟩, ?_⟩
              simp [intOf]; omega
            · have hkk : k = n := by omega
              subst hkk
              rw [List.take_of_length_le (by rw [List.length_map]; omega), HLV'.out]
              have HBK := Lib.hid hbk
              clear hbk
              go_wp2_with fail
              refine ⟨⟨i + 1, by first | rfl | congr 1, by omega, (hb.trans (HB1.out.mono hb.size)).trans (HBK.out.mono (by have := HB1.out.size; have := hb.size; omega))⟩, ?_⟩
              simp [intOf]; omega
      · have hT1 := HT0.out.below hb
        go_wp2_with (go_at_call 12; refine (alive_any _ hT1).mono ?_; rintro e w4 ⟨rfl, hb4⟩)
        go_ret
        exact ⟨rfl, HBW.out.trans ((hb.trans (hb4.mono hb.size)).mono HBW.out.size)⟩
  · have herr := build_err he
    unfold BuildIs at hbuild
    rw [herr] at hbuild
    dsimp only at hbuild
    obtain ⟨E, hE⟩ : ∃ E, buildE l = E := ⟨_, rfl⟩
    rw [hE] at hbuild he
    have heb : (E == 0) = false := by rw [beq_eq_false_iff_ne]; exact he
    have heb' : (E != 0) = true := by rw [bne_iff_ne]; exact he
    have HBD := Lib.hid hbuild
    clear hbuild h herr
    go_enter Tryd.func7, Tryd.ntmps7
    go_wp2_with (first | (go_at_call 12; refine (alive_any _ (T.below hb3)).mono ?_; rintro e w4 ⟨rfl, hb4⟩) | (go_at_call 13; refine HBD.out.mono ?_; rintro e w2 ⟨sv, rfl, hSt, hb2⟩; obtain ⟨sa, sc, rfl⟩ := hSt.slice; have hb3 := hb2.alloc hb2.size (.cells #[.int .i64 0, .slice sa ([] : List StM).length sc] 27)))
    go_ret
    exact ⟨rfl, hb3.trans (hb4.mono hb3.size)⟩
end Go.Proofs.YtpbadnmfgffdlaaDoor.F
