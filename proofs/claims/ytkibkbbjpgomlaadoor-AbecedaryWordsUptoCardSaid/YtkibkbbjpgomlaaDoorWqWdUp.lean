/-
  WdUp.
-/
import Derived.Test.YtkibkbbjpgomlaaDoorWqWdUpL
import Derived.Test.YtkibkbbjpgomlaaDoorWqWdPk
import Derived.Deep.RegionHeld3
namespace Go.Proofs.YtkibkbbjpgomlaaDoor.F
open Go.RowKit Go.Shelf Go.Maps
open Aid L LM
open W (putU putU_ten RdIs)
set_option linter.unusedSimpArgs false
set_option linter.unusedVariables false
attribute [local go_sem] Oper.semAt_some

theorem packF_pos (B : Int) (S : List StM) : packF B S ≠ [] := fun e => by
  have h := congrArg List.length e
  unfold packF at h
  rw [List.length_append] at h
  have := putU_pos B.toNat
  simp only [List.length_nil] at h
  omega
def UnpackEnd (w : World) (B : Int) (S : List StM) (e : Ending) (w' : World) : Prop := ∃ sv, e = .returned (.tuple #[.agg #[.int .i64 B, sv], .int .i64 0]) ∧ StatesAre (fun x => x < w.heap.size) w' sv S ∧ Below w.heap.size w w'
set_option maxRecDepth 100000 in
set_option maxHeartbeats 8000000 in
theorem unpack_any (B : Int) (S : List StM) (v : Value) (w : World) (hv : Ints w .u8 v (packF B S)) (hM : MachR B S) (hA : ∀ s ∈ S, s.arcs.length ≤ 1000000) (T : Tab w) :
    Calls Tryd.prog 7 #[v] w (UnpackEnd w B S) := by
  have hbase := hM.base
  have hfew := hM.few
  have hSw := hM.w hA
  obtain ⟨b, rfl⟩ : ∃ b : Nat, B = (b : Int) := ⟨B.toNat, by omega⟩
  obtain ⟨N, hN⟩ : ∃ N, S.length = N := ⟨_, rfl⟩
  have hplen := packF_len (b : Int) S hbase.2 hfew hSw
  obtain ⟨va, vc, rfl, _⟩ := W.ints_ends hv
  obtain ⟨vn, hvn⟩ : ∃ vn, (packF (b : Int) S).length = vn := ⟨_, rfl⟩
  rw [hvn] at hv hplen ⊢
  obtain ⟨Q, hQ⟩ : ∃ Q, w.heap.size = Q := ⟨_, rfl⟩
  obtain ⟨W1, hW1⟩ : ∃ W1, w.alloc (.cells #[.int .i64 0, .slice none 0 0] 25) = W1 := ⟨_, rfl⟩
  have hb1 : Below w.heap.size w W1 := by rw [← hW1]; exact (Below.refl _ _).alloc (Nat.le_refl _) _
  have bQ : Blk W1 Q 25 #[.int .i64 0, .slice none 0 0] := by rw [← hW1, ← hQ]; exact Blk.alloc_new _ _ _
  have hs1 : W1.heap.size = Q + 1 := by rw [← hW1, ← hQ]; simp
  have HI := Lib.hid (W.ints_kept (O := fun _ => False) hv (Turn.of_below hb1) (fun _ _ _ _ _ _ h => h))
  have HB1 := Lib.hid (And.intro hb1 (And.intro bQ hs1))
  have HM := Lib.hid (And.intro hM (And.intro hSw (And.intro hA (And.intro hN T))))
  have HV := Lib.hid hvn
  clear hb1 bQ hM hSw hA T hv hs1 hvn
  rw [hN] at hfew
  go_enter Tryd.func7, Tryd.ntmps7
  go_wp2_with fail
  refine (W.read_any _ _ W1 HI.out).mono ?_
  rintro e w2 ⟨p, b0, rfl, hp1, hp2, hR2, hb0, hb2⟩
  obtain ⟨hb01, hb02⟩ := hb0 (packF_pos _ _)
  have hby : By (putU N ++ stsB 0 S) := (by_put _).app (stsB_by _ _)
  have hbytes : packF (b : Int) S = putU b ++ (putU N ++ stsB 0 S) := by unfold packF; rw [show ((b : Nat) : Int).toNat = b by omega, HM.out.2.2.2.1]
  rw [hbytes] at hR2
  obtain ⟨hb1, bQ, hs1⟩ := HB1.out
  have bQ2 := bQ.below hb2 bQ.lt
  have hpQ : Q < p := by omega
  have hbQ : Q < b0 := by omega
  have hw2 : Below w.heap.size w w2 := hb1.trans (hb2.mono (by omega))
  have HY := Lib.hid hby
  have HB2 := Lib.hid (And.intro bQ2 hw2)
  clear hb1 bQ bQ2 hb2 hw2 HI HB1 hbytes hby
  go_wp2_with fail
  refine (uint_put b0 p b (putU N ++ stsB 0 S) 1048576 w2 hR2 HY.out (by omega) (by omega)).mono ?_
  rintro e w3 ⟨rfl, hR3, hT3⟩
  obtain ⟨K, hK⟩ : ∃ K, w3.heap.size = K := ⟨_, rfl⟩
  obtain ⟨W4, hW4⟩ : ∃ W4, w3.alloc (.cells #[.int .i64 b, .slice none 0 0] 25) = W4 := ⟨_, rfl⟩
  have hb4 : Below w3.heap.size w3 W4 := by rw [← hW4]; exact (Below.refl _ _).alloc (Nat.le_refl _) _
  have bK : Blk W4 K 25 #[.int .i64 b, .slice none 0 0] := by rw [← hW4, ← hK]; exact Blk.alloc_new _ _ _
  have hs3 := hT3.size
  obtain ⟨bQ2, hw2⟩ := HB2.out
  have bQ4 := (hT3.blk bQ2 (by omega)).below hb4 (hT3.blk bQ2 (by omega)).lt
  have hR4 := rd_turn (O := fun _ => False) hR3 (Turn.of_below hb4) id id
  have hlow : ∀ (O : Nat → Prop) (a b : World), Turn O a b → (∀ x, O x → w.heap.size ≤ x) → Below w.heap.size w a → Below w.heap.size w b := fun O a b hT hO hb =>
    ⟨hT.os.trans hb.os, hT.tape.trans hb.tape, hT.output.trans hb.output, Nat.le_trans hb.size hT.size, fun k hk => (hT.kept k (Nat.lt_of_lt_of_le hk hb.size) (fun h => by have := hO k h; omega)).trans (hb.block k hk)⟩
  have hw4 : Below w.heap.size w W4 := (hlow _ _ _ hT3 (fun x h => by omega) hw2).trans (hb4.mono (by have := hw2.size; omega))
  have hpK : p < K := by omega
  have hbK : b0 < K := by omega
  have HB4 := Lib.hid (And.intro bK (And.intro bQ4 (And.intro hR4 hw4)))
  have HW4 := Lib.hid hW4
  have HK := Lib.hid hK
  have HLO := Lib.hid hlow
  clear hb4 bK hs3 bQ2 hw2 bQ4 hR4 hw4 hW4 hK hlow hT3 hR3 hR2 HB2
  go_upto_region 3 with fail
  rw [HW4.out, HK.out]
  go_wp2_with fail
  refine (uint_put b0 p N (stsB 0 S) 98305 W4 HB4.out.2.2.1 (stsB_by _ _) (by omega) (by omega)).mono ?_
  rintro e w5 ⟨rfl, hR5, hT5⟩
  have hst : UnLp w w5 b0 p K Q b S (.slice none 0 0) 0 := by
    obtain ⟨bK, bQ4, hR4, hw4⟩ := HB4.out
    have hbK1 := bK.lt
    have := hT5.size
    refine ⟨⟨[], SUp.nil (by omega) ⟨by omega, by omega, by omega⟩, rfl⟩, hT5.blk bK (by omega), by rw [List.drop_zero]; exact hR5, HLO.out _ _ _ hT5 (fun x h => by omega) hw4, hT5.blk bQ4 (by omega), ⟨hQ, hpQ, hpK, hbK, hbQ⟩⟩
  have HST := Lib.hid hst
  clear hst hR5 hT5 HB4 HLO hp1 hp2 hb01 hb02
  go_wp2_with fail
  go_loopw [7] (fun x7 wr => ∃ j : Nat, x7 = .int .i64 j ∧ j ≤ N ∧ Hid (∃ u, UnLp w wr b0 p K Q b S u j)) (fun x7 _ => N - (intOf x7).toNat)
  case atStart => exact ⟨0, rfl, Nat.zero_le _, ⟨_, HST.out⟩⟩
  case round =>
    clear HST
    obtain ⟨j, rfl, hj, HL⟩ := hrel
    obtain ⟨u, hL⟩ := HL.out
    obtain ⟨a, c, rfl⟩ := hL.form (by omega)
    have hrd := hL.rd
    have hkp := hL.blk
    have hlts := hkp.lt
    have HL1 := Lib.hid hL
    clear hL HL
    by_cases hlt : (j : Int) < (N : Int)
    · obtain ⟨s, hs⟩ : ∃ s, S[j]? = some s := ⟨_, List.getElem?_eq_getElem (by omega)⟩
      have hk1 : wr.cell? ⟨K, 1, none⟩ = some (.slice a j c) := (Blk.cell hkp 1).trans rfl
      obtain ⟨fin, out, A⟩ := s
      have hdr : S.drop j = ⟨fin, out, A⟩ :: S.drop (j + 1) := by
        obtain ⟨h1, h2⟩ := List.getElem?_eq_some_iff.1 hs
        rw [List.drop_eq_getElem_cons h1, h2]
      have hlen9 : (stB j ⟨fin, out, A⟩ ++ stsB (j + 1) (S.drop (j + 1))).length ≤ 5000000000000 := by
        have h1 : (stsB j (S.drop j)).length ≤ (stsB 0 S).length := by
          have := congrArg List.length (stsB_append (S.take j) (S.drop j) 0)
          rw [List.take_append_drop, List.length_append, Nat.zero_add, List.length_take, show min j S.length = j by omega] at this
          omega
        rw [hdr, stsB] at h1
        have h2 := HV.out
        unfold packF at h2
        simp only [List.length_append] at h1 h2 ⊢
        omega
      have hSt : ∀ w', Below wr.heap.size wr w' → Calls Tryd.prog 23 #[.pointer (some ⟨p, 0, none⟩), .int .i64 j] w' (UpStEnd b0 p ⟨fin, out, A⟩ (stsB (j + 1) (S.drop (j + 1))) w') := fun w' hb => by
        have hrd' := rd_turn (O := fun _ => False) hrd (Turn.of_below hb) id id
        rw [hdr, stsB] at hrd'
        exact ustate_any b0 p j ⟨fin, out, A⟩ (stsB (j + 1) (S.drop (j + 1))) w' hrd' (by have := hb.size; omega) (by have := hb.size; omega) (HM.out.2.1 j _ hs) (by omega) (stsB_by _ _) hlen9
      have hLn : ∀ w', Below wr.heap.size wr w' → UnLp w w' b0 p K Q b S (.slice a j c) j := fun w' hb => HL1.out.below hb
      have hkd : wr.drew.cell? ⟨K, 1, none⟩ = some (.slice a j c) := hk1
      have HSt := Lib.hid hSt
      have HLN := Lib.hid hLn
      have HX := Lib.hid hs
      have hj0 : (0 : Int) ≤ (j : Int) := by omega
      clear hSt hs hdr hlen9 hkp hLn HL1
      go_wp2_with fail
      refine (W.err_any b0 p _ 0 wr hrd).mono ?_
      rintro e w6 ⟨rfl, rfl⟩
      clear hrd
      go_upto_region 7 with fail
      refine wp_region_noPanic ?_
      refine wp_region_held_drew (S := fun _ => True) (by kernel_rfl) trivial (fun hHeld => ?_)
      refine wpAnyH_take (i := 0) (v := .pointer (some ⟨K, 1, none⟩)) rfl (by kernel_rfl) (by kernel_rfl) (by kernel_rfl) (fun _ _ _ h => h) (.inl ⟨by rfl, by intro w hSw; go_simp⟩) hHeld ?_
      simp only [Act.put, List.getElem_toArray, List.getElem_cons_succ, List.getElem_cons_zero, List.setIfInBounds_toArray, List.set_cons_zero, List.set_cons_succ]
      refine wpAnyH_take (i := 2) (v := .pointer (some ⟨p, 0, none⟩)) rfl (by kernel_rfl) (by kernel_rfl) (by kernel_rfl) (fun _ _ _ h => h) (.inl ⟨by rfl, by intro w hSw; go_simp⟩) hHeld ?_
      simp only [Act.put, List.getElem_toArray, List.getElem_cons_succ, List.getElem_cons_zero, List.setIfInBounds_toArray, List.set_cons_zero, List.set_cons_succ]
      refine wpAnyH_take (i := 3) (v := .int .i64 j) rfl (by kernel_rfl) (by kernel_rfl) (by kernel_rfl) (fun _ _ _ h => h) (.inl ⟨by rfl, by intro w hSw; go_simp⟩) hHeld ?_
      simp only [Act.put, List.getElem_toArray, List.getElem_cons_succ, List.getElem_cons_zero, List.setIfInBounds_toArray, List.set_cons_zero, List.set_cons_succ]
      refine wpAnyH_ready (rs := [1, 4]) (by kernel_rfl) (by simp) ?_
      refine AllReadyH.cons rfl (fun K hK => ?_) (AllReadyH.cons rfl (fun K hK => ?_) AllReadyH.nil)
      · have hx := hkd
        go_simp
        clear hx
        refine hK.out _ _ trivial (fun hHeld => ?_)
        clear hK K
        try simp only [Act.put, List.getElem_toArray, List.getElem_cons_succ, List.getElem_cons_zero, List.setIfInBounds_toArray, List.set_cons_zero, List.set_cons_succ]
        refine wpAnyH_ready (rs := [4]) (by kernel_rfl) (by simp) ?_
        refine AllReadyH.cons rfl (fun K hK => ?_) AllReadyH.nil
        go_simp
        go_at_call 23
        refine (HSt.out _ (Below.drew (Below.refl _ _))).mono ?_
        rintro e w7 ⟨us, rfl, hA, hR, hT⟩
        unfold stV
        obtain ⟨u8a, u8c, W8, k1, k1', hr8, k2, k3, hnx⟩ := (HLN.out _ (Below.drew (Below.refl _ _))).next HX.out (by omega) hA hR hT
        obtain ⟨xa, xc, rfl⟩ := hA.slice
        have HNX := Lib.hid hnx
        clear hnx hA hR hT
        unfold stV at hr8 k1'
        try go_wp2_with fail
        refine hK.out _ _ trivial (fun hHeld => ?_)
        clear hK K
        try simp only [Act.put, List.getElem_toArray, List.getElem_cons_succ, List.getElem_cons_zero, List.setIfInBounds_toArray, List.set_cons_zero, List.set_cons_succ]
        refine wpAnyH_ready (rs := [5]) (by kernel_rfl) (by simp) ?_
        refine AllReadyH.cons rfl (fun K hK => ?_) AllReadyH.nil
        go_simp
        refine hK.out _ _ trivial (fun hHeld => ?_)
        clear hK K
        try simp only [Act.put, List.getElem_toArray, List.getElem_cons_succ, List.getElem_cons_zero, List.setIfInBounds_toArray, List.set_cons_zero, List.set_cons_succ]
        refine wpAnyH_ready (rs := [6]) (by kernel_rfl) (by simp) ?_
        refine AllReadyH.cons rfl (fun K hK => ?_) AllReadyH.nil
        rw [if_pos (by rfl)]
        refine wp_append_run _ _ 23 rfl _ _ rfl rfl hr8 ?_
        refine hK.out _ _ trivial (fun hHeld => ?_)
        clear hK K
        try simp only [Act.put, List.getElem_toArray, List.getElem_cons_succ, List.getElem_cons_zero, List.setIfInBounds_toArray, List.set_cons_zero, List.set_cons_succ]
        refine wpAnyH_take (i := 7) (v := .pointer (some ⟨K, 1, none⟩)) rfl (by kernel_rfl) (by kernel_rfl) (by kernel_rfl) (fun _ _ _ h => h) (.inl ⟨by rfl, by intro w hSw; go_simp⟩) hHeld ?_
        simp only [Act.put, List.getElem_toArray, List.getElem_cons_succ, List.getElem_cons_zero, List.setIfInBounds_toArray, List.set_cons_zero, List.set_cons_succ]
        refine wpAnyH_ready (rs := [8]) (by kernel_rfl) (by simp) ?_
        refine AllReadyH.cons rfl (fun K hK => ?_) AllReadyH.nil
        go_simp
        refine hK.out _ _ trivial (fun hHeld => ?_)
        clear hK K
        try simp only [Act.put, List.getElem_toArray, List.getElem_cons_succ, List.getElem_cons_zero, List.setIfInBounds_toArray, List.set_cons_zero, List.set_cons_succ]
        refine wpAnyH_done (by kernel_rfl) ?_ _
        refine NoPanic.normal ?_
        go_wp2_with fail
        refine ⟨⟨j + 1, by first | rfl | simp, by omega, ⟨_, HNX.out⟩⟩, ?_⟩
        simp only [intOf]; omega
      · go_simp
        go_at_call 23
        refine (HSt.out _ (Below.drew (Below.refl _ _))).mono ?_
        rintro e w7 ⟨us, rfl, hA, hR, hT⟩
        unfold stV
        obtain ⟨u8a, u8c, W8, k1, k1', hr8, k2, k3, hnx⟩ := (HLN.out _ (Below.drew (Below.refl _ _))).next HX.out (by omega) hA hR hT
        obtain ⟨xa, xc, rfl⟩ := hA.slice
        have HNX := Lib.hid hnx
        clear hnx hA hR hT
        unfold stV at hr8 k1'
        try go_wp2_with fail
        refine hK.out _ _ trivial (fun hHeld => ?_)
        clear hK K
        try simp only [Act.put, List.getElem_toArray, List.getElem_cons_succ, List.getElem_cons_zero, List.setIfInBounds_toArray, List.set_cons_zero, List.set_cons_succ]
        refine wpAnyH_ready (rs := [1, 5]) (by kernel_rfl) (by simp) ?_
        refine AllReadyH.cons rfl (fun K hK => ?_) (AllReadyH.cons rfl (fun K hK => ?_) AllReadyH.nil)
        · have hx := k1
          go_simp
          clear hx
          refine hK.out _ _ trivial (fun hHeld => ?_)
          clear hK K
          try simp only [Act.put, List.getElem_toArray, List.getElem_cons_succ, List.getElem_cons_zero, List.setIfInBounds_toArray, List.set_cons_zero, List.set_cons_succ]
          refine wpAnyH_ready (rs := [5]) (by kernel_rfl) (by simp) ?_
          refine AllReadyH.cons rfl (fun K hK => ?_) AllReadyH.nil
          go_simp
          refine hK.out _ _ trivial (fun hHeld => ?_)
          clear hK K
          try simp only [Act.put, List.getElem_toArray, List.getElem_cons_succ, List.getElem_cons_zero, List.setIfInBounds_toArray, List.set_cons_zero, List.set_cons_succ]
          refine wpAnyH_ready (rs := [6]) (by kernel_rfl) (by simp) ?_
          refine AllReadyH.cons rfl (fun K hK => ?_) AllReadyH.nil
          rw [if_pos (by rfl)]
          refine wp_append_run _ _ 23 rfl _ _ rfl rfl hr8 ?_
          refine hK.out _ _ trivial (fun hHeld => ?_)
          clear hK K
          try simp only [Act.put, List.getElem_toArray, List.getElem_cons_succ, List.getElem_cons_zero, List.setIfInBounds_toArray, List.set_cons_zero, List.set_cons_succ]
          refine wpAnyH_take (i := 7) (v := .pointer (some ⟨K, 1, none⟩)) rfl (by kernel_rfl) (by kernel_rfl) (by kernel_rfl) (fun _ _ _ h => h) (.inl ⟨by rfl, by intro w hSw; go_simp⟩) hHeld ?_
          simp only [Act.put, List.getElem_toArray, List.getElem_cons_succ, List.getElem_cons_zero, List.setIfInBounds_toArray, List.set_cons_zero, List.set_cons_succ]
          refine wpAnyH_ready (rs := [8]) (by kernel_rfl) (by simp) ?_
          refine AllReadyH.cons rfl (fun K hK => ?_) AllReadyH.nil
          go_simp
          refine hK.out _ _ trivial (fun hHeld => ?_)
          clear hK K
          try simp only [Act.put, List.getElem_toArray, List.getElem_cons_succ, List.getElem_cons_zero, List.setIfInBounds_toArray, List.set_cons_zero, List.set_cons_succ]
          refine wpAnyH_done (by kernel_rfl) ?_ _
          refine NoPanic.normal ?_
          go_wp2_with fail
          refine ⟨⟨j + 1, by first | rfl | simp, by omega, ⟨_, HNX.out⟩⟩, ?_⟩
          simp only [intOf]; omega
        · go_simp
          refine hK.out _ _ trivial (fun hHeld => ?_)
          clear hK K
          try simp only [Act.put, List.getElem_toArray, List.getElem_cons_succ, List.getElem_cons_zero, List.setIfInBounds_toArray, List.set_cons_zero, List.set_cons_succ]
          refine wpAnyH_ready (rs := [1]) (by kernel_rfl) (by simp) ?_
          refine AllReadyH.cons rfl (fun K hK => ?_) AllReadyH.nil
          have hx := k1'
          go_simp
          clear hx
          refine hK.out _ _ trivial (fun hHeld => ?_)
          clear hK K
          try simp only [Act.put, List.getElem_toArray, List.getElem_cons_succ, List.getElem_cons_zero, List.setIfInBounds_toArray, List.set_cons_zero, List.set_cons_succ]
          refine wpAnyH_ready (rs := [6]) (by kernel_rfl) (by simp) ?_
          refine AllReadyH.cons rfl (fun K hK => ?_) AllReadyH.nil
          rw [if_pos (by rfl)]
          refine wp_append_run _ _ 23 rfl _ _ rfl rfl hr8 ?_
          refine hK.out _ _ trivial (fun hHeld => ?_)
          clear hK K
          try simp only [Act.put, List.getElem_toArray, List.getElem_cons_succ, List.getElem_cons_zero, List.setIfInBounds_toArray, List.set_cons_zero, List.set_cons_succ]
          refine wpAnyH_take (i := 7) (v := .pointer (some ⟨K, 1, none⟩)) rfl (by kernel_rfl) (by kernel_rfl) (by kernel_rfl) (fun _ _ _ h => h) (.inl ⟨by rfl, by intro w hSw; go_simp⟩) hHeld ?_
          simp only [Act.put, List.getElem_toArray, List.getElem_cons_succ, List.getElem_cons_zero, List.setIfInBounds_toArray, List.set_cons_zero, List.set_cons_succ]
          refine wpAnyH_ready (rs := [8]) (by kernel_rfl) (by simp) ?_
          refine AllReadyH.cons rfl (fun K hK => ?_) AllReadyH.nil
          go_simp
          refine hK.out _ _ trivial (fun hHeld => ?_)
          clear hK K
          try simp only [Act.put, List.getElem_toArray, List.getElem_cons_succ, List.getElem_cons_zero, List.setIfInBounds_toArray, List.set_cons_zero, List.set_cons_succ]
          refine wpAnyH_done (by kernel_rfl) ?_ _
          refine NoPanic.normal ?_
          go_wp2_with fail
          refine ⟨⟨j + 1, by first | rfl | simp, by omega, ⟨_, HNX.out⟩⟩, ?_⟩
          simp only [intOf]; omega
    · have hjN : j = N := by omega
      subst hjN
      obtain ⟨q, hq1, hq2⟩ := HL1.out.row
      have htk : S.take j = S := List.take_of_length_le (by omega)
      have hdk : S.drop j = [] := List.drop_eq_nil_of_le (by omega)
      rw [htk] at hq2
      rw [hdk, stsB] at hrd
      have hqn : q.length = j := by have := congrArg List.length hq2; rw [List.length_map] at this; omega
      have hSS := hq1.states (by omega)
      rw [hq2] at hSS
      have hSS0 := hSS.turn (O' := fun _ => False) (Turn.refl _ _) (fun _ _ h => h.elim)
      have hbw := HL1.out.bel
      have k0 : wr.cell? ⟨K, 0, none⟩ = some (.int .i64 b) := (Blk.cell hkp 0).trans rfl
      have k1 : wr.cell? ⟨K, 0 + 1, none⟩ = some (.slice a j c) := (Blk.cell hkp 1).trans rfl
      have kk := two_cells k0 k1
      have HR := Lib.hid (right_all b (.slice a j c) S wr hSS0 HM.out.1 (HM.out.2.2.2.2.below hbw))
      have bQr := HL1.out.res
      have HE := Lib.hid (And.intro hkp (And.intro hSS (And.intro hbw bQr)))
      clear hq1 hq2 hSS hSS0 hbw bQr htk hdk hqn hkp HL1
      go_wp2_with fail
      refine (end_nil b0 p wr hrd).mono ?_
      rintro e w6 ⟨rfl, rfl⟩
      clear hrd
      go_wp2_with fail
      refine HR.out.mono ?_
      rintro e w9 ⟨rfl, hb9⟩
      obtain ⟨hkp, hSS, hbw, bQr⟩ := HE.out
      have bK9 := hkp.below hb9 hlts
      have bQ9 := bQr.below hb9 bQr.lt
      have k0 : w9.cell? ⟨K, 0, none⟩ = some (.int .i64 b) := (Blk.cell bK9 0).trans rfl
      have k1 : w9.cell? ⟨K, 0 + 1, none⟩ = some (.slice a j c) := (Blk.cell bK9 1).trans rfl
      have kk := two_cells k0 k1
      have r0 : w9.cell? ⟨Q, 0, none⟩ = some (.int .i64 0) := (Blk.cell bQ9 0).trans rfl
      have r1 : w9.cell? ⟨Q, 0 + 1, none⟩ = some (.slice none 0 0) := (Blk.cell bQ9 1).trans rfl
      have f0 := Blk.free bQ9 0
      have f1 := Blk.free bQ9 1
      have HF := Lib.hid (And.intro bQ9 (And.intro (hSS.below hb9) (hbw.trans (hb9.mono hbw.size))))
      clear hkp hSS hbw bQr bK9 bQ9 hb9 HE HR
      go_wp2_with fail
      obtain ⟨bQ9, hSS, hbw⟩ := HF.out
      refine bodyPost_ret (results_cellT rfl _ _ Q rfl _ rfl _ _ ((bQ9.set 0 _).set 1 _) _ Tryd.underlying25 rfl (by kernel_rfl)) rfl ?_
      have t0 : Turn (fun k => k = Q) w9 (w9.setCell ⟨Q, 0, none⟩ (.int .i64 b)) := W.turn_setW w9 Q _
      have t1 : Turn (fun k => k = Q) (w9.setCell ⟨Q, 0, none⟩ (.int .i64 b)) ((w9.setCell ⟨Q, 0, none⟩ (.int .i64 b)).setCell ⟨Q, 1, none⟩ (.slice a j c)) := W.turn_setW _ Q _
      refine ⟨_, rfl, hSS.turn ((t0.trans t1 (fun _ _ h => h)).more (fun x _ h => .inl (by omega))) (fun x _ h => .inl (by omega)), below_set (below_set hbw (by omega)) (by omega)⟩
end Go.Proofs.YtkibkbbjpgomlaaDoor.F
