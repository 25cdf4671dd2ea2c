/-
  The document's Under, same, In.
-/
import Derived.Test.YtpbadnmfgffdlaaDoorFstRefA
namespace Go.Proofs.YtpbadnmfgffdlaaDoor.F
open Go.RowKit Go.Shelf Go.Maps
open Aid L LM
set_option linter.unusedSimpArgs false
set_option linter.unusedVariables false
attribute [local go_sem] Oper.semAt_some

def underA (c : Int) (l : List Rw) : List Rw := (l.filter fun x => decide (x.1.head? = some c)).map fun x => (x.1.tail, x.2)
theorem underA_snoc (c : Int) (l : List Rw) (x : Rw) : underA c (l ++ [x]) = if x.1.head? = some c then underA c l ++ [(x.1.tail, x.2)] else underA c l := by
  unfold underA
  rw [List.filter_append, List.map_append]
  by_cases h : x.1.head? = some c
  · simp [h]
  · simp [h]
theorem rw_take (q : List RS) (i : Nat) : rw (q.take i) = (rw q).take i := by unfold rw; rw [List.map_take]
set_option maxRecDepth 100000 in
set_option maxHeartbeats 4000000 in
theorem runder_any (O : Nat → Prop) (v : Value) (q : List RS) (c : Int) (w : World) (hO : ∀ x, O x → x < w.heap.size) (h : RestsAre O w v q) : Calls Tryd.prog 33 #[v, .int .i32 c] w fun e w' =>
    ∃ v' q', e = .returned v' ∧ RestsAre O w' v' q' ∧ rw q' = underA c (rw q) ∧ Below w.heap.size w w' := by
  have hlen := h.len
  have hrun := h.runes
  obtain ⟨av, cv, rfl⟩ := h.slice
  obtain ⟨n, hn⟩ : ∃ n, q.length = n := ⟨_, rfl⟩
  rw [hn] at h hlen ⊢
  have HRUN := Lib.hid hrun
  clear hrun
  go_enter Tryd.func33, Tryd.ntmps33
  go_wp2_with fail
  go_loopw [5, 6] (fun x5 x6 wr => ∃ (i : Nat) (qd : List RS), x6 = .int .i64 i ∧ i ≤ n ∧ qd.length ≤ i ∧ rw qd = underA c (rw (q.take i)) ∧ wr.ownsRow w.heap.size 68 2 x5 qd.length (rowR qd) ∧ (∀ y ∈ qd, IntsC O w .i32 y.u y.r) ∧ Below w.heap.size w wr) (fun _ x6 _ => n - (intOf x6).toNat)
  case atStart => exact ⟨0, [], rfl, Nat.zero_le _, by simp, rfl, World.ownsRow_nil _ _ _ _, by simp, Below.refl _ _⟩
  case round =>
    obtain ⟨i, qd, rfl, hi, hql, hqd, hrow, hic, hb⟩ := hrel
    have hbz := hb.size
    by_cases hlt : (i : Int) < (n : Int)
    · obtain ⟨x, hx⟩ : ∃ x, q[i]? = some x := ⟨_, List.getElem?_eq_getElem (by omega)⟩
      obtain ⟨g, off, rfl, hg, _, c0, c1⟩ := h.at_ hx
      have hIC := HRUN.out x (List.mem_of_getElem? hx)
      obtain ⟨ua, uc, hu, l1, l2, l3, l4⟩ := HRUN.out x (List.mem_of_getElem? hx)
      have hts := take_snoc hx
      have hnext : underA c (rw (q.take (i + 1))) = if x.r.head? = some c then underA c (rw (q.take i)) ++ [(x.r.tail, x.wt)] else underA c (rw (q.take i)) := by
        rw [hts, rw_append]
        exact underA_snoc c _ (x.r, x.wt)
      obtain ⟨xr, xw, xu⟩ := x
      dsimp only at c0 c1 hu hIC hnext l1 l2 l3 l4
      obtain ⟨xl, hxl⟩ : ∃ xl, xr.length = xl := ⟨_, rfl⟩
      rw [hxl] at hu l1
      subst hu
      have d0 := (hb.cell (p := ⟨g, off + i * 2, none⟩) hg).trans c0
      have d1 := (hb.cell (p := ⟨g, off + i * 2 + 1, none⟩) hg).trans c1
      have j0 : (0 : Int) ≤ (i : Int) := by omega
      cases xr with
      | nil =>
        have hx0 : xl = 0 := by rw [← hxl]; rfl
        subst hx0
        rw [if_neg (by simp)] at hnext
        have HNX := Lib.hid hnext
        have HQD := Lib.hid hqd
        have HROW := Lib.hid hrow
        have HIC := Lib.hid hic
        have HB := Lib.hid hb
        clear hnext hts hqd hrow hic hb l1 l2 l3 l4 hIC hx c0 c1
        go_wp2_with fail
        refine ⟨⟨i + 1, qd, by first | rfl | congr 1, by omega, by omega, by rw [HQD.out, HNX.out], HROW.out, HIC.out, HB.out⟩, ?_⟩
        simp [intOf]; omega
      | cons c1' xr =>
        obtain ⟨gy, offy, rfl, hgy, _, f2⟩ := l4 0 (by simp)
        rw [Nat.add_zero] at f2
        have f2 : w.cell? ⟨gy, offy, none⟩ = some (.int .i32 c1') := f2
        have f3 := (hb.cell (p := ⟨gy, offy, none⟩) hgy).trans f2
        have hxp : (0 : Int) < (xl : Int) := by rw [← hxl, List.length_cons]; omega
        by_cases hcc : c1' = c
        · rw [if_pos (by simp [hcc])] at hnext
          have hceq : (c1' == c) = true := by rw [beq_iff_eq]; exact hcc
          rw [← hxl] at hIC
          have ht2 := hIC.tail2
          rw [hxl] at ht2
          obtain ⟨ot, ct, hTI, hcase⟩ : ∃ ot ct, IntsC O w .i32 (.slice (some ⟨gy, ot, none⟩) (xl - 1) ct) xr ∧ ((uc = 1 ∧ ot = offy ∧ ct = 0) ∨ (¬ uc = 1 ∧ ot = offy + 1 ∧ ct = uc - 1)) := by
            by_cases h : uc = 1
            · exact ⟨offy, 0, ht2.2 (by omega), .inl ⟨h, rfl, rfl⟩⟩
            · exact ⟨offy + 1, uc - 1, ht2.1, .inr ⟨h, rfl, rfl⟩⟩
          have SW : wr.drew.cell? ⟨g, off + i * 2, none⟩ = some (.slice (some ⟨gy, offy, none⟩) xl uc) ∧ wr.drew.cell? ⟨g, off + i * 2 + 1, none⟩ = some (.int .i64 xw) := ⟨d0, d1⟩
          obtain ⟨W5, hW5⟩ : ∃ W5, wr.drew.alloc (.cells #[.slice (some ⟨gy, ot, none⟩) (xl - 1) ct, .int .i64 xw] 68) = W5 := ⟨_, rfl⟩
          have bN5 : Blk W5 wr.heap.size 68 #[.slice (some ⟨gy, ot, none⟩) (xl - 1) ct, .int .i64 xw] := by rw [← hW5]; exact Blk.alloc_new _ _ _
          have hb5 : Below wr.heap.size wr W5 := by rw [← hW5]; exact ((Below.refl _ _).drew).alloc (Nat.le_refl _) _
          have hz5 : W5.heap.size = wr.heap.size + 1 := by rw [← hW5]; simp
          have own5 := owns_below hrow hb5
          obtain ⟨i0, z0, hi0, hz0, hsz0, hby0, hzs0⟩ := rinfo
          obtain ⟨v6, W6, hr6, own6, grow6, _, new6⟩ := run_append_own_at (P := Tryd.prog) W5 w.heap.size 65 65 68 i0 z0 2 32 Tryd.underlying65 hi0 hz0 hsz0 hby0 hzs0 (by decide) u5 qd.length _ own5 ⟨wr.heap.size, 0, none⟩ 1 1 [.slice (some ⟨gy, ot, none⟩) (xl - 1) ct, .int .i64 xw] rfl
            (World.news_of_block bN5) (by intro y hy; simp at hy; rcases hy with rfl | rfl <;> rfl) (by unfold maxLen; omega) (by omega) (by omega)
          have hb6 : Below w.heap.size w W6 := below_grown' (hb.trans (hb5.mono hbz)) grow6 (by omega) (fun k hk => owns_base own5 k hk)
          have SW5 : W5.cell? ⟨g, off + i * 2, none⟩ = some (.slice (some ⟨gy, offy, none⟩) xl uc) ∧ W5.cell? ⟨g, off + i * 2 + 1, none⟩ = some (.int .i64 xw) :=
            ⟨(hb5.cell (p := ⟨g, off + i * 2, none⟩) (by show g < _; omega)).trans d0, (hb5.cell (p := ⟨g, off + i * 2 + 1, none⟩) (by show g < _; omega)).trans d1⟩
          have SW6 : W6.cell? ⟨g, off + i * 2, none⟩ = some (.slice (some ⟨gy, offy, none⟩) xl uc) ∧ W6.cell? ⟨g, off + i * 2 + 1, none⟩ = some (.int .i64 xw) :=
            ⟨(hb6.cell (p := ⟨g, off + i * 2, none⟩) hg).trans c0, (hb6.cell (p := ⟨g, off + i * 2 + 1, none⟩) hg).trans c1⟩
          have hy1 : 1 ≤ xl := by omega
          have hy2 : (1 : Int) ≤ (xl : Int) := by omega
          have hy3 : (xl : Int) ≤ (uc : Int) := by omega
          have HR6 := Lib.hid hr6
          have HB6 := Lib.hid hb6
          have HO6 := Lib.hid own6
          have HNX := Lib.hid hnext
          have HQD := Lib.hid hqd
          have HIC := Lib.hid hic
          clear hr6 hb6 own6 grow6 new6 own5 hz5 hts c0 c1 hx hb hrow hnext hqd hic l1 l2 l3 l4 hIC ht2 f2
          go_wp2_with fail
          refine wp_region_noPanic ?_
          refine wp_region_held_drew (S := fun w' => w'.cell? ⟨g, off + i * 2, none⟩ = some (.slice (some ⟨gy, offy, none⟩) xl uc) ∧ w'.cell? ⟨g, off + i * 2 + 1, none⟩ = some (.int .i64 xw)) (by kernel_rfl) SW (fun hHeld => ?_)
          refine wpAnyH_take (i := 0) (v := u5) rfl (by kernel_rfl) (by kernel_rfl) (by kernel_rfl) (fun _ _ _ h => h) (.inl ⟨by rfl, by intro w hSw; go_simp⟩) hHeld ?_
          simp only [Act.put, List.getElem_toArray, List.getElem_cons_succ, List.getElem_cons_zero, List.setIfInBounds_toArray, List.set_cons_zero, List.set_cons_succ]
          refine wpAnyH_take (i := 1) (v := (.slice (some ⟨g, off, none⟩) n cv)) rfl (by kernel_rfl) (by kernel_rfl) (by kernel_rfl) (fun _ _ _ h => h) (.inl ⟨by rfl, by intro w hSw; go_simp⟩) hHeld ?_
          simp only [Act.put, List.getElem_toArray, List.getElem_cons_succ, List.getElem_cons_zero, List.setIfInBounds_toArray, List.set_cons_zero, List.set_cons_succ]
          refine wpAnyH_take (i := 2) (v := .int .i64 i) rfl (by kernel_rfl) (by kernel_rfl) (by kernel_rfl) (fun _ _ _ h => h) (.inl ⟨by rfl, by intro w hSw; go_simp⟩) hHeld ?_
          simp only [Act.put, List.getElem_toArray, List.getElem_cons_succ, List.getElem_cons_zero, List.setIfInBounds_toArray, List.set_cons_zero, List.set_cons_succ]
          refine wpAnyH_take (i := 3) (v := .pointer (some ⟨g, off + i * 2, none⟩)) rfl (by kernel_rfl) (by kernel_rfl) (by kernel_rfl) (fun _ _ _ h => h) (.inl ⟨by rfl, by intro w hSw; go_simp⟩) hHeld ?_
          simp only [Act.put, List.getElem_toArray, List.getElem_cons_succ, List.getElem_cons_zero, List.setIfInBounds_toArray, List.set_cons_zero, List.set_cons_succ]
          refine wpAnyH_take (i := 4) (v := .pointer (some ⟨g, off + i * 2, none⟩)) rfl (by kernel_rfl) (by kernel_rfl) (by kernel_rfl) (fun _ _ _ h => h) (.inl ⟨by rfl, by intro w hSw; go_simp⟩) hHeld ?_
          simp only [Act.put, List.getElem_toArray, List.getElem_cons_succ, List.getElem_cons_zero, List.setIfInBounds_toArray, List.set_cons_zero, List.set_cons_succ]
          refine wpAnyH_take (i := 5) (v := (.slice (some ⟨gy, offy, none⟩) xl uc)) rfl (by kernel_rfl) (by kernel_rfl) (by kernel_rfl) (fun _ _ _ h => h) (.inl ⟨by rfl, by intro w hSw; obtain ⟨hx0, hx1⟩ := hSw; go_simp⟩) hHeld ?_
          simp only [Act.put, List.getElem_toArray, List.getElem_cons_succ, List.getElem_cons_zero, List.setIfInBounds_toArray, List.set_cons_zero, List.set_cons_succ]
          refine wpAnyH_take (i := 6) (v := (.slice (some ⟨gy, ot, none⟩) (xl - 1) ct)) rfl (by kernel_rfl) (by kernel_rfl) (by kernel_rfl) (fun _ _ _ h => h) (.inl ⟨by rfl, by intro w hSw; rcases hcase with ⟨hc1, rfl, rfl⟩ | ⟨hc1, rfl, rfl⟩ <;> go_simp⟩) hHeld ?_
          simp only [Act.put, List.getElem_toArray, List.getElem_cons_succ, List.getElem_cons_zero, List.setIfInBounds_toArray, List.set_cons_zero, List.set_cons_succ]
          refine wpAnyH_take (i := 7) (v := (.slice (some ⟨g, off, none⟩) n cv)) rfl (by kernel_rfl) (by kernel_rfl) (by kernel_rfl) (fun _ _ _ h => h) (.inl ⟨by rfl, by intro w hSw; go_simp⟩) hHeld ?_
          simp only [Act.put, List.getElem_toArray, List.getElem_cons_succ, List.getElem_cons_zero, List.setIfInBounds_toArray, List.set_cons_zero, List.set_cons_succ]
          refine wpAnyH_take (i := 8) (v := .int .i64 i) rfl (by kernel_rfl) (by kernel_rfl) (by kernel_rfl) (fun _ _ _ h => h) (.inl ⟨by rfl, by intro w hSw; go_simp⟩) hHeld ?_
          simp only [Act.put, List.getElem_toArray, List.getElem_cons_succ, List.getElem_cons_zero, List.setIfInBounds_toArray, List.set_cons_zero, List.set_cons_succ]
          refine wpAnyH_take (i := 9) (v := .pointer (some ⟨g, off + i * 2, none⟩)) rfl (by kernel_rfl) (by kernel_rfl) (by kernel_rfl) (fun _ _ _ h => h) (.inl ⟨by rfl, by intro w hSw; go_simp⟩) hHeld ?_
          simp only [Act.put, List.getElem_toArray, List.getElem_cons_succ, List.getElem_cons_zero, List.setIfInBounds_toArray, List.set_cons_zero, List.set_cons_succ]
          refine wpAnyH_take (i := 10) (v := .pointer (some ⟨g, off + i * 2 + 1, none⟩)) rfl (by kernel_rfl) (by kernel_rfl) (by kernel_rfl) (fun _ _ _ h => h) (.inl ⟨by rfl, by intro w hSw; go_simp⟩) hHeld ?_
          simp only [Act.put, List.getElem_toArray, List.getElem_cons_succ, List.getElem_cons_zero, List.setIfInBounds_toArray, List.set_cons_zero, List.set_cons_succ]
          refine wpAnyH_take (i := 11) (v := .int .i64 xw) rfl (by kernel_rfl) (by kernel_rfl) (by kernel_rfl) (fun _ _ _ h => h) (.inl ⟨by rfl, by intro w hSw; obtain ⟨hx0, hx1⟩ := hSw; go_simp⟩) hHeld ?_
          simp only [Act.put, List.getElem_toArray, List.getElem_cons_succ, List.getElem_cons_zero, List.setIfInBounds_toArray, List.set_cons_zero, List.set_cons_succ]
          refine wpAnyH_take (i := 12) (v := .agg #[.slice (some ⟨gy, ot, none⟩) (xl - 1) ct, .int .i64 xw]) rfl (by kernel_rfl) (by kernel_rfl) (by kernel_rfl) (fun _ _ _ h => h) (.inl ⟨by rfl, by intro w hSw; go_simp⟩) hHeld ?_
          simp only [Act.put, List.getElem_toArray, List.getElem_cons_succ, List.getElem_cons_zero, List.setIfInBounds_toArray, List.set_cons_zero, List.set_cons_succ]
          refine wpAnyH_ready (rs := [13]) (by kernel_rfl) (by simp) ?_
          refine AllReadyH.cons rfl (fun K hK => ?_) AllReadyH.nil
          go_simp
          try rw [hW5]
          refine hK.out _ _ SW5 (fun hHeld => ?_)
          clear hK K
          try simp only [Act.put, List.getElem_toArray, List.getElem_cons_succ, List.getElem_cons_zero, List.setIfInBounds_toArray, List.set_cons_zero, List.set_cons_succ]
          refine wpAnyH_ready (rs := [14]) (by kernel_rfl) (by simp) ?_
          refine AllReadyH.cons rfl (fun K hK => ?_) AllReadyH.nil
          rw [if_pos (by rfl)]
          refine wp_append_run _ _ 65 rfl _ _ rfl rfl (v' := v6) (w' := W6) HR6.out ?_
          refine hK.out _ _ SW6 (fun hHeld => ?_)
          clear hK K
          try simp only [Act.put, List.getElem_toArray, List.getElem_cons_succ, List.getElem_cons_zero, List.setIfInBounds_toArray, List.set_cons_zero, List.set_cons_succ]
          refine wpAnyH_ready (rs := [15]) (by kernel_rfl) (by simp) ?_
          refine AllReadyH.cons rfl (fun K hK => ?_) AllReadyH.nil
          go_simp
          refine hK.out _ _ SW6 (fun hHeld => ?_)
          clear hK K
          try simp only [Act.put, List.getElem_toArray, List.getElem_cons_succ, List.getElem_cons_zero, List.setIfInBounds_toArray, List.set_cons_zero, List.set_cons_succ]
          refine wpAnyH_done (by kernel_rfl) ?_ _
          refine NoPanic.normal ?_
          go_wp2_with fail
          refine ⟨⟨i + 1, qd ++ [⟨xr, xw, .slice (some ⟨gy, ot, none⟩) (xl - 1) ct⟩], by first | rfl | congr 1, by omega, by simp; omega, ?_, ?_, ?_, HB6.out⟩, ?_⟩
          · rw [rw_append, HQD.out, HNX.out]; rfl
          · rw [rowR_snoc, List.length_append]; exact HO6.out
          · intro z hz
            rcases List.mem_append.1 hz with hz | hz
            · exact HIC.out z hz
            · simp only [List.mem_singleton] at hz
              subst hz
              exact hTI
          · simp [intOf]; omega
        · rw [if_neg (by simp [hcc])] at hnext
          have hceq : (c1' == c) = false := by rw [beq_eq_false_iff_ne]; exact hcc
          have HNX := Lib.hid hnext
          have HQD := Lib.hid hqd
          have HROW := Lib.hid hrow
          have HIC := Lib.hid hic
          have HB := Lib.hid hb
          clear hnext hts hqd hrow hic hb l1 l2 l3 l4 hIC hx c0 c1 hcc f2
          go_wp2_with fail
          refine ⟨⟨i + 1, qd, by first | rfl | congr 1, by omega, by omega, by rw [HQD.out, HNX.out], HROW.out, HIC.out, HB.out⟩, ?_⟩
          simp [intOf]; omega
    · have hin : i = n := by omega
      subst hin
      rw [List.take_of_length_le (by omega)] at hqd
      go_wp2_with fail
      go_ret
      exact ⟨_, rfl, qd, rrests_own hrow (by omega) (fun g hg ho => by have h1 := owns_base hrow g hg; have h2 := hO g ho; omega) (fun y hy => (hic y hy).turn (Turn.of_below hb) (fun _ _ h => h)), hqd, hb⟩
set_option maxRecDepth 100000 in
set_option maxHeartbeats 4000000 in
theorem rsame_any (v v' : Value) (q q' : List RS) (w : World) (h : RAre w v q) (h' : RAre w v' q') : Calls Tryd.prog 41 #[v, v'] w fun e w' => e = .returned (.bool (decide (rw q = rw q'))) ∧ Below w.heap.size w w' := by
  have hlen := h.len
  have hlen' := h'.len
  have hrun := h.runes
  have hrun' := h'.runes
  obtain ⟨av, cv, rfl⟩ := h.slice
  obtain ⟨av', cv', rfl⟩ := h'.slice
  obtain ⟨n, hn⟩ : ∃ n, q.length = n := ⟨_, rfl⟩
  obtain ⟨n', hn'⟩ : ∃ n, q'.length = n := ⟨_, rfl⟩
  rw [hn] at h hlen ⊢
  rw [hn'] at h' hlen' ⊢
  have HRUN := Lib.hid hrun
  have HRUN' := Lib.hid hrun'
  clear hrun hrun'
  go_enter Tryd.func41, Tryd.ntmps41
  by_cases he : n = n'
  · subst he
    go_wp2_with fail
    go_loopw [5, 6] (fun x5 x6 wr => ∃ i : Nat, x5 = .int .i64 i ∧ i ≤ n ∧ (rw q).take i = (rw q').take i ∧ Below w.heap.size w wr) (fun x5 _ _ => n - (intOf x5).toNat)
    case atStart => exact ⟨0, rfl, Nat.zero_le _, rfl, Below.refl _ _⟩
    case round =>
      obtain ⟨i, rfl, hi, ht, hb⟩ := hrel
      have hbz := hb.size
      by_cases hlt : (i : Int) < (n : Int)
      · obtain ⟨x, hx⟩ : ∃ x, q[i]? = some x := ⟨_, List.getElem?_eq_getElem (by omega)⟩
        obtain ⟨y, hy⟩ : ∃ y, q'[i]? = some y := ⟨_, List.getElem?_eq_getElem (by omega)⟩
        obtain ⟨g, off, rfl, hg, _, c0, c1⟩ := h.at_ hx
        obtain ⟨g', off', rfl, hg', _, d0, d1⟩ := h'.at_ hy
        have hIC := HRUN.out x (List.mem_of_getElem? hx)
        have hIC' := HRUN'.out y (List.mem_of_getElem? hy)
        obtain ⟨ua, uc, hu, _⟩ := hIC
        obtain ⟨ua', uc', hu', _⟩ := hIC'
        have hrx : (rw q)[i]? = some (x.r, x.wt) := by unfold rw; rw [List.getElem?_map, hx]; rfl
        have hry : (rw q')[i]? = some (y.r, y.wt) := by unfold rw; rw [List.getElem?_map, hy]; rfl
        have htx := take_snoc hrx
        have hty := take_snoc hry
        have hI := ((HRUN.out x (List.mem_of_getElem? hx)).turn (O' := fun _ => False) (Turn.of_below hb) (fun _ _ h => h)).turn (O' := fun _ => False) (Turn.of_below (Below.refl _ _).drew) (fun _ _ h => h) |>.ints
        have hI' := ((HRUN'.out y (List.mem_of_getElem? hy)).turn (O' := fun _ => False) (Turn.of_below hb) (fun _ _ h => h)).turn (O' := fun _ => False) (Turn.of_below (Below.refl _ _).drew) (fun _ _ h => h) |>.ints
        have hsame := same_any x.u y.u x.r y.r wr.drew hI hI'
        obtain ⟨xr, xw, xu⟩ := x
        obtain ⟨yr, yw, yu⟩ := y
        dsimp only at c0 c1 d0 d1 hu hu' htx hty hsame hrx hry
        obtain ⟨xl, hxl⟩ : ∃ xl, xr.length = xl := ⟨_, rfl⟩
        obtain ⟨yl, hyl⟩ : ∃ xl, yr.length = xl := ⟨_, rfl⟩
        rw [hxl] at hu
        rw [hyl] at hu'
        subst hu hu'
        have e0 := (hb.cell (p := ⟨g, off + i * 2, none⟩) hg).trans c0
        have e1 := (hb.cell (p := ⟨g, off + i * 2 + 1, none⟩) hg).trans c1
        have f0 := (hb.cell (p := ⟨g', off' + i * 2, none⟩) hg').trans d0
        have f1 := (hb.cell (p := ⟨g', off' + i * 2 + 1, none⟩) hg').trans d1
        have j0 : (0 : Int) ≤ (i : Int) := by omega
        have HSM := Lib.hid hsame
        have HT := Lib.hid ht
        have HTX := Lib.hid htx
        have HTY := Lib.hid hty
        have HRX := Lib.hid hrx
        have HRY := Lib.hid hry
        have HB := Lib.hid hb
        clear hsame ht htx hty hb hx hy hI hI' hrx hry
        by_cases hr : xr = yr
        · by_cases hw : xw = yw
          · have hwb : (xw == yw) = true := by rw [beq_iff_eq]; exact hw
            go_wp2_with fail
            go_still_tail 10, (by kernel_rfl)
            change wpList _ _ _ _ _ wr.drew
            go_wp2_with (go_at_call 46; refine HSM.out.mono ?_; rintro e wc ⟨rfl, hbc⟩; rw [decide_eq_true hr]; have e1' := (hbc.cell (p := ⟨g, off + i * 2 + 1, none⟩) (by show g < wr.heap.size; omega)).trans (show wr.drew.cell? ⟨g, off + i * 2 + 1, none⟩ = _ from e1); have f1' := (hbc.cell (p := ⟨g', off' + i * 2 + 1, none⟩) (by show g' < wr.heap.size; omega)).trans (show wr.drew.cell? ⟨g', off' + i * 2 + 1, none⟩ = _ from f1))
            go_quiet (fail)
            go_wp2_with fail
            have hbe : Below w.heap.size w wc := HB.out.trans (((Below.refl _ _).drew.trans hbc).mono hbz)
            refine ⟨⟨i + 1, by first | rfl | congr 1, by omega, by rw [HTX.out, HTY.out, HT.out, hr, hw], below_drewN hbe _⟩, ?_⟩
            simp [intOf]; omega
          · have hwb : (xw == yw) = false := by rw [beq_eq_false_iff_ne]; exact hw
            have hwb' : (xw != yw) = true := by rw [bne_iff_ne]; exact hw
            go_wp2_with fail
            go_still_tail 10, (by kernel_rfl)
            change wpList _ _ _ _ _ wr.drew
            go_wp2_with (go_at_call 46; refine HSM.out.mono ?_; rintro e wc ⟨rfl, hbc⟩; rw [decide_eq_true hr]; have e1' := (hbc.cell (p := ⟨g, off + i * 2 + 1, none⟩) (by show g < wr.heap.size; omega)).trans (show wr.drew.cell? ⟨g, off + i * 2 + 1, none⟩ = _ from e1); have f1' := (hbc.cell (p := ⟨g', off' + i * 2 + 1, none⟩) (by show g' < wr.heap.size; omega)).trans (show wr.drew.cell? ⟨g', off' + i * 2 + 1, none⟩ = _ from f1))
            go_quiet (fail)
            go_wp2_with fail
            have hbe : Below w.heap.size w wc := HB.out.trans (((Below.refl _ _).drew.trans hbc).mono hbz)
            go_ret
            refine ⟨ret_bool (a := false) (decide_eq_false (fun e => ?_)).symm, below_drewN hbe _⟩
            have h1 := HRX.out
            rw [e, HRY.out] at h1
            simp only [Option.some.injEq, Prod.mk.injEq] at h1
            exact hw h1.2.symm
        · go_wp2_with fail
          go_still_tail 10, (by kernel_rfl)
          change wpList _ _ _ _ _ wr.drew
          go_wp2_with (go_at_call 46; refine HSM.out.mono ?_; rintro e wc ⟨rfl, hbc⟩; rw [decide_eq_false hr])
          go_quiet (fail)
          go_wp2_with fail
          have hbe : Below w.heap.size w wc := HB.out.trans (((Below.refl _ _).drew.trans hbc).mono hbz)
          go_ret
          refine ⟨ret_bool (a := false) (decide_eq_false (fun e => ?_)).symm, below_drewN hbe _⟩
          have h1 := HRX.out
          rw [e, HRY.out] at h1
          simp only [Option.some.injEq, Prod.mk.injEq] at h1
          exact hr h1.1.symm
      · have hin : i = n := by omega
        rw [List.take_of_length_le (by rw [rw_len]; omega), List.take_of_length_le (by rw [rw_len]; omega)] at ht
        have HT := Lib.hid ht
        clear ht
        go_wp2_with fail
        go_ret
        exact ⟨ret_bool (a := true) (decide_eq_true HT.out).symm, hb⟩
  · have hnb : ((n : Int) == (n' : Int)) = false := by rw [beq_eq_false_iff_ne]; omega
    have hnb' : ((n : Int) != (n' : Int)) = true := by rw [bne_iff_ne]; omega
    go_wp2_with fail
    go_ret
    refine ⟨ret_bool (a := false) (decide_eq_false (fun e => ?_)).symm, Below.refl _ _⟩
    have h1 := congrArg List.length e
    rw [rw_len, rw_len] at h1
    omega
/-- a row of rows of rests -/
def AllAre (w : World) (v : Value) (L : List (List RS)) : Prop :=
  ∃ a cap, v = .slice a L.length cap ∧ L.length ≤ 1000000 ∧ ∀ j q, L[j]? = some q → ∃ g off u, a = some ⟨g, off, none⟩ ∧ g < w.heap.size ∧ w.cell? ⟨g, off + j, none⟩ = some u ∧ RAre w u q
theorem AllAre.below {w w' : World} {v : Value} {L : List (List RS)} (h : AllAre w v L) (hb : Below w.heap.size w w') : AllAre w' v L := by
  obtain ⟨a, cap, rfl, hl, h⟩ := h
  refine ⟨a, cap, rfl, hl, fun j q hj => ?_⟩
  obtain ⟨g, off, u, e, hg, hc, hr⟩ := h j q hj
  exact ⟨g, off, u, e, Nat.lt_of_lt_of_le hg hb.size, (hb.cell (p := ⟨g, off + j, none⟩) hg).trans hc, hr.below hb⟩
/-- where levelled rests stand; -1: they do not -/
def inF (L : List (List Rw)) (l : List Rw) : Int := match L.findIdx? (fun x => decide (x = l)) with | some n => (n : Nat) | none => -1
set_option maxRecDepth 100000 in
set_option maxHeartbeats 4000000 in
theorem rin_any (v u : Value) (L : List (List RS)) (q : List RS) (w : World) (h : AllAre w v L) (hq : RAre w u q) : Calls Tryd.prog 32 #[v, u] w fun e w' => e = .returned (.int .i64 (inF (L.map rw) (rw q))) ∧ Below w.heap.size w w' := by
  have hsl : ∃ a cap, v = .slice a L.length cap := by obtain ⟨a, cap, e, _⟩ := h; exact ⟨a, cap, e⟩
  obtain ⟨av, cv, rfl⟩ := hsl
  have hlen : L.length ≤ 1000000 := by obtain ⟨_, _, _, h, _⟩ := h; exact h
  have hat : ∀ j q, L[j]? = some q → ∃ g off u, av = some ⟨g, off, none⟩ ∧ g < w.heap.size ∧ w.cell? ⟨g, off + j, none⟩ = some u ∧ RAre w u q := by
    obtain ⟨a', cap', e, _, h⟩ := h
    simp only [Value.slice.injEq] at e
    obtain ⟨rfl, _, _⟩ := e
    exact h
  obtain ⟨n, hn⟩ : ∃ n, L.length = n := ⟨_, rfl⟩
  rw [hn] at hlen ⊢
  obtain ⟨qa, qc, rfl⟩ := hq.slice
  obtain ⟨ql, hql⟩ : ∃ ql, q.length = ql := ⟨_, rfl⟩
  rw [hql] at hq ⊢
  clear h
  go_enter Tryd.func32, Tryd.ntmps32
  go_wp2_with fail
  go_loopw [5, 6] (fun x5 x6 wr => ∃ i : Nat, x5 = .int .i64 i ∧ i ≤ n ∧ (∀ j, j < i → ∀ x, L[j]? = some x → rw x ≠ rw q) ∧ Below w.heap.size w wr) (fun x5 _ _ => n - (intOf x5).toNat)
  case atStart => exact ⟨0, rfl, Nat.zero_le _, fun j hj => by omega, Below.refl _ _⟩
  case round =>
    obtain ⟨i, rfl, hi, hno, hb⟩ := hrel
    have hbz := hb.size
    by_cases hlt : (i : Int) < (n : Int)
    · obtain ⟨x, hx⟩ : ∃ x, L[i]? = some x := ⟨_, List.getElem?_eq_getElem (by omega)⟩
      obtain ⟨g, off, u', rfl, hg, c0, hxr⟩ := hat i x hx
      have d0 := (hb.cell (p := ⟨g, off + i, none⟩) hg).trans c0
      have hsame := rsame_any u' (.slice qa ql qc) x q wr (hxr.below hb) (hq.below hb)
      obtain ⟨xa, xc, rfl⟩ := hxr.slice
      obtain ⟨xl, hxl⟩ : ∃ xl, x.length = xl := ⟨_, rfl⟩
      rw [hxl] at d0 hsame
      have j0 : (0 : Int) ≤ (i : Int) := by omega
      have HSM := Lib.hid hsame
      have HNO := Lib.hid hno
      have HX := Lib.hid hx
      have HB := Lib.hid hb
      clear hsame hno hx hb c0 hxr
      by_cases he : rw x = rw q
      · have hin : inF (L.map rw) (rw q) = (i : Int) := by
          unfold inF
          have : (L.map rw).findIdx? (fun y => decide (y = rw q)) = some i := by
            rw [List.findIdx?_eq_some_iff_getElem]
            have hil : i < L.length := by omega
            refine ⟨by rw [List.length_map]; exact hil, ?_, fun j hj => ?_⟩
            · have := (List.getElem?_eq_some_iff.1 HX.out).2
              simp [this, he]
            · have h1 := HNO.out j hj (L[j]'(by omega)) (List.getElem?_eq_getElem (by omega))
              simpa using h1
          rw [this]
        have HIN := Lib.hid hin
        clear hin
        go_wp2_with (go_at_call 41; refine HSM.out.mono ?_; rintro e wc ⟨rfl, hbc⟩; rw [decide_eq_true he])
        go_ret
        exact ⟨by rw [HIN.out]; rfl, HB.out.trans (hbc.mono hbz)⟩
      · go_wp2_with (go_at_call 41; refine HSM.out.mono ?_; rintro e wc ⟨rfl, hbc⟩; rw [decide_eq_false he])
        refine ⟨⟨i + 1, by first | rfl | congr 1, by omega, fun j hj x' hx' => ?_, HB.out.trans (hbc.mono hbz)⟩, ?_⟩
        · by_cases hji : j = i
          · subst hji
            rw [HX.out] at hx'
            cases hx'
            exact he
          · exact HNO.out j (by omega) x' hx'
        · simp [intOf]; omega
    · have hin : inF (L.map rw) (rw q) = -1 := by
        unfold inF
        have : (L.map rw).findIdx? (fun y => decide (y = rw q)) = none := by
          rw [List.findIdx?_eq_none_iff]
          intro y hy
          obtain ⟨x, hx, rfl⟩ := List.mem_map.1 hy
          obtain ⟨j, hj⟩ := List.getElem?_of_mem hx
          have hjl := (List.getElem?_eq_some_iff.1 hj).1
          have h1 := hno j (by omega) x hj
          simpa using h1
        rw [this]
      have HIN := Lib.hid hin
      clear hin
      go_wp2_with fail
      go_ret
      exact ⟨by rw [HIN.out]; rfl, hb⟩
end Go.Proofs.YtpbadnmfgffdlaaDoor.F
