/-
  The document's Least, Level, Under, same.
-/
import Derived.Test.YtpbadnmfgffdlaaDoorFstBldA
import Derived.Test.YtpbadnmfgffdlaaDoorLetSame
import Derived.StillTailTactics
import Derived.Deep.RegionHeld3
import Derived.BigQuiet
namespace Go.Proofs.YtpbadnmfgffdlaaDoor.F
open Go.RowKit Go.Shelf Go.Maps
open Aid L LM
set_option linter.unusedSimpArgs false
set_option linter.unusedVariables false
attribute [local go_sem] Oper.semAt_some

/-- rests, wherever they lie -/
abbrev RAre (w : World) (v : Value) (q : List RS) : Prop := RestsAre (fun _ => False) w v q
theorem RestsAre.below {O : Nat → Prop} {w w' : World} {v : Value} {q : List RS} (h : RestsAre O w v q) (hb : Below w.heap.size w w') : RestsAre O w' v q := h.turn (Turn.of_below hb) (fun _ _ h => h)
theorem rinfo : ∃ i z, Tryd.prog.info? 68 = some i ∧ i.zero = some z ∧ i.size = 2 ∧ i.bytes = 32 ∧ z.cells.size = 2 := by
  have h : (Tryd.prog.info? 68).map (fun i => (i.zero.map (·.cells.size), i.size, i.bytes)) = some (some 2, 2, 32) := by kernel_rfl
  cases hq : Tryd.prog.info? 68 with
  | none => rw [hq] at h; cases h
  | some i =>
    rw [hq] at h
    simp only [Option.map_some, Option.some.injEq, Prod.mk.injEq] at h
    cases hz : i.zero with
    | none => rw [hz] at h; cases h.1
    | some z =>
      rw [hz] at h
      simp only [Option.map_some, Option.some.injEq] at h
      exact ⟨i, z, rfl, hz, h.2.1, h.2.2, h.1⟩
theorem rrests_own {O : Nat → Prop} {W : World} {base : Nat} {u : Value} {q : List RS} (h : W.ownsRow base 68 2 u q.length (rowR q)) (hl : q.length ≤ 4096) (hO : ∀ x, u.ownBlock = some x → ¬ O x) (hr : ∀ x ∈ q, IntsC O W .i32 x.u x.r) : RestsAre O W u q := by
  refine ⟨?_, hr, hl⟩
  rcases h.2 with ⟨rfl, hn⟩ | ⟨g, cap, cur, rfl, hb, hg, hnc, hcm, hcs, htake⟩
  · refine ⟨none, 0, by rw [hn], by omega, fun j x hj => ?_⟩
    have := (List.getElem?_eq_some_iff.1 hj).1
    omega
  · have hgl : g < W.heap.size := (Array.getElem?_eq_some_iff.1 hg).1
    refine ⟨_, cap, rfl, hnc, fun j x hj => ⟨g, 0, rfl, hgl, hO g rfl, ?_, ?_⟩⟩
    · have := h.cells (g := g) rfl (j * 2) _ (rowR_at q j x hj).1
      rw [add_plain] at this
      rw [Nat.zero_add]; exact this
    · have := h.cells (g := g) rfl (j * 2 + 1) _ (rowR_at q j x hj).2
      rw [add_plain] at this
      rw [Nat.zero_add]; exact this
set_option maxRecDepth 100000 in
set_option maxHeartbeats 2000000 in
theorem rleast_any (v : Value) (q : List RS) (w : World) (h : RAre w v q) (hne : q ≠ []) : Calls Tryd.prog 37 #[v] w fun e w' => e = .returned (.int .i64 (leastF (q.map (·.wt)))) ∧ w = w' := by
  have hlen := h.len
  have hpos : 0 < q.length := List.length_pos_iff.2 hne
  obtain ⟨av, cv, rfl⟩ := h.slice
  obtain ⟨n, hn⟩ : ∃ n, q.length = n := ⟨_, rfl⟩
  obtain ⟨x0, hx0⟩ : ∃ x, q[0]? = some x := ⟨_, List.getElem?_eq_getElem hpos⟩
  obtain ⟨g0, off, rfl, hg0, _, k0, k1⟩ := h.at_ hx0
  have hhead : (q.map (·.wt)).headD 0 = x0.wt := by cases q with | nil => exact absurd rfl hne | cons y q => simp at hx0; subst hx0; rfl
  rw [Nat.zero_mul, Nat.add_zero] at k1
  obtain ⟨M, hM⟩ : ∃ M, x0.wt = M := ⟨_, rfl⟩
  rw [hM] at k1 hhead
  rw [hn] at h hlen hpos ⊢
  have i1 : (0 : Int) < (n : Int) := by omega
  have HH := Lib.hid hhead
  clear hhead k0
  go_enter Tryd.func37, Tryd.ntmps37
  go_wp2_with fail
  go_loopw [3, 4] (fun x3 x4 wr => ∃ i : Nat, x4 = .int .i64 i ∧ i ≤ n ∧ x3 = .int .i64 (leastU M ((q.map (·.wt)).take i)) ∧ w = wr) (fun _ x4 _ => n - (intOf x4).toNat)
  case atStart => exact ⟨0, rfl, Nat.zero_le _, rfl, rfl⟩
  case round =>
    obtain ⟨i, rfl, hi, rfl, rfl⟩ := hrel
    by_cases hlt : (i : Int) < (n : Int)
    · obtain ⟨x, hx⟩ : ∃ x, q[i]? = some x := ⟨_, List.getElem?_eq_getElem (by omega)⟩
      obtain ⟨g, off', e, hg, _, c0, c1⟩ := h.at_ hx
      simp only [Option.some.injEq, Addr.mk.injEq] at e
      obtain ⟨rfl, rfl, _⟩ := e
      obtain ⟨y, hy⟩ : ∃ y, x.wt = y := ⟨_, rfl⟩
      rw [hy] at c1
      have hts := take_snoc (l := q.map (·.wt)) (i := i) (x := y) (by rw [List.getElem?_map, hx, ← hy]; rfl)
      obtain ⟨N, hN⟩ : ∃ N, leastU M ((q.map (·.wt)).take i) = N := ⟨_, rfl⟩
      have hnx : leastU M ((q.map (·.wt)).take (i + 1)) = if y < N then y else N := by rw [hts, leastU_snoc, hN]
      rw [hN]
      have HNX := Lib.hid hnx
      have i0 : (0 : Int) ≤ (i : Int) := by omega
      clear hts hnx hN hy c0 hx
      go_wp2_with fail
      refine ⟨⟨i + 1, by first | rfl | congr 1, by omega, by rw [HNX.out], by first | rfl | trivial⟩, ?_⟩
      simp [intOf]; omega
    · have hie : i = n := by omega
      subst hie
      rw [List.take_of_length_le (by rw [List.length_map]; omega)]
      go_wp2_with fail
      go_ret
      refine ⟨?_, rfl⟩
      unfold leastF
      rw [HH.out]
      rfl
def levelRS (lo : Int) (q : List RS) : List RS := q.map fun x => ⟨x.r, x.wt - lo, x.u⟩
set_option maxRecDepth 100000 in
set_option maxHeartbeats 4000000 in
theorem rlevel_any (O : Nat → Prop) (v : Value) (q : List RS) (w : World) (hO : ∀ x, O x → x < w.heap.size) (h : RestsAre O w v q) (hne : q ≠ []) (hwt : ∀ x ∈ q, 0 ≤ x.wt ∧ x.wt ≤ 1048576) : Calls Tryd.prog 31 #[v] w fun e w' =>
    ∃ v', e = .returned v' ∧ RestsAre O w' v' (levelRS (leastF (q.map (·.wt))) q) ∧ Below w.heap.size w w' := by
  have hleast := rleast_any v q w (h.turn (Turn.refl _ _) (fun _ _ h => h.elim)) hne
  have hlen := h.len
  obtain ⟨lo, hlo⟩ : ∃ lo, leastF (q.map (·.wt)) = lo := ⟨_, rfl⟩
  have hlo0 : 0 ≤ lo ∧ lo ≤ 1048576 := by
    have := leastF_mem (l := q.map (·.wt)) (by simpa using hne)
    obtain ⟨x, hx, e⟩ := List.mem_map.1 this
    rw [← hlo, ← e]
    exact hwt x hx
  have hrun := h.runes
  rw [hlo] at hleast ⊢
  obtain ⟨av, cv, rfl⟩ := h.slice
  obtain ⟨n, hn⟩ : ∃ n, q.length = n := ⟨_, rfl⟩
  rw [hn] at h hlen hleast ⊢
  have HLS := Lib.hid hleast
  have HRUN := Lib.hid hrun
  clear hleast hlo hrun
  go_enter Tryd.func31, Tryd.ntmps31
  go_wp2_with (go_at_call 37; refine HLS.out.mono ?_; rintro e w1 ⟨rfl, rfl⟩)
  go_loopw [3, 5] (fun x3 x5 wr => ∃ i : Nat, x5 = .int .i64 i ∧ i ≤ n ∧ wr.ownsRow w.heap.size 68 2 x3 i (rowR (levelRS lo (q.take i))) ∧ Below w.heap.size w wr) (fun _ x5 _ => n - (intOf x5).toNat)
  case atStart => exact ⟨0, rfl, Nat.zero_le _, World.ownsRow_nil _ _ _ _, Below.refl _ _⟩
  case round =>
    obtain ⟨i, rfl, hi, hrow, hb⟩ := hrel
    have hbz := hb.size
    by_cases hlt : (i : Int) < (n : Int)
    · obtain ⟨x, hx⟩ : ∃ x, q[i]? = some x := ⟨_, List.getElem?_eq_getElem (by omega)⟩
      obtain ⟨g, off, rfl, hg, _, c0, c1⟩ := h.at_ hx
      have hxw := hwt x (List.mem_of_getElem? hx)
      obtain ⟨ua, uc, hu, _⟩ := HRUN.out x (List.mem_of_getElem? hx)
      have hts := take_snoc hx
      obtain ⟨xr, xw, xu⟩ := x
      dsimp only at c0 c1 hxw hu
      obtain ⟨xl, hxl⟩ : ∃ xl, xr.length = xl := ⟨_, rfl⟩
      rw [hxl] at hu
      subst hu
      have d0 := (hb.cell (p := ⟨g, off + i * 2, none⟩) hg).trans c0
      have d1 := (hb.cell (p := ⟨g, off + i * 2 + 1, none⟩) hg).trans c1
      have SW : wr.drew.cell? ⟨g, off + i * 2, none⟩ = some (.slice ua xl uc) ∧ wr.drew.cell? ⟨g, off + i * 2 + 1, none⟩ = some (.int .i64 xw) := ⟨d0, d1⟩
      obtain ⟨W5, hW5⟩ : ∃ W5, wr.drew.alloc (.cells #[.slice ua xl uc, .int .i64 (xw - lo)] 68) = W5 := ⟨_, rfl⟩
      have bN5 : Blk W5 wr.heap.size 68 #[.slice ua xl uc, .int .i64 (xw - lo)] := by rw [← hW5]; exact Blk.alloc_new _ _ _
      have hb5 : Below wr.heap.size wr W5 := by rw [← hW5]; exact ((Below.refl _ _).drew).alloc (Nat.le_refl _) _
      have hz5 : W5.heap.size = wr.heap.size + 1 := by rw [← hW5]; simp
      have own5 := owns_below hrow hb5
      obtain ⟨i0, z0, hi0, hz0, hsz0, hby0, hzs0⟩ := rinfo
      obtain ⟨v6, W6, hr6, own6, grow6, _, new6⟩ := run_append_own_at (P := Tryd.prog) W5 w.heap.size 65 65 68 i0 z0 2 32 Tryd.underlying65 hi0 hz0 hsz0 hby0 hzs0 (by decide) u3 i _ own5 ⟨wr.heap.size, 0, none⟩ 1 1 [.slice ua xl uc, .int .i64 (xw - lo)] rfl
        (World.news_of_block bN5) (by intro y hy; simp at hy; rcases hy with rfl | rfl <;> rfl) (by unfold maxLen; omega) (by omega) (by omega)
      have hb6 : Below w.heap.size w W6 := below_grown' (hb.trans (hb5.mono hbz)) grow6 (by omega) (fun k hk => owns_base own5 k hk)
      have SW5 : W5.cell? ⟨g, off + i * 2, none⟩ = some (.slice ua xl uc) ∧ W5.cell? ⟨g, off + i * 2 + 1, none⟩ = some (.int .i64 xw) :=
        ⟨(hb5.cell (p := ⟨g, off + i * 2, none⟩) (by show g < _; omega)).trans d0, (hb5.cell (p := ⟨g, off + i * 2 + 1, none⟩) (by show g < _; omega)).trans d1⟩
      have SW6 : W6.cell? ⟨g, off + i * 2, none⟩ = some (.slice ua xl uc) ∧ W6.cell? ⟨g, off + i * 2 + 1, none⟩ = some (.int .i64 xw) :=
        ⟨(hb6.cell (p := ⟨g, off + i * 2, none⟩) hg).trans c0, (hb6.cell (p := ⟨g, off + i * 2 + 1, none⟩) hg).trans c1⟩
      have j0 : (0 : Int) ≤ (i : Int) := by omega
      have hsub : IntKind.i64.wrap (xw - lo) = xw - lo := IntWalk.i64_in _ (by omega)
      have HR6 := Lib.hid hr6
      have HB6 := Lib.hid hb6
      have HO6 := Lib.hid own6
      have HTS := Lib.hid hts
      clear hr6 hb6 own6 grow6 new6 own5 hz5 hts c0 c1 hx hb hrow
      go_wp2_with fail
      refine wp_region_noPanic ?_
      refine wp_region_held_drew (S := fun w' => w'.cell? ⟨g, off + i * 2, none⟩ = some (.slice ua xl uc) ∧ w'.cell? ⟨g, off + i * 2 + 1, none⟩ = some (.int .i64 xw)) (by kernel_rfl) SW (fun hHeld => ?_)
      refine wpAnyH_take (i := 0) (v := u3) rfl (by kernel_rfl) (by kernel_rfl) (by kernel_rfl) (fun _ _ _ h => h) (.inl ⟨by rfl, by intro w hSw; go_simp⟩) hHeld ?_
      simp only [Act.put, List.getElem_toArray, List.getElem_cons_succ, List.getElem_cons_zero, List.setIfInBounds_toArray, List.set_cons_zero, List.set_cons_succ]
      refine wpAnyH_take (i := 1) (v := (.slice (some ⟨g, off, none⟩) n cv)) rfl (by kernel_rfl) (by kernel_rfl) (by kernel_rfl) (fun _ _ _ h => h) (.inl ⟨by rfl, by intro w hSw; go_simp⟩) hHeld ?_
      simp only [Act.put, List.getElem_toArray, List.getElem_cons_succ, List.getElem_cons_zero, List.setIfInBounds_toArray, List.set_cons_zero, List.set_cons_succ]
      refine wpAnyH_take (i := 2) (v := .int .i64 i) rfl (by kernel_rfl) (by kernel_rfl) (by kernel_rfl) (fun _ _ _ h => h) (.inl ⟨by rfl, by intro w hSw; go_simp⟩) hHeld ?_
      simp only [Act.put, List.getElem_toArray, List.getElem_cons_succ, List.getElem_cons_zero, List.setIfInBounds_toArray, List.set_cons_zero, List.set_cons_succ]
      refine wpAnyH_take (i := 3) (v := .pointer (some ⟨g, off + i * 2, none⟩)) rfl (by kernel_rfl) (by kernel_rfl) (by kernel_rfl) (fun _ _ _ h => h) (.inl ⟨by rfl, by intro w hSw; go_simp⟩) hHeld ?_
      simp only [Act.put, List.getElem_toArray, List.getElem_cons_succ, List.getElem_cons_zero, List.setIfInBounds_toArray, List.set_cons_zero, List.set_cons_succ]
      refine wpAnyH_take (i := 4) (v := .pointer (some ⟨g, off + i * 2, none⟩)) rfl (by kernel_rfl) (by kernel_rfl) (by kernel_rfl) (fun _ _ _ h => h) (.inl ⟨by rfl, by intro w hSw; go_simp⟩) hHeld ?_
      simp only [Act.put, List.getElem_toArray, List.getElem_cons_succ, List.getElem_cons_zero, List.setIfInBounds_toArray, List.set_cons_zero, List.set_cons_succ]
      refine wpAnyH_take (i := 5) (v := (.slice ua xl uc)) rfl (by kernel_rfl) (by kernel_rfl) (by kernel_rfl) (fun _ _ _ h => h) (.inl ⟨by rfl, by intro w hSw; obtain ⟨hx0, hx1⟩ := hSw; go_simp⟩) hHeld ?_
      simp only [Act.put, List.getElem_toArray, List.getElem_cons_succ, List.getElem_cons_zero, List.setIfInBounds_toArray, List.set_cons_zero, List.set_cons_succ]
      refine wpAnyH_take (i := 6) (v := (.slice (some ⟨g, off, none⟩) n cv)) rfl (by kernel_rfl) (by kernel_rfl) (by kernel_rfl) (fun _ _ _ h => h) (.inl ⟨by rfl, by intro w hSw; go_simp⟩) hHeld ?_
      simp only [Act.put, List.getElem_toArray, List.getElem_cons_succ, List.getElem_cons_zero, List.setIfInBounds_toArray, List.set_cons_zero, List.set_cons_succ]
      refine wpAnyH_take (i := 7) (v := .int .i64 i) rfl (by kernel_rfl) (by kernel_rfl) (by kernel_rfl) (fun _ _ _ h => h) (.inl ⟨by rfl, by intro w hSw; go_simp⟩) hHeld ?_
      simp only [Act.put, List.getElem_toArray, List.getElem_cons_succ, List.getElem_cons_zero, List.setIfInBounds_toArray, List.set_cons_zero, List.set_cons_succ]
      refine wpAnyH_take (i := 8) (v := .pointer (some ⟨g, off + i * 2, none⟩)) rfl (by kernel_rfl) (by kernel_rfl) (by kernel_rfl) (fun _ _ _ h => h) (.inl ⟨by rfl, by intro w hSw; go_simp⟩) hHeld ?_
      simp only [Act.put, List.getElem_toArray, List.getElem_cons_succ, List.getElem_cons_zero, List.setIfInBounds_toArray, List.set_cons_zero, List.set_cons_succ]
      refine wpAnyH_take (i := 9) (v := .pointer (some ⟨g, off + i * 2 + 1, none⟩)) rfl (by kernel_rfl) (by kernel_rfl) (by kernel_rfl) (fun _ _ _ h => h) (.inl ⟨by rfl, by intro w hSw; go_simp⟩) hHeld ?_
      simp only [Act.put, List.getElem_toArray, List.getElem_cons_succ, List.getElem_cons_zero, List.setIfInBounds_toArray, List.set_cons_zero, List.set_cons_succ]
      refine wpAnyH_take (i := 10) (v := .int .i64 xw) rfl (by kernel_rfl) (by kernel_rfl) (by kernel_rfl) (fun _ _ _ h => h) (.inl ⟨by rfl, by intro w hSw; obtain ⟨hx0, hx1⟩ := hSw; go_simp⟩) hHeld ?_
      simp only [Act.put, List.getElem_toArray, List.getElem_cons_succ, List.getElem_cons_zero, List.setIfInBounds_toArray, List.set_cons_zero, List.set_cons_succ]
      refine wpAnyH_take (i := 11) (v := .int .i64 lo) rfl (by kernel_rfl) (by kernel_rfl) (by kernel_rfl) (fun _ _ _ h => h) (.inl ⟨by rfl, by intro w hSw; go_simp⟩) hHeld ?_
      simp only [Act.put, List.getElem_toArray, List.getElem_cons_succ, List.getElem_cons_zero, List.setIfInBounds_toArray, List.set_cons_zero, List.set_cons_succ]
      refine wpAnyH_take (i := 12) (v := .int .i64 (xw - lo)) rfl (by kernel_rfl) (by kernel_rfl) (by kernel_rfl) (fun _ _ _ h => h) (.inl ⟨by rfl, by intro w hSw; go_simp⟩) hHeld ?_
      simp only [Act.put, List.getElem_toArray, List.getElem_cons_succ, List.getElem_cons_zero, List.setIfInBounds_toArray, List.set_cons_zero, List.set_cons_succ]
      refine wpAnyH_take (i := 13) (v := .agg #[.slice ua xl uc, .int .i64 (xw - lo)]) rfl (by kernel_rfl) (by kernel_rfl) (by kernel_rfl) (fun _ _ _ h => h) (.inl ⟨by rfl, by intro w hSw; go_simp⟩) hHeld ?_
      simp only [Act.put, List.getElem_toArray, List.getElem_cons_succ, List.getElem_cons_zero, List.setIfInBounds_toArray, List.set_cons_zero, List.set_cons_succ]
      refine wpAnyH_ready (rs := [14]) (by kernel_rfl) (by simp) ?_
      refine AllReadyH.cons rfl (fun K hK => ?_) AllReadyH.nil
      go_simp
      try rw [hW5]
      refine hK.out _ _ SW5 (fun hHeld => ?_)
      clear hK K
      try simp only [Act.put, List.getElem_toArray, List.getElem_cons_succ, List.getElem_cons_zero, List.setIfInBounds_toArray, List.set_cons_zero, List.set_cons_succ]
      refine wpAnyH_ready (rs := [15]) (by kernel_rfl) (by simp) ?_
      refine AllReadyH.cons rfl (fun K hK => ?_) AllReadyH.nil
      rw [if_pos (by rfl)]
      refine wp_append_run _ _ 65 rfl _ _ rfl rfl (v' := v6) (w' := W6) HR6.out ?_
      refine hK.out _ _ SW6 (fun hHeld => ?_)
      clear hK K
      try simp only [Act.put, List.getElem_toArray, List.getElem_cons_succ, List.getElem_cons_zero, List.setIfInBounds_toArray, List.set_cons_zero, List.set_cons_succ]
      refine wpAnyH_ready (rs := [16]) (by kernel_rfl) (by simp) ?_
      refine AllReadyH.cons rfl (fun K hK => ?_) AllReadyH.nil
      go_simp
      refine hK.out _ _ SW6 (fun hHeld => ?_)
      clear hK K
      try simp only [Act.put, List.getElem_toArray, List.getElem_cons_succ, List.getElem_cons_zero, List.setIfInBounds_toArray, List.set_cons_zero, List.set_cons_succ]
      refine wpAnyH_done (by kernel_rfl) ?_ _
      refine NoPanic.normal ?_
      clear hsub
      go_wp2_with fail
      refine ⟨⟨i + 1, by first | rfl | congr 1, by omega, ?_, HB6.out⟩, ?_⟩
      · rw [HTS.out]
        unfold levelRS
        rw [List.map_append]
        exact (rowR_snoc _ _).symm ▸ HO6.out
      · simp [intOf]; omega
    · have hin : i = n := by omega
      subst hin
      rw [List.take_of_length_le (by omega)] at hrow
      go_wp2_with fail
      go_ret
      refine ⟨_, rfl, rrests_own (by unfold levelRS at hrow ⊢; rw [List.length_map, hn]; exact hrow) (by unfold levelRS; rw [List.length_map]; omega) (fun g hg ho => by have h1 := owns_base hrow g hg; have h2 := hO g ho; omega) (fun x hx => ?_), hb⟩
      unfold levelRS at hx
      obtain ⟨y, hy, rfl⟩ := List.mem_map.1 hx
      exact (HRUN.out y hy).turn (Turn.of_below hb) (fun _ _ h => h)
end Go.Proofs.YtpbadnmfgffdlaaDoor.F
