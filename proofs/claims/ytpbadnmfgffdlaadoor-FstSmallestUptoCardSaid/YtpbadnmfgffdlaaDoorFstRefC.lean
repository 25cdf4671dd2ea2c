/-
  The document's Rests, firsts.
-/
import Derived.Test.YtpbadnmfgffdlaaDoorFstRefB
import Derived.Test.YtpbadnmfgffdlaaDoorLetRefB
namespace Go.Proofs.YtpbadnmfgffdlaaDoor.F
open Go.RowKit Go.Shelf Go.Maps
open Aid L LM
set_option linter.unusedSimpArgs false
set_option linter.unusedVariables false
attribute [local go_sem] Oper.semAt_some

theorem rrunes_ints (s : ByteArray) (w : World) (hs : (s.size : Int) ≤ 35184372088832) : Calls Tryd.prog 16 #[.string s] w fun e w' =>
    ∃ a n c rb, e = .returned (.tuple #[.slice a n c, .bool rb]) ∧ Below w.heap.size w w' ∧ IntsC (fun x => x < w.heap.size) w' .i32 (.slice a n c) (runesOf s) := by
  refine (rrunes_any s w (by omega) (fits_small (by omega))).mono ?_
  rintro e w' ⟨hb, ⟨h1, rfl⟩ | ⟨l, v, h1, rfl, h2⟩⟩
  · have e : runesOf s = [] := by unfold runesOf; rw [h1]; rfl
    exact ⟨none, 0, 0, _, rfl, hb, by rw [e]; exact ⟨none, 0, rfl, by simp, by simp, (fun _ _ => rfl), fun j hj => by simp at hj⟩⟩
  · have e : runesOf s = l := by unfold runesOf; rw [h1]; rfl
    obtain ⟨a, c, hv⟩ := owns_shape h2
    subst hv
    have hll := runes_len h1
    exact ⟨_, _, _, _, rfl, hb, by rw [e]; exact ints_own h2 (by omega) (fun g hg h => by have h1 := owns_base h2 g hg; have h2' : g < w.heap.size := h; omega)⟩
set_option maxRecDepth 100000 in
set_option maxHeartbeats 4000000 in
theorem rrests_off (O : Nat → Prop) (v : Value) (l : List Wd) (w : World) (hO : ∀ x, O x → x < w.heap.size) (h : PairsIn w v l) (hl4 : l.length ≤ 4096) : Calls Tryd.prog 30 #[v] w fun e w' =>
    ∃ v', e = .returned v' ∧ (∃ q, RestsAre O w' v' q ∧ rw q = restsF l) ∧ Below w.heap.size w w' := by
  obtain ⟨av, cv, rfl⟩ := h.slice
  have hok := h.ok
  obtain ⟨n, hn⟩ : ∃ n, l.length = n := ⟨_, rfl⟩
  have hcap : (n : Int) ≤ (cv : Int) := by obtain ⟨_, _, e, _, h, _⟩ := h; cases e; omega
  rw [hn] at h hl4 ⊢
  go_enter Tryd.func30, Tryd.ntmps30
  go_wp2_with fail
  go_loopw [3, 4, 5, 6] (fun x3 x4 x5 x6 wr => ∃ (i : Nat) (q : List RS), x4 = .int .i64 i ∧ i ≤ n ∧ q.length = i ∧ rw q = restsF (l.take i) ∧ wr.ownsRow w.heap.size 68 2 x3 q.length (rowR q) ∧ (∀ y ∈ q, IntsC (fun g => x3.ownBlock = some g ∨ O g) wr .i32 y.u y.r) ∧ Below w.heap.size w wr) (fun _ x4 _ _ _ => n - (intOf x4).toNat)
  case atStart => exact ⟨0, [], rfl, Nat.zero_le _, rfl, rfl, World.ownsRow_nil _ _ _ _, by simp, Below.refl _ _⟩
  case round =>
    obtain ⟨i, q, rfl, hi, hql, hq, hrow, hic, hb⟩ := hrel
    have hbz := hb.size
    by_cases hlt : (i : Int) < (n : Int)
    · obtain ⟨x, hx⟩ : ∃ x, l[i]? = some x := ⟨_, List.getElem?_eq_getElem (by omega)⟩
      obtain ⟨g, off, rfl, hg, c0, c1⟩ := h.at_ hx
      have hxs := (hok x (List.mem_of_getElem? hx)).1
      have hts := take_snoc hx
      obtain ⟨xs, xw⟩ := x
      dsimp only at c0 c1 hxs
      have d0 := (hb.cell (p := ⟨g, off + i * 2, none⟩) hg).trans c0
      have d1 := (hb.cell (p := ⟨g, off + i * 2 + 1, none⟩) hg).trans c1
      have j0 : (0 : Int) ≤ (i : Int) := by omega
      have hgr : g < wr.heap.size := by omega
      obtain ⟨i0, z0, hi0, hz0, hsz0, hby0, hzs0⟩ := rinfo
      have HTS := Lib.hid hts
      have HQ := Lib.hid hq
      have HIC := Lib.hid hic
      have HB := Lib.hid hb
      clear hts hq hic hx c0 c1 hb
      go_wp2_with (first
        | (at_builtin; refine wpList_append_own_at _ rfl _ _ 65 rfl w.heap.size 68 i0 z0 2 32 Tryd.underlying65 hi0 hz0 hsz0 hby0 hzs0 (by decide) _ _ _ rfl (own3.alloc _) ⟨w3.heap.size, 0, none⟩ 1 1 _ rfl rfl (World.news_of_block (Blk.alloc_new _ _ _)) (by intro y hy; simp at hy; rcases hy with rfl | rfl <;> rfl) (by unfold maxLen; omega) (by omega) (by simp; omega) ?_; intro v' w1 hown' hgrow hnil hat)
        | (go_at_call 16; refine (rrunes_ints xs _ hxs).mono ?_; rintro e w3 ⟨ra, rl, rc, rb, rfl, hb3, hI3⟩; have own3 := owns_below hrow hb3; have e0 := (hb3.cell (p := ⟨g, off + i * 2, none⟩) hgr).trans d0; have e1 := (hb3.cell (p := ⟨g, off + i * 2 + 1, none⟩) hgr).trans d1; have hz3 := hb3.size))
      have hal : Below w3.heap.size w3 (w3.alloc (.cells #[.slice ra rl rc, .int .i64 xw] 68)) := (Below.refl _ _).alloc (Nat.le_refl _) _
      have hbA := hb3.trans (hal.mono hz3)
      have hTg : ∀ {A : World}, Below A.heap.size A (w3.alloc (.cells #[.slice ra rl rc, .int .i64 xw] 68)) → Turn (fun g => u3.ownBlock = some g) A w1 := fun {A} hb => ⟨Nat.le_trans hb.size hgrow.size, hgrow.os.trans hb.os, hgrow.tape.trans hb.tape, hgrow.output.trans hb.output, fun y hy hn => (hgrow.block y (Nat.lt_of_lt_of_le hy hb.size) (fun e => hn e.symm)).trans (hb.block y hy)⟩
      have hOv : ∀ x, x < w3.heap.size → v'.ownBlock = some x → u3.ownBlock = some x := fun x hx e => by
        rcases hat with e' | e'
        · exact e' ▸ e
        · rw [e'] at e; simp at e; omega
      have hu3 : ∀ x, u3.ownBlock = some x → x < wr.heap.size := fun x hx => (hrow.lt x hx).2
      have hB1 : Below w.heap.size w w1 := below_grown' (HB.out.trans (hbA.mono hbz)) hgrow (by simp; omega) (fun k hk => owns_base hrow k hk)
      refine ⟨⟨i + 1, q ++ [⟨runesOf xs, xw, .slice ra rl rc⟩], by first | rfl | congr 1, by omega, by simp; omega, ?_, ?_, ?_, hB1⟩, ?_⟩
      · rw [rw_append, HQ.out, HTS.out]
        unfold restsF
        rw [List.map_append]
        rfl
      · rw [rowR_snoc, List.length_append]
        exact hown'
      · intro y hy
        rcases List.mem_append.1 hy with hy | hy
        · exact (HIC.out y hy).turn ((hTg hbA).more (fun x _ e => .inl e)) (fun x hx e => e.elim (fun e => .inl (hOv x (by omega) e)) .inr)
        · simp only [List.mem_singleton] at hy
          subst hy
          refine hI3.turn ((hTg hal).more (fun x _ e => hu3 x e)) (fun x hx e => e.elim (fun e => hu3 x (hOv x hx e)) (fun e => by have := hO x e; show x < wr.heap.size; omega))
      · simp [intOf]; omega
    · have hin : i = n := by omega
      subst hin
      rw [List.take_of_length_le (by omega)] at hq
      go_wp2_with fail
      go_ret
      exact ⟨_, rfl, ⟨q, rrests_own hrow (by omega) (fun g hg ho => by have h1 := owns_base hrow g hg; have h2 := hO g ho; omega) (fun y hy => (hic y hy).turn (Turn.refl _ _) (fun _ _ h => .inr h)), hq⟩, hb⟩
theorem rrests_any (v : Value) (l : List Wd) (w : World) (h : PairsIn w v l) (hl4 : l.length ≤ 4096) : Calls Tryd.prog 30 #[v] w fun e w' =>
    ∃ v', e = .returned v' ∧ (∃ q, RAre w' v' q ∧ rw q = restsF l) ∧ Below w.heap.size w w' := rrests_off (fun _ => False) v l w (fun _ h => h.elim) h hl4
/-- the first runes, each once where they stand in order -/
def fstep (out : List Int) (x : Rw) : List Int := match x.1 with | [] => out | c :: _ => if out = [] ∨ out.getLast? ≠ some c then out ++ [c] else out
def firstsF (l : List Rw) : List Int := l.foldl fstep []
theorem firstsF_snoc (l : List Rw) (x : Rw) : firstsF (l ++ [x]) = fstep (firstsF l) x := by unfold firstsF; rw [List.foldl_append]; rfl
theorem fstep_len (out : List Int) (x : Rw) : (fstep out x).length ≤ out.length + 1 := by
  unfold fstep
  split
  · omega
  · split <;> simp
set_option maxRecDepth 100000 in
set_option maxHeartbeats 4000000 in
theorem rfirsts_any (v : Value) (q : List RS) (w : World) (h : RAre w v q) : Calls Tryd.prog 45 #[v] w fun e w' =>
    ∃ v', e = .returned v' ∧ IntsC (fun x => x < w.heap.size) w' .i32 v' (firstsF (rw q)) ∧ (firstsF (rw q)).length ≤ 4096 ∧ Below w.heap.size w w' := by
  have hlen := h.len
  have hrun := h.runes
  obtain ⟨av, cv, rfl⟩ := h.slice
  obtain ⟨n, hn⟩ : ∃ n, q.length = n := ⟨_, rfl⟩
  rw [hn] at h hlen ⊢
  have HRUN := Lib.hid hrun
  clear hrun
  obtain ⟨i0, hi, hz0, hz1, hz2⟩ := info_parts info_i32
  go_enter Tryd.func45, Tryd.ntmps45
  go_wp2_with fail
  go_loopw [3, 4] (fun x3 x4 wr => ∃ (i : Nat) (out : List Int), x4 = .int .i64 i ∧ i ≤ n ∧ out.length ≤ i ∧ firstsF (rw (q.take i)) = out ∧ wr.ownsRow w.heap.size 21 1 x3 out.length (out.map (.int .i32)) ∧ Below w.heap.size w wr) (fun _ x4 _ => n - (intOf x4).toNat)
  case atStart => exact ⟨0, [], rfl, Nat.zero_le _, by simp, rfl, World.ownsRow_nil _ _ _ _, Below.refl _ _⟩
  case round =>
    obtain ⟨i, out, rfl, hi', hol, hq, hrow, hb⟩ := hrel
    have hbz := hb.size
    by_cases hlt : (i : Int) < (n : Int)
    · obtain ⟨x, hx⟩ : ∃ x, q[i]? = some x := ⟨_, List.getElem?_eq_getElem (by omega)⟩
      obtain ⟨g, off, rfl, hg, _, c0, c1⟩ := h.at_ hx
      obtain ⟨ua, uc, hu, l1, l2, l3, l4⟩ := HRUN.out x (List.mem_of_getElem? hx)
      have hts := take_snoc hx
      have hnext : firstsF (rw (q.take (i + 1))) = fstep out (x.r, x.wt) := by
        rw [hts, rw_append, ← hq]
        exact firstsF_snoc _ (x.r, x.wt)
      obtain ⟨xr, xw, xu⟩ := x
      dsimp only at c0 c1 hu hnext l1 l2 l3 l4
      obtain ⟨xl, hxl⟩ : ∃ xl, xr.length = xl := ⟨_, rfl⟩
      rw [hxl] at hu l1
      subst hu
      have d0 := (hb.cell (p := ⟨g, off + i * 2, none⟩) hg).trans c0
      have j0 : (0 : Int) ≤ (i : Int) := by omega
      obtain ⟨oa, oc, hos⟩ := owns_shape hrow
      obtain ⟨ol, hol'⟩ : ∃ ol, out.length = ol := ⟨_, rfl⟩
      rw [hol'] at hos hol
      cases xr with
      | nil =>
        have hx0 : xl = 0 := by rw [← hxl]; rfl
        subst hx0
        have HNX := Lib.hid hnext
        have HROW := Lib.hid hrow
        have HB := Lib.hid hb
        have HOS := Lib.hid hos
        clear hnext hts hq hrow hb l1 l2 l3 l4 hx c0 c1 hos
        go_wp2_with fail
        go_quiet (fail)
        go_wp2_with fail
        refine ⟨⟨i + 1, out, by first | rfl | congr 1, by omega, by omega, HNX.out, owns_below HROW.out (below_drewN (Below.refl _ _) _), below_drewN HB.out _⟩, ?_⟩
        simp [intOf]; omega
      | cons c1' xr =>
        obtain ⟨gy, offy, rfl, hgy, _, f2⟩ := l4 0 (by simp)
        rw [Nat.add_zero] at f2
        have f2 : w.cell? ⟨gy, offy, none⟩ = some (.int .i32 c1') := f2
        have f3 := (hb.cell (p := ⟨gy, offy, none⟩) hgy).trans f2
        have hxp : (0 : Int) < (xl : Int) := by rw [← hxl, List.length_cons]; omega
        have hgr : g < wr.heap.size := by omega
        have hgyr : gy < wr.heap.size := by omega
        have hdx : decide (0 < xl) = true := decide_eq_true (by omega)
        by_cases ho0 : out = []
        · have hnext2 : fstep out (c1' :: xr, xw) = out ++ [c1'] := by unfold fstep; simp [ho0]
          rw [hnext2] at hnext
          have hl0 : ol = 0 := by rw [← hol', ho0]; rfl
          have hlb : ((ol : Int) == 0) = true := by rw [beq_iff_eq]; omega
          have HNX := Lib.hid hnext
          have HROW := Lib.hid hrow
          have HB := Lib.hid hb
          have HL0 := Lib.hid hl0
          have HO0 := Lib.hid ho0
          have HHQ := Lib.hid hq
          rw [hos] at HROW ⊢
          clear hnext hnext2 hts hq hrow hb l1 l2 l3 l4 hx c0 c1 hl0 ho0 f2
          go_wp2_with fail
          go_quiet (fail)
          have hbq := below_drewN (Below.refl wr.heap.size wr) nq
          obtain ⟨W5, hW5⟩ : ∃ W5, wr.drewN nq = W5 := ⟨_, rfl⟩
          rw [hW5] at hbq ⊢
          have own5 := owns_below HROW.out hbq
          have d05 := (hbq.cell (p := ⟨g, off + i * 2, none⟩) hgr).trans d0
          have f35 := (hbq.cell (p := ⟨gy, offy, none⟩) hgyr).trans f3
          have h5s := hbq.size
          clear hW5
          go_wp2_with (at_builtin; refine wpList_append_own_at _ rfl _ _ 32 rfl w.heap.size 21 i0 (.int .i32 0) 1 4 Tryd.underlying32 hi hz0 hz1 hz2 rfl (by decide) _ _ _ rfl (own5.alloc _) ⟨W5.heap.size, 0, none⟩ 1 1 _ rfl rfl (World.news_of_block (Blk.alloc_new _ _ _)) (by intro y hy; simp at hy; subst hy; rfl) (by unfold maxLen; omega) (by omega) (by simp; omega) ?_; intro v' w1 hown' hgrow hnil hat)
          have hB1 : Below w.heap.size w w1 := below_grown' ((HB.out.trans (hbq.mono hbz)).alloc (by omega) _) hgrow (by simp; omega) (fun k hk => owns_base HROW.out k hk)
          refine ⟨⟨i + 1, out ++ [c1'], by first | rfl | congr 1, by omega, by simp; omega, by rw [HNX.out], by rw [List.length_append, List.map_append]; exact hown', hB1⟩, ?_⟩
          simp [intOf]; omega
        · obtain ⟨z, hz⟩ : ∃ z, out.getLast? = some z := by
            cases hq2 : out.getLast? with
            | none => rw [List.getLast?_eq_none_iff] at hq2; exact absurd hq2 ho0
            | some z => exact ⟨z, rfl⟩
          have hlp : 0 < ol := by rw [← hol']; exact List.length_pos_iff.2 ho0
          obtain ⟨m, hm⟩ : ∃ m, ol = m + 1 := ⟨ol - 1, by omega⟩
          have hzat : out[m]? = some z := by rw [← hz, List.getLast?_eq_getElem?]; congr 1; omega
          obtain ⟨g3, hg3, hc3⟩ : ∃ g3, oa = some ⟨g3, 0, none⟩ ∧ wr.cell? ⟨g3, m, none⟩ = some (.int .i32 z) := by
            rcases hrow.2 with ⟨hu, hz'⟩ | ⟨g3, cap, cur, hu, _⟩
            · omega
            · rw [hos] at hu
              cases hu
              refine ⟨g3, rfl, ?_⟩
              have hrow' := hrow
              rw [hos] at hrow'
              have := hrow'.cells (g := g3) rfl m (.int .i32 z) (by rw [List.getElem?_map, hzat]; rfl)
              rw [add_plain] at this
              exact this
          subst hg3
          have hlb : ((ol : Int) == 0) = false := by rw [beq_eq_false_iff_ne]; omega
          have HWM : Hid (IntKind.i64.wrap ((ol : Int) - 1) = (m : Int)) := by show IntKind.i64.wrap ((ol : Int) - 1) = (m : Int); rw [IntWalk.i64_in _ (by omega)]; omega
          have m0 : (0 : Int) ≤ (m : Int) := by omega
          have m1 : (m : Int) < (ol : Int) := by omega
          by_cases hzc : z = c1'
          · have hnext2 : fstep out (c1' :: xr, xw) = out := by
              unfold fstep
              simp [ho0, hz, hzc]
            rw [hnext2] at hnext
            have hzb : (z == c1') = true := by rw [beq_iff_eq]; exact hzc
            have hzb' : (z != c1') = false := by rw [bne_eq_false_iff_eq]; exact hzc
            have HNX := Lib.hid hnext
            have HROW := Lib.hid hrow
            have HB := Lib.hid hb
            rw [hos] at HROW ⊢
            clear hnext hnext2 hts hq hrow hb l1 l2 l3 l4 hx c0 c1 f2 hzat hm hzc
            go_wp2_with fail
            have hwm := HWM.out
            go_quiet (fail)
            clear hwm
            go_wp2_with fail
            refine ⟨⟨i + 1, out, by first | rfl | congr 1, by omega, by omega, HNX.out, owns_below HROW.out (below_drewN (Below.refl _ _) _), below_drewN HB.out _⟩, ?_⟩
            simp [intOf]; omega
          · have hnext2 : fstep out (c1' :: xr, xw) = out ++ [c1'] := by
              unfold fstep
              simp [hz, hzc]
            rw [hnext2] at hnext
            have hzb : (z == c1') = false := by rw [beq_eq_false_iff_ne]; exact hzc
            have hzb' : (z != c1') = true := by rw [bne_iff_ne]; exact hzc
            have HNX := Lib.hid hnext
            have HROW := Lib.hid hrow
            have HB := Lib.hid hb
            rw [hos] at HROW ⊢
            clear hnext hnext2 hts hq hrow hb l1 l2 l3 l4 hx c0 c1 f2 hzat hm hzc
            go_wp2_with fail
            have hwm := HWM.out
            go_quiet (fail)
            clear hwm
            have hbq := below_drewN (Below.refl wr.heap.size wr) nq
            obtain ⟨W5, hW5⟩ : ∃ W5, wr.drewN nq = W5 := ⟨_, rfl⟩
            rw [hW5] at hbq ⊢
            have own5 := owns_below HROW.out hbq
            have d05 := (hbq.cell (p := ⟨g, off + i * 2, none⟩) hgr).trans d0
            have f35 := (hbq.cell (p := ⟨gy, offy, none⟩) hgyr).trans f3
            have h5s := hbq.size
            clear hW5
            go_wp2_with (at_builtin; refine wpList_append_own_at _ rfl _ _ 32 rfl w.heap.size 21 i0 (.int .i32 0) 1 4 Tryd.underlying32 hi hz0 hz1 hz2 rfl (by decide) _ _ _ rfl (own5.alloc _) ⟨W5.heap.size, 0, none⟩ 1 1 _ rfl rfl (World.news_of_block (Blk.alloc_new _ _ _)) (by intro y hy; simp at hy; subst hy; rfl) (by unfold maxLen; omega) (by omega) (by simp; omega) ?_; intro v' w1 hown' hgrow hnil hat)
            have hB1 : Below w.heap.size w w1 := below_grown' ((HB.out.trans (hbq.mono hbz)).alloc (by omega) _) hgrow (by simp; omega) (fun k hk => owns_base HROW.out k hk)
            refine ⟨⟨i + 1, out ++ [c1'], by first | rfl | congr 1, by omega, by simp; omega, by rw [HNX.out], by rw [List.length_append, List.map_append]; exact hown', hB1⟩, ?_⟩
            simp [intOf]; omega
    · have hin : i = n := by omega
      subst hin
      rw [List.take_of_length_le (by omega)] at hq
      have HQ := Lib.hid hq
      clear hq
      go_wp2_with fail
      go_ret
      refine ⟨_, rfl, ?_⟩
      rw [HQ.out]
      exact ⟨ints_own hrow (by omega) (fun g hg h => by have h1 := owns_base hrow g hg; have h2 : g < w.heap.size := h; omega), by omega, hb⟩
end Go.Proofs.YtpbadnmfgffdlaaDoor.F
