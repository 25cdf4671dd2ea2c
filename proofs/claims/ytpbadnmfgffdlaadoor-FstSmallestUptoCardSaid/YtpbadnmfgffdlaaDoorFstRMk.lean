/-
  The document's Make.
-/
import Derived.Test.YtpbadnmfgffdlaaDoorFstRSt
namespace Go.Proofs.YtpbadnmfgffdlaaDoor.F
open Go.RowKit Go.Shelf Go.Maps
open Aid L LM
set_option linter.unusedSimpArgs false
set_option linter.unusedVariables false
attribute [local go_sem] Oper.semAt_some

theorem turn_none {w w' : World} (h : Turn (Ko (.slice none 0 0) (.slice none 0 0)) w w') : Below w.heap.size w w' :=
  { size := h.size, os := h.os, tape := h.tape, output := h.output, block := fun x hx => h.kept x hx (fun g => by rcases g with g | g <;> cases g) }
theorem Kis.start (w : World) (F : Nat → Prop) : Kis w (.slice none 0 0) (.slice none 0 0) ⟨[], []⟩ F [] [] :=
  ⟨World.ownsRow_nil _ _ _ _, by simp, rfl, World.ownsRow_nil _ _ _ _, by simp, rfl, fun x h => by cases h⟩
theorem Kis.states_off {w : World} {vR vS : Value} {k : KM} {F : Nat → Prop} {LR : List (List RS × Value)} {qS : List (StM × Value)} (h : Kis w vR vS k F LR qS) (hl : k.S.length ≤ 1000000) (hF : ∀ x, vS.ownBlock = some x → ¬ F x) : StatesAre F w vS k.S := by
  have hall : ∀ x ∈ qS, ArcsAre F w x.2 x.1.arcs := fun x hx => (h.arcs x hx).less (fun _ _ h => .inr h)
  have hlen : k.S.length = qS.length := by rw [← h.eqS, List.length_map]
  rcases h.rowS.2 with ⟨e, hn⟩ | ⟨g, cap, cur, e, hb, hg, hnc, hcm, hcs, htake⟩
  · refine ⟨none, 0, qS, by rw [e, hlen, hn], h.eqS, hl, fun j x hj => ?_⟩
    have := (List.getElem?_eq_some_iff.1 hj).1
    omega
  · have hgl : g < w.heap.size := (Array.getElem?_eq_some_iff.1 hg).1
    refine ⟨_, cap, qS, by rw [e, hlen], h.eqS, hl, fun j x hj => ⟨⟨g, 0, rfl, hgl, hF g (by rw [e]; rfl), fun i u hi => ?_⟩, hall x (List.mem_of_getElem? hj)⟩⟩
    have hrow := h.rowS
    rw [e] at hrow
    have := hrow.cells (g := g) rfl (j * 3 + i) u (rowS_at qS j x hj i u hi)
    rw [add_plain] at this
    rw [Nat.zero_add]
    exact this
theorem low_least (q : List RS) : leastF (q.map (·.wt)) = low (rw q) := by
  unfold low rw
  rw [List.map_map]
  rfl
theorem make_eq {l : List Wd} (he : buildE l = 0) (hl : l ≠ []) : makeF l = (low (restsF l), (rstate 25 ⟨[], []⟩ (restsF l)).1.S) := by
  rw [(make_same l he hl).1]
  unfold makeF
  rw [if_neg hl]
set_option maxRecDepth 100000 in
set_option maxHeartbeats 4000000 in
theorem rmake_any (v : Value) (l : List Wd) (w : World) (h : PairsIn w v l) (he : buildE l = 0) : Calls Tryd.prog 28 #[v] w fun e w' =>
    ∃ vS, e = .returned (.agg #[.int .i64 (makeF l).1, vS]) ∧ StatesAre (fun x => x < w.heap.size) w' vS (makeF l).2 ∧ Below w.heap.size w w' := by
  obtain ⟨av, cv, rfl⟩ := h.slice
  have hlen := h.len
  have hok := rests_ok he
  have hl4 : l.length ≤ 4096 := by
    have := hok.few
    unfold restsF at this
    rw [List.length_map] at this
    exact this
  obtain ⟨n, hn⟩ : ∃ n, l.length = n := ⟨_, rfl⟩
  rw [hn] at h hlen ⊢
  obtain ⟨rB, hrB⟩ : ∃ rB, w.heap.size = rB := ⟨_, rfl⟩
  obtain ⟨W0, hW0⟩ : ∃ W0, w.alloc (.cells #[.int .i64 0, .slice none 0 0] 27) = W0 := ⟨_, rfl⟩
  have b0 : Blk W0 rB 27 #[.int .i64 0, .slice none 0 0] := by rw [← hW0, ← hrB]; exact Blk.alloc_new _ _ _
  have hb0 : Below w.heap.size w W0 := by rw [← hW0]; exact (Below.refl _ _).alloc (Nat.le_refl _) _
  have b0l := b0.lt
  have f0 : W0.cell? ⟨rB, 0, none⟩ = some (.int .i64 0) := (Blk.cell b0 0).trans rfl
  have f1 : W0.cell? ⟨rB, 1, none⟩ = some (.slice none 0 0) := (Blk.cell b0 1).trans rfl
  have f2 := Blk.free b0 0
  have f3 := Blk.free b0 1
  by_cases hm : n = 0
  · subst hm
    obtain rfl : l = [] := List.eq_nil_of_length_eq_zero hn
    go_enter Tryd.func28, Tryd.ntmps28
    go_wp2_with fail
    refine bodyPost_ret (results_cellN rfl _ _ rB rfl _ _ (Blk.set2 b0) _ Tryd.underlying27 rfl size_mach) rfl ?_
    exact ⟨_, rfl, StatesAre.nil _ _, below_set (below_set hb0 (by omega)) (by omega)⟩
  · have hlne : l ≠ [] := by intro e; subst e; exact hm hn.symm
    have hne : restsF l ≠ [] := by unfold restsF; simpa using hlne
    have hnb : ((n : Int) == 0) = false := by rw [beq_eq_false_iff_ne]; omega
    have htot : tot (restsF l) ≤ 98304 := by
      have h1 := tot_rests 24 (restsF l) (fun x hx => hok.len x hx)
      unfold restsF at h1 ⊢
      rw [List.length_map] at h1
      omega
    obtain ⟨r, hr⟩ : ∃ r, rstate 25 ⟨[], []⟩ (restsF l) = r := ⟨_, rfl⟩
    have hsz := (rstate_len 25 ⟨[], []⟩ (restsF l) hok hne).2
    rw [hr] at hsz
    have hmk := make_eq he hlne
    rw [hr] at hmk
    have HMK := Lib.hid hmk
    have HRT := Lib.hid (rrests_off (fun x => x ≤ w.heap.size) _ l W0 (fun x hx => by have hx' : x ≤ w.heap.size := hx; omega) (h.below hb0) hl4)
    have HST : Hid (∀ W v q, w.heap.size < W.heap.size → RestsAre (fun x => x ≤ w.heap.size) W v q → rw q = restsF l → Calls Tryd.prog 36 #[.agg #[.slice none 0 0, .slice none 0 0], v] W (REnd (.slice none 0 0) (.slice none 0 0) r (fun x => x ≤ w.heap.size) W)) := by
      intro W v q hW hq e
      have := rstate_any 25 ⟨[], []⟩ (.slice none 0 0) (.slice none 0 0) (fun x => x ≤ w.heap.size) [] [] v q W (fun x h => Nat.lt_of_le_of_lt h hW) (Kis.start W _) (hq.less (fun x _ g => by rcases g with g | g; (rcases g with g | g <;> cases g); exact g)) (by intro e'; rw [e'] at e; exact hne e.symm) (by rw [e]; exact hok) (by rw [e]; show 0 + tot _ ≤ _; omega) (by rw [e]; show 0 + tot _ ≤ _; omega)
      rw [e, hr] at this
      exact this
    have HHB := Lib.hid b0
    have HB0 := Lib.hid hb0
    clear hmk b0 hb0 hok he hr hne
    have hzw0 : w.heap.size < W0.heap.size := by omega
    go_enter Tryd.func28, Tryd.ntmps28
    go_upto_region 5 with (first
      | (go_at_call 30; refine (HRT.out).mono ?_; rintro e w3 ⟨v3, rfl, ⟨q, hq, hrq⟩, hb3⟩; obtain ⟨a3, c3, rfl⟩ := hq.slice; have HRQ := Lib.hid hrq; clear hrq)
      | (go_at_call 36; refine (HST.out _ _ _ (Nat.lt_of_lt_of_le hzw0 hb3.size) hq HRQ.out).mono ?_; rintro e w6 ⟨vR2, vS2, rfl, ⟨LR, qS, hK2⟩, hT2, ho2⟩; obtain ⟨xa, xc, rfl⟩ := owns_shape hK2.rowR; obtain ⟨ya, yc, rfl⟩ := owns_shape hK2.rowS; have HK2 := Lib.hid hK2; have HT2 := Lib.hid (turn_none hT2); have HO2 := Lib.hid ho2; clear hK2 hT2 ho2))
    have hb3z := hb3.size
    have hb6z := HT2.out.size
    have hzw := HB0.out.size
    obtain ⟨K, hK⟩ : ∃ K, w6.heap.size = K := ⟨_, rfl⟩
    obtain ⟨yl, hyl⟩ : ∃ yl, qS.length = yl := ⟨_, rfl⟩
    obtain ⟨xl, hxl⟩ : ∃ xl, LR.length = xl := ⟨_, rfl⟩
    obtain ⟨ql, hql⟩ : ∃ ql, q.length = ql := ⟨_, rfl⟩
    obtain ⟨W7, hW7⟩ : ∃ W7, w6.alloc (.cells #[.slice xa LR.length xc, .slice ya qS.length yc] 76) = W7 := ⟨_, rfl⟩
    have b7 : Blk W7 K 76 #[.slice xa LR.length xc, .slice ya qS.length yc] := by rw [← hW7, ← hK]; exact Blk.alloc_new _ _ _
    have hb7 : Below w6.heap.size w6 W7 := by rw [← hW7]; exact (Below.refl _ _).alloc (Nat.le_refl _) _
    have hq7 := ((hq.below HT2.out).below hb7).less (O' := fun _ => False) (fun _ _ h => h.elim)
    have hqne : q ≠ [] := by intro e; have h1 := HRQ.out; rw [e] at h1; exact absurd h1.symm (show restsF l ≠ [] by unfold restsF; simpa using hlne)
    have hlow := low_least q
    rw [HRQ.out] at hlow
    have hle := rleast_any _ q W7.drew (hq7.below (Below.refl _ _).drew) hqne
    obtain ⟨lo, hlo⟩ : ∃ lo, low (restsF l) = lo := ⟨_, rfl⟩
    rw [hlow, hlo] at hle
    have hb37 : Below W0.heap.size W0 W7 := (hb3.trans (HT2.out.mono hb3z)).trans (hb7.mono (by omega))
    have bR7 := HHB.out.below hb37 b0l
    rw [hql] at hle
    have HLE := Lib.hid (hle.mono (R' := fun e w' => e = .returned (.int .i64 lo) ∧ w' = W7.drew) fun _ _ h => ⟨h.1, h.2.symm⟩)
    try rw [hK]
    try rw [hW7]
    try rw [hql]
    have k1 : W7.cell? ⟨K, 1, none⟩ = some (.slice ya qS.length yc) := (Blk.cell b7 1).trans rfl
    have r0 : W7.cell? ⟨rB, 0, none⟩ = some (.int .i64 0) := (Blk.cell bR7 0).trans rfl
    have r1 : W7.cell? ⟨rB, 1, none⟩ = some (.slice none 0 0) := (Blk.cell bR7 1).trans rfl
    have r2 := Blk.free bR7 0
    have r3 := Blk.free bR7 1
    rw [hyl] at k1
    try rw [hyl]
    have HW7 := Lib.hid hW7
    have HB7 := Lib.hid hb7
    have HBR := Lib.hid bR7
    have HBD := Lib.hid hb37
    have HYL := Lib.hid hyl
    have HLO := Lib.hid hlo
    have HRB := Lib.hid (Nat.le_of_eq hrB)
    have HRB2 := Lib.hid (Nat.le_of_eq hrB.symm)
    clear hW7 hb7 bR7 hb37 hle hlow hlo hq7 hq hqne b7 hyl hql hxl hK f0 f1 f2 f3 hW0 hrB
    go_still_tail 5, (by kernel_rfl)
    still_call (HLE.out)
    repeat still_step
    refine wpStill_nil ?_
    change wpList _ _ _ _ _ W7.drew
    go_wp2_with fail
    refine bodyPost_ret (results_cellN rfl _ _ rB rfl _ _ (Blk.set2 HBR.out) _ Tryd.underlying27 rfl size_mach) rfl ?_
    have hrw : w.heap.size ≤ rB := HRB.out
    have hwW7 : Below w.heap.size w W7 := HB0.out.trans (HBD.out.mono hzw)
    have hsl : r.1.S.length ≤ 1000000 := by simp at hsz; omega
    have hst6 := HK2.out.states_off hsl (fun x hx hx2 => by
      have := HO2.out x (by omega) (.inr hx)
      rcases this with g | g <;> cases g)
    have hst7 := hst6.below HB7.out
    have hlen := hst7.len
    refine ⟨_, by rw [HMK.out, HLO.out], ?_, (below_set (below_set hwW7 hrw) hrw).drew⟩
    rw [HMK.out]
    rw [HYL.out] at hst7
    have hst8 := (hst7.turn (w' := ((W7.setCell ⟨rB, 0, none⟩ (.int .i64 lo)).setCell ⟨rB, 1, none⟩ (.slice ya yl yc)).drew) (O' := fun x => x < w.heap.size) ?_ (fun x _ h => by have h' : x < w.heap.size := h; show x ≤ w.heap.size; omega))
    · exact hst8
    · have ht := turn_set2 W7 rB (.int .i64 lo) (.slice ya yl yc) (i := 0) (j := 1)
      refine ⟨ht.size, ht.os, ht.tape, ht.output, fun x hx hn => ht.kept x hx (fun e => hn ?_)⟩
      have e' : x = rB := e
      show x ≤ w.heap.size
      have := HRB2.out
      omega
end Go.Proofs.YtpbadnmfgffdlaaDoor.F
