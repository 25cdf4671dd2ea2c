/-
  DiskCrash, DiskAgain: the laws.
-/
import Derived.Test.YteidmneenfdafaaRefCrL
namespace Go.Proofs.Yteidmneenfdafaa.R
open Go.RowKit
open Aid K
set_option linter.unusedSimpArgs false
set_option linter.unusedVariables false

theorem full_wr {f : Nat → OpR} {i : Nat} {st : DSt} (h : Wrote f i st.F) : FullV st := fun a m L s e => by
  obtain ⟨h1, h2⟩ := h a m L s e
  refine ⟨h1, (h2 _ ?_).size⟩
  rw [List.getLastD_eq_getLast?, List.getLast?_eq_some_getLast h1]
  exact List.getLast_mem h1
theorem crash_cnt : ∀ {l : List RSec} {ps : List Int}, (crashL l ps).1.length + (crashL l ps).2.1 = l.length
  | [], _ => rfl
  | x :: l, ps => by
    have ih := crash_cnt (l := l) (ps := restF (x.L, x.sync) ps)
    cases hf : foundF (x.L, x.sync) (pickF (x.L, x.sync) ps) with
    | some v => rw [crash_some hf]; simp only [List.length_cons]; omega
    | none => rw [crash_none hf]; simp only [List.length_cons]; omega
theorem cnt_le {la : List Int} (h : la.Nodup) : ∀ (l : List RSec), (la.map (cntR l)).sum ≤ l.length
  | [] => by
    have : ∀ la : List Int, (la.map (cntR [])).sum = 0 := fun la => by
      induction la with
      | nil => rfl
      | cons a la ih => rw [List.map_cons, List.sum_cons, ih]; rfl
    rw [this]; exact Nat.le_refl _
  | x :: l => by
    have ih := cnt_le h l
    have key : ∀ la : List Int, la.Nodup → (la.map (cntR (x :: l))).sum ≤ (if x.area ∈ la then 1 else 0) + (la.map (cntR l)).sum := fun la hla => by
      induction la with
      | nil => simp
      | cons a la iha =>
        obtain ⟨h1, h2⟩ := List.nodup_cons.1 hla
        have := iha h2
        rw [List.map_cons, List.sum_cons, List.map_cons, List.sum_cons, cnt_cons]
        by_cases e : x.area = a
        · subst e
          rw [if_neg h1] at this
          rw [if_pos rfl, if_pos (List.mem_cons_self ..)]
          omega
        · rw [if_neg e]
          by_cases hm : x.area ∈ la
          · rw [if_pos hm] at this; rw [if_pos (List.mem_cons_of_mem _ hm)]; omega
          · rw [if_neg hm] at this; rw [if_neg (by rw [List.mem_cons]; rintro (h | h); exact e h; exact hm h)]; omega
    have := key la h
    rw [List.length_cons]
    split at this <;> omega
/-- a crashed disk that is crashed is the same -/
theorem crash_same : ∀ {l : List RSec} {ps : List Int}, (∀ x ∈ l, ∃ v, x.L = [v] ∧ x.sync = true) → crashL l ps = (l, 0, ps)
  | [], _, _ => rfl
  | x :: l, ps, h => by
    obtain ⟨v, h1, h2⟩ := h x (List.mem_cons_self ..)
    have hu := use_none (x := x) ⟨h2, by rw [h1]; rfl⟩ ps
    have hf : foundF (x.L, x.sync) (pickF (x.L, x.sync) ps) = some v := by rw [hu.1, h1]; rfl
    rw [crash_some hf, hu.2, crash_same (fun y hy => h y (List.mem_cons_of_mem _ hy))]
    obtain ⟨a, n, L, s⟩ := x
    dsimp only at h1 h2
    subst h1 h2
    rfl
theorem crash_twice (r : RSt) (ps qs : List Int) : crashR (crashR r ps) qs = crashR r ps := by
  have h : crashL (crashL r.l ps).1 qs = ((crashL r.l ps).1, 0, qs) := crash_same fun x hx => by
    obtain ⟨z, _, _, _, h3, v, _, h4⟩ := crash_mem hx
    exact ⟨v, h4, h3⟩
  unfold crashR
  dsimp only
  rw [h]
  simp
/-- what a crashed disk is, within bounds -/
structure CrFits (st : DSt) (r : RSt) (R : Int) : Prop where
  rel : RelD st r
  full : FullV st
  room : 0 ≤ st.room
  sum : st.room + (r.l.length : Nat) ≤ R
  len : r.l.length ≤ 2932031007317
  C : st.C ≤ 2932031007317
theorem CrFits.hsum {st : DSt} {r : RSt} {R : Int} (h : CrFits st r R) (la : List Int) (hla : la.Nodup) : st.room + ((la.map st.N).sum : Nat) ≤ R := by
  have h2 : la.map st.N = la.map (cntR r.l) := List.map_congr_left fun a _ => h.rel.N a
  rw [h2]
  have := cnt_le hla r.l
  have := h.sum
  omega
theorem CrFits.hN {st : DSt} {r : RSt} {R : Int} (h : CrFits st r R) (a : Int) : st.N a ≤ 2932031007317 := by
  rw [h.rel.N]
  have : cntR r.l a ≤ r.l.length := List.length_filter_le _ _
  have := h.len
  omega
theorem crash_fits {f : Nat → OpR} {n : Nat} {st : DSt} {r : RSt} {R : Int} (hRel : RelD st r) (hF : FitS st R n) (hW : Wrote f n st.F) (hlen : r.l.length ≤ n) (hn : n ≤ 2932031007317) (ps : List Int) :
    CrFits (crashF st (areasL st) (secsL st) ps).2 (crashR r ps) R := by
  have hcr := crash_rel hRel hF.room ps
  have hcl := crash_cnt (l := r.l) (ps := ps)
  have hrm : (crashF st (areasL st) (secsL st) ps).2.room = r.room + ((crashL r.l ps).2.1 : Nat) := by rw [← hcr.1.room]; rfl
  have hroom := hRel.room
  have h0 := hF.room
  have hsum := hF.sum (areasR r.l) (areas_nodup hRel.srt)
  have h2 : (areasR r.l).map st.N = (areasR r.l).map (cntR r.l) := List.map_congr_left fun a _ => hRel.N a
  rw [h2, cnt_all hRel.srt] at hsum
  have hl2 : (crashR r ps).l.length = (crashL r.l ps).1.length := rfl
  refine ⟨hcr.1, fun a m L s e => ?_, by rw [hrm]; omega, by rw [hrm, hl2]; omega, by rw [hl2]; omega, ?_⟩
  · rw [hcr.1.F] at e
    obtain ⟨y, hy, e1, e2, e3⟩ := find_some e
    obtain ⟨x, hx, x1, x2, _, V, hV, hyL⟩ := crash_mem hy
    simp only [Prod.mk.injEq] at e3
    have hf := find_mem hRel.srt hx
    rw [← hRel.F] at hf
    have := ((hW _ _ _ _ hf).2 V hV).size
    rw [e3.1, hyL]
    exact ⟨by simp, this⟩
  · have := hcr.2; omega
set_option maxRecDepth 100000 in
set_option maxHeartbeats 8000000 in
theorem crash_law (room : Int) (v : Value) (n : Nat) (f : Nat → OpR) (vp : Value) (ps : List Int) (w : World) (h : OpsAre w v n f) (hr1 : room ≤ 9223372036854775807) (hI : Ints w .i64 vp ps) (hcap : CapV vp) (hps : ∀ y ∈ ps, (Lit.int .i64 y).wf = true) :
    Calls Try.prog 9 #[.int .i64 room, v, vp] w (TrueIn w) := by
  have hn := h.1
  obtain ⟨va, vc, rfl⟩ := Ints.form hI
  obtain ⟨a0, cap0, hv0, hel0⟩ := h.2
  subst hv0
  have hwr := wrote_run f room n
  have hfull0 := full_wr hwr
  obtain ⟨st, hst⟩ : ∃ st, runS f room n = st := ⟨_, rfl⟩
  rw [hst] at hwr hfull0
  have HEL := Lib.hid hel0
  clear hel0
  go_enter Try.func9, Try.ntmps9
  go_wp2_with fail
  refine (begun_any room _ n f w h hr1).mono ?_
  rw [hst]
  rintro e w1 ⟨p, O, r, vr, q, rfl, D, hO, hF, hRel, hrow, hqo, hlen, hb1⟩
  obtain ⟨av, cv, hv⟩ := hrow.1.slice
  subst hv
  have hfit9 := crash_fits hRel hF hwr hlen hn ps
  have hroomR := hF.room
  have hsumR := hF.sum (areasR r.l) (areas_nodup hRel.srt)
  have h2 : (areasR r.l).map st.N = (areasR r.l).map (cntR r.l) := List.map_congr_left fun a _ => hRel.N a
  rw [h2, cnt_all hRel.srt, ← hRel.room] at hsumR
  rw [← hRel.room] at hroomR
  have hql : q.length = r.l.length := by rw [← hrow.2, List.length_map]
  have hqV : ∀ x ∈ q, x.1.L.length < 4398046511103 ∧ ∀ V ∈ x.1.L, V.size = 64 := fun x hx => by
    have hm : x.1 ∈ r.l := by rw [← hrow.2]; exact List.mem_map.2 ⟨x, hx, rfl⟩
    have hf := find_mem hRel.srt hm
    rw [← hRel.F] at hf
    exact ⟨by have := hF.V _ _ _ _ hf; omega, fun V hV => ((hwr _ _ _ _ hf).2 V hV).size⟩
  obtain ⟨r9, hr9⟩ : ∃ r9, crashR r ps = r9 := ⟨_, rfl⟩
  rw [hr9] at hfit9
  obtain ⟨nq, hnq⟩ : ∃ nq, q.length = nq := ⟨_, rfl⟩
  obtain ⟨room1, steps, left, armed, dead, rl⟩ := r
  obtain ⟨sc, hsc⟩ : ∃ sc, (crashF st (areasL st) (secsL st) ps).2 = sc := ⟨_, rfl⟩
  rw [hsc] at hfit9
  dsimp only at hroomR hsumR hql
  rw [hnq]
  unfold diskR
  dsimp only
  obtain ⟨W2, hW2⟩ : ∃ W2, w1.alloc (.cells #[.int .i64 room1, .int .i64 steps, .int .i64 left, .bool armed, .bool dead, .slice av nq cv] 40) = W2 := ⟨_, rfl⟩
  obtain ⟨E, hE⟩ : ∃ E, w1.heap.size = E := ⟨_, rfl⟩
  have bE : Blk W2 E 40 #[.int .i64 room1, .int .i64 steps, .int .i64 left, .bool armed, .bool dead, .slice av nq cv] := by rw [← hW2, ← hE]; exact Blk.alloc_new _ _ _
  have hb2 : Below w1.heap.size w1 W2 := by rw [← hW2]; exact (Below.refl _ _).alloc (Nat.le_refl _) _
  have hs1 := hb1.size
  have hs2 := hb2.size
  have D2 := D.below hb2
  have hO2 : ∀ k, O k → k < W2.heap.size := fun k hk => by have := hO k hk; omega
  have hbw := hb1.trans (hb2.mono hs1)
  have HBW := Lib.hid hbw
  have hrow2 : RDisk W2 (.slice av q.length cv) ⟨room1, steps, left, armed, dead, rl⟩ q := ⟨hrow.1.below hb2, hrow.2⟩
  have hcrash := crash_any O p st (.slice va ps.length vc) ps W2 D2 (hI.below hbw) hcap hps hO2 (by have := hF.C; omega) (fun a => by have := hF.N a; omega) (fun a' n' Lv sb e => by have := hF.V a' n' Lv sb e; omega) hF.room (fun la hla => by have := hF.sum la hla; omega)
  rw [hsc] at hcrash
  have HROW := Lib.hid hrow2
  have HFIT := Lib.hid hfit9
  have HR9 := Lib.hid hr9
  have HREL := Lib.hid hRel
  have HQV := Lib.hid hqV
  have HNQ := Lib.hid hnq
  have HBE := Lib.hid bE
  have HI := Lib.hid hI
  have HPS := Lib.hid hps
  have HO2 := Lib.hid hO2
  have HFU := Lib.hid hfull0
  have HC0 := Lib.hid hF.C
  have hqn : nq ≤ n := by dsimp only at hlen; omega
  have hq8 : room1 + (nq : Nat) ≤ 9223372036854775807 := by omega
  have HCAP := Lib.hid hcap
  clear D hO hb1 hb2 hrow hqo hnq hbw hRel hsc hF hI hps hwr hst hr9 hfit9 hql hsumR h2 hqV bE hrow2 hO2 hfull0 hcap
  go_wp2_with fail
  refine hcrash.mono ?_
  rintro e w4 ⟨pc, Oc, rfl, D4, hOc, hb4⟩
  have hs4 := hb4.size
  have hrc := rcrash_any ⟨room1, steps, left, armed, dead, rl⟩ (.slice av q.length cv) q (.slice va ps.length vc) ps w4 ⟨HROW.out.1.below hb4, HROW.out.2⟩ (HI.out.below (HBW.out.trans (hb4.mono HBW.out.size))) HPS.out (by have := HNQ.out; omega) ⟨hroomR, by show room1 + ((q.length : Nat) : Int) ≤ 9223372036854775807; have := HNQ.out; omega⟩ HQV.out
  unfold RcEnd at hrc
  rw [HR9.out, HNQ.out] at hrc
  unfold diskR at hrc
  dsimp only at hrc
  have HRC := Lib.hid hrc
  obtain ⟨d0, d1, d2, d3, d4, d5⟩ := blk6 (HBE.out.below hb4 (Blk.lt HBE.out))
  obtain ⟨z1, z2, z3, z4, z5, z6⟩ := r9
  have HB4 := Lib.hid hb4
  have HD4 := Lib.hid D4
  have HOC := Lib.hid hOc
  have HD2 := Lib.hid D2
  clear hrc hcrash D4 D2 hOc hb4
  go_wp2_with fail
  refine HRC.out.mono ?_
  rintro e w5 ⟨v5, q5, rfl, hrow5, hb5⟩
  obtain ⟨a5, c5, hv5⟩ := hrow5.1.slice
  subst hv5
  obtain ⟨n5, hn5⟩ : ∃ n5, q5.length = n5 := ⟨_, rfl⟩
  have hs5 := hb5.size
  have hst5 := stands_any Oc pc sc ⟨z1, z2, z3, z4, z5, z6⟩ (.slice a5 q5.length c5) q5 w5 (HD4.out.below hb5) (fun k hk => by have := HOC.out k hk; omega) HFIT.out.rel hrow5 (by have := HFIT.out.C; omega) HFIT.out.full
  unfold diskR at hst5
  rw [hn5] at hst5 ⊢
  dsimp only at hst5 ⊢
  have hb45 := HB4.out.trans (hb5.mono hs4)
  have HST5 := Lib.hid hst5
  have HB45 := Lib.hid hb45
  obtain ⟨d0, d1, d2, d3, d4, d5⟩ := blk6 (HBE.out.below hb45 (Blk.lt HBE.out))
  clear hst5 hb45 hrow5 hb5 hn5
  go_wp2_with fail
  refine HST5.out.mono ?_
  rintro e w6 ⟨rfl, hb6⟩
  have hb46 := HB45.out.trans (hb6.mono HB45.out.size)
  have HB46 := Lib.hid hb46
  obtain ⟨d0, d1, d2, d3, d4, d5⟩ := blk6 (HBE.out.below hb46 (Blk.lt HBE.out))
  have hst6 := stands_any O p st ⟨room1, steps, left, armed, dead, rl⟩ (.slice av q.length cv) q w6 (HD2.out.below hb46) (fun k hk => by have := HO2.out k hk; have := hb46.size; omega) HREL.out ⟨HROW.out.1.below hb46, HROW.out.2⟩ (by have := HC0.out; omega) HFU.out
  unfold diskR at hst6
  rw [HNQ.out] at hst6
  dsimp only at hst6
  have HST6 := Lib.hid hst6
  clear hst6 hb46 hb6
  go_wp2_with fail
  refine HST6.out.mono ?_
  rintro e w7 ⟨rfl, hb7⟩
  have hbf := HBW.out.trans ((HB46.out.trans (hb7.mono HB46.out.size)).mono HBW.out.size)
  clear hb7
  go_wp2_with fail
  go_ret
  exact ⟨rfl, hbf⟩
theorem own_cons {w : World} {base : Nat} {e : TypeId} {v : Value} {x : Int} {l : List Int} (h : w.ownsRow base e 1 v (1 + l.length) ([.int .i64 x] ++ l.map (.int .i64))) : w.ownsRow base e 1 v (x :: l).length ((x :: l).map (.int .i64)) := by
  have e1 : (x :: l).length = 1 + l.length := by simp [Nat.add_comm]
  rw [e1]; exact h
theorem own_cap {w : World} {base : Nat} {e : TypeId} {size n : Nat} {v : Value} {xs : List Value} (h : w.ownsRow base e size v n xs) : CapV v := by
  rcases h.2 with ⟨rfl, h0⟩ | ⟨g, cap, cur, hv, hb, hg, hnc, _⟩
  · exact Nat.le_refl _
  · rw [hv]; exact hnc
theorem int_info : ∃ i, Try.prog.info? 3 = some i ∧ i.zero = some (.int .i64 0) ∧ i.size = 1 ∧ i.bytes = 8 := by
  have h : (Try.prog.info? 3).map (fun i => (i.zero, i.size, i.bytes)) = some (some (.int .i64 0), 1, 8) := by kernel_rfl
  cases hq : Try.prog.info? 3 with
  | none => rw [hq] at h; cases h
  | some i =>
    rw [hq] at h
    simp only [Option.map_some, Option.some.injEq, Prod.mk.injEq] at h
    exact ⟨i, rfl, h.1, h.2.1, h.2.2⟩
set_option maxRecDepth 100000 in
set_option maxHeartbeats 8000000 in
theorem again_law (room : Int) (v : Value) (n : Nat) (f : Nat → OpR) (vp : Value) (ps : List Int) (w : World) (h : OpsAre w v n f) (hr1 : room ≤ 9223372036854775807) (hI : Ints w .i64 vp ps) (hcap : CapV vp) (hps : ∀ y ∈ ps, (Lit.int .i64 y).wf = true) (hpl : ps.length * 8 ≤ 140737488351232) :
    Calls Try.prog 10 #[.int .i64 room, v, vp] w (TrueIn w) := by
  have hn := h.1
  obtain ⟨va, vc, rfl⟩ := Ints.form hI
  obtain ⟨a0, cap0, hv0, hel0⟩ := h.2
  subst hv0
  have hwr := wrote_run f room n
  have hfull0 := full_wr hwr
  obtain ⟨st, hst⟩ : ∃ st, runS f room n = st := ⟨_, rfl⟩
  rw [hst] at hwr hfull0
  have HEL := Lib.hid hel0
  clear hel0
  go_enter Try.func10, Try.ntmps10
  go_wp2_with fail
  refine (begun_any room _ n f w h hr1).mono ?_
  rw [hst]
  rintro e w1 ⟨p, O, r, vr, q, rfl, D, hO, hF, hRel, hrow, hqo, hlen, hb1⟩
  obtain ⟨av, cv, hv⟩ := hrow.1.slice
  subst hv
  have hfit9 := crash_fits hRel hF hwr hlen hn ps
  have hroomR := hF.room
  have hsumR := hF.sum (areasR r.l) (areas_nodup hRel.srt)
  have h2 : (areasR r.l).map st.N = (areasR r.l).map (cntR r.l) := List.map_congr_left fun a _ => hRel.N a
  rw [h2, cnt_all hRel.srt, ← hRel.room] at hsumR
  rw [← hRel.room] at hroomR
  have hql : q.length = r.l.length := by rw [← hrow.2, List.length_map]
  have hqV : ∀ x ∈ q, x.1.L.length < 4398046511103 ∧ ∀ V ∈ x.1.L, V.size = 64 := fun x hx => by
    have hm : x.1 ∈ r.l := by rw [← hrow.2]; exact List.mem_map.2 ⟨x, hx, rfl⟩
    have hf := find_mem hRel.srt hm
    rw [← hRel.F] at hf
    exact ⟨by have := hF.V _ _ _ _ hf; omega, fun V hV => ((hwr _ _ _ _ hf).2 V hV).size⟩
  obtain ⟨r9, hr9⟩ : ∃ r9, crashR r ps = r9 := ⟨_, rfl⟩
  rw [hr9] at hfit9
  obtain ⟨nq, hnq⟩ : ∃ nq, q.length = nq := ⟨_, rfl⟩
  obtain ⟨room1, steps, left, armed, dead, rl⟩ := r
  obtain ⟨sc, hsc⟩ : ∃ sc, (crashF st (areasL st) (secsL st) ps).2 = sc := ⟨_, rfl⟩
  rw [hsc] at hfit9
  dsimp only at hroomR hsumR hql
  rw [hnq]
  unfold diskR
  dsimp only
  obtain ⟨W2, hW2⟩ : ∃ W2, w1.alloc (.cells #[.int .i64 room1, .int .i64 steps, .int .i64 left, .bool armed, .bool dead, .slice av nq cv] 40) = W2 := ⟨_, rfl⟩
  obtain ⟨E, hE⟩ : ∃ E, w1.heap.size = E := ⟨_, rfl⟩
  have bE : Blk W2 E 40 #[.int .i64 room1, .int .i64 steps, .int .i64 left, .bool armed, .bool dead, .slice av nq cv] := by rw [← hW2, ← hE]; exact Blk.alloc_new _ _ _
  have hb2 : Below w1.heap.size w1 W2 := by rw [← hW2]; exact (Below.refl _ _).alloc (Nat.le_refl _) _
  have hs1 := hb1.size
  have hs2 := hb2.size
  have D2 := D.below hb2
  have hO2 : ∀ k, O k → k < W2.heap.size := fun k hk => by have := hO k hk; omega
  have hbw := hb1.trans (hb2.mono hs1)
  have HBW := Lib.hid hbw
  have hrow2 : RDisk W2 (.slice av q.length cv) ⟨room1, steps, left, armed, dead, rl⟩ q := ⟨hrow.1.below hb2, hrow.2⟩
  have hcrash := crash_any O p st (.slice va ps.length vc) ps W2 D2 (hI.below hbw) hcap hps hO2 (by have := hF.C; omega) (fun a => by have := hF.N a; omega) (fun a' n' Lv sb e => by have := hF.V a' n' Lv sb e; omega) hF.room (fun la hla => by have := hF.sum la hla; omega)
  rw [hsc] at hcrash
  have HROW := Lib.hid hrow2
  have HFIT := Lib.hid hfit9
  have HR9 := Lib.hid hr9
  have HREL := Lib.hid hRel
  have HQV := Lib.hid hqV
  have HNQ := Lib.hid hnq
  have HBE := Lib.hid bE
  have HI := Lib.hid hI
  have HPS := Lib.hid hps
  have HO2 := Lib.hid hO2
  have HFU := Lib.hid hfull0
  have HC0 := Lib.hid hF.C
  have hqn : nq ≤ n := by dsimp only at hlen; omega
  have hq8 : room1 + (nq : Nat) ≤ 9223372036854775807 := by omega
  have HCAP := Lib.hid hcap
  clear D hO hb1 hb2 hrow hqo hnq hbw hRel hsc hF hI hps hwr hst hr9 hfit9 hql hsumR h2 hqV bE hrow2 hO2 hfull0 hcap
  go_wp2_with fail
  refine hcrash.mono ?_
  rintro e w4 ⟨pc, Oc, rfl, D4, hOc, hb4⟩
  have hs4 := hb4.size
  obtain ⟨ii, hii, hiz, his, hib⟩ := int_info
  have hI4 := HI.out.below (HBW.out.trans (hb4.mono HBW.out.size))
  obtain ⟨P4, hP4⟩ : ∃ P4, w4.heap.size = P4 := ⟨_, rfl⟩
  have HI4 := Lib.hid hI4
  have HB4 := Lib.hid hb4
  have HD4 := Lib.hid D4
  have HOC := Lib.hid hOc
  have HP4 := Lib.hid hP4
  have hs4' : E < P4 := by have := Blk.lt HBE.out; omega
  obtain ⟨z1, z2, z3, z4, z5, z6⟩ := r9
  clear hI4 D4 hOc hb4 hcrash D2
  go_wp2_with (at_builtin; refine wpList_append_ints _ (by rfl) _ _ _ rfl P4 3 ii (.int .i64 0) 8 Try.underlying50 hii hiz his hib rfl .i64 _ 1 [.int .i64 1] rfl (by have e := R.own_one w4 (.int .i64 1) 3 rfl; rw [HP4.out] at e; exact e) _ ps rfl (HI4.out.below ((Below.refl _ _).alloc (Nat.le_refl _) _)) (by unfold maxLen; omega) (by omega) (by have := HP4.out; simp; omega) ?_; intro v7 w7 hown7 hb7; have hown8 := own_cons hown7; have HO8 := Lib.hid hown8; have HB7 := Lib.hid hb7; clear hown7 hb7 hown8)
  have hI7 : Ints w7 .i64 v7 (1 :: ps) := Ints.own HO8.out (by simp; omega)
  have hcap7 := own_cap HO8.out
  have hb47 : Below w4.heap.size w4 w7 := ((Below.refl _ _).alloc (Nat.le_refl _) (.cells #[.int .i64 1] 3)).trans (HB7.out.mono (by have := HP4.out; omega))
  have D7 := HD4.out.below hb47
  have hs7 := hb47.size
  have hrel2 := crash_rel HFIT.out.rel HFIT.out.room (1 :: ps)
  have h9 : crashR ⟨z1, z2, z3, z4, z5, z6⟩ (1 :: ps) = ⟨z1, z2, z3, z4, z5, z6⟩ := by rw [← HR9.out]; exact crash_twice _ _ _
  rw [h9] at hrel2
  obtain ⟨se, hse⟩ : ∃ se, (crashF sc (areasL sc) (secsL sc) (1 :: ps)).2 = se := ⟨_, rfl⟩
  rw [hse] at hrel2
  have hfse : FullV se := fun a m L s e => by
    rw [hrel2.1.F] at e
    exact HFIT.out.full a m L s (by rw [HFIT.out.rel.F]; exact e)
  have hone : ∀ a m L s, sc.F a m = some (L, s) → L.length < 4398046511104 := fun a m L s e => by
    rw [HFIT.out.rel.F] at e
    obtain ⟨y, hy, _, _, e3⟩ := find_some e
    have hy2 : y ∈ (crashR ⟨room1, steps, left, armed, dead, rl⟩ ps).l := by rw [HR9.out]; exact hy
    obtain ⟨x, _, _, _, _, V, _, hyL⟩ := crash_mem (ps := ps) (l := rl) hy2
    simp only [Prod.mk.injEq] at e3
    rw [e3.1, hyL]; simp
  have hcr2 := crash_any Oc pc sc v7 (1 :: ps) w7 D7 hI7 hcap7 (fun y hy => by
    rcases List.mem_cons.1 hy with rfl | hy
    · decide
    · exact HPS.out y hy) (fun k hk => by have := (HOC.out k hk).2; omega) (by have := HFIT.out.C; omega) (fun a => by have := HFIT.out.hN a; omega) hone HFIT.out.room (fun la hla => by have := HFIT.out.hsum la hla; omega)
  rw [hse] at hcr2
  have HCR2 := Lib.hid hcr2
  have HREL2 := Lib.hid hrel2
  have HFSE := Lib.hid hfse
  have HB47 := Lib.hid hb47
  clear hcr2 hrel2 hfse hb47 D7 hI7 hcap7 h9 hse hone
  refine HCR2.out.mono ?_
  rintro e w8 ⟨pe, Oe, rfl, D8, hOe, hb8⟩
  have hb48 := HB47.out.trans (hb8.mono hs7)
  have hb28 := HB4.out.trans (hb48.mono hs4)
  have hrc := rcrash_any ⟨room1, steps, left, armed, dead, rl⟩ (.slice av q.length cv) q (.slice va ps.length vc) ps w8 ⟨HROW.out.1.below hb28, HROW.out.2⟩ (HI.out.below (HBW.out.trans (hb28.mono HBW.out.size))) HPS.out (by have := HNQ.out; omega) ⟨hroomR, by show room1 + ((q.length : Nat) : Int) ≤ 9223372036854775807; have := HNQ.out; omega⟩ HQV.out
  unfold RcEnd at hrc
  rw [HR9.out, HNQ.out] at hrc
  unfold diskR at hrc
  dsimp only at hrc
  have HRC := Lib.hid hrc
  obtain ⟨d0, d1, d2, d3, d4, d5⟩ := blk6 (HBE.out.below hb28 (Blk.lt HBE.out))
  have HB28 := Lib.hid hb28
  have HD8 := Lib.hid D8
  have HOE := Lib.hid hOe
  clear hrc D8 hOe hb8 hb48 hb28
  go_wp2_with fail
  refine HRC.out.mono ?_
  rintro e w9 ⟨v5, q5, rfl, hrow5, hb9⟩
  obtain ⟨a5, c5, hv5⟩ := hrow5.1.slice
  subst hv5
  obtain ⟨n5, hn5⟩ : ∃ n5, q5.length = n5 := ⟨_, rfl⟩
  have hs9 := hb9.size
  have hst5 := stands_any Oe pe se ⟨z1, z2, z3, z4, z5, z6⟩ (.slice a5 q5.length c5) q5 w9 (HD8.out.below hb9) (fun k hk => by have := HOE.out k hk; omega) HREL2.out.1 hrow5 (Nat.le_trans HREL2.out.2 (Nat.le_trans HFIT.out.len (by decide))) HFSE.out
  unfold diskR at hst5
  rw [hn5] at hst5 ⊢
  dsimp only at hst5 ⊢
  have hb29 := HB28.out.trans (hb9.mono HB28.out.size)
  have HST5 := Lib.hid hst5
  have HB29 := Lib.hid hb29
  clear hst5 hb29 hrow5 hb9 hn5
  go_wp2_with fail
  refine HST5.out.mono ?_
  rintro e w10 ⟨rfl, hb10⟩
  have hbf := HBW.out.trans ((HB29.out.trans (hb10.mono HB29.out.size)).mono HBW.out.size)
  clear hb10
  go_wp2_with fail
  go_ret
  exact ⟨rfl, hbf⟩
end Go.Proofs.Yteidmneenfdafaa.R
