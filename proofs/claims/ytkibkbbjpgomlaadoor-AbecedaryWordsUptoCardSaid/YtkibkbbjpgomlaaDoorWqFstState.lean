/-
  FstState.
-/
import Derived.Test.YtkibkbbjpgomlaaDoorWqFstStA
import Derived.StillTailTactics
namespace Go.Proofs.YtkibkbbjpgomlaaDoor.F
open Go.RowKit Go.Shelf Go.Maps
open Aid
set_option linter.unusedSimpArgs false
set_option linter.unusedVariables false

set_option maxRecDepth 100000 in
set_option maxHeartbeats 4000000 in
theorem state_any : ∀ (n : Nat) (b : Bd) (S : List StM) (C : Nat) (F : Nat → Prop) (v : Value) (q : List RS) (w : World), (∀ x, F x → x < w.heap.size) → Bok w b S C F → RestsAre b.O w v q → q ≠ [] → RwOk n (rw q) → S.length + tot (rw q) ≤ 900000 → C + 2 * tot (rw q) ≤ 90000000 →
    Calls Tryd.prog 14 #[.pointer (some ⟨b.p, 0, none⟩), v] w (StEnd b (stateF n S (rw q)) (C + 2 * tot (rw q) + 1) F w) := by
  intro n
  induction n with
  | zero => 
    intro b S C F v q w _ _ _ hne hok
    cases q with
    | nil => exact absurd rfl hne
    | cons x q => exact absurd (hok.len (x.r, x.wt) (List.mem_cons_self)) (by omega)
  | succ n ih =>
    intro b S C F v q w hF hB hR hne hok hS hC
    have hpos : 0 < q.length := by cases q with | nil => exact absurd rfl hne | cons => simp
    obtain ⟨av, cv, rfl⟩ := hR.slice
    obtain ⟨x0, q0, rfl⟩ : ∃ x0 q0, q = x0 :: q0 := by cases q with | nil => exact absurd rfl hne | cons x q => exact ⟨x, q, rfl⟩
    obtain ⟨g0, off, rfl, hg0, hgO, k0, k1⟩ := hR.at_ (j := 0) (x := x0) rfl
    rw [Nat.zero_mul, Nat.add_zero] at k0 k1
    obtain ⟨lo, hlo⟩ : ∃ lo, low (rw (x0 :: q0)) = lo := ⟨_, rfl⟩
    have hlow : leastF ((x0 :: q0).map (·.wt)) = lo := by rw [← hlo]; unfold low rw; rw [List.map_map]; rfl
    obtain ⟨ql, hql⟩ : ∃ ql, (x0 :: q0).length = ql := ⟨_, rfl⟩
    obtain ⟨M, hM⟩ : ∃ M, x0.wt = M := ⟨_, rfl⟩
    obtain ⟨ua, uc, hu, hul⟩ := hR.runes x0 (List.mem_cons_self)
    rw [hM] at k1
    rw [hu] at k0
    obtain ⟨rl, hrl⟩ : ∃ rl, x0.r.length = rl := ⟨_, rfl⟩
    have hleast := least_any b.O _ _ w hR hne
    rw [hlow] at hleast
    rw [hql] at hpos hleast
    rw [hrl] at k0
    have i1 : (0 : Int) < (ql : Int) := by omega
    have hR' := hR
    have hfin : isFin (rw (x0 :: q0)) = decide (rl = 0) := by
      rw [← hrl]; show x0.r.isEmpty = _; cases x0.r <;> simp
    have hw := (hok.wt (x0.r, x0.wt) (List.mem_cons_self))
    rw [hM] at hw
    dsimp only at hw
    have hlo' : lo ≤ M := by rw [← hlo, ← hM]; exact low_le (x := (x0.r, x0.wt)) (List.mem_cons_self)
    have hlo0 : 0 ≤ lo := by
      obtain ⟨x, hx, e⟩ := low_mem (l := rw (x0 :: q0)) (by simp [rw])
      rw [← hlo, e]; exact (hok.wt x hx).1
    rw [hql] at hR'
    rw [hql]
    go_enter Tryd.func14, Tryd.ntmps14
    go_upto_if 16 with (go_at_call 15; refine hleast.mono ?_; rintro e w1 ⟨rfl, hb1⟩; have k0 := (hb1.cell (p := ⟨g0, off, none⟩) hg0).trans k0; have k1 := (hb1.cell (p := ⟨g0, off + 1, none⟩) hg0).trans k1; have hg1 : g0 < w1.heap.size := Nat.lt_of_lt_of_le hg0 hb1.size)
    obtain ⟨sB, hsB⟩ : ∃ sB, w1.heap.size = sB := ⟨_, rfl⟩
    rw [hsB]
    have hsbg : g0 ≠ sB := by omega
    have kk : ∀ o, (w1.alloc o).cell? ⟨g0, off + 1, none⟩ = some (.int .i64 M) := fun o => ((Below.refl w1.heap.size w1).alloc (Nat.le_refl _) o).cell (p := ⟨g0, off + 1, none⟩) hg1 |>.trans k1
    have hbn : ∀ o, Below w.heap.size w (w1.alloc o) := fun o => hb1.alloc hb1.size _
    have hnew : ∀ vs, Blk (w1.alloc (.cells vs 61)) sB 61 vs := fun vs => by rw [← hsB]; exact Blk.alloc_new _ _ _
    have hLO : ∀ x, x < w.heap.size → LoopO b b.v sB (.slice none 0 0) x → b.O x := fun x hx h => by
      rcases h with h | h | h
      · exact h
      · have := hb1.size; omega
      · exact nomatch h
    have hsub : IntKind.i64.wrap (M - lo) = M - lo := IntWalk.i64_in _ (by omega)
    go_cut [1] (fun s1 wx => ∃ q1, rw q1 = body (rw (x0 :: q0)) ∧ RestsAre (LoopO b b.v sB (.slice none 0 0)) wx s1 q1 ∧ Blk wx sB 61 #[.bool (isFin (rw (x0 :: q0))), .int .i64 (outOf (rw (x0 :: q0))), .slice none 0 0] ∧ Below w.heap.size w wx)
    case first =>
      by_cases h0 : rl = 0
      · subst h0
        have hfin' : isFin (rw (x0 :: q0)) = true := by rw [hfin]; rfl
        have hbody : rw q0 = body (rw (x0 :: q0)) := by unfold body; rw [hfin']; rfl
        have hout : outOf (rw (x0 :: q0)) = M - lo := by unfold outOf; rw [hfin', hlo, ← hM]; rfl
        go_wp2_with fail
        go_region
        all_goals go_wp2_with fail
        all_goals go_meet
        all_goals
          refine ⟨q0, hbody, ?_, ?_, ?_⟩
          · first
              | exact (hR'.tail2.1).turn (Turn.of_below (hbn _).drew) hLO
              | exact (hR'.tail2.2 (by omega)).turn (Turn.of_below (hbn _).drew) hLO
          · rw [hfin, hout]
            exact hnew _
          · exact (hbn _).drew
      · have h0b : ((rl : Int) == 0) = false := by rw [beq_eq_false_iff_ne]; omega
        have hfin' : isFin (rw (x0 :: q0)) = false := by rw [hfin]; simpa using h0
        go_wp2_with fail
        go_meet
        refine ⟨x0 :: q0, by unfold body; rw [hfin']; rfl, hR'.turn (Turn.of_below (hbn _)) hLO, ?_, hbn _⟩
        unfold outOf
        rw [hfin']
        exact hnew _
    case rest =>
      obtain ⟨q1, hq1, hR1, bS1, hbW⟩ := hcut
      obtain ⟨W0, hW0⟩ : ∃ W0, wc = W0 := ⟨_, rfl⟩
      rw [hW0] at hR1 bS1 hbW ⊢
      obtain ⟨R, hRR⟩ : ∃ R, arcsF (stateF n) lo (body (rw (x0 :: q0))).length S (body (rw (x0 :: q0))) = R := ⟨_, rfl⟩
      obtain ⟨fin, hfn⟩ : ∃ fin, isFin (rw (x0 :: q0)) = fin := ⟨_, rfl⟩
      obtain ⟨out, hon⟩ : ∃ out, outOf (rw (x0 :: q0)) = out := ⟨_, rfl⟩
      have hres : stateF (n + 1) S (rw (x0 :: q0)) = addS R.2 ⟨fin, out, R.1⟩ := by
        rw [← hRR, ← hfn, ← hon, ← hlo]; rfl
      obtain ⟨b1, b2⟩ := hok.body
      obtain ⟨b3, b4⟩ := tot_body (rw (x0 :: q0))
      have hlB : ∀ x, b.O x → x < sB := fun x hx => by have h1 := hB.O_lt hx; have h2 := hb1.size; omega
      rw [hfn, hon] at bS1
      have hq1l := rw_len q1
      have h0l := rw_len (x0 :: q0)
      have hfew := hok.few
      have hLI : LI b w sB n lo fin out R 900000 (C + 2 * tot (rw (x0 :: q0))) F W0 u1 b.v S C q1 [] (.slice none 0 0) := by
        exact ⟨(hB.below hbW).weaken' hbW (fun x hx h => by have h2 := hb1.size; rcases h with h | h | h; exact h; omega; exact nomatch h) hB, hR1, by rw [hq1]; exact b1, by rw [hq1]; exact b2, ⟨(body (rw (x0 :: q0))).length, by rw [← hq1, rw_len]; exact Nat.le_refl _, by rw [hq1, hRR]; rfl⟩, bS1, World.ownsRow_nil _ _ _ _, Turn.of_below hbW, fun x _ h => h, ⟨fun h => absurd (hlB sB h) (by omega), fun x h => nomatch h⟩, by have := hb1.size; omega, by rw [hq1]; omega, by rw [hq1, List.length_nil]; omega, by simp, by rw [List.length_nil, Nat.zero_add, ← hq1l, hq1]; omega⟩
      have hout64 : i64 out := by
        rw [i64_iff, ← hon]
        unfold outOf
        split
        · rw [hlo]
          have : ((rw (x0 :: q0)).headD ([], 0)).2 = M := hM
          rw [this]; omega
        · omega
      have hLH := Lib.hid hLI
      clear hLI hR1 bS1 hbW hW0 hR hR' hleast hB hq1 hRR hfn hon hq1l h0l
      go_wp2_with fail
      go_loopw [1, 7, 8] (fun x1 x7 x8 wr => ∃ v' S' C' q A u, LI b w sB n lo fin out R 900000 (C + 2 * tot (rw (x0 :: q0))) F wr x1 v' S' C' q A u) (fun x1 _ _ _ => slLen x1)
      case atStart => exact ⟨_, _, _, _, _, _, hLH.out⟩
      case round =>
        clear hLH
        rename World => wa
        obtain ⟨v', S', C', q, A, u, hL⟩ := hrel
        obtain ⟨a1, c1, hu1⟩ := hL.rests.slice
        obtain ⟨k, hk⟩ : ∃ k, q.length = k := ⟨_, rfl⟩
        rw [hk] at hu1
        subst hu1
        by_cases hk0 : k = 0
        · subst hk0
          obtain rfl : q = [] := List.eq_nil_of_length_eq_zero hk
          have hAR : A = R.1 ∧ S' = R.2 := by
            obtain ⟨m, _, e⟩ := hL.res
            rw [← e]
            cases m <;> simp [rw, arcsF]
          have hadd := add_ok { b with v := v' } S' C' F ⟨fin, out, A⟩ u wa (hL.bok.weaken (fun _ _ h => .inl h)) (arcs_own (A := A) hL.row (by have := hL.few; omega) hL.far.2) (fun y hy hf => by have h1 := owns_base hL.row y hy; have h2 := hF y hf; have h3 := hL.sb; omega) hout64 hL.arcs (by have := hL.cS; omega) (by have := hL.cC; omega)
          have bB := hL.box
          have t0 : wa.cell? ⟨sB, 0, none⟩ = some (.bool fin) := (Blk.cell bB 0).trans rfl
          have t1 : wa.cell? ⟨sB, 1, none⟩ = some (.int .i64 out) := (Blk.cell bB 1).trans rfl
          have t2 : wa.cell? ⟨sB, 2, none⟩ = some u := (Blk.cell bB 2).trans rfl
          have hLH := Lib.hid hL
          clear hL
          unfold stV at hadd
          dsimp only at hadd
          go_wp2_with (go_at_call 30; refine hadd.mono ?_; rintro e w2 ⟨v2, rfl, hB2, hT2, hO2⟩)
          go_ret
          have hL := hLH.out
          refine ⟨v2, ?_, ?_, hT2.trans' hL.turn hL.old, fun x hx h => hL.old x hx (hO2 x (Nat.lt_of_lt_of_le hx hL.turn.size) h)⟩
          · rw [hres, ← hAR.1, ← hAR.2]; rfl
          · rw [hres, ← hAR.1, ← hAR.2]
            refine hB2.more ?_
            have := hL.cC
            show C' + 1 + A.length ≤ _
            omega
        · obtain ⟨x, q, rfl⟩ : ∃ x q', q = x :: q' := by cases q with | nil => simp at hk; omega | cons x q => exact ⟨x, q, rfl⟩
          obtain ⟨g, off, rfl, hg, hgO, d0, d1⟩ := hL.rests.at_ (j := 0) (x := x) rfl
          rw [Nat.zero_mul, Nat.add_zero] at d0 d1
          have hIC := hL.rests.runes x (List.mem_cons_self)
          have hxne : x.r ≠ [] := hL.ne (x.r, x.wt) (List.mem_cons_self)
          obtain ⟨c, r', hxr⟩ : ∃ c r', x.r = c :: r' := by cases hx : x.r with | nil => exact absurd hx hxne | cons c r' => exact ⟨c, r', rfl⟩
          obtain ⟨ua, uc, hu, h1, h2, h3, h4⟩ := hIC
          obtain ⟨gr, offr, rfl, hgr, _, e0⟩ := h4 0 (by rw [hxr]; simp)
          rw [hxr] at e0
          rw [Nat.add_zero] at e0
          have e0 : wa.cell? ⟨gr, offr, none⟩ = some (.int .i32 c) := e0
          obtain ⟨rn, hrn⟩ : ∃ rn, x.r.length = rn := ⟨_, rfl⟩
          rw [hu, hrn] at d0
          have hrn0 : (0 : Int) < (rn : Int) := by rw [← hrn, hxr, List.length_cons]; omega
          have hk1 : (0 : Int) < (k : Int) := by omega
          have hLH := Lib.hid hL
          have Hd1 := Lib.hid d1
          have HXR := Lib.hid hxr
          clear hL h1 h2 h3 h4 hxr d1
          have hkd : decide (0 < k) = true := decide_eq_true (by omega)
          go_wp2_with fail
          try rw [hkd]
          go_loopw [1, 8] (fun s1 s8 wr => ∃ q2 qr, rw q2 ++ under c (rw qr) = under c (rw (x :: q)) ∧ after c (rw qr) = after c (rw (x :: q)) ∧ RestsAre (LoopO b v' sB u) wa s1 qr ∧ (∀ y ∈ rw qr, y.1 ≠ []) ∧ wr.ownsRow wa.heap.size 50 2 s8 q2.length (rowR q2) ∧ (∀ y ∈ q2, IntsC (LoopO b v' sB u) wa .i32 y.u y.r) ∧ Below wa.heap.size wa wr ∧ q2.length + qr.length ≤ 4096)
            (fun s1 _ _ => slLen s1)
          case atStart => exact ⟨[], x :: q, rfl, rfl, hLH.out.rests, hLH.out.ne, World.ownsRow_nil _ _ _ _, by simp, Below.refl _ _, by have := hLH.out.few; simp at this ⊢; omega⟩
          case round =>
            obtain ⟨q2, qr, hun, haf, hRr, hne2, hrow, hic, hbr, hlr⟩ := hrel
            go_upto_region 9 with fail
            go_cut [48] (fun s wx => ∃ cb : Bool, s = .bool cb ∧ wx = wr ∧ (cb = true → ∃ y qr' r2, qr = y :: qr' ∧ y.r = c :: r2) ∧ (cb = false → under c (rw qr) = [] ∧ after c (rw qr) = rw qr))
            case first =>
              replace hRr := hRr.turn (O' := LoopO b v' sB u) (Turn.of_below hbr) (fun _ _ h => h)
              obtain ⟨a2, c2, hs2⟩ := hRr.slice
              obtain ⟨m, hm⟩ : ∃ m, qr.length = m := ⟨_, rfl⟩
              rw [hm] at hs2
              subst hs2
              by_cases hm0 : m = 0
              · subst hm0
                obtain rfl : qr = [] := List.eq_nil_of_length_eq_zero hm
                go_wp2_with fail
                go_meet
                exact ⟨false, rfl, rfl, fun h => (nomatch h), fun _ => ⟨rfl, rfl⟩⟩
              · obtain ⟨y, qr', rfl⟩ : ∃ y q', qr = y :: q' := by cases qr with | nil => simp at hm; omega | cons x q => exact ⟨x, q, rfl⟩
                obtain ⟨g2, off2, rfl, hg2, _, f0, f1⟩ := hRr.at_ (j := 0) (x := y) rfl
                rw [Nat.zero_mul, Nat.add_zero] at f0 f1
                obtain ⟨cy, ry, hyr⟩ : ∃ c r', y.r = c :: r' := by cases hy : y.r with | nil => exact absurd hy (hne2 (y.r, y.wt) (List.mem_cons_self)) | cons c r' => exact ⟨c, r', rfl⟩
                obtain ⟨uay, ucy, huy, l1, l2, l3, l4⟩ := hRr.runes y (List.mem_cons_self)
                obtain ⟨gy, offy, rfl, hgy, _, f2⟩ := l4 0 (by rw [hyr]; simp)
                rw [hyr, Nat.add_zero] at f2
                have f2 : wr.cell? ⟨gy, offy, none⟩ = some (.int .i32 cy) := f2
                obtain ⟨yn, hyn⟩ : ∃ rn, y.r.length = rn := ⟨_, rfl⟩
                rw [huy, hyn] at f0
                have hyn0 : (0 : Int) < (yn : Int) := by rw [← hyn, hyr, List.length_cons]; omega
                have hm1 : (0 : Int) < (m : Int) := by omega
                have HYR := Lib.hid hyr
                clear l1 l2 l3 l4 hyr
                by_cases hcc : cy = c
                · have hceq : (cy == c) = true := by rw [beq_iff_eq]; exact hcc
                  go_wp2_with fail
                  go_meet
                  exact ⟨true, by first | rfl | rw [hceq], rfl, fun _ => ⟨y, qr', ry, rfl, by rw [HYR.out, hcc]⟩, fun h => (nomatch h)⟩
                · have hceq : (cy == c) = false := by rw [beq_eq_false_iff_ne]; exact hcc
                  go_wp2_with fail
                  go_meet
                  refine ⟨false, by first | rfl | rw [hceq], rfl, fun h => (nomatch h), fun _ => ?_⟩
                  rw [rw_cons]
                  unfold under after
                  dsimp only
                  rw [HYR.out, if_neg (by simpa using hcc), if_neg (by simpa using hcc)]
                  exact ⟨rfl, rfl⟩
            case rest =>
              obtain ⟨cb, rfl, rfl, hcb1, hcb0⟩ := hcut
              cases cb
              · obtain ⟨hz1, hz2⟩ := hcb0 rfl
                rw [hz1, List.append_nil] at hun
                rw [hz2] at haf
                clear hcb1 hcb0 hz1 hz2
                have hL := hLH.out
                have hxr := HXR.out
                have hR2 : RestsAre (LoopO b v' sB u) wc u8 q2 := rests_own hrow (by omega) (fun y hy ho => by have h1 := owns_base hrow y hy; have h2 := hL.lt y ho; omega) (fun y hy => (hic y hy).turn (Turn.of_below hbr) (fun _ _ h => h))
                have hok2 : RwOk n (rw q2) := by rw [hun]; exact hL.ok.under c
                have hune : under c (rw (x :: q)) ≠ [] := by
                  have := under_ne (x := (x.r, x.wt)) (l := rw q) (by rw [hxr]; simp)
                  rw [show ((x.r, x.wt) : Rw).1.headD 0 = c by rw [hxr]; rfl] at this
                  exact this
                have hq2n : q2 ≠ [] := fun e => hune (by rw [← hun, e]; rfl)
                obtain ⟨lw, hlw⟩ : ∃ lw, low (rw q2) = lw := ⟨_, rfl⟩
                have hlwb : 0 ≤ lw ∧ lw ≤ 1048576 := by
                  obtain ⟨y, hy, e⟩ := low_mem (l := rw q2) (by rw [hun]; exact hune)
                  rw [← hlw, e]; exact hok2.wt y hy
                obtain ⟨⟨S2, t2⟩, hst⟩ : ∃ p, stateF n S' (rw q2) = p := ⟨_, rfl⟩
                have htg := tot_under c (rw (x :: q))
                have HLS : ∀ W', Turn (Bd.O { b with v := v' }) wc W' → Calls Tryd.prog 15 #[u8] W' fun e w' => e = .returned (.int .i64 lw) ∧ Below W'.heap.size W' w' := fun W' hT => by
                  have h1 := least_any (fun _ => False) u8 q2 W' (hR2.turn (hT.more (fun _ _ h => .inl h)) (fun _ _ h => h.elim)) hq2n
                  rw [show leastF (q2.map (·.wt)) = lw by rw [← hlw]; unfold low rw; rw [List.map_map]; rfl] at h1
                  exact h1
                have HST : ∀ W', Below wc.heap.size wc W' → Calls Tryd.prog 14 #[.pointer (some ⟨b.p, 0, none⟩), u8] W' (StEnd { b with v := v' } (S2, t2) (C' + 2 * tot (rw q2) + 1) (LoopF F sB u) W') := fun W' hb => by
                  have hbw : Below wa.heap.size wa W' := hbr.trans (hb.mono hbr.size)
                  have h1 := ih { b with v := v' } S' C' (LoopF F sB u) u8 q2 W' (fun y hy => by
                    have h1 := hbw.size
                    rcases hy with hy | hy | hy
                    · have h2 := hF y hy; have h3 := hL.turn.size; omega
                    · have h2 := hL.lt y (.inr (.inl hy)); omega
                    · have h2 := hL.lt y (.inr (.inr hy)); omega) (hL.bok.below hbw) (hR2.turn (Turn.of_below hb) (fun _ _ h => .inl h)) hq2n hok2 (by have := hL.cS; rw [hun]; omega) (by have := hL.cC; rw [hun]; omega)
                  rw [hst] at h1
                  exact h1
                have bB := hL.box
                have hsO : ¬ Bd.O { b with v := v' } sB := hL.far.1
                have hsw : sB < wa.heap.size := bB.lt
                have hwz := hbr.size
                obtain ⟨au, cu, hus⟩ := owns_shape hL.row
                have hlt' : (i64 (lw - lo)) := (i64_iff _).2 (by omega)
                have hsub2 : IntKind.i64.wrap (lw - lo) = lw - lo := IntWalk.i64_in _ (by omega)
                have SD : wc.drew.cell? ⟨sB, 2, none⟩ = some u := (hbr.cell (p := ⟨sB, 2, none⟩) hsw).trans ((Blk.cell bB 2).trans rfl)
                have SDt : ∀ W', Turn (Bd.O { b with v := v' }) wc W' → W'.cell? ⟨sB, 2, none⟩ = some u := fun W' hT => (hT.cell (by omega) hsO 2).trans SD
                obtain ⟨i0, z0, hi0, hz0, hsz0, hby0, hzs0⟩ := info_arc
                have hAl : A.length ≤ 4096 := by have := hL.few; omega
                have hown := hL.row
                have HREL : ∀ (W2 : World) (v2 : Value) (W3 W4 : World) (u4 : Value), Bok W2 { b with v := v2 } S2 (C' + 2 * tot (rw q2) + 1) (LoopF F sB u) → Turn (Bd.O { b with v := v' }) wc W2 → (∀ y, y < wc.heap.size → Bd.O { b with v := v2 } y → Bd.O { b with v := v' } y) → Below W2.heap.size W2 W3 →
                    W4.ownsRow (sB + 1) 63 3 u4 (A.length + 1) (rowA A ++ (arcV ⟨c, lw - lo, (t2 : Nat)⟩).toList) → W3.grownBy W4 u.ownBlock → (u4.ownBlock = u.ownBlock ∨ u4.ownBlock = some W3.heap.size) →
                    LI b w sB n lo fin out R 900000 (C + 2 * tot (rw (x0 :: q0))) F (W4.setCell ⟨sB, 2, none⟩ u4) u1 v2 S2 (C' + 2 * tot (rw q2) + 1) qr (A ++ [⟨c, lw - lo, (t2 : Nat)⟩]) u4 := fun W2 v2 W3 W4 u4 g1 g2 g3 g4 g5 g6 g7 =>
                  LI.next hL (by omega) (by omega) hxr hun haf hRr hst g1 ((Turn.of_below hbr).trans g2 (fun _ _ h => h)) (fun y hy h => g3 y (by omega) h) (by rw [hlw]) g4 g4.size g5 g6 g7
                have hqrl : qr.length < k := by
                  have h1 := congrArg List.length (group_after c (rw (x :: q)))
                  have h2 := rw_len qr
                  have h3 := rw_len (x :: q)
                  have h4 : (under c (rw (x :: q))).length = (group c (rw (x :: q))).length := by rw [under_group, List.length_map]
                  have h5 := List.length_pos_iff.2 hune
                  rw [List.length_append, ← haf] at h1
                  omega
                obtain ⟨ar, cr, hur⟩ := hRr.slice
                have hTc : Turn (Bd.O { b with v := v' }) wc wc.drew := Turn.of_below (Below.refl _ _).drew
                have hbC : Below wc.heap.size wc wc.drew := (Below.refl _ _).drew
                have SC := SDt _ hTc
                have HOC := Lib.hid (fun (W' : World) (hT : Turn (Bd.O { b with v := v' }) wc W') => owns_kept (owns_below hown hbr) (fun y hy => hT.kept y (Nat.lt_of_lt_of_le (hown.lt y hy).2 hwz) (hL.far.2 y hy)))
                have HBX := Lib.hid (fun (W3 W4 : World) (hT : Turn (Bd.O { b with v := v' }) wc W3) (hg : W3.grownBy W4 u.ownBlock) => (show Blk W4 sB 61 #[.bool fin, .int .i64 out, u] from (hg.block sB (by have := hT.size; omega) (fun e => by have := owns_base hown sB e.symm; omega)).trans (hT.blk (bB.below hbr hsw) hsO)))
                have HUS := Lib.hid hus
                have HRL := Lib.hid hqrl
                have HRE := Lib.hid HREL
                have HOW := Lib.hid hown
                have HBW := Lib.hid hbr
                have HHS := Lib.hid HST
                have HHL := Lib.hid HLS
                have HUR := Lib.hid hur
                have HKL := Lib.hid hk
                clear hun haf hL hxr hR2 hok2 hune hq2n hlw hst htg bB hus hrow hic hne2 hRr hlr hqrl HREL hown hbr HST HLS hur HXR hLH
                go_wp2_with fail
                refine wp_region_noPanic ?_
                refine wp_region_held_drew (S := fun _ => True) (by kernel_rfl) trivial (fun hHeld => ?_)
                refine wpAnyH_take (i := 0) (v := .pointer (some ⟨sB, 2, none⟩)) rfl (by kernel_rfl) (by kernel_rfl) (by kernel_rfl) (fun _ _ _ h => h) (.inl ⟨by rfl, by intro w hSw; go_simp⟩) hHeld ?_
                simp only [Act.put, List.getElem_toArray, List.getElem_cons_succ, List.getElem_cons_zero, List.setIfInBounds_toArray, List.set_cons_zero, List.set_cons_succ]
                refine wpAnyH_take (i := 2) (v := .int .i32 c) rfl (by kernel_rfl) (by kernel_rfl) (by kernel_rfl) (fun _ _ _ h => h) (.inl ⟨by rfl, by intro w hSw; go_simp⟩) hHeld ?_
                simp only [Act.put, List.getElem_toArray, List.getElem_cons_succ, List.getElem_cons_zero, List.setIfInBounds_toArray, List.set_cons_zero, List.set_cons_succ]
                refine wpAnyH_take (i := 3) (v := u8) rfl (by kernel_rfl) (by kernel_rfl) (by kernel_rfl) (fun _ _ _ h => h) (.inl ⟨by rfl, by intro w hSw; go_simp⟩) hHeld ?_
                simp only [Act.put, List.getElem_toArray, List.getElem_cons_succ, List.getElem_cons_zero, List.setIfInBounds_toArray, List.set_cons_zero, List.set_cons_succ]
                refine wpAnyH_take (i := 5) (v := .int .i64 lo) rfl (by kernel_rfl) (by kernel_rfl) (by kernel_rfl) (fun _ _ _ h => h) (.inl ⟨by rfl, by intro w hSw; go_simp⟩) hHeld ?_
                simp only [Act.put, List.getElem_toArray, List.getElem_cons_succ, List.getElem_cons_zero, List.setIfInBounds_toArray, List.set_cons_zero, List.set_cons_succ]
                refine wpAnyH_take (i := 7) (v := .pointer (some ⟨b.p, 0, none⟩)) rfl (by kernel_rfl) (by kernel_rfl) (by kernel_rfl) (fun _ _ _ h => h) (.inl ⟨by rfl, by intro w hSw; go_simp⟩) hHeld ?_
                simp only [Act.put, List.getElem_toArray, List.getElem_cons_succ, List.getElem_cons_zero, List.setIfInBounds_toArray, List.set_cons_zero, List.set_cons_succ]
                refine wpAnyH_take (i := 8) (v := u8) rfl (by kernel_rfl) (by kernel_rfl) (by kernel_rfl) (fun _ _ _ h => h) (.inl ⟨by rfl, by intro w hSw; go_simp⟩) hHeld ?_
                simp only [Act.put, List.getElem_toArray, List.getElem_cons_succ, List.getElem_cons_zero, List.setIfInBounds_toArray, List.set_cons_zero, List.set_cons_succ]
                refine wpAnyH_ready (rs := [1, 4]) (by kernel_rfl) (by simp) ?_
                refine AllReadyH.cons rfl (fun K hK => ?_) (AllReadyH.cons rfl (fun K hK => ?_) AllReadyH.nil)
                · have hx := SC
                  go_simp
                  clear hx
                  refine hK.out _ _ trivial (fun hHeld => ?_)
                  clear hK K
                  try simp only [Act.put, List.getElem_toArray, List.getElem_cons_succ, List.getElem_cons_zero, List.setIfInBounds_toArray, List.set_cons_zero, List.set_cons_succ]
                  refine wpAnyH_ready (rs := [4]) (by kernel_rfl) (by simp) ?_
                  refine AllReadyH.cons rfl (fun K hK => ?_) AllReadyH.nil
                  go_simp
                  (go_at_call 15; refine (HHL.out _ hTc).mono ?_; rintro e wA ⟨rfl, hbA⟩)
                  try go_wp2_with fail
                  replace hTc : Turn (Bd.O { b with v := v' }) wc wA := hTc.trans (Turn.of_below (O := fun _ => False) hbA) (fun _ _ h => h.elim)
                  replace SC := SDt _ hTc
                  replace hbC : Below wc.heap.size wc wA := hbC.trans (hbA.mono hbC.size)
                  refine hK.out _ _ trivial (fun hHeld => ?_)
                  clear hK K
                  try simp only [Act.put, List.getElem_toArray, List.getElem_cons_succ, List.getElem_cons_zero, List.setIfInBounds_toArray, List.set_cons_zero, List.set_cons_succ]
                  clear hbA
                  refine wpAnyH_take (i := 6) (v := .int .i64 (lw - lo)) rfl (by kernel_rfl) (by kernel_rfl) (by kernel_rfl) (fun _ _ _ h => h) (.inl ⟨by rfl, by intro w hSw; go_simp⟩) hHeld ?_
                  simp only [Act.put, List.getElem_toArray, List.getElem_cons_succ, List.getElem_cons_zero, List.setIfInBounds_toArray, List.set_cons_zero, List.set_cons_succ]
                  refine wpAnyH_ready (rs := [9]) (by kernel_rfl) (by simp) ?_
                  refine AllReadyH.cons rfl (fun K hK => ?_) AllReadyH.nil
                  go_simp
                  (go_at_call 14; refine (HHS.out _ hbC).mono ?_; rintro e w2 ⟨v2, rfl, hB2, hT2, hO2'⟩)
                  try go_wp2_with fail
                  replace hTc : Turn (Bd.O { b with v := v' }) wc w2 := (Turn.of_below hbC).trans hT2 (fun _ _ h => h)
                  have hO2 : ∀ y, y < wc.heap.size → Bd.O { b with v := v2 } y → Bd.O { b with v := v' } y := fun y hy h => hO2' y (Nat.lt_of_lt_of_le hy hbC.size) h
                  replace SC := SDt _ hTc
                  refine hK.out _ _ trivial (fun hHeld => ?_)
                  clear hK K
                  try simp only [Act.put, List.getElem_toArray, List.getElem_cons_succ, List.getElem_cons_zero, List.setIfInBounds_toArray, List.set_cons_zero, List.set_cons_succ]
                  clear hT2 hO2' hbC
                  refine wpAnyH_take (i := 10) (v := .agg #[.int .i32 c, .int .i64 (lw - lo), .int .i64 (t2 : Nat)]) rfl (by kernel_rfl) (by kernel_rfl) (by kernel_rfl) (fun _ _ _ h => h) (.inl ⟨by rfl, by intro w hSw; go_simp⟩) hHeld ?_
                  simp only [Act.put, List.getElem_toArray, List.getElem_cons_succ, List.getElem_cons_zero, List.setIfInBounds_toArray, List.set_cons_zero, List.set_cons_succ]
                  obtain ⟨W3, hW3⟩ : ∃ W3, w2.alloc (.cells #[.int .i32 c, .int .i64 (lw - lo), .int .i64 (t2 : Nat)] 63) = W3 := ⟨_, rfl⟩
                  have bN3 : Blk W3 w2.heap.size 63 #[.int .i32 c, .int .i64 (lw - lo), .int .i64 (t2 : Nat)] := by rw [← hW3]; exact Blk.alloc_new _ _ _
                  have hb3 : Below w2.heap.size w2 W3 := by rw [← hW3]; exact (Below.refl _ _).alloc (Nat.le_refl _) _
                  have own3 : W3.ownsRow (sB + 1) 63 3 u A.length (rowA A) := owns_below (HOC.out _ hTc) hb3
                  obtain ⟨u4, W4, hr4, own4, grow4, _, new4⟩ := run_append_own_at (P := Tryd.prog) W3 (sB + 1) 59 59 63 i0 z0 3 24 Tryd.underlying59 hi0 hz0 hsz0 hby0 hzs0 (by decide) u A.length (rowA A) own3 ⟨w2.heap.size, 0, none⟩ 1 1 [.int .i32 c, .int .i64 (lw - lo), .int .i64 (t2 : Nat)] rfl
                    (World.news_of_block bN3) (by intro y hy; simp at hy; rcases hy with rfl | rfl | rfl <;> rfl) (by unfold maxLen; omega) (by omega) (by have h1 := hTc.size; have h2 := hb3.size; omega)
                  obtain ⟨va, vc, rfl⟩ := owns_shape own4
                  have B4 := HBX.out W3 W4 (hTc.trans (Turn.of_below (O := fun _ => False) hb3) (fun _ _ h => h.elim)) grow4
                  have m0 : W4.cell? ⟨sB, 2, none⟩ = some u := (Blk.cell B4 2).trans rfl
                  have m1 : W4.frozen? ⟨sB, 2, none⟩ = false := Blk.free B4 2
                  replace SC : W3.cell? ⟨sB, 2, none⟩ = some u := SDt W3 (hTc.trans (Turn.of_below (O := fun _ => False) hb3) (fun _ _ h => h.elim))
                  have SCo := SDt _ hTc
                  have HR4 := Lib.hid hr4
                  have HLI := Lib.hid (HRE.out w2 v2 W3 W4 _ hB2 hTc hO2 hb3 own4 grow4 new4)
                  clear hr4 own4 grow4 new4 own3 hB2 hTc hO2 B4 bN3 hb3
                  refine wpAnyH_ready (rs := [11]) (by kernel_rfl) (by simp) ?_
                  refine AllReadyH.cons rfl (fun K hK => ?_) AllReadyH.nil
                  go_simp
                  try rw [hW3]
                  refine hK.out _ _ trivial (fun hHeld => ?_)
                  clear hK K
                  try simp only [Act.put, List.getElem_toArray, List.getElem_cons_succ, List.getElem_cons_zero, List.setIfInBounds_toArray, List.set_cons_zero, List.set_cons_succ]
                  refine wpAnyH_ready (rs := [12]) (by kernel_rfl) (by simp) ?_
                  refine AllReadyH.cons rfl (fun K hK => ?_) AllReadyH.nil
                  rw [if_pos (by rfl)]
                  refine wp_append_run _ _ 59 rfl _ _ rfl rfl (v' := .slice va (A.length + 1) vc) (w' := W4) HR4.out ?_
                  refine hK.out _ _ trivial (fun hHeld => ?_)
                  clear hK K
                  try simp only [Act.put, List.getElem_toArray, List.getElem_cons_succ, List.getElem_cons_zero, List.setIfInBounds_toArray, List.set_cons_zero, List.set_cons_succ]
                  refine wpAnyH_take (i := 13) (v := .pointer (some ⟨sB, 2, none⟩)) rfl (by kernel_rfl) (by kernel_rfl) (by kernel_rfl) (fun _ _ _ h => h) (.inl ⟨by rfl, by intro w hSw; go_simp⟩) hHeld ?_
                  simp only [Act.put, List.getElem_toArray, List.getElem_cons_succ, List.getElem_cons_zero, List.setIfInBounds_toArray, List.set_cons_zero, List.set_cons_succ]
                  refine wpAnyH_ready (rs := [14]) (by kernel_rfl) (by simp) ?_
                  refine AllReadyH.cons rfl (fun K hK => ?_) AllReadyH.nil
                  go_simp
                  refine hK.out _ _ trivial (fun hHeld => ?_)
                  clear hK K
                  try simp only [Act.put, List.getElem_toArray, List.getElem_cons_succ, List.getElem_cons_zero, List.setIfInBounds_toArray, List.set_cons_zero, List.set_cons_succ]
                  refine wpAnyH_done (by kernel_rfl) ?_ _
                  refine NoPanic.normal ?_
                  go_wp2_with fail
                  have hm := HUR.out
                  refine ⟨⟨_, _, _, _, _, _, HLI.out⟩, ?_⟩
                  rw [hm]
                  exact HRL.out
                · go_simp
                  (go_at_call 15; refine (HHL.out _ hTc).mono ?_; rintro e wA ⟨rfl, hbA⟩)
                  try go_wp2_with fail
                  replace hTc : Turn (Bd.O { b with v := v' }) wc wA := hTc.trans (Turn.of_below (O := fun _ => False) hbA) (fun _ _ h => h.elim)
                  replace SC := SDt _ hTc
                  replace hbC : Below wc.heap.size wc wA := hbC.trans (hbA.mono hbC.size)
                  refine hK.out _ _ trivial (fun hHeld => ?_)
                  clear hK K
                  try simp only [Act.put, List.getElem_toArray, List.getElem_cons_succ, List.getElem_cons_zero, List.setIfInBounds_toArray, List.set_cons_zero, List.set_cons_succ]
                  clear hbA
                  refine wpAnyH_take (i := 6) (v := .int .i64 (lw - lo)) rfl (by kernel_rfl) (by kernel_rfl) (by kernel_rfl) (fun _ _ _ h => h) (.inl ⟨by rfl, by intro w hSw; go_simp⟩) hHeld ?_
                  simp only [Act.put, List.getElem_toArray, List.getElem_cons_succ, List.getElem_cons_zero, List.setIfInBounds_toArray, List.set_cons_zero, List.set_cons_succ]
                  refine wpAnyH_ready (rs := [1, 9]) (by kernel_rfl) (by simp) ?_
                  refine AllReadyH.cons rfl (fun K hK => ?_) (AllReadyH.cons rfl (fun K hK => ?_) AllReadyH.nil)
                  · have hx := SC
                    go_simp
                    clear hx
                    refine hK.out _ _ trivial (fun hHeld => ?_)
                    clear hK K
                    try simp only [Act.put, List.getElem_toArray, List.getElem_cons_succ, List.getElem_cons_zero, List.setIfInBounds_toArray, List.set_cons_zero, List.set_cons_succ]
                    refine wpAnyH_ready (rs := [9]) (by kernel_rfl) (by simp) ?_
                    refine AllReadyH.cons rfl (fun K hK => ?_) AllReadyH.nil
                    go_simp
                    (go_at_call 14; refine (HHS.out _ hbC).mono ?_; rintro e w2 ⟨v2, rfl, hB2, hT2, hO2'⟩)
                    try go_wp2_with fail
                    replace hTc : Turn (Bd.O { b with v := v' }) wc w2 := (Turn.of_below hbC).trans hT2 (fun _ _ h => h)
                    have hO2 : ∀ y, y < wc.heap.size → Bd.O { b with v := v2 } y → Bd.O { b with v := v' } y := fun y hy h => hO2' y (Nat.lt_of_lt_of_le hy hbC.size) h
                    replace SC := SDt _ hTc
                    refine hK.out _ _ trivial (fun hHeld => ?_)
                    clear hK K
                    try simp only [Act.put, List.getElem_toArray, List.getElem_cons_succ, List.getElem_cons_zero, List.setIfInBounds_toArray, List.set_cons_zero, List.set_cons_succ]
                    clear hT2 hO2' hbC
                    refine wpAnyH_take (i := 10) (v := .agg #[.int .i32 c, .int .i64 (lw - lo), .int .i64 (t2 : Nat)]) rfl (by kernel_rfl) (by kernel_rfl) (by kernel_rfl) (fun _ _ _ h => h) (.inl ⟨by rfl, by intro w hSw; go_simp⟩) hHeld ?_
                    simp only [Act.put, List.getElem_toArray, List.getElem_cons_succ, List.getElem_cons_zero, List.setIfInBounds_toArray, List.set_cons_zero, List.set_cons_succ]
                    obtain ⟨W3, hW3⟩ : ∃ W3, w2.alloc (.cells #[.int .i32 c, .int .i64 (lw - lo), .int .i64 (t2 : Nat)] 63) = W3 := ⟨_, rfl⟩
                    have bN3 : Blk W3 w2.heap.size 63 #[.int .i32 c, .int .i64 (lw - lo), .int .i64 (t2 : Nat)] := by rw [← hW3]; exact Blk.alloc_new _ _ _
                    have hb3 : Below w2.heap.size w2 W3 := by rw [← hW3]; exact (Below.refl _ _).alloc (Nat.le_refl _) _
                    have own3 : W3.ownsRow (sB + 1) 63 3 u A.length (rowA A) := owns_below (HOC.out _ hTc) hb3
                    obtain ⟨u4, W4, hr4, own4, grow4, _, new4⟩ := run_append_own_at (P := Tryd.prog) W3 (sB + 1) 59 59 63 i0 z0 3 24 Tryd.underlying59 hi0 hz0 hsz0 hby0 hzs0 (by decide) u A.length (rowA A) own3 ⟨w2.heap.size, 0, none⟩ 1 1 [.int .i32 c, .int .i64 (lw - lo), .int .i64 (t2 : Nat)] rfl
                      (World.news_of_block bN3) (by intro y hy; simp at hy; rcases hy with rfl | rfl | rfl <;> rfl) (by unfold maxLen; omega) (by omega) (by have h1 := hTc.size; have h2 := hb3.size; omega)
                    obtain ⟨va, vc, rfl⟩ := owns_shape own4
                    have B4 := HBX.out W3 W4 (hTc.trans (Turn.of_below (O := fun _ => False) hb3) (fun _ _ h => h.elim)) grow4
                    have m0 : W4.cell? ⟨sB, 2, none⟩ = some u := (Blk.cell B4 2).trans rfl
                    have m1 : W4.frozen? ⟨sB, 2, none⟩ = false := Blk.free B4 2
                    replace SC : W3.cell? ⟨sB, 2, none⟩ = some u := SDt W3 (hTc.trans (Turn.of_below (O := fun _ => False) hb3) (fun _ _ h => h.elim))
                    have SCo := SDt _ hTc
                    have HR4 := Lib.hid hr4
                    have HLI := Lib.hid (HRE.out w2 v2 W3 W4 _ hB2 hTc hO2 hb3 own4 grow4 new4)
                    clear hr4 own4 grow4 new4 own3 hB2 hTc hO2 B4 bN3 hb3
                    refine wpAnyH_ready (rs := [11]) (by kernel_rfl) (by simp) ?_
                    refine AllReadyH.cons rfl (fun K hK => ?_) AllReadyH.nil
                    go_simp
                    try rw [hW3]
                    refine hK.out _ _ trivial (fun hHeld => ?_)
                    clear hK K
                    try simp only [Act.put, List.getElem_toArray, List.getElem_cons_succ, List.getElem_cons_zero, List.setIfInBounds_toArray, List.set_cons_zero, List.set_cons_succ]
                    refine wpAnyH_ready (rs := [12]) (by kernel_rfl) (by simp) ?_
                    refine AllReadyH.cons rfl (fun K hK => ?_) AllReadyH.nil
                    rw [if_pos (by rfl)]
                    refine wp_append_run _ _ 59 rfl _ _ rfl rfl (v' := .slice va (A.length + 1) vc) (w' := W4) HR4.out ?_
                    refine hK.out _ _ trivial (fun hHeld => ?_)
                    clear hK K
                    try simp only [Act.put, List.getElem_toArray, List.getElem_cons_succ, List.getElem_cons_zero, List.setIfInBounds_toArray, List.set_cons_zero, List.set_cons_succ]
                    refine wpAnyH_take (i := 13) (v := .pointer (some ⟨sB, 2, none⟩)) rfl (by kernel_rfl) (by kernel_rfl) (by kernel_rfl) (fun _ _ _ h => h) (.inl ⟨by rfl, by intro w hSw; go_simp⟩) hHeld ?_
                    simp only [Act.put, List.getElem_toArray, List.getElem_cons_succ, List.getElem_cons_zero, List.setIfInBounds_toArray, List.set_cons_zero, List.set_cons_succ]
                    refine wpAnyH_ready (rs := [14]) (by kernel_rfl) (by simp) ?_
                    refine AllReadyH.cons rfl (fun K hK => ?_) AllReadyH.nil
                    go_simp
                    refine hK.out _ _ trivial (fun hHeld => ?_)
                    clear hK K
                    try simp only [Act.put, List.getElem_toArray, List.getElem_cons_succ, List.getElem_cons_zero, List.setIfInBounds_toArray, List.set_cons_zero, List.set_cons_succ]
                    refine wpAnyH_done (by kernel_rfl) ?_ _
                    refine NoPanic.normal ?_
                    go_wp2_with fail
                    have hm := HUR.out
                    refine ⟨⟨_, _, _, _, _, _, HLI.out⟩, ?_⟩
                    rw [hm]
                    exact HRL.out
                  · go_simp
                    (go_at_call 14; refine (HHS.out _ hbC).mono ?_; rintro e w2 ⟨v2, rfl, hB2, hT2, hO2'⟩)
                    try go_wp2_with fail
                    replace hTc : Turn (Bd.O { b with v := v' }) wc w2 := (Turn.of_below hbC).trans hT2 (fun _ _ h => h)
                    have hO2 : ∀ y, y < wc.heap.size → Bd.O { b with v := v2 } y → Bd.O { b with v := v' } y := fun y hy h => hO2' y (Nat.lt_of_lt_of_le hy hbC.size) h
                    replace SC := SDt _ hTc
                    refine hK.out _ _ trivial (fun hHeld => ?_)
                    clear hK K
                    try simp only [Act.put, List.getElem_toArray, List.getElem_cons_succ, List.getElem_cons_zero, List.setIfInBounds_toArray, List.set_cons_zero, List.set_cons_succ]
                    clear hT2 hO2' hbC
                    refine wpAnyH_take (i := 10) (v := .agg #[.int .i32 c, .int .i64 (lw - lo), .int .i64 (t2 : Nat)]) rfl (by kernel_rfl) (by kernel_rfl) (by kernel_rfl) (fun _ _ _ h => h) (.inl ⟨by rfl, by intro w hSw; go_simp⟩) hHeld ?_
                    simp only [Act.put, List.getElem_toArray, List.getElem_cons_succ, List.getElem_cons_zero, List.setIfInBounds_toArray, List.set_cons_zero, List.set_cons_succ]
                    obtain ⟨W3, hW3⟩ : ∃ W3, w2.alloc (.cells #[.int .i32 c, .int .i64 (lw - lo), .int .i64 (t2 : Nat)] 63) = W3 := ⟨_, rfl⟩
                    have bN3 : Blk W3 w2.heap.size 63 #[.int .i32 c, .int .i64 (lw - lo), .int .i64 (t2 : Nat)] := by rw [← hW3]; exact Blk.alloc_new _ _ _
                    have hb3 : Below w2.heap.size w2 W3 := by rw [← hW3]; exact (Below.refl _ _).alloc (Nat.le_refl _) _
                    have own3 : W3.ownsRow (sB + 1) 63 3 u A.length (rowA A) := owns_below (HOC.out _ hTc) hb3
                    obtain ⟨u4, W4, hr4, own4, grow4, _, new4⟩ := run_append_own_at (P := Tryd.prog) W3 (sB + 1) 59 59 63 i0 z0 3 24 Tryd.underlying59 hi0 hz0 hsz0 hby0 hzs0 (by decide) u A.length (rowA A) own3 ⟨w2.heap.size, 0, none⟩ 1 1 [.int .i32 c, .int .i64 (lw - lo), .int .i64 (t2 : Nat)] rfl
                      (World.news_of_block bN3) (by intro y hy; simp at hy; rcases hy with rfl | rfl | rfl <;> rfl) (by unfold maxLen; omega) (by omega) (by have h1 := hTc.size; have h2 := hb3.size; omega)
                    obtain ⟨va, vc, rfl⟩ := owns_shape own4
                    have B4 := HBX.out W3 W4 (hTc.trans (Turn.of_below (O := fun _ => False) hb3) (fun _ _ h => h.elim)) grow4
                    have m0 : W4.cell? ⟨sB, 2, none⟩ = some u := (Blk.cell B4 2).trans rfl
                    have m1 : W4.frozen? ⟨sB, 2, none⟩ = false := Blk.free B4 2
                    replace SC : W3.cell? ⟨sB, 2, none⟩ = some u := SDt W3 (hTc.trans (Turn.of_below (O := fun _ => False) hb3) (fun _ _ h => h.elim))
                    have SCo := SDt _ hTc
                    have HR4 := Lib.hid hr4
                    have HLI := Lib.hid (HRE.out w2 v2 W3 W4 _ hB2 hTc hO2 hb3 own4 grow4 new4)
                    clear hr4 own4 grow4 new4 own3 hB2 hTc hO2 B4 bN3 hb3
                    refine wpAnyH_ready (rs := [1, 11]) (by kernel_rfl) (by simp) ?_
                    refine AllReadyH.cons rfl (fun K hK => ?_) (AllReadyH.cons rfl (fun K hK => ?_) AllReadyH.nil)
                    · have hx := SCo
                      go_simp
                      clear hx
                      refine hK.out _ _ trivial (fun hHeld => ?_)
                      clear hK K
                      try simp only [Act.put, List.getElem_toArray, List.getElem_cons_succ, List.getElem_cons_zero, List.setIfInBounds_toArray, List.set_cons_zero, List.set_cons_succ]
                      refine wpAnyH_ready (rs := [11]) (by kernel_rfl) (by simp) ?_
                      refine AllReadyH.cons rfl (fun K hK => ?_) AllReadyH.nil
                      go_simp
                      try rw [hW3]
                      refine hK.out _ _ trivial (fun hHeld => ?_)
                      clear hK K
                      try simp only [Act.put, List.getElem_toArray, List.getElem_cons_succ, List.getElem_cons_zero, List.setIfInBounds_toArray, List.set_cons_zero, List.set_cons_succ]
                      refine wpAnyH_ready (rs := [12]) (by kernel_rfl) (by simp) ?_
                      refine AllReadyH.cons rfl (fun K hK => ?_) AllReadyH.nil
                      rw [if_pos (by rfl)]
                      refine wp_append_run _ _ 59 rfl _ _ rfl rfl (v' := .slice va (A.length + 1) vc) (w' := W4) HR4.out ?_
                      refine hK.out _ _ trivial (fun hHeld => ?_)
                      clear hK K
                      try simp only [Act.put, List.getElem_toArray, List.getElem_cons_succ, List.getElem_cons_zero, List.setIfInBounds_toArray, List.set_cons_zero, List.set_cons_succ]
                      refine wpAnyH_take (i := 13) (v := .pointer (some ⟨sB, 2, none⟩)) rfl (by kernel_rfl) (by kernel_rfl) (by kernel_rfl) (fun _ _ _ h => h) (.inl ⟨by rfl, by intro w hSw; go_simp⟩) hHeld ?_
                      simp only [Act.put, List.getElem_toArray, List.getElem_cons_succ, List.getElem_cons_zero, List.setIfInBounds_toArray, List.set_cons_zero, List.set_cons_succ]
                      refine wpAnyH_ready (rs := [14]) (by kernel_rfl) (by simp) ?_
                      refine AllReadyH.cons rfl (fun K hK => ?_) AllReadyH.nil
                      go_simp
                      refine hK.out _ _ trivial (fun hHeld => ?_)
                      clear hK K
                      try simp only [Act.put, List.getElem_toArray, List.getElem_cons_succ, List.getElem_cons_zero, List.setIfInBounds_toArray, List.set_cons_zero, List.set_cons_succ]
                      refine wpAnyH_done (by kernel_rfl) ?_ _
                      refine NoPanic.normal ?_
                      go_wp2_with fail
                      have hm := HUR.out
                      refine ⟨⟨_, _, _, _, _, _, HLI.out⟩, ?_⟩
                      rw [hm]
                      exact HRL.out
                    · go_simp
                      try rw [hW3]
                      refine hK.out _ _ trivial (fun hHeld => ?_)
                      clear hK K
                      try simp only [Act.put, List.getElem_toArray, List.getElem_cons_succ, List.getElem_cons_zero, List.setIfInBounds_toArray, List.set_cons_zero, List.set_cons_succ]
                      refine wpAnyH_ready (rs := [1]) (by kernel_rfl) (by simp) ?_
                      refine AllReadyH.cons rfl (fun K hK => ?_) AllReadyH.nil
                      have hx := SC
                      go_simp
                      clear hx
                      refine hK.out _ _ trivial (fun hHeld => ?_)
                      clear hK K
                      try simp only [Act.put, List.getElem_toArray, List.getElem_cons_succ, List.getElem_cons_zero, List.setIfInBounds_toArray, List.set_cons_zero, List.set_cons_succ]
                      refine wpAnyH_ready (rs := [12]) (by kernel_rfl) (by simp) ?_
                      refine AllReadyH.cons rfl (fun K hK => ?_) AllReadyH.nil
                      rw [if_pos (by rfl)]
                      refine wp_append_run _ _ 59 rfl _ _ rfl rfl (v' := .slice va (A.length + 1) vc) (w' := W4) HR4.out ?_
                      refine hK.out _ _ trivial (fun hHeld => ?_)
                      clear hK K
                      try simp only [Act.put, List.getElem_toArray, List.getElem_cons_succ, List.getElem_cons_zero, List.setIfInBounds_toArray, List.set_cons_zero, List.set_cons_succ]
                      refine wpAnyH_take (i := 13) (v := .pointer (some ⟨sB, 2, none⟩)) rfl (by kernel_rfl) (by kernel_rfl) (by kernel_rfl) (fun _ _ _ h => h) (.inl ⟨by rfl, by intro w hSw; go_simp⟩) hHeld ?_
                      simp only [Act.put, List.getElem_toArray, List.getElem_cons_succ, List.getElem_cons_zero, List.setIfInBounds_toArray, List.set_cons_zero, List.set_cons_succ]
                      refine wpAnyH_ready (rs := [14]) (by kernel_rfl) (by simp) ?_
                      refine AllReadyH.cons rfl (fun K hK => ?_) AllReadyH.nil
                      go_simp
                      refine hK.out _ _ trivial (fun hHeld => ?_)
                      clear hK K
                      try simp only [Act.put, List.getElem_toArray, List.getElem_cons_succ, List.getElem_cons_zero, List.setIfInBounds_toArray, List.set_cons_zero, List.set_cons_succ]
                      refine wpAnyH_done (by kernel_rfl) ?_ _
                      refine NoPanic.normal ?_
                      go_wp2_with fail
                      have hm := HUR.out
                      refine ⟨⟨_, _, _, _, _, _, HLI.out⟩, ?_⟩
                      rw [hm]
                      exact HRL.out
              · obtain ⟨y, qr', r2, rfl, hyr⟩ := hcb1 rfl
                clear hcb1 hcb0
                obtain ⟨a2, c2, hs2⟩ := hRr.slice
                obtain ⟨m, hm⟩ : ∃ m, (y :: qr').length = m := ⟨_, rfl⟩
                rw [hm] at hs2
                subst hs2
                obtain ⟨g2, off2, rfl, hg2, _, f0, f1⟩ := hRr.at_ (j := 0) (x := y) rfl
                rw [Nat.zero_mul, Nat.add_zero] at f0 f1
                have hICy := hRr.runes y (List.mem_cons_self)
                obtain ⟨uay, ucy, huy, l1, l2, l3, l4⟩ := hRr.runes y (List.mem_cons_self)
                obtain ⟨gy, offy, rfl, hgy, _, f2⟩ := l4 0 (by rw [hyr]; simp)
                obtain ⟨yn, hyn⟩ : ∃ rn, y.r.length = rn := ⟨_, rfl⟩
                obtain ⟨yw, hyw⟩ : ∃ yw, y.wt = yw := ⟨_, rfl⟩
                rw [huy, hyn] at f0
                rw [hyw] at f1
                rw [huy, hyr] at hICy
                rw [← hyr, hyn] at hICy
                have htl := hICy
                rw [hyr] at htl
                have ht2 := htl.tail2
                have hRt := hRr.tail2
                have fa0 := f0
                have fa1 := f1
                replace f0 := (hbr.cell (p := ⟨g2, off2, none⟩) hg2).trans f0
                replace f1 := (hbr.cell (p := ⟨g2, off2 + 1, none⟩) hg2).trans f1
                have hm1 : (0 : Int) < (m : Int) := by rw [← hm, List.length_cons]; omega
                have hm2 : (1 : Int) ≤ (m : Int) := by omega
                have hy2 : (1 : Int) ≤ (yn : Int) := by rw [← hyn, hyr, List.length_cons]; omega
                have hmc : (m : Int) ≤ (c2 : Int) := by
                  obtain ⟨⟨_, _, e, h, _⟩, _⟩ := hRr
                  rw [hm] at e h
                  cases e; omega
                have hyc : (yn : Int) ≤ (ucy : Int) := by omega
                obtain ⟨i0, z0, hi0, hz0, hsz0, hby0, hzs0⟩ := info_rest
                have hbr2 := hbr.size
                have hRT := Lib.hid hRt
                have HT2 := Lib.hid ht2
                have HYR := Lib.hid hyr
                have HUN := Lib.hid hun
                have HAF := Lib.hid haf
                have HIC := Lib.hid hic
                have HNE := Lib.hid hne2
                have HM := Lib.hid hm
                have HYW := Lib.hid hyw
                have HLR := Lib.hid hlr
                have HBR := Lib.hid hbr
                have hq2 : q2.length ≤ 4096 := by omega
                clear hRr hRt ht2 htl hICy hyr hun haf hic hne2 hm l1 l2 l3 l4 f2 hyn huy hyw hlr hbr
                have SW : wc.drew.cell? ⟨g2, off2, none⟩ = some (.slice (some ⟨gy, offy, none⟩) yn ucy) ∧ wc.drew.cell? ⟨g2, off2 + 1, none⟩ = some (.int .i64 yw) := ⟨f0, f1⟩
                obtain ⟨ot, ct, hTI, hcase⟩ : ∃ ot ct, IntsC (LoopO b v' sB u) wa .i32 (.slice (some ⟨gy, ot, none⟩) (yn - 1) ct) r2 ∧ ((ucy = 1 ∧ ot = offy ∧ ct = 0) ∨ (¬ ucy = 1 ∧ ot = offy + 1 ∧ ct = ucy - 1)) := by
                  by_cases h : ucy = 1
                  · exact ⟨offy, 0, HT2.out.2 (by omega), .inl ⟨h, rfl, rfl⟩⟩
                  · exact ⟨offy + 1, ucy - 1, HT2.out.1, .inr ⟨h, rfl, rfl⟩⟩
                obtain ⟨W5, hW5⟩ : ∃ W5, wc.drew.alloc (.cells #[.slice (some ⟨gy, ot, none⟩) (yn - 1) ct, .int .i64 yw] 50) = W5 := ⟨_, rfl⟩
                have bN5 : Blk W5 wc.heap.size 50 #[.slice (some ⟨gy, ot, none⟩) (yn - 1) ct, .int .i64 yw] := by rw [← hW5]; exact Blk.alloc_new _ _ _
                have hb5 : Below wc.heap.size wc W5 := by rw [← hW5]; exact ((Below.refl _ _).drew).alloc (Nat.le_refl _) _
                have hz5 : W5.heap.size = wc.heap.size + 1 := by rw [← hW5]; simp
                have own5 : W5.ownsRow wa.heap.size 50 2 u8 q2.length (rowR q2) := owns_below hrow hb5
                obtain ⟨v6, W6, hr6, own6, grow6, _, new6⟩ := run_append_own_at (P := Tryd.prog) W5 wa.heap.size 43 43 50 i0 z0 2 32 Tryd.underlying43 hi0 hz0 hsz0 hby0 hzs0 (by decide) u8 q2.length (rowR q2) own5 ⟨wc.heap.size, 0, none⟩ 1 1 [.slice (some ⟨gy, ot, none⟩) (yn - 1) ct, .int .i64 yw] rfl
                  (World.news_of_block bN5) (by intro y hy; simp at hy; rcases hy with rfl | rfl <;> rfl) (by unfold maxLen; omega) (by omega) (by omega)
                have hb6 : Below wa.heap.size wa W6 := below_grown' (HBR.out.trans (hb5.mono hbr2)) grow6 (by omega) (fun x hx => owns_base own5 x hx)
                have S5 : W5.cell? ⟨g2, off2, none⟩ = some (.slice (some ⟨gy, offy, none⟩) yn ucy) ∧ W5.cell? ⟨g2, off2 + 1, none⟩ = some (.int .i64 yw) :=
                  ⟨(hb5.cell (p := ⟨g2, off2, none⟩) (by show g2 < _; omega)).trans f0, (hb5.cell (p := ⟨g2, off2 + 1, none⟩) (by show g2 < _; omega)).trans f1⟩
                have S6 : W6.cell? ⟨g2, off2, none⟩ = some (.slice (some ⟨gy, offy, none⟩) yn ucy) ∧ W6.cell? ⟨g2, off2 + 1, none⟩ = some (.int .i64 yw) :=
                  ⟨(hb6.cell (p := ⟨g2, off2, none⟩) hg2).trans fa0, (hb6.cell (p := ⟨g2, off2 + 1, none⟩) hg2).trans fa1⟩
                have HR6 := Lib.hid hr6
                have HB6 := Lib.hid hb6
                have HO6 := Lib.hid own6
                have SW5 := S5
                have SW6 := S6
                clear hr6 hb6 own6 grow6 new6 own5 hz5
                have hmz : ¬ m = 0 := by omega
                have hyn1 : 1 ≤ yn := by omega
                have hyn2 : yn ≤ ucy := by omega
                have huc1 : 1 ≤ ucy := by omega
                go_wp2_with fail
                refine wp_region_noPanic ?_
                refine wp_region_held_drew (S := fun w' => w'.cell? ⟨g2, off2, none⟩ = some (.slice (some ⟨gy, offy, none⟩) yn ucy) ∧ w'.cell? ⟨g2, off2 + 1, none⟩ = some (.int .i64 yw)) (by kernel_rfl) SW (fun hHeld => ?_)
                refine wpAnyH_take (i := 0) (v := u8) rfl (by kernel_rfl) (by kernel_rfl) (by kernel_rfl) (fun _ _ _ h => h) (.inl ⟨by rfl, by intro w hSw; go_simp⟩) hHeld ?_
                simp only [Act.put, List.getElem_toArray, List.getElem_cons_succ, List.getElem_cons_zero, List.setIfInBounds_toArray, List.set_cons_zero, List.set_cons_succ]
                refine wpAnyH_take (i := 1) (v := (.slice (some ⟨g2, off2, none⟩) m c2)) rfl (by kernel_rfl) (by kernel_rfl) (by kernel_rfl) (fun _ _ _ h => h) (.inl ⟨by rfl, by intro w hSw; go_simp⟩) hHeld ?_
                simp only [Act.put, List.getElem_toArray, List.getElem_cons_succ, List.getElem_cons_zero, List.setIfInBounds_toArray, List.set_cons_zero, List.set_cons_succ]
                refine wpAnyH_take (i := 2) (v := .pointer (some ⟨g2, off2, none⟩)) rfl (by kernel_rfl) (by kernel_rfl) (by kernel_rfl) (fun _ _ _ h => h) (.inl ⟨by rfl, by intro w hSw; go_simp⟩) hHeld ?_
                simp only [Act.put, List.getElem_toArray, List.getElem_cons_succ, List.getElem_cons_zero, List.setIfInBounds_toArray, List.set_cons_zero, List.set_cons_succ]
                refine wpAnyH_take (i := 3) (v := .pointer (some ⟨g2, off2, none⟩)) rfl (by kernel_rfl) (by kernel_rfl) (by kernel_rfl) (fun _ _ _ h => h) (.inl ⟨by rfl, by intro w hSw; go_simp⟩) hHeld ?_
                simp only [Act.put, List.getElem_toArray, List.getElem_cons_succ, List.getElem_cons_zero, List.setIfInBounds_toArray, List.set_cons_zero, List.set_cons_succ]
                refine wpAnyH_take (i := 4) (v := (.slice (some ⟨gy, offy, none⟩) yn ucy)) rfl (by kernel_rfl) (by kernel_rfl) (by kernel_rfl) (fun _ _ _ h => h) (.inl ⟨by rfl, by intro w hSw; obtain ⟨hx0, hx1⟩ := hSw; go_simp⟩) hHeld ?_
                simp only [Act.put, List.getElem_toArray, List.getElem_cons_succ, List.getElem_cons_zero, List.setIfInBounds_toArray, List.set_cons_zero, List.set_cons_succ]
                refine wpAnyH_take (i := 5) (v := (.slice (some ⟨gy, ot, none⟩) (yn - 1) ct)) rfl (by kernel_rfl) (by kernel_rfl) (by kernel_rfl) (fun _ _ _ h => h) (.inl ⟨by rfl, by intro w hSw; rcases hcase with ⟨hc1, rfl, rfl⟩ | ⟨hc1, rfl, rfl⟩ <;> go_simp⟩) hHeld ?_
                simp only [Act.put, List.getElem_toArray, List.getElem_cons_succ, List.getElem_cons_zero, List.setIfInBounds_toArray, List.set_cons_zero, List.set_cons_succ]
                refine wpAnyH_take (i := 6) (v := (.slice (some ⟨g2, off2, none⟩) m c2)) rfl (by kernel_rfl) (by kernel_rfl) (by kernel_rfl) (fun _ _ _ h => h) (.inl ⟨by rfl, by intro w hSw; go_simp⟩) hHeld ?_
                simp only [Act.put, List.getElem_toArray, List.getElem_cons_succ, List.getElem_cons_zero, List.setIfInBounds_toArray, List.set_cons_zero, List.set_cons_succ]
                refine wpAnyH_take (i := 7) (v := .pointer (some ⟨g2, off2, none⟩)) rfl (by kernel_rfl) (by kernel_rfl) (by kernel_rfl) (fun _ _ _ h => h) (.inl ⟨by rfl, by intro w hSw; go_simp⟩) hHeld ?_
                simp only [Act.put, List.getElem_toArray, List.getElem_cons_succ, List.getElem_cons_zero, List.setIfInBounds_toArray, List.set_cons_zero, List.set_cons_succ]
                refine wpAnyH_take (i := 8) (v := .pointer (some ⟨g2, off2 + 1, none⟩)) rfl (by kernel_rfl) (by kernel_rfl) (by kernel_rfl) (fun _ _ _ h => h) (.inl ⟨by rfl, by intro w hSw; go_simp⟩) hHeld ?_
                simp only [Act.put, List.getElem_toArray, List.getElem_cons_succ, List.getElem_cons_zero, List.setIfInBounds_toArray, List.set_cons_zero, List.set_cons_succ]
                refine wpAnyH_take (i := 9) (v := .int .i64 yw) rfl (by kernel_rfl) (by kernel_rfl) (by kernel_rfl) (fun _ _ _ h => h) (.inl ⟨by rfl, by intro w hSw; obtain ⟨hx0, hx1⟩ := hSw; go_simp⟩) hHeld ?_
                simp only [Act.put, List.getElem_toArray, List.getElem_cons_succ, List.getElem_cons_zero, List.setIfInBounds_toArray, List.set_cons_zero, List.set_cons_succ]
                refine wpAnyH_take (i := 10) (v := .agg #[.slice (some ⟨gy, ot, none⟩) (yn - 1) ct, .int .i64 yw]) rfl (by kernel_rfl) (by kernel_rfl) (by kernel_rfl) (fun _ _ _ h => h) (.inl ⟨by rfl, by intro w hSw; go_simp⟩) hHeld ?_
                simp only [Act.put, List.getElem_toArray, List.getElem_cons_succ, List.getElem_cons_zero, List.setIfInBounds_toArray, List.set_cons_zero, List.set_cons_succ]
                refine wpAnyH_ready (rs := [11]) (by kernel_rfl) (by simp) ?_
                refine AllReadyH.cons rfl (fun K hK => ?_) AllReadyH.nil
                go_simp
                try rw [hW5]
                refine hK.out _ _ SW5 (fun hHeld => ?_)
                clear hK K
                try simp only [Act.put, List.getElem_toArray, List.getElem_cons_succ, List.getElem_cons_zero, List.setIfInBounds_toArray, List.set_cons_zero, List.set_cons_succ]
                refine wpAnyH_ready (rs := [12]) (by kernel_rfl) (by simp) ?_
                refine AllReadyH.cons rfl (fun K hK => ?_) AllReadyH.nil
                rw [if_pos (by rfl)]
                refine wp_append_run _ _ 43 rfl _ _ rfl rfl (v' := v6) (w' := W6) HR6.out ?_
                refine hK.out _ _ SW6 (fun hHeld => ?_)
                clear hK K
                try simp only [Act.put, List.getElem_toArray, List.getElem_cons_succ, List.getElem_cons_zero, List.setIfInBounds_toArray, List.set_cons_zero, List.set_cons_succ]
                refine wpAnyH_ready (rs := [13]) (by kernel_rfl) (by simp) ?_
                refine AllReadyH.cons rfl (fun K hK => ?_) AllReadyH.nil
                go_simp
                refine hK.out _ _ SW6 (fun hHeld => ?_)
                clear hK K
                try simp only [Act.put, List.getElem_toArray, List.getElem_cons_succ, List.getElem_cons_zero, List.setIfInBounds_toArray, List.set_cons_zero, List.set_cons_succ]
                refine wpAnyH_done (by kernel_rfl) ?_ _
                refine NoPanic.normal ?_
                go_wp2_with fail
                refine ⟨⟨q2 ++ [⟨r2, yw, .slice (some ⟨gy, ot, none⟩) (yn - 1) ct⟩], qr', ?_, ?_, ?_, fun z hz => HNE.out z (List.mem_cons_of_mem _ hz), ?_, ?_, HB6.out, ?_⟩, ?_⟩
                · rw [← HUN.out, rw_append, rw_cons y qr']
                  conv => rhs; unfold under
                  dsimp only
                  rw [HYR.out, if_pos (by rfl), HYW.out, List.append_assoc]
                  rfl
                · rw [← HAF.out, rw_cons y qr']
                  conv => rhs; unfold after
                  dsimp only
                  rw [HYR.out, if_pos (by rfl)]
                · split
                  · rename_i h
                    rw [show c2 - 1 = 0 by omega]
                    exact hRT.out.2 (by omega)
                  · exact hRT.out.1
                · rw [rowR_snoc, List.length_append]
                  exact HO6.out
                · intro z hz
                  rcases List.mem_append.1 hz with hz | hz
                  · exact HIC.out z hz
                  · simp only [List.mem_singleton] at hz
                    subst hz
                    exact hTI
                · have := HLR.out
                  simp only [List.length_append, List.length_cons, List.length_nil] at this ⊢
                  omega
                · show m - 1 < m
                  omega
end Go.Proofs.YtkibkbbjpgomlaaDoor.F
