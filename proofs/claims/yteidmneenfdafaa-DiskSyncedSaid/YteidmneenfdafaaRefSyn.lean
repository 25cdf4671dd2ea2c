/-
  DiskSynced: what was synced is found behind any crash.
-/
import Derived.Test.YteidmneenfdafaaRefC
import Derived.Test.YteidmneenfdafaaRefCr
import Derived.Test.YteidmneenfdafaaDskCrash
import Derived.Test.YteidmneenfdafaaDskSect
import Derived.Test.YteidmneenfdafaaDskFull
namespace Go.Proofs.Yteidmneenfdafaa.R
open Go.RowKit
open Aid K
set_option linter.unusedSimpArgs false
set_option linter.unusedVariables false

/-- two disks of which one area is told alike -/
structure SynIn (W : World) (p pc : Nat) (O Oc : Nat → Prop) (st sc : DSt) (a K : Int) : Prop where
  d : DiskIs O W p st
  c : DiskIs Oc W pc sc
  o : ∀ k, O k → k < W.heap.size
  F : ∀ x, sc.F a x = st.F a x
  one : ∀ x L s, st.F a x = some (L, s) → ∃ V, L = [V] ∧ V.size = 64
  small : ∀ x s, st.F a x = some s → 0 ≤ x ∧ x < 65536
  sect : SectIs st a K
theorem SynIn.below {W W' : World} {p pc : Nat} {O Oc : Nat → Prop} {st sc : DSt} {a K : Int} (h : SynIn W p pc O Oc st sc a K) (hb : Below W.heap.size W W') : SynIn W' p pc O Oc st sc a K :=
  ⟨h.d.below hb, h.c.below hb, fun k hk => by have := h.o k hk; have := hb.size; omega, h.F, h.one, h.small, h.sect⟩
set_option maxRecDepth 100000 in
set_option maxHeartbeats 8000000 in
theorem synced_law (v : Value) (n : Nat) (f : Nat → OpR) (a : Int) (vp : Value) (ps : List Int) (w : World) (h : OpsAre w v n f) (ha : (Lit.int .u64 a).wf = true) (hI : Ints w .i64 vp ps) (hcap : CapV vp) (hps : ∀ y ∈ ps, (Lit.int .i64 y).wf = true) :
    Calls Try.prog 7 #[v, .int .u64 a, vp] w (TrueIn w) := by
  have hn := h.1
  obtain ⟨va, vc, rfl⟩ := Ints.form hI
  obtain ⟨a0, cap0, hv0, _⟩ := h.2
  subst hv0
  have hwr := wrote_run f 1073741824 n
  obtain ⟨st, hst⟩ : ∃ st, runS f 1073741824 n = st := ⟨_, rfl⟩
  rw [hst] at hwr
  have HW := Lib.hid hwr
  clear hwr
  go_enter Try.func7, Try.ntmps7
  go_wp2_with fail
  refine (begun_any 1073741824 _ n f w h (by decide) (by decide)).mono ?_
  rw [hst]
  rintro e w1 ⟨p, O, r, vr, q, rfl, D, hO, hF, hRel, hrow, hqo, hlen, hb1⟩
  obtain ⟨av, cv, hv⟩ := hrow.1.slice
  subst hv
  obtain ⟨nq, hnq⟩ : ∃ nq, q.length = nq := ⟨_, rfl⟩
  rw [hnq]
  obtain ⟨room1, steps, left, armed, dead, rl⟩ := r
  unfold diskR
  dsimp only
  obtain ⟨W2, hW2⟩ : ∃ W2, w1.alloc (.cells #[.int .i64 room1, .int .i64 steps, .int .i64 left, .bool armed, .bool dead, .slice av nq cv] 40) = W2 := ⟨_, rfl⟩
  have hb2 : Below w1.heap.size w1 W2 := by rw [← hW2]; exact (Below.refl _ _).alloc (Nat.le_refl _) _
  have hs1 := hb1.size
  have hs2 := hb2.size
  have D2 := D.below hb2
  have hO2 : ∀ k, O k → w.heap.size ≤ k ∧ k < W2.heap.size := fun k hk => by have := hO k hk; omega
  have hbw := hb1.trans (hb2.mono hs1)
  have HBW := Lib.hid hbw
  have HREL := Lib.hid hRel
  clear D hO hb1 hb2 hrow hqo hnq hbw hRel
  go_wp2_with fail
  by_cases hdie : (tickF st).dead = true
  · refine (sync_dies O p st a W2 D2 (by have := hF.steps; omega) hF.left hdie).mono ?_
    rintro e w3 ⟨rfl, D3, K3⟩
    have hbf := K3.below HBW.out (by omega) (fun k hk => (hO2 k hk).1)
    go_wp2_with fail
    refine (dead_any O p (tickF st) w3 D3).mono ?_
    rintro e w3 ⟨rfl, rfl⟩
    rw [hdie]
    go_wp2_with fail
    go_ret
    exact ⟨rfl, hbf⟩
  · have hd : st.dead = false := by
      cases e : st.dead with
      | false => rfl
      | true => exact absurd (by unfold tickF; rw [if_pos e]; exact e) hdie
    have hdie2 : (stepF st).dead = false := by rw [tick_alive hd] at hdie; simpa using hdie
    have hFs := fit_sync (a := a) hF
    have hR := HREL.out
    have hdr : diesR ⟨room1, steps, left, armed, dead, rl⟩ = false := by rw [← (hR.step hd).2]; exact hdie2
    have hans := (answers (k := 1) (n := 0) (l := []) hR (DoR.sync rfl (SyncR.good (a := a) (by rw [hR.dead]; exact hd) hdr)) ha (by decide)).1
    have hdo : doS st 1 a 0 [] = syncF st a := by unfold doS; rw [if_neg (show ¬ ((1 : Int) = 0) by decide), if_pos (rfl : (1 : Int) = 1), if_neg hdie]
    rw [hdo] at hans
    have hw3 := wrote_sync HW.out a
    have hone : ∀ x L s, (syncF st a).F a x = some (L, s) → ∃ V, L = [V] ∧ V.size = 64 := by
      intro x L s e
      have e2 := e
      rw [hans.F] at e2
      show ∃ V, L = [V] ∧ V.size = 64
      have e3 : findR (syncL rl a) a x = some (L, s) := e2
      rw [sync_find, if_pos rfl] at e3
      obtain ⟨s', _, hs'⟩ := Option.map_eq_some_iff.1 e3
      unfold lastS at hs'
      simp only [Prod.mk.injEq] at hs'
      refine ⟨_, hs'.1.symm, ?_⟩
      have := (hw3 _ _ _ _ e).2 (s'.1.getLastD ByteArray.empty) (by rw [← hs'.1]; simp)
      exact this.size
    have hsm : ∀ x s, (syncF st a).F a x = some s → 0 ≤ x ∧ x < 65536 := by
      intro x s e
      rw [hans.F] at e
      obtain ⟨y, hy, _, e2, _⟩ := find_some e
      have := (hans.wf y hy).2
      rw [e2] at this; exact this
    refine (sync_good O p st a W2 D2 (fun k hk => (hO2 k hk).2) ha (by have := hF.steps; omega) hF.left hd hdie2 (by have := hF.N a; omega)).mono ?_
    rintro e w3 ⟨rfl, D3, K3⟩
    have hs3 := K3.size
    have hb3 := K3.below HBW.out (by omega) (fun k hk => (hO2 k hk).1)
    obtain ⟨st3, hst3⟩ : ∃ st3, syncF st a = st3 := ⟨_, rfl⟩
    rw [hst3] at D3 hFs hans hone hsm
    have hcr := crash_rel hans hFs.room ps
    obtain ⟨sc, hsc⟩ : ∃ sc, (crashF st3 (areasL st3) (secsL st3) ps).2 = sc := ⟨_, rfl⟩
    have hcF : ∀ x, sc.F a x = st3.F a x := fun x => by
      rw [← hsc, hcr.1.F, hans.F]
      show findR (crashL (syncL rl a) ps).1 a x = findR (syncL rl a) a x
      refine crash_lasts a x (fun y hy hya => ?_)
      obtain ⟨z, hz, rfl⟩ := List.mem_map.1 hy
      rw [(sync_key a z).1] at hya
      unfold syncX
      rw [if_pos hya]
      exact ⟨_, rfl, rfl⟩
    have hcrash := crash_any O p st3 (.slice va ps.length vc) ps w3 D3 (hI.below hb3) hcap hps (fun k hk => by have := (hO2 k hk).2; omega) (by have := hFs.C; omega) (fun a => by have := hFs.N a; omega) (fun a' n' Lv sb e => by have := hFs.V a' n' Lv sb e; omega) hFs.room (fun la hla => by have := hFs.sum la hla; omega)
    rw [hsc] at hcrash
    have HB3 := Lib.hid hb3
    have HON := Lib.hid hone
    have HSM := Lib.hid hsm
    have HCF := Lib.hid hcF
    have HO2 := Lib.hid hO2
    clear hcr hsc hFs hans hw3 hst3 hst hdo hdr hR hd hdie2 hb3 K3 D2 hone hsm hcF HREL HW hF hdie hlen hI hcap hps HBW hO2
    go_wp2_with fail
    refine hcrash.mono ?_
    rintro e w4 ⟨pc, Oc, rfl, D4, hOc, hb4⟩
    have hs4 := hb4.size
    go_wp2_with fail
    refine (sectors_any Oc pc sc a w4 D4 (fun k hk => (hOc k hk).2) ha (fun x s e => HSM.out x s (by rw [← HCF.out x]; exact e))).mono ?_
    rintro e w5 ⟨K1, rfl, hK1, hb5⟩
    have hs5 := hb5.size
    go_wp2_with fail
    refine (sectors_any O p st3 a w5 ((D3.below hb4).below hb5) (fun k hk => by have := (HO2.out k hk).2; omega) ha HSM.out).mono ?_
    rintro e w6 ⟨K, rfl, hK, hb6⟩
    obtain rfl : K1 = K := SectIs.one hK1 hK (fun x => by rw [HCF.out x])
    have hS6 : SynIn w6 p pc O Oc st3 sc a K1 := ⟨((D3.below hb4).below hb5).below hb6, (D4.below hb5).below hb6, fun k hk => by have := (HO2.out k hk).2; have := hb6.size; omega, HCF.out, HON.out, HSM.out, hK⟩
    have hbw6 : Below w.heap.size w w6 := ((HB3.out.trans (hb4.mono (by omega))).trans (hb5.mono (by omega))).trans (hb6.mono (by omega))
    have hk0 := hK.1
    have hk1 := hK.2.1
    clear hcrash D3 D4 hOc hb4 hb5 hb6 hK hK1
    go_wp2_with fail
    go_loopw [11] (fun x11 wr => ∃ i : Nat, x11 = .int .i64 i ∧ (i : Int) ≤ K1 ∧ SynIn wr p pc O Oc st3 sc a K1 ∧ Below w.heap.size w wr) (fun x11 _ => (K1 - intOf x11).toNat)
    case atStart => exact ⟨0, rfl, hk0, hS6, hbw6⟩
    case round =>
      clear hS6 hbw6
      obtain ⟨i, rfl, hi, hS, hbw⟩ := hrel
      have hsw := hbw.size
      go_wp2_with fail
      refine (sectors_any O p st3 a wr hS.d hS.o ha hS.small).mono ?_
      rintro e w7 ⟨K2, rfl, hK2, hb7⟩
      obtain rfl : K2 = K1 := SectIs.one hK2 hS.sect (fun x => rfl)
      have hS7 := hS.below hb7
      have hbw7 := hbw.trans (hb7.mono hsw)
      have hsw7 := hbw7.size
      have HS7 := Lib.hid hS7
      clear hS hb7 hbw hK2 hS7
      by_cases hlt : (i : Int) < K2
      · have hwi : (Lit.int .i64 (i : Int)).wf = true := wf_small ⟨by omega, by omega⟩
        have hinext : IntKind.i64.wrap ((i : Int) + 1) = ((i + 1 : Nat) : Int) := IntWalk.i64_in _ (by omega)
        cases hFx : st3.F a i with
        | none =>
          go_wp2_with fail
          refine (read_miss O p st3 a i w7 HS7.out.d ha hwi hFx).mono ?_
          rintro e w8 ⟨rfl, hb8⟩
          go_wp2_with fail
          refine (read_miss Oc pc sc a i w8 (HS7.out.below hb8).c ha hwi (by rw [HS7.out.F]; exact hFx)).mono ?_
          rintro e w9 ⟨rfl, hb9⟩
          have hcv := conv_nil w9
          have HS9 := Lib.hid ((HS7.out.below hb8).below hb9)
          have HB9 := Lib.hid ((hbw7.trans (hb8.mono hsw7)).trans (hb9.mono (by have := hb8.size; omega)))
          clear hb8 hb9 hbw7
          go_wp2_with fail
          refine ⟨⟨i + 1, ?_, by omega, HS9.out, HB9.out⟩, ?_⟩
          · first | rfl | congr 1
          · simp [intOf]; omega
        | some sec =>
          obtain ⟨L, s⟩ := sec
          obtain ⟨V, rfl, hV⟩ := HS7.out.one i L s hFx
          have hgl : ([V] : List ByteArray).getLast (by simp) = V := rfl
          go_wp2_with fail
          refine (read_there O p st3 a i [V] s w7 HS7.out.d ha hwi hFx (by simp) (by rw [hgl]; omega)).mono ?_
          rintro e w8 ⟨⟨v8, rfl, hI8, _⟩, hb8⟩
          rw [hgl] at hI8
          obtain ⟨b8, c8, rfl⟩ := Ints.form hI8
          go_wp2_with fail
          refine (read_there Oc pc sc a i [V] s w8 (HS7.out.below hb8).c ha hwi (by rw [HS7.out.F]; exact hFx) (by simp) (by rw [hgl]; omega)).mono ?_
          rintro e w9 ⟨⟨v9, rfl, hI9, _⟩, hb9⟩
          rw [hgl] at hI9
          obtain ⟨b9, c9, rfl⟩ := Ints.form hI9
          have hc8 := (conv_ints (hI8.below hb9) (by omega)).2
          have hc9 := (conv_ints hI9 (by omega)).2
          have HS9 := Lib.hid ((HS7.out.below hb8).below hb9)
          have HB9 := Lib.hid ((hbw7.trans (hb8.mono hsw7)).trans (hb9.mono (by have := hb8.size; omega)))
          clear hb8 hb9 hbw7 hI8 hI9
          go_wp2_with fail
          refine ⟨⟨i + 1, ?_, by omega, HS9.out, HB9.out⟩, ?_⟩
          · first | rfl | congr 1
          · simp [intOf]; omega
      · go_wp2_with fail
        go_ret
        exact ⟨rfl, hbw7⟩
end Go.Proofs.Yteidmneenfdafaa.R
