/-
  The walk of Sync where it is well.
-/
import Derived.Test.YtcpkpljeimbdiaaGreatDskFree
import Derived.Test.YtcpkpljeimbdiaaGreatMapR
namespace Go.Proofs.YtcpkpljeimbdiaaGreat.K
open Go.RowKit
open Aid
set_option linter.unusedSimpArgs false
set_option linter.unusedVariables false

/-- the last version, lasting -/
def lastS (s : Sec) : Sec := ([s.1.getLastD ByteArray.empty], true)
/-- under way: who is left is as it was -/
def partF (st : DSt) (a : Int) (left : Lit → Bool) : DSt := { st with F := fun y x => if y = a ∧ left (.int .i64 x) = false ∧ (Lit.int .i64 x).wf = true then (st.F a x).map lastS else st.F y x }
def syncF (st : DSt) (a : Int) : DSt := partF (stepF st) a (fun _ => false)
/-- one of them is turned -/
theorem part_next {st : DSt} {a x : Int} {left : Lit → Bool} {s : Sec} (hx : (Lit.int .i64 x).wf = true) (hl : left (.int .i64 x) = true) (hF : st.F a x = some s) :
    putS (partF st a left) a x (lastS s) = partF st a (fun z => left z && !z.sameKey (.int .i64 x)) := by
  have hp : (partF st a left).F a x = some s := by unfold partF; simp [hl, hF]
  have hN : (putS (partF st a left) a x (lastS s)).N = st.N := by
    funext y
    show updN st.N a (if ((partF st a left).F a x).isSome = true then st.N a else st.N a + 1) y = st.N y
    rw [hp]; unfold updN; simp; intro e; rw [e]
  have hFF : (putS (partF st a left) a x (lastS s)).F = (partF st a (fun z => left z && !z.sameKey (.int .i64 x))).F := by
    funext y z
    show updF (partF st a left).F a x (some (lastS s)) y z = _
    unfold updF
    by_cases h1 : y = a ∧ z = x
    · rw [if_pos h1]
      obtain ⟨rfl, rfl⟩ := h1
      unfold partF
      have hk : (Lit.int .i64 z).sameKey (.int .i64 z) = true := WideAt.sameKey_self (keyLit_int z)
      simp [hk, hx, hF]
    · rw [if_neg h1]
      unfold partF
      simp only
      by_cases hy : y = a
      · have hz : z ≠ x := fun e => h1 ⟨hy, e⟩
        have hk : (Lit.int .i64 z).sameKey (.int .i64 x) = false := by
          cases hh : (Lit.int .i64 z).sameKey (.int .i64 x) with
          | false => rfl
          | true => exact absurd (WideAt.sameKey_eq hh) (key_int hz)
        simp [hk]
      · simp [hy]
  have e : putS (partF st a left) a x (lastS s) = { partF st a (fun z => left z && !z.sameKey (.int .i64 x)) with F := (putS (partF st a left) a x (lastS s)).F, N := (putS (partF st a left) a x (lastS s)).N } := rfl
  rw [e, hN, hFF]
  rfl
theorem part_all {st : DSt} {a : Int} {left : Lit → Bool} (h : ∀ x, (Lit.int .i64 x).wf = true → left (.int .i64 x) = false → st.F a x = none) : partF st a left = st := by
  have hF : (partF st a left).F = st.F := by
    funext y x
    unfold partF
    simp only
    split
    · rename_i hh
      rw [hh.1, h x hh.2.2 hh.2.1]; rfl
    · rfl
  have e : partF st a left = { st with F := (partF st a left).F } := rfl
  rw [e, hF]
/-- one version of some -/
theorem Vers.last {O : Nat → Prop} {w : World} {b o cap k : Nat} {L : List ByteArray} (h : Vers O w (.slice (some ⟨b, o, none⟩) L.length cap) L) (hk : L.length = k + 1) : Vers O w (.slice (some ⟨b, o + k, none⟩) 1 (cap - k)) [L.getLastD ByteArray.empty] := by
  obtain ⟨h0, a, c, h1, h2, h3, h4⟩ := h
  simp at h1
  obtain ⟨rfl, rfl⟩ := h1
  refine ⟨by simp, _, _, rfl, by simp; omega, fun e => (by cases e), fun j hj => ?_⟩
  obtain rfl : j = 0 := by simpa using hj
  obtain ⟨b', o', e1, e2, e3, e4⟩ := h4 k (by omega)
  simp at e1
  obtain ⟨rfl, rfl⟩ := e1
  refine ⟨b, o + k, rfl, e2, e3, ?_⟩
  rw [Nat.add_zero, e4]
  have : L.getD k ByteArray.empty = L.getLastD ByteArray.empty := by
    rw [List.getLastD_eq_getLast?, List.getLast?_eq_getElem?, hk, List.getD_eq_getElem?_getD]; rfl
  rw [this]; rfl

set_option maxRecDepth 100000 in
set_option maxHeartbeats 4000000 in
theorem sync_good (O : Nat → Prop) (p : Nat) (st : DSt) (area : Int) (w : World) (h : DiskIs O w p st) (hO : ∀ k, O k → k < w.heap.size) (ha : (Lit.int .u64 area).wf = true) (hs : 0 ≤ st.steps ∧ st.steps ≤ 4611686018427387904) (hl : st.left ≤ 9223372036854775807) (hd : st.dead = false) (hdie : (stepF st).dead = false) (hN : st.N area < 140737488355327) :
    Calls Tryz.prog 38 #[.pointer (some ⟨p, 0, none⟩), .int .u64 area] w fun e w' => e = .returned (.int .i64 0) ∧ DiskIs O w' p (syncF st area) ∧ Keeps O w w' := by
  obtain ⟨m, G, hD⟩ := h
  obtain ⟨c0, c1, c2, c3, c4⟩ := hD.cells
  rw [hd] at c4
  obtain ⟨s1, hs1⟩ : ∃ s1, stepF st = s1 := ⟨_, rfl⟩
  have hF1 : s1.F = st.F := by rw [← hs1]; rfl
  have hN1 : s1.N area < 140737488355327 := by rw [← hs1]; exact hN
  have hsync : syncF st area = partF s1 area (fun _ => false) := by unfold syncF; rw [hs1]
  have hstep := step_in O p m G st w hD hs hl
  rw [hs1] at hstep hdie
  have HSY := Lib.hid hsync
  clear hsync hs1
  go_enter Tryz.func38, Tryz.ntmps38
  go_wp2_with fail
  refine hstep.mono ?_
  rintro e w1 ⟨rfl, D1, K1⟩
  rw [hdie]
  have hO1 : ∀ k, O k → k < w1.heap.size := fun k hk => by have := hO k hk; have := K1.size; omega
  clear hstep hD c0 c1 c2 c3 c4
  obtain ⟨d0, d1, d2, d3, d4⟩ := D1.cells
  have hL := D1.area ha
  cases hg : G area with
  | none =>
    rw [hg] at hL
    have hrange := run_range_nilMap (P := Tryz.prog) w1 62 _ _ Tryz.underlying62
    have hnext := run_next_nilMap (P := Tryz.prog) w1 0
    have hall : syncF st area = s1 := by
      rw [HSY.out]
      refine part_all (fun x _ _ => ?_)
      exact (D1.empty area hg).1 x
    have D2 : DiskIn O (w1.alloc (.mapIter none 0 #[] 0)) p m G s1 := D1.keep (O' := fun _ => False) (Keeps.of_below ((Below.refl _ _).alloc (Nat.le_refl _) _)) (fun _ _ h => h)
    have HALL := Lib.hid hall
    clear hall
    go_wp2_with fail
    go_loopw [5] (fun x5 wr => wr = w1.alloc (.mapIter none 0 #[] 0)) (fun _ _ => 0)
    case atStart => exact rfl
    case round =>
      subst hrel
      go_wp2_with fail
      go_ret
      refine ⟨rfl, ⟨m, G, by rw [HALL.out]; exact D2⟩, K1.trans (Keeps.of_below ((Below.refl _ _).alloc (Nat.le_refl _) _)) (fun _ h => .inl h)⟩
  | some g =>
    rw [hg] at hL
    obtain ⟨og, gm, S, hS, hfS⟩ := D1.inner area g hg
    obtain ⟨D0, hown0, hsz0, hfD0⟩ := hS
    obtain ⟨w2, hrange, hr2, hg2, hs2⟩ := hown0.range (Maps.int_keyed Tryz.underlying3) Tryz.underlying62
    obtain ⟨r, hr⟩ : ∃ r, w1.heap.size = r := ⟨_, rfl⟩
    rw [hr] at hrange hr2 hs2
    have K2 : Keeps (fun _ => False) w1 w2 := ⟨hg2.os, hg2.tape, hg2.output, hg2.size, fun k hk _ => hg2.block k hk (by simp), fun k hk => hg2.block k hk.lt (by simp)⟩
    have hstart : partF s1 area (Maps.has D0) = s1 := part_all (fun x hx hh => by
      rw [(hfD0 x hx).1] at hh
      cases hF : s1.F area x with
      | none => rfl
      | some s => obtain ⟨v, e1, _⟩ := (hfS x).2 s hF; rw [e1] at hh; cases hh)
    have D2 : DiskIn O w2 p m G (partF s1 area (Maps.has D0)) := by rw [hstart]; exact D1.keep K2 (fun _ _ h => h)
    have hO2 : ∀ k, O k → k ≠ r ∧ k < w2.heap.size := fun k hk => by have := hO1 k hk; omega
    go_wp2_with fail
    go_loopw [5] (fun x5 wr => ∃ (left : Lit → Bool) (D : DataW Value) (cnt : Nat), wr.ranges Tryz.prog 3 rid g r (s1.N area) D left cnt ∧ DiskIn O wr p m G (partF s1 area left) ∧ Keeps (fun k => O k ∨ k = r) w2 wr ∧ (∀ x, (Lit.int .i64 x).wf = true → left (.int .i64 x) = true → (s1.F area x).isSome = true)) (fun _ wr => wr.rangeLeft g r)
    case atStart =>
      refine ⟨_, D0, _, hr2, D2, Keeps.refl _ _, fun x hx hh => ?_⟩
      rw [(hfD0 x hx).1] at hh
      cases hF : s1.F area x with
      | none => rw [(hfS x).1 hF] at hh; cases hh
      | some s => rfl
    case round =>
      obtain ⟨left, D, cnt, hrg, DR, KR, hleft⟩ := hrel
      have hwr := KR.size
      rcases hrg.next (Maps.int_keyed Tryz.underlying3) 0 with ⟨hc0, hno, hnx⟩ | ⟨key, v, kl, y, w3, cnt', hkey, hlk, hry, hat, hnx, hrg3, hcl, hg3, hs3, hen⟩
      · go_wp2_with fail
        go_ret
        have eL : left = fun _ => false := funext hno
        rw [eL] at DR
        refine ⟨rfl, ⟨m, G, by rw [HSY.out]; exact DR⟩, Keeps.trans (Keeps.trans K1 K2 (fun _ h => h.elim)) KR (fun x hx => by
          have := K1.size
          rcases hx with hx | hx
          · exact .inl hx
          · right; omega)⟩
      · obtain ⟨x, rfl, rfl, hxw⟩ := Maps.keyOf_int_inv Tryz.underlying3 hkey
        have K3 : Keeps (fun k => k = r) wr w3 := ⟨hg3.os, hg3.tape, hg3.output, hg3.size, fun k hk hn => hg3.block k hk (by simpa using hn), fun k hk => hg3.block k hk.lt (fun e => by obtain ⟨cs, fr, h5⟩ := hk; simp only [Option.some.injEq] at e; rw [e] at h5; exact ranges_iter hrg h5)⟩
        have D3 := DR.keep K3 (fun k hk e => (hO2 k hk).1 e)
        obtain ⟨s, hFs⟩ : ∃ s, s1.F area x = some s := Option.isSome_iff_exists.1 (hleft x hxw hlk)
        have hpF : (partF s1 area left).F area x = some s := by unfold partF; simp [hlk, hFs]
        obtain ⟨_, _, S3, hS3, hfS3⟩ := D3.inner area g hg
        obtain ⟨sv, hS3x, hV3, hLn⟩ := (hfS3 x).2 s hpF
        obtain ⟨D', hown', _, hfD'⟩ := hS3
        have hDD : D = D' := own_one hrg3.owns hown'
        have hv : v = .agg #[sv, .bool s.2] := by
          have h1 := (hfD' x hxw).2 (.bool true)
          rw [← hDD, hat, hS3x] at h1
          simp [rid] at hry
          rw [← hry] at h1
          simpa using h1
        subst hv
        have hhas : Maps.has D (.int .i64 x) = true := by rw [hDD, (hfD' x hxw).1, hS3x]; rfl
        obtain ⟨Ls, sb⟩ := s
        obtain ⟨k, hk⟩ : ∃ k, Ls.length = k + 1 := ⟨Ls.length - 1, by have := List.length_pos_iff.2 hLn; simp at this; omega⟩
        obtain ⟨b, o, cv, hlc, rfl⟩ : ∃ b o cv, Ls.length ≤ cv ∧ sv = .slice (some ⟨b, o, none⟩) Ls.length cv := by
          obtain ⟨f0, a', c', f1, f2, f3, f4⟩ := hV3
          obtain ⟨b', o', g1, _⟩ := f4 0 (by simp; omega)
          subst g1
          exact ⟨b', o', c', f2, f1⟩
        have hk63 : Ls.length ≤ 140737488355328 := hV3.1
        have hb4 : Below wr.heap.size w3 ((w3.alloc (.cells #[.slice (some ⟨b, o, none⟩) (k + 1) cv, .bool sb] 68)).drew) := ((Below.refl _ _).alloc (by omega) _).drew
        have q0 : ((w3.alloc (.cells #[.slice (some ⟨b, o, none⟩) (k + 1) cv, .bool sb] 68)).drew).cell? ⟨wr.heap.size, 0, none⟩ = some (.slice (some ⟨b, o, none⟩) (k + 1) cv) := by
          rw [World.cell?_drew, ← hs3, World.cell?_alloc_at _ _ _ _ rfl]; rfl
        have K4 : Keeps (fun _ => False) w3 ((w3.alloc (.cells #[.slice (some ⟨b, o, none⟩) (k + 1) cv, .bool sb] 68)).drew) := Keeps.of_below (by rw [hs3]; exact hb4)
        have D4 := D3.keep K4 (fun _ _ h => h)
        have V4 := (hV3.last hk).keep K4 (fun _ _ h => h)
        obtain ⟨w5, hrun5, D5, K5⟩ := D4.put (st := partF s1 area left) hg hxw (by show s1.N area < _; unfold maxLen; omega) (s := true) V4 (by simp)
        have hsubk : IntKind.i64.wrap (k : Int) = (k : Int) := IntWalk.i64_in _ (by omega)
        have hcvk : ¬ cv = k := by omega
        have HSUB := Lib.hid hsubk
        clear hsubk
        go_wp2_with fail
        refine wp_region_noPanic ?_
        refine wp_region_held_drew (S := fun w' => w'.cell? ⟨p, 2, none⟩ = some (.map (some m)) ∧ (Instr.lookup 45 (.map (some m)) (.int .u64 area) false).run Tryz.prog w' = .ok (.map (some g)) w' ∧ w'.cell? ⟨wr.heap.size, 0, none⟩ = some (.slice (some ⟨b, o, none⟩) (k + 1) cv)) (by kernel_rfl) ⟨D4.cells.2.2.1, (by have := D4.area ha; rw [hg] at this; exact this), q0⟩ (fun hHeld => ?_)
        refine wpAnyH_take (i := 0) (v := .pointer (some ⟨p, 0, none⟩)) rfl (by kernel_rfl) (by kernel_rfl) (by kernel_rfl) (fun _ _ _ h => h) (.inl ⟨by rfl, by intro w hSw; go_simp⟩) hHeld ?_
        simp only [Act.put, List.getElem_toArray, List.getElem_cons_succ, List.getElem_cons_zero, List.setIfInBounds_toArray, List.set_cons_zero, List.set_cons_succ]
        refine wpAnyH_take (i := 1) (v := .pointer (some ⟨p, 0, none⟩)) rfl (by kernel_rfl) (by kernel_rfl) (by kernel_rfl) (fun _ _ _ h => h) (.inl ⟨by rfl, by intro w hSw; go_simp⟩) hHeld ?_
        simp only [Act.put, List.getElem_toArray, List.getElem_cons_succ, List.getElem_cons_zero, List.setIfInBounds_toArray, List.set_cons_zero, List.set_cons_succ]
        refine wpAnyH_take (i := 2) (v := .pointer (some ⟨p, 2, none⟩)) rfl (by kernel_rfl) (by kernel_rfl) (by kernel_rfl) (fun _ _ _ h => h) (.inl ⟨by rfl, by intro w hSw; go_simp⟩) hHeld ?_
        simp only [Act.put, List.getElem_toArray, List.getElem_cons_succ, List.getElem_cons_zero, List.setIfInBounds_toArray, List.set_cons_zero, List.set_cons_succ]
        refine wpAnyH_take (i := 3) (v := .map (some m)) rfl (by kernel_rfl) (by kernel_rfl) (by kernel_rfl) (fun _ _ _ h => h) (.inl ⟨by rfl, by intro w hSw; have hx := hSw.1; go_simp⟩) hHeld ?_
        simp only [Act.put, List.getElem_toArray, List.getElem_cons_succ, List.getElem_cons_zero, List.setIfInBounds_toArray, List.set_cons_zero, List.set_cons_succ]
        refine wpAnyH_take (i := 4) (v := .int .u64 area) rfl (by kernel_rfl) (by kernel_rfl) (by kernel_rfl) (fun _ _ _ h => h) (.inl ⟨by rfl, by intro w hSw; go_simp⟩) hHeld ?_
        simp only [Act.put, List.getElem_toArray, List.getElem_cons_succ, List.getElem_cons_zero, List.setIfInBounds_toArray, List.set_cons_zero, List.set_cons_succ]
        refine wpAnyH_take (i := 5) (v := .map (some g)) rfl (by kernel_rfl) (by kernel_rfl) (by kernel_rfl) (fun _ _ _ h => h) (.inl ⟨by rfl, by intro w hSw; have hx := hSw.2.1; go_simp⟩) hHeld ?_
        simp only [Act.put, List.getElem_toArray, List.getElem_cons_succ, List.getElem_cons_zero, List.setIfInBounds_toArray, List.set_cons_zero, List.set_cons_succ]
        refine wpAnyH_take (i := 6) (v := .int .i64 x) rfl (by kernel_rfl) (by kernel_rfl) (by kernel_rfl) (fun _ _ _ h => h) (.inl ⟨by rfl, by intro w hSw; go_simp⟩) hHeld ?_
        simp only [Act.put, List.getElem_toArray, List.getElem_cons_succ, List.getElem_cons_zero, List.setIfInBounds_toArray, List.set_cons_zero, List.set_cons_succ]
        refine wpAnyH_take (i := 7) (v := .pointer (some ⟨wr.heap.size, 0, none⟩)) rfl (by kernel_rfl) (by kernel_rfl) (by kernel_rfl) (fun _ _ _ h => h) (.inl ⟨by rfl, by intro w hSw; go_simp⟩) hHeld ?_
        simp only [Act.put, List.getElem_toArray, List.getElem_cons_succ, List.getElem_cons_zero, List.setIfInBounds_toArray, List.set_cons_zero, List.set_cons_succ]
        refine wpAnyH_take (i := 8) (v := .slice (some ⟨b, o, none⟩) (k + 1) cv) rfl (by kernel_rfl) (by kernel_rfl) (by kernel_rfl) (fun _ _ _ h => h) (.inl ⟨by rfl, by intro w hSw; have hx := hSw.2.2; go_simp⟩) hHeld ?_
        simp only [Act.put, List.getElem_toArray, List.getElem_cons_succ, List.getElem_cons_zero, List.setIfInBounds_toArray, List.set_cons_zero, List.set_cons_succ]
        refine wpAnyH_take (i := 9) (v := .pointer (some ⟨wr.heap.size, 0, none⟩)) rfl (by kernel_rfl) (by kernel_rfl) (by kernel_rfl) (fun _ _ _ h => h) (.inl ⟨by rfl, by intro w hSw; go_simp⟩) hHeld ?_
        simp only [Act.put, List.getElem_toArray, List.getElem_cons_succ, List.getElem_cons_zero, List.setIfInBounds_toArray, List.set_cons_zero, List.set_cons_succ]
        refine wpAnyH_take (i := 10) (v := .slice (some ⟨b, o, none⟩) (k + 1) cv) rfl (by kernel_rfl) (by kernel_rfl) (by kernel_rfl) (fun _ _ _ h => h) (.inl ⟨by rfl, by intro w hSw; have hx := hSw.2.2; go_simp⟩) hHeld ?_
        simp only [Act.put, List.getElem_toArray, List.getElem_cons_succ, List.getElem_cons_zero, List.setIfInBounds_toArray, List.set_cons_zero, List.set_cons_succ]
        refine wpAnyH_take (i := 11) (v := .int .i64 ((k + 1 : Nat) : Int)) rfl (by kernel_rfl) (by kernel_rfl) (by kernel_rfl) (fun _ _ _ h => h) (.inl ⟨by rfl, by intro w hSw; go_simp⟩) hHeld ?_
        simp only [Act.put, List.getElem_toArray, List.getElem_cons_succ, List.getElem_cons_zero, List.setIfInBounds_toArray, List.set_cons_zero, List.set_cons_succ]
        refine wpAnyH_take (i := 12) (v := .int .i64 (k : Int)) rfl (by kernel_rfl) (by kernel_rfl) (by kernel_rfl) (fun _ _ _ h => h) (.inl ⟨by rfl, by intro w hSw; have hx := HSUB.out; go_simp⟩) hHeld ?_
        simp only [Act.put, List.getElem_toArray, List.getElem_cons_succ, List.getElem_cons_zero, List.setIfInBounds_toArray, List.set_cons_zero, List.set_cons_succ]
        refine wpAnyH_take (i := 13) (v := .slice (some ⟨b, o + k, none⟩) 1 (cv - k)) rfl (by kernel_rfl) (by kernel_rfl) (by kernel_rfl) (fun _ _ _ h => h) (.inl ⟨by rfl, by intro w hSw; go_simp; intro hlt; exfalso; omega⟩) hHeld ?_
        simp only [Act.put, List.getElem_toArray, List.getElem_cons_succ, List.getElem_cons_zero, List.setIfInBounds_toArray, List.set_cons_zero, List.set_cons_succ]
        refine wpAnyH_take (i := 14) (v := .agg #[.slice (some ⟨b, o + k, none⟩) 1 (cv - k), .bool true]) rfl (by kernel_rfl) (by kernel_rfl) (by kernel_rfl) (fun _ _ _ h => h) (.inl ⟨by rfl, by intro w hSw; go_simp⟩) hHeld ?_
        simp only [Act.put, List.getElem_toArray, List.getElem_cons_succ, List.getElem_cons_zero, List.setIfInBounds_toArray, List.set_cons_zero, List.set_cons_succ]
        refine wpAnyH_ready (rs := [15]) (by kernel_rfl) (by simp) ?_
        refine AllReadyH.cons rfl (fun K hK => ?_) AllReadyH.nil
        go_simp
        obtain ⟨w5', hrun5', hrg5, ht5⟩ := ranges_turn (w := (w3.alloc (.cells #[.slice (some ⟨b, o, none⟩) (k + 1) cv, .bool sb] 68)).drew) (hrg3.kept (row := none) ⟨K4.os, K4.tape, K4.output, K4.size, fun k hk _ => K4.block k hk (fun h => h.elim)⟩ (by simp) (by simp)) (Maps.int_keyed Tryz.underlying3) Tryz.underlying62 (by unfold maxLen; omega) hkey hhas (val := .agg #[.slice (some ⟨b, o + k, none⟩) 1 (cv - k), .bool true])
        obtain rfl : w5' = w5 := by
          have := hrun5'.symm.trans hrun5
          injection this
        have epn : putS (partF s1 area left) area x ([Ls.getLastD ByteArray.empty], true) = _ := part_next hxw hlk hFs
        rw [epn] at D5
        have hOZ : ¬ O wr.heap.size := fun hh => by have := (hO2 _ hh).2; omega
        refine hK.out _ _ ⟨D5.cells.2.2.1, (by have := D5.area ha; rw [hg] at this; exact this), (K5.cell (p := ⟨wr.heap.size, 0, none⟩) (by show wr.heap.size < (w3.heap.push _).size; rw [Array.size_push]; omega) hOZ).trans q0⟩ (fun hHeld => ?_)
        clear hK K
        refine wpAnyH_done (by kernel_rfl) ?_ _
        refine NoPanic.normal ?_
        go_wp2_with fail
        refine ⟨⟨_, _, _, hrg5, D5, ?_, fun z hz hzz => ?_⟩, ?_⟩
        · refine Keeps.trans (Keeps.trans (Keeps.trans KR K3 (fun z hz => .inl (.inr hz))) K4 (fun _ h => h.elim)) K5 (fun z hz => .inl (.inl hz))
        · simp at hzz
          exact hleft z hz hzz.1
        · rw [hrg5.left_eq, hrg.left_eq]; exact hcl
end Go.Proofs.YtcpkpljeimbdiaaGreat.K
