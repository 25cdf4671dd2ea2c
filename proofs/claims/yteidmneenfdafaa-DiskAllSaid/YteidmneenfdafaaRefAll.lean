/-
  DiskAll: each call is answered as the document says, and the disk tells what it says.
-/
import Derived.Test.YteidmneenfdafaaRefStands
namespace Go.Proofs.Yteidmneenfdafaa.R
open Go.RowKit
open Aid K
set_option linter.unusedSimpArgs false
set_option linter.unusedVariables false

theorem full_of {f : Nat → OpR} {i : Nat} {st : DSt} (h : Wrote f i st.F) : FullV st := fun a m L s e => by
  obtain ⟨h1, h2⟩ := h a m L s e
  refine ⟨h1, (h2 _ ?_).size⟩
  rw [List.getLastD_eq_getLast?, List.getLast?_eq_some_getLast h1]
  exact List.getLast_mem h1
theorem full_run (f : Nat → OpR) (room : Int) (i : Nat) : FullV (runS f room i) := full_of (wrote_run f room i)
structure AllIn (W0 : World) (E p : Nat) (st : DSt) (O : Nat → Prop) (r : RSt) (v : Value) (q : List (RSec × Value)) (R : Int) (i : Nat) (w : World) : Prop where
  d : DiskIs O w p st
  o : ∀ k, O k → W0.heap.size ≤ k ∧ k < w.heap.size
  oE : ¬ O E
  fit : FitS st R i
  rel : RelD st r
  row : RDisk w v r q
  qo : ∀ k, Q v q k → ¬ O k
  len : r.l.length ≤ i
  bE : Blk w E 40 (diskR r v)
  hE : W0.heap.size ≤ E
  below : Below W0.heap.size W0 w
theorem AllIn.low {W0 w w' : World} {E p : Nat} {st : DSt} {O : Nat → Prop} {r : RSt} {v : Value} {q : List (RSec × Value)} {R : Int} {i : Nat} (h : AllIn W0 E p st O r v q R i w) (hb : Below w.heap.size w w') : AllIn W0 E p st O r v q R i w' :=
  ⟨h.d.below hb, fun k hk => by have := h.o k hk; have := hb.size; omega, h.oE, h.fit, h.rel, ⟨h.row.1.below hb, h.row.2⟩, h.qo, h.len, h.bE.below hb (Blk.lt h.bE), h.hE, h.below.trans (hb.mono h.below.size)⟩
set_option maxRecDepth 100000 in
set_option maxHeartbeats 8000000 in
theorem all_law (room : Int) (v : Value) (n : Nat) (f : Nat → OpR) (w : World) (h : OpsAre w v n f) (hr1 : room ≤ 9223372036854775807) :
    Calls Try.prog 5 #[.int .i64 room, v] w (TrueIn w) := by
  have hn := h.1
  obtain ⟨a0, cap0, hv0, hel0⟩ := h.2
  subst hv0
  go_enter Try.func5, Try.ntmps5
  go_wp2_with fail
  refine (new_fine room w).mono ?_
  rintro e w1 ⟨p, O1, rfl, D1, hO1, hB1⟩
  go_wp2_with fail
  refine (rnew_any room w1).mono ?_
  rintro e w2 ⟨rfl, hB2⟩
  obtain ⟨E, hE⟩ : ∃ E, w2.heap.size = E := ⟨_, rfl⟩
  unfold newR diskR
  dsimp only
  go_wp2_with fail
  obtain ⟨W3, hW3⟩ : ∃ W3, w2.alloc (.cells #[.int .i64 (max room 0), .int .i64 0, .int .i64 0, .bool false, .bool false, .slice none 0 0] 40) = W3 := ⟨_, rfl⟩
  try rw [hW3]
  refine (alive_any W3).mono ?_
  rintro e w4 ⟨rfl, hB4⟩
  have hs1 := hB1.size
  have hs2 := hB2.size
  have hz3 : w2.heap.size < W3.heap.size := by rw [← hW3]; simp
  have hs4 := hB4.size
  have hb13 : Below w1.heap.size w1 W3 := by rw [← hW3]; exact hB2.trans ((Below.refl _ _).alloc hs2 _)
  have hb14 : Below w1.heap.size w1 w4 := hb13.trans (hB4.mono (by omega))
  have bE3 : Blk W3 E 40 #[.int .i64 (max room 0), .int .i64 0, .int .i64 0, .bool false, .bool false, .slice none 0 0] := by rw [← hW3, ← hE]; exact Blk.alloc_new _ _ _
  have hA0 : AllIn w E p (newSt room) O1 (newR room) (.slice none 0 0) [] (max room 0) 0 w4 := by
    refine ⟨D1.below hb14, fun k hk => ?_, fun hk => ?_, fit_new2 room, RelD.new room, ⟨⟨.inl ⟨rfl, rfl⟩, fun x hx => (nomatch hx), by simp⟩, rfl⟩, fun k hk => ?_, Nat.le_refl _, ?_, by omega, ?_⟩
    · have := hO1 k hk; omega
    · have := hO1 _ hk; omega
    · rcases hk with ⟨b, m, c, hv, _⟩ | ⟨x, hx, _⟩
      · cases hv
      · cases hx
    · exact bE3.below hB4 (by omega)
    · exact hB1.trans (hb14.mono (by omega))
  obtain ⟨y0, y1, y2, y3, y4, y5⟩ := blk6 hA0.bE
  have hst0 := stands_any O1 p (newSt room) (newR room) (.slice none 0 0) [] w4 hA0.d (fun k hk => (hA0.o k hk).2) hA0.rel hA0.row (by show 0 ≤ _; omega) (full_run f room 0)
  unfold newR diskR at hst0
  dsimp only at hst0
  have HA0 := Lib.hid hA0
  have HST0 := Lib.hid hst0
  clear hA0 hst0 D1 hO1 hB1 hB2 hB4 hW3 hE bE3 hb13 hb14 hs1 hs2 hz3 hs4
  go_wp2_with fail
  refine HST0.out.mono ?_
  rintro e w5 ⟨rfl, hb5⟩
  have hA0 := HA0.out.low hb5
  clear hb5 HST0 y0 y1 y2 y3 y4 y5 HA0
  have hlen : IntKind.i64.wrap (n : Int) = (n : Int) := IntWalk.i64_in _ (by omega)
  go_wp2_with fail
  go_loopw [29] (fun x29 wr => ∃ (i : Nat) (O : Nat → Prop) (r : RSt) (v : Value) (q : List (RSec × Value)), x29 = .int .i64 i ∧ i ≤ n ∧ AllIn w E p (runS f room i) O r v q (max room 0) i wr) (fun x29 _ => (n - intOf x29).toNat)
  case atStart => exact ⟨0, O1, newR room, .slice none 0 0, [], rfl, by omega, hA0⟩
  case round =>
    clear hA0
    obtain ⟨i, O, r, v, q, rfl, hi, hA⟩ := hrel
    by_cases hlt : (i : Int) < (n : Int)
    · have hiN : i < n := by omega
      obtain ⟨b, o, rfl, hb, hc0, hc1, hc2, hc3, hok⟩ := hel0 i hiN
      have hsr := hA.below.size
      have hc0' : wr.cell? ⟨b, o + i * 4, none⟩ = some (.int .i64 (f i).k) := (hA.below.cell (p := ⟨b, o + i * 4, none⟩) hb).trans hc0
      have hc1' : wr.cell? ⟨b, o + i * 4 + 1, none⟩ = some (.int .u64 (f i).a) := (hA.below.cell (p := ⟨b, o + i * 4 + 1, none⟩) hb).trans hc1
      have hc2' : wr.cell? ⟨b, o + i * 4 + 2, none⟩ = some (.int .i64 (f i).n) := (hA.below.cell (p := ⟨b, o + i * 4 + 2, none⟩) hb).trans hc2
      have hc3' : wr.cell? ⟨b, o + i * 4 + 3, none⟩ = some (f i).v := (hA.below.cell (p := ⟨b, o + i * 4 + 3, none⟩) hb).trans hc3
      have hok' : OpOk wr (f i) := hok.below hA.below
      have hrun : runS f room (i + 1) = doS (runS f room i) (f i).k (f i).a (f i).n (f i).l := rfl
      obtain ⟨x, hx⟩ : ∃ x, f i = x := ⟨_, rfl⟩
      rw [hx] at hc0' hc1' hc2' hc3' hok' hok hrun
      obtain ⟨k, a, m, vb, l⟩ := x
      simp only at hc0' hc1' hc2' hc3' hrun
      obtain ⟨va, vc, hve⟩ := Ints.form hok'.ints
      simp only at hve
      have hlv0 := hok.lt
      simp only at hlv0
      obtain ⟨vl, hvl⟩ : ∃ vl, l.length = vl := ⟨_, rfl⟩
      rw [hvl] at hve
      subst hve
      obtain ⟨st, hst⟩ : ∃ st, runS f room i = st := ⟨_, rfl⟩
      rw [hst] at hA hrun
      clear hc0 hc1 hc2 hc3
      obtain ⟨Z, hZ⟩ : ∃ Z, wr.heap.size = Z := ⟨_, rfl⟩
      obtain ⟨W1, hW1⟩ : ∃ W1, wr.alloc (.cells #[.int .i64 k, .int .u64 a, .int .i64 m, .slice va vl vc] 30) = W1 := ⟨_, rfl⟩
      have hb1 : Below wr.heap.size wr W1 := by rw [← hW1]; exact (Below.refl _ _).alloc (Nat.le_refl _) _
      have hBk : Blk W1 Z 30 #[.int .i64 k, .int .u64 a, .int .i64 m, .slice va vl vc] := by rw [← hW1, ← hZ]; exact Blk.alloc_new _ _ _
      obtain ⟨y0, y1, y2, y3⟩ := blk4 hBk
      have hsz1 : W1.heap.size = Z + 1 := by rw [← hW1, ← hZ]; simp
      obtain ⟨av, cv, hv⟩ := hA.row.1.slice
      subst hv
      obtain ⟨nq, hnq⟩ : ∃ nq, q.length = nq := ⟨_, rfl⟩
      obtain ⟨room1, steps, left, armed, dead, rl⟩ := r
      have bE1 : Blk W1 E 40 #[.int .i64 room1, .int .i64 steps, .int .i64 left, .bool armed, .bool dead, .slice av nq cv] := by
        have e := hA.bE.below hb1 (Blk.lt hA.bE)
        rw [hnq] at e
        exact e
      have hZE : E < Z := by have := Blk.lt hA.bE; omega
      obtain ⟨a0', a1, a2, a3, a4, a5⟩ := blk6 bE1
      have hrow1 : RDisk W1 (.slice av q.length cv) ⟨room1, steps, left, armed, dead, rl⟩ q := ⟨hA.row.1.below hb1, hA.row.2⟩
      have hfitr := fit_of hA.rel hA.fit (by omega) (by omega) hA.row (by have := hA.len; dsimp only at this ⊢; omega)
      have hdo := rdo_any ⟨room1, steps, left, armed, dead, rl⟩ (.slice av q.length cv) q k a m (.slice va vl vc) l W1 hrow1 hfitr (hok'.below hb1).ints hok.bytes
      unfold diskR at hdo
      dsimp only at hdo
      rw [hnq] at hdo
      have HA := Lib.hid hA
      have HDO := Lib.hid hdo
      have HOK := Lib.hid hok
      have HRUN := Lib.hid hrun
      have HST := Lib.hid hst
      have HB1 := Lib.hid hb1
      have HNQ := Lib.hid hnq
      have HLV := Lib.hid hlv0
      clear hA hdo hok hok' hrun hst hb1 hnq hlv0 hrow1 hfitr
      go_wp2_with fail
      refine HDO.out.mono ?_
      rintro e w2 ⟨v2, q2, r2, x, rfl, hans, hrow2, hq2, hb2⟩
      obtain ⟨a2', c2, hv2⟩ := hrow2.1.slice
      subst hv2
      obtain ⟨z1, z2, z3, z4, z5, z6⟩ := r2
      obtain ⟨n2, hn2⟩ : ∃ n2, q2.length = n2 := ⟨_, rfl⟩
      rw [hn2] at hrow2 hq2
      rw [hn2]
      unfold diskR
      dsimp only
      have hs2 := hb2.size
      have bE2 := bE1.below hb2 (by omega)
      have bZ2 := hBk.below hb2 (by omega)
      obtain ⟨X, hX⟩ : ∃ X, w2.heap.size = X := ⟨_, rfl⟩
      have hXZ : Z < X := by omega
      obtain ⟨W3, hW3⟩ : ∃ W3, w2.alloc (.cells #[.int .i64 z1, .int .i64 z2, .int .i64 z3, .bool z4, .bool z5, .slice a2' n2 c2] 40) = W3 := ⟨_, rfl⟩
      have hb3 : Below w2.heap.size w2 W3 := by rw [← hW3]; exact (Below.refl _ _).alloc (Nat.le_refl _) _
      have hs3 : W3.heap.size = X + 1 := by rw [← hW3, ← hX]; simp
      have bX3 : Blk W3 X 40 #[.int .i64 z1, .int .i64 z2, .int .i64 z3, .bool z4, .bool z5, .slice a2' n2 c2] := by rw [← hW3, ← hX]; exact Blk.alloc_new _ _ _
      have bE3 := bE2.below hb3 (by omega)
      have bZ3 := bZ2.below hb3 (by omega)
      obtain ⟨e0, e1, e2, e3, e4, e5⟩ := blk6 bE3
      obtain ⟨f0, f1, f2, f3, f4, f5⟩ := frees bE3
      obtain ⟨x0, x1, x2, x3, x4, x5⟩ := blk6 bX3
      obtain ⟨g0, g1, g2, g3⟩ := blk4 bZ3
      have HANS := Lib.hid hans
      have HROW := Lib.hid hrow2
      have HQ2 := Lib.hid hq2
      have HB2 := Lib.hid hb2
      have HB3 := Lib.hid hb3
      have HS3 := Lib.hid hs3
      have hZEn : Z ≠ E := by omega
      clear hans hrow2 hq2 hb2 hb3 hs3 hn2 bE1 bE2 bZ2 hBk y0 y1 y2 y3 a0' a1 a2 a3 a4 a5 hs2 hsz1
      go_wp2_with fail
      obtain ⟨W4, hW4⟩ : ∃ W4, six W3 E (.int .i64 z1) (.int .i64 z2) (.int .i64 z3) (.bool z4) (.bool z5) (.slice a2' n2 c2) = W4 := ⟨_, rfl⟩
      have hA := HA.out
      have hb1 := HB1.out
      have hb2 := HB2.out
      have hb3 := HB3.out
      have hs1 := hb1.size
      have hs2 := hb2.size
      have hs3 := HS3.out
      have hsr := hA.below.size
      have bE4 : Blk W4 E 40 #[.int .i64 z1, .int .i64 z2, .int .i64 z3, .bool z4, .bool z5, .slice a2' n2 c2] := by rw [← hW4]; exact six_blk bE3 _ _ _ _ _ _
      have k4 : Keeps (fun k => k = E) W3 W4 := by rw [← hW4]; exact six_keeps _ _ _ _ _ _ _ _
      have hs4 : W4.heap.size = X + 1 := by rw [← hW4, six_size]; exact hs3
      have D4 : DiskIs O W4 p st := (((hA.d.below hb1).below hb2).below hb3).keep k4 (fun k hk e => hA.oE (e ▸ hk))
      have hrow3 : RowIs W3 (.slice a2' n2 c2) q2 := HROW.out.1.below hb3
      have hrow4 : RowIs W4 (.slice a2' n2 c2) q2 := by rw [← hW4]; exact hrow3.six bE3 _ _ _ _ _ _
      have hbw4 : Below w.heap.size w W4 := by
        have e : Below w.heap.size w W3 := ((hA.below.trans (hb1.mono hsr)).trans (hb2.mono (by omega))).trans (hb3.mono (by omega))
        rw [← hW4]; exact six_below e (by have := hA.hE; omega) _ _ _ _ _ _
      have hok4 : OpOk W4 ⟨k, a, m, .slice va vl vc, l⟩ := HOK.out.below hbw4
      have hoA : ∀ k, O k → w.heap.size ≤ k ∧ k < wr.heap.size := hA.o
      have hW4' := hW4
      unfold six at hW4'
      rw [hW4']
      have hans2 := answers hA.rel HANS.out hok4.wa hok4.wn
      have hlen2 := do_len hA.rel.srt HANS.out
      have hfit2 := fit_do (k := k) (a := a) (l := l) hA.fit hok4.wn
      rw [HRUN.out.symm] at hfit2 hans2
      obtain ⟨st1, hst1⟩ : ∃ st1, runS f room (i + 1) = st1 := ⟨_, rfl⟩
      rw [hst1] at hfit2 hans2
      have hfull : FullV st1 := by rw [← hst1]; exact full_run f room (i + 1)
      have HST1 := Lib.hid hst1
      have bZ4 : Blk W4 Z 30 #[.int .i64 k, .int .u64 a, .int .i64 m, .slice va vl vc] := by rw [← hW4]; exact six_other bZ3 hZEn _ _ _ _ _ _
      have hdr : Below W4.heap.size W4 W4.drew := (Below.refl _ _).drew
      have hsd : W4.drew.heap.size = W4.heap.size := rfl
      have hQO : ∀ k, Q (.slice a2' n2 c2) q2 k → ¬ O k := fun k hk ho => by
        rcases HQ2.out k hk with h1 | h1
        · exact hA.qo k (by rw [HNQ.out]; exact h1) ho
        · have := (hoA k ho).2; omega
      have hdoes := does_any O p st (max room 0) i k a m (.slice va vl vc) l W4.drew (D4.below hdr) (fun k hk => by have := (hoA k hk).2; omega) hA.fit (by omega) (by omega) (hok4.below hdr).ints (fun b' o' n' c' e hn0 hO => by
        rcases HLV.out b' o' n' c' e with hh | hh
        · have := (hoA b' hO).1; omega
        · exact absurd hh hn0) hok4.bytes hok4.wk hok4.wa hok4.wn
      rw [hans2.2, HRUN.out.symm, hst1] at hdoes
      clear hst1
      have hbwd := hbw4.trans (hdr.mono hbw4.size)
      have haft : ∀ w5 O', Keeps O W4.drew w5 → DiskIs O' w5 p st1 → (∀ k, O' k → O k ∨ (W4.drew.heap.size ≤ k ∧ k < w5.heap.size)) →
          AllIn w E p st1 O' ⟨z1, z2, z3, z4, z5, z6⟩ (.slice a2' n2 c2) q2 (max room 0) (i + 1) w5 ∧ Blk w5 Z 30 #[.int .i64 k, .int .u64 a, .int .i64 m, .slice va vl vc] := fun w5 O' K5 D5 hO' => by
        have hs5 := K5.size
        refine ⟨⟨D5, fun k hk => ?_, fun hk => ?_, hfit2, hans2.1, ⟨(hrow4.below hdr).keep K5 hQO, HROW.out.2⟩, fun k hk ho => ?_, by have := hA.len; dsimp only at this hlen2 ⊢; omega, ?_, hA.hE, ?_⟩, ?_⟩
        · rcases hO' k hk with h1 | h1
          · have := hoA k h1; omega
          · omega
        · rcases hO' _ hk with h1 | h1
          · exact hA.oE h1
          · omega
        · rcases hO' k ho with h1 | h1
          · exact hQO k hk h1
          · have := Q.lt hrow4 hk; omega
        · have e : Blk W4.drew E 40 #[.int .i64 z1, .int .i64 z2, .int .i64 z3, .bool z4, .bool z5, .slice a2' n2 c2] := bE4
          unfold Blk at e ⊢; rw [K5.block _ (by show E < W4.heap.size; omega) hA.oE]; exact e
        · exact K5.below hbwd hbwd.size (fun k hk => (hoA k hk).1)
        · have e : Blk W4.drew Z 30 #[.int .i64 k, .int .u64 a, .int .i64 m, .slice va vl vc] := bZ4
          unfold Blk at e ⊢; rw [K5.block _ (by show Z < W4.heap.size; omega) (fun hz => by have := (hoA Z hz).2; omega)]; exact e
      have hcel : ∀ w' : World, Blk w' E 40 #[.int .i64 z1, .int .i64 z2, .int .i64 z3, .bool z4, .bool z5, .slice a2' n2 c2] → Blk w' Z 30 #[.int .i64 k, .int .u64 a, .int .i64 m, .slice va vl vc] → w'.cell? ⟨E, 0, none⟩ = some (.int .i64 z1) ∧ w'.cell? ⟨E, 1, none⟩ = some (.int .i64 z2) ∧ w'.cell? ⟨E, 2, none⟩ = some (.int .i64 z3) ∧ w'.cell? ⟨E, 3, none⟩ = some (.bool z4) ∧ w'.cell? ⟨E, 4, none⟩ = some (.bool z5) ∧ w'.cell? ⟨E, 5, none⟩ = some (.slice a2' n2 c2) ∧ w'.cell? ⟨Z, 0, none⟩ = some (.int .i64 k) ∧ w'.cell? ⟨Z, 1, none⟩ = some (.int .u64 a) ∧ w'.cell? ⟨Z, 2, none⟩ = some (.int .i64 m) ∧ w'.cell? ⟨Z, 3, none⟩ = some (.slice va vl vc) := fun w' hE hZ =>
        ⟨(blk6 hE).1, (blk6 hE).2.1, (blk6 hE).2.2.1, (blk6 hE).2.2.2.1, (blk6 hE).2.2.2.2.1, (blk6 hE).2.2.2.2.2, (blk4 hZ).1, (blk4 hZ).2.1, (blk4 hZ).2.2.1, (blk4 hZ).2.2.2⟩
      have hS0 := hcel W4.drew bE4 bZ4
      have hsteps : z2 = st1.steps := hans2.1.steps
      have hstd : ∀ w' O', AllIn w E p st1 O' ⟨z1, z2, z3, z4, z5, z6⟩ (.slice a2' n2 c2) q2 (max room 0) (i + 1) w' ∧ Blk w' Z 30 #[.int .i64 k, .int .u64 a, .int .i64 m, .slice va vl vc] →
          Calls Try.prog 21 #[.pointer (some ⟨p, 0, none⟩), .agg #[.int .i64 z1, .int .i64 z2, .int .i64 z3, .bool z4, .bool z5, .slice a2' n2 c2]] w' (TrueIn w') := fun w' O' hh =>
        stands_any O' p st1 ⟨z1, z2, z3, z4, z5, z6⟩ (.slice a2' n2 c2) q2 w' hh.1.d (fun k hk => (hh.1.o k hk).2) hh.1.rel hh.1.row (by have := hh.1.fit.C; omega) hfull
      have HDOES := Lib.hid hdoes
      have HAFT := Lib.hid haft
      have HCEL := Lib.hid hcel
      have HSTD := Lib.hid hstd
      subst hsteps
      have hinext : IntKind.i64.wrap ((i : Int) + 1) = ((i + 1 : Nat) : Int) := IntWalk.i64_in _ (by omega)
      clear hA hb1 hb2 hb3 hs1 hs2 hs3 hsr bE4 k4 hs4 D4 hrow3 hrow4 hbw4 hok4 hoA hans2 hlen2 hfit2 hQO hW4 e0 e1 e2 e3 e4 e5 f0 f1 f2 f3 f4 f5 x0 x1 x2 x3 x4 x5 g0 g1 g2 g3 bX3 bE3 bZ3 bZ4 hdr hsd hdoes haft hcel hstd hbwd hfull
      by_cases hi20 : (i : Int) < 20
      · try rw [hW4']
        clear hW4'
        go_wp2_with fail
        go_region_held3 (fun w' => w'.cell? ⟨E, 0, none⟩ = some (.int .i64 z1) ∧ w'.cell? ⟨E, 1, none⟩ = some (.int .i64 st1.steps) ∧ w'.cell? ⟨E, 2, none⟩ = some (.int .i64 z3) ∧ w'.cell? ⟨E, 3, none⟩ = some (.bool z4) ∧ w'.cell? ⟨E, 4, none⟩ = some (.bool z5) ∧ w'.cell? ⟨E, 5, none⟩ = some (.slice a2' n2 c2) ∧ w'.cell? ⟨Z, 0, none⟩ = some (.int .i64 k) ∧ w'.cell? ⟨Z, 1, none⟩ = some (.int .u64 a) ∧ w'.cell? ⟨Z, 2, none⟩ = some (.int .i64 m) ∧ w'.cell? ⟨Z, 3, none⟩ = some (.slice va vl vc)) (first | assumption | go_keep) (first
          | (go_at_call 14; refine HDOES.out.mono ?_; rintro e w5 ⟨rfl, K5, O5, D5, hO5⟩; have hA5 := HAFT.out w5 O5 K5 D5 hO5; have hS5 := HCEL.out w5 hA5.1.bE hA5.2)
          | (go_at_call 16; refine (steps_any _ p st1 _ (AllIn.d (And.left (by assumption)))).mono ?_; rintro e wz ⟨rfl, rfl⟩)
          | (go_at_call 21; refine (HSTD.out _ _ (by assumption)).mono ?_; rintro e wz ⟨rfl, hbz⟩; have hA6 := And.intro (AllIn.low (And.left (by assumption)) hbz) (Blk.below (And.right (by assumption)) hbz (Blk.lt (And.right (by assumption)))); have hS6 := HCEL.out wz hA6.1.bE hA6.2))
        have hend := (AllIn.low (And.left (by assumption)) (Below.refl _ _) : AllIn w E p st1 O5 ⟨z1, st1.steps, z3, z4, z5, z6⟩ (.slice a2' n2 c2) q2 (max room 0) (i + 1) _)
        rw [← HST1.out] at hend
        have HEND := Lib.hid hend
        clear hend
        go_wp2_with fail
        refine ⟨⟨i + 1, O5, _, _, q2, ?_, by omega, HEND.out⟩, ?_⟩
        · first | rfl | congr 1
        · simp [intOf]; omega
      · have hd20 : decide ((i : Int) < 20) = false := decide_eq_false hi20
        have hd21 : decide (i < 20) = false := decide_eq_false (by omega)
        try rw [hW4']
        clear hW4'
        go_wp2_with fail
        refine wp_region_held_drew (S := (fun w' => w'.cell? ⟨E, 0, none⟩ = some (.int .i64 z1) ∧ w'.cell? ⟨E, 1, none⟩ = some (.int .i64 st1.steps) ∧ w'.cell? ⟨E, 2, none⟩ = some (.int .i64 z3) ∧ w'.cell? ⟨E, 3, none⟩ = some (.bool z4) ∧ w'.cell? ⟨E, 4, none⟩ = some (.bool z5) ∧ w'.cell? ⟨E, 5, none⟩ = some (.slice a2' n2 c2) ∧ w'.cell? ⟨Z, 0, none⟩ = some (.int .i64 k) ∧ w'.cell? ⟨Z, 1, none⟩ = some (.int .u64 a) ∧ w'.cell? ⟨Z, 2, none⟩ = some (.int .i64 m) ∧ w'.cell? ⟨Z, 3, none⟩ = some (.slice va vl vc))) (by kernel_rfl) hS0 (fun hHeld => ?_)
        refine wpAnyH_take (i := 0) (v := .pointer (some ⟨p, 0, none⟩)) rfl (by kernel_rfl) (by kernel_rfl) (by kernel_rfl) (fun _ _ _ h => h) (.inl ⟨by rfl, by intro w hSw; go_simp⟩) hHeld ?_
        simp only [Act.put, List.getElem_toArray, List.getElem_cons_succ, List.getElem_cons_zero, List.setIfInBounds_toArray, List.set_cons_zero, List.set_cons_succ]
        refine wpAnyH_take (i := 1) (v := .agg #[.int .i64 k, .int .u64 a, .int .i64 m, .slice va vl vc]) rfl (by kernel_rfl) (by kernel_rfl) (by kernel_rfl) (fun _ _ _ h => h) (.inl ⟨by rfl, by intro w hSw; (have hx := hSw; go_simp)⟩) hHeld ?_
        simp only [Act.put, List.getElem_toArray, List.getElem_cons_succ, List.getElem_cons_zero, List.setIfInBounds_toArray, List.set_cons_zero, List.set_cons_succ]
        refine wpAnyH_take (i := 3) (v := .int .i64 x) rfl (by kernel_rfl) (by kernel_rfl) (by kernel_rfl) (fun _ _ _ h => h) (.inl ⟨by rfl, by intro w hSw; go_simp⟩) hHeld ?_
        simp only [Act.put, List.getElem_toArray, List.getElem_cons_succ, List.getElem_cons_zero, List.setIfInBounds_toArray, List.set_cons_zero, List.set_cons_succ]
        refine wpAnyH_ready (rs := [2]) (by kernel_rfl) (by simp) ?_
        refine AllReadyH.cons rfl (fun K hK => ?_) AllReadyH.nil
        go_simp
        (go_at_call 14; refine HDOES.out.mono ?_; rintro e w5 ⟨rfl, K5, O5, D5, hO5⟩; have hA5 := HAFT.out w5 O5 K5 D5 hO5; have hS5 := HCEL.out w5 hA5.1.bE hA5.2)
        try go_wp2_with fail
        refine hK.out _ _ hS5 (fun hHeld => ?_)
        clear hK K
        try simp only [Act.put, List.getElem_toArray, List.getElem_cons_succ, List.getElem_cons_zero, List.setIfInBounds_toArray, List.set_cons_zero, List.set_cons_succ]
        refine wpAnyH_take (i := 4) (v := .bool false) rfl (by kernel_rfl) (by kernel_rfl) (by kernel_rfl) (fun _ _ _ h => h) (.inl ⟨by rfl, by intro w hSw; go_simp⟩) hHeld ?_
        simp only [Act.put, List.getElem_toArray, List.getElem_cons_succ, List.getElem_cons_zero, List.setIfInBounds_toArray, List.set_cons_zero, List.set_cons_succ]
        refine wpAnyH_take (i := 5) (v := .bool false) rfl (by kernel_rfl) (by kernel_rfl) (by kernel_rfl) (fun _ _ _ h => h) (.inl ⟨by rfl, by intro w hSw; go_simp⟩) hHeld ?_
        simp only [Act.put, List.getElem_toArray, List.getElem_cons_succ, List.getElem_cons_zero, List.setIfInBounds_toArray, List.set_cons_zero, List.set_cons_succ]
        refine wpAnyH_take (i := 6) (v := .pointer (some ⟨p, 0, none⟩)) rfl (by kernel_rfl) (by kernel_rfl) (by kernel_rfl) (fun _ _ _ h => h) (.inl ⟨by rfl, by intro w hSw; go_simp⟩) hHeld ?_
        simp only [Act.put, List.getElem_toArray, List.getElem_cons_succ, List.getElem_cons_zero, List.setIfInBounds_toArray, List.set_cons_zero, List.set_cons_succ]
        refine wpAnyH_take (i := 8) (v := .pointer (some ⟨E, 1, none⟩)) rfl (by kernel_rfl) (by kernel_rfl) (by kernel_rfl) (fun _ _ _ h => h) (.inl ⟨by rfl, by intro w hSw; go_simp⟩) hHeld ?_
        simp only [Act.put, List.getElem_toArray, List.getElem_cons_succ, List.getElem_cons_zero, List.setIfInBounds_toArray, List.set_cons_zero, List.set_cons_succ]
        refine wpAnyH_take (i := 9) (v := .int .i64 st1.steps) rfl (by kernel_rfl) (by kernel_rfl) (by kernel_rfl) (fun _ _ _ h => h) (.inl ⟨by rfl, by intro w hSw; (have hx := hSw; go_simp)⟩) hHeld ?_
        simp only [Act.put, List.getElem_toArray, List.getElem_cons_succ, List.getElem_cons_zero, List.setIfInBounds_toArray, List.set_cons_zero, List.set_cons_succ]
        refine wpAnyH_ready (rs := [7]) (by kernel_rfl) (by simp) ?_
        refine AllReadyH.cons rfl (fun K hK => ?_) AllReadyH.nil
        go_simp
        (go_at_call 16; refine (steps_any _ p st1 _ hA5.1.d).mono ?_; rintro e wz ⟨rfl, rfl⟩)
        try go_wp2_with fail
        refine hK.out _ _ hS5 (fun hHeld => ?_)
        clear hK K
        try simp only [Act.put, List.getElem_toArray, List.getElem_cons_succ, List.getElem_cons_zero, List.setIfInBounds_toArray, List.set_cons_zero, List.set_cons_succ]
        refine wpAnyH_take (i := 10) (v := .bool false) rfl (by kernel_rfl) (by kernel_rfl) (by kernel_rfl) (fun _ _ _ h => h) (.inl ⟨by rfl, by intro w hSw; go_simp⟩) hHeld ?_
        simp only [Act.put, List.getElem_toArray, List.getElem_cons_succ, List.getElem_cons_zero, List.setIfInBounds_toArray, List.set_cons_zero, List.set_cons_succ]
        refine wpAnyH_take (i := 11) (v := .bool false) rfl (by kernel_rfl) (by kernel_rfl) (by kernel_rfl) (fun _ _ _ h => h) (.inl ⟨by rfl, by intro w hSw; go_simp⟩) hHeld ?_
        simp only [Act.put, List.getElem_toArray, List.getElem_cons_succ, List.getElem_cons_zero, List.setIfInBounds_toArray, List.set_cons_zero, List.set_cons_succ]
        refine wpAnyH_take (i := 12) (v := .bool false) rfl (by kernel_rfl) (by kernel_rfl) (by kernel_rfl) (fun _ _ _ h => h) (.inl ⟨by rfl, by intro w hSw; go_simp⟩) hHeld ?_
        simp only [Act.put, List.getElem_toArray, List.getElem_cons_succ, List.getElem_cons_zero, List.setIfInBounds_toArray, List.set_cons_zero, List.set_cons_succ]
        refine wpAnyH_take (i := 13) (v := .int .i64 i) rfl (by kernel_rfl) (by kernel_rfl) (by kernel_rfl) (fun _ _ _ h => h) (.inl ⟨by rfl, by intro w hSw; go_simp⟩) hHeld ?_
        simp only [Act.put, List.getElem_toArray, List.getElem_cons_succ, List.getElem_cons_zero, List.setIfInBounds_toArray, List.set_cons_zero, List.set_cons_succ]
        refine wpAnyH_take (i := 14) (v := .bool false) rfl (by kernel_rfl) (by kernel_rfl) (by kernel_rfl) (fun _ _ _ h => h) (.inl ⟨by rfl, by intro w hSw; go_simp⟩) hHeld ?_
        simp only [Act.put, List.getElem_toArray, List.getElem_cons_succ, List.getElem_cons_zero, List.setIfInBounds_toArray, List.set_cons_zero, List.set_cons_succ]
        refine wpAnyH_take (i := 15) (v := .bool false) rfl (by kernel_rfl) (by kernel_rfl) (by kernel_rfl) (fun _ _ _ h => h) (.inl ⟨by rfl, by intro w hSw; go_simp⟩) hHeld ?_
        simp only [Act.put, List.getElem_toArray, List.getElem_cons_succ, List.getElem_cons_zero, List.setIfInBounds_toArray, List.set_cons_zero, List.set_cons_succ]
        refine wpAnyH_take (i := 16) (v := undef) rfl (by kernel_rfl) (by kernel_rfl) (by kernel_rfl) (fun _ _ _ h => h) (.inr ⟨by rfl, rfl⟩) hHeld ?_
        simp only [Act.put, List.getElem_toArray, List.getElem_cons_succ, List.getElem_cons_zero, List.setIfInBounds_toArray, List.set_cons_zero, List.set_cons_succ]
        refine wpAnyH_take (i := 17) (v := undef) rfl (by kernel_rfl) (by kernel_rfl) (by kernel_rfl) (fun _ _ _ h => h) (.inr ⟨by rfl, rfl⟩) hHeld ?_
        simp only [Act.put, List.getElem_toArray, List.getElem_cons_succ, List.getElem_cons_zero, List.setIfInBounds_toArray, List.set_cons_zero, List.set_cons_succ]
        refine wpAnyH_take (i := 18) (v := undef) rfl (by kernel_rfl) (by kernel_rfl) (by kernel_rfl) (fun _ _ _ h => h) (.inr ⟨by rfl, rfl⟩) hHeld ?_
        simp only [Act.put, List.getElem_toArray, List.getElem_cons_succ, List.getElem_cons_zero, List.setIfInBounds_toArray, List.set_cons_zero, List.set_cons_succ]
        refine wpAnyH_take (i := 19) (v := undef) rfl (by kernel_rfl) (by kernel_rfl) (by kernel_rfl) (fun _ _ _ h => h) (.inr ⟨by rfl, rfl⟩) hHeld ?_
        simp only [Act.put, List.getElem_toArray, List.getElem_cons_succ, List.getElem_cons_zero, List.setIfInBounds_toArray, List.set_cons_zero, List.set_cons_succ]
        refine wpAnyH_take (i := 20) (v := .bool false) rfl (by kernel_rfl) (by kernel_rfl) (by kernel_rfl) (fun _ _ _ h => h) (.inl ⟨by rfl, by intro w hSw; go_simp⟩) hHeld ?_
        simp only [Act.put, List.getElem_toArray, List.getElem_cons_succ, List.getElem_cons_zero, List.setIfInBounds_toArray, List.set_cons_zero, List.set_cons_succ]
        refine wpAnyH_take (i := 21) (v := .bool false) rfl (by kernel_rfl) (by kernel_rfl) (by kernel_rfl) (fun _ _ _ h => h) (.inl ⟨by rfl, by intro w hSw; go_simp⟩) hHeld ?_
        simp only [Act.put, List.getElem_toArray, List.getElem_cons_succ, List.getElem_cons_zero, List.setIfInBounds_toArray, List.set_cons_zero, List.set_cons_succ]
        refine wpAnyH_done (by kernel_rfl) ?_ _
        all_goals
          have hend := (AllIn.low (And.left (by assumption)) (Below.refl _ _) : AllIn w E p st1 O5 ⟨z1, st1.steps, z3, z4, z5, z6⟩ (.slice a2' n2 c2) q2 (max room 0) (i + 1) _)
          rw [← HST1.out] at hend
          have HEND := Lib.hid hend
          clear hend
          go_wp2_with fail
          refine ⟨⟨i + 1, O5, _, _, q2, ?_, by omega, HEND.out⟩, ?_⟩
          · first | rfl | congr 1
          · simp [intOf]; omega
    · have hin : i = n := by omega
      subst hin
      obtain ⟨av, cv, hv⟩ := hA.row.1.slice
      subst hv
      obtain ⟨nq, hnq⟩ : ∃ nq, q.length = nq := ⟨_, rfl⟩
      rw [hnq] at hA
      obtain ⟨room1, steps, left, armed, dead, rl⟩ := r
      have bE1 : Blk wr E 40 #[.int .i64 room1, .int .i64 steps, .int .i64 left, .bool armed, .bool dead, .slice av nq cv] := hA.bE
      obtain ⟨a0', a1, a2, a3, a4, a5⟩ := blk6 bE1
      have hst := stands_any O p (runS f room i) ⟨room1, steps, left, armed, dead, rl⟩ (.slice av nq cv) q wr hA.d (fun k hk => (hA.o k hk).2) hA.rel hA.row (by have := hA.fit.C; omega) (full_run f room i)
      have HST := Lib.hid hst
      have HB := Lib.hid hA.below
      clear hA hst bE1
      go_wp2_with fail
      refine HST.out.mono ?_
      rintro e w6 ⟨rfl, hb6⟩
      have hbf := HB.out.trans (hb6.mono HB.out.size)
      clear hb6
      go_wp2_with fail
      go_ret
      exact ⟨rfl, hbf⟩
end Go.Proofs.Yteidmneenfdafaa.R
