/-
  A disk behind calls, and the document's.
-/
import Derived.Test.YteidmneenfdafaaRefRel
import Derived.Test.YteidmneenfdafaaRefWrote
import Derived.Test.YteidmneenfdafaaDskOpen
import Derived.Test.YteidmneenfdafaaDskAlive
import Derived.Test.YteidmneenfdafaaDskDoes
namespace Go.Proofs.Yteidmneenfdafaa.R
open Go.RowKit
open Aid K
set_option linter.unusedSimpArgs false
set_option linter.unusedVariables false

theorem results_cell3 {P : Program} {fn : Func} {t p u : Tmp} {ty : TypeId} (h : fn.results = #[.tmp t, .cell p ty, .tmp u]) (tmps : Array Value) (w : World) (g : Nat) (hp : tmps.getD p undef = .pointer (some ⟨g, 0, none⟩)) (a b : Value) (ht : tmps.getD t undef = a) (hu2 : tmps.getD u undef = b)
    (T : TypeId) (vs : Array Value) (hb : Blk w g T vs) (d : TypeDesc) (hu : P.underlying ty = some d) (hd : aggD d = true) (hi : (P.info? ty).map (·.size) = some vs.size) :
    (results fn tmps).run P w = .ok (.tuple #[a, .agg vs, b]) w := by
  simp only [results, h]
  simp [Sem.run_bind, Result.andThen, hp, ht, hu2, asAddr, run_loadVar_cells w ty d hu hd g 0 vs hi hb.cells]
  rw [Array.getD_eq_getD_getElem?] at hp ht hu2
  simp [hp, ht, hu2, run_loadVar_cells w ty d hu hd g 0 vs hi hb.cells]
theorem Q.lt {w : World} {v : Value} {q : List (RSec × Value)} {k : Nat} (h : RowIs w v q) (hk : Q v q k) : k < w.heap.size := by
  rcases hk with ⟨b, n, c, hv, rfl⟩ | ⟨x, hx, b, n, c, hv, rfl⟩
  · rcases h.form with ⟨_, h1⟩ | ⟨g, cap, h1, h2, _⟩
    · rw [h1] at hv; cases hv
    · rw [h1] at hv
      simp only [Value.slice.injEq, Option.some.injEq] at hv
      rw [← hv.1]; exact h2
  · obtain ⟨⟨h0, a', cap, h1, h2, h3, h4⟩, hne⟩ := h.secs x hx
    obtain ⟨b', o, e1, e2, e3, e4⟩ := h4 0 (List.length_pos_iff.2 hne)
    rw [h1, e1] at hv
    simp only [Value.slice.injEq, Option.some.injEq] at hv
    rw [← hv.1]; exact e3
theorem six_keeps (w : World) (b : Nat) (x0 x1 x2 x3 x4 x5 : Value) (hs : ¬ StrRow w b) : Keeps (fun k => k = b) w (six w b x0 x1 x2 x3 x4 x5) :=
  ⟨by unfold six; simp only [World.setCell], by unfold six; simp only [World.setCell], by unfold six; simp only [World.setCell], by rw [six_size]; exact Nat.le_refl _, fun k _ hne => six_heap _ _ _ _ _ _ hne, fun k hk => six_heap _ _ _ _ _ _ (fun e => hs (e ▸ hk))⟩
theorem fit_new2 (room : Int) : FitS (newSt room) (max room 0) 0 := by
  have h := fit_new (room := max room 0) (by omega)
  have e : newSt (max room 0) = newSt room := by
    unfold newSt
    rw [show max (max room 0) 0 = max room 0 by omega]
  rwa [e] at h
structure BegIn (W0 : World) (E p : Nat) (st : DSt) (O : Nat → Prop) (r : RSt) (v : Value) (q : List (RSec × Value)) (R : Int) (i : Nat) (w : World) : Prop where
  d : DiskIs O w p st
  o : ∀ k, O k → W0.heap.size ≤ k ∧ k < w.heap.size
  oB : ¬ O W0.heap.size
  oE : ¬ O E
  fit : FitS st R i
  rel : RelD st r
  row : RDisk w v r q
  qo : ∀ k, Q v q k → ¬ O k
  len : r.l.length ≤ i
  bB : Blk w W0.heap.size 40 #[.int .i64 0, .int .i64 0, .int .i64 0, .bool false, .bool false, .slice none 0 0]
  bE : Blk w E 40 (diskR r v)
  hE : W0.heap.size < E
  below : Below W0.heap.size W0 w
def BegEnd (w : World) (st : DSt) (R : Int) (n : Nat) (e : Ending) (w' : World) : Prop := ∃ p O r v q, e = .returned (.tuple #[.pointer (some ⟨p, 0, none⟩), .agg (diskR r v), .bool true]) ∧ DiskIs O w' p st ∧ (∀ k, O k → w.heap.size ≤ k ∧ k < w'.heap.size) ∧ FitS st R n ∧ RelD st r ∧ RDisk w' v r q ∧ (∀ k, Q v q k → ¬ O k) ∧ r.l.length ≤ n ∧ Below w.heap.size w w'
set_option maxRecDepth 100000 in
set_option maxHeartbeats 8000000 in
theorem begun_any (room : Int) (v : Value) (n : Nat) (f : Nat → OpR) (w : World) (h : OpsAre w v n f) (hr1 : room ≤ 9223372036854775807) :
    Calls Try.prog 23 #[.int .i64 room, v] w (BegEnd w (runS f room n) (max room 0) n) := by
  have hn := h.1
  obtain ⟨a0, cap0, hv0, hel0⟩ := h.2
  subst hv0
  obtain ⟨B, hB⟩ : ∃ B, w.heap.size = B := ⟨_, rfl⟩
  obtain ⟨W0, hW0⟩ : ∃ W0, w.alloc (.cells #[.int .i64 0, .int .i64 0, .int .i64 0, .bool false, .bool false, .slice none 0 0] 40) = W0 := ⟨_, rfl⟩
  have bB0 : Blk W0 B 40 #[.int .i64 0, .int .i64 0, .int .i64 0, .bool false, .bool false, .slice none 0 0] := by rw [← hW0, ← hB]; exact Blk.alloc_new _ _ _
  have hB0 : Below w.heap.size w W0 := by rw [← hW0]; exact (Below.refl _ _).alloc (Nat.le_refl _) _
  have hz0 : W0.heap.size = B + 1 := by rw [← hW0, ← hB]; simp
  have HZ0 := Lib.hid hz0
  clear hz0
  go_enter Try.func23, Try.ntmps23
  go_wp2_with fail
  try rw [hW0]
  refine (new_fine room W0).mono ?_
  rintro e w1 ⟨p, O1, rfl, D1, hO1, hB1⟩
  go_wp2_with fail
  refine (rnew_any room w1).mono ?_
  rintro e w2 ⟨rfl, hB2⟩
  obtain ⟨E, hE⟩ : ∃ E, w2.heap.size = E := ⟨_, rfl⟩
  unfold newR diskR
  dsimp only
  go_wp2_with fail
  obtain ⟨W3, hW3⟩ : ∃ W3, w2.alloc (.cells #[.int .i64 (max room 0), .int .i64 0, .int .i64 0, .bool false, .bool false, .slice none 0 0] 40) = W3 := ⟨_, rfl⟩
  try rw [hW3]
  refine (alive_any W3).mono ?_
  rintro e w4 ⟨rfl, hB4⟩
  have hs1 := hB1.size
  have hs2 := hB2.size
  have hz3 : w2.heap.size < W3.heap.size := by rw [← hW3]; simp
  have hs4 := hB4.size
  have hz0 := HZ0.out
  have hb13 : Below w1.heap.size w1 W3 := by rw [← hW3]; exact hB2.trans ((Below.refl _ _).alloc hs2 _)
  have hb14 : Below w1.heap.size w1 w4 := hb13.trans (hB4.mono (by omega))
  have bE3 : Blk W3 E 40 #[.int .i64 (max room 0), .int .i64 0, .int .i64 0, .bool false, .bool false, .slice none 0 0] := by rw [← hW3, ← hE]; exact Blk.alloc_new _ _ _
  have bB4 : Blk w4 B 40 #[.int .i64 0, .int .i64 0, .int .i64 0, .bool false, .bool false, .slice none 0 0] := (bB0.below hB1 (by omega)).below hb14 (by omega)
  have hA0 : BegIn w E p (newSt room) O1 (newR room) (.slice none 0 0) [] (max room 0) 0 w4 := by
    refine ⟨D1.below hb14, fun k hk => ?_, fun hk => ?_, fun hk => ?_, fit_new2 room, RelD.new room, ⟨⟨.inl ⟨rfl, rfl⟩, fun x hx => (nomatch hx), by simp⟩, rfl⟩, fun k hk => ?_, Nat.le_refl _, by rw [hB]; exact bB4, ?_, by omega, ?_⟩
    · have := hO1 k hk; omega
    · have := hO1 _ hk; omega
    · have := hO1 _ hk; omega
    · rcases hk with ⟨b, m, c, hv, _⟩ | ⟨x, hx, _⟩
      · cases hv
      · cases hx
    · exact bE3.below hB4 (by omega)
    · rw [hB]
      have e0 : Below B w W0 := by rw [← hB]; exact hB0
      exact (e0.trans (hB1.mono (by omega))).trans (hb14.mono (by omega))
  clear D1 hO1 hB0 hB1 hB2 hB4 bB0 hW0 hW3 hE bE3 bB4 hb13 hb14 hs1 hs2 hz3 hs4 hz0
  have hlen : IntKind.i64.wrap (n : Int) = (n : Int) := IntWalk.i64_in _ (by omega)
  go_wp2_with fail
  go_loopw [26] (fun x26 wr => ∃ (i : Nat) (O : Nat → Prop) (r : RSt) (v : Value) (q : List (RSec × Value)), x26 = .int .i64 i ∧ i ≤ n ∧ BegIn w E p (runS f room i) O r v q (max room 0) i wr) (fun x26 _ => (n - intOf x26).toNat)
  case atStart => exact ⟨0, O1, newR room, .slice none 0 0, [], rfl, by omega, hA0⟩
  case round =>
    clear hA0
    obtain ⟨i, O, r, v, q, rfl, hi, hA⟩ := hrel
    by_cases hlt : (i : Int) < (n : Int)
    · have hiN : i < n := by omega
      obtain ⟨b, o, rfl, hb, hc0, hc1, hc2, hc3, hok⟩ := hel0 i hiN
      have hsr := hA.below.size
      have hc0' : wr.cell? ⟨b, o + i * 4, none⟩ = some (.int .i64 (f i).k) := (hA.below.cell (p := ⟨b, o + i * 4, none⟩) hb).trans hc0
      have hc1' : wr.cell? ⟨b, o + i * 4 + 1, none⟩ = some (.int .u64 (f i).a) := (hA.below.cell (p := ⟨b, o + i * 4 + 1, none⟩) hb).trans hc1
      have hc2' : wr.cell? ⟨b, o + i * 4 + 2, none⟩ = some (.int .i64 (f i).n) := (hA.below.cell (p := ⟨b, o + i * 4 + 2, none⟩) hb).trans hc2
      have hc3' : wr.cell? ⟨b, o + i * 4 + 3, none⟩ = some (f i).v := (hA.below.cell (p := ⟨b, o + i * 4 + 3, none⟩) hb).trans hc3
      have hok' : OpOk wr (f i) := hok.below hA.below
      have hrun : runS f room (i + 1) = doS (runS f room i) (f i).k (f i).a (f i).n (f i).l := rfl
      obtain ⟨x, hx⟩ : ∃ x, f i = x := ⟨_, rfl⟩
      rw [hx] at hc0' hc1' hc2' hc3' hok' hok hrun
      obtain ⟨k, a, m, vb, l⟩ := x
      simp only at hc0' hc1' hc2' hc3' hrun
      obtain ⟨va, vc, hve⟩ := Ints.form hok'.ints
      simp only at hve
      have hlv0 := hok.lt
      simp only at hlv0
      obtain ⟨vl, hvl⟩ : ∃ vl, l.length = vl := ⟨_, rfl⟩
      rw [hvl] at hve
      subst hve
      obtain ⟨st, hst⟩ : ∃ st, runS f room i = st := ⟨_, rfl⟩
      rw [hst] at hA hrun
      clear hc0 hc1 hc2 hc3
      obtain ⟨Z, hZ⟩ : ∃ Z, wr.heap.size = Z := ⟨_, rfl⟩
      obtain ⟨W1, hW1⟩ : ∃ W1, wr.alloc (.cells #[.int .i64 k, .int .u64 a, .int .i64 m, .slice va vl vc] 30) = W1 := ⟨_, rfl⟩
      have hb1 : Below wr.heap.size wr W1 := by rw [← hW1]; exact (Below.refl _ _).alloc (Nat.le_refl _) _
      have hBk : Blk W1 Z 30 #[.int .i64 k, .int .u64 a, .int .i64 m, .slice va vl vc] := by rw [← hW1, ← hZ]; exact Blk.alloc_new _ _ _
      obtain ⟨y0, y1, y2, y3⟩ := blk4 hBk
      have hsz1 : W1.heap.size = Z + 1 := by rw [← hW1, ← hZ]; simp
      obtain ⟨av, cv, hv⟩ := hA.row.1.slice
      subst hv
      obtain ⟨nq, hnq⟩ : ∃ nq, q.length = nq := ⟨_, rfl⟩
      obtain ⟨room1, steps, left, armed, dead, rl⟩ := r
      have bE1 : Blk W1 E 40 #[.int .i64 room1, .int .i64 steps, .int .i64 left, .bool armed, .bool dead, .slice av nq cv] := by
        have e := hA.bE.below hb1 (Blk.lt hA.bE)
        rw [hnq] at e
        exact e
      have hZE : E < Z := by have := Blk.lt hA.bE; omega
      obtain ⟨a0', a1, a2, a3, a4, a5⟩ := blk6 bE1
      have hrow1 : RDisk W1 (.slice av q.length cv) ⟨room1, steps, left, armed, dead, rl⟩ q := ⟨hA.row.1.below hb1, hA.row.2⟩
      have hfitr := fit_of hA.rel hA.fit (by omega) (by omega) hA.row (by have := hA.len; dsimp only at this ⊢; omega)
      have hdo := rdo_any ⟨room1, steps, left, armed, dead, rl⟩ (.slice av q.length cv) q k a m (.slice va vl vc) l W1 hrow1 hfitr (hok'.below hb1).ints hok.bytes
      unfold diskR at hdo
      dsimp only at hdo
      rw [hnq] at hdo
      have HA := Lib.hid hA
      have HDO := Lib.hid hdo
      have HOK := Lib.hid hok
      have HRUN := Lib.hid hrun
      have HST := Lib.hid hst
      have HB1 := Lib.hid hb1
      have HNQ := Lib.hid hnq
      have HLV := Lib.hid hlv0
      clear hA hdo hok hok' hrun hst hb1 hnq hlv0 hrow1 hfitr
      go_wp2_with fail
      refine HDO.out.mono ?_
      rintro e w2 ⟨v2, q2, r2, x, rfl, hans, hrow2, hq2, hb2⟩
      obtain ⟨a2', c2, hv2⟩ := hrow2.1.slice
      subst hv2
      obtain ⟨z1, z2, z3, z4, z5, z6⟩ := r2
      obtain ⟨n2, hn2⟩ : ∃ n2, q2.length = n2 := ⟨_, rfl⟩
      rw [hn2] at hrow2 hq2
      rw [hn2]
      unfold diskR
      dsimp only
      have hs2 := hb2.size
      have bE2 := bE1.below hb2 (by omega)
      have bZ2 := hBk.below hb2 (by omega)
      obtain ⟨X, hX⟩ : ∃ X, w2.heap.size = X := ⟨_, rfl⟩
      have hXZ : Z < X := by omega
      obtain ⟨W3, hW3⟩ : ∃ W3, w2.alloc (.cells #[.int .i64 z1, .int .i64 z2, .int .i64 z3, .bool z4, .bool z5, .slice a2' n2 c2] 40) = W3 := ⟨_, rfl⟩
      have hb3 : Below w2.heap.size w2 W3 := by rw [← hW3]; exact (Below.refl _ _).alloc (Nat.le_refl _) _
      have hs3 : W3.heap.size = X + 1 := by rw [← hW3, ← hX]; simp
      have bX3 : Blk W3 X 40 #[.int .i64 z1, .int .i64 z2, .int .i64 z3, .bool z4, .bool z5, .slice a2' n2 c2] := by rw [← hW3, ← hX]; exact Blk.alloc_new _ _ _
      have bE3 := bE2.below hb3 (by omega)
      have bZ3 := bZ2.below hb3 (by omega)
      obtain ⟨e0, e1, e2, e3, e4, e5⟩ := blk6 bE3
      obtain ⟨f0, f1, f2, f3, f4, f5⟩ := frees bE3
      obtain ⟨x0, x1, x2, x3, x4, x5⟩ := blk6 bX3
      obtain ⟨g0, g1, g2, g3⟩ := blk4 bZ3
      have HANS := Lib.hid hans
      have HROW := Lib.hid hrow2
      have HQ2 := Lib.hid hq2
      have HB2 := Lib.hid hb2
      have HB3 := Lib.hid hb3
      have HS3 := Lib.hid hs3
      have hZEn : Z ≠ E := by omega
      clear hans hrow2 hq2 hb2 hb3 hs3 hn2 bE1 bE2 bZ2 hBk y0 y1 y2 y3 a0' a1 a2 a3 a4 a5 hs2 hsz1
      go_wp2_with fail
      obtain ⟨W4, hW4⟩ : ∃ W4, six W3 E (.int .i64 z1) (.int .i64 z2) (.int .i64 z3) (.bool z4) (.bool z5) (.slice a2' n2 c2) = W4 := ⟨_, rfl⟩
      have hA := HA.out
      have hb1 := HB1.out
      have hb2 := HB2.out
      have hb3 := HB3.out
      have hs1 := hb1.size
      have hs2 := hb2.size
      have hs3 := HS3.out
      have hsr := hA.below.size
      have bE4 : Blk W4 E 40 #[.int .i64 z1, .int .i64 z2, .int .i64 z3, .bool z4, .bool z5, .slice a2' n2 c2] := by rw [← hW4]; exact six_blk bE3 _ _ _ _ _ _
      have k4 : Keeps (fun k => k = E) W3 W4 := by rw [← hW4]; exact six_keeps _ _ _ _ _ _ _ _ (StrRow.no_blk bE3 (by decide))
      have hs4 : W4.heap.size = X + 1 := by rw [← hW4, six_size]; exact hs3
      have D4 : DiskIs O W4 p st := (((hA.d.below hb1).below hb2).below hb3).keep k4 (fun k hk e => hA.oE (e ▸ hk))
      have hrow3 : RowIs W3 (.slice a2' n2 c2) q2 := HROW.out.1.below hb3
      have hrow4 : RowIs W4 (.slice a2' n2 c2) q2 := by rw [← hW4]; exact hrow3.six bE3 _ _ _ _ _ _
      have hbw4 : Below w.heap.size w W4 := by
        have e : Below w.heap.size w W3 := ((hA.below.trans (hb1.mono hsr)).trans (hb2.mono (by omega))).trans (hb3.mono (by omega))
        rw [← hW4]; exact six_below e (by have := hA.hE; omega) _ _ _ _ _ _
      have bB4 : Blk W4 w.heap.size 40 #[.int .i64 0, .int .i64 0, .int .i64 0, .bool false, .bool false, .slice none 0 0] := by
        have e := ((hA.bB.below hb1 (Blk.lt hA.bB)).below hb2 (by have := Blk.lt hA.bB; omega)).below hb3 (by have := Blk.lt hA.bB; omega)
        rw [← hW4]; exact six_other e (by have := hA.hE; omega) _ _ _ _ _ _
      have hok4 : OpOk W4 ⟨k, a, m, .slice va vl vc, l⟩ := HOK.out.below hbw4
      have hoA : ∀ k, O k → w.heap.size ≤ k ∧ k < wr.heap.size := hA.o
      have hW4' := hW4
      unfold six at hW4'
      rw [hW4']
      have hans2 := answers hA.rel HANS.out hok4.wa hok4.wn
      have hlen2 := do_len hA.rel.srt HANS.out
      have hfit2 := fit_do (k := k) (a := a) (l := l) hA.fit hok4.wn
      rw [HRUN.out.symm] at hfit2 hans2
      refine (does_any O p st (max room 0) i k a m (.slice va vl vc) l W4 D4 (fun k hk => by have := (hoA k hk).2; omega) hA.fit (by omega) (by omega) hok4.ints (fun b' o' n' c' e hn0 hO => by
        rcases HLV.out b' o' n' c' e with hh | hh
        · have := (hoA b' hO).1; omega
        · exact absurd hh hn0) hok4.bytes hok4.wk hok4.wa hok4.wn).mono ?_
      rintro e w5 ⟨rfl, K5, O', D5, hO'⟩
      rw [HRUN.out.symm] at D5
      rw [hans2.2]
      have hs5 := K5.size
      have hQO : ∀ k, Q (.slice a2' n2 c2) q2 k → ¬ O k := fun k hk ho => by
        rcases HQ2.out k hk with h1 | h1
        · exact hA.qo k (by rw [HNQ.out]; exact h1) ho
        · have := (hoA k ho).2; omega
      have hA5 : BegIn w E p (runS f room (i + 1)) O' ⟨z1, z2, z3, z4, z5, z6⟩ (.slice a2' n2 c2) q2 (max room 0) (i + 1) w5 := by
        refine ⟨D5, fun k hk => ?_, fun hk => ?_, fun hk => ?_, hfit2, hans2.1, ⟨hrow4.keep K5 hQO, HROW.out.2⟩, fun k hk ho => ?_, by have := hA.len; dsimp only at this hlen2 ⊢; omega, ?_, ?_, hA.hE, ?_⟩
        · rcases hO' k hk with h1 | h1
          · have := hoA k h1; omega
          · omega
        · rcases hO' _ hk with h1 | h1
          · exact hA.oB h1
          · have := Blk.lt hA.bB; omega
        · rcases hO' _ hk with h1 | h1
          · exact hA.oE h1
          · omega
        · rcases hO' k ho with h1 | h1
          · exact hQO k hk h1
          · have := Q.lt hrow4 hk; omega
        · unfold Blk at bB4 ⊢; rw [K5.block _ (Blk.lt bB4) hA.oB]; exact bB4
        · unfold Blk at bE4 ⊢; rw [K5.block _ (Blk.lt bE4) hA.oE]; exact bE4
        · exact K5.below hbw4 hbw4.size (fun k hk => (hoA k hk).1)
      have HA5 := Lib.hid hA5
      have hinext : IntKind.i64.wrap ((i : Int) + 1) = ((i + 1 : Nat) : Int) := IntWalk.i64_in _ (by omega)
      clear hA hb1 hb2 hb3 hs1 hs2 hs3 hsr bE4 k4 hs4 D4 hrow3 hrow4 hbw4 bB4 hok4 hoA hW4' hans2 hlen2 hfit2 hQO hA5 K5 D5 hO' hW4 hs5 e0 e1 e2 e3 e4 e5 f0 f1 f2 f3 f4 f5 x0 x1 x2 x3 x4 x5 g0 g1 g2 g3 bX3 bE3 bZ3
      go_wp2_with fail
      refine ⟨⟨i + 1, O', _, _, q2, ?_, by omega, HA5.out⟩, ?_⟩
      · first | rfl | congr 1
      · simp [intOf]; omega
    · have hin : i = n := by omega
      subst hin
      obtain ⟨av, cv, hv⟩ := hA.row.1.slice
      subst hv
      obtain ⟨nq, hnq⟩ : ∃ nq, q.length = nq := ⟨_, rfl⟩
      rw [hnq] at hA
      obtain ⟨room1, steps, left, armed, dead, rl⟩ := r
      have bE1 : Blk wr E 40 #[.int .i64 room1, .int .i64 steps, .int .i64 left, .bool armed, .bool dead, .slice av nq cv] := hA.bE
      have bB1 := hA.bB
      rw [hB] at bB1
      obtain ⟨a0', a1, a2, a3, a4, a5⟩ := blk6 bE1
      obtain ⟨e0, e1, e2, e3, e4, e5⟩ := blk6 bB1
      obtain ⟨f0, f1, f2, f3, f4, f5⟩ := frees bB1
      have HA := Lib.hid hA
      clear hA
      go_wp2_with fail
      go_region
      go_wp2_with fail
      obtain ⟨Wf, hWf⟩ : ∃ Wf, six wr B (.int .i64 room1) (.int .i64 steps) (.int .i64 left) (.bool armed) (.bool dead) (.slice av nq cv) = Wf := ⟨_, rfl⟩
      have hWf' := hWf
      unfold six at hWf'
      rw [hWf']
      clear hWf'
      have hbf : Below w.heap.size w Wf := by rw [← hWf]; exact six_below HA.out.below (by omega) _ _ _ _ _ _
      have hk : Keeps (fun k => k = B) wr Wf := by rw [← hWf]; exact six_keeps _ _ _ _ _ _ _ _ (StrRow.no_blk bB1 (by decide))
      have hrow : RowIs Wf (.slice av nq cv) q := by rw [← hWf]; exact HA.out.row.1.six bB1 _ _ _ _ _ _
      have hbk : Blk Wf B 40 #[.int .i64 room1, .int .i64 steps, .int .i64 left, .bool armed, .bool dead, .slice av nq cv] := by rw [← hWf]; exact six_blk bB1 _ _ _ _ _ _
      have hbk2 : Blk Wf.drew B 40 #[.int .i64 room1, .int .i64 steps, .int .i64 left, .bool armed, .bool dead, .slice av nq cv] := hbk
      have hdr : Below Wf.heap.size Wf Wf.drew := (Below.refl _ _).drew
      have D2 : DiskIs O Wf.drew p (runS f room i) := (HA.out.d.keep hk (fun k hk e => HA.out.oB (by rw [hB, ← e]; exact hk))).below hdr
      have hrow2 := hrow.below hdr
      refine bodyPost_ret (results_cell3 rfl _ _ B rfl _ _ rfl rfl _ #[.int .i64 room1, .int .i64 steps, .int .i64 left, .bool armed, .bool dead, .slice av nq cv] hbk2 _ Try.underlying40 rfl size_disk) rfl ?_
      refine ⟨p, O, ⟨room1, steps, left, armed, dead, rl⟩, .slice av nq cv, q, rfl, D2, fun k hk' => ?_, HA.out.fit, HA.out.rel, ⟨hrow2, HA.out.row.2⟩, HA.out.qo, HA.out.len, hbf.drew⟩
      have := HA.out.o k hk'
      have := hk.size
      show w.heap.size ≤ k ∧ k < Wf.heap.size
      omega
end Go.Proofs.Yteidmneenfdafaa.R
