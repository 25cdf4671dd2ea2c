/-
  DiskWhole: each sector that is found behind a crash was written so.
-/
import Derived.Test.YteidmneenfdafaaRefC
import Derived.Test.YteidmneenfdafaaRefCr
import Derived.Test.YteidmneenfdafaaDskCrash
import Derived.Test.YteidmneenfdafaaDskSect
import Derived.Test.YteidmneenfdafaaDskFull
import Derived.BigQuiet
namespace Go.Proofs.Yteidmneenfdafaa.R
open Go.RowKit
open Aid K
set_option linter.unusedSimpArgs false
set_option linter.unusedVariables false

def strB (l : List Int) : ByteArray := ⟨(l.map K.u8).toArray⟩
theorem conv_bytes {w : World} {a : Option Addr} {c n : Nat} {l : List Int} (hI : Ints w .u8 (.slice a n c) l) (hb : ∀ x ∈ l, 0 ≤ x ∧ x ≤ 255) : (convert 28 9 (.slice a n c)).run Try.prog w = .ok (.string (strB l)) w := by
  have hn : n = l.length := by
    obtain ⟨_, _, e⟩ := Ints.form hI
    simp only [Value.slice.injEq] at e; exact e.2.1
  subst hn
  cases a with
  | none =>
    have hl : l = [] := by
      obtain ⟨_, ⟨h, _⟩ | ⟨_, _, _, hv, _⟩⟩ := hI
      · exact h
      · cases hv
    subst hl
    exact run_convert_bytes_nil (P := Try.prog) w 28 5 Try.underlying28 Try.underlying5 0 c 9 Try.underlying9
  | some ad =>
    have := run_convert_bytes_back (P := Try.prog) w 28 9 5 ad c (l.map K.u8) Try.underlying28 Try.underlying5 Try.underlying9 (fun j hj => by
      have hjl : j < l.length := by simpa using hj
      obtain ⟨ad', e, hsrc⟩ := ints_src hI (by omega)
      obtain rfl : ad = ad' := by simpa using e
      rw [hsrc j (.int .u8 l[j]) (by rw [List.getElem?_map, List.getElem?_eq_getElem hjl]; rfl), List.getElem_map]
      have hx := hb _ (List.getElem_mem hjl)
      rw [u8_int hx.1 hx.2])
    rw [List.length_map] at this
    exact this
theorem ints_first {w : World} {K : IntKind} {a : Option Addr} {n cap : Nat} {l : List Int} (h : Ints w K (.slice a n cap) l) (j : Nat) (hj : j ≤ l.length) : Ints w K (.slice a j cap) (l.take j) := by
  have hlen : (l.take j).length = j := by simp [hj]
  obtain ⟨h0, ⟨rfl, h⟩ | ⟨b, off, c, hv, hlt, hc⟩⟩ := h
  · simp at hj; subst hj
    refine ⟨by simp, .inl ⟨by simp, ?_⟩⟩
    rcases h with h | ⟨x, c, h⟩
    · simp at h; obtain ⟨rfl, rfl, rfl⟩ := h; exact .inl rfl
    · simp at h; obtain ⟨rfl, rfl, rfl⟩ := h; exact .inr ⟨_, _, rfl⟩
  · simp at hv
    obtain ⟨rfl, rfl, rfl⟩ := hv
    by_cases h0' : j = 0
    · subst h0'; exact ⟨by simp, .inl ⟨by simp, .inr ⟨_, _, rfl⟩⟩⟩
    · refine ⟨by omega, .inr ⟨b, off, cap, by rw [hlen], hlt, fun i hi => ?_⟩⟩
      rw [hlen] at hi
      rw [hc i (by omega)]
      simp only [List.getD_eq_getElem?_getD, List.getElem?_take]
      rw [if_pos hi]
theorem bytesI_by (V : ByteArray) : ∀ x ∈ bytesI V, 0 ≤ x ∧ x ≤ 255 := by
  intro x hx
  unfold bytesI at hx
  obtain ⟨b, _, rfl⟩ := List.mem_map.1 hx
  have := b.toNat_lt
  constructor <;> omega
/-- the first of a whole sector are what was written -/
theorem whole_first {l : List Int} (h : ∀ x ∈ l, 0 ≤ x ∧ x ≤ 255) : (bytesI (wholeI l)).take l.length = l := by
  unfold bytesI wholeI whole
  rw [List.map_append, List.take_append_of_le_length (by simp), List.take_of_length_le (by simp), List.map_map]
  conv => rhs; rw [← List.map_id l]
  refine List.map_congr_left fun x hx => ?_
  exact u8_int (h x hx).1 (h x hx).2
def MatchOp (x : OpR) (a m : Int) (V : ByteArray) : Prop := x.k = 0 ∧ x.a = a ∧ x.n = m ∧ V = wholeI x.l ∧ x.l.length ≤ 64
def FoundIn (f : Nat → OpR) (n : Nat) (a j : Int) (B : List Int) (fd : Bool) (m : Nat) : Prop := fd = true ∨ ∃ V, B = bytesI V ∧ WroteV f n a j V ∧ ∀ q, q < m → ¬ MatchOp (f q) a j V
theorem FoundIn.next {f : Nat → OpR} {n : Nat} {a j : Int} {B : List Int} {fd : Bool} {m : Nat} (h : FoundIn f n a j B fd m) (hno : ∀ V, B = bytesI V → ¬ MatchOp (f m) a j V) : FoundIn f n a j B fd (m + 1) := by
  rcases h with h | ⟨V, h1, h2, h3⟩
  · exact .inl h
  · refine .inr ⟨V, h1, h2, fun q hq => ?_⟩
    by_cases e : q = m
    · rw [e]; exact hno V h1
    · exact h3 q (by omega)
theorem FoundIn.done {f : Nat → OpR} {n : Nat} {a j : Int} {B : List Int} {fd : Bool} (h : FoundIn f n a j B fd n) : fd = true := by
  rcases h with h | ⟨V, h1, ⟨q, q1, q2, q3, q4, q5, q6⟩, h3⟩
  · exact h
  · exact absurd ⟨q2, q3, q4, q5, q6⟩ (h3 q q1)
structure WhoIn (W : World) (w0 : World) (pc : Nat) (Oc : Nat → Prop) (sc : DSt) (g : Nat) (As : List Int) : Prop where
  c : DiskIs Oc W pc sc
  o : ∀ k, Oc k → k < W.heap.size
  row : As ≠ [] → QU.Row W g As.toArray
  below : Below w0.heap.size w0 W
theorem WhoIn.low {W W' w0 : World} {pc : Nat} {Oc : Nat → Prop} {sc : DSt} {g : Nat} {As : List Int} (h : WhoIn W w0 pc Oc sc g As) (hb : Below W.heap.size W W') : WhoIn W' w0 pc Oc sc g As :=
  ⟨h.c.below hb, fun k hk => by have := h.o k hk; have := hb.size; omega, fun hne => (h.row hne).below hb, h.below.trans (hb.mono h.below.size)⟩
/-- what is read -/
theorem read_both (f : Nat → OpR) (n : Nat) (O : Nat → Prop) (p : Nat) (st : DSt) (a m : Int) (w : World) (h : DiskIs O w p st) (ha : (Lit.int .u64 a).wf = true) (hm : (Lit.int .i64 m).wf = true) (hF : ∀ L s, st.F a m = some (L, s) → ∃ V, L = [V] ∧ WroteV f n a m V) :
    Calls Try.prog 28 #[.pointer (some ⟨p, 0, none⟩), .int .u64 a, .int .i64 m] w fun e w' => ∃ b8 nb c8 B is, e = .returned (.tuple #[.slice b8 nb c8, .bool is]) ∧ Ints w' .u8 (.slice b8 nb c8) B ∧ (∀ x ∈ B, 0 ≤ x ∧ x ≤ 255) ∧ nb ≤ c8 ∧ (is = false ∨ ∃ V, B = bytesI V ∧ WroteV f n a m V) ∧ Below w.heap.size w w' := by
  cases hq : st.F a m with
  | none =>
    refine (read_miss O p st a m w h ha hm hq).mono ?_
    rintro e w' ⟨rfl, hb⟩
    exact ⟨none, 0, 0, [], false, rfl, Ints.nil _ _, fun x hx => (nomatch hx), Nat.le_refl _, .inl rfl, hb⟩
  | some sec =>
    obtain ⟨L, s⟩ := sec
    obtain ⟨V, rfl, hV⟩ := hF L s hq
    have hgl : ([V] : List ByteArray).getLast (by simp) = V := rfl
    refine (read_there O p st a m [V] s w h ha hm hq (by simp) (by rw [hgl, hV.size]; omega)).mono ?_
    rintro e w' ⟨⟨v', rfl, hI, hc⟩, hb⟩
    rw [hgl] at hI
    obtain ⟨b8, c8, rfl⟩ := Ints.form hI
    have hlen : (bytesI V).length = 64 := by simp [bytesI]; exact hV.size
    refine ⟨b8, _, c8, bytesI V, true, rfl, hI, bytesI_by V, ?_, .inr ⟨V, rfl, hV⟩, hb⟩
    obtain ⟨_, ⟨h1, _⟩ | ⟨b, o, c', hv, _, _⟩⟩ := hI
    · rw [h1] at hlen; cases hlen
    · simp only [Value.slice.injEq] at hv
      obtain ⟨rfl, _, rfl⟩ := hv
      exact (hc b o _ _ rfl).2
set_option maxRecDepth 100000 in
set_option maxHeartbeats 8000000 in
theorem whole_law (v : Value) (n : Nat) (f : Nat → OpR) (vp : Value) (ps : List Int) (w : World) (h : OpsAre w v n f) (hI : Ints w .i64 vp ps) (hcap : CapV vp) (hps : ∀ y ∈ ps, (Lit.int .i64 y).wf = true) :
    Calls Try.prog 8 #[v, vp] w (TrueIn w) := by
  have hn := h.1
  obtain ⟨va, vc, rfl⟩ := Ints.form hI
  obtain ⟨a0, cap0, hv0, hel0⟩ := h.2
  subst hv0
  have hwr := wrote_run f 1073741824 n
  obtain ⟨st, hst⟩ : ∃ st, runS f 1073741824 n = st := ⟨_, rfl⟩
  rw [hst] at hwr
  have HW := Lib.hid hwr
  have HEL := Lib.hid hel0
  clear hwr hel0
  go_enter Try.func8, Try.ntmps8
  go_wp2_with fail
  refine (begun_any 1073741824 _ n f w h (by decide)).mono ?_
  rw [hst]
  rintro e w1 ⟨p, O, r, vr, q, rfl, D, hO, hF, hRel, hrow, hqo, hlen, hb1⟩
  obtain ⟨av, cv, hv⟩ := hrow.1.slice
  subst hv
  obtain ⟨nq, hnq⟩ : ∃ nq, q.length = nq := ⟨_, rfl⟩
  rw [hnq]
  obtain ⟨room1, steps, left, armed, dead, rl⟩ := r
  unfold diskR
  dsimp only
  obtain ⟨W2, hW2⟩ : ∃ W2, w1.alloc (.cells #[.int .i64 room1, .int .i64 steps, .int .i64 left, .bool armed, .bool dead, .slice av nq cv] 40) = W2 := ⟨_, rfl⟩
  have hb2 : Below w1.heap.size w1 W2 := by rw [← hW2]; exact (Below.refl _ _).alloc (Nat.le_refl _) _
  have hs1 := hb1.size
  have hs2 := hb2.size
  have D2 := D.below hb2
  have hO2 : ∀ k, O k → k < W2.heap.size := fun k hk => by have := hO k hk; omega
  have hbw := hb1.trans (hb2.mono hs1)
  have HBW := Lib.hid hbw
  have hcrash := crash_any O p st (.slice va ps.length vc) ps W2 D2 (hI.below hbw) hcap hps hO2 (by have := hF.C; omega) (fun a => by have := hF.N a; omega) (fun a' n' Lv sb e => by have := hF.V a' n' Lv sb e; omega) hF.room (fun la hla => by have := hF.sum la hla; omega)
  have hcr := crash_rel hRel hF.room ps
  obtain ⟨sc, hsc⟩ : ∃ sc, (crashF st (areasL st) (secsL st) ps).2 = sc := ⟨_, rfl⟩
  rw [hsc] at hcrash hcr
  have hwc : ∀ a m L s, sc.F a m = some (L, s) → ∃ V, L = [V] ∧ WroteV f n a m V := by
    intro a m L s e
    rw [hcr.1.F] at e
    obtain ⟨y, hy, e1, e2, e3⟩ := find_some e
    obtain ⟨x, hx, x1, x2, _, V, hV, hyL⟩ := crash_mem hy
    simp only [Prod.mk.injEq] at e3
    refine ⟨V, by rw [e3.1, hyL], ?_⟩
    have hf := find_mem hRel.srt hx
    rw [← hRel.F] at hf
    have := (HW.out _ _ _ _ hf).2 V hV
    rw [← x1, ← x2, e1, e2] at this
    exact this
  have hsm : ∀ a x s, sc.F a x = some s → 0 ≤ x ∧ x < 65536 := by
    intro a x s e
    rw [hcr.1.F] at e
    obtain ⟨y, hy, _, e2, _⟩ := find_some e
    have := (hcr.1.wf y hy).2
    rw [e2] at this; exact this
  have hC : sc.C ≤ 2932031007317 := by have := hcr.2; have := hlen; dsimp only at *; omega
  have HWC := Lib.hid hwc
  have HSM := Lib.hid hsm
  clear D hO hb1 hb2 hrow hqo hnq hbw hRel hcr hsc hwc hsm hF HW hI hcap hps hst
  go_wp2_with fail
  refine hcrash.mono ?_
  rintro e w4 ⟨pc, Oc, rfl, D4, hOc, hb4⟩
  have hs4 := hb4.size
  go_wp2_with fail
  refine (areas_any Oc pc sc w4 D4 (by omega)).mono ?_
  rintro e w5 ⟨vA, xs, rfl, ⟨hxs, hxl⟩, hSA, hb5⟩
  obtain ⟨As, hAs⟩ : ∃ As, QU.srt xs = As := ⟨_, rfl⟩
  have hAl : As.length ≤ 2932031007317 := by rw [← hAs, srtU_eq]; unfold QI.srt; rw [List.length_mergeSort]; omega
  have hAm : ∀ x ∈ As, (Lit.int .u64 x).wf = true := fun x hx => by
    rw [← hAs, srtU_eq] at hx
    exact hxs.2.1 x (srt_mem.1 hx)
  rw [hAs] at hSA
  obtain ⟨ad, cap, rfl, g, hg1, hg2⟩ := form_U hSA
  have hW5 : WhoIn w5 w pc Oc sc g As := ⟨D4.below hb5, fun k hk => by have := hOc k hk; have := hb5.size; omega, fun hne => (hg1 hne).2.2, (HBW.out.trans (hb4.mono (by omega))).trans (hb5.mono (by omega))⟩
  have HG1 := Lib.hid (fun hne => (hg1 hne).1)
  have HAM := Lib.hid hAm
  clear hcrash D4 hOc hb4 hxs hxl hSA hb5 hAs hAm hg1 D2 hO2 HBW hC
  go_wp2_with fail
  go_loopw [33] (fun x33 wr => ∃ i : Nat, x33 = .int .i64 i ∧ i ≤ As.length ∧ WhoIn wr w pc Oc sc g As) (fun x33 _ => As.length - (intOf x33).toNat)
  case atStart => exact ⟨0, rfl, Nat.zero_le _, hW5⟩
  case round =>
    clear hW5
    obtain ⟨i, rfl, hi, hA⟩ := hrel
    by_cases hlt : (i : Int) < (As.length : Int)
    · have hiA : i < As.length := by omega
      have hne : As ≠ [] := fun e => by rw [e] at hiA; cases hiA
      obtain rfl := HG1.out hne
      obtain ⟨a, haE⟩ : ∃ a, As[i]'hiA = a := ⟨_, rfl⟩
      have hawf := HAM.out a (by rw [← haE]; exact List.getElem_mem hiA)
      have hcell : wr.cell? ⟨g, i, none⟩ = some (.int .u64 a) := (hA.row hne).cell (by simpa using hiA) (by simp [getElem!_pos, hiA, haE])
      have hinext : IntKind.i64.wrap ((i : Int) + 1) = ((i + 1 : Nat) : Int) := IntWalk.i64_in _ (by omega)
      have i0 : (0 : Int) ≤ (i : Int) := by omega
      have HA := Lib.hid hA
      clear hA
      go_wp2_with fail
      refine (sectors_any Oc pc sc a wr HA.out.c HA.out.o hawf (fun x s e => HSM.out a x s e)).mono ?_
      rintro e w6 ⟨K, rfl, hK, hb6⟩
      have hk0 := hK.1
      have hk1 := hK.2.1
      have hA6 := HA.out.low hb6
      clear HA hb6 hK
      go_wp2_with fail
      go_loopw [40] (fun x40 wr => ∃ j : Nat, x40 = .int .i64 j ∧ (j : Int) ≤ K ∧ WhoIn wr w pc Oc sc g As) (fun x40 _ => (K - intOf x40).toNat)
      case atStart => exact ⟨0, rfl, hk0, hA6⟩
      case round =>
        clear hA6
        obtain ⟨j, rfl, hj, hA⟩ := hrel
        by_cases hjK : (j : Int) < K
        · have hwj : (Lit.int .i64 (j : Int)).wf = true := wf_small ⟨by omega, by omega⟩
          have hjnext : IntKind.i64.wrap ((j : Int) + 1) = ((j + 1 : Nat) : Int) := IntWalk.i64_in _ (by omega)
          have HA := Lib.hid hA
          clear hA
          go_wp2_with fail
          refine (read_both f n Oc pc sc a j wr HA.out.c hawf hwj (fun L s e => HWC.out a j L s e)).mono ?_
          rintro e w8 ⟨b8, nb, c8, B, is, rfl, hIB, hBy, hnc, hor, hb8⟩
          have hA8 := HA.out.low hb8
          clear HA hb8
          obtain ⟨fnd, hfnd⟩ : ∃ fnd, (!is) = fnd := ⟨_, rfl⟩
          have hor' : fnd = true ∨ ∃ V, B = bytesI V ∧ WroteV f n a j V := by
            rcases hor with h | h
            · left; rw [← hfnd, h]; rfl
            · exact .inr h
          go_wp2_with fail
          try rw [hfnd]
          have hFnd : FoundIn f n a j B fnd 0 := by
            rcases hor' with h | ⟨V, h1, h2⟩
            · exact .inl h
            · exact .inr ⟨V, h1, h2, fun q hq => absurd hq (Nat.not_lt_zero _)⟩
          have hs8 := hA8.below.size
          have hlenN : IntKind.i64.wrap (n : Int) = (n : Int) := IntWalk.i64_in _ (by omega)
          have HA8 := Lib.hid hA8
          have HIB := Lib.hid hIB
          have HBY := Lib.hid hBy
          clear hor hor' hA8 hIB hBy
          go_loopw [54, 14] (fun x54 x14 wr => ∃ (m : Nat) (fd : Bool), x54 = .int .i64 m ∧ x14 = .bool fd ∧ m ≤ n ∧ Below w8.heap.size w8 wr ∧ FoundIn f n a j B fd m) (fun x54 _ _ => n - (intOf x54).toNat)
          case atStart => exact ⟨0, fnd, rfl, by first | rfl | rw [hfnd], Nat.zero_le _, Below.refl _ _, hFnd⟩
          case round =>
            clear hFnd
            obtain ⟨m, fd, rfl, rfl, hm, hbr, hFnd⟩ := hrel
            have hbr8 := hbr.size
            by_cases hmn : (m : Int) < (n : Int)
            · have hmN : m < n := by omega
              obtain ⟨b, o, rfl, hb, hc0, hc1, hc2, hc3, hok⟩ := HEL.out m hmN
              have hbw := HA8.out.below.trans (hbr.mono hs8)
              have hc0' : wr.cell? ⟨b, o + m * 4, none⟩ = some (.int .i64 (f m).k) := (hbw.cell (p := ⟨b, o + m * 4, none⟩) hb).trans hc0
              have hc1' : wr.cell? ⟨b, o + m * 4 + 1, none⟩ = some (.int .u64 (f m).a) := (hbw.cell (p := ⟨b, o + m * 4 + 1, none⟩) hb).trans hc1
              have hc2' : wr.cell? ⟨b, o + m * 4 + 2, none⟩ = some (.int .i64 (f m).n) := (hbw.cell (p := ⟨b, o + m * 4 + 2, none⟩) hb).trans hc2
              have hc3' : wr.cell? ⟨b, o + m * 4 + 3, none⟩ = some (f m).v := (hbw.cell (p := ⟨b, o + m * 4 + 3, none⟩) hb).trans hc3
              have hok' : OpOk wr (f m) := hok.below hbw
              obtain ⟨x, hx⟩ : ∃ x, f m = x := ⟨_, rfl⟩
              rw [hx] at hc0' hc1' hc2' hc3' hok'
              obtain ⟨k, a2, m2, vb, l⟩ := x
              simp only at hc0' hc1' hc2' hc3'
              obtain ⟨va2, vc2, hve⟩ := Ints.form hok'.ints
              simp only at hve
              obtain ⟨vl, hvl⟩ : ∃ vl, l.length = vl := ⟨_, rfl⟩
              rw [hvl] at hve
              subst hve
              clear hc0 hc1 hc2 hc3
              obtain ⟨Z, hZ⟩ : ∃ Z, wr.heap.size = Z := ⟨_, rfl⟩
              obtain ⟨W1, hW1⟩ : ∃ W1, wr.alloc (.cells #[.int .i64 k, .int .u64 a2, .int .i64 m2, .slice va2 vl vc2] 30) = W1 := ⟨_, rfl⟩
              have hb1 : Below wr.heap.size wr W1 := by rw [← hW1]; exact (Below.refl _ _).alloc (Nat.le_refl _) _
              have hBk : Blk W1 Z 30 #[.int .i64 k, .int .u64 a2, .int .i64 m2, .slice va2 vl vc2] := by rw [← hW1, ← hZ]; exact Blk.alloc_new _ _ _
              obtain ⟨y0, y1, y2, y3⟩ := blk4 hBk
              have hbr1 := hbr.trans (hb1.mono hbr8)
              have hIB1 := HIB.out.below hbr1
              have hIl1 := hok'.ints.below hb1
              have hby := hok'.bytes
              simp only at hIl1 hby
              have hnB : nb = B.length := by
                obtain ⟨_, _, e⟩ := Ints.form hIB1
                simp only [Value.slice.injEq] at e; exact e.2.1
              have hmnext : IntKind.i64.wrap ((m : Int) + 1) = ((m + 1 : Nat) : Int) := IntWalk.i64_in _ (by omega)
              have m0 : (0 : Int) ≤ (m : Int) := by omega
              have HFn := Lib.hid hFnd
              have HBR1 := Lib.hid (show ∀ q, Below w8.heap.size w8 (W1.drewN q) from fun q => below_drewN hbr1 q)
              have HXE := Lib.hid hx
              have HVL := Lib.hid hvl
              have HNB := Lib.hid hnB
              have HBYL := Lib.hid hby
              have hconv2 : ∀ q, (convert 28 9 (.slice va2 vl vc2)).run Try.prog (W1.drewN q) = .ok (.string (strB l)) (W1.drewN q) := fun q => conv_bytes (hIl1.below (below_drewN (Below.refl _ _) q)) hby
              have hconv1 : vl ≤ nb → ∀ q, (convert 28 9 (.slice b8 vl c8)).run Try.prog (W1.drewN q) = .ok (.string (strB (B.take vl))) (W1.drewN q) := fun hle q =>
                conv_bytes ((ints_first hIB1 vl (by omega)).below (below_drewN (Below.refl _ _) q)) (fun x hx => HBY.out x (List.mem_of_mem_take hx))
              have HC1 := Lib.hid hconv1
              clear hFnd hx hok' hok hbw hbr hb1 hbr1 hIB1 hIl1 hby hnB hconv1 hvl
              by_cases hk : k = 0
              · subst hk
                by_cases ha2 : a2 = a
                · subst ha2
                  by_cases hm2 : m2 = (j : Int)
                  · subst hm2
                    by_cases hle : (vl : Int) ≤ (nb : Int)
                    · have hconv1 := HC1.out (by omega)
                      have hvc : (vl : Int) ≤ (c8 : Int) := by omega
                      have v0 : (0 : Int) ≤ (vl : Int) := by omega
                      obtain ⟨S1, hS1⟩ : ∃ S1, strB (B.take vl) = S1 := ⟨_, rfl⟩
                      obtain ⟨S2, hS2⟩ : ∃ S2, strB l = S2 := ⟨_, rfl⟩
                      rw [hS1] at hconv1
                      rw [hS2] at hconv2
                      by_cases hSe : S1 = S2
                      · subst hSe
                        clear hS1 hS2
                        go_wp2_with fail
                        go_quiet (fail)
                        go_wp2_with fail
                        exact ⟨⟨m + 1, true, by first | rfl | congr 1, rfl, by omega, HBR1.out _, .inl rfl⟩, by simp [intOf]; omega⟩
                      · have hbe : (S1.toList == S2.toList) = false := by
                          rw [beq_eq_false_iff_ne, ByteArray.toList_eq, ByteArray.toList_eq]
                          intro e; exact hSe (congrArg ByteArray.mk (Array.toList_inj.1 e))
                        have HNE := Lib.hid (show strB (B.take vl) ≠ strB l by rw [hS1, hS2]; exact hSe)
                        clear hS1 hS2 hSe
                        go_wp2_with fail
                        go_quiet (fail)
                        go_wp2_with fail
                        exact ⟨⟨m + 1, fd, by first | rfl | congr 1, rfl, by omega, HBR1.out _, HFn.out.next (fun V hV hm => by
                          have := hm.2.2.2; rw [HXE.out] at this; have h1 := this.1; have h2 := HVL.out; (try dsimp only at h1 this)
                          refine HNE.out ?_
                          rw [hV, h1, ← h2, whole_first HBYL.out])⟩, by simp [intOf]; omega⟩
                    · have hdl : decide (vl ≤ nb) = false := decide_eq_false (by omega)
                      go_wp2_with fail
                      go_quiet (fail)
                      go_wp2_with fail
                      exact ⟨⟨m + 1, fd, by first | rfl | congr 1, rfl, by omega, HBR1.out _, HFn.out.next (fun V hV hm => by have := hm.2.2.2; rw [HXE.out] at this; have h1 := this.1; have h2 := HVL.out; have h3 := HNB.out; rw [hV, h1] at h3; simp [bytesI, whole_size this.2] at h3; have := this.2; dsimp only at this; omega)⟩, by simp [intOf]; omega⟩
                  · have hb2 : (m2 == (j : Int)) = false := by simp [hm2]
                    go_wp2_with fail
                    go_quiet (fail)
                    go_wp2_with fail
                    exact ⟨⟨m + 1, fd, by first | rfl | congr 1, rfl, by omega, HBR1.out _, HFn.out.next (fun V hV hm => by have := hm.2.2.1; rw [HXE.out] at this; exact hm2 this)⟩, by simp [intOf]; omega⟩
                · have hb2 : (a2 == a) = false := by simp [ha2]
                  go_wp2_with fail
                  go_quiet (fail)
                  go_wp2_with fail
                  exact ⟨⟨m + 1, fd, by first | rfl | congr 1, rfl, by omega, HBR1.out _, HFn.out.next (fun V hV hm => by have := hm.2.1; rw [HXE.out] at this; exact ha2 this)⟩, by simp [intOf]; omega⟩
              · have hb2 : (k == 0) = false := by simp [hk]
                go_wp2_with fail
                go_quiet (fail)
                go_wp2_with fail
                exact ⟨⟨m + 1, fd, by first | rfl | congr 1, rfl, by omega, HBR1.out _, HFn.out.next (fun V hV hm => by have := hm.1; rw [HXE.out] at this; exact hk this)⟩, by simp [intOf]; omega⟩
            · have hme : m = n := by omega
              subst hme
              obtain rfl := hFnd.done
              have hA9 := HA8.out.low hbr
              go_wp2_with fail
              exact ⟨⟨j + 1, by first | rfl | congr 1, by omega, hA9⟩, by simp [intOf]; omega⟩
        · go_wp2_with fail
          exact ⟨⟨i + 1, by first | rfl | congr 1, by omega, hA⟩, by simp [intOf]; omega⟩
    · go_wp2_with fail
      go_ret
      exact ⟨rfl, hA.below⟩
end Go.Proofs.Yteidmneenfdafaa.R
