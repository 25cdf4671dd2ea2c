/-
  stands: a disk tells what the document says.
-/
import Derived.Test.YteidmneenfdafaaRefTell
import Derived.Test.YteidmneenfdafaaDskCrash
import Derived.Test.YteidmneenfdafaaDskSect
import Derived.Test.YteidmneenfdafaaDskFull
import Derived.BigQuiet
import Derived.Deep.RegionHeld3
namespace Go.Proofs.Yteidmneenfdafaa.R
open Go.RowKit
open Aid K
set_option linter.unusedSimpArgs false
set_option linter.unusedVariables false

theorem step_below {p : Prop} {wa wc wz : World} (h : p ∧ Below wa.heap.size wa wc) (hb : Below wc.heap.size wc wz) : Below wa.heap.size wa wz := h.2.trans (hb.mono h.2.size)
theorem drew_step {p : Prop} {wa wc : World} (h : p ∧ Below wa.heap.size wa wc) : Below wa.heap.size wa wc.drew := h.2.drew
/-- what a test of a disk knows -/
structure StIn (w0 : World) (p B g : Nat) (O : Nat → Prop) (st : DSt) (r : RSt) (v : Value) (q : List (RSec × Value)) (As : List Int) (vb : Value) (W : World) : Prop where
  d : DiskIs O W p st
  o : ∀ k, O k → k < W.heap.size
  row : RDisk W v r q
  rowA : As ≠ [] → QU.Row W g As.toArray
  ib : Ints W .u64 vb As
  bB : Blk W B 40 (diskR r v)
  below : Below w0.heap.size w0 W
theorem StIn.low {w0 W W' : World} {p B g : Nat} {O : Nat → Prop} {st : DSt} {r : RSt} {v : Value} {q : List (RSec × Value)} {As : List Int} {vb : Value} (h : StIn w0 p B g O st r v q As vb W) (hb : Below W.heap.size W W') : StIn w0 p B g O st r v q As vb W' :=
  ⟨h.d.below hb, fun k hk => by have := h.o k hk; have := hb.size; omega, ⟨h.row.1.below hb, h.row.2⟩, fun hne => (h.rowA hne).below hb, h.ib.below hb, h.bB.below hb (Blk.lt h.bB), h.below.trans (hb.mono h.below.size)⟩
/-- a disk whose versions are sectors -/
def FullV (st : DSt) : Prop := ∀ a m L s, st.F a m = some (L, s) → L ≠ [] ∧ (L.getLastD ByteArray.empty).size = 64
/-- what is read of a disk -/
def ReadOut (st : DSt) (a m : Int) (w' : World) (vx : Value) (is : Bool) : Prop :=
  is = (st.F a m).isSome ∧ ∃ b n c, vx = .slice b n c ∧ (convert 28 9 (.slice b n c)).run Try.prog w' = .ok (.string (((st.F a m).map fun s => s.1.getLastD ByteArray.empty).getD ByteArray.empty)) w'
theorem read_out (O : Nat → Prop) (p : Nat) (st : DSt) (a m : Int) (w : World) (h : DiskIs O w p st) (ha : (Lit.int .u64 a).wf = true) (hm : (Lit.int .i64 m).wf = true) (hV : FullV st) :
    Calls Try.prog 28 #[.pointer (some ⟨p, 0, none⟩), .int .u64 a, .int .i64 m] w fun e w' => ∃ b n c, e = .returned (.tuple #[.slice b n c, .bool (st.F a m).isSome]) ∧
      (∀ w2, Below w'.heap.size w' w2 → (convert 28 9 (.slice b n c)).run Try.prog w2 = .ok (.string (((st.F a m).map fun s => s.1.getLastD ByteArray.empty).getD ByteArray.empty)) w2) ∧ Below w.heap.size w w' := by
  cases hq : st.F a m with
  | none =>
    refine (read_miss O p st a m w h ha hm hq).mono ?_
    rintro e w' ⟨rfl, hb⟩
    exact ⟨none, 0, 0, rfl, fun w2 _ => conv_nil w2, hb⟩
  | some sec =>
    obtain ⟨L, s⟩ := sec
    obtain ⟨hne, h64⟩ := hV a m L s hq
    have hgl : L.getLast hne = L.getLastD ByteArray.empty := by rw [List.getLastD_eq_getLast?, List.getLast?_eq_some_getLast hne]; rfl
    refine (read_there O p st a m L s w h ha hm hq hne (by rw [hgl]; omega)).mono ?_
    rintro e w' ⟨⟨v', rfl, hI, hc⟩, hb⟩
    rw [hgl] at hI
    obtain ⟨b8, c8, rfl⟩ := Ints.form hI
    exact ⟨b8, _, c8, rfl, fun w2 hb2 => (conv_ints (hI.below hb2) (by omega)).2, hb⟩
set_option maxRecDepth 100000 in
set_option maxHeartbeats 8000000 in
theorem stands_any (O : Nat → Prop) (p : Nat) (st : DSt) (r : RSt) (v : Value) (q : List (RSec × Value)) (w : World) (D : DiskIs O w p st) (hO : ∀ k, O k → k < w.heap.size) (hRel : RelD st r) (hrow : RDisk w v r q) (hC : st.C ≤ 4398046511104) (hV : FullV st) :
    Calls Try.prog 21 #[.pointer (some ⟨p, 0, none⟩), .agg (diskR r v)] w (TrueIn w) := by
  obtain ⟨av, cv, rfl⟩ := hrow.1.slice
  have hql := hrow.2
  have hRoom := hRel.room
  have hSteps := hRel.steps
  have hDead := hRel.dead
  obtain ⟨room, steps, left, armed, dead, l⟩ := r
  dsimp only at hRoom hSteps hDead
  obtain ⟨nk, hnk⟩ : ∃ nk, q.length = nk := ⟨_, rfl⟩
  rw [hnk] at hrow ⊢
  obtain ⟨W1, hW1⟩ : ∃ W1, w.alloc (.cells #[.int .i64 room, .int .i64 steps, .int .i64 left, .bool armed, .bool dead, .slice av nk cv] 40) = W1 := ⟨_, rfl⟩
  obtain ⟨B, hB⟩ : ∃ B, w.heap.size = B := ⟨_, rfl⟩
  have hb1 : Below w.heap.size w W1 := by rw [← hW1]; exact (Below.refl _ _).alloc (Nat.le_refl _) _
  have hs1 := hb1.size
  have hblk : Blk W1 B 40 (diskR ⟨room, steps, left, armed, dead, l⟩ (.slice av nk cv)) := by rw [← hW1, ← hB]; exact Blk.alloc_new _ _ _
  have hAs := areas_eq hRel
  have HREL := Lib.hid hRel
  have HBK := Lib.hid hblk
  have HROW := Lib.hid (show RDisk W1 (.slice av nk cv) ⟨room, steps, left, armed, dead, l⟩ q from ⟨hrow.1.below hb1, hrow.2⟩)
  have HNK := Lib.hid hnk
  have HB1 := Lib.hid hb1
  have HV := Lib.hid hV
  have D1 := D.below hb1
  have hO1 : ∀ k, O k → k < W1.heap.size := fun k hk => by have := hO k hk; omega
  unfold diskR
  dsimp only
  clear hRel hblk hrow hnk D hO hb1 hs1 hV hRoom hSteps hDead hql
  go_enter Try.func21, Try.ntmps21
  go_wp2_with fail
  try rw [hB]
  try rw [hW1]
  refine (areas_any O p st W1 D1 hC).mono ?_
  rintro e w2 ⟨vA, xs, rfl, ⟨hxs, hxl⟩, hSA, hb2⟩
  have hAe : QU.srt xs = areasR l := by rw [srtU_eq, areasL_eq hxs]; exact hAs
  rw [hAe] at hSA
  obtain ⟨As, hAsE⟩ : ∃ As, areasR l = As := ⟨_, rfl⟩
  rw [hAsE] at hSA
  have hwf : ∀ a ∈ As, (Lit.int .u64 a).wf = true := fun a ha => by
    rw [← hAsE] at ha
    obtain ⟨s, hs, rfl⟩ := areas_mem.1 ha
    exact (HREL.out.wf s hs).1
  have hAl : As.length ≤ 2932031007390 := by
    rw [← hAsE]
    have := areas_len (l := l)
    have h2 := HROW.out.2
    have h3 := HROW.out.1.len
    dsimp only at h2
    have h4 : l.length = q.length := by rw [← h2, List.length_map]
    omega
  obtain ⟨ad, cap, rfl, g, hg1, hg2⟩ := form_U hSA
  obtain ⟨d0, d1, d2, d3, d4, d5⟩ := blk6 (HBK.out.below hb2 (Blk.lt HBK.out))
  have hra := rareas_any ⟨room, steps, left, armed, dead, l⟩ (.slice av nk cv) q w2 (HROW.out.1.below hb2)
  rw [HROW.out.2] at hra
  dsimp only at hra
  rw [areaG_eq (l := l) HREL.out.srt, hAsE] at hra
  unfold diskR at hra
  dsimp only at hra
  have HRA := Lib.hid hra
  have HB2 := Lib.hid hb2
  have HG1 := Lib.hid hg1
  have HWF := Lib.hid hwf
  have hs2 := hb2.size
  clear hra hb2 hg1 hwf hSA hxs hxl hAe hAs hAsE hg2
  go_wp2_with fail
  refine HRA.out.mono ?_
  rintro e w3 ⟨vb, rfl, hIb, hb3⟩
  obtain ⟨ab, cb, rfl⟩ := Ints.form hIb
  have hB13 := HB2.out.trans (hb3.mono hs2)
  have hS : StIn w p B g O st ⟨room, steps, left, armed, dead, l⟩ (.slice av nk cv) q As (.slice ab As.length cb) w3 := by
    refine ⟨(D1.below HB2.out).below hb3, fun k hk => ?_, ?_, fun hne => (HG1.out hne).2.2.below hb3, hIb, ?_, HB1.out.trans (hB13.mono HB1.out.size)⟩
    · have := hO1 k hk; have := hB13.size; omega
    · exact ⟨HROW.out.1.below hB13, HROW.out.2⟩
    · exact HBK.out.below hB13 (Blk.lt HBK.out)
  have HG2 := Lib.hid (fun hne => (HG1.out hne).1)
  obtain ⟨d0, d1, d2, d3, d4, d5⟩ := blk6 hS.bB
  have hsr := hS.d
  have HS := Lib.hid hS
  have e1 := HREL.out.room
  have e2 := HREL.out.steps
  have e3 := HREL.out.dead
  dsimp only at e1 e2 e3
  subst e1 e2 e3
  clear hS hIb hb3 hB13 HRA HB2 HG1 D1 hO1 HBK HROW
  go_wp2_with fail
  go_quiet (first
    | (go_at_call 18; exact Calls.quiet_of_same (room_any O p st _ (hsr.drew _)))
    | (go_at_call 16; exact Calls.quiet_of_same (steps_any O p st _ (hsr.drew _)))
    | (go_at_call 15; exact Calls.quiet_of_same (dead_any O p st _ (hsr.drew _))))
  obtain ⟨w4, hw4⟩ : ∃ w4, w3.drewN nq = w4 := ⟨_, rfl⟩
  have hb4 : Below w3.heap.size w3 w4 := by rw [← hw4]; exact below_drewN (Below.refl _ _) nq
  rw [hw4]
  have hS4 := HS.out.low hb4
  clear hw4 hb4 HS hsr d0 d1 d2 d3 d4 d5
  go_wp2_with fail
  go_loopw [49] (fun x49 wr => ∃ i : Nat, x49 = .int .i64 i ∧ i ≤ As.length ∧ StIn w p B g O st ⟨st.room, st.steps, left, armed, st.dead, l⟩ (.slice av nk cv) q As (.slice ab As.length cb) wr) (fun x49 _ => As.length - (intOf x49).toNat)
  case atStart => exact ⟨0, rfl, Nat.zero_le _, hS4⟩
  case round =>
    clear hS4
    obtain ⟨i, rfl, hi, hS⟩ := hrel
    rename World => wa
    by_cases hlt : (i : Int) < (As.length : Int)
    · have hiA : i < As.length := by omega
      have hne : As ≠ [] := fun e => by rw [e] at hiA; cases hiA
      obtain rfl := HG2.out hne
      obtain ⟨a, haE⟩ : ∃ a, As.getD i 0 = a := ⟨_, rfl⟩
      have haG : As[i]'hiA = a := by rw [← haE, List.getD_eq_getElem?_getD, List.getElem?_eq_getElem hiA]; rfl
      have hawf := HWF.out a (by rw [← haG]; exact List.getElem_mem hiA)
      have hcA : wa.cell? ⟨g, i, none⟩ = some (.int .u64 a) := (hS.rowA hne).cell (by simpa using hiA) (by simp [getElem!_pos, hiA, haG])
      obtain ⟨gb, ob, rfl, hgb, hcB⟩ := hS.ib.at_ (k := i) hiA haE
      have hinext : IntKind.i64.wrap ((i : Int) + 1) = ((i + 1 : Nat) : Int) := IntWalk.i64_in _ (by omega)
      have i0 : (0 : Int) ≤ (i : Int) := by omega
      have hgA : g < wa.heap.size := (hS.rowA hne).lt
      have hgB := Blk.lt hS.bB
      obtain ⟨d0, d1, d2, d3, d4, d5⟩ := blk6 hS.bB
      have hall : ∀ w', Below wa.heap.size wa w' → Below wa.heap.size wa w' ∧ w'.cell? ⟨g, i, none⟩ = some (.int .u64 a) ∧ w'.cell? ⟨gb, ob + i, none⟩ = some (.int .u64 a) ∧ w'.cell? ⟨B, 0, none⟩ = some (.int .i64 st.room) ∧ w'.cell? ⟨B, 1, none⟩ = some (.int .i64 st.steps) ∧ w'.cell? ⟨B, 2, none⟩ = some (.int .i64 left) ∧ w'.cell? ⟨B, 3, none⟩ = some (.bool armed) ∧ w'.cell? ⟨B, 4, none⟩ = some (.bool st.dead) ∧ w'.cell? ⟨B, 5, none⟩ = some (.slice av nk cv) := fun w' hb =>
        ⟨hb, (hb.cell (p := ⟨g, i, none⟩) hgA).trans hcA, (hb.cell (p := ⟨gb, ob + i, none⟩) hgb).trans hcB, (hb.cell (p := ⟨B, 0, none⟩) hgB).trans d0, (hb.cell (p := ⟨B, 1, none⟩) hgB).trans d1, (hb.cell (p := ⟨B, 2, none⟩) hgB).trans d2, (hb.cell (p := ⟨B, 3, none⟩) hgB).trans d3, (hb.cell (p := ⟨B, 4, none⟩) hgB).trans d4, (hb.cell (p := ⟨B, 5, none⟩) hgB).trans d5⟩
      obtain ⟨K, hKe⟩ : ∃ K, sectR l a = K := ⟨_, rfl⟩
      have hKi : SectIs st a K := by rw [← hKe]; exact sect_is HREL.out a
      have hds : ∀ w', Below wa.heap.size wa w' → Calls Try.prog 27 #[.pointer (some ⟨p, 0, none⟩), .int .u64 a] w' fun e w'' => e = .returned (.int .i64 K) ∧ Below w'.heap.size w' w'' := fun w' hb =>
        (sectors_any O p st a w' (hS.d.below hb) (fun k hk => by have := hS.o k hk; have := hb.size; omega) hawf (fun x s e => by
          rw [HREL.out.F] at e
          obtain ⟨y, hy, _, e2, _⟩ := find_some e
          have := (HREL.out.wf y hy).2
          rw [e2] at this; exact this)).mono fun e w'' ⟨K', h1, h2, h3⟩ => ⟨by rw [h1, SectIs.one h2 hKi (fun x => rfl)], h3⟩
      have hrs : ∀ w', Below wa.heap.size wa w' → Calls Try.prog 34 #[.agg #[.int .i64 st.room, .int .i64 st.steps, .int .i64 left, .bool armed, .bool st.dead, .slice av nk cv], .int .u64 a] w' fun e w'' => e = .returned (.int .i64 K) ∧ Below w'.heap.size w' w'' := fun w' hb =>
        (rsectors_any ⟨st.room, st.steps, left, armed, st.dead, l⟩ (.slice av nk cv) q a w' (hS.row.1.below hb) (fun x hx => by
          have hm : x.1 ∈ l := by have := hS.row.2; dsimp only at this; rw [← this]; exact List.mem_map.2 ⟨x, hx, rfl⟩
          exact (HREL.out.wf x.1 hm).2)).mono fun e w'' ⟨h1, h2⟩ => ⟨by have := hS.row.2; dsimp only at this; rw [h1, this, hKe], h2⟩
      have HS := Lib.hid hS
      have HALL := Lib.hid hall
      have HAE := Lib.hid haE
      have HDS := Lib.hid hds
      have HRS := Lib.hid hrs
      have hS0 := hall wa (Below.refl _ _)
      have hK0 := hKi.1
      have hK1 := hKi.2.1
      clear hS haE haG hall hds hrs hKi hKe
      go_wp2_with fail
      go_region_held3 (fun w' => Below wa.heap.size wa w' ∧ w'.cell? ⟨g, i, none⟩ = some (.int .u64 a) ∧ w'.cell? ⟨gb, ob + i, none⟩ = some (.int .u64 a) ∧ w'.cell? ⟨B, 0, none⟩ = some (.int .i64 st.room) ∧ w'.cell? ⟨B, 1, none⟩ = some (.int .i64 st.steps) ∧ w'.cell? ⟨B, 2, none⟩ = some (.int .i64 left) ∧ w'.cell? ⟨B, 3, none⟩ = some (.bool armed) ∧ w'.cell? ⟨B, 4, none⟩ = some (.bool st.dead) ∧ w'.cell? ⟨B, 5, none⟩ = some (.slice av nk cv)) (first | assumption | (exact HALL.out _ (Below.drew (And.left (by assumption)))) | (exact HALL.out _ (by assumption))) (first
        | (go_at_call 27; refine (HDS.out _ (And.left (by assumption))).mono ?_; rintro e wz ⟨rfl, hbz⟩; have hz := (And.left (by assumption) : Below wa.heap.size wa _).trans (hbz.mono (And.left (by assumption) : Below wa.heap.size wa _).size))
        | (go_at_call 34; refine (HRS.out _ (And.left (by assumption))).mono ?_; rintro e wz ⟨rfl, hbz⟩; have hz := (And.left (by assumption) : Below wa.heap.size wa _).trans (hbz.mono (And.left (by assumption) : Below wa.heap.size wa _).size)))
      all_goals
        clear hS0 hcA hcB d0 d1 d2 d3 d4 d5
        try clear hS1
        go_wp2_with fail
        go_loopw [8] (fun x8 w2 => ∃ n : Int, x8 = .int .i64 n ∧ -1 ≤ n ∧ n ≤ 41 ∧ Below wa.heap.size wa w2) (fun x8 _ => (41 - intOf x8).toNat)
        case atStart => exact ⟨-1, rfl, by omega, by omega, hz⟩
        case round =>
          clear hz
          obtain ⟨n, rfl, hn0, hn1, hb⟩ := hrel
          obtain ⟨_, hcA, hcB, d0, d1, d2, d3, d4, d5⟩ := HALL.out _ hb
          have HB := Lib.hid hb
          clear hb
          go_wp2_with fail
          refine (HDS.out _ HB.out).mono ?_
          rintro e w10 ⟨rfl, hb10⟩
          have hb := HB.out.trans (hb10.mono HB.out.size)
          have HB := Lib.hid hb
          clear hb hb10 hcA hcB d0 d1 d2 d3 d4 d5
          obtain ⟨_, hcA, hcB, d0, d1, d2, d3, d4, d5⟩ := HALL.out _ HB.out
          have hwn : (Lit.int .i64 n).wf = true := by simp [Lit.wf, IntKind.min, IntKind.max, IntKind.signed, IntKind.bits]; omega
          have hnext : IntKind.i64.wrap (n + 1) = n + 1 := IntWalk.i64_in _ (by omega)
          obtain ⟨I, hI⟩ : ∃ I, (st.F a n).isSome = I := ⟨_, rfl⟩
          obtain ⟨Sx, hSx⟩ : ∃ Sx, ((st.F a n).map fun s => s.1.getLastD ByteArray.empty).getD ByteArray.empty = Sx := ⟨_, rfl⟩
          have hrd : ∀ w', Below wa.heap.size wa w' → Calls Try.prog 35 #[.agg #[.int .i64 st.room, .int .i64 st.steps, .int .i64 left, .bool armed, .bool st.dead, .slice av nk cv], .int .u64 a, .int .i64 n] w' fun e w'' => e = .returned (.tuple #[.string Sx, .bool I]) ∧ Below w'.heap.size w' w'' := fun w' hb => by
            have := rread_any ⟨st.room, st.steps, left, armed, st.dead, l⟩ (.slice av nk cv) q a n w' ⟨HS.out.row.1.below hb, HS.out.row.2⟩ HREL.out.srt
            have hF := HREL.out.F a n
            dsimp only at this hF
            rw [← hF, hI, hSx] at this
            exact this
          have hdr := read_out O p st a n _ (HS.out.d.below HB.out) hawf hwn HV.out
          rw [hI, hSx] at hdr
          have HRD := Lib.hid hrd
          have HDR := Lib.hid hdr
          clear hrd hdr hI hSx
          obtain ⟨mn, hmn⟩ : ∃ mn, (if (40 : Int) < K then 40 else K) = mn := ⟨_, rfl⟩
          have hm40 : mn ≤ 40 := by rw [← hmn]; split <;> omega
          by_cases hle : n ≤ mn
          · go_wp2_with fail
            refine HDR.out.mono ?_
            rintro e w11 ⟨b8, n8, c8, rfl, hconv, hb11⟩
            have hb := HB.out.trans (hb11.mono HB.out.size)
            have HC := Lib.hid hconv
            have HB11 := Lib.hid hb
            have hS1 := HALL.out _ hb
            have hz11 : wa.heap.size ≤ w11.heap.size := hb.size
            clear hconv hb hb11 hcA hcB d0 d1 d2 d3 d4 d5 HDR
            have hS2 : Below w11.heap.size w11 w11 ∧ w11.cell? ⟨g, i, none⟩ = some (.int .u64 a) ∧ w11.cell? ⟨gb, ob + i, none⟩ = some (.int .u64 a) ∧ w11.cell? ⟨B, 0, none⟩ = some (.int .i64 st.room) ∧ w11.cell? ⟨B, 1, none⟩ = some (.int .i64 st.steps) ∧ w11.cell? ⟨B, 2, none⟩ = some (.int .i64 left) ∧ w11.cell? ⟨B, 3, none⟩ = some (.bool armed) ∧ w11.cell? ⟨B, 4, none⟩ = some (.bool st.dead) ∧ w11.cell? ⟨B, 5, none⟩ = some (.slice av nk cv) := ⟨Below.refl _ _, hS1.2⟩
            clear hS1
            go_wp2_with fail
            go_region_held3 (fun w' => Below w11.heap.size w11 w' ∧ w'.cell? ⟨g, i, none⟩ = some (.int .u64 a) ∧ w'.cell? ⟨gb, ob + i, none⟩ = some (.int .u64 a) ∧ w'.cell? ⟨B, 0, none⟩ = some (.int .i64 st.room) ∧ w'.cell? ⟨B, 1, none⟩ = some (.int .i64 st.steps) ∧ w'.cell? ⟨B, 2, none⟩ = some (.int .i64 left) ∧ w'.cell? ⟨B, 3, none⟩ = some (.bool armed) ∧ w'.cell? ⟨B, 4, none⟩ = some (.bool st.dead) ∧ w'.cell? ⟨B, 5, none⟩ = some (.slice av nk cv)) (first | assumption | (exact ⟨Below.drew (And.left (by assumption)), (HALL.out _ (HB11.out.trans ((Below.drew (And.left (by assumption))).mono hz11))).2⟩) | (exact ⟨by assumption, (HALL.out _ (HB11.out.trans (Below.mono (by assumption) hz11))).2⟩)) (first
              | (go_at_call 35; refine (HRD.out _ (HB11.out.trans (Below.mono (And.left (by assumption)) hz11))).mono ?_; rintro e wz ⟨rfl, hbz⟩; have hz := (And.left (by assumption) : Below w11.heap.size w11 _).trans (hbz.mono (And.left (by assumption) : Below w11.heap.size w11 _).size)))
            have hbf := HB11.out.trans (hz.mono hz11)
            have hc := HC.out _ hz
            have HBF := Lib.hid hbf
            have hcall := HALL.out _ hbf
            clear hbf hS2 hz
            obtain ⟨_, hcA, hcB, d0, d1, d2, d3, d4, d5⟩ := hcall
            go_wp2_with fail
            exact ⟨⟨n + 1, rfl, by omega, by omega, HBF.out⟩, by simp [intOf]; omega⟩
          · have hSf := HS.out.low HB.out
            clear HDR HRD HDS HRS HALL HS HB hcA hcB d0 d1 d2 d3 d4 d5
            go_wp2_with fail
            refine ⟨⟨i + 1, ?_, by omega, hSf⟩, ?_⟩
            · first | rfl | congr 1
            · simp [intOf]; omega
    · have hgB := Blk.lt hS.bB
      have hnkl : nk ≤ 2932031007390 := by have := hS.row.1.len; have := HNK.out; omega
      obtain ⟨d0, d1, d2, d3, d4, d5⟩ := blk6 hS.bB
      have HS := Lib.hid hS
      clear hS
      go_wp2_with fail
      clear d0 d1 d2 d3 d4 d5
      go_loopw [120] (fun x120 w2 => ∃ j : Nat, x120 = .int .i64 j ∧ j ≤ nk ∧ Below wa.heap.size wa w2) (fun x120 _ => nk - (intOf x120).toNat)
      case atStart => exact ⟨0, rfl, Nat.zero_le _, Below.refl _ _⟩
      case round =>
        obtain ⟨j, rfl, hj, hb⟩ := hrel
        by_cases hlt : (j : Int) < (nk : Int)
        · obtain ⟨x, hx⟩ : ∃ x, q[j]? = some x := ⟨_, List.getElem?_eq_getElem (by have := HNK.out; omega)⟩
          have hrow : RowIs wr (.slice av nk cv) q := HS.out.row.1.below hb
          obtain ⟨gq, rfl, hgq, k0, k1, k2, k3⟩ := hrow.at_ hx
          have hsec := hrow.secs x (List.mem_of_getElem? hx)
          have hsec' := hsec
          obtain ⟨⟨_, xa, xc, hxu, _⟩, _⟩ := hsec'
          rw [hxu] at k2
          have hm : x.1 ∈ l := by have := HS.out.row.2; dsimp only at this; rw [← this]; exact List.mem_map.2 ⟨x, List.mem_of_getElem? hx, rfl⟩
          have hxwf := HREL.out.wf x.1 hm
          have hF := find_mem HREL.out.srt hm
          rw [← HREL.out.F] at hF
          obtain ⟨X, hX⟩ : ∃ X, x.1.area = X := ⟨_, rfl⟩
          obtain ⟨Y, hY⟩ : ∃ Y, x.1.n = Y := ⟨_, rfl⟩
          obtain ⟨Z, hZ⟩ : ∃ Z, x.1.sync = Z := ⟨_, rfl⟩
          obtain ⟨xn, hxn⟩ : ∃ xn, x.1.L.length = xn := ⟨_, rfl⟩
          obtain ⟨Sx, hSx⟩ : ∃ Sx, x.1.L.getLastD ByteArray.empty = Sx := ⟨_, rfl⟩
          have hsr : secR x.1 x.2 = #[.int .u64 X, .int .i64 Y, .slice xa xn xc, .bool Z] := by rw [← hX, ← hY, ← hZ, ← hxn, ← hxu]; rfl
          rw [hX] at k0 hF hxwf
          rw [hY] at k1 hF hxwf
          rw [hxn] at k2
          rw [hZ] at k3
          have hla : ∀ w', Below wr.heap.size wr w' → Calls Try.prog 36 #[.agg #[.int .u64 X, .int .i64 Y, .slice xa xn xc, .bool Z]] w' fun e w'' => e = .returned (.string Sx) ∧ Below w'.heap.size w' w'' := fun w' hb => by
            have := rlast_any x.1 x.2 w' (SecIs.below (x := x) hsec hb)
            rw [hsr, hSx] at this
            exact this
          have hjnext : IntKind.i64.wrap ((j : Int) + 1) = ((j + 1 : Nat) : Int) := IntWalk.i64_in _ (by omega)
          have j0 : (0 : Int) ≤ (j : Int) := by omega
          obtain ⟨W5, hW5⟩ : ∃ W5, wr.alloc (.cells #[.int .u64 X, .int .i64 Y, .slice xa xn xc, .bool Z] 76) = W5 := ⟨_, rfl⟩
          obtain ⟨C, hC5⟩ : ∃ C, wr.heap.size = C := ⟨_, rfl⟩
          have hb5 : Below wr.heap.size wr W5 := by rw [← hW5]; exact (Below.refl _ _).alloc (Nat.le_refl _) _
          have bC : Blk W5 C 76 #[.int .u64 X, .int .i64 Y, .slice xa xn xc, .bool Z] := by rw [← hW5, ← hC5]; exact Blk.alloc_new _ _ _
          obtain ⟨s0, s1, s2, s3⟩ := blk4 bC
          have hba := hb.trans (hb5.mono hb.size)
          have hdr := read_out O p st X Y _ (HS.out.d.below hba) hxwf.1 (wf_small hxwf.2) HV.out
          rw [hF] at hdr
          simp only [Option.isSome_some, Option.map_some, Option.getD_some] at hdr
          rw [hSx] at hdr
          have HDR := Lib.hid hdr
          have HLA := Lib.hid hla
          have HBA := Lib.hid hba
          have HB5 := Lib.hid hb5
          have HBC := Lib.hid bC
          have HLT := Lib.hid (Blk.lt bC)
          clear hdr hla hba hb5 bC hF hX hY hZ hxn hSx hsr hm hsec hrow hxwf hb hx hxu
          go_wp2_with fail
          try rw [hC5]
          try rw [hW5]
          refine HDR.out.mono ?_
          rintro e w11 ⟨b8, n8, c8, rfl, hconv, hb11⟩
          have hlt5 := HLT.out
          have hz5 := hb11.size
          have hall : ∀ w', Below w11.heap.size w11 w' → Below w11.heap.size w11 w' ∧ w'.cell? ⟨C, 0, none⟩ = some (.int .u64 X) ∧ w'.cell? ⟨C, 1, none⟩ = some (.int .i64 Y) ∧ w'.cell? ⟨C, 2, none⟩ = some (.slice xa xn xc) ∧ w'.cell? ⟨C, 3, none⟩ = some (.bool Z) ∧ (convert 28 9 (.slice b8 n8 c8)).run Try.prog w' = .ok (.string Sx) w' := fun w' hbz =>
            have hb2 := hb11.trans (hbz.mono hz5)
            ⟨hbz, (hb2.cell (p := ⟨C, 0, none⟩) hlt5).trans s0, (hb2.cell (p := ⟨C, 1, none⟩) hlt5).trans s1, (hb2.cell (p := ⟨C, 2, none⟩) hlt5).trans s2, (hb2.cell (p := ⟨C, 3, none⟩) hlt5).trans s3, hconv w' hbz⟩
          have hb511 := HB5.out.trans (hb11.mono HB5.out.size)
          have HALL := Lib.hid hall
          have HB11 := Lib.hid hb511
          have HBA11 := Lib.hid (HBA.out.trans (hb11.mono HBA.out.size))
          have hz11 : wr.heap.size ≤ w11.heap.size := hb511.size
          have hS0 := hall w11 (Below.refl _ _)
          clear hconv hb11 hall hb511 s0 s1 s2 s3 hz5 hlt5 HDR
          go_wp2_with fail
          go_region_held3 (fun w' => Below w11.heap.size w11 w' ∧ w'.cell? ⟨C, 0, none⟩ = some (.int .u64 X) ∧ w'.cell? ⟨C, 1, none⟩ = some (.int .i64 Y) ∧ w'.cell? ⟨C, 2, none⟩ = some (.slice xa xn xc) ∧ w'.cell? ⟨C, 3, none⟩ = some (.bool Z) ∧ (convert 28 9 (.slice b8 n8 c8)).run Try.prog w' = .ok (.string Sx) w') (first | assumption | (exact HALL.out _ (Below.drew (And.left (by assumption)))) | (exact HALL.out _ (by assumption))) (first
            | (go_at_call 36; refine (HLA.out _ (HB11.out.trans (Below.mono (And.left (by assumption)) hz11))).mono ?_; rintro e wz ⟨rfl, hbz⟩; have hz := (And.left (by assumption) : Below w11.heap.size w11 _).trans (hbz.mono (And.left (by assumption) : Below w11.heap.size w11 _).size)))
          have HBF := Lib.hid (HBA11.out.trans (hz.mono HBA11.out.size))
          clear hS0 hz HLA HALL HBA11 HB11
          go_wp2_with fail
          refine ⟨⟨j + 1, ?_, by omega, HBF.out⟩, ?_⟩
          · first | rfl | congr 1
          · simp [intOf]; omega
        · have HBW := Lib.hid (HS.out.below.trans (hb.mono HS.out.below.size))
          clear hb
          go_wp2_with fail
          go_ret
          have h := HBW.out
          exact ⟨rfl, by first | exact h | (rw [← hB]; exact h) | (rw [hB] at h; exact h)⟩
end Go.Proofs.Yteidmneenfdafaa.R
