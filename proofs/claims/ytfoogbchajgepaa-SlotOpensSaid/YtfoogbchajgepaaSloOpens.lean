/-
  SlotOpens: of any disk, whatever is written on it, the value is found that the document says.
-/
import Derived.Test.YtfoogbchajgepaaSloLaid
import Derived.Test.YtfoogbchajgepaaSloRefO
import Derived.Test.YtfoogbchajgepaaSloAlive
import Derived.Test.YtfoogbchajgepaaRefWrote
import Derived.Deep.RegionHeld3
namespace Go.Proofs.Ytfoogbchajgepaa.S
open Go.RowKit
open Aid K
set_option linter.unusedSimpArgs false
set_option linter.unusedVariables false

def TrueS (w : World) (e : Ending) (w' : World) : Prop := e = .returned (.bool true) ∧ Below w.heap.size w w'
theorem newints_conv {B : Nat} {w : World} {v : Value} {l : List Int} (h : NewInts B w v l) (hb : By l) : ∃ a c, v = .slice a l.length c ∧ (convert 31 9 (.slice a l.length c)).run Try.prog w = .ok (.string (strOf l)) w := by
  obtain ⟨a, c, rfl⟩ := Ints.form h.1
  exact ⟨a, c, rfl, conv_str h.1 hb⟩
set_option maxRecDepth 100000 in
set_option maxHeartbeats 4000000 in
theorem same_any (O : Nat → Prop) (s p : Nat) (area : Int) (num : Nat) (val : List Int) (w : World) (h : SlotIn O w s p area num val) :
    Calls Try.prog 17 #[.pointer (some ⟨s, 0, none⟩), .agg #[.int .u64 area, .int .u64 (num : Nat), .string (strOf val)]] w (TrueS w) := by
  have hbv : By val := by obtain ⟨vv, _, _, h1, _⟩ := h; exact h1
  obtain ⟨S, hS⟩ : ∃ S, strOf val = S := ⟨_, rfl⟩
  rw [hS]
  obtain ⟨Q, hQ⟩ : ∃ Q, w.heap.size = Q := ⟨_, rfl⟩
  obtain ⟨W1, hW1⟩ : ∃ W1, w.alloc (.cells #[.int .u64 area, .int .u64 (num : Nat), .string S] 47) = W1 := ⟨_, rfl⟩
  have hb1 : Below w.heap.size w W1 := by rw [← hW1]; exact (Below.refl _ _).alloc (Nat.le_refl _) _
  have bQ : Blk W1 Q 47 #[.int .u64 area, .int .u64 (num : Nat), .string S] := by rw [← hW1, ← hQ]; exact Blk.alloc_new _ _ _
  have hall : ∀ w', Below W1.heap.size W1 w' → Below W1.heap.size W1 w' ∧ w'.cell? ⟨Q, 1, none⟩ = some (.int .u64 (num : Nat)) ∧ w'.cell? ⟨Q, 2, none⟩ = some (.string S) := fun w' hb => by
    have b := bQ.below hb (Blk.lt bQ)
    exact ⟨hb, by rw [Blk.cell b]; rfl, by rw [Blk.cell b]; rfl⟩
  have hs1 := h.below hb1
  have hval : ∀ w', Below W1.heap.size W1 w' → Calls Try.prog 11 #[.pointer (some ⟨s, 0, none⟩)] w' fun e w'' => ∃ a c, e = .returned (.slice a val.length c) ∧ (convert 31 9 (.slice a val.length c)).run Try.prog w'' = .ok (.string S) w'' ∧ Below w'.heap.size w' w'' := fun w' hb => by
    refine (value_any O s p area num val w' (hs1.below hb)).mono ?_
    rintro e w'' ⟨v', rfl, hN, hb2⟩
    obtain ⟨a, c, rfl, hc⟩ := newints_conv hN hbv
    exact ⟨a, c, rfl, by rw [← hS]; exact hc, hb2⟩
  have hnum : ∀ w', Below W1.heap.size W1 w' → Calls Try.prog 12 #[.pointer (some ⟨s, 0, none⟩)] w' fun e w'' => e = .returned (.int .u64 (num : Nat)) ∧ w'' = w' := fun w' hb => number_any O s p area num val w' (hs1.below hb)
  have HALL := Lib.hid hall
  have HVAL := Lib.hid hval
  have HNUM := Lib.hid hnum
  have HB1 := Lib.hid hb1
  have hS0 := hall W1.drew ((Below.refl _ _).drew)
  clear hall hval hnum hb1 bQ hs1 h hbv hS
  go_enter Try.func17, Try.ntmps17
  go_wp2_with fail
  try rw [hW1]
  refine wp_region_held_drew (S := (fun w' => Below W1.heap.size W1 w' ∧ w'.cell? ⟨Q, 1, none⟩ = some (.int .u64 (num : Nat)) ∧ w'.cell? ⟨Q, 2, none⟩ = some (.string S))) (by kernel_rfl) hS0 (fun hHeld => ?_)
  refine wpAnyH_take (i := 0) (v := .pointer (some ⟨s, 0, none⟩)) rfl (by kernel_rfl) (by kernel_rfl) (by kernel_rfl) (fun _ _ _ h => h) (.inl ⟨by rfl, by intro w hSw; go_simp⟩) hHeld ?_
  simp only [Act.put, List.getElem_toArray, List.getElem_cons_succ, List.getElem_cons_zero, List.setIfInBounds_toArray, List.set_cons_zero, List.set_cons_succ]
  refine wpAnyH_take (i := 1) (v := .bool true) rfl (by kernel_rfl) (by kernel_rfl) (by kernel_rfl) (fun _ _ _ h => h) (.inl ⟨by rfl, by intro w hSw; go_simp⟩) hHeld ?_
  simp only [Act.put, List.getElem_toArray, List.getElem_cons_succ, List.getElem_cons_zero, List.setIfInBounds_toArray, List.set_cons_zero, List.set_cons_succ]
  refine wpAnyH_take (i := 2) (v := .bool true) rfl (by kernel_rfl) (by kernel_rfl) (by kernel_rfl) (fun _ _ _ h => h) (.inl ⟨by rfl, by intro w hSw; go_simp⟩) hHeld ?_
  simp only [Act.put, List.getElem_toArray, List.getElem_cons_succ, List.getElem_cons_zero, List.setIfInBounds_toArray, List.set_cons_zero, List.set_cons_succ]
  refine wpAnyH_take (i := 3) (v := .pointer (some ⟨s, 0, none⟩)) rfl (by kernel_rfl) (by kernel_rfl) (by kernel_rfl) (fun _ _ _ h => h) (.inl ⟨by rfl, by intro w hSw; go_simp⟩) hHeld ?_
  simp only [Act.put, List.getElem_toArray, List.getElem_cons_succ, List.getElem_cons_zero, List.setIfInBounds_toArray, List.set_cons_zero, List.set_cons_succ]
  refine wpAnyH_take (i := 6) (v := .pointer (some ⟨Q, 2, none⟩)) rfl (by kernel_rfl) (by kernel_rfl) (by kernel_rfl) (fun _ _ _ h => h) (.inl ⟨by rfl, by intro w hSw; go_simp⟩) hHeld ?_
  simp only [Act.put, List.getElem_toArray, List.getElem_cons_succ, List.getElem_cons_zero, List.setIfInBounds_toArray, List.set_cons_zero, List.set_cons_succ]
  refine wpAnyH_take (i := 7) (v := .string S) rfl (by kernel_rfl) (by kernel_rfl) (by kernel_rfl) (fun _ _ _ h => h) (.inl ⟨by rfl, by intro w hSw; (have hx := hSw; go_simp)⟩) hHeld ?_
  simp only [Act.put, List.getElem_toArray, List.getElem_cons_succ, List.getElem_cons_zero, List.setIfInBounds_toArray, List.set_cons_zero, List.set_cons_succ]
  refine wpAnyH_ready (rs := [4]) (by kernel_rfl) (by simp) ?_
  refine AllReadyH.cons rfl (fun K hK => ?_) AllReadyH.nil
  go_simp
  (go_at_call 11; refine (HVAL.out _ hHeld.1).mono ?_; rintro e wz ⟨a7, c7, rfl, hcv, hbz⟩)
  have hz := hHeld.1.trans (hbz.mono hHeld.1.size)
  try go_wp2_with fail
  refine hK.out _ _ (HALL.out _ hz) (fun hHeld => ?_)
  clear hK K
  try simp only [Act.put, List.getElem_toArray, List.getElem_cons_succ, List.getElem_cons_zero, List.setIfInBounds_toArray, List.set_cons_zero, List.set_cons_succ]
  refine wpAnyH_ready (rs := [5]) (by kernel_rfl) (by simp) ?_
  refine AllReadyH.cons rfl (fun K hK => ?_) AllReadyH.nil
  go_simp
  refine hK.out _ _ (HALL.out _ hz) (fun hHeld => ?_)
  clear hK K
  try simp only [Act.put, List.getElem_toArray, List.getElem_cons_succ, List.getElem_cons_zero, List.setIfInBounds_toArray, List.set_cons_zero, List.set_cons_succ]
  refine wpAnyH_take (i := 8) (v := .bool true) rfl (by kernel_rfl) (by kernel_rfl) (by kernel_rfl) (fun _ _ _ h => h) (.inl ⟨by rfl, by intro w hSw; go_simp⟩) hHeld ?_
  simp only [Act.put, List.getElem_toArray, List.getElem_cons_succ, List.getElem_cons_zero, List.setIfInBounds_toArray, List.set_cons_zero, List.set_cons_succ]
  refine wpAnyH_take (i := 9) (v := .bool true) rfl (by kernel_rfl) (by kernel_rfl) (by kernel_rfl) (fun _ _ _ h => h) (.inl ⟨by rfl, by intro w hSw; go_simp⟩) hHeld ?_
  simp only [Act.put, List.getElem_toArray, List.getElem_cons_succ, List.getElem_cons_zero, List.setIfInBounds_toArray, List.set_cons_zero, List.set_cons_succ]
  refine wpAnyH_take (i := 10) (v := .bool true) rfl (by kernel_rfl) (by kernel_rfl) (by kernel_rfl) (fun _ _ _ h => h) (.inl ⟨by rfl, by intro w hSw; go_simp⟩) hHeld ?_
  simp only [Act.put, List.getElem_toArray, List.getElem_cons_succ, List.getElem_cons_zero, List.setIfInBounds_toArray, List.set_cons_zero, List.set_cons_succ]
  refine wpAnyH_take (i := 11) (v := .pointer (some ⟨s, 0, none⟩)) rfl (by kernel_rfl) (by kernel_rfl) (by kernel_rfl) (fun _ _ _ h => h) (.inl ⟨by rfl, by intro w hSw; go_simp⟩) hHeld ?_
  simp only [Act.put, List.getElem_toArray, List.getElem_cons_succ, List.getElem_cons_zero, List.setIfInBounds_toArray, List.set_cons_zero, List.set_cons_succ]
  refine wpAnyH_take (i := 13) (v := .pointer (some ⟨Q, 1, none⟩)) rfl (by kernel_rfl) (by kernel_rfl) (by kernel_rfl) (fun _ _ _ h => h) (.inl ⟨by rfl, by intro w hSw; go_simp⟩) hHeld ?_
  simp only [Act.put, List.getElem_toArray, List.getElem_cons_succ, List.getElem_cons_zero, List.setIfInBounds_toArray, List.set_cons_zero, List.set_cons_succ]
  refine wpAnyH_take (i := 14) (v := .int .u64 (num : Nat)) rfl (by kernel_rfl) (by kernel_rfl) (by kernel_rfl) (fun _ _ _ h => h) (.inl ⟨by rfl, by intro w hSw; (have hx := hSw; go_simp)⟩) hHeld ?_
  simp only [Act.put, List.getElem_toArray, List.getElem_cons_succ, List.getElem_cons_zero, List.setIfInBounds_toArray, List.set_cons_zero, List.set_cons_succ]
  refine wpAnyH_ready (rs := [12]) (by kernel_rfl) (by simp) ?_
  refine AllReadyH.cons rfl (fun K hK => ?_) AllReadyH.nil
  go_simp
  (go_at_call 12; refine (HNUM.out _ hz).mono ?_; rintro e wz ⟨rfl, rfl⟩)
  try go_wp2_with fail
  refine hK.out _ _ (HALL.out _ hz) (fun hHeld => ?_)
  clear hK K
  try simp only [Act.put, List.getElem_toArray, List.getElem_cons_succ, List.getElem_cons_zero, List.setIfInBounds_toArray, List.set_cons_zero, List.set_cons_succ]
  refine wpAnyH_take (i := 15) (v := .bool true) rfl (by kernel_rfl) (by kernel_rfl) (by kernel_rfl) (fun _ _ _ h => h) (.inl ⟨by rfl, by intro w hSw; go_simp⟩) hHeld ?_
  simp only [Act.put, List.getElem_toArray, List.getElem_cons_succ, List.getElem_cons_zero, List.setIfInBounds_toArray, List.set_cons_zero, List.set_cons_succ]
  refine wpAnyH_take (i := 16) (v := .bool true) rfl (by kernel_rfl) (by kernel_rfl) (by kernel_rfl) (fun _ _ _ h => h) (.inl ⟨by rfl, by intro w hSw; go_simp⟩) hHeld ?_
  simp only [Act.put, List.getElem_toArray, List.getElem_cons_succ, List.getElem_cons_zero, List.setIfInBounds_toArray, List.set_cons_zero, List.set_cons_succ]
  refine wpAnyH_take (i := 17) (v := .bool true) rfl (by kernel_rfl) (by kernel_rfl) (by kernel_rfl) (fun _ _ _ h => h) (.inl ⟨by rfl, by intro w hSw; go_simp⟩) hHeld ?_
  simp only [Act.put, List.getElem_toArray, List.getElem_cons_succ, List.getElem_cons_zero, List.setIfInBounds_toArray, List.set_cons_zero, List.set_cons_succ]
  refine wpAnyH_done (by kernel_rfl) ?_ _
  all_goals
    have hbf := HB1.out.trans (hz.mono HB1.out.size)
    clear hz
    go_wp2_with fail
    go_ret
    exact ⟨rfl, hbf⟩
set_option maxRecDepth 100000 in
set_option maxHeartbeats 2000000 in
theorem open_dead (O : Nat → Prop) (p : Nat) (st : DSt) (area : Int) (w : World) (h : DiskIs O w p st) (hd : st.dead = true) :
    Calls Try.prog 9 #[.pointer (some ⟨p, 0, none⟩), .int .u64 area] w fun e w' => e = .returned (.tuple #[.pointer none, .int .i64 30]) ∧ w' = w := by
  go_enter Try.func9, Try.ntmps9
  go_wp2_with fail
  refine (dead_any O p st w h).mono ?_
  rintro e w1 ⟨rfl, rfl⟩
  rw [hd]
  go_wp2_with fail
  go_ret2
  exact ⟨rfl, rfl⟩
set_option maxRecDepth 100000 in
set_option maxHeartbeats 2000000 in
theorem ropen_dead (r : R.RSt) (va : Option Addr) (vn vc : Nat) (area : Int) (w : World) (hd : r.dead = true) :
    Calls Try.prog 16 #[.agg (R.diskR r (.slice va vn vc)), .int .u64 area] w fun e w' => e = .returned (.tuple #[.agg #[.int .u64 0, .int .u64 0, .string ⟨#[]⟩], .int .i64 30]) ∧ Below w.heap.size w w' := by
  obtain ⟨room, steps, left, armed, dead, rl⟩ := r
  dsimp only at hd
  subst hd
  unfold R.diskR
  dsimp only
  go_enter Try.func16, Try.ntmps16
  go_wp2_with fail
  refine bodyPost_ret (R.results_cellT rfl _ _ (w.heap.size + 1) rfl _ rfl _ #[.int .u64 0, .int .u64 0, .string ⟨#[]⟩] (R.two_blk _ _ _ _) _ Try.underlying47 rfl size_rslot) rfl ?_
  exact ⟨rfl, R.two_under _ _ _⟩
theorem last_len {f : Nat → OpR} {n : Nat} {st : DSt} (h : R.Wrote f n st.F) (a x : Int) : lastI st a x = [] ∨ (lastI st a x).length = 64 := by
  unfold lastI
  cases hF : st.F a x with
  | none => exact .inl rfl
  | some sec =>
    obtain ⟨L, s⟩ := sec
    obtain ⟨h1, h2⟩ := h a x L s hF
    right
    have := (h2 (L.getLastD ByteArray.empty) (by rw [List.getLastD_eq_getLast?, List.getLast?_eq_some_getLast h1]; exact List.getLast_mem h1)).size
    show (bytesI (L.getLastD ByteArray.empty)).length = 64
    simp only [bytesI, List.length_map]; exact this
set_option maxRecDepth 100000 in
set_option maxHeartbeats 8000000 in
theorem opens_law (v : Value) (n : Nat) (f : Nat → OpR) (area : Int) (w : World) (h : OpsAre w v n f) (ha : (Lit.int .u64 area).wf = true) :
    Calls Try.prog 5 #[v, .int .u64 area] w (TrueS w) := by
  have hn := h.1
  obtain ⟨a0, cap0, hv0, hel0⟩ := h.2
  subst hv0
  have hwr := R.wrote_run f 1073741824 n
  obtain ⟨st, hst⟩ : ∃ st, R.runS f 1073741824 n = st := ⟨_, rfl⟩
  rw [hst] at hwr
  have HEL := Lib.hid hel0
  clear hel0
  go_enter Try.func5, Try.ntmps5
  go_wp2_with fail
  refine (R.laid_any 1073741824 _ n f w h (by decide)).mono ?_
  rw [hst]
  rintro e w1 ⟨p, O, r, vr, q, rfl, D, hO, hF, hRel, hrow, hqo, hlen, hb1⟩
  obtain ⟨av, cv, hv⟩ := hrow.1.slice
  subst hv
  obtain ⟨nq, hnq⟩ : ∃ nq, q.length = nq := ⟨_, rfl⟩
  have hdead := hRel.dead
  obtain ⟨room1, steps, left, armed, dead, rl⟩ := r
  dsimp only at hdead
  subst hdead
  rw [hnq]
  unfold R.diskR
  dsimp only
  obtain ⟨E, hE⟩ : ∃ E, w1.heap.size = E := ⟨_, rfl⟩
  obtain ⟨W2, hW2⟩ : ∃ W2, w1.alloc (.cells #[.int .i64 room1, .int .i64 steps, .int .i64 left, .bool armed, .bool st.dead, .slice av nq cv] 43) = W2 := ⟨_, rfl⟩
  have bE : Blk W2 E 43 #[.int .i64 room1, .int .i64 steps, .int .i64 left, .bool armed, .bool st.dead, .slice av nq cv] := by rw [← hW2, ← hE]; exact Blk.alloc_new _ _ _
  have hb2 : Below w1.heap.size w1 W2 := by rw [← hW2]; exact (Below.refl _ _).alloc (Nat.le_refl _) _
  have hs1 := hb1.size
  have hbw := hb1.trans (hb2.mono hs1)
  have HBW := Lib.hid hbw
  have HBE := Lib.hid bE
  have HD := Lib.hid (D.below hb2)
  have HO := Lib.hid (fun k (hk : O k) => show k < W2.heap.size by have := hO k hk; have := hb2.size; omega)
  have HROW := Lib.hid (show R.RDisk W2 (.slice av q.length cv) ⟨room1, steps, left, armed, st.dead, rl⟩ q from ⟨hrow.1.below hb2, hrow.2⟩)
  have HREL := Lib.hid hRel
  have HNQ := Lib.hid hnq
  have HWR := Lib.hid hwr
  clear D hO hF hRel hrow hqo hlen hb1 hb2 hbw bE hnq hwr hst hs1
  go_wp2_with fail
  refine (alive_any W2).mono ?_
  rintro e w3 ⟨rfl, hb3⟩
  have HB3 := Lib.hid hb3
  have HD3 := Lib.hid (HD.out.below hb3)
  have HO3 := Lib.hid (fun k (hk : O k) => show k < w3.heap.size by have := HO.out k hk; have := hb3.size; omega)
  clear hb3
  go_wp2_with fail
  cases hd : st.dead with
  | true =>
    refine (open_dead O p st area w3 HD3.out hd).mono ?_
    rintro e w4 ⟨rfl, rfl⟩
    rw [hd] at HBE
    have hro := ropen_dead ⟨room1, steps, left, armed, true, rl⟩ av nq cv area w4 rfl
    unfold R.diskR at hro
    dsimp only at hro
    obtain ⟨d0, d1, d2, d3, d4, d5⟩ := R.blk6 (HBE.out.below HB3.out (Blk.lt HBE.out))
    have HRO := Lib.hid hro
    clear hro
    go_wp2_with fail
    refine HRO.out.mono ?_
    rintro e w5 ⟨rfl, hb5⟩
    have hbf := (HBW.out.trans (HB3.out.mono HBW.out.size)).trans (hb5.mono (HBW.out.trans (HB3.out.mono HBW.out.size)).size)
    have HBF := Lib.hid (hbf.alloc hbf.size (.cells #[.int .u64 0, .int .u64 0, .string ⟨#[]⟩] 47))
    clear hb5 hbf
    go_wp2_with fail
    go_ret
    exact ⟨rfl, HBF.out⟩
  | false =>
    refine (open_any O p st area w3 HD3.out HO3.out hd ha (fun i _ => last_len HWR.out area i)).mono ?_
    rintro e w4 ⟨s, rfl, hS, hsl, hb4⟩
    rw [hd] at HBE
    have hb24 := HB3.out.trans (hb4.mono HB3.out.size)
    have hro := ropen_any st ⟨room1, steps, left, armed, st.dead, rl⟩ (.slice av q.length cv) q area w4 ⟨HROW.out.1.below hb24, HROW.out.2⟩ HREL.out ha hd (fun i _ L s hh => by
      obtain ⟨h1, h2⟩ := HWR.out area i L s hh
      exact (h2 (L.getLastD ByteArray.empty) (by rw [List.getLastD_eq_getLast?, List.getLast?_eq_some_getLast h1]; exact List.getLast_mem h1)).size)
    unfold R.diskR slotR at hro
    rw [HNQ.out, hd] at hro
    dsimp only at hro
    obtain ⟨d0, d1, d2, d3, d4, d5⟩ := R.blk6 (HBE.out.below hb24 (Blk.lt HBE.out))
    obtain ⟨⟨num, val⟩, hnv⟩ : ∃ x, openK st area 2 = x := ⟨_, rfl⟩
    rw [hnv] at hro hS
    dsimp only at hro hS
    obtain ⟨sv, hsv⟩ : ∃ sv, strOf val = sv := ⟨_, rfl⟩
    rw [hsv] at hro
    have HRO := Lib.hid hro
    have HS := Lib.hid hS
    have HB24 := Lib.hid hb24
    have HSV := Lib.hid hsv
    clear hro hS hb24 hsv hnv hb4
    go_wp2_with fail
    refine HRO.out.mono ?_
    rintro e w5 ⟨rfl, hb5⟩
    obtain ⟨W6, hW6⟩ : ∃ W6, w5.alloc (.cells #[.int .u64 area, .int .u64 (num : Nat), .string sv] 47) = W6 := ⟨_, rfl⟩
    have hb6 : Below w5.heap.size w5 W6 := by rw [← hW6]; exact (Below.refl _ _).alloc (Nat.le_refl _) _
    obtain ⟨E5, hE5⟩ : ∃ E5, w5.heap.size = E5 := ⟨_, rfl⟩
    have b6 : Blk W6 E5 47 #[.int .u64 area, .int .u64 (num : Nat), .string sv] := by rw [← hW6, ← hE5]; exact Blk.alloc_new _ _ _
    have z0 : W6.cell? ⟨E5, 0, none⟩ = some (.int .u64 area) := by rw [Blk.cell b6]; rfl
    have z1 : W6.cell? ⟨E5, 1, none⟩ = some (.int .u64 (num : Nat)) := by rw [Blk.cell b6]; rfl
    have z2 : W6.cell? ⟨E5, 2, none⟩ = some (.string sv) := by rw [Blk.cell b6]; rfl
    have hsm := same_any O s p area num val W6 ((HS.out.below hb5).below hb6)
    rw [HSV.out] at hsm
    have HSM := Lib.hid hsm
    have h26 := HB24.out.trans ((hb5.trans (hb6.mono hb5.size)).mono HB24.out.size)
    have HB26 := Lib.hid (HBW.out.trans (h26.mono HBW.out.size))
    clear hsm hb5 hb6 h26
    go_wp2_with fail
    refine HSM.out.mono ?_
    rintro e w7 ⟨rfl, hb7⟩
    have hbf := HB26.out.trans (hb7.mono HB26.out.size)
    clear hb7
    go_wp2_with fail
    go_ret
    exact ⟨rfl, hbf⟩
end Go.Proofs.Ytfoogbchajgepaa.S
