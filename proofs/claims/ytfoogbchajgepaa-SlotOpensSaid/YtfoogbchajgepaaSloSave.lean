/-
  The walk of Save.
-/
import Derived.Test.YtfoogbchajgepaaSloVal
import Derived.Test.YtfoogbchajgepaaDskSync
namespace Go.Proofs.Ytfoogbchajgepaa.S
open Go.RowKit
open Aid K
set_option linter.unusedSimpArgs false
set_option linter.unusedVariables false

/-- a disk that has room for a save -/
structure Fits (st : DSt) (area n : Int) : Prop where
  ok : (st.F area n).isSome = true ∨ st.room ≠ 0
  room : -4611686018427387904 ≤ st.room ∧ st.room ≤ 9223372036854775807
  steps : 0 ≤ st.steps ∧ st.steps < 4611686018427387904
  left : st.left ≤ 9223372036854775807
  N : st.N area < 140737488355326
  C : st.C < 140737488355327
  V : ∀ Lv sb, st.F area n = some (Lv, sb) → Lv.length < 4398046511104
theorem write_N (st : DSt) (a n : Int) (l : List Int) : (writeF st a n l).N a ≤ st.N a + 1 := by
  unfold writeF
  split
  · show updN st.N a _ a ≤ _
    unfold updN; rw [if_pos rfl]
    split
    · exact Nat.le_succ _
    · exact Nat.le_refl _
  · split
    · show updN _ a _ a ≤ _
      unfold updN; rw [if_pos rfl]
      split
      · exact Nat.le_succ _
      · exact Nat.le_refl _
    · show updN _ a _ a ≤ _
      unfold updN; rw [if_pos rfl]
      split
      · exact Nat.le_succ _
      · exact Nat.le_refl _
theorem write_steps (st : DSt) (a n : Int) (l : List Int) : (writeF st a n l).steps = st.steps + 1 ∧ (writeF st a n l).left = (if 0 < st.left then st.left - 1 else st.left) ∧ (writeF st a n l).dead = decide (st.left = 0) := by
  unfold writeF
  split
  · exact ⟨rfl, rfl, rfl⟩
  · split
    · exact ⟨rfl, rfl, rfl⟩
    · exact ⟨rfl, rfl, rfl⟩
/-- what a save makes of a disk -/
def saveF (st : DSt) (area : Int) (num : Nat) (l : List Int) : DSt :=
  let st1 := writeF st area ((num + 1) % 2 : Nat) (secL (num + 1) l)
  if st1.dead = true then st1 else if (stepF st1).dead = true then stepF st1 else syncF st1 area
def SaveEnd (O : Nat → Prop) (s p : Nat) (st : DSt) (area : Int) (num : Nat) (val l : List Int) (w : World) (e : Ending) (w' : World) : Prop :=
  ∃ O', e = .returned (.int .i64 (if (saveF st area num l).dead = true then 30 else 0)) ∧ DiskIs O' w' p (saveF st area num l) ∧
    SlotIn O' w' s p area (if (saveF st area num l).dead = true then num else num + 1) (if (saveF st area num l).dead = true then val else l) ∧
    Keeps (fun k => O k ∨ k = s) w w' ∧ ∀ k, O' k → O k ∨ (w.heap.size ≤ k ∧ k < w'.heap.size)

theorem keeps_mono {O O' : Nat → Prop} {w w' : World} (h : Keeps O w w') (hO : ∀ k, O k → O' k) : Keeps O' w w' := ⟨h.os, h.tape, h.output, h.size, fun k hk hn => h.block k hk (fun ho => hn (hO k ho))⟩
theorem blk_keep {O : Nat → Prop} {w w' : World} {s : Nat} {t : TypeId} {cs : Array Value} (h : Blk w s t cs) (hK : Keeps O w w') (hs : ¬ O s) : Blk w' s t cs := by
  have hl := Blk.lt h
  unfold Blk at h ⊢; rw [hK.block s hl hs]; exact h
theorem SlotIn.keep {O O' Q : Nat → Prop} {w w' : World} {s p : Nat} {area : Int} {num : Nat} {val : List Int} (h : SlotIn O w s p area num val) (hK : Keeps Q w w') (hs : ¬ Q s) (hQ : ∀ b, Q b → O b) (hO : ∀ k, O' k → O k ∨ w.heap.size ≤ k) : SlotIn O' w' s p area num val := by
  obtain ⟨vv, hB, hI, h1, h2, h3, h4⟩ := h
  have hl := Blk.lt hB
  refine ⟨vv, blk_keep hB hK hs, ints_kept hI hK (fun b o n c e hn hh => (h4 b o n c e hn).1 (hQ b hh)), h1, h2, fun hh => ?_, fun b o n c e hn => ⟨fun hh => ?_, (h4 b o n c e hn).2⟩⟩
  · rcases hO s hh with h | h
    · exact h3 h
    · omega
  · rcases hO b hh with h | h
    · exact (h4 b o n c e hn).1 h
    · obtain ⟨a', c', e', _, hc⟩ := ints_slice hI
      rw [e] at e'
      simp only [Value.slice.injEq] at e'
      obtain ⟨b', o', e2, h6, _⟩ := hc 0 (by omega)
      rw [← e'.1] at e2
      simp only [Option.some.injEq, Addr.mk.injEq] at e2
      omega

set_option maxRecDepth 100000 in
set_option maxHeartbeats 4000000 in
theorem save_any (O : Nat → Prop) (s p : Nat) (st : DSt) (area : Int) (num : Nat) (val : List Int) (v : Value) (l : List Int) (w : World) (hD : DiskIs O w p st) (hO : ∀ k, O k → k < w.heap.size) (h : SlotIn O w s p area num val) (hI : Ints w .u8 v l) (hb : By l)
    (hv : ∀ b o n c, v = .slice (some ⟨b, o, none⟩) n c → n ≠ 0 → ¬ O b ∧ b ≠ s) (hl : l.length ≤ 48) (hnum : num < 18446744073709551615) (ha : (Lit.int .u64 area).wf = true) (hd : st.dead = false) (hF : Fits st area ((num + 1) % 2 : Nat)) :
    Calls Try.prog 10 #[.pointer (some ⟨s, 0, none⟩), v] w (SaveEnd O s p st area num val l w) := by
  have hn := hI.1
  have hslot := h
  obtain ⟨vv, hB, _, h1, h2, h3, h4⟩ := h
  obtain ⟨c0, c1, c2, c3⟩ := slot_cells hB
  have hsl := Blk.lt hB
  obtain ⟨a, c, rfl, _⟩ := ints_slice hI
  have hlw : IntKind.i64.wrap (l.length : Int) = (l.length : Int) := IntWalk.i64_in _ (by omega)
  have hlt : ¬ ((48 : Int) < (l.length : Int)) := by omega
  have hmx : ((num : Int) == 18446744073709551615) = false := by rw [beq_eq_false_iff_ne]; omega
  have hw1 : IntKind.u64.wrap ((num : Int) + 1) = ((num + 1 : Nat) : Int) := by rw [IntKind.wrap_u64]; omega
  obtain ⟨M, hM⟩ : ∃ M, num + 1 = M := ⟨_, rfl⟩
  obtain ⟨Z, hZ⟩ : ∃ Z, secL M l = Z := ⟨_, rfl⟩
  have hZl : Z.length = 64 := by rw [← hZ]; exact secL_len (by omega)
  have hZb : By Z := by rw [← hZ]; exact secL_by (by omega) hb
  obtain ⟨st1, hst1⟩ : ∃ st1, writeF st area (M % 2 : Nat) Z = st1 := ⟨_, rfl⟩
  obtain ⟨F1, F2, F3⟩ := write_steps st area (M % 2 : Nat) Z
  have F4 := write_N st area (M % 2 : Nat) Z
  rw [hst1] at F1 F2 F3 F4
  have hsave : saveF st area num l = if st1.dead = true then st1 else if (stepF st1).dead = true then stepF st1 else syncF st1 area := by
    unfold saveF; simp only [hM, hZ, hst1]
  have hMw : ((M : Int) % 2) = ((M % 2 : Nat) : Int) := by omega
  have hM2 : IntKind.i64.wrap ((M % 2 : Nat) : Int) = ((M % 2 : Nat) : Int) := IntWalk.i64_in _ (by omega)
  rw [hM] at hw1 hF
  obtain ⟨iw, hiw, hzw⟩ := info_whole
  rw [← z64_arr] at hzw
  go_enter Try.func10, Try.ntmps10
  go_wp2_with fail
  refine (sector_any M _ l w (by omega) hI hb hl).mono ?_
  rintro e w1 ⟨rfl, hb1⟩
  rw [hZ]
  go_wp2_with (first
    | (refine wpList_allocN _ (by rfl) _ rfl iw hiw _ hzw ?_; intro w3 hB3 hb3 hs3)
    | (refine wpList_storeN _ (by rfl) _ _ _ rfl rfl w1.heap.size rfl _ _ _ hB3 rfl (size_arr _ hZl) (by rw [arr8_size, arr8_size, hZl]; rfl) (arr8_all _) ?_; intro w4 hB4 hb4 hs4 _))
  obtain ⟨X, hX⟩ : ∃ X, w1.heap.size = X := ⟨_, rfl⟩
  rw [hX] at hB4 hb4 hb3
  have hsz1 := hb1.size
  have hBel4 : Below w.heap.size w w4 := hb1.trans ((hb3.trans hb4).mono (by omega))
  have hsz4 := hBel4.size
  have hI5 := ints_of_arr (o := 0) (n := 64) (c := 64) hB4 (by rw [hZl]; decide) (by rw [hZl]; decide)
  rw [List.drop_zero, List.take_of_length_le (by rw [hZl]; decide)] at hI5
  have hd0 : Below w4.heap.size w4 w4.drew := (Below.refl _ _).drew
  have hBel5 : Below w.heap.size w w4.drew := hBel4.drew
  have hwrite := write_good O p st area (M % 2 : Nat) _ Z w4.drew (hD.below hBel5) (fun k hk => by have := hO k hk; show k < w4.heap.size; omega) (hI5.below hd0) (fun b o n c e hn hh => by simp at e; have := hO b hh; omega) hZb ha (wf_i64 (by omega) (by omega)) hd (by omega) (by omega) (by omega) hF.ok hF.room ⟨hF.steps.1, by have := hF.steps.2; omega⟩ hF.left (by have := hF.N; omega) hF.C hF.V
  rw [hst1] at hwrite
  have k0 := (hBel4.cell (p := ⟨s, 0, none⟩) hsl).trans c0
  have k1 := (hBel4.cell (p := ⟨s, 1, none⟩) hsl).trans c1
  have k3 := (hBel4.cell (p := ⟨s, 3, none⟩) hsl).trans c3
  obtain ⟨r1, hr1⟩ : ∃ r1 : Int, (if st1.dead = true then 30 else 0) = r1 := ⟨_, rfl⟩
  unfold WriteEnd at hwrite
  rw [hr1] at hwrite
  have HO := Lib.hid hO
  have HV := Lib.hid hv
  have H4 := Lib.hid h4
  have HSV := Lib.hid hsave
  have HST := Lib.hid hst1
  clear hO hv h4 hsave hst1 c0 c1 c2 c3 hd0 hI5
  go_wp2_with fail
  go_still_tail 16, (by kernel_rfl)
  change wpList _ _ _ _ _ w4.drew
  rw [← hMw] at hwrite
  obtain ⟨w4d, hw4d⟩ : ∃ w4d, w4.drew = w4d := ⟨_, rfl⟩
  have hsd : w4d.heap.size = w4.heap.size := by rw [← hw4d]; rfl
  have hBel5' := hBel5
  rw [hw4d] at hwrite hBel5 ⊢
  have hbd : Below w4.heap.size w4 w4d := by rw [← hw4d]; exact (Below.refl _ _).drew
  go_wp2_with fail
  refine hwrite.mono ?_
  rintro e w5 ⟨rfl, K5, O5, D5, hO5⟩
  have hB5 : Blk w5 s 60 #[.pointer (some ⟨p, 0, none⟩), .int .u64 area, vv, .int .u64 (num : Nat)] := blk_keep (Blk.below hB hBel5 hsl) K5 h3
  obtain ⟨c0, c1, c2, c3⟩ := slot_cells hB5
  have hsz5 := K5.size
  have hslot5 : SlotIn O5 w5 s p area num val := (hslot.below hBel5).keep K5 h3 (fun b hb => hb) (fun k hk => by rcases hO5 k hk with h | h; exact .inl h; exact .inr h.1)
  have hK5 : Keeps (fun k => O k ∨ k = s) w w5 := keeps_mono ((Keeps.of_below hBel5).trans K5 (fun x hx => .inl hx) : Keeps O w w5) (fun k hk => .inl hk)
  have hO5' : ∀ k, O5 k → O k ∨ (w.heap.size ≤ k ∧ k < w5.heap.size) := fun k hk => by
    rcases hO5 k hk with h | h
    · exact .inl h
    · exact .inr ⟨by omega, h.2⟩
  cases hd1 : st1.dead
  · rw [hd1] at hr1
    obtain rfl : r1 = 0 := hr1.symm
    have HSV2 : saveF st area num l = if (stepF st1).dead = true then stepF st1 else syncF st1 area := by rw [HSV.out, hd1]; rfl
    go_wp2_with fail
    go_still_tail 8, (by kernel_rfl)
    change wpList _ _ _ _ _ w5.drew
    obtain ⟨w5d, hw5d⟩ : ∃ w5d, w5.drew = w5d := ⟨_, rfl⟩
    have hs5d : w5d.heap.size = w5.heap.size := by rw [← hw5d]; rfl
    have hb5d : Below w5.heap.size w5 w5d := by rw [← hw5d]; exact (Below.refl _ _).drew
    rw [hw5d]
    have D5d := D5.below hb5d
    have hlt5 : ∀ k, O5 k → k < w5d.heap.size := fun k hk => by
      rcases hO5 k hk with h | h
      · have := HO.out k h; omega
      · omega
    have hs3 : ¬ O5 s := fun h => by
      rcases hO5 s h with h | h
      · exact h3 h
      · omega
    have hslot5d := hslot5.below hb5d
    have hK5d : Keeps (fun k => O k ∨ k = s) w w5d := hK5.trans (Keeps.of_below hb5d : Keeps (fun k => O k ∨ k = s) w5 w5d) (fun x hx => .inl hx)
    have hO5d : ∀ k, O5 k → O k ∨ (w.heap.size ≤ k ∧ k < w5d.heap.size) := fun k hk => by rw [hs5d]; exact hO5' k hk
    have hF1 := hF.steps
    have hF2 := hF.left
    have hF3 := hF.N
    have hleft1 : st1.left ≤ 9223372036854775807 := by rw [F2]; split <;> omega
    go_wp2_with fail
    cases hd2 : (stepF st1).dead
    · have e1 : saveF st area num l = syncF st1 area := by rw [HSV2, hd2]; rfl
      have e2 : (syncF st1 area).dead = false := hd2
      refine (sync_good O5 p st1 area w5d D5d hlt5 ha (by omega) hleft1 hd1 hd2 (by omega)).mono ?_
      rintro e w6 ⟨rfl, D6, K6⟩
      have hsz6 := K6.size
      have hslot6 : SlotIn O5 w6 s p area num val := hslot5d.keep K6 hs3 (fun b hb => hb) (fun k hk => .inl hk)
      have hK6 : Keeps (fun k => O k ∨ k = s) w w6 := hK5d.trans K6 (fun x hx => by
        rcases hO5 x hx with h | h
        · exact .inl (.inl h)
        · exact .inr (by omega))
      obtain ⟨vv6, hB6, hI6, _⟩ := hslot6
      obtain ⟨c0, c1, c2, c3⟩ := slot_cells hB6
      have hf3 := Blk.free hB6 3
      have hB7 := hB6.set 3 (.int .u64 (M : Nat))
      have hK7 : Keeps (fun k => k = s) w6 (w6.setCell ⟨s, 3, none⟩ (.int .u64 (M : Nat))) := set_keeps (Keeps.refl _ _) rfl
      obtain ⟨w7, hw7⟩ : ∃ w7, w6.setCell ⟨s, 3, none⟩ (.int .u64 (M : Nat)) = w7 := ⟨_, rfl⟩
      have hs7 : w7.heap.size = w6.heap.size := by rw [← hw7]; exact World.size_setCell _ _ _
      rw [hw7] at hB7 hK7
      have hI7 : Ints w7 .u8 (.slice a l.length c) l := by
        refine ints_kept hI ((hK6.trans hK7 (fun x hx => .inl (.inr hx)))) (fun b o n c e hn hh => ?_)
        have := HV.out b o n c e hn
        rcases hh with hh | hh
        · exact this.1 hh
        · exact this.2 hh
      clear hwrite
      go_wp2_with fail
      refine (clone_any _ l w7 hI7 (by omega)).mono ?_
      rintro e w8 ⟨v8, rfl, ⟨hI8, hf8⟩, hb8⟩
      have hB8 := Blk.below hB7 hb8 (Blk.lt hB7)
      have hf2 := Blk.free hB8 2
      have d2 : w8.cell? ⟨s, 2, none⟩ = some vv6 := by rw [Blk.cell hB8]; rfl
      have hB9 := hB8.set 2 v8
      have hK9 : Keeps (fun k => k = s) w8 (w8.setCell ⟨s, 2, none⟩ v8) := set_keeps (Keeps.refl _ _) rfl
      have hsz8 := hb8.size
      obtain ⟨a8, c8, rfl, _⟩ := ints_slice hI8
      go_wp2_with fail
      go_ret
      have hs9 : (w8.setCell ⟨s, 2, none⟩ (.slice a8 l.length c8)).heap.size = w8.heap.size := World.size_setCell _ _ _
      have hsw := Blk.lt hB7
      refine ⟨O5, ?_, ?_, ?_, ?_, ?_⟩
      · rw [e1, e2]; rfl
      · rw [e1]
        have D7 := D6.keep (O' := fun k => k = s) hK7 (fun k hk e => hs3 (e ▸ hk))
        exact (D7.below hb8).keep (O' := fun k => k = s) hK9 (fun k hk e => hs3 (e ▸ hk))
      · rw [e1, e2]
        show SlotIn O5 _ s p area (num + 1) l
        rw [hM]
        refine ⟨_, hB9, ?_, hb, hl, hs3, fun b o n c e hn => ?_⟩
        · exact ints_kept hI8 hK9 (fun b o n c e hn h => by have := hf8 b o n c e hn; omega)
        · have := hf8 b o n c e hn
          exact ⟨fun h => by have := hlt5 b h; omega, by omega⟩
      · exact ((hK6.trans hK7 (fun x hx => .inl (.inr hx))).trans (Keeps.of_below hb8 : Keeps (fun k => k = s) w7 w8) (fun x hx => .inl (.inr hx))).trans hK9 (fun x hx => .inl (.inr hx))
      · intro k hk
        rcases hO5d k hk with h | h
        · exact .inl h
        · exact .inr ⟨h.1, by omega⟩
    · have e1 : saveF st area num l = stepF st1 := by rw [HSV2, hd2]; rfl
      have e2 : tickF st1 = stepF st1 := by unfold tickF; rw [hd1]; rfl
      refine (sync_dies O5 p st1 area w5d D5d (by omega) hleft1 (by rw [e2]; exact hd2)).mono ?_
      rintro e w6 ⟨rfl, D6, K6⟩
      rw [e2] at D6
      have hsz6 := K6.size
      clear hwrite
      go_wp2_with fail
      go_ret
      refine ⟨O5, ?_, ?_, ?_, ?_, ?_⟩
      · rw [e1, hd2]; rfl
      · rw [e1]; exact D6
      · rw [e1, hd2]
        exact hslot5d.keep K6 hs3 (fun b hb => hb) (fun k hk => .inl hk)
      · exact hK5d.trans K6 (fun x hx => by
          rcases hO5 x hx with h | h
          · exact .inl (.inl h)
          · exact .inr (by omega))
      · intro k hk
        rcases hO5d k hk with h | h
        · exact .inl h
        · exact .inr ⟨h.1, by omega⟩
  · rw [hd1] at hr1
    obtain rfl : r1 = 30 := hr1.symm
    go_wp2_with fail
    go_ret
    have e1 : saveF st area num l = st1 := by rw [HSV.out, hd1]; rfl
    refine ⟨O5, ?_, ?_, ?_, hK5, hO5'⟩
    · rw [e1, hd1]; rfl
    · rw [e1]; exact D5
    · rw [e1, hd1]; exact hslot5
end Go.Proofs.Ytfoogbchajgepaa.S
