/-
  WdForm.
-/
import Derived.Test.YtkibkbbjpgomlaaDoorWqWdSum
import Derived.Test.YtkibkbbjpgomlaaDoorWqB
import Derived.Deep.RegionHeld3
namespace Go.Proofs.YtkibkbbjpgomlaaDoor.F
open Go.RowKit Go.Shelf Go.Maps
open Aid L LM
set_option linter.unusedSimpArgs false
set_option linter.unusedVariables false
attribute [local go_sem] Oper.semAt_some

/-- a rune that a word may have, written, is a word -/
theorem rune_word {r : Int} (h : scalar r = true ∧ 32 < r ∧ r ≠ 127) {t : ByteArray} (ht : t.data.toList = encs [r]) : wordB t = true ∧ (t.size : Int) ≤ 4 := by
  have he : encs [r] = enc r := by rw [encs_cons]; show enc r ++ [] = _; rw [List.append_nil]
  have hl := enc_len r
  have hsz : t.size ≤ 4 := by
    have := congrArg List.length ht
    rw [he, Array.length_toList] at this
    have h2 : t.size = t.data.size := rfl
    omega
  refine ⟨?_, by omega⟩
  unfold wordB
  have hr : runes t.data.toList = some [r] := runes_iff.2 ⟨fun x hx => by rw [List.mem_singleton] at hx; rw [hx]; exact h.1, ht⟩
  rw [hr]
  simp only [Bool.and_eq_true, decide_eq_true_eq, List.all_cons, List.all_nil, Bool.and_true, List.length_cons, List.length_nil]
  refine ⟨by omega, ?_, by omega⟩
  unfold L.good
  simp [h.2.1, h.2.2]
theorem text_one (r K : Nat) {ri : Int} (w : World) (h : scalar ri = true ∧ 32 < ri ∧ ri ≠ 127) (hK : w.cell? ⟨K, 0, none⟩ = some (.int .i32 ri)) (hKl : K < w.heap.size) (T : Tab w) :
    Calls Tryd.prog 41 #[.slice (some ⟨K, 0, none⟩) 1 1] w fun e w' => (∃ t : ByteArray, t.data.toList = enc ri ∧ e = .returned (.tuple #[.string t, .bool true]) ∧ wordB t = true ∧ (t.size : Int) ≤ 4) ∧ Below w.heap.size w w' := by
  refine (text_any (.slice (some ⟨K, 0, none⟩) 1 1) [ri] w ⟨by simp, .inr ⟨K, 0, 1, rfl, hKl, fun j hj => ?_⟩⟩ (by simp) T).mono ?_
  · simp only [List.length_cons, List.length_nil] at hj
    obtain rfl : j = 0 := by omega
    exact hK
  · rintro e w' ⟨(⟨_, t, ht, he⟩ | ⟨hn, _⟩), hb⟩
    · have hw := rune_word h ht
      refine ⟨⟨t, ?_, he, hw.1, hw.2⟩, hb⟩
      rw [ht, encs_cons]
      show enc ri ++ [] = _
      rw [List.append_nil]
    · simp [h.1] at hn
def FormEnd (w : World) (e : Ending) (w' : World) : Prop := e = .returned (.bool true) ∧ Below w.heap.size w w'
set_option maxRecDepth 100000 in
set_option maxHeartbeats 8000000 in
theorem formed_any (O : Nat → Prop) (s : StM) (u : Value) (i : Nat) (w : World) (h : ArcsAre O w u s.arcs) (T : Tab w)
    (ho : 0 ≤ s.out ∧ s.out ≤ 1048576) (hf0 : s.fin = false → s.out = 0) (hrise : Rise s) (ha : ∀ a ∈ s.arcs, (0 ≤ a.to_ ∧ a.to_.toNat < i) ∧ (0 ≤ a.out ∧ a.out ≤ 1048576) ∧ scalar a.label = true ∧ 32 < a.label ∧ a.label ≠ 127)
    (hz : (s.fin = true ∧ s.out = 0) ∨ ∃ a ∈ s.arcs, a.out = 0) :
    Calls Tryd.prog 32 #[.agg (stV s u), .int .i64 i] w (FormEnd w) := by
  obtain ⟨a, cp, rfl⟩ := h.slice
  obtain ⟨fin, out, A⟩ := s
  unfold stV
  unfold Rise at hrise
  dsimp only at h ha ho hf0 hrise hz ⊢
  have hl : A.length ≤ 1000000 := by obtain ⟨_, _, _, h, _⟩ := h; exact h
  obtain ⟨n, hn⟩ : ∃ n, A.length = n := ⟨_, rfl⟩
  rw [hn] at h hl
  rw [hn]
  have HT := Lib.hid T
  have HA := Lib.hid ha
  have HRI := Lib.hid hrise
  have hzero : leastU (if fin then out else 1048577) (A.map (·.out)) = 0 := leastU_zero (by split <;> omega) (fun x hx => by
    obtain ⟨y, hy, rfl⟩ := List.mem_map.1 hx
    exact (ha y hy).2.1.1) (by
    rcases hz with ⟨h1, h2⟩ | ⟨y, hy, e⟩
    · left; rw [if_pos h1, h2]
    · right; exact List.mem_map.2 ⟨y, hy, e⟩)
  have ho1 := ho.1
  have ho2 := ho.2
  clear hrise ha hz T ho
  go_enter Tryd.func32, Tryd.ntmps32
  cases fin with
  | true =>
    skip
    have HZ := Lib.hid (show leastU out (A.map (·.out)) = 0 from hzero)
    clear hzero hf0
    have hb0 : Below w.heap.size w (w.alloc (.cells #[.bool true, .int .i64 out, .slice a n cp] 61)) := (Below.refl _ _).alloc (Nat.le_refl _) _
    have HB0 := Lib.hid hb0
    clear hb0
    go_wp2_with fail
    go_loopw [5, 6, 7, 30] (fun x5 x6 x7 x30 wr => ∃ (j : Nat) (lab : Int), x30 = .int .i64 j ∧ j ≤ n ∧ x5 = .int .i64 (leastU out ((A.take j).map (·.out))) ∧ x6 = .bool true ∧ x7 = .int .i32 lab ∧ Hid (∀ y, A[j]? = some y → lab < y.label) ∧ Hid (Below w.heap.size w wr)) (fun _ _ _ x30 _ => n - (intOf x30).toNat)
    case atStart => exact ⟨0, 32, rfl, Nat.zero_le _, rfl, rfl, rfl, Lib.hid (fun y hy => (HA.out y (List.mem_of_getElem? hy)).2.2.2.1), HB0⟩
    case round =>
      clear HB0
      obtain ⟨j, lab, rfl, hj, rfl, rfl, rfl, HLA, HBL⟩ := hrel
      by_cases hlt : (j : Int) < (n : Int)
      · obtain ⟨y, hy⟩ : ∃ y, A[j]? = some y := ⟨_, List.getElem?_eq_getElem (by omega)⟩
        have hlab := HLA.out y hy
        have hym := List.mem_of_getElem? hy
        obtain ⟨⟨a1, a2⟩, ⟨a3, a4⟩, a5⟩ := HA.out y hym
        obtain ⟨g, off, ea, hg, _, hcl⟩ := h.at_ hy
        subst ea
        have hnextl : ∀ y2, A[j + 1]? = some y2 → y.label < y2.label := fun y2 hy2 => by
          obtain ⟨l1, e1⟩ := List.getElem?_eq_some_iff.1 hy
          obtain ⟨l2, e2⟩ := List.getElem?_eq_some_iff.1 hy2
          have := List.pairwise_iff_getElem.1 HRI.out j (j + 1) l1 l2 (by omega)
          rw [e1, e2] at this
          exact this
        have hlow : leastU out ((A.take (j + 1)).map (·.out)) = if y.out < leastU out ((A.take j).map (·.out)) then y.out else leastU out ((A.take j).map (·.out)) := by
          rw [take_snoc hy, List.map_append]
          exact leastU_snoc _ _ _
        obtain ⟨lo, hlo⟩ : ∃ lo, leastU out ((A.take j).map (·.out)) = lo := ⟨_, rfl⟩
        rw [hlo] at hlow ⊢
        obtain ⟨la, ou, tt⟩ := y
        dsimp only at hlab a1 a2 a3 a4 a5 hnextl hlow
        have HAR := Lib.hid a5
        have HN := Lib.hid (And.intro hnextl hlow)
        have hbl := HBL.out
        have f0 : wr.cell? ⟨g, off + j * 3, none⟩ = some (.int .i32 la) := (hbl.cell (p := ⟨g, off + j * 3, none⟩) hg).trans (hcl 0 (by show 0 < 3; omega))
        have f1 : wr.cell? ⟨g, off + j * 3 + 1, none⟩ = some (.int .i64 ou) := (hbl.cell (p := ⟨g, off + j * 3 + 1, none⟩) hg).trans (hcl 1 (by show 1 < 3; omega))
        have f2 : wr.cell? ⟨g, off + j * 3 + 2, none⟩ = some (.int .i64 tt) := (hbl.cell (p := ⟨g, off + j * 3 + 2, none⟩) hg).trans (hcl 2 (by show 2 < 3; omega))
        have hf := three_cells f0 f1 f2
        obtain ⟨K2, hK2⟩ : ∃ K2, wr.heap.size = K2 := ⟨_, rfl⟩
        obtain ⟨W5, hW5⟩ : ∃ W5, wr.alloc (.cells #[.int .i32 la, .int .i64 ou, .int .i64 tt] 63) = W5 := ⟨_, rfl⟩
        have hb5 : Below wr.heap.size wr W5 := by rw [← hW5]; exact (Below.refl _ _).alloc (Nat.le_refl _) _
        have hs5 : W5.heap.size = K2 + 1 := by rw [← hW5, ← hK2]; simp
        have bK2 : Blk W5 K2 63 #[.int .i32 la, .int .i64 ou, .int .i64 tt] := by rw [← hW5, ← hK2]; exact Blk.alloc_new _ _ _
        obtain ⟨W6, hW6⟩ : ∃ W6, W5.alloc (.cells #[.int .i32 la] 21) = W6 := ⟨_, rfl⟩
        have hb6 : Below W5.heap.size W5 W6 := by rw [← hW6]; exact (Below.refl _ _).alloc (Nat.le_refl _) _
        have bK3 : Blk W6 (K2 + 1) 21 #[.int .i32 la] := by rw [← hW6, ← hs5]; exact Blk.alloc_new _ _ _
        have bK26 := bK2.below hb6 bK2.lt
        have hbel6 : Below w.heap.size w W6 := (hbl.trans (hb5.mono hbl.size)).trans (hb6.mono (Nat.le_trans hbl.size hb5.size))
        have y0 : W5.cell? ⟨K2, 0, none⟩ = some (.int .i32 la) := (Blk.cell bK2 0).trans rfl
        have HTX := Lib.hid (text_one 0 (K2 + 1) W6 HAR.out ((Blk.cell bK3 0).trans rfl) bK3.lt (HT.out.below hbel6))
        have HB6 := Lib.hid (And.intro hbel6 bK26)
        have hj0 : (0 : Int) ≤ (j : Int) := by omega
        clear hcl hym hy hnextl hlow hbl hb5 bK2 hb6 bK3 bK26 hbel6 a5 HLA HBL
        go_wp2_with fail
        refine HTX.out.mono ?_
        rintro e w7 ⟨⟨t, ht, rfl, hwt, hts⟩, hb7⟩
        obtain ⟨hbel6, bK26⟩ := HB6.out
        have bK27 := bK26.below hb7 bK26.lt
        have hbel7 := hbel6.trans (hb7.mono hbel6.size)
        have y0 : w7.cell? ⟨K2, 0, none⟩ = some (.int .i32 la) := (Blk.cell bK27 0).trans rfl
        have y1 : w7.cell? ⟨K2, 1, none⟩ = some (.int .i64 ou) := (Blk.cell bK27 1).trans rfl
        have y2 : w7.cell? ⟨K2, 2, none⟩ = some (.int .i64 tt) := (Blk.cell bK27 2).trans rfl
        have HCE := Lib.hid (show ∀ w', Below w7.heap.size w7 w' → w'.cell? ⟨K2, 0, none⟩ = some (.int .i32 la) ∧ w'.cell? ⟨K2, 1, none⟩ = some (.int .i64 ou) ∧ w'.cell? ⟨K2, 2, none⟩ = some (.int .i64 tt) ∧ Below w.heap.size w w' from fun w' hb => ⟨(Blk.cell (bK27.below hb bK27.lt) 0).trans rfl, (Blk.cell (bK27.below hb bK27.lt) 1).trans rfl, (Blk.cell (bK27.below hb bK27.lt) 2).trans rfl, hbel7.trans (hb.mono hbel7.size)⟩)
        have HWD := Lib.hid (show ∀ w', Below w7.heap.size w7 w' → Calls Tryd.prog 12 #[.string t] w' fun e w2 => e = .returned (.bool true) ∧ Below w'.heap.size w' w2 from fun w' hb => by
          have := word_any t w' (by omega) (HT.out.below (hbel7.trans (hb.mono hbel7.size)))
          rw [hwt] at this
          exact this)
        have htt : tt < (i : Int) := by omega
        clear ht hwt hts hb7 hbel6 bK26 bK27 hbel7 HB6 HTX hf f0 f1 f2
        go_wp2_with fail
        refine (HWD.out w7 (Below.refl _ _)).mono ?_
        rintro e w8 ⟨rfl, hb8⟩
        obtain ⟨z0, z1, z2, hbel8⟩ := HCE.out w8 hb8
        have HB8 := Lib.hid hbel8
        clear hb8 hbel8 y0 y1 y2 HCE HWD
        go_wp2_with fail
        exact ⟨⟨j + 1, la, rfl, by omega, by rw [HN.out.2], rfl, rfl, Lib.hid HN.out.1, HB8⟩, by simp only [intOf]; omega⟩
      · have hje : j = n := by omega
        subst hje
        have hz := HZ.out
        rw [List.take_of_length_le (by omega), hz]
        go_wp2_with fail
        go_ret
        exact ⟨rfl, HBL.out⟩
  | false =>
    obtain rfl : out = 0 := hf0 rfl
    have HZ := Lib.hid (show leastU 1048577 (A.map (·.out)) = 0 from hzero)
    clear hzero hf0
    have hb0 : Below w.heap.size w (w.alloc (.cells #[.bool false, .int .i64 0, .slice a n cp] 61)) := (Below.refl _ _).alloc (Nat.le_refl _) _
    have HB0 := Lib.hid hb0
    clear hb0
    go_wp2_with fail
    go_loopw [5, 6, 7, 30] (fun x5 x6 x7 x30 wr => ∃ (j : Nat) (lab : Int), x30 = .int .i64 j ∧ j ≤ n ∧ x5 = .int .i64 (leastU 1048577 ((A.take j).map (·.out))) ∧ x6 = .bool true ∧ x7 = .int .i32 lab ∧ Hid (∀ y, A[j]? = some y → lab < y.label) ∧ Hid (Below w.heap.size w wr)) (fun _ _ _ x30 _ => n - (intOf x30).toNat)
    case atStart => exact ⟨0, 32, rfl, Nat.zero_le _, rfl, rfl, rfl, Lib.hid (fun y hy => (HA.out y (List.mem_of_getElem? hy)).2.2.2.1), HB0⟩
    case round =>
      clear HB0
      obtain ⟨j, lab, rfl, hj, rfl, rfl, rfl, HLA, HBL⟩ := hrel
      by_cases hlt : (j : Int) < (n : Int)
      · obtain ⟨y, hy⟩ : ∃ y, A[j]? = some y := ⟨_, List.getElem?_eq_getElem (by omega)⟩
        have hlab := HLA.out y hy
        have hym := List.mem_of_getElem? hy
        obtain ⟨⟨a1, a2⟩, ⟨a3, a4⟩, a5⟩ := HA.out y hym
        obtain ⟨g, off, ea, hg, _, hcl⟩ := h.at_ hy
        subst ea
        have hnextl : ∀ y2, A[j + 1]? = some y2 → y.label < y2.label := fun y2 hy2 => by
          obtain ⟨l1, e1⟩ := List.getElem?_eq_some_iff.1 hy
          obtain ⟨l2, e2⟩ := List.getElem?_eq_some_iff.1 hy2
          have := List.pairwise_iff_getElem.1 HRI.out j (j + 1) l1 l2 (by omega)
          rw [e1, e2] at this
          exact this
        have hlow : leastU 1048577 ((A.take (j + 1)).map (·.out)) = if y.out < leastU 1048577 ((A.take j).map (·.out)) then y.out else leastU 1048577 ((A.take j).map (·.out)) := by
          rw [take_snoc hy, List.map_append]
          exact leastU_snoc _ _ _
        obtain ⟨lo, hlo⟩ : ∃ lo, leastU 1048577 ((A.take j).map (·.out)) = lo := ⟨_, rfl⟩
        rw [hlo] at hlow ⊢
        obtain ⟨la, ou, tt⟩ := y
        dsimp only at hlab a1 a2 a3 a4 a5 hnextl hlow
        have HAR := Lib.hid a5
        have HN := Lib.hid (And.intro hnextl hlow)
        have hbl := HBL.out
        have f0 : wr.cell? ⟨g, off + j * 3, none⟩ = some (.int .i32 la) := (hbl.cell (p := ⟨g, off + j * 3, none⟩) hg).trans (hcl 0 (by show 0 < 3; omega))
        have f1 : wr.cell? ⟨g, off + j * 3 + 1, none⟩ = some (.int .i64 ou) := (hbl.cell (p := ⟨g, off + j * 3 + 1, none⟩) hg).trans (hcl 1 (by show 1 < 3; omega))
        have f2 : wr.cell? ⟨g, off + j * 3 + 2, none⟩ = some (.int .i64 tt) := (hbl.cell (p := ⟨g, off + j * 3 + 2, none⟩) hg).trans (hcl 2 (by show 2 < 3; omega))
        have hf := three_cells f0 f1 f2
        obtain ⟨K2, hK2⟩ : ∃ K2, wr.heap.size = K2 := ⟨_, rfl⟩
        obtain ⟨W5, hW5⟩ : ∃ W5, wr.alloc (.cells #[.int .i32 la, .int .i64 ou, .int .i64 tt] 63) = W5 := ⟨_, rfl⟩
        have hb5 : Below wr.heap.size wr W5 := by rw [← hW5]; exact (Below.refl _ _).alloc (Nat.le_refl _) _
        have hs5 : W5.heap.size = K2 + 1 := by rw [← hW5, ← hK2]; simp
        have bK2 : Blk W5 K2 63 #[.int .i32 la, .int .i64 ou, .int .i64 tt] := by rw [← hW5, ← hK2]; exact Blk.alloc_new _ _ _
        obtain ⟨W6, hW6⟩ : ∃ W6, W5.alloc (.cells #[.int .i32 la] 21) = W6 := ⟨_, rfl⟩
        have hb6 : Below W5.heap.size W5 W6 := by rw [← hW6]; exact (Below.refl _ _).alloc (Nat.le_refl _) _
        have bK3 : Blk W6 (K2 + 1) 21 #[.int .i32 la] := by rw [← hW6, ← hs5]; exact Blk.alloc_new _ _ _
        have bK26 := bK2.below hb6 bK2.lt
        have hbel6 : Below w.heap.size w W6 := (hbl.trans (hb5.mono hbl.size)).trans (hb6.mono (Nat.le_trans hbl.size hb5.size))
        have y0 : W5.cell? ⟨K2, 0, none⟩ = some (.int .i32 la) := (Blk.cell bK2 0).trans rfl
        have HTX := Lib.hid (text_one 0 (K2 + 1) W6 HAR.out ((Blk.cell bK3 0).trans rfl) bK3.lt (HT.out.below hbel6))
        have HB6 := Lib.hid (And.intro hbel6 bK26)
        have hj0 : (0 : Int) ≤ (j : Int) := by omega
        clear hcl hym hy hnextl hlow hbl hb5 bK2 hb6 bK3 bK26 hbel6 a5 HLA HBL
        go_wp2_with fail
        refine HTX.out.mono ?_
        rintro e w7 ⟨⟨t, ht, rfl, hwt, hts⟩, hb7⟩
        obtain ⟨hbel6, bK26⟩ := HB6.out
        have bK27 := bK26.below hb7 bK26.lt
        have hbel7 := hbel6.trans (hb7.mono hbel6.size)
        have y0 : w7.cell? ⟨K2, 0, none⟩ = some (.int .i32 la) := (Blk.cell bK27 0).trans rfl
        have y1 : w7.cell? ⟨K2, 1, none⟩ = some (.int .i64 ou) := (Blk.cell bK27 1).trans rfl
        have y2 : w7.cell? ⟨K2, 2, none⟩ = some (.int .i64 tt) := (Blk.cell bK27 2).trans rfl
        have HCE := Lib.hid (show ∀ w', Below w7.heap.size w7 w' → w'.cell? ⟨K2, 0, none⟩ = some (.int .i32 la) ∧ w'.cell? ⟨K2, 1, none⟩ = some (.int .i64 ou) ∧ w'.cell? ⟨K2, 2, none⟩ = some (.int .i64 tt) ∧ Below w.heap.size w w' from fun w' hb => ⟨(Blk.cell (bK27.below hb bK27.lt) 0).trans rfl, (Blk.cell (bK27.below hb bK27.lt) 1).trans rfl, (Blk.cell (bK27.below hb bK27.lt) 2).trans rfl, hbel7.trans (hb.mono hbel7.size)⟩)
        have HWD := Lib.hid (show ∀ w', Below w7.heap.size w7 w' → Calls Tryd.prog 12 #[.string t] w' fun e w2 => e = .returned (.bool true) ∧ Below w'.heap.size w' w2 from fun w' hb => by
          have := word_any t w' (by omega) (HT.out.below (hbel7.trans (hb.mono hbel7.size)))
          rw [hwt] at this
          exact this)
        have htt : tt < (i : Int) := by omega
        clear ht hwt hts hb7 hbel6 bK26 bK27 hbel7 HB6 HTX hf f0 f1 f2
        go_wp2_with fail
        refine (HWD.out w7 (Below.refl _ _)).mono ?_
        rintro e w8 ⟨rfl, hb8⟩
        obtain ⟨z0, z1, z2, hbel8⟩ := HCE.out w8 hb8
        have HB8 := Lib.hid hbel8
        clear hb8 hbel8 y0 y1 y2 HCE HWD
        go_wp2_with fail
        exact ⟨⟨j + 1, la, rfl, by omega, by rw [HN.out.2], rfl, rfl, Lib.hid HN.out.1, HB8⟩, by simp only [intOf]; omega⟩
      · have hje : j = n := by omega
        subst hje
        have hz := HZ.out
        rw [List.take_of_length_le (by omega), hz]
        go_wp2_with fail
        go_ret
        exact ⟨rfl, HBL.out⟩
end Go.Proofs.YtkibkbbjpgomlaaDoor.F
