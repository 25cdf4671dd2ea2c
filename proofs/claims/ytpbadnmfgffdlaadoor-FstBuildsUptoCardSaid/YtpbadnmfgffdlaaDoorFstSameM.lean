/-
  The document's Same of two machines that are the same.
-/
import Derived.Test.YtpbadnmfgffdlaaDoorFstSameS
import Derived.StillTailTactics
namespace Go.Proofs.YtpbadnmfgffdlaaDoor.F
open Go.RowKit Go.Shelf Go.Maps
open Aid L LM
set_option linter.unusedSimpArgs false
set_option linter.unusedVariables false
attribute [local go_sem] Oper.semAt_some

theorem two_blkM (w : World) (o : Obj) (cs : Array Value) (t : TypeId) : Blk ((w.alloc o).alloc (.cells cs t)) (w.heap.size + 1) t cs := two_blk w o cs t
set_option maxRecDepth 100000 in
set_option maxHeartbeats 4000000 in
theorem sameM_eq (B : Int) (S : List StM) (u u' : Value) (w : World) (h : StatesAre (fun _ => False) w u S) (h' : StatesAre (fun _ => False) w u' S) :
    Calls Tryd.prog 15 #[.agg #[.int .i64 B, u], .agg #[.int .i64 B, u']] w fun e w' => e = .returned (.bool true) ∧ Below w.heap.size w w' := by
  obtain ⟨a, c, rfl⟩ := h.slice
  obtain ⟨a', c', rfl⟩ := h'.slice
  have hl := h.len
  obtain ⟨n, hn⟩ : ∃ n, S.length = n := ⟨_, rfl⟩
  rw [hn] at h h' hl ⊢
  obtain ⟨Q, hQ⟩ : ∃ Q, w.heap.size = Q := ⟨_, rfl⟩
  obtain ⟨W1, hW1⟩ : ∃ W1, (w.alloc (.cells #[.int .i64 B, .slice a n c] 27)).alloc (.cells #[.int .i64 B, .slice a' n c'] 27) = W1 := ⟨_, rfl⟩
  have hb1 : Below w.heap.size w W1 := by rw [← hW1]; exact two_under _ _ _
  have b2 : Blk W1 (Q + 1) 27 #[.int .i64 B, .slice a' n c'] := by rw [← hW1, ← hQ]; exact two_blk _ _ _ _
  have b1 : Blk W1 Q 27 #[.int .i64 B, .slice a n c] := by rw [← hW1, ← hQ]; exact (Blk.alloc_new _ _ _).below ((Below.refl _ _).alloc (Nat.le_refl _) _) (by simp)
  have hQ1 := b1.lt
  have hQ2 := b2.lt
  have p0 : W1.cell? ⟨Q, 0, none⟩ = some (.int .i64 B) := (Blk.cell b1 0).trans rfl
  have p1 : W1.cell? ⟨Q, 1, none⟩ = some (.slice a n c) := (Blk.cell b1 1).trans rfl
  have q0 : W1.cell? ⟨Q + 1, 0, none⟩ = some (.int .i64 B) := (Blk.cell b2 0).trans rfl
  have q1 : W1.cell? ⟨Q + 1, 1, none⟩ = some (.slice a' n c') := (Blk.cell b2 1).trans rfl
  have HB1 := Lib.hid hb1
  clear hb1
  go_enter Tryd.func15, Tryd.ntmps15
  go_wp2_with fail
  go_loopw [5, 6] (fun x5 x6 wr => ∃ k : Nat, x5 = .int .i64 k ∧ k ≤ n ∧ Below W1.heap.size W1 wr) (fun x5 _ _ => n - (intOf x5).toNat)
  case atStart => exact ⟨0, rfl, Nat.zero_le _, Below.refl _ _⟩
  case round =>
    obtain ⟨k, rfl, hk, hb⟩ := hrel
    have hbz := hb.size
    have hz1 := HB1.out.size
    have hbw : Below w.heap.size w wr := HB1.out.trans (hb.mono hz1)
    have r1 : wr.cell? ⟨Q, 1, none⟩ = some (.slice a n c) := (hb.cell (p := ⟨Q, 1, none⟩) hQ1).trans p1
    have s1 : wr.cell? ⟨Q + 1, 1, none⟩ = some (.slice a' n c') := (hb.cell (p := ⟨Q + 1, 1, none⟩) hQ2).trans q1
    by_cases hlt : (k : Int) < (n : Int)
    · obtain ⟨s, hs⟩ : ∃ s, S[k]? = some s := ⟨_, List.getElem?_eq_getElem (by omega)⟩
      obtain ⟨g, off, v, rfl, hg, _, c0, c1, c2, hu⟩ := h.at_ hs
      obtain ⟨g', off', v', rfl, hg', _, d0, d1, d2, hu'⟩ := h'.at_ hs
      obtain ⟨ua, uc, rfl⟩ := hu.slice
      obtain ⟨ua', uc', rfl⟩ := hu'.slice
      obtain ⟨m, hm⟩ : ∃ m, s.arcs.length = m := ⟨_, rfl⟩
      rw [hm] at hu hu' c2 d2
      have e0 := (hbw.cell (p := ⟨g, off + k * 3, none⟩) hg).trans c0
      have e1 := (hbw.cell (p := ⟨g, off + k * 3 + 1, none⟩) hg).trans c1
      have e2 := (hbw.cell (p := ⟨g, off + k * 3 + 2, none⟩) hg).trans c2
      have f0 := (hbw.cell (p := ⟨g', off' + k * 3, none⟩) hg').trans d0
      have f1 := (hbw.cell (p := ⟨g', off' + k * 3 + 1, none⟩) hg').trans d1
      have f2 := (hbw.cell (p := ⟨g', off' + k * 3 + 2, none⟩) hg').trans d2
      have he := three_cells e0 e1 e2
      have hf := three_cells f0 f1 f2
      have i0 : (0 : Int) ≤ (k : Int) := by omega
      have hsame := sameS_any (fun _ => False) (fun _ => False) s s (.slice ua m uc) (.slice ua' m uc') wr.drew ((hu.turn (Turn.of_below hbw) (fun _ _ h => h)).turn (Turn.of_below (Below.refl _ _).drew) (fun _ _ h => h)) ((hu'.turn (Turn.of_below hbw) (fun _ _ h => h)).turn (Turn.of_below (Below.refl _ _).drew) (fun _ _ h => h))
      rw [decide_eq_true rfl] at hsame
      unfold stV at hsame
      have HSM := Lib.hid hsame
      have HB := Lib.hid hb
      clear hsame hb hbw hu hu' c0 c1 c2 d0 d1 d2
      go_wp2_with fail
      go_still_tail 10, (by kernel_rfl)
      change wpList _ _ _ _ _ wr.drew
      go_wp2_with (go_at_call 19; refine HSM.out.mono ?_; rintro e wc ⟨rfl, hbc⟩)
      refine ⟨⟨k + 1, by first | rfl | congr 1, by omega, HB.out.trans (((Below.refl _ _).drew.trans hbc).mono hbz)⟩, ?_⟩
      simp [intOf]; omega
    · go_wp2_with fail
      go_ret
      first
        | exact ⟨rfl, hbw⟩
        | exact ⟨rfl, hQ ▸ hbw⟩
end Go.Proofs.YtpbadnmfgffdlaaDoor.F
