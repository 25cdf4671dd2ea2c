/-
  WdKey.
-/
import Derived.Test.YtkibkbbjpgomlaaDoorWqWdAlike
import Derived.Test.YtkibkbbjpgomlaaDoorWqA
namespace Go.Proofs.YtkibkbbjpgomlaaDoor.F
open Go.RowKit Go.Shelf Go.Maps
open Aid L LM
set_option linter.unusedSimpArgs false
set_option linter.unusedVariables false
attribute [local go_sem] Oper.semAt_some

def KeyEnd (w : World) (e : Ending) (w' : World) : Prop := ∃ a b c d, e = .returned (.agg #[.int .i64 a, .int .i64 b, .int .i64 c, .int .i64 d]) ∧ i64 a ∧ i64 b ∧ i64 c ∧ i64 d ∧ Below w.heap.size w w'
theorem below_setW {B g : Nat} {w W : World} {j : Nat} {v : Value} (h : Below B w W) (hg : B ≤ g) : Below B w (W.setCell ⟨g, j, none⟩ v) := h.setCell (p := ⟨g, j, none⟩) hg v
theorem size_key : (Tryd.prog.info? 86).map (·.size) = some 4 := by kernel_rfl
theorem i64_w (x : Int) : i64 (wrap64 x) := wrap64_wf x
set_option maxRecDepth 100000 in
set_option maxHeartbeats 4000000 in
theorem key_any (O : Nat → Prop) (s : StM) (u : Value) (w : World) (h : ArcsAre O w u s.arcs) (hs : i64 s.out) :
    Calls Tryd.prog 34 #[.agg (stV s u)] w (KeyEnd w) := by
  obtain ⟨a, cp, rfl⟩ := h.slice
  obtain ⟨fin, out, A⟩ := s
  unfold stV
  dsimp only at h hs ⊢
  have hl : A.length ≤ 1000000 := by obtain ⟨_, _, _, h, _⟩ := h; exact h
  obtain ⟨n, hn⟩ : ∃ n, A.length = n := ⟨_, rfl⟩
  rw [hn] at h hl
  rw [hn]
  have HS := Lib.hid hs
  clear hs
  obtain ⟨Q, hQ⟩ : ∃ Q, w.heap.size = Q := ⟨_, rfl⟩
  obtain ⟨W1, hW1⟩ : ∃ W1, ((w.alloc (.cells #[.bool fin, .int .i64 out, .slice a n cp] 61)).alloc (.cells #[.int .i64 0, .int .i64 0, .int .i64 0, .int .i64 0] 86)).alloc (.cells #[.int .i64 out, .int .i64 n, .int .i64 0, .int .i64 0] 86) = W1 := ⟨_, rfl⟩
  have hb1 : Below w.heap.size w W1 := by rw [← hW1]; exact (two_under _ _ _).alloc (by simp; omega) _
  have bQ1 : Blk W1 (Q + 1) 86 #[.int .i64 0, .int .i64 0, .int .i64 0, .int .i64 0] := by rw [← hW1, ← hQ]; exact (two_blk _ _ _ _).below ((Below.refl _ _).alloc (Nat.le_refl _) _) (by simp)
  have bQ2 : Blk W1 (Q + 1 + 1) 86 #[.int .i64 out, .int .i64 n, .int .i64 0, .int .i64 0] := by
    rw [← hW1, ← hQ]
    have := Blk.alloc_new ((w.alloc (.cells #[.bool fin, .int .i64 out, .slice a n cp] 61)).alloc (.cells #[.int .i64 0, .int .i64 0, .int .i64 0, .int .i64 0] 86)) #[.int .i64 out, .int .i64 n, .int .i64 0, .int .i64 0] 86
    simpa using this
  have HB := Lib.hid (And.intro hb1 (And.intro bQ1 bQ2))
  have HW1 := Lib.hid hW1
  have HQ := Lib.hid hQ
  clear hb1 bQ1 bQ2 hW1 hQ
  go_enter Tryd.func34, Tryd.ntmps34
  go_wp2_with fail
  have hQ := HQ.out
  rw [HW1.out, hQ]
  go_loopw [15] (fun x15 wr => ∃ (j : Nat) (c d : Int), x15 = .int .i64 j ∧ j ≤ n ∧ i64 c ∧ i64 d ∧ Below Q w wr ∧ Blk wr (Q + 1) 86 #[.int .i64 0, .int .i64 0, .int .i64 0, .int .i64 0] ∧ Blk wr (Q + 1 + 1) 86 #[.int .i64 out, .int .i64 n, .int .i64 c, .int .i64 d]) (fun x15 _ => n - (intOf x15).toNat)
  case atStart => exact ⟨0, 0, 0, rfl, Nat.zero_le _, by unfold i64; decide, by unfold i64; decide, by rw [← hQ]; exact HB.out.1, HB.out.2.1, HB.out.2.2⟩
  case round =>
    obtain ⟨j, c, d, rfl, hj, hc, hd, hb, hB1, hB2⟩ := hrel
    by_cases hlt : (j : Int) < (n : Int)
    · obtain ⟨x, hx⟩ : ∃ x, A[j]? = some x := ⟨_, List.getElem?_eq_getElem (by omega)⟩
      obtain ⟨g, off, ea, hg, _, hcl⟩ := h.at_ hx
      subst ea
      obtain ⟨la, ou, tt⟩ := x
      rw [hQ] at hg
      have f0 : wr.cell? ⟨g, off + j * 3, none⟩ = some (.int .i32 la) := (hb.cell (p := ⟨g, off + j * 3, none⟩) hg).trans (hcl 0 (by show 0 < 3; omega))
      have f1 : wr.cell? ⟨g, off + j * 3 + 1, none⟩ = some (.int .i64 ou) := (hb.cell (p := ⟨g, off + j * 3 + 1, none⟩) hg).trans (hcl 1 (by show 1 < 3; omega))
      have f2 : wr.cell? ⟨g, off + j * 3 + 2, none⟩ = some (.int .i64 tt) := (hb.cell (p := ⟨g, off + j * 3 + 2, none⟩) hg).trans (hcl 2 (by show 2 < 3; omega))
      have hf := three_cells f0 f1 f2
      obtain ⟨K2, hK2⟩ : ∃ K2, wr.heap.size = K2 := ⟨_, rfl⟩
      obtain ⟨W5, hW5⟩ : ∃ W5, wr.alloc (.cells #[.int .i32 la, .int .i64 ou, .int .i64 tt] 63) = W5 := ⟨_, rfl⟩
      have hb5 : Below wr.heap.size wr W5 := by rw [← hW5]; exact (Below.refl _ _).alloc (Nat.le_refl _) _
      have bK2 : Blk W5 K2 63 #[.int .i32 la, .int .i64 ou, .int .i64 tt] := by rw [← hW5, ← hK2]; exact Blk.alloc_new _ _ _
      have hB15 := hB1.below hb5 hB1.lt
      have hB25 := hB2.below hb5 hB2.lt
      have hne : Q + 1 + 1 ≠ K2 := by have := hB2.lt; omega
      have z0 : W5.cell? ⟨K2, 0, none⟩ = some (.int .i32 la) := (Blk.cell bK2 0).trans rfl
      have z1 : W5.cell? ⟨K2, 1, none⟩ = some (.int .i64 ou) := (Blk.cell bK2 1).trans rfl
      have y2 : W5.cell? ⟨Q + 1 + 1, 2, none⟩ = some (.int .i64 c) := (Blk.cell hB25 2).trans rfl
      have y2f := Blk.free hB25 2
      have HBW := Lib.hid (And.intro hb (And.intro hB15 (And.intro hB25 (And.intro bK2 hb5))))
      clear hcl hx hB1 hB2 hc hb hB15 hB25 bK2 hb5
      go_upto_region 6 with fail
      obtain ⟨c', hc'⟩ : ∃ c', wrap64 (wrap64 (wrap64 (c * 31) + wrap64 la) + ou) = c' := ⟨_, rfl⟩
      obtain ⟨W6, hW6⟩ : ∃ W6, W5.setCell ⟨Q + 1 + 1, 2, none⟩ (.int .i64 c') = W6 := ⟨_, rfl⟩
      rw [hc', hW6]
      have hi1 : i64 c' := by rw [← hc']; exact i64_w _
      obtain ⟨hb, hB15, hB25, bK2, hb5⟩ := HBW.out
      have hQK : Q ≤ K2 := by rw [← hK2]; exact Nat.le_trans (by rw [← hQ]; exact Nat.le_refl _) hb.size
      have bK6 : Blk W6 K2 63 #[.int .i32 la, .int .i64 ou, .int .i64 tt] := by rw [← hW6]; exact bK2.other (a := ⟨Q + 1 + 1, 2, none⟩) hne _
      have hB16 : Blk W6 (Q + 1) 86 #[.int .i64 0, .int .i64 0, .int .i64 0, .int .i64 0] := by rw [← hW6]; exact hB15.other (a := ⟨Q + 1 + 1, 2, none⟩) (by show Q + 1 + 1 ≠ Q + 1; omega) _
      have hB26 : Blk W6 (Q + 1 + 1) 86 #[.int .i64 out, .int .i64 n, .int .i64 c', .int .i64 d] := by rw [← hW6]; exact hB25.set 2 _
      have hb6 : Below Q w W6 := by rw [← hW6]; exact below_setW (hb.trans (hb5.mono (by rw [← hQ]; exact hb.size))) (by omega)
      have z2 : W6.cell? ⟨K2, 2, none⟩ = some (.int .i64 tt) := (Blk.cell bK6 2).trans rfl
      have y3 : W6.cell? ⟨Q + 1 + 1, 3, none⟩ = some (.int .i64 d) := (Blk.cell hB26 3).trans rfl
      have y3f := Blk.free hB26 3
      have HB6 := Lib.hid (And.intro hb6 (And.intro hB16 (And.intro hB26 hi1)))
      clear hb hB15 hB25 bK2 hb5 bK6 hB16 hB26 hb6 hi1 hc' hW6 z0 z1 y2 y2f hf f0 f1 f2 HBW
      go_wp2_with fail
      obtain ⟨d', hd'⟩ : ∃ d', wrap64 (wrap64 (d * 37) + tt) = d' := ⟨_, rfl⟩
      have hi2 : i64 d' := by rw [← hd']; exact i64_w _
      rw [hd']
      obtain ⟨hb6, hB16, hB26, hi1⟩ := HB6.out
      exact ⟨⟨j + 1, c', d', rfl, by omega, hi1, hi2, below_setW hb6 (by omega), hB16.other (a := ⟨Q + 1 + 1, 3, none⟩) (by show Q + 1 + 1 ≠ Q + 1; omega) _, hB26.set 3 _⟩, by simp [intOf]; omega⟩
    · have r0 : wr.cell? ⟨Q + 1 + 1, 0, none⟩ = some (.int .i64 out) := (Blk.cell hB2 0).trans rfl
      have r1 : wr.cell? ⟨Q + 1 + 1, 1, none⟩ = some (.int .i64 n) := (Blk.cell hB2 1).trans rfl
      have r2 : wr.cell? ⟨Q + 1 + 1, 2, none⟩ = some (.int .i64 c) := (Blk.cell hB2 2).trans rfl
      have r3 : wr.cell? ⟨Q + 1 + 1, 3, none⟩ = some (.int .i64 d) := (Blk.cell hB2 3).trans rfl
      have s0 : wr.cell? ⟨Q + 1, 0, none⟩ = some (.int .i64 0) := (Blk.cell hB1 0).trans rfl
      have s1 : wr.cell? ⟨Q + 1, 1, none⟩ = some (.int .i64 0) := (Blk.cell hB1 1).trans rfl
      have s2 : wr.cell? ⟨Q + 1, 2, none⟩ = some (.int .i64 0) := (Blk.cell hB1 2).trans rfl
      have s3 : wr.cell? ⟨Q + 1, 3, none⟩ = some (.int .i64 0) := (Blk.cell hB1 3).trans rfl
      have g0 := Blk.free hB1 0
      have g1 := Blk.free hB1 1
      have g2 := Blk.free hB1 2
      have g3 := Blk.free hB1 3
      have HBB := Lib.hid (And.intro hb (And.intro hB1 hB2))
      clear hB2 hB1
      go_wp2_with fail
      obtain ⟨hb, hB1, hB2⟩ := HBB.out
      refine bodyPost_ret (results_cellN rfl _ _ (Q + 1) rfl _ _ ((((hB1.set 0 _).set 1 _).set 2 _).set 3 _) _ Tryd.underlying86 rfl size_key) rfl ?_
      refine ⟨out, n, c, d, rfl, HS.out, WalkArith.wf_i64 (by omega), hc, hd, ?_⟩
      rw [hQ]
      exact below_setW (below_setW (below_setW (below_setW hb (by omega)) (by omega)) (by omega)) (by omega)
end Go.Proofs.YtkibkbbjpgomlaaDoor.F
