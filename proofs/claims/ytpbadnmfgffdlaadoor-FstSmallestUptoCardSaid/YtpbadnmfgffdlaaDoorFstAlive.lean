/-
  alive.
-/
import Derived.Test.YtpbadnmfgffdlaaDoorFstBuild
namespace Go.Proofs.YtpbadnmfgffdlaaDoor.F
open Go.RowKit Go.Shelf Go.Maps
open Aid L LM
set_option linter.unusedSimpArgs false
set_option linter.unusedVariables false

def aliveL : List Wd := [(⟨#[97, 98]⟩, 5), (⟨#[98]⟩, 2), (⟨#[99, 98]⟩, 9)]
theorem alive_f : ∃ S s A, buildF aliveL = ((2, S), 0) ∧ S.length = 3 ∧ S[2]? = some s ∧ s.arcs = A ∧ A.length = 3 ∧ A[2]? = some ⟨99, 7, 1⟩ := by
  have w1 : wordB ⟨#[97, 98]⟩ = true := by decide +kernel
  have w2 : wordB ⟨#[98]⟩ = true := by decide +kernel
  have w3 : wordB ⟨#[99, 98]⟩ = true := by decide +kernel
  have l1 : Op.bytesLess (⟨#[97, 98]⟩ : ByteArray).toList (⟨#[98]⟩ : ByteArray).toList = true := by rw [toList_eq, toList_eq]; decide +kernel
  have l2 : Op.bytesLess (⟨#[98]⟩ : ByteArray).toList (⟨#[99, 98]⟩ : ByteArray).toList = true := by rw [toList_eq, toList_eq]; decide +kernel
  have he : buildE aliveL = 0 := by
    unfold buildE
    rw [if_neg (by decide)]
    unfold aliveL
    rw [errF_ok ⟨w1, by decide, by decide, fun y e => by cases e⟩, errF_ok ⟨w2, by decide, by decide, fun y e => by cases e; exact l1⟩, errF_ok ⟨w3, by decide, by decide, fun y e => by cases e; exact l2⟩]
    rfl
  have hm : makeF aliveL = (2, [⟨true, 0, []⟩, ⟨false, 0, [⟨98, 0, 0⟩]⟩, ⟨false, 0, [⟨97, 3, 1⟩, ⟨98, 0, 0⟩, ⟨99, 7, 1⟩]⟩]) := by decide +kernel
  unfold buildF
  rw [if_pos he, hm]
  exact ⟨_, _, _, rfl, rfl, rfl, rfl, rfl, rfl⟩
set_option maxRecDepth 100000 in
set_option maxHeartbeats 2000000 in
theorem alive_any (w : World) (T : Tab w) : Calls Tryd.prog 12 #[] w fun e w' => e = .returned (.bool true) ∧ Below w.heap.size w w' := by
  obtain ⟨S, s, A, hbf, hS, hs, rfl, hA, h2⟩ := alive_f
  obtain ⟨W1, hW1⟩ : ∃ W1, w.alloc (.cells #[.string ⟨#[97, 98]⟩, .int .i64 5, .string ⟨#[98]⟩, .int .i64 2, .string ⟨#[99, 98]⟩, .int .i64 9] 40) = W1 := ⟨_, rfl⟩
  have hb1 : Below w.heap.size w W1 := by rw [← hW1]; exact (Below.refl _ _).alloc (Nat.le_refl _) _
  have bB : Blk W1 w.heap.size 40 #[.string ⟨#[97, 98]⟩, .int .i64 5, .string ⟨#[98]⟩, .int .i64 2, .string ⟨#[99, 98]⟩, .int .i64 9] := by rw [← hW1]; exact Blk.alloc_new _ _ _
  have hP : PairsIn W1 (.slice (some ⟨w.heap.size, 0, none⟩) 3 3) aliveL := by
    refine ⟨_, 3, rfl, by decide, by decide, ?_, ?_⟩
    · intro x hx
      simp only [aliveL, List.mem_cons, List.not_mem_nil, or_false] at hx
      rcases hx with rfl | rfl | rfl
      all_goals exact ⟨by decide, (i64_iff _).2 (by decide)⟩
    · intro j x hj
      match j, hj with
      | 0, hj => cases hj; exact ⟨_, 0, rfl, bB.lt, (Blk.cell bB 0).trans rfl, (Blk.cell bB 1).trans rfl⟩
      | 1, hj => cases hj; exact ⟨_, 0, rfl, bB.lt, (Blk.cell bB 2).trans rfl, (Blk.cell bB 3).trans rfl⟩
      | 2, hj => cases hj; exact ⟨_, 0, rfl, bB.lt, (Blk.cell bB 4).trans rfl, (Blk.cell bB 5).trans rfl⟩
      | j + 3, hj => simp [aliveL] at hj
  have hbuild := build_any _ aliveL W1 hP (T.below hb1)
  unfold BuildIs at hbuild
  rw [hbf] at hbuild
  dsimp only at hbuild
  have HBD := Lib.hid hbuild
  have HB1 := Lib.hid hb1
  clear hbuild hP bB hb1 hbf
  go_enter Tryd.func12, Tryd.ntmps12
  go_upto_region 2 with (go_at_call 13; refine HBD.out.mono ?_; rintro e w2 ⟨sv, rfl, hSt, hb2⟩; obtain ⟨sa, sc, rfl⟩ := hSt.slice; rw [hS] at hSt)
  obtain ⟨g, off, u, rfl, hg, _, c0, c1, c2, hu⟩ := hSt.at_ hs
  obtain ⟨ua, uc, rfl⟩ := hu.slice
  rw [hA] at hu c2
  obtain ⟨gu, offu, rfl, hgu, _, hcu⟩ := hu.at_ h2
  obtain ⟨W3, hW3⟩ : ∃ W3, w2.alloc (.cells #[.int .i64 2, .slice (some ⟨g, off, none⟩) 3 sc] 27) = W3 := ⟨_, rfl⟩
  have hb3 : Below w2.heap.size w2 W3 := by rw [← hW3]; exact (Below.refl _ _).alloc (Nat.le_refl _) _
  have bM : Blk W3 w2.heap.size 27 #[.int .i64 2, .slice (some ⟨g, off, none⟩) 3 sc] := by rw [← hW3]; exact Blk.alloc_new _ _ _
  have m0 : W3.cell? ⟨w2.heap.size, 0, none⟩ = some (.int .i64 2) := (Blk.cell bM 0).trans rfl
  have m1 : W3.cell? ⟨w2.heap.size, 1, none⟩ = some (.slice (some ⟨g, off, none⟩) 3 sc) := (Blk.cell bM 1).trans rfl
  have k2 := (hb3.cell (p := ⟨g, off + 2 * 3 + 2, none⟩) hg).trans c2
  have a0 : W3.cell? ⟨gu, offu + 6, none⟩ = some (.int .i32 99) := (hb3.cell (p := ⟨gu, offu + 6, none⟩) hgu).trans (hcu 0 (by decide))
  have a1 : W3.cell? ⟨gu, offu + 7, none⟩ = some (.int .i64 7) := (hb3.cell (p := ⟨gu, offu + 7, none⟩) hgu).trans (hcu 1 (by decide))
  have a2 : W3.cell? ⟨gu, offu + 8, none⟩ = some (.int .i64 1) := (hb3.cell (p := ⟨gu, offu + 8, none⟩) hgu).trans (hcu 2 (by decide))
  have k2' : W3.cell? ⟨g, off + 8, none⟩ = some (.slice (some ⟨gu, offu, none⟩) 3 uc) := k2
  have hend : Below w.heap.size w W3 := HB1.out.trans ((hb2.trans (hb3.mono hb2.size)).mono HB1.out.size)
  clear hcu hb3 bM k2 c0 c1 c2 hSt hu hb2
  go_wp2_with fail
  go_ret
  exact ⟨rfl, hend⟩
end Go.Proofs.YtpbadnmfgffdlaaDoor.F
