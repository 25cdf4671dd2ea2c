/-
  The law FstBuilds: any pairs are refused, or made the machine, that the document says.
-/
import Derived.Test.YtpbadnmfgffdlaaDoorFstRBld
import Derived.Test.YtpbadnmfgffdlaaDoorFstBuild
import Derived.Test.YtpbadnmfgffdlaaDoorFstAlive
import Derived.Test.YtpbadnmfgffdlaaDoorFstSameM
namespace Go.Proofs.YtpbadnmfgffdlaaDoor.F
open Go.RowKit Go.Shelf Go.Maps
open Aid L LM
set_option linter.unusedSimpArgs false
set_option linter.unusedVariables false
attribute [local go_sem] Oper.semAt_some

set_option maxRecDepth 100000 in
set_option maxHeartbeats 4000000 in
theorem builds_law (v : Value) (l : List Wd) (w : World) (h : PairsIn w v l) (T : Tab w) : Calls Tryd.prog 3 #[v] w fun e w' => e = .returned (.bool true) ∧ Below w.heap.size w w' := by
  have hfew := few_any l v w h
  have hbuild := build_any v l w h T
  have hrb := fun (W : World) (hb : Below w.heap.size w W) => rbuild_any v l W (h.below hb)
  unfold BuildIs at hbuild hrb
  obtain ⟨⟨⟨B, S⟩, E⟩, hF⟩ : ∃ p, buildF l = p := ⟨_, rfl⟩
  rw [hF] at hbuild hrb
  dsimp only at hbuild hrb
  obtain ⟨fw, hfw⟩ : ∃ fw, decide (l.length ≤ 300 ∨ 4096 < l.length) = fw := ⟨_, rfl⟩
  rw [hfw] at hfew
  have HFEW := Lib.hid hfew
  have HBD := Lib.hid hbuild
  have HRB := Lib.hid hrb
  clear hfew hbuild hrb hF hfw h
  cases fw
  · go_enter Tryd.func3, Tryd.ntmps3
    go_wp2_with (first
      | (go_at_call 11; refine (HFEW.out).mono ?_; rintro e w1 ⟨rfl, rfl⟩)
      | (go_at_call 12; refine (alive_any _ T).mono ?_; rintro e w4 ⟨rfl, hb4⟩))
    go_ret
    exact ⟨rfl, hb4⟩
  · have hee : (E == E) = true := by simp
    go_enter Tryd.func3, Tryd.ntmps3
    go_upto_region 5 with (first
      | (go_at_call 11; refine (HFEW.out).mono ?_; rintro e w1 ⟨rfl, rfl⟩)
      | (go_at_call 14; refine (HRB.out _ HB2.out).mono ?_; rintro e w3 ⟨rv, rfl, hRt, hb3⟩; obtain ⟨ra, rc, rfl⟩ := hRt.slice; have HRT := Lib.hid hRt; have HB3 := Lib.hid hb3; clear hRt hb3)
      | (go_at_call 13; refine HBD.out.mono ?_; rintro e w2 ⟨sv, rfl, hSt, hb2⟩; obtain ⟨sa, sc, rfl⟩ := hSt.slice; have HST := Lib.hid hSt; have HB2 := Lib.hid (hb2.alloc hb2.size (.cells #[.int .i64 B, .slice sa S.length sc] 27)); have HB2' := Lib.hid hb2; clear hSt hb2))
    obtain ⟨N, hN⟩ : ∃ N, S.length = N := ⟨_, rfl⟩
    obtain ⟨Q, hQ⟩ : ∃ Q, w2.heap.size = Q := ⟨_, rfl⟩
    obtain ⟨R, hR⟩ : ∃ R, w3.heap.size = R := ⟨_, rfl⟩
    obtain ⟨W2, hW2⟩ : ∃ W2, w2.alloc (.cells #[.int .i64 B, .slice sa S.length sc] 27) = W2 := ⟨_, rfl⟩
    rw [hW2] at HB2 HB3
    have b2 : Blk W2 Q 27 #[.int .i64 B, .slice sa S.length sc] := by rw [← hW2, ← hQ]; exact Blk.alloc_new _ _ _
    have hb22 : Below w2.heap.size w2 W2 := by rw [← hW2]; exact (Below.refl _ _).alloc (Nat.le_refl _) _
    obtain ⟨W3, hW3⟩ : ∃ W3, w3.alloc (.cells #[.int .i64 B, .slice ra S.length rc] 27) = W3 := ⟨_, rfl⟩
    have b3 : Blk W3 R 27 #[.int .i64 B, .slice ra S.length rc] := by rw [← hW3, ← hR]; exact Blk.alloc_new _ _ _
    have hb33 : Below w3.heap.size w3 W3 := by rw [← hW3]; exact (Below.refl _ _).alloc (Nat.le_refl _) _
    have hz2 := HB2.out.size
    have hz3 := HB3.out.size
    have hbw3 : Below w.heap.size w W3 := (HB2.out.trans (HB3.out.mono hz2)).trans (hb33.mono (by omega))
    have hb23 : Below W2.heap.size W2 W3 := HB3.out.trans (hb33.mono hz3)
    have bQ := b2.below hb23 b2.lt
    have T3 := T.below hbw3
    have hst3 := (HST.out.below hb22).below hb23
    have hrt3 := HRT.out.below hb33
    have hbz3 := hbw3.size
    have hQl := bQ.lt
    have hRl := b3.lt
    rw [hN] at bQ b3
    try rw [hW2]
    try rw [hW3]
    try rw [hQ]
    try rw [hR]
    have HSS : Hid (∀ W, Below W3.heap.size W3 W → Calls Tryd.prog 15 #[.agg #[.int .i64 B, .slice sa N sc], .agg #[.int .i64 B, .slice ra N rc]] W fun e w' => e = .returned (.bool true) ∧ Below W.heap.size W w') := by
      intro W hb
      have := sameM_eq B S (.slice sa S.length sc) (.slice ra S.length rc) W (hst3.below hb) (hrt3.below hb)
      rw [hN] at this
      exact this
    have HBW3 := Lib.hid hbw3
    clear hst3 hrt3 hb23 hb33 hb22 b2 hW2 hW3 hbw3 hN hQ hR HST HRT HB2' HBD HRB HFEW
    go_wp2_with (first
      | (go_at_call 12; refine (alive_any _ T3).mono ?_; rintro e w5 ⟨rfl, hb5⟩; have hz5 := hb5.size; have q5 := bQ.below hb5 hQl; have r5 := b3.below hb5 hRl; have m0 : w5.cell? ⟨Q, 0, none⟩ = some (.int .i64 B) := (Blk.cell q5 0).trans rfl; have m1 : w5.cell? ⟨Q, 1, none⟩ = some (.slice sa N sc) := (Blk.cell q5 1).trans rfl; have n0 : w5.cell? ⟨R, 0, none⟩ = some (.int .i64 B) := (Blk.cell r5 0).trans rfl; have n1 : w5.cell? ⟨R, 1, none⟩ = some (.slice ra N rc) := (Blk.cell r5 1).trans rfl; have hq5 := two_cells m0 m1; have hr5 := two_cells n0 n1)
      | (go_at_call 15; refine (HSS.out _ hb5).mono ?_; rintro e w6 ⟨rfl, hb6⟩))
    go_ret
    exact ⟨rfl, HBW3.out.trans ((hb5.trans (hb6.mono hz5)).mono hbz3)⟩
end Go.Proofs.YtpbadnmfgffdlaaDoor.F
