/-
  The walk of the reference's Grant, and of the law over votes.
-/
import Derived.Test.YtmokfpjiibociaaRulLawsB
namespace Go.Proofs.Ytmokfpjiibociaa.R
open Go.RowKit
open Aid
set_option linter.unusedSimpArgs false
set_option linter.unusedVariables false

theorem mid_blk (w : World) (c d : Array Value) (t : TypeId) (o : Obj) : Blk (((w.alloc (.cells c t)).alloc (.cells d t)).alloc o) (w.heap.size + 1) t d :=
  Blk.below (two_blk w c d t) ((Below.refl _ _).alloc (Nat.le_refl _) _) (by simp)
theorem three_below (w : World) (o p q : Obj) : Below w.heap.size w (((w.alloc o).alloc p).alloc q) := (two_below w o p).alloc (by simp; omega) _

set_option maxRecDepth 100000 in
set_option maxHeartbeats 2000000 in
theorem rgrant_any (ht hv t c : Int) (n : Bool) (w : World) :
    Calls Try.prog 19 #[.agg #[.int .u64 ht, .int .i64 hv], .int .u64 t, .int .i64 c, .bool n] w fun e w' => e = .returned (.tuple #[.agg (hardA (grantF ht hv t c n).1.1 (grantF ht hv t c n).1.2), .bool (grantF ht hv t c n).2]) ∧ Below w.heap.size w w' := by
  by_cases h1 : t < ht
  · have HG : Hid (grantF ht hv t c n = ((ht, hv), false)) := by show _ = _; unfold grantF; rw [if_pos h1]
    rw [HG.out]
    clear HG
    go_enter Try.func19, Try.ntmps19
    go_wp2_with fail
    refine bodyPost_ret (results_cellT rfl _ _ (w.heap.size + 1) rfl _ rfl _ _ (two_blk _ _ _ _) _ Try.underlying30 rfl (size_hard _ _)) rfl ?_
    exact ⟨rfl, two_below _ _ _⟩
  · by_cases h2 : ht < t
    · have hn : (t != ht) = true := by simp; omega
      cases n
      · skip
        have HG : Hid (grantF ht hv t c false = ((t, -1), false)) := by show _ = _; simp [grantF, h1, h2]
        rw [HG.out]
        clear HG
        go_enter Try.func19, Try.ntmps19
        go_wp2_with fail
        refine bodyPost_ret (results_cellT rfl _ _ (w.heap.size + 1) rfl _ rfl _ _ (mid_blk _ _ _ _ _) _ Try.underlying30 rfl (size_hard _ _)) rfl ?_
        exact ⟨rfl, three_below _ _ _ _⟩
      · skip
        have HG : Hid (grantF ht hv t c true = ((t, c), true)) := by show _ = _; simp [grantF, h1, h2]
        rw [HG.out]
        clear HG
        go_enter Try.func19, Try.ntmps19
        go_wp2_with fail
        refine bodyPost_ret (results_cellT rfl _ _ (w.heap.size + 1) rfl _ rfl _ _ (mid_blk _ _ _ _ _) _ Try.underlying30 rfl (size_hard _ _)) rfl ?_
        exact ⟨rfl, three_below _ _ _ _⟩
    · have he : t = ht := by omega
      subst he
      have hn : (t != t) = false := by simp
      cases n
      · skip
        have HG : Hid (grantF t hv t c false = ((t, hv), false)) := by show _ = _; simp [grantF]
        rw [HG.out]
        clear HG
        go_enter Try.func19, Try.ntmps19
        go_wp2_with fail
        refine bodyPost_ret (results_cellT rfl _ _ (w.heap.size + 1) rfl _ rfl _ _ (mid_blk _ _ _ _ _) _ Try.underlying30 rfl (size_hard _ _)) rfl ?_
        exact ⟨rfl, three_below _ _ _ _⟩
      · by_cases hv1 : hv = -1
        · have hb1 : (hv == -1) = true := by rw [beq_iff_eq]; exact hv1
          have hb2' : (hv != -1) = false := by simp [hv1]
          have HG : Hid (grantF t hv t c true = ((t, c), true)) := by show _ = _; simp [grantF, hv1]
          rw [HG.out]
          clear HG
          clear hv1
          go_enter Try.func19, Try.ntmps19
          go_wp2_with fail
          refine bodyPost_ret (results_cellT rfl _ _ (w.heap.size + 1) rfl _ rfl _ _ (mid_blk _ _ _ _ _) _ Try.underlying30 rfl (size_hard _ _)) rfl ?_
          exact ⟨rfl, three_below _ _ _ _⟩
        · have hb1 : (hv == -1) = false := by rw [beq_eq_false_iff_ne]; exact hv1
          have hb2' : (hv != -1) = true := by simp [hv1]
          by_cases hvc : hv = c
          · have hb3' : (hv == c) = true := by rw [beq_iff_eq]; exact hvc
            have hb4' : (hv != c) = false := by simp [hvc]
            have HG : Hid (grantF t hv t c true = ((t, c), true)) := by show _ = _; simp [grantF, hvc]
            rw [HG.out]
            clear HG
            clear hv1 hvc
            go_enter Try.func19, Try.ntmps19
            go_wp2_with fail
            refine bodyPost_ret (results_cellT rfl _ _ (w.heap.size + 1) rfl _ rfl _ _ (mid_blk _ _ _ _ _) _ Try.underlying30 rfl (size_hard _ _)) rfl ?_
            exact ⟨rfl, three_below _ _ _ _⟩
          · have hb3' : (hv == c) = false := by rw [beq_eq_false_iff_ne]; exact hvc
            have hb4' : (hv != c) = true := by simp [hvc]
            have HG : Hid (grantF t hv t c true = ((t, hv), false)) := by show _ = _; simp [grantF, hv1, hvc]
            rw [HG.out]
            clear HG
            clear hv1 hvc
            go_enter Try.func19, Try.ntmps19
            go_wp2_with fail
            refine bodyPost_ret (results_cellT rfl _ _ (w.heap.size + 1) rfl _ rfl _ _ (mid_blk _ _ _ _ _) _ Try.underlying30 rfl (size_hard _ _)) rfl ?_
            exact ⟨rfl, three_below _ _ _ _⟩

set_option maxRecDepth 100000 in
set_option maxHeartbeats 1000000 in
theorem grants_law (ht hv t c : Int) (n : Bool) (w : World) : Calls Try.prog 5 #[.agg #[.int .u64 ht, .int .i64 hv], .agg #[.int .u64 t, .int .i64 c, .bool n]] w (TrueIn w) := by
  obtain ⟨g1, g2, ok, hg⟩ : ∃ g1 g2 ok, grantF ht hv t c n = ((g1, g2), ok) := ⟨_, _, _, rfl⟩
  have HG := Lib.hid hg
  clear hg
  go_enter Try.func5, Try.ntmps5
  go_wp2_with fail
  obtain ⟨A, hA⟩ : ∃ A, w.heap.size = A := ⟨_, rfl⟩
  obtain ⟨B, hB⟩ : ∃ B, w.heap.size + 1 = B := ⟨_, rfl⟩
  obtain ⟨wa, hwa⟩ : ∃ wa, (w.alloc (.cells #[.int .u64 ht, .int .i64 hv] 30)).alloc (.cells #[.int .u64 t, .int .i64 c, .bool n] 32) = wa := ⟨_, rfl⟩
  have hb : Below A w wa := by rw [← hwa, ← hA]; exact two_below _ _ _
  have hsz : wa.heap.size = B + 1 := by rw [← hwa]; simp [← hB]
  have hAB : A < B := by omega
  have x0 : wa.cell? ⟨A, 0, none⟩ = some (.int .u64 ht) := by rw [← hwa]; exact ((two_new w _ _ _ A hA.symm).below ((Below.refl _ _).alloc (Nat.le_refl _) _) (by simp; omega)).1
  have x1 : wa.cell? ⟨A, 1, none⟩ = some (.int .i64 hv) := by rw [← hwa]; exact ((two_new w _ _ _ A hA.symm).below ((Below.refl _ _).alloc (Nat.le_refl _) _) (by simp; omega)).2
  have x2 : wa.cell? ⟨B, 0, none⟩ = some (.int .u64 t) := by rw [← hwa, World.cell?_alloc_at _ _ _ _ (by simp; omega)]; rfl
  have x3 : wa.cell? ⟨B, 1, none⟩ = some (.int .i64 c) := by rw [← hwa, World.cell?_alloc_at _ _ _ _ (by simp; omega)]; rfl
  have x4 : wa.cell? ⟨B, 2, none⟩ = some (.bool n) := by rw [← hwa, World.cell?_alloc_at _ _ _ _ (by simp; omega)]; rfl
  simp only [hwa]
  simp only [hB]
  simp only [hA]
  have HA := Lib.hid hA
  clear hA hB hwa
  go_wp2_with fail
  refine (grant_any ht hv t c n _).mono ?_
  rintro e w1 ⟨he, hb1⟩
  rw [HG.out] at he
  subst he
  have hb1' : Below A w w1 := hb.trans (hb1.mono (by omega))
  have hs1 := hb1.size
  have y0 := (hb1.cell (p := ⟨A, 0, none⟩) (by show A < wa.heap.size; omega)).trans x0
  have y1 := (hb1.cell (p := ⟨A, 1, none⟩) (by show A < wa.heap.size; omega)).trans x1
  have y2 := (hb1.cell (p := ⟨B, 0, none⟩) (by show B < wa.heap.size; omega)).trans x2
  have y3 := (hb1.cell (p := ⟨B, 1, none⟩) (by show B < wa.heap.size; omega)).trans x3
  have y4 := (hb1.cell (p := ⟨B, 2, none⟩) (by show B < wa.heap.size; omega)).trans x4
  have hB1 : B < w1.heap.size := by omega
  clear x0 x1 x2 x3 x4 hb hb1 hs1 hsz
  simp only [hardA]
  obtain ⟨D, hD⟩ : ∃ D, w1.heap.size = D := ⟨_, rfl⟩
  have hbX : Below D w1 (w1.alloc (.cells #[.int .u64 g1, .int .i64 g2] 30)) := by rw [← hD]; exact (Below.refl _ _).alloc (Nat.le_refl _) _
  have hsX : (w1.alloc (.cells #[.int .u64 g1, .int .i64 g2] 30)).heap.size = D + 1 := by simp [hD]
  have hTX := two_new w1 (.int .u64 g1) (.int .i64 g2) 30 D hD.symm
  have hBD : B < D := by omega
  have z0 := (hbX.cell (p := ⟨A, 0, none⟩) (by show A < D; omega)).trans y0
  have z1 := (hbX.cell (p := ⟨A, 1, none⟩) (by show A < D; omega)).trans y1
  have z2 := (hbX.cell (p := ⟨B, 0, none⟩) hBD).trans y2
  have z3 := (hbX.cell (p := ⟨B, 1, none⟩) hBD).trans y3
  have z4 := (hbX.cell (p := ⟨B, 2, none⟩) hBD).trans y4
  have hb2' : Below A w (w1.alloc (.cells #[.int .u64 g1, .int .i64 g2] 30)) := hb1'.trans (hbX.mono (by omega))
  clear y0 y1 y2 y3 y4 hb1' hbX hB1
  go_wp2_with fail
  refine (rgrant_any ht hv t c n _).mono ?_
  rintro e w2 ⟨he, hb2⟩
  rw [HG.out] at he
  subst he
  have hs2 := hb2.size
  rw [hsX] at hb2 hs2
  have hb3' : Below A w w2 := hb2'.trans (hb2.mono (by omega))
  have hT2 : Two w2 D (.int .u64 g1) (.int .i64 g2) := hTX.below hb2 (by omega)
  simp only [hD]
  clear z0 z1 z2 z3 z4 hTX hb2 hb2' hsX hD
  have hbY : Below w2.heap.size w2 (w2.alloc (.cells #[.int .u64 g1, .int .i64 g2] 30)) := by exact (Below.refl _ _).alloc (Nat.le_refl _) _
  have hsY : (w2.alloc (.cells #[.int .u64 g1, .int .i64 g2] 30)).heap.size = w2.heap.size + 1 := by simp
  have hTY := two_new w2 (.int .u64 g1) (.int .i64 g2) 30 w2.heap.size rfl
  have hTD := hT2.below hbY (by omega)
  have hb4' : Below A w (w2.alloc (.cells #[.int .u64 g1, .int .i64 g2] 30)) := hb3'.trans (hbY.mono (by omega))
  have hDE : D < w2.heap.size := by omega
  simp only [hardA]
  clear hT2 hbY hb3'
  go_wp2_with (first
    | (go_at_call 15; refine (alive_any _).mono ?_; rintro e w3 ⟨rfl, hb3⟩; have hs3 := hb3.size; rw [hsY] at hb3 hs3; have hbA : Below A w w3 := hb4'.trans (hb3.mono (by omega)); have k0 := (hTD.below hb3 (by omega)).1; have k1 := (hTD.below hb3 (by omega)).2; have k2 := (hTY.below hb3 (by omega)).1; have k3 := (hTY.below hb3 (by omega)).2))
  all_goals go_ret
  all_goals exact ⟨ret_bool (by simp), by rw [HA.out]; exact hbA⟩
end Go.Proofs.Ytmokfpjiibociaa.R
