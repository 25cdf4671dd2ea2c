/-
  The walk of the laws' own alive.
-/
import Derived.Test.YtmokfpjiibociaaRulGrant
namespace Go.Proofs.Ytmokfpjiibociaa.R
open Go.RowKit
open Aid
set_option linter.unusedSimpArgs false
set_option linter.unusedVariables false

theorem ints_new (w : World) (k : IntKind) (zs : List Int) (t : TypeId) (hl : zs.length ≤ 100) : Ints (w.alloc (.cells (zs.map (.int k)).toArray t)) k (.slice (some ⟨w.heap.size, 0, none⟩) zs.length zs.length) zs := by
  refine ⟨by omega, .inr ⟨w.heap.size, 0, zs.length, rfl, by simp, fun j hj => ?_⟩⟩
  rw [Nat.zero_add, World.cell?_alloc_at _ _ _ _ rfl]
  simp [List.getD_eq_getElem?_getD, hj]
theorem agreed_now : agreedF [0, 1, 2] [5, 7, 2] = 5 := by decide +kernel
theorem quorum_now : quorumB [0, 1, 2] [2, 0] = true := by decide +kernel
theorem grant_now : grantF 3 (-1) 4 2 true = ((4, 2), true) := by decide +kernel
theorem newer_now : newerB 2 1 1 9 = true := by decide +kernel

set_option maxRecDepth 100000 in
set_option maxHeartbeats 4000000 in
theorem alive_any (w : World) : Calls Try.prog 15 #[] w fun e w' => e = .returned (.bool true) ∧ Below w.heap.size w w' := by
  obtain ⟨zi, hzi, hzz⟩ := zero_hard
  go_enter Try.func15, Try.ntmps15
  go_wp2_with fail
  obtain ⟨wa, hwa⟩ : ∃ wa, w.alloc (.cells #[.int .i64 0, .int .i64 1, .int .i64 2] 3) = wa := ⟨_, rfl⟩
  have hIa : Ints wa .i64 (.slice (some ⟨w.heap.size, 0, none⟩) 3 3) [0, 1, 2] := by rw [← hwa]; exact ints_new w .i64 [0, 1, 2] _ (by decide)
  have hba : Below w.heap.size w wa := by rw [← hwa]; exact (Below.refl _ _).alloc (Nat.le_refl _) _
  have hsa : wa.heap.size = w.heap.size + 1 := by rw [← hwa]; simp
  obtain ⟨A, hA⟩ : ∃ A, w.heap.size = A := ⟨_, rfl⟩
  rw [hA] at hIa hba hsa
  simp only [hwa]
  simp only [hA]
  clear hwa
  obtain ⟨wb, hwb⟩ : ∃ wb, wa.alloc (.cells #[.slice (some ⟨A, 0, none⟩) 3 3] 40) = wb := ⟨_, rfl⟩
  have hcb : wb.cell? ⟨A + 1, 0, none⟩ = some (.slice (some ⟨A, 0, none⟩) 3 3) := by rw [← hwb]; exact cell_new _ _ _ _ hsa.symm
  have hbb : Below wa.heap.size wa wb := by rw [← hwb]; exact (Below.refl _ _).alloc (Nat.le_refl _) _
  have hsb : wb.heap.size = A + 2 := by rw [← hwb]; simp [hsa]
  simp only [hwb]
  clear hwb
  have hIb := hIa.below hbb
  have hB : Below A w wb := hba.trans (hbb.mono (by omega))
  refine (grant_any 3 (-1) 4 2 true wb).mono ?_
  rintro e w1 ⟨he, hb1⟩
  rw [grant_now] at he
  subst he
  have hI1 := hIb.below hb1
  have hc1 := (hb1.cell (p := ⟨A + 1, 0, none⟩) (by simp; omega)).trans hcb
  have hB1 := hB.trans (hb1.mono (by omega))
  have hs1 := hb1.size
  have hA1 : A + 1 < w1.heap.size := by omega
  have HA := Lib.hid hA
  clear hIa hba hsa hbb hsb hcb hIb hB hb1 hs1 hA
  go_wp2_with (first
    | (refine wpList_allocN _ (by rfl) _ rfl zi hzi _ hzz ?_; intro w2 hH hb2 hs2)
    | (refine wpList_storeN _ (by rfl) _ _ _ rfl rfl w1.heap.size rfl _ _ (hardA 4 2) hH rfl (size_hard _ _) rfl (hard_all _ _) ?_; intro w3 hH3 hb3 hs3 _; have k0 : w3.cell? ⟨w1.heap.size, 0, none⟩ = some (.int .u64 4) := (by rw [hH3.cell, hard_0]); have k1 : w3.cell? ⟨w1.heap.size, 1, none⟩ = some (.int .i64 2) := (by rw [hH3.cell, hard_1]); have hb13 : Below w1.heap.size w1 w3 := hb2.trans hb3; have hI3 := hI1.below hb13; have hc3 := (hb13.cell (p := ⟨A + 1, 0, none⟩) hA1).trans hc1; have hB3 := hB1.trans (hb13.mono (by omega)); have hA3 : A + 1 < w3.heap.size := (by omega); have hbX : Below w3.heap.size w3 (w3.alloc (.cells #[.int .u64 5, .int .u64 7, .int .u64 2] 22)) := (Below.refl _ _).alloc (Nat.le_refl _) _; have hM : Ints (w3.alloc (.cells #[.int .u64 5, .int .u64 7, .int .u64 2] 22)) .u64 (.slice (some ⟨w1.heap.size + 1, 0, none⟩) 3 3) [5, 7, 2] := (by have := ints_new w3 .u64 [5, 7, 2] 22 (by decide); rw [hs3, hs2] at this; exact this); have hI3' := hI3.below hbX)
    | (go_at_call 20; refine (agreed_any _ _ [0, 1, 2] [5, 7, 2] _ hI3' hM (by decide)).mono ?_; rintro e w4 ⟨he, hb4⟩; rw [agreed_now] at he; subst he; have hs4 := hb4.size; have hb34 : Below w3.heap.size w3 w4 := hbX.trans (hb4.mono hbX.size); have hI4 := hI3.below hb34; have hc4 := (hb34.cell (p := ⟨A + 1, 0, none⟩) hA3).trans hc3; have hB4 := hB3.trans (hb34.mono (by omega)); have hbY : Below w4.heap.size w4 (w4.alloc (.cells #[.int .i64 2, .int .i64 0] 3)) := (Below.refl _ _).alloc (Nat.le_refl _) _; have hN : Ints (w4.alloc (.cells #[.int .i64 2, .int .i64 0] 3)) .i64 (.slice (some ⟨w4.heap.size, 0, none⟩) 2 2) [2, 0] := ints_new w4 .i64 [2, 0] _ (by decide); have hI4' := hI4.below hbY; have hA4 : A ≤ w4.heap.size := (by have := hB4.size; have := hb34.size; omega))
    | (go_at_call 23; refine (quorum_any _ _ [0, 1, 2] [2, 0] _ hI4' hN).mono ?_; rintro e w5 ⟨he, hb5⟩; rw [quorum_now] at he; subst he; have hB5 := hB4.trans ((hbY.trans (hb5.mono hbY.size)).mono hA4))
    | (go_at_call 16; refine (newer_any 2 1 1 9 _).mono ?_; rintro e w6 ⟨he, rfl⟩; rw [newer_now] at he; subst he)
    | (go_at_call 24; refine (timeout_any 23 _ (by decide)).mono ?_; rintro e w7 ⟨rfl, rfl⟩))
  go_ret
  exact ⟨rfl, by rw [HA.out]; exact hB5⟩
end Go.Proofs.Ytmokfpjiibociaa.R
