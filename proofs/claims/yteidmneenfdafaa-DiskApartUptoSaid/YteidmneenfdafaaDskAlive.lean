/-
  The walk of the laws' own alive.
-/
import Derived.Test.YteidmneenfdafaaDskNew
import Derived.Test.YteidmneenfdafaaDskGood
import Derived.Test.YteidmneenfdafaaDskRead
import Derived.Lib.SlBytesConst
namespace Go.Proofs.Yteidmneenfdafaa.K
open Go.RowKit
open Aid
set_option linter.unusedSimpArgs false
set_option linter.unusedVariables false

theorem st_facts {st st1 : DSt} (h : st = newSt 2) (h1 : st1 = writeF st 5 3 [97, 98]) :
    (st.dead = false ∧ st.room ≠ 0 ∧ (-4611686018427387904 ≤ st.room ∧ st.room ≤ 4611686018427387904) ∧ (0 ≤ st.steps ∧ st.steps ≤ 4611686018427387904) ∧ st.left ≤ 9223372036854775807 ∧ st.N 5 < 140737488355327 ∧ st.C < 140737488355327 ∧ ∀ Lv sb, st.F 5 3 = some (Lv, sb) → Lv.length < 4398046511104) ∧
    st1.dead = false ∧ (st1.steps = 1 ∧ st1.left = -1) ∧ st1.F 5 3 = some ([wholeI [97, 98]], false) := by
  subst h h1
  refine ⟨⟨rfl, by decide, by decide, by decide, by decide, by decide, by decide, fun Lv sb hh => by cases hh⟩, rfl, ⟨rfl, rfl⟩, ?_⟩
  show updF (fun _ _ => none) 5 3 (some ([wholeI [97, 98]], false)) 5 3 = _
  unfold updF; simp

set_option maxRecDepth 100000 in
set_option maxHeartbeats 4000000 in
theorem alive_any (w : World) : Calls Try.prog 12 #[] w fun e w' => e = .returned (.bool true) ∧ Below w.heap.size w w' := by
  go_enter Try.func12, Try.ntmps12
  go_wp2_with fail
  refine (new_fine 2 w).mono ?_
  rintro e w1 ⟨p, O, rfl, hD1, hO1, hb1⟩
  obtain ⟨st, hst⟩ : ∃ st, newSt 2 = st := ⟨_, rfl⟩
  obtain ⟨st1, hst1⟩ : ∃ st1, writeF st 5 3 [97, 98] = st1 := ⟨_, rfl⟩
  obtain ⟨f0, f1, f2, f3⟩ := st_facts hst.symm hst1.symm
  have hs1 := hb1.size
  have hconv := Lib.run_convert_bytes_const (P := Try.prog) w1 28 5 #[.int .u8 97, .int .u8 98] 2 2 Try.underlying28 Try.underlying5
  have hbX : Below w1.heap.size w1 (w1.alloc (.cells #[.int .u8 97, .int .u8 98] 5 (2, 3))) := (Below.refl _ _).alloc (Nat.le_refl _) _
  have hIX := ints_two w1 97 98 5 (2, 3)
  rw [hst] at hD1
  have hDX := hD1.below hbX
  go_wp2_with fail
  refine (write_good O p st 5 3 _ [97, 98] _ hDX (fun k hk => by have := hO1 k hk; simp; omega) hIX (fun b o n c hv _ hb => by simp at hv; have := hO1 b hb; omega) (by decide) (by decide) (by decide) f0.1 (by decide) (by decide) (by decide) (.inr f0.2.1) ⟨f0.2.2.1.1, by have := f0.2.2.1.2; omega⟩ f0.2.2.2.1 f0.2.2.2.2.1 f0.2.2.2.2.2.1 f0.2.2.2.2.2.2.1 f0.2.2.2.2.2.2.2).mono ?_
  rintro e w2 ⟨rfl, K2, O2, hD2, hO2⟩
  rw [hst1] at hD2 ⊢
  rw [f1]
  have hO2lt : ∀ k, O2 k → k < w2.heap.size := fun k hk => by
    rcases hO2 k hk with h | h
    · have := hO1 k h
      have := K2.size
      have := hbX.size
      omega
    · exact h.2
  have hO2ge : ∀ k, O2 k → w.heap.size ≤ k := fun k hk => by
    rcases hO2 k hk with h | h
    · exact (hO1 k h).1
    · have := hbX.size; omega
  have hB2 : Below w.heap.size w w2 := K2.below (hb1.trans (hbX.mono hs1)) (by have := hbX.size; omega) (fun k hk => (hO1 k hk).1)
  clear hconv hIX hDX K2 hbX hD1
  go_wp2_with fail
  refine (read_there O2 p st1 5 3 [wholeI [97, 98]] false w2 hD2 (by decide) (by decide) f3 (by simp) (by decide +kernel)).mono ?_
  rintro e w3 ⟨⟨v3, rfl, hI3, hv3⟩, hb3⟩
  obtain ⟨lB, hlB⟩ : ∃ lB, bytesI (([wholeI [97, 98]] : List ByteArray).getLast (by simp)) = lB := ⟨_, rfl⟩
  have hl64 : lB.length = 64 := by rw [← hlB]; decide +kernel
  have hl1 : lB.getD 1 0 = 98 := by rw [← hlB]; decide +kernel
  rw [hlB] at hI3
  have hD3 := hD2.below hb3
  go_wp2_with fail
  refine (arm_any O2 p st1 0 w3 hD3).mono ?_
  rintro e w4 ⟨rfl, hD4, K4⟩
  have hI4 := ints_kept hI3 K4 (fun b o n c e _ hb => by have := hv3 b o n c e; have := hO2lt b hb; omega)
  obtain ⟨st2, hst2⟩ : ∃ st2, armF st1 0 = st2 := ⟨_, rfl⟩
  have e2 : st2.left = 0 ∧ st2.dead = false ∧ st2.steps = 1 := by
    rw [← hst2]; unfold armF; simp [f1, f2.1]; decide
  rw [hst2] at hD4
  have hdie : (tickF st2).dead = true := by unfold tickF stepF; simp [e2.1, e2.2.1]
  obtain ⟨a3, c3, rfl⟩ := Ints.form hI4
  obtain ⟨b5, o5, rfl, _, cx⟩ := Ints.at_ hI4 (k := 1) (by omega) hl1
  have hB4 : Below w.heap.size w w4 := K4.below (hB2.trans (hb3.mono hB2.size)) (by have := hB2.size; have := hb3.size; omega) hO2ge
  have hs4 : w.heap.size ≤ w4.heap.size := hB4.size
  clear hI3 hI4 K4 hb3 hv3 hlB
  simp only [hl64]
  go_wp2_with (first
    | (go_at_call 25; refine (sync_dies O2 p st2 5 w4 hD4 (by omega) (by omega) hdie).mono ?_; rintro e w5 ⟨rfl, hD5, K5⟩)
    | (go_at_call 15; refine (dead_any O2 p _ _ hD5).mono ?_; rintro e w6 ⟨rfl, rfl⟩; rw [hdie]))
  go_ret
  exact ⟨rfl, K5.below hB4 hs4 hO2ge⟩
end Go.Proofs.Yteidmneenfdafaa.K
