/-
  WdLen.
-/
import Derived.Test.YtkibkbbjpgomlaaDoorWqWdNw
import Derived.BigQuiet
namespace Go.Proofs.YtkibkbbjpgomlaaDoor.F
open Go.RowKit Go.Shelf Go.Maps
open Aid L LM
set_option linter.unusedSimpArgs false
set_option linter.unusedVariables false
attribute [local go_sem] Oper.semAt_some

set_option maxRecDepth 100000 in
theorem root_any (O : Nat → Prop) (P : Nat) (B : Int) (S : List StM) (w : World) (h : WalkIs O w P B S) :
    Calls Tryd.prog 26 #[.pointer (some ⟨P, 0, none⟩)] w fun e w' => e = .returned (.int .i64 ((S.length : Int) - 1)) ∧ w' = w := by
  obtain ⟨h1, h2, su, wu, h3, h4, h5, h6⟩ := h
  have hl := h4.len
  obtain ⟨a, c, rfl⟩ := h4.slice
  obtain ⟨N, hN⟩ : ∃ N, S.length = N := ⟨_, rfl⟩
  rw [hN] at h3 h4 hl ⊢
  have p1 : w.cell? ⟨P, 1, none⟩ = some (.slice a N c) := (Blk.cell h3 1).trans rfl
  have hw : wrap64 ((N : Int) - 1) = (N : Int) - 1 := IntWalk.wrap64_in _ (by omega)
  clear h3 h4 h5 h6
  go_enter Tryd.func26, Tryd.ntmps26
  go_wp2_with fail
  go_ret
  exact ⟨rfl, rfl⟩
set_option maxRecDepth 100000 in
set_option maxHeartbeats 2000000 in
theorem len_any (O : Nat → Prop) (P : Nat) (B : Int) (S : List StM) (w : World) (h : WalkIs O w P B S) :
    Calls Tryd.prog 9 #[.pointer (some ⟨P, 0, none⟩)] w fun e w' => e = .returned (.int .i64 (if S.length = 0 then 0 else cntS S (S.length - 1))) ∧ ∃ n, w' = w.drewN n := by
  have HH := Lib.hid h
  obtain ⟨h1, h2, su, wu, h3, h4, h5, h6⟩ := h
  have hl := h4.len
  obtain ⟨a, c, rfl⟩ := owns_shape h5
  obtain ⟨N, hN⟩ : ∃ N, S.length = N := ⟨_, rfl⟩
  rw [hN] at h3 h5 hl ⊢
  have p2 : w.cell? ⟨P, 2, none⟩ = some (.slice a N c) := (Blk.cell h3 2).trans rfl
  by_cases h0 : N = 0
  · subst h0
    clear h3 h4 h5 h6
    go_enter Tryd.func9, Tryd.ntmps9
    go_wp2_with fail
    go_ret
    exact ⟨rfl, 0, rfl⟩
  · have hwu : ∃ gw, a = some ⟨gw, 0, none⟩ := by
      rcases h5.2 with ⟨_, h0⟩ | ⟨g1, cap, cur, e, _⟩
      · omega
      · simp only [Value.slice.injEq] at e
        exact ⟨g1, e.1⟩
    obtain ⟨gw, rfl⟩ := hwu
    obtain ⟨M, rfl⟩ : ∃ M, N = M + 1 := ⟨N - 1, by omega⟩
    obtain ⟨cn, hcn⟩ : ∃ cn, cntS S M = cn := ⟨_, rfl⟩
    have hwc : w.cell? ⟨gw, M, none⟩ = some (.int .i64 cn) := by
      have := h5.cells (g := gw) rfl M _ (rowN_at S (by omega))
      rw [add_plain, hcn] at this
      exact this
    have hm1 : ((M + 1 : Nat) : Int) - 1 = (M : Int) := by omega
    have hR := fun w' (hb : Below w.heap.size w w') => root_any O P B S w' (HH.out.turn (Turn.of_below hb) (fun _ _ h => h))
    rw [hN, hm1] at hR
    have HR := Lib.hid hR
    obtain ⟨N, hN1⟩ : ∃ N, M + 1 = N := ⟨_, rfl⟩
    have hMN : (M : Int) < (N : Int) := by omega
    have hM0 : (0 : Int) ≤ (M : Int) := by omega
    have hN0 : ((N : Int) == 0) = false := by rw [beq_eq_false_iff_ne]; omega
    have hMM : N - 1 = M := by omega
    have hNN : N ≠ 0 := by omega
    rw [hN1] at p2 ⊢
    rw [if_neg hNN, hMM, hcn]
    clear h3 h4 h5 h6 hR HH hcn hN1 hMM
    go_enter Tryd.func9, Tryd.ntmps9
    go_wp2_with fail
    go_quiet ((go_at_call 26; exact Calls.quiet_of_same (HR.out _ (below_drewN (Below.refl _ _) _))))
    go_wp2_with fail
    go_ret
    exact ⟨rfl, _, rfl⟩
end Go.Proofs.YtkibkbbjpgomlaaDoor.F
