/-
  The walk of Back, and its law.
-/
import Derived.Test.YtmokfpjiibociaaRulGrantB
namespace Go.Proofs.Ytmokfpjiibociaa.R
open Go.RowKit
open Aid
set_option linter.unusedSimpArgs false
set_option linter.unusedVariables false

/-- where a leader tries next: of the number that is tried, of what is known and of the hint, each plus one -/
def backF (next c a : Int) : Int := max (min a (max next 1 - 1)) c
set_option maxRecDepth 100000 in
theorem back_any (n m h : Int) (w : World) (n0 : 0 ≤ n) (n1 : n ≤ 18446744073709551615) : Calls Try.prog 25 #[.int .u64 n, .int .u64 m, .int .u64 h] w fun e w' => e = .returned (.int .u64 (backF n (IntKind.u64.wrap (m + 1)) (IntKind.u64.wrap (h + 1)))) ∧ w' = w := by
  obtain ⟨c, hc⟩ : ∃ c, IntKind.u64.wrap (m + 1) = c := ⟨_, rfl⟩
  obtain ⟨a, ha⟩ : ∃ a, IntKind.u64.wrap (h + 1) = a := ⟨_, rfl⟩
  rw [hc, ha]
  obtain ⟨x, hx⟩ : ∃ x, max n 1 = x := ⟨_, rfl⟩
  have hx2 : IntKind.u64.wrap (x - 1) = x - 1 := by rw [IntKind.wrap_u64]; omega
  go_enter Try.func25, Try.ntmps25
  go_wp2_with fail
  all_goals
    go_ret
    exact ⟨ret_i (by unfold backF; omega), rfl⟩
set_option maxRecDepth 100000 in
theorem rback_any (n m h : Int) (w : World) (n0 : 0 ≤ n) (n1 : n ≤ 18446744073709551615) : Calls Try.prog 26 #[.int .u64 n, .int .u64 m, .int .u64 h] w fun e w' => e = .returned (.int .u64 (backF n (IntKind.u64.wrap (m + 1)) (IntKind.u64.wrap (h + 1)))) ∧ w' = w := by
  obtain ⟨c, hc⟩ : ∃ c, IntKind.u64.wrap (m + 1) = c := ⟨_, rfl⟩
  obtain ⟨a, ha⟩ : ∃ a, IntKind.u64.wrap (h + 1) = a := ⟨_, rfl⟩
  rw [hc, ha]
  by_cases hz : n = 0
  · subst hz
    go_enter Try.func26, Try.ntmps26
    go_wp2_with fail
    all_goals
      go_ret
      exact ⟨ret_i (by unfold backF; omega), rfl⟩
  · have hz' : (n == 0) = false := by rw [beq_eq_false_iff_ne]; exact hz
    have hx2 : IntKind.u64.wrap (n - 1) = n - 1 := by rw [IntKind.wrap_u64]; omega
    go_enter Try.func26, Try.ntmps26
    go_wp2_with fail
    all_goals
      go_ret
      exact ⟨ret_i (by unfold backF; omega), rfl⟩

set_option maxRecDepth 100000 in
set_option maxHeartbeats 1000000 in
theorem back_law (n m h : Int) (w : World) (n0 : 0 ≤ n) (n1 : n ≤ 18446744073709551615) (m0 : 0 ≤ m) (m1 : m ≤ 18446744073709551615) : Calls Try.prog 10 #[.int .u64 n, .int .u64 m, .int .u64 h] w (TrueIn w) := by
  have hr := rback_any n m h w n0 n1
  have hp := back_any n m h w n0 n1
  obtain ⟨p, hp0⟩ : ∃ p, backF n (IntKind.u64.wrap (m + 1)) (IntKind.u64.wrap (h + 1)) = p := ⟨_, rfl⟩
  rw [hp0] at hr hp
  obtain ⟨c, hc⟩ : ∃ c, IntKind.u64.wrap (m + 1) = c := ⟨_, rfl⟩
  rw [hc] at hp0
  have HP := Lib.hid hp0
  clear hp0
  have HC := Lib.hid hc
  by_cases hz : n = 0
  · subst hz
    go_enter Try.func10, Try.ntmps10
    go_wp2_with fail
    refine hp.mono ?_
    rintro e w1 ⟨rfl, hw⟩
    subst hw
    go_wp2_with fail
    refine hr.mono ?_
    rintro e w2 ⟨rfl, hw⟩
    subst hw
    go_wp2_with fail
    refine (alive_any _).mono ?_
    rintro e w3 ⟨rfl, hb⟩
    go_wp2_with fail
    all_goals
      go_ret
      exact ⟨ret_bool (by simp), hb⟩
  · have hz' : (n == 0) = false := by rw [beq_eq_false_iff_ne]; exact hz
    have hx2 : IntKind.u64.wrap (n - 1) = n - 1 := by rw [IntKind.wrap_u64]; omega
    go_enter Try.func10, Try.ntmps10
    go_wp2_with fail
    refine hp.mono ?_
    rintro e w1 ⟨rfl, hw⟩
    subst hw
    go_wp2_with fail
    refine hr.mono ?_
    rintro e w2 ⟨rfl, hw⟩
    subst hw
    go_wp2_with fail
    refine (alive_any _).mono ?_
    rintro e w3 ⟨rfl, hb⟩
    go_wp2_with fail
    all_goals go_ret
    all_goals refine ⟨ret_bool ?_, hb⟩
    all_goals
      have hq := HP.out
      unfold backF at hq
      clear hp hr hb
      first | (simp; done) | (simp; omega)
end Go.Proofs.Ytmokfpjiibociaa.R
