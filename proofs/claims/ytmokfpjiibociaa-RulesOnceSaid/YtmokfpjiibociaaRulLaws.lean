/-
  The walks of the laws of layer 19: each answers true (first part).
-/
import Derived.Test.YtmokfpjiibociaaRulAlive
namespace Go.Proofs.Ytmokfpjiibociaa.R
open Go.RowKit
open Aid
set_option linter.unusedSimpArgs false
set_option linter.unusedVariables false

def TrueIn (w : World) (e : Ending) (w' : World) : Prop := e = .returned (.bool true) ∧ Below w.heap.size w w'

set_option maxRecDepth 100000 in
set_option maxHeartbeats 1000000 in
theorem waits_law (d : Int) (w : World) (h0 : 0 ≤ d) : Calls Try.prog 9 #[.int .u64 d] w (TrueIn w) := by
  obtain ⟨m, hm⟩ : ∃ m : Nat, d % 22 = (m : Int) := ⟨(d % 22).toNat, by omega⟩
  have hm21 : m ≤ 21 := by omega
  have h1 : d.tmod 22 = (m : Int) := by rw [Int.tmod_eq_emod_of_nonneg h0]; exact hm
  obtain ⟨p, hp⟩ : ∃ p : Nat, 10 + m = p := ⟨_, rfl⟩
  have hp' : 10 + d % 22 = (p : Int) := by omega
  have h2 : IntKind.i64.wrap ((p : Int) - 10) = (m : Int) := (IntWalk.i64_in _ (by omega)).trans (by omega)
  have h3 : IntKind.u64.wrap (m : Int) = (m : Int) := by rw [IntKind.wrap_u64]; omega
  have h4 : (10 : Int) ≤ (p : Int) := by omega
  have h5 : (p : Int) ≤ 31 := by omega
  have HP := Lib.hid hp'
  clear hp' hp hm
  go_enter Try.func9, Try.ntmps9
  go_wp2_with fail
  refine (timeout_any d w h0).mono ?_
  rintro e w1 ⟨rfl, rfl⟩
  rw [HP.out]
  go_wp2_with fail
  refine (alive_any _).mono ?_
  rintro e w2 ⟨rfl, hb⟩
  go_wp2_with fail
  go_ret
  exact ⟨rfl, hb⟩
end Go.Proofs.Ytmokfpjiibociaa.R
