/-
  A new disk; two bytes.
-/
import Derived.Test.YteidmneenfdafaaDskGood
import Derived.Test.YteidmneenfdafaaDskRead
import Derived.Lib.SlBytesConst
namespace Go.Proofs.Yteidmneenfdafaa.K
open Go.RowKit
open Aid
set_option linter.unusedSimpArgs false
set_option linter.unusedVariables false

set_option maxRecDepth 100000 in
set_option maxHeartbeats 1000000 in
theorem new_fine (room : Int) (w : World) : Calls Try.prog 11 #[.int .i64 room] w fun e w' => ∃ p O, e = .returned (.pointer (some ⟨p, 0, none⟩)) ∧ DiskIs O w' p (newSt room) ∧ (∀ k, O k → w.heap.size ≤ k ∧ k < w'.heap.size) ∧ Below w.heap.size w w' := by
  have hmk : ∀ w : World, (Instr.makeMap 61 none).run Try.prog w = .ok (.map (some w.heap.size)) (w.alloc (.map #[] 0)) := fun w => rfl
  go_enter Try.func11, Try.ntmps11
  go_wp2_with fail
  all_goals go_ret
  all_goals refine ⟨w.heap.size + 1, rfl, two w.heap.size (w.heap.size + 1), new_is w room _ ?_, ?_, two_below _ _ _⟩
  all_goals first
    | (intro k hk; rcases hk with rfl | rfl <;> simp; omega)
    | (unfold diskV newSt; have e : max room 0 = 0 := (by omega); simp only [e])
    | (unfold diskV newSt; have e : max room 0 = room := (by omega); simp only [e])
theorem ints_two (w : World) (x y : Int) (t : TypeId) (fr : Nat × Nat) : Ints (w.alloc (.cells #[.int .u8 x, .int .u8 y] t fr)) .u8 (.slice (some ⟨w.heap.size, 0, none⟩) 2 2) [x, y] := by
  refine ⟨by simp, .inr ⟨w.heap.size, 0, 2, rfl, by simp, fun j hj => ?_⟩⟩
  have h1 := World.cell?_alloc_mark w #[.int .u8 x, .int .u8 y] t fr j
  rw [Nat.zero_add, h1]
  match j, hj with
  | 0, _ => rfl
  | 1, _ => rfl
end Go.Proofs.Yteidmneenfdafaa.K
