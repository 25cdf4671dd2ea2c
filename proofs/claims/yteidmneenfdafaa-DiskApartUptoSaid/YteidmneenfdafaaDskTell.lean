/-
  Room, Steps.
-/
import Derived.Test.YteidmneenfdafaaDskSmall
namespace Go.Proofs.Yteidmneenfdafaa.K
open Go.RowKit
open Aid
set_option linter.unusedSimpArgs false
set_option linter.unusedVariables false
set_option maxRecDepth 100000 in
theorem room_any (O : Nat → Prop) (p : Nat) (st : DSt) (w : World) (h : DiskIs O w p st) : Calls Try.prog 18 #[.pointer (some ⟨p, 0, none⟩)] w fun e w' => e = .returned (.int .i64 st.room) ∧ w' = w := by
  obtain ⟨m, G, h⟩ := h
  obtain ⟨c0, c1, c2, c3, c4⟩ := h.cells
  go_enter Try.func18, Try.ntmps18
  go_wp2_with fail
  go_ret
  exact ⟨rfl, rfl⟩
set_option maxRecDepth 100000 in
theorem steps_any (O : Nat → Prop) (p : Nat) (st : DSt) (w : World) (h : DiskIs O w p st) : Calls Try.prog 16 #[.pointer (some ⟨p, 0, none⟩)] w fun e w' => e = .returned (.int .i64 st.steps) ∧ w' = w := by
  obtain ⟨m, G, h⟩ := h
  obtain ⟨c0, c1, c2, c3, c4⟩ := h.cells
  go_enter Try.func16, Try.ntmps16
  go_wp2_with fail
  go_ret
  exact ⟨rfl, rfl⟩
end Go.Proofs.Yteidmneenfdafaa.K
