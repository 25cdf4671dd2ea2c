/-
  Read of what is not there (read_miss of XDskSect, for a seat that reaches no Sectors).
-/
import Derived.Test.YtcpkpljeimbdiaaDskRead
namespace Go.Proofs.Ytcpkpljeimbdiaa.K
open Go.RowKit
open Aid
set_option linter.unusedSimpArgs false
set_option linter.unusedVariables false

set_option maxRecDepth 100000 in
set_option maxHeartbeats 1000000 in
theorem read_gone (O : Nat → Prop) (p : Nat) (st : DSt) (area n : Int) (w : World) (h : DiskIs O w p st) (ha : (Lit.int .u64 area).wf = true) (hn : (Lit.int .i64 n).wf = true) (hF : st.F area n = none) :
    Calls Try.prog 68 #[.pointer (some ⟨p, 0, none⟩), .int .u64 area, .int .i64 n] w fun e w' => e = .returned (.tuple #[.slice none 0 0, .bool false]) ∧ Below w.heap.size w w' := by
  obtain ⟨m, G, hD⟩ := h
  obtain ⟨c0, c1, c2, c3, c4⟩ := hD.cells
  have hL1 := hD.area ha
  obtain ⟨sv, sb, hL2, hsv⟩ := hD.sector (a := area) hn
  rw [hF] at hL2
  simp only [Option.isSome_none] at hL2
  have hb : ∀ sv : Value, Below w.heap.size w (w.alloc (.cells #[sv, .bool sb] 68)) := fun sv => (Below.refl _ _).alloc (Nat.le_refl _) _
  obtain ⟨a, l, c, rfl⟩ : ∃ a l c, sv = .slice a l c := by
    rcases hsv with ⟨_, e, _⟩ | ⟨s', e, _⟩
    · exact ⟨_, _, _, e⟩
    · rw [hF] at e; cases e
  clear hsv
  go_enter Try.func68, Try.ntmps68
  go_wp2_with fail
  go_ret2
  exact ⟨rfl, hb _⟩
end Go.Proofs.Ytcpkpljeimbdiaa.K
