/-
  The walks of Value and Number.
-/
import Derived.Test.YtfoogbchajgepaaSloOpen
namespace Go.Proofs.Ytfoogbchajgepaa.S
open Go.RowKit
open Aid K
set_option linter.unusedSimpArgs false
set_option linter.unusedVariables false

theorem slot_cells {w : World} {s p num : Nat} {area : Int} {vv : Value} (h : Blk w s 60 #[.pointer (some ⟨p, 0, none⟩), .int .u64 area, vv, .int .u64 (num : Nat)]) :
    w.cell? ⟨s, 0, none⟩ = some (.pointer (some ⟨p, 0, none⟩)) ∧ w.cell? ⟨s, 1, none⟩ = some (.int .u64 area) ∧ w.cell? ⟨s, 2, none⟩ = some vv ∧ w.cell? ⟨s, 3, none⟩ = some (.int .u64 (num : Nat)) :=
  ⟨by rw [Blk.cell h]; rfl, by rw [Blk.cell h]; rfl, by rw [Blk.cell h]; rfl, by rw [Blk.cell h]; rfl⟩
theorem SlotIn.below {O : Nat → Prop} {w w' : World} {s p : Nat} {area : Int} {num : Nat} {val : List Int} (h : SlotIn O w s p area num val) (hb : Below w.heap.size w w') : SlotIn O w' s p area num val := by
  obtain ⟨vv, hB, hI, h1, h2, h3, h4⟩ := h
  exact ⟨vv, Blk.below hB hb (Blk.lt hB), hI.below hb, h1, h2, h3, h4⟩
theorem SlotIn.lt {O : Nat → Prop} {w : World} {s p : Nat} {area : Int} {num : Nat} {val : List Int} (h : SlotIn O w s p area num val) : s < w.heap.size := by
  obtain ⟨vv, hB, _⟩ := h
  exact Blk.lt hB

set_option maxRecDepth 100000 in
set_option maxHeartbeats 1000000 in
theorem value_any (O : Nat → Prop) (s p : Nat) (area : Int) (num : Nat) (val : List Int) (w : World) (h : SlotIn O w s p area num val) :
    Calls Try.prog 11 #[.pointer (some ⟨s, 0, none⟩)] w fun e w' => ∃ v', e = .returned v' ∧ NewInts w.heap.size w' v' val ∧ Below w.heap.size w w' := by
  obtain ⟨vv, hB, hI, h1, h2, h3, h4⟩ := h
  obtain ⟨c0, c1, c2, c3⟩ := slot_cells hB
  obtain ⟨a, c, rfl, _⟩ := ints_slice hI
  go_enter Try.func11, Try.ntmps11
  go_wp2_with fail
  refine (clone_any _ val w hI (by omega)).mono ?_
  rintro e w1 ⟨v', rfl, hN, hb⟩
  go_wp2_with fail
  go_ret
  exact ⟨v', rfl, hN, hb⟩
set_option maxRecDepth 100000 in
set_option maxHeartbeats 1000000 in
theorem number_any (O : Nat → Prop) (s p : Nat) (area : Int) (num : Nat) (val : List Int) (w : World) (h : SlotIn O w s p area num val) :
    Calls Try.prog 12 #[.pointer (some ⟨s, 0, none⟩)] w fun e w' => e = .returned (.int .u64 (num : Nat)) ∧ w' = w := by
  obtain ⟨vv, hB, hI, h1, h2, h3, h4⟩ := h
  obtain ⟨c0, c1, c2, c3⟩ := slot_cells hB
  go_enter Try.func12, Try.ntmps12
  go_wp2_with fail
  go_ret
  exact ⟨rfl, rfl⟩
set_option maxRecDepth 100000 in
set_option maxHeartbeats 1000000 in
/-- what is too long is refused -/
theorem save_long (O : Nat → Prop) (s p : Nat) (area : Int) (num : Nat) (val : List Int) (v : Value) (l : List Int) (w : World) (h : SlotIn O w s p area num val) (hI : Ints w .u8 v l) (hl : 48 < l.length) :
    Calls Try.prog 10 #[.pointer (some ⟨s, 0, none⟩), v] w fun e w' => e = .returned (.int .i64 40) ∧ w' = w := by
  have hn := hI.1
  obtain ⟨vv, hB, _, h1, h2, h3, h4⟩ := h
  obtain ⟨c0, c1, c2, c3⟩ := slot_cells hB
  obtain ⟨a, c, rfl, _⟩ := ints_slice hI
  have hlw : IntKind.i64.wrap (l.length : Int) = (l.length : Int) := IntWalk.i64_in _ (by omega)
  have hlt : (48 : Int) < (l.length : Int) := by omega
  go_enter Try.func10, Try.ntmps10
  go_wp2_with fail
  go_ret
  exact ⟨rfl, rfl⟩
end Go.Proofs.Ytfoogbchajgepaa.S
