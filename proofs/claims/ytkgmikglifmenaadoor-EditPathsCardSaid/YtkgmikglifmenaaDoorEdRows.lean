/-
  What the walks of distances share: rows of the call's own, their cells.
-/
import Derived.Test.YtkgmikglifmenaaDoorAidB
import Derived.Test.YtkgmikglifmenaaDoorLetTake
import Derived.Test.YtkgmikglifmenaaDoorEdMath
import Derived.StillTailTactics
import Derived.Deep.RegionHeld3
import Derived.Deep.QuietTactic
import Derived.BigQuiet
namespace Go.Proofs.YtkgmikglifmenaaDoor.E
open Go.RowKit
open EM Aid L
set_option linter.unusedSimpArgs false
set_option linter.unusedVariables false

theorem info_int : (Tryd.prog.info? 3).map (fun i => (i.zero, i.size, i.bytes)) = some (some (.int .i64 0), 1, 8) := by kernel_rfl
/-- the cell of an owned row's element, and where it lies -/
theorem owns_at {w : World} {base : Nat} {e : TypeId} {v : Value} {n : Nat} {xs : List Value} (h : w.ownsRow base e 1 v n xs) (hn : 0 < n) : ∃ g cap, v = .slice (some ⟨g, 0, none⟩) n cap ∧ base ≤ g ∧ g < w.heap.size ∧ ∀ p u, xs[p]? = some u → w.cell? ⟨g, p, none⟩ = some u := by
  rcases h.2 with ⟨rfl, h0⟩ | ⟨g, cap, cur, rfl, hb, hg, r⟩
  · have := h.1; rw [h0] at this; simp at this; omega
  · exact ⟨g, cap, rfl, hb, (Array.getElem?_eq_some_iff.1 hg).1, fun p u hu => by have := h.cells (g := g) rfl p u hu; rwa [add_plain] at this⟩

theorem cell_far {w : World} {n : Nat} {a b : Addr} {v : Value} (h : a ≠ b) : ((w.drewN n).setCell a v).cell? b = w.cell? b := World.cell?_setCell_other _ _ _ _ h

theorem min3 (d1 d2 d3 : Nat) : (if (d3 : Int) < (if d2 < d1 then (d2 : Int) else (d1 : Int)) then (d3 : Int) else if d2 < d1 then (d2 : Int) else (d1 : Int)) = ((min (min d1 d2) d3 : Nat) : Int) := by
  by_cases h : d2 < d1
  · simp only [if_pos h]; split <;> omega
  · simp only [if_neg h]; split <;> omega
theorem owns_base_le {w : World} {base base' : Nat} {e : TypeId} {size : Nat} {v : Value} {n : Nat} {xs : List Value} (h : w.ownsRow base e size v n xs) (hb : base' ≤ base) : w.ownsRow base' e size v n xs := by
  obtain ⟨h1, h2⟩ := h
  rcases h2 with h2 | ⟨g, cap, cur, hv, hg, r⟩
  · exact ⟨h1, .inl h2⟩
  · exact ⟨h1, .inr ⟨g, cap, cur, hv, by omega, r⟩⟩

end Go.Proofs.YtkgmikglifmenaaDoor.E
