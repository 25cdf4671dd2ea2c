/-
  WdRt0.
-/
import Derived.Test.YtkibkbbjpgomlaaDoorWqWdRight
import Derived.Test.YtkibkbbjpgomlaaDoorWqWdPkM
namespace Go.Proofs.YtkibkbbjpgomlaaDoor.F
open Go.RowKit Go.Shelf Go.Maps
open Aid L LM
set_option linter.unusedSimpArgs false
set_option linter.unusedVariables false
attribute [local go_sem] Oper.semAt_some

def MachR (B : Int) (S : List StM) : Prop := (B = 0 ∧ S = []) ∨ MachOk B S
theorem MachR.base {B : Int} {S : List StM} (h : MachR B S) : 0 ≤ B ∧ B ≤ 1048576 := by
  rcases h with ⟨rfl, _⟩ | h
  · omega
  · have := h.base; omega
theorem MachR.few {B : Int} {S : List StM} (h : MachR B S) : S.length ≤ 98305 := by
  rcases h with ⟨_, rfl⟩ | h
  · simp
  · exact h.few
theorem MachR.w {B : Int} {S : List StM} (h : MachR B S) (hl : ∀ s ∈ S, s.arcs.length ≤ 1000000) : ∀ j s, S[j]? = some s → StW j s := fun j s hj => by
  rcases h with ⟨_, rfl⟩ | h
  · simp at hj
  · have hk := (List.getElem?_eq_some_iff.1 hj).1
    exact (h.st hj).w (by have := h.few; omega) (hl s (List.mem_of_getElem? hj))
theorem StatesAre.arcs {O : Nat → Prop} {w : World} {v : Value} {S : List StM} (h : StatesAre O w v S) : ∀ s ∈ S, s.arcs.length ≤ 1000000 := fun s hs => by
  obtain ⟨a, c, rfl⟩ := h.slice
  obtain ⟨j, hj⟩ := List.getElem?_of_mem hs
  obtain ⟨g, off, u, _, _, _, _, _, _, hu⟩ := h.at_ hj
  obtain ⟨_, _, _, h1, _⟩ := hu
  exact h1
set_option maxRecDepth 100000 in
theorem right_nil (a : Option Addr) (cp : Nat) (w : World) :
    Calls Tryd.prog 18 #[.agg #[.int .i64 0, .slice a 0 cp]] w fun e w' => e = .returned (.bool true) ∧ Below w.heap.size w w' := by
  have hb : Below w.heap.size w (w.alloc (.cells #[.int .i64 0, .slice a 0 cp] 25)) := (Below.refl _ _).alloc (Nat.le_refl _) _
  go_enter Tryd.func18, Tryd.ntmps18
  go_wp2_with fail
  go_step3
  go_wp2_with fail
  try rw [Exit.noGoto_ret]
  go_ret
  exact ⟨rfl, hb⟩
theorem right_all (B : Int) (sv : Value) (S : List StM) (w : World) (hS : StatesAre (fun _ => False) w sv S) (hM : MachR B S) (T : Tab w) :
    Calls Tryd.prog 18 #[.agg #[.int .i64 B, sv]] w fun e w' => e = .returned (.bool true) ∧ Below w.heap.size w w' := by
  rcases hM with ⟨rfl, rfl⟩ | hM
  · obtain ⟨a, c, rfl⟩ := hS.slice
    exact right_nil a c w
  · exact right_any B sv S w hS hM T
end Go.Proofs.YtkibkbbjpgomlaaDoor.F
