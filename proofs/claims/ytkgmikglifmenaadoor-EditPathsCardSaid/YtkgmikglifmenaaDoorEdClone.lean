/-
  The library's Clone of numbers.
-/
import Derived.Test.YtkgmikglifmenaaDoorEdRev
import Derived.Test.YtkgmikglifmenaaDoorLetText
import Derived.Lib.SliceRun
namespace Go.Proofs.YtkgmikglifmenaaDoor.E
open Go.RowKit Go.Maps Aid L
set_option linter.unusedVariables false
set_option linter.unusedSimpArgs false

def CloneEnd (l : List Int) (w : World) (e : Ending) (w' : World) : Prop :=
  ∃ v', e = .returned v' ∧ w'.ownsRow w.heap.size 21 1 v' l.length (l.map (.int .i32)) ∧ Below w.heap.size w w'
set_option maxHeartbeats 1000000 in
set_option maxRecDepth 100000 in
theorem clone_any (v : Value) (l : List Int) (w : World) (h : Ints w .i32 v l) (hl : l.length ≤ 1000000) : Calls Tryd.prog 14 #[v] w (CloneEnd l w) := by
  obtain ⟨i0, hi, hz0, hz1, hz2⟩ := info_parts info_i32
  obtain ⟨a, c, hv⟩ := Ints.form h
  cases a with
  | none =>
    have hl0 : l = [] ∧ c = 0 := by
      obtain ⟨_, ⟨rfl, e | ⟨a, cap, e⟩⟩ | ⟨b, off, cap, e, _⟩⟩ := h
      · rw [hv] at e; cases e; exact ⟨rfl, rfl⟩
      · rw [hv] at e; cases e
      · rw [hv] at e; cases e
    obtain ⟨rfl, rfl⟩ := hl0
    subst hv
    have hq : ∀ w : World, (binOp .eql 28 (.slice none 0 0) (.slice none 0 0)).run Tryd.prog w = .ok (.bool true) w := fun w => Lib.run_eql_slice_nil w _ _ none 0 0 0 0 Tryd.underlying28
    clear h
    go_enter Tryd.func14, Tryd.ntmps14
    go_wp2_with fail
    go_ret
    exact ⟨_, rfl, World.ownsRow_nil _ _ _ _, Below.refl _ _⟩
  | some a =>
    subst hv
    have hq : ∀ w : World, (binOp .eql 28 (.slice (some a) l.length c) (.slice none 0 0)).run Tryd.prog w = .ok (.bool false) w := fun w => Lib.run_eql_slice_nil w _ _ (some a) _ _ 0 0 Tryd.underlying28
    obtain ⟨n, hn⟩ : ∃ n, l.length = n := ⟨_, rfl⟩
    have hown : (w.alloc (.cells #[] 21)).ownsRow w.heap.size 21 1 (.slice (some ⟨w.heap.size, 0, none⟩) 0 0) 0 [] := World.ownsRow_made _ _ _ (Nat.le_refl _) (by unfold maxLen; omega) rfl
    have hb1 : Below w.heap.size w (w.alloc (.cells #[] 21)) := (Below.refl _ _).alloc (Nat.le_refl _) _
    have hI := h.below hb1
    have HI := Lib.hid hI
    have HN := Lib.hid hn
    rw [hn] at hq ⊢ 
    rw [hn] at HI
    clear h hI hn
    go_enter Tryd.func14, Tryd.ntmps14
    go_wp2_with (refine wpList_append_ints _ (by rfl) (.tmp 5) (.tmp 6) 28 rfl w.heap.size 21 i0 (.int .i32 0) 4 Tryd.underlying28 hi hz0 hz1 hz2 rfl .i32 (.slice (some ⟨w.heap.size, 0, none⟩) 0 0) 0 [] rfl hown (.slice (some a) n c) l rfl HI.out (by unfold maxLen; have := HN.out; omega) (by have := HN.out; omega) (by simp) ?_; intro v' w1 hown' hb2)
    go_ret
    exact ⟨v', rfl, by have := hown'; rw [Nat.zero_add, List.nil_append] at this; exact this, hb1.trans hb2⟩
end Go.Proofs.YtkgmikglifmenaaDoor.E
