/-
  The walks of the small calls on a disk.
-/
import Derived.Test.YtcpkpljeimbdiaaGreatDskSt
namespace Go.Proofs.YtcpkpljeimbdiaaGreat.K
open Go.RowKit
open Aid
set_option linter.unusedSimpArgs false
set_option linter.unusedVariables false

theorem ret_bool {a b : Bool} (h : a = b) : Ending.returned (.bool a) = .returned (.bool b) := by rw [h]
theorem ret_i {k : IntKind} {a b : Int} (h : a = b) : Ending.returned (.int k a) = .returned (.int k b) := by rw [h]
theorem two_below (w : World) (o p : Obj) : Below w.heap.size w ((w.alloc o).alloc p) := ((Below.refl _ _).alloc (Nat.le_refl _) _).alloc (by simp) _
def newSt (room : Int) : DSt := { room := max room 0, steps := 0, left := -1, dead := false, F := fun _ _ => none, N := fun _ => 0, A := fun _ => false, C := 0 }
/-- two blocks -/
def two (a b : Nat) : Nat → Prop := fun k => k = a ∨ k = b
theorem new_is (w : World) (room : Int) (w' : World) (hw : w' = (w.alloc (.map #[] 0)).alloc (.cells (diskV (newSt room) w.heap.size) 47)) : DiskIs (two w.heap.size (w.heap.size + 1)) w' (w.heap.size + 1) (newSt room) := by
  subst hw
  refine ⟨w.heap.size, fun _ => none, ?_, .inr rfl, .inl rfl, ?_, fun a g hg => (by cases hg), fun a a' g hg => (by cases hg), fun a _ => ⟨fun x => rfl, rfl⟩, fun a => rfl⟩
  · have e : (w.alloc (.map #[] 0)).heap.size = w.heap.size + 1 := by simp
    rw [← e]; exact Blk.alloc_new _ _ _
  · have h := MapF.made (P := Tryz.prog) (k := 37) (q := .u64) Tryz.underlying37 w
    refine h.kept ?_
    exact ((Below.refl (w.heap.size + 1) (w.alloc (.map #[] 0))).alloc (by simp) _).block _ (by omega)
set_option maxRecDepth 100000 in
set_option maxHeartbeats 1000000 in
theorem new_any (room : Int) (w : World) : Calls Tryz.prog 4 #[.int .i64 room] w fun e w' => ∃ p O, e = .returned (.pointer (some ⟨p, 0, none⟩)) ∧ DiskIs O w' p (newSt room) ∧ (∀ k, O k → w.heap.size ≤ k) ∧ Below w.heap.size w w' := by
  have hmk : ∀ w : World, (Instr.makeMap 45 none).run Tryz.prog w = .ok (.map (some w.heap.size)) (w.alloc (.map #[] 0)) := fun w => rfl
  go_enter Tryz.func4, Tryz.ntmps4
  go_wp2_with fail
  all_goals go_ret
  all_goals refine ⟨w.heap.size + 1, rfl, two w.heap.size (w.heap.size + 1), new_is w room _ ?_, ?_, two_below _ _ _⟩
  all_goals first
    | (intro k hk; rcases hk with rfl | rfl <;> omega)
    | (unfold diskV newSt; have e : max room 0 = 0 := (by omega); simp only [e])
    | (unfold diskV newSt; have e : max room 0 = room := (by omega); simp only [e])
set_option maxRecDepth 100000 in
theorem dead_any (O : Nat → Prop) (p : Nat) (st : DSt) (w : World) (h : DiskIs O w p st) : Calls Tryz.prog 21 #[.pointer (some ⟨p, 0, none⟩)] w fun e w' => e = .returned (.bool st.dead) ∧ w' = w := by
  obtain ⟨m, G, h⟩ := h
  obtain ⟨c0, c1, c2, c3, c4⟩ := h.cells
  go_enter Tryz.func21, Tryz.ntmps21
  go_wp2_with fail
  go_ret
  exact ⟨rfl, rfl⟩

theorem StrRow.no_set {w : World} {p i : Nat} {v : Value} (h : ¬ StrRow w p) : ¬ StrRow (w.setCell ⟨p, i, none⟩ v) p := by
  rintro ⟨cs, fr, e⟩
  apply h
  unfold World.setCell at e
  rw [Array.getElem?_modify] at e
  simp only [if_true] at e
  cases hb : w.heap[p]? with
  | none => rw [hb] at e; cases e
  | some o =>
    rw [hb] at e
    cases o with
    | cells c elem frozen =>
      simp only [Option.map_some, Option.some.injEq, Obj.cells.injEq] at e
      exact ⟨c, frozen, by rw [hb, e.2.1]⟩
    | _ => simp at e
theorem set_keeps {O : Nat → Prop} {w0 w : World} {p i : Nat} {v : Value} (h : Keeps O w0 w) (hp : O p) (hs : ¬ StrRow w p) : Keeps O w0 (w.setCell ⟨p, i, none⟩ v) :=
  ⟨h.os, h.tape, h.output, by have := h.size; simpa using this, fun k hk hn => by
    have hkp : k ≠ p := fun e => hn (e ▸ hp)
    exact (Below.heap_setCell _ _ _ _ hkp).trans (h.block k hk hn), fun k hk => by
    have hkp : k ≠ p := fun e => hs (e ▸ hk.of_eq (h.rows k hk))
    exact (Below.heap_setCell _ _ _ _ hkp).trans (h.rows k hk)⟩
/-- a step of a disk -/
def stepF (st : DSt) : DSt := { st with steps := st.steps + 1, dead := decide (st.left = 0), left := if 0 < st.left then st.left - 1 else st.left }
set_option maxRecDepth 100000 in
set_option maxHeartbeats 1000000 in
theorem step_in (O : Nat → Prop) (p m : Nat) (G : Int → Option Nat) (st : DSt) (w : World) (h : DiskIn O w p m G st) (hs : 0 ≤ st.steps ∧ st.steps ≤ 4611686018427387904) (hl : st.left ≤ 9223372036854775807) : Calls Tryz.prog 58 #[.pointer (some ⟨p, 0, none⟩)] w fun e w' => e = .returned (.bool (stepF st).dead) ∧ DiskIn O w' p m G (stepF st) ∧ Keeps O w w' := by
  obtain ⟨c0, c1, c2, c3, c4⟩ := h.cells
  have f1 := Blk.free h.blk 1
  have f3 := Blk.free h.blk 3
  have f4 := Blk.free h.blk 4
  have hs1 : IntKind.i64.wrap (st.steps + 1) = st.steps + 1 := IntWalk.i64_in _ (by omega)
  have np : ¬ StrRow w p := StrRow.no_blk h.blk (by decide)
  have hk : ∀ (v1 v2 v3 : Value), Keeps O w (((w.setCell ⟨p, 1, none⟩ v1).setCell ⟨p, 4, none⟩ v2).setCell ⟨p, 3, none⟩ v3) := fun v1 v2 v3 => set_keeps (set_keeps (set_keeps (Keeps.refl O w) h.op np) h.op (StrRow.no_set np)) h.op (StrRow.no_set (StrRow.no_set np))
  have hk2 : ∀ (v1 v2 : Value), Keeps O w ((w.setCell ⟨p, 1, none⟩ v1).setCell ⟨p, 4, none⟩ v2) := fun v1 v2 => set_keeps (set_keeps (Keeps.refl O w) h.op np) h.op (StrRow.no_set np)
  by_cases h0 : st.left = 0
  · have hb0 : (st.left == 0) = true := by rw [beq_iff_eq]; exact h0
    have HS : Hid (stepF st = { st with steps := st.steps + 1, dead := true }) := by show _ = _; unfold stepF; simp [h0]
    have hnl : ¬ 0 < st.left := by omega
    have HK := Lib.hid hk2
    clear hk hk2
    go_enter Tryz.func58, Tryz.ntmps58
    go_wp2_with fail
    go_ret
    refine ⟨ret_bool (by rw [HS.out]), ?_, HK.out _ _⟩
    rw [HS.out]
    refine h.turn ?_ (fun k hk => ?_) (by simp) rfl rfl rfl rfl
    · have := (h.blk.set 1 (.int .i64 (st.steps + 1))).set 4 (.bool true)
      exact this
    · exact (Below.heap_setCell _ _ _ _ hk).trans (Below.heap_setCell _ _ _ _ hk)
  · have hb0 : (st.left == 0) = false := by rw [beq_eq_false_iff_ne]; exact h0
    by_cases h1 : 0 < st.left
    · have HS : Hid (stepF st = { st with steps := st.steps + 1, dead := false, left := st.left - 1 }) := by show _ = _; unfold stepF; simp [h0, h1]
      have hw1 : IntKind.i64.wrap (st.left - 1) = st.left - 1 := IntWalk.i64_in _ (by omega)
      have HK := Lib.hid hk
      clear hk hk2
      go_enter Tryz.func58, Tryz.ntmps58
      go_wp2_with fail
      go_ret
      refine ⟨ret_bool (by rw [HS.out]), ?_, HK.out _ _ _⟩
      rw [HS.out]
      refine h.turn ?_ (fun k hk => ?_) (by simp) rfl rfl rfl rfl
      · have := ((h.blk.set 1 (.int .i64 (st.steps + 1))).set 4 (.bool false)).set 3 (.int .i64 (st.left - 1))
        exact this
      · exact (Below.heap_setCell _ _ _ _ hk).trans ((Below.heap_setCell _ _ _ _ hk).trans (Below.heap_setCell _ _ _ _ hk))
    · have HS : Hid (stepF st = { st with steps := st.steps + 1, dead := false }) := by show _ = _; unfold stepF; simp [h0, h1]
      have HK := Lib.hid hk2
      clear hk hk2
      go_enter Tryz.func58, Tryz.ntmps58
      go_wp2_with fail
      go_ret
      refine ⟨ret_bool (by rw [HS.out]), ?_, HK.out _ _⟩
      rw [HS.out]
      refine h.turn ?_ (fun k hk => ?_) (by simp) rfl rfl rfl rfl
      · have := (h.blk.set 1 (.int .i64 (st.steps + 1))).set 4 (.bool false)
        exact this
      · exact (Below.heap_setCell _ _ _ _ hk).trans (Below.heap_setCell _ _ _ _ hk)

def armF (st : DSt) (at_ : Int) : DSt := if st.dead then st else { st with left := max at_ (-1) }
set_option maxRecDepth 100000 in
set_option maxHeartbeats 1000000 in
theorem arm_any (O : Nat → Prop) (p : Nat) (st : DSt) (at_ : Int) (w : World) (h : DiskIs O w p st) : Calls Tryz.prog 17 #[.pointer (some ⟨p, 0, none⟩), .int .i64 at_] w fun e w' => e = .returned (.tuple #[]) ∧ DiskIs O w' p (armF st at_) ∧ Keeps O w w' := by
  obtain ⟨m, G, hD⟩ := h
  obtain ⟨c0, c1, c2, c3, c4⟩ := hD.cells
  have f3 := Blk.free hD.blk 3
  cases hd : st.dead
  · rw [hd] at c4
    have HS : Hid (armF st at_ = { st with left := max at_ (-1) }) := by show _ = _; unfold armF; simp [hd]
    go_enter Tryz.func17, Tryz.ntmps17
    go_wp2_with fail
    all_goals go_end0
    all_goals refine ⟨rfl, ⟨m, G, ?_⟩, set_keeps (Keeps.refl O w) hD.op (StrRow.no_blk hD.blk (by decide))⟩
    all_goals rw [HS.out]
    all_goals refine hD.turn ?_ (fun k hk => Below.heap_setCell _ _ _ _ hk) (by simp) rfl rfl rfl rfl
    all_goals
      have := hD.blk.set 3 (.int .i64 (max at_ (-1)))
      have e : (diskV st m).setIfInBounds 3 (.int .i64 (max at_ (-1))) = diskV { st with left := max at_ (-1) } m := rfl
      rw [e] at this
      first
        | (have e2 : max at_ (-1) = -1 := by omega
           rw [e2] at this ⊢; exact this)
        | (have e2 : max at_ (-1) = at_ := by omega
           rw [e2] at this ⊢; exact this)
  · rw [hd] at c4
    have HS : Hid (armF st at_ = st) := by show _ = _; unfold armF; simp [hd]
    go_enter Tryz.func17, Tryz.ntmps17
    go_wp2_with fail
    go_end0
    exact ⟨rfl, ⟨m, G, by rw [HS.out]; exact hD⟩, Keeps.refl O w⟩
end Go.Proofs.YtcpkpljeimbdiaaGreat.K
