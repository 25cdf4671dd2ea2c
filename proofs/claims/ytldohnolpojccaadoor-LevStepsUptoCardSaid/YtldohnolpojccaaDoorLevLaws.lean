/-
  The walks of the laws of layer 11: each answers true (first part).
-/
import Derived.Test.YtldohnolpojccaaDoorLevMade
namespace Go.Proofs.YtldohnolpojccaaDoor.V
open Go.RowKit
open LM EM Aid L E VM
set_option linter.unusedSimpArgs false
set_option linter.unusedVariables false

def TrueIn (w : World) (e : Ending) (w' : World) : Prop := e = .returned (.bool true) ∧ Below w.heap.size w w'
theorem eqR_refl (f : Nat → Nat) : eqR f f = true := by simp [eqR]
theorem cut_row (out : Nat) (l t : List Int) : cutF out l.length (rowF out l t) = rowF out l t := by
  funext j; unfold cutF rowF; (repeat' split) <;> omega
theorem eq_same (f : Nat → Nat) : ∀ w, (Op.equalIn 10000 32 (.agg (u8A 25 f)) (.agg (u8A 25 f))).run Tryd.prog w = .ok true w := fun w => by
  have := eq_rows f f w; rw [eqR_refl] at this; exact this

set_option maxRecDepth 100000 in
set_option maxHeartbeats 1000000 in
theorem made_law (s : ByteArray) (edits : Int) (w : World) (hs : (s.size : Int) ≤ 9223372036854775807) (T : Tab w) :
    Calls Tryd.prog 3 #[.string s, .int .i64 edits] w (TrueIn w) := by
  go_enter Tryd.func3, Tryd.ntmps3
  go_wp2_with fail
  refine (new_any s edits w hs T).mono ?_
  rintro e w1 ⟨hb1, ⟨hr, rfl⟩ | ⟨l, out, p, hr, hl, ho, rfl, hL⟩⟩
  all_goals
    have HR := Lib.hid hr
    try clear hl hL ho
    clear hr
    go_wp2_with fail
    refine (right_any s edits w1 hs).mono ?_
    rintro e w2 ⟨rfl, hb2⟩
    rw [HR.out]
    have hbb := hb1.trans (hb2.mono hb1.size)
    have T2 := T.below hbb
    clear hb1 hb2
    go_wp2_with fail
    refine (alive_any w2 T2).mono ?_
    rintro e w3 ⟨rfl, hb3⟩
    go_wp2_with fail
    go_ret
    exact ⟨rfl, hbb.trans (hb3.mono hbb.size)⟩

set_option maxRecDepth 100000 in
set_option maxHeartbeats 1000000 in
theorem starts_law (s : ByteArray) (edits : Int) (w : World) (hs : s.size ≤ 35184372088832) (T : Tab w) :
    Calls Tryd.prog 4 #[.string s, .int .i64 edits] w (TrueIn w) := by
  go_enter Tryd.func4, Tryd.ntmps4
  go_wp2_with fail
  refine (made_any s edits w hs T).mono ?_
  rintro e w1 ⟨hb1, ⟨hr, v, rfl⟩ | ⟨l, n, out, p, a, c, hr, hl, rfl, hn, ho, rfl, hL, hI, hc⟩⟩
  · have HR := Lib.hid hr
    clear hr
    have T1 := T.below hb1
    go_wp2_with fail
    refine (alive_any w1 T1).mono ?_
    rintro e w2 ⟨rfl, hb2⟩
    have hbb := hb1.trans (hb2.mono hb1.size)
    clear hb1 hb2
    go_wp2_with fail
    refine (right_any s edits w2 (by omega)).mono ?_
    rintro e w3 ⟨rfl, hb3⟩
    rw [HR.out]
    go_wp2_with fail
    go_ret
    exact ⟨rfl, hbb.trans (hb3.mono hbb.size)⟩
  · have HI := Lib.hid hI
    clear hr hl hI
    have T1 := T.below hb1
    go_wp2_with fail
    refine (alive_any w1 T1).mono ?_
    rintro e w2 ⟨rfl, hb2⟩
    have hL2 := hL.below hb2
    have HI2 := Lib.hid (HI.out.below hb2)
    have hbb := hb1.trans (hb2.mono hb1.size)
    clear hb1 hb2 hL HI
    go_wp2_with fail
    refine (start_any p l out w2 hL2).mono ?_
    rintro e w3 ⟨he, hb3⟩
    rw [start_row] at he
    subst he
    have HI3 := Lib.hid (HI2.out.below hb3)
    have hbc := hbb.trans (hb3.mono hbb.size)
    have hlb := hL2.bounds
    have heq := eq_same (rowF out l [])
    clear hbb hb3 HI2 hL2
    go_wp2_with fail
    refine (rrow_any a c _ l [] n out w3 HI3.out hc (Ints.nil _ _) hlb.2.1 (by simp) hn ho).mono ?_
    rintro e w4 ⟨rfl, hb4⟩
    go_wp2_with fail
    go_ret
    exact ⟨rfl, hbc.trans (hb4.mono hbc.size)⟩
end Go.Proofs.YtldohnolpojccaaDoor.V
