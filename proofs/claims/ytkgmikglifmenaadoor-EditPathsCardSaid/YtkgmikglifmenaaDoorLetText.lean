/-
  The walk of letters.Text: any numbers are written, or refused.
-/
import Derived.Test.YtkgmikglifmenaaDoorLetSame
import Derived.Test.YtkgmikglifmenaaDoorLetTake
import Derived.Test.YtkgmikglifmenaaDoorLetWrite
namespace Go.Proofs.YtkgmikglifmenaaDoor.L
open Go.RowKit
open LM Aid
set_option linter.unusedSimpArgs false
set_option linter.unusedVariables false

/-- what is told of numbers that are to be written -/
def TextPost (l : List Int) (e : Ending) : Prop := (l.all scalar = true ∧ ∃ t : ByteArray, t.data.toList = encs l ∧ e = .returned (.tuple #[.string t, .bool true])) ∨
  (l.all scalar = false ∧ e = .returned (.tuple #[.string ⟨#[]⟩, .bool false]))

set_option maxRecDepth 100000 in
set_option maxHeartbeats 1000000 in
theorem text_any (v : Value) (l : List Int) (w : World) (h1 : Ints w .i32 v l) (h4 : 4 * l.length ≤ 140737488355328) (T : Tab w) :
    Calls Tryd.prog 17 #[v] w fun e w' => TextPost l e ∧ Below w.heap.size w w' := by
  have H1 := Lib.hid h1
  clear h1
  obtain ⟨a1, c1, rfl⟩ := Ints.form H1.out
  go_enter Tryd.func17, Tryd.ntmps17
  go_wp2_with fail
  go_loopw [9, 4] (fun i b wr => ∃ k : Nat, i = .int .i64 k ∧ k ≤ l.length ∧ Hid ((l.take k).all scalar = true) ∧ wr.ownsRow w.heap.size 5 1 b (encs (l.take k)).length (bytesV (encs (l.take k))) ∧ Below w.heap.size w wr)
    (fun i _ _ => l.length - (intOf i).toNat)
  case atStart => exact ⟨0, rfl, Nat.zero_le _, by simp [Hid], by simpa [encs, bytesV] using World.ownsRow_nil w w.heap.size 5 1, Below.refl _ _⟩
  case round =>
    obtain ⟨k, rfl, hk, HA, hown, hb⟩ := hrel
    have Tr := T.below hb
    have hbs := hb.size
    by_cases hlt : (k : Int) < (l.length : Int)
    · have hlt' : k < l.length := by omega
      obtain ⟨x, hx⟩ : ∃ x, l.getD k 0 = x := ⟨_, rfl⟩
      obtain ⟨b1, o1, rfl, hbb, cx⟩ := Ints.at_ (H1.out.below hb) hlt' hx
      have HX := Lib.hid hx
      clear hx
      cases hsc : scalar x
      · go_wp2_with (go_at_call 24; refine (scalar_any _ _).mono ?_; rintro e w1 ⟨rfl, rfl⟩; rw [hsc])
        go_ret2
        exact ⟨.inr ⟨all_false hlt' HX.out hsc, rfl⟩, hb⟩
      · have hle := (encs_len (l.take (k + 1))).2
        rw [encs_take_next hlt' HX.out, List.length_append, List.length_take] at hle
        have hle2 : (encs (l.take k)).length + (enc x).length ≤ 140737488355328 := by omega
        have HN := Lib.hid (encs_take_next hlt' HX.out)
        clear hle
        go_wp2_with (first | (go_at_call 24; refine (scalar_any _ _).mono ?_; rintro e w1 ⟨rfl, rfl⟩; rw [hsc]) | (go_at_call 25; refine (write_any _ _ w.heap.size _ _ _ hsc Tr hown hle2 hbs).mono ?_; rintro e w1 ⟨v', rfl, hown', hb1⟩))
        exact ⟨⟨k + 1, by go_num, by omega, all_take_next HA.out hlt' HX.out hsc, by rw [HN.out, List.length_append, bytesV_append]; exact hown', hb.trans hb1⟩, by simp [intOf]; omega⟩
    · have hke : k = l.length := by omega
      subst hke
      rw [List.take_length] at HA hown
      go_wp2_with (with_reducible refine wpList_string_own _ rfl 49 9 _ rfl 5 Tryd.underlying49 Tryd.underlying9 Tryd.underlying5 w.heap.size u4 (encs l) rfl hown ?_)
      go_ret2
      exact ⟨.inl ⟨HA.out, ⟨_, rfl, rfl⟩⟩, hb⟩

end Go.Proofs.YtkgmikglifmenaaDoor.L
