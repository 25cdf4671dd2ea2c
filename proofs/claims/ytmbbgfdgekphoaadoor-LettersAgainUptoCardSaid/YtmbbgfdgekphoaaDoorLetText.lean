/-
  The walks of letters.Text and the reference's Text: any numbers are written, or refused.
-/
import Derived.Test.YtmbbgfdgekphoaaDoorLetCmp
namespace Go.Proofs.YtmbbgfdgekphoaaDoor.L
open Go.RowKit
open LM Aid
set_option linter.unusedSimpArgs false
set_option linter.unusedVariables false

/-- what is told of numbers that are to be written -/
def TextPost (l : List Int) (e : Ending) : Prop := (l.all scalar = true ∧ ∃ t : ByteArray, t.data.toList = encs l ∧ e = .returned (.tuple #[.string t, .bool true])) ∨
  (l.all scalar = false ∧ e = .returned (.tuple #[.string ⟨#[]⟩, .bool false]))

theorem all_take_next {p : Int → Bool} {l : List Int} {k : Nat} (h : (l.take k).all p = true) (hk : k < l.length) {x : Int} (hx : l.getD k 0 = x) (hp : p x = true) : (l.take (k + 1)).all p = true := by
  rw [List.take_succ_eq_append_getElem hk, List.all_append, h]
  have e1 : l[k] = x := by rw [← hx]; simp [List.getD_eq_getElem?_getD, hk]
  simp [e1, hp]
theorem all_false {p : Int → Bool} {l : List Int} {k : Nat} (hk : k < l.length) {x : Int} (hx : l.getD k 0 = x) (hp : p x = false) : l.all p = false := by
  have e1 : l[k] = x := by rw [← hx]; simp [List.getD_eq_getElem?_getD, hk]
  rw [List.all_eq_false]
  exact ⟨l[k], List.getElem_mem hk, by rw [e1, hp]; simp⟩
theorem encs_take_next {l : List Int} {k : Nat} (hk : k < l.length) {x : Int} (hx : l.getD k 0 = x) : encs (l.take (k + 1)) = encs (l.take k) ++ enc x := by
  have e1 : l[k] = x := by rw [← hx]; simp [List.getD_eq_getElem?_getD, hk]
  rw [List.take_succ_eq_append_getElem hk, encs_append, e1]
  simp [encs]
theorem size_of (t : ByteArray) (l : List UInt8) (h : t.data.toList = l) : t.size = l.length := by rw [← h, len_at]

set_option maxRecDepth 100000 in
set_option maxHeartbeats 1000000 in
theorem text_any (v : Value) (l : List Int) (w : World) (h1 : Ints w .i32 v l) (h4 : 4 * l.length ≤ 140737488355328) (T : Tab w) :
    Calls Tryd.prog 16 #[v] w fun e w' => TextPost l e ∧ Below w.heap.size w w' := by
  have H1 := Lib.hid h1
  clear h1
  obtain ⟨a1, c1, rfl⟩ := Ints.form H1.out
  go_enter Tryd.func16, Tryd.ntmps16
  go_wp2_with fail
  go_loopw [9, 4] (fun i b wr => ∃ k : Nat, i = .int .i64 k ∧ k ≤ l.length ∧ Hid ((l.take k).all scalar = true) ∧ wr.ownsRow w.heap.size 5 1 b (encs (l.take k)).length (bytesV (encs (l.take k))) ∧ Below w.heap.size w wr)
    (fun i _ _ => l.length - (intOf i).toNat)
  case atStart => exact ⟨0, rfl, Nat.zero_le _, by simp [Hid], by simpa [encs, bytesV] using World.ownsRow_nil w w.heap.size 5 1, Below.refl _ _⟩
  case round =>
    obtain ⟨k, rfl, hk, HA, hown, hb⟩ := hrel
    have Tr := T.below hb
    have hbs := hb.size
    by_cases hlt : (k : Int) < (l.length : Int)
    · have hlt' : k < l.length := by omega
      obtain ⟨x, hx⟩ : ∃ x, l.getD k 0 = x := ⟨_, rfl⟩
      obtain ⟨b1, o1, rfl, hbb, cx⟩ := Ints.at_ (H1.out.below hb) hlt' hx
      have HX := Lib.hid hx
      clear hx
      cases hsc : scalar x
      · go_wp2_with (go_at_call 27; refine (scalar_any _ _).mono ?_; rintro e w1 ⟨rfl, rfl⟩; rw [hsc])
        go_ret2
        exact ⟨.inr ⟨all_false hlt' HX.out hsc, rfl⟩, hb⟩
      · have hle := (encs_len (l.take (k + 1))).2
        rw [encs_take_next hlt' HX.out, List.length_append, List.length_take] at hle
        have hle2 : (encs (l.take k)).length + (enc x).length ≤ 140737488355328 := by omega
        have HN := Lib.hid (encs_take_next hlt' HX.out)
        clear hle
        go_wp2_with (first | (go_at_call 27; refine (scalar_any _ _).mono ?_; rintro e w1 ⟨rfl, rfl⟩; rw [hsc]) | (go_at_call 28; refine (write_any _ _ w.heap.size _ _ _ hsc Tr hown hle2 hbs).mono ?_; rintro e w1 ⟨v', rfl, hown', hb1⟩))
        exact ⟨⟨k + 1, by go_num, by omega, all_take_next HA.out hlt' HX.out hsc, by rw [HN.out, List.length_append, bytesV_append]; exact hown', hb.trans hb1⟩, by simp [intOf]; omega⟩
    · have hke : k = l.length := by omega
      subst hke
      rw [List.take_length] at HA hown
      go_wp2_with (with_reducible refine wpList_string_own _ rfl 38 9 _ rfl 5 Tryd.underlying38 Tryd.underlying9 Tryd.underlying5 w.heap.size u4 (encs l) rfl hown ?_)
      go_ret2
      exact ⟨.inl ⟨HA.out, ⟨_, rfl, rfl⟩⟩, hb⟩

theorem rwrite_str (r : Int) (w : World) (h : scalar r = true) :
    Calls Tryd.prog 30 #[.int .i64 r] w fun e w' => ∃ t : ByteArray, e = .returned (.string t) ∧ Hid (t.data.toList = enc r) ∧ t.size ≤ 4 ∧ Below w.heap.size w w' :=
  (rwrite_any r w h).mono fun e w' ⟨he, hb⟩ => ⟨_, he, rfl, by rw [size_of _ _ (by rfl : (ByteArray.mk (enc r).toArray).data.toList = enc r)]; exact (enc_len r).2, hb⟩

set_option maxRecDepth 100000 in
set_option maxHeartbeats 1000000 in
theorem rtext_any (v : Value) (l : List Int) (w : World) (h1 : Ints w .i32 v l) (h4 : 4 * l.length ≤ 140737488355328) (hr : ∀ x ∈ l, -2147483648 ≤ x ∧ x ≤ 2147483647) :
    Calls Tryd.prog 17 #[v] w fun e w' => TextPost l e ∧ Below w.heap.size w w' := by
  have H1 := Lib.hid h1
  have HR := Lib.hid hr
  clear h1 hr
  obtain ⟨a1, c1, rfl⟩ := Ints.form H1.out
  go_enter Tryd.func17, Tryd.ntmps17
  go_wp2_with fail
  go_loopw [5, 4] (fun i b wr => ∃ (k : Nat) (t : ByteArray), i = .int .i64 k ∧ b = .string t ∧ t.size ≤ 4 * k ∧ k ≤ l.length ∧ Hid ((l.take k).all scalar = true) ∧ Hid (t.data.toList = encs (l.take k)) ∧ Below w.heap.size w wr)
    (fun i _ _ => l.length - (intOf i).toNat)
  case atStart => exact ⟨0, ⟨#[]⟩, rfl, rfl, Nat.zero_le _, Nat.zero_le _, by simp [Hid], by simp [Hid, encs], Below.refl _ _⟩
  case round =>
    obtain ⟨k, t, rfl, rfl, ht, hk, HA, HE, hb⟩ := hrel
    have hbs := hb.size
    by_cases hlt : (k : Int) < (l.length : Int)
    · have hlt' : k < l.length := by omega
      obtain ⟨x, hx⟩ : ∃ x, l.getD k 0 = x := ⟨_, rfl⟩
      obtain ⟨b1, o1, rfl, hbb, cx⟩ := Ints.at_ (H1.out.below hb) hlt' hx
      obtain ⟨x0, x1⟩ : -2147483648 ≤ x ∧ x ≤ 2147483647 := HR.out x (by rw [← hx]; simp [List.getD_eq_getElem?_getD, hlt'])
      have HX := Lib.hid hx
      clear hx
      cases hsc : scalar x
      · go_wp2_with (go_at_call 29; refine (rune_any _ _).mono ?_; rintro e w1 ⟨rfl, rfl⟩; rw [hsc])
        go_ret2
        exact ⟨.inr ⟨all_false hlt' HX.out hsc, rfl⟩, hb⟩
      · have HN := Lib.hid (encs_take_next hlt' HX.out)
        go_wp2_with (first | (go_at_call 29; refine (rune_any _ _).mono ?_; rintro e w1 ⟨rfl, rfl⟩; rw [hsc]) | (go_at_call 30; refine (rwrite_str _ _ hsc).mono ?_; rintro e w1 ⟨t2, rfl, HT2, ht2, hb1⟩))
        exact ⟨⟨k + 1, t ++ t2, by go_num, rfl, by rw [ByteArray.size_append]; omega, by omega, all_take_next HA.out hlt' HX.out hsc, by rw [HN.out, ByteArray.data_append, Array.toList_append, HE.out, HT2.out]; rfl, hb.trans (hb1.mono hbs)⟩, by simp [intOf]; omega⟩
    · have hke : k = l.length := by omega
      subst hke
      rw [List.take_length] at HA HE
      go_wp2_with fail
      go_ret2
      exact ⟨.inl ⟨HA.out, ⟨_, HE.out, rfl⟩⟩, hb⟩
end Go.Proofs.YtmbbgfdgekphoaaDoor.L
