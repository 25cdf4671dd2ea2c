/-
  The walk of letters.Runes: the runes of a text's writing, or that there are none.
-/
import Derived.Test.YtkgmikglifmenaaDoorLetFirst
namespace Go.Proofs.YtkgmikglifmenaaDoor.L
open Go.RowKit
open LM Aid
set_option linter.unusedSimpArgs false
set_option linter.unusedVariables false

theorem info_i32 : (Tryd.prog.info? 21).map (fun i => (i.zero, i.size, i.bytes)) = some (some (.int .i32 0), 1, 4) := by kernel_rfl

/-- no beginning of the text that is a writing has more than 2^45 runes -/
def Fits (s : List UInt8) : Prop := ∀ l t, (∀ r ∈ l, scalar r = true) → s = encs l ++ t → l.length ≤ 35184372088832

def RunesPost (W : World) (s : ByteArray) (e : Ending) (w' : World) : Prop :=
  Below W.heap.size W w' ∧ ((runes s.data.toList = none ∧ e = .returned (.tuple #[.slice none 0 0, .bool false])) ∨
    ∃ l v, runes s.data.toList = some l ∧ e = .returned (.tuple #[v, .bool true]) ∧ w'.ownsRow W.heap.size 21 1 v l.length (l.map (.int .i32)))

theorem drop_extract (s : ByteArray) (n : Nat) : (s.extract n s.size).data.toList = s.data.toList.drop n := by
  rw [ByteArray.data_extract, Array.toList_extract]
  simp [List.extract]
  rw [List.take_of_length_le]
  simp

theorem runes_step {W wr w1 : World} {s t : ByteArray} {l : List Int} {r : Int} {n : Nat} (hl : ∀ r ∈ l, scalar r = true) (hs : s.data.toList = encs l ++ t.data.toList)
    (hd : dec t.data.toList = (r, n)) (hn : n ≠ 0) : (∀ x ∈ l ++ [r], scalar x = true) ∧ s.data.toList = encs (l ++ [r]) ++ (t.extract n t.size).data.toList ∧ n ≤ t.size ∧ 0 < n := by
  obtain ⟨h1, h2, h3⟩ := dec_some hd hn
  have hle := dec_le t.data.toList
  rw [hd, len_at] at hle
  refine ⟨?_, ?_, hle, by omega⟩
  · intro x hx
    rcases List.mem_append.1 hx with h | h
    · exact hl x h
    · simp at h; subst h; exact h1
  · rw [encs_append, drop_extract, List.append_assoc]
    have he : encs [r] = enc r := by simp [encs]
    rw [he, ← h3]; exact hs

set_option maxRecDepth 100000 in
set_option maxHeartbeats 1000000 in
theorem runes_any (s : ByteArray) (w : World) (hs : (s.size : Int) ≤ 9223372036854775807) (hf : Fits s.data.toList) (T : Tab w) :
    Calls Tryd.prog 21 #[.string s] w (RunesPost w s) := by
  obtain ⟨i0, hi, hz0, hz1, hz2⟩ := info_parts info_i32
  go_enter Tryd.func21, Tryd.ntmps21
  go_wp2_with fail
  go_loopw [0, 4] (fun x v wr => ∃ (l : List Int) (t : ByteArray), x = .string t ∧ t.size ≤ s.size ∧ (∀ r ∈ l, scalar r = true) ∧ Hid (s.data.toList = encs l ++ t.data.toList) ∧
      wr.ownsRow w.heap.size 21 1 v l.length (l.map (.int .i32)) ∧ Below w.heap.size w wr)
    (fun x _ _ => strLen x)
  case atStart => exact ⟨[], s, rfl, Nat.le_refl _, by simp, rfl, World.ownsRow_nil _ _ _ _, Below.refl _ _⟩
  case round =>
    obtain ⟨l, t, rfl, ht, hl, HS, hown, hb⟩ := hrel
    have hL := hf l _ hl HS.out
    have Tr := T.below hb
    have HL := Lib.hid hl
    clear hl
    by_cases h0 : t.size = 0
    · have h0' : ¬ (0 : Int) < (t.size : Int) := by omega
      have HE := Lib.hid h0
      clear h0
      go_wp2_with fail
      go_ret2
      have e0 : t.data.toList = [] := by
        apply List.eq_nil_of_length_eq_zero; rw [len_at]; exact HE.out
      exact ⟨hb, .inr ⟨l, _, runes_iff.2 ⟨HL.out, by rw [HS.out, e0, List.append_nil]⟩, rfl, hown⟩⟩
    · have h0' : 0 < t.size := by omega
      clear h0
      obtain ⟨r, n, hd⟩ : ∃ r n, dec t.data.toList = (r, n) := ⟨_, _, rfl⟩
      by_cases hn : n = 0
      · subst hn
        have HD := Lib.hid hd
        clear hd
        go_wp2_with (go_at_call 29; refine (first_any _ _ (by omega) (by omega) (by assumption)).mono ?_; rintro e w1 ⟨hdec, hb1⟩; unfold DecIs at hdec; rw [HD.out] at hdec; subst hdec)
        go_ret2
        refine ⟨hb.trans (hb1.mono hb.size), .inl ⟨?_, rfl⟩⟩
        rw [HS.out]
        exact runes_none HL.out (fun h => by have := congrArg List.length h; rw [len_at, List.length_nil] at this; omega) (by rw [HD.out])
      · obtain ⟨g1, g2, g3, g4⟩ := runes_step (W := w) (wr := wr) (w1 := wr) HL.out HS.out hd hn
        have hL2 := hf _ _ g1 g2
        rw [List.length_append, List.length_singleton] at hL2
        have HG := Lib.hid g1
        have HS2 := Lib.hid g2
        have HD := Lib.hid hd
        have hnb : ((n : Int) == 0) = false := by rw [beq_eq_false_iff_ne]; omega
        clear g1 g2 hd hn
        have hbs0 := hb.size
        go_wp2_with (first | (go_at_call 29; refine (first_any _ _ (by omega) (by omega) (by assumption)).mono ?_; rintro e w1 ⟨hdec, hb1⟩; unfold DecIs at hdec; rw [HD.out] at hdec; subst hdec; replace hown := owns_below hown hb1; replace hb := hb.trans (hb1.mono hbs0); have hbs := hb.size; clear hb1) | (at_builtin; refine wpList_append_own _ rfl _ _ 28 rfl w.heap.size 21 i0 (.int .i32 0) 1 4 Tryd.underlying28 hi hz0 hz1 hz2 rfl (by decide) _ _ _ rfl (hown.alloc _) ⟨w1.heap.size, 0, none⟩ 1 1 [.int .i32 r] rfl rfl (cell_one _ _) one_int (by unfold maxLen; omega) (by omega) (by simp; omega) ?_; intro v' w2 hown' hgrow hnil'))
        have hb2 := hb.trans ((((Below.refl _ _).alloc hbs _).trans (below_of_grown (row := u4.ownBlock) hgrow (by simp; omega) (owns_base hown))))
        have hsz : (t.extract n t.size).size = t.size - n := by rw [ByteArray.size_extract]; omega
        exact ⟨⟨l ++ [r], t.extract n t.size, rfl, by omega, HG.out, HS2, by simpa using hown', hb2⟩, by show (t.extract n t.size).size < t.size; omega⟩
end Go.Proofs.YtkgmikglifmenaaDoor.L
