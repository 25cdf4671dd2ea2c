/-
  The walks of the laws of layer 1: each answers true.
-/
import Derived.Test.YtmbbgfdgekphoaaDoorLetAlive
import Derived.Test.YtmbbgfdgekphoaaDoorLetMathB
namespace Go.Proofs.YtmbbgfdgekphoaaDoor.L
open Go.RowKit
open LM Aid
set_option linter.unusedSimpArgs false
set_option linter.unusedVariables false

theorem str_eq {a b : ByteArray} (h : a.data.toList = b.data.toList) : a = b := by
  apply ByteArray.ext; apply Array.ext'; exact h

set_option maxRecDepth 100000 in
set_option maxHeartbeats 1000000 in
theorem reads_law (s : ByteArray) (w : World) (hs : s.size ≤ 35184372088832) (T : Tab w) :
    Calls Tryd.prog 3 #[.string s] w fun e w' => e = .returned (.bool true) ∧ Below w.heap.size w w' := by
  have hf := Lib.hid (fits_small hs)
  go_enter Tryd.func3, Tryd.ntmps3
  go_wp2_with fail
  refine (runes_any s w (by omega) hf.out T).mono ?_
  rintro e w1 ⟨hb1, hr⟩
  have T1 := T.below hb1
  rcases hr with ⟨hn, rfl⟩ | ⟨l, v, hl, rfl, hown⟩
  · have HN := Lib.hid hn
    clear hn
    go_wp2_with fail
    refine (rrunes_any s w1 (by omega) hf.out).mono ?_
    rintro e w2 ⟨hb2, hr⟩
    have T2 := T1.below hb2
    have hbb := hb1.trans (hb2.mono hb1.size)
    have hbs := hbb.size
    rcases hr with ⟨_, rfl⟩ | ⟨l, v, hl, _⟩
    · clear hb1 hb2
      go_wp2_with fail
      refine (alive_any w2 T2).mono ?_
      rintro e w3 ⟨rfl, hb3⟩
      go_wp2_with fail
      refine (same_any _ _ [] [] w3 (Ints.nil _ _) (Ints.nil _ _)).mono ?_
      rintro e w4 ⟨rfl, hb4⟩
      have hd : decide (([] : List Int) = []) = true := by simp
      go_wp2_with fail
      go_ret
      exact ⟨rfl, (hbb.trans (hb3.mono hbs)).trans (hb4.mono (by have := hb3.size; omega))⟩
    · rw [HN.out] at hl; cases hl
  · have HL := Lib.hid hl
    have hlen := runes_len hl
    clear hl
    go_wp2_with fail
    refine (rrunes_any s w1 (by omega) hf.out).mono ?_
    rintro e w2 ⟨hb2, hr⟩
    have T2 := T1.below hb2
    have hbb := hb1.trans (hb2.mono hb1.size)
    have hbs := hbb.size
    rcases hr with ⟨hn, _⟩ | ⟨m, v2, hm, rfl, hown2⟩
    · rw [HL.out] at hn; cases hn
    · rw [HL.out] at hm
      obtain rfl := Option.some.inj hm
      have H1 := Lib.hid ((Ints.own hown (by omega)).below hb2)
      have H2 := Lib.hid (Ints.own hown2 (by omega))
      clear hm hown hown2 hb1 hb2
      go_wp2_with fail
      refine (alive_any w2 T2).mono ?_
      rintro e w3 ⟨rfl, hb3⟩
      go_wp2_with fail
      refine (same_any _ _ l l w3 (H1.out.below hb3) (H2.out.below hb3)).mono ?_
      rintro e w4 ⟨rfl, hb4⟩
      have hd : decide (l = l) = true := by simp
      go_wp2_with fail
      go_ret
      exact ⟨by simp, (hbb.trans (hb3.mono hbs)).trans (hb4.mono (by have := hb3.size; omega))⟩

set_option maxRecDepth 100000 in
set_option maxHeartbeats 1000000 in
theorem writes_law (v : Value) (l : List Int) (w : World) (h1 : Ints w .i32 v l) (h4 : 4 * l.length ≤ 140737488355328) (hr : ∀ x ∈ l, -2147483648 ≤ x ∧ x ≤ 2147483647) (T : Tab w) :
    Calls Tryd.prog 4 #[v] w fun e w' => e = .returned (.bool true) ∧ Below w.heap.size w w' := by
  have H1 := Lib.hid h1
  have HR := Lib.hid hr
  clear h1 hr
  go_enter Tryd.func4, Tryd.ntmps4
  go_wp2_with fail
  refine (text_any v l w H1.out h4 T).mono ?_
  rintro e w1 ⟨hp, hb1⟩
  have T1 := T.below hb1
  rcases hp with ⟨hall, t, ht, rfl⟩ | ⟨hall, rfl⟩
  · have HA := Lib.hid hall
    have HT := Lib.hid ht
    clear hall ht
    go_wp2_with fail
    refine (rtext_any v l w1 (H1.out.below hb1) h4 HR.out).mono ?_
    rintro e w2 ⟨hp, hb2⟩
    have T2 := T1.below hb2
    have hbb := hb1.trans (hb2.mono hb1.size)
    have hbs := hbb.size
    rcases hp with ⟨_, t2, ht2, rfl⟩ | ⟨hall, _⟩
    · obtain rfl : t = t2 := str_eq (by rw [HT.out, ht2])
      clear ht2 hb1 hb2
      go_wp2_with fail
      refine (alive_any w2 T2).mono ?_
      rintro e w3 ⟨rfl, hb3⟩
      go_wp2_with fail
      go_ret
      exact ⟨by simp, hbb.trans (hb3.mono hbs)⟩
    · rw [HA.out] at hall; cases hall
  · have HA := Lib.hid hall
    clear hall
    go_wp2_with fail
    refine (rtext_any v l w1 (H1.out.below hb1) h4 HR.out).mono ?_
    rintro e w2 ⟨hp, hb2⟩
    have T2 := T1.below hb2
    have hbb := hb1.trans (hb2.mono hb1.size)
    have hbs := hbb.size
    rcases hp with ⟨hall, _⟩ | ⟨_, rfl⟩
    · rw [HA.out] at hall; cases hall
    · clear hb1 hb2
      go_wp2_with fail
      refine (alive_any w2 T2).mono ?_
      rintro e w3 ⟨rfl, hb3⟩
      go_wp2_with fail
      go_ret
      exact ⟨by simp, hbb.trans (hb3.mono hbs)⟩

theorem all_iff {l : List Int} (h : l.all scalar = true) : ∀ r ∈ l, scalar r = true := by simpa [List.all_eq_true] using h

set_option maxRecDepth 100000 in
set_option maxHeartbeats 1000000 in
theorem back_law (v : Value) (l : List Int) (w : World) (h1 : Ints w .i32 v l) (h4 : l.length ≤ 35184372088832) (T : Tab w) :
    Calls Tryd.prog 5 #[v] w fun e w' => e = .returned (.bool true) ∧ Below w.heap.size w w' := by
  have H1 := Lib.hid h1
  clear h1
  go_enter Tryd.func5, Tryd.ntmps5
  go_wp2_with fail
  refine (text_any v l w H1.out (by omega) T).mono ?_
  rintro e w1 ⟨hp, hb1⟩
  have T1 := T.below hb1
  rcases hp with ⟨hall, t, ht, rfl⟩ | ⟨hall, rfl⟩
  · have hfit : Fits t.data.toList := by rw [ht]; exact fits_encs (all_iff hall) h4
    have hts : t.size ≤ 4 * l.length := by rw [size_of t _ ht]; exact (encs_len l).2
    have HT := Lib.hid (runes_iff.2 ⟨all_iff hall, ht⟩)
    have HF := Lib.hid hfit
    clear hall ht hfit
    go_wp2_with fail
    refine (runes_any t w1 (by omega) HF.out T1).mono ?_
    rintro e w2 ⟨hb2, hr⟩
    have T2 := T1.below hb2
    have hbb := hb1.trans (hb2.mono hb1.size)
    have hbs := hbb.size
    rcases hr with ⟨hn, _⟩ | ⟨m, v2, hm, rfl, hown2⟩
    · rw [HT.out] at hn; cases hn
    · rw [HT.out] at hm
      obtain rfl := Option.some.inj hm
      have H2 := Lib.hid (Ints.own hown2 (by omega))
      have H3 := Lib.hid ((H1.out.below hb1).below hb2)
      clear hm hown2 hb1 hb2
      go_wp2_with fail
      refine (alive_any w2 T2).mono ?_
      rintro e w3 ⟨rfl, hb3⟩
      go_wp2_with fail
      refine (same_any _ _ l l w3 (H3.out.below hb3) (H2.out.below hb3)).mono ?_
      rintro e w4 ⟨rfl, hb4⟩
      have hd : decide (l = l) = true := by simp
      go_wp2_with fail
      go_ret
      exact ⟨by simp, (hbb.trans (hb3.mono hbs)).trans (hb4.mono (by have := hb3.size; omega))⟩
  · clear hall
    go_wp2_with fail
    refine (runes_any ⟨#[]⟩ w1 (by decide) (fits_small (by decide)) T1).mono ?_
    rintro e w2 ⟨hb2, hr⟩
    have T2 := T1.below hb2
    have hbb := hb1.trans (hb2.mono hb1.size)
    have hbs := hbb.size
    rcases hr with ⟨hn, _⟩ | ⟨m, v2, hm, rfl, hown2⟩
    · cases hn
    · clear hm hown2 hb1 hb2
      go_wp2_with fail
      refine (alive_any w2 T2).mono ?_
      rintro e w3 ⟨rfl, hb3⟩
      go_wp2_with fail
      go_ret
      exact ⟨by simp, hbb.trans (hb3.mono hbs)⟩

set_option maxRecDepth 100000 in
set_option maxHeartbeats 1000000 in
theorem again_law (s : ByteArray) (w : World) (hs : s.size ≤ 35184372088832) (T : Tab w) :
    Calls Tryd.prog 6 #[.string s] w fun e w' => e = .returned (.bool true) ∧ Below w.heap.size w w' := by
  have hf := Lib.hid (fits_small hs)
  go_enter Tryd.func6, Tryd.ntmps6
  go_wp2_with fail
  refine (runes_any s w (by omega) hf.out T).mono ?_
  rintro e w1 ⟨hb1, hr⟩
  have T1 := T.below hb1
  rcases hr with ⟨hn, rfl⟩ | ⟨l, v, hl, rfl, hown⟩
  · clear hn
    go_wp2_with fail
    refine (text_any _ [] w1 (Ints.nil _ _) (by decide) T1).mono ?_
    rintro e w2 ⟨hp, hb2⟩
    have T2 := T1.below hb2
    have hbb := hb1.trans (hb2.mono hb1.size)
    have hbs := hbb.size
    rcases hp with ⟨hall, t, ht, rfl⟩ | ⟨hall, rfl⟩
    · clear hall ht hb1 hb2
      go_wp2_with fail
      refine (alive_any w2 T2).mono ?_
      rintro e w3 ⟨rfl, hb3⟩
      go_wp2_with fail
      go_ret
      exact ⟨by simp, hbb.trans (hb3.mono hbs)⟩
    · cases hall
  · have HL := Lib.hid hl
    have hlen := runes_len hl
    have H1 := Lib.hid (Ints.own hown (by omega))
    clear hl hown
    go_wp2_with fail
    refine (text_any _ l w1 H1.out (by omega) T1).mono ?_
    rintro e w2 ⟨hp, hb2⟩
    have T2 := T1.below hb2
    have hbb := hb1.trans (hb2.mono hb1.size)
    have hbs := hbb.size
    obtain ⟨hsc, he⟩ := runes_iff.1 HL.out
    rcases hp with ⟨hall, t, ht, rfl⟩ | ⟨hall, rfl⟩
    · obtain rfl : s = t := str_eq (by rw [ht, he])
      clear hall ht he hsc hb1 hb2
      go_wp2_with fail
      refine (alive_any w2 T2).mono ?_
      rintro e w3 ⟨rfl, hb3⟩
      go_wp2_with fail
      go_ret
      exact ⟨by simp, hbb.trans (hb3.mono hbs)⟩
    · rw [List.all_eq_true.2 hsc] at hall; cases hall

set_option maxRecDepth 100000 in
set_option maxHeartbeats 1000000 in
theorem words_law (s : ByteArray) (w : World) (hs : (s.size : Int) ≤ 9223372036854775807) (T : Tab w) :
    Calls Tryd.prog 9 #[.string s] w fun e w' => e = .returned (.bool true) ∧ Below w.heap.size w w' := by
  go_enter Tryd.func9, Tryd.ntmps9
  go_wp2_with fail
  refine (alive_any w T).mono ?_
  rintro e w1 ⟨rfl, hb1⟩
  have T1 := T.below hb1
  go_wp2_with fail
  refine (word_any s w1 hs T1).mono ?_
  rintro e w2 ⟨rfl, hb2⟩
  have hbb := hb1.trans (hb2.mono hb1.size)
  obtain ⟨b, hb⟩ : ∃ b, wordB s = b := ⟨_, rfl⟩
  have HB := Lib.hid hb
  clear hb hb1 hb2
  rw [HB.out]
  go_wp2_with fail
  refine (rword_any s w2 hs).mono ?_
  rintro e w3 ⟨rfl, hb3⟩
  rw [HB.out]
  go_wp2_with fail
  go_ret
  exact ⟨by simp, hbb.trans (hb3.mono hbb.size)⟩

set_option maxRecDepth 100000 in
set_option maxHeartbeats 1000000 in
theorem common_law (a b : ByteArray) (w : World) (ha : a.size ≤ 35184372088832) (hb : b.size ≤ 35184372088832) (T : Tab w) :
    Calls Tryd.prog 11 #[.string a, .string b] w fun e w' => e = .returned (.bool true) ∧ Below w.heap.size w w' := by
  go_enter Tryd.func11, Tryd.ntmps11
  obtain ⟨n, hn⟩ : ∃ n, commonOf a b = n := ⟨_, rfl⟩
  have hm := common_comm b a
  rw [hn] at hm
  have HN := Lib.hid hn
  have HM := Lib.hid hm
  clear hn hm
  go_wp2_with fail
  refine (common_any a b w ha hb T).mono ?_
  rintro e w1 ⟨rfl, hb1⟩
  have T1 := T.below hb1
  rw [HN.out]
  go_wp2_with fail
  refine (alive_any w1 T1).mono ?_
  rintro e w2 ⟨rfl, hb2⟩
  have T2 := T1.below hb2
  have hbb := hb1.trans (hb2.mono hb1.size)
  clear hb1 hb2
  go_wp2_with fail
  refine (rcommon_any a b w2 ha hb).mono ?_
  rintro e w3 ⟨rfl, hb3⟩
  have T3 := T2.below hb3
  have hbc := hbb.trans (hb3.mono hbb.size)
  rw [HN.out]
  clear hbb hb3
  go_wp2_with fail
  refine (common_any b a w3 hb ha T3).mono ?_
  rintro e w4 ⟨rfl, hb4⟩
  rw [HM.out]
  go_wp2_with fail
  go_ret
  exact ⟨by simp, hbc.trans (hb4.mono hbc.size)⟩
end Go.Proofs.YtmbbgfdgekphoaaDoor.L
