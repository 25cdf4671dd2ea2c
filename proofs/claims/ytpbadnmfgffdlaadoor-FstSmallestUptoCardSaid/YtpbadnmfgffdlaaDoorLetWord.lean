/-
  The walks of Word, of the program and of the reference.
-/
import Derived.Test.YtpbadnmfgffdlaaDoorLetTake
namespace Go.Proofs.YtpbadnmfgffdlaaDoor.L
open Go.RowKit
open LM Aid
set_option linter.unusedSimpArgs false
set_option linter.unusedVariables false

def good (r : Int) : Bool := decide (32 < r ∧ r ≠ 127)
/-- is a text a word? -/
def wordB (s : ByteArray) : Bool := decide (s.size ≤ 96) && (match runes s.data.toList with | none => false | some l => l.all good && decide (1 ≤ l.length ∧ l.length ≤ 24))

theorem fits_small {s : ByteArray} (h : s.size ≤ 35184372088832) : Fits s.data.toList := by
  intro l t _ he
  have h1 := congrArg List.length he
  rw [len_at, List.length_append] at h1
  have := (encs_len l).1
  omega
theorem runes_len {s : ByteArray} {l : List Int} (h : runes s.data.toList = some l) : l.length ≤ s.size := by
  have h1 := congrArg List.length (runes_iff.1 h).2
  rw [len_at] at h1
  have := (encs_len l).1
  omega
theorem wordB_none {s : ByteArray} (h : runes s.data.toList = none) : wordB s = false := by simp [wordB, h]
theorem wordB_some {s : ByteArray} {l : List Int} (h9 : s.size ≤ 96) (h : runes s.data.toList = some l) : wordB s = (l.all good && decide (1 ≤ l.length ∧ l.length ≤ 24)) := by simp [wordB, h, h9]
theorem wordB_long {s : ByteArray} (h : ¬ s.size ≤ 96) : wordB s = false := by simp [wordB, h]

theorem all_next {p : Int → Bool} {l : List Int} {k : Nat} (hk : k < l.length) {x : Int} (hx : l.getD k 0 = x) : (l.take (k + 1)).all p = ((l.take k).all p && p x) := by
  rw [List.take_succ_eq_append_getElem hk, List.all_append]
  have e1 : l[k] = x := by rw [← hx]; simp [List.getD_eq_getElem?_getD, hk]
  simp [e1]

set_option maxRecDepth 100000 in
set_option maxHeartbeats 1000000 in
theorem word_any (s : ByteArray) (w : World) (hs : (s.size : Int) ≤ 9223372036854775807) (T : Tab w) :
    Calls Tryd.prog 22 #[.string s] w fun e w' => e = .returned (.bool (wordB s)) ∧ Below w.heap.size w w' := by
  by_cases h9 : (s.size : Int) ≤ 96
  · have hf := Lib.hid (fits_small (s := s) (by omega))
    go_enter Tryd.func22, Tryd.ntmps22
    go_wp2_with fail
    refine (runes_any s w hs hf.out T).mono ?_
    rintro e w1 ⟨hb, ⟨hn, rfl⟩ | ⟨l, v, hl, rfl, hown⟩⟩
    · have HN := Lib.hid hn
      clear hn
      go_wp2_with fail
      refine wp_loop_rounds 1 ?_
      rw [rounds_succ]
      go_wp2_with fail
      go_ret
      exact ⟨ret_bool (wordB_none HN.out).symm, hb⟩
    · have hlen := runes_len hl
      have HL := Lib.hid hl
      have HI := Lib.hid (Ints.own hown (by omega))
      clear hl hown
      obtain ⟨a1, c1, rfl⟩ := Ints.form HI.out
      go_wp2_with fail
      go_loop [17, 4] (fun i ok => ∃ (k : Nat) (b : Bool), i = .int .i64 k ∧ k ≤ l.length ∧ ok = .bool b ∧ Hid (b = (l.take k).all good)) (fun i _ => l.length - (intOf i).toNat)
      case atStart => exact ⟨0, true, rfl, Nat.zero_le _, rfl, by simp [Hid]⟩
      case round =>
        obtain ⟨k, ok, rfl, hk, rfl, HO⟩ := hrel
        by_cases hlt : (k : Int) < (l.length : Int)
        · have hlt' : k < l.length := by omega
          obtain ⟨x, hx⟩ : ∃ x, l.getD k 0 = x := ⟨_, rfl⟩
          obtain ⟨b1, o1, rfl, hbb, cx⟩ := Ints.at_ HI.out hlt' hx
          have HX := Lib.hid hx
          clear hx
          have HN := Lib.hid (all_next (p := good) hlt' HX.out)
          cases ok
          · go_wp2_with fail
            exact ⟨⟨k + 1, false, by go_num, by omega, rfl, by rw [HN.out, ← HO.out]; rfl⟩, by simp [intOf]; omega⟩
          · go_wp2_with fail
            · have hx : 32 < x := by assumption
              exact ⟨⟨k + 1, (x != 127), by go_num, by omega, rfl, by rw [HN.out, ← HO.out]; exact (by rw [Bool.eq_iff_iff]; simp [good, hx] : (x != 127) = (true && good x))⟩, by simp [intOf]; omega⟩
            · have hx : ¬ 32 < x := by assumption
              exact ⟨⟨k + 1, false, by go_num, by omega, rfl, by rw [HN.out, ← HO.out]; simp [good, hx, Hid]⟩, by simp [intOf]; omega⟩
        · have hke : k = l.length := by omega
          subst hke
          rw [List.take_length] at HO
          have HW := Lib.hid (wordB_some (s := s) (by omega) HL.out)
          rw [← HO.out] at HW
          by_cases hl1 : (1 : Int) ≤ (l.length : Int)
          · by_cases hl2 : (l.length : Int) ≤ 24
            · cases ok
              all_goals
                go_wp2_with fail
                go_ret
                exact ⟨ret_bool (by rw [HW.out]; simp; try omega), hb⟩
            · cases ok
              all_goals
                go_wp2_with fail
                go_ret
                exact ⟨ret_bool (by rw [HW.out]; simp; try omega), hb⟩
          · cases ok
            all_goals
              go_wp2_with fail
              go_ret
              exact ⟨ret_bool (by rw [HW.out]; simp; try omega), hb⟩
  · go_enter Tryd.func22, Tryd.ntmps22
    go_wp2_with fail
    go_ret
    exact ⟨ret_bool (wordB_long (by omega)).symm, Below.refl _ _⟩

set_option maxRecDepth 100000 in
set_option maxHeartbeats 1000000 in
theorem rword_any (s : ByteArray) (w : World) (hs : (s.size : Int) ≤ 9223372036854775807) :
    Calls Tryd.prog 26 #[.string s] w fun e w' => e = .returned (.bool (wordB s)) ∧ Below w.heap.size w w' := by
  by_cases h9 : (s.size : Int) ≤ 96
  · have hf := Lib.hid (fits_small (s := s) (by omega))
    go_enter Tryd.func26, Tryd.ntmps26
    go_wp2_with fail
    refine (rrunes_any s w hs hf.out).mono ?_
    rintro e w1 ⟨hb, ⟨hn, rfl⟩ | ⟨l, v, hl, rfl, hown⟩⟩
    · have HN := Lib.hid hn
      clear hn
      go_wp2_with fail
      refine wp_loop_rounds 1 ?_
      rw [rounds_succ]
      go_wp2_with fail
      go_ret
      exact ⟨ret_bool (wordB_none HN.out).symm, hb⟩
    · have hlen := runes_len hl
      have HL := Lib.hid hl
      have HI := Lib.hid (Ints.own hown (by omega))
      clear hl hown
      obtain ⟨a1, c1, rfl⟩ := Ints.form HI.out
      go_wp2_with fail
      go_loop [5] (fun i => ∃ (k : Nat), i = .int .i64 k ∧ k ≤ l.length ∧ Hid ((l.take k).all good = true)) (fun i => l.length - (intOf i).toNat)
      case atStart => exact ⟨0, rfl, Nat.zero_le _, by simp [Hid]⟩
      case round =>
        obtain ⟨k, rfl, hk, HO⟩ := hrel
        by_cases hlt : (k : Int) < (l.length : Int)
        · have hlt' : k < l.length := by omega
          obtain ⟨x, hx⟩ : ∃ x, l.getD k 0 = x := ⟨_, rfl⟩
          obtain ⟨b1, o1, rfl, hbb, cx⟩ := Ints.at_ HI.out hlt' hx
          have HX := Lib.hid hx
          clear hx
          have HW := Lib.hid (wordB_some (s := s) (by omega) HL.out)
          by_cases hx1 : x ≤ 32
          · go_wp2_with fail
            go_ret
            exact ⟨ret_bool (by rw [HW.out, all_false hlt' HX.out (by simp [good]; omega)]; rfl), hb⟩
          · by_cases hx2 : x = 127
            · have hb2 : (x == 127) = true := by rw [beq_iff_eq]; exact hx2
              have HX2 := Lib.hid hx2
              clear hx2
              go_wp2_with fail
              go_ret
              exact ⟨ret_bool (by rw [HW.out, all_false hlt' HX.out (by simp [good, HX2.out])]; rfl), hb⟩
            · have hb2 : (x == 127) = false := by rw [beq_eq_false_iff_ne]; exact hx2
              go_wp2_with fail
              exact ⟨⟨k + 1, by go_num, by omega, all_take_next HO.out hlt' HX.out (by simp [good]; omega)⟩, by simp [intOf]; omega⟩
        · have hke : k = l.length := by omega
          subst hke
          rw [List.take_length] at HO
          have HW := Lib.hid (wordB_some (s := s) (by omega) HL.out)
          rw [HO.out] at HW
          by_cases hl1 : (1 : Int) ≤ (l.length : Int)
          · by_cases hl2 : (l.length : Int) ≤ 24
            · go_wp2_with fail
              go_ret
              exact ⟨ret_bool (by rw [HW.out]; simp; try omega), hb⟩
            · go_wp2_with fail
              go_ret
              exact ⟨ret_bool (by rw [HW.out]; simp; try omega), hb⟩
          · go_wp2_with fail
            go_ret
            exact ⟨ret_bool (by rw [HW.out]; simp; try omega), hb⟩
  · go_enter Tryd.func26, Tryd.ntmps26
    go_wp2_with fail
    go_ret
    exact ⟨ret_bool (wordB_long (by omega)).symm, Below.refl _ _⟩
end Go.Proofs.YtpbadnmfgffdlaaDoor.L
