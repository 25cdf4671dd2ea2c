/-
  The walks of Word and Common, of the program and of the reference.
-/
import Derived.Test.YtmbbgfdgekphoaaDoorLetText
namespace Go.Proofs.YtmbbgfdgekphoaaDoor.L
open Go.RowKit
open LM Aid
set_option linter.unusedSimpArgs false
set_option linter.unusedVariables false

def good (r : Int) : Bool := decide (32 < r ∧ r ≠ 127)
/-- is a text a word? -/
def wordB (s : ByteArray) : Bool := decide (s.size ≤ 96) && (match runes s.data.toList with | none => false | some l => l.all good && decide (1 ≤ l.length ∧ l.length ≤ 24))

theorem fits_small {s : ByteArray} (h : s.size ≤ 35184372088832) : Fits s.data.toList := by
  intro l t _ he
  have h1 := congrArg List.length he
  rw [len_at, List.length_append] at h1
  have := (encs_len l).1
  omega
theorem runes_len {s : ByteArray} {l : List Int} (h : runes s.data.toList = some l) : l.length ≤ s.size := by
  have h1 := congrArg List.length (runes_iff.1 h).2
  rw [len_at] at h1
  have := (encs_len l).1
  omega
theorem wordB_none {s : ByteArray} (h : runes s.data.toList = none) : wordB s = false := by simp [wordB, h]
theorem wordB_some {s : ByteArray} {l : List Int} (h9 : s.size ≤ 96) (h : runes s.data.toList = some l) : wordB s = (l.all good && decide (1 ≤ l.length ∧ l.length ≤ 24)) := by simp [wordB, h, h9]
theorem wordB_long {s : ByteArray} (h : ¬ s.size ≤ 96) : wordB s = false := by simp [wordB, h]

theorem all_next {p : Int → Bool} {l : List Int} {k : Nat} (hk : k < l.length) {x : Int} (hx : l.getD k 0 = x) : (l.take (k + 1)).all p = ((l.take k).all p && p x) := by
  rw [List.take_succ_eq_append_getElem hk, List.all_append]
  have e1 : l[k] = x := by rw [← hx]; simp [List.getD_eq_getElem?_getD, hk]
  simp [e1]

set_option maxRecDepth 100000 in
set_option maxHeartbeats 1000000 in
theorem word_any (s : ByteArray) (w : World) (hs : (s.size : Int) ≤ 9223372036854775807) (T : Tab w) :
    Calls Tryd.prog 18 #[.string s] w fun e w' => e = .returned (.bool (wordB s)) ∧ Below w.heap.size w w' := by
  by_cases h9 : (s.size : Int) ≤ 96
  · have hf := Lib.hid (fits_small (s := s) (by omega))
    go_enter Tryd.func18, Tryd.ntmps18
    go_wp2_with fail
    refine (runes_any s w hs hf.out T).mono ?_
    rintro e w1 ⟨hb, ⟨hn, rfl⟩ | ⟨l, v, hl, rfl, hown⟩⟩
    · have HN := Lib.hid hn
      clear hn
      go_wp2_with fail
      refine wp_loop_rounds 1 ?_
      rw [rounds_succ]
      go_wp2_with fail
      go_ret
      exact ⟨ret_bool (wordB_none HN.out).symm, hb⟩
    · have hlen := runes_len hl
      have HL := Lib.hid hl
      have HI := Lib.hid (Ints.own hown (by omega))
      clear hl hown
      obtain ⟨a1, c1, rfl⟩ := Ints.form HI.out
      go_wp2_with fail
      go_loop [17, 4] (fun i ok => ∃ (k : Nat) (b : Bool), i = .int .i64 k ∧ k ≤ l.length ∧ ok = .bool b ∧ Hid (b = (l.take k).all good)) (fun i _ => l.length - (intOf i).toNat)
      case atStart => exact ⟨0, true, rfl, Nat.zero_le _, rfl, by simp [Hid]⟩
      case round =>
        obtain ⟨k, ok, rfl, hk, rfl, HO⟩ := hrel
        by_cases hlt : (k : Int) < (l.length : Int)
        · have hlt' : k < l.length := by omega
          obtain ⟨x, hx⟩ : ∃ x, l.getD k 0 = x := ⟨_, rfl⟩
          obtain ⟨b1, o1, rfl, hbb, cx⟩ := Ints.at_ HI.out hlt' hx
          have HX := Lib.hid hx
          clear hx
          have HN := Lib.hid (all_next (p := good) hlt' HX.out)
          cases ok
          · go_wp2_with fail
            exact ⟨⟨k + 1, false, by go_num, by omega, rfl, by rw [HN.out, ← HO.out]; rfl⟩, by simp [intOf]; omega⟩
          · go_wp2_with fail
            · have hx : 32 < x := by assumption
              exact ⟨⟨k + 1, (x != 127), by go_num, by omega, rfl, by rw [HN.out, ← HO.out]; exact (by rw [Bool.eq_iff_iff]; simp [good, hx] : (x != 127) = (true && good x))⟩, by simp [intOf]; omega⟩
            · have hx : ¬ 32 < x := by assumption
              exact ⟨⟨k + 1, false, by go_num, by omega, rfl, by rw [HN.out, ← HO.out]; simp [good, hx, Hid]⟩, by simp [intOf]; omega⟩
        · have hke : k = l.length := by omega
          subst hke
          rw [List.take_length] at HO
          have HW := Lib.hid (wordB_some (s := s) (by omega) HL.out)
          rw [← HO.out] at HW
          by_cases hl1 : (1 : Int) ≤ (l.length : Int)
          · by_cases hl2 : (l.length : Int) ≤ 24
            · cases ok
              all_goals
                go_wp2_with fail
                go_ret
                exact ⟨ret_bool (by rw [HW.out]; simp; try omega), hb⟩
            · cases ok
              all_goals
                go_wp2_with fail
                go_ret
                exact ⟨ret_bool (by rw [HW.out]; simp; try omega), hb⟩
          · cases ok
            all_goals
              go_wp2_with fail
              go_ret
              exact ⟨ret_bool (by rw [HW.out]; simp; try omega), hb⟩
  · go_enter Tryd.func18, Tryd.ntmps18
    go_wp2_with fail
    go_ret
    exact ⟨ret_bool (wordB_long (by omega)).symm, Below.refl _ _⟩

set_option maxRecDepth 100000 in
set_option maxHeartbeats 1000000 in
theorem rword_any (s : ByteArray) (w : World) (hs : (s.size : Int) ≤ 9223372036854775807) :
    Calls Tryd.prog 19 #[.string s] w fun e w' => e = .returned (.bool (wordB s)) ∧ Below w.heap.size w w' := by
  by_cases h9 : (s.size : Int) ≤ 96
  · have hf := Lib.hid (fits_small (s := s) (by omega))
    go_enter Tryd.func19, Tryd.ntmps19
    go_wp2_with fail
    refine (rrunes_any s w hs hf.out).mono ?_
    rintro e w1 ⟨hb, ⟨hn, rfl⟩ | ⟨l, v, hl, rfl, hown⟩⟩
    · have HN := Lib.hid hn
      clear hn
      go_wp2_with fail
      refine wp_loop_rounds 1 ?_
      rw [rounds_succ]
      go_wp2_with fail
      go_ret
      exact ⟨ret_bool (wordB_none HN.out).symm, hb⟩
    · have hlen := runes_len hl
      have HL := Lib.hid hl
      have HI := Lib.hid (Ints.own hown (by omega))
      clear hl hown
      obtain ⟨a1, c1, rfl⟩ := Ints.form HI.out
      go_wp2_with fail
      go_loop [5] (fun i => ∃ (k : Nat), i = .int .i64 k ∧ k ≤ l.length ∧ Hid ((l.take k).all good = true)) (fun i => l.length - (intOf i).toNat)
      case atStart => exact ⟨0, rfl, Nat.zero_le _, by simp [Hid]⟩
      case round =>
        obtain ⟨k, rfl, hk, HO⟩ := hrel
        by_cases hlt : (k : Int) < (l.length : Int)
        · have hlt' : k < l.length := by omega
          obtain ⟨x, hx⟩ : ∃ x, l.getD k 0 = x := ⟨_, rfl⟩
          obtain ⟨b1, o1, rfl, hbb, cx⟩ := Ints.at_ HI.out hlt' hx
          have HX := Lib.hid hx
          clear hx
          have HW := Lib.hid (wordB_some (s := s) (by omega) HL.out)
          by_cases hx1 : x ≤ 32
          · go_wp2_with fail
            go_ret
            exact ⟨ret_bool (by rw [HW.out, all_false hlt' HX.out (by simp [good]; omega)]; rfl), hb⟩
          · by_cases hx2 : x = 127
            · have hb2 : (x == 127) = true := by rw [beq_iff_eq]; exact hx2
              have HX2 := Lib.hid hx2
              clear hx2
              go_wp2_with fail
              go_ret
              exact ⟨ret_bool (by rw [HW.out, all_false hlt' HX.out (by simp [good, HX2.out])]; rfl), hb⟩
            · have hb2 : (x == 127) = false := by rw [beq_eq_false_iff_ne]; exact hx2
              go_wp2_with fail
              exact ⟨⟨k + 1, by go_num, by omega, all_take_next HO.out hlt' HX.out (by simp [good]; omega)⟩, by simp [intOf]; omega⟩
        · have hke : k = l.length := by omega
          subst hke
          rw [List.take_length] at HO
          have HW := Lib.hid (wordB_some (s := s) (by omega) HL.out)
          rw [HO.out] at HW
          by_cases hl1 : (1 : Int) ≤ (l.length : Int)
          · by_cases hl2 : (l.length : Int) ≤ 24
            · go_wp2_with fail
              go_ret
              exact ⟨ret_bool (by rw [HW.out]; simp; try omega), hb⟩
            · go_wp2_with fail
              go_ret
              exact ⟨ret_bool (by rw [HW.out]; simp; try omega), hb⟩
          · go_wp2_with fail
            go_ret
            exact ⟨ret_bool (by rw [HW.out]; simp; try omega), hb⟩
  · go_enter Tryd.func19, Tryd.ntmps19
    go_wp2_with fail
    go_ret
    exact ⟨ret_bool (wordB_long (by omega)).symm, Below.refl _ _⟩

/-- with how many numbers two rows begin alike -/
def lcp : List Int → List Int → Nat
  | a :: l, b :: m => if a = b then lcp l m + 1 else 0
  | _, _ => 0
theorem lcp_comm (l : List Int) : ∀ m, lcp l m = lcp m l := by
  induction l with
  | nil => intro m; cases m <;> rfl
  | cons a l ih =>
    intro m
    match m with
    | [] => rfl
    | b :: m =>
      simp only [lcp, ih m]
      by_cases h : a = b
      · rw [if_pos h, if_pos h.symm]
      · rw [if_neg h, if_neg (fun e => h e.symm)]
theorem lcp_drop {l m : List Int} : ∀ k, k ≤ l.length → k ≤ m.length → l.take k = m.take k → lcp l m = k + lcp (l.drop k) (m.drop k) := by
  intro k
  induction k generalizing l m with
  | zero => intro _ _ _; simp
  | succ k ih =>
    intro h1 h2 h3
    match l, m, h1, h2 with
    | a :: l, b :: m, h1, h2 =>
      simp at h3
      obtain ⟨rfl, h3⟩ := h3
      simp only [lcp, if_true, List.drop_succ_cons]
      rw [ih (by simpa using h1) (by simpa using h2) h3]; omega
theorem lcp_at {l m : List Int} {k : Nat} (h1 : k < l.length) (h2 : k < m.length) (ht : l.take k = m.take k) {x y : Int} (hx : l.getD k 0 = x) (hy : m.getD k 0 = y) (hne : x ≠ y) : lcp l m = k := by
  rw [lcp_drop k (by omega) (by omega) ht, List.drop_eq_getElem_cons h1, List.drop_eq_getElem_cons h2]
  have e1 : l[k] = x := by rw [← hx]; simp [List.getD_eq_getElem?_getD, h1]
  have e2 : m[k] = y := by rw [← hy]; simp [List.getD_eq_getElem?_getD, h2]
  simp only [lcp, e1, e2, if_neg hne, Nat.add_zero]
theorem lcp_end {l m : List Int} {k : Nat} (h1 : k ≤ l.length) (h2 : k ≤ m.length) (ht : l.take k = m.take k) (he : k = l.length ∨ k = m.length) : lcp l m = k := by
  rw [lcp_drop k h1 h2 ht]
  rcases he with rfl | rfl
  · simp [lcp]
  · rw [List.drop_length]; cases l.drop m.length <;> rfl

/-- with how many runes two texts begin alike -/
def commonOf (a b : ByteArray) : Nat := match runes a.data.toList, runes b.data.toList with
  | some l, some m => lcp l m
  | _, _ => 0
theorem common_some {a b : ByteArray} {l m : List Int} (h1 : runes a.data.toList = some l) (h2 : runes b.data.toList = some m) : commonOf a b = lcp l m := by simp [commonOf, h1, h2]
theorem common_no1 {a b : ByteArray} (h1 : runes a.data.toList = none) : commonOf a b = 0 := by simp [commonOf, h1]
theorem common_no2 {a b : ByteArray} (h1 : runes b.data.toList = none) : commonOf a b = 0 := by unfold commonOf; rw [h1]; cases runes a.data.toList <;> rfl
theorem common_comm (a b : ByteArray) : commonOf a b = commonOf b a := by
  unfold commonOf
  cases runes a.data.toList <;> cases runes b.data.toList <;> simp [lcp_comm]
theorem ret_int {a b : Int} (h : a = b) : Ending.returned (.int .i64 a) = .returned (.int .i64 b) := by rw [h]

set_option maxRecDepth 100000 in
set_option maxHeartbeats 1000000 in
theorem common_any (a b : ByteArray) (w : World) (ha : a.size ≤ 35184372088832) (hb : b.size ≤ 35184372088832) (T : Tab w) :
    Calls Tryd.prog 23 #[.string a, .string b] w fun e w' => e = .returned (.int .i64 (commonOf a b)) ∧ Below w.heap.size w w' := by
  have hfa := Lib.hid (fits_small ha)
  have hfb := Lib.hid (fits_small hb)
  go_enter Tryd.func23, Tryd.ntmps23
  go_wp2_with fail
  refine (runes_any a w (by omega) hfa.out T).mono ?_
  rintro e w1 ⟨hb1, hr⟩
  have T1 := T.below hb1
  rcases hr with ⟨hn, rfl⟩ | ⟨l, v, hl, rfl, hown⟩
  · have HN := Lib.hid hn
    clear hn
    go_wp2_with fail
    refine (runes_any b w1 (by omega) hfb.out T1).mono ?_
    rintro e w2 ⟨hb2, ⟨hn, rfl⟩ | ⟨l, v, hl, rfl, hown⟩⟩
    all_goals
      have HN2 := True.intro
      try clear hn
      try clear hl
      go_wp2_with fail
      go_ret
      exact ⟨ret_int (by rw [common_no1 HN.out]; rfl), hb1.trans (hb2.mono hb1.size)⟩
  · have HL := Lib.hid hl
    clear hl
    go_wp2_with fail
    refine (runes_any b w1 (by omega) hfb.out T1).mono ?_
    rintro e w2 ⟨hb2, ⟨hn, rfl⟩ | ⟨m, v2, hm, rfl, hown2⟩⟩
    · have HN := Lib.hid hn
      clear hn
      go_wp2_with fail
      go_ret
      exact ⟨ret_int (by rw [common_no2 HN.out]; rfl), hb1.trans (hb2.mono hb1.size)⟩
    · have hlen := runes_len HL.out
      have hlen2 := runes_len hm
      have HM := Lib.hid hm
      have H1 := Lib.hid ((Ints.own hown (by omega)).below hb2)
      have H2 := Lib.hid (Ints.own hown2 (by omega))
      have hbb := hb1.trans (hb2.mono hb1.size)
      clear hm hown hown2 hb1 hb2
      obtain ⟨a1, c1, rfl⟩ := Ints.form H1.out
      obtain ⟨a2, c2, rfl⟩ := Ints.form H2.out
      go_wp2_with fail
      go_loopw [9] (fun i wr => ∃ k : Nat, i = .int .i64 k ∧ k ≤ l.length ∧ k ≤ m.length ∧ Hid (l.take k = m.take k) ∧ Hid (∃ n, wr = w2.drewN n))
        (fun i _ => l.length - (intOf i).toNat)
      case atStart => exact ⟨0, rfl, Nat.zero_le _, Nat.zero_le _, by simp [Hid], ⟨0, rfl⟩⟩
      case round =>
        obtain ⟨k, rfl, hk, hk2, HT, HW⟩ := hrel
        have hbr : Below w.heap.size w wr := by obtain ⟨n, rfl⟩ := HW.out; exact below_drewN hbb _
        by_cases hlt : (k : Int) < (l.length : Int)
        · by_cases hlt2 : (k : Int) < (m.length : Int)
          · obtain ⟨x, hx⟩ : ∃ x, l.getD k 0 = x := ⟨_, rfl⟩
            obtain ⟨y, hy⟩ : ∃ y, m.getD k 0 = y := ⟨_, rfl⟩
            obtain ⟨b1, o1, rfl, _, cx0⟩ := Ints.at_ H1.out (k := k) (by omega) hx
            obtain ⟨b2, o2, rfl, _, cy0⟩ := Ints.at_ H2.out (k := k) (by omega) hy
            have cx : wr.cell? ⟨b1, o1 + k, none⟩ = some (.int .i32 x) := by obtain ⟨n, rfl⟩ := HW.out; exact cx0
            have cy : wr.cell? ⟨b2, o2 + k, none⟩ = some (.int .i32 y) := by obtain ⟨n, rfl⟩ := HW.out; exact cy0
            have HX := Lib.hid hx
            have HY := Lib.hid hy
            clear hx hy cx0 cy0
            by_cases he : x = y
            · have hne : (x == y) = true := by rw [he]; simp
              have HE := Lib.hid he
              clear he
              go_wp2_with fail
              go_quiet (fail)
              go_wp2_with fail
              exact ⟨⟨k + 1, by go_num, by omega, by omega, take_next HT.out (by omega) (by omega) (by rw [HX.out, HY.out, HE.out]), by obtain ⟨n, rfl⟩ := HW.out; exact ⟨_, World.drewN_drewN _ _ _⟩⟩, by simp [intOf]; omega⟩
            · have hne : (x == y) = false := by rw [beq_eq_false_iff_ne]; exact he
              have HE := Lib.hid he
              clear he
              go_wp2_with fail
              go_quiet (fail)
              go_wp2_with fail
              go_ret
              exact ⟨ret_int (by rw [common_some HL.out HM.out, lcp_at (by omega) (by omega) HT.out HX.out HY.out HE.out]), below_drewN hbr _⟩
          · have hd : decide (k < m.length) = false := by simp; omega
            go_wp2_with fail
            go_quiet (fail)
            go_wp2_with fail
            go_ret
            exact ⟨ret_int (by rw [common_some HL.out HM.out, lcp_end hk hk2 HT.out (by omega)]), below_drewN hbr _⟩
        · have hd : decide (k < l.length) = false := by simp; omega
          go_wp2_with fail
          go_quiet (fail)
          go_wp2_with fail
          go_ret
          exact ⟨ret_int (by rw [common_some HL.out HM.out, lcp_end hk hk2 HT.out (by omega)]), below_drewN hbr _⟩
end Go.Proofs.YtmbbgfdgekphoaaDoor.L
