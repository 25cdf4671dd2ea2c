/-
  The walks of letters.scalar and letters.first: the rune with which a text begins is the one of the plain mathematics. Conditions: the text is not empty and its length fits; the table's cells hold the table.
-/
import Derived.Test.YtkgmikglifmenaaDoorAid
import Derived.Test.YtkgmikglifmenaaDoorLetMath
import Derived.Lib.Hide
namespace Go.Proofs.YtkgmikglifmenaaDoor.L
open Go.RowKit
open LM Aid
set_option linter.unusedSimpArgs false
set_option linter.unusedVariables false

/-- the table of the least runes, as it lies in memory -/
def Tab (w : World) : Prop := 0 < w.heap.size ∧ w.cell? ⟨0, 2, none⟩ = some (.int .i32 128) ∧ w.cell? ⟨0, 3, none⟩ = some (.int .i32 2048) ∧ w.cell? ⟨0, 4, none⟩ = some (.int .i32 65536) ∧ 0 < w.heap.size
theorem Tab.below {w w' : World} (h : Tab w) (hb : Below w.heap.size w w') : Tab w' := by
  obtain ⟨h0, h1, h2, h3, h4⟩ := h
  exact ⟨by have := hb.size; omega, (hb.cell (p := ⟨0, 2, none⟩) h4).trans h1, (hb.cell (p := ⟨0, 3, none⟩) h4).trans h2, (hb.cell (p := ⟨0, 4, none⟩) h4).trans h3, by have := hb.size; omega⟩

theorem ret_bool {a b : Bool} (h : a = b) : Ending.returned (.bool a) = .returned (.bool b) := by rw [h]
theorem scalar_any (r : Int) (w : World) : Calls Tryd.prog 24 #[.int .i32 r] w fun e w' => e = .returned (.bool (scalar r)) ∧ w = w' := by
  go_enter Tryd.func24, Tryd.ntmps24
  go_wp2
  all_goals go_ret
  all_goals exact ⟨ret_bool (by rw [Bool.eq_iff_iff]; simp only [scalar, decide_eq_true_eq, Bool.or_eq_true, Bool.false_eq_true, true_iff, false_iff]; omega), rfl⟩

/-- what first tells -/
def DecIs (s : ByteArray) (e : Ending) : Prop := e = .returned (.tuple #[.int .i32 (dec s.data.toList).1, .int .i64 ((dec s.data.toList).2 : Int)])
theorem DecIs.mk {s : ByteArray} {x : Int} {n : Nat} {m : Int} (h : dec s.data.toList = (x, n)) (hm : m = n) : DecIs s (.returned (.tuple #[.int .i32 x, .int .i64 m])) := by
  unfold DecIs; rw [h, hm]

theorem m_and {x m j : Int} (i : Nat) (hi : i ≤ 31) (hm : m = 2 ^ i - 1) (hj : j = 2 ^ i) (h0 : 0 ≤ x) (h1 : x < 2147483648) : bits .and .i32 x m = x % j := by
  subst hm hj; exact bits_mask .i32 31 (by decide) wraps_i32 i hi x h0 h1
theorem m_63 {x : Int} (h0 : 0 ≤ x) (h1 : x < 256) : bits .and .u8 x 63 = x % 64 := bits_mask .u8 8 (by decide) wraps_u8 6 (by decide) x h0 h1

theorem dec_2 (c d1 : UInt8) (t : List UInt8) (h : c.toNat / 32 = 6) : dec (c :: d1 :: t) = if (d1.toNat / 64 = 2) ∧ 128 ≤ (((c.toNat : Int) % 32) * 64 + (d1.toNat : Int) % 64) ∧ scalar (((c.toNat : Int) % 32) * 64 + (d1.toNat : Int) % 64) = true then ((((c.toNat : Int) % 32) * 64 + (d1.toNat : Int) % 64), 2) else (0, 0) := by
  have hl : lead c.toNat = 2 := by unfold lead; repeat (first | rw [if_pos (by omega)] | rw [if_neg (by omega)])
  have hst : lead0 c.toNat = (c.toNat : Int) % 32 := by unfold lead0; repeat (first | rw [if_pos (by omega)] | rw [if_neg (by omega)])
  simp only [dec, hl, hst, conts, List.length_cons, List.take_succ_cons, List.take_zero, Nat.reduceSub, least]
  rw [if_neg (by omega), if_neg (by omega)]
  by_cases g0 : d1.toNat / 64 = 2
  case neg => simp [g0]
  simp only [g0, if_true, true_and]
  by_cases k : 128 ≤ (((c.toNat : Int) % 32) * 64 + (d1.toNat : Int) % 64)
  · cases hk : scalar (((c.toNat : Int) % 32) * 64 + (d1.toNat : Int) % 64)
    · simp
    · simp [k]
  · have k' : (((c.toNat : Int) % 32) * 64 + (d1.toNat : Int) % 64) < 128 := by omega
    simp [k, k']

set_option maxRecDepth 100000 in
set_option maxHeartbeats 1000000 in
theorem first_2 (s : ByteArray) (w : World) (hs : (s.size : Int) ≤ 9223372036854775807) (h2 : 2 ≤ (s.size : Int)) (c d1 : Int) (e0 : (s[0].toNat : Int) = c) (c0 : 128 ≤ c) (c2 : c < 256)
    (e1 : (s[1].toNat : Int) = d1) (p1 : 0 ≤ d1) (q1 : d1 < 256) (t2 : (c / 32 == 6) = true) (T : Tab w) :
    Calls Tryd.prog 29 #[.string s] w fun e w' => DecIs s e ∧ Below w.heap.size w w' := by
  have hdec := dec_2 s[0] s[1] (s.data.toList.drop 2) (by have := beq_iff_eq.1 t2; omega)
  have hcons : s[0] :: s[1] :: s.data.toList.drop 2 = s.data.toList := by
    have hlen : 2 ≤ s.data.toList.length := by simp; have : s.data.size = s.size := rfl; omega
    match hh : s.data.toList, hlen with
    | x0 :: x1 :: t, _ =>
      simp [ByteArray.getElem_eq_getElem_data, ← Array.getElem_toList, hh]
  rw [hcons, e0, e1] at hdec
  have g1 : (s[1].toNat / 64 = 2) = (d1 / 64 = 2) := propext (by omega)
  simp only [g1] at hdec
  clear g1
  have HD := Lib.hid hdec
  clear hdec hcons
  have T2 := T.1
  have m0 : bits .and .i32 c 31 = c % 32 := m_and 5 (by decide) rfl rfl (by omega) (by omega)
  have m1 : bits .and .u8 d1 63 = d1 % 64 := m_63 (by omega) (by omega)
  have o1 : bits .or .i32 ((c % 32) * 64) (d1 % 64) = (c % 32) * 64 + d1 % 64 := i32_or6 _ _ (by omega) (by omega) (by omega) (by omega) (by omega)
  go_enter Tryd.func29, Tryd.ntmps29
  go_wp2_with (with_reducible refine wpList_bytes _ rfl 9 49 _ rfl 5 Tryd.underlying9 Tryd.underlying49 Tryd.underlying5 (s.extract 1 2) rfl 1 ?hsz ?_; rotate_right; intro g cap w1 hcap hg1 hg2 hb hc; have x0 : w1.cell? ⟨g, 0, none⟩ = some (.int .u8 d1) := (by rw [hc 0 (by simp; omega), ext_at s 1 2 0 (by simp; omega) (by omega)]; exact congrArg (fun z => some (Value.int .u8 z)) e1); have T1 := T.below hb; clear hc)
  case hsz => simp; omega
  obtain ⟨u1, u2, u3, u4, u5⟩ := T1
  refine wp_loop_rounds 2 ?_
  rw [rounds_succ]
  go_wp2_with fail
  · go_ret2
    exact ⟨DecIs.mk (x := 0) (n := 0) (by rw [HD.out]; exact if_neg (by have hne : (d1 / 64 != 2) = true := by assumption
                                                                        rw [bne_iff_ne] at hne
                                                                        omega)) rfl, hb⟩
  rw [rounds_succ]
  go_wp2_with (go_at_call 24; refine (scalar_any _ _).mono ?_; rintro e w' ⟨rfl, rfl⟩)
  all_goals go_ret2
  · have hx : (c % 32) * 64 + d1 % 64 < 128 ∨ (!scalar ((c % 32) * 64 + d1 % 64)) = true := ‹_›
    exact ⟨DecIs.mk (x := 0) (n := 0) (by rw [HD.out]; exact if_neg (by rintro ⟨_, _, hz⟩; rw [hz] at hx; simp at hx; omega)) rfl, hb⟩
  · have hx : 128 ≤ (c % 32) * 64 + d1 % 64 ∧ (!scalar ((c % 32) * 64 + d1 % 64)) = false := ‹_›
    exact ⟨DecIs.mk (x := (c % 32) * 64 + d1 % 64) (n := 2) (by rw [HD.out]; exact if_pos ⟨by have y1 : (d1 / 64 != 2) = false := (by assumption); simp only [bne_eq_false_iff_eq] at y1; omega, by omega, by simpa using hx.2⟩) rfl, hb⟩
  · exact ⟨DecIs.mk (x := 0) (n := 0) (by rw [HD.out]; exact if_neg (by omega)) rfl, hb⟩

theorem dec_3 (c d1 d2 : UInt8) (t : List UInt8) (h : c.toNat / 16 = 14) : dec (c :: d1 :: d2 :: t) = if (d1.toNat / 64 = 2 ∧ d2.toNat / 64 = 2) ∧ 2048 ≤ ((((c.toNat : Int) % 16) * 64 + (d1.toNat : Int) % 64) * 64 + (d2.toNat : Int) % 64) ∧ scalar ((((c.toNat : Int) % 16) * 64 + (d1.toNat : Int) % 64) * 64 + (d2.toNat : Int) % 64) = true then (((((c.toNat : Int) % 16) * 64 + (d1.toNat : Int) % 64) * 64 + (d2.toNat : Int) % 64), 3) else (0, 0) := by
  have hl : lead c.toNat = 3 := by unfold lead; repeat (first | rw [if_pos (by omega)] | rw [if_neg (by omega)])
  have hst : lead0 c.toNat = (c.toNat : Int) % 16 := by unfold lead0; repeat (first | rw [if_pos (by omega)] | rw [if_neg (by omega)])
  simp only [dec, hl, hst, conts, List.length_cons, List.take_succ_cons, List.take_zero, Nat.reduceSub, least]
  rw [if_neg (by omega), if_neg (by omega)]
  by_cases g0 : d1.toNat / 64 = 2
  case neg => simp [g0]
  simp only [g0, if_true, true_and]
  by_cases g1 : d2.toNat / 64 = 2
  case neg => simp [g1]
  simp only [g1, if_true, true_and]
  by_cases k : 2048 ≤ ((((c.toNat : Int) % 16) * 64 + (d1.toNat : Int) % 64) * 64 + (d2.toNat : Int) % 64)
  · cases hk : scalar ((((c.toNat : Int) % 16) * 64 + (d1.toNat : Int) % 64) * 64 + (d2.toNat : Int) % 64)
    · simp
    · simp [k]
  · have k' : ((((c.toNat : Int) % 16) * 64 + (d1.toNat : Int) % 64) * 64 + (d2.toNat : Int) % 64) < 2048 := by omega
    simp [k, k']

set_option maxRecDepth 100000 in
set_option maxHeartbeats 1000000 in
theorem first_3 (s : ByteArray) (w : World) (hs : (s.size : Int) ≤ 9223372036854775807) (h2 : 3 ≤ (s.size : Int)) (c d1 d2 : Int) (e0 : (s[0].toNat : Int) = c) (c0 : 128 ≤ c) (c2 : c < 256)
    (e1 : (s[1].toNat : Int) = d1) (p1 : 0 ≤ d1) (q1 : d1 < 256) (e2 : (s[2].toNat : Int) = d2) (p2 : 0 ≤ d2) (q2 : d2 < 256) (t2 : (c / 32 == 6) = false) (t3 : (c / 16 == 14) = true) (T : Tab w) :
    Calls Tryd.prog 29 #[.string s] w fun e w' => DecIs s e ∧ Below w.heap.size w w' := by
  have hdec := dec_3 s[0] s[1] s[2] (s.data.toList.drop 3) (by have := beq_iff_eq.1 t3; omega)
  have hcons : s[0] :: s[1] :: s[2] :: s.data.toList.drop 3 = s.data.toList := by
    have hlen : 3 ≤ s.data.toList.length := by simp; have : s.data.size = s.size := rfl; omega
    match hh : s.data.toList, hlen with
    | x0 :: x1 :: x2 :: t, _ =>
      simp [ByteArray.getElem_eq_getElem_data, ← Array.getElem_toList, hh]
  rw [hcons, e0, e1, e2] at hdec
  have g1 : (s[1].toNat / 64 = 2) = (d1 / 64 = 2) := propext (by omega)
  have g2 : (s[2].toNat / 64 = 2) = (d2 / 64 = 2) := propext (by omega)
  simp only [g1, g2] at hdec
  clear g1 g2
  have HD := Lib.hid hdec
  clear hdec hcons
  have T2 := T.1
  have m0 : bits .and .i32 c 15 = c % 16 := m_and 4 (by decide) rfl rfl (by omega) (by omega)
  have m1 : bits .and .u8 d1 63 = d1 % 64 := m_63 (by omega) (by omega)
  have o1 : bits .or .i32 ((c % 16) * 64) (d1 % 64) = (c % 16) * 64 + d1 % 64 := i32_or6 _ _ (by omega) (by omega) (by omega) (by omega) (by omega)
  have m2 : bits .and .u8 d2 63 = d2 % 64 := m_63 (by omega) (by omega)
  have o2 : bits .or .i32 (((c % 16) * 64 + d1 % 64) * 64) (d2 % 64) = ((c % 16) * 64 + d1 % 64) * 64 + d2 % 64 := i32_or6 _ _ (by omega) (by omega) (by omega) (by omega) (by omega)
  go_enter Tryd.func29, Tryd.ntmps29
  go_wp2_with (with_reducible refine wpList_bytes _ rfl 9 49 _ rfl 5 Tryd.underlying9 Tryd.underlying49 Tryd.underlying5 (s.extract 1 3) rfl 2 ?hsz ?_; rotate_right; intro g cap w1 hcap hg1 hg2 hb hc; have x0 : w1.cell? ⟨g, 0, none⟩ = some (.int .u8 d1) := (by rw [hc 0 (by simp; omega), ext_at s 1 3 0 (by simp; omega) (by omega)]; exact congrArg (fun z => some (Value.int .u8 z)) e1); have x1 : w1.cell? ⟨g, 1, none⟩ = some (.int .u8 d2) := (by rw [hc 1 (by simp; omega), ext_at s 1 3 1 (by simp; omega) (by omega)]; exact congrArg (fun z => some (Value.int .u8 z)) e2); have T1 := T.below hb; clear hc)
  case hsz => simp; omega
  obtain ⟨u1, u2, u3, u4, u5⟩ := T1
  refine wp_loop_rounds 3 ?_
  rw [rounds_succ]
  go_wp2_with fail
  · go_ret2
    exact ⟨DecIs.mk (x := 0) (n := 0) (by rw [HD.out]; exact if_neg (by have hne : (d1 / 64 != 2) = true := by assumption
                                                                        rw [bne_iff_ne] at hne
                                                                        omega)) rfl, hb⟩
  rw [rounds_succ]
  go_wp2_with fail
  · go_ret2
    exact ⟨DecIs.mk (x := 0) (n := 0) (by rw [HD.out]; exact if_neg (by have hne : (d2 / 64 != 2) = true := by assumption
                                                                        rw [bne_iff_ne] at hne
                                                                        omega)) rfl, hb⟩
  rw [rounds_succ]
  go_wp2_with (go_at_call 24; refine (scalar_any _ _).mono ?_; rintro e w' ⟨rfl, rfl⟩)
  all_goals go_ret2
  · have hx : ((c % 16) * 64 + d1 % 64) * 64 + d2 % 64 < 2048 ∨ (!scalar (((c % 16) * 64 + d1 % 64) * 64 + d2 % 64)) = true := ‹_›
    exact ⟨DecIs.mk (x := 0) (n := 0) (by rw [HD.out]; exact if_neg (by rintro ⟨_, _, hz⟩; rw [hz] at hx; simp at hx; omega)) rfl, hb⟩
  · have hx : 2048 ≤ ((c % 16) * 64 + d1 % 64) * 64 + d2 % 64 ∧ (!scalar (((c % 16) * 64 + d1 % 64) * 64 + d2 % 64)) = false := ‹_›
    exact ⟨DecIs.mk (x := ((c % 16) * 64 + d1 % 64) * 64 + d2 % 64) (n := 3) (by rw [HD.out]; exact if_pos ⟨by have y1 : (d1 / 64 != 2) = false := (by assumption); have y2 : (d2 / 64 != 2) = false := (by assumption); simp only [bne_eq_false_iff_eq] at y1 y2; omega, by omega, by simpa using hx.2⟩) rfl, hb⟩
  · exact ⟨DecIs.mk (x := 0) (n := 0) (by rw [HD.out]; exact if_neg (by omega)) rfl, hb⟩

theorem dec_4 (c d1 d2 d3 : UInt8) (t : List UInt8) (h : c.toNat / 8 = 30) : dec (c :: d1 :: d2 :: d3 :: t) = if (d1.toNat / 64 = 2 ∧ d2.toNat / 64 = 2 ∧ d3.toNat / 64 = 2) ∧ 65536 ≤ (((((c.toNat : Int) % 8) * 64 + (d1.toNat : Int) % 64) * 64 + (d2.toNat : Int) % 64) * 64 + (d3.toNat : Int) % 64) ∧ scalar (((((c.toNat : Int) % 8) * 64 + (d1.toNat : Int) % 64) * 64 + (d2.toNat : Int) % 64) * 64 + (d3.toNat : Int) % 64) = true then ((((((c.toNat : Int) % 8) * 64 + (d1.toNat : Int) % 64) * 64 + (d2.toNat : Int) % 64) * 64 + (d3.toNat : Int) % 64), 4) else (0, 0) := by
  have hl : lead c.toNat = 4 := by unfold lead; repeat (first | rw [if_pos (by omega)] | rw [if_neg (by omega)])
  have hst : lead0 c.toNat = (c.toNat : Int) % 8 := by unfold lead0; repeat (first | rw [if_pos (by omega)] | rw [if_neg (by omega)])
  simp only [dec, hl, hst, conts, List.length_cons, List.take_succ_cons, List.take_zero, Nat.reduceSub, least]
  rw [if_neg (by omega), if_neg (by omega)]
  by_cases g0 : d1.toNat / 64 = 2
  case neg => simp [g0]
  simp only [g0, if_true, true_and]
  by_cases g1 : d2.toNat / 64 = 2
  case neg => simp [g1]
  simp only [g1, if_true, true_and]
  by_cases g2 : d3.toNat / 64 = 2
  case neg => simp [g2]
  simp only [g2, if_true, true_and]
  by_cases k : 65536 ≤ (((((c.toNat : Int) % 8) * 64 + (d1.toNat : Int) % 64) * 64 + (d2.toNat : Int) % 64) * 64 + (d3.toNat : Int) % 64)
  · cases hk : scalar (((((c.toNat : Int) % 8) * 64 + (d1.toNat : Int) % 64) * 64 + (d2.toNat : Int) % 64) * 64 + (d3.toNat : Int) % 64)
    · simp
    · simp [k]
  · have k' : (((((c.toNat : Int) % 8) * 64 + (d1.toNat : Int) % 64) * 64 + (d2.toNat : Int) % 64) * 64 + (d3.toNat : Int) % 64) < 65536 := by omega
    simp [k, k']

set_option maxRecDepth 100000 in
set_option maxHeartbeats 1000000 in
theorem first_4 (s : ByteArray) (w : World) (hs : (s.size : Int) ≤ 9223372036854775807) (h2 : 4 ≤ (s.size : Int)) (c d1 d2 d3 : Int) (e0 : (s[0].toNat : Int) = c) (c0 : 128 ≤ c) (c2 : c < 256)
    (e1 : (s[1].toNat : Int) = d1) (p1 : 0 ≤ d1) (q1 : d1 < 256) (e2 : (s[2].toNat : Int) = d2) (p2 : 0 ≤ d2) (q2 : d2 < 256) (e3 : (s[3].toNat : Int) = d3) (p3 : 0 ≤ d3) (q3 : d3 < 256) (t2 : (c / 32 == 6) = false) (t3 : (c / 16 == 14) = false) (t4 : (c / 8 == 30) = true) (T : Tab w) :
    Calls Tryd.prog 29 #[.string s] w fun e w' => DecIs s e ∧ Below w.heap.size w w' := by
  have hdec := dec_4 s[0] s[1] s[2] s[3] (s.data.toList.drop 4) (by have := beq_iff_eq.1 t4; omega)
  have hcons : s[0] :: s[1] :: s[2] :: s[3] :: s.data.toList.drop 4 = s.data.toList := by
    have hlen : 4 ≤ s.data.toList.length := by simp; have : s.data.size = s.size := rfl; omega
    match hh : s.data.toList, hlen with
    | x0 :: x1 :: x2 :: x3 :: t, _ =>
      simp [ByteArray.getElem_eq_getElem_data, ← Array.getElem_toList, hh]
  rw [hcons, e0, e1, e2, e3] at hdec
  have g1 : (s[1].toNat / 64 = 2) = (d1 / 64 = 2) := propext (by omega)
  have g2 : (s[2].toNat / 64 = 2) = (d2 / 64 = 2) := propext (by omega)
  have g3 : (s[3].toNat / 64 = 2) = (d3 / 64 = 2) := propext (by omega)
  simp only [g1, g2, g3] at hdec
  clear g1 g2 g3
  have HD := Lib.hid hdec
  clear hdec hcons
  have T2 := T.1
  have m0 : bits .and .i32 c 7 = c % 8 := m_and 3 (by decide) rfl rfl (by omega) (by omega)
  have m1 : bits .and .u8 d1 63 = d1 % 64 := m_63 (by omega) (by omega)
  have o1 : bits .or .i32 ((c % 8) * 64) (d1 % 64) = (c % 8) * 64 + d1 % 64 := i32_or6 _ _ (by omega) (by omega) (by omega) (by omega) (by omega)
  have m2 : bits .and .u8 d2 63 = d2 % 64 := m_63 (by omega) (by omega)
  have o2 : bits .or .i32 (((c % 8) * 64 + d1 % 64) * 64) (d2 % 64) = ((c % 8) * 64 + d1 % 64) * 64 + d2 % 64 := i32_or6 _ _ (by omega) (by omega) (by omega) (by omega) (by omega)
  have m3 : bits .and .u8 d3 63 = d3 % 64 := m_63 (by omega) (by omega)
  have o3 : bits .or .i32 ((((c % 8) * 64 + d1 % 64) * 64 + d2 % 64) * 64) (d3 % 64) = (((c % 8) * 64 + d1 % 64) * 64 + d2 % 64) * 64 + d3 % 64 := i32_or6 _ _ (by omega) (by omega) (by omega) (by omega) (by omega)
  go_enter Tryd.func29, Tryd.ntmps29
  go_wp2_with (with_reducible refine wpList_bytes _ rfl 9 49 _ rfl 5 Tryd.underlying9 Tryd.underlying49 Tryd.underlying5 (s.extract 1 4) rfl 3 ?hsz ?_; rotate_right; intro g cap w1 hcap hg1 hg2 hb hc; have x0 : w1.cell? ⟨g, 0, none⟩ = some (.int .u8 d1) := (by rw [hc 0 (by simp; omega), ext_at s 1 4 0 (by simp; omega) (by omega)]; exact congrArg (fun z => some (Value.int .u8 z)) e1); have x1 : w1.cell? ⟨g, 1, none⟩ = some (.int .u8 d2) := (by rw [hc 1 (by simp; omega), ext_at s 1 4 1 (by simp; omega) (by omega)]; exact congrArg (fun z => some (Value.int .u8 z)) e2); have x2 : w1.cell? ⟨g, 2, none⟩ = some (.int .u8 d3) := (by rw [hc 2 (by simp; omega), ext_at s 1 4 2 (by simp; omega) (by omega)]; exact congrArg (fun z => some (Value.int .u8 z)) e3); have T1 := T.below hb; clear hc)
  case hsz => simp; omega
  obtain ⟨u1, u2, u3, u4, u5⟩ := T1
  refine wp_loop_rounds 4 ?_
  rw [rounds_succ]
  go_wp2_with fail
  · go_ret2
    exact ⟨DecIs.mk (x := 0) (n := 0) (by rw [HD.out]; exact if_neg (by have hne : (d1 / 64 != 2) = true := by assumption
                                                                        rw [bne_iff_ne] at hne
                                                                        omega)) rfl, hb⟩
  rw [rounds_succ]
  go_wp2_with fail
  · go_ret2
    exact ⟨DecIs.mk (x := 0) (n := 0) (by rw [HD.out]; exact if_neg (by have hne : (d2 / 64 != 2) = true := by assumption
                                                                        rw [bne_iff_ne] at hne
                                                                        omega)) rfl, hb⟩
  rw [rounds_succ]
  go_wp2_with fail
  · go_ret2
    exact ⟨DecIs.mk (x := 0) (n := 0) (by rw [HD.out]; exact if_neg (by have hne : (d3 / 64 != 2) = true := by assumption
                                                                        rw [bne_iff_ne] at hne
                                                                        omega)) rfl, hb⟩
  rw [rounds_succ]
  go_wp2_with (go_at_call 24; refine (scalar_any _ _).mono ?_; rintro e w' ⟨rfl, rfl⟩)
  all_goals go_ret2
  · have hx : (((c % 8) * 64 + d1 % 64) * 64 + d2 % 64) * 64 + d3 % 64 < 65536 ∨ (!scalar ((((c % 8) * 64 + d1 % 64) * 64 + d2 % 64) * 64 + d3 % 64)) = true := ‹_›
    exact ⟨DecIs.mk (x := 0) (n := 0) (by rw [HD.out]; exact if_neg (by rintro ⟨_, _, hz⟩; rw [hz] at hx; simp at hx; omega)) rfl, hb⟩
  · have hx : 65536 ≤ (((c % 8) * 64 + d1 % 64) * 64 + d2 % 64) * 64 + d3 % 64 ∧ (!scalar ((((c % 8) * 64 + d1 % 64) * 64 + d2 % 64) * 64 + d3 % 64)) = false := ‹_›
    exact ⟨DecIs.mk (x := (((c % 8) * 64 + d1 % 64) * 64 + d2 % 64) * 64 + d3 % 64) (n := 4) (by rw [HD.out]; exact if_pos ⟨by have y1 : (d1 / 64 != 2) = false := (by assumption); have y2 : (d2 / 64 != 2) = false := (by assumption); have y3 : (d3 / 64 != 2) = false := (by assumption); simp only [bne_eq_false_iff_eq] at y1 y2 y3; omega, by omega, by simpa using hx.2⟩) rfl, hb⟩
  · exact ⟨DecIs.mk (x := 0) (n := 0) (by rw [HD.out]; exact if_neg (by omega)) rfl, hb⟩

theorem dec_low (c : UInt8) (t : List UInt8) (h : c.toNat < 128) : dec (c :: t) = ((c.toNat : Int), 1) := by simp only [dec]; rw [if_pos h]
theorem dec_bad (c : UInt8) (t : List UInt8) (h : ¬ c.toNat < 128) (hl : lead c.toNat = 0 ∨ t.length + 1 < lead c.toNat) : dec (c :: t) = (0, 0) := by simp only [dec]; rw [if_neg h, if_pos hl]
theorem cons_at (s : ByteArray) (h0 : 0 < s.size) : s[0] :: s.data.toList.drop 1 = s.data.toList := by
  have hlen : 1 ≤ s.data.toList.length := by rw [Array.length_toList]; exact h0
  match hh : s.data.toList, hlen with
  | x0 :: t, _ => simp [ByteArray.getElem_eq_getElem_data, ← Array.getElem_toList, hh]
theorem len_at (s : ByteArray) : s.data.toList.length = s.size := by rw [Array.length_toList]; rfl

set_option maxRecDepth 100000 in
set_option maxHeartbeats 1000000 in
theorem first_low (s : ByteArray) (w : World) (hs : (s.size : Int) ≤ 9223372036854775807) (h0 : 0 < s.size) (c : Int) (e0 : (s[0].toNat : Int) = c) (c0 : 0 ≤ c) (c1 : c < 128) :
    Calls Tryd.prog 29 #[.string s] w fun e w' => DecIs s e ∧ Below w.heap.size w w' := by
  have HD := Lib.hid (dec_low s[0] (s.data.toList.drop 1) (by omega))
  rw [cons_at s h0, e0] at HD
  go_enter Tryd.func29, Tryd.ntmps29
  go_wp2_with fail
  go_ret2
  exact ⟨DecIs.mk (x := c) (n := 1) HD.out rfl, Below.refl _ _⟩

set_option maxRecDepth 100000 in
set_option maxHeartbeats 1000000 in
theorem first_short2 (s : ByteArray) (w : World) (hs : (s.size : Int) ≤ 9223372036854775807) (h0 : 0 < s.size) (c : Int) (e0 : (s[0].toNat : Int) = c) (c0 : 128 ≤ c) (c1 : c < 256) (t2 : (c / 32 == 6) = true) (h2 : (s.size : Int) < 2) :
    Calls Tryd.prog 29 #[.string s] w fun e w' => DecIs s e ∧ Below w.heap.size w w' := by
  have hl : lead s[0].toNat = 0 ∨ (s.data.toList.drop 1).length + 1 < lead s[0].toNat := by
    have hlen : (s.data.toList.drop 1).length = s.size - 1 := by rw [List.length_drop, len_at]
    rw [hlen]
    simp only [beq_iff_eq, beq_eq_false_iff_ne, ne_eq] at *
    unfold lead
    repeat' split
    all_goals omega
  have HD := Lib.hid (dec_bad s[0] (s.data.toList.drop 1) (by omega) hl)
  rw [cons_at s h0] at HD
  clear hl
  go_enter Tryd.func29, Tryd.ntmps29
  go_wp2_with fail
  go_ret2
  exact ⟨DecIs.mk (x := 0) (n := 0) HD.out rfl, Below.refl _ _⟩

set_option maxRecDepth 100000 in
set_option maxHeartbeats 1000000 in
theorem first_short3 (s : ByteArray) (w : World) (hs : (s.size : Int) ≤ 9223372036854775807) (h0 : 0 < s.size) (c : Int) (e0 : (s[0].toNat : Int) = c) (c0 : 128 ≤ c) (c1 : c < 256) (t2 : (c / 32 == 6) = false) (t3 : (c / 16 == 14) = true) (h2 : (s.size : Int) < 3) :
    Calls Tryd.prog 29 #[.string s] w fun e w' => DecIs s e ∧ Below w.heap.size w w' := by
  have hl : lead s[0].toNat = 0 ∨ (s.data.toList.drop 1).length + 1 < lead s[0].toNat := by
    have hlen : (s.data.toList.drop 1).length = s.size - 1 := by rw [List.length_drop, len_at]
    rw [hlen]
    simp only [beq_iff_eq, beq_eq_false_iff_ne, ne_eq] at *
    unfold lead
    repeat' split
    all_goals omega
  have HD := Lib.hid (dec_bad s[0] (s.data.toList.drop 1) (by omega) hl)
  rw [cons_at s h0] at HD
  clear hl
  go_enter Tryd.func29, Tryd.ntmps29
  go_wp2_with fail
  go_ret2
  exact ⟨DecIs.mk (x := 0) (n := 0) HD.out rfl, Below.refl _ _⟩

set_option maxRecDepth 100000 in
set_option maxHeartbeats 1000000 in
theorem first_short4 (s : ByteArray) (w : World) (hs : (s.size : Int) ≤ 9223372036854775807) (h0 : 0 < s.size) (c : Int) (e0 : (s[0].toNat : Int) = c) (c0 : 128 ≤ c) (c1 : c < 256) (t2 : (c / 32 == 6) = false) (t3 : (c / 16 == 14) = false) (t4 : (c / 8 == 30) = true) (h2 : (s.size : Int) < 4) :
    Calls Tryd.prog 29 #[.string s] w fun e w' => DecIs s e ∧ Below w.heap.size w w' := by
  have hl : lead s[0].toNat = 0 ∨ (s.data.toList.drop 1).length + 1 < lead s[0].toNat := by
    have hlen : (s.data.toList.drop 1).length = s.size - 1 := by rw [List.length_drop, len_at]
    rw [hlen]
    simp only [beq_iff_eq, beq_eq_false_iff_ne, ne_eq] at *
    unfold lead
    repeat' split
    all_goals omega
  have HD := Lib.hid (dec_bad s[0] (s.data.toList.drop 1) (by omega) hl)
  rw [cons_at s h0] at HD
  clear hl
  go_enter Tryd.func29, Tryd.ntmps29
  go_wp2_with fail
  go_ret2
  exact ⟨DecIs.mk (x := 0) (n := 0) HD.out rfl, Below.refl _ _⟩

set_option maxRecDepth 100000 in
set_option maxHeartbeats 1000000 in
theorem first_short0 (s : ByteArray) (w : World) (hs : (s.size : Int) ≤ 9223372036854775807) (h0 : 0 < s.size) (c : Int) (e0 : (s[0].toNat : Int) = c) (c0 : 128 ≤ c) (c1 : c < 256) (t2 : (c / 32 == 6) = false) (t3 : (c / 16 == 14) = false) (t4 : (c / 8 == 30) = false)  :
    Calls Tryd.prog 29 #[.string s] w fun e w' => DecIs s e ∧ Below w.heap.size w w' := by
  have hl : lead s[0].toNat = 0 ∨ (s.data.toList.drop 1).length + 1 < lead s[0].toNat := by
    have hlen : (s.data.toList.drop 1).length = s.size - 1 := by rw [List.length_drop, len_at]
    rw [hlen]
    simp only [beq_iff_eq, beq_eq_false_iff_ne, ne_eq] at *
    unfold lead
    repeat' split
    all_goals omega
  have HD := Lib.hid (dec_bad s[0] (s.data.toList.drop 1) (by omega) hl)
  rw [cons_at s h0] at HD
  clear hl
  go_enter Tryd.func29, Tryd.ntmps29
  go_wp2_with fail
  go_ret2
  exact ⟨DecIs.mk (x := 0) (n := 0) HD.out rfl, Below.refl _ _⟩

theorem first_any (s : ByteArray) (w : World) (hs : (s.size : Int) ≤ 9223372036854775807) (h0 : 0 < s.size) (T : Tab w) :
    Calls Tryd.prog 29 #[.string s] w fun e w' => DecIs s e ∧ Below w.heap.size w w' := by
  have hb : ∀ i (h : i < s.size), 0 ≤ (s[i].toNat : Int) ∧ (s[i].toNat : Int) < 256 := fun i h => by have := s[i].toNat_lt; omega
  have b0 := hb 0 h0
  by_cases l : (s[0].toNat : Int) < 128
  · exact first_low s w hs h0 _ rfl b0.1 l
  by_cases t2 : (s[0].toNat : Int) / 32 = 6
  · by_cases l2 : (s.size : Int) < 2
    · exact first_short2 s w hs h0 _ rfl (by omega) b0.2 (beq_iff_eq.2 t2) l2
    · exact first_2 s w hs (by omega) _ _ rfl (by omega) b0.2 rfl (hb 1 (by omega)).1 (hb 1 (by omega)).2 (beq_iff_eq.2 t2) T
  by_cases t3 : (s[0].toNat : Int) / 16 = 14
  · by_cases l2 : (s.size : Int) < 3
    · exact first_short3 s w hs h0 _ rfl (by omega) b0.2 (beq_eq_false_iff_ne.2 t2) (beq_iff_eq.2 t3) l2
    · exact first_3 s w hs (by omega) _ _ _ rfl (by omega) b0.2 rfl (hb 1 (by omega)).1 (hb 1 (by omega)).2 rfl (hb 2 (by omega)).1 (hb 2 (by omega)).2 (beq_eq_false_iff_ne.2 t2) (beq_iff_eq.2 t3) T
  by_cases t4 : (s[0].toNat : Int) / 8 = 30
  · by_cases l2 : (s.size : Int) < 4
    · exact first_short4 s w hs h0 _ rfl (by omega) b0.2 (beq_eq_false_iff_ne.2 t2) (beq_eq_false_iff_ne.2 t3) (beq_iff_eq.2 t4) l2
    · exact first_4 s w hs (by omega) _ _ _ _ rfl (by omega) b0.2 rfl (hb 1 (by omega)).1 (hb 1 (by omega)).2 rfl (hb 2 (by omega)).1 (hb 2 (by omega)).2 rfl (hb 3 (by omega)).1 (hb 3 (by omega)).2 (beq_eq_false_iff_ne.2 t2) (beq_eq_false_iff_ne.2 t3) (beq_iff_eq.2 t4) T
  · exact first_short0 s w hs h0 _ rfl (by omega) b0.2 (beq_eq_false_iff_ne.2 t2) (beq_eq_false_iff_ne.2 t3) (beq_eq_false_iff_ne.2 t4)

end Go.Proofs.YtkgmikglifmenaaDoor.L