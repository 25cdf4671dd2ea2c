/-
  The walks of the reference's Ahead and of letters.Less (XLetCmp without the reference's Less: for seats that do not reach it).
-/
import Derived.Test.YtpbadnmfgffdlaaDoorLetSame
namespace Go.Proofs.YtpbadnmfgffdlaaDoor.L
open Go.RowKit
open LM Aid
set_option linter.unusedSimpArgs false
set_option linter.unusedVariables false

/-- which of two rows of numbers is ahead -/
def lex : List Int → List Int → Bool
  | [], [] => false
  | [], _ :: _ => true
  | _ :: _, [] => false
  | a :: l, b :: m => if a = b then lex l m else decide (a < b)
theorem lex_drop {l m : List Int} : ∀ k, k ≤ l.length → k ≤ m.length → l.take k = m.take k → lex l m = lex (l.drop k) (m.drop k) := by
  intro k
  induction k generalizing l m with
  | zero => intro _ _ _; rfl
  | succ k ih =>
    intro h1 h2 h3
    match l, m, h1, h2 with
    | a :: l, b :: m, h1, h2 =>
      simp at h3
      obtain ⟨rfl, h3⟩ := h3
      simp only [lex, if_true, List.drop_succ_cons]
      exact ih (by simpa using h1) (by simpa using h2) h3
theorem lex_at {l m : List Int} {k : Nat} (h1 : k < l.length) (h2 : k < m.length) (ht : l.take k = m.take k) {x y : Int} (hx : l.getD k 0 = x) (hy : m.getD k 0 = y) (hne : x ≠ y) : lex l m = decide (x < y) := by
  rw [lex_drop k (by omega) (by omega) ht, List.drop_eq_getElem_cons h1, List.drop_eq_getElem_cons h2]
  have e1 : l[k] = x := by rw [← hx]; simp [List.getD_eq_getElem?_getD, h1]
  have e2 : m[k] = y := by rw [← hy]; simp [List.getD_eq_getElem?_getD, h2]
  simp only [lex, e1, e2, if_neg hne]
theorem lex_end {l m : List Int} {k : Nat} (h1 : k ≤ l.length) (h2 : k ≤ m.length) (ht : l.take k = m.take k) (he : k = l.length ∨ k = m.length) : lex l m = decide (l.length < m.length) := by
  rw [lex_drop k h1 h2 ht]
  have g1 : (l.drop k).length = l.length - k := List.length_drop
  have g2 : (m.drop k).length = m.length - k := List.length_drop
  match hl : l.drop k, hm : m.drop k with
  | [], [] => rw [hl] at g1; rw [hm] at g2; simp at g1 g2; simp [lex]; omega
  | [], _ :: _ => rw [hl] at g1; rw [hm] at g2; simp at g1 g2; simp [lex]; omega
  | _ :: _, [] => rw [hl] at g1; rw [hm] at g2; simp at g1 g2; simp [lex]; omega
  | _ :: _, _ :: _ => rw [hl] at g1; rw [hm] at g2; simp at g1 g2; omega

/-- a text's bytes as numbers -/
def nums (s : ByteArray) : List Int := s.data.toList.map fun b => (b.toNat : Int)
theorem nums_len (s : ByteArray) : (nums s).length = s.size := by unfold nums; rw [List.length_map, len_at]
theorem nums_at (s : ByteArray) (k : Nat) (h : k < s.size) : (nums s).getD k 0 = (s[k].toNat : Int) := by
  have h' : k < (nums s).length := by rw [nums_len]; exact h
  rw [List.getD_eq_getElem?_getD, List.getElem?_eq_getElem h', Option.getD_some]
  simp [nums, ByteArray.getElem_eq_getElem_data]

set_option maxRecDepth 100000 in
set_option maxHeartbeats 1000000 in
theorem ahead_any (a b : ByteArray) (w : World) (ha : (a.size : Int) ≤ 9223372036854775807) (hb : (b.size : Int) ≤ 9223372036854775807) :
    Calls Tryd.prog 27 #[.string a, .string b] w fun e w' => e = .returned (.bool (lex (nums a) (nums b))) ∧ Below w.heap.size w w' := by
  have N1 := Lib.hid (nums_len a)
  have N2 := Lib.hid (nums_len b)
  go_enter Tryd.func27, Tryd.ntmps27
  go_wp2_with fail
  go_loopw [5] (fun i wr => ∃ k : Nat, i = .int .i64 k ∧ k ≤ a.size ∧ k ≤ b.size ∧ Hid ((nums a).take k = (nums b).take k) ∧ Hid (∃ n, wr = w.drewN n))
    (fun i _ => a.size - (intOf i).toNat)
  case atStart => exact ⟨0, rfl, Nat.zero_le _, Nat.zero_le _, by simp [Hid], ⟨0, rfl⟩⟩
  case round =>
    obtain ⟨k, rfl, hk, hk2, HT, HW⟩ := hrel
    by_cases hlt : (k : Int) < (a.size : Int)
    · by_cases hlt2 : (k : Int) < (b.size : Int)
      · have q1 : k < a.size := by omega
        have q2 : k < b.size := by omega
        obtain ⟨x, hx⟩ : ∃ x, (a[k].toNat : Int) = x := ⟨_, rfl⟩
        obtain ⟨y, hy⟩ : ∃ y, (b[k].toNat : Int) = y := ⟨_, rfl⟩
        have HX := Lib.hid ((nums_at a k q1).trans hx)
        have HY := Lib.hid ((nums_at b k q2).trans hy)
        by_cases he : x = y
        · have hne : (x != y) = false := by rw [he]; simp
          have HE := Lib.hid he
          clear he
          go_wp2_with fail
          go_quiet (fail)
          go_wp2_with fail
          exact ⟨⟨k + 1, by go_num, by omega, by omega, take_next HT.out (by rw [N1.out]; omega) (by rw [N2.out]; omega) (by rw [HX.out, HY.out, HE.out]), by obtain ⟨n, rfl⟩ := HW.out; exact ⟨_, World.drewN_drewN _ _ _⟩⟩, by simp [intOf]; omega⟩
        · have hne : (x != y) = true := by rw [bne_iff_ne]; exact he
          have HE := Lib.hid he
          clear he
          go_wp2_with fail
          go_quiet (fail)
          go_wp2_with fail
          go_quiet (fail)
          go_wp2_with fail
          go_ret
          exact ⟨ret_bool (lex_at (by rw [N1.out]; omega) (by rw [N2.out]; omega) HT.out HX.out HY.out HE.out).symm, by obtain ⟨n, rfl⟩ := HW.out; exact below_drewN (below_drewN (below_drewN (Below.refl _ _) _) _) _⟩
      · go_wp2_with fail
        go_ret
        exact ⟨ret_bool (by rw [lex_end (by rw [N1.out]; omega) (by rw [N2.out]; omega) HT.out (by rw [N1.out, N2.out]; omega), N1.out, N2.out]), by obtain ⟨n, rfl⟩ := HW.out; exact below_drewN (Below.refl _ _) _⟩
    · go_wp2_with fail
      go_ret
      exact ⟨ret_bool (by rw [lex_end (by rw [N1.out]; omega) (by rw [N2.out]; omega) HT.out (by rw [N1.out, N2.out]; omega), N1.out, N2.out]), by obtain ⟨n, rfl⟩ := HW.out; exact below_drewN (Below.refl _ _) _⟩

theorem less_any (a b : ByteArray) (w : World) :
    Calls Tryd.prog 23 #[.string a, .string b] w fun e w' => e = .returned (.bool (Op.bytesLess a.toList b.toList)) ∧ w = w' := by
  go_enter Tryd.func23, Tryd.ntmps23
  go_wp2_with fail
  go_ret
  exact ⟨rfl, rfl⟩
end Go.Proofs.YtpbadnmfgffdlaaDoor.L
