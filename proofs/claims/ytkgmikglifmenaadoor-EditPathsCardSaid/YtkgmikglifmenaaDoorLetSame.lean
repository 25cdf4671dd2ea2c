/-
  The walk of the reference's Same: rows of numbers are held against each other.
-/
import Derived.Test.YtkgmikglifmenaaDoorLetRefB
namespace Go.Proofs.YtkgmikglifmenaaDoor.L
open Go.RowKit
open LM Aid
set_option linter.unusedSimpArgs false
set_option linter.unusedVariables false

theorem take_same {l m : List Int} (h : l.length = m.length) (ht : l.take l.length = m.take l.length) : l = m := by
  rw [List.take_length, h, List.take_length] at ht; exact ht
theorem take_next {l m : List Int} {k : Nat} (ht : l.take k = m.take k) (hk : k < l.length) (hm : k < m.length) (he : l.getD k 0 = m.getD k 0) : l.take (k + 1) = m.take (k + 1) := by
  rw [List.take_succ_eq_append_getElem hk, List.take_succ_eq_append_getElem hm, ht]
  congr 2
  simpa [List.getD_eq_getElem?_getD, hk, hm] using he

set_option maxRecDepth 100000 in
set_option maxHeartbeats 1000000 in
theorem same_row (l m : List Int) (b1 o1 c1 b2 o2 c2 : Nat) (w : World) (hl : l.length = m.length) (hmax : l.length ≤ 140737488355328)
    (h1 : ∀ j, j < l.length → w.cell? ⟨b1, o1 + j, none⟩ = some (.int .i32 (l.getD j 0))) (h2 : ∀ j, j < m.length → w.cell? ⟨b2, o2 + j, none⟩ = some (.int .i32 (m.getD j 0))) :
    Calls Tryd.prog 20 #[.slice (some ⟨b1, o1, none⟩) l.length c1, .slice (some ⟨b2, o2, none⟩) l.length c2] w fun e w' => e = .returned (.bool (decide (l = m))) ∧ Below w.heap.size w w' := by
  have H1 := Lib.hid h1
  have H2 := Lib.hid h2
  have HL := Lib.hid hl
  clear h1 h2 hl
  go_enter Tryd.func20, Tryd.ntmps20
  go_wp2_with fail
  go_loopw [5] (fun i wr => ∃ k : Nat, i = .int .i64 k ∧ k ≤ l.length ∧ Hid (l.take k = m.take k) ∧ Hid (∃ n, wr = w.drewN n))
    (fun i _ => l.length - (intOf i).toNat)
  case atStart => exact ⟨0, rfl, Nat.zero_le _, by simp [Hid], ⟨0, rfl⟩⟩
  case round =>
    obtain ⟨k, rfl, hk, HT, HW⟩ := hrel
    by_cases hlt : k < l.length
    · obtain ⟨x, hx⟩ : ∃ x, l.getD k 0 = x := ⟨_, rfl⟩
      obtain ⟨y, hy⟩ : ∃ y, m.getD k 0 = y := ⟨_, rfl⟩
      have cx : wr.cell? ⟨b1, o1 + k, none⟩ = some (.int .i32 x) := by obtain ⟨n, rfl⟩ := HW.out; rw [← hx]; exact H1.out k hlt
      have cy : wr.cell? ⟨b2, o2 + k, none⟩ = some (.int .i32 y) := by obtain ⟨n, rfl⟩ := HW.out; rw [← hy]; exact H2.out k (by rw [← HL.out]; exact hlt)
      have HX := Lib.hid hx
      have HY := Lib.hid hy
      clear hx hy
      have hlt' : (k : Int) < (l.length : Int) := by omega
      go_wp2_with fail
      go_quiet (fail)
      go_wp2_with fail
      · have hne : (x != y) = true := by assumption
        go_ret
        refine ⟨ret_bool ?_, ?_⟩
        · symm; rw [decide_eq_false_iff_not]
          rintro rfl
          rw [HX.out] at HY
          have := HY.out
          subst this
          simp at hne
        · obtain ⟨n, rfl⟩ := HW.out
          exact below_drewN (below_drewN (Below.refl _ _) _) _
      · have hne : (x != y) = false := by assumption
        rw [bne_eq_false_iff_eq] at hne
        exact ⟨⟨k + 1, by go_num, by omega, take_next HT.out hlt (by rw [← HL.out]; exact hlt) (by rw [HX.out, HY.out, hne]), by obtain ⟨n, rfl⟩ := HW.out; exact ⟨_, World.drewN_drewN _ _ _⟩⟩, by simp [intOf]; omega⟩
    · have hlt' : ¬ (k : Int) < (l.length : Int) := by omega
      have hke : k = l.length := by omega
      have HK := Lib.hid hke
      clear hke
      go_wp2_with fail
      go_ret
      refine ⟨ret_bool ?_, ?_⟩
      · symm; rw [decide_eq_true_iff]
        have ht := HT.out
        rw [HK.out] at ht
        exact take_same HL.out ht
      · obtain ⟨n, rfl⟩ := HW.out
        exact below_drewN (Below.refl _ _) _

set_option maxRecDepth 100000 in
theorem same_len (a1 a2 : Option Addr) (n1 n2 c1 c2 : Nat) (w : World) (h1 : n1 ≤ 140737488355328) (h2 : n2 ≤ 140737488355328) (h : n1 ≠ n2) :
    Calls Tryd.prog 20 #[.slice a1 n1 c1, .slice a2 n2 c2] w fun e w' => e = .returned (.bool false) ∧ Below w.heap.size w w' := by
  have hb : ((n1 : Int) != (n2 : Int)) = true := by rw [bne_iff_ne]; omega
  go_enter Tryd.func20, Tryd.ntmps20
  go_wp2_with fail
  go_ret
  exact ⟨rfl, Below.refl _ _⟩
set_option maxRecDepth 100000 in
theorem same_nil (a1 a2 : Option Addr) (c1 c2 : Nat) (w : World) :
    Calls Tryd.prog 20 #[.slice a1 0 c1, .slice a2 0 c2] w fun e w' => e = .returned (.bool true) ∧ Below w.heap.size w w' := by
  go_enter Tryd.func20, Tryd.ntmps20
  go_wp2_with fail
  refine wp_loop_rounds 1 ?_
  rw [rounds_succ]
  go_wp2_with fail
  go_ret
  exact ⟨rfl, Below.refl _ _⟩

theorem same_any (v1 v2 : Value) (l m : List Int) (w : World) (h1 : Ints w .i32 v1 l) (h2 : Ints w .i32 v2 m) :
    Calls Tryd.prog 20 #[v1, v2] w fun e w' => e = .returned (.bool (decide (l = m))) ∧ Below w.heap.size w w' := by
  by_cases hlen : l.length = m.length
  · by_cases hz : l = []
    · subst hz
      have hm : m = [] := List.eq_nil_of_length_eq_zero (by simpa using hlen.symm)
      subst hm
      obtain ⟨a1, c1, rfl⟩ := Ints.form h1
      obtain ⟨a2, c2, rfl⟩ := Ints.form h2
      refine (same_nil a1 a2 c1 c2 w).mono ?_
      rintro e w' ⟨rfl, hb⟩
      exact ⟨by simp, hb⟩
    · have hm : m ≠ [] := by rintro rfl; exact hz (List.eq_nil_of_length_eq_zero (by simpa using hlen))
      obtain ⟨g1, ⟨rfl, _⟩ | ⟨b1, o1, c1, rfl, l1, k1⟩⟩ := h1
      · exact (hz rfl).elim
      obtain ⟨g2, ⟨rfl, _⟩ | ⟨b2, o2, c2, rfl, l2, k2⟩⟩ := h2
      · exact (hm rfl).elim
      have := same_row l m b1 o1 c1 b2 o2 c2 w hlen g1 k1 k2
      rw [hlen] at this ⊢
      exact this
  · have g1 := h1.1
    have g2 := h2.1
    obtain ⟨a1, c1, rfl⟩ := Ints.form h1
    obtain ⟨a2, c2, rfl⟩ := Ints.form h2
    refine (same_len a1 a2 l.length m.length c1 c2 w g1 g2 hlen).mono ?_
    rintro e w' ⟨rfl, hb⟩
    have : decide (l = m) = false := by rw [decide_eq_false_iff_not]; rintro rfl; exact hlen rfl
    exact ⟨by rw [this], hb⟩

end Go.Proofs.YtkgmikglifmenaaDoor.L
