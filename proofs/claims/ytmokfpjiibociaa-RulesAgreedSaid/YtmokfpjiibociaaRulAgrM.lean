/-
  What enough have, of any number of voters: the document's way is the same.
-/
import Derived.Test.YtmokfpjiibociaaRulAgreed
namespace Go.Proofs.Ytmokfpjiibociaa.RA
open Go.RowKit
open Aid R
set_option linter.unusedSimpArgs false
set_option linter.unusedVariables false

theorem sorted_of (l m : List Int) (hl : l ≠ []) : ∃ S : List Int, S.length = l.length ∧ S.Perm (l.map (atF m)) ∧ (∀ i j, i < j → j < S.length → S.getD i 0 ≤ S.getD j 0) ∧ agreedF l m = S.getD ((l.length - 1) / 2) 0 := by
  have hlen : 0 < l.length := List.length_pos_iff.2 hl
  obtain ⟨D, hD⟩ : ∃ D, (l.map (atF m)).toArray = D := ⟨_, rfl⟩
  have hDs : D.size = l.length := by rw [← hD]; simp
  obtain ⟨hP, hS⟩ := Go.Sort.insertionSort_holds Go.Sort.swo_ltInt D 0 D.size (Nat.zero_le _) (Nat.le_refl _)
  obtain ⟨h1, _, h3⟩ := hP
  unfold agreedF
  rw [if_neg hl, hD]
  rw [hDs] at h1 h3 hS
  obtain ⟨E, hE⟩ : ∃ E, Go.Sort.insertionSort Go.Sort.ltInt D 0 l.length = E := ⟨_, rfl⟩
  rw [hE] at h1 h3 hS ⊢
  have g : ∀ j, j < l.length → E[j]! = E.toList.getD j 0 := by
    intro j hj
    rw [getElem!_pos E j (by rw [h1]; exact hj)]
    simp [List.getD_eq_getElem?_getD, h1, hj]
  refine ⟨E.toList, by rw [Array.length_toList, h1], ?_, ?_, g _ (by omega)⟩
  · have e1 : (E.extract 0 l.length).toList = E.toList := by
      rw [show l.length = E.size from h1.symm, Array.extract_size]
    have e2 : (D.extract 0 l.length).toList = l.map (atF m) := by
      rw [show l.length = D.size from hDs.symm, Array.extract_size, ← hD]
    rw [e1, e2] at h3; exact h3
  · intro i j hij hj
    rw [Array.length_toList, h1] at hj
    have := hS i j (Nat.zero_le _) hij hj
    rw [g _ hj, g _ (by omega)] at this
    simp only [Go.Sort.ltInt, decide_eq_false_iff_not, Int.not_lt] at this
    exact this

theorem count_ge {S : List Int} {q : Nat} (hq : q < S.length) (hs : ∀ i j, i < j → j < S.length → S.getD i 0 ≤ S.getD j 0) : S.length - q ≤ S.countP (fun x => decide (S.getD q 0 ≤ x)) := by
  have : S = S.take q ++ S.drop q := (List.take_append_drop q S).symm
  have h2 : (S.drop q).countP (fun x => decide (S.getD q 0 ≤ x)) = (S.drop q).length := by
    rw [List.countP_eq_length]
    intro x hx
    obtain ⟨i, hi, rfl⟩ := List.mem_iff_getElem.1 hx
    simp only [List.getElem_drop, decide_eq_true_eq]
    simp only [List.length_drop] at hi
    by_cases h0 : i = 0
    · subst h0; simp [List.getD_eq_getElem?_getD, hq]
    · have := hs q (q + i) (by omega) (by omega)
      have e : S.getD (q + i) 0 = S[q + i]'(by omega) := by simp [List.getD_eq_getElem?_getD, show q + i < S.length by omega]
      rw [e] at this; exact this
  have h3 : S.countP (fun x => decide (S.getD q 0 ≤ x)) = (S.take q).countP (fun x => decide (S.getD q 0 ≤ x)) + (S.drop q).countP (fun x => decide (S.getD q 0 ≤ x)) := by
    rw [← List.countP_append, List.take_append_drop]
  rw [h3, h2, List.length_drop]; omega
theorem count_gt {S : List Int} {q : Nat} (hq : q < S.length) (hs : ∀ i j, i < j → j < S.length → S.getD i 0 ≤ S.getD j 0) : S.countP (fun x => decide (S.getD q 0 < x)) ≤ S.length - 1 - q := by
  have h2 : (S.take (q + 1)).countP (fun x => decide (S.getD q 0 < x)) = 0 := by
    rw [List.countP_eq_zero]
    intro x hx
    obtain ⟨i, hi, rfl⟩ := List.mem_iff_getElem.1 hx
    simp only [List.length_take] at hi
    simp only [List.getElem_take, decide_eq_true_eq]
    by_cases h0 : i = q
    · subst h0; simp [List.getD_eq_getElem?_getD, hq]
    · have := hs i q (by omega) hq
      have e : S.getD i 0 = S[i]'(by omega) := by simp [List.getD_eq_getElem?_getD, show i < S.length by omega]
      rw [e] at this; omega
  have h3 : S.countP (fun x => decide (S.getD q 0 < x)) = (S.take (q + 1)).countP (fun x => decide (S.getD q 0 < x)) + (S.drop (q + 1)).countP (fun x => decide (S.getD q 0 < x)) := by
    rw [← List.countP_append, List.take_append_drop]
  have h4 := List.countP_le_length (p := fun x => decide (S.getD q 0 < x)) (l := S.drop (q + 1))
  rw [List.length_drop] at h4
  rw [h3, h2]; omega
/-- how many have as much -/
def manyF (l m : List Int) (n : Int) : Nat := l.countP fun v => decide (n ≤ atF m v)
def bestF (l m : List Int) : Nat → Int
  | 0 => 0
  | k + 1 => if l.length < manyF l m (atF m (l.getD k 0)) * 2 ∧ bestF l m k < atF m (l.getD k 0) then atF m (l.getD k 0) else bestF l m k
theorem at_nonneg {m : List Int} (hm : ∀ x ∈ m, 0 ≤ x) (v : Int) : 0 ≤ atF m v := by
  unfold atF
  split
  · rename_i h
    rw [List.getD_eq_getElem?_getD]
    cases hq : m[v.toNat]? with
    | none => exact Int.le_refl 0
    | some x => exact hm x (List.mem_of_getElem? hq)
  · exact Int.le_refl 0
theorem best_is (l m : List Int) (hm : ∀ x ∈ m, 0 ≤ x) : bestF l m l.length = agreedF l m := by
  by_cases hl : l = []
  · subst hl; rfl
  have hlen : 0 < l.length := List.length_pos_iff.2 hl
  obtain ⟨S, h1, h2, h3, h4⟩ := sorted_of l m hl
  have hq : (l.length - 1) / 2 < S.length := by omega
  have c1 := count_ge hq h3
  have c2 := count_gt hq h3
  rw [← h4, h1] at c1 c2
  obtain ⟨A, hA⟩ : ∃ A, agreedF l m = A := ⟨_, rfl⟩
  rw [hA] at c1 c2 h4 ⊢
  have cnt : ∀ p : Int → Bool, S.countP p = l.countP fun v => p (atF m v) := by
    intro p
    rw [h2.countP_eq, List.countP_map]; rfl
  rw [cnt] at c1 c2
  have hAmem : A ∈ S := by
    rw [h4, List.getD_eq_getElem?_getD, List.getElem?_eq_getElem hq]
    exact List.getElem_mem hq
  obtain ⟨v, hv, hva⟩ := List.mem_map.1 (h2.mem_iff.1 hAmem)
  have hA0 : 0 ≤ A := by rw [← hva]; exact at_nonneg hm v
  have key : ∀ n : Int, l.length < manyF l m n * 2 → n ≤ A := by
    intro n hn
    refine Int.not_lt.1 fun hlt => ?_
    have : manyF l m n ≤ l.countP fun v => decide (A < atF m v) := by
      unfold manyF
      refine List.countP_mono_left fun x _ hx => ?_
      simp only [decide_eq_true_eq] at hx ⊢
      omega
    omega
  have hq2 : l.length < manyF l m A * 2 := by
    have : l.length - (l.length - 1) / 2 ≤ manyF l m A := c1
    omega
  have inv : ∀ k, k ≤ l.length → 0 ≤ bestF l m k ∧ bestF l m k ≤ A ∧ ((∃ i, i < k ∧ atF m (l.getD i 0) = A) → bestF l m k = A) := by
    intro k
    induction k with
    | zero => intro _; exact ⟨Int.le_refl 0, hA0, fun ⟨i, hi, _⟩ => absurd hi (Nat.not_lt_zero _)⟩
    | succ k ih =>
      intro hk
      obtain ⟨i1, i2, i3⟩ := ih (by omega)
      unfold bestF
      split
      · rename_i hc
        have := key _ hc.1
        refine ⟨by omega, this, fun ⟨i, hi, he⟩ => ?_⟩
        by_cases hik : i = k
        · rw [← hik]; exact he
        · have := i3 ⟨i, by omega, he⟩
          omega
      · rename_i hc
        refine ⟨i1, i2, fun ⟨i, hi, he⟩ => ?_⟩
        by_cases hik : i = k
        · subst hik
          rw [he] at hc
          by_cases hlt : bestF l m i < A
          · exact absurd ⟨hq2, hlt⟩ hc
          · omega
        · exact i3 ⟨i, by omega, he⟩
  obtain ⟨i, hi, hvi⟩ := List.mem_iff_getElem.1 hv
  refine (inv l.length (Nat.le_refl _)).2.2 ⟨i, hi, ?_⟩
  rw [List.getD_eq_getElem?_getD, List.getElem?_eq_getElem hi]
  show atF m l[i] = A
  rw [hvi]; exact hva
end Go.Proofs.Ytmokfpjiibociaa.RA
