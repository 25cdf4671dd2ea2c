/-
  Those that have what is agreed are a quorum, and no quorum has more.
-/
import Derived.Test.YtmokfpjiibociaaRulLawsC
import Derived.Test.YtmokfpjiibociaaAidD
namespace Go.Proofs.Ytmokfpjiibociaa.R
open Go.RowKit
open Aid
set_option linter.unusedSimpArgs false
set_option linter.unusedVariables false

theorem right_ge {l : List Int} (h : upB l l.length = true) : ∀ j, j < l.length → (j : Int) ≤ l.getD j 0 := by
  intro j
  induction j with
  | zero => intro hj; exact up_nonneg h 0 hj
  | succ j ih =>
    intro hj
    have h1 := ih (by omega)
    have := up_at h hj
    simp only [okAt, lastF, Nat.add_sub_cancel, if_neg (Nat.succ_ne_zero j), Bool.and_eq_true, decide_eq_true_eq] at this
    omega
theorem right_up {l : List Int} (h : rightB l = true) : upB l l.length = true ∧ 0 < l.length := by
  unfold rightB at h; simp only [Bool.and_eq_true, decide_eq_true_eq] at h; exact ⟨h.2, h.1⟩
theorem right_len {l : List Int} (h : rightB l = true) : l.length ≤ 7 := by
  obtain ⟨h1, h2⟩ := right_up h
  have h3 := right_ge h1 (l.length - 1) (by omega)
  have h4 := up_at h1 (j := l.length - 1) (by omega)
  simp only [okAt, Bool.and_eq_true, decide_eq_true_eq] at h4
  omega

theorem filt_next {l : List Int} {k : Nat} (hk : k < l.length) {y : Int} (hy : l.getD k 0 = y) (p : Int → Bool) : (l.take (k + 1)).filter p = (l.take k).filter p ++ if p y then [y] else [] := by
  have e1 : l[k] = y := by rw [← hy]; simp [List.getD_eq_getElem?_getD, hk]
  rw [List.take_succ_eq_append_getElem hk, e1, List.filter_append]
  cases h : p y <;> simp [h]
theorem count_filt (l : List Int) (p : Int → Bool) : countB l (l.filter p) = (l.filter p).length := by
  unfold countB
  congr 1
  apply List.filter_congr
  intro x hx
  unfold hasB
  cases h : p x <;> simp [h, hx]

theorem sorted_of (l m : List Int) (hl : l ≠ []) : ∃ S : List Int, S.length = l.length ∧ S.Perm (l.map (atF m)) ∧ (∀ i j, i < j → j < S.length → S.getD i 0 ≤ S.getD j 0) ∧ agreedF l m = S.getD ((l.length - 1) / 2) 0 := by
  have hlen : 0 < l.length := List.length_pos_iff.2 hl
  obtain ⟨D, hD⟩ : ∃ D, (l.map (atF m)).toArray = D := ⟨_, rfl⟩
  have hDs : D.size = l.length := by rw [← hD]; simp
  obtain ⟨hP, hS⟩ := Go.Sort.insertionSort_holds Go.Sort.swo_ltInt D 0 D.size (Nat.zero_le _) (Nat.le_refl _)
  obtain ⟨h1, _, h3⟩ := hP
  unfold agreedF
  rw [if_neg hl, hD]
  rw [hDs] at h1 h3 hS
  obtain ⟨E, hE⟩ : ∃ E, Go.Sort.insertionSort Go.Sort.ltInt D 0 l.length = E := ⟨_, rfl⟩
  rw [hE] at h1 h3 hS ⊢
  have g : ∀ j, j < l.length → E[j]! = E.toList.getD j 0 := by
    intro j hj
    rw [getElem!_pos E j (by rw [h1]; exact hj)]
    simp [List.getD_eq_getElem?_getD, h1, hj]
  refine ⟨E.toList, by rw [Array.length_toList, h1], ?_, ?_, g _ (by omega)⟩
  · have e1 : (E.extract 0 l.length).toList = E.toList := by
      rw [show l.length = E.size from h1.symm, Array.extract_size]
    have e2 : (D.extract 0 l.length).toList = l.map (atF m) := by
      rw [show l.length = D.size from hDs.symm, Array.extract_size, ← hD]
    rw [e1, e2] at h3; exact h3
  · intro i j hij hj
    rw [Array.length_toList, h1] at hj
    have := hS i j (Nat.zero_le _) hij hj
    rw [g _ hj, g _ (by omega)] at this
    simp only [Go.Sort.ltInt, decide_eq_false_iff_not, Int.not_lt] at this
    exact this

theorem count_ge {S : List Int} {q : Nat} (hq : q < S.length) (hs : ∀ i j, i < j → j < S.length → S.getD i 0 ≤ S.getD j 0) : S.length - q ≤ S.countP (fun x => decide (S.getD q 0 ≤ x)) := by
  have : S = S.take q ++ S.drop q := (List.take_append_drop q S).symm
  have h2 : (S.drop q).countP (fun x => decide (S.getD q 0 ≤ x)) = (S.drop q).length := by
    rw [List.countP_eq_length]
    intro x hx
    obtain ⟨i, hi, rfl⟩ := List.mem_iff_getElem.1 hx
    simp only [List.getElem_drop, decide_eq_true_eq]
    simp only [List.length_drop] at hi
    by_cases h0 : i = 0
    · subst h0; simp [List.getD_eq_getElem?_getD, hq]
    · have := hs q (q + i) (by omega) (by omega)
      have e : S.getD (q + i) 0 = S[q + i]'(by omega) := by simp [List.getD_eq_getElem?_getD, show q + i < S.length by omega]
      rw [e] at this; exact this
  have h3 : S.countP (fun x => decide (S.getD q 0 ≤ x)) = (S.take q).countP (fun x => decide (S.getD q 0 ≤ x)) + (S.drop q).countP (fun x => decide (S.getD q 0 ≤ x)) := by
    rw [← List.countP_append, List.take_append_drop]
  rw [h3, h2, List.length_drop]; omega
theorem count_gt {S : List Int} {q : Nat} (hq : q < S.length) (hs : ∀ i j, i < j → j < S.length → S.getD i 0 ≤ S.getD j 0) : S.countP (fun x => decide (S.getD q 0 < x)) ≤ S.length - 1 - q := by
  have h2 : (S.take (q + 1)).countP (fun x => decide (S.getD q 0 < x)) = 0 := by
    rw [List.countP_eq_zero]
    intro x hx
    obtain ⟨i, hi, rfl⟩ := List.mem_iff_getElem.1 hx
    simp only [List.length_take] at hi
    simp only [List.getElem_take, decide_eq_true_eq]
    by_cases h0 : i = q
    · subst h0; simp [List.getD_eq_getElem?_getD, hq]
    · have := hs i q (by omega) hq
      have e : S.getD i 0 = S[i]'(by omega) := by simp [List.getD_eq_getElem?_getD, show i < S.length by omega]
      rw [e] at this; omega
  have h3 : S.countP (fun x => decide (S.getD q 0 < x)) = (S.take (q + 1)).countP (fun x => decide (S.getD q 0 < x)) + (S.drop (q + 1)).countP (fun x => decide (S.getD q 0 < x)) := by
    rw [← List.countP_append, List.take_append_drop]
  have h4 := List.countP_le_length (p := fun x => decide (S.getD q 0 < x)) (l := S.drop (q + 1))
  rw [List.length_drop] at h4
  rw [h3, h2]; omega
theorem enough_have (l m : List Int) (hl : l ≠ []) : quorumB l (l.filter fun v => decide (agreedF l m ≤ atF m v)) = true := by
  have hlen : 0 < l.length := List.length_pos_iff.2 hl
  obtain ⟨S, h1, h2, h3, h4⟩ := sorted_of l m hl
  unfold quorumB
  rw [count_filt, h4, decide_eq_true_eq]
  have h5 := count_ge (q := (l.length - 1) / 2) (by omega) h3
  rw [h2.countP_eq, List.countP_map, List.countP_eq_length_filter] at h5
  have e : l.filter ((fun x => decide (S.getD ((l.length - 1) / 2) 0 ≤ x)) ∘ atF m) = l.filter (fun v => decide (S.getD ((l.length - 1) / 2) 0 ≤ atF m v)) := rfl
  rw [e] at h5
  omega
theorem enough_more (l m : List Int) (hl : l ≠ []) : quorumB l (l.filter fun v => decide (agreedF l m < atF m v)) = false := by
  have hlen : 0 < l.length := List.length_pos_iff.2 hl
  obtain ⟨S, h1, h2, h3, h4⟩ := sorted_of l m hl
  unfold quorumB
  rw [count_filt, h4, decide_eq_false_iff_not]
  have h5 := count_gt (q := (l.length - 1) / 2) (by omega) h3
  rw [h2.countP_eq, List.countP_map, List.countP_eq_length_filter] at h5
  have e : l.filter ((fun x => decide (S.getD ((l.length - 1) / 2) 0 < x)) ∘ atF m) = l.filter (fun v => decide (S.getD ((l.length - 1) / 2) 0 < atF m v)) := rfl
  rw [e] at h5
  omega
end Go.Proofs.Ytmokfpjiibociaa.R
