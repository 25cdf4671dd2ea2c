/-
  Configurations as choices among the numbers from 0 to 6: plain laws.
-/
import Derived.Test.YtmokfpjiibociaaRulSortI
namespace Go.Proofs.Ytmokfpjiibociaa.R
open Go.RowKit
open Aid
set_option linter.unusedSimpArgs false
set_option linter.unusedVariables false

def sel (p : Int → Bool) : List Int := [0, 1, 2, 3, 4, 5, 6].filter p
theorem mem_sel (p : Int → Bool) (x : Int) : x ∈ sel p ↔ (0 ≤ x ∧ x ≤ 6) ∧ p x = true := by
  unfold sel
  rw [List.mem_filter]
  constructor
  · rintro ⟨h, hp⟩
    simp at h
    exact ⟨by omega, hp⟩
  · rintro ⟨h, hp⟩
    exact ⟨by simp; omega, hp⟩
theorem pair_sel (p : Int → Bool) : (sel p).Pairwise (· < ·) := List.Pairwise.filter _ (by decide)
theorem sel_len (p : Int → Bool) : (sel p).length ≤ 7 := List.length_filter_le _ _
theorem eq_of_strict : ∀ (l m : List Int), l.Pairwise (· < ·) → m.Pairwise (· < ·) → (∀ x, x ∈ l ↔ x ∈ m) → l = m
  | [], [], _, _, _ => rfl
  | [], b :: m, _, _, h => by have := (h b).2 (by simp); simp at this
  | a :: l, [], _, _, h => by have := (h a).1 (by simp); simp at this
  | a :: l, b :: m, hl, hm, h => by
    rw [List.pairwise_cons] at hl hm
    have e : a = b := by
      have h1 := (h a).1 (by simp)
      have h2 := (h b).2 (by simp)
      rcases List.mem_cons.1 h1 with h1 | h1
      · exact h1
      · rcases List.mem_cons.1 h2 with h2 | h2
        · exact h2.symm
        · have := hl.1 _ h2; have := hm.1 _ h1; omega
    subst e
    congr 1
    refine eq_of_strict l m hl.2 hm.2 (fun x => ?_)
    constructor
    · intro hx
      rcases List.mem_cons.1 ((h x).1 (List.mem_cons_of_mem _ hx)) with h1 | h1
      · subst h1; have := hl.1 _ hx; omega
      · exact h1
    · intro hx
      rcases List.mem_cons.1 ((h x).2 (List.mem_cons_of_mem _ hx)) with h1 | h1
      · subst h1; have := hm.1 _ hx; omega
      · exact h1
theorem up_lt {l : List Int} (h : upB l l.length = true) : ∀ j i, i < j → j < l.length → l.getD i 0 < l.getD j 0 := by
  intro j
  induction j with
  | zero => intro i hi; omega
  | succ j ih =>
    intro i hij hj
    have := up_at h hj
    simp only [okAt, lastF, Nat.add_sub_cancel, if_neg (Nat.succ_ne_zero j), Bool.and_eq_true, decide_eq_true_eq] at this
    by_cases e : i = j
    · subst e; exact this.1
    · have := ih i (by omega) (by omega); omega
theorem right_pair {l : List Int} (h : rightB l = true) : l.Pairwise (· < ·) := by
  rw [List.pairwise_iff_getElem]
  intro i j hi hj hij
  have := up_lt (right_up h).1 j i hij hj
  simpa [List.getD_eq_getElem?_getD, hi, hj] using this
theorem right_mem {l : List Int} (h : rightB l = true) {x : Int} (hx : x ∈ l) : 0 ≤ x ∧ x ≤ 6 := by
  obtain ⟨j, hj, rfl⟩ := List.mem_iff_getElem.1 hx
  have h1 := up_nonneg (right_up h).1 j hj
  have h2 := up_at (right_up h).1 hj
  simp only [okAt, Bool.and_eq_true, decide_eq_true_eq] at h2
  have e : l.getD j 0 = l[j] := by simp [List.getD_eq_getElem?_getD, hj]
  rw [e] at h1 h2
  omega
theorem hasB_iff (l : List Int) (x : Int) : hasB l x = true ↔ x ∈ l := by unfold hasB; simp
theorem right_sel {l : List Int} (h : rightB l = true) : l = sel (hasB l) := by
  refine eq_of_strict _ _ (right_pair h) (pair_sel _) (fun x => ?_)
  rw [mem_sel, hasB_iff]
  exact ⟨fun hx => ⟨right_mem h hx, hx⟩, fun hx => hx.2⟩
/-- a right list out of its order and its members -/
theorem right_of {l : List Int} (h0 : 0 < l.length) (hp : l.Pairwise (· < ·)) (hm : ∀ x ∈ l, 0 ≤ x ∧ x ≤ 6) : rightB l = true := by
  unfold rightB
  simp only [Bool.and_eq_true, decide_eq_true_eq]
  refine ⟨h0, ?_⟩
  unfold upB
  rw [List.all_eq_true]
  intro j hj
  rw [List.mem_range] at hj
  have e : l.getD j 0 = l[j] := by simp [List.getD_eq_getElem?_getD, hj]
  have h1 := hm _ (List.getElem_mem hj)
  have hl : lastF l j < l[j] := by
    unfold lastF
    split
    · omega
    · rw [List.pairwise_iff_getElem] at hp
      have h2 := hp (j - 1) j (by omega) hj (by omega)
      have e2 : l.getD (j - 1) 0 = l[j - 1]'(by omega) := by simp [List.getD_eq_getElem?_getD, show j - 1 < l.length by omega]
      rw [e2]; exact h2
  unfold okAt
  rw [e]
  simp [hl, h1.2]

/-- one more, one less -/
def insL (l : List Int) (x : Int) : List Int := sel fun v => v == x || hasB l v
def remL (l : List Int) (x : Int) : List Int := sel fun v => v != x && hasB l v
theorem ins_sorted {l S : List Int} {x : Int} (h : rightB l = true) (hx : 0 ≤ x ∧ x ≤ 6) (hn : hasB l x = false) (hp : S.Perm (l ++ [x])) (hs : ∀ i j, i < j → j < S.length → S.getD i 0 ≤ S.getD j 0) : S = insL l x := by
  have hxl : x ∉ l := by intro hh; rw [(hasB_iff l x).2 hh] at hn; cases hn
  have hnd : S.Nodup := by
    rw [hp.nodup_iff, List.nodup_append]
    refine ⟨?_, by simp, ?_⟩
    · exact (right_pair h).imp (fun hab => by omega)
    · intro a ha b hb; simp at hb; subst hb; intro e; subst e; exact hxl ha
  refine eq_of_strict _ _ ?_ (pair_sel _) (fun y => ?_)
  · rw [List.pairwise_iff_getElem]
    intro i j hi hj hij
    have h1 := hs i j hij hj
    have e1 : S.getD i 0 = S[i] := by simp [List.getD_eq_getElem?_getD, hi]
    have e2 : S.getD j 0 = S[j] := by simp [List.getD_eq_getElem?_getD, hj]
    rw [e1, e2] at h1
    have h2 : S[i] ≠ S[j] := by
      rw [List.nodup_iff_pairwise_ne, List.pairwise_iff_getElem] at hnd
      exact hnd i j hi hj hij
    omega
  · rw [hp.mem_iff, List.mem_append, List.mem_singleton, show insL l x = sel (fun v => v == x || hasB l v) from rfl, mem_sel]
    simp only [Bool.or_eq_true, beq_iff_eq, hasB_iff]
    constructor
    · rintro (h1 | h1)
      · exact ⟨right_mem h h1, .inr h1⟩
      · subst h1; exact ⟨hx, .inl rfl⟩
    · rintro ⟨_, h1 | h1⟩
      · exact .inr h1
      · exact .inl h1
theorem rem_cut {l : List Int} {x : Int} {k : Nat} (h : rightB l = true) (hk : k < l.length) (hx : l.getD k 0 = x) : l.take k ++ l.drop (k + 1) = remL l x := by
  have e1 : l[k] = x := by rw [← hx]; simp [List.getD_eq_getElem?_getD, hk]
  have hd : l = l.take k ++ x :: l.drop (k + 1) := by rw [← e1, ← List.drop_eq_getElem_cons hk, List.take_append_drop]
  have hp := right_pair h
  have hsub : (l.take k ++ l.drop (k + 1)).Sublist l := by
    conv => rhs; rw [hd]
    exact List.Sublist.append (List.Sublist.refl _) (List.sublist_cons_self _ _)
  refine eq_of_strict _ _ (hp.sublist hsub) (pair_sel _) (fun y => ?_)
  rw [show remL l x = sel (fun v => v != x && hasB l v) from rfl, mem_sel]
  simp only [Bool.and_eq_true, bne_iff_ne, hasB_iff]
  constructor
  · intro hy
    have hyl := hsub.subset hy
    refine ⟨right_mem h hyl, ?_, hyl⟩
    rintro rfl
    rw [hd, List.pairwise_append] at hp
    rcases List.mem_append.1 hy with h1 | h1
    · have := hp.2.2 _ h1 _ (List.mem_cons_self ..); omega
    · have := (List.pairwise_cons.1 hp.2.1).1 _ h1; omega
  · rintro ⟨_, h1, h2⟩
    rw [hd] at h2
    simp only [List.mem_append, List.mem_cons] at h2 ⊢
    rcases h2 with h2 | h2 | h2
    · exact .inl h2
    · exact absurd h2 h1
    · exact .inr h2
theorem sel_next (p : Int → Bool) (k : Nat) (hk : k < 7) : ([0, 1, 2, 3, 4, 5, 6].take (k + 1)).filter p = ([0, 1, 2, 3, 4, 5, 6].take k).filter p ++ if p (k : Int) then [(k : Int)] else [] := by
  have h := filt_next (l := [0, 1, 2, 3, 4, 5, 6]) (k := k) (by simpa using hk) (y := (k : Int)) (by
    match k, hk with
    | 0, _ => rfl
    | 1, _ => rfl
    | 2, _ => rfl
    | 3, _ => rfl
    | 4, _ => rfl
    | 5, _ => rfl
    | 6, _ => rfl) p
  exact h
end Go.Proofs.Ytmokfpjiibociaa.R
