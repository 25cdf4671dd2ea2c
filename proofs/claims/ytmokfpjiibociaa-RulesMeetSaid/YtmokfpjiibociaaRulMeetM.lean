/-
  A quorum of a configuration and one of what a change makes of it meet: plain laws.
-/
import Derived.Test.YtmokfpjiibociaaRulUndo
namespace Go.Proofs.Ytmokfpjiibociaa.R
open Go.RowKit
open Aid
set_option linter.unusedSimpArgs false
set_option linter.unusedVariables false

/-- the sides -/
def sideB (s : List Bool) (v : Int) : Bool := decide (v < s.length) && s.getD v.toNat false
def oneL (s : List Bool) : List Int := sel (sideB s)
def twoL (s : List Bool) : List Int := sel fun v => !sideB s v
theorem has_one (s : List Bool) {x : Int} (h : 0 ≤ x ∧ x ≤ 6) : hasB (oneL s) x = sideB s x := by
  rw [Bool.eq_iff_iff, hasB_iff, oneL, mem_sel]; simp [h.1, h.2]
theorem has_two (s : List Bool) {x : Int} (h : 0 ≤ x ∧ x ≤ 6) : hasB (twoL s) x = !sideB s x := by
  rw [Bool.eq_iff_iff, hasB_iff, twoL, mem_sel]; simp [h.1, h.2]
theorem count_both {l : List Int} (h : ∀ x ∈ l, 0 ≤ x ∧ x ≤ 6) (s : List Bool) : countB l (oneL s) + countB l (twoL s) = l.length := by
  unfold countB
  induction l with
  | nil => rfl
  | cons a l ih =>
    have ha := h a (by simp)
    have := ih (fun x hx => h x (by simp [hx]))
    rw [List.filter_cons, List.filter_cons, has_one s ha, has_two s ha]
    cases sideB s a <;> simp <;> omega
/-- one less: at most one fewer, and no more, are among others -/
theorem count_cut {l : List Int} {k : Nat} (hk : k < l.length) (m : List Int) : countB (l.take k ++ l.drop (k + 1)) m ≤ countB l m ∧ countB l m ≤ countB (l.take k ++ l.drop (k + 1)) m + 1 := by
  have hd : l = l.take k ++ l[k] :: l.drop (k + 1) := by rw [← List.drop_eq_getElem_cons hk, List.take_append_drop]
  have e : countB l m = countB (l.take k ++ l[k] :: l.drop (k + 1)) m := by rw [← hd]
  rw [e]
  unfold countB
  rw [List.filter_append, List.filter_append, List.filter_cons]
  split <;> simp <;> omega
theorem count_rem {l : List Int} {x : Int} (h : rightB l = true) (hx : hasB l x = true) (m : List Int) : countB (remL l x) m ≤ countB l m ∧ countB l m ≤ countB (remL l x) m + 1 := by
  obtain ⟨k, _, hk, hkx⟩ := ix_pos hx
  rw [← rem_cut h hk hkx]
  exact count_cut hk m
theorem quorum_iff (l m : List Int) : quorumB l m = true ↔ l.length / 2 < countB l m := by unfold quorumB; simp
/-- no quorum on both sides -/
theorem meet_same {l : List Int} (h : rightB l = true) (s : List Bool) : (quorumB l (oneL s) && quorumB l (twoL s)) = false := by
  cases hq : (quorumB l (oneL s) && quorumB l (twoL s)) with
  | false => rfl
  | true =>
    simp only [Bool.and_eq_true, quorum_iff] at hq
    have := count_both (fun x hx => right_mem h hx) s
    omega
/-- one less -/
theorem meet_rem {l : List Int} {x : Int} (h : rightB l = true) (hx : hasB l x = true) (s : List Bool) : (quorumB l (oneL s) && quorumB (remL l x) (twoL s)) = false ∧ (quorumB (remL l x) (oneL s) && quorumB l (twoL s)) = false := by
  have h1 := count_both (fun x hx => right_mem h hx) s
  have h2 := count_both (l := remL l x) (fun y hy => ((mem_rem l x y).1 hy).1) s
  have h3 := rem_len h hx
  have h4 := count_rem h hx (oneL s)
  have h5 := count_rem h hx (twoL s)
  constructor
  · cases hq : (quorumB l (oneL s) && quorumB (remL l x) (twoL s)) with
    | false => rfl
    | true =>
      simp only [Bool.and_eq_true, quorum_iff] at hq
      omega
  · cases hq : (quorumB (remL l x) (oneL s) && quorumB l (twoL s)) with
    | false => rfl
    | true =>
      simp only [Bool.and_eq_true, quorum_iff] at hq
      omega
theorem meet_ins {l : List Int} {x : Int} (h : rightB l = true) (h0 : 0 ≤ x) (h6 : x ≤ 6) (hx : hasB l x = false) (s : List Bool) : (quorumB l (oneL s) && quorumB (insL l x) (twoL s)) = false ∧ (quorumB (insL l x) (oneL s) && quorumB l (twoL s)) = false := by
  have hr := ins_right (l := l) h0 h6
  have hh : hasB (insL l x) x = true := (hasB_iff _ _).2 ((mem_ins l x x).2 ⟨⟨h0, h6⟩, .inl rfl⟩)
  have e := rem_ins h h0 h6 hx
  have he : remL (insL l x) x = l := by
    unfold remF at e
    split at e
    · split at e
      · exact (Prod.mk.inj e).1
      · have := (Prod.mk.inj e).2; omega
    · have := (Prod.mk.inj e).2; omega
  have := meet_rem hr hh s
  rw [he] at this
  exact ⟨this.2, this.1⟩
end Go.Proofs.Ytmokfpjiibociaa.R
