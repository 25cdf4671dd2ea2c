/-
  The plain mathematics of layer 11 (lev): rows of distances, no number above what is too far. No program is in sight.
-/
import Derived.Test.YtldohnolpojccaaDoorEdMath
namespace Go.Proofs.YtldohnolpojccaaDoor.VM
open EM
set_option linter.unusedSimpArgs false
set_option linter.unusedVariables false

/-- a row with no number above what is too far -/
def cutF (out n : Nat) (s : Nat → Nat) : Nat → Nat := fun j => if j ≤ n then min (s j) out else 0
/-- the row ahead of all runes -/
def startF (out n : Nat) : Nat → Nat := fun j => if j ≤ n then min j out else 0
/-- the row behind one rune more -/
def stepF (out : Nat) (l : List Int) (s : Nat → Nat) (r : Int) : Nat → Nat
  | 0 => min (min (s 0) out + 1) out
  | j + 1 => if j < l.length then min (min (min (min (s j) out + if l.getD j 0 = r then 0 else 1) (min (s (j + 1)) out + 1)) (stepF out l s r j + 1)) out else 0
/-- the row behind a text -/
def rowF (out : Nat) (l t : List Int) : Nat → Nat := fun j => if j ≤ l.length then min (lv t (l.take j)) out else 0

theorem start_row (out : Nat) (l : List Int) : startF out l.length = rowF out l [] := by
  funext j
  unfold startF rowF
  by_cases h : j ≤ l.length
  · rw [if_pos h, if_pos h, lv_nil, List.length_take, Nat.min_eq_left h]
  · rw [if_neg h, if_neg h]
theorem step_row (out : Nat) (l t : List Int) (r : Int) : stepF out l (rowF out l t) r = rowF out l (t ++ [r]) := by
  funext j
  have hD : ∀ j, lv t (l.take j) = D (t ++ [r]) l t.length j := fun j => by simp [D]
  have hE : ∀ j, lv (t ++ [r]) (l.take j) = D (t ++ [r]) l (t.length + 1) j := fun j => by
    unfold D; rw [show (t ++ [r]).take (t.length + 1) = t ++ [r] from List.take_of_length_le (by simp)]
  have hlen : t.length < (t ++ [r]).length := by simp
  induction j with
  | zero =>
    have h1 := hD 0
    have h2 := hE 0
    rw [D_zero_right _ _ (by simp only [List.length_append, List.length_singleton]; omega)] at h1 h2
    simp only [stepF, rowF, Nat.zero_le, if_true, h1, h2]
    omega
  | succ j ih =>
    by_cases h : j < l.length
    · have hs := D_step (t ++ [r]) l hlen h
      have hr : (t ++ [r])[t.length] = r := by simp
      rw [hr] at hs
      have hg : l.getD j 0 = l[j] := by simp [List.getD_eq_getElem?_getD, h]
      rw [stepF, if_pos h, ih]
      simp only [rowF, if_pos (show j ≤ l.length by omega), if_pos (show j + 1 ≤ l.length by omega), hD, hE, hs, hg]
      by_cases hx : r = l[j]
      · rw [if_pos hx.symm, if_pos hx]; omega
      · rw [if_neg (fun e => hx e.symm), if_neg hx]; omega
    · rw [stepF, if_neg h, rowF, if_neg (by omega)]
theorem step_le (out : Nat) (l : List Int) (s : Nat → Nat) (r : Int) (j : Nat) : stepF out l s r j ≤ out := by
  cases j with
  | zero => unfold stepF; omega
  | succ j => unfold stepF; split <;> omega
theorem step_out (out : Nat) (l : List Int) (s : Nat → Nat) (r : Int) (j : Nat) (h : l.length < j) : stepF out l s r j = 0 := by
  cases j with
  | zero => omega
  | succ j => unfold stepF; rw [if_neg (by omega)]
/-- is something near? -/
def aliveF (out n : Nat) (s : Nat → Nat) : Bool := (List.range (n + 1)).any fun j => decide (s j < out)
theorem alive_iff (out n : Nat) (s : Nat → Nat) : aliveF out n s = true ↔ ∃ j, j ≤ n ∧ s j < out := by
  simp only [aliveF, List.any_eq_true, List.mem_range, decide_eq_true_eq]
  constructor
  · rintro ⟨j, h1, h2⟩; exact ⟨j, by omega, h2⟩
  · rintro ⟨j, h1, h2⟩; exact ⟨j, by omega, h2⟩
theorem dead_iff (out n : Nat) (s : Nat → Nat) : aliveF out n s = false ↔ ∀ j, j ≤ n → out ≤ s j := by
  rw [← Bool.not_eq_true, alive_iff]
  constructor
  · intro h j hj; exact Nat.le_of_not_lt (fun hh => h ⟨j, hj, hh⟩)
  · rintro h ⟨j, hj, hh⟩; have := h j hj; omega
theorem cut_dead (out n : Nat) (s : Nat → Nat) : (∀ j, j ≤ 24 → cutF out n s j = cutF out n (fun _ => out) j) ↔ (∀ j, j ≤ 24 → j ≤ n → out ≤ s j) := by
  constructor
  · intro h j h24 hj
    have := h j h24
    simp only [cutF, if_pos hj] at this
    omega
  · intro h j h24
    unfold cutF
    by_cases hj : j ≤ n
    · have := h j h24 hj
      rw [if_pos hj, if_pos hj]; show min (s j) out = min out out; omega
    · rw [if_neg hj, if_neg hj]
theorem step_dead (out : Nat) (l : List Int) (s : Nat → Nat) (r : Int) (h : ∀ j, j ≤ l.length → out ≤ s j) : ∀ j, j ≤ l.length → out ≤ stepF out l s r j := by
  intro j
  induction j with
  | zero => intro _; have := h 0 (Nat.zero_le _); unfold stepF; omega
  | succ j ih =>
    intro hj
    have h1 := h j (by omega)
    have h2 := h (j + 1) hj
    have h3 := ih (by omega)
    unfold stepF
    rw [if_pos (by omega)]
    omega
end Go.Proofs.YtldohnolpojccaaDoor.VM
