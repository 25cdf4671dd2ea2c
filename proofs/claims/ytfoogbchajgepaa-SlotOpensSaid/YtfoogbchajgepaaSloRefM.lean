/-
  What the document's Open tells, as a function: plain laws.
-/
import Derived.Test.YtfoogbchajgepaaSloSt
namespace Go.Proofs.Ytfoogbchajgepaa.S
open Go.RowKit
open Aid K
set_option linter.unusedSimpArgs false
set_option linter.unusedVariables false

theorem says_par (l : List Int) (i : Nat) : saysF l i = (0, []) ∨ (saysF l i).1 % 2 = i := by
  unfold saysF
  split
  · exact .inl rfl
  · split
    · exact .inl rfl
    · rename_i h
      right
      exact Classical.byContradiction fun e => h (.inl e)
/-- the greater one, or the second -/
def ropenF (A B : Nat × List Int) : Nat × List Int := if B.1 < A.1 then A else B
theorem open_ref (st : DSt) (a : Int) : openK st a 2 = ropenF (saysF (lastI st a 0) 0) (saysF (lastI st a 1) 1) := by
  rw [open_two]
  have hA := says_par (lastI st a 0) 0
  have hB := says_par (lastI st a 1) 1
  generalize saysF (lastI st a 0) 0 = A at *
  generalize saysF (lastI st a 1) 1 = B at *
  unfold ropenF
  by_cases h0 : 0 < A.1
  · rw [if_pos h0]
    by_cases h1 : A.1 < B.1
    · rw [if_pos h1, if_neg (by omega)]
    · rw [if_neg h1]
      by_cases h2 : B.1 < A.1
      · rw [if_pos h2]
      · exfalso
        have e : A.1 = B.1 := by omega
        rcases hA with hA | hA
        · rw [hA] at h0; exact Nat.lt_irrefl _ h0
        · rcases hB with hB | hB
          · rw [hB] at e; dsimp only at e; omega
          · omega
  · rw [if_neg h0, if_neg (show ¬ B.1 < A.1 by omega)]
    show (if 0 < B.1 then B else (0, [])) = B
    by_cases h1 : 0 < B.1
    · rw [if_pos h1]
    · rw [if_neg h1]
      rcases hB with hB | hB
      · exact hB.symm
      · omega
end Go.Proofs.Ytfoogbchajgepaa.S
