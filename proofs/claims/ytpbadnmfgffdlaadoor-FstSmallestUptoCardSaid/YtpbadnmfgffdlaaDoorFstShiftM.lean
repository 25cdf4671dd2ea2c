/-
  Greater weights: the same machine.
-/
import Derived.Test.YtpbadnmfgffdlaaDoorFstLawN
namespace Go.Proofs.YtpbadnmfgffdlaaDoor.F
open Go.RowKit
open Aid L LM
set_option linter.unusedSimpArgs false
set_option linter.unusedVariables false

/-- all weights greater by k -/
def sh (k : Int) (l : List Rw) : List Rw := l.map fun x => (x.1, x.2 + k)
theorem leastU_sh (k : Int) : ∀ (l : List Int) (n : Int), leastU (n + k) (l.map (· + k)) = leastU n l + k
  | [], _ => rfl
  | x :: l, n => by
    show leastU (if x + k < n + k then x + k else n + k) (l.map (· + k)) = leastU (if x < n then x else n) l + k
    rw [← leastU_sh k l]
    congr 1
    split <;> split <;> omega
theorem low_sh (k : Int) {l : List Rw} (h : l ≠ []) : low (sh k l) = low l + k := by
  cases l with
  | nil => exact absurd rfl h
  | cons x l =>
    unfold low leastF sh
    simp only [List.map_cons, List.map_map]
    have := leastU_sh k (x.2 :: l.map (·.2)) x.2
    simp only [List.map_cons, List.map_map] at this
    exact this
theorem under_sh (k c : Int) : ∀ l : List Rw, under c (sh k l) = sh k (under c l)
  | [] => rfl
  | x :: l => by
    have ih := under_sh k c l
    unfold sh at ih ⊢
    simp only [List.map_cons]
    unfold under
    dsimp only
    split
    · rw [List.map_cons, ← ih]
    · rfl
theorem after_sh (k c : Int) : ∀ l : List Rw, after c (sh k l) = sh k (after c l)
  | [] => rfl
  | x :: l => by
    have ih := after_sh k c l
    unfold sh at ih ⊢
    simp only [List.map_cons]
    unfold after
    dsimp only
    split
    · rw [← ih]
    · rfl
theorem isFin_sh (k : Int) (l : List Rw) : isFin (sh k l) = isFin l := by cases l <;> rfl
theorem body_sh (k : Int) (l : List Rw) : body (sh k l) = sh k (body l) := by
  unfold body
  rw [isFin_sh]
  split
  · cases l <;> rfl
  · rfl
theorem outOf_sh (k : Int) (l : List Rw) : outOf (sh k l) = outOf l := by
  unfold outOf
  rw [isFin_sh]
  split
  · rename_i h
    cases l with
    | nil => cases h
    | cons x l =>
      rw [low_sh k (by simp)]
      show x.2 + k - (low (x :: l) + k) = x.2 - low (x :: l)
      omega
  · rfl
theorem stateF_sh (k : Int) : ∀ (n : Nat) (S : List StM) (l : List Rw), RwOk n l → l ≠ [] → stateF n S (sh k l) = stateF n S l := by
  intro n
  induction n with
  | zero => intro S l _ _; rfl
  | succ n ih =>
    intro S l hok hne
    have key : ∀ (m : Nat) (S : List StM) (l : List Rw) (lo : Int), RwOk (n + 1) l → (∀ y ∈ l, y.1 ≠ []) → arcsF (stateF n) (lo + k) m S (sh k l) = arcsF (stateF n) lo m S l := by
      intro m
      induction m with
      | zero => intro S l lo _ _; rfl
      | succ m ihm =>
        intro S l lo hl hne
        cases l with
        | nil => rfl
        | cons x l =>
          have hun := under_ne (l := l) (hne x (List.mem_cons_self))
          rw [arcsF_cons]
          have e1 : sh k (x :: l) = (x.1, x.2 + k) :: sh k l := rfl
          rw [e1, arcsF_cons]
          dsimp only
          rw [← e1, under_sh, after_sh, ih S _ (hl.under _) hun, low_sh k hun, ihm _ _ lo (hl.after _) (fun y hy => hne y (after_mem hy))]
          have e2 : low (under (x.1.headD 0) (x :: l)) + k - (lo + k) = low (under (x.1.headD 0) (x :: l)) - lo := by omega
          rw [e2]
    obtain ⟨b1, b2⟩ := hok.body
    have hlen : (sh k (body l)).length = (body l).length := by unfold sh; simp
    rw [stateF_succ, stateF_succ]
    unfold stOf
    rw [body_sh, low_sh k hne, hlen, key _ _ _ _ b1 b2, isFin_sh, outOf_sh]
def shW (k : Int) (l : List Wd) : List Wd := l.map fun x => (x.1, x.2 + k)
theorem rests_shW (k : Int) (l : List Wd) : restsF (shW k l) = sh k (restsF l) := by
  unfold restsF shW sh
  simp
theorem errF_shW (k : Int) (hk : 0 ≤ k) : ∀ (l : List Wd) (p : Option ByteArray), errF p l = 0 → (∀ x ∈ l, x.2 + k ≤ 1048576) → errF p (shW k l) = 0
  | [], p, _, _ => by cases p <;> rfl
  | x :: l, p, h, hw => by
    obtain ⟨⟨h1, h2, h3, h4⟩, h5⟩ := errF_inv h
    have e : shW k (x :: l) = (x.1, x.2 + k) :: shW k l := rfl
    have hx := hw x (List.mem_cons_self)
    rw [e, errF_ok (x := (x.1, x.2 + k)) ⟨h1, by dsimp only; omega, hx, h4⟩]
    exact errF_shW k hk l _ h5 (fun y hy => hw y (List.mem_cons_of_mem _ hy))
theorem build_shW (k : Int) (hk : 0 ≤ k) {l : List Wd} (h : buildE l = 0) (hw : ∀ x ∈ l, x.2 + k ≤ 1048576) : buildE (shW k l) = 0 ∧ makeF (shW k l) = (if l = [] then 0 else (makeF l).1 + k, (makeF l).2) := by
  have hok := rests_ok h
  refine ⟨?_, ?_⟩
  · unfold buildE at h ⊢
    have hl : (shW k l).length = l.length := by unfold shW; simp
    rw [hl]
    split at h
    · omega
    · rw [if_neg (by assumption)]
      exact errF_shW k hk l none h hw
  · unfold makeF
    by_cases hl : l = []
    · subst hl; rfl
    · have hne : restsF l ≠ [] := by simpa [restsF] using hl
      rw [if_neg (by simpa [shW] using hl), if_neg hl, if_neg hl, rests_shW, low_sh k hne, stateF_sh k 25 [] _ hok hne]
end Go.Proofs.YtpbadnmfgffdlaaDoor.F
