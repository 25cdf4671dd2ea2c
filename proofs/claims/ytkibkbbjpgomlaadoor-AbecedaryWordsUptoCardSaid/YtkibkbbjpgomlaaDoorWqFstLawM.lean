/-
  FstLawM.
-/
import Derived.Test.YtkibkbbjpgomlaaDoorWqFstMach
namespace Go.Proofs.YtkibkbbjpgomlaaDoor.F
open Go.RowKit
open Aid L LM
set_option linter.unusedSimpArgs false
set_option linter.unusedVariables false

/-- the least that a state or its arcs add -/
def lowS (s : StM) : Int := leastU (if s.fin then s.out else 1099511627776) (s.arcs.map (·.out))
theorem arcsF_out (st : List StM → List Rw → List StM × Nat) (lo : Int) (n : Nat) : ∀ (m : Nat) (S : List StM) (l : List Rw), l.length ≤ m → RwOk (n + 1) l → (∀ y ∈ l, y.1 ≠ []) →
    (∀ x ∈ l, ∃ a ∈ (arcsF st lo m S l).1, a.out ≤ x.2 - lo) ∧ ∀ a ∈ (arcsF st lo m S l).1, ∃ x ∈ l, a.out = x.2 - lo := by
  intro m
  induction m with
  | zero =>
    intro S l hl _ _
    obtain rfl : l = [] := List.eq_nil_of_length_eq_zero (by omega)
    exact ⟨by simp, by simp [arcsF]⟩
  | succ m ih =>
    intro S l hl hok hne
    cases l with
    | nil => exact ⟨by simp, by simp [arcsF]⟩
    | cons x l =>
      obtain ⟨c, hc⟩ : ∃ c, x.1.headD 0 = c := ⟨_, rfl⟩
      rw [arcsF_cons, hc]
      have hun : under c (x :: l) ≠ [] := by rw [← hc]; exact under_ne (hne x (List.mem_cons_self))
      have hga := group_after c (x :: l)
      have hal : (after c (x :: l)).length ≤ m := by
        have h1 := congrArg List.length hga
        have h2 : (under c (x :: l)).length = (group c (x :: l)).length := by rw [under_group, List.length_map]
        have h3 := List.length_pos_iff.2 hun
        rw [List.length_append] at h1
        simp only [List.length_cons] at h1 hl
        omega
      obtain ⟨i1, i2⟩ := ih (st S (under c (x :: l))).1 (after c (x :: l)) hal (hok.after c) (fun y hy => hne y (after_mem hy))
      refine ⟨fun y hy => ?_, fun a ha => ?_⟩
      · rw [hga] at hy
        rcases List.mem_append.1 hy with hy | hy
        · refine ⟨_, List.mem_cons_self, ?_⟩
          have : (y.1.tail, y.2) ∈ under c (x :: l) := by rw [under_group]; exact List.mem_map_of_mem hy
          have := low_le this
          dsimp only at this ⊢
          omega
        · obtain ⟨a, ha, h⟩ := i1 y hy
          exact ⟨a, List.mem_cons_of_mem _ ha, h⟩
      · rcases List.mem_cons.1 ha with rfl | ha
        · obtain ⟨y, hy, e⟩ := low_mem hun
          rw [under_group] at hy
          obtain ⟨z, hz, rfl⟩ := List.mem_map.1 hy
          exact ⟨z, group_mem hz, by dsimp only; rw [e]⟩
        · obtain ⟨y, hy, e⟩ := i2 a ha
          exact ⟨y, after_mem hy, e⟩
theorem leastU_zero {n : Int} {l : List Int} (hn : 0 ≤ n) (hl : ∀ x ∈ l, 0 ≤ x) (h : n = 0 ∨ 0 ∈ l) : leastU n l = 0 := by
  obtain ⟨h1, h2⟩ := leastU_le n l
  have h3 : 0 ≤ leastU n l := by
    rcases leastU_mem n l with e | e
    · omega
    · exact hl _ e
  rcases h with h | h
  · omega
  · have := h2 0 h; omega
theorem addS_mem {S : List StM} {s x : StM} (h : x ∈ (addS S s).1) : x ∈ S ∨ x = s := by
  unfold addS at h
  split at h
  · exact .inl h
  · rcases List.mem_append.1 h with h | h
    · exact .inl h
    · exact .inr (by simpa using h)
/-- the state that some rests have -/
def stOf (n : Nat) (S : List StM) (l : List Rw) : StM := ⟨isFin l, outOf l, (arcsF (stateF n) (low l) (body l).length S (body l)).1⟩
theorem stateF_succ (n : Nat) (S : List StM) (l : List Rw) : stateF (n + 1) S l = addS (arcsF (stateF n) (low l) (body l).length S (body l)).2 (stOf n S l) := rfl
/-- whatever holds of each state that comes to be holds of all -/
theorem states_ind (Q : StM → Prop) (h : ∀ n S l, RwOk (n + 1) l → l ≠ [] → Q (stOf n S l)) : ∀ (n : Nat) (S : List StM) (l : List Rw), RwOk n l → l ≠ [] → (∀ s ∈ S, Q s) → ∀ s ∈ (stateF n S l).1, Q s := by
  intro n
  induction n with
  | zero => intro S l _ _ hS s hs; exact hS s hs
  | succ n ih =>
    intro S l hok hne hS
    have key : ∀ (m : Nat) (S : List StM) (l : List Rw) (lo : Int), RwOk (n + 1) l → (∀ y ∈ l, y.1 ≠ []) → (∀ s ∈ S, Q s) → ∀ s ∈ (arcsF (stateF n) lo m S l).2, Q s := by
      intro m
      induction m with
      | zero => intro S l lo _ _ hS s hs; exact hS s hs
      | succ m ihm =>
        intro S l lo hl hne hS
        cases l with
        | nil => exact hS
        | cons x l =>
          rw [arcsF_cons]
          exact ihm _ _ _ (hl.after _) (fun y hy => hne y (after_mem hy)) (ih _ _ (hl.under _) (under_ne (hne x (List.mem_cons_self))) hS)
    obtain ⟨b1, b2⟩ := hok.body
    rw [stateF_succ]
    intro s hs
    rcases addS_mem hs with hs | rfl
    · exact key _ _ _ _ b1 b2 hS s hs
    · exact h n S l hok hne
theorem body_mem {l : List Rw} {x : Rw} (h : x ∈ body l) : x ∈ l := by
  unfold body at h
  split at h
  · exact List.mem_of_mem_tail h
  · exact h
theorem mem_body {l : List Rw} {x : Rw} (h : x ∈ l) : x ∈ body l ∨ (isFin l = true ∧ l.head? = some x) := by
  unfold body
  split
  · rename_i hf
    cases l with
    | nil => cases h
    | cons y l =>
      rcases List.mem_cons.1 h with rfl | h
      · exact .inr ⟨hf, rfl⟩
      · exact .inl h
  · exact .inl h
theorem stOf_level (n : Nat) (S : List StM) (l : List Rw) (hok : RwOk (n + 1) l) (hne : l ≠ []) : lowS (stOf n S l) = 0 := by
  obtain ⟨b1, b2⟩ := hok.body
  obtain ⟨a1, a2⟩ := arcsF_out (stateF n) (low l) n (body l).length S (body l) (Nat.le_refl _) b1 b2
  have hge : ∀ a ∈ (stOf n S l).arcs, 0 ≤ a.out := fun a ha => by
    obtain ⟨x, hx, e⟩ := a2 a ha
    have := low_le (body_mem hx)
    omega
  have hout : isFin l = true → outOf l = (l.headD ([], 0)).2 - low l := fun h => by unfold outOf; rw [if_pos h]
  have hhd : (l.headD ([], 0)) ∈ l := by cases l with | nil => exact absurd rfl hne | cons x l => exact List.mem_cons_self
  unfold lowS
  refine leastU_zero ?_ (fun x hx => ?_) ?_
  · split
    · rename_i h
      have := low_le hhd
      show 0 ≤ outOf l
      rw [hout h]; omega
    · decide
  · obtain ⟨a, ha, rfl⟩ := List.mem_map.1 hx
    exact hge a ha
  · obtain ⟨x, hx, e⟩ := low_mem hne
    rcases mem_body hx with hx | ⟨hf, hx⟩
    · right
      obtain ⟨a, ha, h⟩ := a1 x hx
      have h0 := hge a ha
      have : a.out = 0 := by omega
      rw [← this]
      exact List.mem_map_of_mem ha
    · left
      have hf' : (stOf n S l).fin = true := hf
      rw [if_pos hf']
      show outOf l = 0
      rw [hout hf]
      have : l.headD ([], 0) = x := by cases l with | nil => cases hx | cons y l => simpa using hx
      rw [this]; omega
/-- what a machine that is made is like -/
theorem make_level (l : List Wd) (h : buildE l = 0) : ∀ s ∈ (makeF l).2, lowS s = 0 := by
  unfold makeF
  split
  · simp
  · rename_i hl
    exact states_ind (fun s => lowS s = 0) stOf_level 25 [] (restsF l) (rests_ok h) (by simpa [restsF] using hl) (by simp)
end Go.Proofs.YtkibkbbjpgomlaaDoor.F
