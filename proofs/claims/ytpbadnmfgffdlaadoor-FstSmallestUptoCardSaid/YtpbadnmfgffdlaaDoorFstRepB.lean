/-
  The document's loop over first runes is that over groups.
-/
import Derived.Test.YtpbadnmfgffdlaaDoorFstRep
import Derived.Test.YtpbadnmfgffdlaaDoorFstRefC
namespace Go.Proofs.YtpbadnmfgffdlaaDoor.F
open Go.RowKit
open Aid L LM
set_option linter.unusedSimpArgs false
set_option linter.unusedVariables false

def hsF : Nat → List Rw → List Int
  | 0, _ => []
  | _ + 1, [] => []
  | m + 1, x :: l => x.1.headD 0 :: hsF m (after (x.1.headD 0) (x :: l))
theorem fold_group (c : Int) : ∀ (l : List Rw) (out : List Int), out.getLast? = some c → (group c l).foldl fstep out = out
  | [], out, _ => rfl
  | x :: l, out, h => by
    unfold group
    split
    · rename_i hx
      rw [List.foldl_cons]
      have : fstep out x = out := by
        unfold fstep
        cases hx1 : x.1 with
        | nil => rfl
        | cons a t =>
          rw [hx1] at hx
          simp at hx
          subst hx
          dsimp only
          rw [if_neg]
          intro hh
          rcases hh with hh | hh
          · subst hh; simp at h
          · exact hh h
      rw [this]
      exact fold_group c l out h
    · rfl
theorem fold_hs {n : Nat} : ∀ (m : Nat) (l : List Rw) (out : List Int), l.length ≤ m → RwOk n l → (∀ y ∈ l, y.1 ≠ []) → (∀ x t, l = x :: t → out.getLast? ≠ some (x.1.headD 0)) → l.foldl fstep out = out ++ hsF m l := by
  intro m
  induction m with
  | zero =>
    intro l out hl _ _ _
    obtain rfl : l = [] := List.eq_nil_of_length_eq_zero (by omega)
    simp [hsF]
  | succ m ih =>
    intro l out hl hok hne hlast
    cases l with
    | nil => simp [hsF]
    | cons x l =>
      obtain ⟨c, hc⟩ : ∃ c, x.1.headD 0 = c := ⟨_, rfl⟩
      have hx0 : x.1.head? = some c := by
        cases hx : x.1 with
        | nil => exact absurd hx (hne x (List.mem_cons_self))
        | cons a t => rw [hx] at hc; simp at hc; simp [hc]
      have hgt := after_gt hok hne
      have hal := after_len (l := l) (hne x (List.mem_cons_self))
      have hlx := hlast x l rfl
      show (x :: l).foldl fstep out = out ++ (x.1.headD 0 :: hsF m (after (x.1.headD 0) (x :: l)))
      rw [hc] at hgt hal hlx ⊢
      have e1 : fstep out x = out ++ [c] := by
        unfold fstep
        cases hx1 : x.1 with
        | nil => rw [hx1] at hx0; cases hx0
        | cons a t =>
          rw [hx1] at hx0
          simp at hx0
          subst hx0
          dsimp only
          rw [if_pos (.inr hlx)]
      have e2 : x :: l = x :: (group c l ++ after c (x :: l)) := by
        have h1 := group_after c (x :: l)
        have h2 : group c (x :: l) = x :: group c l := by
          conv => lhs; unfold group
          rw [if_pos hx0]
        rw [h2] at h1
        simpa using h1
      have e3 : (x :: l).foldl fstep out = (after c (x :: l)).foldl fstep (out ++ [c]) := by
        conv => lhs; rw [e2]
        rw [List.foldl_cons, e1, List.foldl_append, fold_group c l (out ++ [c]) (by simp)]
      rw [e3, ih (after c (x :: l)) (out ++ [c]) (by simp only [List.length_cons] at hl; omega) (hok.after c) (fun y hy => hne y (after_mem hy)) (fun y t hy => by
        have h1 := hgt y (by rw [hy]; exact List.mem_cons_self)
        rw [List.getLast?_concat]
        intro e
        simp only [Option.some.injEq] at e
        omega)]
      simp
theorem firstsF_hs {n : Nat} {l : List Rw} (hok : RwOk n l) : firstsF l = hsF (body l).length (body l) := by
  obtain ⟨b1, b2⟩ := hok.body
  have h1 : firstsF l = (body l).foldl fstep [] := by
    unfold firstsF body
    split
    · rename_i h
      cases l with
      | nil => rfl
      | cons x l =>
        have hx : x.1 = [] := by simpa [isFin] using h
        rw [List.foldl_cons]
        have : fstep [] x = [] := by unfold fstep; rw [hx]
        rw [this]
        rfl
    · rfl
  rw [h1, fold_hs (body l).length (body l) [] (Nat.le_refl _) b1 b2 (fun x t _ => by simp)]
  rfl
theorem underA_append (c : Int) (a b : List Rw) : underA c (a ++ b) = underA c a ++ underA c b := by unfold underA; rw [List.filter_append, List.map_append]
theorem underA_none {c : Int} {l : List Rw} (h : ∀ y ∈ l, y.1.head? ≠ some c) : underA c l = [] := by
  unfold underA
  rw [List.filter_eq_nil_iff.2 (fun y hy => by simpa using h y hy)]
  rfl
theorem underA_group (c : Int) : ∀ l : List Rw, underA c (group c l) = under c l
  | [] => rfl
  | x :: l => by
    have ih := underA_group c l
    unfold group under
    split
    · rename_i hx
      have : underA c (x :: group c l) = (x.1.tail, x.2) :: underA c (group c l) := by
        unfold underA
        rw [List.filter_cons, if_pos (by simpa using hx)]
        rfl
      rw [this, ih]
    · rfl
theorem head_of {x : Rw} (h : x.1 ≠ []) : x.1.head? = some (x.1.headD 0) := by
  cases hx : x.1 with
  | nil => exact absurd hx h
  | cons a t => rfl
theorem underA_here {n : Nat} {x : Rw} {l : List Rw} (hok : RwOk n (x :: l)) (hne : ∀ y ∈ x :: l, y.1 ≠ []) : underA (x.1.headD 0) (x :: l) = under (x.1.headD 0) (x :: l) := by
  have hgt := after_gt hok hne
  have e : underA (x.1.headD 0) (x :: l) = underA (x.1.headD 0) (group (x.1.headD 0) (x :: l) ++ after (x.1.headD 0) (x :: l)) := by rw [← group_after]
  rw [e, underA_append, underA_group, underA_none (fun y hy => by
    have h1 := hgt y hy
    rw [head_of (hne y (after_mem hy))]
    intro e
    simp only [Option.some.injEq] at e
    omega), List.append_nil]
theorem underA_later {n : Nat} {x : Rw} {l : List Rw} (hok : RwOk n (x :: l)) (hne : ∀ y ∈ x :: l, y.1 ≠ []) {c : Int} (hc : c ≠ x.1.headD 0) : underA c (x :: l) = underA c (after (x.1.headD 0) (x :: l)) := by
  have e : underA c (x :: l) = underA c (group (x.1.headD 0) (x :: l) ++ after (x.1.headD 0) (x :: l)) := by rw [← group_after]
  rw [e, underA_append, underA_none (fun y hy => by
    rw [group_head hy]
    intro e
    simp only [Option.some.injEq] at e
    exact hc e.symm), List.nil_append]
/-- the document's loop -/
def goR (st : KM → List Rw → KM × Nat) (l : List Rw) : KM → List Int → List ArcM × KM
  | k, [] => ([], k)
  | k, c :: f =>
    let r := st k (underA c l)
    let q := goR st l r.1 f
    (⟨c, low (underA c l), (r.2 : Nat)⟩ :: q.1, q.2)
theorem hs_gt {n : Nat} : ∀ (m : Nat) (l : List Rw), RwOk n l → (∀ y ∈ l, y.1 ≠ []) → ∀ c ∈ hsF m l, ∃ y ∈ l, c = y.1.headD 0 := by
  intro m
  induction m with
  | zero => intro l _ _ c hc; simp [hsF] at hc
  | succ m ih =>
    intro l hok hne c hc
    cases l with
    | nil => simp [hsF] at hc
    | cons x l =>
      rcases List.mem_cons.1 hc with rfl | hc
      · exact ⟨x, List.mem_cons_self, rfl⟩
      · obtain ⟨y, hy, e⟩ := ih _ (hok.after _) (fun y hy => hne y (after_mem hy)) c hc
        exact ⟨y, after_mem hy, e⟩
theorem goR_eq (st : KM → List Rw → KM × Nat) {n : Nat} (L : List Rw) : ∀ (m : Nat) (b : List Rw) (k : KM), b.length ≤ m → RwOk n b → (∀ y ∈ b, y.1 ≠ []) → (∀ c ∈ hsF m b, underA c L = underA c b) → goR st L k (hsF m b) = rarcs st m k b := by
  intro m
  induction m with
  | zero => intro b k _ _ _ _; rfl
  | succ m ih =>
    intro b k hl hok hne hu
    cases b with
    | nil => rfl
    | cons x b =>
      have hh : hsF (m + 1) (x :: b) = x.1.headD 0 :: hsF m (after (x.1.headD 0) (x :: b)) := rfl
      rw [hh] at hu ⊢
      have h1 := hu _ (List.mem_cons_self)
      rw [underA_here hok hne] at h1
      have hgt := after_gt hok hne
      have hal := after_len (l := b) (hne x (List.mem_cons_self))
      have h2 := ih (after (x.1.headD 0) (x :: b)) (st k (under (x.1.headD 0) (x :: b))).1 (by simp only [List.length_cons] at hl; omega) (hok.after _) (fun y hy => hne y (after_mem hy)) (fun c hc => by
        rw [hu c (List.mem_cons_of_mem _ hc)]
        refine underA_later hok hne (fun e => ?_)
        obtain ⟨y, hy, e'⟩ := hs_gt m _ (hok.after _) (fun y hy => hne y (after_mem hy)) c hc
        have := hgt y hy
        omega)
      show (_ :: (goR st L _ _).1, (goR st L _ _).2) = _
      rw [h1, h2]
      rfl
theorem goR_firsts (st : KM → List Rw → KM × Nat) {n : Nat} (l : List Rw) (k : KM) (hok : RwOk n l) : goR st l k (firstsF l) = rarcs st (body l).length k (body l) := by
  obtain ⟨b1, b2⟩ := hok.body
  rw [firstsF_hs hok]
  refine goR_eq st l (body l).length (body l) k (Nat.le_refl _) b1 b2 (fun c hc => ?_)
  unfold body
  split
  · rename_i h
    cases l with
    | nil => rfl
    | cons x l =>
      have hx : x.1 = [] := by simpa [isFin] using h
      show underA c ([x] ++ l) = underA c l
      rw [underA_append, underA_none (l := [x]) (fun y hy => by
        simp only [List.mem_singleton] at hy
        subst hy
        rw [hx]; simp), List.nil_append]
  · rfl
end Go.Proofs.YtpbadnmfgffdlaaDoor.F
