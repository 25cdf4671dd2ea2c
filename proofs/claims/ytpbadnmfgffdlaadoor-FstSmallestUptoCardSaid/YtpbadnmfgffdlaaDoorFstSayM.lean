/-
  What a machine says of runes: the weight of the word, or nothing.
-/
import Derived.Test.YtpbadnmfgffdlaaDoorFstLawN
namespace Go.Proofs.YtpbadnmfgffdlaaDoor.F
open Go.RowKit
open Aid L LM
set_option linter.unusedSimpArgs false
set_option linter.unusedVariables false

def stAt (S : List StM) (k : Nat) : StM := (S[k]?).getD ⟨false, 0, []⟩
/-- what is said from state k on -/
def say (S : List StM) : Nat → List Int → Option Int
  | k, [] => if (stAt S k).fin then some (stAt S k).out else none
  | k, c :: r => match (stAt S k).arcs.find? (fun a => decide (a.label = c)) with
    | none => none
    | some a => (say S a.to_.toNat r).map fun w => a.out + w
/-- a word's weight among some -/
def look (l : List Rw) (r : List Int) : Option Int := (l.find? fun x => decide (x.1 = r)).map (·.2)
theorem stAt_prefix {S S' : List StM} (h : S <+: S') {k : Nat} (hk : k < S.length) : stAt S' k = stAt S k := by
  obtain ⟨t, rfl⟩ := h
  unfold stAt
  rw [List.getElem?_append_left hk]
theorem find_mem {l : List ArcM} {p : ArcM → Bool} {a : ArcM} (h : l.find? p = some a) : a ∈ l := List.mem_of_find?_eq_some h
theorem say_prefix {S S' : List StM} (h : S <+: S') (hI : Inv S) : ∀ (r : List Int) (k : Nat), k < S.length → say S' k r = say S k r
  | [], k, hk => by unfold say; rw [stAt_prefix h hk]
  | c :: r, k, hk => by
    unfold say
    rw [stAt_prefix h hk]
    cases hf : (stAt S k).arcs.find? (fun a => decide (a.label = c)) with
    | none => rfl
    | some a =>
      dsimp only
      have hs : S[k]? = some (stAt S k) := by unfold stAt; rw [List.getElem?_eq_getElem hk]; rfl
      have := hI k _ hs a (find_mem hf)
      rw [say_prefix h hI r a.to_.toNat (by omega)]
theorem look_cons (x : Rw) (l : List Rw) (r : List Int) : look (x :: l) r = if x.1 = r then some x.2 else look l r := by
  unfold look
  by_cases h : x.1 = r
  · simp [h]
  · simp [h]
theorem look_none {l : List Rw} {r : List Int} (h : ∀ x ∈ l, x.1 ≠ r) : look l r = none := by
  unfold look
  rw [List.find?_eq_none.2 (fun x hx => by simpa using h x hx)]
  rfl
theorem look_append (a b : List Rw) (r : List Int) : look (a ++ b) r = match look a r with | some w => some w | none => look b r := by
  induction a with
  | nil => rfl
  | cons x a ih =>
    rw [List.cons_append, look_cons, look_cons, ih]
    split <;> rfl
theorem look_group (c : Int) (r : List Int) : ∀ l : List Rw, look (group c l) (c :: r) = look (under c l) r
  | [] => rfl
  | x :: l => by
    have ih := look_group c r l
    unfold group under
    split
    · rename_i h
      rw [look_cons, look_cons, ih]
      cases hx : x.1 with
      | nil => rw [hx] at h; cases h
      | cons a t =>
        rw [hx] at h
        simp at h
        subst h
        by_cases ht : t = r
        · rw [if_pos (by rw [ht]), if_pos (by simpa using ht)]
        · rw [if_neg (by simpa using ht), if_neg (by simpa using ht)]
    · rfl
/-- a letter that is the first of the group -/
theorem look_split {n : Nat} {x : Rw} {l : List Rw} (hok : RwOk n (x :: l)) (hne : ∀ y ∈ x :: l, y.1 ≠ []) (c : Int) (r : List Int) :
    look (x :: l) (c :: r) = if c = x.1.headD 0 then look (under (x.1.headD 0) (x :: l)) r else look (after (x.1.headD 0) (x :: l)) (c :: r) := by
  obtain ⟨c0, hc0⟩ : ∃ c0, x.1.headD 0 = c0 := ⟨_, rfl⟩
  have hga := group_after c0 (x :: l)
  have hgt := after_gt hok hne
  rw [hc0] at hgt ⊢
  have e : look (x :: l) (c :: r) = look (group c0 (x :: l) ++ after c0 (x :: l)) (c :: r) := by rw [← hga]
  rw [e, look_append]
  by_cases h : c = c0
  · subst h
    rw [if_pos rfl, look_group]
    have : look (after c (x :: l)) (c :: r) = none := look_none (fun y hy e => by
      have := hgt y hy
      rw [e] at this
      simp at this)
    rw [this]
    cases look (under c (x :: l)) r <;> rfl
  · rw [if_neg h]
    have : look (group c0 (x :: l)) (c :: r) = none := look_none (fun y hy e => by
      have := group_head hy
      rw [e] at this
      simp at this
      exact h this)
    rw [this]
theorem arcsF_say (n : Nat) (ih : ∀ (S : List StM) (l : List Rw), RwOk n l → l ≠ [] → Inv S → S.Nodup → ∀ r, say (stateF n S l).1 (stateF n S l).2 r = (look l r).map (· - low l)) :
    ∀ (m : Nat) (S : List StM) (l : List Rw) (lo : Int), l.length ≤ m → RwOk (n + 1) l → (∀ y ∈ l, y.1 ≠ []) → Inv S → S.Nodup → ∀ (c : Int) (r : List Int) (S1 : List StM), (arcsF (stateF n) lo m S l).2 <+: S1 → Inv S1 →
      (match (arcsF (stateF n) lo m S l).1.find? (fun a => decide (a.label = c)) with | none => none | some a => (say S1 a.to_.toNat r).map fun w => a.out + w) = (look l (c :: r)).map (· - lo) := by
  intro m
  induction m with
  | zero =>
    intro S l lo hl _ _ _ _ c r S1 _ _
    obtain rfl : l = [] := List.eq_nil_of_length_eq_zero (by omega)
    rfl
  | succ m ihm =>
    intro S l lo hl hok hne hI hN c r S1 hp hI1
    cases l with
    | nil => rfl
    | cons x l =>
      have hun := under_ne (l := l) (hne x (List.mem_cons_self))
      have hu := hok.under (x.1.headD 0)
      obtain ⟨e1, e2, e3, e4⟩ := stateF_inv n S _ hu hun hI hN
      have hal : (after (x.1.headD 0) (x :: l)).length ≤ m := by
        have h1 := congrArg List.length (group_after (x.1.headD 0) (x :: l))
        have h2 : (under (x.1.headD 0) (x :: l)).length = (group (x.1.headD 0) (x :: l)).length := by rw [under_group, List.length_map]
        have h3 := List.length_pos_iff.2 hun
        rw [List.length_append] at h1
        simp only [List.length_cons] at h1 hl
        omega
      have hao := hok.after (x.1.headD 0)
      have han : ∀ y ∈ after (x.1.headD 0) (x :: l), y.1 ≠ [] := fun y hy => hne y (after_mem hy)
      rw [arcsF_cons] at hp ⊢
      dsimp only at hp ⊢
      rw [look_split hok hne, List.find?_cons]
      by_cases hc : c = x.1.headD 0
      · rw [if_pos hc]
        subst hc
        simp only [decide_true]
        -- the states behind this one are kept
        have hpre : (stateF n S (under (x.1.headD 0) (x :: l))).1 <+: S1 := by
          refine List.IsPrefix.trans ?_ hp
          -- arcsF keeps
          have key : ∀ (m : Nat) (S : List StM) (l : List Rw), RwOk (n + 1) l → (∀ y ∈ l, y.1 ≠ []) → Inv S → S.Nodup → S <+: (arcsF (stateF n) lo m S l).2 := by
            intro m
            induction m with
            | zero => intro S l _ _ _ _; exact List.prefix_refl _
            | succ m ihk =>
              intro S l hl hne hI hN
              cases l with
              | nil => exact List.prefix_refl _
              | cons x l =>
                rw [arcsF_cons]
                obtain ⟨g1, g2, g3, g4⟩ := stateF_inv n S _ (hl.under (x.1.headD 0)) (under_ne (hne x (List.mem_cons_self))) hI hN
                exact g4.trans (ihk _ _ (hl.after _) (fun y hy => hne y (after_mem hy)) g1 g2)
          exact key m _ _ hao han e1 e2
        have h5 : ((stateF n S (under (x.1.headD 0) (x :: l))).2 : Int).toNat = (stateF n S (under (x.1.headD 0) (x :: l))).2 := by omega
        rw [h5, say_prefix hpre e1 r _ e3, ih S _ hu hun hI hN r]
        cases look (under (x.1.headD 0) (x :: l)) r with
        | none => rfl
        | some w =>
          simp only [Option.map_some]
          congr 1
          omega
      · rw [if_neg hc]
        have : decide (x.1.headD 0 = c) = false := decide_eq_false (fun e => hc e.symm)
        simp only [this]
        exact ihm _ _ lo hal hao han e1 e2 c r S1 hp hI1
theorem look_fin {n : Nat} {l : List Rw} (hok : RwOk n l) : look l [] = if isFin l then some (l.headD ([], 0)).2 else none := by
  cases l with
  | nil => rfl
  | cons x l =>
    rw [look_cons]
    by_cases hx : x.1 = []
    · have : isFin (x :: l) = true := by simp [isFin, hx]
      rw [if_pos hx, if_pos this]; rfl
    · have : isFin (x :: l) = false := by simp [isFin, hx]
      rw [if_neg hx, this]
      exact look_none (fun y hy => hok.tail_ne y hy)
theorem look_body {n : Nat} {l : List Rw} (hok : RwOk n l) (c : Int) (r : List Int) : look l (c :: r) = look (body l) (c :: r) := by
  unfold body
  split
  · rename_i h
    cases l with
    | nil => rfl
    | cons x l =>
      rw [look_cons, if_neg (fun e => by simp [isFin, e] at h)]
      rfl
  · rfl
theorem stateF_say : ∀ (n : Nat) (S : List StM) (l : List Rw), RwOk n l → l ≠ [] → Inv S → S.Nodup → ∀ r, say (stateF n S l).1 (stateF n S l).2 r = (look l r).map (· - low l) := by
  intro n
  induction n with
  | zero =>
    intro S l hok hne
    cases l with
    | nil => exact absurd rfl hne
    | cons x l => exact absurd (hok.len x (List.mem_cons_self)) (by omega)
  | succ n ih =>
    intro S l hok hne hI hN r
    obtain ⟨j1, j2, j3, j4⟩ := stateF_inv (n + 1) S l hok hne hI hN
    obtain ⟨b1, b2⟩ := hok.body
    have hst : (stateF (n + 1) S l).1[(stateF (n + 1) S l).2]? = some (stOf n S l) ∧ (arcsF (stateF n) (low l) (body l).length S (body l)).2 <+: (stateF (n + 1) S l).1 := by
      rw [stateF_succ]
      rcases addS_spec (arcsF (stateF n) (low l) (body l).length S (body l)).2 (stOf n S l) with ⟨j, h1, h2⟩ | ⟨h1, h2⟩
      · rw [h2]; exact ⟨h1, List.prefix_refl _⟩
      · rw [h2]; exact ⟨by simp, List.prefix_append _ _⟩
    obtain ⟨hs, hp⟩ := hst
    have hat : stAt (stateF (n + 1) S l).1 (stateF (n + 1) S l).2 = stOf n S l := by unfold stAt; rw [hs]; rfl
    cases r with
    | nil =>
      unfold say
      rw [hat, look_fin hok]
      show (if isFin l then some (outOf l) else none) = _
      unfold outOf
      split <;> rfl
    | cons c r =>
      rw [look_body hok]
      unfold say
      rw [hat]
      exact arcsF_say n ih (body l).length S (body l) (low l) (Nat.le_refl _) b1 b2 hI hN c r _ hp j1
/-- no state says a longer word -/
def Short (S : List StM) (B : Nat) : Prop := ∀ k, k < S.length → ∀ r, say S k r ≠ none → r.length ≤ B
theorem look_len {l : List Rw} {r : List Int} {B : Nat} (h : ∀ x ∈ l, x.1.length ≤ B) (hr : look l r ≠ none) : r.length ≤ B := by
  unfold look at hr
  cases hf : l.find? (fun x => decide (x.1 = r)) with
  | none => rw [hf] at hr; exact absurd rfl hr
  | some x =>
    have h1 := List.mem_of_find?_eq_some hf
    have h2 := List.find?_some hf
    simp at h2
    rw [← h2]
    exact h x h1
theorem stateF_short : ∀ (n : Nat) (S : List StM) (l : List Rw) (B : Nat), RwOk n l → l ≠ [] → Inv S → S.Nodup → Short S B → (∀ x ∈ l, x.1.length ≤ B) → Short (stateF n S l).1 B := by
  intro n
  induction n with
  | zero => intro S l B _ _ _ _ hS _; exact hS
  | succ n ih =>
    intro S l B hok hne hI hN hS hB
    have key : ∀ (m : Nat) (S : List StM) (l : List Rw) (lo : Int), RwOk (n + 1) l → (∀ y ∈ l, y.1 ≠ []) → Inv S → S.Nodup → Short S B → (∀ x ∈ l, x.1.length ≤ B) → Short (arcsF (stateF n) lo m S l).2 B ∧ Inv (arcsF (stateF n) lo m S l).2 ∧ (arcsF (stateF n) lo m S l).2.Nodup := by
      intro m
      induction m with
      | zero => intro S l lo _ _ hI hN hS _; exact ⟨hS, hI, hN⟩
      | succ m ihm =>
        intro S l lo hl hne hI hN hS hB
        cases l with
        | nil => exact ⟨hS, hI, hN⟩
        | cons x l =>
          rw [arcsF_cons]
          have hu := hl.under (x.1.headD 0)
          have hun := under_ne (l := l) (hne x (List.mem_cons_self))
          obtain ⟨g1, g2, g3, g4⟩ := stateF_inv n S _ hu hun hI hN
          have hB2 : ∀ y ∈ under (x.1.headD 0) (x :: l), y.1.length ≤ B := fun y hy => by
            rw [under_group] at hy
            obtain ⟨z, hz, rfl⟩ := List.mem_map.1 hy
            have := hB z (group_mem hz)
            simp
            omega
          exact ihm _ _ lo (hl.after _) (fun y hy => hne y (after_mem hy)) g1 g2 (ih S _ B hu hun hI hN hS hB2) (fun y hy => hB y (after_mem hy))
    obtain ⟨b1, b2⟩ := hok.body
    obtain ⟨k1, k2, k3⟩ := key (body l).length S (body l) (low l) b1 b2 hI hN hS (fun x hx => hB x (body_mem hx))
    have hsay := stateF_say (n + 1) S l hok hne hI hN
    obtain ⟨j1, j2, j3, j4⟩ := stateF_inv (n + 1) S l hok hne hI hN
    intro k hk r hr
    rcases addS_spec (arcsF (stateF n) (low l) (body l).length S (body l)).2 (stOf n S l) with ⟨j, h1, h2⟩ | ⟨h1, h2⟩
    · rw [stateF_succ, h2] at hk hr
      exact k1 k hk r hr
    · by_cases hk' : k < (arcsF (stateF n) (low l) (body l).length S (body l)).2.length
      · rw [stateF_succ, h2] at hr
        rw [say_prefix (List.prefix_append _ _) k2 r k hk'] at hr
        exact k1 k hk' r hr
      · have hk2 : k = (stateF (n + 1) S l).2 := by
          rw [stateF_succ, h2] at hk ⊢
          simp at hk ⊢
          omega
        rw [hk2, hsay r] at hr
        refine look_len hB (r := r) (fun e => hr (by rw [e]; rfl))
/-- the root is the last state -/
theorem root_last (n : Nat) (l : List Rw) (hok : RwOk n l) (hne : l ≠ []) : (stateF n [] l).2 + 1 = (stateF n [] l).1.length := by
  cases n with
  | zero =>
    cases l with
    | nil => exact absurd rfl hne
    | cons x l => exact absurd (hok.len x (List.mem_cons_self)) (by omega)
  | succ n =>
    have hI : Inv ([] : List StM) := fun i s hs => by simp at hs
    have hN : ([] : List StM).Nodup := by simp
    have hsay := stateF_say (n + 1) [] l hok hne hI hN
    obtain ⟨b1, b2⟩ := hok.body
    -- the longest word
    obtain ⟨x, hx, hmax⟩ : ∃ x ∈ l, ∀ y ∈ l, y.1.length ≤ x.1.length := by
      clear hok hsay b1 b2
      induction l with
      | nil => exact absurd rfl hne
      | cons x l ih =>
        by_cases hl : l = []
        · subst hl; exact ⟨x, List.mem_cons_self, by simp⟩
        · obtain ⟨z, hz, h⟩ := ih hl
          by_cases hc : z.1.length ≤ x.1.length
          · refine ⟨x, List.mem_cons_self, fun y hy => ?_⟩
            rcases List.mem_cons.1 hy with rfl | hy
            · exact Nat.le_refl _
            · have := h y hy; omega
          · refine ⟨z, List.mem_cons_of_mem _ hz, fun y hy => ?_⟩
            rcases List.mem_cons.1 hy with rfl | hy
            · omega
            · exact h y hy
    have hlx : look l x.1 ≠ none := by
      unfold look
      intro e
      cases hf : l.find? (fun y => decide (y.1 = x.1)) with
      | none =>
        have := List.find?_eq_none.1 hf x hx
        simp at this
      | some y => rw [hf] at e; cases e
    have hs1 := hsay x.1
    rcases addS_spec (arcsF (stateF n) (low l) (body l).length [] (body l)).2 (stOf n [] l) with ⟨j, h1, h2⟩ | ⟨h1, h2⟩
    · exfalso
      by_cases hx0 : x.1.length = 0
      · -- all words are empty: there are no arcs
        have hb : body l = [] := by
          cases hbl : body l with
          | nil => rfl
          | cons y t =>
            have hy : y ∈ body l := by rw [hbl]; exact List.mem_cons_self
            have h3 := b2 y hy
            have h4 := hmax y (body_mem hy)
            exact absurd (List.eq_nil_of_length_eq_zero (by omega)) h3
        rw [hb] at h1
        simp [arcsF] at h1
      · have key : ∀ (m : Nat) (S : List StM) (l : List Rw) (lo : Int), RwOk (n + 1) l → (∀ y ∈ l, y.1 ≠ []) → Inv S → S.Nodup → Short S (x.1.length - 1) → (∀ y ∈ l, y.1.length ≤ x.1.length) → Short (arcsF (stateF n) lo m S l).2 (x.1.length - 1) := by
          intro m
          induction m with
          | zero => intro S l lo _ _ _ _ hS _; exact hS
          | succ m ihm =>
            intro S l lo hl hne hI hN hS hB
            cases l with
            | nil => exact hS
            | cons z l =>
              rw [arcsF_cons]
              have hu := hl.under (z.1.headD 0)
              have hun := under_ne (l := l) (hne z (List.mem_cons_self))
              obtain ⟨g1, g2, g3, g4⟩ := stateF_inv n S _ hu hun hI hN
              have hB2 : ∀ y ∈ under (z.1.headD 0) (z :: l), y.1.length ≤ x.1.length - 1 := fun y hy => by
                rw [under_group] at hy
                obtain ⟨t, ht, rfl⟩ := List.mem_map.1 hy
                have := hB t (group_mem ht)
                simp
                omega
              exact ihm _ _ lo (hl.after _) (fun y hy => hne y (after_mem hy)) g1 g2 (stateF_short n S _ _ hu hun hI hN hS hB2) (fun y hy => hB y (after_mem hy))
        have hsh := key (body l).length [] (body l) (low l) b1 b2 hI hN (fun k hk => by simp at hk) (fun y hy => hmax y (body_mem hy))
        rw [stateF_succ, h2] at hs1
        have h5 := (List.getElem?_eq_some_iff.1 h1).1
        -- j is where the root is found
        have := hsh j h5 x.1 (by
          rw [show (arcsF (stateF n) (low l) (body l).length [] (body l)).2 = (arcsF (stateF n) (low l) (body l).length [] (body l)).2 from rfl]
          dsimp only at hs1
          rw [hs1]
          cases hl' : look l x.1 with
          | none => exact absurd hl' hlx
          | some w => simp)
        omega
    · rw [stateF_succ, h2]
      simp
/-- what the machine of a dictionary says -/
theorem make_say (l : List Wd) (h : buildE l = 0) (hl : l ≠ []) (r : List Int) : say (makeF l).2 ((makeF l).2.length - 1) r = (look (restsF l) r).map (· - (makeF l).1) := by
  have hne : restsF l ≠ [] := by simpa [restsF] using hl
  have hok := rests_ok h
  have h1 := root_last 25 (restsF l) hok hne
  have h2 := stateF_say 25 [] (restsF l) hok hne (fun i s hs => by simp at hs) (by simp) r
  unfold makeF
  rw [if_neg hl]
  dsimp only
  rw [show (stateF 25 [] (restsF l)).1.length - 1 = (stateF 25 [] (restsF l)).2 by omega]
  exact h2
end Go.Proofs.YtpbadnmfgffdlaaDoor.F
