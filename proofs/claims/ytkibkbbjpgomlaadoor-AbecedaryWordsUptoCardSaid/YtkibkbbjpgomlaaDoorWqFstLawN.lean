/-
  FstLawN.
-/
import Derived.Test.YtkibkbbjpgomlaaDoorWqFstLawM
namespace Go.Proofs.YtkibkbbjpgomlaaDoor.F
open Go.RowKit
open Aid L LM
set_option linter.unusedSimpArgs false
set_option linter.unusedVariables false

/-- each arc leads to a lower number -/
def Inv (S : List StM) : Prop := ∀ (i : Nat) s, S[i]? = some s → ∀ a ∈ s.arcs, 0 ≤ a.to_ ∧ a.to_ < (i : Int)
theorem addS_spec (S : List StM) (s : StM) : (∃ n, S[n]? = some s ∧ addS S s = (S, n)) ∨ (s ∉ S ∧ addS S s = (S ++ [s], S.length)) := by
  unfold addS
  split
  · rename_i n hn
    obtain ⟨h1, h2, _⟩ := List.findIdx?_eq_some_iff_getElem.1 hn
    left
    refine ⟨n, ?_, rfl⟩
    rw [List.getElem?_eq_getElem h1]
    simp at h2
    rw [h2]
  · rename_i hn
    rw [List.findIdx?_eq_none_iff] at hn
    right
    refine ⟨fun hs => ?_, rfl⟩
    have := hn s hs
    simp at this
theorem lexR_heads {a b : List Int} (ha : a ≠ []) (hb : b ≠ []) (h : lexR a b = true) : a.headD 0 ≤ b.headD 0 := by
  match a, b, ha, hb with
  | x :: a, y :: b, _, _ =>
    unfold lexR at h
    split at h
    · rename_i e; simp [e]
    · simp at h; simp; omega
theorem after_head (c : Int) : ∀ (l : List Rw) z t, after c l = z :: t → z.1.head? ≠ some c
  | [], z, t, h => by cases h
  | x :: l, z, t, h => by
    unfold after at h
    split at h
    · exact after_head c l z t h
    · rename_i hx
      cases h; exact hx
theorem after_gt {n : Nat} {x : Rw} {l : List Rw} (hok : RwOk n (x :: l)) (hne : ∀ y ∈ x :: l, y.1 ≠ []) : ∀ y ∈ after (x.1.headD 0) (x :: l), x.1.headD 0 < y.1.headD 0 := by
  intro y hy
  obtain ⟨c, hc⟩ : ∃ c, x.1.headD 0 = c := ⟨_, rfl⟩
  have hx0 : x.1.head? = some c := by
    cases hx : x.1 with
    | nil => exact absurd hx (hne x (List.mem_cons_self))
    | cons a t => rw [hx] at hc; simp at hc; simp [hc]
  rw [hc] at hy ⊢
  have hs : after c (x :: l) = after c l := by
    conv => lhs; unfold after
    rw [if_pos hx0]
  rw [hs] at hy
  cases ha : after c l with
  | nil => rw [ha] at hy; cases hy
  | cons z t =>
    have hz := after_head c l z t ha
    have hzm : z ∈ l := after_mem (by rw [ha]; exact List.mem_cons_self)
    have h1 := (List.pairwise_cons.1 hok.sorted).1 z hzm
    have h2 := lexR_heads (hne x (List.mem_cons_self)) (hne z (List.mem_cons_of_mem _ hzm)) h1
    rw [hc] at h2
    have h3 : z.1.headD 0 ≠ c := fun e => hz (by
      cases hz1 : z.1 with
      | nil => exact absurd hz1 (hne z (List.mem_cons_of_mem _ hzm))
      | cons a t => rw [hz1] at e; simp at e; simp [e])
    rw [ha] at hy
    rcases List.mem_cons.1 hy with rfl | hy
    · omega
    · have hs2 := (hok.cons.after c).sorted
      rw [ha] at hs2
      have h4 := (List.pairwise_cons.1 hs2).1 y hy
      have hym : y ∈ l := after_mem (by rw [ha]; exact List.mem_cons_of_mem _ hy)
      have h5 := lexR_heads (hne z (List.mem_cons_of_mem _ hzm)) (hne y (List.mem_cons_of_mem _ hym)) h4
      omega
theorem stateF_inv : ∀ (n : Nat) (S : List StM) (l : List Rw), RwOk n l → l ≠ [] → Inv S → S.Nodup → Inv (stateF n S l).1 ∧ (stateF n S l).1.Nodup ∧ (stateF n S l).2 < (stateF n S l).1.length ∧ S <+: (stateF n S l).1 := by
  intro n
  induction n with
  | zero =>
    intro S l hok hne
    cases l with
    | nil => exact absurd rfl hne
    | cons x l => exact absurd (hok.len x (List.mem_cons_self)) (by omega)
  | succ n ih =>
    intro S l hok hne hI hN
    have key : ∀ (m : Nat) (S : List StM) (l : List Rw) (lo : Int), RwOk (n + 1) l → (∀ y ∈ l, y.1 ≠ []) → Inv S → S.Nodup →
        Inv (arcsF (stateF n) lo m S l).2 ∧ (arcsF (stateF n) lo m S l).2.Nodup ∧ (∀ a ∈ (arcsF (stateF n) lo m S l).1, 0 ≤ a.to_ ∧ a.to_ < ((arcsF (stateF n) lo m S l).2.length : Int)) ∧ S <+: (arcsF (stateF n) lo m S l).2 := by
      intro m
      induction m with
      | zero => intro S l lo _ _ hI hN; exact ⟨hI, hN, by simp [arcsF], List.prefix_refl _⟩
      | succ m ihm =>
        intro S l lo hl hne hI hN
        cases l with
        | nil => exact ⟨hI, hN, by simp [arcsF], List.prefix_refl _⟩
        | cons x l =>
          rw [arcsF_cons]
          obtain ⟨e1, e2, e3, e4⟩ := ih S _ (hl.under (x.1.headD 0)) (under_ne (hne x (List.mem_cons_self))) hI hN
          obtain ⟨f1, f2, f3, f4⟩ := ihm _ _ lo (hl.after (x.1.headD 0)) (fun y hy => hne y (after_mem hy)) e1 e2
          refine ⟨f1, f2, fun a ha => ?_, e4.trans f4⟩
          rcases List.mem_cons.1 ha with rfl | ha
          · have := f4.length_le
            dsimp only
            omega
          · exact f3 a ha
    obtain ⟨b1, b2⟩ := hok.body
    obtain ⟨k1, k2, k3, k4⟩ := key (body l).length S (body l) (low l) b1 b2 hI hN
    rw [stateF_succ]
    rcases addS_spec (arcsF (stateF n) (low l) (body l).length S (body l)).2 (stOf n S l) with ⟨j, h1, h2⟩ | ⟨h1, h2⟩
    · rw [h2]
      exact ⟨k1, k2, (List.getElem?_eq_some_iff.1 h1).1, k4⟩
    · rw [h2]
      refine ⟨fun i s hs => ?_, ?_, by simp, k4.trans (List.prefix_append _ _)⟩
      · by_cases hi : i < (arcsF (stateF n) (low l) (body l).length S (body l)).2.length
        · rw [List.getElem?_append_left hi] at hs
          exact k1 i s hs
        · have hl' := (List.getElem?_eq_some_iff.1 hs).1
          simp only [List.length_append, List.length_cons, List.length_nil] at hl'
          obtain rfl : i = (arcsF (stateF n) (low l) (body l).length S (body l)).2.length := by omega
          rw [List.getElem?_append_right (Nat.le_refl _)] at hs
          simp at hs
          subst hs
          exact k3
      · rw [List.nodup_append]
        refine ⟨k2, by simp, fun a ha b hb => ?_⟩
        simp only [List.mem_singleton] at hb
        subst hb
        intro e; subst e; exact h1 ha
/-- labels rise -/
def Rise (s : StM) : Prop := s.arcs.Pairwise (fun a b => a.label < b.label)
theorem arcsF_rise (st : List StM → List Rw → List StM × Nat) (lo : Int) (n : Nat) : ∀ (m : Nat) (S : List StM) (l : List Rw), RwOk n l → (∀ y ∈ l, y.1 ≠ []) →
    (arcsF st lo m S l).1.Pairwise (fun a b => a.label < b.label) ∧ ∀ a ∈ (arcsF st lo m S l).1, ∃ y ∈ l, a.label = y.1.headD 0 := by
  intro m
  induction m with
  | zero => intro S l _ _; exact ⟨.nil, by simp [arcsF]⟩
  | succ m ih =>
    intro S l hok hne
    cases l with
    | nil => exact ⟨.nil, by simp [arcsF]⟩
    | cons x l =>
      obtain ⟨i1, i2⟩ := ih (st S (under (x.1.headD 0) (x :: l))).1 (after (x.1.headD 0) (x :: l)) (hok.after _) (fun y hy => hne y (after_mem hy))
      rw [arcsF_cons]
      refine ⟨.cons (fun a ha => ?_) i1, fun a ha => ?_⟩
      · obtain ⟨y, hy, e⟩ := i2 a ha
        rw [e]
        exact after_gt hok hne y hy
      · rcases List.mem_cons.1 ha with rfl | ha
        · exact ⟨x, List.mem_cons_self, rfl⟩
        · obtain ⟨y, hy, e⟩ := i2 a ha
          exact ⟨y, after_mem hy, e⟩
theorem stOf_rise (n : Nat) (S : List StM) (l : List Rw) (hok : RwOk (n + 1) l) (hne : l ≠ []) : Rise (stOf n S l) := by
  obtain ⟨b1, b2⟩ := hok.body
  exact (arcsF_rise (stateF n) (low l) (n + 1) _ S (body l) b1 b2).1
theorem make_ok (l : List Wd) (h : buildE l = 0) : Inv (makeF l).2 ∧ (makeF l).2.Nodup ∧ ∀ s ∈ (makeF l).2, Rise s := by
  unfold makeF
  split
  · exact ⟨fun i s hs => by simp at hs, by simp, by simp⟩
  · rename_i hl
    have hne : restsF l ≠ [] := by simpa [restsF] using hl
    obtain ⟨h1, h2, _, _⟩ := stateF_inv 25 [] (restsF l) (rests_ok h) hne (fun i s hs => by simp at hs) (by simp)
    exact ⟨h1, h2, states_ind Rise stOf_rise 25 [] (restsF l) (rests_ok h) hne (by simp)⟩
/-- one word alone -/
theorem chain_len : ∀ (n : Nat) (r : List Int) (w : Int), RwOk n [(r, w)] → (stateF n [] [(r, w)]).1.length = r.length + 1 ∧ (stateF n [] [(r, w)]).2 = r.length := by
  intro n
  induction n with
  | zero => intro r w hok; exact absurd (hok.len (r, w) (List.mem_cons_self)) (by omega)
  | succ n ih =>
    intro r w hok
    rw [stateF_succ]
    cases r with
    | nil =>
      have hb : body [(([] : List Int), w)] = [] := rfl
      have ha : (arcsF (stateF n) (low [(([] : List Int), w)]) (body [(([] : List Int), w)]).length [] (body [(([] : List Int), w)])).2 = [] := rfl
      rw [ha]
      exact ⟨rfl, rfl⟩
    | cons c r =>
      have hu : under c [((c :: r), w)] = [(r, w)] := by simp [under]
      have hok' := hok.under c
      rw [hu] at hok'
      obtain ⟨e1, e2⟩ := ih r w hok'
      have ha : arcsF (stateF n) (low [((c :: r), w)]) (body [((c :: r), w)]).length [] (body [((c :: r), w)]) = ([⟨c, low [(r, w)] - low [((c :: r), w)], ((stateF n [] [(r, w)]).2 : Nat)⟩], (stateF n [] [(r, w)]).1) := by
        show arcsF (stateF n) (low [((c :: r), w)]) (0 + 1) [] [((c :: r), w)] = _
        rw [arcsF_cons]
        show (_ :: (arcsF _ _ 0 _ _).1, (arcsF _ _ 0 _ _).2) = _
        rw [show (((c :: r), w) : Rw).1.headD 0 = c from rfl, hu]
        rfl
      obtain ⟨hI, _, _, _⟩ := stateF_inv n [] [(r, w)] hok' (by simp) (fun i s hs => by simp at hs) (by simp)
      rw [ha]
      have hs : (stOf n [] [((c :: r), w)]).arcs = [⟨c, low [(r, w)] - low [((c :: r), w)], ((stateF n [] [(r, w)]).2 : Nat)⟩] := congrArg Prod.fst ha
      rcases addS_spec (stateF n [] [(r, w)]).1 (stOf n [] [((c :: r), w)]) with ⟨j, h1, h2⟩ | ⟨h1, h2⟩
      · have h3 := (List.getElem?_eq_some_iff.1 h1).1
        have := hI j _ h1 _ (by rw [hs]; exact List.mem_cons_self)
        dsimp only at this
        omega
      · rw [h2]
        simp [e1]
theorem make_chain (s : ByteArray) (w : Int) (h : buildE [(s, w)] = 0) : (makeF [(s, w)]).1 = w ∧ (makeF [(s, w)]).2.length = (runesOf s).length + 1 := by
  have hok := rests_ok h
  exact ⟨by simp [makeF, restsF, low, leastF, leastU], (chain_len 25 (runesOf s) w hok).1⟩
end Go.Proofs.YtkibkbbjpgomlaaDoor.F
