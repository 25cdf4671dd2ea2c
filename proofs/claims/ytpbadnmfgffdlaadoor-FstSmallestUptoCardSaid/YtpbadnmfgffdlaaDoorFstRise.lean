/-
  The document's rises: as many as there are states.
-/
import Derived.Test.YtpbadnmfgffdlaaDoorFstRepB
namespace Go.Proofs.YtpbadnmfgffdlaaDoor.F
open Go.RowKit
open Aid L LM
set_option linter.unusedSimpArgs false
set_option linter.unusedVariables false

/-- what is left behind a beginning -/
def unders (l : List Rw) : List Int → List Rw
  | [] => l
  | c :: w => unders (underA c l) w
theorem unders_append (l : List Rw) (a b : List Int) : unders l (a ++ b) = unders (unders l a) b := by
  induction a generalizing l with
  | nil => rfl
  | cons c a ih => exact ih _
theorem unders_snoc (l : List Rw) (a : List Int) (c : Int) : unders l (a ++ [c]) = underA c (unders l a) := unders_append l a [c]
theorem underA_nil (c : Int) : underA c [] = [] := rfl
theorem unders_nil (w : List Int) : unders [] w = [] := by
  induction w with
  | nil => rfl
  | cons c w ih => exact ih
theorem mem_underA {c : Int} {l : List Rw} {z : Rw} : z ∈ underA c l ↔ (c :: z.1, z.2) ∈ l := by
  unfold underA
  rw [List.mem_map]
  constructor
  · rintro ⟨x, hx, rfl⟩
    obtain ⟨h1, h2⟩ := List.mem_filter.1 hx
    simp only [decide_eq_true_eq] at h2
    obtain ⟨r, wt⟩ := x
    cases r with
    | nil => cases h2
    | cons a t => simp at h2; subst h2; exact h1
  · intro h
    exact ⟨_, List.mem_filter.2 ⟨h, by simp⟩, rfl⟩
theorem mem_unders {w : List Int} {l : List Rw} {z : Rw} : z ∈ unders l w ↔ (w ++ z.1, z.2) ∈ l := by
  induction w generalizing l with
  | nil => exact Iff.rfl
  | cons c w ih =>
    show z ∈ unders (underA c l) w ↔ _
    rw [ih, mem_underA]
    exact Iff.rfl
theorem underA_sh (k c : Int) (l : List Rw) : underA c (sh k l) = sh k (underA c l) := by
  unfold underA sh
  rw [List.filter_map, List.map_map, List.map_map]
  rfl
theorem unders_sh (k : Int) (l : List Rw) (w : List Int) : unders (sh k l) w = sh k (unders l w) := by
  induction w generalizing l with
  | nil => rfl
  | cons c w ih =>
    show unders (underA c (sh k l)) w = _
    rw [underA_sh, ih]
    rfl
theorem sh_ne {k : Int} {l : List Rw} : sh k l ≠ [] ↔ l ≠ [] := by unfold sh; simp
theorem unders_level_ne {l : List Rw} {w : List Int} : unders (levelW l) w ≠ [] ↔ unders l w ≠ [] := by
  rw [levelW_sh, unders_sh, sh_ne]
theorem unders_level {l : List Rw} {w : List Int} (h : unders l w ≠ []) : levelW (unders (levelW l) w) = levelW (unders l w) := by
  rw [levelW_sh l, unders_sh, level_sh _ h]
/-- a levelled rest behind a beginning -/
def Reach (l : List Rw) (y : List Rw) : Prop := ∃ w, unders l w ≠ [] ∧ y = levelW (unders l w)
theorem reach_level {l y : List Rw} : Reach (levelW l) y ↔ Reach l y := by
  constructor
  · rintro ⟨w, h, e⟩
    have h' := unders_level_ne.1 h
    exact ⟨w, h', by rw [e, unders_level h']⟩
  · rintro ⟨w, h, e⟩
    exact ⟨w, unders_level_ne.2 h, by rw [e, unders_level h]⟩
theorem reach_nil {y : List Rw} : ¬ Reach [] y := by
  rintro ⟨w, h, _⟩
  rw [unders_nil] at h
  exact h rfl
theorem reach_cases {l y : List Rw} (hl : l ≠ []) : Reach l y ↔ y = levelW l ∨ ∃ c, Reach (underA c l) y := by
  constructor
  · rintro ⟨w, h, e⟩
    cases w with
    | nil => exact .inl e
    | cons c w => exact .inr ⟨c, w, h, e⟩
  · rintro (e | ⟨c, w, h, e⟩)
    · exact ⟨[], hl, e⟩
    · exact ⟨c :: w, h, e⟩
theorem reach_trans {l y : List Rw} {w : List Int} (h : Reach l y) (hw : unders y w ≠ []) : Reach l (levelW (unders y w)) := by
  obtain ⟨v, h1, rfl⟩ := h
  have h2 := unders_level_ne.1 hw
  refine ⟨v ++ w, by rw [unders_append]; exact h2, ?_⟩
  rw [unders_level h2, unders_append]
def Closed (R : List (List Rw)) : Prop := ∀ z ∈ R, ∀ w, unders z w ≠ [] → levelW (unders z w) ∈ R
theorem closed_of {R R' : List (List Rw)} {P : List Rw → Prop} (h : Closed R) (hR : ∀ y, y ∈ R' ↔ y ∈ R ∨ P y) (hP : ∀ y, P y → ∀ w, unders y w ≠ [] → P (levelW (unders y w))) : Closed R' := fun z hz w hw => by
  rcases (hR z).1 hz with h1 | h1
  · exact (hR _).2 (.inl (h z h1 w hw))
  · exact (hR _).2 (.inr (hP z h1 w hw))
theorem underA_gone {n : Nat} {x : Rw} {l : List Rw} (hok : RwOk n (x :: l)) (hne : ∀ y ∈ x :: l, y.1 ≠ []) : underA (x.1.headD 0) (after (x.1.headD 0) (x :: l)) = [] := by
  have hgt := after_gt hok hne
  exact underA_none (fun y hy => by
    have h1 := hgt y hy
    rw [head_of (hne y (after_mem hy))]
    intro e
    simp only [Option.some.injEq] at e
    omega)
theorem rarcs_mem (n : Nat) (ih : ∀ (k : KM) (l0 : List Rw), RwOk n l0 → l0 ≠ [] → Closed k.R → ∀ y, y ∈ (rstate n k l0).1.R ↔ y ∈ k.R ∨ Reach l0 y) :
    ∀ (m : Nat) (k : KM) (l : List Rw), RwOk (n + 1) l → (∀ y ∈ l, y.1 ≠ []) → l.length ≤ m → Closed k.R → ∀ y, y ∈ (rarcs (rstate n) m k l).2.R ↔ y ∈ k.R ∨ ∃ c, Reach (underA c l) y := by
  intro m
  induction m with
  | zero =>
    intro k l _ _ hl _ y
    obtain rfl : l = [] := List.eq_nil_of_length_eq_zero (by omega)
    exact ⟨.inl, fun h => h.elim id (fun ⟨c, h⟩ => absurd h reach_nil)⟩
  | succ m ihm =>
    intro k l hok hne hl hcl y
    cases l with
    | nil => exact ⟨.inl, fun h => h.elim id (fun ⟨c, h⟩ => absurd h reach_nil)⟩
    | cons x l =>
      have hu := hok.under (x.1.headD 0)
      have hun := under_ne (l := l) (hne x (List.mem_cons_self))
      have hal := after_len (l := l) (hne x (List.mem_cons_self))
      have h1 := ih k _ hu hun hcl
      have hcl1 : Closed (rstate n k (under (x.1.headD 0) (x :: l))).1.R := closed_of hcl h1 (fun y hy w hw => reach_trans hy hw)
      have h2 := ihm (rstate n k (under (x.1.headD 0) (x :: l))).1 (after (x.1.headD 0) (x :: l)) (hok.after _) (fun y hy => hne y (after_mem hy)) (by simp only [List.length_cons] at hl; omega) hcl1 y
      show y ∈ (rarcs (rstate n) m (rstate n k (under (x.1.headD 0) (x :: l))).1 (after (x.1.headD 0) (x :: l))).2.R ↔ _
      rw [h2, h1 y]
      constructor
      · rintro ((h | h) | ⟨c, h⟩)
        · exact .inl h
        · exact .inr ⟨x.1.headD 0, by rw [underA_here hok hne]; exact h⟩
        · by_cases hc : c = x.1.headD 0
          · subst hc; rw [underA_gone hok hne] at h; exact absurd h reach_nil
          · exact .inr ⟨c, by rw [underA_later hok hne hc]; exact h⟩
      · rintro (h | ⟨c, h⟩)
        · exact .inl (.inl h)
        · by_cases hc : c = x.1.headD 0
          · subst hc; rw [underA_here hok hne] at h; exact .inl (.inr h)
          · rw [underA_later hok hne hc] at h; exact .inr ⟨c, h⟩
theorem underA_body (c : Int) (l : List Rw) : underA c (body l) = underA c l := by
  unfold body
  split
  · rename_i h
    cases l with
    | nil => rfl
    | cons x l =>
      have hx : x.1 = [] := by simpa [isFin] using h
      show underA c l = underA c ([x] ++ l)
      rw [underA_append, underA_none (l := [x]) (fun y hy => by
        simp only [List.mem_singleton] at hy
        subst hy
        rw [hx]; simp), List.nil_append]
  · rfl
theorem rstate_mem : ∀ (n : Nat) (k : KM) (l0 : List Rw), RwOk n l0 → l0 ≠ [] → Closed k.R → ∀ y, y ∈ (rstate n k l0).1.R ↔ y ∈ k.R ∨ Reach l0 y := by
  intro n
  induction n with
  | zero =>
    intro k l0 hok hne
    cases l0 with
    | nil => exact absurd rfl hne
    | cons x l => exact absurd (hok.len x (List.mem_cons_self)) (by omega)
  | succ n ih =>
    intro k l0 hok hne hcl y
    have hok1 := hok.level hne
    have hne1 := level_ne hne
    have hlev := level_level hne
    rw [show (rstate (n + 1) k l0) = (match k.R.findIdx? (fun x => decide (x = levelW l0)) with
      | some i => (k, i)
      | none => (⟨(rarcs (rstate n) (body (levelW l0)).length k (body (levelW l0))).2.R ++ [levelW l0], (rarcs (rstate n) (body (levelW l0)).length k (body (levelW l0))).2.S ++ [⟨isFin (levelW l0), outOf (levelW l0), (rarcs (rstate n) (body (levelW l0)).length k (body (levelW l0))).1⟩]⟩, (rarcs (rstate n) (body (levelW l0)).length k (body (levelW l0))).2.S.length)) from rfl]
    cases hf : k.R.findIdx? (fun x => decide (x = levelW l0)) with
    | some i =>
      obtain ⟨h1, h2, _⟩ := List.findIdx?_eq_some_iff_getElem.1 hf
      have hmem : levelW l0 ∈ k.R := by
        simp at h2
        rw [← h2]
        exact List.getElem_mem h1
      refine ⟨.inl, fun h => h.elim id (fun h => ?_)⟩
      obtain ⟨w, h3, rfl⟩ := h
      have := hcl _ hmem w (unders_level_ne.2 h3)
      rw [unders_level h3] at this
      exact this
    | none =>
      obtain ⟨b1, b2⟩ := hok1.body
      have h1 := rarcs_mem n ih (body (levelW l0)).length k (body (levelW l0)) b1 b2 (Nat.le_refl _) hcl y
      dsimp only
      rw [List.mem_append, h1, List.mem_singleton, ← reach_level, reach_cases hne1, hlev]
      constructor
      · rintro ((h | ⟨c, h⟩) | h)
        · exact .inl h
        · exact .inr (.inr ⟨c, by rw [← underA_body]; exact h⟩)
        · exact .inr (.inl h)
      · rintro (h | h | ⟨c, h⟩)
        · exact .inl (.inl h)
        · exact .inr h
        · exact .inl (.inr ⟨c, by rw [underA_body]; exact h⟩)
/-- the document's row of rises -/
def addL (out : List (List Rw)) (y : List Rw) : List (List Rw) := if y ∈ out then out else out ++ [y]
def riseI (all : List Rw) (r : List Int) : Nat → List (List Rw) → List (List Rw)
  | 0, out => out
  | m + 1, out => addL (riseI all r m out) (levelW (unders all (r.take m)))
def riseO (all : List Rw) : List Rw → List (List Rw) → List (List Rw)
  | [], out => out
  | x :: l, out => riseO all l (riseI all x.1 (x.1.length + 1) out)
def risesF (all : List Rw) : List (List Rw) := riseO all all []
theorem riseO_snoc (all l : List Rw) (x : Rw) (out : List (List Rw)) : riseO all (l ++ [x]) out = riseI all x.1 (x.1.length + 1) (riseO all l out) := by
  induction l generalizing out with
  | nil => rfl
  | cons y l ih => exact ih _
theorem addL_mem {out : List (List Rw)} {y z : List Rw} : z ∈ addL out y ↔ z ∈ out ∨ z = y := by
  unfold addL
  split
  · rename_i h
    exact ⟨.inl, fun h' => h'.elim id (fun e => e ▸ h)⟩
  · rw [List.mem_append, List.mem_singleton]
theorem addL_nodup {out : List (List Rw)} {y : List Rw} (h : out.Nodup) : (addL out y).Nodup := by
  unfold addL
  split
  · exact h
  · rename_i h1
    rw [List.nodup_append]
    exact ⟨h, by simp, fun a ha b hb e => by simp at hb; subst hb; subst e; exact h1 ha⟩
theorem riseI_mem {all : List Rw} {r : List Int} {z : List Rw} : ∀ (m : Nat) (out : List (List Rw)), z ∈ riseI all r m out ↔ z ∈ out ∨ ∃ k, k < m ∧ z = levelW (unders all (r.take k)) := by
  intro m out
  induction m with
  | zero => exact ⟨.inl, fun h => h.elim id (fun ⟨k, h, _⟩ => by omega)⟩
  | succ m ih =>
    show z ∈ addL (riseI all r m out) _ ↔ _
    rw [addL_mem, ih]
    constructor
    · rintro ((h | ⟨k, h1, h2⟩) | h)
      · exact .inl h
      · exact .inr ⟨k, by omega, h2⟩
      · exact .inr ⟨m, by omega, h⟩
    · rintro (h | ⟨k, h1, h2⟩)
      · exact .inl (.inl h)
      · by_cases hk : k = m
        · subst hk; exact .inr h2
        · exact .inl (.inr ⟨k, by omega, h2⟩)
theorem riseI_nodup {all : List Rw} {r : List Int} : ∀ (m : Nat) (out : List (List Rw)), out.Nodup → (riseI all r m out).Nodup
  | 0, _, h => h
  | m + 1, out, h => addL_nodup (riseI_nodup m out h)
theorem riseO_mem {all : List Rw} {z : List Rw} : ∀ (l : List Rw) (out : List (List Rw)), z ∈ riseO all l out ↔ z ∈ out ∨ ∃ x ∈ l, ∃ k, k ≤ x.1.length ∧ z = levelW (unders all (x.1.take k)) := by
  intro l
  induction l with
  | nil => intro out; exact ⟨.inl, fun h => h.elim id (fun ⟨k, h, _⟩ => by cases h)⟩
  | cons y l ih =>
    intro out
    show z ∈ riseO all l (riseI all y.1 (y.1.length + 1) out) ↔ _
    rw [ih, riseI_mem]
    constructor
    · rintro ((h | ⟨k, h1, h2⟩) | ⟨x, h1, h2⟩)
      · exact .inl h
      · exact .inr ⟨y, List.mem_cons_self, k, by omega, h2⟩
      · exact .inr ⟨x, List.mem_cons_of_mem _ h1, h2⟩
    · rintro (h | ⟨x, h1, k, h2, h3⟩)
      · exact .inl (.inl h)
      · rcases List.mem_cons.1 h1 with rfl | h1
        · exact .inl (.inr ⟨k, by omega, h3⟩)
        · exact .inr ⟨x, h1, k, h2, h3⟩
theorem riseO_nodup {all : List Rw} : ∀ (l : List Rw) (out : List (List Rw)), out.Nodup → (riseO all l out).Nodup
  | [], _, h => h
  | x :: l, out, h => riseO_nodup l _ (riseI_nodup _ _ h)
theorem rises_mem {all : List Rw} {z : List Rw} : z ∈ risesF all ↔ Reach all z := by
  unfold risesF
  rw [riseO_mem]
  constructor
  · rintro (h | ⟨x, h1, k, h2, h3⟩)
    · cases h
    · refine ⟨x.1.take k, fun e => ?_, h3⟩
      have : (x.1.drop k, x.2) ∈ unders all (x.1.take k) := mem_unders.2 (by simpa using h1)
      rw [e] at this
      cases this
  · rintro ⟨w, h, e⟩
    obtain ⟨z', hz⟩ := List.exists_mem_of_ne_nil _ h
    have h1 := mem_unders.1 hz
    exact .inr ⟨_, h1, w.length, by simp, by simpa using e⟩
theorem nodup_le {α : Type} [DecidableEq α] : ∀ (l m : List α), l.Nodup → (∀ x ∈ l, x ∈ m) → l.length ≤ m.length
  | [], m, _, _ => by simp
  | x :: l, m, h, hs => by
    obtain ⟨h1, h2⟩ := List.nodup_cons.1 h
    have hx := hs x (List.mem_cons_self)
    have := nodup_le l (m.erase x) h2 (fun y hy => by
      have hne : y ≠ x := fun e => h1 (e ▸ hy)
      exact (List.mem_erase_of_ne hne).2 (hs y (List.mem_cons_of_mem _ hy)))
    rw [List.length_erase_of_mem hx] at this
    have hp : 0 < m.length := List.length_pos_iff.2 (List.ne_nil_of_mem hx)
    simp only [List.length_cons]
    omega
theorem KInv.nodup {k : KM} (h : KInv k) : k.R.Nodup := by
  rw [List.nodup_iff_pairwise_ne, List.pairwise_iff_getElem]
  intro i j hi hj hij e
  have h1 : k.R[i]? = some (k.R[i]) := List.getElem?_eq_getElem hi
  have h2 : k.R[j]? = some (k.R[i]) := by rw [e]; exact List.getElem?_eq_getElem hj
  obtain ⟨_, _, n, hok⟩ := h.ok _ (List.getElem_mem hi)
  have f1 := h.fix _ _ h1 k.S (List.prefix_refl _) h.nd n hok
  have f2 := h.fix _ _ h2 k.S (List.prefix_refl _) h.nd n hok
  rw [f1] at f2
  simp at f2
  omega
/-- as many rises as there are states -/
theorem rises_len (l : List Wd) (h : buildE l = 0) (hl : l ≠ []) : (risesF (restsF l)).length = (makeF l).2.length := by
  have hne : restsF l ≠ [] := by simpa [restsF] using hl
  have hok := rests_ok h
  have hg := state_go 25 ⟨[], []⟩ (restsF l) ⟨rfl, fun i s hs => by simp at hs, by simp, fun i l hi => by simp at hi, by simp⟩ hok hne
  have hm := rstate_mem 25 ⟨[], []⟩ (restsF l) hok hne (fun z hz => by cases hz)
  rw [← (make_same l h hl).2]
  have h1 := hg.inv.nodup
  have h2 : (risesF (restsF l)).Nodup := riseO_nodup _ _ (by simp)
  refine Nat.le_antisymm (nodup_le _ _ h2 (fun x hx => (hm x).2 (.inr (rises_mem.1 hx)))) (nodup_le _ _ h1 (fun x hx => ?_))
  rcases (hm x).1 hx with h | h
  · cases h
  · exact rises_mem.2 h
end Go.Proofs.YtpbadnmfgffdlaaDoor.F
