/-
  The document's way and the program's: the same states in the same order.
-/
import Derived.Test.YtpbadnmfgffdlaaDoorFstSayM
import Derived.Test.YtpbadnmfgffdlaaDoorFstShiftM
namespace Go.Proofs.YtpbadnmfgffdlaaDoor.F
open Go.RowKit
open Aid L LM
set_option linter.unusedSimpArgs false
set_option linter.unusedVariables false

def levelW (l : List Rw) : List Rw := l.map fun x => (x.1, x.2 - low l)
theorem levelW_sh (l : List Rw) : levelW l = sh (-(low l)) l := by
  unfold levelW sh
  congr 1
theorem stateF_level (n : Nat) (S : List StM) (l : List Rw) (hok : RwOk n l) (hne : l ≠ []) : stateF n S (levelW l) = stateF n S l := by
  rw [levelW_sh]; exact stateF_sh _ n S l hok hne
theorem low_level {l : List Rw} (hne : l ≠ []) : low (levelW l) = 0 := by rw [levelW_sh, low_sh _ hne]; omega
theorem level_ne {l : List Rw} (h : l ≠ []) : levelW l ≠ [] := by unfold levelW; simpa using h
theorem sh_sh (a b : Int) (l : List Rw) : sh a (sh b l) = sh (b + a) l := by
  unfold sh
  rw [List.map_map]
  congr 1
  funext x
  show (x.1, x.2 + b + a) = (x.1, x.2 + (b + a))
  rw [Int.add_assoc]
theorem level_sh (k : Int) {l : List Rw} (hne : l ≠ []) : levelW (sh k l) = levelW l := by
  rw [levelW_sh, levelW_sh, low_sh k hne, sh_sh]
  congr 1
  omega
theorem level_level {l : List Rw} (hne : l ≠ []) : levelW (levelW l) = levelW l := by rw [levelW_sh l, level_sh _ hne, levelW_sh]
theorem RwOk.level {n : Nat} {l : List Rw} (h : RwOk n l) (hne : l ≠ []) : RwOk n (levelW l) := by
  have hlo : 0 ≤ low l := by
    obtain ⟨x, hx, e⟩ := low_mem hne
    rw [e]; exact (h.wt x hx).1
  refine ⟨?_, fun x hx => ?_, fun x hx => ?_, fun x hx => ?_, by unfold levelW; rw [List.length_map]; exact h.few⟩
  · unfold levelW
    rw [List.pairwise_map]
    exact h.sorted
  all_goals
    unfold levelW at hx
    obtain ⟨y, hy, rfl⟩ := List.mem_map.1 hx
  · exact h.len y hy
  · exact h.runes y hy
  · have h1 := h.wt y hy
    have h2 := low_le hy
    dsimp only
    omega
/-- what is known: levelled rests, their states -/
structure KM where
  R : List (List Rw)
  S : List StM
/-- the groups of some rests, gone through -/
def rarcs (st : KM → List Rw → KM × Nat) : Nat → KM → List Rw → List ArcM × KM
  | 0, k, _ => ([], k)
  | _ + 1, k, [] => ([], k)
  | m + 1, k, x :: l =>
    let c := x.1.headD 0
    let r := st k (under c (x :: l))
    let t := rarcs st m r.1 (after c (x :: l))
    (⟨c, low (under c (x :: l)), (r.2 : Nat)⟩ :: t.1, t.2)
def rstate : Nat → KM → List Rw → KM × Nat
  | 0, k, _ => (k, 0)
  | n + 1, k, l0 =>
    match k.R.findIdx? (fun x => decide (x = levelW l0)) with
    | some i => (k, i)
    | none =>
      let r := rarcs (rstate n) (body (levelW l0)).length k (body (levelW l0))
      (⟨r.2.R ++ [levelW l0], r.2.S ++ [⟨isFin (levelW l0), outOf (levelW l0), r.1⟩]⟩, r.2.S.length)
/-- rests l have state i, for good -/
def Fix (S : List StM) (l : List Rw) (i : Nat) : Prop := ∀ S', S <+: S' → S'.Nodup → ∀ n, RwOk n l → stateF n S' l = (S', i)
theorem Fix.more {S S' : List StM} {l : List Rw} {i : Nat} (h : Fix S l i) (hp : S <+: S') : Fix S' l i := fun T hT hN n hok => h T (hp.trans hT) hN n hok
/-- arcs that are those of some groups -/
inductive ArcsOf (S : List StM) (lo : Int) : List Rw → List ArcM → Prop
  | nil : ArcsOf S lo [] []
  | cons {x : Rw} {l : List Rw} {i : Nat} {A : List ArcM} : Fix S (levelW (under (x.1.headD 0) (x :: l))) i → ArcsOf S lo (after (x.1.headD 0) (x :: l)) A →
      ArcsOf S lo (x :: l) (⟨x.1.headD 0, low (under (x.1.headD 0) (x :: l)) - lo, (i : Nat)⟩ :: A)
theorem ArcsOf.more {S S' : List StM} {lo : Int} {l : List Rw} {A : List ArcM} (h : ArcsOf S lo l A) (hp : S <+: S') : ArcsOf S' lo l A := by
  induction h with
  | nil => exact .nil
  | cons h1 _ ih => exact .cons (h1.more hp) ih
theorem after_len {x : Rw} {l : List Rw} (hx : x.1 ≠ []) : (after (x.1.headD 0) (x :: l)).length ≤ l.length := by
  have h1 := congrArg List.length (group_after (x.1.headD 0) (x :: l))
  have h2 : (under (x.1.headD 0) (x :: l)).length = (group (x.1.headD 0) (x :: l)).length := by rw [under_group, List.length_map]
  have h3 := List.length_pos_iff.2 (under_ne (l := l) hx)
  rw [List.length_append] at h1
  simp only [List.length_cons] at h1
  omega
theorem ArcsOf.run {S : List StM} {lo : Int} {l : List Rw} {A : List ArcM} (h : ArcsOf S lo l A) : ∀ (n m : Nat) (S' : List StM), S <+: S' → S'.Nodup → l.length ≤ m → RwOk (n + 1) l → (∀ y ∈ l, y.1 ≠ []) → arcsF (stateF n) lo m S' l = (A, S') := by
  induction h with
  | nil => intro n m S' _ _ _ _ _; cases m <;> rfl
  | @cons x l i A h1 _ ih =>
    intro n m S' hp hN hl hok hne
    cases m with
    | zero => simp at hl
    | succ m =>
      have hu := hok.under (x.1.headD 0)
      have hun := under_ne (l := l) (hne x (List.mem_cons_self))
      have hst : stateF n S' (under (x.1.headD 0) (x :: l)) = (S', i) := by
        rw [← stateF_level n S' _ hu hun]
        exact h1 S' hp hN n (hu.level hun)
      rw [arcsF_cons, hst]
      dsimp only
      rw [ih n m S' hp hN (by have := after_len (l := l) (hne x (List.mem_cons_self)); simp only [List.length_cons] at hl; omega) (hok.after _) (fun y hy => hne y (after_mem hy))]
/-- what is known is right -/
structure KInv (k : KM) : Prop where
  len : k.R.length = k.S.length
  inv : Inv k.S
  nd : k.S.Nodup
  fix : ∀ i l, k.R[i]? = some l → Fix k.S l i
  ok : ∀ l ∈ k.R, l ≠ [] ∧ low l = 0 ∧ ∃ n, RwOk n l
theorem look_some {l : List Rw} {r : List Int} {w : Int} (hs : l.Pairwise (fun a b => lexR a.1 b.1 = true)) : look l r = some w ↔ (r, w) ∈ l := by
  constructor
  · intro h
    unfold look at h
    cases hf : l.find? (fun x => decide (x.1 = r)) with
    | none => rw [hf] at h; cases h
    | some x =>
      rw [hf] at h
      have h1 := List.mem_of_find?_eq_some hf
      have h2 := List.find?_some hf
      simp at h2 h
      obtain ⟨a, b⟩ := x
      simp at h2 h
      subst h2 h
      exact h1
  · intro h
    have aux : ∀ l : List Rw, l.Pairwise (fun a b => lexR a.1 b.1 = true) → (r, w) ∈ l → look l r = some w := by
      intro l
      induction l with
      | nil => intro _ h; cases h
      | cons y l ih =>
        intro hs h
        rw [look_cons]
        obtain ⟨h1, h2⟩ := List.pairwise_cons.1 hs
        rcases List.mem_cons.1 h with e | h
        · rw [← e, if_pos rfl]
        · have h3 := h1 _ h
          rw [if_neg (fun e => by
            have h4 : lexR r r = true := by rw [e] at h3; exact h3
            have : ∀ a : List Int, lexR a a = false := fun a => by
              induction a with
              | nil => rfl
              | cons x a ih => unfold lexR; rw [if_pos rfl]; exact ih
            rw [this] at h4; cases h4)]
          exact ih h2 h
    exact aux l hs h
theorem lexR_asymm {a b : List Int} (h : lexR a b = true) (h' : lexR b a = true) : False := by
  have h3 := lexR_trans h h'
  have : ∀ a : List Int, lexR a a = false := fun a => by
    induction a with
    | nil => rfl
    | cons x a ih => unfold lexR; rw [if_pos rfl]; exact ih
  rw [this] at h3; cases h3
theorem sorted_ext : ∀ {l m : List Rw}, l.Pairwise (fun a b => lexR a.1 b.1 = true) → m.Pairwise (fun a b => lexR a.1 b.1 = true) → (∀ x, x ∈ l ↔ x ∈ m) → l = m
  | [], [], _, _, _ => rfl
  | [], y :: m, _, _, h => by have := (h y).2 (List.mem_cons_self); cases this
  | x :: l, [], _, _, h => by have := (h x).1 (List.mem_cons_self); cases this
  | x :: l, y :: m, h1, h2, h => by
    obtain ⟨a1, a2⟩ := List.pairwise_cons.1 h1
    obtain ⟨b1, b2⟩ := List.pairwise_cons.1 h2
    have hxy : x = y := by
      rcases List.mem_cons.1 ((h x).1 (List.mem_cons_self)) with e | hx
      · exact e
      · rcases List.mem_cons.1 ((h y).2 (List.mem_cons_self)) with e | hy
        · exact e.symm
        · exact absurd (b1 x hx) (fun q => lexR_asymm q (a1 y hy))
    subst hxy
    congr 1
    refine sorted_ext a2 b2 (fun z => ⟨fun hz => ?_, fun hz => ?_⟩)
    · rcases List.mem_cons.1 ((h z).1 (List.mem_cons_of_mem _ hz)) with e | hz'
      · subst e; exact absurd (a1 z hz) (fun q => lexR_asymm q q)
      · exact hz'
    · rcases List.mem_cons.1 ((h z).2 (List.mem_cons_of_mem _ hz)) with e | hz'
      · subst e; exact absurd (b1 z hz) (fun q => lexR_asymm q q)
      · exact hz'
theorem look_ext {l m : List Rw} (h1 : l.Pairwise (fun a b => lexR a.1 b.1 = true)) (h2 : m.Pairwise (fun a b => lexR a.1 b.1 = true)) (h : ∀ r, look l r = look m r) : l = m :=
  sorted_ext h1 h2 (fun x => by
    obtain ⟨r, w⟩ := x
    rw [← look_some h1, ← look_some h2, h r])
/-- how long the words are at most -/
def Upto (B : Nat) (l : List Rw) : Prop := ∀ y ∈ l, y.1.length ≤ B
theorem upto_level {B : Nat} {l : List Rw} (h : Upto B l) : Upto B (levelW l) := fun y hy => by
  unfold levelW at hy
  obtain ⟨z, hz, rfl⟩ := List.mem_map.1 hy
  exact h z hz
theorem upto_under {B : Nat} {c : Int} {l : List Rw} (h : Upto (B + 1) l) : Upto B (under c l) := fun y hy => by
  rw [under_group] at hy
  obtain ⟨z, hz, rfl⟩ := List.mem_map.1 hy
  have := h z (group_mem hz)
  simp
  omega
/-- both ways go together -/
structure Goes (k : KM) (l0 : List Rw) (n : Nat) (r : KM × Nat) : Prop where
  inv : KInv r.1
  prog : stateF n k.S l0 = (r.1.S, r.2)
  at_ : r.1.R[r.2]? = some (levelW l0)
  pre : k.R <+: r.1.R
  preS : k.S <+: r.1.S
  new : ∀ B, Upto B l0 → ∀ x ∈ r.1.R, x ∈ k.R ∨ Upto B x
theorem arcs_go (n : Nat) (ih : ∀ (k : KM) (l0 : List Rw), KInv k → RwOk n l0 → l0 ≠ [] → Goes k l0 n (rstate n k l0)) :
    ∀ (m : Nat) (k : KM) (l : List Rw), KInv k → RwOk (n + 1) l → (∀ y ∈ l, y.1 ≠ []) → l.length ≤ m →
      KInv (rarcs (rstate n) m k l).2 ∧ arcsF (stateF n) 0 m k.S l = ((rarcs (rstate n) m k l).1, (rarcs (rstate n) m k l).2.S) ∧ ArcsOf (rarcs (rstate n) m k l).2.S 0 l (rarcs (rstate n) m k l).1 ∧
      k.R <+: (rarcs (rstate n) m k l).2.R ∧ k.S <+: (rarcs (rstate n) m k l).2.S ∧ ∀ B, Upto (B + 1) l → ∀ x ∈ (rarcs (rstate n) m k l).2.R, x ∈ k.R ∨ Upto B x := by
  intro m
  induction m with
  | zero =>
    intro k l hk _ _ hl
    obtain rfl : l = [] := List.eq_nil_of_length_eq_zero (by omega)
    exact ⟨hk, rfl, .nil, List.prefix_refl _, List.prefix_refl _, fun B _ x hx => .inl hx⟩
  | succ m ihm =>
    intro k l hk hok hne hl
    cases l with
    | nil => exact ⟨hk, rfl, .nil, List.prefix_refl _, List.prefix_refl _, fun B _ x hx => .inl hx⟩
    | cons x l =>
      have hu := hok.under (x.1.headD 0)
      have hun := under_ne (l := l) (hne x (List.mem_cons_self))
      have hg := ih k _ hk hu hun
      have hal := after_len (l := l) (hne x (List.mem_cons_self))
      obtain ⟨g1, g2, g3, g4, g5, g6⟩ := ihm (rstate n k (under (x.1.headD 0) (x :: l))).1 (after (x.1.headD 0) (x :: l)) hg.inv (hok.after _) (fun y hy => hne y (after_mem hy)) (by simp only [List.length_cons] at hl; omega)
      refine ⟨g1, ?_, ?_, hg.pre.trans g4, hg.preS.trans g5, fun B hB y hy => ?_⟩
      · rw [arcsF_cons, hg.prog]
        dsimp only
        rw [g2]
        show (_ :: _, _) = ((_ : ArcM) :: _, _)
        congr 2
        congr 1
        omega
      · have e : (rarcs (rstate n) (m + 1) k (x :: l)).1 = ⟨x.1.headD 0, low (under (x.1.headD 0) (x :: l)) - 0, ((rstate n k (under (x.1.headD 0) (x :: l))).2 : Nat)⟩ :: (rarcs (rstate n) m (rstate n k (under (x.1.headD 0) (x :: l))).1 (after (x.1.headD 0) (x :: l))).1 := by
          show (_ : ArcM) :: _ = _
          congr 2
          omega
        rw [e]
        refine .cons ?_ g3
        exact (hg.inv.fix _ _ hg.at_).more g5
      · rcases g6 B (fun z hz => hB z (after_mem hz)) y hy with h | h
        · exact hg.new B (upto_under hB) y h
        · exact .inr h
theorem upto_max {l : List Rw} (hne : l ≠ []) : ∃ x ∈ l, Upto x.1.length l := by
  induction l with
  | nil => exact absurd rfl hne
  | cons x l ih =>
    by_cases hl : l = []
    · subst hl; exact ⟨x, List.mem_cons_self, fun y hy => by simp at hy; subst hy; exact Nat.le_refl _⟩
    · obtain ⟨z, hz, h⟩ := ih hl
      by_cases hc : z.1.length ≤ x.1.length
      · refine ⟨x, List.mem_cons_self, fun y hy => ?_⟩
        rcases List.mem_cons.1 hy with rfl | hy
        · exact Nat.le_refl _
        · have := h y hy; omega
      · refine ⟨z, List.mem_cons_of_mem _ hz, fun y hy => ?_⟩
        rcases List.mem_cons.1 hy with rfl | hy
        · omega
        · exact h y hy
theorem state_go : ∀ (n : Nat) (k : KM) (l0 : List Rw), KInv k → RwOk n l0 → l0 ≠ [] → Goes k l0 n (rstate n k l0) := by
  intro n
  induction n with
  | zero =>
    intro k l0 _ hok hne
    cases l0 with
    | nil => exact absurd rfl hne
    | cons x l => exact absurd (hok.len x (List.mem_cons_self)) (by omega)
  | succ n ih =>
    intro k l0 hk hok hne
    have hok1 := hok.level hne
    have hne1 := level_ne hne
    have hlo1 := low_level hne
    have hlev := level_level hne
    rw [show Goes k l0 (n + 1) (rstate (n + 1) k l0) = Goes k l0 (n + 1) (match k.R.findIdx? (fun x => decide (x = levelW l0)) with
      | some i => (k, i)
      | none => (⟨(rarcs (rstate n) (body (levelW l0)).length k (body (levelW l0))).2.R ++ [levelW l0], (rarcs (rstate n) (body (levelW l0)).length k (body (levelW l0))).2.S ++ [⟨isFin (levelW l0), outOf (levelW l0), (rarcs (rstate n) (body (levelW l0)).length k (body (levelW l0))).1⟩]⟩, (rarcs (rstate n) (body (levelW l0)).length k (body (levelW l0))).2.S.length)) from rfl]
    cases hf : k.R.findIdx? (fun x => decide (x = levelW l0)) with
    | some i =>
      obtain ⟨h1, h2, _⟩ := List.findIdx?_eq_some_iff_getElem.1 hf
      have hat : k.R[i]? = some (levelW l0) := by
        rw [List.getElem?_eq_getElem h1]
        simp at h2
        rw [h2]
      refine ⟨hk, ?_, hat, List.prefix_refl _, List.prefix_refl _, fun B _ x hx => .inl hx⟩
      rw [← stateF_level (n + 1) k.S l0 hok hne]
      exact hk.fix i _ hat k.S (List.prefix_refl _) hk.nd (n + 1) hok1
    | none =>
      have hnotin : levelW l0 ∉ k.R := by
        intro h
        rw [List.findIdx?_eq_none_iff] at hf
        have := hf _ h
        simp at this
      obtain ⟨b1, b2⟩ := hok1.body
      obtain ⟨g1, g2, g3, g4, g5, g6⟩ := arcs_go n ih (body (levelW l0)).length k (body (levelW l0)) hk b1 b2 (Nat.le_refl _)
      obtain ⟨r, hr⟩ : ∃ r, rarcs (rstate n) (body (levelW l0)).length k (body (levelW l0)) = r := ⟨_, rfl⟩
      rw [hr] at g1 g2 g3 g4 g5 g6 ⊢
      obtain ⟨A, k1⟩ := r
      dsimp only at g1 g2 g3 g4 g5 g6 ⊢
      -- the state is a new one
      have hst : stOf n k.S (levelW l0) = ⟨isFin (levelW l0), outOf (levelW l0), A⟩ := by
        unfold stOf
        rw [hlo1, g2]
      have harc : (arcsF (stateF n) (low (levelW l0)) (body (levelW l0)).length k.S (body (levelW l0))).2 = k1.S := by rw [hlo1, g2]
      have hnew : (⟨isFin (levelW l0), outOf (levelW l0), A⟩ : StM) ∉ k1.S := by
        intro hm
        obtain ⟨j, hj⟩ := List.getElem?_of_mem hm
        have hjl := (List.getElem?_eq_some_iff.1 hj).1
        obtain ⟨l', hl'⟩ : ∃ l', k1.R[j]? = some l' := ⟨_, List.getElem?_eq_getElem (by rw [g1.len]; exact hjl)⟩
        obtain ⟨o1, o2, N', o3⟩ := g1.ok l' (List.mem_of_getElem? hl')
        have hfx := g1.fix j l' hl' k1.S (List.prefix_refl _) g1.nd N' o3
        have hs1 := stateF_say N' k1.S l' o3 o1 g1.inv g1.nd
        rw [hfx, o2] at hs1
        dsimp only at hs1
        have hat : stAt k1.S j = ⟨isFin (levelW l0), outOf (levelW l0), A⟩ := by unfold stAt; rw [hj]; rfl
        have hlook : ∀ r, look (levelW l0) r = look l' r := by
          intro r
          have hz : ∀ o : Option Int, o.map (· - 0) = o := fun o => by cases o <;> simp
          have h3 := hs1 r
          rw [hz] at h3
          rw [← h3]
          cases r with
          | nil =>
            unfold say
            rw [hat, look_fin hok1]
            unfold outOf
            rw [hlo1]
            split <;> simp
          | cons c r =>
            unfold say
            rw [hat, look_body hok1]
            have := arcsF_say n (stateF_say n) (body (levelW l0)).length k.S (body (levelW l0)) 0 (Nat.le_refl _) b1 b2 hk.inv hk.nd c r k1.S (by rw [g2]; exact List.prefix_refl _) g1.inv
            rw [g2, hz] at this
            exact this.symm
        have hll : levelW l0 = l' := look_ext hok1.sorted o3.sorted hlook
        have hin : levelW l0 ∈ k1.R := by rw [hll]; exact List.mem_of_getElem? hl'
        obtain ⟨x, hx, hmax⟩ := upto_max hne1
        by_cases hx0 : x.1.length = 0
        · have hb : body (levelW l0) = [] := by
            cases hbl : body (levelW l0) with
            | nil => rfl
            | cons y t =>
              have hy : y ∈ body (levelW l0) := by rw [hbl]; exact List.mem_cons_self
              have h4 := hmax y (body_mem hy)
              exact absurd (List.eq_nil_of_length_eq_zero (by omega)) (b2 y hy)
          rw [hb] at hr
          have : k1 = k := by cases hr; rfl
          rw [this] at hin
          exact hnotin hin
        · obtain ⟨B, hB⟩ : ∃ B, x.1.length = B + 1 := ⟨x.1.length - 1, by omega⟩
          rcases g6 B (fun y hy => by have := hmax y (body_mem hy); omega) _ hin with h | h
          · exact hnotin h
          · have := h x hx
            omega
      have hadd : addS k1.S ⟨isFin (levelW l0), outOf (levelW l0), A⟩ = (k1.S ++ [⟨isFin (levelW l0), outOf (levelW l0), A⟩], k1.S.length) := by
        rcases addS_spec k1.S ⟨isFin (levelW l0), outOf (levelW l0), A⟩ with ⟨j, h1, _⟩ | ⟨_, h2⟩
        · exact absurd (List.mem_of_getElem? h1) hnew
        · exact h2
      have hprog : stateF (n + 1) k.S l0 = (k1.S ++ [⟨isFin (levelW l0), outOf (levelW l0), A⟩], k1.S.length) := by
        rw [← stateF_level (n + 1) k.S l0 hok hne, stateF_succ, hst, harc, hadd]
      obtain ⟨j1, j2, j3, j4⟩ := stateF_inv (n + 1) k.S l0 hok hne hk.inv hk.nd
      rw [hprog] at j1 j2 j3 j4
      have hp1 : k1.S <+: k1.S ++ [⟨isFin (levelW l0), outOf (levelW l0), A⟩] := List.prefix_append _ _
      refine ⟨⟨by simp [g1.len], j1, j2, fun i l hi => ?_, fun l hl => ?_⟩, hprog, by rw [← g1.len]; simp, g4.trans (List.prefix_append _ _), j4, fun B hB x hx => ?_⟩
      · by_cases hil : i < k1.R.length
        · dsimp only at hi
          rw [List.getElem?_append_left hil] at hi
          exact (g1.fix i l hi).more hp1
        · have hil2 := (List.getElem?_eq_some_iff.1 hi).1
          simp only [List.length_append, List.length_cons, List.length_nil] at hil2
          obtain rfl : i = k1.R.length := by omega
          dsimp only at hi
          rw [List.getElem?_append_right (Nat.le_refl _)] at hi
          simp at hi
          subst hi
          intro S' hS' hN' n' hok'
          cases n' with
          | zero =>
            cases hq : levelW l0 with
            | nil => exact absurd hq hne1
            | cons x l => rw [hq] at hok'; exact absurd (hok'.len x (List.mem_cons_self)) (by omega)
          | succ n' =>
            obtain ⟨c1, c2⟩ := hok'.body
            have hrun := g3.run n' (body (levelW l0)).length S' (hp1.trans hS') hN' (Nat.le_refl _) c1 c2
            have hst' : stOf n' S' (levelW l0) = ⟨isFin (levelW l0), outOf (levelW l0), A⟩ := by
              unfold stOf
              rw [hlo1, hrun]
            rw [stateF_succ, hst', hlo1, hrun, g1.len]
            have hat : S'[k1.S.length]? = some ⟨isFin (levelW l0), outOf (levelW l0), A⟩ := by
              obtain ⟨t, rfl⟩ := hS'
              simp
            exact addS_some hat (fun m hm => by
              have hml := (List.getElem?_eq_some_iff.1 hm)
              have hkl := (List.getElem?_eq_some_iff.1 hat)
              obtain ⟨q1, q2⟩ := hml
              obtain ⟨q3, q4⟩ := hkl
              have hpw := List.pairwise_iff_getElem.1 (List.nodup_iff_pairwise_ne.1 hN')
              rcases Nat.lt_trichotomy m k1.S.length with h | h | h
              · exact absurd (q2.trans q4.symm) (hpw m _ q1 q3 h)
              · exact h
              · exact absurd (q4.trans q2.symm) (hpw _ m q3 q1 h))
      · dsimp only at hl
        rcases List.mem_append.1 hl with hl | hl
        · exact g1.ok l hl
        · simp only [List.mem_singleton] at hl
          subst hl
          exact ⟨hne1, hlo1, n + 1, hok1⟩
      · dsimp only at hx
        rcases List.mem_append.1 hx with hx | hx
        · by_cases hB0 : B = 0
          · -- there are no arcs
            have hb : body (levelW l0) = [] := by
              cases hbl : body (levelW l0) with
              | nil => rfl
              | cons y t =>
                have hy : y ∈ body (levelW l0) := by rw [hbl]; exact List.mem_cons_self
                have h4 := upto_level hB y (body_mem hy)
                exact absurd (List.eq_nil_of_length_eq_zero (by omega)) (b2 y hy)
            rw [hb] at hr
            have : k1 = k := by cases hr; rfl
            rw [this] at hx
            exact .inl hx
          · obtain ⟨B', rfl⟩ : ∃ B', B = B' + 1 := ⟨B - 1, by omega⟩
            rcases g6 B' (fun y hy => upto_level hB y (body_mem hy)) x hx with h | h
            · exact .inl h
            · exact .inr (fun y hy => by have := h y hy; omega)
        · simp only [List.mem_singleton] at hx
          subst hx
          exact .inr (upto_level hB)
/-- the document's machine is the program's -/
theorem make_same (l : List Wd) (h : buildE l = 0) (hl : l ≠ []) : (rstate 25 ⟨[], []⟩ (restsF l)).1.S = (makeF l).2 ∧ (rstate 25 ⟨[], []⟩ (restsF l)).1.R.length = (makeF l).2.length := by
  have hne : restsF l ≠ [] := by simpa [restsF] using hl
  have hg := state_go 25 ⟨[], []⟩ (restsF l) ⟨rfl, fun i s hs => by simp at hs, by simp, fun i l hi => by simp at hi, by simp⟩ (rests_ok h) hne
  have h1 := hg.prog
  dsimp only at h1
  unfold makeF
  rw [if_neg hl]
  dsimp only
  rw [h1]
  exact ⟨rfl, hg.inv.len⟩
end Go.Proofs.YtpbadnmfgffdlaaDoor.F
