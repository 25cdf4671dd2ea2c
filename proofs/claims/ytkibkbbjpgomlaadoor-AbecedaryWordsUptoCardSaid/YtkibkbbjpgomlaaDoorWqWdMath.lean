/-
  WdMath.
-/
import Derived.Test.YtkibkbbjpgomlaaDoorWqWdRep
namespace Go.Proofs.YtkibkbbjpgomlaaDoor.F
open Go.RowKit
open Aid L LM
set_option linter.unusedSimpArgs false
set_option linter.unusedVariables false

def topL : List Rw → Nat
  | [] => 0
  | x :: l => max x.1.length (topL l)
def topW : List Rw → Int
  | [] => 0
  | x :: l => max x.2 (topW l)
theorem topL_cons (x : Rw) (l : List Rw) : topL (x :: l) = max x.1.length (topL l) := rfl
theorem topW_cons (x : Rw) (l : List Rw) : topW (x :: l) = max x.2 (topW l) := rfl
theorem topL_append : ∀ a b : List Rw, topL (a ++ b) = max (topL a) (topL b)
  | [], b => by simp [topL]
  | x :: a, b => by rw [List.cons_append, topL, topL, topL_append a b]; omega
theorem topW_nonneg : ∀ a : List Rw, 0 ≤ topW a
  | [] => Int.le_refl _
  | x :: a => by have := topW_nonneg a; rw [topW]; omega
theorem topW_append : ∀ a b : List Rw, topW (a ++ b) = max (topW a) (topW b)
  | [], b => by have := topW_nonneg b; simp [topW]; omega
  | x :: a, b => by rw [List.cons_append, topW, topW, topW_append a b]; omega
theorem topL_le {B : Nat} : ∀ {l : List Rw}, UptoW B l → topL l ≤ B
  | [], _ => Nat.zero_le _
  | x :: l, h => by
    have h1 := h x List.mem_cons_self
    have h2 := topL_le (l := l) (fun y hy => h y (List.mem_cons_of_mem _ hy))
    rw [topL]; omega
theorem topW_le {B : Int} (h0 : 0 ≤ B) : ∀ {l : List Rw}, (∀ y ∈ l, y.2 ≤ B) → topW l ≤ B
  | [], _ => h0
  | x :: l, h => by
    have h1 := h x List.mem_cons_self
    have h2 := topW_le h0 (l := l) (fun y hy => h y (List.mem_cons_of_mem _ hy))
    rw [topW]; omega
theorem topW_mem : ∀ {l : List Rw}, topW l = 0 ∨ ∃ y ∈ l, topW l = y.2
  | [] => .inl rfl
  | x :: l => by
    rw [topW]
    rcases topW_mem (l := l) with h | ⟨y, hy, h⟩
    · by_cases hx : x.2 ≤ 0
      · left; omega
      · right; exact ⟨x, List.mem_cons_self, by omega⟩
    · by_cases hx : x.2 ≤ y.2
      · right; exact ⟨y, List.mem_cons_of_mem _ hy, by omega⟩
      · right; exact ⟨x, List.mem_cons_self, by omega⟩
theorem topL_ahd (a : ArcM) : ∀ {l : List Rw}, l ≠ [] → topL (l.map (ahd a)) = topL l + 1
  | [x], _ => by simp [topL, ahd]
  | x :: y :: l, _ => by
    have := topL_ahd a (l := y :: l) (by simp)
    rw [List.map_cons, topL_cons, this, topL_cons x]
    simp only [ahd, List.length_cons]
    omega
theorem topW_ahd (a : ArcM) (ha : 0 ≤ a.out) : ∀ {l : List Rw}, l ≠ [] → (∀ x ∈ l, 0 ≤ x.2) → topW (l.map (ahd a)) = a.out + topW l
  | [x], _, h => by have := h x List.mem_cons_self; simp [topW, ahd]; omega
  | x :: y :: l, _, h => by
    have h1 := topW_ahd a ha (l := y :: l) (by simp) (fun z hz => h z (List.mem_cons_of_mem _ hz))
    have h2 := topW_nonneg (y :: l)
    rw [List.map_cons, topW_cons, h1, topW_cons x]
    simp only [ahd]
    omega
/-- words, runes at most, weight at most -/
abbrev Sm := Nat × Nat × Int
def smW (l : List Rw) : Sm := (l.length, topL l, topW l)
def sumA (sm : Nat → Sm) : Sm → List ArcM → Sm
  | x, [] => x
  | x, a :: l => sumA sm (x.1 + (sm a.to_.toNat).1, max x.2.1 ((sm a.to_.toNat).2.1 + 1), max x.2.2 (a.out + (sm a.to_.toNat).2.2)) l
theorem sumA_snoc (sm : Nat → Sm) : ∀ (l : List ArcM) (x : Sm) (a : ArcM), sumA sm x (l ++ [a]) = sumA sm (sumA sm x l) [a]
  | [], _, _ => rfl
  | b :: l, x, a => sumA_snoc sm l _ a
theorem sumA_enum (S : List StM) : ∀ (A : List ArcM) (x : Sm), (∀ a ∈ A, 0 ≤ a.out ∧ wordsS S a.to_.toNat ≠ [] ∧ ∀ y ∈ wordsS S a.to_.toNat, 0 ≤ y.2) →
    sumA (fun k => smW (wordsS S k)) x A = (x.1 + (enumA (wordsS S) A).length, max x.2.1 (topL (enumA (wordsS S) A)), max x.2.2 (if A = [] then x.2.2 else topW (enumA (wordsS S) A)))
  | [], x, _ => by simp [sumA, enumA, topL]
  | a :: A, x, h => by
    obtain ⟨h1, h2, h3⟩ := h a List.mem_cons_self
    have ih := sumA_enum S A (x.1 + (wordsS S a.to_.toNat).length, max x.2.1 (topL (wordsS S a.to_.toNat) + 1), max x.2.2 (a.out + topW (wordsS S a.to_.toNat))) (fun b hb => h b (List.mem_cons_of_mem _ hb))
    show sumA _ (x.1 + (wordsS S a.to_.toNat).length, max x.2.1 (topL (wordsS S a.to_.toNat) + 1), max x.2.2 (a.out + topW (wordsS S a.to_.toNat))) A = _
    rw [ih]
    rw [enumA, topL_append, topW_append, List.length_append, topL_ahd a h2, topW_ahd a h1 h2 h3, List.length_map]
    by_cases hA : A = []
    · subst hA
      have := topW_nonneg (wordsS S a.to_.toNat)
      simp [enumA, topL, topW]
      omega
    · rw [if_neg hA, if_neg (by simp)]
      simp only [Prod.mk.injEq]
      refine ⟨by omega, by omega, by omega⟩
/-- the words so far grow -/
theorem sumA_le (sm : Nat → Sm) : ∀ (A : List ArcM) (x : Sm), x.1 ≤ (sumA sm x A).1 ∧ x.2.1 ≤ (sumA sm x A).2.1 ∧ x.2.2 ≤ (sumA sm x A).2.2
  | [], x => ⟨Nat.le_refl _, Nat.le_refl _, Int.le_refl _⟩
  | a :: A, x => by
    have := sumA_le sm A (x.1 + (sm a.to_.toNat).1, max x.2.1 ((sm a.to_.toNat).2.1 + 1), max x.2.2 (a.out + (sm a.to_.toNat).2.2))
    rw [sumA]
    dsimp only at this
    omega
/-- what Right asks -/
structure MachOk (B : Int) (S : List StM) : Prop where
  inv : Inv S
  nd : S.Nodup
  rise : ∀ s ∈ S, Rise s
  fin0 : ∀ s ∈ S, s.fin = false → s.out = 0
  rep : AllRep S
  post : visitF 25 S 0 (S.length - 1) = some S.length
  pos : 0 < S.length
  few : S.length ≤ 98305
  base : 1 ≤ B ∧ B ≤ 1048576
  top : B + topW (wordsS S (S.length - 1)) ≤ 1048576
  root : (stA S (S.length - 1)).fin = false
theorem lv_len (l : List Rw) : (lv l).length = l.length := by unfold lv; rw [List.length_map]
theorem lv_w {l : List Rw} {x : Rw} (h : x ∈ lv l) : 0 ≤ x.2 := by
  unfold lv at h
  obtain ⟨y, hy, rfl⟩ := List.mem_map.1 h
  have := low_le hy
  dsimp only; omega
theorem lv_zero {l : List Rw} (h : l ≠ []) : ∃ x ∈ lv l, x.2 = 0 := by
  obtain ⟨y, hy, e⟩ := low_mem h
  exact ⟨_, List.mem_map.2 ⟨y, hy, rfl⟩, by dsimp only; omega⟩
theorem lv_top {n : Nat} {l : List Rw} (hok : RwOk n l) {x : Rw} (h : x ∈ lv l) : x.2 ≤ 1048576 := by
  unfold lv at h
  obtain ⟨y, hy, rfl⟩ := List.mem_map.1 h
  have h1 := hok.wt y hy
  obtain ⟨z, hz, e⟩ := low_mem (l := l) (by intro e; subst e; cases hy)
  have h2 := hok.wt z hz
  dsimp only; omega
theorem enumA_mem {f : Nat → List Rw} {a : ArcM} {x : Rw} : ∀ {A : List ArcM}, a ∈ A → x ∈ f a.to_.toNat → ahd a x ∈ enumA f A
  | b :: A, ha, hx => by
    unfold enumA
    rcases List.mem_cons.1 ha with rfl | ha
    · exact List.mem_append_left _ (List.mem_map.2 ⟨x, hx, rfl⟩)
    · exact List.mem_append_right _ (enumA_mem ha hx)
theorem enumA_inv {f : Nat → List Rw} {x : Rw} : ∀ {A : List ArcM}, x ∈ enumA f A → ∃ a ∈ A, ∃ y ∈ f a.to_.toNat, x = ahd a y
  | [], h => by cases h
  | b :: A, h => by
    unfold enumA at h
    rcases List.mem_append.1 h with h | h
    · obtain ⟨y, hy, e⟩ := List.mem_map.1 h
      exact ⟨b, List.mem_cons_self, y, hy, e.symm⟩
    · obtain ⟨a, ha, y, hy, e⟩ := enumA_inv h
      exact ⟨a, List.mem_cons_of_mem _ ha, y, hy, e⟩
/-- what a state of such a machine is -/
structure StOk (S : List StM) (k : Nat) (s : StM) : Prop where
  words : 1 ≤ (wordsS S k).length ∧ (wordsS S k).length ≤ 4096
  deep : topL (wordsS S k) ≤ 24
  weight : topW (wordsS S k) ≤ 1048576
  out : 0 ≤ s.out ∧ s.out ≤ 1048576
  arcs : ∀ a ∈ s.arcs, (0 ≤ a.to_ ∧ a.to_.toNat < k) ∧ (0 ≤ a.out ∧ a.out ≤ 1048576) ∧ scalar a.label = true ∧ 32 < a.label ∧ a.label ≠ 127
  rise : Rise s
  fin0 : s.fin = false → s.out = 0
  zero : (s.fin = true ∧ s.out = 0) ∨ ∃ a ∈ s.arcs, a.out = 0
  sum : sumA (fun k => smW (wordsS S k)) (if s.fin then 1 else 0, 0, s.out) s.arcs = smW (wordsS S k)
theorem MachOk.st {B : Int} {S : List StM} (h : MachOk B S) {k : Nat} {s : StM} (hs : S[k]? = some s) : StOk S k s := by
  have hk := (List.getElem?_eq_some_iff.1 hs).1
  have hm := List.mem_of_getElem? hs
  obtain ⟨l, n, r1, r2, r3, r4, r5⟩ := h.rep k hk
  have hw := wordsS_eq h.inv k
  rw [stA_some hs] at hw
  have hsub : ∀ a ∈ s.arcs, (0 ≤ a.to_ ∧ a.to_.toNat < k) ∧ wordsS S a.to_.toNat ≠ [] ∧ (∀ y ∈ wordsS S a.to_.toNat, 0 ≤ y.2) ∧ ∃ y ∈ wordsS S a.to_.toNat, y.2 = 0 := fun a ha => by
    have h1 := h.inv k s hs a ha
    have h2 : a.to_.toNat < k := by omega
    obtain ⟨l', n', q1, q2, q3, q4, q5⟩ := h.rep a.to_.toNat (by omega)
    rw [q5]
    exact ⟨⟨h1.1, h2⟩, fun e => q3 (List.eq_nil_of_length_eq_zero (by rw [← lv_len, e]; rfl)), fun y hy => lv_w hy, lv_zero q3⟩
  have harc : ∀ a ∈ s.arcs, ∃ y, ahd a y ∈ lv l ∧ y.2 = 0 := fun a ha => by
    obtain ⟨_, _, _, y, hy, e⟩ := hsub a ha
    exact ⟨y, by rw [← r5, hw]; exact List.mem_append_right _ (enumA_mem ha hy), e⟩
  have hout : ∀ a ∈ s.arcs, 0 ≤ a.out ∧ a.out ≤ 1048576 := fun a ha => by
    obtain ⟨y, hy, e⟩ := harc a ha
    have h1 := lv_w hy
    have h2 := lv_top r1 hy
    simp only [ahd, e] at h1 h2
    omega
  have hlen : 1 ≤ l.length := List.length_pos_iff.2 r3
  have hso : 0 ≤ s.out ∧ s.out ≤ 1048576 := by
    cases hf : s.fin with
    | false => rw [h.fin0 s hm hf]; omega
    | true =>
      rw [hf] at hw
      have : (([], s.out) : Rw) ∈ lv l := by rw [← r5, hw]; simp
      exact ⟨lv_w this, lv_top r1 this⟩
  refine ⟨by rw [r5, lv_len]; exact ⟨hlen, r1.few⟩, ?_, ?_, hso, fun a ha => ⟨(hsub a ha).1, hout a ha, ?_⟩, h.rise s hm, h.fin0 s hm, ?_, ?_⟩
  · rw [r5]
    exact topL_le (lv_upto.2 fun y hy => by have := r1.len y hy; omega)
  · rw [r5]
    exact topW_le (by omega) fun y hy => lv_top r1 hy
  · obtain ⟨y, hy, e⟩ := harc a ha
    unfold lv at hy
    obtain ⟨z, hz, e2⟩ := List.mem_map.1 hy
    have := r4 z hz a.label (by
      have h3 : z.1 = a.label :: y.1 := by
        have := congrArg Prod.fst e2
        exact this
      rw [h3]; exact List.mem_cons_self)
    exact this
  · obtain ⟨x, hx, e⟩ := lv_zero r3
    rw [← r5, hw] at hx
    rcases List.mem_append.1 hx with hx | hx
    · left
      cases hf : s.fin with
      | false => rw [hf] at hx; simp at hx
      | true => rw [hf] at hx; simp at hx; subst hx; exact ⟨rfl, e⟩
    · right
      obtain ⟨a, ha, y, hy, rfl⟩ := enumA_inv hx
      have h1 := (hsub a ha).2.2.1 y hy
      have h2 := (hout a ha).1
      exact ⟨a, ha, by simp only [ahd] at e; omega⟩
  · rw [sumA_enum S s.arcs _ (fun a ha => ⟨(hout a ha).1, (hsub a ha).2.1, (hsub a ha).2.2.1⟩), hw]
    unfold smW
    rw [topL_append, topW_append, List.length_append]
    cases hf : s.fin with
    | true =>
      simp only [if_true, List.length_cons, List.length_nil, topL, topW]
      by_cases hA : s.arcs = []
      · simp [hA, enumA, topL, topW]; omega
      · rw [if_neg hA]
        simp only [Prod.mk.injEq]
        have := topW_nonneg (enumA (wordsS S) s.arcs)
        refine ⟨by first | trivial | omega, by simp, by omega⟩
    | false =>
      have h0 := h.fin0 s hm hf
      simp only [Bool.false_eq_true, if_false, List.length_nil, topL, topW, h0]
      by_cases hA : s.arcs = []
      · simp [hA, enumA, topL, topW]
      · rw [if_neg hA]
/-- a machine that was made is right -/
theorem make_mach (l : List Wd) (h : buildE l = 0) (hl : l ≠ []) : MachOk (makeF l).1 (makeF l).2 := by
  obtain ⟨r1, r2, r3, r4, r5⟩ := make_rep l h hl
  obtain ⟨m1, m2, m3⟩ := make_ok l h
  have hne : restsF l ≠ [] := by simpa [restsF] using hl
  have hok := rests_ok h
  obtain ⟨hpos, hnil⟩ : (∀ x ∈ restsF l, 1 ≤ x.2) ∧ ∀ x ∈ restsF l, x.1 ≠ [] := by
    unfold buildE at h
    split at h
    · omega
    obtain ⟨_, g2, _⟩ := errF_sorted l none h (by simp)
    constructor
    all_goals
      intro x hx
      obtain ⟨y, hy, rfl⟩ := List.mem_map.1 hx
      obtain ⟨k1, k2, _⟩ := g2 y hy
    · exact k2
    · obtain ⟨r, _, e, _, _, hr, _⟩ := runes_word k1
      show runesOf y.1 ≠ []
      rw [e]; exact hr
  refine ⟨m1, m2, m3, ?_, r1, r3, r4, ?_, ?_, ?_, ?_⟩
  · unfold makeF
    rw [if_neg hl]
    exact states_ind (fun s => s.fin = false → s.out = 0) (fun n S l _ _ hf => by
      show outOf l = 0
      unfold outOf
      rw [if_neg (by rw [show isFin l = false from hf]; simp)]) 25 [] (restsF l) hok hne (by simp)
  · have h1 := (stateF_len 25 [] (restsF l) hok).1
    have h2 := tot_rests 24 (restsF l) hok.len
    have h3 := hok.few
    unfold makeF
    rw [if_neg hl]
    dsimp only
    simp only [List.length_nil] at h1
    omega
  · rw [r5]
    obtain ⟨x, hx, e⟩ := low_mem hne
    have := hok.wt x hx
    have := hpos x hx
    omega
  · rw [r2, r5]
    rcases topW_mem (l := lv (restsF l)) with e | ⟨y, hy, e⟩
    · rw [e]
      obtain ⟨x, hx, e⟩ := low_mem hne
      have := hok.wt x hx
      omega
    · rw [e]
      unfold lv at hy
      obtain ⟨z, hz, rfl⟩ := List.mem_map.1 hy
      have := hok.wt z hz
      dsimp only
      omega
  · cases hf : (stA (makeF l).2 ((makeF l).2.length - 1)).fin with
    | false => rfl
    | true =>
      have hw := wordsS_eq m1 ((makeF l).2.length - 1)
      rw [hf, r2] at hw
      have : (([], (stA (makeF l).2 ((makeF l).2.length - 1)).out) : Rw) ∈ lv (restsF l) := by rw [hw]; simp
      unfold lv at this
      obtain ⟨z, hz, e⟩ := List.mem_map.1 this
      exact absurd (congrArg Prod.fst e) (hnil z hz)
end Go.Proofs.YtkibkbbjpgomlaaDoor.F
