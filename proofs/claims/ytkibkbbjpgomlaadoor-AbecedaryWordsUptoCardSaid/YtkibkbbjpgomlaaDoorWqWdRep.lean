/-
  WdRep.
-/
import Derived.Test.YtkibkbbjpgomlaaDoorWqFstLawN
namespace Go.Proofs.YtkibkbbjpgomlaaDoor.F
open Go.RowKit
open Aid L LM
set_option linter.unusedSimpArgs false
set_option linter.unusedVariables false

def stA (S : List StM) (k : Nat) : StM := (S[k]?).getD ⟨false, 0, []⟩
theorem stA_some {S : List StM} {k : Nat} {s : StM} (h : S[k]? = some s) : stA S k = s := by unfold stA; rw [h]; rfl
theorem stA_prefix {S S' : List StM} (h : S <+: S') {k : Nat} (hk : k < S.length) : stA S' k = stA S k := by
  obtain ⟨t, rfl⟩ := h
  unfold stA
  rw [List.getElem?_append_left hk]
/-- a rest ahead of which an arc lies -/
def ahd (a : ArcM) (x : Rw) : Rw := (a.label :: x.1, a.out + x.2)
/-- the words of a state, with what they add -/
def enumA (f : Nat → List Rw) : List ArcM → List Rw
  | [] => []
  | a :: l => (f a.to_.toNat).map (ahd a) ++ enumA f l
def enumS : Nat → List StM → Nat → List Rw
  | 0, _, _ => []
  | n + 1, S, k => (if (stA S k).fin then [([], (stA S k).out)] else []) ++ enumA (enumS n S) (stA S k).arcs
theorem enumA_congr {f g : Nat → List Rw} : ∀ {l : List ArcM}, (∀ a ∈ l, f a.to_.toNat = g a.to_.toNat) → enumA f l = enumA g l
  | [], _ => rfl
  | a :: l, h => by
    unfold enumA
    rw [h a List.mem_cons_self, enumA_congr (l := l) (fun b hb => h b (List.mem_cons_of_mem _ hb))]
theorem Inv.lt {S : List StM} (h : Inv S) {k : Nat} {a : ArcM} (ha : a ∈ (stA S k).arcs) : 0 ≤ a.to_ ∧ a.to_.toNat < k := by
  cases hs : S[k]? with
  | none => unfold stA at ha; rw [hs] at ha; simp at ha
  | some s =>
    rw [stA_some hs] at ha
    have := h k s hs a ha
    omega
theorem enumS_prefix {S S' : List StM} (h : S <+: S') (hI : Inv S) : ∀ (n k : Nat), k < S.length → enumS n S' k = enumS n S k
  | 0, _, _ => rfl
  | n + 1, k, hk => by
    unfold enumS
    rw [stA_prefix h hk]
    congr 1
    exact enumA_congr fun a ha => enumS_prefix h hI n _ (by have := hI.lt ha; omega)
theorem enumS_fuel {S : List StM} (hI : Inv S) : ∀ (n m k : Nat), k < n → k < m → enumS n S k = enumS m S k
  | 0, _, _, h, _ => by omega
  | _ + 1, 0, _, _, h => by omega
  | n + 1, m + 1, k, h1, h2 => by
    unfold enumS
    congr 1
    exact enumA_congr fun a ha => enumS_fuel hI n m _ (by have := hI.lt ha; omega) (by have := hI.lt ha; omega)
/-- the words of a state -/
def wordsS (S : List StM) (k : Nat) : List Rw := enumS (k + 1) S k
theorem wordsS_eq {S : List StM} (hI : Inv S) (k : Nat) : wordsS S k = (if (stA S k).fin then [([], (stA S k).out)] else []) ++ enumA (wordsS S) (stA S k).arcs := by
  unfold wordsS
  show (if (stA S k).fin then [([], (stA S k).out)] else []) ++ enumA (enumS k S) (stA S k).arcs = _
  congr 1
  exact enumA_congr fun a ha => enumS_fuel hI _ _ _ (hI.lt ha).2 (by omega)
theorem wordsS_prefix {S S' : List StM} (h : S <+: S') (hI : Inv S) {k : Nat} (hk : k < S.length) : wordsS S' k = wordsS S k := enumS_prefix h hI _ _ hk
/-- numbered as one goes through them: behind the states below nx, from state i on -/
def arcsV (v : Nat → Nat → Option Nat) : Nat → List ArcM → Option Nat
  | nx, [] => some nx
  | nx, a :: l => if a.to_.toNat < nx then arcsV v nx l else (v nx a.to_.toNat).bind fun m => arcsV v m l
def visitF : Nat → List StM → Nat → Nat → Option Nat
  | 0, _, _, _ => none
  | n + 1, S, nx, i => (arcsV (visitF n S) nx (stA S i).arcs).bind fun m => if m = i then some (i + 1) else none
theorem arcsV_congr {v u : Nat → Nat → Option Nat} : ∀ {l : List ArcM} {nx : Nat}, (∀ a ∈ l, ∀ m, v m a.to_.toNat = u m a.to_.toNat) → arcsV v nx l = arcsV u nx l
  | [], _, _ => rfl
  | a :: l, nx, h => by
    unfold arcsV
    rw [h a List.mem_cons_self nx]
    have e : ∀ m, arcsV v m l = arcsV u m l := fun m => arcsV_congr fun b hb => h b (List.mem_cons_of_mem _ hb)
    rw [e nx]
    simp only [e]
theorem visitF_prefix {S S' : List StM} (h : S <+: S') (hI : Inv S) : ∀ (n nx k : Nat), k < S.length → visitF n S' nx k = visitF n S nx k
  | 0, _, _, _ => rfl
  | n + 1, nx, k, hk => by
    unfold visitF
    rw [stA_prefix h hk]
    have e : arcsV (visitF n S') nx (stA S k).arcs = arcsV (visitF n S) nx (stA S k).arcs := arcsV_congr fun a ha m => visitF_prefix h hI n m _ (by have := hI.lt ha; omega)
    rw [e]
def lv (l : List Rw) : List Rw := l.map fun x => (x.1, x.2 - low l)
/-- runes that a word may have -/
def GoodW (l : List Rw) : Prop := ∀ x ∈ l, ∀ c ∈ x.1, scalar c = true ∧ 32 < c ∧ c ≠ 127
theorem GoodW.under {l : List Rw} (h : GoodW l) (c : Int) : GoodW (under c l) := fun x hx d hd => by
  rw [under_group] at hx
  obtain ⟨z, hz, rfl⟩ := List.mem_map.1 hx
  exact h z (group_mem hz) d (List.mem_of_mem_tail hd)
theorem GoodW.after {l : List Rw} (h : GoodW l) (c : Int) : GoodW (after c l) := fun x hx => h x (after_mem hx)
theorem GoodW.body {l : List Rw} (h : GoodW l) : GoodW (body l) := fun x hx => h x (body_mem hx)
def UptoW (B : Nat) (l : List Rw) : Prop := ∀ y ∈ l, y.1.length ≤ B
/-- each state has the words of some rests -/
def AllRep (S : List StM) : Prop := ∀ k, k < S.length → ∃ l n, RwOk n l ∧ n ≤ 25 ∧ l ≠ [] ∧ GoodW l ∧ wordsS S k = lv l
def NewUp (S T : List StM) (B : Nat) : Prop := ∀ k, S.length ≤ k → k < T.length → UptoW B (wordsS T k)
theorem lv_upto {B : Nat} {l : List Rw} : UptoW B (lv l) ↔ UptoW B l := by
  unfold lv UptoW
  constructor
  · intro h y hy
    exact h (y.1, y.2 - low l) (List.mem_map.2 ⟨y, hy, rfl⟩)
  · intro h y hy
    obtain ⟨z, hz, rfl⟩ := List.mem_map.1 hy
    exact h z hz
theorem under_upto {B : Nat} {c : Int} {l : List Rw} (h : UptoW (B + 1) l) : UptoW B (under c l) := fun y hy => by
  rw [under_group] at hy
  obtain ⟨z, hz, rfl⟩ := List.mem_map.1 hy
  have := h z (group_mem hz)
  simp
  omega
theorem upto_longest {l : List Rw} (hne : l ≠ []) : ∃ x ∈ l, UptoW x.1.length l := by
  induction l with
  | nil => exact absurd rfl hne
  | cons x l ih =>
    by_cases hl : l = []
    · subst hl
      exact ⟨x, List.mem_cons_self, fun y hy => by simp at hy; subst hy; exact Nat.le_refl _⟩
    · obtain ⟨z, hz, h⟩ := ih hl
      by_cases hc : z.1.length ≤ x.1.length
      · refine ⟨x, List.mem_cons_self, fun y hy => ?_⟩
        rcases List.mem_cons.1 hy with rfl | hy
        · exact Nat.le_refl _
        · exact Nat.le_trans (h y hy) hc
      · refine ⟨z, List.mem_cons_of_mem _ hz, fun y hy => ?_⟩
        rcases List.mem_cons.1 hy with rfl | hy
        · omega
        · exact h y hy
/-- the words below the arcs of some groups -/
theorem ahd_under (c lo : Int) (t : Int) (l : List Rw) (hne : under c l ≠ []) : (lv (under c l)).map (ahd ⟨c, low (under c l) - lo, t⟩) = (group c l).map fun x => (x.1, x.2 - lo) := by
  unfold lv
  rw [List.map_map]
  have e : ∀ m : List Rw, (∀ x ∈ m, x.1.head? = some c) → ∀ q : Int, ((m.map fun x => (x.1.tail, x.2)).map ((ahd ⟨c, q - lo, t⟩) ∘ fun x => (x.1, x.2 - q))) = m.map fun x => (x.1, x.2 - lo) := by
    intro m hm q
    rw [List.map_map]
    refine List.map_congr_left fun x hx => ?_
    have h1 := hm x hx
    obtain ⟨r, w⟩ := x
    cases r with
    | nil => simp at h1
    | cons d r =>
      simp at h1
      subst h1
      simp [ahd]
      omega
  have h2 := e (group c l) (fun x hx => group_head hx) (low (under c l))
  rw [← under_group] at h2
  exact h2
/-- what stateF leaves -/
structure Leaves (n : Nat) (S : List StM) (l : List Rw) (r : List StM × Nat) : Prop where
  all : AllRep r.1
  at_ : wordsS r.1 r.2 = lv l
  new : ∀ B, UptoW B l → NewUp S r.1 B
  post : (r.2 < S.length ∧ r.1 = S) ∨ (S.length ≤ r.2 ∧ r.2 + 1 = r.1.length ∧ visitF n r.1 S.length r.2 = some (r.2 + 1))
structure LeavesA (n : Nat) (S : List StM) (lo : Int) (l : List Rw) (r : List ArcM × List StM) : Prop where
  inv : Inv r.2
  nd : r.2.Nodup
  pre : S <+: r.2
  lt : ∀ a ∈ r.1, 0 ≤ a.to_ ∧ a.to_.toNat < r.2.length
  all : AllRep r.2
  enum : enumA (wordsS r.2) r.1 = l.map fun x => (x.1, x.2 - lo)
  new : ∀ B, UptoW (B + 1) l → NewUp S r.2 B
  post : arcsV (visitF n r.2) S.length r.1 = some r.2.length
  old : (∀ a ∈ r.1, a.to_.toNat < S.length) → r.2 = S
theorem arcs_leave (n : Nat) (ih : ∀ (S : List StM) (l : List Rw), RwOk n l → n ≤ 25 → GoodW l → l ≠ [] → Inv S → S.Nodup → AllRep S → Leaves n S l (stateF n S l)) :
    ∀ (m : Nat) (S : List StM) (l : List Rw) (lo : Int), l.length ≤ m → RwOk (n + 1) l → n + 1 ≤ 25 → GoodW l → (∀ y ∈ l, y.1 ≠ []) → Inv S → S.Nodup → AllRep S → LeavesA n S lo l (arcsF (stateF n) lo m S l) := by
  intro m
  induction m with
  | zero =>
    intro S l lo hl _ _ _ _ hI hN hA
    obtain rfl : l = [] := List.eq_nil_of_length_eq_zero (by omega)
    exact ⟨hI, hN, List.prefix_refl _, fun a ha => by simp [arcsF] at ha, hA, rfl, fun B _ k h1 h2 => by simp [arcsF] at h2; omega, rfl, fun _ => rfl⟩
  | succ m ihm =>
    intro S l lo hl hok hn hg hne hI hN hA
    cases l with
    | nil => exact ⟨hI, hN, List.prefix_refl _, fun a ha => by simp [arcsF] at ha, hA, rfl, fun B _ k h1 h2 => by simp [arcsF] at h2; omega, rfl, fun _ => rfl⟩
    | cons x l =>
      have hun := under_ne (l := l) (hne x List.mem_cons_self)
      have hu := hok.under (x.1.headD 0)
      obtain ⟨e1, e2, e3, e4⟩ := stateF_inv n S _ hu hun hI hN
      have hL := ih S _ hu (by omega) (hg.under _) hun hI hN hA
      have hal : (after (x.1.headD 0) (x :: l)).length ≤ m := by
        have h1 := congrArg List.length (group_after (x.1.headD 0) (x :: l))
        have h2 : (under (x.1.headD 0) (x :: l)).length = (group (x.1.headD 0) (x :: l)).length := by rw [under_group, List.length_map]
        have h3 := List.length_pos_iff.2 hun
        rw [List.length_append] at h1
        simp only [List.length_cons] at h1 hl
        omega
      have hR := ihm (stateF n S (under (x.1.headD 0) (x :: l))).1 (after (x.1.headD 0) (x :: l)) lo hal (hok.after _) hn (hg.after _) (fun y hy => hne y (after_mem hy)) e1 e2 hL.all
      rw [arcsF_cons]
      have hto : ∀ q : Nat, ((q : Nat) : Int).toNat = q := fun q => by omega
      refine ⟨hR.inv, hR.nd, e4.trans hR.pre, fun a ha => ?_, hR.all, ?_, fun B hB k h1 h2 => ?_, ?_, fun hold => ?_⟩
      · rcases List.mem_cons.1 ha with rfl | ha
        · have := hR.pre.length_le
          dsimp only
          omega
        · exact hR.lt a ha
      · show (wordsS _ ((_ : Nat) : Int).toNat).map _ ++ enumA _ _ = _
        rw [hR.enum, hto, wordsS_prefix hR.pre e1 e3, hL.at_, ahd_under _ _ _ _ hun, ← List.map_append, ← group_after]
      · dsimp only at h2 ⊢
        by_cases hk : k < (stateF n S (under (x.1.headD 0) (x :: l))).1.length
        · rw [wordsS_prefix hR.pre e1 hk]
          exact hL.new B (under_upto hB) k h1 hk
        · exact hR.new B (fun y hy => hB y (after_mem hy)) k (by omega) h2
      · have hv := hR.post
        unfold arcsV
        rw [hto]
        dsimp only
        rcases hL.post with ⟨p1, p2⟩ | ⟨p1, p2, p3⟩
        · rw [if_pos p1]
          rw [p2] at hv ⊢
          exact hv
        · rw [if_neg (by omega), visitF_prefix hR.pre e1 _ _ _ e3, p3]
          rw [← p2] at hv
          exact hv
      · have h1 := hold _ List.mem_cons_self
        rw [hto] at h1
        rcases hL.post with ⟨p1, p2⟩ | ⟨p1, _⟩
        · have := hR.old (fun a ha => by rw [p2]; exact hold a (List.mem_cons_of_mem _ ha))
          dsimp only
          rw [this, p2]
        · omega
theorem state_leaves : ∀ (n : Nat) (S : List StM) (l : List Rw), RwOk n l → n ≤ 25 → GoodW l → l ≠ [] → Inv S → S.Nodup → AllRep S → Leaves n S l (stateF n S l) := by
  intro n
  induction n with
  | zero =>
    intro S l hok _ _ hne
    cases l with
    | nil => exact absurd rfl hne
    | cons x l => exact absurd (hok.len x List.mem_cons_self) (by omega)
  | succ n ih =>
    intro S l hok hn hg hne hI hN hA
    obtain ⟨b1, b2⟩ := hok.body
    have hR := arcs_leave n ih (body l).length S (body l) (low l) (Nat.le_refl _) b1 hn hg.body b2 hI hN hA
    have hw : ∀ T : List StM, Inv T → (arcsF (stateF n) (low l) (body l).length S (body l)).2 <+: T → ∀ k, T[k]? = some (stOf n S l) → wordsS T k = lv l := by
      intro T hT hp k hk
      rw [wordsS_eq hT, stA_some hk]
      have h1 : enumA (wordsS T) (stOf n S l).arcs = enumA (wordsS (arcsF (stateF n) (low l) (body l).length S (body l)).2) (arcsF (stateF n) (low l) (body l).length S (body l)).1 :=
        enumA_congr fun a ha => wordsS_prefix hp hR.inv (hR.lt a ha).2
      rw [h1, hR.enum]
      show (if isFin l then [([], outOf l)] else []) ++ _ = _
      unfold outOf body lv
      cases l with
      | nil => exact absurd rfl hne
      | cons x l =>
        cases hf : isFin (x :: l) with
        | true =>
          have : x.1 = [] := by simpa [isFin] using hf
          simp [this]
        | false => simp
    have hpost : ∀ T : List StM, Inv T → (arcsF (stateF n) (low l) (body l).length S (body l)).2 <+: T → ∀ k, T[k]? = some (stOf n S l) → (arcsF (stateF n) (low l) (body l).length S (body l)).2.length = k → visitF (n + 1) T S.length k = some (k + 1) := by
      intro T hT hp k hk hlen
      unfold visitF
      rw [stA_some hk]
      have h1 : arcsV (visitF n T) S.length (stOf n S l).arcs = arcsV (visitF n (arcsF (stateF n) (low l) (body l).length S (body l)).2) S.length (arcsF (stateF n) (low l) (body l).length S (body l)).1 :=
        arcsV_congr fun a ha m => visitF_prefix hp hR.inv _ _ _ (hR.lt a ha).2
      rw [h1, hR.post, hlen]
      simp
    have hrep : ∀ k T, wordsS T k = lv l → ∃ l n, RwOk n l ∧ n ≤ 25 ∧ l ≠ [] ∧ GoodW l ∧ wordsS T k = lv l := fun k T e => ⟨l, n + 1, hok, hn, hne, hg, e⟩
    rw [stateF_succ]
    rcases addS_spec (arcsF (stateF n) (low l) (body l).length S (body l)).2 (stOf n S l) with ⟨j, h1, h2⟩ | ⟨h1, h2⟩
    · rw [h2]
      have hj := (List.getElem?_eq_some_iff.1 h1).1
      have hwj := hw _ hR.inv (List.prefix_refl _) j h1
      -- it was there ahead of all
      have hjS : j < S.length := by
        apply Decidable.byContradiction
        intro hc
        obtain ⟨x, hx, hup⟩ := upto_longest hne
        cases hxl : x.1.length with
        | zero =>
          have hb : body l = [] := by
            cases hbl : body l with
            | nil => rfl
            | cons y t =>
              have hy : y ∈ body l := by rw [hbl]; exact List.mem_cons_self
              have h3 := b2 y hy
              have h4 := hup y (body_mem hy)
              exact absurd (List.eq_nil_of_length_eq_zero (by omega)) h3
          have h5 : (arcsF (stateF n) (low l) (body l).length S (body l)).2 = S := by rw [hb]; rfl
          rw [h5] at hj
          exact hc hj
        | succ B =>
          rw [hxl] at hup
          have h3 := hR.new B (fun y hy => hup y (body_mem hy)) j (by omega) hj
          rw [hwj, lv_upto] at h3
          have := h3 x hx
          omega
      have hSS : (arcsF (stateF n) (low l) (body l).length S (body l)).2 = S := hR.old fun a ha => by
        have h3 := hR.inv j _ h1 a ha
        omega
      refine ⟨hR.all, hwj, fun B hB k k1 k2 => ?_, .inl ⟨hjS, hSS⟩⟩
      rw [hSS] at k2
      dsimp only at k1 k2
      omega
    · rw [h2]
      have hp := List.prefix_append (arcsF (stateF n) (low l) (body l).length S (body l)).2 [stOf n S l]
      have hI2 : Inv ((arcsF (stateF n) (low l) (body l).length S (body l)).2 ++ [stOf n S l]) := by
        have := (stateF_inv (n + 1) S l hok hne hI hN).1
        rw [stateF_succ, h2] at this
        exact this
      have hk : ((arcsF (stateF n) (low l) (body l).length S (body l)).2 ++ [stOf n S l])[(arcsF (stateF n) (low l) (body l).length S (body l)).2.length]? = some (stOf n S l) := by simp
      have hwk := hw _ hI2 hp _ hk
      have hSl := hR.pre.length_le
      refine ⟨fun k hk2 => ?_, hwk, fun B hB k k1 k2 => ?_, .inr ⟨hSl, by simp, hpost _ hI2 hp _ hk rfl⟩⟩
      · by_cases hk3 : k < (arcsF (stateF n) (low l) (body l).length S (body l)).2.length
        · obtain ⟨l', n', q1, q2, q3, q4, q5⟩ := hR.all k hk3
          exact ⟨l', n', q1, q2, q3, q4, by rw [← q5]; exact wordsS_prefix hp hR.inv hk3⟩
        · simp at hk2
          obtain rfl : k = (arcsF (stateF n) (low l) (body l).length S (body l)).2.length := by omega
          exact hrep _ _ hwk
      · dsimp only at k2 ⊢
        by_cases hk3 : k < (arcsF (stateF n) (low l) (body l).length S (body l)).2.length
        · rw [wordsS_prefix hp hR.inv hk3]
          exact hR.new B (fun y hy => Nat.le_succ_of_le (hB y (body_mem hy))) k k1 hk3
        · simp at k2
          obtain rfl : k = (arcsF (stateF n) (low l) (body l).length S (body l)).2.length := by omega
          rw [hwk, lv_upto]
          exact hB
/-- the machine of a dictionary -/
theorem make_rep (l : List Wd) (h : buildE l = 0) (hl : l ≠ []) : AllRep (makeF l).2 ∧ wordsS (makeF l).2 ((makeF l).2.length - 1) = lv (restsF l) ∧ visitF 25 (makeF l).2 0 ((makeF l).2.length - 1) = some (makeF l).2.length ∧ 0 < (makeF l).2.length ∧ (makeF l).1 = low (restsF l) := by
  have hne : restsF l ≠ [] := by simpa [restsF] using hl
  have hg : GoodW (restsF l) := fun x hx c hc => by
    obtain ⟨y, hy, rfl⟩ := List.mem_map.1 hx
    unfold buildE at h
    split at h
    · omega
    obtain ⟨_, g2, _⟩ := errF_sorted l none h (by simp)
    obtain ⟨k1, _, _⟩ := g2 y hy
    obtain ⟨r, e0, e, hs, _⟩ := runes_word k1
    have hc' : c ∈ r := by rw [← e]; exact hc
    refine ⟨hs c hc', ?_⟩
    unfold wordB at k1
    rw [e0] at k1
    simp only [Bool.and_eq_true, List.all_eq_true] at k1
    have := k1.2.1 c hc'
    unfold L.good at this
    simpa using this
  have hL := state_leaves 25 [] (restsF l) (rests_ok h) (Nat.le_refl _) hg hne (fun i s hs => by simp at hs) (by simp) (fun k hk => by simp at hk)
  unfold makeF
  rw [if_neg hl]
  dsimp only
  rcases hL.post with ⟨p1, _⟩ | ⟨_, p2, p3⟩
  · simp at p1
  · rw [← p2]
    exact ⟨hL.all, hL.at_, p3, by omega, rfl⟩
end Go.Proofs.YtkibkbbjpgomlaaDoor.F
