/-
  FstMath.
-/
import Derived.Test.YtkibkbbjpgomlaaDoorWqFstAdd
namespace Go.Proofs.YtkibkbbjpgomlaaDoor.F
open Go.RowKit
open Aid
set_option linter.unusedSimpArgs false
set_option linter.unusedVariables false

/-- the number of the link with which a state begins, where it is known -/
def chainQ (nu : Nums) (s : StM) : Option Nat := s.arcs.reverse.foldl (fun k a => k.bind fun k => nu.lk ⟨false, 0, a.label, a.out, a.to_, (k : Int) + 1⟩) (nu.lk (kNil s))
def foldQ (nu : Nums) (k : Option Nat) (l : List ArcM) : Option Nat := l.foldl (fun k a => k.bind fun k => nu.lk ⟨false, 0, a.label, a.out, a.to_, (k : Int) + 1⟩) k
theorem foldQ_snoc (nu : Nums) (k : Option Nat) (l : List ArcM) (a : ArcM) : foldQ nu k (l ++ [a]) = (foldQ nu k l).bind fun k => nu.lk ⟨false, 0, a.label, a.out, a.to_, (k : Int) + 1⟩ := by unfold foldQ; rw [List.foldl_append]; rfl
def Nums.le (nu nu' : Nums) : Prop := ∀ k n, nu.lk k = some n → nu'.lk k = some n
theorem foldQ_le {nu nu' : Nums} (h : nu.le nu') : ∀ (l : List ArcM) {k : Option Nat} {n : Nat}, (∀ m, k = some m → True) → foldQ nu k l = some n → foldQ nu' k l = some n
  | [], _, _, _, e => e
  | a :: l, none, n, _, e => by
    have : ∀ l : List ArcM, foldQ nu none l = none := fun l => by induction l with | nil => rfl | cons a l ih => exact ih
    rw [this] at e; cases e
  | a :: l, some k, n, _, e => by
    have e' : foldQ nu (nu.lk ⟨false, 0, a.label, a.out, a.to_, (k : Int) + 1⟩) l = some n := e
    show foldQ nu' (nu'.lk ⟨false, 0, a.label, a.out, a.to_, (k : Int) + 1⟩) l = some n
    cases hk : nu.lk ⟨false, 0, a.label, a.out, a.to_, (k : Int) + 1⟩ with
    | none =>
      have : ∀ l : List ArcM, foldQ nu none l = none := fun l => by induction l with | nil => rfl | cons a l ih => exact ih
      rw [hk, this] at e'; cases e'
    | some m => rw [h _ _ hk]; rw [hk] at e'; exact foldQ_le h l (fun _ _ => trivial) e'
theorem foldQ_none (nu : Nums) : ∀ l : List ArcM, foldQ nu none l = none := fun l => by induction l with | nil => rfl | cons a l ih => exact ih
theorem chainQ_eq (nu : Nums) (s : StM) : chainQ nu s = foldQ nu (nu.lk (kNil s)) s.arcs.reverse := rfl
theorem chainQ_le {nu nu' : Nums} (h : nu.le nu') {s : StM} {n : Nat} (e : chainQ nu s = some n) : chainQ nu' s = some n := by
  rw [chainQ_eq] at e ⊢
  cases hk : nu.lk (kNil s) with
  | none => rw [hk, foldQ_none] at e; cases e
  | some m => rw [h _ _ hk]; rw [hk] at e; exact foldQ_le h _ (fun _ _ => trivial) e
theorem known_le {nu : Nums} (h : NumsOk nu) (k : Link) : nu.le (knownB nu k) := (known_ok h k).2.2.2.2.2
theorem Nums.le.trans {a b c : Nums} (h : a.le b) (k : b.le c) : a.le c := fun x n e => k x n (h x n e)
theorem kFold_more : ∀ (l : List ArcM) (nu : Nums × Nat), NumsOk nu.1 → nu.1.le (kFold nu l).1 ∧ foldQ (kFold nu l).1 (some nu.2) l = some (kFold nu l).2
  | [], nu, h => ⟨fun _ _ h => h, rfl⟩
  | a :: l, nu, h => by
    obtain ⟨g1, g2, g3, g4, g5, g6⟩ := known_ok h ⟨false, 0, a.label, a.out, a.to_, (nu.2 : Int) + 1⟩
    obtain ⟨e1, e2⟩ := kFold_more l (kStep nu a) g1
    refine ⟨fun k n hk => e1 k n (g6 k n hk), ?_⟩
    show foldQ (kFold (kStep nu a) l).1 ((kFold (kStep nu a) l).1.lk ⟨false, 0, a.label, a.out, a.to_, (nu.2 : Int) + 1⟩) l = _
    rw [e1 _ _ g4]
    exact e2
theorem chainN_ok {nu : Nums} (h : NumsOk nu) (s : StM) : NumsOk (chainN nu s).1 ∧ (chainN nu s).1.cnt ≤ nu.cnt + 1 + s.arcs.length ∧ nu.le (chainN nu s).1 ∧ chainQ (chainN nu s).1 s = some (chainN nu s).2 := by
  obtain ⟨g1, g2, g3, g4, g5, g6⟩ := known_ok h (kNil s)
  obtain ⟨e1, e2, e3⟩ := kFold_ok s.arcs.reverse (knownB nu (kNil s), knownN nu (kNil s)) g1 g2
  obtain ⟨f1, f2⟩ := kFold_more s.arcs.reverse (knownB nu (kNil s), knownN nu (kNil s)) g1
  refine ⟨e1, ?_, fun k n hk => f1 k n (g6 k n hk), ?_⟩
  · have : (chainN nu s).1.cnt ≤ (knownB nu (kNil s)).cnt + s.arcs.reverse.length := e3
    rw [List.length_reverse] at this; omega
  · rw [chainQ_eq]
    have : (chainN nu s).1.lk (kNil s) = some (knownN nu (kNil s)) := f1 _ _ g4
    rw [this]; exact f2
theorem chain_last {nu : Nums} {s : StM} {n : Nat} {l : List ArcM} (h : foldQ nu (nu.lk (kNil s)) l = some n) (hl : l ≠ []) : ∃ r a k, l = r ++ [a] ∧ foldQ nu (nu.lk (kNil s)) r = some k ∧ nu.lk ⟨false, 0, a.label, a.out, a.to_, (k : Int) + 1⟩ = some n := by
  obtain ⟨r, a, rfl⟩ : ∃ r a, l = r ++ [a] := ⟨l.dropLast, l.getLast hl, (List.dropLast_concat_getLast hl).symm⟩
  rw [foldQ_snoc] at h
  cases hk : foldQ nu (nu.lk (kNil s)) r with
  | none => rw [hk] at h; cases h
  | some k => rw [hk] at h; exact ⟨r, a, k, rfl, hk, h⟩
theorem chain_inj {nu : Nums} (h : NumsOk nu) (s s' : StM) : ∀ (m : Nat) (l l' : List ArcM) (n : Nat), l.length ≤ m → foldQ nu (nu.lk (kNil s)) l = some n → foldQ nu (nu.lk (kNil s')) l' = some n → l = l' ∧ kNil s = kNil s' := by
  intro m
  induction m with
  | zero =>
    intro l l' n hl h1 h2
    obtain rfl : l = [] := List.eq_nil_of_length_eq_zero (by omega)
    by_cases he : l' = []
    · subst he; exact ⟨rfl, h.inj _ _ _ h1 h2⟩
    · obtain ⟨r, a, k, rfl, _, h3⟩ := chain_last h2 he
      have := h.inj _ _ _ h1 h3
      simp [kNil] at this
      omega
  | succ m ih =>
    intro l l' n hl h1 h2
    by_cases he : l = []
    · subst he
      by_cases he : l' = []
      · subst he; exact ⟨rfl, h.inj _ _ _ h1 h2⟩
      · obtain ⟨r, a, k, rfl, _, h3⟩ := chain_last h2 he
        have := h.inj _ _ _ h1 h3
        simp [kNil] at this
        omega
    · obtain ⟨r, a, k, rfl, h4, h3⟩ := chain_last h1 he
      by_cases he' : l' = []
      · subst he'
        have := h.inj _ _ _ h3 h2
        simp [kNil] at this
        omega
      · obtain ⟨r', a', k', rfl, h4', h3'⟩ := chain_last h2 he'
        have e := h.inj _ _ _ h3 h3'
        obtain ⟨la, ou, tt⟩ := a
        obtain ⟨la', ou', tt'⟩ := a'
        simp only [Link.mk.injEq, true_and] at e
        obtain ⟨rfl, rfl, rfl, e⟩ := e
        obtain rfl : k = k' := by omega
        simp only [List.length_append, List.length_cons, List.length_nil] at hl
        obtain ⟨e1, e2⟩ := ih r r' k (by omega) h4 h4'
        exact ⟨by rw [e1], e2⟩
theorem chainQ_inj {nu : Nums} (h : NumsOk nu) {s s' : StM} {n : Nat} (h1 : chainQ nu s = some n) (h2 : chainQ nu s' = some n) : s = s' := by
  rw [chainQ_eq] at h1 h2
  obtain ⟨e1, e2⟩ := chain_inj h s s' _ _ _ n (Nat.le_refl _) h1 h2
  obtain ⟨f, o, a⟩ := s
  obtain ⟨f', o', a'⟩ := s'
  simp [kNil] at e1 e2
  obtain ⟨rfl, rfl⟩ := e2
  rw [e1]

/-- a state's number, and the states then -/
def addS (S : List StM) (s : StM) : List StM × Nat := match S.findIdx? (fun x => decide (x = s)) with | some n => (S, n) | none => (S ++ [s], S.length)
/-- the map of states is that of the states -/
structure PInv (nu : Nums) (by_ : Int → Option Value) (S : List StM) : Prop where
  has : ∀ n s, S[n]? = some s → ∃ k, chainQ nu s = some k ∧ by_ (k : Nat) = some (.int .i64 (n : Nat))
  is : ∀ (k : Nat) v, by_ (k : Nat) = some v → ∃ n s, v = .int .i64 ((n : Nat) : Int) ∧ S[n]? = some s ∧ chainQ nu s = some k
theorem PInv.once {nu : Nums} {by_ : Int → Option Value} {S : List StM} (h : PInv nu by_ S) {n m : Nat} {s : StM} (h1 : S[n]? = some s) (h2 : S[m]? = some s) : n = m := by
  obtain ⟨k, e1, e2⟩ := h.has n s h1
  obtain ⟨k', e3, e4⟩ := h.has m s h2
  rw [e1] at e3; cases e3
  rw [e2] at e4
  simp at e4
  omega
theorem addS_some {S : List StM} {s : StM} {n : Nat} (h : S[n]? = some s) (hu : ∀ m, S[m]? = some s → m = n) : addS S s = (S, n) := by
  unfold addS
  have : S.findIdx? (fun x => decide (x = s)) = some n := by
    rw [List.findIdx?_eq_some_iff_getElem]
    have hn := (List.getElem?_eq_some_iff.1 h).1
    refine ⟨hn, by simpa using (List.getElem?_eq_some_iff.1 h).2, fun j hj => ?_⟩
    have hj' : j < S.length := by omega
    simp only [decide_eq_true_eq]
    intro e
    have := hu j (by rw [List.getElem?_eq_getElem hj', e])
    omega
  rw [this]
theorem addS_none {S : List StM} {s : StM} (h : ∀ n : Nat, S[n]? ≠ some s) : addS S s = (S ++ [s], S.length) := by
  unfold addS
  have : S.findIdx? (fun x => decide (x = s)) = none := by
    rw [List.findIdx?_eq_none_iff]
    intro x hx
    simp only [decide_eq_false_iff_not]
    intro e
    subst e
    obtain ⟨n, hn⟩ := List.getElem?_of_mem hx
    exact h n hn
  rw [this]
theorem PInv.add {nu : Nums} {by_ : Int → Option Value} {q : List (StM × Value)} (hn : NumsOk nu) (h : PInv nu by_ (q.map (·.1))) (s : StM) (u : Value) :
    (addM q by_ (chainN nu s).2 s u).1 = .int .i64 ((addS (q.map (·.1)) s).2 : Nat) ∧ (addM q by_ (chainN nu s).2 s u).2.1.map (·.1) = (addS (q.map (·.1)) s).1 ∧
    PInv (chainN nu s).1 (addM q by_ (chainN nu s).2 s u).2.2 (addS (q.map (·.1)) s).1 ∧ (if (by_ ((chainN nu s).2 : Nat)).isSome then q.length else q.length + 1) = (addS (q.map (·.1)) s).1.length := by
  obtain ⟨h1, _, h2, h3⟩ := chainN_ok hn s
  cases hk : by_ ((chainN nu s).2 : Nat) with
  | some v =>
    obtain ⟨n, s', rfl, e1, e2⟩ := h.is _ _ hk
    obtain rfl := chainQ_inj h1 (chainQ_le h2 e2) h3
    rw [addS_some e1 (fun m hm => h.once hm e1)]
    unfold addM
    rw [hk]
    refine ⟨rfl, rfl, ⟨fun n s hs => ?_, fun k v hv => ?_⟩, by simp⟩
    · obtain ⟨k, g1, g2⟩ := h.has n s hs
      exact ⟨k, chainQ_le h2 g1, g2⟩
    · obtain ⟨n, s, g1, g2, g3⟩ := h.is k v hv
      exact ⟨n, s, g1, g2, chainQ_le h2 g3⟩
  | none =>
    rw [addS_none (fun n e => by
      obtain ⟨k, g1, g2⟩ := h.has n s e
      have := chainQ_le h2 g1
      rw [h3] at this; cases this
      rw [hk] at g2; cases g2)]
    unfold addM
    rw [hk]
    refine ⟨by simp, by simp, ⟨fun n s' hs => ?_, fun k v hv => ?_⟩, by simp⟩
    · by_cases hl : n < (q.map (·.1)).length
      · rw [List.getElem?_append_left hl] at hs
        obtain ⟨k, g1, g2⟩ := h.has n s' hs
        refine ⟨k, chainQ_le h2 g1, ?_⟩
        show upd by_ _ _ _ = _
        unfold upd
        rw [if_neg (fun e => by rw [show (k : Int) = ((chainN nu s).2 : Int) from e, hk] at g2; cases g2)]
        exact g2
      · have hn' := (List.getElem?_eq_some_iff.1 hs).1
        simp only [List.length_append, List.length_cons, List.length_nil, List.length_map] at hn' hl
        obtain rfl : n = q.length := by omega
        rw [List.getElem?_append_right (by simp)] at hs
        simp at hs
        subst hs
        refine ⟨_, h3, ?_⟩
        show upd by_ _ _ _ = _
        unfold upd
        rw [if_pos rfl]
    · have hv' : upd by_ ((chainN nu s).2 : Nat) (some (.int .i64 (q.length : Nat))) (k : Nat) = some v := hv
      unfold upd at hv'
      by_cases e : (k : Int) = ((chainN nu s).2 : Nat)
      · rw [if_pos e] at hv'
        obtain rfl : k = (chainN nu s).2 := by omega
        exact ⟨q.length, s, (Option.some.inj hv').symm, by rw [List.getElem?_append_right (by simp)]; simp, h3⟩
      · rw [if_neg e] at hv'
        obtain ⟨n, s', g1, g2, g3⟩ := h.is k v hv'
        exact ⟨n, s', g1, by rw [List.getElem?_append_left (List.getElem?_eq_some_iff.1 g2).1]; exact g2, chainQ_le h2 g3⟩
theorem addS_len (S : List StM) (s : StM) : S.length ≤ (addS S s).1.length ∧ (addS S s).1.length ≤ S.length + 1 := by
  unfold addS
  split <;> simp

/-- a rest: its runes and its weight -/
abbrev Rw := List Int × Int
def lexR : List Int → List Int → Bool
  | [], [] => false
  | [], _ :: _ => true
  | _ :: _, [] => false
  | a :: l, b :: m => if a = b then lexR l m else decide (a < b)
def under (c : Int) : List Rw → List Rw
  | [] => []
  | x :: l => if x.1.head? = some c then (x.1.tail, x.2) :: under c l else []
def after (c : Int) : List Rw → List Rw
  | [] => []
  | x :: l => if x.1.head? = some c then after c l else x :: l
def low (l : List Rw) : Int := leastF (l.map (·.2))
def arcsF (st : List StM → List Rw → List StM × Nat) (lo : Int) : Nat → List StM → List Rw → List ArcM × List StM
  | 0, S, _ => ([], S)
  | _ + 1, S, [] => ([], S)
  | m + 1, S, x :: l =>
    let c := x.1.headD 0
    let r := st S (under c (x :: l))
    let t := arcsF st lo m r.1 (after c (x :: l))
    (⟨c, low (under c (x :: l)) - lo, (r.2 : Nat)⟩ :: t.1, t.2)
def isFin (l : List Rw) : Bool := match l with | [] => false | x :: _ => x.1.isEmpty
def body (l : List Rw) : List Rw := if isFin l then l.tail else l
def outOf (l : List Rw) : Int := if isFin l then (l.headD ([], 0)).2 - low l else 0
def stateF : Nat → List StM → List Rw → List StM × Nat
  | 0, S, _ => (S, 0)
  | n + 1, S, l =>
    let r := arcsF (stateF n) (low l) (body l).length S (body l)
    addS r.2 ⟨isFin l, outOf l, r.1⟩
/-- all runes of some rests -/
def tot : List Rw → Nat
  | [] => 0
  | x :: l => x.1.length + tot l
/-- what rests may be -/
structure RwOk (n : Nat) (l : List Rw) : Prop where
  sorted : l.Pairwise (fun a b => lexR a.1 b.1 = true)
  len : ∀ x ∈ l, x.1.length < n
  runes : ∀ x ∈ l, ∀ c ∈ x.1, 0 ≤ c ∧ c ≤ 1114111
  wt : ∀ x ∈ l, 0 ≤ x.2 ∧ x.2 ≤ 1048576
  few : l.length ≤ 4096
theorem lexR_nil_right (l : List Int) : lexR l [] = false := by cases l <;> rfl
theorem RwOk.tail_ne {n : Nat} {x : Rw} {l : List Rw} (h : RwOk n (x :: l)) : ∀ y ∈ l, y.1 ≠ [] := fun y hy e => by
  have := (List.pairwise_cons.1 h.sorted).1 y hy
  rw [e, lexR_nil_right] at this; cases this
theorem RwOk.cons {n : Nat} {x : Rw} {l : List Rw} (h : RwOk n (x :: l)) : RwOk n l :=
  ⟨(List.pairwise_cons.1 h.sorted).2, fun y hy => h.len y (.tail _ hy), fun y hy => h.runes y (.tail _ hy), fun y hy => h.wt y (.tail _ hy), by have := h.few; simp at this; omega⟩
theorem RwOk.body {n : Nat} {l : List Rw} (h : RwOk n l) : RwOk n (body l) ∧ ∀ y ∈ F.body l, y.1 ≠ [] := by
  unfold F.body
  cases l with
  | nil => simp [isFin]; exact h
  | cons x l =>
    by_cases hx : isFin (x :: l) = true
    · rw [if_pos hx]; exact ⟨h.cons, h.tail_ne⟩
    · rw [if_neg hx]
      refine ⟨h, fun y hy => ?_⟩
      rcases List.mem_cons.1 hy with rfl | hy
      · intro e; apply hx; simp [isFin, e]
      · exact h.tail_ne y hy
/-- the rests are split -/
def group (c : Int) : List Rw → List Rw
  | [] => []
  | x :: l => if x.1.head? = some c then x :: group c l else []
theorem group_after (c : Int) : ∀ l : List Rw, l = group c l ++ after c l
  | [] => rfl
  | x :: l => by
    unfold group after
    split
    · rw [List.cons_append, ← group_after c l]
    · rfl
theorem under_group (c : Int) : ∀ l : List Rw, under c l = (group c l).map fun x => (x.1.tail, x.2)
  | [] => rfl
  | x :: l => by
    unfold group under
    split
    · rw [List.map_cons, under_group c l]
    · rfl
theorem group_head {c : Int} {x : Rw} : ∀ {l : List Rw}, x ∈ group c l → x.1.head? = some c
  | [], h => by cases h
  | y :: l, h => by
    unfold group at h
    split at h
    · rcases List.mem_cons.1 h with rfl | h
      · assumption
      · exact group_head h
    · cases h
theorem group_mem {c : Int} {x : Rw} {l : List Rw} (h : x ∈ group c l) : x ∈ l := by rw [group_after c l]; exact List.mem_append_left _ h
theorem after_mem {c : Int} {x : Rw} {l : List Rw} (h : x ∈ after c l) : x ∈ l := by rw [group_after c l]; exact List.mem_append_right _ h
theorem lexR_tail {a b : List Int} {c : Int} (ha : a.head? = some c) (hb : b.head? = some c) (h : lexR a b = true) : lexR a.tail b.tail = true := by
  match a, b, ha, hb with
  | x :: a, y :: b, ha, hb =>
    simp at ha hb
    subst ha; subst hb
    simpa [lexR] using h
theorem RwOk.under {n : Nat} {l : List Rw} (h : RwOk (n + 1) l) (c : Int) : RwOk n (under c l) := by
  rw [under_group]
  have hs := h.sorted
  rw [group_after c l] at hs
  have hg := (List.pairwise_append.1 hs).1
  have hl : (group c l).length ≤ l.length := by
    have := congrArg List.length (group_after c l); simp at this; omega
  refine ⟨?_, fun x hx => ?_, fun x hx d hd => ?_, fun x hx => ?_, by have := h.few; simp; omega⟩
  · rw [List.pairwise_map]
    exact List.Pairwise.imp_of_mem (fun {a b} ha hb hab => lexR_tail (group_head ha) (group_head hb) hab) hg
  · obtain ⟨y, hy, rfl⟩ := List.mem_map.1 hx
    have h1 := h.len y (group_mem hy)
    have h2 := group_head hy
    cases hy1 : y.1 with
    | nil => rw [hy1] at h2; cases h2
    | cons a t => rw [hy1] at h1; simp at h1 ⊢; omega
  · obtain ⟨y, hy, rfl⟩ := List.mem_map.1 hx
    exact h.runes y (group_mem hy) d (List.mem_of_mem_tail hd)
  · obtain ⟨y, hy, rfl⟩ := List.mem_map.1 hx
    exact h.wt y (group_mem hy)
theorem RwOk.after {n : Nat} {l : List Rw} (h : RwOk n l) (c : Int) : RwOk n (after c l) := by
  have hs := h.sorted
  rw [group_after c l] at hs
  have hl : (F.after c l).length ≤ l.length := by
    have := congrArg List.length (group_after c l); simp at this; omega
  exact ⟨(List.pairwise_append.1 hs).2.1, fun x hx => h.len x (after_mem hx), fun x hx => h.runes x (after_mem hx), fun x hx => h.wt x (after_mem hx), by have := h.few; omega⟩
theorem tot_append : ∀ a b : List Rw, tot (a ++ b) = tot a + tot b
  | [], b => by simp [tot]
  | x :: a, b => by simp [tot, tot_append a b]; omega
theorem tot_under (c : Int) : ∀ l : List Rw, tot (under c l) + (under c l).length + tot (after c l) = tot l
  | [] => rfl
  | x :: l => by
    unfold under after
    split
    · rename_i h
      have := tot_under c l
      cases hx : x.1 with
      | nil => rw [hx] at h; cases h
      | cons a t => simp [tot, hx]; omega
    · simp [tot]
theorem tot_body (l : List Rw) : tot (body l) ≤ tot l ∧ (body l).length ≤ l.length := by
  unfold body
  split
  · cases l with
    | nil => simp
    | cons x l => simp [tot]
  · simp
theorem under_ne {x : Rw} {l : List Rw} (h : x.1 ≠ []) : under (x.1.headD 0) (x :: l) ≠ [] := by
  unfold under
  cases hx : x.1 with
  | nil => exact absurd hx h
  | cons a t => simp [hx]
theorem leastU_mem (n : Int) : ∀ l : List Int, leastU n l = n ∨ leastU n l ∈ l := fun l => by
  induction l generalizing n with
  | nil => exact .inl rfl
  | cons x l ih =>
    rcases ih (if x < n then x else n) with h | h
    · have h' : leastU n (x :: l) = if x < n then x else n := h
      split at h'
      · rw [h']; exact .inr (List.mem_cons_self)
      · exact .inl h'
    · exact .inr (List.mem_cons_of_mem _ h)
theorem leastF_mem {l : List Int} (h : l ≠ []) : leastF l ∈ l := by
  unfold leastF
  rcases leastU_mem (l.headD 0) l with e | e
  · rw [e]; cases l with | nil => exact absurd rfl h | cons x l => exact .head _
  · exact e
theorem leastU_le (n : Int) : ∀ l : List Int, leastU n l ≤ n ∧ ∀ x ∈ l, leastU n l ≤ x := fun l => by
  induction l generalizing n with
  | nil => exact ⟨Int.le_refl _, by simp⟩
  | cons x l ih =>
    obtain ⟨h1, h2⟩ := ih (if x < n then x else n)
    have h1' : leastU n (x :: l) ≤ if x < n then x else n := h1
    refine ⟨by split at h1' <;> omega, fun y hy => ?_⟩
    rcases List.mem_cons.1 hy with rfl | hy
    · split at h1' <;> omega
    · exact h2 y hy
theorem low_le {l : List Rw} {x : Rw} (h : x ∈ l) : low l ≤ x.2 := (leastU_le _ _).2 _ (List.mem_map_of_mem h)
theorem low_mem {l : List Rw} (h : l ≠ []) : ∃ x ∈ l, low l = x.2 := by
  have := leastF_mem (l := l.map (·.2)) (by simpa using h)
  obtain ⟨x, hx, e⟩ := List.mem_map.1 this
  exact ⟨x, hx, e.symm⟩
end Go.Proofs.YtkibkbbjpgomlaaDoor.F
