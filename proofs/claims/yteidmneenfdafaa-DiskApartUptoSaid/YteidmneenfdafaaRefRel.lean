/-
  The disk and the document's disk: they answer alike.
-/
import Derived.Test.YteidmneenfdafaaRefB
import Derived.Test.YteidmneenfdafaaDskFit
import Derived.Test.YteidmneenfdafaaDskOpen
namespace Go.Proofs.Yteidmneenfdafaa.R
open Go.RowKit
open Aid K
set_option linter.unusedSimpArgs false
set_option linter.unusedVariables false

def before (x y : RSec) : Prop := x.area < y.area ∨ x.area = y.area ∧ x.n < y.n
def Srt (l : List RSec) : Prop := l.Pairwise before
def keyR (a n : Int) (s : RSec) : Bool := decide (s.area = a ∧ s.n = n)
def findR (l : List RSec) (a n : Int) : Option Sec := (l.find? (keyR a n)).map fun s => (s.L, s.sync)
def cntR (l : List RSec) (a : Int) : Nat := (l.filter fun s => decide (s.area = a)).length
/-- a sector in its place -/
def insR (s : RSec) : List RSec → List RSec
  | [] => [s]
  | x :: l => if sameR x s = true then s :: l else if behindR x s = true then s :: x :: l else x :: insR s l
theorem same_iff {x s : RSec} : sameR x s = true ↔ x.area = s.area ∧ x.n = s.n := by unfold sameR; simp
theorem behind_iff {x s : RSec} : behindR x s = true ↔ before s x := by
  unfold behindR before
  rw [decide_eq_true_iff]
  constructor
  · rintro (h | ⟨h1, h2⟩)
    · exact .inl h
    · exact .inr ⟨h1.symm, h2⟩
  · rintro (h | ⟨h1, h2⟩)
    · exact .inl h
    · exact .inr ⟨h1.symm, h2⟩
theorem fold_done (s : RSec) : ∀ (l : List RSec) (acc : List RSec), (∀ x ∈ l, sameR x s = false) → l.foldl (putStepR s) (acc, true) = (acc ++ l, true)
  | [], acc, _ => by simp
  | x :: l, acc, h => by
    have hx := h x (List.mem_cons_self ..)
    have hst : putStepR s (acc, true) x = (acc ++ [x], true) := by unfold putStepR; simp [hx]
    rw [List.foldl_cons, hst, fold_done s l _ (fun y hy => h y (List.mem_cons_of_mem _ hy))]
    simp
theorem fold_ins (s : RSec) : ∀ (l : List RSec) (acc : List RSec), Srt l → (let c := l.foldl (putStepR s) (acc, false); if c.2 = true then c.1 else c.1 ++ [s]) = acc ++ insR s l
  | [], acc, _ => by simp [insR]
  | x :: l, acc, h => by
    obtain ⟨h1, h2⟩ := List.pairwise_cons.1 h
    rw [List.foldl_cons]
    by_cases hs : sameR x s = true
    · have hst : putStepR s (acc, false) x = (acc ++ [s], true) := by unfold putStepR; simp [hs]
      have hno : ∀ y ∈ l, sameR y s = false := fun y hy => by
        have hb := h1 y hy
        have hk := same_iff.1 hs
        rw [Bool.eq_false_iff]
        intro e
        have he := same_iff.1 e
        unfold before at hb
        omega
      rw [hst, fold_done s l _ hno]
      simp [insR, hs]
    · have hs' : sameR x s = false := by simpa using hs
      by_cases hb : behindR x s = true
      · have hst : putStepR s (acc, false) x = (acc ++ [s] ++ [x], true) := by unfold putStepR; simp [hs', hb]
        have hno : ∀ y ∈ l, sameR y s = false := fun y hy => by
          have hb1 := h1 y hy
          have hk := behind_iff.1 hb
          rw [Bool.eq_false_iff]
          intro e
          have he := same_iff.1 e
          unfold before at hb1 hk
          omega
        rw [hst, fold_done s l _ hno]
        simp [insR, hs', hb]
      · have hb' : behindR x s = false := by simpa using hb
        have hst : putStepR s (acc, false) x = (acc ++ [x], false) := by unfold putStepR; simp [hs', hb']
        rw [hst, fold_ins s l _ h2]
        simp [insR, hs', hb']
theorem put_ins {l : List RSec} (h : Srt l) (s : RSec) : putR l s = insR s l := by
  have := fold_ins s l [] h
  simpa [putR] using this
theorem ins_mem {s x : RSec} : ∀ {l : List RSec}, x ∈ insR s l → x = s ∨ x ∈ l
  | [], h => by simp [insR] at h; exact .inl h
  | y :: l, h => by
    unfold insR at h
    split at h
    · rcases List.mem_cons.1 h with h | h
      · exact .inl h
      · exact .inr (List.mem_cons_of_mem _ h)
    · split at h
      · rcases List.mem_cons.1 h with h | h
        · exact .inl h
        · exact .inr h
      · rcases List.mem_cons.1 h with h | h
        · exact .inr (by rw [h]; exact List.mem_cons_self ..)
        · rcases ins_mem h with h | h
          · exact .inl h
          · exact .inr (List.mem_cons_of_mem _ h)
theorem before_trans {x y z : RSec} (h : before x y) (k : before y z) : before x z := by unfold before at *; omega
theorem ins_srt {s : RSec} : ∀ {l : List RSec}, Srt l → Srt (insR s l)
  | [], _ => by simp [insR, Srt]
  | y :: l, h => by
    obtain ⟨h1, h2⟩ := List.pairwise_cons.1 h
    unfold insR
    split
    · rename_i hs
      have hk := same_iff.1 hs
      exact List.pairwise_cons.2 ⟨fun z hz => by have := h1 z hz; unfold before at *; omega, h2⟩
    · split
      · rename_i hs hb
        have hk := behind_iff.1 hb
        exact List.pairwise_cons.2 ⟨fun z hz => by
          rcases List.mem_cons.1 hz with hz | hz
          · rw [hz]; exact hk
          · exact before_trans hk (h1 z hz), h⟩
      · rename_i hs hb
        refine List.pairwise_cons.2 ⟨fun z hz => ?_, ins_srt h2⟩
        rcases ins_mem hz with hz | hz
        · rw [hz]
          have a1 : ¬ (y.area = s.area ∧ y.n = s.n) := fun e => hs (same_iff.2 e)
          have a2 : ¬ before s y := fun e => hb (behind_iff.2 e)
          unfold before at *; omega
        · exact h1 z hz
theorem ins_find {s : RSec} (a n : Int) : ∀ {l : List RSec}, findR (insR s l) a n = if a = s.area ∧ n = s.n then some (s.L, s.sync) else findR l a n
  | [] => by
    unfold findR insR keyR
    by_cases h : a = s.area ∧ n = s.n
    · obtain ⟨rfl, rfl⟩ := h; simp
    · have h' : ¬ (s.area = a ∧ s.n = n) := fun e => h ⟨e.1.symm, e.2.symm⟩
      rw [if_neg h]; simp [h']
  | y :: l => by
    have ih := ins_find (s := s) a n (l := l)
    unfold insR
    by_cases h : a = s.area ∧ n = s.n
    · obtain ⟨rfl, rfl⟩ := h
      rw [if_pos (⟨rfl, rfl⟩ : s.area = s.area ∧ s.n = s.n)] at ih ⊢
      split
      · simp [findR, keyR]
      · split
        · simp [findR, keyR]
        · rename_i hs hb
          have a1 : ¬ (y.area = s.area ∧ y.n = s.n) := fun e => hs (same_iff.2 e)
          have : findR (y :: insR s l) s.area s.n = findR (insR s l) s.area s.n := by unfold findR; rw [List.find?_cons_of_neg (by unfold keyR; simpa using a1)]
          rw [this]; exact ih
    · rw [if_neg h] at ih ⊢
      have h' : ¬ (keyR a n s = true) := by unfold keyR; simp; exact fun e1 e2 => h ⟨e1.symm, e2.symm⟩
      split
      · rename_i hs
        have hk := same_iff.1 hs
        have h2 : ¬ (keyR a n y = true) := by unfold keyR; simp; exact fun e1 e2 => h ⟨by omega, by omega⟩
        unfold findR
        rw [List.find?_cons_of_neg h', List.find?_cons_of_neg h2]
      · split
        · unfold findR
          rw [List.find?_cons_of_neg h']
        · by_cases hy : keyR a n y = true
          · unfold findR; rw [List.find?_cons_of_pos hy, List.find?_cons_of_pos hy]
          · unfold findR at ih ⊢
            rw [List.find?_cons_of_neg hy, List.find?_cons_of_neg hy]; exact ih
theorem find_none {l : List RSec} {a n : Int} : findR l a n = none ↔ ∀ s ∈ l, ¬ (s.area = a ∧ s.n = n) := by
  unfold findR
  rw [Option.map_eq_none_iff, List.find?_eq_none]
  refine forall_congr' fun s => forall_congr' fun hs => ?_
  unfold keyR; simp
theorem find_mem {l : List RSec} (h : Srt l) {s : RSec} (hs : s ∈ l) : findR l s.area s.n = some (s.L, s.sync) := by
  induction l with
  | nil => cases hs
  | cons y l ih =>
    obtain ⟨h1, h2⟩ := List.pairwise_cons.1 h
    rcases List.mem_cons.1 hs with rfl | hs
    · unfold findR; rw [List.find?_cons_of_pos (by unfold keyR; simp)]; rfl
    · have hb := h1 s hs
      have : ¬ (keyR s.area s.n y = true) := by unfold keyR; simp; intro e1 e2; unfold before at hb; omega
      have ih := ih h2 hs
      unfold findR at ih ⊢
      rw [List.find?_cons_of_neg this]; exact ih
theorem find_some {l : List RSec} {a n : Int} {sec : Sec} (h : findR l a n = some sec) : ∃ s ∈ l, s.area = a ∧ s.n = n ∧ sec = (s.L, s.sync) := by
  unfold findR at h
  obtain ⟨s, h1, h2⟩ := Option.map_eq_some_iff.1 h
  have h3 := List.find?_some h1
  unfold keyR at h3
  rw [decide_eq_true_iff] at h3
  exact ⟨s, List.mem_of_find?_eq_some h1, h3.1, h3.2, h2.symm⟩
theorem cnt_cons (x : RSec) (l : List RSec) (a : Int) : cntR (x :: l) a = (if x.area = a then 1 else 0) + cntR l a := by
  unfold cntR
  rw [List.filter_cons]
  by_cases h : x.area = a
  · simp [h]; omega
  · simp [h]
theorem ins_cnt {s : RSec} (a : Int) : ∀ {l : List RSec}, Srt l → cntR (insR s l) a = if a = s.area then (if (findR l s.area s.n).isSome then cntR l a else cntR l a + 1) else cntR l a
  | [], _ => by
    unfold insR
    rw [cnt_cons]
    by_cases h : a = s.area
    · subst h; simp [findR, cntR]
    · rw [if_neg (fun e => h e.symm), if_neg h]; omega
  | y :: l, h => by
    obtain ⟨h1, h2⟩ := List.pairwise_cons.1 h
    have ih := ins_cnt (s := s) a (l := l) h2
    unfold insR
    split
    · rename_i hs
      have hk := same_iff.1 hs
      have hf : (findR (y :: l) s.area s.n).isSome = true := by unfold findR; rw [List.find?_cons_of_pos (by unfold keyR; simp [hk])]; rfl
      rw [hf, cnt_cons, cnt_cons, hk.1]
      by_cases ha : a = s.area
      · rw [if_pos ha, if_pos rfl]
      · rw [if_neg ha]
    · split
      · rename_i hs hb
        have hk := behind_iff.1 hb
        have hf : findR (y :: l) s.area s.n = none := by
          rw [find_none]
          intro z hz e
          rcases List.mem_cons.1 hz with hz | hz
          · rw [hz] at e; unfold before at hk; omega
          · have := h1 z hz; unfold before at *; omega
        rw [hf, cnt_cons]
        by_cases ha : a = s.area
        · rw [if_pos ha.symm, if_pos ha]; simp; omega
        · rw [if_neg (fun e => ha e.symm), if_neg ha]; omega
      · rename_i hs hb
        have a1 : ¬ (keyR s.area s.n y = true) := by unfold keyR; simp; exact fun e1 e2 => hs (same_iff.2 ⟨e1, e2⟩)
        have hf : findR (y :: l) s.area s.n = findR l s.area s.n := by unfold findR; rw [List.find?_cons_of_neg a1]
        rw [hf, cnt_cons, cnt_cons, ih]
        by_cases ha : a = s.area
        · rw [if_pos ha, if_pos ha]
          generalize (if y.area = a then 1 else 0) = c
          cases (findR l s.area s.n).isSome
          · simp; omega
          · simp
        · rw [if_neg ha, if_neg ha]
theorem ins_len {s : RSec} : ∀ {l : List RSec}, (insR s l).length ≤ l.length + 1
  | [] => by simp [insR]
  | y :: l => by
    have := ins_len (s := s) (l := l)
    unfold insR
    split
    · simp
    · split
      · simp
      · simp; omega
theorem sync_find (l : List RSec) (b a n : Int) : findR (syncL l b) a n = if a = b then (findR l a n).map lastS else findR l a n := by
  induction l with
  | nil => simp [syncL, findR]
  | cons x l ih =>
    unfold syncL at ih ⊢
    rw [List.map_cons]
    by_cases hk : keyR a n x = true
    · have hk2 := hk
      unfold keyR at hk2
      rw [decide_eq_true_iff] at hk2
      have hk' : keyR a n (syncX b x) = true := by
        unfold keyR syncX
        split
        · rename_i e; simp; exact ⟨by omega, hk2.2⟩
        · simpa using hk2
      unfold findR
      rw [List.find?_cons_of_pos hk, List.find?_cons_of_pos hk']
      unfold syncX lastS
      by_cases h : a = b
      · rw [if_pos h, if_pos (by omega)]; rfl
      · rw [if_neg h, if_neg (by omega)]
    · have hk' : ¬ (keyR a n (syncX b x) = true) := by
        intro e
        apply hk
        unfold keyR syncX at *
        split at e
        · rename_i e1; simp at e ⊢; exact ⟨by omega, e.2⟩
        · exact e
      unfold findR at ih ⊢
      rw [List.find?_cons_of_neg hk, List.find?_cons_of_neg hk']; exact ih
theorem sync_key (b : Int) (x : RSec) : (syncX b x).area = x.area ∧ (syncX b x).n = x.n := by
  unfold syncX; split
  · rename_i e; exact ⟨e.symm, rfl⟩
  · exact ⟨rfl, rfl⟩
theorem sync_cnt (l : List RSec) (b a : Int) : cntR (syncL l b) a = cntR l a := by
  induction l with
  | nil => rfl
  | cons x l ih =>
    unfold syncL at ih ⊢
    rw [List.map_cons, cnt_cons, cnt_cons, ih, (sync_key b x).1]
theorem sync_srt {l : List RSec} (h : Srt l) (b : Int) : Srt (syncL l b) := by
  unfold Srt syncL
  rw [List.pairwise_map]
  refine List.Pairwise.imp (fun {x y} hxy => ?_) h
  have h1 := sync_key b x
  have h2 := sync_key b y
  unfold before at *
  omega
theorem free_find (l : List RSec) (b a n : Int) : findR (freeL l b) a n = if a = b then none else findR l a n := by
  unfold freeL
  induction l with
  | nil => simp [findR]
  | cons x l ih =>
    rw [List.filter_cons]
    by_cases hx : x.area = b
    · simp only [hx, ne_eq, not_true_eq_false, decide_false, Bool.false_eq_true, if_false]
      rw [ih]
      by_cases h : a = b
      · rw [if_pos h, if_pos h]
      · rw [if_neg h, if_neg h]
        unfold findR
        rw [List.find?_cons_of_neg (by unfold keyR; simp; intro e; omega)]
    · simp only [ne_eq, hx, not_false_eq_true, decide_true, if_true]
      by_cases hk : keyR a n x = true
      · have hk2 := hk
        unfold keyR at hk2
        rw [decide_eq_true_iff] at hk2
        unfold findR
        rw [List.find?_cons_of_pos hk, List.find?_cons_of_pos hk, if_neg (by omega)]
      · unfold findR at ih ⊢
        rw [List.find?_cons_of_neg hk, List.find?_cons_of_neg hk]; exact ih
theorem free_cnt (l : List RSec) (b a : Int) : cntR (freeL l b) a = if a = b then 0 else cntR l a := by
  unfold freeL
  induction l with
  | nil => simp [cntR]
  | cons x l ih =>
    rw [List.filter_cons]
    by_cases hx : x.area = b
    · simp only [hx, ne_eq, not_true_eq_false, decide_false, Bool.false_eq_true, if_false]
      rw [ih, cnt_cons]
      by_cases h : a = b
      · rw [if_pos h, if_pos h]
      · rw [if_neg h, if_neg h, if_neg (by omega)]; omega
    · simp only [ne_eq, hx, not_false_eq_true, decide_true, if_true]
      rw [cnt_cons, cnt_cons, ih]
      by_cases h : a = b
      · rw [if_pos h, if_pos h, if_neg (by omega)]
      · rw [if_neg h, if_neg h]
theorem free_len (l : List RSec) (b : Int) : l.length - (freeL l b).length = cntR l b ∧ (freeL l b).length ≤ l.length := by
  unfold freeL
  induction l with
  | nil => simp [cntR]
  | cons x l ih =>
    rw [List.filter_cons, cnt_cons]
    by_cases hx : x.area = b
    · rw [if_neg (by simp [hx]), if_pos hx, List.length_cons]; omega
    · rw [if_pos (by simp [hx]), if_neg hx, List.length_cons, List.length_cons]; omega
theorem free_srt {l : List RSec} (h : Srt l) (b : Int) : Srt (freeL l b) := List.Pairwise.filter _ h

/-- the disk is as the document's -/
structure RelD (st : DSt) (r : RSt) : Prop where
  room : r.room = st.room
  steps : r.steps = st.steps
  dead : r.dead = st.dead
  armed : r.armed = decide (0 ≤ st.left)
  left : 0 ≤ st.left → r.left = st.left
  left2 : r.left ≤ 9223372036854775807
  srt : Srt r.l
  wf : ∀ s ∈ r.l, (Lit.int .u64 s.area).wf = true ∧ 0 ≤ s.n ∧ s.n < 65536
  F : ∀ a n, st.F a n = findR r.l a n
  N : ∀ a, st.N a = cntR r.l a
  A : ∀ a, st.A a = decide (0 < cntR r.l a)
theorem RelD.new (room : Int) : RelD (newSt room) (newR room) :=
  ⟨rfl, rfl, rfl, rfl, fun h => absurd h (by show ¬ ((0 : Int) ≤ -1); decide), by show (0 : Int) ≤ _; decide, List.Pairwise.nil, fun s hs => (nomatch hs), fun _ _ => rfl, fun _ => rfl, fun _ => rfl⟩
theorem RelD.step {st : DSt} {r : RSt} (h : RelD st r) (hd : st.dead = false) : RelD (stepF st) (stepR r) ∧ (stepF st).dead = diesR r := by
  have hdie : (stepF st).dead = diesR r := by
    unfold diesR
    rw [h.armed]
    show decide (st.left = 0) = _
    by_cases h0 : 0 ≤ st.left
    · rw [h.left h0]; simp [h0]
    · have : ¬ st.left = 0 := by omega
      simp [h0, this]
  refine ⟨⟨h.room, by show r.steps + 1 = st.steps + 1; rw [h.steps], ?_, ?_, ?_, ?_, h.srt, h.wf, h.F, h.N, h.A⟩, hdie⟩
  · show (r.dead || diesR r) = _
    rw [h.dead, hd, hdie]; rfl
  · show r.armed = decide (0 ≤ if 0 < st.left then st.left - 1 else st.left)
    rw [h.armed]
    rw [decide_eq_decide]
    split <;> omega
  · intro h0
    have h0' : 0 ≤ if 0 < st.left then st.left - 1 else st.left := h0
    have h1 : 0 ≤ st.left := by split at h0' <;> omega
    show (if r.armed = true ∧ r.left ≠ 0 then r.left - 1 else r.left) = if 0 < st.left then st.left - 1 else st.left
    rw [h.armed, h.left h1]
    by_cases h2 : 0 < st.left
    · rw [if_pos ⟨by simp [h1], by omega⟩, if_pos h2]
    · rw [if_neg (fun e => e.2 (by omega)), if_neg h2]
  · show (if r.armed = true ∧ r.left ≠ 0 then r.left - 1 else r.left) ≤ _
    have := h.left2
    split <;> omega
theorem RelD.arm {st : DSt} {r : RSt} (h : RelD st r) {n : Int} (hn : n ≤ 9223372036854775807) : RelD (armF st n) (armR r n) := by
  unfold armF armR
  rw [h.dead]
  by_cases hd : st.dead = true
  · rw [if_pos hd, if_pos hd]; exact h
  · rw [if_neg hd, if_neg hd]
    refine ⟨h.room, h.steps, rfl, ?_, ?_, hn, h.srt, h.wf, h.F, h.N, h.A⟩
    · show decide (0 ≤ n) = decide (0 ≤ max n (-1))
      rw [decide_eq_decide]; omega
    · show 0 ≤ max n (-1) → n = max n (-1)
      omega
/-- a sector is put -/
theorem RelD.put {st st' : DSt} {r r' : RSt} (h : RelD st r) {a n : Int} {s : RSec} (hr : r'.l = putR r.l s) (r1 : r'.room = st'.room) (r2 : r'.steps = st.steps) (r3 : r'.dead = r.dead) (r4 : r'.armed = r.armed) (r5 : r'.left = r.left)
    (hs1 : s.area = a) (hs2 : s.n = n) (hw : (Lit.int .u64 a).wf = true) (hn : 0 ≤ n ∧ n < 65536) (e2 : st'.steps = st.steps) (e3 : st'.dead = st.dead) (e4 : st'.left = st.left) (hF : st'.F = st.F) (hN : st'.N = st.N) (hA : ∀ b, st'.A b = (st.A b || decide (b = a))) : RelD (putS st' a n (s.L, s.sync)) r' := by
  have hp := put_ins h.srt s
  rw [hp] at hr
  subst hs1 hs2
  refine ⟨r1, by rw [r2]; exact e2.symm, by rw [r3, h.dead]; exact e3.symm, ?_, ?_, by rw [r5]; exact h.left2, by rw [hr]; exact ins_srt h.srt, fun x hx => ?_, fun b m => ?_, fun b => ?_, fun b => ?_⟩
  · rw [r4, h.armed]; show _ = decide (0 ≤ st'.left); rw [e4]
  · intro h0
    have h0' : 0 ≤ st'.left := h0
    rw [e4] at h0'
    rw [r5, h.left h0']; exact e4.symm
  · rw [hr] at hx
    rcases ins_mem hx with hx | hx
    · rw [hx]; exact ⟨hw, hn⟩
    · exact h.wf x hx
  · rw [hr, ins_find]
    show updF st'.F s.area s.n (some (s.L, s.sync)) b m = _
    rw [hF]
    unfold updF
    by_cases hb : b = s.area
    · by_cases hm : m = s.n
      · subst hb hm; simp
      · subst hb; simp [hm, h.F]
    · simp [hb, h.F]
  · rw [hr, ins_cnt b h.srt]
    show updN st'.N s.area (if (st'.F s.area s.n).isSome = true then st'.N s.area else st'.N s.area + 1) b = _
    rw [hF, hN, h.F, h.N]
    unfold updN
    by_cases hb : b = s.area
    · rw [if_pos hb, if_pos hb, hb]
    · rw [if_neg hb, if_neg hb, h.N]
  · rw [hr, ins_cnt b h.srt]
    show st'.A b = _
    rw [hA, h.A]
    by_cases hb : b = s.area
    · rw [if_pos hb]
      subst hb
      simp only [decide_true, Bool.or_true]
      symm
      rw [decide_eq_true_iff]
      split
      · rename_i hf
        obtain ⟨sec, hsec⟩ := Option.isSome_iff_exists.1 hf
        obtain ⟨x, hx, hx1, hx2, _⟩ := find_some hsec
        unfold cntR
        exact List.length_pos_iff.2 (List.ne_nil_of_mem (List.mem_filter.2 ⟨hx, by simp [hx1]⟩))
      · omega
    · rw [if_neg hb]; simp [hb]
theorem answers {st : DSt} {r r' : RSt} {k a n x : Int} {l : List Int} (h : RelD st r) (hd : DoR r k a n l r' x) (ha : (Lit.int .u64 a).wf = true) (hn : (Lit.int .i64 n).wf = true) :
    RelD (doS st k a n l) r' ∧ doE st k a n l = x := by
  have hn2 : n ≤ 9223372036854775807 := by
    have := hn
    simp [Lit.wf, IntKind.min, IntKind.max, IntKind.signed, IntKind.bits] at this
    omega
  cases hd with
  | write h0 hw =>
    subst h0
    unfold doS doE
    rw [if_pos rfl, if_pos rfl]
    cases hw with
    | dead h1 =>
      rw [h.dead] at h1
      have hb : BadW st a n l := .inl h1
      rw [if_pos hb, if_pos hb, if_pos h1]
      exact ⟨h, rfl⟩
    | form h1 h2 =>
      rw [h.dead] at h1
      have hb : BadW st a n l := .inr (.inl h2)
      rw [if_pos hb, if_pos hb, if_neg (by rw [h1]; decide), if_pos (show n < 0 ∨ 65536 ≤ n ∨ 64 < l.length from h2)]
      exact ⟨h, rfl⟩
    | full h1 h2 h3 h4 =>
      rw [h.dead] at h1
      have hb : BadW st a n l := .inr (.inr ⟨by rw [h.F]; exact find_none.2 h3, by rw [← h.room]; exact h4⟩)
      rw [if_pos hb, if_pos hb, if_neg (by rw [h1]; decide), if_neg (show ¬ (n < 0 ∨ 65536 ≤ n ∨ 64 < l.length) from h2)]
      exact ⟨h, rfl⟩
    | fresh h1 h2 h3 h4 =>
      have h1' := h1
      rw [h.dead] at h1'
      have hF : st.F a n = none := by rw [h.F]; exact find_none.2 h3
      have hb : ¬ BadW st a n l := by
        rintro (e | e | ⟨_, e⟩)
        · rw [h1'] at e; cases e
        · exact h2 e
        · exact h4 (by rw [h.room]; exact e)
      rw [if_neg hb, if_neg hb]
      have hok : 0 ≤ n ∧ n < 65536 := by unfold BadR at h2; omega
      have hput : RelD (putS (if st.A a = true then { st with room := st.room - 1 } else openA { st with room := st.room - 1 } a) a n ([wholeI l], false)) { r with room := r.room - 1, l := putR r.l ⟨a, n, [wholeI l], false⟩ } := by
        by_cases hA : st.A a = true
        · rw [if_pos hA]
          exact h.put (s := ⟨a, n, [wholeI l], false⟩) (st' := { st with room := st.room - 1 }) rfl (by show r.room - 1 = st.room - 1; rw [h.room]) h.steps rfl rfl rfl rfl rfl ha hok rfl rfl rfl rfl rfl (fun b => by
            show st.A b = _
            by_cases hba : b = a
            · rw [hba, hA]; simp
            · simp [hba])
        · rw [if_neg hA]
          exact h.put (s := ⟨a, n, [wholeI l], false⟩) (st' := openA { st with room := st.room - 1 } a) rfl (by show r.room - 1 = st.room - 1; rw [h.room]) h.steps rfl rfl rfl rfl rfl ha hok rfl rfl rfl rfl rfl (fun b => by
            show updA st.A a true b = _
            unfold updA
            by_cases hba : b = a
            · simp [hba]
            · simp [hba])
      have hst := hput.step (by by_cases hA : st.A a = true; rw [if_pos hA]; exact h1'; rw [if_neg hA]; exact h1')
      have hw : writeF st a n l = stepF (putS (if st.A a = true then { st with room := st.room - 1 } else openA { st with room := st.room - 1 } a) a n ([wholeI l], false)) := by unfold writeF; rw [hF]
      rw [hw]
      refine ⟨hst.1, ?_⟩
      rw [hst.2]; rfl
    | again s h1 h2 h3 h4 h5 =>
      have h1' := h1
      rw [h.dead] at h1'
      have hF : st.F a n = some (s.L, s.sync) := by rw [h.F, ← h4, ← h5]; exact find_mem h.srt h3
      have hb : ¬ BadW st a n l := by
        rintro (e | e | ⟨e, _⟩)
        · rw [h1'] at e; cases e
        · exact h2 e
        · rw [hF] at e; cases e
      rw [if_neg hb, if_neg hb]
      have hok : 0 ≤ n ∧ n < 65536 := by unfold BadR at h2; omega
      have hput : RelD (putS st a n (s.L ++ [wholeI l], s.sync)) { r with l := putR r.l ⟨a, n, s.L ++ [wholeI l], s.sync⟩ } :=
        h.put (s := ⟨a, n, s.L ++ [wholeI l], s.sync⟩) (st' := st) rfl h.room h.steps rfl rfl rfl rfl rfl ha hok rfl rfl rfl rfl rfl (fun b => by
          by_cases hba : b = a
          · rw [hba, h.A]
            have : 0 < cntR r.l a := by
              unfold cntR
              exact List.length_pos_iff.2 (List.ne_nil_of_mem (List.mem_filter.2 ⟨h3, by simp [h4]⟩))
            simp [this]
          · simp [hba])
      have hst := hput.step h1'
      have hw : writeF st a n l = stepF (putS st a n (s.L ++ [wholeI l], s.sync)) := by unfold writeF; rw [hF]
      rw [hw]
      refine ⟨hst.1, ?_⟩
      rw [hst.2]; rfl
  | sync h0 hw =>
    subst h0
    unfold doS doE
    rw [if_neg (show ¬ ((1 : Int) = 0) by decide), if_pos (rfl : (1 : Int) = 1), if_neg (show ¬ ((1 : Int) = 0) by decide), if_pos (Or.inl rfl : (1 : Int) = 1 ∨ (1 : Int) = 2)]
    cases hw with
    | dead h1 =>
      rw [h.dead] at h1
      have ht : tickF st = st := by unfold tickF; rw [if_pos h1]
      rw [ht, if_pos h1, if_pos h1]
      exact ⟨h, rfl⟩
    | dies h1 h2 =>
      rw [h.dead] at h1
      have hst := h.step h1
      have hdd : (tickF st).dead = true := by rw [tick_alive h1, hst.2, h2]
      rw [if_pos hdd, if_pos hdd, tick_alive h1]
      exact ⟨hst.1, rfl⟩
    | good h1 h2 =>
      rw [h.dead] at h1
      have hst := h.step h1
      have hdd : (tickF st).dead = false := by rw [tick_alive h1, hst.2, h2]
      rw [if_neg (by rw [hdd]; decide), if_neg (by rw [hdd]; decide)]
      refine ⟨⟨hst.1.room, hst.1.steps, hst.1.dead, hst.1.armed, hst.1.left, hst.1.left2, sync_srt h.srt a, fun s hs => ?_, fun b m => ?_, fun b => ?_, fun b => ?_⟩, rfl⟩
      · obtain ⟨y, hy, rfl⟩ := List.mem_map.1 hs
        have := h.wf y hy
        have hk := sync_key a y
        rw [hk.1, hk.2]; exact this
      · show (if b = a ∧ (fun _ => false) (Lit.int .i64 m) = false ∧ (Lit.int .i64 m).wf = true then ((stepF st).F a m).map lastS else (stepF st).F b m) = _
        rw [sync_find]
        show (if b = a ∧ (false = false) ∧ (Lit.int .i64 m).wf = true then (st.F a m).map lastS else st.F b m) = _
        by_cases hb : b = a
        · subst hb
          rw [if_pos rfl]
          by_cases hm : (Lit.int .i64 m).wf = true
          · rw [if_pos ⟨rfl, rfl, hm⟩, h.F]
          · rw [if_neg (fun e => hm e.2.2), h.F]
            have : findR r.l b m = none := by
              rw [find_none]
              intro s hs e
              apply hm
              have := h.wf s hs
              rw [← e.2]
              simp [Lit.wf, IntKind.min, IntKind.max, IntKind.signed, IntKind.bits]
              omega
            rw [this]; rfl
        · rw [if_neg (fun e => hb e.1), if_neg hb, h.F]
      · show st.N b = _
        rw [sync_cnt, h.N]
      · show st.A b = _
        rw [sync_cnt, h.A]
  | free h0 hw =>
    subst h0
    unfold doS doE
    rw [if_neg (show ¬ ((2 : Int) = 0) by decide), if_neg (show ¬ ((2 : Int) = 1) by decide), if_pos (rfl : (2 : Int) = 2), if_neg (show ¬ ((2 : Int) = 0) by decide), if_pos (Or.inr rfl : (2 : Int) = 1 ∨ (2 : Int) = 2)]
    cases hw with
    | dead h1 =>
      rw [h.dead] at h1
      have ht : tickF st = st := by unfold tickF; rw [if_pos h1]
      rw [ht, if_pos h1, if_pos h1]
      exact ⟨h, rfl⟩
    | dies h1 h2 =>
      rw [h.dead] at h1
      have hst := h.step h1
      have hdd : (tickF st).dead = true := by rw [tick_alive h1, hst.2, h2]
      rw [if_pos hdd, if_pos hdd, tick_alive h1]
      exact ⟨hst.1, rfl⟩
    | good h1 h2 =>
      rw [h.dead] at h1
      have hst := h.step h1
      have hdd : (tickF st).dead = false := by rw [tick_alive h1, hst.2, h2]
      rw [if_neg (by rw [hdd]; decide), if_neg (by rw [hdd]; decide)]
      refine ⟨⟨?_, hst.1.steps, hst.1.dead, hst.1.armed, hst.1.left, hst.1.left2, free_srt h.srt a, fun s hs => h.wf s (List.mem_filter.1 hs).1, fun b m => ?_, fun b => ?_, fun b => ?_⟩, rfl⟩
      · show r.room + ((r.l.length - (freeL r.l a).length : Nat) : Int) = st.room + (st.N a : Int)
        rw [h.room, (free_len r.l a).1, h.N]
      · show (if b = a then (fun _ => none) else st.F b) m = _
        rw [free_find]
        by_cases hb : b = a
        · rw [if_pos hb, if_pos hb]
        · rw [if_neg hb, if_neg hb, h.F]
      · show updN st.N a 0 b = _
        unfold updN
        rw [free_cnt]
        by_cases hb : b = a
        · rw [if_pos hb, if_pos hb]
        · rw [if_neg hb, if_neg hb, h.N]
      · show updA st.A a false b = _
        unfold updA
        rw [free_cnt]
        by_cases hb : b = a
        · rw [if_pos hb, if_pos hb]; rfl
        · rw [if_neg hb, if_neg hb, h.A]
  | arm h0 h1 h2 =>
    subst h0 h1 h2
    unfold doS doE
    rw [if_neg (show ¬ ((3 : Int) = 0) by decide), if_neg (show ¬ ((3 : Int) = 1) by decide), if_neg (show ¬ ((3 : Int) = 2) by decide), if_pos (rfl : (3 : Int) = 3), if_neg (show ¬ ((3 : Int) = 0) by decide), if_neg (show ¬ ((3 : Int) = 1 ∨ (3 : Int) = 2) by decide)]
    exact ⟨h.arm hn2, rfl⟩
  | none h0 h1 h2 h3 h4 h5 =>
    subst h4 h5
    unfold doS doE
    rw [if_neg h0, if_neg h1, if_neg h2, if_neg h3, if_neg h0, if_neg (fun e => e.elim h1 h2)]
    exact ⟨h, rfl⟩
theorem do_len {r r' : RSt} {k a n x : Int} {l : List Int} (hs : Srt r.l) (hd : DoR r k a n l r' x) : r'.l.length ≤ r.l.length + 1 := by
  cases hd with
  | write h0 hw =>
    cases hw with
    | dead h1 => omega
    | form h1 h2 => omega
    | full h1 h2 h3 h4 => omega
    | fresh h1 h2 h3 h4 => show (putR r.l _).length ≤ _; rw [put_ins hs]; exact ins_len
    | again s h1 h2 h3 h4 h5 => show (putR r.l _).length ≤ _; rw [put_ins hs]; exact ins_len
  | sync h0 hw =>
    cases hw with
    | dead h1 => omega
    | dies h1 h2 => exact Nat.le_succ _
    | good h1 h2 => show (syncL r.l a).length ≤ _; unfold syncL; simp
  | free h0 hw =>
    cases hw with
    | dead h1 => omega
    | dies h1 h2 => exact Nat.le_succ _
    | good h1 h2 => show (freeL r.l a).length ≤ _; have := (free_len r.l a).2; omega
  | arm h0 h1 h2 => subst h1; unfold armR; split <;> exact Nat.le_succ _
  | none h0 h1 h2 h3 h4 h5 => subst h4; omega
/-- the areas of a list, each once -/
def areasR : List RSec → List Int
  | [] => []
  | x :: l => match areasR l with
    | [] => [x.area]
    | b :: t => if x.area = b then b :: t else x.area :: b :: t
theorem areas_head (x : RSec) (l : List RSec) : ∃ t, areasR (x :: l) = x.area :: t := by
  unfold areasR
  split
  · exact ⟨_, rfl⟩
  · split
    · rename_i h; exact ⟨_, by rw [h]⟩
    · exact ⟨_, rfl⟩
theorem areas_mem {a : Int} : ∀ {l : List RSec}, a ∈ areasR l ↔ ∃ s ∈ l, s.area = a
  | [] => by simp [areasR]
  | x :: l => by
    have ih := areas_mem (a := a) (l := l)
    unfold areasR
    cases hq : areasR l with
    | nil =>
      rw [hq] at ih
      constructor
      · intro h; exact ⟨x, List.mem_cons_self .., (List.mem_singleton.1 h).symm⟩
      · rintro ⟨s, hs, rfl⟩
        rcases List.mem_cons.1 hs with hs | hs
        · rw [hs]; exact List.mem_singleton.2 rfl
        · have := ih.2 ⟨s, hs, rfl⟩; cases this
    | cons b t =>
      rw [hq] at ih
      have key : a ∈ x.area :: b :: t ↔ ∃ s ∈ x :: l, s.area = a := by
        constructor
        · intro h
          rcases List.mem_cons.1 h with h | h
          · exact ⟨x, List.mem_cons_self .., h.symm⟩
          · obtain ⟨s, hs, e⟩ := ih.1 h
            exact ⟨s, List.mem_cons_of_mem _ hs, e⟩
        · rintro ⟨s, hs, rfl⟩
          rcases List.mem_cons.1 hs with hs | hs
          · rw [hs]; exact List.mem_cons_self ..
          · exact List.mem_cons_of_mem _ (ih.2 ⟨s, hs, rfl⟩)
      show a ∈ (if x.area = b then b :: t else x.area :: b :: t) ↔ _
      split
      · rename_i e
        rw [← key, e]
        simp
      · exact key
theorem areas_srt : ∀ {l : List RSec}, Srt l → (areasR l).Pairwise (fun a b => a < b)
  | [], _ => List.Pairwise.nil
  | x :: l, h => by
    obtain ⟨h1, h2⟩ := List.pairwise_cons.1 h
    have ih := areas_srt h2
    unfold areasR
    cases hq : areasR l with
    | nil => exact List.pairwise_singleton ..
    | cons b t =>
      rw [hq] at ih
      show List.Pairwise _ (if x.area = b then b :: t else x.area :: b :: t)
      split
      · exact ih
      · rename_i hne
        refine List.pairwise_cons.2 ⟨fun c hc => ?_, ih⟩
        rw [← hq] at hc
        obtain ⟨s, hs, rfl⟩ := areas_mem.1 hc
        have hb := h1 s hs
        have hbm : b ∈ areasR l := by rw [hq]; exact List.mem_cons_self ..
        obtain ⟨s2, hs2, e2⟩ := areas_mem.1 hbm
        have hb2 := h1 s2 hs2
        by_cases he : s.area = b
        · rw [he]; unfold before at *; omega
        · have : s.area ∈ t := by
            rw [hq] at hc
            rcases List.mem_cons.1 hc with hc | hc
            · exact absurd hc he
            · exact hc
          have := (List.pairwise_cons.1 ih).1 _ this
          unfold before at *; omega
theorem areas_flat : ∀ {l : List RSec}, Srt l → (areasR l).flatMap (fun a => l.filter fun s => decide (s.area = a)) = l
  | [], _ => rfl
  | x :: l, h => by
    obtain ⟨h1, h2⟩ := List.pairwise_cons.1 h
    have ih := areas_flat h2
    have hs := areas_srt h2
    have hoth : ∀ (t : List Int), (∀ c ∈ t, c ≠ x.area) → t.flatMap (fun a => (x :: l).filter fun s => decide (s.area = a)) = t.flatMap (fun a => l.filter fun s => decide (s.area = a)) := by
      intro t ht
      induction t with
      | nil => rfl
      | cons c t iht =>
        rw [List.flatMap_cons, List.flatMap_cons, iht (fun d hd => ht d (List.mem_cons_of_mem _ hd))]
        rw [List.filter_cons, if_neg (by simp; exact fun e => ht c (List.mem_cons_self ..) e.symm)]
    unfold areasR
    cases hq : areasR l with
    | nil =>
      have hl : l = [] := by
        cases l with
        | nil => rfl
        | cons y l => obtain ⟨t, ht⟩ := areas_head y l; rw [ht] at hq; cases hq
      subst hl
      simp
    | cons b t =>
      rw [hq] at ih hs
      obtain ⟨hs1, hs2⟩ := List.pairwise_cons.1 hs
      show (if x.area = b then b :: t else x.area :: b :: t).flatMap _ = _
      split
      · rename_i e
        rw [List.flatMap_cons, hoth t (fun c hc e2 => by have := hs1 c hc; omega)]
        rw [List.filter_cons, if_pos (by simp [e]), List.cons_append]
        rw [List.flatMap_cons] at ih
        rw [ih]
      · rename_i hne
        have hnot : ∀ c ∈ b :: t, c ≠ x.area := by
          intro c hc e
          rcases List.mem_cons.1 hc with hc | hc
          · exact hne (by omega)
          · have h5 := hs1 c hc
            have hbm : b ∈ areasR l := by rw [hq]; exact List.mem_cons_self ..
            obtain ⟨s2, hs2', e2⟩ := areas_mem.1 hbm
            have := h1 s2 hs2'
            unfold before at this; omega
        rw [List.flatMap_cons, hoth (b :: t) hnot, ih]
        rw [List.filter_cons, if_pos (by simp)]
        have : l.filter (fun s => decide (s.area = x.area)) = [] := by
          rw [List.filter_eq_nil_iff]
          intro s hs' e
          simp at e
          have : s.area ∈ areasR l := areas_mem.2 ⟨s, hs', rfl⟩
          rw [hq] at this
          exact hnot _ this e
        rw [this]; rfl
theorem cnt_all {l : List RSec} (h : Srt l) : ((areasR l).map (cntR l)).sum = l.length := by
  have := congrArg List.length (areas_flat h)
  rw [List.length_flatMap] at this
  exact this
theorem areas_nodup {l : List RSec} (h : Srt l) : (areasR l).Nodup := (areas_srt h).imp fun {a b} hab => by omega
/-- within bounds -/
theorem fit_of {st : DSt} {r : RSt} {R : Int} {i : Nat} {w : World} {v : Value} {q : List (RSec × Value)} (h : RelD st r) (hF : FitS st R i) (hi : i ≤ 4398046511000) (hR : R ≤ 9223372036854775807) (hq : RDisk w v r q) (hl : r.l.length < 2932031007390) : FitR r q := by
  refine ⟨?_, ?_, ?_, h.left2, ?_, fun x hx => ?_⟩
  · have : q.length = r.l.length := by rw [← hq.2, List.length_map]
    omega
  · have := hF.steps; rw [h.steps]; omega
  · intro e
    rw [h.armed, decide_eq_true_iff] at e
    rw [h.left e]; exact e
  · have h1 := hF.sum (areasR r.l) (areas_nodup h.srt)
    have h2 : (areasR r.l).map st.N = (areasR r.l).map (cntR r.l) := List.map_congr_left fun a _ => h.N a
    rw [h2, cnt_all h.srt] at h1
    have h3 : q.length = r.l.length := by rw [← hq.2, List.length_map]
    have h4 := hF.room
    rw [h.room]
    omega
  · have hm : x.1 ∈ r.l := by rw [← hq.2]; exact List.mem_map.2 ⟨x, hx, rfl⟩
    have hf := find_mem h.srt hm
    rw [← h.F] at hf
    have := hF.V _ _ _ _ hf
    omega
/-- the disk behind so many calls -/
noncomputable def runS (f : Nat → OpR) (room : Int) : Nat → DSt
  | 0 => newSt room
  | i + 1 => doS (runS f room i) (f i).k (f i).a (f i).n (f i).l
end Go.Proofs.Yteidmneenfdafaa.R
