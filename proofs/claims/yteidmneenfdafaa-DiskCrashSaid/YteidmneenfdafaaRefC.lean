/-
  RefBeg + RefRel + RefWrote.
-/
import Derived.Test.YteidmneenfdafaaRefB
import Derived.Test.YteidmneenfdafaaDskFit
import Derived.Test.YteidmneenfdafaaDskOpen
import Derived.Test.YteidmneenfdafaaDskAlive
namespace Go.Proofs.Yteidmneenfdafaa.R
open Go.RowKit
open Aid K
set_option linter.unusedSimpArgs false
set_option linter.unusedVariables false

def before (x y : RSec) : Prop := x.area < y.area ∨ x.area = y.area ∧ x.n < y.n
def Srt (l : List RSec) : Prop := l.Pairwise before
def keyR (a n : Int) (s : RSec) : Bool := decide (s.area = a ∧ s.n = n)
def findR (l : List RSec) (a n : Int) : Option Sec := (l.find? (keyR a n)).map fun s => (s.L, s.sync)
def cntR (l : List RSec) (a : Int) : Nat := (l.filter fun s => decide (s.area = a)).length
/-- a sector in its place -/
def insR (s : RSec) : List RSec → List RSec
  | [] => [s]
  | x :: l => if sameR x s = true then s :: l else if behindR x s = true then s :: x :: l else x :: insR s l
theorem same_iff {x s : RSec} : sameR x s = true ↔ x.area = s.area ∧ x.n = s.n := by unfold sameR; simp
theorem behind_iff {x s : RSec} : behindR x s = true ↔ before s x := by
  unfold behindR before
  rw [decide_eq_true_iff]
  constructor
  · rintro (h | ⟨h1, h2⟩)
    · exact .inl h
    · exact .inr ⟨h1.symm, h2⟩
  · rintro (h | ⟨h1, h2⟩)
    · exact .inl h
    · exact .inr ⟨h1.symm, h2⟩
theorem fold_done (s : RSec) : ∀ (l : List RSec) (acc : List RSec), (∀ x ∈ l, sameR x s = false) → l.foldl (putStepR s) (acc, true) = (acc ++ l, true)
  | [], acc, _ => by simp
  | x :: l, acc, h => by
    have hx := h x (List.mem_cons_self ..)
    have hst : putStepR s (acc, true) x = (acc ++ [x], true) := by unfold putStepR; simp [hx]
    rw [List.foldl_cons, hst, fold_done s l _ (fun y hy => h y (List.mem_cons_of_mem _ hy))]
    simp
theorem fold_ins (s : RSec) : ∀ (l : List RSec) (acc : List RSec), Srt l → (let c := l.foldl (putStepR s) (acc, false); if c.2 = true then c.1 else c.1 ++ [s]) = acc ++ insR s l
  | [], acc, _ => by simp [insR]
  | x :: l, acc, h => by
    obtain ⟨h1, h2⟩ := List.pairwise_cons.1 h
    rw [List.foldl_cons]
    by_cases hs : sameR x s = true
    · have hst : putStepR s (acc, false) x = (acc ++ [s], true) := by unfold putStepR; simp [hs]
      have hno : ∀ y ∈ l, sameR y s = false := fun y hy => by
        have hb := h1 y hy
        have hk := same_iff.1 hs
        rw [Bool.eq_false_iff]
        intro e
        have he := same_iff.1 e
        unfold before at hb
        omega
      rw [hst, fold_done s l _ hno]
      simp [insR, hs]
    · have hs' : sameR x s = false := by simpa using hs
      by_cases hb : behindR x s = true
      · have hst : putStepR s (acc, false) x = (acc ++ [s] ++ [x], true) := by unfold putStepR; simp [hs', hb]
        have hno : ∀ y ∈ l, sameR y s = false := fun y hy => by
          have hb1 := h1 y hy
          have hk := behind_iff.1 hb
          rw [Bool.eq_false_iff]
          intro e
          have he := same_iff.1 e
          unfold before at hb1 hk
          omega
        rw [hst, fold_done s l _ hno]
        simp [insR, hs', hb]
      · have hb' : behindR x s = false := by simpa using hb
        have hst : putStepR s (acc, false) x = (acc ++ [x], false) := by unfold putStepR; simp [hs', hb']
        rw [hst, fold_ins s l _ h2]
        simp [insR, hs', hb']
theorem put_ins {l : List RSec} (h : Srt l) (s : RSec) : putR l s = insR s l := by
  have := fold_ins s l [] h
  simpa [putR] using this
theorem ins_mem {s x : RSec} : ∀ {l : List RSec}, x ∈ insR s l → x = s ∨ x ∈ l
  | [], h => by simp [insR] at h; exact .inl h
  | y :: l, h => by
    unfold insR at h
    split at h
    · rcases List.mem_cons.1 h with h | h
      · exact .inl h
      · exact .inr (List.mem_cons_of_mem _ h)
    · split at h
      · rcases List.mem_cons.1 h with h | h
        · exact .inl h
        · exact .inr h
      · rcases List.mem_cons.1 h with h | h
        · exact .inr (by rw [h]; exact List.mem_cons_self ..)
        · rcases ins_mem h with h | h
          · exact .inl h
          · exact .inr (List.mem_cons_of_mem _ h)
theorem before_trans {x y z : RSec} (h : before x y) (k : before y z) : before x z := by unfold before at *; omega
theorem ins_srt {s : RSec} : ∀ {l : List RSec}, Srt l → Srt (insR s l)
  | [], _ => by simp [insR, Srt]
  | y :: l, h => by
    obtain ⟨h1, h2⟩ := List.pairwise_cons.1 h
    unfold insR
    split
    · rename_i hs
      have hk := same_iff.1 hs
      exact List.pairwise_cons.2 ⟨fun z hz => by have := h1 z hz; unfold before at *; omega, h2⟩
    · split
      · rename_i hs hb
        have hk := behind_iff.1 hb
        exact List.pairwise_cons.2 ⟨fun z hz => by
          rcases List.mem_cons.1 hz with hz | hz
          · rw [hz]; exact hk
          · exact before_trans hk (h1 z hz), h⟩
      · rename_i hs hb
        refine List.pairwise_cons.2 ⟨fun z hz => ?_, ins_srt h2⟩
        rcases ins_mem hz with hz | hz
        · rw [hz]
          have a1 : ¬ (y.area = s.area ∧ y.n = s.n) := fun e => hs (same_iff.2 e)
          have a2 : ¬ before s y := fun e => hb (behind_iff.2 e)
          unfold before at *; omega
        · exact h1 z hz
theorem ins_find {s : RSec} (a n : Int) : ∀ {l : List RSec}, findR (insR s l) a n = if a = s.area ∧ n = s.n then some (s.L, s.sync) else findR l a n
  | [] => by
    unfold findR insR keyR
    by_cases h : a = s.area ∧ n = s.n
    · obtain ⟨rfl, rfl⟩ := h; simp
    · have h' : ¬ (s.area = a ∧ s.n = n) := fun e => h ⟨e.1.symm, e.2.symm⟩
      rw [if_neg h]; simp [h']
  | y :: l => by
    have ih := ins_find (s := s) a n (l := l)
    unfold insR
    by_cases h : a = s.area ∧ n = s.n
    · obtain ⟨rfl, rfl⟩ := h
      rw [if_pos (⟨rfl, rfl⟩ : s.area = s.area ∧ s.n = s.n)] at ih ⊢
      split
      · simp [findR, keyR]
      · split
        · simp [findR, keyR]
        · rename_i hs hb
          have a1 : ¬ (y.area = s.area ∧ y.n = s.n) := fun e => hs (same_iff.2 e)
          have : findR (y :: insR s l) s.area s.n = findR (insR s l) s.area s.n := by unfold findR; rw [List.find?_cons_of_neg (by unfold keyR; simpa using a1)]
          rw [this]; exact ih
    · rw [if_neg h] at ih ⊢
      have h' : ¬ (keyR a n s = true) := by unfold keyR; simp; exact fun e1 e2 => h ⟨e1.symm, e2.symm⟩
      split
      · rename_i hs
        have hk := same_iff.1 hs
        have h2 : ¬ (keyR a n y = true) := by unfold keyR; simp; exact fun e1 e2 => h ⟨by omega, by omega⟩
        unfold findR
        rw [List.find?_cons_of_neg h', List.find?_cons_of_neg h2]
      · split
        · unfold findR
          rw [List.find?_cons_of_neg h']
        · by_cases hy : keyR a n y = true
          · unfold findR; rw [List.find?_cons_of_pos hy, List.find?_cons_of_pos hy]
          · unfold findR at ih ⊢
            rw [List.find?_cons_of_neg hy, List.find?_cons_of_neg hy]; exact ih
theorem find_none {l : List RSec} {a n : Int} : findR l a n = none ↔ ∀ s ∈ l, ¬ (s.area = a ∧ s.n = n) := by
  unfold findR
  rw [Option.map_eq_none_iff, List.find?_eq_none]
  refine forall_congr' fun s => forall_congr' fun hs => ?_
  unfold keyR; simp
theorem find_mem {l : List RSec} (h : Srt l) {s : RSec} (hs : s ∈ l) : findR l s.area s.n = some (s.L, s.sync) := by
  induction l with
  | nil => cases hs
  | cons y l ih =>
    obtain ⟨h1, h2⟩ := List.pairwise_cons.1 h
    rcases List.mem_cons.1 hs with rfl | hs
    · unfold findR; rw [List.find?_cons_of_pos (by unfold keyR; simp)]; rfl
    · have hb := h1 s hs
      have : ¬ (keyR s.area s.n y = true) := by unfold keyR; simp; intro e1 e2; unfold before at hb; omega
      have ih := ih h2 hs
      unfold findR at ih ⊢
      rw [List.find?_cons_of_neg this]; exact ih
theorem find_some {l : List RSec} {a n : Int} {sec : Sec} (h : findR l a n = some sec) : ∃ s ∈ l, s.area = a ∧ s.n = n ∧ sec = (s.L, s.sync) := by
  unfold findR at h
  obtain ⟨s, h1, h2⟩ := Option.map_eq_some_iff.1 h
  have h3 := List.find?_some h1
  unfold keyR at h3
  rw [decide_eq_true_iff] at h3
  exact ⟨s, List.mem_of_find?_eq_some h1, h3.1, h3.2, h2.symm⟩
theorem cnt_cons (x : RSec) (l : List RSec) (a : Int) : cntR (x :: l) a = (if x.area = a then 1 else 0) + cntR l a := by
  unfold cntR
  rw [List.filter_cons]
  by_cases h : x.area = a
  · simp [h]; omega
  · simp [h]
theorem ins_cnt {s : RSec} (a : Int) : ∀ {l : List RSec}, Srt l → cntR (insR s l) a = if a = s.area then (if (findR l s.area s.n).isSome then cntR l a else cntR l a + 1) else cntR l a
  | [], _ => by
    unfold insR
    rw [cnt_cons]
    by_cases h : a = s.area
    · subst h; simp [findR, cntR]
    · rw [if_neg (fun e => h e.symm), if_neg h]; omega
  | y :: l, h => by
    obtain ⟨h1, h2⟩ := List.pairwise_cons.1 h
    have ih := ins_cnt (s := s) a (l := l) h2
    unfold insR
    split
    · rename_i hs
      have hk := same_iff.1 hs
      have hf : (findR (y :: l) s.area s.n).isSome = true := by unfold findR; rw [List.find?_cons_of_pos (by unfold keyR; simp [hk])]; rfl
      rw [hf, cnt_cons, cnt_cons, hk.1]
      by_cases ha : a = s.area
      · rw [if_pos ha, if_pos rfl]
      · rw [if_neg ha]
    · split
      · rename_i hs hb
        have hk := behind_iff.1 hb
        have hf : findR (y :: l) s.area s.n = none := by
          rw [find_none]
          intro z hz e
          rcases List.mem_cons.1 hz with hz | hz
          · rw [hz] at e; unfold before at hk; omega
          · have := h1 z hz; unfold before at *; omega
        rw [hf, cnt_cons]
        by_cases ha : a = s.area
        · rw [if_pos ha.symm, if_pos ha]; simp; omega
        · rw [if_neg (fun e => ha e.symm), if_neg ha]; omega
      · rename_i hs hb
        have a1 : ¬ (keyR s.area s.n y = true) := by unfold keyR; simp; exact fun e1 e2 => hs (same_iff.2 ⟨e1, e2⟩)
        have hf : findR (y :: l) s.area s.n = findR l s.area s.n := by unfold findR; rw [List.find?_cons_of_neg a1]
        rw [hf, cnt_cons, cnt_cons, ih]
        by_cases ha : a = s.area
        · rw [if_pos ha, if_pos ha]
          generalize (if y.area = a then 1 else 0) = c
          cases (findR l s.area s.n).isSome
          · simp; omega
          · simp
        · rw [if_neg ha, if_neg ha]
theorem ins_len {s : RSec} : ∀ {l : List RSec}, (insR s l).length ≤ l.length + 1
  | [] => by simp [insR]
  | y :: l => by
    have := ins_len (s := s) (l := l)
    unfold insR
    split
    · simp
    · split
      · simp
      · simp; omega
theorem sync_find (l : List RSec) (b a n : Int) : findR (syncL l b) a n = if a = b then (findR l a n).map lastS else findR l a n := by
  induction l with
  | nil => simp [syncL, findR]
  | cons x l ih =>
    unfold syncL at ih ⊢
    rw [List.map_cons]
    by_cases hk : keyR a n x = true
    · have hk2 := hk
      unfold keyR at hk2
      rw [decide_eq_true_iff] at hk2
      have hk' : keyR a n (syncX b x) = true := by
        unfold keyR syncX
        split
        · rename_i e; simp; exact ⟨by omega, hk2.2⟩
        · simpa using hk2
      unfold findR
      rw [List.find?_cons_of_pos hk, List.find?_cons_of_pos hk']
      unfold syncX lastS
      by_cases h : a = b
      · rw [if_pos h, if_pos (by omega)]; rfl
      · rw [if_neg h, if_neg (by omega)]
    · have hk' : ¬ (keyR a n (syncX b x) = true) := by
        intro e
        apply hk
        unfold keyR syncX at *
        split at e
        · rename_i e1; simp at e ⊢; exact ⟨by omega, e.2⟩
        · exact e
      unfold findR at ih ⊢
      rw [List.find?_cons_of_neg hk, List.find?_cons_of_neg hk']; exact ih
theorem sync_key (b : Int) (x : RSec) : (syncX b x).area = x.area ∧ (syncX b x).n = x.n := by
  unfold syncX; split
  · rename_i e; exact ⟨e.symm, rfl⟩
  · exact ⟨rfl, rfl⟩
theorem sync_cnt (l : List RSec) (b a : Int) : cntR (syncL l b) a = cntR l a := by
  induction l with
  | nil => rfl
  | cons x l ih =>
    unfold syncL at ih ⊢
    rw [List.map_cons, cnt_cons, cnt_cons, ih, (sync_key b x).1]
theorem sync_srt {l : List RSec} (h : Srt l) (b : Int) : Srt (syncL l b) := by
  unfold Srt syncL
  rw [List.pairwise_map]
  refine List.Pairwise.imp (fun {x y} hxy => ?_) h
  have h1 := sync_key b x
  have h2 := sync_key b y
  unfold before at *
  omega
theorem free_find (l : List RSec) (b a n : Int) : findR (freeL l b) a n = if a = b then none else findR l a n := by
  unfold freeL
  induction l with
  | nil => simp [findR]
  | cons x l ih =>
    rw [List.filter_cons]
    by_cases hx : x.area = b
    · simp only [hx, ne_eq, not_true_eq_false, decide_false, Bool.false_eq_true, if_false]
      rw [ih]
      by_cases h : a = b
      · rw [if_pos h, if_pos h]
      · rw [if_neg h, if_neg h]
        unfold findR
        rw [List.find?_cons_of_neg (by unfold keyR; simp; intro e; omega)]
    · simp only [ne_eq, hx, not_false_eq_true, decide_true, if_true]
      by_cases hk : keyR a n x = true
      · have hk2 := hk
        unfold keyR at hk2
        rw [decide_eq_true_iff] at hk2
        unfold findR
        rw [List.find?_cons_of_pos hk, List.find?_cons_of_pos hk, if_neg (by omega)]
      · unfold findR at ih ⊢
        rw [List.find?_cons_of_neg hk, List.find?_cons_of_neg hk]; exact ih
theorem free_cnt (l : List RSec) (b a : Int) : cntR (freeL l b) a = if a = b then 0 else cntR l a := by
  unfold freeL
  induction l with
  | nil => simp [cntR]
  | cons x l ih =>
    rw [List.filter_cons]
    by_cases hx : x.area = b
    · simp only [hx, ne_eq, not_true_eq_false, decide_false, Bool.false_eq_true, if_false]
      rw [ih, cnt_cons]
      by_cases h : a = b
      · rw [if_pos h, if_pos h]
      · rw [if_neg h, if_neg h, if_neg (by omega)]; omega
    · simp only [ne_eq, hx, not_false_eq_true, decide_true, if_true]
      rw [cnt_cons, cnt_cons, ih]
      by_cases h : a = b
      · rw [if_pos h, if_pos h, if_neg (by omega)]
      · rw [if_neg h, if_neg h]
theorem free_len (l : List RSec) (b : Int) : l.length - (freeL l b).length = cntR l b ∧ (freeL l b).length ≤ l.length := by
  unfold freeL
  induction l with
  | nil => simp [cntR]
  | cons x l ih =>
    rw [List.filter_cons, cnt_cons]
    by_cases hx : x.area = b
    · rw [if_neg (by simp [hx]), if_pos hx, List.length_cons]; omega
    · rw [if_pos (by simp [hx]), if_neg hx, List.length_cons, List.length_cons]; omega
theorem free_srt {l : List RSec} (h : Srt l) (b : Int) : Srt (freeL l b) := List.Pairwise.filter _ h

/-- the disk is as the document's -/
structure RelD (st : DSt) (r : RSt) : Prop where
  room : r.room = st.room
  steps : r.steps = st.steps
  dead : r.dead = st.dead
  armed : r.armed = decide (0 ≤ st.left)
  left : 0 ≤ st.left → r.left = st.left
  left2 : r.left ≤ 9223372036854775807
  srt : Srt r.l
  wf : ∀ s ∈ r.l, (Lit.int .u64 s.area).wf = true ∧ 0 ≤ s.n ∧ s.n < 65536
  F : ∀ a n, st.F a n = findR r.l a n
  N : ∀ a, st.N a = cntR r.l a
  A : ∀ a, st.A a = decide (0 < cntR r.l a)
theorem RelD.new (room : Int) : RelD (newSt room) (newR room) :=
  ⟨rfl, rfl, rfl, rfl, fun h => absurd h (by show ¬ ((0 : Int) ≤ -1); decide), by show (0 : Int) ≤ _; decide, List.Pairwise.nil, fun s hs => (nomatch hs), fun _ _ => rfl, fun _ => rfl, fun _ => rfl⟩
theorem RelD.step {st : DSt} {r : RSt} (h : RelD st r) (hd : st.dead = false) : RelD (stepF st) (stepR r) ∧ (stepF st).dead = diesR r := by
  have hdie : (stepF st).dead = diesR r := by
    unfold diesR
    rw [h.armed]
    show decide (st.left = 0) = _
    by_cases h0 : 0 ≤ st.left
    · rw [h.left h0]; simp [h0]
    · have : ¬ st.left = 0 := by omega
      simp [h0, this]
  refine ⟨⟨h.room, by show r.steps + 1 = st.steps + 1; rw [h.steps], ?_, ?_, ?_, ?_, h.srt, h.wf, h.F, h.N, h.A⟩, hdie⟩
  · show (r.dead || diesR r) = _
    rw [h.dead, hd, hdie]; rfl
  · show r.armed = decide (0 ≤ if 0 < st.left then st.left - 1 else st.left)
    rw [h.armed]
    rw [decide_eq_decide]
    split <;> omega
  · intro h0
    have h0' : 0 ≤ if 0 < st.left then st.left - 1 else st.left := h0
    have h1 : 0 ≤ st.left := by split at h0' <;> omega
    show (if r.armed = true ∧ r.left ≠ 0 then r.left - 1 else r.left) = if 0 < st.left then st.left - 1 else st.left
    rw [h.armed, h.left h1]
    by_cases h2 : 0 < st.left
    · rw [if_pos ⟨by simp [h1], by omega⟩, if_pos h2]
    · rw [if_neg (fun e => e.2 (by omega)), if_neg h2]
  · show (if r.armed = true ∧ r.left ≠ 0 then r.left - 1 else r.left) ≤ _
    have := h.left2
    split <;> omega
theorem RelD.arm {st : DSt} {r : RSt} (h : RelD st r) {n : Int} (hn : n ≤ 9223372036854775807) : RelD (armF st n) (armR r n) := by
  unfold armF armR
  rw [h.dead]
  by_cases hd : st.dead = true
  · rw [if_pos hd, if_pos hd]; exact h
  · rw [if_neg hd, if_neg hd]
    refine ⟨h.room, h.steps, rfl, ?_, ?_, hn, h.srt, h.wf, h.F, h.N, h.A⟩
    · show decide (0 ≤ n) = decide (0 ≤ max n (-1))
      rw [decide_eq_decide]; omega
    · show 0 ≤ max n (-1) → n = max n (-1)
      omega
/-- a sector is put -/
theorem RelD.put {st st' : DSt} {r r' : RSt} (h : RelD st r) {a n : Int} {s : RSec} (hr : r'.l = putR r.l s) (r1 : r'.room = st'.room) (r2 : r'.steps = st.steps) (r3 : r'.dead = r.dead) (r4 : r'.armed = r.armed) (r5 : r'.left = r.left)
    (hs1 : s.area = a) (hs2 : s.n = n) (hw : (Lit.int .u64 a).wf = true) (hn : 0 ≤ n ∧ n < 65536) (e2 : st'.steps = st.steps) (e3 : st'.dead = st.dead) (e4 : st'.left = st.left) (hF : st'.F = st.F) (hN : st'.N = st.N) (hA : ∀ b, st'.A b = (st.A b || decide (b = a))) : RelD (putS st' a n (s.L, s.sync)) r' := by
  have hp := put_ins h.srt s
  rw [hp] at hr
  subst hs1 hs2
  refine ⟨r1, by rw [r2]; exact e2.symm, by rw [r3, h.dead]; exact e3.symm, ?_, ?_, by rw [r5]; exact h.left2, by rw [hr]; exact ins_srt h.srt, fun x hx => ?_, fun b m => ?_, fun b => ?_, fun b => ?_⟩
  · rw [r4, h.armed]; show _ = decide (0 ≤ st'.left); rw [e4]
  · intro h0
    have h0' : 0 ≤ st'.left := h0
    rw [e4] at h0'
    rw [r5, h.left h0']; exact e4.symm
  · rw [hr] at hx
    rcases ins_mem hx with hx | hx
    · rw [hx]; exact ⟨hw, hn⟩
    · exact h.wf x hx
  · rw [hr, ins_find]
    show updF st'.F s.area s.n (some (s.L, s.sync)) b m = _
    rw [hF]
    unfold updF
    by_cases hb : b = s.area
    · by_cases hm : m = s.n
      · subst hb hm; simp
      · subst hb; simp [hm, h.F]
    · simp [hb, h.F]
  · rw [hr, ins_cnt b h.srt]
    show updN st'.N s.area (if (st'.F s.area s.n).isSome = true then st'.N s.area else st'.N s.area + 1) b = _
    rw [hF, hN, h.F, h.N]
    unfold updN
    by_cases hb : b = s.area
    · rw [if_pos hb, if_pos hb, hb]
    · rw [if_neg hb, if_neg hb, h.N]
  · rw [hr, ins_cnt b h.srt]
    show st'.A b = _
    rw [hA, h.A]
    by_cases hb : b = s.area
    · rw [if_pos hb]
      subst hb
      simp only [decide_true, Bool.or_true]
      symm
      rw [decide_eq_true_iff]
      split
      · rename_i hf
        obtain ⟨sec, hsec⟩ := Option.isSome_iff_exists.1 hf
        obtain ⟨x, hx, hx1, hx2, _⟩ := find_some hsec
        unfold cntR
        exact List.length_pos_iff.2 (List.ne_nil_of_mem (List.mem_filter.2 ⟨hx, by simp [hx1]⟩))
      · omega
    · rw [if_neg hb]; simp [hb]
theorem answers {st : DSt} {r r' : RSt} {k a n x : Int} {l : List Int} (h : RelD st r) (hd : DoR r k a n l r' x) (ha : (Lit.int .u64 a).wf = true) (hn : (Lit.int .i64 n).wf = true) :
    RelD (doS st k a n l) r' ∧ doE st k a n l = x := by
  have hn2 : n ≤ 9223372036854775807 := by
    have := hn
    simp [Lit.wf, IntKind.min, IntKind.max, IntKind.signed, IntKind.bits] at this
    omega
  cases hd with
  | write h0 hw =>
    subst h0
    unfold doS doE
    rw [if_pos rfl, if_pos rfl]
    cases hw with
    | dead h1 =>
      rw [h.dead] at h1
      have hb : BadW st a n l := .inl h1
      rw [if_pos hb, if_pos hb, if_pos h1]
      exact ⟨h, rfl⟩
    | form h1 h2 =>
      rw [h.dead] at h1
      have hb : BadW st a n l := .inr (.inl h2)
      rw [if_pos hb, if_pos hb, if_neg (by rw [h1]; decide), if_pos (show n < 0 ∨ 65536 ≤ n ∨ 64 < l.length from h2)]
      exact ⟨h, rfl⟩
    | full h1 h2 h3 h4 =>
      rw [h.dead] at h1
      have hb : BadW st a n l := .inr (.inr ⟨by rw [h.F]; exact find_none.2 h3, by rw [← h.room]; exact h4⟩)
      rw [if_pos hb, if_pos hb, if_neg (by rw [h1]; decide), if_neg (show ¬ (n < 0 ∨ 65536 ≤ n ∨ 64 < l.length) from h2)]
      exact ⟨h, rfl⟩
    | fresh h1 h2 h3 h4 =>
      have h1' := h1
      rw [h.dead] at h1'
      have hF : st.F a n = none := by rw [h.F]; exact find_none.2 h3
      have hb : ¬ BadW st a n l := by
        rintro (e | e | ⟨_, e⟩)
        · rw [h1'] at e; cases e
        · exact h2 e
        · exact h4 (by rw [h.room]; exact e)
      rw [if_neg hb, if_neg hb]
      have hok : 0 ≤ n ∧ n < 65536 := by unfold BadR at h2; omega
      have hput : RelD (putS (if st.A a = true then { st with room := st.room - 1 } else openA { st with room := st.room - 1 } a) a n ([wholeI l], false)) { r with room := r.room - 1, l := putR r.l ⟨a, n, [wholeI l], false⟩ } := by
        by_cases hA : st.A a = true
        · rw [if_pos hA]
          exact h.put (s := ⟨a, n, [wholeI l], false⟩) (st' := { st with room := st.room - 1 }) rfl (by show r.room - 1 = st.room - 1; rw [h.room]) h.steps rfl rfl rfl rfl rfl ha hok rfl rfl rfl rfl rfl (fun b => by
            show st.A b = _
            by_cases hba : b = a
            · rw [hba, hA]; simp
            · simp [hba])
        · rw [if_neg hA]
          exact h.put (s := ⟨a, n, [wholeI l], false⟩) (st' := openA { st with room := st.room - 1 } a) rfl (by show r.room - 1 = st.room - 1; rw [h.room]) h.steps rfl rfl rfl rfl rfl ha hok rfl rfl rfl rfl rfl (fun b => by
            show updA st.A a true b = _
            unfold updA
            by_cases hba : b = a
            · simp [hba]
            · simp [hba])
      have hst := hput.step (by by_cases hA : st.A a = true; rw [if_pos hA]; exact h1'; rw [if_neg hA]; exact h1')
      have hw : writeF st a n l = stepF (putS (if st.A a = true then { st with room := st.room - 1 } else openA { st with room := st.room - 1 } a) a n ([wholeI l], false)) := by unfold writeF; rw [hF]
      rw [hw]
      refine ⟨hst.1, ?_⟩
      rw [hst.2]; rfl
    | again s h1 h2 h3 h4 h5 =>
      have h1' := h1
      rw [h.dead] at h1'
      have hF : st.F a n = some (s.L, s.sync) := by rw [h.F, ← h4, ← h5]; exact find_mem h.srt h3
      have hb : ¬ BadW st a n l := by
        rintro (e | e | ⟨e, _⟩)
        · rw [h1'] at e; cases e
        · exact h2 e
        · rw [hF] at e; cases e
      rw [if_neg hb, if_neg hb]
      have hok : 0 ≤ n ∧ n < 65536 := by unfold BadR at h2; omega
      have hput : RelD (putS st a n (s.L ++ [wholeI l], s.sync)) { r with l := putR r.l ⟨a, n, s.L ++ [wholeI l], s.sync⟩ } :=
        h.put (s := ⟨a, n, s.L ++ [wholeI l], s.sync⟩) (st' := st) rfl h.room h.steps rfl rfl rfl rfl rfl ha hok rfl rfl rfl rfl rfl (fun b => by
          by_cases hba : b = a
          · rw [hba, h.A]
            have : 0 < cntR r.l a := by
              unfold cntR
              exact List.length_pos_iff.2 (List.ne_nil_of_mem (List.mem_filter.2 ⟨h3, by simp [h4]⟩))
            simp [this]
          · simp [hba])
      have hst := hput.step h1'
      have hw : writeF st a n l = stepF (putS st a n (s.L ++ [wholeI l], s.sync)) := by unfold writeF; rw [hF]
      rw [hw]
      refine ⟨hst.1, ?_⟩
      rw [hst.2]; rfl
  | sync h0 hw =>
    subst h0
    unfold doS doE
    rw [if_neg (show ¬ ((1 : Int) = 0) by decide), if_pos (rfl : (1 : Int) = 1), if_neg (show ¬ ((1 : Int) = 0) by decide), if_pos (Or.inl rfl : (1 : Int) = 1 ∨ (1 : Int) = 2)]
    cases hw with
    | dead h1 =>
      rw [h.dead] at h1
      have ht : tickF st = st := by unfold tickF; rw [if_pos h1]
      rw [ht, if_pos h1, if_pos h1]
      exact ⟨h, rfl⟩
    | dies h1 h2 =>
      rw [h.dead] at h1
      have hst := h.step h1
      have hdd : (tickF st).dead = true := by rw [tick_alive h1, hst.2, h2]
      rw [if_pos hdd, if_pos hdd, tick_alive h1]
      exact ⟨hst.1, rfl⟩
    | good h1 h2 =>
      rw [h.dead] at h1
      have hst := h.step h1
      have hdd : (tickF st).dead = false := by rw [tick_alive h1, hst.2, h2]
      rw [if_neg (by rw [hdd]; decide), if_neg (by rw [hdd]; decide)]
      refine ⟨⟨hst.1.room, hst.1.steps, hst.1.dead, hst.1.armed, hst.1.left, hst.1.left2, sync_srt h.srt a, fun s hs => ?_, fun b m => ?_, fun b => ?_, fun b => ?_⟩, rfl⟩
      · obtain ⟨y, hy, rfl⟩ := List.mem_map.1 hs
        have := h.wf y hy
        have hk := sync_key a y
        rw [hk.1, hk.2]; exact this
      · show (if b = a ∧ (fun _ => false) (Lit.int .i64 m) = false ∧ (Lit.int .i64 m).wf = true then ((stepF st).F a m).map lastS else (stepF st).F b m) = _
        rw [sync_find]
        show (if b = a ∧ (false = false) ∧ (Lit.int .i64 m).wf = true then (st.F a m).map lastS else st.F b m) = _
        by_cases hb : b = a
        · subst hb
          rw [if_pos rfl]
          by_cases hm : (Lit.int .i64 m).wf = true
          · rw [if_pos ⟨rfl, rfl, hm⟩, h.F]
          · rw [if_neg (fun e => hm e.2.2), h.F]
            have : findR r.l b m = none := by
              rw [find_none]
              intro s hs e
              apply hm
              have := h.wf s hs
              rw [← e.2]
              simp [Lit.wf, IntKind.min, IntKind.max, IntKind.signed, IntKind.bits]
              omega
            rw [this]; rfl
        · rw [if_neg (fun e => hb e.1), if_neg hb, h.F]
      · show st.N b = _
        rw [sync_cnt, h.N]
      · show st.A b = _
        rw [sync_cnt, h.A]
  | free h0 hw =>
    subst h0
    unfold doS doE
    rw [if_neg (show ¬ ((2 : Int) = 0) by decide), if_neg (show ¬ ((2 : Int) = 1) by decide), if_pos (rfl : (2 : Int) = 2), if_neg (show ¬ ((2 : Int) = 0) by decide), if_pos (Or.inr rfl : (2 : Int) = 1 ∨ (2 : Int) = 2)]
    cases hw with
    | dead h1 =>
      rw [h.dead] at h1
      have ht : tickF st = st := by unfold tickF; rw [if_pos h1]
      rw [ht, if_pos h1, if_pos h1]
      exact ⟨h, rfl⟩
    | dies h1 h2 =>
      rw [h.dead] at h1
      have hst := h.step h1
      have hdd : (tickF st).dead = true := by rw [tick_alive h1, hst.2, h2]
      rw [if_pos hdd, if_pos hdd, tick_alive h1]
      exact ⟨hst.1, rfl⟩
    | good h1 h2 =>
      rw [h.dead] at h1
      have hst := h.step h1
      have hdd : (tickF st).dead = false := by rw [tick_alive h1, hst.2, h2]
      rw [if_neg (by rw [hdd]; decide), if_neg (by rw [hdd]; decide)]
      refine ⟨⟨?_, hst.1.steps, hst.1.dead, hst.1.armed, hst.1.left, hst.1.left2, free_srt h.srt a, fun s hs => h.wf s (List.mem_filter.1 hs).1, fun b m => ?_, fun b => ?_, fun b => ?_⟩, rfl⟩
      · show r.room + ((r.l.length - (freeL r.l a).length : Nat) : Int) = st.room + (st.N a : Int)
        rw [h.room, (free_len r.l a).1, h.N]
      · show (if b = a then (fun _ => none) else st.F b) m = _
        rw [free_find]
        by_cases hb : b = a
        · rw [if_pos hb, if_pos hb]
        · rw [if_neg hb, if_neg hb, h.F]
      · show updN st.N a 0 b = _
        unfold updN
        rw [free_cnt]
        by_cases hb : b = a
        · rw [if_pos hb, if_pos hb]
        · rw [if_neg hb, if_neg hb, h.N]
      · show updA st.A a false b = _
        unfold updA
        rw [free_cnt]
        by_cases hb : b = a
        · rw [if_pos hb, if_pos hb]; rfl
        · rw [if_neg hb, if_neg hb, h.A]
  | arm h0 h1 h2 =>
    subst h0 h1 h2
    unfold doS doE
    rw [if_neg (show ¬ ((3 : Int) = 0) by decide), if_neg (show ¬ ((3 : Int) = 1) by decide), if_neg (show ¬ ((3 : Int) = 2) by decide), if_pos (rfl : (3 : Int) = 3), if_neg (show ¬ ((3 : Int) = 0) by decide), if_neg (show ¬ ((3 : Int) = 1 ∨ (3 : Int) = 2) by decide)]
    exact ⟨h.arm hn2, rfl⟩
  | none h0 h1 h2 h3 h4 h5 =>
    subst h4 h5
    unfold doS doE
    rw [if_neg h0, if_neg h1, if_neg h2, if_neg h3, if_neg h0, if_neg (fun e => e.elim h1 h2)]
    exact ⟨h, rfl⟩
theorem do_len {r r' : RSt} {k a n x : Int} {l : List Int} (hs : Srt r.l) (hd : DoR r k a n l r' x) : r'.l.length ≤ r.l.length + 1 := by
  cases hd with
  | write h0 hw =>
    cases hw with
    | dead h1 => omega
    | form h1 h2 => omega
    | full h1 h2 h3 h4 => omega
    | fresh h1 h2 h3 h4 => show (putR r.l _).length ≤ _; rw [put_ins hs]; exact ins_len
    | again s h1 h2 h3 h4 h5 => show (putR r.l _).length ≤ _; rw [put_ins hs]; exact ins_len
  | sync h0 hw =>
    cases hw with
    | dead h1 => omega
    | dies h1 h2 => exact Nat.le_succ _
    | good h1 h2 => show (syncL r.l a).length ≤ _; unfold syncL; simp
  | free h0 hw =>
    cases hw with
    | dead h1 => omega
    | dies h1 h2 => exact Nat.le_succ _
    | good h1 h2 => show (freeL r.l a).length ≤ _; have := (free_len r.l a).2; omega
  | arm h0 h1 h2 => subst h1; unfold armR; split <;> exact Nat.le_succ _
  | none h0 h1 h2 h3 h4 h5 => subst h4; omega
/-- the areas of a list, each once -/
def areasR : List RSec → List Int
  | [] => []
  | x :: l => match areasR l with
    | [] => [x.area]
    | b :: t => if x.area = b then b :: t else x.area :: b :: t
theorem areas_head (x : RSec) (l : List RSec) : ∃ t, areasR (x :: l) = x.area :: t := by
  unfold areasR
  split
  · exact ⟨_, rfl⟩
  · split
    · rename_i h; exact ⟨_, by rw [h]⟩
    · exact ⟨_, rfl⟩
theorem areas_mem {a : Int} : ∀ {l : List RSec}, a ∈ areasR l ↔ ∃ s ∈ l, s.area = a
  | [] => by simp [areasR]
  | x :: l => by
    have ih := areas_mem (a := a) (l := l)
    unfold areasR
    cases hq : areasR l with
    | nil =>
      rw [hq] at ih
      constructor
      · intro h; exact ⟨x, List.mem_cons_self .., (List.mem_singleton.1 h).symm⟩
      · rintro ⟨s, hs, rfl⟩
        rcases List.mem_cons.1 hs with hs | hs
        · rw [hs]; exact List.mem_singleton.2 rfl
        · have := ih.2 ⟨s, hs, rfl⟩; cases this
    | cons b t =>
      rw [hq] at ih
      have key : a ∈ x.area :: b :: t ↔ ∃ s ∈ x :: l, s.area = a := by
        constructor
        · intro h
          rcases List.mem_cons.1 h with h | h
          · exact ⟨x, List.mem_cons_self .., h.symm⟩
          · obtain ⟨s, hs, e⟩ := ih.1 h
            exact ⟨s, List.mem_cons_of_mem _ hs, e⟩
        · rintro ⟨s, hs, rfl⟩
          rcases List.mem_cons.1 hs with hs | hs
          · rw [hs]; exact List.mem_cons_self ..
          · exact List.mem_cons_of_mem _ (ih.2 ⟨s, hs, rfl⟩)
      show a ∈ (if x.area = b then b :: t else x.area :: b :: t) ↔ _
      split
      · rename_i e
        rw [← key, e]
        simp
      · exact key
theorem areas_srt : ∀ {l : List RSec}, Srt l → (areasR l).Pairwise (fun a b => a < b)
  | [], _ => List.Pairwise.nil
  | x :: l, h => by
    obtain ⟨h1, h2⟩ := List.pairwise_cons.1 h
    have ih := areas_srt h2
    unfold areasR
    cases hq : areasR l with
    | nil => exact List.pairwise_singleton ..
    | cons b t =>
      rw [hq] at ih
      show List.Pairwise _ (if x.area = b then b :: t else x.area :: b :: t)
      split
      · exact ih
      · rename_i hne
        refine List.pairwise_cons.2 ⟨fun c hc => ?_, ih⟩
        rw [← hq] at hc
        obtain ⟨s, hs, rfl⟩ := areas_mem.1 hc
        have hb := h1 s hs
        have hbm : b ∈ areasR l := by rw [hq]; exact List.mem_cons_self ..
        obtain ⟨s2, hs2, e2⟩ := areas_mem.1 hbm
        have hb2 := h1 s2 hs2
        by_cases he : s.area = b
        · rw [he]; unfold before at *; omega
        · have : s.area ∈ t := by
            rw [hq] at hc
            rcases List.mem_cons.1 hc with hc | hc
            · exact absurd hc he
            · exact hc
          have := (List.pairwise_cons.1 ih).1 _ this
          unfold before at *; omega
theorem areas_flat : ∀ {l : List RSec}, Srt l → (areasR l).flatMap (fun a => l.filter fun s => decide (s.area = a)) = l
  | [], _ => rfl
  | x :: l, h => by
    obtain ⟨h1, h2⟩ := List.pairwise_cons.1 h
    have ih := areas_flat h2
    have hs := areas_srt h2
    have hoth : ∀ (t : List Int), (∀ c ∈ t, c ≠ x.area) → t.flatMap (fun a => (x :: l).filter fun s => decide (s.area = a)) = t.flatMap (fun a => l.filter fun s => decide (s.area = a)) := by
      intro t ht
      induction t with
      | nil => rfl
      | cons c t iht =>
        rw [List.flatMap_cons, List.flatMap_cons, iht (fun d hd => ht d (List.mem_cons_of_mem _ hd))]
        rw [List.filter_cons, if_neg (by simp; exact fun e => ht c (List.mem_cons_self ..) e.symm)]
    unfold areasR
    cases hq : areasR l with
    | nil =>
      have hl : l = [] := by
        cases l with
        | nil => rfl
        | cons y l => obtain ⟨t, ht⟩ := areas_head y l; rw [ht] at hq; cases hq
      subst hl
      simp
    | cons b t =>
      rw [hq] at ih hs
      obtain ⟨hs1, hs2⟩ := List.pairwise_cons.1 hs
      show (if x.area = b then b :: t else x.area :: b :: t).flatMap _ = _
      split
      · rename_i e
        rw [List.flatMap_cons, hoth t (fun c hc e2 => by have := hs1 c hc; omega)]
        rw [List.filter_cons, if_pos (by simp [e]), List.cons_append]
        rw [List.flatMap_cons] at ih
        rw [ih]
      · rename_i hne
        have hnot : ∀ c ∈ b :: t, c ≠ x.area := by
          intro c hc e
          rcases List.mem_cons.1 hc with hc | hc
          · exact hne (by omega)
          · have h5 := hs1 c hc
            have hbm : b ∈ areasR l := by rw [hq]; exact List.mem_cons_self ..
            obtain ⟨s2, hs2', e2⟩ := areas_mem.1 hbm
            have := h1 s2 hs2'
            unfold before at this; omega
        rw [List.flatMap_cons, hoth (b :: t) hnot, ih]
        rw [List.filter_cons, if_pos (by simp)]
        have : l.filter (fun s => decide (s.area = x.area)) = [] := by
          rw [List.filter_eq_nil_iff]
          intro s hs' e
          simp at e
          have : s.area ∈ areasR l := areas_mem.2 ⟨s, hs', rfl⟩
          rw [hq] at this
          exact hnot _ this e
        rw [this]; rfl
theorem cnt_all {l : List RSec} (h : Srt l) : ((areasR l).map (cntR l)).sum = l.length := by
  have := congrArg List.length (areas_flat h)
  rw [List.length_flatMap] at this
  exact this
theorem areas_nodup {l : List RSec} (h : Srt l) : (areasR l).Nodup := (areas_srt h).imp fun {a b} hab => by omega
/-- within bounds -/
theorem fit_of {st : DSt} {r : RSt} {R : Int} {i : Nat} {w : World} {v : Value} {q : List (RSec × Value)} (h : RelD st r) (hF : FitS st R i) (hi : i ≤ 4398046511000) (hR : R ≤ 9223372036854775807) (hq : RDisk w v r q) (hl : r.l.length < 2932031007390) : FitR r q := by
  refine ⟨?_, ?_, ?_, h.left2, ?_, fun x hx => ?_⟩
  · have : q.length = r.l.length := by rw [← hq.2, List.length_map]
    omega
  · have := hF.steps; rw [h.steps]; omega
  · intro e
    rw [h.armed, decide_eq_true_iff] at e
    rw [h.left e]; exact e
  · have h1 := hF.sum (areasR r.l) (areas_nodup h.srt)
    have h2 : (areasR r.l).map st.N = (areasR r.l).map (cntR r.l) := List.map_congr_left fun a _ => h.N a
    rw [h2, cnt_all h.srt] at h1
    have h3 : q.length = r.l.length := by rw [← hq.2, List.length_map]
    have h4 := hF.room
    rw [h.room]
    omega
  · have hm : x.1 ∈ r.l := by rw [← hq.2]; exact List.mem_map.2 ⟨x, hx, rfl⟩
    have hf := find_mem h.srt hm
    rw [← h.F] at hf
    have := hF.V _ _ _ _ hf
    omega
end Go.Proofs.Yteidmneenfdafaa.R
namespace Go.Proofs.Yteidmneenfdafaa.R
open Go.RowKit
open Aid K
set_option linter.unusedSimpArgs false
set_option linter.unusedVariables false

theorem results_cell3 {P : Program} {fn : Func} {t p u : Tmp} {ty : TypeId} (h : fn.results = #[.tmp t, .cell p ty, .tmp u]) (tmps : Array Value) (w : World) (g : Nat) (hp : tmps.getD p undef = .pointer (some ⟨g, 0, none⟩)) (a b : Value) (ht : tmps.getD t undef = a) (hu2 : tmps.getD u undef = b)
    (T : TypeId) (vs : Array Value) (hb : Blk w g T vs) (d : TypeDesc) (hu : P.underlying ty = some d) (hd : aggD d = true) (hi : (P.info? ty).map (·.size) = some vs.size) :
    (results fn tmps).run P w = .ok (.tuple #[a, .agg vs, b]) w := by
  simp only [results, h]
  simp [Sem.run_bind, Result.andThen, hp, ht, hu2, asAddr, run_loadVar_cells w ty d hu hd g 0 vs hi hb.cells]
  rw [Array.getD_eq_getD_getElem?] at hp ht hu2
  simp [hp, ht, hu2, run_loadVar_cells w ty d hu hd g 0 vs hi hb.cells]
theorem Q.lt {w : World} {v : Value} {q : List (RSec × Value)} {k : Nat} (h : RowIs w v q) (hk : Q v q k) : k < w.heap.size := by
  rcases hk with ⟨b, n, c, hv, rfl⟩ | ⟨x, hx, b, n, c, hv, rfl⟩
  · rcases h.form with ⟨_, h1⟩ | ⟨g, cap, h1, h2, _⟩
    · rw [h1] at hv; cases hv
    · rw [h1] at hv
      simp only [Value.slice.injEq, Option.some.injEq] at hv
      rw [← hv.1]; exact h2
  · obtain ⟨⟨h0, a', cap, h1, h2, h3, h4⟩, hne⟩ := h.secs x hx
    obtain ⟨b', o, e1, e2, e3, e4⟩ := h4 0 (List.length_pos_iff.2 hne)
    rw [h1, e1] at hv
    simp only [Value.slice.injEq, Option.some.injEq] at hv
    rw [← hv.1]; exact e3
/-- the disk behind so many calls -/
noncomputable def runS (f : Nat → OpR) (room : Int) : Nat → DSt
  | 0 => newSt room
  | i + 1 => doS (runS f room i) (f i).k (f i).a (f i).n (f i).l
theorem six_keeps (w : World) (b : Nat) (x0 x1 x2 x3 x4 x5 : Value) : Keeps (fun k => k = b) w (six w b x0 x1 x2 x3 x4 x5) :=
  ⟨by unfold six; simp only [World.setCell], by unfold six; simp only [World.setCell], by unfold six; simp only [World.setCell], by rw [six_size]; exact Nat.le_refl _, fun k _ hne => six_heap _ _ _ _ _ _ hne⟩
theorem fit_new2 (room : Int) : FitS (newSt room) (max room 0) 0 := by
  have h := fit_new (room := max room 0) (by omega)
  have e : newSt (max room 0) = newSt room := by
    unfold newSt
    rw [show max (max room 0) 0 = max room 0 by omega]
  rwa [e] at h
structure BegIn (W0 : World) (E p : Nat) (st : DSt) (O : Nat → Prop) (r : RSt) (v : Value) (q : List (RSec × Value)) (R : Int) (i : Nat) (w : World) : Prop where
  d : DiskIs O w p st
  o : ∀ k, O k → W0.heap.size ≤ k ∧ k < w.heap.size
  oB : ¬ O W0.heap.size
  oE : ¬ O E
  fit : FitS st R i
  rel : RelD st r
  row : RDisk w v r q
  qo : ∀ k, Q v q k → ¬ O k
  len : r.l.length ≤ i
  bB : Blk w W0.heap.size 40 #[.int .i64 0, .int .i64 0, .int .i64 0, .bool false, .bool false, .slice none 0 0]
  bE : Blk w E 40 (diskR r v)
  hE : W0.heap.size < E
  below : Below W0.heap.size W0 w
def BegEnd (w : World) (st : DSt) (R : Int) (n : Nat) (e : Ending) (w' : World) : Prop := ∃ p O r v q, e = .returned (.tuple #[.pointer (some ⟨p, 0, none⟩), .agg (diskR r v), .bool true]) ∧ DiskIs O w' p st ∧ (∀ k, O k → w.heap.size ≤ k ∧ k < w'.heap.size) ∧ FitS st R n ∧ RelD st r ∧ RDisk w' v r q ∧ (∀ k, Q v q k → ¬ O k) ∧ r.l.length ≤ n ∧ Below w.heap.size w w'
set_option maxRecDepth 100000 in
set_option maxHeartbeats 8000000 in
theorem begun_any (room : Int) (v : Value) (n : Nat) (f : Nat → OpR) (w : World) (h : OpsAre w v n f) (hr1 : room ≤ 9223372036854775807) :
    Calls Try.prog 23 #[.int .i64 room, v] w (BegEnd w (runS f room n) (max room 0) n) := by
  have hn := h.1
  obtain ⟨a0, cap0, hv0, hel0⟩ := h.2
  subst hv0
  obtain ⟨B, hB⟩ : ∃ B, w.heap.size = B := ⟨_, rfl⟩
  obtain ⟨W0, hW0⟩ : ∃ W0, w.alloc (.cells #[.int .i64 0, .int .i64 0, .int .i64 0, .bool false, .bool false, .slice none 0 0] 40) = W0 := ⟨_, rfl⟩
  have bB0 : Blk W0 B 40 #[.int .i64 0, .int .i64 0, .int .i64 0, .bool false, .bool false, .slice none 0 0] := by rw [← hW0, ← hB]; exact Blk.alloc_new _ _ _
  have hB0 : Below w.heap.size w W0 := by rw [← hW0]; exact (Below.refl _ _).alloc (Nat.le_refl _) _
  have hz0 : W0.heap.size = B + 1 := by rw [← hW0, ← hB]; simp
  have HZ0 := Lib.hid hz0
  clear hz0
  go_enter Try.func23, Try.ntmps23
  go_wp2_with fail
  try rw [hW0]
  refine (new_fine room W0).mono ?_
  rintro e w1 ⟨p, O1, rfl, D1, hO1, hB1⟩
  go_wp2_with fail
  refine (rnew_any room w1).mono ?_
  rintro e w2 ⟨rfl, hB2⟩
  obtain ⟨E, hE⟩ : ∃ E, w2.heap.size = E := ⟨_, rfl⟩
  unfold newR diskR
  dsimp only
  go_wp2_with fail
  obtain ⟨W3, hW3⟩ : ∃ W3, w2.alloc (.cells #[.int .i64 (max room 0), .int .i64 0, .int .i64 0, .bool false, .bool false, .slice none 0 0] 40) = W3 := ⟨_, rfl⟩
  try rw [hW3]
  refine (alive_any W3).mono ?_
  rintro e w4 ⟨rfl, hB4⟩
  have hs1 := hB1.size
  have hs2 := hB2.size
  have hz3 : w2.heap.size < W3.heap.size := by rw [← hW3]; simp
  have hs4 := hB4.size
  have hz0 := HZ0.out
  have hb13 : Below w1.heap.size w1 W3 := by rw [← hW3]; exact hB2.trans ((Below.refl _ _).alloc hs2 _)
  have hb14 : Below w1.heap.size w1 w4 := hb13.trans (hB4.mono (by omega))
  have bE3 : Blk W3 E 40 #[.int .i64 (max room 0), .int .i64 0, .int .i64 0, .bool false, .bool false, .slice none 0 0] := by rw [← hW3, ← hE]; exact Blk.alloc_new _ _ _
  have bB4 : Blk w4 B 40 #[.int .i64 0, .int .i64 0, .int .i64 0, .bool false, .bool false, .slice none 0 0] := (bB0.below hB1 (by omega)).below hb14 (by omega)
  have hA0 : BegIn w E p (newSt room) O1 (newR room) (.slice none 0 0) [] (max room 0) 0 w4 := by
    refine ⟨D1.below hb14, fun k hk => ?_, fun hk => ?_, fun hk => ?_, fit_new2 room, RelD.new room, ⟨⟨.inl ⟨rfl, rfl⟩, fun x hx => (nomatch hx), by simp⟩, rfl⟩, fun k hk => ?_, Nat.le_refl _, by rw [hB]; exact bB4, ?_, by omega, ?_⟩
    · have := hO1 k hk; omega
    · have := hO1 _ hk; omega
    · have := hO1 _ hk; omega
    · rcases hk with ⟨b, m, c, hv, _⟩ | ⟨x, hx, _⟩
      · cases hv
      · cases hx
    · exact bE3.below hB4 (by omega)
    · rw [hB]
      have e0 : Below B w W0 := by rw [← hB]; exact hB0
      exact (e0.trans (hB1.mono (by omega))).trans (hb14.mono (by omega))
  clear D1 hO1 hB0 hB1 hB2 hB4 bB0 hW0 hW3 hE bE3 bB4 hb13 hb14 hs1 hs2 hz3 hs4 hz0
  have hlen : IntKind.i64.wrap (n : Int) = (n : Int) := IntWalk.i64_in _ (by omega)
  go_wp2_with fail
  go_loopw [26] (fun x26 wr => ∃ (i : Nat) (O : Nat → Prop) (r : RSt) (v : Value) (q : List (RSec × Value)), x26 = .int .i64 i ∧ i ≤ n ∧ BegIn w E p (runS f room i) O r v q (max room 0) i wr) (fun x26 _ => (n - intOf x26).toNat)
  case atStart => exact ⟨0, O1, newR room, .slice none 0 0, [], rfl, by omega, hA0⟩
  case round =>
    clear hA0
    obtain ⟨i, O, r, v, q, rfl, hi, hA⟩ := hrel
    by_cases hlt : (i : Int) < (n : Int)
    · have hiN : i < n := by omega
      obtain ⟨b, o, rfl, hb, hc0, hc1, hc2, hc3, hok⟩ := hel0 i hiN
      have hsr := hA.below.size
      have hc0' : wr.cell? ⟨b, o + i * 4, none⟩ = some (.int .i64 (f i).k) := (hA.below.cell (p := ⟨b, o + i * 4, none⟩) hb).trans hc0
      have hc1' : wr.cell? ⟨b, o + i * 4 + 1, none⟩ = some (.int .u64 (f i).a) := (hA.below.cell (p := ⟨b, o + i * 4 + 1, none⟩) hb).trans hc1
      have hc2' : wr.cell? ⟨b, o + i * 4 + 2, none⟩ = some (.int .i64 (f i).n) := (hA.below.cell (p := ⟨b, o + i * 4 + 2, none⟩) hb).trans hc2
      have hc3' : wr.cell? ⟨b, o + i * 4 + 3, none⟩ = some (f i).v := (hA.below.cell (p := ⟨b, o + i * 4 + 3, none⟩) hb).trans hc3
      have hok' : OpOk wr (f i) := hok.below hA.below
      have hrun : runS f room (i + 1) = doS (runS f room i) (f i).k (f i).a (f i).n (f i).l := rfl
      obtain ⟨x, hx⟩ : ∃ x, f i = x := ⟨_, rfl⟩
      rw [hx] at hc0' hc1' hc2' hc3' hok' hok hrun
      obtain ⟨k, a, m, vb, l⟩ := x
      simp only at hc0' hc1' hc2' hc3' hrun
      obtain ⟨va, vc, hve⟩ := Ints.form hok'.ints
      simp only at hve
      have hlv0 := hok.lt
      simp only at hlv0
      obtain ⟨vl, hvl⟩ : ∃ vl, l.length = vl := ⟨_, rfl⟩
      rw [hvl] at hve
      subst hve
      obtain ⟨st, hst⟩ : ∃ st, runS f room i = st := ⟨_, rfl⟩
      rw [hst] at hA hrun
      clear hc0 hc1 hc2 hc3
      obtain ⟨Z, hZ⟩ : ∃ Z, wr.heap.size = Z := ⟨_, rfl⟩
      obtain ⟨W1, hW1⟩ : ∃ W1, wr.alloc (.cells #[.int .i64 k, .int .u64 a, .int .i64 m, .slice va vl vc] 30) = W1 := ⟨_, rfl⟩
      have hb1 : Below wr.heap.size wr W1 := by rw [← hW1]; exact (Below.refl _ _).alloc (Nat.le_refl _) _
      have hBk : Blk W1 Z 30 #[.int .i64 k, .int .u64 a, .int .i64 m, .slice va vl vc] := by rw [← hW1, ← hZ]; exact Blk.alloc_new _ _ _
      obtain ⟨y0, y1, y2, y3⟩ := blk4 hBk
      have hsz1 : W1.heap.size = Z + 1 := by rw [← hW1, ← hZ]; simp
      obtain ⟨av, cv, hv⟩ := hA.row.1.slice
      subst hv
      obtain ⟨nq, hnq⟩ : ∃ nq, q.length = nq := ⟨_, rfl⟩
      obtain ⟨room1, steps, left, armed, dead, rl⟩ := r
      have bE1 : Blk W1 E 40 #[.int .i64 room1, .int .i64 steps, .int .i64 left, .bool armed, .bool dead, .slice av nq cv] := by
        have e := hA.bE.below hb1 (Blk.lt hA.bE)
        rw [hnq] at e
        exact e
      have hZE : E < Z := by have := Blk.lt hA.bE; omega
      obtain ⟨a0', a1, a2, a3, a4, a5⟩ := blk6 bE1
      have hrow1 : RDisk W1 (.slice av q.length cv) ⟨room1, steps, left, armed, dead, rl⟩ q := ⟨hA.row.1.below hb1, hA.row.2⟩
      have hfitr := fit_of hA.rel hA.fit (by omega) (by omega) hA.row (by have := hA.len; dsimp only at this ⊢; omega)
      have hdo := rdo_any ⟨room1, steps, left, armed, dead, rl⟩ (.slice av q.length cv) q k a m (.slice va vl vc) l W1 hrow1 hfitr (hok'.below hb1).ints hok.bytes
      unfold diskR at hdo
      dsimp only at hdo
      rw [hnq] at hdo
      have HA := Lib.hid hA
      have HDO := Lib.hid hdo
      have HOK := Lib.hid hok
      have HRUN := Lib.hid hrun
      have HST := Lib.hid hst
      have HB1 := Lib.hid hb1
      have HNQ := Lib.hid hnq
      have HLV := Lib.hid hlv0
      clear hA hdo hok hok' hrun hst hb1 hnq hlv0 hrow1 hfitr
      go_wp2_with fail
      refine HDO.out.mono ?_
      rintro e w2 ⟨v2, q2, r2, x, rfl, hans, hrow2, hq2, hb2⟩
      obtain ⟨a2', c2, hv2⟩ := hrow2.1.slice
      subst hv2
      obtain ⟨z1, z2, z3, z4, z5, z6⟩ := r2
      obtain ⟨n2, hn2⟩ : ∃ n2, q2.length = n2 := ⟨_, rfl⟩
      rw [hn2] at hrow2 hq2
      rw [hn2]
      unfold diskR
      dsimp only
      have hs2 := hb2.size
      have bE2 := bE1.below hb2 (by omega)
      have bZ2 := hBk.below hb2 (by omega)
      obtain ⟨X, hX⟩ : ∃ X, w2.heap.size = X := ⟨_, rfl⟩
      have hXZ : Z < X := by omega
      obtain ⟨W3, hW3⟩ : ∃ W3, w2.alloc (.cells #[.int .i64 z1, .int .i64 z2, .int .i64 z3, .bool z4, .bool z5, .slice a2' n2 c2] 40) = W3 := ⟨_, rfl⟩
      have hb3 : Below w2.heap.size w2 W3 := by rw [← hW3]; exact (Below.refl _ _).alloc (Nat.le_refl _) _
      have hs3 : W3.heap.size = X + 1 := by rw [← hW3, ← hX]; simp
      have bX3 : Blk W3 X 40 #[.int .i64 z1, .int .i64 z2, .int .i64 z3, .bool z4, .bool z5, .slice a2' n2 c2] := by rw [← hW3, ← hX]; exact Blk.alloc_new _ _ _
      have bE3 := bE2.below hb3 (by omega)
      have bZ3 := bZ2.below hb3 (by omega)
      obtain ⟨e0, e1, e2, e3, e4, e5⟩ := blk6 bE3
      obtain ⟨f0, f1, f2, f3, f4, f5⟩ := frees bE3
      obtain ⟨x0, x1, x2, x3, x4, x5⟩ := blk6 bX3
      obtain ⟨g0, g1, g2, g3⟩ := blk4 bZ3
      have HANS := Lib.hid hans
      have HROW := Lib.hid hrow2
      have HQ2 := Lib.hid hq2
      have HB2 := Lib.hid hb2
      have HB3 := Lib.hid hb3
      have HS3 := Lib.hid hs3
      have hZEn : Z ≠ E := by omega
      clear hans hrow2 hq2 hb2 hb3 hs3 hn2 bE1 bE2 bZ2 hBk y0 y1 y2 y3 a0' a1 a2 a3 a4 a5 hs2 hsz1
      go_wp2_with fail
      obtain ⟨W4, hW4⟩ : ∃ W4, six W3 E (.int .i64 z1) (.int .i64 z2) (.int .i64 z3) (.bool z4) (.bool z5) (.slice a2' n2 c2) = W4 := ⟨_, rfl⟩
      have hA := HA.out
      have hb1 := HB1.out
      have hb2 := HB2.out
      have hb3 := HB3.out
      have hs1 := hb1.size
      have hs2 := hb2.size
      have hs3 := HS3.out
      have hsr := hA.below.size
      have bE4 : Blk W4 E 40 #[.int .i64 z1, .int .i64 z2, .int .i64 z3, .bool z4, .bool z5, .slice a2' n2 c2] := by rw [← hW4]; exact six_blk bE3 _ _ _ _ _ _
      have k4 : Keeps (fun k => k = E) W3 W4 := by rw [← hW4]; exact six_keeps _ _ _ _ _ _ _ _
      have hs4 : W4.heap.size = X + 1 := by rw [← hW4, six_size]; exact hs3
      have D4 : DiskIs O W4 p st := (((hA.d.below hb1).below hb2).below hb3).keep k4 (fun k hk e => hA.oE (e ▸ hk))
      have hrow3 : RowIs W3 (.slice a2' n2 c2) q2 := HROW.out.1.below hb3
      have hrow4 : RowIs W4 (.slice a2' n2 c2) q2 := by rw [← hW4]; exact hrow3.six bE3 _ _ _ _ _ _
      have hbw4 : Below w.heap.size w W4 := by
        have e : Below w.heap.size w W3 := ((hA.below.trans (hb1.mono hsr)).trans (hb2.mono (by omega))).trans (hb3.mono (by omega))
        rw [← hW4]; exact six_below e (by have := hA.hE; omega) _ _ _ _ _ _
      have bB4 : Blk W4 w.heap.size 40 #[.int .i64 0, .int .i64 0, .int .i64 0, .bool false, .bool false, .slice none 0 0] := by
        have e := ((hA.bB.below hb1 (Blk.lt hA.bB)).below hb2 (by have := Blk.lt hA.bB; omega)).below hb3 (by have := Blk.lt hA.bB; omega)
        rw [← hW4]; exact six_other e (by have := hA.hE; omega) _ _ _ _ _ _
      have hok4 : OpOk W4 ⟨k, a, m, .slice va vl vc, l⟩ := HOK.out.below hbw4
      have hoA : ∀ k, O k → w.heap.size ≤ k ∧ k < wr.heap.size := hA.o
      have hW4' := hW4
      unfold six at hW4'
      rw [hW4']
      have hans2 := answers hA.rel HANS.out hok4.wa hok4.wn
      have hlen2 := do_len hA.rel.srt HANS.out
      have hfit2 := fit_do (k := k) (a := a) (l := l) hA.fit hok4.wn
      rw [HRUN.out.symm] at hfit2 hans2
      refine (does_any O p st (max room 0) i k a m (.slice va vl vc) l W4 D4 (fun k hk => by have := (hoA k hk).2; omega) hA.fit (by omega) (by omega) hok4.ints (fun b' o' n' c' e hn0 hO => by
        rcases HLV.out b' o' n' c' e with hh | hh
        · have := (hoA b' hO).1; omega
        · exact absurd hh hn0) hok4.bytes hok4.wk hok4.wa hok4.wn).mono ?_
      rintro e w5 ⟨rfl, K5, O', D5, hO'⟩
      rw [HRUN.out.symm] at D5
      rw [hans2.2]
      have hs5 := K5.size
      have hQO : ∀ k, Q (.slice a2' n2 c2) q2 k → ¬ O k := fun k hk ho => by
        rcases HQ2.out k hk with h1 | h1
        · exact hA.qo k (by rw [HNQ.out]; exact h1) ho
        · have := (hoA k ho).2; omega
      have hA5 : BegIn w E p (runS f room (i + 1)) O' ⟨z1, z2, z3, z4, z5, z6⟩ (.slice a2' n2 c2) q2 (max room 0) (i + 1) w5 := by
        refine ⟨D5, fun k hk => ?_, fun hk => ?_, fun hk => ?_, hfit2, hans2.1, ⟨hrow4.keep K5 hQO, HROW.out.2⟩, fun k hk ho => ?_, by have := hA.len; dsimp only at this hlen2 ⊢; omega, ?_, ?_, hA.hE, ?_⟩
        · rcases hO' k hk with h1 | h1
          · have := hoA k h1; omega
          · omega
        · rcases hO' _ hk with h1 | h1
          · exact hA.oB h1
          · have := Blk.lt hA.bB; omega
        · rcases hO' _ hk with h1 | h1
          · exact hA.oE h1
          · omega
        · rcases hO' k ho with h1 | h1
          · exact hQO k hk h1
          · have := Q.lt hrow4 hk; omega
        · unfold Blk at bB4 ⊢; rw [K5.block _ (Blk.lt bB4) hA.oB]; exact bB4
        · unfold Blk at bE4 ⊢; rw [K5.block _ (Blk.lt bE4) hA.oE]; exact bE4
        · exact K5.below hbw4 hbw4.size (fun k hk => (hoA k hk).1)
      have HA5 := Lib.hid hA5
      have hinext : IntKind.i64.wrap ((i : Int) + 1) = ((i + 1 : Nat) : Int) := IntWalk.i64_in _ (by omega)
      clear hA hb1 hb2 hb3 hs1 hs2 hs3 hsr bE4 k4 hs4 D4 hrow3 hrow4 hbw4 bB4 hok4 hoA hW4' hans2 hlen2 hfit2 hQO hA5 K5 D5 hO' hW4 hs5 e0 e1 e2 e3 e4 e5 f0 f1 f2 f3 f4 f5 x0 x1 x2 x3 x4 x5 g0 g1 g2 g3 bX3 bE3 bZ3
      go_wp2_with fail
      refine ⟨⟨i + 1, O', _, _, q2, ?_, by omega, HA5.out⟩, ?_⟩
      · first | rfl | congr 1
      · simp [intOf]; omega
    · have hin : i = n := by omega
      subst hin
      obtain ⟨av, cv, hv⟩ := hA.row.1.slice
      subst hv
      obtain ⟨nq, hnq⟩ : ∃ nq, q.length = nq := ⟨_, rfl⟩
      rw [hnq] at hA
      obtain ⟨room1, steps, left, armed, dead, rl⟩ := r
      have bE1 : Blk wr E 40 #[.int .i64 room1, .int .i64 steps, .int .i64 left, .bool armed, .bool dead, .slice av nq cv] := hA.bE
      have bB1 := hA.bB
      rw [hB] at bB1
      obtain ⟨a0', a1, a2, a3, a4, a5⟩ := blk6 bE1
      obtain ⟨e0, e1, e2, e3, e4, e5⟩ := blk6 bB1
      obtain ⟨f0, f1, f2, f3, f4, f5⟩ := frees bB1
      have HA := Lib.hid hA
      clear hA
      go_wp2_with fail
      go_region
      go_wp2_with fail
      obtain ⟨Wf, hWf⟩ : ∃ Wf, six wr B (.int .i64 room1) (.int .i64 steps) (.int .i64 left) (.bool armed) (.bool dead) (.slice av nq cv) = Wf := ⟨_, rfl⟩
      have hWf' := hWf
      unfold six at hWf'
      rw [hWf']
      clear hWf'
      have hbf : Below w.heap.size w Wf := by rw [← hWf]; exact six_below HA.out.below (by omega) _ _ _ _ _ _
      have hk : Keeps (fun k => k = B) wr Wf := by rw [← hWf]; exact six_keeps _ _ _ _ _ _ _ _
      have hrow : RowIs Wf (.slice av nq cv) q := by rw [← hWf]; exact HA.out.row.1.six bB1 _ _ _ _ _ _
      have hbk : Blk Wf B 40 #[.int .i64 room1, .int .i64 steps, .int .i64 left, .bool armed, .bool dead, .slice av nq cv] := by rw [← hWf]; exact six_blk bB1 _ _ _ _ _ _
      have hbk2 : Blk Wf.drew B 40 #[.int .i64 room1, .int .i64 steps, .int .i64 left, .bool armed, .bool dead, .slice av nq cv] := hbk
      have hdr : Below Wf.heap.size Wf Wf.drew := (Below.refl _ _).drew
      have D2 : DiskIs O Wf.drew p (runS f room i) := (HA.out.d.keep hk (fun k hk e => HA.out.oB (by rw [hB, ← e]; exact hk))).below hdr
      have hrow2 := hrow.below hdr
      refine bodyPost_ret (results_cell3 rfl _ _ B rfl _ _ rfl rfl _ #[.int .i64 room1, .int .i64 steps, .int .i64 left, .bool armed, .bool dead, .slice av nq cv] hbk2 _ Try.underlying40 rfl size_disk) rfl ?_
      refine ⟨p, O, ⟨room1, steps, left, armed, dead, rl⟩, .slice av nq cv, q, rfl, D2, fun k hk' => ?_, HA.out.fit, HA.out.rel, ⟨hrow2, HA.out.row.2⟩, HA.out.qo, HA.out.len, hbf.drew⟩
      have := HA.out.o k hk'
      have := hk.size
      show w.heap.size ≤ k ∧ k < Wf.heap.size
      omega
end Go.Proofs.Yteidmneenfdafaa.R
namespace Go.Proofs.Yteidmneenfdafaa.R
open Go.RowKit
open Aid K
set_option linter.unusedSimpArgs false
set_option linter.unusedVariables false

def WroteV (f : Nat → OpR) (i : Nat) (a m : Int) (V : ByteArray) : Prop := ∃ j, j < i ∧ (f j).k = 0 ∧ (f j).a = a ∧ (f j).n = m ∧ V = wholeI (f j).l ∧ (f j).l.length ≤ 64
def Wrote (f : Nat → OpR) (i : Nat) (F : Int → Int → Option Sec) : Prop := ∀ a m L s, F a m = some (L, s) → L ≠ [] ∧ ∀ V ∈ L, WroteV f i a m V
theorem WroteV.mono {f : Nat → OpR} {i : Nat} {a m : Int} {V : ByteArray} (h : WroteV f i a m V) : WroteV f (i + 1) a m V := by
  obtain ⟨j, h1, h2⟩ := h; exact ⟨j, by omega, h2⟩
theorem Wrote.mono {f : Nat → OpR} {i : Nat} {F : Int → Int → Option Sec} (h : Wrote f i F) : Wrote f (i + 1) F := fun a m L s e => ⟨(h a m L s e).1, fun V hV => ((h a m L s e).2 V hV).mono⟩
theorem wrote_put {f : Nat → OpR} {i : Nat} {F : Int → Int → Option Sec} (h : Wrote f (i + 1) F) {a n : Int} {L : List ByteArray} {s : Bool} (hL : L ≠ []) (hV : ∀ V ∈ L, WroteV f (i + 1) a n V) : Wrote f (i + 1) (updF F a n (some (L, s))) := by
  intro b m L' s' e
  unfold updF at e
  by_cases hb : b = a
  · by_cases hm : m = n
    · subst hb hm
      simp at e
      obtain ⟨rfl, rfl⟩ := e
      exact ⟨hL, hV⟩
    · subst hb; simp [hm] at e; exact h _ _ _ _ e
  · simp [hb] at e; exact h _ _ _ _ e
theorem wrote_last {f : Nat → OpR} {i : Nat} {a m : Int} {L : List ByteArray} (hL : L ≠ []) (hV : ∀ V ∈ L, WroteV f i a m V) : WroteV f i a m (L.getLastD ByteArray.empty) := by
  rw [List.getLastD_eq_getLast?, List.getLast?_eq_some_getLast hL]
  exact hV _ (List.getLast_mem hL)
theorem wrote_sync {f : Nat → OpR} {i : Nat} {st : DSt} (h : Wrote f i st.F) (a : Int) : Wrote f i (syncF st a).F := by
  intro b m L s e
  have e' : (if b = a ∧ (fun _ => false) (Lit.int .i64 m) = false ∧ (Lit.int .i64 m).wf = true then (st.F a m).map lastS else st.F b m) = some (L, s) := e
  split at e'
  · rename_i hb
    obtain ⟨⟨L', s'⟩, h1, h2⟩ := Option.map_eq_some_iff.1 e'
    have h3 := h _ _ _ _ h1
    unfold lastS at h2
    simp only [Prod.mk.injEq] at h2
    rw [← h2.1, hb.1]
    exact ⟨by simp, fun V hV => by rw [List.mem_singleton.1 hV]; exact wrote_last h3.1 h3.2⟩
  · exact h _ _ _ _ e'
theorem wrote_do {f : Nat → OpR} {i : Nat} {st : DSt} (h : Wrote f i st.F) : Wrote f (i + 1) (doS st (f i).k (f i).a (f i).n (f i).l).F := by
  have h1 := h.mono
  unfold doS
  split
  · rename_i k0
    split
    · exact h1
    · rename_i hb
      have hlen : (f i).l.length ≤ 64 := by unfold BadW at hb; omega
      have hnew : WroteV f (i + 1) (f i).a (f i).n (wholeI (f i).l) := ⟨i, by omega, k0, rfl, rfl, rfl, hlen⟩
      unfold writeF
      cases hF : st.F (f i).a (f i).n with
      | none =>
        have hFF : ∀ st' : DSt, st'.F = st.F → Wrote f (i + 1) (stepF (putS st' (f i).a (f i).n ([wholeI (f i).l], false))).F := fun st' e => by
          show Wrote f (i + 1) (updF st'.F (f i).a (f i).n (some ([wholeI (f i).l], false)))
          rw [e]
          exact wrote_put h1 (by simp) (fun V hV => by rw [List.mem_singleton.1 hV]; exact hnew)
        exact hFF _ (by split <;> rfl)
      | some sec =>
        obtain ⟨L, s⟩ := sec
        show Wrote f (i + 1) (updF st.F (f i).a (f i).n (some (L ++ [wholeI (f i).l], s)))
        refine wrote_put h1 (by simp) (fun V hV => ?_)
        rcases List.mem_append.1 hV with hV | hV
        · exact ((h _ _ _ _ hF).2 V hV).mono
        · rw [List.mem_singleton.1 hV]; exact hnew
  · have ht : (tickF st).F = st.F := by unfold tickF; split <;> rfl
    split
    · split
      · rw [ht]; exact h1
      · exact wrote_sync h1 _
    · split
      · split
        · rw [ht]; exact h1
        · intro b m L s e
          have e' : (if b = (f i).a then (fun _ => none) else st.F b) m = some (L, s) := e
          split at e'
          · cases e'
          · exact h1 _ _ _ _ e'
      · split
        · have : (armF st (f i).n).F = st.F := by unfold armF; split <;> rfl
          rw [this]; exact h1
        · exact h1
theorem wrote_run (f : Nat → OpR) (room : Int) : ∀ i, Wrote f i (runS f room i).F
  | 0 => fun a m L s e => by cases e
  | i + 1 => wrote_do (wrote_run f room i)
theorem whole_size {l : List Int} (h : l.length ≤ 64) : (wholeI l).size = 64 := by
  unfold wholeI whole
  show (List.toArray _).size = 64
  simp; omega
theorem WroteV.size {f : Nat → OpR} {i : Nat} {a m : Int} {V : ByteArray} (h : WroteV f i a m V) : V.size = 64 := by
  obtain ⟨j, _, _, _, _, e, hl⟩ := h
  rw [e]; exact whole_size hl
/-- bytes as a string again -/
theorem conv_ints {w : World} {a : Option Addr} {n c : Nat} {V : ByteArray} (h : Ints w .u8 (.slice a n c) (bytesI V)) (hV : 0 < V.size) : n = V.size ∧ (convert 28 9 (.slice a n c)).run Try.prog w = .ok (.string V) w := by
  have hlen : (bytesI V).length = V.size := by simp [bytesI]
  have hn : n = V.size := by
    obtain ⟨a', c', e⟩ := Ints.form h
    simp only [Value.slice.injEq] at e
    omega
  refine ⟨hn, ?_⟩
  obtain ⟨_, ⟨h1, _⟩ | ⟨b, o, c', hv, hlt, hc⟩⟩ := h
  · rw [h1] at hlen; simp at hlen; omega
  · simp only [Value.slice.injEq] at hv
    obtain ⟨rfl, _, _⟩ := hv
    have hl2 : V.data.toList.length = n := by rw [hn]; simp
    have hb : (⟨V.data.toList.toArray⟩ : ByteArray) = V := rfl
    have := run_convert_bytes_back (P := Try.prog) w 28 9 5 ⟨b, o, none⟩ c V.data.toList Try.underlying28 Try.underlying5 Try.underlying9 (fun j hj => by
      have hadd : (⟨b, o, none⟩ : Addr).add j = ⟨b, o + j, none⟩ := by unfold Addr.add; split <;> simp_all
      rw [hadd, hc j (by rw [hlen, ← hn, ← hl2]; exact hj)]
      simp [bytesI, List.getD_eq_getElem?_getD, List.getElem?_eq_getElem hj])
    rw [hl2] at this
    rw [this]
theorem conv_nil (w : World) : (convert 28 9 (.slice none 0 0)).run Try.prog w = .ok (.string ByteArray.empty) w :=
  run_convert_bytes_nil (P := Try.prog) w 28 5 Try.underlying28 Try.underlying5 0 0 9 Try.underlying9
end Go.Proofs.Yteidmneenfdafaa.R
