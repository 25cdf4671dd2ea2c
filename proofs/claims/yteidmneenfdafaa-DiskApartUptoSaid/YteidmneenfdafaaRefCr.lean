/-
  A crash: what is found is a list's.
-/
import Derived.Test.YteidmneenfdafaaRefC
import Derived.Test.YteidmneenfdafaaDskCrashM
namespace Go.Proofs.Yteidmneenfdafaa.R
open Go.RowKit
open Aid K
set_option linter.unusedSimpArgs false
set_option linter.unusedVariables false

/-- what is found of a list, how many are missed, the picks that are left -/
def crashL : List RSec → List Int → List RSec × Nat × List Int
  | [], ps => ([], 0, ps)
  | x :: l, ps =>
    let r := crashL l (restF (x.L, x.sync) ps)
    match foundF (x.L, x.sync) (pickF (x.L, x.sync) ps) with
    | some v => (⟨x.area, x.n, [v], true⟩ :: r.1, r.2.1, r.2.2)
    | none => (r.1, r.2.1 + 1, r.2.2)
theorem crash_some {x : RSec} {l : List RSec} {ps : List Int} {v : ByteArray} (h : foundF (x.L, x.sync) (pickF (x.L, x.sync) ps) = some v) :
    crashL (x :: l) ps = (⟨x.area, x.n, [v], true⟩ :: (crashL l (restF (x.L, x.sync) ps)).1, (crashL l (restF (x.L, x.sync) ps)).2.1, (crashL l (restF (x.L, x.sync) ps)).2.2) := by
  conv => lhs; unfold crashL
  rw [h]
theorem crash_none {x : RSec} {l : List RSec} {ps : List Int} (h : foundF (x.L, x.sync) (pickF (x.L, x.sync) ps) = none) :
    crashL (x :: l) ps = ((crashL l (restF (x.L, x.sync) ps)).1, (crashL l (restF (x.L, x.sync) ps)).2.1 + 1, (crashL l (restF (x.L, x.sync) ps)).2.2) := by
  conv => lhs; unfold crashL
  rw [h]
theorem found_mem {s : Sec} {p : Int} {v : ByteArray} (h : foundF s p = some v) : v ∈ s.1 := by
  unfold foundF at h
  split at h
  · exact List.mem_of_getElem? h
  · split at h
    · cases h
    · exact List.mem_of_getElem? h
theorem crash_mem {y : RSec} : ∀ {l : List RSec} {ps : List Int}, y ∈ (crashL l ps).1 → ∃ x ∈ l, y.area = x.area ∧ y.n = x.n ∧ y.sync = true ∧ ∃ v ∈ x.L, y.L = [v]
  | [], ps, h => by cases h
  | x :: l, ps, h => by
    cases hf : foundF (x.L, x.sync) (pickF (x.L, x.sync) ps) with
    | some v =>
      rw [crash_some hf] at h
      rcases List.mem_cons.1 h with h | h
      · exact ⟨x, List.mem_cons_self .., by rw [h], by rw [h], by rw [h], v, found_mem hf, by rw [h]⟩
      · obtain ⟨z, hz, hh⟩ := crash_mem h
        exact ⟨z, List.mem_cons_of_mem _ hz, hh⟩
    | none =>
      rw [crash_none hf] at h
      obtain ⟨z, hz, hh⟩ := crash_mem h
      exact ⟨z, List.mem_cons_of_mem _ hz, hh⟩
theorem crash_append (m : List RSec) : ∀ (l : List RSec) (ps : List Int), crashL (l ++ m) ps = ((crashL l ps).1 ++ (crashL m (crashL l ps).2.2).1, (crashL l ps).2.1 + (crashL m (crashL l ps).2.2).2.1, (crashL m (crashL l ps).2.2).2.2)
  | [], ps => by simp [crashL]
  | x :: l, ps => by
    have ih := crash_append m l (restF (x.L, x.sync) ps)
    rw [List.cons_append]
    cases hf : foundF (x.L, x.sync) (pickF (x.L, x.sync) ps) with
    | some v => rw [crash_some hf, crash_some hf, ih]; simp
    | none => rw [crash_none hf, crash_none hf, ih]; simp; omega
theorem find_append (l m : List RSec) (a n : Int) : findR (l ++ m) a n = match findR l a n with | some s => some s | none => findR m a n := by
  unfold findR
  rw [List.find?_append]
  cases l.find? (keyR a n) <;> simp
theorem find_cons (x : RSec) (l : List RSec) (a n : Int) : findR (x :: l) a n = if x.area = a ∧ x.n = n then some (x.L, x.sync) else findR l a n := by
  unfold findR
  by_cases h : x.area = a ∧ x.n = n
  · rw [List.find?_cons_of_pos (by unfold keyR; simp [h]), if_pos h]; rfl
  · rw [List.find?_cons_of_neg (by unfold keyR; simpa using h), if_neg h]
theorem cnt_append (l m : List RSec) (a : Int) : cntR (l ++ m) a = cntR l a + cntR m a := by unfold cntR; rw [List.filter_append, List.length_append]
/-- an area's sectors, in a row -/
theorem cr_ins (Fa : Int → Option Sec) (a : Int) : ∀ (xs : List RSec) (c : Cr), (∀ x ∈ xs, Fa x.n = some (x.L, x.sync)) → (∀ x ∈ xs, x.area = a) → xs.Pairwise (fun x y => x.n ≠ y.n) →
    (xs.map (·.n)).foldl (crIn Fa) c = ⟨(crashL xs c.picks).2.2, fun n => (match findR (crashL xs c.picks).1 a n with | some s => some s | none => c.F n), c.cnt + (crashL xs c.picks).1.length, c.miss + (crashL xs c.picks).2.1⟩
  | [], c, _, _, _ => by simp [crashL, findR]
  | x :: xs, c, hF, ha, hp => by
    obtain ⟨h1, h2⟩ := List.pairwise_cons.1 hp
    have hx := hF x (List.mem_cons_self ..)
    have hxa := ha x (List.mem_cons_self ..)
    rw [List.map_cons, List.foldl_cons]
    cases hf : foundF (x.L, x.sync) (pickF (x.L, x.sync) c.picks) with
    | some v =>
      have hst : crIn Fa c x.n = ⟨restF (x.L, x.sync) c.picks, updS c.F x.n (some ([v], true)), c.cnt + 1, c.miss⟩ := by unfold crIn; rw [hx]; dsimp only; rw [hf]
      rw [hst, cr_ins Fa a xs _ (fun y hy => hF y (List.mem_cons_of_mem _ hy)) (fun y hy => ha y (List.mem_cons_of_mem _ hy)) h2, crash_some hf]
      rw [Cr.mk.injEq]
      refine ⟨rfl, funext fun n => ?_, by simp only [List.length_cons]; omega, rfl⟩
      dsimp only
      rw [find_cons]
      by_cases hn : x.n = n
      · subst hn
        have hno : findR (crashL xs (restF (x.L, x.sync) c.picks)).1 a x.n = none := by
          rw [find_none]
          intro y hy e
          obtain ⟨z, hz, e1, e2, _⟩ := crash_mem hy
          exact h1 z hz (by rw [← e2, e.2])
        rw [hno, if_pos ⟨hxa, rfl⟩]
        simp [updS]
      · rw [if_neg (fun e => hn e.2)]
        have hu : updS c.F x.n (some ([v], true)) n = c.F n := by unfold updS; rw [if_neg (fun e => hn e.symm)]
        rw [hu]
    | none =>
      have hst : crIn Fa c x.n = ⟨restF (x.L, x.sync) c.picks, c.F, c.cnt, c.miss + 1⟩ := by unfold crIn; rw [hx]; dsimp only; rw [hf]
      rw [hst, cr_ins Fa a xs _ (fun y hy => hF y (List.mem_cons_of_mem _ hy)) (fun y hy => ha y (List.mem_cons_of_mem _ hy)) h2, crash_none hf]
      rw [Cr.mk.injEq]
      exact ⟨rfl, rfl, rfl, by dsimp only; omega⟩
theorem srt_id {l : List Int} (h : l.Pairwise (fun a b => a < b)) : QI.srt l = l := by
  unfold QI.srt
  refine List.mergeSort_of_pairwise ?_
  refine h.imp fun {a b} hab => ?_
  simp; omega
theorem lt_nodup {l : List Int} (h : l.Pairwise (fun a b => a < b)) : l.Nodup := h.imp fun {a b} hab => by omega
/-- the areas -/
theorem areas_eq {st : DSt} {r : RSt} (h : RelD st r) : areasL st = areasR r.l := by
  have hs := areas_srt h.srt
  rw [← srt_id hs]
  refine (areasL_eq ⟨lt_nodup hs, fun x hx => ?_, fun x _ => ?_⟩).symm
  · obtain ⟨s, hs', rfl⟩ := areas_mem.1 hx
    exact (h.wf s hs').1
  · rw [areas_mem, h.A, decide_eq_true_iff]
    unfold cntR
    rw [List.length_pos_iff_exists_mem]
    constructor
    · rintro ⟨s, hs', e⟩; exact ⟨s, List.mem_filter.2 ⟨hs', by simp [e]⟩⟩
    · rintro ⟨s, hs'⟩
      obtain ⟨e1, e2⟩ := List.mem_filter.1 hs'
      exact ⟨s, e1, by simpa using e2⟩
def secsR (l : List RSec) (a : Int) : List Int := (l.filter fun s => decide (s.area = a)).map (·.n)
theorem secs_srt {l : List RSec} (h : Srt l) (a : Int) : (secsR l a).Pairwise (fun a b => a < b) := by
  unfold secsR
  rw [List.pairwise_map]
  have h2 : (l.filter fun s => decide (s.area = a)).Pairwise before := List.Pairwise.filter _ h
  refine List.Pairwise.imp_of_mem (fun {x y} hx hy hxy => ?_) h2
  have e1 := (List.mem_filter.1 hx).2
  have e2 := (List.mem_filter.1 hy).2
  simp at e1 e2
  unfold before at hxy; omega
theorem wf_small {n : Int} (h : 0 ≤ n ∧ n < 65536) : (Lit.int .i64 n).wf = true := by simp [Lit.wf, IntKind.min, IntKind.max, IntKind.signed, IntKind.bits]; omega
theorem secs_eq {st : DSt} {r : RSt} (h : RelD st r) (a : Int) : secsL st a = secsR r.l a := by
  have hs := secs_srt h.srt a
  rw [← srt_id hs]
  refine (secsL_eq ⟨lt_nodup hs, fun x hx => ?_, fun x _ => ?_⟩).symm
  · obtain ⟨s, hs', rfl⟩ := List.mem_map.1 hx
    exact wf_small (h.wf s (List.mem_filter.1 hs').1).2
  · rw [h.F]
    unfold secsR
    rw [List.mem_map]
    constructor
    · rintro ⟨s, hs', rfl⟩
      obtain ⟨e1, e2⟩ := List.mem_filter.1 hs'
      have e2 : s.area = a := by simpa using e2
      rw [← e2, find_mem h.srt e1]; rfl
    · intro hq
      obtain ⟨sec, hsec⟩ := Option.isSome_iff_exists.1 hq
      obtain ⟨s, h1, h2, h3, _⟩ := find_some hsec
      exact ⟨s, List.mem_filter.2 ⟨h1, by simp [h2]⟩, h3⟩
/-- a disk reads as a list -/
structure Reads (d : DSt) (out : List RSec) : Prop where
  F : ∀ a n, d.F a n = findR out a n
  N : ∀ a, d.N a = cntR out a
  A : ∀ a, d.A a = decide (0 < cntR out a)
  steps : d.steps = 0
  left : d.left = -1
  dead : d.dead = false
theorem cr_out {st : DSt} {r : RSt} (h : RelD st r) : ∀ (zs : List Int) (x : List Int × DSt) (out : List RSec), zs.Pairwise (fun a b => a < b) → (∀ a ∈ zs, ∀ s ∈ out, s.area ≠ a) → Reads x.2 out →
    Reads (zs.foldl (crOut st (secsR r.l)) x).2 (out ++ (crashL (zs.flatMap fun a => r.l.filter fun s => decide (s.area = a)) x.1).1) ∧
    (zs.foldl (crOut st (secsR r.l)) x).2.room = x.2.room + ((crashL (zs.flatMap fun a => r.l.filter fun s => decide (s.area = a)) x.1).2.1 : Nat) ∧
    (zs.foldl (crOut st (secsR r.l)) x).2.C ≤ x.2.C + zs.length
  | [], x, out, _, _, hR => by simp [crashL]; exact hR
  | a :: zs, x, out, hs, hno, hR => by
    obtain ⟨hs1, hs2⟩ := List.pairwise_cons.1 hs
    obtain ⟨xs, hxs⟩ : ∃ xs, (r.l.filter fun s => decide (s.area = a)) = xs := ⟨_, rfl⟩
    have hmem : ∀ y ∈ xs, y ∈ r.l ∧ y.area = a := fun y hy => by
      rw [← hxs] at hy
      obtain ⟨e1, e2⟩ := List.mem_filter.1 hy
      exact ⟨e1, by simpa using e2⟩
    have hpw : xs.Pairwise (fun x y => x.n ≠ y.n) := by
      have := lt_nodup (secs_srt h.srt a)
      unfold secsR at this
      rw [hxs] at this
      have h3 := (List.pairwise_map.1 this)
      exact h3
    have hins := cr_ins (st.F a) a xs ⟨x.1, fun _ => none, 0, 0⟩ (fun y hy => by rw [h.F]; have := find_mem h.srt (hmem y hy).1; rw [(hmem y hy).2] at this; exact this) (fun y hy => (hmem y hy).2) hpw
    have hc : crIns (st.F a) (secsR r.l a) x.1 = ⟨(crashL xs x.1).2.2, fun n => findR (crashL xs x.1).1 a n, (crashL xs x.1).1.length, (crashL xs x.1).2.1⟩ := by
      unfold crIns secsR
      rw [hxs, hins]
      simp only [Cr.mk.injEq, true_and, Nat.zero_add, and_true]
      funext n
      cases findR (crashL xs x.1).1 a n <;> rfl
    obtain ⟨o, ho⟩ : ∃ o, (crashL xs x.1).1 = o := ⟨_, rfl⟩
    obtain ⟨m, hm⟩ : ∃ m, (crashL xs x.1).2.1 = m := ⟨_, rfl⟩
    obtain ⟨q, hq⟩ : ∃ q, (crashL xs x.1).2.2 = q := ⟨_, rfl⟩
    rw [ho, hm, hq] at hc
    have hoa : ∀ y ∈ o, y.area = a := fun y hy => by
      rw [← ho] at hy
      obtain ⟨z, hz, e, _⟩ := crash_mem hy
      rw [e]; exact (hmem z hz).2
    have hoc : ∀ b, cntR o b = if b = a then o.length else 0 := by
      intro b
      unfold cntR
      split
      · rename_i e
        rw [List.filter_eq_self.2 (fun y hy => by simp [hoa y hy, e])]
      · rename_i e
        rw [List.length_eq_zero_iff, List.filter_eq_nil_iff]
        intro y hy e2
        simp at e2
        exact e (by rw [← e2, hoa y hy])
    have hof : ∀ b n, b ≠ a → findR o b n = none := fun b n hb => by
      rw [find_none]
      intro y hy e
      exact hb (by rw [← e.1, hoa y hy])
    have houta : ∀ n, findR out a n = none := fun n => by
      rw [find_none]
      intro y hy e
      exact hno a (List.mem_cons_self ..) y hy e.1
    have houtc : cntR out a = 0 := by
      unfold cntR
      rw [List.length_eq_zero_iff, List.filter_eq_nil_iff]
      intro y hy e
      simp at e
      exact hno a (List.mem_cons_self ..) y hy e
    obtain ⟨d1, hd1⟩ : ∃ d1, crOut st (secsR r.l) x a = (q, d1) := by unfold crOut; rw [hc]; exact ⟨_, rfl⟩
    have hd1' : d1 = if o.length = 0 then roomF x.2 m else layA (roomF x.2 m) a (fun n => findR o a n) o.length := by
      unfold crOut at hd1; rw [hc] at hd1; exact ((Prod.mk.injEq ..).mp hd1).2.symm
    have hR1 : Reads d1 (out ++ o) := by
      rw [hd1']
      by_cases h0 : o.length = 0
      · rw [if_pos h0]
        have : o = [] := List.length_eq_zero_iff.1 h0
        subst this
        rw [List.append_nil]
        exact ⟨hR.F, hR.N, hR.A, hR.steps, hR.left, hR.dead⟩
      · rw [if_neg h0]
        refine ⟨fun b n => ?_, fun b => ?_, fun b => ?_, hR.steps, hR.left, hR.dead⟩
        · show (if b = a then (fun n => findR o a n) else x.2.F b) n = _
          rw [find_append]
          by_cases hb : b = a
          · subst hb; rw [if_pos rfl, houta]
          · rw [if_neg hb, hof b n hb, hR.F]; cases findR out b n <;> rfl
        · show updN x.2.N a o.length b = _
          rw [cnt_append, hoc]
          unfold updN
          by_cases hb : b = a
          · subst hb; rw [if_pos rfl, if_pos rfl, houtc]; omega
          · rw [if_neg hb, if_neg hb, hR.N]; omega
        · show updA x.2.A a true b = _
          rw [cnt_append, hoc]
          unfold updA
          by_cases hb : b = a
          · subst hb; rw [if_pos rfl, if_pos rfl]; symm; rw [decide_eq_true_iff]; omega
          · rw [if_neg hb, if_neg hb, hR.A]; rfl
    have hroom1 : d1.room = x.2.room + (m : Nat) := by rw [hd1']; split <;> rfl
    have hC1 : d1.C ≤ x.2.C + 1 := by
      rw [hd1']; split
      · exact Nat.le_succ _
      · exact Nat.le_refl _
    have ih := cr_out h zs (q, d1) (out ++ o) hs2 (fun b hb s hs' => by
      rcases List.mem_append.1 hs' with hs' | hs'
      · exact hno b (List.mem_cons_of_mem _ hb) s hs'
      · rw [hoa s hs']; have := hs1 b hb; omega) hR1
    rw [List.foldl_cons, hd1, List.flatMap_cons, hxs, crash_append, ho, hm, hq]
    obtain ⟨i1, i2, i3⟩ := ih
    refine ⟨by rw [← List.append_assoc]; exact i1, ?_, ?_⟩
    · rw [i2, hroom1]; dsimp only; omega
    · rw [List.length_cons]; dsimp only at i3; omega
def crashR (r : RSt) (ps : List Int) : RSt := { room := r.room + ((crashL r.l ps).2.1 : Nat), steps := 0, left := 0, armed := false, dead := false, l := (crashL r.l ps).1 }
theorem crash_srt : ∀ {l : List RSec} {ps : List Int}, Srt l → Srt (crashL l ps).1
  | [], ps, _ => List.Pairwise.nil
  | x :: l, ps, h => by
    obtain ⟨h1, h2⟩ := List.pairwise_cons.1 h
    cases hf : foundF (x.L, x.sync) (pickF (x.L, x.sync) ps) with
    | some v =>
      rw [crash_some hf]
      refine List.pairwise_cons.2 ⟨fun y hy => ?_, crash_srt h2⟩
      obtain ⟨z, hz, e1, e2, _⟩ := crash_mem hy
      have := h1 z hz
      unfold before at *
      rw [e1, e2]; exact this
    | none => rw [crash_none hf]; exact crash_srt h2
theorem crash_len : ∀ {l : List RSec} {ps : List Int}, (crashL l ps).1.length ≤ l.length
  | [], ps => Nat.le_refl _
  | x :: l, ps => by
    have := crash_len (l := l) (ps := restF (x.L, x.sync) ps)
    cases hf : foundF (x.L, x.sync) (pickF (x.L, x.sync) ps) with
    | some v => rw [crash_some hf]; simp; omega
    | none => rw [crash_none hf]; simp; omega
theorem areas_len : ∀ {l : List RSec}, (areasR l).length ≤ l.length
  | [] => Nat.le_refl _
  | x :: l => by
    have := areas_len (l := l)
    unfold areasR
    cases hq : areasR l with
    | nil => simp
    | cons b t =>
      rw [hq] at this
      show (if x.area = b then b :: t else x.area :: b :: t).length ≤ _
      split <;> simp at * <;> omega
/-- the crashed disk is as the document's -/
theorem crash_rel {st : DSt} {r : RSt} (h : RelD st r) (h0 : 0 ≤ st.room) (ps : List Int) : RelD (crashF st (areasL st) (secsL st) ps).2 (crashR r ps) ∧ (crashF st (areasL st) (secsL st) ps).2.C ≤ r.l.length := by
  have e : secsL st = secsR r.l := funext fun a => secs_eq h a
  rw [areas_eq h, e]
  have hc := cr_out h (areasR r.l) (ps, newSt st.room) [] (areas_srt h.srt) (fun _ _ s hs => (nomatch hs)) ⟨fun _ _ => rfl, fun _ => rfl, fun _ => rfl, rfl, rfl, rfl⟩
  rw [areas_flat h.srt, List.nil_append] at hc
  obtain ⟨hR, hroom, hC⟩ := hc
  unfold crashF
  refine ⟨⟨?_, hR.steps.symm, hR.dead.symm, ?_, fun hl => ?_, ?_, crash_srt h.srt, fun s hs => ?_, hR.F, hR.N, hR.A⟩, ?_⟩
  · rw [hroom]
    show r.room + ((crashL r.l ps).2.1 : Nat) = max st.room 0 + ((crashL r.l ps).2.1 : Nat)
    rw [h.room]; omega
  · rw [hR.left]; rfl
  · rw [hR.left] at hl; exact absurd hl (by decide)
  · show (0 : Int) ≤ _; decide
  · obtain ⟨z, hz, e1, e2, _⟩ := crash_mem hs
    have := h.wf z hz
    rw [e1, e2]; exact this
  · have := areas_len (l := r.l)
    have h2 : (newSt st.room).C = 0 := rfl
    dsimp only at hC
    omega
/-- what lasts is found again -/
theorem crash_lasts (a n : Int) : ∀ {l : List RSec} {ps : List Int}, (∀ x ∈ l, x.area = a → ∃ v, x.L = [v] ∧ x.sync = true) → findR (crashL l ps).1 a n = findR l a n
  | [], ps, _ => rfl
  | x :: l, ps, h => by
    have ih := crash_lasts a n (l := l) (ps := restF (x.L, x.sync) ps) (fun y hy => h y (List.mem_cons_of_mem _ hy))
    by_cases ha : x.area = a
    · obtain ⟨v, hv, hsy⟩ := h x (List.mem_cons_self ..) ha
      have hf : foundF (x.L, x.sync) (pickF (x.L, x.sync) ps) = some v := by
        rw [hv, hsy]
        unfold foundF
        simp [Nat.mod_one]
      rw [crash_some hf, find_cons, find_cons, ih, hv, hsy]
    · rw [find_cons, if_neg (fun e => ha e.1)]
      cases hf : foundF (x.L, x.sync) (pickF (x.L, x.sync) ps) with
      | some v => rw [crash_some hf, find_cons, if_neg (fun e => ha e.1)]; exact ih
      | none => rw [crash_none hf]; exact ih
end Go.Proofs.Yteidmneenfdafaa.R
