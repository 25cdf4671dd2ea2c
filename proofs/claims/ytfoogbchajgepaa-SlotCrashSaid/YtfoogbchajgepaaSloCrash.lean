/-
  SlotCrash.
-/
import Derived.Test.YtfoogbchajgepaaSloVals
import Derived.Test.YtfoogbchajgepaaSloApart
import Derived.Test.YtfoogbchajgepaaDskCrash
namespace Go.Proofs.Ytfoogbchajgepaa.S
open Go.RowKit
open Aid K
set_option linter.unusedSimpArgs false
set_option linter.unusedVariables false

def foundO (o : Option Sec) (pk : Int) : Option Sec := match o with
  | none => none
  | some s => match foundF s pk with
    | none => none
    | some v => some ([v], true)
def b01 (b : Bool) : Nat := if b = true then 1 else 0
theorem crIn_step (Fa : Int → Option Sec) (c : Cr) (n : Int) (h : c.F n = none) : ∃ pk : Int, (∀ s, Fa n = some s → s.2 = true → s.1.length ≤ 1 → pk = 0) ∧ (crIn Fa c n).F = updS c.F n (foundO (Fa n) pk) ∧
    (crIn Fa c n).cnt = c.cnt + b01 (foundO (Fa n) pk).isSome ∧ (crIn Fa c n).cnt + (crIn Fa c n).miss = c.cnt + c.miss + b01 (Fa n).isSome := by
  cases hF : Fa n with
  | none =>
    have e : crIn Fa c n = c := by unfold crIn; rw [hF]
    rw [e]
    refine ⟨0, fun s hs => (nomatch hs), ?_, rfl, rfl⟩
    funext y
    show _ = updS c.F n none y
    unfold updS
    split
    · rename_i e; rw [e]; exact h
    · rfl
  | some s =>
    refine ⟨pickF s c.picks, ?_, ?_⟩
    · intro s' hs' h1 h2
      obtain rfl := Option.some.inj hs'
      unfold pickF useF
      have : decide (1 < s.1.length) = false := decide_eq_false (by omega)
      rw [h1, this]
      simp
    · cases hf : foundF s (pickF s c.picks) with
      | none =>
        have e : crIn Fa c n = { c with picks := restF s c.picks, miss := c.miss + 1 } := by unfold crIn; rw [hF]; dsimp only; rw [hf]
        have e2 : foundO (some s) (pickF s c.picks) = none := by unfold foundO; dsimp only; rw [hf]
        rw [e, e2]
        refine ⟨?_, rfl, by show c.cnt + (c.miss + 1) = c.cnt + c.miss + 1; omega⟩
        funext y
        show c.F y = updS c.F n none y
        unfold updS
        split
        · rename_i e; rw [e]; exact h
        · rfl
      | some v =>
        have e : crIn Fa c n = { picks := restF s c.picks, F := updS c.F n (some ([v], true)), cnt := c.cnt + 1, miss := c.miss } := by unfold crIn; rw [hF]; dsimp only; rw [hf]
        have e2 : foundO (some s) (pickF s c.picks) = some ([v], true) := by unfold foundO; dsimp only; rw [hf]
        rw [e, e2]
        exact ⟨rfl, rfl, by show c.cnt + 1 + c.miss = c.cnt + c.miss + 1; omega⟩
theorem srt_sorted {l : List Int} (h : l.Pairwise (fun a b => a ≤ b)) : QI.srt l = l := by
  unfold QI.srt
  exact List.mergeSort_of_pairwise (h.imp (fun h => decide_eq_true h))
theorem crIns_two (Fa : Int → Option Sec) (h : ∀ x, x ≠ 0 → x ≠ 1 → Fa x = none) (ps : List Int) :
    ∃ pk : Int → Int, (∀ x s, Fa x = some s → s.2 = true → s.1.length ≤ 1 → pk x = 0) ∧ (∀ x, (crIns Fa (([0, 1] : List Int).filter (fun n => (Fa n).isSome)) ps).F x = foundO (Fa x) (pk x)) ∧
      (crIns Fa (([0, 1] : List Int).filter (fun n => (Fa n).isSome)) ps).cnt = b01 (foundO (Fa 0) (pk 0)).isSome + b01 (foundO (Fa 1) (pk 1)).isSome ∧
      (crIns Fa (([0, 1] : List Int).filter (fun n => (Fa n).isSome)) ps).cnt + (crIns Fa (([0, 1] : List Int).filter (fun n => (Fa n).isSome)) ps).miss = b01 (Fa 0).isSome + b01 (Fa 1).isSome := by
  have hnone : ∀ (c : Cr) (n : Int), (Fa n).isSome = false → crIn Fa c n = c := fun c n hn => by
    unfold crIn
    cases hq : Fa n with
    | none => rfl
    | some s => rw [hq] at hn; cases hn
  have e : crIns Fa (([0, 1] : List Int).filter (fun n => (Fa n).isSome)) ps = crIn Fa (crIn Fa ⟨ps, fun _ => none, 0, 0⟩ 0) 1 := by
    unfold crIns
    cases h0 : (Fa 0).isSome <;> cases h1 : (Fa 1).isSome <;> simp [List.filter, h0, h1, hnone]
  rw [e]
  obtain ⟨p0, a1, a2, a3, a4⟩ := crIn_step Fa ⟨ps, fun _ => none, 0, 0⟩ 0 rfl
  obtain ⟨c0, hc0⟩ : ∃ c0, crIn Fa ⟨ps, fun _ => none, 0, 0⟩ 0 = c0 := ⟨_, rfl⟩
  rw [hc0] at a2 a3 a4 ⊢
  have hF1 : c0.F 1 = none := by rw [a2]; rfl
  obtain ⟨p1, d1, d2, d3, d4⟩ := crIn_step Fa c0 1 hF1
  refine ⟨fun x => if x = 0 then p0 else if x = 1 then p1 else 0, fun x s hs h1 h2 => ?_, fun x => ?_, ?_, ?_⟩
  · by_cases e0 : x = 0
    · subst e0; exact a1 s hs h1 h2
    · by_cases e1 : x = 1
      · subst e1; exact d1 s hs h1 h2
      · rw [h x e0 e1] at hs; cases hs
  · rw [d2, a2]
    unfold updS
    by_cases e1 : x = 1
    · subst e1; rfl
    · by_cases e0 : x = 0
      · subst e0; rfl
      · rw [h x e0 e1]; simp only [e0, e1, if_false]; rfl
  · rw [d3, a3]; show 0 + _ + _ = _; rw [Nat.zero_add]; rfl
  · rw [d4, a4]; show 0 + 0 + _ + _ = _; omega

/-- a disk that has one area, and sectors 0, 1 -/
structure TwoS (st : DSt) (R : Int) : Prop where
  F0 : ∀ x, x ≠ 0 → x ≠ 1 → st.F 1 x = none
  N : st.N 1 = b01 (st.F 1 0).isSome + b01 (st.F 1 1).isSome
  room : st.room + st.N 1 = R
  room0 : 0 ≤ st.room
  only : ∀ x, st.A x = true → x = 1
  fa : st.A 1 = false → ∀ x, st.F 1 x = none
theorem crash_two {st : DSt} {R : Int} (h : TwoS st R) (ps : List Int) : ∃ pk : Int → Int, (∀ x s, st.F 1 x = some s → s.2 = true → s.1.length ≤ 1 → pk x = 0) ∧
    (∀ x, (crashF st (areasL st) (secsL st) ps).2.F 1 x = foundO (st.F 1 x) (pk x)) ∧ GoodS (crashF st (areasL st) (secsL st) ps).2 R 1 0 ∧ (∀ x, (crashF st (areasL st) (secsL st) ps).2.A x = true → x = 1) ∧ (crashF st (areasL st) (secsL st) ps).2.left < 0 := by
  have hroom := h.room
  have hr0 := h.room0
  cases hA : st.A 1 with
  | false =>
    have e : areasL st = [] := by
      have := areasL_eq (st := st) (xs := []) ⟨List.nodup_nil, fun x hx => (nomatch hx), fun x _ => ⟨fun hx => (nomatch hx), fun hx => by rw [h.only x hx, hA] at hx; cases hx⟩⟩
      rw [← this]; exact srt_sorted List.Pairwise.nil
    rw [e]
    have hN : st.N 1 = 0 := by rw [h.N, h.fa hA, h.fa hA]; rfl
    refine ⟨fun _ => 0, fun x s hs => (by rw [h.fa hA] at hs; cases hs), fun x => ?_, ?_, fun x hx => (nomatch hx), by show (-1 : Int) < 0; decide⟩
    · rw [h.fa hA]; rfl
    · have hR : st.room = R := by omega
      show GoodS (newSt st.room) R 1 0
      rw [hR]; exact good_new (by omega)
  | true =>
    have e : areasL st = [1] := by
      have := areasL_eq (st := st) (xs := [1]) ⟨by decide, fun x hx => by rw [List.mem_singleton.1 hx]; decide, fun x _ => ⟨fun hx => by rw [List.mem_singleton.1 hx]; exact hA, fun hx => List.mem_singleton.2 (h.only x hx)⟩⟩
      rw [← this]; exact srt_sorted (List.pairwise_singleton _ _)
    have e2 : secsL st 1 = ([0, 1] : List Int).filter (fun n => (st.F 1 n).isSome) := by
      have hnd : ([0, 1] : List Int).Nodup := by decide
      have hpw : ([0, 1] : List Int).Pairwise (fun a b => a ≤ b) := by decide
      have := secsL_eq (st := st) (a := 1) (xs := ([0, 1] : List Int).filter (fun n => (st.F 1 n).isSome)) ⟨hnd.filter _, fun x hx => ?_, fun x _ => ⟨fun hx => (List.mem_filter.1 hx).2, fun hx => List.mem_filter.2 ⟨?_, hx⟩⟩⟩
      · rw [← this]; exact srt_sorted (hpw.filter _)
      · have := (List.mem_filter.1 hx).1
        simp only [List.mem_cons, List.not_mem_nil, or_false] at this
        rcases this with rfl | rfl <;> decide
      · by_cases e0 : x = 0
        · simp [e0]
        · by_cases e1 : x = 1
          · simp [e1]
          · rw [h.F0 x e0 e1] at hx; cases hx
    obtain ⟨pk, k1, k2, k3, k4⟩ := crIns_two (st.F 1) h.F0 ps
    have e3 : (crashF st (areasL st) (secsL st) ps).2 = (crOut st (secsL st) (ps, newSt st.room) 1).2 := by rw [e]; rfl
    rw [e3]
    unfold crOut
    rw [e2]
    dsimp only
    obtain ⟨c, hc⟩ : ∃ c, crIns (st.F 1) (([0, 1] : List Int).filter (fun n => (st.F 1 n).isSome)) ps = c := ⟨_, rfl⟩
    rw [hc] at k2 k3 k4 ⊢
    have hcnt : ∀ x, (c.F x).isSome = true → c.cnt ≠ 0 := fun x hx h0 => by
      rw [k2] at hx
      by_cases e0 : x = 0
      · subst e0; rw [k3, hx] at h0; simp [b01] at h0
      · by_cases e1 : x = 1
        · subst e1; rw [k3, hx] at h0; simp [b01] at h0
        · rw [h.F0 x e0 e1] at hx; cases hx
    have hmax : max st.room 0 = st.room := by omega
    have hN := h.N
    have hb : c.cnt ≤ 2 := by
      rw [k3]; unfold b01; split <;> split <;> omega
    have hN2 : c.cnt = (if (c.F 0).isSome = true then 1 else 0) + (if (c.F 1).isSome = true then 1 else 0) := by rw [k2, k2]; exact k3
    have hF2 : ∀ x L s, c.F x = some (L, s) → L.length ≤ 1 ∧ s = true := by
      intro x L s hx
      rw [k2] at hx
      unfold foundO at hx
      split at hx
      · cases hx
      · split at hx
        · cases hx
        · simp only [Option.some.injEq, Prod.mk.injEq] at hx
          exact ⟨by rw [← hx.1]; exact Nat.le_refl 1, hx.2.symm⟩
    by_cases h0 : c.cnt = 0
    · rw [if_pos h0]
      have hnone : ∀ x, c.F x = none := fun x => by
        cases hq : c.F x with
        | none => rfl
        | some s => exact absurd h0 (hcnt x (by rw [hq]; rfl))
      refine ⟨pk, k1, fun x => by rw [← k2, hnone]; rfl, ⟨rfl, by show (-1 : Int) ≤ _; decide, ⟨Int.le_refl 0, Int.le_refl 0⟩, fun _ _ _ => rfl, rfl, ?_, Nat.zero_le _, fun e => (nomatch e), fun x L s e => (nomatch e)⟩, fun x hx => (nomatch hx), by show (-1 : Int) < 0; decide⟩
      show max st.room 0 + (c.miss : Nat) + ((0 : Nat) : Int) = R
      omega
    · rw [if_neg h0]
      have hF : ∀ x, (layA (roomF (newSt st.room) c.miss) 1 c.F c.cnt).F 1 x = c.F x := fun x => by unfold layA; simp
      have hNN : (layA (roomF (newSt st.room) c.miss) 1 c.F c.cnt).N 1 = c.cnt := by unfold layA updN; simp
      have hAA : ∀ x, (layA (roomF (newSt st.room) c.miss) 1 c.F c.cnt).A x = if x = 1 then true else false := fun x => rfl
      refine ⟨pk, k1, fun x => by rw [hF, k2], ⟨rfl, by show (-1 : Int) ≤ _; decide, ⟨Int.le_refl 0, Int.le_refl 0⟩, fun x e0 e1 => ?_, ?_, ?_, Nat.le_refl 1, fun _ => by rw [hAA, if_pos rfl], fun x L s hx => hF2 x L s (by rw [← hF]; exact hx)⟩, fun x hx => ?_, by show (-1 : Int) < 0; decide⟩
      · rw [hF, k2, h.F0 x e0 e1]; rfl
      · rw [hNN, hF, hF]; exact hN2
      · rw [hNN]
        show max st.room 0 + (c.miss : Nat) + (c.cnt : Nat) = R
        omega
      · rw [hAA] at hx
        by_cases e1 : x = 1
        · exact e1
        · rw [if_neg e1] at hx; cases hx

/-- what lies in the area behind crashes and saves -/
structure CrP (st : DSt) (num : Nat) (now : List Int) : Prop where
  bn : By now
  ln : now.length ≤ 48
  z0 : num = 0 → now = []
  c0 : lastI st 1 (num % 2 : Nat) = if num = 0 then [] else secL num now
  c1 : lastI st 1 ((num + 1) % 2 : Nat) = [] ∨ ∃ m v, lastI st 1 ((num + 1) % 2 : Nat) = secL m v ∧ m < num ∧ m % 2 = (num + 1) % 2 ∧ By v ∧ v.length ≤ 48
  only : ∀ x, st.A x = true → x = 1
theorem crp_new (R : Int) : CrP (newSt R) 0 [] := ⟨fun x hx => (nomatch hx), Nat.zero_le _, fun _ => rfl, rfl, .inl rfl, fun x hx => (nomatch hx)⟩
theorem CrP.c64 {st : DSt} {num : Nat} {now : List Int} (h : CrP st num now) (i : Nat) (hi : i < 2) : lastI st 1 (i : Nat) = [] ∨ (lastI st 1 (i : Nat)).length = 64 := by
  have hl := h.ln
  by_cases e : i = num % 2
  · subst e
    rw [h.c0]
    split
    · exact .inl rfl
    · exact .inr (secL_len (by omega))
  · obtain rfl : i = (num + 1) % 2 := by omega
    rcases h.c1 with h1 | ⟨m, v, h1, _, _, _, hv⟩
    · exact .inl h1
    · rw [h1]; exact .inr (secL_len (by omega))
theorem CrP.open_ {st : DSt} {num : Nat} {now : List Int} (h : CrP st num now) (hn : num < 18446744073709551616) : openK st 1 2 = (num, now) := by
  have h0 := h.c0
  by_cases e : num = 0
  · subst e
    rw [h.z0 rfl]
    rw [if_pos rfl] at h0
    have h1 : lastI st 1 1 = [] := by
      rcases h.c1 with h1 | ⟨m, v, _, hm, _⟩
      · exact h1
      · omega
    refine open_none ?_ ?_
    · have : lastI st 1 0 = [] := h0
      rw [this, says_nil]
    · rw [h1, says_nil]
  · rw [if_neg e] at h0
    refine open_is (by omega) (by rw [h0]; exact says_sec hn h.ln) ?_
    rcases h.c1 with h1 | ⟨m, v, h1, hm, hp, _, hv⟩
    · rw [h1, says_nil]; show 0 < num; omega
    · rw [h1, ← hp, says_sec (by omega) hv]; exact hm
theorem write_A {st : DSt} {n : Int} {l : List Int} (h : ∀ x, st.A x = true → x = 1) : ∀ x, (writeF st 1 n l).A x = true → x = 1 := by
  intro x
  unfold writeF
  split
  · exact h x
  · split
    · exact h x
    · intro hx
      have hx : updA st.A 1 true x = true := hx
      unfold updA at hx
      split at hx
      · assumption
      · exact h x hx
theorem CrP.save {st : DSt} {num : Nat} {now l : List Int} (h : CrP st num now) (hl : l.length ≤ 48) (hb : By l) (hd : (saveF st 1 num l).dead = false) : CrP (saveF st 1 num l) (num + 1) l := by
  have hla := fun y x => last_save (st := st) (a := 1) (num := num) hl hb y x
  refine ⟨hb, hl, fun e => by omega, ?_, ?_, ?_⟩
  · rw [hla, if_pos ⟨rfl, rfl⟩, if_neg (by omega)]
  · rw [hla, if_neg (by rintro ⟨_, e⟩; omega), show (num + 1 + 1) % 2 = num % 2 by omega, h.c0]
    by_cases e : num = 0
    · rw [if_pos e]; exact .inl rfl
    · rw [if_neg e]; exact .inr ⟨num, now, rfl, by omega, rfl, h.bn, h.ln⟩
  · rw [save_well hd]; exact write_A h.only
theorem CrP.arm {st : DSt} {num : Nat} {now : List Int} (h : CrP st num now) (x : Int) : CrP (armF st x) num now := by
  unfold armF
  split
  · exact h
  · exact ⟨h.bn, h.ln, h.z0, h.c0, h.c1, h.only⟩
theorem good_arm {st : DSt} {R a : Int} {B : Nat} (h : GoodS st R a B) {x : Int} (hx : x ≤ 9223372036854775807) : GoodS (armF st x) R a B := by
  unfold armF
  rw [h.dead]
  exact ⟨rfl, by show max x (-1) ≤ _; omega, h.steps, h.F0, h.N, h.room, h.C, h.A, h.V⟩
theorem last_clean {st st2 : DSt} {x pk : Int} (hF : st2.F 1 x = foundO (st.F 1 x) pk) (hs : ∀ L s, st.F 1 x = some (L, s) → L.length ≤ 1 ∧ s = true ∧ pk = 0) : lastI st2 1 x = lastI st 1 x := by
  unfold lastI
  rw [hF]
  cases hq : st.F 1 x with
  | none => rfl
  | some q =>
    obtain ⟨L, s⟩ := q
    obtain ⟨h1, rfl, rfl⟩ := hs L s hq
    match L, h1 with
    | [], _ => rfl
    | [V], _ => rfl
    | _ :: _ :: _, h1 => simp at h1
theorem found_mem {s : Sec} {pk : Int} : foundO (some s) pk = none ∨ ∃ V, V ∈ s.1 ∧ foundO (some s) pk = some ([V], true) := by
  unfold foundO
  dsimp only
  cases hf : foundF s pk with
  | none => exact .inl rfl
  | some V =>
    refine .inr ⟨V, ?_, rfl⟩
    unfold foundF at hf
    split at hf
    · exact List.mem_of_getElem? hf
    · split at hf
      · cases hf
      · exact List.mem_of_getElem? hf
/-- a crash behind whole saves -/
theorem CrP.crash {st st2 : DSt} {num : Nat} {now : List Int} (h : CrP st num now) (hV : ∀ x L s, st.F 1 x = some (L, s) → L.length ≤ 1 ∧ s = true) {pk : Int → Int}
    (k1 : ∀ x s, st.F 1 x = some s → s.2 = true → s.1.length ≤ 1 → pk x = 0) (k2 : ∀ x, st2.F 1 x = foundO (st.F 1 x) (pk x)) (k3 : ∀ x, st2.A x = true → x = 1) : CrP st2 num now := by
  have hla : ∀ x, lastI st2 1 x = lastI st 1 x := fun x => last_clean (k2 x) (fun L s hs => ⟨(hV x L s hs).1, (hV x L s hs).2, k1 x _ hs (hV x L s hs).2 (hV x L s hs).1⟩)
  exact ⟨h.bn, h.ln, h.z0, by rw [hla]; exact h.c0, by rw [hla]; exact h.c1, k3⟩
/-- a save that was cut off -/
theorem torn_is {st : DSt} {num : Nat} {l : List Int} (hd : (saveF st 1 num l).dead = true) : (saveF st 1 num l).F = (writeF st 1 ((num + 1) % 2 : Nat) (secL (num + 1) l)).F ∧ (saveF st 1 num l).N = (writeF st 1 ((num + 1) % 2 : Nat) (secL (num + 1) l)).N ∧
    (saveF st 1 num l).room = (writeF st 1 ((num + 1) % 2 : Nat) (secL (num + 1) l)).room ∧ (saveF st 1 num l).A = (writeF st 1 ((num + 1) % 2 : Nat) (secL (num + 1) l)).A ∧ (saveF st 1 num l).C = (writeF st 1 ((num + 1) % 2 : Nat) (secL (num + 1) l)).C := by
  unfold saveF at hd ⊢
  dsimp only at hd ⊢
  split
  · exact ⟨rfl, rfl, rfl, rfl, rfl⟩
  · rename_i h1
    rw [if_neg h1] at hd
    split
    · exact ⟨rfl, rfl, rfl, rfl, rfl⟩
    · rename_i h2
      rw [if_neg h2] at hd
      exact absurd hd h2
/-- what a crash asks of a disk -/
structure TornS (st : DSt) (R : Int) : Prop where
  F0 : ∀ x, x ≠ 0 → x ≠ 1 → st.F 1 x = none
  N : st.N 1 = b01 (st.F 1 0).isSome + b01 (st.F 1 1).isSome
  room : st.room + st.N 1 = R
  C : st.C ≤ 1
  only : ∀ x, st.A x = true → x = 1
  V : ∀ x L s, st.F 1 x = some (L, s) → L.length ≤ 2
theorem good_torn {st : DSt} {R : Int} {B num : Nat} {now : List Int} (h : GoodS st R 1 B) (hc : CrP st num now) : TornS st R :=
  ⟨h.F0, h.N, h.room, h.C, hc.only, fun x L s hs => by have := (h.V x L s hs).1; omega⟩
theorem torn_save {st : DSt} {R : Int} {B num : Nat} {now l : List Int} (h : GoodS st R 1 B) (hc : CrP st num now) (hd : (saveF st 1 num l).dead = true) : TornS (saveF st 1 num l) R := by
  obtain ⟨t1, t2, t3, t4, t5⟩ := torn_is hd
  obtain ⟨i, hi⟩ : ∃ i, (num + 1) % 2 = i := ⟨_, rfl⟩
  have hi2 : i < 2 := by omega
  obtain ⟨Z, hZ⟩ : ∃ Z, secL (num + 1) l = Z := ⟨_, rfl⟩
  rw [hi, hZ] at t1 t2 t3 t4 t5
  obtain ⟨r1, r2, r3, r4, r5⟩ := write_rest st 1 (i : Nat) Z
  have rF := write_F st 1 (i : Nat) Z
  have rA := write_A (n := (i : Nat)) (l := Z) hc.only
  have hroom := h.room
  have hS : ∀ j : Nat, j < 2 → ((writeF st 1 (i : Nat) Z).F 1 j).isSome = if j = i then true else (st.F 1 j).isSome := by
    intro j hj
    rw [rF]
    unfold updF
    by_cases e : j = i
    · rw [if_pos ⟨rfl, by omega⟩, if_pos e]; rfl
    · rw [if_neg (by rintro ⟨_, e'⟩; omega), if_neg e]
  refine ⟨fun x e0 e1 => ?_, ?_, ?_, ?_, fun x hx => rA x (by rw [← t4]; exact hx), fun x L s hs => ?_⟩
  · rw [t1, rF]
    unfold updF
    rw [if_neg (by rintro ⟨_, e⟩; omega)]
    exact h.F0 x e0 e1
  · have e0 := hS 0 (by omega)
    have e1 := hS 1 (by omega)
    have e0 : ((writeF st 1 (i : Nat) Z).F 1 0).isSome = if 0 = i then true else (st.F 1 0).isSome := e0
    have e1 : ((writeF st 1 (i : Nat) Z).F 1 1).isSome = if 1 = i then true else (st.F 1 1).isSome := e1
    rw [t2, t1, e0, e1, r1, h.N]
    unfold b01
    have hcase : i = 0 ∨ i = 1 := by omega
    rcases hcase with rfl | rfl
    · show (if (st.F 1 0).isSome = true then _ else _) = _
      cases (st.F 1 0).isSome <;> cases (st.F 1 1).isSome <;> simp
    · show (if (st.F 1 1).isSome = true then _ else _) = _
      cases (st.F 1 0).isSome <;> cases (st.F 1 1).isSome <;> simp
  · rw [t2, t3, r1, r2]
    split <;> omega
  · rw [t5, r3]
    have := h.C
    split
    · exact this
    · rename_i hh
      have : st.C ≠ 1 := fun e => hh (.inr (h.A e))
      omega
  · rw [t1, rF] at hs
    unfold updF at hs
    split at hs
    · split at hs
      · rename_i L0 s0 h0
        have := (h.V _ _ _ h0).1
        simp only [Option.some.injEq, Prod.mk.injEq] at hs
        rw [← hs.1]; simp; omega
      · simp only [Option.some.injEq, Prod.mk.injEq] at hs
        rw [← hs.1]; simp
    · have := (h.V _ _ _ hs).1; omega
/-- a crash behind a save that was cut off: the value that was, or the one that was cut off -/
theorem CrP.torn {st st2 : DSt} {R : Int} {B num : Nat} {now l : List Int} (h : CrP st num now) (hG : GoodS st R 1 B) (hl : l.length ≤ 48) (hb : By l) (hd : (saveF st 1 num l).dead = true) {pk : Int → Int}
    (k1 : ∀ x s, (saveF st 1 num l).F 1 x = some s → s.2 = true → s.1.length ≤ 1 → pk x = 0) (k2 : ∀ x, st2.F 1 x = foundO ((saveF st 1 num l).F 1 x) (pk x)) (k3 : ∀ x, st2.A x = true → x = 1) : CrP st2 num now ∨ CrP st2 (num + 1) l := by
  obtain ⟨t1, _⟩ := torn_is hd
  have rF := write_F st 1 ((num + 1) % 2 : Nat) (secL (num + 1) l)
  have hother : lastI st2 1 (num % 2 : Nat) = lastI st 1 (num % 2 : Nat) := by
    have e : (saveF st 1 num l).F 1 (num % 2 : Nat) = st.F 1 (num % 2 : Nat) := by
      rw [t1, rF]
      unfold updF
      rw [if_neg (by rintro ⟨_, e⟩; omega)]
    have h2 := k2 (num % 2 : Nat)
    rw [e] at h2
    refine last_clean h2 (fun L s hs => ⟨(hG.V _ _ _ hs).1, (hG.V _ _ _ hs).2, k1 _ (L, s) (by rw [e]; exact hs) (hG.V _ _ _ hs).2 (hG.V _ _ _ hs).1⟩)
  obtain ⟨L, s, hL, hLs⟩ : ∃ L s, (saveF st 1 num l).F 1 ((num + 1) % 2 : Nat) = some (L ++ [wholeI (secL (num + 1) l)], s) ∧ (∀ V, V ∈ L → lastI st 1 ((num + 1) % 2 : Nat) = bytesI V) := by
    rw [t1, rF]
    unfold updF
    rw [if_pos ⟨rfl, rfl⟩]
    cases hq : st.F 1 ((num + 1) % 2 : Nat) with
    | none => exact ⟨[], false, rfl, fun V hV => (nomatch hV)⟩
    | some q =>
      obtain ⟨L, s⟩ := q
      refine ⟨L, s, rfl, fun V hV => ?_⟩
      have h1 := (hG.V _ _ _ hq).1
      unfold lastI
      rw [hq]
      match L, h1, hV with
      | [V'], _, hV => rw [List.mem_singleton.1 hV]; rfl
      | _ :: _ :: _, h1, _ => simp at h1
  have h2 := k2 ((num + 1) % 2 : Nat)
  rw [hL] at h2
  have hw := whole_bytes (secL_len (n := num + 1) (v := l) (by omega)) (secL_by (n := num + 1) (by omega) hb)
  rcases found_mem (s := (L ++ [wholeI (secL (num + 1) l)], s)) (pk := pk ((num + 1) % 2 : Nat)) with hf | ⟨V, hV, hf⟩
  · rw [hf] at h2
    exact .inl ⟨h.bn, h.ln, h.z0, by rw [hother]; exact h.c0, .inl (by unfold lastI; rw [h2]), k3⟩
  · rw [hf] at h2
    have hlV : lastI st2 1 ((num + 1) % 2 : Nat) = bytesI V := by unfold lastI; rw [h2]; rfl
    rcases List.mem_append.1 hV with hV | hV
    · refine .inl ⟨h.bn, h.ln, h.z0, by rw [hother]; exact h.c0, ?_, k3⟩
      rw [hlV, ← hLs V hV]; exact h.c1
    · rw [List.mem_singleton.1 hV, hw] at hlV
      refine .inr ⟨hb, hl, fun e => by omega, by rw [hlV, if_neg (by omega)], ?_, k3⟩
      rw [show (num + 1 + 1) % 2 = num % 2 by omega, hother, h.c0]
      by_cases e : num = 0
      · rw [if_pos e]; exact .inl rfl
      · rw [if_neg e]; exact .inr ⟨num, now, rfl, by omega, rfl, h.bn, h.ln⟩
/-- an area that is not there is empty -/
theorem disk_empty {O : Nat → Prop} {w : World} {p : Nat} {st : DSt} (h : DiskIs O w p st) {a : Int} (hA : st.A a = false) : (∀ x, st.F a x = none) ∧ st.N a = 0 := by
  obtain ⟨m, G, hD⟩ := h
  have := hD.present a
  rw [hA] at this
  refine hD.empty a ?_
  cases hq : G a with
  | none => rfl
  | some g => rw [hq] at this; cases this
theorem TornS.two {O : Nat → Prop} {w : World} {p : Nat} {st : DSt} {R : Int} (h : TornS st R) (hD : DiskIs O w p st) (hR : 2 ≤ R) : TwoS st R := by
  refine ⟨h.F0, h.N, h.room, ?_, h.only, fun hA => (disk_empty hD hA).1⟩
  have hN := h.N
  have hr := h.room
  have : st.N 1 ≤ 2 := by rw [hN]; unfold b01; split <;> split <;> omega
  omega
theorem TornS.bounds {O : Nat → Prop} {w : World} {p : Nat} {st : DSt} {R : Int} (h : TornS st R) (hD : DiskIs O w p st) (hR : 2 ≤ R ∧ R ≤ 1073741824) : st.C ≤ 1000000 ∧ (∀ a, st.N a ≤ 4398046511104) ∧ (∀ a n Lv sb, st.F a n = some (Lv, sb) → Lv.length < 4398046511104) ∧ (0 ≤ st.room ∧ st.room ≤ 4611686018427387) := by
  have hN := h.N
  have hr := h.room
  have hC := h.C
  have h2 : st.N 1 ≤ 2 := by rw [hN]; unfold b01; split <;> split <;> omega
  refine ⟨by omega, fun a => ?_, fun a n Lv sb hs => ?_, by omega, by omega⟩
  · cases hA : st.A a with
    | false => rw [(disk_empty hD hA).2]; decide
    | true => rw [h.only a hA]; omega
  · cases hA : st.A a with
    | false => rw [(disk_empty hD hA).1] at hs; cases hs
    | true => rw [h.only a hA] at hs; have := h.V _ _ _ hs; omega
/-- what the outer loop keeps -/
structure OutIn (W0 : World) (r p num : Nat) (now : List Int) (st : DSt) (O : Nat → Prop) (w : World) : Prop where
  d : DiskIs O w p st
  o : ∀ k, O k → W0.heap.size ≤ k ∧ k < w.heap.size
  good : GoodS st 1073741824 1 0
  cnt : num ≤ r * 10000000000000
  pl : CrP st num now
  below : Below W0.heap.size W0 w
/-- what the inner loop keeps -/
structure InIn (W0 : World) (p s i N0 num : Nat) (now : List Int) (st : DSt) (O : Nat → Prop) (w : World) : Prop where
  d : DiskIs O w p st
  o : ∀ k, O k → W0.heap.size ≤ k ∧ k < w.heap.size
  slot : SlotIn O w s p 1 num now
  sge : W0.heap.size ≤ s
  good : GoodS st 1073741824 1 (2 * i)
  cnt : num ≤ N0 + i
  pl : CrP st num now
  below : Below W0.heap.size W0 w
theorem InIn.low {W0 w w' : World} {p s i N0 num : Nat} {now : List Int} {st : DSt} {O : Nat → Prop} (h : InIn W0 p s i N0 num now st O w) (hb : Below w.heap.size w w') : InIn W0 p s i N0 num now st O w' :=
  ⟨h.d.below hb, fun k hk => by have := h.o k hk; have := hb.size; omega, h.slot.below hb, h.sge, h.good, h.cnt, h.pl, h.below.trans (hb.mono h.below.size)⟩
theorem good_more {st : DSt} {R a : Int} {B B' : Nat} (h : GoodS st R a B) (hb : B ≤ B') : GoodS st R a B' := ⟨h.dead, h.left, by have := h.steps; omega, h.F0, h.N, h.room, h.C, h.A, h.V⟩

set_option maxRecDepth 100000 in
set_option maxHeartbeats 16000000 in
theorem crash_law (v : Value) (n : Nat) (f : Nat → Value × List Int) (at_ : Int) (va : Option Addr) (vc : Nat) (ps : List Int) (w : World) (h : ValsAre w v n f) (hat : (Lit.int .i64 at_).wf = true) (hI : Ints w .i64 (.slice va ps.length vc) ps) (hcap : CapV (.slice va ps.length vc)) (hps : ∀ y ∈ ps, (Lit.int .i64 y).wf = true) :
    Calls Try.prog 6 #[v, .int .i64 at_, .slice va ps.length vc] w (TrueOf w) := by
  have hn := h.1
  obtain ⟨a0, cap0, hv0, hel0⟩ := h.2
  subst hv0
  have hlen : IntKind.i64.wrap (n : Int) = (n : Int) := IntWalk.i64_in _ (by omega)
  have hat2 : at_ ≤ 9223372036854775807 := by
    have := hat
    simp [Lit.wf, IntKind.min, IntKind.max, IntKind.signed, IntKind.bits] at this
    omega
  have HEL := Lib.hid hel0
  clear hel0 h
  have hI0 := Lib.hid hI
  go_enter Try.func6, Try.ntmps6
  go_wp2_with fail
  refine (new_fine 1073741824 w).mono ?_
  rintro e w1 ⟨p, O, rfl, hD1, hO1, hb1⟩
  go_wp2_with fail
  refine (alive_any w1).mono ?_
  rintro e w2 ⟨rfl, hb2⟩
  have hs1 := hb1.size
  have hs2 := hb2.size
  have hA2 : OutIn w 0 p 0 [] (newSt 1073741824) O w2 :=
    ⟨hD1.below hb2, fun k hk => by have := hO1 k hk; omega, good_new (by decide), Nat.zero_le _, crp_new _, hb1.trans (hb2.mono hs1)⟩
  clear hD1 hO1 hb1 hb2
  have hemp : strOf [] = ByteArray.empty := by decide +kernel
  go_wp2_with fail
  go_loopw [7, 8, 23] (fun x7 x8 x23 wr => ∃ (r num : Nat) (now : List Int) (st : DSt) (O : Nat → Prop) (p : Nat), x7 = .pointer (some ⟨p, 0, none⟩) ∧ x8 = .string (strOf now) ∧ x23 = .int .i64 r ∧ r ≤ 2 ∧ OutIn w r p num now st O wr) (fun _ _ x23 _ => (2 - intOf x23).toNat)
  case atStart => exact ⟨0, 0, [], _, O, p, rfl, rfl, rfl, by omega, hA2⟩
  case round =>
    clear hA2
    obtain ⟨r, num, now, st, O, p, rfl, rfl, rfl, hr, hA⟩ := hrel
    by_cases hlt : (r : Int) < 2
    · have hop := hA.pl.open_ (by have := hA.cnt; omega)
      have hcnt := hA.cnt
      have hd0 := hA.good.dead
      go_wp2_with fail
      refine (open_any O p st 1 wr hA.d (fun k hk => (hA.o k hk).2) hd0 (by decide) hA.pl.c64).mono ?_
      rintro e w3 ⟨s, rfl, hS3, ⟨hs3, hs3'⟩, hb3⟩
      rw [hop] at hS3
      have hrs := hA.below.size
      have hb3s := hb3.size
      go_wp2_with fail
      refine (value_any O s p 1 num now w3 hS3).mono ?_
      rintro e w4 ⟨v4, rfl, ⟨hI4, _⟩, hb4⟩
      obtain ⟨a4, c4, rfl, _⟩ := ints_slice hI4
      have hconv4 := conv_str hI4 hA.pl.bn
      have hb4s := hb4.size
      have hD4 := (hA.d.below hb3).below hb4
      have hS4 := hS3.below hb4
      have hB4 : Below w.heap.size w w4 := (hA.below.trans (hb3.mono hrs)).trans (hb4.mono (by omega))
      go_wp2_with fail
      refine (arm_any O p st at_ w4 hD4).mono ?_
      rintro e w5 ⟨rfl, hD5, K5⟩
      have hA5 : InIn w p s 0 num num now (armF st at_) O w5 := by
        refine ⟨hD5, fun k hk => ?_, hS4.keep K5 ?_ (fun b hb => hb) (fun k hk => .inl hk), by omega, good_arm hA.good hat2, Nat.le_refl _, hA.pl.arm _, K5.below hB4 (by omega) (fun k hk => (hA.o k hk).1)⟩
        · have := hA.o k hk; have := K5.size; omega
        · intro hs; have := (hA.o s hs).2; omega
      obtain ⟨N0, hN0⟩ : ∃ N0, num = N0 := ⟨_, rfl⟩
      have hN0' : N0 ≤ r * 10000000000000 := by omega
      have hN1 : N0 ≤ 20000000000000 := by omega
      have hA6 : InIn w p s 0 N0 num now (armF st at_) O w5 := by rw [← hN0]; exact hA5
      clear hA5 hD5 K5 hB4 hD4 hS4 hI4 hconv4 hS3 hA hb3 hb4 hd0 hop hcnt hN0
      go_wp2_with fail
      go_loopw [8, 11, 45] (fun x8 x11 x45 wq => ∃ (i num : Nat) (now : List Int) (st : DSt) (O : Nat → Prop), x8 = .string (strOf now) ∧ x11 = .string (strOf now) ∧ x45 = .int .i64 i ∧ i ≤ n ∧ InIn w p s i N0 num now st O wq) (fun _ _ x45 _ => (n - intOf x45).toNat)
      case atStart => exact ⟨0, num, now, _, O, rfl, rfl, rfl, by omega, hA6⟩
      case round =>
        clear hA6
        obtain ⟨i, num3, now3, st, O, rfl, rfl, rfl, hi, hA⟩ := hrel
        by_cases hlt2 : (i : Int) < (n : Int)
        · have hiN : i < n := by omega
          obtain ⟨b, o, rfl, hb, hc0, hok⟩ := HEL.out i hiN
          have hsr := hA.below.size
          have hc0' : wr.cell? ⟨b, o + i, none⟩ = some (f i).1 := (hA.below.cell (p := ⟨b, o + i, none⟩) hb).trans hc0
          have hok' := hok.below hA.below
          obtain ⟨x, hx⟩ : ∃ x, f i = x := ⟨_, rfl⟩
          rw [hx] at hc0' hok' hok
          obtain ⟨xv, l⟩ := x
          simp only at hc0'
          obtain ⟨la, lc, hve, _⟩ := ints_slice hok'.1
          simp only at hve
          subst hve
          have hIl : Ints wr .u8 (.slice la l.length lc) l := hok'.1
          have hby : By l := hok'.2
          have hvb := Lib.hid (ints_block hok.1)
          have hn63 := hIl.1
          clear hc0
          have hnext : ∀ (num' : Nat) (now' : List Int) (st' : DSt) (O' : Nat → Prop) (w' : World), InIn w p s (i + 1) N0 num' now' st' O' w' → (∃ (i_1 num : Nat) (now_1 : List Int) (st : DSt) (O : Nat → Prop), Value.string (strOf now') = .string (strOf now_1) ∧ Value.string (strOf now') = .string (strOf now_1) ∧ Value.int IntKind.i64 ((i : Int) + 1) = .int .i64 (i_1 : Nat) ∧ i_1 ≤ n ∧ InIn w p s i_1 N0 num now_1 st O w') ∧ ((n : Int) - intOf (.int .i64 ((i : Int) + 1))).toNat < ((n : Int) - intOf (.int .i64 (i : Int))).toNat := by
            intro num' now' st' O' w' hA'
            refine ⟨⟨i + 1, num', now', st', O', rfl, rfl, by congr 1, by omega, hA'⟩, ?_⟩
            simp [intOf]; omega
          by_cases hl48 : l.length ≤ 48
          · go_wp2_with fail
            refine (save_any O s p st 1 num3 now3 _ l wr hA.d (fun k hk => (hA.o k hk).2) hA.slot hIl hby (fun b' o' n' c' e hn0 => by
              have := hvb.out b' o' n' c' e hn0
              exact ⟨fun h => by have := (hA.o b' h).1; omega, by have := hA.sge; omega⟩) hl48 (by have := hA.cnt; omega) (by decide) hA.good.dead (good_fits hA.good (by decide) (by omega))).mono ?_
            rintro e w4 ⟨O4, rfl, hD4, hS4, K4, hO4⟩
            have hs4 := K4.size
            have hB4 : Below w.heap.size w w4 := K4.below hA.below (by omega) (fun k hk => by
              rcases hk with h | h
              · exact (hA.o k h).1
              · have := hA.sge; omega)
            have hI4 : Ints w4 .u8 (.slice la l.length lc) l := hok.1.below hB4
            have hconv := conv_str hI4 hby
            have hconvd : ∀ k, (convert 31 9 (.slice la l.length lc)).run Try.prog (w4.drewN k) = .ok (.string (strOf l)) (w4.drewN k) := fun k => conv_str (hI4.below (below_drewN (Below.refl _ _) k)) hby
            have hoT : ∀ k, O4 k → w.heap.size ≤ k ∧ k < w4.heap.size := fun k hk => by
              rcases hO4 k hk with h | h
              · have := hA.o k h; omega
              · omega
            cases hdd : (saveF st 1 num3 l).dead with
            | false =>
              have hG4 := good_save hA.good hdd
              have hP4 := hA.pl.save hl48 hby hdd
              have hA4 : InIn w p s (i + 1) N0 (num3 + 1) l (saveF st 1 num3 l) O4 w4 := by
                rw [hdd] at hS4
                exact ⟨hD4, hoT, hS4, hA.sge, good_more hG4 (by omega), by have := hA.cnt; omega, hP4, hB4⟩
              clear hD4 hS4 hG4 hP4 hoT hO4 K4
              go_wp2_with fail
              go_quiet (fail)
              go_wp2_with fail
              exact hnext _ _ _ _ _ (hA4.low (below_drewN (Below.refl _ _) nq))
            | true =>
              have hTS : TornS (saveF st 1 num3 l) 1073741824 := torn_save hA.good hA.pl hdd
              have hcn3 := hA.cnt
              have hOut : ∀ (pk : Int → Int) (st2 : DSt), (∀ x s, (saveF st 1 num3 l).F 1 x = some s → s.2 = true → s.1.length ≤ 1 → pk x = 0) → (∀ x, st2.F 1 x = foundO ((saveF st 1 num3 l).F 1 x) (pk x)) → (∀ x, st2.A x = true → x = 1) → ∃ num2 now2, CrP st2 num2 now2 ∧ (now2 = now3 ∨ now2 = l) ∧ num2 ≤ (r + 1) * 10000000000000 := fun pk st2 k1 k2 k3 => by
                rcases hA.pl.torn hA.good hl48 hby hdd k1 k2 k3 with h | h
                · exact ⟨_, _, h, .inl rfl, by omega⟩
                · exact ⟨_, _, h, .inr rfl, by omega⟩
              obtain ⟨ST, hST⟩ : ∃ ST, saveF st 1 num3 l = ST := ⟨_, rfl⟩
              rw [hST] at hD4 hTS hOut hdd
              have hdead := dead_any O4 p ST w4 hD4
              rw [hdd] at hdead
              have hDT := hD4
              have hBT := hB4
              have hl64 : IntKind.i64.wrap (l.length : Int) = (l.length : Int) := IntWalk.i64_in _ (by omega)
              have hl48' : (l.length : Int) ≤ 48 := by omega
              clear hD4 hS4 K4 hO4 hA hnext hok hok' hIl hvb hc0'
              go_wp2_with fail
              refine hdead.mono ?_
              rintro e w5 ⟨rfl, rfl⟩
              clear hdead
              go_wp2_with fail
              obtain ⟨bC, bN, bV, bR⟩ := hTS.bounds hDT (by decide)
              have hcr := crash_any O4 p ST (.slice va ps.length vc) ps w5 hDT (hI.below hBT) hcap hps (fun k hk => (hoT k hk).2) bC bN bV bR
              obtain ⟨pk, k1, k2, k3, k4, k5⟩ := crash_two (hTS.two hDT (by decide)) ps
              obtain ⟨num2, now2, hP2, hor, hnum2⟩ := hOut pk _ k1 k2 k4
              obtain ⟨st2, hst2⟩ : ∃ st2, (crashF ST (areasL ST) (secsL ST) ps).2 = st2 := ⟨_, rfl⟩
              rw [hst2] at hcr hP2 k3
              have hop2 := hP2.open_ (by omega)
              have HC64 := Lib.hid hP2.c64
              have hd2 := k3.dead
              have hby2 := hP2.bn
              have HP2 := Lib.hid hP2
              have HG2 := Lib.hid k3
              have HBT := Lib.hid hBT
              have HOR := Lib.hid hor
              have hTsz := hBT.size
              have hr2 : IntKind.i64.wrap ((r : Int) + 1) = ((r + 1 : Nat) : Int) := IntWalk.i64_in _ (by omega)
              have hfin : ∀ (t pc : Nat) (Oc : Nat → Prop) (wz : World), DiskIs Oc wz pc st2 → (∀ k, Oc k → w.heap.size ≤ k ∧ k < wz.heap.size) → Below w.heap.size w wz → (∃ (r_1 num : Nat) (now_1 : List Int) (st : DSt) (O : Nat → Prop) (p : Nat), Value.pointer (some ⟨pc, 0, none⟩) = .pointer (some ⟨p, 0, none⟩) ∧ Value.string (strOf now2) = .string (strOf now_1) ∧ Value.int IntKind.i64 ((r : Int) + 1) = .int .i64 (r_1 : Nat) ∧ r_1 ≤ 2 ∧ OutIn w r_1 p num now_1 st O wz) ∧ (2 - intOf (.int .i64 ((r : Int) + 1))).toNat < (2 - intOf (.int .i64 (r : Int))).toNat := by
                intro t pc Oc wz q1 q2 q3
                refine ⟨⟨r + 1, num2, now2, st2, Oc, pc, rfl, rfl, by congr 1, by omega, q1, q2, HG2.out, hnum2, HP2.out, q3⟩, ?_⟩
                simp [intOf]; omega
              have HFIN := Lib.hid hfin
              clear k1 k2 k3 k4 k5 hOut bC bN bV bR hTS hP2 hBT hor hst2 hDT hfin
              go_wp2_with fail
              refine hcr.mono ?_
              rintro e wc ⟨pc, Oc, rfl, hDc, hOc, hbc⟩
              have hbcs := hbc.size
              have hBc : Below w.heap.size w wc := HBT.out.trans (hbc.mono hTsz)
              clear hcr
              go_wp2_with fail
              refine (open_any Oc pc st2 1 wc hDc (fun k hk => (hOc k hk).2) hd2 (by decide) HC64.out).mono ?_
              rintro e wd ⟨t, rfl, hSt, ⟨ht, ht'⟩, hbd⟩
              rw [hop2] at hSt
              have hBd : Below w.heap.size w wd := hBc.trans (hbd.mono hBc.size)
              have hDd := hDc.below hbd
              have hbds := hbd.size
              go_wp2_with fail
              refine (value_any Oc t pc 1 num2 now2 wd hSt).mono ?_
              rintro e we ⟨ve, rfl, ⟨hIe, _⟩, hbe⟩
              obtain ⟨ae, ce, rfl, _⟩ := ints_slice hIe
              have hconve := conv_str hIe hby2
              have hSe := hSt.below hbe
              have hBe := hBd.trans (hbe.mono hBd.size)
              have hDe := hDd.below hbe
              have hbes := hbe.size
              by_cases hun : strOf now2 = strOf now3
              · rw [hun] at hconve
                go_wp2_with fail
                refine (value_any Oc t pc 1 num2 now2 we hSe).mono ?_
                rintro e wg ⟨vg, rfl, ⟨hIg, _⟩, hbg⟩
                obtain ⟨ag, cg, rfl, _⟩ := ints_slice hIg
                have hconvg := conv_str hIg hby2
                have hBg := hBe.trans (hbg.mono hBe.size)
                have hDg := hDe.below hbg
                have hbgs := hbg.size
                have hEnd := HFIN.out t pc Oc wg hDg (fun k hk => by have := hOc k hk; omega) hBg
                rw [hun] at hEnd
                have HEnd := Lib.hid hEnd
                clear hEnd
                go_wp2_with fail
                exact HEnd.out
              · obtain rfl : now2 = l := by
                  rcases HOR.out with h | h
                  · exact absurd (by rw [h]) hun
                  · exact h
                go_wp2_with fail
                · refine (value_any Oc t pc 1 num2 _ we hSe).mono ?_
                  rintro e wg ⟨vg, rfl, ⟨hIg, _⟩, hbg⟩
                  obtain ⟨ag, cg, rfl, _⟩ := ints_slice hIg
                  have hconvg := conv_str hIg hby2
                  have hBg := hBe.trans (hbg.mono hBe.size)
                  have hDg := hDe.below hbg
                  have hbgs := hbg.size
                  go_wp2_with fail
                  exact HFIN.out t pc Oc wg hDg (fun k hk => by have := hOc k hk; omega) hBg
                refine (value_any Oc t pc 1 num2 _ we hSe).mono ?_
                rintro e wf ⟨vf, rfl, ⟨hIf, _⟩, hbf⟩
                obtain ⟨af, cf, rfl, _⟩ := ints_slice hIf
                have hconvf := conv_str hIf hby2
                have hSf := hSe.below hbf
                have hBf := hBe.trans (hbf.mono hBe.size)
                have hDf := hDe.below hbf
                have hbfs := hbf.size
                go_wp2_with fail
                refine (value_any Oc t pc 1 num2 _ wf hSf).mono ?_
                rintro e wg ⟨vg, rfl, ⟨hIg, _⟩, hbg⟩
                obtain ⟨ag, cg, rfl, _⟩ := ints_slice hIg
                have hconvg := conv_str hIg hby2
                have hBg := hBf.trans (hbg.mono hBf.size)
                have hDg := hDf.below hbg
                have hbgs := hbg.size
                go_wp2_with fail
                exact HFIN.out t pc Oc wg hDg (fun k hk => by have := hOc k hk; omega) hBg
          · have hl48' : ¬ (l.length : Int) ≤ 48 := by omega
            go_wp2_with fail
            refine (save_long O s p 1 num3 now3 _ l wr hA.slot hIl (by omega)).mono ?_
            rintro e w4 ⟨rfl, rfl⟩
            have hdead := dead_any O p st w4 hA.d
            rw [hA.good.dead] at hdead
            go_wp2_with fail
            refine hdead.mono ?_
            rintro e w5 ⟨rfl, rfl⟩
            go_wp2_with fail
            exact hnext num3 now3 st O w5 ⟨hA.d, hA.o, hA.slot, hA.sge, good_more hA.good (by omega), by have := hA.cnt; omega, hA.pl, hA.below⟩
        · have hin : i = n := by omega
          subst hin
          have hTS : TornS st 1073741824 := good_torn hA.good hA.pl
          have hcn3 := hA.cnt
          have hOut : ∀ (pk : Int → Int) (st2 : DSt), (∀ x s, st.F 1 x = some s → s.2 = true → s.1.length ≤ 1 → pk x = 0) → (∀ x, st2.F 1 x = foundO (st.F 1 x) (pk x)) → (∀ x, st2.A x = true → x = 1) → ∃ num2 now2, CrP st2 num2 now2 ∧ (now2 = now3 ∨ now2 = now3) ∧ num2 ≤ (r + 1) * 10000000000000 := fun pk st2 k1 k2 k3 =>
            ⟨_, _, hA.pl.crash hA.good.V k1 k2 k3, .inl rfl, by omega⟩
          have hDT := hA.d
          have hoT := hA.o
          have hBT := hA.below
          clear hA
          obtain ⟨bC, bN, bV, bR⟩ := hTS.bounds hDT (by decide)
          have hcr := crash_any O p st (.slice va ps.length vc) ps wr hDT (hI.below hBT) hcap hps (fun k hk => (hoT k hk).2) bC bN bV bR
          obtain ⟨pk, k1, k2, k3, k4, k5⟩ := crash_two (hTS.two hDT (by decide)) ps
          obtain ⟨num2, now2, hP2, hor, hnum2⟩ := hOut pk _ k1 k2 k4
          obtain ⟨st2, hst2⟩ : ∃ st2, (crashF st (areasL st) (secsL st) ps).2 = st2 := ⟨_, rfl⟩
          rw [hst2] at hcr hP2 k3
          have hop2 := hP2.open_ (by omega)
          have HC64 := Lib.hid hP2.c64
          have hd2 := k3.dead
          have hby2 := hP2.bn
          have HP2 := Lib.hid hP2
          have HG2 := Lib.hid k3
          have HBT := Lib.hid hBT
          have HOR := Lib.hid hor
          have hTsz := hBT.size
          have hr2 : IntKind.i64.wrap ((r : Int) + 1) = ((r + 1 : Nat) : Int) := IntWalk.i64_in _ (by omega)
          have hfin : ∀ (t pc : Nat) (Oc : Nat → Prop) (wz : World), DiskIs Oc wz pc st2 → (∀ k, Oc k → w.heap.size ≤ k ∧ k < wz.heap.size) → Below w.heap.size w wz → (∃ (r_1 num : Nat) (now_1 : List Int) (st : DSt) (O : Nat → Prop) (p : Nat), Value.pointer (some ⟨pc, 0, none⟩) = .pointer (some ⟨p, 0, none⟩) ∧ Value.string (strOf now2) = .string (strOf now_1) ∧ Value.int IntKind.i64 ((r : Int) + 1) = .int .i64 (r_1 : Nat) ∧ r_1 ≤ 2 ∧ OutIn w r_1 p num now_1 st O wz) ∧ (2 - intOf (.int .i64 ((r : Int) + 1))).toNat < (2 - intOf (.int .i64 (r : Int))).toNat := by
            intro t pc Oc wz q1 q2 q3
            refine ⟨⟨r + 1, num2, now2, st2, Oc, pc, rfl, rfl, by congr 1, by omega, q1, q2, HG2.out, hnum2, HP2.out, q3⟩, ?_⟩
            simp [intOf]; omega
          have HFIN := Lib.hid hfin
          clear k1 k2 k3 k4 k5 hOut bC bN bV bR hTS hP2 hBT hor hst2 hDT hfin
          go_wp2_with fail
          refine hcr.mono ?_
          rintro e wc ⟨pc, Oc, rfl, hDc, hOc, hbc⟩
          have hbcs := hbc.size
          have hBc : Below w.heap.size w wc := HBT.out.trans (hbc.mono hTsz)
          clear hcr
          go_wp2_with fail
          refine (open_any Oc pc st2 1 wc hDc (fun k hk => (hOc k hk).2) hd2 (by decide) HC64.out).mono ?_
          rintro e wd ⟨t, rfl, hSt, ⟨ht, ht'⟩, hbd⟩
          rw [hop2] at hSt
          have hBd : Below w.heap.size w wd := hBc.trans (hbd.mono hBc.size)
          have hDd := hDc.below hbd
          have hbds := hbd.size
          go_wp2_with fail
          refine (value_any Oc t pc 1 num2 now2 wd hSt).mono ?_
          rintro e we ⟨ve, rfl, ⟨hIe, _⟩, hbe⟩
          obtain ⟨ae, ce, rfl, _⟩ := ints_slice hIe
          have hconve := conv_str hIe hby2
          have hSe := hSt.below hbe
          have hBe := hBd.trans (hbe.mono hBd.size)
          have hDe := hDd.below hbe
          have hbes := hbe.size
          by_cases hun : strOf now2 = strOf now3
          · rw [hun] at hconve
            go_wp2_with fail
            refine (value_any Oc t pc 1 num2 now2 we hSe).mono ?_
            rintro e wg ⟨vg, rfl, ⟨hIg, _⟩, hbg⟩
            obtain ⟨ag, cg, rfl, _⟩ := ints_slice hIg
            have hconvg := conv_str hIg hby2
            have hBg := hBe.trans (hbg.mono hBe.size)
            have hDg := hDe.below hbg
            have hbgs := hbg.size
            have hEnd := HFIN.out t pc Oc wg hDg (fun k hk => by have := hOc k hk; omega) hBg
            rw [hun] at hEnd
            have HEnd := Lib.hid hEnd
            clear hEnd
            go_wp2_with fail
            exact HEnd.out
          · exact absurd (by rcases HOR.out with h | h <;> rw [h]) hun
    · have hr2 : r = 2 := by omega
      subst hr2
      have hBz := hA.below
      clear hA
      go_wp2_with fail
      go_ret
      exact ⟨rfl, hBz⟩
end Go.Proofs.Ytfoogbchajgepaa.S
