/-
  The bounds, kept by calls; the armed disk beside the unarmed one.
-/
import Derived.Test.YteidmneenfdafaaDskDoes
namespace Go.Proofs.Yteidmneenfdafaa.K
open Go.RowKit
open Aid
set_option linter.unusedSimpArgs false
set_option linter.unusedVariables false

theorem fit_mono {st : DSt} {R : Int} {i j : Nat} (h : FitS st R i) (hj : i ≤ j) : FitS st R j :=
  ⟨by have := h.steps; omega, h.left, fun a => Nat.le_trans (h.N a) hj, Nat.le_trans h.C hj, fun a n L s e => Nat.le_trans (h.V a n L s e) hj, h.room, h.sum⟩
theorem fit_step {st : DSt} {R : Int} {i : Nat} (h : FitS st R i) : FitS (stepF st) R (i + 1) := by
  have h1 := h.steps
  have h2 := h.left
  refine ⟨?_, ?_, fun a => Nat.le_succ_of_le (h.N a), Nat.le_succ_of_le h.C, fun a n L s e => Nat.le_succ_of_le (h.V a n L s e), h.room, h.sum⟩
  · show 0 ≤ st.steps + 1 ∧ st.steps + 1 ≤ ((i + 1 : Nat) : Int); omega
  · show (if 0 < st.left then st.left - 1 else st.left) ≤ _
    split <;> omega
theorem fit_tick {st : DSt} {R : Int} {i : Nat} (h : FitS st R i) : FitS (tickF st) R (i + 1) := by
  unfold tickF
  split
  · exact fit_mono h (by omega)
  · exact fit_step h
theorem sum_upd {N : Int → Nat} {a : Int} {c : Nat} : ∀ {la : List Int}, la.Nodup → ((la.map (updN N a c)).sum) + (if a ∈ la then N a else 0) = (la.map N).sum + (if a ∈ la then c else 0)
  | [], _ => by simp
  | x :: la, h => by
    obtain ⟨h1, h2⟩ := List.nodup_cons.1 h
    have ih := sum_upd (N := N) (a := a) (c := c) h2
    by_cases e : x = a
    · subst e
      have e1 : x ∈ x :: la := List.mem_cons_self
      rw [if_neg h1, if_neg h1] at ih
      rw [if_pos e1, if_pos e1]
      have e2 : updN N x c x = c := if_pos rfl
      simp only [List.map_cons, List.sum_cons, e2]
      omega
    · have e2 : updN N a c x = N x := if_neg e
      have e3 : (a ∈ x :: la) ↔ a ∈ la := by rw [List.mem_cons]; constructor; (rintro (h | h); exact absurd h.symm e; exact h); exact .inr
      simp only [List.map_cons, List.sum_cons, e2, e3]
      omega
/-- a sector that is there gets one more -/
theorem fit_put_old {st : DSt} {R : Int} {i : Nat} {a n : Int} {L : List ByteArray} {s : Bool} (h : FitS st R i) (hL : L.length ≤ i + 1) (hF : (st.F a n).isSome = true) : FitS (putS st a n (L, s)) R (i + 1) := by
  have hN : (putS st a n (L, s)).N = st.N := by
    funext x
    show updN st.N a (if (st.F a n).isSome = true then st.N a else st.N a + 1) x = _
    rw [if_pos hF]
    unfold updN; split
    · subst_vars; rfl
    · rfl
  refine ⟨by have := h.steps; show 0 ≤ st.steps ∧ st.steps ≤ ((i + 1 : Nat) : Int); omega, h.left, fun x => by rw [hN]; exact Nat.le_succ_of_le (h.N x), Nat.le_succ_of_le h.C, fun x y L' s' e => ?_, h.room, fun la hla => by rw [hN]; exact h.sum la hla⟩
  have e' : updF st.F a n (some (L, s)) x y = some (L', s') := e
  unfold updF at e'
  split at e'
  · cases e'; exact hL
  · exact Nat.le_succ_of_le (h.V x y L' s' e')
theorem fit_put_new {st : DSt} {R : Int} {i : Nat} {a n : Int} {L : List ByteArray} {s : Bool} (h : FitS st R i) (hL : L.length ≤ i + 1) (hF : st.F a n = none) (hr : st.room ≠ 0) : FitS (putS { st with room := st.room - 1 } a n (L, s)) R (i + 1) := by
  have hN : (putS { st with room := st.room - 1 } a n (L, s)).N = updN st.N a (st.N a + 1) := by
    show updN st.N a (if (st.F a n).isSome = true then st.N a else st.N a + 1) = _
    rw [hF]; rfl
  have hroom := h.room
  refine ⟨by have := h.steps; show 0 ≤ st.steps ∧ st.steps ≤ ((i + 1 : Nat) : Int); omega, h.left, fun x => ?_, Nat.le_succ_of_le h.C, fun x y L' s' e => ?_, by show 0 ≤ st.room - 1; omega, fun la hla => ?_⟩
  · rw [hN]
    unfold updN; split
    · have := h.N a; omega
    · exact Nat.le_succ_of_le (h.N x)
  · have e' : updF st.F a n (some (L, s)) x y = some (L', s') := e
    unfold updF at e'
    split at e'
    · cases e'; exact hL
    · exact Nat.le_succ_of_le (h.V x y L' s' e')
  · rw [hN]
    have h1 := sum_upd (N := st.N) (a := a) (c := st.N a + 1) hla
    have h2 := h.sum la hla
    show st.room - 1 + (((la.map (updN st.N a (st.N a + 1))).sum : Nat) : Int) ≤ R
    split at h1 <;> omega
theorem fit_open {st : DSt} {R : Int} {i : Nat} {a : Int} (h : FitS st R i) : ∀ {st'}, st' = openA st a → st'.C ≤ i + 1 ∧ (∀ x, st'.N x = st.N x) := by
  intro st' e
  subst e
  exact ⟨by have := h.C; show st.C + 1 ≤ i + 1; omega, fun _ => rfl⟩
theorem fit_write {st : DSt} {R : Int} {i : Nat} {a n : Int} {l : List Int} (h : FitS st R i) (hok : ¬ (st.F a n = none ∧ st.room = 0)) : FitS (writeF st a n l) R (i + 1) := by
  have key : ∀ st', FitS st' R (i + 1) → st'.steps ≤ i → FitS (stepF st') R (i + 1) := fun st' h' hs => by
    have h1 := fit_step h'
    exact ⟨by have := h'.steps; show 0 ≤ st'.steps + 1 ∧ st'.steps + 1 ≤ ((i + 1 : Nat) : Int); omega, h1.left, h'.N, h'.C, h'.V, h'.room, h'.sum⟩
  have hs := h.steps.2
  unfold writeF
  cases hF : st.F a n with
  | some sec =>
    obtain ⟨L, s⟩ := sec
    simp only
    refine key _ (fit_put_old h ?_ (by rw [hF]; rfl)) hs
    have := h.V a n L s hF
    simp; omega
  | none =>
    simp only
    have hr : st.room ≠ 0 := fun e => hok ⟨hF, e⟩
    have h1 := fit_put_new (L := [wholeI l]) (s := false) h (by simp) hF hr
    by_cases hA : st.A a = true
    · rw [if_pos hA]
      exact key _ h1 hs
    · rw [if_neg hA]
      refine key _ ?_ hs
      refine ⟨h1.steps, h1.left, h1.N, ?_, h1.V, h1.room, h1.sum⟩
      have := h.C
      show st.C + 1 ≤ i + 1; omega
theorem fit_sync {st : DSt} {R : Int} {i : Nat} {a : Int} (h : FitS st R i) : FitS (syncF st a) R (i + 1) := by
  have h1 := fit_step h
  refine ⟨h1.steps, h1.left, h1.N, h1.C, fun x y L s e => ?_, h1.room, h1.sum⟩
  have e' : (if x = a ∧ (fun _ => false) (Lit.int .i64 y) = false ∧ (Lit.int .i64 y).wf = true then ((stepF st).F a y).map lastS else (stepF st).F x y) = some (L, s) := e
  split at e'
  · cases hF : (stepF st).F a y with
    | none => rw [hF] at e'; cases e'
    | some sec => rw [hF] at e'; cases e'; simp
  · exact h1.V x y L s e'
theorem fit_free {st : DSt} {R : Int} {i : Nat} {a : Int} (h : FitS st R i) : FitS (freeF st a) R (i + 1) := by
  have h1 := fit_step h
  have hroom := h.room
  refine ⟨h1.steps, h1.left, fun x => ?_, ?_, fun x y L s e => ?_, ?_, fun la hla => ?_⟩
  · show updN st.N a 0 x ≤ i + 1
    unfold updN; split
    · omega
    · exact Nat.le_succ_of_le (h.N x)
  · show (if st.A a = true then st.C - 1 else st.C) ≤ i + 1
    have := h.C
    split <;> omega
  · have e' : (if x = a then (fun _ => none) else st.F x) y = some (L, s) := e
    split at e'
    · cases e'
    · exact Nat.le_succ_of_le (h.V x y L s e')
  · show 0 ≤ st.room + (st.N a : Int); omega
  · show st.room + (st.N a : Int) + (((la.map (updN st.N a 0)).sum : Nat) : Int) ≤ R
    have h2 := sum_upd (N := st.N) (a := a) (c := 0) hla
    by_cases ha : a ∈ la
    · rw [if_pos ha, if_pos ha] at h2
      have := h.sum la hla
      omega
    · rw [if_neg ha, if_neg ha] at h2
      have := h.sum (a :: la) (List.nodup_cons.2 ⟨ha, hla⟩)
      simp only [List.map_cons, List.sum_cons] at this
      omega
theorem fit_do {st : DSt} {R : Int} {i : Nat} {k a n : Int} {l : List Int} (h : FitS st R i) (hn : (Lit.int .i64 n).wf = true) : FitS (doS st k a n l) R (i + 1) := by
  unfold doS
  split
  · split
    · exact fit_mono h (by omega)
    · rename_i hb
      exact fit_write h (fun hh => hb (.inr (.inr hh)))
  split
  · split
    · exact fit_tick h
    · exact fit_sync h
  split
  · split
    · exact fit_tick h
    · exact fit_free h
  split
  · unfold armF
    split
    · exact fit_mono h (by omega)
    · have h1 := fit_mono h (show i ≤ i + 1 by omega)
      refine ⟨h1.steps, ?_, h1.N, h1.C, h1.V, h1.room, h1.sum⟩
      show max n (-1) ≤ 9223372036854775807
      have hn' : n ≤ 9223372036854775807 := by
        have := hn
        simp [Lit.wf, IntKind.min, IntKind.max, IntKind.signed, IntKind.bits] at this
        omega
      omega
  · exact fit_mono h (by omega)
theorem fit_new {room : Int} (h : 0 ≤ room) : FitS (newSt room) room 0 := by
  refine ⟨⟨Int.le_refl _, Int.le_refl _⟩, by show (-1 : Int) ≤ _; decide, fun _ => Nat.le_refl _, Nat.le_refl _, fun a n L s e => (by cases e), ?_, fun la _ => ?_⟩
  · show 0 ≤ max room 0; omega
  · show max room 0 + (((la.map fun _ => 0).sum : Nat) : Int) ≤ room
    have hz : ∀ la : List Int, (la.map fun _ => (0 : Nat)).sum = 0 := fun la => by
      induction la with
      | nil => rfl
      | cons x la ih => rw [List.map_cons, List.sum_cons, ih]
    rw [hz]; omega

/-- the same, not armed -/
def unarm (st : DSt) : DSt := { st with left := -1 }
theorem step_alive {g : DSt} (h : (stepF g).dead = false) : stepF (unarm g) = unarm (stepF g) ∧ g.left ≠ 0 := by
  have h1 : g.left ≠ 0 := fun e => by
    have h2 : decide (g.left = 0) = false := h
    rw [e] at h2; cases h2
  refine ⟨?_, h1⟩
  have hd : decide (g.left = 0) = false := h
  have hl : decide ((-1 : Int) = 0) = false := by decide
  have hl2 : (if (0 : Int) < -1 then (-1 : Int) - 1 else -1) = -1 := by decide
  show DSt.mk g.room (g.steps + 1) (if (0 : Int) < -1 then (-1 : Int) - 1 else -1) (decide ((-1 : Int) = 0)) g.F g.N g.A g.C = DSt.mk g.room (g.steps + 1) (-1) (decide (g.left = 0)) g.F g.N g.A g.C
  rw [hd, hl, hl2]
theorem step_dies {g : DSt} (h : (stepF g).dead = true) : g.left = 0 := of_decide_eq_true h
theorem write_eq (st : DSt) (a n : Int) (l : List Int) : ∃ g, writeF st a n l = stepF g ∧ writeF (unarm st) a n l = stepF (unarm g) ∧ g.left = st.left ∧ g.steps = st.steps := by
  unfold writeF
  cases hF : st.F a n with
  | some sec =>
    obtain ⟨L, s⟩ := sec
    have hF' : (unarm st).F a n = some (L, s) := hF
    rw [hF']
    exact ⟨_, rfl, rfl, rfl, rfl⟩
  | none =>
    have hF' : (unarm st).F a n = none := hF
    rw [hF']
    by_cases hA : st.A a = true
    · have hA' : (unarm st).A a = true := hA
      simp only
      rw [if_pos hA, if_pos hA']
      exact ⟨_, rfl, rfl, rfl, rfl⟩
    · have hA' : ¬ (unarm st).A a = true := hA
      simp only
      rw [if_neg hA, if_neg hA']
      exact ⟨_, rfl, rfl, rfl, rfl⟩
theorem tick_alive {st : DSt} (hd : st.dead = false) : tickF st = stepF st := by unfold tickF; rw [if_neg (by rw [hd]; decide)]
theorem bad_unarm (st : DSt) (a n : Int) (l : List Int) : BadW (unarm st) a n l ↔ BadW st a n l := Iff.rfl
def Goes (st st' : DSt) : Prop := st'.steps = st.steps ∧ st'.left = st.left ∨ st'.steps = st.steps + 1 ∧ st.left ≠ 0 ∧ st'.left = (if 0 < st.left then st.left - 1 else st.left)
theorem do_alive {st : DSt} {k a n : Int} {l : List Int} (hd : st.dead = false) (hk : k ≠ 3) (h' : (doS st k a n l).dead = false) :
    doS (unarm st) k a n l = unarm (doS st k a n l) ∧ doE (unarm st) k a n l = doE st k a n l ∧ Goes st (doS st k a n l) := by
  by_cases k0 : k = 0
  · subst k0
    by_cases hb : BadW st a n l
    · have e1 : doS st 0 a n l = st := by unfold doS; rw [if_pos rfl, if_pos hb]
      have e2 : doS (unarm st) 0 a n l = unarm st := by unfold doS; rw [if_pos rfl, if_pos ((bad_unarm st a n l).2 hb)]
      refine ⟨by rw [e1, e2], ?_, by rw [e1]; exact .inl ⟨rfl, rfl⟩⟩
      unfold doE
      rw [if_pos rfl, if_pos rfl, if_pos hb, if_pos ((bad_unarm st a n l).2 hb)]
      rfl
    · have e1 : doS st 0 a n l = writeF st a n l := by unfold doS; rw [if_pos rfl, if_neg hb]
      have e2 : doS (unarm st) 0 a n l = writeF (unarm st) a n l := by unfold doS; rw [if_pos rfl, if_neg (fun h => hb ((bad_unarm st a n l).1 h))]
      obtain ⟨g, g1, g2, g3, g4⟩ := write_eq st a n l
      rw [e1, g1] at h'
      obtain ⟨s1, s2⟩ := step_alive h'
      refine ⟨by rw [e1, e2, g1, g2, s1], ?_, ?_⟩
      · unfold doE
        rw [if_pos rfl, if_pos rfl, if_neg hb, if_neg (fun h => hb ((bad_unarm st a n l).1 h)), g2, g1, s1]
        rfl
      · rw [e1, g1]
        refine .inr ⟨?_, by rw [← g3]; exact s2, ?_⟩
        · show g.steps + 1 = _; rw [g4]
        · show (if 0 < g.left then g.left - 1 else g.left) = _; rw [g3]
  have hd' : (unarm st).dead = false := hd
  by_cases k1 : k = 1
  · subst k1
    have hS : ∀ st : DSt, doS st 1 a n l = if (tickF st).dead = true then tickF st else syncF st a := fun st => by unfold doS; rw [if_neg (by decide), if_pos rfl]
    have hE : ∀ st : DSt, doE st 1 a n l = if (tickF st).dead = true then 30 else 0 := fun st => by unfold doE; rw [if_neg (by decide), if_pos (.inl rfl)]
    rw [hS] at h' ⊢
    rw [hS, hE, hE]
    rw [tick_alive hd] at h' ⊢
    rw [tick_alive hd']
    by_cases hh : (stepF st).dead = true
    · rw [if_pos hh] at h'; rw [h'] at hh; cases hh
    · have h2 : (stepF st).dead = false := by simpa using hh
      obtain ⟨s1, s2⟩ := step_alive h2
      have h3 : ¬ (unarm (stepF st)).dead = true := hh
      rw [s1]
      simp only [if_neg hh, if_neg h3]
      refine ⟨?_, trivial, .inr ⟨rfl, s2, rfl⟩⟩
      show partF (stepF (unarm st)) a _ = unarm (partF (stepF st) a _)
      rw [s1]; rfl
  by_cases k2 : k = 2
  · subst k2
    have hS : ∀ st : DSt, doS st 2 a n l = if (tickF st).dead = true then tickF st else freeF st a := fun st => by unfold doS; rw [if_neg (by decide), if_neg (by decide), if_pos rfl]
    have hE : ∀ st : DSt, doE st 2 a n l = if (tickF st).dead = true then 30 else 0 := fun st => by unfold doE; rw [if_neg (by decide), if_pos (.inr rfl)]
    rw [hS] at h' ⊢
    rw [hS, hE, hE]
    rw [tick_alive hd] at h' ⊢
    rw [tick_alive hd']
    by_cases hh : (stepF st).dead = true
    · rw [if_pos hh] at h'; rw [h'] at hh; cases hh
    · have h2 : (stepF st).dead = false := by simpa using hh
      obtain ⟨s1, s2⟩ := step_alive h2
      have h3 : ¬ (unarm (stepF st)).dead = true := hh
      rw [s1]
      simp only [if_neg hh, if_neg h3]
      refine ⟨?_, trivial, .inr ⟨rfl, s2, rfl⟩⟩
      show dropA { stepF (unarm st) with room := st.room + st.N a } a = unarm (dropA { stepF st with room := st.room + st.N a } a)
      rw [s1]; rfl
  have hS : ∀ st : DSt, doS st k a n l = st := fun st => by unfold doS; rw [if_neg k0, if_neg k1, if_neg k2, if_neg hk]
  have hE : ∀ st : DSt, doE st k a n l = 0 := fun st => by unfold doE; rw [if_neg k0, if_neg (by rintro (h | h); exact k1 h; exact k2 h)]
  rw [hS, hS, hE, hE]
  exact ⟨rfl, rfl, .inl ⟨rfl, rfl⟩⟩
theorem do_dies {st : DSt} {k a n : Int} {l : List Int} (hd : st.dead = false) (hk : k ≠ 3) (h' : (doS st k a n l).dead = true) :
    doE st k a n l = 30 ∧ (doS st k a n l).steps = st.steps + 1 ∧ st.left = 0 := by
  have hnd : ¬ st.dead = true := by rw [hd]; decide
  by_cases k0 : k = 0
  · subst k0
    by_cases hb : BadW st a n l
    · have e1 : doS st 0 a n l = st := by unfold doS; rw [if_pos rfl, if_pos hb]
      rw [e1] at h'; exact absurd h' hnd
    · have e1 : doS st 0 a n l = writeF st a n l := by unfold doS; rw [if_pos rfl, if_neg hb]
      obtain ⟨g, g1, g2, g3, g4⟩ := write_eq st a n l
      rw [e1, g1] at h'
      have s2 := step_dies h'
      refine ⟨?_, ?_, by rw [← g3]; exact s2⟩
      · unfold doE
        rw [if_pos rfl, if_neg hb, g1, if_pos h']
      · rw [e1, g1]; show g.steps + 1 = _; rw [g4]
  by_cases k1 : k = 1
  · subst k1
    have hS : ∀ st : DSt, doS st 1 a n l = if (tickF st).dead = true then tickF st else syncF st a := fun st => by unfold doS; rw [if_neg (by decide), if_pos rfl]
    have hE : ∀ st : DSt, doE st 1 a n l = if (tickF st).dead = true then 30 else 0 := fun st => by unfold doE; rw [if_neg (by decide), if_pos (.inl rfl)]
    rw [hS] at h' ⊢
    rw [hE]
    rw [tick_alive hd] at h' ⊢
    by_cases hh : (stepF st).dead = true
    · rw [if_pos hh, if_pos hh]; exact ⟨rfl, rfl, step_dies hh⟩
    · rw [if_neg hh] at h'; exact absurd h' hh
  by_cases k2 : k = 2
  · subst k2
    have hS : ∀ st : DSt, doS st 2 a n l = if (tickF st).dead = true then tickF st else freeF st a := fun st => by unfold doS; rw [if_neg (by decide), if_neg (by decide), if_pos rfl]
    have hE : ∀ st : DSt, doE st 2 a n l = if (tickF st).dead = true then 30 else 0 := fun st => by unfold doE; rw [if_neg (by decide), if_pos (.inr rfl)]
    rw [hS] at h' ⊢
    rw [hE]
    rw [tick_alive hd] at h' ⊢
    by_cases hh : (stepF st).dead = true
    · rw [if_pos hh, if_pos hh]; exact ⟨rfl, rfl, step_dies hh⟩
    · rw [if_neg hh] at h'; exact absurd h' hh
  have hS : ∀ st : DSt, doS st k a n l = st := fun st => by unfold doS; rw [if_neg k0, if_neg k1, if_neg k2, if_neg hk]
  rw [hS] at h'
  exact absurd h' hnd
end Go.Proofs.Yteidmneenfdafaa.K
