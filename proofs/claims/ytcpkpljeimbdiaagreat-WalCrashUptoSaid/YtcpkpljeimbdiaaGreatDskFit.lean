/-
  The bounds, kept by calls; the armed disk beside the unarmed one.
-/
import Derived.Test.YtcpkpljeimbdiaaGreatDskSync
import Derived.Test.YtcpkpljeimbdiaaGreatDskGood
import Derived.Test.YtcpkpljeimbdiaaGreatDskFree
namespace Go.Proofs.YtcpkpljeimbdiaaGreat.K
open Go.RowKit
open Aid
set_option linter.unusedSimpArgs false
set_option linter.unusedVariables false

/-- a write that is refused -/
def BadW (st : DSt) (a n : Int) (l : List Int) : Prop := st.dead = true ∨ (n < 0 ∨ 65536 ≤ n ∨ 64 < l.length) ∨ (st.F a n = none ∧ st.room = 0)
open Classical in
/-- what is answered, what is behind it -/
noncomputable def doE (st : DSt) (k a n : Int) (l : List Int) : Int :=
  if k = 0 then (if BadW st a n l then (if st.dead = true then 30 else if (n < 0 ∨ 65536 ≤ n ∨ 64 < l.length) then 31 else 32) else (if (writeF st a n l).dead = true then 30 else 0))
  else if k = 1 ∨ k = 2 then (if (tickF st).dead = true then 30 else 0) else 0
open Classical in
noncomputable def doS (st : DSt) (k a n : Int) (l : List Int) : DSt :=
  if k = 0 then (if BadW st a n l then st else writeF st a n l)
  else if k = 1 then (if (tickF st).dead = true then tickF st else syncF st a)
  else if k = 2 then (if (tickF st).dead = true then tickF st else freeF st a)
  else if k = 3 then armF st n else st
/-- within bounds -/
structure FitS (st : DSt) (R : Int) (i : Nat) : Prop where
  steps : 0 ≤ st.steps ∧ st.steps ≤ i
  left : st.left ≤ 9223372036854775807
  N : ∀ a, st.N a ≤ i
  C : st.C ≤ i
  V : ∀ a n L s, st.F a n = some (L, s) → L.length ≤ i
  room : 0 ≤ st.room
  sum : ∀ la : List Int, la.Nodup → st.room + ((la.map st.N).sum : Nat) ≤ R

def DoEnd (O : Nat → Prop) (p : Nat) (r : Int) (st' : DSt) (w : World) (e : Ending) (w' : World) : Prop :=
  e = .returned (.int .i64 r) ∧ Keeps O w w' ∧ ∃ O', DiskIs O' w' p st' ∧ ∀ k, O' k → O k ∨ (w.heap.size ≤ k ∧ k < w'.heap.size)

/-- the three calls, each whatever it answers -/
theorem write_do (O : Nat → Prop) (p : Nat) (st : DSt) (R : Int) (i : Nat) (a n : Int) (v : Value) (l : List Int) (w : World) (h : DiskIs O w p st) (hO : ∀ k, O k → k < w.heap.size) (hF : FitS st R i) (hi : i ≤ 4398046511103) (hR : R ≤ 9223372036854775807)
    (hI : Ints w .u8 v l) (hIO : ∀ b o n c, v = .slice (some ⟨b, o, none⟩) n c → n ≠ 0 → ¬ O b) (hl255 : ∀ x ∈ l, 0 ≤ x ∧ x ≤ 255) (ha : (Lit.int .u64 a).wf = true) (hn : (Lit.int .i64 n).wf = true) :
    Calls Tryz.prog 57 #[.pointer (some ⟨p, 0, none⟩), .int .u64 a, .int .i64 n, v] w (DoEnd O p (doE st 0 a n l) (doS st 0 a n l) w) := by
  have hst := hF.steps
  have hroom : st.room + (st.N a : Nat) ≤ R := by have := hF.sum [a] (by simp); simpa using this
  have hroom0 := hF.room
  have hN := hF.N a
  have hC := hF.C
  have hleft := hF.left
  have hV := hF.V a n
  by_cases hb : BadW st a n l
  · have hE : doE st 0 a n l = (if st.dead = true then 30 else if (n < 0 ∨ 65536 ≤ n ∨ 64 < l.length) then 31 else 32) := by unfold doE; rw [if_pos rfl, if_pos hb]
    have hS : doS st 0 a n l = st := by unfold doS; rw [if_pos rfl, if_pos hb]
    rw [hE, hS]
    refine (write_bad O p st a n v l w h hI ha hn hb).mono ?_
    rintro e w2 ⟨rfl, hb2⟩
    exact ⟨rfl, Keeps.of_below hb2, O, h.below hb2, fun k hk => .inl hk⟩
  · have hE : doE st 0 a n l = (if (writeF st a n l).dead = true then 30 else 0) := by unfold doE; rw [if_pos rfl, if_neg hb]
    have hS : doS st 0 a n l = writeF st a n l := by unfold doS; rw [if_pos rfl, if_neg hb]
    rw [hE, hS]
    unfold BadW at hb
    have g1 : st.dead = false := by cases hd : st.dead with
      | false => rfl
      | true => exact absurd (.inl hd) hb
    have g2 : 0 ≤ n ∧ n < 65536 ∧ l.length ≤ 64 := by
      refine ⟨?_, ?_, ?_⟩
      · exact Int.not_lt.1 fun hh => hb (.inr (.inl (.inl hh)))
      · exact Int.not_le.1 fun hh => hb (.inr (.inl (.inr (.inl hh))))
      · exact Nat.not_lt.1 fun hh => hb (.inr (.inl (.inr (.inr hh))))
    have g3 : (st.F a n).isSome = true ∨ st.room ≠ 0 := by
      cases hf : st.F a n with
      | some s => exact .inl rfl
      | none => exact .inr fun hh => hb (.inr (.inr ⟨hf, hh⟩))
    have hcall := write_good O p st a n v l w h hO hI hIO hl255 ha hn g1 g2.1 g2.2.1 g2.2.2 g3 (by omega) (by omega) (by omega) (by omega) (by omega) (fun Lv sb hh => by have := hV Lv sb hh; omega)
    unfold WriteEnd at hcall
    refine hcall.mono ?_
    rintro e w2 ⟨rfl, K2, O2, hD2, hO2⟩
    exact ⟨rfl, K2, O2, hD2, hO2⟩
theorem tick_false {st : DSt} (ht : (tickF st).dead = false) : st.dead = false ∧ (stepF st).dead = false := by
  have g1 : st.dead = false := by cases hd : st.dead with
    | false => rfl
    | true => unfold tickF at ht; rw [if_pos hd] at ht; rw [hd] at ht; cases ht
  exact ⟨g1, by unfold tickF at ht; rw [if_neg (by rw [g1]; decide)] at ht; exact ht⟩
theorem sync_do (O : Nat → Prop) (p : Nat) (st : DSt) (R : Int) (i : Nat) (a n : Int) (l : List Int) (w : World) (h : DiskIs O w p st) (hO : ∀ k, O k → k < w.heap.size) (hF : FitS st R i) (hi : i ≤ 4398046511103) (hR : R ≤ 9223372036854775807) (ha : (Lit.int .u64 a).wf = true) :
    Calls Tryz.prog 38 #[.pointer (some ⟨p, 0, none⟩), .int .u64 a] w (DoEnd O p (doE st 1 a n l) (doS st 1 a n l) w) := by
  have hst := hF.steps
  have hN := hF.N a
  have hleft := hF.left
  cases ht : (tickF st).dead with
  | true =>
    have hE : doE st 1 a n l = 30 := by unfold doE; rw [if_neg (by decide), if_pos (.inl rfl), if_pos ht]
    have hS : doS st 1 a n l = tickF st := by unfold doS; rw [if_neg (by decide), if_pos rfl, if_pos ht]
    rw [hE, hS]
    refine (sync_dies O p st a w h (by omega) (by omega) ht).mono ?_
    rintro e w2 ⟨rfl, hD2, K2⟩
    exact ⟨rfl, K2, O, hD2, fun k hk => .inl hk⟩
  | false =>
    have hnt : ¬ ((tickF st).dead = true) := by rw [ht]; decide
    have hE : doE st 1 a n l = 0 := by unfold doE; rw [if_neg (by decide), if_pos (.inl rfl), if_neg hnt]
    have hS : doS st 1 a n l = syncF st a := by unfold doS; rw [if_neg (by decide), if_pos rfl, if_neg hnt]
    rw [hE, hS]
    obtain ⟨g1, g2⟩ := tick_false ht
    refine (sync_good O p st a w h hO ha (by omega) (by omega) g1 g2 (by omega)).mono ?_
    rintro e w2 ⟨rfl, hD2, K2⟩
    exact ⟨rfl, K2, O, hD2, fun k hk => .inl hk⟩
theorem free_do (O : Nat → Prop) (p : Nat) (st : DSt) (R : Int) (i : Nat) (a n : Int) (l : List Int) (w : World) (h : DiskIs O w p st) (hF : FitS st R i) (hi : i ≤ 4398046511103) (hR : R ≤ 9223372036854775807) (ha : (Lit.int .u64 a).wf = true) :
    Calls Tryz.prog 54 #[.pointer (some ⟨p, 0, none⟩), .int .u64 a] w (DoEnd O p (doE st 2 a n l) (doS st 2 a n l) w) := by
  have hst := hF.steps
  have hroom : st.room + (st.N a : Nat) ≤ R := by have := hF.sum [a] (by simp); simpa using this
  have hroom0 := hF.room
  have hN := hF.N a
  have hleft := hF.left
  cases ht : (tickF st).dead with
  | true =>
    have hE : doE st 2 a n l = 30 := by unfold doE; rw [if_neg (by decide), if_pos (.inr rfl), if_pos ht]
    have hS : doS st 2 a n l = tickF st := by unfold doS; rw [if_neg (by decide), if_neg (by decide), if_pos rfl, if_pos ht]
    rw [hE, hS]
    refine (free_dies O p st a w h (by omega) (by omega) ht).mono ?_
    rintro e w2 ⟨rfl, hD2, K2⟩
    exact ⟨rfl, K2, O, hD2, fun k hk => .inl hk⟩
  | false =>
    have hnt : ¬ ((tickF st).dead = true) := by rw [ht]; decide
    have hE : doE st 2 a n l = 0 := by unfold doE; rw [if_neg (by decide), if_pos (.inr rfl), if_neg hnt]
    have hS : doS st 2 a n l = freeF st a := by unfold doS; rw [if_neg (by decide), if_neg (by decide), if_pos rfl, if_neg hnt]
    rw [hE, hS]
    obtain ⟨g1, g2⟩ := tick_false ht
    refine (free_good O p st a w h ha (by omega) (by omega) g1 g2 (by omega) (by omega)).mono ?_
    rintro e w2 ⟨rfl, hD2, K2⟩
    exact ⟨rfl, K2, O, hD2, fun k hk => .inl hk⟩
theorem fit_mono {st : DSt} {R : Int} {i j : Nat} (h : FitS st R i) (hj : i ≤ j) : FitS st R j :=
  ⟨by have := h.steps; omega, h.left, fun a => Nat.le_trans (h.N a) hj, Nat.le_trans h.C hj, fun a n L s e => Nat.le_trans (h.V a n L s e) hj, h.room, h.sum⟩
theorem fit_step {st : DSt} {R : Int} {i : Nat} (h : FitS st R i) : FitS (stepF st) R (i + 1) := by
  have h1 := h.steps
  have h2 := h.left
  refine ⟨?_, ?_, fun a => Nat.le_succ_of_le (h.N a), Nat.le_succ_of_le h.C, fun a n L s e => Nat.le_succ_of_le (h.V a n L s e), h.room, h.sum⟩
  · show 0 ≤ st.steps + 1 ∧ st.steps + 1 ≤ ((i + 1 : Nat) : Int); omega
  · show (if 0 < st.left then st.left - 1 else st.left) ≤ _
    split <;> omega
theorem fit_tick {st : DSt} {R : Int} {i : Nat} (h : FitS st R i) : FitS (tickF st) R (i + 1) := by
  unfold tickF
  split
  · exact fit_mono h (by omega)
  · exact fit_step h
theorem sum_upd {N : Int → Nat} {a : Int} {c : Nat} : ∀ {la : List Int}, la.Nodup → ((la.map (updN N a c)).sum) + (if a ∈ la then N a else 0) = (la.map N).sum + (if a ∈ la then c else 0)
  | [], _ => by simp
  | x :: la, h => by
    obtain ⟨h1, h2⟩ := List.nodup_cons.1 h
    have ih := sum_upd (N := N) (a := a) (c := c) h2
    by_cases e : x = a
    · subst e
      have e1 : x ∈ x :: la := List.mem_cons_self
      rw [if_neg h1, if_neg h1] at ih
      rw [if_pos e1, if_pos e1]
      have e2 : updN N x c x = c := if_pos rfl
      simp only [List.map_cons, List.sum_cons, e2]
      omega
    · have e2 : updN N a c x = N x := if_neg e
      have e3 : (a ∈ x :: la) ↔ a ∈ la := by rw [List.mem_cons]; constructor; (rintro (h | h); exact absurd h.symm e; exact h); exact .inr
      simp only [List.map_cons, List.sum_cons, e2, e3]
      omega
/-- a sector that is there gets one more -/
theorem fit_put_old {st : DSt} {R : Int} {i : Nat} {a n : Int} {L : List ByteArray} {s : Bool} (h : FitS st R i) (hL : L.length ≤ i + 1) (hF : (st.F a n).isSome = true) : FitS (putS st a n (L, s)) R (i + 1) := by
  have hN : (putS st a n (L, s)).N = st.N := by
    funext x
    show updN st.N a (if (st.F a n).isSome = true then st.N a else st.N a + 1) x = _
    rw [if_pos hF]
    unfold updN; split
    · subst_vars; rfl
    · rfl
  refine ⟨by have := h.steps; show 0 ≤ st.steps ∧ st.steps ≤ ((i + 1 : Nat) : Int); omega, h.left, fun x => by rw [hN]; exact Nat.le_succ_of_le (h.N x), Nat.le_succ_of_le h.C, fun x y L' s' e => ?_, h.room, fun la hla => by rw [hN]; exact h.sum la hla⟩
  have e' : updF st.F a n (some (L, s)) x y = some (L', s') := e
  unfold updF at e'
  split at e'
  · cases e'; exact hL
  · exact Nat.le_succ_of_le (h.V x y L' s' e')
theorem fit_put_new {st : DSt} {R : Int} {i : Nat} {a n : Int} {L : List ByteArray} {s : Bool} (h : FitS st R i) (hL : L.length ≤ i + 1) (hF : st.F a n = none) (hr : st.room ≠ 0) : FitS (putS { st with room := st.room - 1 } a n (L, s)) R (i + 1) := by
  have hN : (putS { st with room := st.room - 1 } a n (L, s)).N = updN st.N a (st.N a + 1) := by
    show updN st.N a (if (st.F a n).isSome = true then st.N a else st.N a + 1) = _
    rw [hF]; rfl
  have hroom := h.room
  refine ⟨by have := h.steps; show 0 ≤ st.steps ∧ st.steps ≤ ((i + 1 : Nat) : Int); omega, h.left, fun x => ?_, Nat.le_succ_of_le h.C, fun x y L' s' e => ?_, by show 0 ≤ st.room - 1; omega, fun la hla => ?_⟩
  · rw [hN]
    unfold updN; split
    · have := h.N a; omega
    · exact Nat.le_succ_of_le (h.N x)
  · have e' : updF st.F a n (some (L, s)) x y = some (L', s') := e
    unfold updF at e'
    split at e'
    · cases e'; exact hL
    · exact Nat.le_succ_of_le (h.V x y L' s' e')
  · rw [hN]
    have h1 := sum_upd (N := st.N) (a := a) (c := st.N a + 1) hla
    have h2 := h.sum la hla
    show st.room - 1 + (((la.map (updN st.N a (st.N a + 1))).sum : Nat) : Int) ≤ R
    split at h1 <;> omega
theorem fit_open {st : DSt} {R : Int} {i : Nat} {a : Int} (h : FitS st R i) : ∀ {st'}, st' = openA st a → st'.C ≤ i + 1 ∧ (∀ x, st'.N x = st.N x) := by
  intro st' e
  subst e
  exact ⟨by have := h.C; show st.C + 1 ≤ i + 1; omega, fun _ => rfl⟩
theorem fit_write {st : DSt} {R : Int} {i : Nat} {a n : Int} {l : List Int} (h : FitS st R i) (hok : ¬ (st.F a n = none ∧ st.room = 0)) : FitS (writeF st a n l) R (i + 1) := by
  have key : ∀ st', FitS st' R (i + 1) → st'.steps ≤ i → FitS (stepF st') R (i + 1) := fun st' h' hs => by
    have h1 := fit_step h'
    exact ⟨by have := h'.steps; show 0 ≤ st'.steps + 1 ∧ st'.steps + 1 ≤ ((i + 1 : Nat) : Int); omega, h1.left, h'.N, h'.C, h'.V, h'.room, h'.sum⟩
  have hs := h.steps.2
  unfold writeF
  cases hF : st.F a n with
  | some sec =>
    obtain ⟨L, s⟩ := sec
    simp only
    refine key _ (fit_put_old h ?_ (by rw [hF]; rfl)) hs
    have := h.V a n L s hF
    simp; omega
  | none =>
    simp only
    have hr : st.room ≠ 0 := fun e => hok ⟨hF, e⟩
    have h1 := fit_put_new (L := [wholeI l]) (s := false) h (by simp) hF hr
    by_cases hA : st.A a = true
    · rw [if_pos hA]
      exact key _ h1 hs
    · rw [if_neg hA]
      refine key _ ?_ hs
      refine ⟨h1.steps, h1.left, h1.N, ?_, h1.V, h1.room, h1.sum⟩
      have := h.C
      show st.C + 1 ≤ i + 1; omega
theorem fit_sync {st : DSt} {R : Int} {i : Nat} {a : Int} (h : FitS st R i) : FitS (syncF st a) R (i + 1) := by
  have h1 := fit_step h
  refine ⟨h1.steps, h1.left, h1.N, h1.C, fun x y L s e => ?_, h1.room, h1.sum⟩
  have e' : (if x = a ∧ (fun _ => false) (Lit.int .i64 y) = false ∧ (Lit.int .i64 y).wf = true then ((stepF st).F a y).map lastS else (stepF st).F x y) = some (L, s) := e
  split at e'
  · cases hF : (stepF st).F a y with
    | none => rw [hF] at e'; cases e'
    | some sec => rw [hF] at e'; cases e'; simp
  · exact h1.V x y L s e'
theorem fit_free {st : DSt} {R : Int} {i : Nat} {a : Int} (h : FitS st R i) : FitS (freeF st a) R (i + 1) := by
  have h1 := fit_step h
  have hroom := h.room
  refine ⟨h1.steps, h1.left, fun x => ?_, ?_, fun x y L s e => ?_, ?_, fun la hla => ?_⟩
  · show updN st.N a 0 x ≤ i + 1
    unfold updN; split
    · omega
    · exact Nat.le_succ_of_le (h.N x)
  · show (if st.A a = true then st.C - 1 else st.C) ≤ i + 1
    have := h.C
    split <;> omega
  · have e' : (if x = a then (fun _ => none) else st.F x) y = some (L, s) := e
    split at e'
    · cases e'
    · exact Nat.le_succ_of_le (h.V x y L s e')
  · show 0 ≤ st.room + (st.N a : Int); omega
  · show st.room + (st.N a : Int) + (((la.map (updN st.N a 0)).sum : Nat) : Int) ≤ R
    have h2 := sum_upd (N := st.N) (a := a) (c := 0) hla
    by_cases ha : a ∈ la
    · rw [if_pos ha, if_pos ha] at h2
      have := h.sum la hla
      omega
    · rw [if_neg ha, if_neg ha] at h2
      have := h.sum (a :: la) (List.nodup_cons.2 ⟨ha, hla⟩)
      simp only [List.map_cons, List.sum_cons] at this
      omega
theorem fit_do {st : DSt} {R : Int} {i : Nat} {k a n : Int} {l : List Int} (h : FitS st R i) (hn : (Lit.int .i64 n).wf = true) : FitS (doS st k a n l) R (i + 1) := by
  unfold doS
  split
  · split
    · exact fit_mono h (by omega)
    · rename_i hb
      exact fit_write h (fun hh => hb (.inr (.inr hh)))
  split
  · split
    · exact fit_tick h
    · exact fit_sync h
  split
  · split
    · exact fit_tick h
    · exact fit_free h
  split
  · unfold armF
    split
    · exact fit_mono h (by omega)
    · have h1 := fit_mono h (show i ≤ i + 1 by omega)
      refine ⟨h1.steps, ?_, h1.N, h1.C, h1.V, h1.room, h1.sum⟩
      show max n (-1) ≤ 9223372036854775807
      have hn' : n ≤ 9223372036854775807 := by
        have := hn
        simp [Lit.wf, IntKind.min, IntKind.max, IntKind.signed, IntKind.bits] at this
        omega
      omega
  · exact fit_mono h (by omega)
theorem fit_new {room : Int} (h : 0 ≤ room) : FitS (newSt room) room 0 := by
  refine ⟨⟨Int.le_refl _, Int.le_refl _⟩, by show (-1 : Int) ≤ _; decide, fun _ => Nat.le_refl _, Nat.le_refl _, fun a n L s e => (by cases e), ?_, fun la _ => ?_⟩
  · show 0 ≤ max room 0; omega
  · show max room 0 + (((la.map fun _ => 0).sum : Nat) : Int) ≤ room
    have hz : ∀ la : List Int, (la.map fun _ => (0 : Nat)).sum = 0 := fun la => by
      induction la with
      | nil => rfl
      | cons x la ih => rw [List.map_cons, List.sum_cons, ih]
    rw [hz]; omega

/-- the same, not armed -/
def unarm (st : DSt) : DSt := { st with left := -1 }
theorem step_alive {g : DSt} (h : (stepF g).dead = false) : stepF (unarm g) = unarm (stepF g) ∧ g.left ≠ 0 := by
  have h1 : g.left ≠ 0 := fun e => by
    have h2 : decide (g.left = 0) = false := h
    rw [e] at h2; cases h2
  refine ⟨?_, h1⟩
  have hd : decide (g.left = 0) = false := h
  have hl : decide ((-1 : Int) = 0) = false := by decide
  have hl2 : (if (0 : Int) < -1 then (-1 : Int) - 1 else -1) = -1 := by decide
  show DSt.mk g.room (g.steps + 1) (if (0 : Int) < -1 then (-1 : Int) - 1 else -1) (decide ((-1 : Int) = 0)) g.F g.N g.A g.C = DSt.mk g.room (g.steps + 1) (-1) (decide (g.left = 0)) g.F g.N g.A g.C
  rw [hd, hl, hl2]
theorem step_dies {g : DSt} (h : (stepF g).dead = true) : g.left = 0 := of_decide_eq_true h
theorem write_eq (st : DSt) (a n : Int) (l : List Int) : ∃ g, writeF st a n l = stepF g ∧ writeF (unarm st) a n l = stepF (unarm g) ∧ g.left = st.left ∧ g.steps = st.steps := by
  unfold writeF
  cases hF : st.F a n with
  | some sec =>
    obtain ⟨L, s⟩ := sec
    have hF' : (unarm st).F a n = some (L, s) := hF
    rw [hF']
    exact ⟨_, rfl, rfl, rfl, rfl⟩
  | none =>
    have hF' : (unarm st).F a n = none := hF
    rw [hF']
    by_cases hA : st.A a = true
    · have hA' : (unarm st).A a = true := hA
      simp only
      rw [if_pos hA, if_pos hA']
      exact ⟨_, rfl, rfl, rfl, rfl⟩
    · have hA' : ¬ (unarm st).A a = true := hA
      simp only
      rw [if_neg hA, if_neg hA']
      exact ⟨_, rfl, rfl, rfl, rfl⟩
theorem tick_alive {st : DSt} (hd : st.dead = false) : tickF st = stepF st := by unfold tickF; rw [if_neg (by rw [hd]; decide)]
theorem bad_unarm (st : DSt) (a n : Int) (l : List Int) : BadW (unarm st) a n l ↔ BadW st a n l := Iff.rfl
def Goes (st st' : DSt) : Prop := st'.steps = st.steps ∧ st'.left = st.left ∨ st'.steps = st.steps + 1 ∧ st.left ≠ 0 ∧ st'.left = (if 0 < st.left then st.left - 1 else st.left)
theorem do_alive {st : DSt} {k a n : Int} {l : List Int} (hd : st.dead = false) (hk : k ≠ 3) (h' : (doS st k a n l).dead = false) :
    doS (unarm st) k a n l = unarm (doS st k a n l) ∧ doE (unarm st) k a n l = doE st k a n l ∧ Goes st (doS st k a n l) := by
  by_cases k0 : k = 0
  · subst k0
    by_cases hb : BadW st a n l
    · have e1 : doS st 0 a n l = st := by unfold doS; rw [if_pos rfl, if_pos hb]
      have e2 : doS (unarm st) 0 a n l = unarm st := by unfold doS; rw [if_pos rfl, if_pos ((bad_unarm st a n l).2 hb)]
      refine ⟨by rw [e1, e2], ?_, by rw [e1]; exact .inl ⟨rfl, rfl⟩⟩
      unfold doE
      rw [if_pos rfl, if_pos rfl, if_pos hb, if_pos ((bad_unarm st a n l).2 hb)]
      rfl
    · have e1 : doS st 0 a n l = writeF st a n l := by unfold doS; rw [if_pos rfl, if_neg hb]
      have e2 : doS (unarm st) 0 a n l = writeF (unarm st) a n l := by unfold doS; rw [if_pos rfl, if_neg (fun h => hb ((bad_unarm st a n l).1 h))]
      obtain ⟨g, g1, g2, g3, g4⟩ := write_eq st a n l
      rw [e1, g1] at h'
      obtain ⟨s1, s2⟩ := step_alive h'
      refine ⟨by rw [e1, e2, g1, g2, s1], ?_, ?_⟩
      · unfold doE
        rw [if_pos rfl, if_pos rfl, if_neg hb, if_neg (fun h => hb ((bad_unarm st a n l).1 h)), g2, g1, s1]
        rfl
      · rw [e1, g1]
        refine .inr ⟨?_, by rw [← g3]; exact s2, ?_⟩
        · show g.steps + 1 = _; rw [g4]
        · show (if 0 < g.left then g.left - 1 else g.left) = _; rw [g3]
  have hd' : (unarm st).dead = false := hd
  by_cases k1 : k = 1
  · subst k1
    have hS : ∀ st : DSt, doS st 1 a n l = if (tickF st).dead = true then tickF st else syncF st a := fun st => by unfold doS; rw [if_neg (by decide), if_pos rfl]
    have hE : ∀ st : DSt, doE st 1 a n l = if (tickF st).dead = true then 30 else 0 := fun st => by unfold doE; rw [if_neg (by decide), if_pos (.inl rfl)]
    rw [hS] at h' ⊢
    rw [hS, hE, hE]
    rw [tick_alive hd] at h' ⊢
    rw [tick_alive hd']
    by_cases hh : (stepF st).dead = true
    · rw [if_pos hh] at h'; rw [h'] at hh; cases hh
    · have h2 : (stepF st).dead = false := by simpa using hh
      obtain ⟨s1, s2⟩ := step_alive h2
      have h3 : ¬ (unarm (stepF st)).dead = true := hh
      rw [s1]
      simp only [if_neg hh, if_neg h3]
      refine ⟨?_, trivial, .inr ⟨rfl, s2, rfl⟩⟩
      show partF (stepF (unarm st)) a _ = unarm (partF (stepF st) a _)
      rw [s1]; rfl
  by_cases k2 : k = 2
  · subst k2
    have hS : ∀ st : DSt, doS st 2 a n l = if (tickF st).dead = true then tickF st else freeF st a := fun st => by unfold doS; rw [if_neg (by decide), if_neg (by decide), if_pos rfl]
    have hE : ∀ st : DSt, doE st 2 a n l = if (tickF st).dead = true then 30 else 0 := fun st => by unfold doE; rw [if_neg (by decide), if_pos (.inr rfl)]
    rw [hS] at h' ⊢
    rw [hS, hE, hE]
    rw [tick_alive hd] at h' ⊢
    rw [tick_alive hd']
    by_cases hh : (stepF st).dead = true
    · rw [if_pos hh] at h'; rw [h'] at hh; cases hh
    · have h2 : (stepF st).dead = false := by simpa using hh
      obtain ⟨s1, s2⟩ := step_alive h2
      have h3 : ¬ (unarm (stepF st)).dead = true := hh
      rw [s1]
      simp only [if_neg hh, if_neg h3]
      refine ⟨?_, trivial, .inr ⟨rfl, s2, rfl⟩⟩
      show dropA { stepF (unarm st) with room := st.room + st.N a } a = unarm (dropA { stepF st with room := st.room + st.N a } a)
      rw [s1]; rfl
  have hS : ∀ st : DSt, doS st k a n l = st := fun st => by unfold doS; rw [if_neg k0, if_neg k1, if_neg k2, if_neg hk]
  have hE : ∀ st : DSt, doE st k a n l = 0 := fun st => by unfold doE; rw [if_neg k0, if_neg (by rintro (h | h); exact k1 h; exact k2 h)]
  rw [hS, hS, hE, hE]
  exact ⟨rfl, rfl, .inl ⟨rfl, rfl⟩⟩
theorem do_dies {st : DSt} {k a n : Int} {l : List Int} (hd : st.dead = false) (hk : k ≠ 3) (h' : (doS st k a n l).dead = true) :
    doE st k a n l = 30 ∧ (doS st k a n l).steps = st.steps + 1 ∧ st.left = 0 := by
  have hnd : ¬ st.dead = true := by rw [hd]; decide
  by_cases k0 : k = 0
  · subst k0
    by_cases hb : BadW st a n l
    · have e1 : doS st 0 a n l = st := by unfold doS; rw [if_pos rfl, if_pos hb]
      rw [e1] at h'; exact absurd h' hnd
    · have e1 : doS st 0 a n l = writeF st a n l := by unfold doS; rw [if_pos rfl, if_neg hb]
      obtain ⟨g, g1, g2, g3, g4⟩ := write_eq st a n l
      rw [e1, g1] at h'
      have s2 := step_dies h'
      refine ⟨?_, ?_, by rw [← g3]; exact s2⟩
      · unfold doE
        rw [if_pos rfl, if_neg hb, g1, if_pos h']
      · rw [e1, g1]; show g.steps + 1 = _; rw [g4]
  by_cases k1 : k = 1
  · subst k1
    have hS : ∀ st : DSt, doS st 1 a n l = if (tickF st).dead = true then tickF st else syncF st a := fun st => by unfold doS; rw [if_neg (by decide), if_pos rfl]
    have hE : ∀ st : DSt, doE st 1 a n l = if (tickF st).dead = true then 30 else 0 := fun st => by unfold doE; rw [if_neg (by decide), if_pos (.inl rfl)]
    rw [hS] at h' ⊢
    rw [hE]
    rw [tick_alive hd] at h' ⊢
    by_cases hh : (stepF st).dead = true
    · rw [if_pos hh, if_pos hh]; exact ⟨rfl, rfl, step_dies hh⟩
    · rw [if_neg hh] at h'; exact absurd h' hh
  by_cases k2 : k = 2
  · subst k2
    have hS : ∀ st : DSt, doS st 2 a n l = if (tickF st).dead = true then tickF st else freeF st a := fun st => by unfold doS; rw [if_neg (by decide), if_neg (by decide), if_pos rfl]
    have hE : ∀ st : DSt, doE st 2 a n l = if (tickF st).dead = true then 30 else 0 := fun st => by unfold doE; rw [if_neg (by decide), if_pos (.inr rfl)]
    rw [hS] at h' ⊢
    rw [hE]
    rw [tick_alive hd] at h' ⊢
    by_cases hh : (stepF st).dead = true
    · rw [if_pos hh, if_pos hh]; exact ⟨rfl, rfl, step_dies hh⟩
    · rw [if_neg hh] at h'; exact absurd h' hh
  have hS : ∀ st : DSt, doS st k a n l = st := fun st => by unfold doS; rw [if_neg k0, if_neg k1, if_neg k2, if_neg hk]
  rw [hS] at h'
  exact absurd h' hnd
end Go.Proofs.YtcpkpljeimbdiaaGreat.K
