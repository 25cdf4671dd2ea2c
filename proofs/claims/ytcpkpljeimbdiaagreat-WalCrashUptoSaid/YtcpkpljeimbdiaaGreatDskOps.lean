/-
  What the stores into a disk's maps do to it.
-/
import Derived.Test.YtcpkpljeimbdiaaGreatDskWrite
namespace Go.Proofs.YtcpkpljeimbdiaaGreat.K
open Go.RowKit
open Aid
set_option linter.unusedSimpArgs false
set_option linter.unusedVariables false

theorem turned_keeps {O : Nat → Prop} {w w' : World} {b : Nat} (h : w.mapTurned w' b) (hO : O b) : Keeps O w w' := by
  have hg := h.grown
  refine ⟨hg.os, hg.tape, hg.output, hg.size, fun k _ hn => turned_block h (fun e => hn (e ▸ hO)), fun k hk => turned_block h (fun e => ?_)⟩
  obtain ⟨es, clock, es', clock', hb, _⟩ := h
  obtain ⟨cs, fr, hk⟩ := hk
  rw [e, hb] at hk
  cases hk
theorem Vers.mono {O O' : Nat → Prop} {w : World} {v : Value} {L : List ByteArray} (h : Vers O w v L) (hO : ∀ k, O k → O' k) : Vers O' w v L := by
  obtain ⟨h0, a, cap, h1, h2, h3, h4⟩ := h
  exact ⟨h0, a, cap, h1, h2, h3, fun j hj => by obtain ⟨b, o, e1, e2, e3⟩ := h4 j hj; exact ⟨b, o, e1, ⟨hO b e2.1, e2.2⟩, e3⟩⟩
theorem AreaIs.mono {O O' : Nat → Prop} {w : World} {g : Nat} {F : Int → Option Sec} {n : Nat} (h : AreaIs O w g F n) (hO : ∀ k, O k → O' k) : AreaIs O' w g F n := by
  obtain ⟨S, h1, h2⟩ := h
  exact ⟨S, h1, fun x => ⟨(h2 x).1, fun s hs => by obtain ⟨v, e1, e2, e3⟩ := (h2 x).2 s hs; exact ⟨v, e1, e2.mono hO, e3⟩⟩⟩
theorem DiskIn.mono {O O' : Nat → Prop} {w : World} {p m : Nat} {G : Int → Option Nat} {st : DSt} (h : DiskIn O w p m G st) (hO : ∀ k, O k → O' k) : DiskIn O' w p m G st :=
  ⟨h.blk, hO p h.op, hO m h.om, h.outer, fun a g hg => by obtain ⟨e1, e2, e3⟩ := h.inner a g hg; exact ⟨hO g e1, e2, e3.mono hO⟩, h.inj, h.empty, h.present⟩

/-- a map block is turned: rows of strings stay -/
theorem Vers.turned {O : Nat → Prop} {w w' : World} {b : Nat} {v : Value} {L : List ByteArray} (h : Vers O w v L) (ht : w.mapTurned w' b) : Vers O w' v L := by
  obtain ⟨h0, a, cap, h1, h2, h3, h4⟩ := h
  refine ⟨h0, a, cap, h1, h2, h3, fun j hj => ?_⟩
  obtain ⟨q, o, e1, e2, e3, e4⟩ := h4 j hj
  have hq : q ≠ b := by
    intro e; subst e
    obtain ⟨es, clock, es', clock', hb, _⟩ := ht
    simp [World.cell?, hb] at e4
  refine ⟨q, o, e1, ⟨e2.1, e2.2.of_eq (turned_block ht hq)⟩, by rw [turned_size ht]; exact e3, ?_⟩
  rw [World.cell?_of_block (w := w) (a := ⟨q, o + j, none⟩) (turned_block ht hq)]; exact e4
theorem blk_turned {w w' : World} {b p : Nat} {t : TypeId} {cs : Array Value} (h : Blk w p t cs) (ht : w.mapTurned w' b) : Blk w' p t cs := by
  have hp : p ≠ b := by
    intro e; subst e
    obtain ⟨es, clock, es', clock', hb, _⟩ := ht
    unfold Blk at h; rw [hb] at h; cases h
  unfold Blk at h ⊢
  rw [turned_block ht hp]; exact h

def updF (F : Int → Int → Option Sec) (a n : Int) (s : Option Sec) : Int → Int → Option Sec := fun x y => if x = a ∧ y = n then s else F x y
def updN (N : Int → Nat) (a : Int) (c : Nat) : Int → Nat := fun x => if x = a then c else N x
def updA (A : Int → Bool) (a : Int) (c : Bool) : Int → Bool := fun x => if x = a then c else A x
/-- a sector is stored -/
def putS (st : DSt) (a n : Int) (s : Sec) : DSt := { st with F := updF st.F a n (some s), N := updN st.N a (if (st.F a n).isSome then st.N a else st.N a + 1) }
theorem DiskIn.put {O : Nat → Prop} {w : World} {p m g : Nat} {G : Int → Option Nat} {st : DSt} (h : DiskIn O w p m G st) {a n : Int} (hg : G a = some g) (hn : (Lit.int .i64 n).wf = true) (hc : st.N a < maxLen)
    {v : Value} {L : List ByteArray} {s : Bool} (hv : Vers O w v L) (hL : L ≠ []) :
    ∃ w', (Instr.mapUpdate 62 (.map (some g)) (.int .i64 n) (.agg #[v, .bool s])).run Tryz.prog w = .ok () w' ∧ DiskIn O w' p m G (putS st a n (L, s)) ∧ Keeps O w w' := by
  obtain ⟨og, gm, S, hS, hf⟩ := h.inner a g hg
  obtain ⟨w', hrun, hS', ht⟩ := hS.store Tryz.underlying3 Tryz.underlying62 hc hn (.agg #[v, .bool s])
  have hsome : (S n).isSome = (st.F a n).isSome := by
    cases hF : st.F a n with
    | none => rw [(hf n).1 hF]; rfl
    | some s' => obtain ⟨v', e1, _⟩ := (hf n).2 s' hF; rw [e1]; rfl
  refine ⟨w', hrun, ⟨blk_turned h.blk ht, h.op, h.om, h.outer.kept (turned_block ht (Ne.symm gm)), fun x q hq => ?_, h.inj, fun x hx => ?_, h.present⟩, turned_keeps ht og⟩
  · by_cases hxa : x = a
    · subst hxa
      obtain rfl : q = g := Option.some.inj (hq.symm.trans hg)
      refine ⟨og, gm, upd S n (some (.agg #[v, .bool s])), ?_, fun y => ?_⟩
      · have e : (putS st x n (L, s)).N x = if (S n).isSome then st.N x else st.N x + 1 := by simp [putS, updN, hsome]
        rw [e]; exact hS'
      · show (updF st.F x n (some (L, s)) x y = none → _) ∧ ∀ s', updF st.F x n (some (L, s)) x y = some s' → _
        unfold updF upd
        by_cases hy : y = n
        · subst hy
          simp only [and_self, if_true]
          refine ⟨fun hh => (by cases hh), fun s' hs' => ?_⟩
          obtain rfl := Option.some.inj hs'
          exact ⟨v, rfl, hv.turned ht, hL⟩
        · simp only [hy, and_false, if_false]
          refine ⟨(hf y).1, fun s' hs' => ?_⟩
          obtain ⟨v', e1, e2, e3⟩ := (hf y).2 s' hs'
          exact ⟨v', e1, e2.turned ht, e3⟩
    · have hqg : q ≠ g := fun e => hxa (h.inj x a g (e ▸ hq) hg)
      obtain ⟨oq, qm, S2, hS2, hf2⟩ := h.inner x q hq
      refine ⟨oq, qm, S2, ?_, fun y => ?_⟩
      · have e : (putS st a n (L, s)).N x = st.N x := by simp [putS, updN, hxa]
        rw [e]; exact hS2.kept (turned_block ht hqg)
      · have e : (putS st a n (L, s)).F x y = st.F x y := by simp [putS, updF, hxa]
        rw [e]
        refine ⟨(hf2 y).1, fun s' hs' => ?_⟩
        obtain ⟨v', e1, e2, e3⟩ := (hf2 y).2 s' hs'
        exact ⟨v', e1, e2.turned ht, e3⟩
  · have hxa : x ≠ a := by intro e; subst e; rw [hg] at hx; cases hx
    obtain ⟨e1, e2⟩ := h.empty x hx
    exact ⟨fun y => by simp [putS, updF, hxa, e1], by simp [putS, updN, hxa, e2]⟩
/-- an area's map is laid -/
def openA (st : DSt) (a : Int) : DSt := { st with A := updA st.A a true, C := st.C + 1 }
theorem DiskIn.opened {O : Nat → Prop} {w : World} {p m : Nat} {G : Int → Option Nat} {st : DSt} (h : DiskIn O w p m G st) {a : Int} (hg : G a = none) (ha : (Lit.int .u64 a).wf = true) (hc : st.C < maxLen) :
    ∃ w', (Instr.mapUpdate 45 (.map (some m)) (.int .u64 a) (.map (some w.heap.size))).run Tryz.prog (w.alloc (.map #[] 0)) = .ok () w' ∧
      DiskIn (fun k => O k ∨ k = w.heap.size) w' p m (fun x => if x = a then some w.heap.size else G x) (openA st a) ∧ Keeps O w w' := by
  have hb : Below w.heap.size w (w.alloc (.map #[] 0)) := (Below.refl _ _).alloc (Nat.le_refl _) _
  have h1 : DiskIn O (w.alloc (.map #[] 0)) p m G st := h.keep (O' := fun _ => False) (Keeps.of_below hb) (fun _ _ h => h)
  have hnew := MapF.made (P := Tryz.prog) (k := 3) (q := .i64) Tryz.underlying3 w
  obtain ⟨w', hrun, hM, ht⟩ := h1.outer.store Tryz.underlying37 Tryz.underlying45 hc ha (.map (some w.heap.size))
  have hmlt := h.outer.lt
  refine ⟨w', hrun, ⟨blk_turned h1.blk ht, .inl h.op, .inl h.om, ?_, fun x q hq => ?_, fun x y q hx hy => ?_, fun x hx => ?_, fun x => ?_⟩, ?_⟩
  · have e1 : ((fun a => (G a).map fun g => Value.map (some g)) a).isSome = false := by simp [hg]
    rw [e1] at hM
    have e2 : upd (fun a => (G a).map fun g => Value.map (some g)) a (some (.map (some w.heap.size))) = fun x => ((if x = a then some w.heap.size else G x)).map fun g => Value.map (some g) := by
      funext x; unfold upd; by_cases hx : x = a <;> simp [hx]
    rw [e2] at hM
    exact hM
  · by_cases hx : x = a
    · subst hx
      simp only [if_true] at hq
      obtain rfl := Option.some.inj hq
      obtain ⟨e1, e2⟩ := h.empty x hg
      refine ⟨.inr rfl, by omega, fun _ => none, ?_, fun y => ⟨fun _ => rfl, fun s hs => ?_⟩⟩
      · have e : (openA st x).N x = 0 := e2
        rw [e]; exact hnew.kept (turned_block ht (by omega))
      · have : (openA st x).F x y = none := e1 y
        rw [this] at hs; cases hs
    · simp only [hx, if_false] at hq
      obtain ⟨oq, qm, S, hS, hf⟩ := h1.inner x q hq
      refine ⟨.inl oq, qm, S, hS.kept (turned_block ht qm), fun y => ⟨(hf y).1, fun s hs => ?_⟩⟩
      obtain ⟨v', e1, e2, e3⟩ := (hf y).2 s hs
      exact ⟨v', e1, (e2.turned ht).mono (fun k hk => .inl hk), e3⟩
  · have hlt : ∀ z q', G z = some q' → q' < w.heap.size := by
      intro z q' hz
      obtain ⟨_, _, S, hS, _⟩ := h.inner z q' hz
      exact hS.lt
    by_cases e1 : x = a
    · by_cases e2 : y = a
      · rw [e1, e2]
      · simp only [e1, if_true] at hx
        simp only [e2, if_false] at hy
        obtain rfl := Option.some.inj hx
        have := hlt y _ hy; omega
    · simp only [e1, if_false] at hx
      by_cases e2 : y = a
      · simp only [e2, if_true] at hy
        obtain rfl := Option.some.inj hy
        have := hlt x _ hx; omega
      · simp only [e2, if_false] at hy
        exact h.inj x y q hx hy
  · by_cases e1 : x = a
    · simp only [e1, if_true] at hx; cases hx
    · simp only [e1, if_false] at hx
      exact h.empty x hx
  · show updA st.A a true x = _
    unfold updA
    by_cases e1 : x = a
    · simp [e1]
    · simp [e1]; exact h.present x
  · exact Keeps.trans (O := O) (Keeps.of_below hb) (turned_keeps ht h.om) (fun x hx => .inl hx)
end Go.Proofs.YtcpkpljeimbdiaaGreat.K
