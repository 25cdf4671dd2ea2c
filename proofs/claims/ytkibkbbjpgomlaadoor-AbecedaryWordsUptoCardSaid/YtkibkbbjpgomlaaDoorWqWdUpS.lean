/-
  WdUpS.
-/
import Derived.Test.YtkibkbbjpgomlaaDoorWqWdSt
namespace Go.Proofs.YtkibkbbjpgomlaaDoor.F
open Go.RowKit Go.Shelf Go.Maps
open Aid L LM
open W (putU putU_ten RdIs)
set_option linter.unusedSimpArgs false
set_option linter.unusedVariables false

/-- a row of states that grows: none of it lies in old blocks -/
structure SUp (w : World) (L base p K : Nat) (u : Value) (q : List (StM × Value)) : Prop where
  own : w.ownsRow base 61 3 u q.length (rowS q)
  arcs : ∀ x ∈ q, ArcsAre (fun k => k < L ∨ k = p ∨ k = K ∨ u.ownBlock = some k) w x.2 x.1.arcs
  le : base ≤ w.heap.size
  lt : L ≤ base ∧ p < base ∧ K < base
theorem SUp.nil {w : World} {L base p K : Nat} (h : base ≤ w.heap.size) (h2 : L ≤ base ∧ p < base ∧ K < base) : SUp w L base p K (.slice none 0 0) [] :=
  ⟨World.ownsRow_nil _ _ _ _, fun x hx => (by cases hx), h, h2⟩
/-- the reader moved on -/
theorem SUp.turn {w w' : World} {L base p K : Nat} {u : Value} {q : List (StM × Value)} (h : SUp w L base p K u q) (hT : Turn (fun k => k = p ∨ k = K) w w') : SUp w' L base p K u q :=
  ⟨owns_kept h.own (fun x hx => hT.kept x (h.own.lt x hx).2 (by have := (h.own.lt x hx).1; have := h.lt; omega)), fun x hx => by
    refine (h.arcs x hx).turn (hT.more (O' := fun k => k < L ∨ k = p ∨ k = K ∨ u.ownBlock = some k) (fun y _ hy => ?_)) (fun y _ hy => hy)
    rcases hy with hy | hy
    · exact .inr (.inl hy)
    · exact .inr (.inr (.inl hy)), Nat.le_trans h.le hT.size, h.lt⟩
/-- one more state -/
theorem SUp.add {w w1 w7 w8 : World} {L base p K : Nat} {u u8 us : Value} {q : List (StM × Value)} {s : StM} (h : SUp w1 L base p K u q)
    (hs : ArcsAre (fun k => k < w.heap.size) w1 us s.arcs) (hw : base ≤ w.heap.size ∧ (∀ k, u.ownBlock = some k → k < w.heap.size)) (h7 : Below w1.heap.size w1 w7)
    (own8 : w8.ownsRow base 61 3 u8 (q.length + 1) (rowS q ++ (stV s us).toList)) (grow8 : w7.grownBy w8 u.ownBlock) (new8 : u8.ownBlock = u.ownBlock ∨ u8.ownBlock = some w7.heap.size) :
    SUp w8 L base p K u8 (q ++ [(s, us)]) ∧ Turn (fun k => base ≤ k) w1 w8 := by
  have hT8 : Turn (fun k => u.ownBlock = some k) w7 w8 := ⟨grow8.size, grow8.os, grow8.tape, grow8.output, fun x hx hn => grow8.block x hx (fun e => hn e.symm)⟩
  have hT : Turn (fun k => u.ownBlock = some k) w1 w8 := (Turn.of_below (O := fun k => u.ownBlock = some k) h7).trans hT8 (fun _ _ h => h)
  have hlt := h.lt
  have hsz := h7.size
  refine ⟨⟨?_, fun x hx => ?_, Nat.le_trans h.le hT.size, h.lt⟩, hT.more (fun x _ hx => (h.own.lt x hx).1)⟩
  · rw [rowS_snoc, List.length_append]
    exact own8
  · have hO : ∀ (O : Nat → Prop) (v : Value) (A : List ArcM), ArcsAre O w1 v A → (∀ k, k < L ∨ k = p ∨ k = K ∨ u.ownBlock = some k → O k) → ArcsAre (fun k => k < L ∨ k = p ∨ k = K ∨ u8.ownBlock = some k) w8 v A := fun O v A hA hO =>
      hA.turn (hT.more (fun y _ hy => hO y (.inr (.inr (.inr hy))))) (fun y hy h => by
        rcases h with h | h | h | h
        · exact hO y (.inl h)
        · exact hO y (.inr (.inl h))
        · exact hO y (.inr (.inr (.inl h)))
        · rcases new8 with e | e
          · exact hO y (.inr (.inr (.inr (by rw [← e]; exact h))))
          · rw [e] at h
            have : w7.heap.size = y := by simpa using h
            omega)
    rcases List.mem_append.1 hx with hx | hx
    · exact hO _ _ _ (h.arcs x hx) (fun _ h => h)
    · rw [List.mem_singleton] at hx
      subst hx
      exact hO _ _ _ hs (fun k h => by
        show k < w.heap.size
        rcases h with h | h | h | h
        · omega
        · omega
        · omega
        · exact hw.2 k h)
/-- it is a machine's states -/
theorem SUp.states {w : World} {L base p K : Nat} {u : Value} {q : List (StM × Value)} (h : SUp w L base p K u q) (hS : q.length ≤ 1000000) : StatesAre (fun k => k < L ∨ k = p ∨ k = K) w u (q.map (·.1)) := by
  have own := h.own
  have hlt := h.lt
  have hall : ∀ x ∈ q, ArcsAre (fun k => k < L ∨ k = p ∨ k = K) w x.2 x.1.arcs := fun x hx => (h.arcs x hx).turn (Turn.refl _ _) (fun y _ hy => by
    rcases hy with hy | hy | hy
    · exact .inl hy
    · exact .inr (.inl hy)
    · exact .inr (.inr (.inl hy)))
  rcases own.2 with ⟨e, hn⟩ | ⟨g, cap, cur, e, hb, hg, hnc, hcm, hcs, htake⟩
  · subst e
    have hq : q = [] := List.eq_nil_of_length_eq_zero hn
    subst hq
    exact StatesAre.nil _ _
  · subst e
    have hgl : g < w.heap.size := (Array.getElem?_eq_some_iff.1 hg).1
    refine ⟨_, cap, q, by rw [List.length_map], rfl, by rw [List.length_map]; exact hS, fun j x hj => ⟨⟨g, 0, rfl, hgl, by omega, fun i u hi => ?_⟩, hall x (List.mem_of_getElem? hj)⟩⟩
    have := own.cells (g := g) rfl (j * 3 + i) u (rowS_at q j x hj i u hi)
    rw [add_plain] at this
    rw [Nat.zero_add]
    exact this
end Go.Proofs.YtkibkbbjpgomlaaDoor.F
