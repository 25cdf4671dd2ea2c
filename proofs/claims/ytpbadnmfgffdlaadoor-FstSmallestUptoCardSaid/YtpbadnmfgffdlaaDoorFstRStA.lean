/-
  What is known, in memory.
-/
import Derived.Test.YtpbadnmfgffdlaaDoorFstRepB
import Derived.Test.YtpbadnmfgffdlaaDoorFstSameS
namespace Go.Proofs.YtpbadnmfgffdlaaDoor.F
open Go.RowKit Go.Shelf Go.Maps
open Aid L LM
set_option linter.unusedSimpArgs false
set_option linter.unusedVariables false

def Ko (vR vS : Value) : Nat → Prop := fun x => vR.ownBlock = some x ∨ vS.ownBlock = some x
def KoF (vR vS : Value) (F : Nat → Prop) : Nat → Prop := fun x => Ko vR vS x ∨ F x
structure Kis (w : World) (vR vS : Value) (k : KM) (F : Nat → Prop) (LR : List (List RS × Value)) (qS : List (StM × Value)) : Prop where
  rowR : w.ownsRow 0 65 1 vR LR.length (LR.map (·.2))
  rests : ∀ x ∈ LR, RestsAre (KoF vR vS F) w x.2 x.1
  eqR : LR.map (fun x => rw x.1) = k.R
  rowS : w.ownsRow 0 43 3 vS qS.length (rowS qS)
  arcs : ∀ x ∈ qS, ArcsAre (KoF vR vS F) w x.2 x.1.arcs
  eqS : qS.map (·.1) = k.S
  ne : ∀ x, vR.ownBlock = some x → ¬ vS.ownBlock = some x
theorem Kis.lt {w : World} {vR vS : Value} {k : KM} {F : Nat → Prop} {LR : List (List RS × Value)} {qS : List (StM × Value)} (h : Kis w vR vS k F LR qS) {x : Nat} (hx : Ko vR vS x) : x < w.heap.size := by
  rcases hx with hx | hx
  · exact (h.rowR.lt x hx).2
  · exact (h.rowS.lt x hx).2
theorem RestsAre.less {O O' : Nat → Prop} {w : World} {v : Value} {q : List RS} (h : RestsAre O w v q) (hO : ∀ x, x < w.heap.size → O' x → O x) : RestsAre O' w v q := h.turn (Turn.refl _ _) hO
theorem ArcsAre.less {O O' : Nat → Prop} {w : World} {v : Value} {q : List ArcM} (h : ArcsAre O w v q) (hO : ∀ x, x < w.heap.size → O' x → O x) : ArcsAre O' w v q := h.turn (Turn.refl _ _) hO
theorem Kis.turn2 {w w' : World} {vR vS : Value} {k : KM} {F F' G : Nat → Prop} {LR : List (List RS × Value)} {qS : List (StM × Value)} (h : Kis w vR vS k F LR qS) (hT : Turn G w w') (hG : ∀ x, x < w.heap.size → G x → F x ∧ ¬ Ko vR vS x) (hF : ∀ x, x < w.heap.size → F' x → F x) : Kis w' vR vS k F' LR qS := by
  have hk : ∀ x, x < w.heap.size → Ko vR vS x → w'.heap[x]? = w.heap[x]? := fun x hx ho => hT.kept x hx (fun g => (hG x hx g).2 ho)
  have hO : ∀ x, x < w.heap.size → KoF vR vS F' x → KoF vR vS F x := fun x hx h => h.elim .inl (fun h => .inr (hF x hx h))
  have hT' : Turn (KoF vR vS F) w w' := ⟨hT.size, hT.os, hT.tape, hT.output, fun x hx hn => hT.kept x hx (fun g => hn (.inr (hG x hx g).1))⟩
  exact ⟨owns_kept h.rowR (fun x hx => hk x (h.rowR.lt x hx).2 (.inl hx)), fun x hx => (h.rests x hx).turn hT' hO, h.eqR, owns_kept h.rowS (fun x hx => hk x (h.rowS.lt x hx).2 (.inr hx)), fun x hx => (h.arcs x hx).turn hT' hO, h.eqS, h.ne⟩
theorem Kis.below {w w' : World} {vR vS : Value} {k : KM} {F : Nat → Prop} {LR : List (List RS × Value)} {qS : List (StM × Value)} (h : Kis w vR vS k F LR qS) (hb : Below w.heap.size w w') : Kis w' vR vS k F LR qS := h.turn2 (G := fun _ => False) (Turn.of_below hb) (fun _ _ h => h.elim) (fun _ _ h => h)
theorem Kis.weaken {w : World} {vR vS : Value} {k : KM} {F F' : Nat → Prop} {LR : List (List RS × Value)} {qS : List (StM × Value)} (h : Kis w vR vS k F LR qS) (hF : ∀ x, x < w.heap.size → F' x → F x) : Kis w vR vS k F' LR qS := h.turn2 (G := fun _ => False) (Turn.refl _ _) (fun _ _ h => h.elim) hF
theorem Kis.all {w : World} {vR vS : Value} {k : KM} {F : Nat → Prop} {LR : List (List RS × Value)} {qS : List (StM × Value)} (h : Kis w vR vS k F LR qS) (hl : LR.length ≤ 1000000) : AllAre w vR (LR.map (·.1)) := by
  have hr := h.rests
  rcases h.rowR.2 with ⟨e, hn⟩ | ⟨g, cap, cur, e, hb, hg, hnc, hcm, hcs, htake⟩
  · refine ⟨none, 0, by rw [e, List.length_map, hn], by rw [List.length_map]; omega, fun j q hj => ?_⟩
    have := (List.getElem?_eq_some_iff.1 hj).1
    rw [List.length_map] at this
    omega
  · have hgl : g < w.heap.size := (Array.getElem?_eq_some_iff.1 hg).1
    refine ⟨some ⟨g, 0, none⟩, cap, by rw [e, List.length_map], by rw [List.length_map]; omega, fun j q hj => ?_⟩
    rw [List.getElem?_map] at hj
    cases hx : LR[j]? with
    | none => rw [hx] at hj; cases hj
    | some x =>
      rw [hx] at hj
      obtain rfl : x.1 = q := by simpa using hj
      have hrow := h.rowR
      rw [e] at hrow
      have := hrow.cells (g := g) rfl j x.2 (by rw [List.getElem?_map, hx]; rfl)
      rw [add_plain] at this
      refine ⟨g, 0, x.2, rfl, hgl, by rw [Nat.zero_add]; exact this, (hr x (List.mem_of_getElem? hx)).less (fun _ _ h => h.elim)⟩
theorem grown_turn {w w1 w2 : World} {v : Value} (hb : Below w.heap.size w w1) (hg : w1.grownBy w2 v.ownBlock) : Turn (fun x => v.ownBlock = some x) w w2 :=
  ⟨Nat.le_trans hb.size hg.size, hg.os.trans hb.os, hg.tape.trans hb.tape, hg.output.trans hb.output, fun y hy hn => (hg.block y (Nat.lt_of_lt_of_le hy hb.size) (fun e => hn e.symm)).trans (hb.block y hy)⟩
/-- one more row of rests -/
theorem Kis.addR {w w1 w2 : World} {vR vR' vS u : Value} {k : KM} {F : Nat → Prop} {LR : List (List RS × Value)} {qS : List (StM × Value)} {q : List RS} (h : Kis w vR vS k F LR qS) (hq : RestsAre (KoF vR vS F) w u q)
    (hb : Below w.heap.size w w1) (own : w2.ownsRow 0 65 1 vR' (LR.length + 1) (LR.map (·.2) ++ [u])) (hg : w1.grownBy w2 vR.ownBlock) (hat : vR'.ownBlock = vR.ownBlock ∨ vR'.ownBlock = some w1.heap.size) :
    Kis w2 vR' vS ⟨k.R ++ [rw q], k.S⟩ F (LR ++ [(q, u)]) qS ∧ Turn (Ko vR vS) w w2 ∧ ∀ x, x < w.heap.size → Ko vR' vS x → Ko vR vS x := by
  have hz := hb.size
  have hT := grown_turn hb hg
  have hT' : Turn (KoF vR vS F) w w2 := hT.more (fun x _ e => .inl (.inl e))
  have hk : ∀ x, x < w.heap.size → Ko vR' vS x → Ko vR vS x := fun x hx e => by
    rcases e with e | e
    · rcases hat with e' | e'
      · exact .inl (e' ▸ e)
      · rw [e'] at e; cases e; omega
    · exact .inr e
  have hO : ∀ x, x < w.heap.size → KoF vR' vS F x → KoF vR vS F x := fun x hx e => e.elim (fun e => .inl (hk x hx e)) .inr
  refine ⟨⟨by rw [List.length_append, List.map_append]; exact own, fun x hx => ?_, by rw [List.map_append, h.eqR]; rfl, owns_kept h.rowS (fun x hx => hT.kept x (h.rowS.lt x hx).2 (fun e => h.ne x e hx)), fun x hx => (h.arcs x hx).turn hT' hO, h.eqS, fun x hx hs => ?_⟩, hT.more (fun x _ e => .inl e), hk⟩
  · rcases List.mem_append.1 hx with hx | hx
    · exact (h.rests x hx).turn hT' hO
    · simp only [List.mem_singleton] at hx
      subst hx
      exact hq.turn hT' hO
  · have hs' := (h.rowS.lt x hs).2
    rcases hat with e' | e'
    · exact h.ne x (e' ▸ hx) hs
    · rw [e'] at hx; cases hx; omega
/-- one more state -/
theorem Kis.addS {w w1 w2 : World} {vR vS vS' u : Value} {k : KM} {F : Nat → Prop} {LR : List (List RS × Value)} {qS : List (StM × Value)} {s : StM} (h : Kis w vR vS k F LR qS) (ha : ArcsAre (KoF vR vS F) w u s.arcs)
    (hb : Below w.heap.size w w1) (own : w2.ownsRow 0 43 3 vS' (qS.length + 1) (Go.Proofs.YtpbadnmfgffdlaaDoor.F.rowS qS ++ (stV s u).toList)) (hg : w1.grownBy w2 vS.ownBlock) (hat : vS'.ownBlock = vS.ownBlock ∨ vS'.ownBlock = some w1.heap.size) :
    Kis w2 vR vS' ⟨k.R, k.S ++ [s]⟩ F LR (qS ++ [(s, u)]) ∧ Turn (Ko vR vS) w w2 ∧ ∀ x, x < w.heap.size → Ko vR vS' x → Ko vR vS x := by
  have hz := hb.size
  have hT := grown_turn hb hg
  have hT' : Turn (KoF vR vS F) w w2 := hT.more (fun x _ e => .inl (.inr e))
  have hk : ∀ x, x < w.heap.size → Ko vR vS' x → Ko vR vS x := fun x hx e => by
    rcases e with e | e
    · exact .inl e
    · rcases hat with e' | e'
      · exact .inr (e' ▸ e)
      · rw [e'] at e; cases e; omega
  have hO : ∀ x, x < w.heap.size → KoF vR vS' F x → KoF vR vS F x := fun x hx e => e.elim (fun e => .inl (hk x hx e)) .inr
  refine ⟨⟨owns_kept h.rowR (fun x hx => hT.kept x (h.rowR.lt x hx).2 (fun e => h.ne x hx e)), fun x hx => (h.rests x hx).turn hT' hO, h.eqR, by rw [rowS_snoc, List.length_append]; exact own, fun x hx => ?_, by rw [List.map_append, h.eqS]; rfl, fun x hx hs => ?_⟩, hT.more (fun x _ e => .inr e), hk⟩
  · rcases List.mem_append.1 hx with hx | hx
    · exact (h.arcs x hx).turn hT' hO
    · simp only [List.mem_singleton] at hx
      subst hx
      exact ha.turn hT' hO
  · have hr' := (h.rowR.lt x hx).2
    rcases hat with e' | e'
    · exact h.ne x hx (e' ▸ hs)
    · rw [e'] at hs; cases hs; omega
theorem Kis.states {w : World} {vR vS : Value} {k : KM} {F : Nat → Prop} {LR : List (List RS × Value)} {qS : List (StM × Value)} (h : Kis w vR vS k F LR qS) (hl : k.S.length ≤ 1000000) : StatesAre (fun _ => False) w vS k.S := by
  have hall : ∀ x ∈ qS, ArcsAre (fun _ => False) w x.2 x.1.arcs := fun x hx => (h.arcs x hx).less (fun _ _ h => h.elim)
  have hlen : k.S.length = qS.length := by rw [← h.eqS, List.length_map]
  rcases h.rowS.2 with ⟨e, hn⟩ | ⟨g, cap, cur, e, hb, hg, hnc, hcm, hcs, htake⟩
  · refine ⟨none, 0, qS, by rw [e, hlen, hn], h.eqS, hl, fun j x hj => ?_⟩
    have := (List.getElem?_eq_some_iff.1 hj).1
    omega
  · have hgl : g < w.heap.size := (Array.getElem?_eq_some_iff.1 hg).1
    refine ⟨_, cap, qS, by rw [e, hlen], h.eqS, hl, fun j x hj => ⟨⟨g, 0, rfl, hgl, id, fun i u hi => ?_⟩, hall x (List.mem_of_getElem? hj)⟩⟩
    have hrow := h.rowS
    rw [e] at hrow
    have := hrow.cells (g := g) rfl (j * 3 + i) u (rowS_at qS j x hj i u hi)
    rw [add_plain] at this
    rw [Nat.zero_add]
    exact this
end Go.Proofs.YtpbadnmfgffdlaaDoor.F
