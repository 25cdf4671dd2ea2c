/-
  WdUpL.
-/
import Derived.Test.YtkibkbbjpgomlaaDoorWqWdUpS
namespace Go.Proofs.YtkibkbbjpgomlaaDoor.F
open Go.RowKit Go.Shelf Go.Maps
open Aid L LM
open W (putU putU_ten RdIs)
set_option linter.unusedSimpArgs false
set_option linter.unusedVariables false

structure UnLp (w wr : World) (b0 p K Q : Nat) (B : Int) (S : List StM) (u : Value) (j : Nat) : Prop where
  row : ∃ q, SUp wr (Q + 1) (K + 1) p K u q ∧ q.map (·.1) = S.take j
  blk : Blk wr K 25 #[.int .i64 B, u]
  rd : RdIs b0 wr p (stsB j (S.drop j)) 0
  bel : Below w.heap.size w wr
  res : Blk wr Q 25 #[.int .i64 0, .slice none 0 0]
  lt : w.heap.size = Q ∧ Q < p ∧ p < K ∧ b0 < K ∧ Q < b0
theorem UnLp.form {w wr : World} {b0 p K Q : Nat} {B : Int} {S : List StM} {u : Value} {j : Nat} (h : UnLp w wr b0 p K Q B S u j) (hj : j ≤ S.length) : ∃ a c, u = .slice a j c := by
  obtain ⟨q, h1, h2⟩ := h.row
  have hq : q.length = j := by have := congrArg List.length h2; rw [List.length_map, List.length_take] at this; omega
  obtain ⟨a, c, e⟩ := owns_shape h1.own
  exact ⟨a, c, by rw [e, hq]⟩
theorem UnLp.below {w wr wr' : World} {b0 p K Q : Nat} {B : Int} {S : List StM} {u : Value} {j : Nat} (h : UnLp w wr b0 p K Q B S u j) (hb : Below wr.heap.size wr wr') : UnLp w wr' b0 p K Q B S u j := by
  obtain ⟨q, h1, h2⟩ := h.row
  exact ⟨⟨q, h1.turn (Turn.of_below hb), h2⟩, h.blk.below hb h.blk.lt, rd_turn (O := fun _ => False) h.rd (Turn.of_below hb) id id, h.bel.trans (hb.mono h.bel.size), h.res.below hb h.res.lt, h.lt⟩
set_option maxHeartbeats 1000000 in
theorem UnLp.next {w wr w1 : World} {b0 p K Q : Nat} {B : Int} {S : List StM} {a : Option Addr} {c : Nat} {us : Value} {j : Nat} {s : StM} (h : UnLp w wr b0 p K Q B S (.slice a j c) j) (hs : S[j]? = some s) (hl : S.length ≤ 98305)
    (hA : ArcsAre (fun x => x < wr.heap.size) w1 us s.arcs) (hR : RdIs b0 w1 p (stsB (j + 1) (S.drop (j + 1))) 0) (hT : Turn (fun k => k = p) wr w1) :
    ∃ u8a u8c W8, w1.cell? ⟨K, 1, none⟩ = some (.slice a j c) ∧ (w1.alloc (.cells (stV s us) 61)).cell? ⟨K, 1, none⟩ = some (.slice a j c) ∧
      (Builtin.append_ #[23, 23] 23 #[.slice a j c, .slice (some ⟨w1.heap.size, 0, none⟩) 1 1]).run Tryd.prog (w1.alloc (.cells (stV s us) 61)) = .ok (.slice u8a (j + 1) u8c) W8 ∧
      W8.cell? ⟨K, 1, none⟩ = some (.slice a j c) ∧ W8.frozen? ⟨K, 1, none⟩ = false ∧ UnLp w (W8.setCell ⟨K, 1, none⟩ (.slice u8a (j + 1) u8c)) b0 p K Q B S (.slice u8a (j + 1) u8c) (j + 1) := by
  obtain ⟨hjl, hje⟩ := List.getElem?_eq_some_iff.1 hs
  obtain ⟨q, h1, h2⟩ := h.row
  have hq : q.length = j := by have := congrArg List.length h2; rw [List.length_map, List.length_take] at this; omega
  obtain ⟨l1, l2, l3, l4, l5⟩ := h.lt
  obtain ⟨xa, xc, rfl⟩ := hA.slice
  have hu1 := h1.turn (hT.more (O' := fun k => k = p ∨ k = K) (fun _ _ h => .inl h))
  have hsz := hT.size
  have hle := h1.le
  have hb7 : Below w1.heap.size w1 (w1.alloc (.cells (stV s (.slice xa s.arcs.length xc)) 61)) := (Below.refl _ _).alloc (Nat.le_refl _) _
  have own7 := owns_below hu1.own hb7
  rw [hq] at own7
  have b7 : Blk (w1.alloc (.cells (stV s (.slice xa s.arcs.length xc)) 61)) w1.heap.size 61 (stV s (.slice xa s.arcs.length xc)) := Blk.alloc_new _ _ _
  obtain ⟨i0, z0, hi0, hz0, hsz0, hby0, hzs0⟩ := info_st'
  obtain ⟨u8, W8, hr8, own8, grow8, _, new8⟩ := run_append_own_at (P := Tryd.prog) (w1.alloc (.cells (stV s (.slice xa s.arcs.length xc)) 61)) (K + 1) 23 23 61 i0 z0 3 40 Tryd.underlying23 hi0 hz0 hsz0 hby0 hzs0 (by decide) (.slice a j c) j (rowS q) own7 ⟨w1.heap.size, 0, none⟩ 1 1 (stV s (.slice xa s.arcs.length xc)).toList rfl
    (World.news_of_block b7) (by intro y hy; simp [stV] at hy; rcases hy with rfl | rfl | rfl <;> rfl) (by unfold maxLen; omega) (by omega) (by have := hb7.size; omega)
  obtain ⟨va, vc, rfl⟩ := owns_shape own8
  have own8' := own8
  rw [← hq] at own8'
  obtain ⟨hadd, hT8⟩ := SUp.add (w := wr) (L := Q + 1) (base := K + 1) (p := p) (K := K) (q := q) (s := s) (us := .slice xa s.arcs.length xc) (u := .slice a j c) (u8 := .slice va (j + 1) vc) hu1 hA ⟨hle, fun k hk => (h1.own.lt k hk).2⟩ hb7 (by rw [hq] at own8' ⊢; exact own8') grow8 new8
  have bK1 := hT.blk h.blk (by omega)
  have bK8 := hT8.blk bK1 (by omega)
  have hT9 : Turn (fun k => k = K) W8 (W8.setCell ⟨K, 1, none⟩ (.slice va (j + 1) vc)) := W.turn_setW W8 K _
  refine ⟨va, vc, W8, (Blk.cell bK1 1).trans rfl, (Blk.cell (bK1.below hb7 bK1.lt) 1).trans rfl, hr8, (Blk.cell bK8 1).trans rfl, Blk.free bK8 1, ⟨_, hadd.turn (hT9.more (fun _ _ h => .inr h)), ?_⟩, bK8.set 1 _, ?_, ?_, ?_, h.lt⟩
  · rw [List.map_append, h2, take_snoc hs]; rfl
  · exact rd_turn (rd_turn hR hT8 (by omega) (by omega)) hT9 (by omega) (by omega)
  · have hlow : ∀ (O : Nat → Prop) (a b : World), Turn O a b → (∀ x, O x → w.heap.size ≤ x) → Below w.heap.size w a → Below w.heap.size w b := fun O a b hT hO hb =>
      ⟨hT.os.trans hb.os, hT.tape.trans hb.tape, hT.output.trans hb.output, Nat.le_trans hb.size hT.size, fun k hk => (hT.kept k (Nat.lt_of_lt_of_le hk hb.size) (fun h => by have := hO k h; omega)).trans (hb.block k hk)⟩
    exact hlow _ _ _ hT9 (fun x h => by omega) (hlow _ _ _ hT8 (fun x h => by omega) (hlow _ _ _ hT (fun x h => by omega) h.bel))
  · exact hT9.blk (hT8.blk (hT.blk h.res (by omega)) (by omega)) (by omega)
end Go.Proofs.YtkibkbbjpgomlaaDoor.F
