/-
  WdNwL.
-/
import Derived.Test.YtkibkbbjpgomlaaDoorWqWdUpS
namespace Go.Proofs.YtkibkbbjpgomlaaDoor.F
open Go.RowKit Go.Shelf Go.Maps
open Aid L LM
set_option linter.unusedSimpArgs false
set_option linter.unusedVariables false

theorem ArcsAre.both {O1 O2 : Nat → Prop} {w : World} {v : Value} {A : List ArcM} (h1 : ArcsAre O1 w v A) (h2 : ArcsAre O2 w v A) : ArcsAre (fun g => O1 g ∨ O2 g) w v A := by
  obtain ⟨a, cap, rfl, g1, g2, g3⟩ := h1
  obtain ⟨a', cap', e, k1, k2, k3⟩ := h2
  simp only [Value.slice.injEq] at e
  obtain ⟨rfl, _, rfl⟩ := e
  refine ⟨a, cap, rfl, g1, fun x hx => ⟨(g2 x hx).1, fun h => h.elim (g2 x hx).2 (k2 x hx).2⟩, fun j x hj => ?_⟩
  obtain ⟨g, off, e1, e2, e3, e4⟩ := g3 j x hj
  obtain ⟨g', off', e1', _, e3', _⟩ := k3 j x hj
  rw [e1] at e1'
  cases e1'
  exact ⟨g, off, e1, e2, fun h => h.elim e3 e3', e4⟩
def cntS (S : List StM) (k : Nat) : Nat := (wordsS S k).length
def rowN (S : List StM) (m : Nat) : List Value := (List.range m).map fun i => .int .i64 (cntS S i)
theorem rowN_succ (S : List StM) (m : Nat) : rowN S (m + 1) = rowN S m ++ [.int .i64 (cntS S m)] := by unfold rowN; rw [List.range_succ, List.map_append]; rfl
theorem rowN_len (S : List StM) (m : Nat) : (rowN S m).length = m := by unfold rowN; simp
theorem rowN_at (S : List StM) {m i : Nat} (h : i < m) : (rowN S m)[i]? = some (.int .i64 (cntS S i)) := by unfold rowN; simp [h]
structure NwLp (w wr : World) (P : Nat) (B : Int) (S : List StM) (su wu : Value) (k m : Nat) : Prop where
  row : ∃ q, SUp wr (P + 1) (P + 1) P P su q ∧ q.map (·.1) = S.take k ∧ ∀ x ∈ q, ArcsAre (fun g => wu.ownBlock = some g) wr x.2 x.1.arcs
  cnt : wr.ownsRow (P + 1) 3 1 wu m (rowN S m)
  apart : ∀ g, su.ownBlock = some g → wu.ownBlock ≠ some g
  blk : Blk wr P 72 #[.int .i64 B, su, wu]
  bel : Below w.heap.size w wr
  lt : w.heap.size ≤ P
theorem NwLp.form {w wr : World} {P : Nat} {B : Int} {S : List StM} {su wu : Value} {k m : Nat} (h : NwLp w wr P B S su wu k m) (hk : k ≤ S.length) : (∃ a c, su = .slice a k c) ∧ ∃ a c, wu = .slice a m c := by
  obtain ⟨q, h1, h2, _⟩ := h.row
  have hq : q.length = k := by have := congrArg List.length h2; rw [List.length_map, List.length_take] at this; omega
  obtain ⟨a, c, e⟩ := owns_shape h1.own
  exact ⟨⟨a, c, by rw [e, hq]⟩, owns_shape h.cnt⟩
theorem NwLp.below {w wr w' : World} {P : Nat} {B : Int} {S : List StM} {su wu : Value} {k m : Nat} (h : NwLp w wr P B S su wu k m) (hb : Below wr.heap.size wr w') : NwLp w w' P B S su wu k m := by
  obtain ⟨q, h1, h2, h3⟩ := h.row
  exact ⟨⟨q, h1.turn (Turn.of_below hb), h2, fun x hx => (h3 x hx).turn (Turn.of_below hb) (fun _ _ h => h)⟩, owns_below h.cnt hb, h.apart, h.blk.below hb h.blk.lt, h.bel.trans (hb.mono h.bel.size), h.lt⟩
theorem below_turn {L : Nat} {O : Nat → Prop} {w a b : World} (hT : Turn O a b) (hO : ∀ x, O x → L ≤ x) (hb : Below L w a) (hL : L ≤ w.heap.size) : Below L w b :=
  ⟨hT.os.trans hb.os, hT.tape.trans hb.tape, hT.output.trans hb.output, Nat.le_trans hb.size hT.size, fun k hk => (hT.kept k (Nat.lt_of_lt_of_le (Nat.lt_of_lt_of_le hk hL) hb.size) (fun h => by have := hO k h; omega)).trans (hb.block k hk)⟩
set_option maxHeartbeats 1000000 in
/-- one more state -/
theorem NwLp.state {w wr w1 : World} {P : Nat} {B : Int} {S : List StM} {a : Option Addr} {c : Nat} {wu us : Value} {k m : Nat} {s : StM} (h : NwLp w wr P B S (.slice a k c) wu k m) (hs : S[k]? = some s) (hl : S.length ≤ 98305)
    (hb : Below wr.heap.size wr w1) (hA : ArcsAre (fun x => x < wr.heap.size) w1 us s.arcs) :
    ∃ a8 c8 W8, (Builtin.append_ #[23, 23] 23 #[.slice a k c, .slice (some ⟨w1.heap.size, 0, none⟩) 1 1]).run Tryd.prog (w1.alloc (.cells (stV s us) 61)) = .ok (.slice a8 (k + 1) c8) W8 ∧
      W8.cell? ⟨P, 1, none⟩ = some (.slice a k c) ∧ W8.frozen? ⟨P, 1, none⟩ = false ∧ NwLp w (W8.setCell ⟨P, 1, none⟩ (.slice a8 (k + 1) c8)) P B S (.slice a8 (k + 1) c8) wu (k + 1) m := by
  obtain ⟨hjl, hje⟩ := List.getElem?_eq_some_iff.1 hs
  obtain ⟨q, h1, h2, h3⟩ := h.row
  have hq : q.length = k := by have := congrArg List.length h2; rw [List.length_map, List.length_take] at this; omega
  obtain ⟨xa, xc, rfl⟩ := hA.slice
  have hu1 := h1.turn (w' := w1) (Turn.of_below hb)
  have hsz := hb.size
  have hle := h1.le
  have hb7 : Below w1.heap.size w1 (w1.alloc (.cells (stV s (.slice xa s.arcs.length xc)) 61)) := (Below.refl _ _).alloc (Nat.le_refl _) _
  have own7 := owns_below hu1.own hb7
  rw [hq] at own7
  have b7 : Blk (w1.alloc (.cells (stV s (.slice xa s.arcs.length xc)) 61)) w1.heap.size 61 (stV s (.slice xa s.arcs.length xc)) := Blk.alloc_new _ _ _
  obtain ⟨i0, z0, hi0, hz0, hsz0, hby0, hzs0⟩ := info_st'
  obtain ⟨u8, W8, hr8, own8, grow8, _, new8⟩ := run_append_own_at (P := Tryd.prog) (w1.alloc (.cells (stV s (.slice xa s.arcs.length xc)) 61)) (P + 1) 23 23 61 i0 z0 3 40 Tryd.underlying23 hi0 hz0 hsz0 hby0 hzs0 (by decide) (.slice a k c) k (rowS q) own7 ⟨w1.heap.size, 0, none⟩ 1 1 (stV s (.slice xa s.arcs.length xc)).toList rfl
    (World.news_of_block b7) (by intro y hy; simp [stV] at hy; rcases hy with rfl | rfl | rfl <;> rfl) (by unfold maxLen; omega) (by omega) (by have := hb7.size; omega)
  obtain ⟨va, vc, rfl⟩ := owns_shape own8
  obtain ⟨hadd, hT8⟩ := SUp.add (w := wr) (L := P + 1) (base := P + 1) (p := P) (K := P) (q := q) (s := s) (us := .slice xa s.arcs.length xc) (u := .slice a k c) (u8 := .slice va (k + 1) vc) hu1 hA ⟨hle, fun k hk => (h1.own.lt k hk).2⟩ hb7 (by rw [hq]; exact own8) grow8 new8
  have hTs : Turn (fun g => Value.ownBlock (.slice a k c) = some g) w1 W8 :=
    (Turn.of_below (O := fun g => Value.ownBlock (.slice a k c) = some g) hb7).trans (O' := fun g => Value.ownBlock (.slice a k c) = some g) ⟨grow8.size, grow8.os, grow8.tape, grow8.output, fun x hx hn => grow8.block x hx (fun e => hn e.symm)⟩ (fun _ _ h => h)
  have bK1 := h.blk.below hb h.blk.lt
  have bK8 := hT8.blk bK1 (by omega)
  have hT9 : Turn (fun g => g = P) W8 (W8.setCell ⟨P, 1, none⟩ (.slice va (k + 1) vc)) := W.turn_setW W8 P _
  have hbP := h.blk.lt
  refine ⟨va, vc, W8, hr8, (Blk.cell bK8 1).trans rfl, Blk.free bK8 1, ⟨⟨q ++ [(s, .slice xa s.arcs.length xc)], hadd.turn (hT9.more (fun _ _ h => .inr h)), ?_, ?_⟩, ?_, ?_, bK8.set 1 _, ?_, h.lt⟩⟩
  · rw [List.map_append, h2, take_snoc hs]; rfl
  · intro x hx
    have hx8 : ArcsAre (fun g => (wu.ownBlock = some g ∨ Value.ownBlock (.slice a k c) = some g) ∨ g = P) w1 x.2 x.1.arcs := by
      rcases List.mem_append.1 hx with hx | hx
      · refine ((((h3 x hx).both (h1.arcs x hx)).turn (Turn.of_below hb) (fun _ _ h => h))).turn (Turn.refl _ _) (fun y _ hy => ?_)
        rcases hy with (hy | hy) | hy
        · exact .inl hy
        · exact .inr (.inr (.inr (.inr hy)))
        · exact .inr (.inr (.inl hy))
      · rw [List.mem_singleton] at hx
        subst hx
        refine hA.turn (Turn.refl _ _) (fun y _ hy => ?_)
        rcases hy with (hy | hy) | hy
        · exact (h.cnt.lt y hy).2
        · exact (h1.own.lt y hy).2
        · show y < wr.heap.size; omega
    exact (hx8.turn (hTs.more (fun y _ hy => .inl (.inr hy))) (fun _ _ h => h)).turn (hT9.more (fun y _ hy => .inr hy)) (fun y _ hy => .inl (.inl hy))
  · refine owns_kept (owns_kept (owns_below h.cnt hb) (fun x hx => hTs.kept x (by have := (h.cnt.lt x hx).2; omega) (fun e => h.apart x e hx))) (fun x hx => hT9.kept x (by have := (h.cnt.lt x hx).2; have := hTs.size; omega) (by have := (h.cnt.lt x hx).1; omega))
  · intro g hg hw
    rcases new8 with e | e
    · exact h.apart g (by rw [← e]; exact hg) hw
    · rw [e] at hg
      have h5 : (w1.alloc (.cells (stV s (.slice xa s.arcs.length xc)) 61)).heap.size = g := by simpa using hg
      have := (h.cnt.lt g hw).2
      have := hb7.size
      omega
  · exact below_turn hT9 (fun x h' => by have := h.lt; omega) (below_turn hT8 (fun x h' => by have := h.lt; omega) (h.bel.trans (hb.mono h.bel.size)) (Nat.le_refl _)) (Nat.le_refl _)
set_option maxHeartbeats 1000000 in
/-- one more count -/
theorem NwLp.count {w wr w1 : World} {P : Nat} {B : Int} {S : List StM} {su : Value} {a : Option Addr} {c k m n : Nat} (h : NwLp w wr P B S su (.slice a m c) k m) (hm : m ≤ 98305) (hn : cntS S m = n)
    (hb : Below wr.heap.size wr w1) :
    ∃ a8 c8 W8, (Builtin.append_ #[70, 70] 70 #[.slice a m c, .slice (some ⟨w1.heap.size, 0, none⟩) 1 1]).run Tryd.prog (w1.alloc (.cells #[.int .i64 n] 3)) = .ok (.slice a8 (m + 1) c8) W8 ∧
      W8.cell? ⟨P, 2, none⟩ = some (.slice a m c) ∧ W8.frozen? ⟨P, 2, none⟩ = false ∧ NwLp w (W8.setCell ⟨P, 2, none⟩ (.slice a8 (m + 1) c8)) P B S su (.slice a8 (m + 1) c8) k (m + 1) := by
  obtain ⟨q, h1, h2, h3⟩ := h.row
  have hu1 := h1.turn (w' := w1) (Turn.of_below hb)
  have hsz := hb.size
  have hle := h1.le
  have hb7 : Below w1.heap.size w1 (w1.alloc (.cells #[.int .i64 n] 3)) := (Below.refl _ _).alloc (Nat.le_refl _) _
  have own7 := owns_below (owns_below h.cnt hb) hb7
  obtain ⟨i0, hi0, hz0, hsz0, hby0⟩ := info_parts info_int1
  obtain ⟨u8, W8, hr8, own8, grow8, _, new8⟩ := run_append_own_at (P := Tryd.prog) (w1.alloc (.cells #[.int .i64 n] 3)) (P + 1) 70 70 3 i0 (.int .i64 0) 1 8 Tryd.underlying70 hi0 hz0 hsz0 hby0 rfl (by decide) (.slice a m c) m (rowN S m) own7 ⟨w1.heap.size, 0, none⟩ 1 1 [.int .i64 n] rfl
    (cell_one_new _ _ _) (by intro y hy; simp at hy; rcases hy with rfl; rfl) (by unfold maxLen; omega) (by omega) (by have := hb7.size; omega)
  obtain ⟨va, vc, rfl⟩ := owns_shape own8
  have hTs : Turn (fun g => Value.ownBlock (.slice a m c) = some g) w1 W8 :=
    (Turn.of_below (O := fun g => Value.ownBlock (.slice a m c) = some g) hb7).trans (O' := fun g => Value.ownBlock (.slice a m c) = some g) ⟨grow8.size, grow8.os, grow8.tape, grow8.output, fun x hx hn => grow8.block x hx (fun e => hn e.symm)⟩ (fun _ _ h => h)
  have hwlt : ∀ g, Value.ownBlock (.slice a m c) = some g → P + 1 ≤ g ∧ g < w1.heap.size := fun g hg => ⟨(h.cnt.lt g hg).1, by have := (h.cnt.lt g hg).2; omega⟩
  have bK1 := h.blk.below hb h.blk.lt
  have bK8 := hTs.blk bK1 (fun e => by have := (hwlt P e).1; omega)
  have hT9 : Turn (fun g => g = P) W8 (W8.setCell ⟨P, 2, none⟩ (.slice va (m + 1) vc)) := W.turn_setW W8 P _
  have hbP := h.blk.lt
  have hnew : ∀ g, Value.ownBlock (.slice va (m + 1) vc) = some g → Value.ownBlock (.slice a m c) = some g ∨ w1.heap.size < g := fun g hg => by
    rcases new8 with e | e
    · exact .inl (by rw [← e]; exact hg)
    · rw [e] at hg
      have h5 : (w1.alloc (.cells #[.int .i64 n] 3)).heap.size = g := by simpa using hg
      right
      rw [← h5]
      simp
  have harc : ∀ x ∈ q, ArcsAre (fun g => g < P + 1 ∨ g = P ∨ g = P ∨ su.ownBlock = some g) W8 x.2 x.1.arcs ∧ ArcsAre (fun g => Value.ownBlock (.slice va (m + 1) vc) = some g ∨ g = P) W8 x.2 x.1.arcs := fun x hx => by
    have hx8 : ArcsAre (fun g => Value.ownBlock (.slice a m c) = some g ∨ (g < P + 1 ∨ g = P ∨ g = P ∨ su.ownBlock = some g)) w1 x.2 x.1.arcs := ((h3 x hx).both (h1.arcs x hx)).turn (Turn.of_below hb) (fun _ _ h => h)
    refine ⟨hx8.turn (hTs.more (fun y _ hy => .inl hy)) (fun _ _ h => .inr h), hx8.turn (hTs.more (fun y _ hy => .inl hy)) (fun y hy h' => ?_)⟩
    rcases h' with h' | h'
    · rcases hnew y h' with h' | h'
      · exact .inl h'
      · omega
    · exact .inr (.inr (.inl h'))
  have hTP : ∀ x, su.ownBlock = some x → P + 1 ≤ x ∧ x < w1.heap.size := fun x hx => ⟨(h1.own.lt x hx).1, by have := (h1.own.lt x hx).2; omega⟩
  have hs8 := hTs.size
  refine ⟨va, vc, W8, hr8, (Blk.cell bK8 2).trans rfl, Blk.free bK8 2, ⟨⟨q, ⟨?_, fun x hx => ?_, ?_, h1.lt⟩, h2, fun x hx => ?_⟩, ?_, ?_, bK8.set 2 _, ?_, h.lt⟩⟩
  · exact owns_kept (owns_kept hu1.own (fun x hx => hTs.kept x (hTP x hx).2 (fun e => h.apart x hx e))) (fun x hx => hT9.kept x (by have := (hTP x hx).2; omega) (by have := (hTP x hx).1; omega))
  · exact (harc x hx).1.turn (hT9.more (fun y _ hy => .inr (.inl hy))) (fun _ _ h => h)
  · have := hT9.size; omega
  · exact (harc x hx).2.turn (hT9.more (fun y _ hy => .inr hy)) (fun y _ hy => .inl hy)
  · rw [rowN_succ, hn]
    exact owns_kept own8 (fun x hx => hT9.kept x (own8.lt x hx).2 (by have := (own8.lt x hx).1; omega))
  · intro g hg hw
    rcases hnew g hw with e | e
    · exact h.apart g hg e
    · have := (hTP g hg).2; omega
  · exact below_turn hT9 (fun x h' => by have := h.lt; omega) (below_turn hTs (fun x h' => by have := h.lt; have := (hwlt x h').1; omega) (h.bel.trans (hb.mono h.bel.size)) (Nat.le_refl _)) (Nat.le_refl _)
end Go.Proofs.YtkibkbbjpgomlaaDoor.F
