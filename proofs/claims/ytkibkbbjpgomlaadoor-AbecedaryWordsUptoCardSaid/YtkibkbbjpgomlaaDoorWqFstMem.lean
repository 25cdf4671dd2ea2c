/-
  FstMem.
-/
import Derived.Test.YtkibkbbjpgomlaaDoorWqFstKey
import Derived.Test.YtkibkbbjpgomlaaDoorWqA
import Derived.Lib.Hide
import Derived.BigQuiet
import Derived.StillTailTactics
namespace Go.Proofs.YtkibkbbjpgomlaaDoor.F
open Go.RowKit Go.Maps
open Aid
set_option linter.unusedSimpArgs false
set_option linter.unusedVariables false

/-- the numbers of links -/
structure Nums where
  lk : Link → Option Nat
  cnt : Nat
def knownN (b : Nums) (k : Link) : Nat := (b.lk k).getD b.cnt
def knownB (b : Nums) (k : Link) : Nums := if (b.lk k).isSome then b else ⟨fun x => if x = k then some b.cnt else b.lk x, b.cnt + 1⟩
/-- the numbers are a map's -/
def LinksIn (w : World) (lm : Nat) (b : Nums) : Prop := MapG Tryd.prog 102 Link.v Link.ok w lm (fun k => (b.lk k).map fun n => Value.int .i64 (n : Nat)) b.cnt
theorem LinksIn.kept {w w' : World} {lm : Nat} {b : Nums} (h : LinksIn w lm b) (hb : w'.heap[lm]? = w.heap[lm]?) : LinksIn w' lm b := MapG.kept h hb
theorem zero_int (w : World) : (zeroValue 3).run Tryd.prog w = .ok (.int .i64 0) w := by kernel_rfl
theorem LinksIn.look {w : World} {lm : Nat} {b : Nums} (h : LinksIn w lm b) (k : Link) (hk : k.ok) :
    (Instr.lookup 52 (.map (some lm)) k.v true).run Tryd.prog w = .ok (.tuple #[.int .i64 (((b.lk k).getD 0 : Nat) : Int), .bool (b.lk k).isSome]) w := by
  have := MapG.look keyed_link Tryd.underlying52 h (zero_int w) hk (key_link k hk)
  rw [this]
  cases b.lk k <;> rfl
theorem LinksIn.store {w : World} {lm : Nat} {b : Nums} (h : LinksIn w lm b) (k : Link) (hk : k.ok) (hn : b.lk k = none) (hc : b.cnt < maxLen) :
    ∃ w', (Instr.mapUpdate 52 (.map (some lm)) k.v (.int .i64 (b.cnt : Nat))).run Tryd.prog w = .ok () w' ∧ LinksIn w' lm (knownB b k) ∧ w.mapTurned w' lm := by
  obtain ⟨w', h1, h2, h3⟩ := MapG.store keyed_link Tryd.underlying52 h hc hk (key_link k hk) (fun x e => Link.inj e) (.int .i64 (b.cnt : Nat))
  refine ⟨w', h1, ?_, h3⟩
  rw [hn] at h2
  unfold LinksIn knownB
  rw [hn]
  simp only [Option.isSome_none, Bool.false_eq_true, if_false, Option.map_none] at h2 ⊢
  have e : (fun x => Option.map (fun n => Value.int IntKind.i64 (n : Nat)) (if x = k then some b.cnt else b.lk x)) = updG (fun k => Option.map (fun n => Value.int IntKind.i64 (n : Nat)) (b.lk k)) k (some (Value.int IntKind.i64 (b.cnt : Nat))) := by
    funext x
    unfold updG
    by_cases hx : x = k
    · rw [if_pos hx, if_pos hx]; rfl
    · rw [if_neg hx, if_neg hx]
  rw [e]
  exact h2
def KnownEnd (p lm : Nat) (cs : Array Value) (b : Nums) (k : Link) (w : World) (e : Ending) (w' : World) : Prop :=
  e = .returned (.int .i64 (knownN b k : Nat)) ∧ LinksIn w' lm (knownB b k) ∧ w.heap.size ≤ w'.heap.size ∧ w'.os = w.os ∧ w'.tape = w.tape ∧ w'.output = w.output ∧ ∀ x, x < w.heap.size → x ≠ lm → w'.heap[x]? = w.heap[x]?
set_option maxRecDepth 100000 in
set_option maxHeartbeats 2000000 in
theorem known_any (p lm bm : Nat) (vs : Value) (b : Nums) (k : Link) (w : World) (hb : Blk w p 55 #[vs, .map (some lm), .map (some bm)]) (h : LinksIn w lm b) (hk : k.ok) (hc : b.cnt < 1000000000) :
    Calls Tryd.prog 43 #[.pointer (some ⟨p, 0, none⟩), k.v] w (KnownEnd p lm #[vs, .map (some lm), .map (some bm)] b k w) := by
  have hlm := MapG.lt h
  have hp := Blk.lt hb
  obtain ⟨Q, hQ⟩ : ∃ Q, w.heap.size = Q := ⟨_, rfl⟩
  obtain ⟨W1, hW1⟩ : ∃ W1, w.alloc (.cells #[.bool k.fin, .int .i64 k.out, .int .i64 k.label, .int .i64 k.arc, .int .i64 k.to_, .int .i64 k.next] 102) = W1 := ⟨_, rfl⟩
  have hb1 : Below w.heap.size w W1 := by rw [← hW1]; exact (Below.refl _ _).alloc (Nat.le_refl _) _
  have hz1 : W1.heap.size = Q + 1 := by rw [← hW1, ← hQ]; simp
  have bB := hb.below hb1 hp
  have c1 : W1.cell? ⟨p, 1, none⟩ = some (.map (some lm)) := by rw [Blk.cell bB]; rfl
  have bQ : Blk W1 Q 102 #[.bool k.fin, .int .i64 k.out, .int .i64 k.label, .int .i64 k.arc, .int .i64 k.to_, .int .i64 k.next] := by rw [← hW1, ← hQ]; exact Blk.alloc_new _ _ _
  have q0 : W1.cell? ⟨Q, 0, none⟩ = some (.bool k.fin) := by rw [Blk.cell bQ]; rfl
  have q1 : W1.cell? ⟨Q, 1, none⟩ = some (.int .i64 k.out) := by rw [Blk.cell bQ]; rfl
  have q2 : W1.cell? ⟨Q, 2, none⟩ = some (.int .i64 k.label) := by rw [Blk.cell bQ]; rfl
  have q3 : W1.cell? ⟨Q, 3, none⟩ = some (.int .i64 k.arc) := by rw [Blk.cell bQ]; rfl
  have q4 : W1.cell? ⟨Q, 4, none⟩ = some (.int .i64 k.to_) := by rw [Blk.cell bQ]; rfl
  have q5 : W1.cell? ⟨Q, 5, none⟩ = some (.int .i64 k.next) := by rw [Blk.cell bQ]; rfl
  have h1 : LinksIn W1 lm b := h.kept (hb1.block lm hlm)
  have hlook : ∀ n, (Instr.lookup 52 (.map (some lm)) (.agg #[.bool k.fin, .int .i64 k.out, .int .i64 k.label, .int .i64 k.arc, .int .i64 k.to_, .int .i64 k.next]) true).run Tryd.prog (W1.drewN n) = .ok (.tuple #[.int .i64 (((b.lk k).getD 0 : Nat) : Int), .bool (b.lk k).isSome]) (W1.drewN n) := fun n =>
    LinksIn.look (w := W1.drewN n) h1 k hk
  obtain ⟨k0, k1', k2, k3, k4, k5⟩ := k
  unfold Link.v
  dsimp only at hlook ⊢
  cases hl : b.lk ⟨k0, k1', k2, k3, k4, k5⟩ with
  | some n =>
    rw [hl] at hlook
    simp only [Option.getD_some, Option.isSome_some] at hlook
    have hN : knownN b ⟨k0, k1', k2, k3, k4, k5⟩ = n := by unfold knownN; rw [hl]; rfl
    have hBe : knownB b ⟨k0, k1', k2, k3, k4, k5⟩ = b := by unfold knownB; rw [hl]; rfl
    have HN := Lib.hid hN
    have HBE := Lib.hid hBe
    have H1 := Lib.hid h1
    have HB1 := Lib.hid hb1
    clear hN hBe hl h h1 hb hb1 bB bQ hk
    go_enter Tryd.func43, Tryd.ntmps43
    go_wp2_with fail
    go_quiet (fail)
    go_wp2_with fail
    go_ret
    refine ⟨by rw [HN.out]; rfl, by rw [HBE.out]; exact H1.out.kept rfl, ?_, HB1.out.os, HB1.out.tape, HB1.out.output, fun x hx _ => HB1.out.block x hx⟩
    show w.heap.size ≤ W1.heap.size
    exact HB1.out.size
  | none =>
    rw [hl] at hlook
    simp only [Option.getD_none, Option.isSome_none] at hlook
    have hN : knownN b ⟨k0, k1', k2, k3, k4, k5⟩ = b.cnt := by unfold knownN; rw [hl]; rfl
    have HN := Lib.hid hN
    have H1 := Lib.hid h1
    have HB1 := Lib.hid hb1
    have HK := Lib.hid hk
    have HL := Lib.hid hl
    have hlen : ∀ n, (Builtin.len_ #[52] 3 #[.map (some lm)]).run Tryd.prog (W1.drewN n) = .ok (.int .i64 (b.cnt : Nat)) (W1.drewN n) := fun n => MapG.len (w := W1.drewN n) Tryd.underlying52 h1 _
    have HBQ := Lib.hid bQ
    clear hN hl h h1 hb hb1 bQ hk
    go_enter Tryd.func43, Tryd.ntmps43
    go_wp2_with fail
    go_quiet (fail)
    go_wp2_with fail
    obtain ⟨Wd, hWd⟩ : ∃ Wd, W1.drewN nq = Wd := ⟨_, rfl⟩
    have hbd : Below W1.heap.size W1 Wd := by rw [← hWd]; exact below_drewN (Below.refl _ _) nq
    rw [hWd]
    have bD := bB.below hbd (Blk.lt bB)
    have H2 := H1.out.kept (hbd.block lm (MapG.lt H1.out))
    obtain ⟨w3, hs1, hs2, hs3⟩ := LinksIn.store (w := Wd.drew) (b := b) (lm := lm) H2 ⟨k0, k1', k2, k3, k4, k5⟩ HK.out HL.out (by unfold maxLen; omega)
    unfold Link.v at hs1
    dsimp only at hs1
    have hD1 : Wd.drew.cell? ⟨p, 1, none⟩ = some (.map (some lm)) := (hbd.cell (p := ⟨p, 1, none⟩) (Blk.lt bB)).trans c1
    have bQ2 := HBQ.out.below hbd (Blk.lt HBQ.out)
    have e0 : Wd.drew.cell? ⟨Q, 0, none⟩ = some (.bool k0) := (Blk.cell bQ2 0).trans rfl
    have e1 : Wd.drew.cell? ⟨Q, 1, none⟩ = some (.int .i64 k1') := (Blk.cell bQ2 1).trans rfl
    have e2 : Wd.drew.cell? ⟨Q, 2, none⟩ = some (.int .i64 k2) := (Blk.cell bQ2 2).trans rfl
    have e3 : Wd.drew.cell? ⟨Q, 3, none⟩ = some (.int .i64 k3) := (Blk.cell bQ2 3).trans rfl
    have e4 : Wd.drew.cell? ⟨Q, 4, none⟩ = some (.int .i64 k4) := (Blk.cell bQ2 4).trans rfl
    have e5 : Wd.drew.cell? ⟨Q, 5, none⟩ = some (.int .i64 k5) := (Blk.cell bQ2 5).trans rfl
    have HS2 := Lib.hid hs2
    have HS3 := Lib.hid hs3
    have HBD := Lib.hid hbd
    clear q0 q1 q2 q3 q4 q5 c1 hlook hlen bD H2 hs2 hs3 hbd bQ2 hWd
    go_still_tail 6, (by kernel_rfl)
    change wpList _ _ _ _ _ Wd.drew
    go_wp2_with fail
    go_ret
    have hsz := turned_size HS3.out
    have hbw := HB1.out.trans (HBD.out.mono HB1.out.size)
    obtain ⟨es, clock, es', clock', hmb, hw3⟩ := HS3.out
    refine ⟨by rw [HN.out]; rfl, HS2.out, ?_, ?_, ?_, ?_, fun x hx hne => ?_⟩
    · rw [hsz]; exact hbw.size
    · rw [hw3]; exact hbw.os
    · rw [hw3]; exact hbw.tape
    · rw [hw3]; exact hbw.output
    · rw [turned_block HS3.out hne]; exact hbw.block x hx
end Go.Proofs.YtkibkbbjpgomlaaDoor.F
