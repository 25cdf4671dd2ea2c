/-
  What a disk is in memory; the small calls on it.
-/
import Derived.Test.YtcpkpljeimbdiaaGreatMapF
import Derived.Test.YtcpkpljeimbdiaaGreatAidD
import Derived.Lib.Hide
import Derived.StillTailTactics
namespace Go.Proofs.YtcpkpljeimbdiaaGreat.K
open Go.RowKit
open Aid
set_option linter.unusedSimpArgs false
set_option linter.unusedVariables false

/-- a row of texts: no call on a disk turns it -/
def StrRow (w : World) (k : Nat) : Prop := ∃ cs fr, w.heap[k]? = some (.cells cs 9 fr)
theorem StrRow.lt {w : World} {k : Nat} (h : StrRow w k) : k < w.heap.size := by obtain ⟨cs, fr, h⟩ := h; exact (Array.getElem?_eq_some_iff.1 h).1
theorem StrRow.of_eq {w w' : World} {k : Nat} (h : StrRow w k) (e : w'.heap[k]? = w.heap[k]?) : StrRow w' k := by obtain ⟨cs, fr, h⟩ := h; exact ⟨cs, fr, e.trans h⟩
theorem StrRow.no_blk {w : World} {g : Nat} {t : TypeId} {cs : Array Value} (h : Blk w g t cs) (ht : t ≠ 9) : ¬ StrRow w g := by
  rintro ⟨ds, fr, e⟩
  unfold Blk at h
  rw [h] at e
  cases e
  exact ht rfl
/-- all that was there but what is owned is as it was -/
structure Keeps (O : Nat → Prop) (w w' : World) : Prop where
  os : w'.os = w.os
  tape : w'.tape = w.tape
  output : w'.output = w.output
  size : w.heap.size ≤ w'.heap.size
  block : ∀ k, k < w.heap.size → ¬ O k → w'.heap[k]? = w.heap[k]?
  rows : ∀ k, StrRow w k → w'.heap[k]? = w.heap[k]?
theorem Keeps.refl (O : Nat → Prop) (w : World) : Keeps O w w := ⟨rfl, rfl, rfl, Nat.le_refl _, fun _ _ _ => rfl, fun _ _ => rfl⟩
theorem Keeps.of_below {O : Nat → Prop} {w w' : World} (h : Below w.heap.size w w') : Keeps O w w' := ⟨h.os, h.tape, h.output, h.size, fun k hk _ => h.block k hk, fun k hk => h.block k hk.lt⟩
theorem Keeps.trans {O O' : Nat → Prop} {a b c : World} (h : Keeps O a b) (k : Keeps O' b c) (hO : ∀ x, O' x → O x ∨ a.heap.size ≤ x) : Keeps O a c :=
  ⟨k.os.trans h.os, k.tape.trans h.tape, k.output.trans h.output, Nat.le_trans h.size k.size, fun x hx hn =>
    (k.block x (Nat.lt_of_lt_of_le hx h.size) (fun ho => by rcases hO x ho with h1 | h1; exact hn h1; omega)).trans (h.block x hx hn), fun x hx => (k.rows x (hx.of_eq (h.rows x hx))).trans (h.rows x hx)⟩
theorem Keeps.cell {O : Nat → Prop} {w w' : World} (h : Keeps O w w') {p : Addr} (hp : p.block < w.heap.size) (hn : ¬ O p.block) : w'.cell? p = w.cell? p := World.cell?_of_block (h.block _ hp hn)
theorem Keeps.below {O : Nat → Prop} {B : Nat} {w0 w w' : World} (h : Keeps O w w') (hb : Below B w0 w) (hB : B ≤ w.heap.size) (hO : ∀ x, O x → B ≤ x) : Below B w0 w' :=
  ⟨h.os.trans hb.os, h.tape.trans hb.tape, h.output.trans hb.output, Nat.le_trans hb.size h.size, fun k hk => (h.block k (by omega) (fun ho => by have := hO k ho; omega)).trans (hb.block k hk)⟩

/-- a row of strings that nobody turns any more -/
def Vers (O : Nat → Prop) (w : World) (v : Value) (L : List ByteArray) : Prop := L.length ≤ 140737488355328 ∧ ∃ a cap, v = .slice a L.length cap ∧ L.length ≤ cap ∧
  (a = none → L = [] ∧ cap = 0) ∧ ∀ j, j < L.length → ∃ b o, a = some ⟨b, o, none⟩ ∧ (O b ∧ StrRow w b) ∧ b < w.heap.size ∧ w.cell? ⟨b, o + j, none⟩ = some (.string (L.getD j ByteArray.empty))
/-- a sector: its versions, and whether the first one lasts -/
abbrev Sec := List ByteArray × Bool
def AreaIs (O : Nat → Prop) (w : World) (g : Nat) (F : Int → Option Sec) (n : Nat) : Prop := ∃ S, MapF Tryz.prog 3 .i64 w g S n ∧ ∀ x, (F x = none → S x = none) ∧ ∀ s, F x = some s → ∃ v, S x = some (.agg #[v, .bool s.2]) ∧ Vers O w v s.1 ∧ s.1 ≠ []
/-- what a disk is -/
structure DSt where
  room : Int
  steps : Int
  left : Int
  dead : Bool
  F : Int → Int → Option Sec
  N : Int → Nat
  A : Int → Bool
  C : Nat
def diskV (st : DSt) (m : Nat) : Array Value := #[.int .i64 st.room, .int .i64 st.steps, .map (some m), .int .i64 st.left, .bool st.dead]
structure DiskIn (O : Nat → Prop) (w : World) (p m : Nat) (G : Int → Option Nat) (st : DSt) : Prop where
  blk : Blk w p 47 (diskV st m)
  op : O p
  om : O m
  outer : MapF Tryz.prog 37 .u64 w m (fun a => (G a).map fun g => .map (some g)) st.C
  inner : ∀ a g, G a = some g → O g ∧ g ≠ m ∧ AreaIs O w g (st.F a) (st.N a)
  inj : ∀ a a' g, G a = some g → G a' = some g → a = a'
  empty : ∀ a, G a = none → (∀ x, st.F a x = none) ∧ st.N a = 0
  present : ∀ a, st.A a = (G a).isSome
def DiskIs (O : Nat → Prop) (w : World) (p : Nat) (st : DSt) : Prop := ∃ m G, DiskIn O w p m G st

theorem Vers.keep {O O' : Nat → Prop} {w w' : World} {v : Value} {L : List ByteArray} (h : Vers O w v L) (hk : Keeps O' w w') (hd : ∀ k, O k → ¬ O' k) : Vers O w' v L := by
  obtain ⟨h0, a, cap, h1, h2, h3, h4⟩ := h
  refine ⟨h0, a, cap, h1, h2, h3, fun j hj => ?_⟩
  obtain ⟨b, o, e1, e2, e3, e4⟩ := h4 j hj
  exact ⟨b, o, e1, ⟨e2.1, e2.2.of_eq (hk.rows b e2.2)⟩, by have := hk.size; omega, (World.cell?_of_block (a := ⟨b, o + j, none⟩) (hk.rows b e2.2)).trans e4⟩
theorem AreaIs.keep {O O' : Nat → Prop} {w w' : World} {g : Nat} {F : Int → Option Sec} {n : Nat} (h : AreaIs O w g F n) (hO : O g) (hk : Keeps O' w w') (hd : ∀ k, O k → ¬ O' k) : AreaIs O w' g F n := by
  obtain ⟨S, h1, h2⟩ := h
  refine ⟨S, h1.kept (hk.block g h1.lt (hd g hO)), fun x => ⟨(h2 x).1, fun s hs => ?_⟩⟩
  obtain ⟨v, e1, e2, e3⟩ := (h2 x).2 s hs
  exact ⟨v, e1, e2.keep hk hd, e3⟩
theorem DiskIn.keep {O O' : Nat → Prop} {w w' : World} {p m : Nat} {G : Int → Option Nat} {st : DSt} (h : DiskIn O w p m G st) (hk : Keeps O' w w') (hd : ∀ k, O k → ¬ O' k) : DiskIn O w' p m G st where
  blk := by have h1 := h.blk; unfold Blk at h1 ⊢; rw [hk.block p (Blk.lt h.blk) (hd p h.op)]; exact h1
  op := h.op
  om := h.om
  outer := h.outer.kept (hk.block m h.outer.lt (hd m h.om))
  inner := fun a g hg => by
    obtain ⟨e1, e2, e3⟩ := h.inner a g hg
    exact ⟨e1, e2, e3.keep e1 hk hd⟩
  inj := h.inj
  empty := h.empty
  present := h.present
theorem DiskIs.keep {O O' : Nat → Prop} {w w' : World} {p : Nat} {st : DSt} (h : DiskIs O w p st) (hk : Keeps O' w w') (hd : ∀ k, O k → ¬ O' k) : DiskIs O w' p st := by
  obtain ⟨m, G, h⟩ := h; exact ⟨m, G, h.keep hk hd⟩
theorem DiskIs.drew {O : Nat → Prop} {w : World} {p : Nat} {st : DSt} (h : DiskIs O w p st) (n : Nat) : DiskIs O (w.drewN n) p st :=
  h.keep (O' := fun _ => False) (Keeps.of_below (below_drewN (Below.refl _ _) n)) (fun _ _ h => h)
theorem DiskIs.below {O : Nat → Prop} {w w' : World} {p : Nat} {st : DSt} (h : DiskIs O w p st) (hb : Below w.heap.size w w') : DiskIs O w' p st :=
  h.keep (O' := fun _ => False) (Keeps.of_below hb) (fun _ _ h => h)
theorem disk_0 (st : DSt) (m : Nat) : (diskV st m)[0]? = some (.int .i64 st.room) := rfl
theorem disk_1 (st : DSt) (m : Nat) : (diskV st m)[1]? = some (.int .i64 st.steps) := rfl
theorem disk_2 (st : DSt) (m : Nat) : (diskV st m)[2]? = some (.map (some m)) := rfl
theorem disk_3 (st : DSt) (m : Nat) : (diskV st m)[3]? = some (.int .i64 st.left) := rfl
theorem disk_4 (st : DSt) (m : Nat) : (diskV st m)[4]? = some (.bool st.dead) := rfl
theorem DiskIn.cells {O : Nat → Prop} {w : World} {p m : Nat} {G : Int → Option Nat} {st : DSt} (h : DiskIn O w p m G st) :
    w.cell? ⟨p, 0, none⟩ = some (.int .i64 st.room) ∧ w.cell? ⟨p, 1, none⟩ = some (.int .i64 st.steps) ∧ w.cell? ⟨p, 2, none⟩ = some (.map (some m)) ∧ w.cell? ⟨p, 3, none⟩ = some (.int .i64 st.left) ∧ w.cell? ⟨p, 4, none⟩ = some (.bool st.dead) :=
  ⟨by rw [Blk.cell h.blk]; rfl, by rw [Blk.cell h.blk]; rfl, by rw [Blk.cell h.blk]; rfl, by rw [Blk.cell h.blk]; rfl, by rw [Blk.cell h.blk]; rfl⟩

/-- a disk's own block is turned: the rest stays -/
theorem DiskIn.turn {O : Nat → Prop} {w w' : World} {p m : Nat} {G : Int → Option Nat} {st st' : DSt} (h : DiskIn O w p m G st) (hb : Blk w' p 47 (diskV st' m)) (ho : ∀ k, k ≠ p → w'.heap[k]? = w.heap[k]?) (hs : w'.heap.size = w.heap.size)
    (hC : st'.C = st.C) (hF : st'.F = st.F) (hN : st'.N = st.N) (hA : st'.A = st.A) : DiskIn O w' p m G st' := by
  have hp : ∀ {es : Array MapEntry} {c : Nat} {g : Nat}, w.heap[g]? = some (.map es c) → g ≠ p := by
    intro es c g hg e; subst e; have := h.blk; unfold Blk at this; rw [this] at hg; cases hg
  refine ⟨hb, h.op, h.om, ?_, fun a g hg => ?_, h.inj, fun a ha => by rw [hF, hN]; exact h.empty a ha, fun a => by rw [hA]; exact h.present a⟩
  · rw [hC]
    refine h.outer.kept (ho m ?_)
    obtain ⟨D, ⟨es, c, e1, _⟩, _⟩ := h.outer
    exact hp e1
  · obtain ⟨e1, e2, S, e3, e4⟩ := h.inner a g hg
    refine ⟨e1, e2, ?_⟩
    rw [hF, hN]
    refine ⟨S, e3.kept (ho g ?_), fun x => ⟨(e4 x).1, fun s hs' => ?_⟩⟩
    · obtain ⟨D, ⟨es, c, d1, _⟩, _⟩ := e3
      exact hp d1
    · obtain ⟨v, f1, ⟨f0, a', cap, g1, g2, g3, g4⟩, f3⟩ := (e4 x).2 s hs'
      refine ⟨v, f1, ⟨f0, a', cap, g1, g2, g3, fun j hj => ?_⟩, f3⟩
      obtain ⟨b, o, i1, i2, i3, i4⟩ := g4 j hj
      have hbp0 : b ≠ p := fun e => StrRow.no_blk h.blk (by decide) (e ▸ i2.2)
      refine ⟨b, o, i1, ⟨i2.1, i2.2.of_eq (ho b hbp0)⟩, by omega, ?_⟩
      have hbp : b ≠ p := by
        intro e; subst e
        have h5 := h.blk
        have := Blk.cell h5 (o + j)
        rw [this] at i4
        unfold diskV at i4
        match o + j, i4 with
        | 0, i4 => simp at i4
        | 1, i4 => simp at i4
        | 2, i4 => simp at i4
        | 3, i4 => simp at i4
        | 4, i4 => simp at i4
        | k + 5, i4 => simp at i4
      rw [World.cell?_of_block (w := w) (a := ⟨b, o + j, none⟩) (ho b hbp)]; exact i4
end Go.Proofs.YtcpkpljeimbdiaaGreat.K
