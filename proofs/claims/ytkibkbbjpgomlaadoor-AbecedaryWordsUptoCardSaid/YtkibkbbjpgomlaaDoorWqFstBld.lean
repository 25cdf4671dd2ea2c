/-
  FstBld.
-/
import Derived.Test.YtkibkbbjpgomlaaDoorWqFstBack
namespace Go.Proofs.YtkibkbbjpgomlaaDoor.F
open Go.RowKit Go.Shelf Go.Maps
open Aid
set_option linter.unusedSimpArgs false
set_option linter.unusedVariables false

theorem owns_kept {w w' : World} {base : Nat} {e : TypeId} {size : Nat} {v : Value} {n : Nat} {xs : List Value} (h : w.ownsRow base e size v n xs) (hk : ∀ x, v.ownBlock = some x → w'.heap[x]? = w.heap[x]?) : w'.ownsRow base e size v n xs := by
  refine ⟨h.1, ?_⟩
  rcases h.2 with h | ⟨g, cap, cur, hv, hb, hg, r⟩
  · exact .inl h
  · exact .inr ⟨g, cap, cur, hv, hb, by rw [hk g (by rw [hv]; rfl)]; exact hg, r⟩
theorem Turn.trans {O O' : Nat → Prop} {a b c : World} (h : Turn O a b) (k : Turn O' b c) (hO : ∀ x, x < a.heap.size → O' x → O x) : Turn O a c :=
  ⟨Nat.le_trans h.size k.size, k.os.trans h.os, k.tape.trans h.tape, k.output.trans h.output, fun x hx hn => (k.kept x (Nat.lt_of_lt_of_le hx h.size) (fun h' => hn (hO x hx h'))).trans (h.kept x hx hn)⟩
theorem Turn.more {O O' : Nat → Prop} {a b : World} (h : Turn O a b) (hO : ∀ x, x < a.heap.size → O x → O' x) : Turn O' a b := ⟨h.size, h.os, h.tape, h.output, fun x hx hn => h.kept x hx (fun h' => hn (hO x hx h'))⟩
theorem Turn.blk {O : Nat → Prop} {w w' : World} (h : Turn O w w') {g : Nat} {t : TypeId} {cs : Array Value} (hb : Blk w g t cs) (hO : ¬ O g) : Blk w' g t cs := (h.kept g hb.lt hO).trans hb
/-- a state -/
structure StM where
  fin : Bool
  out : Int
  arcs : List ArcM
deriving DecidableEq
def stV (s : StM) (u : Value) : Array Value := #[.bool s.fin, .int .i64 s.out, u]
def rowS (q : List (StM × Value)) : List Value := q.flatMap fun x => (stV x.1 x.2).toList
/-- where a builder lies -/
structure Bd where
  p : Nat
  lm : Nat
  bm : Nat
  v : Value
def Bd.O (b : Bd) : Nat → Prop := fun x => x = b.p ∨ x = b.lm ∨ x = b.bm ∨ b.v.ownBlock = some x
structure NumsOk (nu : Nums) : Prop where
  lt : ∀ k n, nu.lk k = some n → n < nu.cnt
  inj : ∀ k k' n, nu.lk k = some n → nu.lk k' = some n → k = k'
structure BIs (w : World) (b : Bd) (q : List (StM × Value)) (nu : Nums) (by_ : Int → Option Value) (cb : Nat) : Prop where
  blk : Blk w b.p 55 #[b.v, .map (some b.lm), .map (some b.bm)]
  links : LinksIn w b.lm nu
  byl : MapF Tryd.prog 3 .i64 w b.bm by_ cb
  own : w.ownsRow (b.p + 1) 61 3 b.v q.length (rowS q)
  lmp : b.lm < b.p
  bmp : b.bm < b.p
  ne : b.lm ≠ b.bm
  arcs : ∀ x ∈ q, ArcsAre b.O w x.2 x.1.arcs
def kStep (nu : Nums × Nat) (a : ArcM) : Nums × Nat := (knownB nu.1 ⟨false, 0, a.label, a.out, a.to_, (nu.2 : Int) + 1⟩, knownN nu.1 ⟨false, 0, a.label, a.out, a.to_, (nu.2 : Int) + 1⟩)
def kNil (s : StM) : Link := ⟨s.fin, s.out, 0, 0, -1, 0⟩
def kFold (nu : Nums × Nat) (l : List ArcM) : Nums × Nat := l.foldl kStep nu
def chainN (nu : Nums) (s : StM) : Nums × Nat := kFold (knownB nu (kNil s), knownN nu (kNil s)) s.arcs.reverse
theorem kFold_snoc (nu : Nums × Nat) (l : List ArcM) (a : ArcM) : kFold nu (l ++ [a]) = kStep (kFold nu l) a := by unfold kFold; rw [List.foldl_append]; rfl
theorem known_ok {nu : Nums} (h : NumsOk nu) (k : Link) : NumsOk (knownB nu k) ∧ knownN nu k < (knownB nu k).cnt ∧ (knownB nu k).cnt ≤ nu.cnt + 1 ∧ (knownB nu k).lk k = some (knownN nu k) ∧ nu.cnt ≤ (knownB nu k).cnt ∧ ∀ k' n, nu.lk k' = some n → (knownB nu k).lk k' = some n := by
  unfold knownB knownN
  cases hk : nu.lk k with
  | some n => exact ⟨by simpa using h, by simpa using h.lt k n hk, by simp, by simpa using hk, by simp, fun _ _ h => by simpa using h⟩
  | none =>
    simp only [Option.isSome_none, Bool.false_eq_true, if_false, Option.getD_none]
    refine ⟨⟨fun k' n hn => ?_, fun k1 k2 n h1 h2 => ?_⟩, by simp, by simp, by simp, by simp, fun k' n hn => ?_⟩
    · dsimp only at hn ⊢
      split at hn
      · cases hn; omega
      · have := h.lt _ _ hn; omega
    · dsimp only at h1 h2
      split at h1 <;> split at h2
      · rename_i e1 e2; rw [e1, e2]
      · cases h1; have := h.lt _ _ h2; omega
      · cases h2; have := h.lt _ _ h1; omega
      · exact h.inj _ _ _ h1 h2
    · rw [if_neg (fun e => by rw [e, hk] at hn; cases hn)]; exact hn
theorem kFold_ok : ∀ (l : List ArcM) (nu : Nums × Nat), NumsOk nu.1 → nu.2 < nu.1.cnt → NumsOk (kFold nu l).1 ∧ (kFold nu l).2 < (kFold nu l).1.cnt ∧ (kFold nu l).1.cnt ≤ nu.1.cnt + l.length
  | [], nu, h, h2 => ⟨h, h2, by simp [kFold]⟩
  | a :: l, nu, h, h2 => by
    obtain ⟨g1, g2, g3, _⟩ := known_ok h ⟨false, 0, a.label, a.out, a.to_, (nu.2 : Int) + 1⟩
    obtain ⟨e1, e2, e3⟩ := kFold_ok l (kStep nu a) g1 g2
    refine ⟨e1, e2, ?_⟩
    show (kFold (kStep nu a) l).1.cnt ≤ _
    have : (kStep nu a).1.cnt ≤ nu.1.cnt + 1 := g3
    rw [List.length_cons]; omega
end Go.Proofs.YtkibkbbjpgomlaaDoor.F
