/-
  Rows of single cells that are written in place: which cells a block then has.
-/
import Derived.Test.YtkgmikglifmenaaDoorEdRows
import Derived.Test.YtkgmikglifmenaaDoorAidC
import Derived.Lib.SliceRun
import Derived.Laws.IdiomCopy
namespace Go.Proofs.YtkgmikglifmenaaDoor.E
open Go.RowKit Aid
set_option linter.unusedVariables false

/-- cells from one on are written -/
def setL (cs : Array Value) : Nat → List Value → Array Value
  | _, [] => cs
  | o, v :: r => setL (cs.setIfInBounds o v) (o + 1) r
theorem setL_size : ∀ (vs : List Value) (o : Nat) (cs : Array Value), (setL cs o vs).size = cs.size
  | [], _, _ => rfl
  | v :: r, o, cs => (setL_size r (o + 1) _).trans (by simp)
theorem setL_toList : ∀ (vs : List Value) (o : Nat) (cs : Array Value), o + vs.length ≤ cs.size → (setL cs o vs).toList = cs.toList.take o ++ vs ++ cs.toList.drop (o + vs.length)
  | [], o, cs, h => by simp [setL]
  | v :: r, o, cs, h => by
    rw [List.length_cons] at h
    rw [setL, setL_toList r (o + 1) _ (by simp; omega)]
    have e : (cs.setIfInBounds o v).toList = cs.toList.set o v := by simp
    have ho : o < cs.toList.length := by simp; omega
    rw [e, List.length_cons, List.drop_set_of_lt (by omega), List.take_succ_eq_append_getElem (by simp; omega)]
    have e2 : List.take o (cs.toList.set o v) = List.take o cs.toList := by
      apply List.ext_getElem?
      intro j
      by_cases hj : j < o
      · rw [List.getElem?_take_of_lt hj, List.getElem?_take_of_lt hj, List.getElem?_set_ne (by omega)]
      · rw [List.getElem?_take_eq_none (by omega), List.getElem?_take_eq_none (by omega)]
    simp [show o + 1 + r.length = o + (r.length + 1) by omega, e2]
theorem Blk.setCells {g : Nat} {t : TypeId} : ∀ (vs : List Value) (o : Nat) {w : World} {cs : Array Value}, Blk w g t cs → Blk (w.setCells g o vs) g t (setL cs o vs)
  | [], _, _, _, h => h
  | v :: r, o, _, _, h => Blk.setCells r (o + 1) (h.set o v)
/-- blocks of w that O does not name are in w' as they were -/
structure Turn (O : Nat → Prop) (w w' : World) : Prop where
  size : w.heap.size ≤ w'.heap.size
  os : w'.os = w.os
  tape : w'.tape = w.tape
  output : w'.output = w.output
  kept : ∀ x, x < w.heap.size → ¬ O x → w'.heap[x]? = w.heap[x]?
theorem Turn.refl (O : Nat → Prop) (w : World) : Turn O w w := ⟨Nat.le_refl _, rfl, rfl, rfl, fun _ _ _ => rfl⟩
theorem Turn.of_below {O : Nat → Prop} {w w' : World} (h : Below w.heap.size w w') : Turn O w w' := ⟨h.size, h.os, h.tape, h.output, fun x hx _ => h.block x hx⟩
theorem Turn.trans {O P : Nat → Prop} {w w' w'' : World} (h : Turn O w w') (h' : Turn P w' w'') (hP : ∀ x, x < w.heap.size → P x → O x) : Turn O w w'' :=
  ⟨Nat.le_trans h.size h'.size, h'.os.trans h.os, h'.tape.trans h.tape, h'.output.trans h.output, fun x hx hn => (h'.kept x (Nat.lt_of_lt_of_le hx h.size) (fun hp => hn (hP x hx hp))).trans (h.kept x hx hn)⟩
theorem Turn.drew {O : Nat → Prop} {w w' : World} (h : Turn O w w') : Turn O w w'.drew := ⟨h.size, h.os, h.tape, h.output, h.kept⟩
theorem Turn.below {O : Nat → Prop} {B : Nat} {w w' : World} (h : Turn O w w') (hB : B ≤ w.heap.size) (hO : ∀ x, O x → B ≤ x) : Below B w w' :=
  { os := h.os, tape := h.tape, output := h.output, size := h.size, block := fun x hx => h.kept x (by omega) (fun ho => by have := hO x ho; omega) }
theorem Turn.blk {O : Nat → Prop} {w w' : World} {g : Nat} {t : TypeId} {cs : Array Value} (h : Turn O w w') (hb : Blk w g t cs) (hO : ¬ O g) : Blk w' g t cs := (h.kept g hb.lt hO).trans hb
theorem Turn.cell {O : Nat → Prop} {w w' : World} (h : Turn O w w') {g : Nat} (hg : g < w.heap.size) (hO : ¬ O g) (j : Nat) : w'.cell? ⟨g, j, none⟩ = w.cell? ⟨g, j, none⟩ := by
  unfold World.cell?; simp only [h.kept g hg hO]
theorem setCells_turn (g : Nat) : ∀ (vs : List Value) (o : Nat) (w : World), Turn (fun x => x = g) w (w.setCells g o vs)
  | [], _, w => Turn.refl _ w
  | v :: r, o, w => by
    have h1 : Turn (fun x => x = g) w (w.setCell ⟨g, o, none⟩ v) := ⟨by simp, rfl, rfl, rfl, fun x hx hn => Below.heap_setCell _ _ _ _ hn⟩
    exact h1.trans (setCells_turn g r (o + 1) _) (fun _ _ h => h)
theorem owns_turn {w w' : World} {base : Nat} {e : TypeId} {size : Nat} {v : Value} {n : Nat} {xs : List Value} {O : Nat → Prop} (h : w.ownsRow base e size v n xs) (ht : Turn O w w') (hO : ∀ x, v.ownBlock = some x → ¬ O x) : w'.ownsRow base e size v n xs := by
  obtain ⟨h1, h | ⟨g, cap, cur, rfl, hb, hg, h2⟩⟩ := h
  · exact ⟨h1, .inl h⟩
  · exact ⟨h1, .inr ⟨g, cap, cur, rfl, hb, (ht.kept g (Array.getElem?_eq_some_iff.1 hg).1 (hO g rfl)).trans hg, h2⟩⟩
/-- a row in a block: its first cells -/
structure Row (w : World) (b : Nat) (t : TypeId) (n cap : Nat) (xs : List Value) : Prop where
  blk : ∃ cur, Blk w b t cur ∧ cur.size = cap ∧ cur.toList.take n = xs
  le : n ≤ cap
  max : cap ≤ maxLen
theorem Row.owns {w : World} {b : Nat} {t : TypeId} {n cap base : Nat} {xs : List Value} (h : Row w b t n cap xs) (hb : base ≤ b) : w.ownsRow base t 1 (.slice (some ⟨b, 0, none⟩) n cap) n xs := by
  obtain ⟨⟨cur, hc, hs, ht⟩, h1, h2⟩ := h
  have hl : xs.length = n * 1 := by
    rw [← ht, List.length_take]
    have : cur.toList.length = cap := by simpa using hs
    omega
  exact ⟨hl, .inr ⟨b, cap, cur, rfl, hb, hc, h1, h2, by omega, by rw [Nat.mul_one]; exact ht⟩⟩
theorem owns_row {w : World} {base : Nat} {t : TypeId} {v : Value} {n : Nat} {xs : List Value} (h : w.ownsRow base t 1 v n xs) (hn : v ≠ .slice none 0 0) : ∃ b cap, v = .slice (some ⟨b, 0, none⟩) n cap ∧ base ≤ b ∧ Row w b t n cap xs := by
  obtain ⟨h1, ⟨h, _⟩ | ⟨g, cap, cur, rfl, hb, hg, h2, h3, h4, h5⟩⟩ := h
  · exact absurd h hn
  · exact ⟨g, cap, rfl, hb, ⟨⟨cur, hg, by omega, by rw [Nat.mul_one] at h5; exact h5⟩, h2, h3⟩⟩
end Go.Proofs.YtkgmikglifmenaaDoor.E
