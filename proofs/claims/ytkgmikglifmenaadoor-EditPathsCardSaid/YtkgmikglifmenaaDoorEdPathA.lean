/-
  What holds ahead of each round of Path.
-/
import Derived.Test.YtkgmikglifmenaaDoorEdClone
import Derived.Test.YtkgmikglifmenaaDoorEdWay
import Derived.Test.YtkgmikglifmenaaDoorEdDist
namespace Go.Proofs.YtkgmikglifmenaaDoor.E
open Go.RowKit Go.Maps Aid L LM EM
set_option linter.unusedVariables false
set_option linter.unusedSimpArgs false

theorem owns_below {w w' : World} {base : Nat} {e : TypeId} {size : Nat} {v : Value} {n : Nat} {xs : List Value} (h : w.ownsRow base e size v n xs) (hb : Below w.heap.size w w') : w'.ownsRow base e size v n xs :=
  owns_turn (O := fun _ => False) h (Turn.of_below hb) (fun _ _ h => h)
theorem Row.below {w w' : World} {b : Nat} {t : TypeId} {n cap : Nat} {xs : List Value} (h : Row w b t n cap xs) (hb : Below w.heap.size w w') : Row w' b t n cap xs := by
  obtain ⟨⟨cur, hc, hs, ht⟩, h1, h2⟩ := h
  exact ⟨⟨cur, hc.below hb hc.lt, hs, ht⟩, h1, h2⟩
theorem Row.put {w : World} {b : Nat} {t : TypeId} {n cap : Nat} {xs : List Value} (h : Row w b t n cap xs) {q : Nat} (hq : q < n) (v : Value) : Row (w.setCell ⟨b, q, none⟩ v) b t n cap (xs.set q v) := by
  obtain ⟨⟨cur, hc, hs, ht⟩, h1, h2⟩ := h
  refine ⟨⟨_, hc.set q v, by simpa using hs, ?_⟩, h1, h2⟩
  rw [← ht]
  apply List.ext_getElem?
  intro j
  by_cases hj : j < n
  · rw [List.getElem?_take_of_lt hj]
    simp only [Array.toList_setIfInBounds]
    by_cases e : q = j
    · subst e
      rw [List.getElem?_set_self (by simp; omega), List.getElem?_set_self (by rw [List.length_take]; simp; omega)]
    · rw [List.getElem?_set_ne e, List.getElem?_set_ne e, List.getElem?_take_of_lt hj]
  · rw [List.getElem?_eq_none (by rw [List.length_take]; omega), List.getElem?_eq_none (by rw [List.length_set, List.length_take]; omega)]
structure PIn (Wc wr : World) (l m : List Int) (i j : Nat) (vn vp : Value) (T : List ByteArray) : Prop where
  now : wr.ownsRow Wc.heap.size 21 1 vn (j + (l.length - i)) ((curL l m i j).map (.int .i32))
  path : wr.ownsRow Wc.heap.size 9 1 vp T.length (T.map Value.string)
  apart : ∀ x, vn.ownBlock = some x → vp.ownBlock ≠ some x
  below : Below Wc.heap.size Wc wr
theorem PIn.later {Wc wr w' : World} {l m : List Int} {i j : Nat} {vn vp : Value} {T : List ByteArray} (h : PIn Wc wr l m i j vn vp T) (hb : Below wr.heap.size wr w') : PIn Wc w' l m i j vn vp T :=
  ⟨owns_below h.now hb, owns_below h.path hb, h.apart, h.below.trans (hb.mono h.below.size)⟩
/-- the numbers turn -/
theorem PIn.turn {Wc wr w' : World} {l m : List Int} {i j i' j' : Nat} {vn vn' vp : Value} {T : List ByteArray} (h : PIn Wc wr l m i j vn vp T) (ht : Turn (fun x => vn.ownBlock = some x) wr w')
    (hown : w'.ownsRow Wc.heap.size 21 1 vn' (j' + (l.length - i')) ((curL l m i' j').map (.int .i32))) (hat : vn'.ownBlock = vn.ownBlock ∨ ∃ x, vn'.ownBlock = some x ∧ wr.heap.size ≤ x) : PIn Wc w' l m i' j' vn' vp T := by
  have hz := h.below.size
  refine ⟨hown, owns_turn h.path ht (fun x hx e => h.apart x e hx), fun x hx e => ?_, h.below.trans (ht.below hz (fun x hx => owns_base h.now x hx))⟩
  rcases hat with g | ⟨y, g, hy⟩
  · exact h.apart x (g ▸ hx) e
  · rw [g] at hx; cases hx
    have := (h.path.lt x e).2
    omega
/-- one text more -/
theorem PIn.add {Wc wr w1 w' : World} {l m : List Int} {i j : Nat} {vn vp vp' : Value} {T : List ByteArray} {t : ByteArray} (h : PIn Wc wr l m i j vn vp T) (hb : Below wr.heap.size wr w1)
    (hown : w'.ownsRow Wc.heap.size 9 1 vp' (T.length + 1) (T.map Value.string ++ [.string t])) (hg : w1.grownBy w' vp.ownBlock) (hat : vp'.ownBlock = vp.ownBlock ∨ vp'.ownBlock = some w1.heap.size) : PIn Wc w' l m i j vn vp' (T ++ [t]) := by
  have hz := hb.size
  have hz0 := h.below.size
  have ht : Turn (fun x => vp.ownBlock = some x) wr w' := (Turn.of_below hb).trans ⟨hg.size, hg.os, hg.tape, hg.output, fun y hy hn => hg.block y hy (fun e => hn e.symm)⟩ (fun _ _ h => h)
  refine ⟨owns_turn h.now ht (fun x hx e => h.apart x hx e), by rw [List.length_append, List.map_append]; exact hown, fun x hx e => ?_, h.below.trans (ht.below hz0 (fun x hx => owns_base h.path x hx))⟩
  rcases hat with g | g
  · exact h.apart x hx (g ▸ e)
  · rw [g] at e; cases e
    have := (h.now.lt _ hx).2
    omega
def TextOk (l : List Int) (w : World) (e : Ending) (w' : World) : Prop := ∃ t : ByteArray, e = .returned (.tuple #[.string t, .bool true]) ∧ runes t.data.toList = some l ∧ Below w.heap.size w w'
theorem text_ok (v : Value) (l : List Int) (w : World) (h1 : Ints w .i32 v l) (h4 : 4 * l.length ≤ 140737488355328) (T : Tab w) (hs : ∀ r ∈ l, scalar r = true) :
    Calls Tryd.prog 17 #[v] w (TextOk l w) := by
  refine (text_any v l w h1 h4 T).mono ?_
  rintro e w' ⟨⟨_, t, ht, rfl⟩ | ⟨hn, _⟩, hb⟩
  · exact ⟨t, rfl, runes_iff.2 ⟨hs, ht⟩, hb⟩
  · have : l.all scalar = true := List.all_eq_true.2 hs
    rw [this] at hn; cases hn
theorem row_cell {w : World} {base A M n p : Nat} {v : Value} (h : w.ownsRow base 40 1 v n (rowsV A M n)) (hp : p < n) : ∃ R c, v = .slice (some ⟨R, 0, none⟩) n c ∧ R < w.heap.size ∧ w.cell? ⟨R, p, none⟩ = some (.slice (some ⟨A, p * M, none⟩) M M) := by
  rcases h.2 with ⟨_, h0⟩ | ⟨g, cap, cur, rfl, hb, hg, hnc, hcm, hcs, htake⟩
  · omega
  · have hgl : g < w.heap.size := (Array.getElem?_eq_some_iff.1 hg).1
    have := h.cells (g := g) rfl p _ (rowsV_at A M n p hp)
    rw [add_plain] at this
    exact ⟨g, cap, rfl, hgl, this⟩
def PathPost (w : World) (a b : ByteArray) (e : Ending) (w' : World) : Prop :=
  Below w.heap.size w w' ∧ ((pairOf a b = none ∧ e = .returned (.tuple #[.slice none 0 0, .bool false])) ∨
    ∃ l m v L, pairOf a b = some (l, m) ∧ e = .returned (.tuple #[v, .bool true]) ∧ w'.ownsRow w.heap.size 9 1 v L.length (L.map Value.string) ∧ PathOk a b (lv l m) L)
theorem info_str : (Tryd.prog.info? 9).map (fun i => (i.zero, i.size, i.bytes)) = some (some (.string .empty), 1, 16) := by kernel_rfl
end Go.Proofs.YtkgmikglifmenaaDoor.E
