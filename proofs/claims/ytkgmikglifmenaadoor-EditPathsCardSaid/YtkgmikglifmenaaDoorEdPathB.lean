/-
  The steps of Path.
-/
import Derived.Test.YtkgmikglifmenaaDoorEdPathA
namespace Go.Proofs.YtkgmikglifmenaaDoor.E
open Go.RowKit Go.Maps Aid L LM EM
set_option linter.unusedVariables false
set_option linter.unusedSimpArgs false

def StepEnd (Wc : World) (l m : List Int) (i j : Nat) (vp : Value) (T : List ByteArray) (e : Ending) (w' : World) : Prop :=
  ∃ a c, e = .returned (.slice a (j + (l.length - i)) c) ∧ PIn Wc w' l m i j (.slice a (j + (l.length - i)) c) vp T
theorem ins_step {Wc W : World} {l m : List Int} {p j n nc : Nat} {na : Option Addr} {vp : Value} {T : List ByteArray} {x y : Int} (h : PIn Wc W l m (p + 1) j (.slice na n nc) vp T) (hp : p < l.length) (hj : j ≤ m.length) (hl : l.length ≤ 1024) (hm : m.length ≤ 1024)
    (hn : n = j + (l.length - (p + 1))) (hx : x = j) (hy : l[p] = y) :
    Calls Tryd.prog 16 #[.slice na n nc, .int .i64 x, .slice (some ⟨W.heap.size, 0, none⟩) 1 1] (W.alloc (.cells #[.int .i32 y] 21)) (StepEnd Wc l m p j vp T) := by
  subst hn hy
  have hb : Below W.heap.size W (W.alloc (.cells #[.int .i32 l[p]] 21)) := (Below.refl _ _).alloc (Nat.le_refl _) _
  have h1 := h.later hb
  have hz := h.below.size
  refine (insert_any Wc.heap.size _ _ j _ l[p] x W.heap.size _ h1.now (Blk.alloc_new _ _ _) (fun e => by have := (h.now.lt _ e).2; omega) hx (by omega) (by omega) (by simp; omega)).mono ?_
  rintro e w' ⟨v', rfl, hown, ht, hat⟩
  obtain ⟨a, c, rfl⟩ := owns_shape hown
  have hnn : j + (l.length - (p + 1)) + 1 = j + (l.length - p) := by omega
  unfold insL at hown
  rw [cur_put hp hj, hnn] at hown
  rw [hnn] at hat ⊢
  exact ⟨a, c, rfl, h1.turn ht hown hat⟩
theorem del_step {Wc W : World} {l m : List Int} {i q n nc : Nat} {na : Option Addr} {vp : Value} {T : List ByteArray} {x y : Int} (h : PIn Wc W l m i (q + 1) (.slice na n nc) vp T) (hi : i ≤ l.length) (hq : q < m.length)
    (hn : n = q + 1 + (l.length - i)) (hx : x = q) (hy : y = q + 1) :
    Calls Tryd.prog 15 #[.slice na n nc, .int .i64 x, .int .i64 y] W (StepEnd Wc l m i q vp T) := by
  subst hn
  obtain ⟨b, cap, e, hb, hr⟩ := owns_row h.now (fun e => by simp only [Value.slice.injEq] at e; omega)
  cases e
  refine (delete_any b _ nc q _ x y W hr (by omega) hx hy).mono ?_
  rintro e w' ⟨rfl, h1, h2⟩
  have hnn : q + 1 + (l.length - i) - 1 = q + (l.length - i) := by omega
  rw [cur_erase hq, hnn] at h1
  rw [hnn]
  exact ⟨_, _, rfl, h.turn (h2.more (fun x hx => by rw [show x = b from hx]; rfl)) (h1.owns hb) (.inl rfl)⟩
theorem sub_step {Wc W : World} {l m : List Int} {p q n nc : Nat} {na : Option Addr} {vp : Value} {T : List ByteArray} {y : Int} (h : PIn Wc W l m (p + 1) (q + 1) (.slice na n nc) vp T) (hp : p < l.length) (hq : q < m.length)
    (hn : n = q + 1 + (l.length - (p + 1))) (hy : l[p] = y) : ∃ b, na = some ⟨b, 0, none⟩ ∧ (∃ v, W.cell? ⟨b, q, none⟩ = some v) ∧ W.frozen? ⟨b, q, none⟩ = false ∧ PIn Wc (W.setCell ⟨b, q, none⟩ (.int .i32 y)) l m p q (.slice na n nc) vp T := by
  subst hn hy
  obtain ⟨b, cap, e, hb, hr⟩ := owns_row h.now (fun e => by simp only [Value.slice.injEq] at e; omega)
  cases e
  have h1 := hr.put (q := q) (by omega) (.int .i32 l[p])
  have hq2 : q + 1 + (l.length - (p + 1)) = q + (l.length - p) := by omega
  rw [← List.map_set, cur_set hp hq] at h1
  refine ⟨b, rfl, Option.isSome_iff_exists.1 (hr.some_ (by have := hr.le; omega)), hr.free q, ?_⟩
  have ht : Turn (fun g => g = b) W (W.setCell ⟨b, q, none⟩ (.int .i32 l[p])) := ⟨by simp, rfl, rfl, rfl, fun g hg hn => Below.heap_setCell _ _ _ _ hn⟩
  have h2 := h1.owns hb
  have h3 : PIn Wc (W.setCell ⟨b, q, none⟩ (.int .i32 l[p])) l m p q (.slice (some ⟨b, 0, none⟩) (q + 1 + (l.length - (p + 1))) nc) vp T :=
    h.turn (ht.more (fun x hx => by rw [show x = b from hx]; rfl)) (by rw [hq2] at h2 ⊢; exact h2) (.inl rfl)
  exact h3
theorem text_step {Wc W : World} {l m : List Int} {i j n nc : Nat} {na : Option Addr} {vp : Value} {T : List ByteArray} (h : PIn Wc W l m i j (.slice na n nc) vp T) (hi : i ≤ l.length) (hj : j ≤ m.length) (hl : l.length ≤ 1024) (hm : m.length ≤ 1024)
    (hsl : ∀ r ∈ l, scalar r = true) (hsm : ∀ r ∈ m, scalar r = true) (hT : Tab Wc) :
    Calls Tryd.prog 17 #[.slice na n nc] W (TextOk (curL l m i j) W) := by
  have hlen := cur_len' hj hi
  have hI : Ints W .i32 (.slice na n nc) (curL l m i j) := Ints.own (by rw [hlen]; exact h.now) (by omega)
  exact text_ok _ _ W hI (by omega) (hT.below h.below) (cur_scalar hsl hsm)
end Go.Proofs.YtkgmikglifmenaaDoor.E
