/-
  Beginnings of rows of runes, what they are written as.
-/
import Derived.Test.YtkgmikglifmenaaDoorLetRefB
namespace Go.Proofs.YtkgmikglifmenaaDoor.L
open Go.RowKit
open LM Aid
set_option linter.unusedSimpArgs false
set_option linter.unusedVariables false

theorem all_take_next {p : Int → Bool} {l : List Int} {k : Nat} (h : (l.take k).all p = true) (hk : k < l.length) {x : Int} (hx : l.getD k 0 = x) (hp : p x = true) : (l.take (k + 1)).all p = true := by
  rw [List.take_succ_eq_append_getElem hk, List.all_append, h]
  have e1 : l[k] = x := by rw [← hx]; simp [List.getD_eq_getElem?_getD, hk]
  simp [e1, hp]
theorem all_false {p : Int → Bool} {l : List Int} {k : Nat} (hk : k < l.length) {x : Int} (hx : l.getD k 0 = x) (hp : p x = false) : l.all p = false := by
  have e1 : l[k] = x := by rw [← hx]; simp [List.getD_eq_getElem?_getD, hk]
  rw [List.all_eq_false]
  exact ⟨l[k], List.getElem_mem hk, by rw [e1, hp]; simp⟩
theorem encs_take_next {l : List Int} {k : Nat} (hk : k < l.length) {x : Int} (hx : l.getD k 0 = x) : encs (l.take (k + 1)) = encs (l.take k) ++ enc x := by
  have e1 : l[k] = x := by rw [← hx]; simp [List.getD_eq_getElem?_getD, hk]
  rw [List.take_succ_eq_append_getElem hk, encs_append, e1]
  simp [encs]
theorem size_of (t : ByteArray) (l : List UInt8) (h : t.data.toList = l) : t.size = l.length := by rw [← h, len_at]
end Go.Proofs.YtkgmikglifmenaaDoor.L
