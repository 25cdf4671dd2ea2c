/-
  FstKey.
-/
import Derived.Test.YtkibkbbjpgomlaaDoorWqA
namespace Go.Proofs.YtkibkbbjpgomlaaDoor.F
open Go.RowKit Go.Maps
open Aid
set_option linter.unusedSimpArgs false
set_option linter.unusedVariables false

/-- what a link says -/
structure Link where
  fin : Bool
  out : Int
  label : Int
  arc : Int
  to_ : Int
  next : Int
deriving DecidableEq
def i64 (x : Int) : Prop := (Lit.int .i64 x).wf = true
def Link.ok (k : Link) : Prop := i64 k.out ∧ i64 k.label ∧ i64 k.arc ∧ i64 k.to_ ∧ i64 k.next
def Link.v (k : Link) : Value := .agg #[.bool k.fin, .int .i64 k.out, .int .i64 k.label, .int .i64 k.arc, .int .i64 k.to_, .int .i64 k.next]
theorem Link.inj {k k' : Link} (h : k.v = k'.v) : k = k' := by
  obtain ⟨a, b, c, d, e, f⟩ := k
  obtain ⟨a', b', c', d', e', f'⟩ := k'
  simp [Link.v] at h
  simp [h]
theorem row_link : (102 : TypeId) < Tryd.prog.types.size := of_decide_eq_true (by kernel_rfl)
theorem wide_link : (match Tryd.prog.underlying 102 with | some (.array _ _) | some (.struct _) => true | _ => false) = true := by kernel_rfl
theorem laid_out : laidOutB Tryd.prog = true := by kernel_rfl
set_option maxRecDepth 100000 in
theorem law_link : WideMaps.KeyLaw Tryd.prog 102 := deep_law_laid laid_out (m := 2) (by omega) row_link (by kernel_rfl) wide_link
theorem keyed_link : Keyed Tryd.prog 102 := Keyed.of_law law_link
theorem cells_link : Tryd.prog.cellsOf 102 = 6 := by kernel_rfl
theorem key_link (k : Link) (h : k.ok) : ∃ l, keyOf Tryd.prog 102 k.v = some l := by
  obtain ⟨a, b, c, d, e, f⟩ := k
  obtain ⟨h1, h2, h3, h4, h5⟩ := h
  unfold i64 at h1 h2 h3 h4 h5
  dsimp only at h1 h2 h3 h4 h5
  have hkt : Tryd.prog.keyType 102 = true := by kernel_rfl
  have hform : (Link.v ⟨a, b, c, d, e, f⟩).formed Tryd.prog 102 = true := by
    simp [Link.v, Value.formed, Tryd.underlying102, cells_link]
  have cI : Tryd.prog.cellsOf 3 = 1 := by kernel_rfl
  have cB : Tryd.prog.cellsOf 4 = 1 := by kernel_rfl
  obtain ⟨n, hn⟩ : ∃ n, Tryd.prog.types.size + 1 = n + 2 := ⟨Tryd.prog.types.size - 1, by have := row_link; have : 0 < Tryd.prog.types.size := Nat.lt_of_le_of_lt (Nat.zero_le _) this; omega⟩
  unfold keyOf
  rw [Tryd.underlying102]
  dsimp only
  rw [hkt, hform, hn]
  simp [Program.keyLits, Link.v, Value.cells, Tryd.underlying102, Tryd.underlying3, Tryd.underlying4, cells_link, cI, cB, h1, h2, h3, h4, h5]
end Go.Proofs.YtkibkbbjpgomlaaDoor.F
