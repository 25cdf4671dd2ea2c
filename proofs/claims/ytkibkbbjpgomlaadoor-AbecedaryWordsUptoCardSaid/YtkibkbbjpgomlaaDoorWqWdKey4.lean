/-
  WdKey4.
-/
import Derived.Test.YtkibkbbjpgomlaaDoorWqWdMapE
import Derived.Test.YtkibkbbjpgomlaaDoorWqFstKey
namespace Go.Proofs.YtkibkbbjpgomlaaDoor.F
open Go.RowKit Go.Maps
open Aid
set_option linter.unusedSimpArgs false
set_option linter.unusedVariables false

structure K4 where
  a : Int
  b : Int
  c : Int
  d : Int
deriving DecidableEq
def K4.ok (k : K4) : Prop := i64 k.a ∧ i64 k.b ∧ i64 k.c ∧ i64 k.d
def K4.v (k : K4) : Value := .agg #[.int .i64 k.a, .int .i64 k.b, .int .i64 k.c, .int .i64 k.d]
theorem K4.inj {k k' : K4} (h : k.v = k'.v) : k = k' := by
  obtain ⟨a, b, c, d⟩ := k
  obtain ⟨a', b', c', d'⟩ := k'
  simp [K4.v] at h
  simp [h]
theorem row_k4 : (86 : TypeId) < Tryd.prog.types.size := of_decide_eq_true (by kernel_rfl)
theorem wide_k4 : (match Tryd.prog.underlying 86 with | some (.array _ _) | some (.struct _) => true | _ => false) = true := by kernel_rfl
set_option maxRecDepth 100000 in
theorem law_k4 : WideMaps.KeyLaw Tryd.prog 86 := deep_law_laid laid_out (m := 2) (by omega) row_k4 (by kernel_rfl) wide_k4
theorem cells_k4 : Tryd.prog.cellsOf 86 = 4 := by kernel_rfl
theorem key_k4 (k : K4) (h : k.ok) : ∃ l, keyOf Tryd.prog 86 k.v = some l := by
  obtain ⟨a, b, c, d⟩ := k
  obtain ⟨h1, h2, h3, h4⟩ := h
  unfold i64 at h1 h2 h3 h4
  dsimp only at h1 h2 h3 h4
  have hkt : Tryd.prog.keyType 86 = true := by kernel_rfl
  have hform : (K4.v ⟨a, b, c, d⟩).formed Tryd.prog 86 = true := by
    simp [K4.v, Value.formed, Tryd.underlying86, cells_k4]
  have cI : Tryd.prog.cellsOf 3 = 1 := by kernel_rfl
  obtain ⟨n, hn⟩ : ∃ n, Tryd.prog.types.size + 1 = n + 2 := ⟨Tryd.prog.types.size - 1, by have := row_k4; have : 0 < Tryd.prog.types.size := Nat.lt_of_le_of_lt (Nat.zero_le _) this; omega⟩
  unfold keyOf
  rw [Tryd.underlying86]
  dsimp only
  rw [hkt, hform, hn]
  simp [Program.keyLits, K4.v, Value.cells, Tryd.underlying86, Tryd.underlying3, cells_k4, cI, h1, h2, h3, h4, show List.range 4 = [0, 1, 2, 3] from rfl]
end Go.Proofs.YtkibkbbjpgomlaaDoor.F
