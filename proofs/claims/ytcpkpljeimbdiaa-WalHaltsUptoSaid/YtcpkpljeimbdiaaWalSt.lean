/-
  What a log is in memory; First, Last, Get, Next, did.
-/
import Derived.Test.YtcpkpljeimbdiaaWalTxt
import Derived.Deep.QuietTactic
import Derived.BigQuiet
namespace Go.Proofs.Ytcpkpljeimbdiaa.W
open Go.RowKit
open Aid K
set_option linter.unusedSimpArgs false
set_option linter.unusedVariables false

/-- the cells of a log -/
def walV (o : Value) (d : Nat) (first : Int) (l old : Value) (next code : Int) : Array Value := #[o, .pointer (some ⟨d, 0, none⟩), .int .u64 first, l, old, .int .u64 next, .int .i64 code]
theorem size_wal : (Try.prog.info? 77).map (·.size) = some 7 := by kernel_rfl
theorem size_open : (Try.prog.info? 96).map (·.size) = some 4 := by kernel_rfl
theorem size_seg : (Try.prog.info? 82).map (·.size) = some 2 := by kernel_rfl
theorem blk7 {w : World} {b : Nat} {T : TypeId} {c0 c1 c2 c3 c4 c5 c6 : Value} (h : Blk w b T #[c0, c1, c2, c3, c4, c5, c6]) :
    w.cell? ⟨b, 0, none⟩ = some c0 ∧ w.cell? ⟨b, 1, none⟩ = some c1 ∧ w.cell? ⟨b, 2, none⟩ = some c2 ∧ w.cell? ⟨b, 3, none⟩ = some c3 ∧ w.cell? ⟨b, 4, none⟩ = some c4 ∧ w.cell? ⟨b, 5, none⟩ = some c5 ∧ w.cell? ⟨b, 6, none⟩ = some c6 :=
  ⟨h.cell 0, h.cell 1, h.cell 2, h.cell 3, h.cell 4, h.cell 5, h.cell 6⟩
theorem free7 {w : World} {b : Nat} {T : TypeId} {c0 c1 c2 c3 c4 c5 c6 : Value} (h : Blk w b T #[c0, c1, c2, c3, c4, c5, c6]) :
    w.frozen? ⟨b, 0, none⟩ = false ∧ w.frozen? ⟨b, 1, none⟩ = false ∧ w.frozen? ⟨b, 2, none⟩ = false ∧ w.frozen? ⟨b, 3, none⟩ = false ∧ w.frozen? ⟨b, 4, none⟩ = false ∧ w.frozen? ⟨b, 5, none⟩ = false ∧ w.frozen? ⟨b, 6, none⟩ = false :=
  ⟨h.free 0, h.free 1, h.free 2, h.free 3, h.free 4, h.free 5, h.free 6⟩
set_option maxRecDepth 100000 in
theorem first_any (g : Nat) (o : Value) (d : Nat) (first : Int) (l old : Value) (next code : Int) (w : World) (h : Blk w g 77 (walV o d first l old next code)) :
    Calls Try.prog 15 #[.pointer (some ⟨g, 0, none⟩)] w fun e w' => e = .returned (.int .u64 first) ∧ w' = w := by
  obtain ⟨c0, c1, c2, c3, c4, c5, c6⟩ := blk7 h
  go_enter Try.func15, Try.ntmps15
  go_wp2_with fail
  go_ret
  exact ⟨rfl, rfl⟩
set_option maxRecDepth 100000 in
theorem last_any (g : Nat) (o : Value) (d : Nat) (first : Int) (a : Option Addr) (n c : Nat) (old : Value) (next code : Int) (w : World) (h : Blk w g 77 (walV o d first (.slice a n c) old next code)) (hn : n < 9223372036854775808) :
    Calls Try.prog 20 #[.pointer (some ⟨g, 0, none⟩)] w fun e w' => e = .returned (.int .u64 (IntKind.u64.wrap (IntKind.u64.wrap (first + n) - 1))) ∧ Below w.heap.size w w' := by
  obtain ⟨c0, c1, c2, c3, c4, c5, c6⟩ := blk7 h
  have hw : IntKind.u64.wrap (n : Int) = (n : Int) := by rw [IntKind.wrap_u64]; omega
  go_enter Try.func20, Try.ntmps20
  go_wp2_with fail
  go_quiet (fail)
  go_wp2_with fail
  go_ret
  exact ⟨rfl, below_drewN (Below.refl _ _) nq⟩
set_option maxRecDepth 100000 in
theorem next_any (g : Nat) (o : Value) (d : Nat) (first : Int) (l old : Value) (next code : Int) (w : World) (h : Blk w g 77 (walV o d first l old next code)) :
    Calls Try.prog 27 #[.pointer (some ⟨g, 0, none⟩)] w fun e w' => e = .returned (.int .u64 next) ∧ w' = w := by
  obtain ⟨c0, c1, c2, c3, c4, c5, c6⟩ := blk7 h
  go_enter Try.func27, Try.ntmps27
  go_wp2_with fail
  go_ret
  exact ⟨rfl, rfl⟩
theorem wal_no {w : World} {g : Nat} {o : Value} {d : Nat} {first : Int} {l old : Value} {next code : Int} (h : Blk w g 77 (walV o d first l old next code)) : ¬ StrRow w g := StrRow.no_blk h (by decide)
set_option maxRecDepth 100000 in
theorem did_any (g : Nat) (o : Value) (d : Nat) (first : Int) (l old : Value) (next code e0 : Int) (w : World) (h : Blk w g 77 (walV o d first l old next code)) :
    Calls Try.prog 49 #[.pointer (some ⟨g, 0, none⟩), .int .i64 e0] w fun e w' => e = .returned (.int .i64 (if code = 0 then e0 else code)) ∧ Blk w' g 77 (walV o d first l old next (if code = 0 then e0 else code)) ∧ Keeps (fun k => k = g) w w' ∧ w'.heap.size = w.heap.size := by
  obtain ⟨c0, c1, c2, c3, c4, c5, c6⟩ := blk7 h
  obtain ⟨f0, f1, f2, f3, f4, f5, f6⟩ := free7 h
  by_cases hc : code = 0
  · subst hc
    rw [if_pos rfl]
    go_enter Try.func49, Try.ntmps49
    go_wp2_with fail
    go_ret
    exact ⟨rfl, h.set 6 _, set_keeps (Keeps.refl _ _) rfl (wal_no h), by simp [World.setCell]⟩
  · rw [if_neg hc]
    have hc2 : (code == 0) = false := by simpa using hc
    go_enter Try.func49, Try.ntmps49
    go_wp2_with fail
    go_ret
    exact ⟨rfl, h, Keeps.refl _ _, rfl⟩
end Go.Proofs.Ytcpkpljeimbdiaa.W
