/-
  The walks of Go's sort of numbers of type uint64: rows, the heap, the turning of a row.
-/
import Derived.Test.YtcpkpljeimbdiaaGreatAidB
import Derived.Sort.AssemblyPlain
import Derived.Lib.Hide
import Derived.StillTailTactics
import Derived.Deep.QuietTactic
import Derived.BigQuiet
namespace Go.Proofs.YtcpkpljeimbdiaaGreat.QU
open Go.RowKit
open Aid
open Go.Sort (swp ltInt)
set_option linter.unusedSimpArgs false
set_option linter.unusedVariables false

/-- numbers as cells -/
def numA (d : Array Int) : Array Value := d.map (.int .u64)
theorem numA_size (d : Array Int) : (numA d).size = d.size := by simp [numA]
theorem numA_get (d : Array Int) (rest : Array Value) (j : Nat) (h : j < d.size) : (numA d ++ rest)[j]? = some (.int .u64 d[j]!) := by
  rw [Array.getElem?_append_left (by rw [numA_size]; exact h)]
  simp [numA, h]
theorem numA_swp (d : Array Int) (rest : Array Value) (i j : Nat) (hi : i < d.size) (hj : j < d.size) : ((numA d ++ rest).setIfInBounds i (.int .u64 d[j]!)).setIfInBounds j (.int .u64 d[i]!) = numA (swp d i j) ++ rest := by
  rw [Array.setIfInBounds_append_left (by rw [numA_size]; exact hi), Array.setIfInBounds_append_left (by rw [Array.size_setIfInBounds, numA_size]; exact hj)]
  congr 1
  unfold numA swp
  rw [Array.map_setIfInBounds, Array.map_setIfInBounds]
/-- all that was there but one block is as it was -/
structure Only (g : Nat) (w w' : World) : Prop where
  os : w'.os = w.os
  tape : w'.tape = w.tape
  output : w'.output = w.output
  size : w.heap.size ≤ w'.heap.size
  block : ∀ k, k < w.heap.size → k ≠ g → w'.heap[k]? = w.heap[k]?
theorem Only.refl (g : Nat) (w : World) : Only g w w := ⟨rfl, rfl, rfl, Nat.le_refl _, fun _ _ _ => rfl⟩
theorem Only.trans {g : Nat} {a b c : World} (h : Only g a b) (k : Only g b c) : Only g a c :=
  ⟨k.os.trans h.os, k.tape.trans h.tape, k.output.trans h.output, Nat.le_trans h.size k.size, fun x hx hn => (k.block x (Nat.lt_of_lt_of_le hx h.size) hn).trans (h.block x hx hn)⟩
theorem Only.of_below {g : Nat} {w w' : World} (h : Below w.heap.size w w') : Only g w w' := ⟨h.os, h.tape, h.output, h.size, fun k hk _ => h.block k hk⟩
theorem Only.drew (g : Nat) (w : World) : Only g w w.drew := Only.of_below (Below.refl _ _).drew
theorem Only.drewN (g : Nat) (w : World) (n : Nat) : Only g w (w.drewN n) := Only.of_below (below_drewN (Below.refl _ _) n)
theorem Only.set {g : Nat} (w : World) (i : Nat) (v : Value) : Only g w (w.setCell ⟨g, i, none⟩ v) := by
  refine ⟨rfl, rfl, rfl, by rw [World.size_setCell]; exact Nat.le_refl _, fun k hk hn => ?_⟩
  show (w.heap.modify g _)[k]? = _
  rw [Array.getElem?_modify, if_neg (fun e => hn e.symm)]
theorem Only.below {g B : Nat} {w0 w w' : World} (h : Only g w w') (hb : Below B w0 w) (hB : B ≤ w.heap.size) (hg : B ≤ g) : Below B w0 w' :=
  ⟨h.os.trans hb.os, h.tape.trans hb.tape, h.output.trans hb.output, Nat.le_trans hb.size h.size, fun k hk => (h.block k (by omega) (by omega)).trans (hb.block k hk)⟩
/-- the row in a world: the first cells of a block -/
def Row (w : World) (g : Nat) (d : Array Int) : Prop := ∃ rest, Blk w g 37 (numA d ++ rest)
theorem Row.cell {w : World} {g : Nat} {d : Array Int} (h : Row w g d) {j : Nat} (hj : j < d.size) {x : Int} (hx : d[j]! = x) : w.cell? ⟨g, j, none⟩ = some (.int .u64 x) := by
  obtain ⟨rest, h⟩ := h
  rw [Blk.cell h, numA_get _ _ _ hj, hx]
theorem Row.free {w : World} {g : Nat} {d : Array Int} (h : Row w g d) (j : Nat) : w.frozen? ⟨g, j, none⟩ = false := by
  obtain ⟨rest, h⟩ := h
  exact Blk.free h j
theorem Row.lt {w : World} {g : Nat} {d : Array Int} (h : Row w g d) : g < w.heap.size := by
  obtain ⟨rest, h⟩ := h
  exact Blk.lt h
theorem Row.drew {w : World} {g : Nat} {d : Array Int} (h : Row w g d) : Row w.drew g d := h
theorem Row.drewN {w : World} {g : Nat} {d : Array Int} (h : Row w g d) (n : Nat) : Row (w.drewN n) g d := h
theorem Row.below {w w' : World} {g : Nat} {d : Array Int} (h : Row w g d) (hb : Below w.heap.size w w') : Row w' g d := by
  obtain ⟨rest, h⟩ := h
  exact ⟨rest, Blk.below h hb (Blk.lt h)⟩
theorem Row.swap {w : World} {g : Nat} {d : Array Int} (h : Row w g d) (i j : Nat) (hi : i < d.size) (hj : j < d.size) : Row ((w.setCell ⟨g, i, none⟩ (.int .u64 d[j]!)).setCell ⟨g, j, none⟩ (.int .u64 d[i]!)) g (swp d i j) := by
  obtain ⟨rest, h⟩ := h
  have := (h.set i (.int .u64 d[j]!)).set j (.int .u64 d[i]!)
  rw [numA_swp _ _ _ _ hi hj] at this
  exact ⟨rest, this⟩
/-- two elements are swapped, as the walk spells it -/
theorem Row.swapped {w : World} {g : Nat} {d : Array Int} (h : Row w g d) {i j : Nat} {x y : Int} (hi : i < d.size) (hj : j < d.size) (hx : d[i]! = x) (hy : d[j]! = y) :
    Row ((w.setCell ⟨g, i, none⟩ (.int .u64 y)).setCell ⟨g, j, none⟩ (.int .u64 x)) g (swp d i j) ∧ Only g w ((w.setCell ⟨g, i, none⟩ (.int .u64 y)).setCell ⟨g, j, none⟩ (.int .u64 x)) := by
  subst hx hy
  exact ⟨h.swap i j hi hj, (Only.set w i _).trans (Only.set _ j _)⟩
theorem Row.second {w : World} {g : Nat} {d : Array Int} (h : Row w g d) {i j : Nat} (v : Value) (hj : j < d.size) : ∃ u, (w.setCell ⟨g, i, none⟩ v).cell? ⟨g, j, none⟩ = some u := by
  obtain ⟨rest, h⟩ := h
  have h2 := h.set i v
  have hlt : j < ((numA d ++ rest).setIfInBounds i v).size := by rw [Array.size_setIfInBounds, Array.size_append, numA_size]; omega
  exact ⟨_, by rw [Blk.cell h2]; exact Array.getElem?_eq_getElem hlt⟩
theorem swp_sz (d : Array Int) (i j : Nat) : (swp d i j).size = d.size := by simp [swp]
theorem ret_bool {a b : Bool} (h : a = b) : Ending.returned (.bool a) = .returned (.bool b) := by rw [h]

set_option maxRecDepth 100000 in
theorem nan_any (x : Int) (w : World) : Calls Tryz.prog 101 #[.int .u64 x] w fun e w' => e = .returned (.bool false) ∧ w' = w := by
  go_enter Tryz.func101, Tryz.ntmps101
  go_wp2_with fail
  go_ret
  exact ⟨ret_bool (by simp), rfl⟩
set_option maxRecDepth 100000 in
theorem less_any (x y : Int) (w : World) : Calls Tryz.prog 89 #[.int .u64 x, .int .u64 y] w fun e w' => e = .returned (.bool (ltInt x y)) ∧ w' = w := by
  go_enter Tryz.func89, Tryz.ntmps89
  go_wp2_with (first | (go_at_call 101; refine (nan_any _ _).mono ?_; rintro e w1 ⟨rfl, rfl⟩))
  go_ret
  exact ⟨rfl, rfl⟩

theorem rev_go {i j : Nat} {d : Array Int} (h : i < j) : Go.Sort.reverseLoop i j d = Go.Sort.reverseLoop (i + 1) (j - 1) (swp d i j) := by rw [Go.Sort.reverseLoop, if_pos h]
theorem rev_stop {i j : Nat} {d : Array Int} (h : ¬ i < j) : Go.Sort.reverseLoop i j d = d := by rw [Go.Sort.reverseLoop, if_neg h]
set_option maxRecDepth 100000 in
set_option maxHeartbeats 1000000 in
theorem rev_any (g cap N a b : Nat) (d : Array Int) (w : World) (h : Row w g d) (hN : d.size = N) (hab : a < b) (hb : b ≤ N) (hsz : N ≤ 140737488355328) :
    Calls Tryz.prog 87 #[.slice (some ⟨g, 0, none⟩) N cap, .int .i64 a, .int .i64 b] w fun e w' => e = .returned (.tuple #[]) ∧ Row w' g (Go.Sort.reverseRange d a b) ∧ Only g w w' := by
  have hw0 : IntKind.i64.wrap ((b : Int) - 1) = ((b - 1 : Nat) : Int) := by rw [IntWalk.i64_in _ (by omega)]; omega
  go_enter Tryz.func87, Tryz.ntmps87
  go_wp2_with fail
  go_loopw [6, 7] (fun x y wr => ∃ (i j : Nat) (dk : Array Int), x = .int .i64 i ∧ y = .int .i64 ((j : Int) - 1) ∧ a ≤ i ∧ i ≤ b ∧ j ≤ b ∧ a ≤ j ∧ dk.size = N ∧ Row wr g dk ∧ Only g w wr ∧
      Hid (Go.Sort.reverseLoop i (j - 1) dk = Go.Sort.reverseRange d a b)) (fun x _ _ => b - (intOf x).toNat)
  case atStart => exact ⟨a, b, d, rfl, by congr 1; omega, Nat.le_refl _, by omega, Nat.le_refl _, by omega, hN, h, Only.refl _ _, rfl⟩
  case round =>
    clear h hw0
    obtain ⟨i, j, dk, rfl, rfl, h1, h2, h3, h4, hsk, hR, hO, HI⟩ := hrel
    by_cases hij : (i : Int) < (j : Int) - 1
    · obtain ⟨q, rfl⟩ : ∃ q, j = q + 1 := ⟨j - 1, by omega⟩
      have hq : ((q + 1 : Nat) : Int) - 1 = (q : Int) := by omega
      rw [hq] at hij ⊢
      obtain ⟨x, hx⟩ : ∃ x, dk[i]! = x := ⟨_, rfl⟩
      obtain ⟨y, hy⟩ : ∃ y, dk[q]! = y := ⟨_, rfl⟩
      have cx := hR.cell (j := i) (by omega) hx
      have cy := hR.cell (j := q) (by omega) hy
      have f1 := hR.free i
      have f2 := hR.free q
      have z1 : (i : Int) < (N : Int) := by omega
      have z2 : (q : Int) < (N : Int) := by omega
      have HS := Lib.hid (rev_go (d := dk) (show i < q by omega))
      obtain ⟨hrow, honly⟩ := Row.swapped hR (i := i) (j := q) (by omega) (by omega) hx hy
      have HRO := Lib.hid (And.intro hrow honly)
      clear hx hy hrow honly
      go_wp2_with fail
      go_region
      all_goals go_wp2_with fail
      refine ⟨⟨i + 1, q, swp dk i q, by go_num, rfl, by omega, by omega, by omega, by omega, by rw [swp_sz]; exact hsk, HRO.out.1.drew, (hO.trans HRO.out.2).trans (Only.drew _ _), ?_⟩, by simp [intOf]; omega⟩
      have e := HI.out
      rw [Nat.add_sub_cancel, HS.out] at e
      exact e
    · have HS := rev_stop (d := dk) (show ¬ i < j - 1 by omega)
      have e := HI.out
      rw [HS] at e
      go_wp2_with fail
      go_end0
      exact ⟨rfl, e ▸ hR, hO⟩

theorem sd_stop {hi first root : Nat} {d : Array Int} (h : hi ≤ 2 * root + 1) : Go.Sort.siftDown ltInt hi first root d = d := by rw [Go.Sort.siftDown, dif_pos h]
theorem sd_one {hi first root c : Nat} {d : Array Int} (hc : c = 2 * root + 1) (h : c < hi) (h2 : hi ≤ c + 1 ∨ ltInt d[first + c]! d[first + (c + 1)]! = false) :
    Go.Sort.siftDown ltInt hi first root d = if ltInt d[first + root]! d[first + c]! = true then Go.Sort.siftDown ltInt hi first c (swp d (first + root) (first + c)) else d := by
  subst hc
  rw [Go.Sort.siftDown, dif_neg (by omega), if_neg]
  · cases ltInt d[first + root]! d[first + (2 * root + 1)]! <;> rfl
  · simp only [Bool.and_eq_true, decide_eq_true_eq]
    rintro ⟨e1, e2⟩
    rcases h2 with h2 | h2
    · omega
    · rw [Nat.add_assoc] at e2
      rw [h2] at e2; cases e2
theorem sd_two {hi first root c : Nat} {d : Array Int} (hc : c = 2 * root + 1) (h : c + 1 < hi) (h2 : ltInt d[first + c]! d[first + (c + 1)]! = true) :
    Go.Sort.siftDown ltInt hi first root d = if ltInt d[first + root]! d[first + (c + 1)]! = true then Go.Sort.siftDown ltInt hi first (c + 1) (swp d (first + root) (first + (c + 1))) else d := by
  subst hc
  rw [Go.Sort.siftDown, dif_neg (by omega), if_pos]
  · have e : 2 * root + 2 = 2 * root + 1 + 1 := by omega
    rw [e, dif_pos h]
    cases ltInt d[first + root]! d[first + (2 * root + 1 + 1)]! <;> rfl
  · simp only [Bool.and_eq_true, decide_eq_true_eq]
    refine ⟨h, ?_⟩
    rw [Nat.add_assoc]; exact h2
end Go.Proofs.YtcpkpljeimbdiaaGreat.QU
