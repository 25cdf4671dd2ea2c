/-
  The walks of the reference's Rune and Write and of letters.write: what is written of a rune.
-/
import Derived.Test.YtkgmikglifmenaaDoorLetFirst
namespace Go.Proofs.YtkgmikglifmenaaDoor.L
open Go.RowKit
open LM Aid
set_option linter.unusedSimpArgs false
set_option linter.unusedVariables false

theorem rune_any (r : Int) (w : World) : Calls Tryd.prog 27 #[.int .i64 r] w fun e w' => e = .returned (.bool (scalar r)) ∧ w = w' := by
  go_enter Tryd.func27, Tryd.ntmps27
  go_wp2
  all_goals go_ret
  all_goals exact ⟨ret_bool (by rw [Bool.eq_iff_iff]; simp only [scalar, decide_eq_true_eq, Bool.or_eq_true, Bool.false_eq_true, true_iff, false_iff]; omega), rfl⟩

theorem i32_or {x y : Int} (i : Nat) (hx0 : 0 ≤ x) (hx : x % 2 ^ i = 0) (hx1 : x < 2147483648) (h0 : 0 ≤ y) (h1 : y < 2 ^ i) (hi : i ≤ 31) : bits .or .i32 x y = x + y :=
  bits_join .i32 31 (by decide) wraps_i32 i x y hx0 hx hx1 h0 h1 (by
    have : (2 : Int) ^ i ≤ 2 ^ 31 := by
      have := Nat.pow_le_pow_right (n := 2) (by decide) hi
      exact_mod_cast this
    omega)
theorem info_u8 : (Tryd.prog.info? 5).map (fun i => (i.zero, i.size, i.bytes)) = some (some (.int .u8 0), 1, 1) := by kernel_rfl

theorem enc_1 {r : Int} (h0 : 0 ≤ r) (h1 : r < 128) : enc r = [by8 (r)] := by unfold enc; rw [if_pos (by omega)]
theorem cells_1 {r : Int} (h0 : 0 ≤ r) (h1 : r < 128) : bytesV (enc r) = [.int .u8 (r)] := by
  rw [enc_1 h0 h1]
  simp only [bytesV, List.map_cons, List.map_nil]
  rw [by8_toNat (x := r) (by omega) (by omega)]
set_option maxRecDepth 100000 in
set_option maxHeartbeats 1000000 in
theorem rwrite_1 (r : Int) (w : World) (h0 : 0 ≤ r) (h1 : r < 128) :
    Calls Tryd.prog 28 #[.int .i64 r] w fun e w' => e = .returned (.string ⟨(enc r).toArray⟩) ∧ Below w.heap.size w w' := by
  have HC := Lib.hid (cells_1 h0 h1)
  have HL := Lib.hid (congrArg List.length (enc_1 h0 h1))
  go_enter Tryd.func28, Tryd.ntmps28
  go_wp2_with (with_reducible refine wpList_string _ rfl 49 9 _ rfl 5 Tryd.underlying49 Tryd.underlying9 Tryd.underlying5 w.heap.size 1 1 (enc r) rfl ?hl ?hc ?_)
  case hl => rw [HL.out]; rfl
  case hc =>
    intro j hj
    have hj' : (bytesV (enc r))[j]? = some (.int .u8 ((enc r)[j].toNat : Int)) := by simp [bytesV, List.getElem?_eq_getElem hj]
    rw [HC.out] at hj'
    rw [World.cell?_alloc_at _ _ _ _ rfl]
    simpa using hj'
  go_ret
  exact ⟨rfl, (Below.refl _ _).alloc (Nat.le_refl _) _⟩

theorem enc_2 {r : Int} (h0 : 128 ≤ r) (h1 : r < 2048) : enc r = [by8 (192 + r / 64), by8 (128 + r % 64)] := by unfold enc; rw [if_neg (by omega)]; rw [if_pos (by omega)]
theorem cells_2 {r : Int} (h0 : 128 ≤ r) (h1 : r < 2048) : bytesV (enc r) = [.int .u8 (192 + r / 64), .int .u8 (128 + r % 64)] := by
  rw [enc_2 h0 h1]
  simp only [bytesV, List.map_cons, List.map_nil]
  rw [by8_toNat (x := 192 + r / 64) (by omega) (by omega), by8_toNat (x := 128 + r % 64) (by omega) (by omega)]
set_option maxRecDepth 100000 in
set_option maxHeartbeats 1000000 in
theorem rwrite_2 (r : Int) (w : World) (h0 : 128 ≤ r) (h1 : r < 2048) :
    Calls Tryd.prog 28 #[.int .i64 r] w fun e w' => e = .returned (.string ⟨(enc r).toArray⟩) ∧ Below w.heap.size w w' := by
  have HC := Lib.hid (cells_2 h0 h1)
  have HL := Lib.hid (congrArg List.length (enc_2 h0 h1))
  go_enter Tryd.func28, Tryd.ntmps28
  go_wp2_with (with_reducible refine wpList_string _ rfl 49 9 _ rfl 5 Tryd.underlying49 Tryd.underlying9 Tryd.underlying5 w.heap.size 2 2 (enc r) rfl ?hl ?hc ?_)
  case hl => rw [HL.out]; rfl
  case hc =>
    intro j hj
    have hj' : (bytesV (enc r))[j]? = some (.int .u8 ((enc r)[j].toNat : Int)) := by simp [bytesV, List.getElem?_eq_getElem hj]
    rw [HC.out] at hj'
    rw [World.cell?_alloc_at _ _ _ _ rfl]
    simpa using hj'
  go_ret
  exact ⟨rfl, (Below.refl _ _).alloc (Nat.le_refl _) _⟩

theorem enc_3 {r : Int} (h0 : 2048 ≤ r) (h1 : r < 65536) : enc r = [by8 (224 + r / 4096), by8 (128 + r / 64 % 64), by8 (128 + r % 64)] := by unfold enc; rw [if_neg (by omega)]; rw [if_neg (by omega)]; rw [if_pos (by omega)]
theorem cells_3 {r : Int} (h0 : 2048 ≤ r) (h1 : r < 65536) : bytesV (enc r) = [.int .u8 (224 + r / 4096), .int .u8 (128 + r / 64 % 64), .int .u8 (128 + r % 64)] := by
  rw [enc_3 h0 h1]
  simp only [bytesV, List.map_cons, List.map_nil]
  rw [by8_toNat (x := 224 + r / 4096) (by omega) (by omega), by8_toNat (x := 128 + r / 64 % 64) (by omega) (by omega), by8_toNat (x := 128 + r % 64) (by omega) (by omega)]
set_option maxRecDepth 100000 in
set_option maxHeartbeats 1000000 in
theorem rwrite_3 (r : Int) (w : World) (h0 : 2048 ≤ r) (h1 : r < 65536) :
    Calls Tryd.prog 28 #[.int .i64 r] w fun e w' => e = .returned (.string ⟨(enc r).toArray⟩) ∧ Below w.heap.size w w' := by
  have HC := Lib.hid (cells_3 h0 h1)
  have HL := Lib.hid (congrArg List.length (enc_3 h0 h1))
  go_enter Tryd.func28, Tryd.ntmps28
  go_wp2_with (with_reducible refine wpList_string _ rfl 49 9 _ rfl 5 Tryd.underlying49 Tryd.underlying9 Tryd.underlying5 w.heap.size 3 3 (enc r) rfl ?hl ?hc ?_)
  case hl => rw [HL.out]; rfl
  case hc =>
    intro j hj
    have hj' : (bytesV (enc r))[j]? = some (.int .u8 ((enc r)[j].toNat : Int)) := by simp [bytesV, List.getElem?_eq_getElem hj]
    rw [HC.out] at hj'
    rw [World.cell?_alloc_at _ _ _ _ rfl]
    simpa using hj'
  go_ret
  exact ⟨rfl, (Below.refl _ _).alloc (Nat.le_refl _) _⟩

theorem enc_4 {r : Int} (h0 : 65536 ≤ r) (h1 : r ≤ 1114111) : enc r = [by8 (240 + r / 262144), by8 (128 + r / 4096 % 64), by8 (128 + r / 64 % 64), by8 (128 + r % 64)] := by unfold enc; rw [if_neg (by omega)]; rw [if_neg (by omega)]; rw [if_neg (by omega)]
theorem cells_4 {r : Int} (h0 : 65536 ≤ r) (h1 : r ≤ 1114111) : bytesV (enc r) = [.int .u8 (240 + r / 262144), .int .u8 (128 + r / 4096 % 64), .int .u8 (128 + r / 64 % 64), .int .u8 (128 + r % 64)] := by
  rw [enc_4 h0 h1]
  simp only [bytesV, List.map_cons, List.map_nil]
  rw [by8_toNat (x := 240 + r / 262144) (by omega) (by omega), by8_toNat (x := 128 + r / 4096 % 64) (by omega) (by omega), by8_toNat (x := 128 + r / 64 % 64) (by omega) (by omega), by8_toNat (x := 128 + r % 64) (by omega) (by omega)]
set_option maxRecDepth 100000 in
set_option maxHeartbeats 1000000 in
theorem rwrite_4 (r : Int) (w : World) (h0 : 65536 ≤ r) (h1 : r ≤ 1114111) :
    Calls Tryd.prog 28 #[.int .i64 r] w fun e w' => e = .returned (.string ⟨(enc r).toArray⟩) ∧ Below w.heap.size w w' := by
  have HC := Lib.hid (cells_4 h0 h1)
  have HL := Lib.hid (congrArg List.length (enc_4 h0 h1))
  go_enter Tryd.func28, Tryd.ntmps28
  go_wp2_with (with_reducible refine wpList_string _ rfl 49 9 _ rfl 5 Tryd.underlying49 Tryd.underlying9 Tryd.underlying5 w.heap.size 4 4 (enc r) rfl ?hl ?hc ?_)
  case hl => rw [HL.out]; rfl
  case hc =>
    intro j hj
    have hj' : (bytesV (enc r))[j]? = some (.int .u8 ((enc r)[j].toNat : Int)) := by simp [bytesV, List.getElem?_eq_getElem hj]
    rw [HC.out] at hj'
    rw [World.cell?_alloc_at _ _ _ _ rfl]
    simpa using hj'
  go_ret
  exact ⟨rfl, (Below.refl _ _).alloc (Nat.le_refl _) _⟩

theorem rwrite_any (r : Int) (w : World) (h : scalar r = true) :
    Calls Tryd.prog 28 #[.int .i64 r] w fun e w' => e = .returned (.string ⟨(enc r).toArray⟩) ∧ Below w.heap.size w w' := by
  have hs := scalar_iff.1 h
  by_cases h1 : r < 128
  · exact rwrite_1 r w (by omega) h1
  by_cases h2 : r < 2048
  · exact rwrite_2 r w (by omega) h2
  by_cases h3 : r < 65536
  · exact rwrite_3 r w (by omega) h3
  · exact rwrite_4 r w (by omega) (by omega)
end Go.Proofs.YtkgmikglifmenaaDoor.L
