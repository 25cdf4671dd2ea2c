/-
  The walks of letters.write.
-/
import Derived.Test.YtkgmikglifmenaaDoorLetRWrite
namespace Go.Proofs.YtkgmikglifmenaaDoor.L
open Go.RowKit
open LM Aid
set_option linter.unusedSimpArgs false
set_option linter.unusedVariables false

set_option maxRecDepth 100000 in
set_option maxHeartbeats 1000000 in
theorem write_1 (b : Value) (m base : Nat) (xs : List Value) (r : Int) (w : World) (h0 : 0 ≤ r) (h1 : r < 128) (T : Tab w) (hown : w.ownsRow base 5 1 b m xs) (hm : m + 1 ≤ 140737488355328) (hb : base ≤ w.heap.size) :
    Calls Tryd.prog 25 #[b, .int .i32 r] w fun e w' => ∃ v, e = .returned v ∧ w'.ownsRow base 5 1 v (m + (enc r).length) (xs ++ bytesV (enc r)) ∧ Below base w w' := by
  obtain ⟨i0, hi, hz0, hz1, hz2⟩ := info_parts info_u8
  obtain ⟨u1, u2, u3, u4, u5⟩ := T
  have HC := Lib.hid (cells_1 h0 h1)
  have HL : Hid ((enc r).length = 1) := (congrArg List.length (enc_1 h0 h1))

  go_enter Tryd.func25, Tryd.ntmps25
  go_wp2_with (at_builtin; refine wpList_append_own _ rfl _ _ 49 rfl base 5 i0 (.int .u8 0) 1 1 Tryd.underlying49 hi hz0 hz1 hz2 rfl (by decide) _ _ _ rfl (hown.alloc _) ⟨w.heap.size, 0, none⟩ 1 1 (bytesV (enc r)) rfl (by rw [bytesV_length, HL.out]) ?c1 (bytesV_one _) (by unfold maxLen; omega) (by omega) (by simp; omega) ?_; rotate_right; intro v' w2 hown' hgrow hnil')
  case c1 =>
    intro j u hj
    rw [HC.out] at hj
    rw [add_plain]
    rw [World.cell?_alloc_at _ _ _ _ rfl]
    simpa using hj
  go_ret
  exact ⟨v', rfl, by rw [HL.out]; exact hown', ((Below.refl _ _).alloc hb _).trans (below_of_grown (row := b.ownBlock) hgrow (by simp; omega) (owns_base hown))⟩

set_option maxRecDepth 100000 in
set_option maxHeartbeats 1000000 in
theorem write_2 (b : Value) (m base : Nat) (xs : List Value) (r : Int) (w : World) (h0 : 128 ≤ r) (h1 : r < 2048) (T : Tab w) (hown : w.ownsRow base 5 1 b m xs) (hm : m + 2 ≤ 140737488355328) (hb : base ≤ w.heap.size) :
    Calls Tryd.prog 25 #[b, .int .i32 r] w fun e w' => ∃ v, e = .returned v ∧ w'.ownsRow base 5 1 v (m + (enc r).length) (xs ++ bytesV (enc r)) ∧ Below base w w' := by
  obtain ⟨i0, hi, hz0, hz1, hz2⟩ := info_parts info_u8
  obtain ⟨u1, u2, u3, u4, u5⟩ := T
  have HC := Lib.hid (cells_2 h0 h1)
  have HL : Hid ((enc r).length = 2) := (congrArg List.length (enc_2 h0 h1))
  have a1 : bits .or .i32 192 (r / 64) = 192 + r / 64 := i32_or 6 (by decide) (by decide) (by decide) (by omega) (by omega) (by decide)
  have z1 : bits .and .i32 r 63 = r % 64 := m_and 6 (by decide) rfl rfl (by omega) (by omega)
  have z2 : bits .or .i32 128 (r % 64) = 128 + r % 64 := i32_or 6 (by decide) (by decide) (by decide) (by omega) (by omega) (by decide)
  go_enter Tryd.func25, Tryd.ntmps25
  go_wp2_with (at_builtin; refine wpList_append_own _ rfl _ _ 49 rfl base 5 i0 (.int .u8 0) 1 1 Tryd.underlying49 hi hz0 hz1 hz2 rfl (by decide) _ _ _ rfl (hown.alloc _) ⟨w.heap.size, 0, none⟩ 2 2 (bytesV (enc r)) rfl (by rw [bytesV_length, HL.out]) ?c1 (bytesV_one _) (by unfold maxLen; omega) (by omega) (by simp; omega) ?_; rotate_right; intro v' w2 hown' hgrow hnil')
  case c1 =>
    intro j u hj
    rw [HC.out] at hj
    rw [add_plain]
    rw [World.cell?_alloc_at _ _ _ _ rfl]
    simpa using hj
  go_ret
  exact ⟨v', rfl, by rw [HL.out]; exact hown', ((Below.refl _ _).alloc hb _).trans (below_of_grown (row := b.ownBlock) hgrow (by simp; omega) (owns_base hown))⟩

set_option maxRecDepth 100000 in
set_option maxHeartbeats 1000000 in
theorem write_3 (b : Value) (m base : Nat) (xs : List Value) (r : Int) (w : World) (h0 : 2048 ≤ r) (h1 : r < 65536) (T : Tab w) (hown : w.ownsRow base 5 1 b m xs) (hm : m + 3 ≤ 140737488355328) (hb : base ≤ w.heap.size) :
    Calls Tryd.prog 25 #[b, .int .i32 r] w fun e w' => ∃ v, e = .returned v ∧ w'.ownsRow base 5 1 v (m + (enc r).length) (xs ++ bytesV (enc r)) ∧ Below base w w' := by
  obtain ⟨i0, hi, hz0, hz1, hz2⟩ := info_parts info_u8
  obtain ⟨u1, u2, u3, u4, u5⟩ := T
  have HC := Lib.hid (cells_3 h0 h1)
  have HL : Hid ((enc r).length = 3) := (congrArg List.length (enc_3 h0 h1))
  have a1 : bits .or .i32 224 (r / 4096) = 224 + r / 4096 := i32_or 5 (by decide) (by decide) (by decide) (by omega) (by omega) (by decide)
  have a2 : bits .and .i32 (r / 64) 63 = r / 64 % 64 := m_and 6 (by decide) rfl rfl (by omega) (by omega)
  have a3 : bits .or .i32 128 (r / 64 % 64) = 128 + r / 64 % 64 := i32_or 6 (by decide) (by decide) (by decide) (by omega) (by omega) (by decide)
  have z1 : bits .and .i32 r 63 = r % 64 := m_and 6 (by decide) rfl rfl (by omega) (by omega)
  have z2 : bits .or .i32 128 (r % 64) = 128 + r % 64 := i32_or 6 (by decide) (by decide) (by decide) (by omega) (by omega) (by decide)
  go_enter Tryd.func25, Tryd.ntmps25
  go_wp2_with (at_builtin; refine wpList_append_own _ rfl _ _ 49 rfl base 5 i0 (.int .u8 0) 1 1 Tryd.underlying49 hi hz0 hz1 hz2 rfl (by decide) _ _ _ rfl (hown.alloc _) ⟨w.heap.size, 0, none⟩ 3 3 (bytesV (enc r)) rfl (by rw [bytesV_length, HL.out]) ?c1 (bytesV_one _) (by unfold maxLen; omega) (by omega) (by simp; omega) ?_; rotate_right; intro v' w2 hown' hgrow hnil')
  case c1 =>
    intro j u hj
    rw [HC.out] at hj
    rw [add_plain]
    rw [World.cell?_alloc_at _ _ _ _ rfl]
    simpa using hj
  go_ret
  exact ⟨v', rfl, by rw [HL.out]; exact hown', ((Below.refl _ _).alloc hb _).trans (below_of_grown (row := b.ownBlock) hgrow (by simp; omega) (owns_base hown))⟩

set_option maxRecDepth 100000 in
set_option maxHeartbeats 1000000 in
theorem write_4 (b : Value) (m base : Nat) (xs : List Value) (r : Int) (w : World) (h0 : 65536 ≤ r) (h1 : r ≤ 1114111) (T : Tab w) (hown : w.ownsRow base 5 1 b m xs) (hm : m + 4 ≤ 140737488355328) (hb : base ≤ w.heap.size) :
    Calls Tryd.prog 25 #[b, .int .i32 r] w fun e w' => ∃ v, e = .returned v ∧ w'.ownsRow base 5 1 v (m + (enc r).length) (xs ++ bytesV (enc r)) ∧ Below base w w' := by
  obtain ⟨i0, hi, hz0, hz1, hz2⟩ := info_parts info_u8
  obtain ⟨u1, u2, u3, u4, u5⟩ := T
  have HC := Lib.hid (cells_4 h0 h1)
  have HL : Hid ((enc r).length = 4) := (congrArg List.length (enc_4 h0 h1))
  have a1 : bits .or .i32 240 (r / 262144) = 240 + r / 262144 := i32_or 4 (by decide) (by decide) (by decide) (by omega) (by omega) (by decide)
  have a2 : bits .and .i32 (r / 4096) 63 = r / 4096 % 64 := m_and 6 (by decide) rfl rfl (by omega) (by omega)
  have a3 : bits .or .i32 128 (r / 4096 % 64) = 128 + r / 4096 % 64 := i32_or 6 (by decide) (by decide) (by decide) (by omega) (by omega) (by decide)
  have a4 : bits .and .i32 (r / 64) 63 = r / 64 % 64 := m_and 6 (by decide) rfl rfl (by omega) (by omega)
  have a5 : bits .or .i32 128 (r / 64 % 64) = 128 + r / 64 % 64 := i32_or 6 (by decide) (by decide) (by decide) (by omega) (by omega) (by decide)
  have z1 : bits .and .i32 r 63 = r % 64 := m_and 6 (by decide) rfl rfl (by omega) (by omega)
  have z2 : bits .or .i32 128 (r % 64) = 128 + r % 64 := i32_or 6 (by decide) (by decide) (by decide) (by omega) (by omega) (by decide)
  go_enter Tryd.func25, Tryd.ntmps25
  go_wp2_with (at_builtin; refine wpList_append_own _ rfl _ _ 49 rfl base 5 i0 (.int .u8 0) 1 1 Tryd.underlying49 hi hz0 hz1 hz2 rfl (by decide) _ _ _ rfl (hown.alloc _) ⟨w.heap.size, 0, none⟩ 4 4 (bytesV (enc r)) rfl (by rw [bytesV_length, HL.out]) ?c1 (bytesV_one _) (by unfold maxLen; omega) (by omega) (by simp; omega) ?_; rotate_right; intro v' w2 hown' hgrow hnil')
  case c1 =>
    intro j u hj
    rw [HC.out] at hj
    rw [add_plain]
    rw [World.cell?_alloc_at _ _ _ _ rfl]
    simpa using hj
  go_ret
  exact ⟨v', rfl, by rw [HL.out]; exact hown', ((Below.refl _ _).alloc hb _).trans (below_of_grown (row := b.ownBlock) hgrow (by simp; omega) (owns_base hown))⟩

theorem write_any (b : Value) (m base : Nat) (xs : List Value) (r : Int) (w : World) (h : scalar r = true) (T : Tab w) (hown : w.ownsRow base 5 1 b m xs) (hm : m + (enc r).length ≤ 140737488355328) (hb : base ≤ w.heap.size) :
    Calls Tryd.prog 25 #[b, .int .i32 r] w fun e w' => ∃ v, e = .returned v ∧ w'.ownsRow base 5 1 v (m + (enc r).length) (xs ++ bytesV (enc r)) ∧ Below base w w' := by
  have hs := scalar_iff.1 h
  by_cases h1 : r < 128
  · rw [enc_1 (by omega) h1] at hm; exact write_1 b m base xs r w (by omega) h1 T hown hm hb
  by_cases h2 : r < 2048
  · rw [enc_2 (by omega) h2] at hm; exact write_2 b m base xs r w (by omega) h2 T hown hm hb
  by_cases h3 : r < 65536
  · rw [enc_3 (by omega) h3] at hm; exact write_3 b m base xs r w (by omega) h3 T hown hm hb
  · rw [enc_4 (by omega) (by omega)] at hm; exact write_4 b m base xs r w (by omega) (by omega) T hown hm hb
end Go.Proofs.YtkgmikglifmenaaDoor.L