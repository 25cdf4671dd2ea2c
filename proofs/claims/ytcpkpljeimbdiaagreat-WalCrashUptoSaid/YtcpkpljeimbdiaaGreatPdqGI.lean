/-
  The walks of Go's sort of numbers of type int: the pivot.
-/
import Derived.Test.YtcpkpljeimbdiaaGreatPdqAI
namespace Go.Proofs.YtcpkpljeimbdiaaGreat.QI
open Go.RowKit
open Aid
open Go.Sort (swp ltInt)
set_option linter.unusedSimpArgs false
set_option linter.unusedVariables false

/-- the count of swaps -/
def Cnt (w : World) (s : Nat) : Prop := ∃ n : Int, Blk w s 3 #[.int .i64 n]
theorem Cnt.lt {w : World} {s : Nat} (h : Cnt w s) : s < w.heap.size := by obtain ⟨n, h⟩ := h; exact Blk.lt h
theorem Row.only {w w' : World} {g s : Nat} {d : Array Int} (h : Row w g d) (ho : Only s w w') (hne : g ≠ s) : Row w' g d := by
  obtain ⟨rest, h⟩ := h
  refine ⟨rest, ?_⟩
  have hl := Blk.lt h
  unfold Blk at h ⊢
  rw [ho.block g hl hne]; exact h
set_option maxRecDepth 100000 in
set_option maxHeartbeats 2000000 in
theorem order_any (g cap N s a b : Nat) (d : Array Int) (w : World) (h : Row w g d) (hN : d.size = N) (hs : Cnt w s) (hne : g ≠ s) (ha : a < N) (hb : b < N) (hsz : N ≤ 140737488355328) :
    Calls Tryz.prog 102 #[.slice (some ⟨g, 0, none⟩) N cap, .int .i64 a, .int .i64 b, .pointer (some ⟨s, 0, none⟩)] w fun e w' => ∃ x y : Nat, e = .returned (.tuple #[.int .i64 x, .int .i64 y]) ∧ ((x = a ∧ y = b) ∨ (x = b ∧ y = a)) ∧ Cnt w' s ∧ Only s w w' := by
  obtain ⟨n, hB⟩ := hs
  obtain ⟨z, hz⟩ : ∃ z, d[a]! = z := ⟨_, rfl⟩
  obtain ⟨x, hx⟩ : ∃ x, d[b]! = x := ⟨_, rfl⟩
  have cz := h.cell (j := a) (by omega) hz
  have cx := h.cell (j := b) (by omega) hx
  have a1 : (a : Int) < (N : Int) := by omega
  have b1 : (b : Int) < (N : Int) := by omega
  have cn : w.cell? ⟨s, 0, none⟩ = some (.int .i64 n) := by rw [Blk.cell hB]; rfl
  have fn := Blk.free hB 0
  go_enter Tryz.func102, Tryz.ntmps102
  cases hl2 : ltInt x z
  · go_wp2_with fail
    go_still_tail 8, (by kernel_rfl); go_wp2_with (first | (go_at_call 78; refine (less_any _ _ _).mono ?_; rintro e w1 ⟨rfl, rfl⟩; rw [hl2]))
    go_ret2
    exact ⟨a, b, rfl, .inl ⟨rfl, rfl⟩, ⟨n, hB⟩, Only.drew _ _⟩
  · go_wp2_with fail
    go_still_tail 8, (by kernel_rfl); go_wp2_with (first | (go_at_call 78; refine (less_any _ _ _).mono ?_; rintro e w1 ⟨rfl, rfl⟩; rw [hl2]))
    go_ret2
    refine ⟨b, a, rfl, .inr ⟨rfl, rfl⟩, ⟨_, Blk.set (w := w.drew) hB 0 _⟩, (Only.drew _ _).trans (Only.set _ 0 _)⟩
set_option maxRecDepth 100000 in
set_option maxHeartbeats 2000000 in
theorem median_any (g cap N s a b c : Nat) (d : Array Int) (w : World) (h : Row w g d) (hN : d.size = N) (hs : Cnt w s) (hne : g ≠ s) (ha : a < N) (hb : b < N) (hc : c < N) (hsz : N ≤ 140737488355328) :
    Calls Tryz.prog 96 #[.slice (some ⟨g, 0, none⟩) N cap, .int .i64 a, .int .i64 b, .int .i64 c, .pointer (some ⟨s, 0, none⟩)] w fun e w' => ∃ x : Nat, e = .returned (.int .i64 x) ∧ (x = a ∨ x = b ∨ x = c) ∧ Cnt w' s ∧ Only s w w' := by
  go_enter Tryz.func96, Tryz.ntmps96
  go_wp2_with fail
  refine (order_any g cap N s a b d w h hN hs hne ha hb hsz).mono ?_
  rintro e w1 ⟨x1, y1, rfl, h1, hs1, o1⟩
  go_wp2_with fail
  refine (order_any g cap N s y1 c d w1 (h.only o1 hne) hN hs1 hne (by omega) hc hsz).mono ?_
  rintro e w2 ⟨x2, y2, rfl, h2, hs2, o2⟩
  go_wp2_with fail
  refine (order_any g cap N s x1 x2 d w2 ((h.only o1 hne).only o2 hne) hN hs2 hne (by omega) (by omega) hsz).mono ?_
  rintro e w3 ⟨x3, y3, rfl, h3, hs3, o3⟩
  go_wp2_with fail
  go_ret
  exact ⟨y3, rfl, by omega, hs3, (o1.trans o2).trans o3⟩
set_option maxRecDepth 100000 in
set_option maxHeartbeats 2000000 in
theorem adjacent_any (g cap N s a : Nat) (d : Array Int) (w : World) (h : Row w g d) (hN : d.size = N) (hs : Cnt w s) (hne : g ≠ s) (ha : 1 ≤ a) (hb : a + 1 < N) (hsz : N ≤ 140737488355328) :
    Calls Tryz.prog 95 #[.slice (some ⟨g, 0, none⟩) N cap, .int .i64 a, .pointer (some ⟨s, 0, none⟩)] w fun e w' => ∃ x : Nat, e = .returned (.int .i64 x) ∧ (x = a - 1 ∨ x = a ∨ x = a + 1) ∧ Cnt w' s ∧ Only s w w' := by
  obtain ⟨p, hp⟩ : ∃ p, a - 1 = p := ⟨_, rfl⟩
  obtain ⟨q, hq⟩ : ∃ q, a + 1 = q := ⟨_, rfl⟩
  have Wp : IntKind.i64.wrap ((a : Int) - 1) = (p : Int) := by rw [IntWalk.i64_in _ (by omega)]; omega
  have Wq : IntKind.i64.wrap ((a : Int) + 1) = (q : Int) := by rw [IntWalk.i64_in _ (by omega)]; omega
  have Ep : (a : Int) - 1 = (p : Int) := by omega
  have Eq' : (a : Int) + 1 = (q : Int) := by omega
  go_enter Tryz.func95, Tryz.ntmps95
  go_wp2_with fail
  refine (median_any g cap N s p a q d w h hN hs hne (by omega) (by omega) (by omega) hsz).mono ?_
  rintro e w1 ⟨x1, rfl, h1, hs1, o1⟩
  go_wp2_with fail
  go_ret
  exact ⟨x1, rfl, by omega, hs1, o1⟩
set_option maxRecDepth 100000 in
set_option maxHeartbeats 4000000 in
theorem pivot_any (g cap N a b : Nat) (d : Array Int) (w : World) (h : Row w g d) (hN : d.size = N) (hab : a + 8 ≤ b) (hb : b ≤ N) (hsz : N ≤ 140737488355328) :
    Calls Tryz.prog 75 #[.slice (some ⟨g, 0, none⟩) N cap, .int .i64 a, .int .i64 b] w fun e w' => ∃ (x : Nat) (hint : Int), e = .returned (.tuple #[.int .i64 x, .int .i64 hint]) ∧ a ≤ x ∧ x < b ∧ (hint = 0 ∨ hint = 1 ∨ hint = 2) ∧ Row w' g d ∧ Only g w w' := by
  obtain ⟨l, hl⟩ : ∃ l, b - a = l := ⟨_, rfl⟩
  obtain ⟨m, hm⟩ : ∃ m, l / 4 = m := ⟨_, rfl⟩
  obtain ⟨i, hi⟩ : ∃ i, a + m = i := ⟨_, rfl⟩
  obtain ⟨j, hj⟩ : ∃ j, a + m * 2 = j := ⟨_, rfl⟩
  obtain ⟨k, hk⟩ : ∃ k, a + m * 3 = k := ⟨_, rfl⟩
  have Wl : IntKind.i64.wrap ((b : Int) - (a : Int)) = (l : Int) := by rw [IntWalk.i64_in _ (by omega)]; omega
  have El : (b : Int) - (a : Int) = (l : Int) := by omega
  have Em : (l : Int) / 4 = (m : Int) := by omega
  have Ei : (a : Int) + (m : Int) = (i : Int) := by omega
  have Ej : (a : Int) + (m : Int) * 2 = (j : Int) := by omega
  have Ek : (a : Int) + (m : Int) * 3 = (k : Int) := by omega
  obtain ⟨s, hs⟩ : ∃ s, w.heap.size = s := ⟨_, rfl⟩
  have hgs : g ≠ s := by have := h.lt; omega
  have hB0 : Blk (w.alloc (.cells #[.int .i64 0] 3)) s 3 #[.int .i64 0] := by rw [← hs]; exact Blk.alloc_new _ _ _
  have hb0 : Below w.heap.size w (w.alloc (.cells #[.int .i64 0] 3)) := (Below.refl _ _).alloc (Nat.le_refl _) _
  have hR0 := h.below hb0
  have hl8 : (8 : Int) ≤ (l : Int) := by omega
  have hwhole : ∀ w', Only s (w.alloc (.cells #[.int .i64 0] 3)) w' → Row w' g d ∧ Only g w w' := fun w' ho => by
    refine ⟨hR0.only ho hgs, ho.os.trans hb0.os, ho.tape.trans hb0.tape, ho.output.trans hb0.output, Nat.le_trans hb0.size ho.size, fun x hx hn => ?_⟩
    have := hb0.size
    rw [ho.block x (by omega) (by omega), hb0.block x hx]
  have HW := Lib.hid hwhole
  clear hwhole
  go_enter Tryz.func75, Tryz.ntmps75
  by_cases h50 : (50 : Int) ≤ (l : Int)
  · go_wp2_with fail
    refine (adjacent_any g cap N s i d _ hR0 hN ⟨0, hB0⟩ hgs (by omega) (by omega) hsz).mono ?_
    rintro e w1 ⟨x1, rfl, q1, hs1, o1⟩
    go_wp2_with fail
    refine (adjacent_any g cap N s j d w1 (hR0.only o1 hgs) hN hs1 hgs (by omega) (by omega) hsz).mono ?_
    rintro e w2 ⟨x2, rfl, q2, hs2, o2⟩
    go_wp2_with fail
    refine (adjacent_any g cap N s k d w2 ((hR0.only o1 hgs).only o2 hgs) hN hs2 hgs (by omega) (by omega) hsz).mono ?_
    rintro e w3 ⟨x3, rfl, q3, hs3, o3⟩
    go_wp2_with fail
    refine (median_any g cap N s x1 x2 x3 d w3 (((hR0.only o1 hgs).only o2 hgs).only o3 hgs) hN hs3 hgs (by omega) (by omega) (by omega) hsz).mono ?_
    rintro e w4 ⟨x4, rfl, q4, ⟨n, hB4⟩, o4⟩
    obtain ⟨hrr, hoo⟩ := HW.out w4 (((o1.trans o2).trans o3).trans o4)
    have cn : w4.cell? ⟨s, 0, none⟩ = some (.int .i64 n) := by rw [Blk.cell hB4]; rfl
    by_cases n0 : n = 0
    · have e0 : (n == 0) = true := by rw [beq_iff_eq]; exact n0
      go_wp2_with fail
      go_ret2
      exact ⟨x4, 1, rfl, by omega, by omega, by omega, hrr, hoo⟩
    have e0 : (n == 0) = false := by rw [beq_eq_false_iff_ne]; exact n0
    by_cases n12 : n = 12
    · have e1 : (n == 12) = true := by rw [beq_iff_eq]; exact n12
      go_wp2_with fail
      go_ret2
      exact ⟨x4, 2, rfl, by omega, by omega, by omega, hrr, hoo⟩
    have e1 : (n == 12) = false := by rw [beq_eq_false_iff_ne]; exact n12
    go_wp2_with fail
    go_ret2
    exact ⟨x4, 0, rfl, by omega, by omega, by omega, hrr, hoo⟩
  · go_wp2_with fail
    refine (median_any g cap N s i j k d _ hR0 hN ⟨0, hB0⟩ hgs (by omega) (by omega) (by omega) hsz).mono ?_
    rintro e w4 ⟨x4, rfl, q4, ⟨n, hB4⟩, o4⟩
    obtain ⟨hrr, hoo⟩ := HW.out w4 o4
    have cn : w4.cell? ⟨s, 0, none⟩ = some (.int .i64 n) := by rw [Blk.cell hB4]; rfl
    by_cases n0 : n = 0
    · have e0 : (n == 0) = true := by rw [beq_iff_eq]; exact n0
      go_wp2_with fail
      go_ret2
      exact ⟨x4, 1, rfl, by omega, by omega, by omega, hrr, hoo⟩
    have e0 : (n == 0) = false := by rw [beq_eq_false_iff_ne]; exact n0
    by_cases n12 : n = 12
    · have e1 : (n == 12) = true := by rw [beq_iff_eq]; exact n12
      go_wp2_with fail
      go_ret2
      exact ⟨x4, 2, rfl, by omega, by omega, by omega, hrr, hoo⟩
    have e1 : (n == 12) = false := by rw [beq_eq_false_iff_ne]; exact n12
    go_wp2_with fail
    go_ret2
    exact ⟨x4, 0, rfl, by omega, by omega, by omega, hrr, hoo⟩
end Go.Proofs.YtcpkpljeimbdiaaGreat.QI
