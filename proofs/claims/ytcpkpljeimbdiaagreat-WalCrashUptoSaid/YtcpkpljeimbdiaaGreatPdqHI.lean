/-
  The walks of Go's sort of numbers of type int: the breaking of patterns.
-/
import Derived.Test.YtcpkpljeimbdiaaGreatPdqAI
namespace Go.Proofs.YtcpkpljeimbdiaaGreat.QI
open Go.RowKit
open Aid
open Go.Sort (swp ltInt)
set_option linter.unusedSimpArgs false
set_option linter.unusedVariables false

def tabB : ByteArray := ⟨#[0, 1, 2, 2, 3, 3, 3, 3, 4, 4, 4, 4, 4, 4, 4, 4, 5, 5, 5, 5, 5, 5, 5, 5, 5, 5, 5, 5, 5, 5, 5, 5, 6, 6, 6, 6, 6, 6, 6, 6, 6, 6, 6, 6, 6, 6, 6, 6, 6, 6, 6, 6, 6, 6, 6, 6, 6, 6, 6, 6, 6, 6, 6, 6, 7, 7, 7, 7, 7, 7, 7, 7, 7, 7, 7, 7, 7, 7, 7, 7, 7, 7, 7, 7, 7, 7, 7, 7, 7, 7, 7, 7, 7, 7, 7, 7, 7, 7, 7, 7, 7, 7, 7, 7, 7, 7, 7, 7, 7, 7, 7, 7, 7, 7, 7, 7, 7, 7, 7, 7, 7, 7, 7, 7, 7, 7, 7, 7, 8, 8, 8, 8, 8, 8, 8, 8, 8, 8, 8, 8, 8, 8, 8, 8, 8, 8, 8, 8, 8, 8, 8, 8, 8, 8, 8, 8, 8, 8, 8, 8, 8, 8, 8, 8, 8, 8, 8, 8, 8, 8, 8, 8, 8, 8, 8, 8, 8, 8, 8, 8, 8, 8, 8, 8, 8, 8, 8, 8, 8, 8, 8, 8, 8, 8, 8, 8, 8, 8, 8, 8, 8, 8, 8, 8, 8, 8, 8, 8, 8, 8, 8, 8, 8, 8, 8, 8, 8, 8, 8, 8, 8, 8, 8, 8, 8, 8, 8, 8, 8, 8, 8, 8, 8, 8, 8, 8, 8, 8, 8, 8, 8, 8, 8, 8, 8, 8, 8, 8, 8, 8, 8, 8, 8, 8, 8, 8]⟩
theorem tab_size : tabB.size = 256 := by decide +kernel
theorem tab_all : ∀ z : Fin 256, ((tabB.data[z.val]!).toNat ≤ 8 ∧ z.val < 2 ^ (tabB.data[z.val]!).toNat ∧ (1 ≤ z.val → 2 ^ (tabB.data[z.val]!).toNat ≤ 2 * z.val)) := by decide +kernel
theorem tab_ok (z : Nat) (h : z < tabB.size) : (tabB[z]'h).toNat ≤ 8 ∧ z < 2 ^ (tabB[z]'h).toNat ∧ (1 ≤ z → 2 ^ (tabB[z]'h).toNat ≤ 2 * z) := by
  have h1 := tab_all ⟨z, by rw [tab_size] at h; exact h⟩
  have e : tabB.data[z]! = tabB[z]'h := getElem!_pos tabB.data z h
  rw [e] at h1
  exact h1
theorem len_ret {c t : Nat} (ht : t ≤ 8) (hc : c ≤ 56 := by decide) : Ending.returned (.int .i64 (wrap64 ((c : Int) + wrap64 (t : Int)))) = .returned (.int .i64 ((c + t : Nat) : Int)) := by
  rw [IntWalk.wrap64_in (t : Int) (by omega), IntWalk.wrap64_in _ (by omega)]; rfl
theorem len_ret0 {t : Nat} (ht : t ≤ 8) : Ending.returned (.int .i64 (wrap64 (wrap64 (t : Int)))) = .returned (.int .i64 ((0 + t : Nat) : Int)) := by
  rw [IntWalk.wrap64_in _ (by rw [IntWalk.wrap64_in _ (by omega)]; omega), IntWalk.wrap64_in _ (by omega), Nat.zero_add]
theorem len_fact {x c z t : Nat} (hz : x / 2 ^ c = z) (h1 : z < 2 ^ t) (h2 : 1 ≤ z → 2 ^ t ≤ 2 * z) : x < 2 ^ (c + t) ∧ (2 ^ c ≤ x → 2 ^ (c + t) ≤ 2 * x) := by
  have hp := Nat.two_pow_pos c
  have hm := Nat.div_add_mod x (2 ^ c)
  have hlt := Nat.mod_lt x hp
  rw [hz] at hm
  rw [Nat.pow_add]
  constructor
  · calc x < 2 ^ c * z + 2 ^ c := by omega
      _ = 2 ^ c * (z + 1) := by rw [Nat.mul_add, Nat.mul_one]
      _ ≤ 2 ^ c * 2 ^ t := Nat.mul_le_mul_left _ h1
  · intro hx
    have hz1 : 1 ≤ z := by rw [← hz]; exact (Nat.one_le_div_iff hp).2 hx
    calc 2 ^ c * 2 ^ t ≤ 2 ^ c * (2 * z) := Nat.mul_le_mul_left _ (h2 hz1)
      _ = 2 * (2 ^ c * z) := by rw [Nat.mul_left_comm]
      _ ≤ 2 * x := by omega
def LenOk (x k : Nat) : Prop := x < 2 ^ k ∧ (1 ≤ x → 2 ^ k ≤ 2 * x)
theorem lenok {x c z t : Nat} (hc : c = 0 ∨ 2 ^ c ≤ x) (hz : x / 2 ^ c = z) (h1 : z < 2 ^ t) (h2 : 1 ≤ z → 2 ^ t ≤ 2 * z) : LenOk x (c + t) := by
  obtain ⟨e1, e2⟩ := len_fact hz h1 h2
  exact ⟨e1, fun h => e2 (by rcases hc with rfl | hc; exact h; exact hc)⟩
set_option maxRecDepth 100000 in
set_option maxHeartbeats 4000000 in
theorem len64_any (x : Nat) (w : World) (hx : x < 140737488355328) : Calls Tryz.prog 82 #[.int .u64 x] w fun e w' => (∃ k : Nat, e = .returned (.int .i64 k) ∧ LenOk x k) ∧ w' = w := by
  by_cases h32 : (4294967296 : Int) ≤ (x : Int)
  · by_cases h8 : 1099511627776 ≤ x
    · skip
      obtain ⟨y, hy⟩ : ∃ y, x / 4294967296 = y := ⟨_, rfl⟩
      have Ey : (x : Int) / 4294967296 = (y : Int) := by omega
      obtain ⟨z, hz⟩ : ∃ z, y / 256 = z := ⟨_, rfl⟩
      have Ez : (y : Int) / 256 = (z : Int) := by omega
      have n1 : ¬ (65536 : Int) ≤ (y : Int) := by omega
      have n2 : (256 : Int) ≤ (y : Int) := by omega
      have hz8 : (z : Int) < 256 := by omega
      have h4 : IntKind.u8.wrap (z : Int) = (z : Int) := IntWalk.u8_in _ (by omega)
      have hzT : z < tabB.size := by rw [tab_size]; omega
      obtain ⟨t1, t2, t3⟩ := tab_ok z hzT
      go_enter Tryz.func82, Tryz.ntmps82
      go_wp2_with fail
      go_ret
      exact ⟨⟨40 + (tabB[z]'hzT).toNat, len_ret (c := 40) t1, lenok (c := 40) (by omega) (z := z) (by show x / 1099511627776 = z; omega) t2 t3⟩, rfl⟩
    · skip
      obtain ⟨y, hy⟩ : ∃ y, x / 4294967296 = y := ⟨_, rfl⟩
      have Ey : (x : Int) / 4294967296 = (y : Int) := by omega
      have n1 : ¬ (65536 : Int) ≤ (y : Int) := by omega
      have n2 : ¬ (256 : Int) ≤ (y : Int) := by omega
      have hz8 : (y : Int) < 256 := by omega
      have h4 : IntKind.u8.wrap (y : Int) = (y : Int) := IntWalk.u8_in _ (by omega)
      have hzT : y < tabB.size := by rw [tab_size]; omega
      obtain ⟨t1, t2, t3⟩ := tab_ok y hzT
      go_enter Tryz.func82, Tryz.ntmps82
      go_wp2_with fail
      go_ret
      exact ⟨⟨32 + (tabB[y]'hzT).toNat, len_ret (c := 32) t1, lenok (c := 32) (by omega) (z := y) (by show x / 4294967296 = y; omega) t2 t3⟩, rfl⟩
  · by_cases h16 : (65536 : Int) ≤ (x : Int)
    · by_cases h8 : 16777216 ≤ x
      · skip
        obtain ⟨y, hy⟩ : ∃ y, x / 65536 = y := ⟨_, rfl⟩
        have Ey : (x : Int) / 65536 = (y : Int) := by omega
        obtain ⟨z, hz⟩ : ∃ z, y / 256 = z := ⟨_, rfl⟩
        have Ez : (y : Int) / 256 = (z : Int) := by omega
        have n2 : (256 : Int) ≤ (y : Int) := by omega
        have hz8 : (z : Int) < 256 := by omega
        have h4 : IntKind.u8.wrap (z : Int) = (z : Int) := IntWalk.u8_in _ (by omega)
        have hzT : z < tabB.size := by rw [tab_size]; omega
        obtain ⟨t1, t2, t3⟩ := tab_ok z hzT
        go_enter Tryz.func82, Tryz.ntmps82
        go_wp2_with fail
        go_ret
        exact ⟨⟨24 + (tabB[z]'hzT).toNat, len_ret (c := 24) t1, lenok (c := 24) (by omega) (z := z) (by show x / 16777216 = z; omega) t2 t3⟩, rfl⟩
      · skip
        obtain ⟨y, hy⟩ : ∃ y, x / 65536 = y := ⟨_, rfl⟩
        have Ey : (x : Int) / 65536 = (y : Int) := by omega
        have n2 : ¬ (256 : Int) ≤ (y : Int) := by omega
        have hz8 : (y : Int) < 256 := by omega
        have h4 : IntKind.u8.wrap (y : Int) = (y : Int) := IntWalk.u8_in _ (by omega)
        have hzT : y < tabB.size := by rw [tab_size]; omega
        obtain ⟨t1, t2, t3⟩ := tab_ok y hzT
        go_enter Tryz.func82, Tryz.ntmps82
        go_wp2_with fail
        go_ret
        exact ⟨⟨16 + (tabB[y]'hzT).toNat, len_ret (c := 16) t1, lenok (c := 16) (by omega) (z := y) (by show x / 65536 = y; omega) t2 t3⟩, rfl⟩
    · by_cases h8 : (256 : Int) ≤ (x : Int)
      · skip
        obtain ⟨y, hy⟩ : ∃ y, x / 256 = y := ⟨_, rfl⟩
        have Ey : (x : Int) / 256 = (y : Int) := by omega
        have hz8 : (y : Int) < 256 := by omega
        have h4 : IntKind.u8.wrap (y : Int) = (y : Int) := IntWalk.u8_in _ (by omega)
        have hzT : y < tabB.size := by rw [tab_size]; omega
        obtain ⟨t1, t2, t3⟩ := tab_ok y hzT
        go_enter Tryz.func82, Tryz.ntmps82
        go_wp2_with fail
        go_ret
        exact ⟨⟨8 + (tabB[y]'hzT).toNat, len_ret (c := 8) t1, lenok (c := 8) (by omega) (z := y) (by show x / 256 = y; omega) t2 t3⟩, rfl⟩
      · skip
        have hz8 : (x : Int) < 256 := by omega
        have h4 : IntKind.u8.wrap (x : Int) = (x : Int) := IntWalk.u8_in _ (by omega)
        have hzT : x < tabB.size := by rw [tab_size]; omega
        obtain ⟨t1, t2, t3⟩ := tab_ok x hzT
        go_enter Tryz.func82, Tryz.ntmps82
        go_wp2_with fail
        go_ret
        exact ⟨⟨0 + (tabB[x]'hzT).toNat, len_ret0 t1, lenok (c := 0) (by omega) (z := x) (by show x / 1 = x; omega) t2 t3⟩, rfl⟩

set_option maxRecDepth 100000 in
set_option maxHeartbeats 1000000 in
theorem len_any (x : Nat) (w : World) (hx : x < 140737488355328) : Calls Tryz.prog 65 #[.int .u64 x] w fun e w' => (∃ k : Nat, e = .returned (.int .i64 k) ∧ LenOk x k) ∧ w' = w := by
  have h1 : IntKind.u64.wrap (x : Int) = (x : Int) := by rw [IntKind.wrap_u64]; omega
  go_enter Tryz.func65, Tryz.ntmps65
  go_wp2_with (go_at_call 82; refine (len64_any x _ hx).mono ?_; rintro e w1 ⟨⟨k, rfl, hk⟩, rfl⟩)
  go_ret
  exact ⟨⟨k, rfl, hk⟩, rfl⟩
theorem LenOk.le {x k : Nat} (h : LenOk x k) (h1 : 1 ≤ x) (hx : x < 140737488355328) : k ≤ 48 := by
  have := h.2 h1
  have h2 : 2 ^ k < 2 ^ 49 := by omega
  have := (Nat.pow_lt_pow_iff_right (by decide : 1 < 2)).1 h2
  omega
set_option maxRecDepth 100000 in
set_option maxHeartbeats 1000000 in
theorem pow2_any (x : Nat) (w : World) (h1 : 1 ≤ x) (hx : x < 140737488355328) : Calls Tryz.prog 93 #[.int .i64 x] w fun e w' => (∃ M : Nat, e = .returned (.int .u64 M) ∧ x < M ∧ M ≤ 2 * x) ∧ w' = w := by
  have hw : IntKind.u64.wrap (x : Int) = (x : Int) := by rw [IntKind.wrap_u64]; omega
  go_enter Tryz.func93, Tryz.ntmps93
  go_wp2_with fail
  refine (len_any x w hx).mono ?_
  rintro e w1 ⟨⟨k, rfl, hk⟩, rfl⟩
  have hk48 := hk.le h1 hx
  have hk0 : (0 : Int) ≤ (k : Int) := by omega
  have hkt : ((k : Nat) : Int).toNat = k := Int.toNat_natCast _
  have hp : IntKind.u64.wrap (2 ^ k) = ((2 ^ k : Nat) : Int) := by
    have : 2 ^ k ≤ 2 * x := hk.2 h1
    rw [IntKind.wrap_u64]
    push_cast
    have h2 : ((2 ^ k : Nat) : Int) ≤ 2 * x := by exact_mod_cast this
    push_cast at h2
    have h3 : (0 : Int) < 2 ^ k := Int.pow_pos (by decide)
    omega
  go_wp2_with fail
  go_ret
  refine ⟨⟨2 ^ k, ?_, hk.1, hk.2 h1⟩, rfl⟩
  have e : ((2 ^ k : Nat) : Int) = (2 : Int) ^ k := by push_cast; rfl
  show Ending.returned (.int .u64 ((2 : Int) ^ k)) = _
  rw [e]
set_option maxRecDepth 100000 in
set_option maxHeartbeats 2000000 in
theorem next_any (s r : Nat) (w : World) (h : Blk w s 141 #[.int .u64 r]) (hr : r < 18446744073709551616) :
    Calls Tryz.prog 94 #[.pointer (some ⟨s, 0, none⟩)] w fun e w' => ∃ r' : Nat, e = .returned (.int .u64 r') ∧ r' < 18446744073709551616 ∧ Blk w' s 141 #[.int .u64 r'] ∧ Only s w w' := by
  have c0 : w.cell? ⟨s, 0, none⟩ = some (.int .u64 (r : Nat)) := by rw [Blk.cell h]; rfl
  have f0 := Blk.free h 0
  obtain ⟨b1, hb1⟩ : ∃ b1, r * 8192 % 18446744073709551616 = b1 := ⟨_, rfl⟩
  obtain ⟨r1, hr1⟩ : ∃ r1, r ^^^ b1 = r1 := ⟨_, rfl⟩
  have E1 : IntKind.u64.wrap ((r : Int) * 8192) = (b1 : Int) := by rw [IntKind.wrap_u64]; omega
  have X1 : bits BinOp.xor IntKind.u64 (r : Int) (b1 : Int) = (r1 : Int) := by rw [← hr1]; exact u64_xor_nat r b1 hr (by omega)
  have l1 : r1 < 18446744073709551616 := by rw [← hr1]; exact Nat.xor_lt_two_pow (n := 64) hr (by omega)
  obtain ⟨b2, hb2⟩ : ∃ b2, r1 / 128 = b2 := ⟨_, rfl⟩
  obtain ⟨r2, hr2⟩ : ∃ r2, r1 ^^^ b2 = r2 := ⟨_, rfl⟩
  have E2 : (r1 : Int) / 128 = (b2 : Int) := by omega
  have X2 : bits BinOp.xor IntKind.u64 (r1 : Int) (b2 : Int) = (r2 : Int) := by rw [← hr2]; exact u64_xor_nat r1 b2 l1 (by omega)
  have l2 : r2 < 18446744073709551616 := by rw [← hr2]; exact Nat.xor_lt_two_pow (n := 64) l1 (by omega)
  obtain ⟨b3, hb3⟩ : ∃ b3, r2 * 131072 % 18446744073709551616 = b3 := ⟨_, rfl⟩
  obtain ⟨r3, hr3⟩ : ∃ r3, r2 ^^^ b3 = r3 := ⟨_, rfl⟩
  have E3 : IntKind.u64.wrap ((r2 : Int) * 131072) = (b3 : Int) := by rw [IntKind.wrap_u64]; omega
  have X3 : bits BinOp.xor IntKind.u64 (r2 : Int) (b3 : Int) = (r3 : Int) := by rw [← hr3]; exact u64_xor_nat r2 b3 l2 (by omega)
  have l3 : r3 < 18446744073709551616 := by rw [← hr3]; exact Nat.xor_lt_two_pow (n := 64) l2 (by omega)
  clear hb1 hr1 hb2 hr2 hb3 hr3
  have nx : ∀ (w : World) (r r' : Nat), Blk w s 141 #[.int .u64 r] → Blk (w.setCell ⟨s, 0, none⟩ (.int .u64 r')).drew s 141 #[.int .u64 r'] ∧ Only s w (w.setCell ⟨s, 0, none⟩ (.int .u64 r')).drew := fun w r r' hB => ⟨hB.set 0 _, (Only.set w 0 _).trans (Only.drew _ _)⟩
  have NX := Lib.hid nx
  clear nx
  go_enter Tryz.func94, Tryz.ntmps94
  go_wp2_with fail
  go_region
  obtain ⟨h1, o1⟩ := NX.out w r r1 h
  generalize (w.setCell ⟨s, 0, none⟩ (.int .u64 (r1 : Nat))).drew = w1 at h1 o1 ⊢
  have c1 : w1.cell? ⟨s, 0, none⟩ = some (.int .u64 (r1 : Nat)) := by rw [Blk.cell h1]; rfl
  have f1 := Blk.free h1 0
  clear c0 f0
  go_wp2_with fail
  go_region
  obtain ⟨h2, o2⟩ := NX.out w1 r1 r2 h1
  generalize (w1.setCell ⟨s, 0, none⟩ (.int .u64 (r2 : Nat))).drew = w2 at h2 o2 ⊢
  have c2 : w2.cell? ⟨s, 0, none⟩ = some (.int .u64 (r2 : Nat)) := by rw [Blk.cell h2]; rfl
  have f2 := Blk.free h2 0
  clear c1 f1
  go_wp2_with fail
  go_region
  obtain ⟨h3, o3⟩ := NX.out w2 r2 r3 h2
  generalize (w2.setCell ⟨s, 0, none⟩ (.int .u64 (r3 : Nat))).drew = w3 at h3 o3 ⊢
  have c3 : w3.cell? ⟨s, 0, none⟩ = some (.int .u64 (r3 : Nat)) := by rw [Blk.cell h3]; rfl
  clear c2 f2
  go_wp2_with fail
  go_ret
  exact ⟨r3, rfl, l3, h3, (o1.trans o2).trans o3⟩
set_option maxRecDepth 100000 in
set_option maxHeartbeats 4000000 in
theorem break_any (g cap N a b : Nat) (d : Array Int) (w : World) (h : Row w g d) (hN : d.size = N) (hab : a + 8 ≤ b) (hb : b ≤ N) (hsz : N ≤ 70368744177664) :
    Calls Tryz.prog 74 #[.slice (some ⟨g, 0, none⟩) N cap, .int .i64 a, .int .i64 b] w fun e w' => ∃ d', e = .returned (.tuple #[]) ∧ Row w' g d' ∧ Go.Sort.PermIn a b d d' ∧ Only g w w' := by
  obtain ⟨l, hl⟩ : ∃ l, b - a = l := ⟨_, rfl⟩
  obtain ⟨m, hm⟩ : ∃ m, l / 4 = m := ⟨_, rfl⟩
  obtain ⟨lo, hlo⟩ : ∃ lo, a + m * 2 - 1 = lo := ⟨_, rfl⟩
  have Wl : IntKind.i64.wrap ((b : Int) - (a : Int)) = (l : Int) := by rw [IntWalk.i64_in _ (by omega)]; omega
  have El : (b : Int) - (a : Int) = (l : Int) := by omega
  have Em : (l : Int) / 4 = (m : Int) := by omega
  have Elo : (a : Int) + (m : Int) * 2 - 1 = (lo : Int) := by omega
  have Ehi : (a : Int) + (m : Int) * 2 + 1 = (lo : Int) + 2 := by omega
  have hl8 : (8 : Int) ≤ (l : Int) := by omega
  have Wu : IntKind.u64.wrap (l : Int) = (l : Int) := by rw [IntKind.wrap_u64]; omega
  obtain ⟨s, hs⟩ : ∃ s, w.heap.size = s := ⟨_, rfl⟩
  have hgs : g ≠ s := by have := h.lt; omega
  have hB0 : Blk (w.alloc (.cells #[.int .u64 (l : Nat)] 141)) s 141 #[.int .u64 (l : Nat)] := by rw [← hs]; exact Blk.alloc_new _ _ _
  have hb0 : Below w.heap.size w (w.alloc (.cells #[.int .u64 (l : Nat)] 141)) := (Below.refl _ _).alloc (Nat.le_refl _) _
  have hR0 := h.below hb0
  have hO0 : Only g w (w.alloc (.cells #[.int .u64 (l : Nat)] 141)) := Only.of_below hb0
  go_enter Tryz.func74, Tryz.ntmps74
  go_wp2_with fail
  refine (pow2_any l _ (by omega) (by omega)).mono ?_
  rintro e w1 ⟨⟨M, rfl, hM1, hM2⟩, rfl⟩
  have WM : IntKind.u64.wrap ((M : Int) - 1) = ((M - 1 : Nat) : Int) := by rw [IntKind.wrap_u64]; omega
  have EM : (M : Int) - 1 = ((M - 1 : Nat) : Int) := by omega
  go_wp2_with fail
  go_loopw [9] (fun x wr => ∃ (i : Nat) (dk : Array Int) (r : Nat), x = .int .i64 i ∧ lo ≤ i ∧ i ≤ lo + 3 ∧ dk.size = N ∧ Row wr g dk ∧ Blk wr s 141 #[.int .u64 (r : Nat)] ∧ r < 18446744073709551616 ∧ Go.Sort.PermIn a b d dk ∧ Only g w wr) (fun x _ => lo + 3 - (intOf x).toNat)
  case atStart => exact ⟨lo, d, l, by congr 1, Nat.le_refl _, by omega, hN, hR0, hB0, by omega, Go.Sort.permIn_refl _ _ _, hO0⟩
  case round =>
    clear hR0 hB0 hb0 hO0 h
    obtain ⟨i, dk, r, rfl, h1, h2, hsk, hR, hB, hr, hP, hO⟩ := hrel
    by_cases hi : (i : Int) ≤ (lo : Int) + 2
    · go_wp2_with fail
      refine (next_any s r wr hB hr).mono ?_
      rintro e w2 ⟨r', rfl, hr', hB2, o2⟩
      have hR2 : Row w2 g dk := by
        obtain ⟨rest, hq⟩ := hR
        have hlt := Blk.lt hq
        refine ⟨rest, ?_⟩
        unfold Blk at hq ⊢
        rw [o2.block g hlt hgs]; exact hq
      have hO2 : Only g w w2 := by
        refine ⟨o2.os.trans hO.os, o2.tape.trans hO.tape, o2.output.trans hO.output, Nat.le_trans hO.size o2.size, fun x hx hn => ?_⟩
        have := hO.size
        rw [o2.block x (by omega) (by omega), hO.block x hx hn]
      obtain ⟨o, ho⟩ : ∃ o, r' &&& (M - 1) = o := ⟨_, rfl⟩
      have hoM : o ≤ M - 1 := by rw [← ho]; exact Nat.and_le_right
      have Xo : bits BinOp.and IntKind.u64 (r' : Int) ((M - 1 : Nat) : Int) = (o : Int) := by rw [← ho]; exact u64_and_nat r' (M - 1) hr' (by omega)
      have Wo : IntKind.i64.wrap (o : Int) = (o : Int) := IntWalk.i64_in _ (by omega)
      clear ho hR hO o2 hB
      have hfin : ∀ (w3 : World) (P : Nat), a ≤ P → P < b → Row w3 g (swp dk i P) → Blk w3 s 141 #[.int .u64 (r' : Nat)] → Only g w w3 → (∃ (i_1 : Nat) (dk_1 : Array Int) (r : Nat), Value.int IntKind.i64 ((i : Int) + 1) = .int .i64 (i_1 : Nat) ∧ lo ≤ i_1 ∧ i_1 ≤ lo + 3 ∧ dk_1.size = N ∧ Row w3 g dk_1 ∧ Blk w3 s 141 #[.int .u64 (r : Nat)] ∧ r < 18446744073709551616 ∧ Go.Sort.PermIn a b d dk_1 ∧ Only g w w3) ∧ lo + 3 - (intOf (.int .i64 ((i : Int) + 1))).toNat < lo + 3 - (intOf (.int .i64 (i : Int))).toNat := by
        intro w3 P p1 p2 hR3 hB3 hO3
        refine ⟨⟨i + 1, swp dk i P, r', by congr 1, by omega, by omega, by rw [swp_sz]; exact hsk, hR3, hB3, hr', ?_, hO3⟩, by simp [intOf]; omega⟩
        exact Go.Sort.permIn_trans _ _ _ _ _ hP (Go.Sort.swp_permIn _ _ _ _ _ (by omega) (by omega) p1 p2 (by omega))
      have HFIN := Lib.hid hfin
      clear hfin hP
      by_cases hol : (l : Int) ≤ (o : Int)
      · obtain ⟨o', ho'⟩ : ∃ o', o - l = o' := ⟨_, rfl⟩
        have Wo' : IntKind.i64.wrap ((o : Int) - (l : Int)) = (o' : Int) := by rw [IntWalk.i64_in _ (by omega)]; omega
        have Eo' : (o : Int) - (l : Int) = (o' : Int) := by omega
        obtain ⟨P, hP⟩ : ∃ P, a + o' = P := ⟨_, rfl⟩
        have WP : IntKind.i64.wrap ((a : Int) + (o' : Int)) = (P : Int) := by rw [IntWalk.i64_in _ (by omega)]; omega
        obtain ⟨y, hy⟩ : ∃ y, dk[i]! = y := ⟨_, rfl⟩
        have cy := hR2.cell (j := i) (by omega) hy
        obtain ⟨z, hz⟩ : ∃ z, dk[P]! = z := ⟨_, rfl⟩
        have cz := hR2.cell (j := P) (by omega) hz
        have P0 : (0 : Int) ≤ (P : Int) := by omega
        have P1 : (P : Int) < (N : Int) := by omega
        have P2 : ((P : Nat) : Int).toNat = P := Int.toNat_natCast _
        have i0 : (0 : Int) ≤ (i : Int) := by omega
        have i1 : (i : Int) < (N : Int) := by omega
        have fi := hR2.free i
        have fj := hR2.free P
        obtain ⟨u2, hu2⟩ := hR2.second (i := i) (j := P) (.int .i64 z) (by omega)
        have HRO := Lib.hid (Row.swapped hR2 (i := i) (j := P) (by omega) (by omega) hy hz)
        have hB3 : Blk ((w2.setCell ⟨g, i, none⟩ (.int .i64 z)).setCell ⟨g, P, none⟩ (.int .i64 y)).drew s 141 #[.int .u64 (r' : Nat)] := by
          have hlt := Blk.lt hB2
          have := HRO.out.2.block s hlt (fun e => hgs e.symm)
          unfold Blk at hB2 ⊢
          exact this.trans hB2
        clear hy hz
        go_wp2_with fail
        go_region
        all_goals go_wp2_with fail
        exact HFIN.out _ P (by omega) (by omega) HRO.out.1 hB3 ((hO2.trans HRO.out.2).trans (Only.drew _ _))
      · obtain ⟨P, hP⟩ : ∃ P, a + o = P := ⟨_, rfl⟩
        have WP : IntKind.i64.wrap ((a : Int) + (o : Int)) = (P : Int) := by rw [IntWalk.i64_in _ (by omega)]; omega
        obtain ⟨y, hy⟩ : ∃ y, dk[i]! = y := ⟨_, rfl⟩
        have cy := hR2.cell (j := i) (by omega) hy
        obtain ⟨z, hz⟩ : ∃ z, dk[P]! = z := ⟨_, rfl⟩
        have cz := hR2.cell (j := P) (by omega) hz
        have P0 : (0 : Int) ≤ (P : Int) := by omega
        have P1 : (P : Int) < (N : Int) := by omega
        have P2 : ((P : Nat) : Int).toNat = P := Int.toNat_natCast _
        have i0 : (0 : Int) ≤ (i : Int) := by omega
        have i1 : (i : Int) < (N : Int) := by omega
        have fi := hR2.free i
        have fj := hR2.free P
        obtain ⟨u2, hu2⟩ := hR2.second (i := i) (j := P) (.int .i64 z) (by omega)
        have HRO := Lib.hid (Row.swapped hR2 (i := i) (j := P) (by omega) (by omega) hy hz)
        have hB3 : Blk ((w2.setCell ⟨g, i, none⟩ (.int .i64 z)).setCell ⟨g, P, none⟩ (.int .i64 y)).drew s 141 #[.int .u64 (r' : Nat)] := by
          have hlt := Blk.lt hB2
          have := HRO.out.2.block s hlt (fun e => hgs e.symm)
          unfold Blk at hB2 ⊢
          exact this.trans hB2
        clear hy hz
        go_wp2_with fail
        go_region
        all_goals go_wp2_with fail
        exact HFIN.out _ P (by omega) (by omega) HRO.out.1 hB3 ((hO2.trans HRO.out.2).trans (Only.drew _ _))
    · go_wp2_with fail
      go_end0
      exact ⟨rfl, dk, hR, hP, hO⟩
end Go.Proofs.YtcpkpljeimbdiaaGreat.QI
