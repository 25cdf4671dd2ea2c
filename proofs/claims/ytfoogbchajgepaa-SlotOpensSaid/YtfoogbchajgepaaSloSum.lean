/-
  The walk of Sum, of lay.
-/
import Derived.Test.YtfoogbchajgepaaSloMath
import Derived.Test.YtfoogbchajgepaaDskNew
namespace Go.Proofs.Ytfoogbchajgepaa.S
open Go.RowKit
open Aid K
set_option linter.unusedSimpArgs false
set_option linter.unusedVariables false

theorem not_u32 {x : Nat} (h : x < 4294967296) : 4294967295 ^^^ x = 4294967295 - x := by
  refine Nat.eq_of_testBit_eq fun i => ?_
  have e : 4294967295 - x = 2 ^ 32 - (x + 1) := by omega
  rw [e, Nat.testBit_two_pow_sub_succ h, Nat.testBit_xor]
  have e2 : (4294967295 : Nat) = 2 ^ 32 - 1 := by decide
  rw [e2, Nat.testBit_two_pow_sub_one]
  by_cases hi : i < 32
  · simp [hi]
  · have : x.testBit i = false := Nat.testBit_lt_two_pow (Nat.lt_of_lt_of_le h (Nat.pow_le_pow_right (n := 2) (by decide) (by omega : 32 ≤ i)))
    simp [hi, this]
theorem crc_int {t : Nat} (h : t < 4294967296) : bits BinOp.xor IntKind.u32 ((t : Int) / 2) (bits BinOp.and IntKind.u32 2197175160 (-bits BinOp.and IntKind.u32 (t : Int) 1 % 4294967296)) = ((crcStep t : Nat) : Int) := by
  have e1 : bits BinOp.and IntKind.u32 (t : Int) 1 = ((t % 2 : Nat) : Int) := by
    have := u32_and_nat t 1 h (by decide)
    rw [nat_mask1] at this
    exact this
  have e0 : (t : Int) / 2 = ((t / 2 : Nat) : Int) := by omega
  rw [e1, e0]
  unfold crcStep
  by_cases ho : t % 2 = 1
  · rw [if_pos ho, ho]
    have e2 : bits BinOp.and IntKind.u32 2197175160 (-((1 : Nat) : Int) % 4294967296) = ((2197175160 : Nat) : Int) := by
      have := u32_and_nat 2197175160 4294967295 (by decide) (by decide)
      have e3 : (2197175160 &&& 4294967295 : Nat) = 2197175160 := by decide
      rw [e3] at this
      exact this
    rw [e2]
    exact u32_xor_nat (t / 2) 2197175160 (by omega) (by decide)
  · have hz : t % 2 = 0 := by omega
    rw [if_neg ho, hz]
    have e2 : bits BinOp.and IntKind.u32 2197175160 (-((0 : Nat) : Int) % 4294967296) = ((0 : Nat) : Int) := by
      have := u32_and_nat 2197175160 0 (by decide) (by decide)
      exact this
    rw [e2]
    exact u32_xor_nat (t / 2) 0 (by omega) (by decide)
set_option maxRecDepth 100000 in
set_option maxHeartbeats 2000000 in
theorem sum_any (v : Value) (l : List Int) (w : World) (hI : Ints w .u8 v l) (hb : By l) : Calls Try.prog 37 #[v] w fun e w' => e = .returned (.int .u32 (sumI l : Nat)) ∧ w' = w := by
  obtain ⟨a, c, rfl⟩ : ∃ a c, v = .slice a l.length c := by
    obtain ⟨_, ⟨rfl, rfl | ⟨a, c, rfl⟩⟩ | ⟨b, o, c, rfl, _⟩⟩ := hI
    · exact ⟨_, _, rfl⟩
    · exact ⟨_, _, rfl⟩
    · exact ⟨_, _, rfl⟩
  have hn := hI.1
  go_enter Try.func37, Try.ntmps37
  go_wp2_with fail
  go_loopw [3, 8] (fun x3 x8 wr => ∃ i : Nat, x8 = .int .i64 i ∧ i ≤ l.length ∧ x3 = .int .u32 (crcL 4294967295 ((l.take i).map Int.toNat) : Nat) ∧ wr = w) (fun x3 x8 _ => l.length - (intOf x8).toNat)
  case atStart => exact ⟨0, rfl, Nat.zero_le _, rfl, rfl⟩
  case round =>
    obtain ⟨i, rfl, hi, rfl, rfl⟩ := hrel
    by_cases hlt : (i : Int) < (l.length : Int)
    · have hil : i < l.length := by omega
      obtain ⟨b, o, rfl, hcell⟩ : ∃ b o, a = some ⟨b, o, none⟩ ∧ wr.cell? ⟨b, o + i, none⟩ = some (.int .u8 (l.getD i 0)) := by
        obtain ⟨_, ⟨rfl, _⟩ | ⟨b, o, c', hv, _, hc⟩⟩ := hI
        · simp at hil
        · simp at hv
          exact ⟨b, o, hv.1, hc i hil⟩
      obtain ⟨x, hx⟩ : ∃ x : Nat, l.getD i 0 = (x : Int) := ⟨(l.getD i 0).toNat, by
        have := hb (l.getD i 0) (by rw [List.getD_eq_getElem?_getD, List.getElem?_eq_getElem hil]; exact List.getElem_mem hil)
        omega⟩
      rw [hx] at hcell
      have hx255 : x < 256 := by
        have := hb (l.getD i 0) (by rw [List.getD_eq_getElem?_getD, List.getElem?_eq_getElem hil]; exact List.getElem_mem hil)
        omega
      obtain ⟨s0, hs0⟩ : ∃ s0, crcL 4294967295 ((l.take i).map Int.toNat) = s0 := ⟨_, rfl⟩
      have hs32 : s0 < 4294967296 := by
        rw [← hs0]
        refine crcL_lt (by decide) (fun c hc => ?_)
        obtain ⟨z, hz, rfl⟩ := List.mem_map.1 hc
        have := hb z (List.mem_of_mem_take hz)
        omega
      rw [hs0]
      have hxw : IntKind.u32.wrap (x : Int) = (x : Int) := by rw [IntKind.wrap_u32']; omega
      have hxor : bits .xor .u32 (s0 : Int) (x : Int) = ((s0 ^^^ x : Nat) : Int) := u32_xor_nat s0 x hs32 (by omega)
      go_wp2_with fail
      obtain ⟨s1, hs1⟩ : ∃ s1, s0 ^^^ x = s1 := ⟨_, rfl⟩
      have hs132 : s1 < 4294967296 := by rw [← hs1]; exact Nat.xor_lt_two_pow (n := 32) hs32 (by omega)
      have hsx : s0 ^^^ x = s1 := hs1
      simp only [hs1]
      go_loopw [3, 16] (fun x3 x16 wr' => ∃ j : Nat, x16 = .int .i64 j ∧ j ≤ 8 ∧ x3 = .int .u32 (crcN j s1 : Nat) ∧ wr' = wr) (fun x3 x16 _ => 8 - (intOf x16).toNat)
      case atStart => exact ⟨0, rfl, by omega, rfl, rfl⟩
      case round =>
        obtain ⟨j, rfl, hj, rfl, rfl⟩ := hrel
        have hc32 := crcN_lt hs132 j
        have hnext : crcN (j + 1) s1 = crcStep (crcN j s1) := rfl
        obtain ⟨t, ht⟩ : ∃ t, crcN j s1 = t := ⟨_, rfl⟩
        rw [ht] at hc32 hnext ⊢
        by_cases hj8 : (j : Int) < 8
        · go_wp2_with fail
          rw [crc_int hc32]
          refine ⟨⟨j + 1, by congr 1, by omega, by rw [hnext], trivial⟩, ?_⟩
          simp [intOf]; omega
        · go_wp2_with fail
          have hj8' : j = 8 := by omega
          subst hj8'
          refine ⟨⟨i + 1, by congr 1, by omega, ?_, trivial⟩, ?_⟩
          · rw [List.take_add_one, List.getElem?_eq_getElem hil, Option.toList_some, List.map_append, List.map_cons, List.map_nil, crcL_snoc, hs0]
            have e : l[i].toNat = x := by
              have : l[i] = (x : Int) := by rw [← hx, List.getD_eq_getElem?_getD, List.getElem?_eq_getElem hil]; rfl
              rw [this]; rfl
            rw [e, hs1, ht]
          · simp [intOf]; omega
    · have hil : i = l.length := by omega
      go_wp2_with fail
      go_ret
      refine ⟨?_, rfl⟩
      have hb' : ∀ c ∈ l.map Int.toNat, c < 256 := fun c hc => by
        obtain ⟨z, hz, rfl⟩ := List.mem_map.1 hc
        have := hb z hz
        omega
      have h32 := crcL_lt (l := l.map Int.toNat) (s := 4294967295) (by decide) hb'
      have e1 : bits BinOp.xor IntKind.u32 IntKind.u32.max ((crcL 4294967295 (List.map Int.toNat l) : Nat) : Int) = ((sumI l : Nat) : Int) := by
        unfold sumI sumN
        rw [← not_u32 h32]
        exact u32_xor_nat 4294967295 _ (by decide) h32
      rw [e1]
      rfl

/-- what lay leaves of a row of bytes -/
def layL (L : List Int) (o n : Nat) : Nat → List Int
  | 0 => L
  | i + 1 => (layL L o n i).set (o + i) (dig n i)
theorem layL_len (L : List Int) (o n : Nat) : ∀ i, (layL L o n i).length = L.length
  | 0 => rfl
  | i + 1 => by rw [layL, List.length_set, layL_len L o n i]
/-- a block of 64 bytes -/
def arr8 (L : List Int) : Array Value := (L.map (Value.int .u8)).toArray
theorem arr8_set (L : List Int) (i : Nat) (x : Int) : (arr8 L).setIfInBounds i (.int .u8 x) = arr8 (L.set i x) := by
  unfold arr8
  rw [List.setIfInBounds_toArray, List.map_set]
theorem arr8_get (L : List Int) (i : Nat) : (arr8 L)[i]? = (L[i]?).map (Value.int .u8) := by
  unfold arr8
  rw [List.getElem?_toArray, List.getElem?_map]

set_option maxRecDepth 100000 in
set_option maxHeartbeats 2000000 in
theorem lay_any (T o k c n : Nat) (L : List Int) (w : World) (hT : Blk w T 63 (arr8 L)) (hk : k ≤ 8) (hc : k ≤ c) (hL : o + k ≤ L.length) (hn : n < 18446744073709551616) :
    Calls Try.prog 36 #[.slice (some ⟨T, o, none⟩) k c, .int .u64 (n : Nat)] w fun e w' => e = .returned (.tuple #[]) ∧ Blk w' T 63 (arr8 (layL L o n k)) ∧ Keeps (fun b => b = T) w w' ∧ w'.heap.size = w.heap.size := by
  have hkw : IntKind.i64.wrap (k : Int) = (k : Int) := IntWalk.i64_in _ (by omega)
  go_enter Try.func36, Try.ntmps36
  go_wp2_with fail
  go_loopw [7] (fun x7 wr => ∃ i : Nat, x7 = .int .i64 i ∧ i ≤ k ∧ Blk wr T 63 (arr8 (layL L o n i)) ∧ Keeps (fun b => b = T) w wr ∧ wr.heap.size = w.heap.size) (fun x7 _ => k - (intOf x7).toNat)
  case atStart => exact ⟨0, rfl, Nat.zero_le _, hT, Keeps.refl _ _, rfl⟩
  case round =>
    obtain ⟨i, rfl, hi, hB, hK, hS⟩ := hrel
    by_cases hlt : (i : Int) < (k : Int)
    · have hf := Blk.free hB (o + i)
      have hlen : o + i < (layL L o n i).length := by rw [layL_len]; omega
      have hcell : wr.cell? ⟨T, o + i, none⟩ = some (.int .u8 ((layL L o n i)[o + i])) := by
        rw [Blk.cell hB (o + i), arr8_get, List.getElem?_eq_getElem hlen]; rfl
      have hdig : (n : Int) / 2 ^ (8 * i) % 256 = dig n i := by
        unfold dig
        have e : (256 : Nat) ^ i = 2 ^ (8 * i) := by rw [Nat.pow_mul]
        rw [e]
        push_cast
        rfl
      go_wp2_with fail
      refine ⟨⟨i + 1, by congr 1, by omega, ?_, set_keeps hK rfl, ?_⟩, ?_⟩
      · have := hB.set (o + i) (.int .u8 (dig n i))
        rw [arr8_set] at this
        exact this
      · rw [World.size_setCell]; exact hS
      · simp [intOf]; omega
    · have hik : i = k := by omega
      subst hik
      go_wp2_with fail
      go_end0
      exact ⟨rfl, hB, hK, hS⟩
end Go.Proofs.Ytfoogbchajgepaa.S
