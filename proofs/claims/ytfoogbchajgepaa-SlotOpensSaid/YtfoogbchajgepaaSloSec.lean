/-
  The walk of sector.
-/
import Derived.Test.YtfoogbchajgepaaSloSum
import Derived.Deep.RegionWith
namespace Go.Proofs.Ytfoogbchajgepaa.S
open Go.RowKit
open Aid K
set_option linter.unusedSimpArgs false
set_option linter.unusedVariables false

def z64 : List Int := List.replicate 64 0
theorem z64_arr : arr8 z64 = (u8A 64 fun _ => 0) := by kernel_rfl
/-- bytes copied into a block of bytes -/
theorem copy_in {w : World} {T c o n cap : Nat} {a : Option Addr} {l : List Int} {L : List Int} (hT : Blk w T 63 (arr8 L)) (hI : Ints w .u8 (.slice a l.length c) l) (hn : l.length ≤ n) (hL : o + n ≤ L.length) :
    ∃ w' k, (Builtin.copy_ #[31, 31] 3 #[.slice (some ⟨T, o, none⟩) n cap, .slice a l.length c]).run Try.prog w = .ok (.int .i64 k) w' ∧ Blk w' T 63 (arr8 (L.take o ++ (l ++ L.drop (o + l.length)))) ∧ Below T w w' := by
  by_cases h0 : l.length = 0
  · obtain rfl : l = [] := List.eq_nil_of_length_eq_zero h0
    refine ⟨w, _, run_copy_none (P := Try.prog) w _ _ _ 5 (some ⟨T, o, none⟩) a n cap 0 c Try.underlying31 size_u8 (by simp), ?_, Below.refl _ _⟩
    simp only [List.length_nil, Nat.add_zero, List.nil_append, List.take_append_drop]
    exact hT
  · obtain ⟨ad, rfl, hsrc⟩ := ints_src hI (by omega)
    have hrun := run_copy_row (P := Try.prog) w 31 31 3 5 T o n cap ad l.length c (arr8 L) 63 (l.map (.int .u8)) Try.underlying31 size_u8 hT (by rw [List.length_map]; exact (Nat.min_eq_left hn).symm) hsrc (by simp [arr8]; omega) (ints_one l)
    refine ⟨_, _, hrun, ?_, below_setRow (Below.refl _ _) (Nat.le_refl _) _⟩
    have e : (List.take o (arr8 L).toList ++ l.map (Value.int .u8) ++ (arr8 L).toList.drop (o + (l.map (Value.int .u8)).length)).toArray = arr8 (L.take o ++ (l ++ L.drop (o + l.length))) := by
      unfold arr8
      simp only [List.length_map, List.map_append, List.map_take, List.map_drop, List.append_assoc]
    rw [e]
    exact Blk.row hT _

theorem digL_snoc (n k : Nat) : digL n (k + 1) = digL n k ++ [dig n k] := by
  unfold digL; rw [List.range_succ, List.map_append]; rfl
theorem layL_eq (L : List Int) (o n : Nat) : ∀ k, o + k ≤ L.length → layL L o n k = L.take o ++ (digL n k ++ L.drop (o + k))
  | 0, _ => by simp [layL, digL]
  | k + 1, h => by
    rw [layL, layL_eq L o n k (by omega), ← List.append_assoc, digL_snoc]
    have hlen : (L.take o ++ digL n k).length = o + k := by simp [digL_len]; omega
    rw [List.set_append_right _ _ (by rw [hlen]; exact Nat.le_refl _), hlen, Nat.sub_self, List.drop_eq_getElem_cons (by omega : o + k < L.length)]
    simp [List.append_assoc, Nat.add_assoc]
theorem arr8_size (L : List Int) : (arr8 L).size = L.length := by simp [arr8]
theorem arr8_all (L : List Int) : (arr8 L).all (·.oneCell') = true := by
  rw [Array.all_eq_true]
  intro i hi
  simp [arr8]; rfl
theorem size_sec : (Try.prog.info? 63).map (·.size) = some 64 := by kernel_rfl
theorem size_arr (L : List Int) (h : L.length = 64) : (Try.prog.info? 63).map (·.size) = some (arr8 L).size := by rw [arr8_size, h]; exact size_sec
theorem under_sec : Try.prog.underlying 63 = some (.array 64 5) := Try.underlying63
/-- a slice of a block of bytes -/
theorem ints_of_arr {w : World} {T o n c : Nat} {L : List Int} (hT : Blk w T 63 (arr8 L)) (h : o + n ≤ L.length) (h64 : L.length ≤ 1000) : Ints w .u8 (.slice (some ⟨T, o, none⟩) n c) ((L.drop o).take n) := by
  have hl : ((L.drop o).take n).length = n := by simp; omega
  refine ⟨by omega, .inr ⟨T, o, c, by rw [hl], Blk.lt hT, fun j hj => ?_⟩⟩
  rw [hl] at hj
  rw [Blk.cell hT, arr8_get, List.getElem?_eq_getElem (by omega), List.getD_eq_getElem?_getD, List.getElem?_take_of_lt hj, List.getElem?_drop, List.getElem?_eq_getElem (by omega)]
  rfl
/-- what is in the block, step by step -/
def secA (n : Nat) : List Int := layL z64 0 n 8
def secB (n : Nat) (l : List Int) : List Int := (secA n).set 8 l.length
def secC (n : Nat) (l : List Int) : List Int := (secB n l).take 9 ++ (l ++ (secB n l).drop (9 + l.length))
theorem secA_eq (n : Nat) : secA n = digL n 8 ++ List.replicate 56 0 := by
  unfold secA z64
  rw [layL_eq _ _ _ _ (by simp)]
  simp
theorem secB_eq (n : Nat) (l : List Int) : secB n l = digL n 8 ++ ((l.length : Int) :: List.replicate 55 0) := by
  unfold secB
  rw [secA_eq, List.set_append_right _ _ (by rw [digL_len]; exact Nat.le_refl _), digL_len]
  rfl
theorem secC_eq (n : Nat) {l : List Int} (h : l.length ≤ 48) : secC n l = baseL n l ++ List.replicate 4 0 := by
  unfold secC baseL
  rw [secB_eq]
  have h9 : List.take 9 (digL n 8 ++ (l.length : Int) :: List.replicate 55 0) = digL n 8 ++ [(l.length : Int)] := by
    rw [List.take_append, digL_len, List.take_of_length_le (by rw [digL_len]; decide)]
    rfl
  have hd : List.drop (9 + l.length) (digL n 8 ++ (l.length : Int) :: List.replicate 55 0) = List.replicate (51 - l.length) 0 ++ List.replicate 4 0 := by
    rw [List.drop_append, digL_len, List.drop_eq_nil_of_le (by rw [digL_len]; omega), List.nil_append, show 9 + l.length - 8 = l.length + 1 by omega, List.drop_succ_cons, List.drop_replicate, List.replicate_append_replicate]
    congr 1; omega
  rw [h9, hd]
  simp [List.append_assoc]
theorem secC_len (n : Nat) {l : List Int} (h : l.length ≤ 48) : (secC n l).length = 64 := by rw [secC_eq n h, List.length_append, baseL_len (by omega)]; rfl
theorem secC_base (n : Nat) {l : List Int} (h : l.length ≤ 48) : ((secC n l).drop 0).take 60 = baseL n l := by
  rw [List.drop_zero, secC_eq n h, List.take_append_of_le_length (by rw [baseL_len (by omega)]; exact Nat.le_refl _), List.take_of_length_le (by rw [baseL_len (by omega)]; exact Nat.le_refl _)]
theorem secC_done (n : Nat) {l : List Int} (h : l.length ≤ 48) : layL (secC n l) 60 (sumI (baseL n l)) 4 = secL n l := by
  rw [layL_eq _ _ _ _ (by rw [secC_len n h]; decide)]
  unfold secL
  have e1 : (secC n l).take 60 = baseL n l := by have := secC_base n h; rwa [List.drop_zero] at this
  have e2 : (secC n l).drop (60 + 4) = [] := List.drop_eq_nil_of_le (by rw [secC_len n h]; decide)
  rw [e1, e2, List.append_nil]

set_option maxRecDepth 100000 in
set_option maxHeartbeats 2000000 in
theorem sector_any (n : Nat) (v : Value) (l : List Int) (w : World) (hn : n < 18446744073709551616) (hI : Ints w .u8 v l) (hb : By l) (hl : l.length ≤ 48) :
    Calls Try.prog 22 #[.int .u64 (n : Nat), v] w fun e w' => e = .returned (.agg (arr8 (secL n l))) ∧ Below w.heap.size w w' := by
  obtain ⟨a, c, rfl⟩ : ∃ a c, v = .slice a l.length c := by
    obtain ⟨_, ⟨rfl, rfl | ⟨a, c, rfl⟩⟩ | ⟨b, o, c, rfl, _⟩⟩ := hI
    · exact ⟨_, _, rfl⟩
    · exact ⟨_, _, rfl⟩
    · exact ⟨_, _, rfl⟩
  obtain ⟨Z, hZ⟩ : ∃ Z, w.heap.size = Z := ⟨_, rfl⟩
  obtain ⟨T, hT⟩ : ∃ T, Z + 1 = T := ⟨_, rfl⟩
  go_enter Try.func22, Try.ntmps22
  obtain ⟨iw, hiw, hzw⟩ := info_whole
  rw [← z64_arr] at hzw
  go_wp2_with (first
    | (refine wpList_allocN _ (by rfl) _ rfl iw hiw _ hzw ?_; have hq := hB0; intro w1 hB hb1 hs1)
    | (refine wpList_allocN _ (by rfl) _ rfl iw hiw _ hzw ?_; intro w0 hB0 hb0 hs0))
  have e0 : w0.heap.size = T := by omega
  rw [e0] at hB hb1
  rw [hZ] at hB0 hb0
  have hBZ : Blk w1 Z 63 (arr8 z64) := Blk.below hB0 hb1 (by omega)
  have hlz : z64.length = 64 := rfl
  have hBel1 : Below Z w w1 := hb0.trans (hb1.mono (by omega))
  refine (lay_any T 0 8 64 n z64 w1 hB (by omega) (by omega) (by rw [hlz]; decide) hn).mono ?_
  rintro e w2 ⟨rfl, hB2, hK2, hs2⟩
  have hBZ2 : Blk w2 Z 63 (arr8 z64) := by unfold Blk at hBZ ⊢; rw [hK2.block Z (by omega) (by omega)]; exact hBZ
  have hBel2 := hK2.below hBel1 (by omega) (fun k hk => by omega)
  have hf8 := Blk.free hB2 8
  have hlA : (secA n).length = 64 := by unfold secA; rw [layL_len]; rfl
  have hc8 : w2.cell? ⟨T, 8, none⟩ = some (.int .u8 ((secA n)[8]'(by omega))) := by
    rw [Blk.cell hB2 8]
    show (arr8 (secA n))[8]? = _
    rw [arr8_get, List.getElem?_eq_getElem (by omega)]; rfl
  have hlw : ((l.length : Nat) : Int) % 256 = (l.length : Int) := by omega
  have hB3 : Blk (w2.setCell ⟨T, 8, none⟩ (.int .u8 (l.length : Int))) T 63 (arr8 (secB n l)) := by
    have := hB2.set 8 (.int .u8 (l.length : Int))
    rw [arr8_set] at this
    exact this
  have hK3 : Keeps (fun b => b = T) w2 (w2.setCell ⟨T, 8, none⟩ (.int .u8 (l.length : Int))) := set_keeps (Keeps.refl _ _) rfl
  have hBel3 := hK3.below hBel2 (by omega) (fun k hk => by omega)
  have hs3 : (w2.setCell ⟨T, 8, none⟩ (.int .u8 (l.length : Int))).heap.size = w2.heap.size := World.size_setCell _ _ _
  have hBZ3 : Blk (w2.setCell ⟨T, 8, none⟩ (.int .u8 (l.length : Int))) Z 63 (arr8 z64) := by unfold Blk at hBZ2 ⊢; rw [hK3.block Z (by omega) (by omega)]; exact hBZ2
  have hlB : (secB n l).length = 64 := by unfold secB; rw [List.length_set]; exact hlA
  have hI3 : Ints (w2.setCell ⟨T, 8, none⟩ (.int .u8 (l.length : Int))) .u8 (.slice a l.length c) l := hI.below (by rw [hZ]; exact hBel3)
  obtain ⟨w4, kc, hrun4, hB4, hb4⟩ := copy_in (o := 9) (n := 55) (cap := 55) hB3 hI3 (by omega) (by omega)
  have hBZ4 := Blk.below hBZ3 hb4 (by omega)
  have hBel4 := hBel3.trans (hb4.mono (by omega))
  have hs4 := hb4.size
  have hBC : Blk w4 T 63 (arr8 (secC n l)) := hB4
  have hIb := ints_of_arr (o := 0) (n := 60) (c := 64) hBC (by rw [secC_len n hl]; decide) (by rw [secC_len n hl]; decide)
  rw [secC_base n hl] at hIb
  have hby := baseL_by (n := n) (by omega : l.length ≤ 51) hb
  have hsum := sumN_lt ((baseL n l).map Int.toNat)
  have hconv : IntKind.u64.wrap ((sumI (baseL n l) : Nat) : Int) = ((sumI (baseL n l) : Nat) : Int) := by rw [IntKind.wrap_u64]; unfold sumI; omega
  have hIbd : Ints w4.drew .u8 (.slice (some ⟨T, 0, none⟩) 60 64) (baseL n l) := hIb
  have hBCd : Blk w4.drew T 63 (arr8 (secC n l)) := hBC
  have hs32 : sumI (baseL n l) < 18446744073709551616 := by unfold sumI; omega
  have hl4 : 60 + 4 ≤ (secC n l).length := by rw [secC_len n hl]; decide
  obtain ⟨s0, hs0⟩ : ∃ s0, sumI (baseL n l) = s0 := ⟨_, rfl⟩
  rw [hs0] at hconv hs32
  go_wp2_with fail
  go_region_with (first
    | (go_at_call 37; refine (sum_any _ _ _ hIbd hby).mono ?_; rintro e w5 ⟨rfl, rfl⟩; rw [hs0])
    | (go_at_call 36; refine (lay_any T 60 4 4 s0 (secC n l) _ hBCd (by decide) (by decide) hl4 hs32).mono ?_; rintro e w6 ⟨rfl, hB6, hK6, hs6⟩))
  have hB6' : Blk w6 T 63 (arr8 (secL n l)) := by
    have := secC_done n hl
    rw [hs0] at this
    rw [← this]; exact hB6
  have hBZ6 : Blk w6 Z 63 (arr8 z64) := by
    have : Blk w4.drew Z 63 (arr8 z64) := hBZ4
    unfold Blk at this ⊢; rw [hK6.block Z (Blk.lt hBZ4) (by omega)]; exact this
  have hBel6 : Below Z w w6 := hK6.below (hBel4.drew) (by show Z ≤ w4.heap.size; have := Blk.lt hBZ4; omega) (fun k hk => by omega)
  have hsec := secL_len (n := n) (v := l) (by omega)
  go_wp2_with (first
    | (refine wpList_loadN _ (by rfl) _ _ rfl _ under_sec rfl T 0 rfl (arr8 (secL n l)) (size_arr _ hsec) (Blk.cells hB6') ?_)
    | (refine wpList_storeN _ (by rfl) _ _ _ rfl rfl Z rfl _ _ _ hBZ6 rfl (size_arr _ hsec) (by rw [arr8_size, arr8_size, hsec]; rfl) (arr8_all _) ?_; intro w7 hr7 hb7 hs7 _))
  refine bodyPost_ret (results_cellN rfl _ _ Z rfl _ _ hr7 _ under_sec rfl (size_arr _ hsec)) rfl ?_
  exact ⟨rfl, by rw [hZ]; exact hBel6.trans hb7⟩
end Go.Proofs.Ytfoogbchajgepaa.S
