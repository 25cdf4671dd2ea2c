/-
  RulesAgreed: the walks, of any number of voters.
-/
import Derived.Test.YtmokfpjiibociaaRulAgrM
import Derived.Test.YtmokfpjiibociaaRulAlive
import Derived.Test.YtmokfpjiibociaaPdqJU
namespace Go.Proofs.Ytmokfpjiibociaa.RA
open Go.RowKit
open Aid R
set_option linter.unusedSimpArgs false
set_option linter.unusedVariables false

theorem row_to {w : World} {g : Nat} {d : Array Int} (h : Row w g d) : QU.Row w g d := ⟨#[], by
  rw [Array.append_empty]
  exact h⟩
theorem half_any (n : Nat) (h1 : 1 ≤ n) (h12 : n ≤ 70368744177664) : ∃ p q : Nat, (n - 1) / 2 = q ∧ q < n ∧ IntKind.i64.wrap ((n : Int) - 1) = (p : Int) ∧ (p : Int).tdiv 2 = (q : Int) ∧ IntKind.i64.wrap (q : Int) = (q : Int) ∧ wrap64 (q : Int) = (q : Int) ∧ (p : Int) / 2 = (q : Int) ∧ (n : Int) - 1 = (p : Int) := by
  refine ⟨n - 1, (n - 1) / 2, rfl, by omega, (IntWalk.i64_in _ (by omega)).trans (by omega), ?_, IntWalk.i64_in _ (by omega), IntWalk.wrap64_in _ (by omega), by omega, by omega⟩
  rw [Int.tdiv_eq_ediv_of_nonneg (by omega)]; omega
set_option maxRecDepth 100000 in
set_option maxHeartbeats 1000000 in
theorem agreed_all (v u : Value) (l m : List Int) (w : World) (h : Ints w .i64 v l) (hu : Ints w .u64 u m) (h12 : l.length * 8 ≤ 140737488355328) : Calls Try.prog 20 #[.agg #[v], u] w fun e w' => e = .returned (.int .u64 (agreedF l m)) ∧ Below w.heap.size w w' := by
  obtain ⟨i0, hi, hz0, hz1, hz2⟩ := info_parts (show (Try.prog.info? 22).map (fun i => (i.zero, i.size, i.bytes)) = some (some (.int .u64 0), 1, 8) by kernel_rfl)
  have HI := Lib.hid h
  have HU := Lib.hid hu
  have h63 := hu.1
  clear h hu
  obtain ⟨a, c, rfl⟩ := Ints.form HI.out
  obtain ⟨a2, c2, rfl⟩ := Ints.form HU.out
  by_cases h0 : l.length = 0
  · have h0' : ((l.length : Int) == 0) = true := by rw [beq_iff_eq]; omega
    have HX : Hid (agreedF l m = 0) := by show _ = _; unfold agreedF; rw [if_pos (List.eq_nil_of_length_eq_zero h0)]
    clear h0
    go_enter Try.func20, Try.ntmps20
    go_wp2_with fail
    go_ret
    exact ⟨ret_i HX.out.symm, (Below.refl _ _).alloc (Nat.le_refl _) _⟩
  · have h0' : ((l.length : Int) == 0) = false := by rw [beq_eq_false_iff_ne]; omega
    have hl1 : 1 ≤ l.length := by omega
    have HX : Hid (agreedF l m = (Go.Sort.insertionSort Go.Sort.ltInt (l.map (atF m)).toArray 0 l.length)[(l.length - 1) / 2]!) := by
      show _ = _; unfold agreedF; rw [if_neg (fun e => h0 (by rw [e]; rfl))]
    clear h0
    go_enter Try.func20, Try.ntmps20
    go_wp2_with (at_make; refine wpList_makeN _ (by rfl) _ _ 41 rfl 22 i0 (.int .u64 0) Try.underlying41 hi hz0 hz1 rfl _ _ rfl rfl l.length rfl rfl (by rw [hz2]; omega) (by unfold maxLen; omega) ?_; intro w1 hblk hb1 hsz1; have hc1 : w1.cell? ⟨w.heap.size, 0, none⟩ = some (.slice a l.length c) := (hb1.cell (p := ⟨w.heap.size, 0, none⟩) (by simp)).trans (cell_new _ _ _ _ rfl))
    have hbw : Below w.heap.size w w1 := ((Below.refl w.heap.size w).alloc (Nat.le_refl _) _).trans (hb1.mono (by simp))
    have hs0 : (w.alloc (.cells #[.slice a l.length c] 40)).heap.size = w.heap.size + 1 := by simp
    rw [hs0] at hblk hsz1
    obtain ⟨B, hB⟩ : ∃ B, w.heap.size + 1 = B := ⟨_, rfl⟩
    obtain ⟨A, hA⟩ : ∃ A, w.heap.size = A := ⟨_, rfl⟩
    rw [hB] at hblk hsz1
    rw [hA] at hbw hc1
    have hAB : A < B := by omega
    have hBs : B < w1.heap.size := by omega
    simp only [hB]
    simp only [hA]
    clear hb1 hsz1 hs0 hB
    have hz : Row w1 B (Array.replicate l.length 0) := by unfold Row u64A; rw [Array.map_replicate]; exact hblk
    clear hblk
    go_loopw [19] (fun x wr => ∃ (k : Nat) (d : Array Int), x = .int .i64 k ∧ k ≤ l.length ∧ Row wr B d ∧ Below B w1 wr ∧ Hid (FillD d l m k))
      (fun x _ => l.length - (intOf x).toNat)
    case atStart => exact ⟨0, _, rfl, Nat.zero_le _, hz, Below.refl _ _, ⟨by simp, fun j hj => by simp [hj]⟩⟩
    case round =>
      clear hz
      obtain ⟨k, d, rfl, hk, hR, hb, HD⟩ := hrel
      have hbr : Below A w wr := hbw.trans (hb.mono (by omega))
      have hcr := (hb.cell (p := ⟨A, 0, none⟩) hAB).trans hc1
      by_cases hlt : (k : Int) < (l.length : Int)
      · obtain ⟨y, hy⟩ : ∃ y, l.getD k 0 = y := ⟨_, rfl⟩
        obtain ⟨b1, o1, rfl, _, cy⟩ := Ints.at_ (HI.out.below (by rw [hA]; exact hbr)) (k := k) (by omega) hy
        have HY := Lib.hid hy
        clear hy
        by_cases hy0 : 0 ≤ y
        · by_cases hym : y < (m.length : Int)
          · obtain ⟨q, rfl⟩ : ∃ q : Nat, y = q := ⟨y.toNat, by omega⟩
            obtain ⟨z, hz⟩ : ∃ z, m.getD q 0 = z := ⟨_, rfl⟩
            obtain ⟨b2, o2, rfl, _, cz⟩ := Ints.at_ (HU.out.below (by rw [hA]; exact hbr)) (k := q) (by omega) hz
            have HZ : Hid (atF m (q : Int) = z) := by show _ = _; unfold atF; rw [if_pos ⟨hy0, hym⟩, Int.toNat_natCast, hz]
            have hfr : wr.frozen? ⟨B, k, none⟩ = false := Blk.free hR k
            have hold := hR.cell (j := k) (by have := HD.out.1; omega) rfl
            clear hz
            go_wp2_with fail
            exact ⟨⟨k + 1, _, by go_num, by omega, hR.set k z, Below.setCell hb (p := ⟨B, k, none⟩) (Nat.le_refl _) _, fill_set HD.out (by omega) (by rw [HY.out]; exact HZ.out)⟩, by simp [intOf]; omega⟩
          · have HZ : Hid (atF m y = 0) := by show _ = _; unfold atF; rw [if_neg (by omega)]
            go_wp2_with fail
            exact ⟨⟨k + 1, d, by go_num, by omega, hR, hb, fill_keep HD.out (by omega) (by rw [HY.out]; exact HZ.out)⟩, by simp [intOf]; omega⟩
        · have HZ : Hid (atF m y = 0) := by show _ = _; unfold atF; rw [if_neg (by omega)]
          go_wp2_with fail
          exact ⟨⟨k + 1, d, by go_num, by omega, hR, hb, fill_keep HD.out (by omega) (by rw [HY.out]; exact HZ.out)⟩, by simp [intOf]; omega⟩
      · have hke : k = l.length := by omega
        subst hke
        have hd := fill_all HD.out
        subst hd
        obtain ⟨D, hD⟩ : ∃ D, (l.map (atF m)).toArray = D := ⟨_, rfl⟩
        have hDs : D.size = l.length := by rw [← hD]; simp
        rw [hD] at hR HX
        have hsort := QU.sort_any B l.length l.length D wr (row_to hR) hDs (by omega)
        obtain ⟨S, hS⟩ : ∃ S, Go.Sort.insertionSort Go.Sort.ltInt D 0 l.length = S := ⟨_, rfl⟩
        have hSs : S.size = l.length := by
          rw [← hS, ← hDs]
          exact (Go.Sort.insertionSort_holds Go.Sort.swo_ltInt D 0 D.size (Nat.zero_le _) (Nat.le_refl _)).1.1
        rw [hS] at HX
        have hSe : (QU.srt D.toList).toArray = S := by
          obtain ⟨hp, hs⟩ := Go.Sort.insertionSort_holds Go.Sort.swo_ltInt D 0 D.size (Nat.zero_le _) (Nat.le_refl _)
          rw [← QU.srt_eq hp hs, hDs]; exact hS
        rw [hSe] at hsort
        obtain ⟨p, q, hq, hqn, w1', w2', w3', w4', w5', w6'⟩ := half_any l.length hl1 (by omega)
        have hql : (q : Int) < (l.length : Int) := Int.ofNat_lt.2 hqn
        obtain ⟨x, hx⟩ : ∃ x, S[q]! = x := ⟨_, rfl⟩
        rw [hq, hx] at HX
        have hqS : q < S.size := by rw [hSs]; exact hqn
        have hx2 := Lib.hid hx
        have hbA2 : Below A w wr := hbr
        have hAB2 : A ≤ B := Nat.le_of_lt hAB
        clear hD hS hq hx hcr hc1 HD hSs hqn hSe
        go_wp2_with (go_at_call 35; refine hsort.mono ?_; rintro e w2 ⟨rfl, hr2, hb2⟩; have cx := hr2.cell (j := q) hqS hx2.out)
        go_ret
        exact ⟨ret_i HX.out.symm, by rw [hA]; exact hb2.below hbA2 (by have := hbA2.size; omega) hAB2⟩

set_option maxRecDepth 100000 in
theorem rat_any (u : Value) (m : List Int) (v : Int) (w : World) (hu : Ints w .u64 u m) : Calls Try.prog 36 #[u, .int .i64 v] w fun e w' => e = .returned (.int .u64 (atF m v)) ∧ w' = w := by
  have h63 := hu.1
  have HU := Lib.hid hu
  clear hu
  obtain ⟨a2, c2, rfl⟩ := Ints.form HU.out
  by_cases hy0 : 0 ≤ v
  · by_cases hym : v < (m.length : Int)
    · obtain ⟨q, rfl⟩ : ∃ q : Nat, v = q := ⟨v.toNat, by omega⟩
      obtain ⟨z, hz⟩ : ∃ z, m.getD q 0 = z := ⟨_, rfl⟩
      obtain ⟨b2, o2, rfl, _, cz⟩ := Ints.at_ HU.out (k := q) (by omega) hz
      have HZ : Hid (atF m (q : Int) = z) := by show _ = _; unfold atF; rw [if_pos ⟨hy0, hym⟩, Int.toNat_natCast, hz]
      clear hz
      go_enter Try.func36, Try.ntmps36
      go_wp2_with fail
      go_ret
      exact ⟨ret_i HZ.out.symm, rfl⟩
    · have HZ : Hid (atF m v = 0) := by show _ = _; unfold atF; rw [if_neg (by omega)]
      go_enter Try.func36, Try.ntmps36
      go_wp2_with fail
      go_ret
      exact ⟨ret_i HZ.out.symm, rfl⟩
  · have HZ : Hid (atF m v = 0) := by show _ = _; unfold atF; rw [if_neg (by omega)]
    go_enter Try.func36, Try.ntmps36
    go_wp2_with fail
    go_ret
    exact ⟨ret_i HZ.out.symm, rfl⟩
/-- how many of the first ones have as much -/
def manyK (l m : List Int) (n : Int) (k : Nat) : Nat := (l.take k).countP fun v => decide (n ≤ atF m v)
theorem manyK_all (l m : List Int) (n : Int) : manyK l m n l.length = manyF l m n := by unfold manyK manyF; rw [List.take_length]
theorem manyK_next {l m : List Int} {n : Int} {k : Nat} (hk : k < l.length) {y : Int} (hy : l.getD k 0 = y) : manyK l m n (k + 1) = manyK l m n k + if n ≤ atF m y then 1 else 0 := by
  unfold manyK
  have e : l[k]? = some y := by rw [List.getElem?_eq_getElem hk, ← hy, List.getD_eq_getElem?_getD, List.getElem?_eq_getElem hk]; rfl
  rw [List.take_add_one, e, List.countP_append]
  congr 1
  by_cases h : n ≤ atF m y <;> simp [h]
theorem manyK_le (l m : List Int) (n : Int) (k : Nat) : manyK l m n k ≤ k := Nat.le_trans List.countP_le_length (by rw [List.length_take]; exact Nat.min_le_left _ _)
set_option maxRecDepth 100000 in
set_option maxHeartbeats 4000000 in
theorem ragreed_any (v u : Value) (l m : List Int) (w : World) (h : Ints w .i64 v l) (hu : Ints w .u64 u m) (hm : ∀ x ∈ m, 0 ≤ x) : Calls Try.prog 21 #[.agg #[v], u] w fun e w' => e = .returned (.int .u64 (agreedF l m)) ∧ Below w.heap.size w w' := by
  rw [← best_is l m hm]
  have hl63 := h.1
  have HI := Lib.hid h
  have HU := Lib.hid hu
  clear h hu
  obtain ⟨a, c, rfl⟩ := Ints.form HI.out
  obtain ⟨A, hA⟩ : ∃ A, w.heap.size = A := ⟨_, rfl⟩
  obtain ⟨w1, hw1⟩ : ∃ w1, w.alloc (.cells #[.slice a l.length c] 40) = w1 := ⟨_, rfl⟩
  have hb1 : Below w.heap.size w w1 := by rw [← hw1]; exact (Below.refl _ _).alloc (Nat.le_refl _) _
  have hc1 : w1.cell? ⟨A, 0, none⟩ = some (.slice a l.length c) := by rw [← hw1, ← hA]; exact cell_new _ _ _ _ rfl
  have HI1 := Lib.hid (HI.out.below hb1)
  have HU1 := Lib.hid (HU.out.below hb1)
  go_enter Try.func21, Try.ntmps21
  go_wp2_with fail
  go_loopw [5, 6] (fun x5 x6 wr => ∃ (k : Nat), x6 = .int .i64 k ∧ k ≤ l.length ∧ x5 = .int .u64 (bestF l m k) ∧ wr = w1) (fun _ x6 _ => l.length - (intOf x6).toNat)
  case atStart => exact ⟨0, rfl, Nat.zero_le _, rfl, rfl⟩
  case round =>
    obtain ⟨k, rfl, hk, rfl, rfl⟩ := hrel
    by_cases hlt : (k : Int) < (l.length : Int)
    · obtain ⟨y, hy⟩ : ∃ y, l.getD k 0 = y := ⟨_, rfl⟩
      obtain ⟨b1, o1, rfl, _, cy⟩ := Ints.at_ HI1.out (k := k) (by omega) hy
      have HB : Hid (bestF l m (k + 1) = if l.length < manyF l m (atF m y) * 2 ∧ bestF l m k < atF m y then atF m y else bestF l m k) := by
        show _ = _
        rw [← hy]; rfl
      obtain ⟨n, hn⟩ : ∃ n, atF m y = n := ⟨_, rfl⟩
      obtain ⟨B, hB⟩ : ∃ B, bestF l m k = B := ⟨_, rfl⟩
      rw [hn, hB] at HB
      rw [hB]
      have hrat := fun wz (h : Ints wz .u64 u m) => rat_any u m y wz h
      rw [hn] at hrat
      clear hy hn hB
      go_wp2_with (first | (go_at_call 36; refine (hrat _ (by exact HU1.out)).mono ?_; rintro e w3 ⟨rfl, rfl⟩))
      go_loopw [8, 9] (fun x8 x9 wq => ∃ (j : Nat), x9 = .int .i64 j ∧ j ≤ l.length ∧ x8 = .int .i64 (manyK l m n j) ∧ wq = w3) (fun _ x9 _ => l.length - (intOf x9).toNat)
      case atStart => exact ⟨0, rfl, Nat.zero_le _, rfl, rfl⟩
      case round =>
        obtain ⟨j, rfl, hj, rfl, rfl⟩ := hrel
        have hMj := manyK_le l m n j
        by_cases hjl : (j : Int) < (l.length : Int)
        · obtain ⟨z, hz⟩ : ∃ z, l.getD j 0 = z := ⟨_, rfl⟩
          obtain ⟨b2, o2, e2, _, cz⟩ := Ints.at_ HI1.out (k := j) (by omega) hz
          simp only [Option.some.injEq, Addr.mk.injEq] at e2
          obtain ⟨rfl, rfl, _⟩ := e2
          have HN := Lib.hid (manyK_next (m := m) (n := n) (show j < l.length by omega) hz)
          obtain ⟨M, hM⟩ : ∃ M, manyK l m n j = M := ⟨_, rfl⟩
          obtain ⟨t, ht⟩ : ∃ t, atF m z = t := ⟨_, rfl⟩
          have hrz := fun wz (h : Ints wz .u64 u m) => rat_any u m z wz h
          rw [ht] at hrz HN
          rw [hM] at HN hMj ⊢
          clear hz hM ht
          by_cases hge : n ≤ t
          · go_wp2_with (first | (go_at_call 36; refine (hrz _ (by exact HU1.out)).mono ?_; rintro e w3 ⟨rfl, rfl⟩))
            refine ⟨⟨j + 1, by go_num, by omega, ?_, by first | rfl | trivial⟩, by simp [intOf]; omega⟩
            rw [HN.out, if_pos hge]; go_num
          · go_wp2_with (first | (go_at_call 36; refine (hrz _ (by exact HU1.out)).mono ?_; rintro e w3 ⟨rfl, rfl⟩))
            refine ⟨⟨j + 1, by go_num, by omega, ?_, by first | rfl | trivial⟩, by simp [intOf]; omega⟩
            rw [HN.out, if_neg (by omega)]; rfl
        · have hje : j = l.length := by omega
          have HM : Hid (manyF l m n = manyK l m n j) := by show _ = _; rw [hje, manyK_all]
          obtain ⟨M, hM⟩ : ∃ M, manyK l m n j = M := ⟨_, rfl⟩
          rw [hM] at HM hMj ⊢
          rw [HM.out] at HB
          clear hM hje HM
          by_cases hq1 : (l.length : Int) < (M : Int) * 2
          · by_cases hq2 : B < n
            · go_wp2_with fail
              refine ⟨⟨k + 1, by go_num, by omega, ?_, by first | rfl | trivial⟩, by simp [intOf]; omega⟩
              rw [HB.out, if_pos ⟨by omega, hq2⟩]
            · go_wp2_with fail
              refine ⟨⟨k + 1, by go_num, by omega, ?_, by first | rfl | trivial⟩, by simp [intOf]; omega⟩
              rw [HB.out, if_neg (fun h => hq2 h.2)]
          · go_wp2_with fail
            refine ⟨⟨k + 1, by go_num, by omega, ?_, by first | rfl | trivial⟩, by simp [intOf]; omega⟩
            rw [HB.out, if_neg (fun h => hq1 (by omega))]
    · have hke : k = l.length := by omega
      subst hke
      go_wp2_with fail
      go_ret
      exact ⟨rfl, by rw [← hA]; exact hb1⟩
theorem ints_step {p : Prop} {wa wc : World} {K : IntKind} {v : Value} {l : List Int} (hI : Ints wa K v l) (h : p ∧ Below wa.heap.size wa wc) : Ints wc K v l := hI.below h.2
theorem drew_step {p : Prop} {wa wc : World} (h : p ∧ Below wa.heap.size wa wc) : Below wa.heap.size wa wc.drew := h.2.drew
theorem step_below {p : Prop} {wa wc wd : World} (h : p ∧ Below wa.heap.size wa wc) (hb : Below wc.heap.size wc wd) : Below wa.heap.size wa wd := h.2.trans (hb.mono h.2.size)
set_option maxRecDepth 100000 in
set_option maxHeartbeats 4000000 in
theorem agrees_law (v u : Value) (l m : List Int) (w : World) (h : Ints w .i64 v l) (hu : Ints w .u64 u m) (hl : l.length * 8 ≤ 140737488355328) (hm : ∀ x ∈ m, 0 ≤ x) : Calls Try.prog 7 #[.agg #[v], u] w fun e w' => e = .returned (.bool true) ∧ Below w.heap.size w w' := by
  have HI := Lib.hid h
  have HU := Lib.hid hu
  clear h hu
  obtain ⟨a, c, rfl⟩ := Ints.form HI.out
  go_enter Try.func7, Try.ntmps7
  go_wp2_with fail
  have hbA : Below w.heap.size w (w.alloc (.cells #[.slice a l.length c] 40)) := (Below.refl _ _).alloc (Nat.le_refl _) _
  have hc0 : (w.alloc (.cells #[.slice a l.length c] 40)).cell? ⟨w.heap.size, 0, none⟩ = some (.slice a l.length c) := cell_new _ _ _ _ rfl
  obtain ⟨wa, hwa⟩ : ∃ wa, w.alloc (.cells #[.slice a l.length c] 40) = wa := ⟨_, rfl⟩
  rw [hwa] at hbA hc0
  simp only [hwa]
  have HIa := Lib.hid (HI.out.below hbA)
  have HUa := Lib.hid (HU.out.below hbA)
  obtain ⟨A, hA⟩ : ∃ A, w.heap.size = A := ⟨_, rfl⟩
  rw [hA] at hc0 hbA
  simp only [hA]
  have hsz : A < wa.heap.size := by rw [← hwa]; simp [hA]
  have HA := Lib.hid hA
  clear hwa hA
  have hS0 : wa.cell? ⟨A, 0, none⟩ = some (.slice a l.length c) ∧ Below wa.heap.size wa wa := ⟨hc0, Below.refl _ _⟩
  go_region_held3 (fun w' => w'.cell? ⟨A, 0, none⟩ = some (.slice a l.length c) ∧ Below wa.heap.size wa w') (first | assumption | (exact ⟨((drew_step (by assumption)).cell (p := ⟨A, 0, none⟩) hsz).trans hc0, drew_step (by assumption)⟩) | (exact ⟨by assumption, by assumption⟩)) (first
    | (go_at_call 15; refine (alive_any _).mono ?_; rintro e wz ⟨rfl, hbz⟩; have hz := step_below (by first | assumption | exact ⟨trivial, drew_step (by assumption)⟩) hbz; have kz := (hz.cell (p := ⟨A, 0, none⟩) hsz).trans hc0)
    | (go_at_call 20; refine (agreed_all _ _ l m _ (ints_step HIa.out (by assumption)) (ints_step HUa.out (by assumption)) hl).mono ?_; rintro e wz ⟨rfl, hbz⟩; have hz := step_below (by assumption) hbz; have kz := (hz.cell (p := ⟨A, 0, none⟩) hsz).trans hc0)
    | (go_at_call 21; refine (ragreed_any _ _ l m _ (ints_step HIa.out (by assumption)) (ints_step HUa.out (by assumption)) hm).mono ?_; rintro e wz ⟨rfl, hbz⟩; have hz := step_below (by assumption) hbz; have kz := (hz.cell (p := ⟨A, 0, none⟩) hsz).trans hc0))
  all_goals
    go_wp2_with fail
    go_ret
    exact ⟨by simp, by rw [HA.out]; exact hbA.trans (hz.mono (by omega))⟩
end Go.Proofs.Ytmokfpjiibociaa.RA
