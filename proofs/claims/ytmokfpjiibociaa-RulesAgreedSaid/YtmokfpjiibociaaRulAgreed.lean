/-
  The walk of Agreed, of few voters.
-/
import Derived.Test.YtmokfpjiibociaaRulBase
namespace Go.Proofs.Ytmokfpjiibociaa.R
open Go.RowKit
open Aid
set_option linter.unusedSimpArgs false
set_option linter.unusedVariables false

/-- what a node has -/
def atF (m : List Int) (x : Int) : Int := if 0 ≤ x ∧ x < m.length then m.getD x.toNat 0 else 0
/-- what enough have -/
def agreedF (l m : List Int) : Int := if l = [] then 0 else (Go.Sort.insertionSort Go.Sort.ltInt (l.map (atF m)).toArray 0 l.length)[(l.length - 1) / 2]!
theorem Row.set {w : World} {g : Nat} {d : Array Int} (h : Row w g d) (j : Nat) (x : Int) : Row (w.setCell ⟨g, j, none⟩ (.int .u64 x)) g (d.setIfInBounds j x) := by
  have := Blk.set h j (.int .u64 x)
  unfold Row u64A
  rw [Array.map_setIfInBounds]; exact this
theorem Row.below {w w' : World} {B g : Nat} {d : Array Int} (h : Row w g d) (hb : Below B w w') (hg : g < B) : Row w' g d := Blk.below h hb hg

theorem half_facts (n : Nat) (h1 : 1 ≤ n) (h12 : n ≤ 12) : ∃ p q : Nat, (n - 1) / 2 = q ∧ q < n ∧ q ≤ 12 ∧ IntKind.i64.wrap ((n : Int) - 1) = (p : Int) ∧ (p : Int).tdiv 2 = (q : Int) ∧ IntKind.i64.wrap (q : Int) = (q : Int) ∧ wrap64 (q : Int) = (q : Int) := by
  refine ⟨n - 1, (n - 1) / 2, rfl, by omega, by omega, (IntWalk.i64_in _ (by omega)).trans (by omega), ?_, IntWalk.i64_in _ (by omega), IntWalk.wrap64_in _ (by omega)⟩
  rw [Int.tdiv_eq_ediv_of_nonneg (by omega)]; omega
def FillD (d : Array Int) (l m : List Int) (k : Nat) : Prop := d.size = l.length ∧ ∀ j, j < l.length → d[j]! = if j < k then atF m (l.getD j 0) else 0
theorem fill_set {d : Array Int} {l m : List Int} {k : Nat} (h : FillD d l m k) (hk : k < l.length) {y : Int} (hy : atF m (l.getD k 0) = y) : FillD (d.setIfInBounds k y) l m (k + 1) := by
  refine ⟨by rw [Array.size_setIfInBounds]; exact h.1, fun j hj => ?_⟩
  have hjs : j < d.size := by rw [h.1]; exact hj
  rw [getElem!_pos _ _ (by rw [Array.size_setIfInBounds]; exact hjs), Array.getElem_setIfInBounds hjs]
  by_cases e : k = j
  · subst e; rw [if_pos rfl, if_pos (by omega), hy]
  · rw [if_neg e, ← getElem!_pos d j hjs, h.2 j hj]
    by_cases h' : j < k
    · rw [if_pos h', if_pos (by omega)]
    · rw [if_neg h', if_neg (by omega)]
theorem fill_keep {d : Array Int} {l m : List Int} {k : Nat} (h : FillD d l m k) (hk : k < l.length) (hy : atF m (l.getD k 0) = 0) : FillD d l m (k + 1) := by
  refine ⟨h.1, fun j hj => ?_⟩
  rw [h.2 j hj]
  by_cases e : j = k
  · subst e; rw [if_neg (by omega), if_pos (by omega), hy]
  · by_cases h' : j < k
    · rw [if_pos h', if_pos (by omega)]
    · rw [if_neg h', if_neg (by omega)]
theorem fill_all {d : Array Int} {l m : List Int} (h : FillD d l m l.length) : d = (l.map (atF m)).toArray := by
  apply Array.ext
  · rw [h.1]; simp
  · intro j h1 h2
    have hj : j < l.length := by rw [← h.1]; exact h1
    rw [← getElem!_pos d j h1, h.2 j hj, if_pos hj]
    simp [List.getD_eq_getElem?_getD, hj]

set_option maxRecDepth 100000 in
set_option maxHeartbeats 1000000 in
theorem agreed_any (v u : Value) (l m : List Int) (w : World) (h : Ints w .i64 v l) (hu : Ints w .u64 u m) (h12 : l.length ≤ 12) : Calls Try.prog 20 #[.agg #[v], u] w fun e w' => e = .returned (.int .u64 (agreedF l m)) ∧ Below w.heap.size w w' := by
  obtain ⟨i0, hi, hz0, hz1, hz2⟩ := info_parts (show (Try.prog.info? 22).map (fun i => (i.zero, i.size, i.bytes)) = some (some (.int .u64 0), 1, 8) by kernel_rfl)
  have HI := Lib.hid h
  have HU := Lib.hid hu
  have h63 := hu.1
  clear h hu
  obtain ⟨a, c, rfl⟩ := Ints.form HI.out
  obtain ⟨a2, c2, rfl⟩ := Ints.form HU.out
  by_cases h0 : l.length = 0
  · have h0' : ((l.length : Int) == 0) = true := by rw [beq_iff_eq]; omega
    have HX : Hid (agreedF l m = 0) := by show _ = _; unfold agreedF; rw [if_pos (List.eq_nil_of_length_eq_zero h0)]
    clear h0
    go_enter Try.func20, Try.ntmps20
    go_wp2_with fail
    go_ret
    exact ⟨ret_i HX.out.symm, (Below.refl _ _).alloc (Nat.le_refl _) _⟩
  · have h0' : ((l.length : Int) == 0) = false := by rw [beq_eq_false_iff_ne]; omega
    have hl1 : 1 ≤ l.length := by omega
    have HX : Hid (agreedF l m = (Go.Sort.insertionSort Go.Sort.ltInt (l.map (atF m)).toArray 0 l.length)[(l.length - 1) / 2]!) := by
      show _ = _; unfold agreedF; rw [if_neg (fun e => h0 (by rw [e]; rfl))]
    clear h0
    go_enter Try.func20, Try.ntmps20
    go_wp2_with (at_make; refine wpList_makeN _ (by rfl) _ _ 41 rfl 22 i0 (.int .u64 0) Try.underlying41 hi hz0 hz1 rfl _ _ rfl rfl l.length rfl rfl (by rw [hz2]; omega) (by unfold maxLen; omega) ?_; intro w1 hblk hb1 hsz1; have hc1 : w1.cell? ⟨w.heap.size, 0, none⟩ = some (.slice a l.length c) := (hb1.cell (p := ⟨w.heap.size, 0, none⟩) (by simp)).trans (cell_new _ _ _ _ rfl))
    have hbw : Below w.heap.size w w1 := ((Below.refl w.heap.size w).alloc (Nat.le_refl _) _).trans (hb1.mono (by simp))
    have hs0 : (w.alloc (.cells #[.slice a l.length c] 40)).heap.size = w.heap.size + 1 := by simp
    rw [hs0] at hblk hsz1
    obtain ⟨B, hB⟩ : ∃ B, w.heap.size + 1 = B := ⟨_, rfl⟩
    obtain ⟨A, hA⟩ : ∃ A, w.heap.size = A := ⟨_, rfl⟩
    rw [hB] at hblk hsz1
    rw [hA] at hbw hc1
    have hAB : A < B := by omega
    have hBs : B < w1.heap.size := by omega
    simp only [hB]
    simp only [hA]
    clear hb1 hsz1 hs0 hB
    have hz : Row w1 B (Array.replicate l.length 0) := by unfold Row u64A; rw [Array.map_replicate]; exact hblk
    clear hblk
    go_loopw [19] (fun x wr => ∃ (k : Nat) (d : Array Int), x = .int .i64 k ∧ k ≤ l.length ∧ Row wr B d ∧ Below B w1 wr ∧ Hid (FillD d l m k))
      (fun x _ => l.length - (intOf x).toNat)
    case atStart => exact ⟨0, _, rfl, Nat.zero_le _, hz, Below.refl _ _, ⟨by simp, fun j hj => by simp [hj]⟩⟩
    case round =>
      clear hz
      obtain ⟨k, d, rfl, hk, hR, hb, HD⟩ := hrel
      have hbr : Below A w wr := hbw.trans (hb.mono (by omega))
      have hcr := (hb.cell (p := ⟨A, 0, none⟩) hAB).trans hc1
      by_cases hlt : (k : Int) < (l.length : Int)
      · obtain ⟨y, hy⟩ : ∃ y, l.getD k 0 = y := ⟨_, rfl⟩
        obtain ⟨b1, o1, rfl, _, cy⟩ := Ints.at_ (HI.out.below (by rw [hA]; exact hbr)) (k := k) (by omega) hy
        have HY := Lib.hid hy
        clear hy
        by_cases hy0 : 0 ≤ y
        · by_cases hym : y < (m.length : Int)
          · obtain ⟨q, rfl⟩ : ∃ q : Nat, y = q := ⟨y.toNat, by omega⟩
            obtain ⟨z, hz⟩ : ∃ z, m.getD q 0 = z := ⟨_, rfl⟩
            obtain ⟨b2, o2, rfl, _, cz⟩ := Ints.at_ (HU.out.below (by rw [hA]; exact hbr)) (k := q) (by omega) hz
            have HZ : Hid (atF m (q : Int) = z) := by show _ = _; unfold atF; rw [if_pos ⟨hy0, hym⟩, Int.toNat_natCast, hz]
            have hfr : wr.frozen? ⟨B, k, none⟩ = false := Blk.free hR k
            have hold := hR.cell (j := k) (by have := HD.out.1; omega) rfl
            clear hz
            go_wp2_with fail
            exact ⟨⟨k + 1, _, by go_num, by omega, hR.set k z, Below.setCell hb (p := ⟨B, k, none⟩) (Nat.le_refl _) _, fill_set HD.out (by omega) (by rw [HY.out]; exact HZ.out)⟩, by simp [intOf]; omega⟩
          · have HZ : Hid (atF m y = 0) := by show _ = _; unfold atF; rw [if_neg (by omega)]
            go_wp2_with fail
            exact ⟨⟨k + 1, d, by go_num, by omega, hR, hb, fill_keep HD.out (by omega) (by rw [HY.out]; exact HZ.out)⟩, by simp [intOf]; omega⟩
        · have HZ : Hid (atF m y = 0) := by show _ = _; unfold atF; rw [if_neg (by omega)]
          go_wp2_with fail
          exact ⟨⟨k + 1, d, by go_num, by omega, hR, hb, fill_keep HD.out (by omega) (by rw [HY.out]; exact HZ.out)⟩, by simp [intOf]; omega⟩
      · have hke : k = l.length := by omega
        subst hke
        have hd := fill_all HD.out
        subst hd
        obtain ⟨D, hD⟩ : ∃ D, (l.map (atF m)).toArray = D := ⟨_, rfl⟩
        have hDs : D.size = l.length := by rw [← hD]; simp
        rw [hD] at hR HX
        have hsort := sort_any B l.length D wr hR (by omega)
        rw [hDs] at hsort
        obtain ⟨S, hS⟩ : ∃ S, Go.Sort.insertionSort Go.Sort.ltInt D 0 l.length = S := ⟨_, rfl⟩
        have hSs : S.size = l.length := by
          rw [← hS, ← hDs]
          exact (Go.Sort.insertionSort_holds Go.Sort.swo_ltInt D 0 D.size (Nat.zero_le _) (Nat.le_refl _)).1.1
        rw [hS] at hsort HX
        obtain ⟨p, q, hq, hqn, _, w1', w2', w3', w4'⟩ := half_facts l.length hl1 h12
        have hql : (q : Int) < (l.length : Int) := Int.ofNat_lt.2 hqn
        obtain ⟨x, hx⟩ : ∃ x, S[q]! = x := ⟨_, rfl⟩
        rw [hq, hx] at HX
        have hqS : q < S.size := by rw [hSs]; exact hqn
        have hx2 := Lib.hid hx
        have hbA2 : Below A w wr := hbr
        have hAB2 : A ≤ B := Nat.le_of_lt hAB
        clear hD hS hq hx hcr hc1 HD hSs hqn
        go_wp2_with (go_at_call 35; refine hsort.mono ?_; rintro e w2 ⟨rfl, hr2, hb2⟩; have cx := hr2.cell (j := q) hqS hx2.out)
        go_ret
        exact ⟨ret_i HX.out.symm, by rw [hA]; exact hbA2.trans (hb2.mono hAB2)⟩
end Go.Proofs.Ytmokfpjiibociaa.R
