/-
  The walks of Go's sort of few ints, the first cells of a block.
-/
import Derived.Test.YtmokfpjiibociaaRulEnough
namespace Go.Proofs.Ytmokfpjiibociaa.RI
open Go.RowKit
open Aid
open R (ret_bool ins_go ins_stop out_go out_stop len_any len64_any)
set_option linter.unusedSimpArgs false
set_option linter.unusedVariables false

def i64A (d : Array Int) : Array Value := d.map (.int .i64)
theorem i64A_size (d : Array Int) : (i64A d).size = d.size := by simp [i64A]
theorem i64A_get (d : Array Int) (rest : Array Value) (j : Nat) (h : j < d.size) : (i64A d ++ rest)[j]? = some (.int .i64 d[j]!) := by
  rw [Array.getElem?_append_left (by rw [i64A_size]; exact h)]
  simp [i64A, h]
theorem i64A_swp (d : Array Int) (rest : Array Value) (i j : Nat) (hi : i < d.size) (hj : j < d.size) : ((i64A d ++ rest).setIfInBounds i (.int .i64 d[j]!)).setIfInBounds j (.int .i64 d[i]!) = i64A (Go.Sort.swp d i j) ++ rest := by
  rw [Array.setIfInBounds_append_left (by rw [i64A_size]; exact hi), Array.setIfInBounds_append_left (by rw [Array.size_setIfInBounds, i64A_size]; exact hj)]
  congr 1
  unfold i64A Go.Sort.swp
  rw [Array.map_setIfInBounds, Array.map_setIfInBounds]

set_option maxRecDepth 100000 in
theorem nan_any (x : Int) (w : World) : Calls Try.prog 74 #[.int .i64 x] w fun e w' => e = .returned (.bool false) ∧ w' = w := by
  go_enter Try.func74, Try.ntmps74
  go_wp2_with fail
  go_ret
  exact ⟨ret_bool (by simp), rfl⟩
set_option maxRecDepth 100000 in
theorem less_any (x y : Int) (w : World) : Calls Try.prog 62 #[.int .i64 x, .int .i64 y] w fun e w' => e = .returned (.bool (Go.Sort.ltInt x y)) ∧ w' = w := by
  go_enter Try.func62, Try.ntmps62
  go_wp2_with (first | (go_at_call 74; refine (nan_any _ _).mono ?_; rintro e w1 ⟨rfl, rfl⟩))
  go_ret
  exact ⟨rfl, rfl⟩

/-- the first cells of a block -/
def Row (w : World) (g : Nat) (d : Array Int) : Prop := ∃ rest, Blk w g 3 (i64A d ++ rest)
theorem Row.cell {w : World} {g : Nat} {d : Array Int} (h : Row w g d) {j : Nat} (hj : j < d.size) {x : Int} (hx : d[j]! = x) : w.cell? ⟨g, j, none⟩ = some (.int .i64 x) := by
  obtain ⟨rest, h⟩ := h
  rw [Blk.cell h, i64A_get _ _ _ hj, hx]
theorem Row.free {w : World} {g : Nat} {d : Array Int} (h : Row w g d) (j : Nat) : w.frozen? ⟨g, j, none⟩ = false := by
  obtain ⟨rest, h⟩ := h
  exact Blk.free h j
theorem Row.swap {w : World} {g : Nat} {d : Array Int} (h : Row w g d) (n i j : Nat) (hi : i < d.size) (hj : j < d.size) : Row (((w.drewN n).setCell ⟨g, i, none⟩ (.int .i64 d[j]!)).setCell ⟨g, j, none⟩ (.int .i64 d[i]!)) g (Go.Sort.swp d i j) := by
  obtain ⟨rest, h⟩ := h
  have h1 : Blk (w.drewN n) g 3 (i64A d ++ rest) := h
  have := (h1.set i (.int .i64 d[j]!)).set j (.int .i64 d[i]!)
  rw [i64A_swp _ _ _ _ hi hj] at this
  exact ⟨rest, this⟩

set_option maxRecDepth 100000 in
set_option maxHeartbeats 1000000 in
theorem inssort_any (g cap b : Nat) (d : Array Int) (w : World) (h : Row w g d) (hb : b ≤ d.size) (hsz : d.size ≤ 1000000) :
    Calls Try.prog 56 #[.slice (some ⟨g, 0, none⟩) d.size cap, .int .i64 0, .int .i64 b] w fun e w' => e = .returned (.tuple #[]) ∧ Row w' g (Go.Sort.insertionSort Go.Sort.ltInt d 0 b) ∧ Below g w w' := by
  go_enter Try.func56, Try.ntmps56
  go_wp2_with fail
  go_loopw [6] (fun x wr => ∃ (i : Nat) (dk : Array Int), x = .int .i64 i ∧ 1 ≤ i ∧ i ≤ b + 1 ∧ dk.size = d.size ∧ Row wr g dk ∧ Below g w wr ∧
      Hid (Go.Sort.insOuter Go.Sort.ltInt 0 b i dk = Go.Sort.insertionSort Go.Sort.ltInt d 0 b)) (fun x _ => b + 1 - (intOf x).toNat)
  case atStart => exact ⟨1, d, by simp, by omega, by omega, rfl, h, Below.refl _ _, rfl⟩
  case round =>
    clear h
    obtain ⟨wo, rfl⟩ : ∃ wo : World, wo = wr := ⟨_, rfl⟩
    obtain ⟨i, dk, rfl, hi1, hib, hsk, hR, hB, HO⟩ := hrel
    by_cases hlast : (i : Int) < (b : Int)
    · go_wp2_with fail
      go_loopw [7] (fun x wr => ∃ (j : Nat) (dj : Array Int), x = .int .i64 j ∧ j ≤ i ∧ dj.size = d.size ∧ Row wr g dj ∧ Below g w wr ∧
          Hid (Go.Sort.insInner Go.Sort.ltInt 0 j dj = Go.Sort.insInner Go.Sort.ltInt 0 i dk)) (fun x _ => (intOf x).toNat)
      case atStart => exact ⟨i, dk, rfl, Nat.le_refl _, hsk, hR, hB, rfl⟩
      case round =>
        clear hR hB
        obtain ⟨j, dj, rfl, hji, hsj, hR, hB, HI⟩ := hrel
        have OUT : Hid (Go.Sort.insOuter Go.Sort.ltInt 0 b (i + 1) (Go.Sort.insInner Go.Sort.ltInt 0 j dj) = Go.Sort.insertionSort Go.Sort.ltInt d 0 b) := by
          show _ = _
          rw [HI.out, ← HO.out, out_go 0 b i dk (by omega)]
        by_cases hj0 : (0 : Int) < (j : Int)
        · obtain ⟨x, hx⟩ : ∃ x, dj[j]! = x := ⟨_, rfl⟩
          obtain ⟨y, hy⟩ : ∃ y, dj[j - 1]! = y := ⟨_, rfl⟩
          have cx := hR.cell (j := j) (by omega) hx
          have cy := hR.cell (j := j - 1) (by omega) hy
          have hw1 : IntKind.i64.wrap ((j : Int) - 1) = (j : Int) - 1 := IntWalk.i64_in _ (by omega)
          have ht1 : ((j : Int) - 1).toNat = j - 1 := by omega
          have z1 : (0 : Int) ≤ (j : Int) - 1 := by omega
          have z2 : (j : Int) - 1 < (d.size : Int) := by omega
          have z3 : (j : Int) < (d.size : Int) := by omega
          have z4 : (1 : Int) ≤ (j : Int) := by omega
          have hjp : 0 < j := by omega
          cases hl : Go.Sort.ltInt x y
          · have HS : Hid (Go.Sort.insInner Go.Sort.ltInt 0 j dj = dj) := ins_stop 0 j dj (Or.inr (by rw [hx, hy]; exact hl))
            clear hx hy
            go_wp2_with fail
            go_quiet ((go_at_call 62; exact Calls.quiet_of_same (by refine (less_any _ _ _).mono ?_; rintro e w1 ⟨rfl, rfl⟩; exact ⟨by rw [hl], rfl⟩)))
            go_wp2_with fail
            refine ⟨⟨i + 1, dj, by go_num, by omega, by omega, hsj, hR, below_drewN hB nq, ?_⟩, by simp [intOf]; omega⟩
            have e := OUT.out
            rw [HS.out] at e
            exact e
          · have HS : Hid (Go.Sort.insInner Go.Sort.ltInt 0 j dj = Go.Sort.insInner Go.Sort.ltInt 0 (j - 1) (Go.Sort.swp dj j (j - 1))) := ins_go 0 j dj hjp (by rw [hx, hy]; exact hl)
            have f1 : wr.frozen? ⟨g, j, none⟩ = false := Row.free hR j
            have f2 : wr.frozen? ⟨g, j - 1, none⟩ = false := Row.free hR (j - 1)
            have HX := Lib.hid hx
            have HY := Lib.hid hy
            clear hx hy
            go_wp2_with fail
            go_quiet ((go_at_call 62; exact Calls.quiet_of_same (by refine (less_any _ _ _).mono ?_; rintro e w1 ⟨rfl, rfl⟩; exact ⟨by rw [hl], rfl⟩)))
            go_wp2_with fail
            go_region
            all_goals go_wp2_with fail
            have hrow := hR.swap (nq + 1) j (j - 1) (by omega) (by omega)
            rw [HX.out, HY.out] at hrow
            refine ⟨⟨j - 1, Go.Sort.swp dj j (j - 1), by congr 1; omega, by omega, by simp [Go.Sort.swp, hsj], hrow, ?_, ?_⟩, by simp [intOf]; omega⟩
            · exact Below.setCell (Below.setCell (below_drewN hB (nq + 1)) (p := ⟨g, j, none⟩) (Nat.le_refl _) _) (p := ⟨g, j - 1, none⟩) (Nat.le_refl _) _
            · show _ = _
              rw [← HS.out, HI.out]
        · have HS : Hid (Go.Sort.insInner Go.Sort.ltInt 0 j dj = dj) := ins_stop 0 j dj (Or.inl (by omega))
          have hd0 : decide ((0 : Int) < (j : Int)) = false := by simpa using hj0
          have hd1 : decide (0 < j) = false := by simp; omega
          go_wp2_with fail
          go_quiet (fail)
          go_wp2_with fail
          refine ⟨⟨i + 1, dj, by go_num, by omega, by omega, hsj, hR, below_drewN hB nq, ?_⟩, by simp [intOf]; omega⟩
          have e := OUT.out
          rw [HS.out] at e
          exact e
    · have hie : ¬ i < b := by omega
      go_wp2_with fail
      go_end0
      have e := HO.out
      rw [out_stop _ _ _ _ hie] at e
      exact ⟨rfl, by rw [← e]; exact hR, hB⟩

set_option maxRecDepth 100000 in
set_option maxHeartbeats 1000000 in
theorem pdq_any (g cap : Nat) (lim : Int) (d : Array Int) (w : World) (h : Row w g d) (hsz : d.size ≤ 12) :
    Calls Try.prog 44 #[.slice (some ⟨g, 0, none⟩) d.size cap, .int .i64 0, .int .i64 d.size, .int .i64 lim] w fun e w' => e = .returned (.tuple #[]) ∧ Row w' g (Go.Sort.insertionSort Go.Sort.ltInt d 0 d.size) ∧ Below g w w' := by
  have h12 : (d.size : Int) ≤ 12 := by omega
  have H := Lib.hid h
  clear h
  go_enter Try.func44, Try.ntmps44
  go_wp2_with fail
  refine wp_loop_rounds 1 ?_
  rw [rounds_succ]
  go_wp2_with (go_at_call 56; refine (inssort_any g cap d.size d _ H.out (Nat.le_refl _) (by omega)).mono ?_; rintro e w1 ⟨rfl, hr, hb⟩)
  (try simp only [Exit.inBlock, Exit.then])
  refine bodyPost_ret (results_none rfl _ _ _) rfl ?_
  exact ⟨rfl, hr, hb⟩

set_option maxRecDepth 100000 in
set_option maxHeartbeats 1000000 in
theorem sort_any (g cap : Nat) (d : Array Int) (w : World) (h : Row w g d) (hsz : d.size ≤ 12) :
    Calls Try.prog 40 #[.slice (some ⟨g, 0, none⟩) d.size cap] w fun e w' => e = .returned (.tuple #[]) ∧ Row w' g (Go.Sort.insertionSort Go.Sort.ltInt d 0 d.size) ∧ Below g w w' := by
  have h1 : IntKind.u64.wrap (d.size : Int) = (d.size : Int) := by rw [IntKind.wrap_u64]; omega
  go_enter Try.func40, Try.ntmps40
  go_wp2_with (first
    | (go_at_call 43; refine (len_any d.size _ (by omega)).mono ?_; rintro e w1 ⟨⟨k, rfl⟩, rfl⟩)
    | (go_at_call 44; refine (pdq_any g cap k d _ h hsz).mono ?_; rintro e w1 ⟨rfl, hr, hb⟩))
  first | go_end0 | ((try simp only [Exit.inBlock, Exit.then]); refine bodyPost_ret (results_none rfl _ _ _) rfl ?_)
  exact ⟨rfl, hr, hb⟩
end Go.Proofs.Ytmokfpjiibociaa.RI
