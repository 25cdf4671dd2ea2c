/-
  The walks of Go's sort of few numbers of 64 bits.
-/
import Derived.Test.YtmokfpjiibociaaAidB
import Derived.Sort.LotA
import Derived.Lib.Hide
import Derived.StillTailTactics
import Derived.Deep.RegionHeld3
import Derived.Deep.QuietTactic
import Derived.BigQuiet
namespace Go.Proofs.Ytmokfpjiibociaa.R
open Go.RowKit
open Aid
set_option linter.unusedSimpArgs false
set_option linter.unusedVariables false

/-- numbers as cells -/
def u64A (d : Array Int) : Array Value := d.map (.int .u64)
theorem u64A_size (d : Array Int) : (u64A d).size = d.size := by simp [u64A]
theorem u64A_get (d : Array Int) (j : Nat) (h : j < d.size) : (u64A d)[j]? = some (.int .u64 d[j]!) := by
  simp [u64A, h]
theorem u64A_swp (d : Array Int) (i j : Nat) (hi : i < d.size) (hj : j < d.size) : ((u64A d).setIfInBounds i (.int .u64 d[j]!)).setIfInBounds j (.int .u64 d[i]!) = u64A (Go.Sort.swp d i j) := by
  unfold u64A Go.Sort.swp
  rw [Array.map_setIfInBounds, Array.map_setIfInBounds]

theorem ret_bool {a b : Bool} (h : a = b) : Ending.returned (.bool a) = .returned (.bool b) := by rw [h]
theorem ins_go (a j : Nat) (d : Array Int) (hj : a < j) (hl : Go.Sort.ltInt d[j]! d[j - 1]! = true) : Go.Sort.insInner Go.Sort.ltInt a j d = Go.Sort.insInner Go.Sort.ltInt a (j - 1) (Go.Sort.swp d j (j - 1)) := by
  obtain ⟨k, rfl⟩ : ∃ k, j = k + 1 := ⟨j - 1, by omega⟩
  rw [Go.Sort.insInner]
  simp only [Nat.add_sub_cancel] at hl ⊢
  rw [if_pos (by simp [hl]; omega)]
theorem ins_stop (a j : Nat) (d : Array Int) (h : j ≤ a ∨ Go.Sort.ltInt d[j]! d[j - 1]! = false) : Go.Sort.insInner Go.Sort.ltInt a j d = d := by
  cases j with
  | zero => rfl
  | succ k =>
    rw [Go.Sort.insInner]
    simp only [Nat.add_sub_cancel] at h
    rw [if_neg]
    simp only [Bool.and_eq_true, decide_eq_true_eq]
    rintro ⟨h1, h2⟩
    rcases h with h | h
    · omega
    · rw [h] at h2; cases h2
theorem out_go (a b i : Nat) (d : Array Int) (h : i < b) : Go.Sort.insOuter Go.Sort.ltInt a b i d = Go.Sort.insOuter Go.Sort.ltInt a b (i + 1) (Go.Sort.insInner Go.Sort.ltInt a i d) := by rw [Go.Sort.insOuter, if_pos h]
theorem out_stop (a b i : Nat) (d : Array Int) (h : ¬ i < b) : Go.Sort.insOuter Go.Sort.ltInt a b i d = d := by rw [Go.Sort.insOuter, if_neg h]

set_option maxRecDepth 100000 in
theorem nan_any (x : Int) (w : World) : Calls Try.prog 70 #[.int .u64 x] w fun e w' => e = .returned (.bool false) ∧ w' = w := by
  go_enter Try.func70, Try.ntmps70
  go_wp2_with fail
  go_ret
  exact ⟨ret_bool (by simp), rfl⟩
set_option maxRecDepth 100000 in
theorem less_any (x y : Int) (w : World) : Calls Try.prog 51 #[.int .u64 x, .int .u64 y] w fun e w' => e = .returned (.bool (Go.Sort.ltInt x y)) ∧ w' = w := by
  go_enter Try.func51, Try.ntmps51
  go_wp2_with (first | (go_at_call 70; refine (nan_any _ _).mono ?_; rintro e w1 ⟨rfl, rfl⟩))
  go_ret
  exact ⟨rfl, rfl⟩

/-- the row in a world -/
def Row (w : World) (g : Nat) (d : Array Int) : Prop := Blk w g 22 (u64A d)
theorem Row.cell {w : World} {g : Nat} {d : Array Int} (h : Row w g d) {j : Nat} (hj : j < d.size) {x : Int} (hx : d[j]! = x) : w.cell? ⟨g, j, none⟩ = some (.int .u64 x) := by
  rw [Blk.cell h, u64A_get _ _ hj, hx]
theorem Row.swap {w : World} {g : Nat} {d : Array Int} (h : Row w g d) (n i j : Nat) (hi : i < d.size) (hj : j < d.size) : Row (((w.drewN n).setCell ⟨g, i, none⟩ (.int .u64 d[j]!)).setCell ⟨g, j, none⟩ (.int .u64 d[i]!)) g (Go.Sort.swp d i j) := by
  have h1 : Blk (w.drewN n) g 22 (u64A d) := h
  have := (h1.set i (.int .u64 d[j]!)).set j (.int .u64 d[i]!)
  rw [u64A_swp _ _ _ hi hj] at this
  exact this

set_option maxRecDepth 100000 in
set_option maxHeartbeats 1000000 in
theorem inssort_any (g cap b : Nat) (d : Array Int) (w : World) (h : Row w g d) (hb : b ≤ d.size) (hsz : d.size ≤ 1000000) :
    Calls Try.prog 45 #[.slice (some ⟨g, 0, none⟩) d.size cap, .int .i64 0, .int .i64 b] w fun e w' => e = .returned (.tuple #[]) ∧ Row w' g (Go.Sort.insertionSort Go.Sort.ltInt d 0 b) ∧ Below g w w' := by
  go_enter Try.func45, Try.ntmps45
  go_wp2_with fail
  go_loopw [6] (fun x wr => ∃ (i : Nat) (dk : Array Int), x = .int .i64 i ∧ 1 ≤ i ∧ i ≤ b + 1 ∧ dk.size = d.size ∧ Row wr g dk ∧ Below g w wr ∧
      Hid (Go.Sort.insOuter Go.Sort.ltInt 0 b i dk = Go.Sort.insertionSort Go.Sort.ltInt d 0 b)) (fun x _ => b + 1 - (intOf x).toNat)
  case atStart => exact ⟨1, d, by simp, by omega, by omega, rfl, h, Below.refl _ _, rfl⟩
  case round =>
    clear h
    obtain ⟨wo, rfl⟩ : ∃ wo : World, wo = wr := ⟨_, rfl⟩
    obtain ⟨i, dk, rfl, hi1, hib, hsk, hR, hB, HO⟩ := hrel
    by_cases hlast : (i : Int) < (b : Int)
    · go_wp2_with fail
      go_loopw [7] (fun x wr => ∃ (j : Nat) (dj : Array Int), x = .int .i64 j ∧ j ≤ i ∧ dj.size = d.size ∧ Row wr g dj ∧ Below g w wr ∧
          Hid (Go.Sort.insInner Go.Sort.ltInt 0 j dj = Go.Sort.insInner Go.Sort.ltInt 0 i dk)) (fun x _ => (intOf x).toNat)
      case atStart => exact ⟨i, dk, rfl, Nat.le_refl _, hsk, hR, hB, rfl⟩
      case round =>
        clear hR hB
        obtain ⟨j, dj, rfl, hji, hsj, hR, hB, HI⟩ := hrel
        have OUT : Hid (Go.Sort.insOuter Go.Sort.ltInt 0 b (i + 1) (Go.Sort.insInner Go.Sort.ltInt 0 j dj) = Go.Sort.insertionSort Go.Sort.ltInt d 0 b) := by
          show _ = _
          rw [HI.out, ← HO.out, out_go 0 b i dk (by omega)]
        by_cases hj0 : (0 : Int) < (j : Int)
        · obtain ⟨x, hx⟩ : ∃ x, dj[j]! = x := ⟨_, rfl⟩
          obtain ⟨y, hy⟩ : ∃ y, dj[j - 1]! = y := ⟨_, rfl⟩
          have cx := hR.cell (j := j) (by omega) hx
          have cy := hR.cell (j := j - 1) (by omega) hy
          have hw1 : IntKind.i64.wrap ((j : Int) - 1) = (j : Int) - 1 := IntWalk.i64_in _ (by omega)
          have ht1 : ((j : Int) - 1).toNat = j - 1 := by omega
          have z1 : (0 : Int) ≤ (j : Int) - 1 := by omega
          have z2 : (j : Int) - 1 < (d.size : Int) := by omega
          have z3 : (j : Int) < (d.size : Int) := by omega
          have z4 : (1 : Int) ≤ (j : Int) := by omega
          have hjp : 0 < j := by omega
          cases hl : Go.Sort.ltInt x y
          · have HS : Hid (Go.Sort.insInner Go.Sort.ltInt 0 j dj = dj) := ins_stop 0 j dj (Or.inr (by rw [hx, hy]; exact hl))
            clear hx hy
            go_wp2_with fail
            go_quiet ((go_at_call 51; exact Calls.quiet_of_same (by refine (less_any _ _ _).mono ?_; rintro e w1 ⟨rfl, rfl⟩; exact ⟨by rw [hl], rfl⟩)))
            go_wp2_with fail
            refine ⟨⟨i + 1, dj, by go_num, by omega, by omega, hsj, hR, below_drewN hB nq, ?_⟩, by simp [intOf]; omega⟩
            have e := OUT.out
            rw [HS.out] at e
            exact e
          · have HS : Hid (Go.Sort.insInner Go.Sort.ltInt 0 j dj = Go.Sort.insInner Go.Sort.ltInt 0 (j - 1) (Go.Sort.swp dj j (j - 1))) := ins_go 0 j dj hjp (by rw [hx, hy]; exact hl)
            have f1 : wr.frozen? ⟨g, j, none⟩ = false := Blk.free hR j
            have f2 : wr.frozen? ⟨g, j - 1, none⟩ = false := Blk.free hR (j - 1)
            have HX := Lib.hid hx
            have HY := Lib.hid hy
            clear hx hy
            go_wp2_with fail
            go_quiet ((go_at_call 51; exact Calls.quiet_of_same (by refine (less_any _ _ _).mono ?_; rintro e w1 ⟨rfl, rfl⟩; exact ⟨by rw [hl], rfl⟩)))
            go_wp2_with fail
            go_region
            all_goals go_wp2_with fail
            have hrow := hR.swap (nq + 1) j (j - 1) (by omega) (by omega)
            rw [HX.out, HY.out] at hrow
            refine ⟨⟨j - 1, Go.Sort.swp dj j (j - 1), by congr 1; omega, by omega, by simp [Go.Sort.swp, hsj], hrow, ?_, ?_⟩, by simp [intOf]; omega⟩
            · exact Below.setCell (Below.setCell (below_drewN hB (nq + 1)) (p := ⟨g, j, none⟩) (Nat.le_refl _) _) (p := ⟨g, j - 1, none⟩) (Nat.le_refl _) _
            · show _ = _
              rw [← HS.out, HI.out]
        · have HS : Hid (Go.Sort.insInner Go.Sort.ltInt 0 j dj = dj) := ins_stop 0 j dj (Or.inl (by omega))
          have hd0 : decide ((0 : Int) < (j : Int)) = false := by simpa using hj0
          have hd1 : decide (0 < j) = false := by simp; omega
          go_wp2_with fail
          go_quiet (fail)
          go_wp2_with fail
          refine ⟨⟨i + 1, dj, by go_num, by omega, by omega, hsj, hR, below_drewN hB nq, ?_⟩, by simp [intOf]; omega⟩
          have e := OUT.out
          rw [HS.out] at e
          exact e
    · have hie : ¬ i < b := by omega
      go_wp2_with fail
      go_end0
      have e := HO.out
      rw [out_stop _ _ _ _ hie] at e
      exact ⟨rfl, by rw [← e]; exact hR, hB⟩

set_option maxRecDepth 100000 in
theorem len64_any (x : Nat) (w : World) (hx : x < 256) : Calls Try.prog 55 #[.int .u64 x] w fun e w' => (∃ k : Int, e = .returned (.int .i64 k)) ∧ w' = w := by
  have h1 : ¬ (4294967296 : Int) ≤ (x : Int) := by omega
  have h2 : ¬ (65536 : Int) ≤ (x : Int) := by omega
  have h3 : ¬ (256 : Int) ≤ (x : Int) := by omega
  have h4 : IntKind.u8.wrap (x : Int) = (x : Int) := IntWalk.u8_in _ (by omega)
  go_enter Try.func55, Try.ntmps55
  go_wp2_with fail
  go_ret
  exact ⟨⟨_, rfl⟩, rfl⟩
set_option maxRecDepth 100000 in
theorem len_any (x : Nat) (w : World) (hx : x < 256) : Calls Try.prog 43 #[.int .u64 x] w fun e w' => (∃ k : Int, e = .returned (.int .i64 k)) ∧ w' = w := by
  have h1 : IntKind.u64.wrap (x : Int) = (x : Int) := by rw [IntKind.wrap_u64]; omega
  go_enter Try.func43, Try.ntmps43
  go_wp2_with (go_at_call 55; refine (len64_any x _ hx).mono ?_; rintro e w1 ⟨⟨k, rfl⟩, rfl⟩)
  go_ret
  exact ⟨⟨_, rfl⟩, rfl⟩

set_option maxRecDepth 100000 in
set_option maxHeartbeats 1000000 in
theorem pdq_any (g cap : Nat) (lim : Int) (d : Array Int) (w : World) (h : Row w g d) (hsz : d.size ≤ 12) :
    Calls Try.prog 42 #[.slice (some ⟨g, 0, none⟩) d.size cap, .int .i64 0, .int .i64 d.size, .int .i64 lim] w fun e w' => e = .returned (.tuple #[]) ∧ Row w' g (Go.Sort.insertionSort Go.Sort.ltInt d 0 d.size) ∧ Below g w w' := by
  have h12 : (d.size : Int) ≤ 12 := by omega
  have H := Lib.hid h
  clear h
  go_enter Try.func42, Try.ntmps42
  go_wp2_with fail
  refine wp_loop_rounds 1 ?_
  rw [rounds_succ]
  go_wp2_with (go_at_call 45; refine (inssort_any g cap d.size d _ H.out (Nat.le_refl _) (by omega)).mono ?_; rintro e w1 ⟨rfl, hr, hb⟩)
  (try simp only [Exit.inBlock, Exit.then])
  refine bodyPost_ret (results_none rfl _ _ _) rfl ?_
  exact ⟨rfl, hr, hb⟩

set_option maxRecDepth 100000 in
set_option maxHeartbeats 1000000 in
theorem sort_any (g cap : Nat) (d : Array Int) (w : World) (h : Row w g d) (hsz : d.size ≤ 12) :
    Calls Try.prog 35 #[.slice (some ⟨g, 0, none⟩) d.size cap] w fun e w' => e = .returned (.tuple #[]) ∧ Row w' g (Go.Sort.insertionSort Go.Sort.ltInt d 0 d.size) ∧ Below g w w' := by
  have h1 : IntKind.u64.wrap (d.size : Int) = (d.size : Int) := by rw [IntKind.wrap_u64]; omega
  go_enter Try.func35, Try.ntmps35
  go_wp2_with (first
    | (go_at_call 43; refine (len_any d.size _ (by omega)).mono ?_; rintro e w1 ⟨⟨k, rfl⟩, rfl⟩)
    | (go_at_call 42; refine (pdq_any g cap k d _ h hsz).mono ?_; rintro e w1 ⟨rfl, hr, hb⟩))
  first | go_end0 | ((try simp only [Exit.inBlock, Exit.then]); refine bodyPost_ret (results_none rfl _ _ _) rfl ?_)
  exact ⟨rfl, hr, hb⟩
end Go.Proofs.Ytmokfpjiibociaa.R
