/-
  The walks of Go's sort of numbers of type int: the partitions.
-/
import Derived.Deep.DeepCutAuto
import Derived.Test.YtcpkpljeimbdiaaGreatPdqAI
namespace Go.Proofs.YtcpkpljeimbdiaaGreat.QI
open Go.RowKit
open Aid
open Go.Sort (swp ltInt)
set_option linter.unusedSimpArgs false
set_option linter.unusedVariables false

theorem su_go {p : Int → Bool} {d : Array Int} {i j : Nat} (h : i ≤ j) (hp : p d[i]! = true) : Go.Sort.scanUp p d j i = Go.Sort.scanUp p d j (i + 1) := by rw [Go.Sort.scanUp, if_pos (by simp [h, hp])]
theorem su_stop {p : Int → Bool} {d : Array Int} {i j : Nat} (h : j < i ∨ p d[i]! = false) : Go.Sort.scanUp p d j i = i := by
  rw [Go.Sort.scanUp, if_neg]
  simp only [Bool.and_eq_true, decide_eq_true_eq]
  rintro ⟨h1, h2⟩
  rcases h with h | h
  · omega
  · rw [h] at h2; cases h2
theorem sw_go {p : Int → Bool} {d : Array Int} {i j : Nat} (h : i ≤ j + 1) (hp : p d[j + 1]! = true) : Go.Sort.scanDown p d i (j + 1) = Go.Sort.scanDown p d i j := by rw [Go.Sort.scanDown, if_pos (by simp [h, hp])]
theorem sw_stop {p : Int → Bool} {d : Array Int} {i j : Nat} (h : j < i ∨ p d[j]! = false) : Go.Sort.scanDown p d i j = j := by
  cases j with
  | zero => rfl
  | succ j =>
    rw [Go.Sort.scanDown, if_neg]
    simp only [Bool.and_eq_true, decide_eq_true_eq]
    rintro ⟨h1, h2⟩
    rcases h with h | h
    · omega
    · rw [h] at h2; cases h2

set_option maxRecDepth 100000 in
set_option maxHeartbeats 8000000 in
theorem parteq_any (g cap N a b pv : Nat) (d : Array Int) (w : World) (h : Row w g d) (hN : d.size = N) (h1 : a ≤ pv) (h2 : pv < b) (hb : b ≤ N) (hsz : N ≤ 140737488355328) :
    Calls Tryz.prog 79 #[.slice (some ⟨g, 0, none⟩) N cap, .int .i64 a, .int .i64 b, .int .i64 pv] w fun e w' => e = .returned (.int .i64 ((Go.Sort.partitionEqual ltInt d a b pv).1 : Nat)) ∧ Row w' g (Go.Sort.partitionEqual ltInt d a b pv).2 ∧ Only g w w' := by
  obtain ⟨z, hz⟩ : ∃ z, d[a]! = z := ⟨_, rfl⟩
  obtain ⟨x, hx⟩ : ∃ x, d[pv]! = x := ⟨_, rfl⟩
  have cz := h.cell (j := a) (by omega) hz
  have cx := h.cell (j := pv) (by omega) hx
  have fa := h.free a
  have fp := h.free pv
  have a1 : (a : Int) < (N : Int) := by omega
  have p1 : (pv : Int) < (N : Int) := by omega
  have HRO := Lib.hid (Row.swapped h (i := a) (j := pv) (by omega) (by omega) hz hx)
  obtain ⟨u2, hu2⟩ := h.second (i := a) (j := pv) (.int .i64 x) (by omega)
  have HD : Hid (Go.Sort.partitionEqual ltInt d a b pv = Go.Sort.partEqLoop ltInt a (a + 1) (b - 1) (swp d a pv)) := rfl
  clear hz hx
  go_enter Tryz.func79, Tryz.ntmps79
  go_wp2_with fail
  go_region
  all_goals go_wp2_with fail
  go_loopw [9, 10] (fun s9 s10 wr => ∃ (i j : Nat) (dk : Array Int), s9 = .int .i64 i ∧ s10 = .int .i64 j ∧ a < i ∧ i ≤ j + 1 ∧ j < b ∧ dk.size = N ∧ Row wr g dk ∧ Only g w wr ∧
      Hid (Go.Sort.partEqLoop ltInt a i j dk = Go.Sort.partitionEqual ltInt d a b pv)) (fun s9 s10 _ => (intOf s10 + 1 - intOf s9).toNat)
  case atStart => exact ⟨a + 1, b - 1, swp d a pv, by congr 1, by congr 1; omega, by omega, by omega, by omega, by rw [swp_sz]; exact hN, HRO.out.1, HRO.out.2.trans (Only.drew _ _), by show _ = _; rw [HD.out]⟩
  case round =>
    clear h cz cx fa fp HRO hu2
    obtain ⟨i0, j0, dk, rfl, rfl, q1, q2, q3, hsk, hR, hO, HI⟩ := hrel
    obtain ⟨x, hx⟩ : ∃ x, dk[a]! = x := ⟨_, rfl⟩
    have HX := Lib.hid hx
    clear hx
    obtain ⟨I2, HI2⟩ : ∃ I2, Hid (Go.Sort.scanUp (fun y => !ltInt x y) dk j0 i0 = I2) := ⟨_, rfl⟩
    go_wp2_with fail
    go_loopw [9] (fun s9 wr => ∃ i : Nat, s9 = .int .i64 i ∧ i0 ≤ i ∧ i ≤ j0 + 1 ∧ Row wr g dk ∧ Only g w wr ∧ Hid (Go.Sort.scanUp (fun y => !ltInt x y) dk j0 i = I2)) (fun s9 _ => j0 + 1 - (intOf s9).toNat)
    case atStart => exact ⟨i0, rfl, Nat.le_refl _, q2, hR, hO, HI2⟩
    case round =>
      clear hR hO
      obtain ⟨i, rfl, r1, r2, hR, hO, HU⟩ := hrel
      have cx := hR.cell (j := a) (by omega) HX.out
      have a0 : (a : Int) < (N : Int) := by omega
      go_upto_region 3 with fail
      go_cut [43] (fun s wx => ∃ c : Bool, s = .bool c ∧ Row wx g dk ∧ Only g w wx ∧ (c = true → i ≤ j0 ∧ (!ltInt x dk[i]!) = true) ∧ (c = false → j0 < i ∨ (!ltInt x dk[i]!) = false))
      case first =>
        by_cases hij : (i : Int) ≤ (j0 : Int)
        · obtain ⟨y, hy⟩ : ∃ y, dk[i]! = y := ⟨_, rfl⟩
          have cy := hR.cell (j := i) (by omega) hy
          have y1 : (i : Int) < (N : Int) := by omega
          have HIJ : i ≤ j0 := by omega
          have HY := Lib.hid hy
          clear hy
          cases hl : ltInt x y
          · go_quiet ((go_at_call 78; exact Calls.quiet_of_same (by refine (less_any _ _ _).mono ?_; rintro e w1 ⟨rfl, rfl⟩; exact ⟨by rw [hl], rfl⟩)))
            go_wp2_with fail
            go_meet
            exact ⟨true, rfl, hR.drewN _, hO.trans (Only.drewN _ _ _), by simp [HY.out, hl, HIJ], by simp [HY.out, hl, HIJ]⟩
          · go_quiet ((go_at_call 78; exact Calls.quiet_of_same (by refine (less_any _ _ _).mono ?_; rintro e w1 ⟨rfl, rfl⟩; exact ⟨by rw [hl], rfl⟩)))
            go_wp2_with fail
            go_meet
            exact ⟨false, rfl, hR.drewN _, hO.trans (Only.drewN _ _ _), by simp [HY.out, hl, HIJ], by simp [HY.out, hl, HIJ]⟩
        · have hd0 : decide ((i : Int) ≤ (j0 : Int)) = false := by simpa using hij
          have hd1 : decide (i ≤ j0) = false := by simp; omega
          go_quiet (fail)
          go_wp2_with fail
          go_meet
          exact ⟨false, rfl, hR.drewN _, hO.trans (Only.drewN _ _ _), by simp, fun _ => .inl (by omega)⟩
      case rest =>
        clear hR hO
        obtain ⟨c, rfl, hR, hO, hc1, hc0⟩ := hcut
        cases c
        · have hI : i = I2 := by
            have := HU.out
            rw [su_stop (hc0 rfl)] at this
            exact this
          have hs1 := Lib.hid (hc0 rfl)
          clear hc0 hc1 HU
          subst hI
          obtain ⟨J2, HJ2⟩ : ∃ J2, Hid (Go.Sort.scanDown (fun y => ltInt x y) dk i j0 = J2) := ⟨_, rfl⟩
          go_wp2_with fail
          go_loopw [10] (fun s10 wr => ∃ j : Nat, s10 = .int .i64 j ∧ i ≤ j + 1 ∧ j ≤ j0 ∧ Row wr g dk ∧ Only g w wr ∧ Hid (Go.Sort.scanDown (fun y => ltInt x y) dk i j = J2)) (fun s10 _ => (intOf s10).toNat)
          case atStart => exact ⟨j0, rfl, r2, Nat.le_refl _, hR, hO, HJ2⟩
          case round =>
            clear hR hO cx
            obtain ⟨j, rfl, r3, r4, hR, hO, HV⟩ := hrel
            have cx := hR.cell (j := a) (by omega) HX.out
            go_upto_region 5 with fail
            go_cut [59] (fun s wx => ∃ c : Bool, s = .bool c ∧ Row wx g dk ∧ Only g w wx ∧ (c = true → i ≤ j ∧ (ltInt x dk[j]!) = true) ∧ (c = false → j < i ∨ (ltInt x dk[j]!) = false))
            case first =>
              by_cases hij : (i : Int) ≤ (j : Int)
              · obtain ⟨y, hy⟩ : ∃ y, dk[j]! = y := ⟨_, rfl⟩
                have cy := hR.cell (j := j) (by omega) hy
                have y1 : (j : Int) < (N : Int) := by omega
                have HIJ : i ≤ j := by omega
                have HY := Lib.hid hy
                clear hy
                cases hl : ltInt x y
                · go_quiet ((go_at_call 78; exact Calls.quiet_of_same (by refine (less_any _ _ _).mono ?_; rintro e w1 ⟨rfl, rfl⟩; exact ⟨by rw [hl], rfl⟩)))
                  go_wp2_with fail
                  go_meet
                  exact ⟨false, rfl, hR.drewN _, hO.trans (Only.drewN _ _ _), by simp [HY.out, hl, HIJ], by simp [HY.out, hl, HIJ]⟩
                · go_quiet ((go_at_call 78; exact Calls.quiet_of_same (by refine (less_any _ _ _).mono ?_; rintro e w1 ⟨rfl, rfl⟩; exact ⟨by rw [hl], rfl⟩)))
                  go_wp2_with fail
                  go_meet
                  exact ⟨true, rfl, hR.drewN _, hO.trans (Only.drewN _ _ _), by simp [HY.out, hl, HIJ], by simp [HY.out, hl, HIJ]⟩
              · have hd0 : decide ((i : Int) ≤ (j : Int)) = false := by simpa using hij
                have hd1 : decide (i ≤ j) = false := by simp; omega
                go_quiet (fail)
                go_wp2_with fail
                go_meet
                exact ⟨false, rfl, hR.drewN _, hO.trans (Only.drewN _ _ _), by simp, fun _ => .inl (by omega)⟩
            case rest =>
              clear hR hO
              obtain ⟨c, rfl, hR, hO, hc1, hc0⟩ := hcut
              cases c
              · have hJ : j = J2 := by
                  have := HV.out
                  rw [sw_stop (hc0 rfl)] at this
                  exact this
                have hs2 := Lib.hid (hc0 rfl)
                clear hc0 hc1 HV
                subst hJ
                have HE := Go.Sort.partEqLoop_eq ltInt a i0 j0 dk
                rw [HX.out, HI2.out, HJ2.out] at HE
                by_cases hgt : (j : Int) < (i : Int)
                · rw [if_pos (by omega)] at HE
                  have e := HI.out
                  rw [HE] at e
                  go_wp2_with fail
                  go_ret
                  rw [← e]
                  exact ⟨rfl, hR, hO⟩
                · rw [if_neg (by omega)] at HE
                  have e := HI.out
                  rw [HE] at e
                  have HEE := Lib.hid e
                  obtain ⟨y, hy⟩ : ∃ y, dk[i]! = y := ⟨_, rfl⟩
                  obtain ⟨z, hz⟩ : ∃ z, dk[j]! = z := ⟨_, rfl⟩
                  have cy := hR.cell (j := i) (by omega) hy
                  have cz := hR.cell (j := j) (by omega) hz
                  have fi := hR.free i
                  have fj := hR.free j
                  have y1 : (i : Int) < (N : Int) := by omega
                  have z1 : (j : Int) < (N : Int) := by omega
                  obtain ⟨u2, hu2⟩ := hR.second (i := i) (j := j) (.int .i64 z) (by omega)
                  have HRO := Lib.hid (Row.swapped hR (i := i) (j := j) (by omega) (by omega) hy hz)
                  have hne : i ≠ j := by
                    rintro rfl
                    rcases hs1.out with h | h
                    · omega
                    · rcases hs2.out with h' | h'
                      · omega
                      · rw [h'] at h; cases h
                  clear hy hz HE e
                  go_wp2_with fail
                  go_region
                  all_goals go_wp2_with fail
                  refine ⟨⟨i + 1, j - 1, swp dk i j, by congr 1, by congr 1; omega, by omega, by omega, by omega, by rw [swp_sz]; exact hsk, HRO.out.1, (hO.trans HRO.out.2).trans (Only.drew _ _), HEE⟩, by simp [intOf]; omega⟩
              · obtain ⟨q, rfl⟩ : ∃ q, j = q + 1 := ⟨j - 1, by have := (hc1 rfl).1; omega⟩
                have hq : ((q + 1 : Nat) : Int) - 1 = (q : Int) := by omega
                have hup : i ≤ q + 1 ∧ Go.Sort.scanDown (fun y => ltInt x y) dk i q = J2 := by
                  have := HV.out
                  rw [sw_go (hc1 rfl).1 (hc1 rfl).2] at this
                  exact ⟨(hc1 rfl).1, this⟩
                clear hc0 hc1
                go_wp2_with fail
                exact ⟨⟨q, by congr 1, hup.1, by omega, hR, hO, hup.2⟩, by simp [intOf]⟩
        · have hup : i + 1 ≤ j0 + 1 ∧ Go.Sort.scanUp (fun y => !ltInt x y) dk j0 (i + 1) = I2 := by
            have := HU.out
            rw [su_go (hc1 rfl).1 (hc1 rfl).2] at this
            exact ⟨by have := (hc1 rfl).1; omega, this⟩
          clear hc0 hc1
          go_wp2_with fail
          exact ⟨⟨i + 1, by go_num, by omega, hup.1, hR, hO, hup.2⟩, by simp [intOf]; omega⟩
end Go.Proofs.YtcpkpljeimbdiaaGreat.QI
