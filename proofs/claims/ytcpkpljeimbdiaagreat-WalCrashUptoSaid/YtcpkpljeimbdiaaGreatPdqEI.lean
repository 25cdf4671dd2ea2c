/-
  The walks of Go's sort of numbers of type int: the partition.
-/
import Derived.Deep.DeepCutAuto
import Derived.Test.YtcpkpljeimbdiaaGreatPdqDI
namespace Go.Proofs.YtcpkpljeimbdiaaGreat.QI
open Go.RowKit
open Aid
open Go.Sort (swp ltInt)
set_option linter.unusedSimpArgs false
set_option linter.unusedVariables false

def partF (a b : Nat) (d : Array Int) : Nat × Bool × Array Int :=
  if Go.Sort.scanUp (fun y => ltInt y d[a]!) d (b - 1) (a + 1) > Go.Sort.scanDown (fun y => !ltInt y d[a]!) d (Go.Sort.scanUp (fun y => ltInt y d[a]!) d (b - 1) (a + 1)) (b - 1) then
    (Go.Sort.scanDown (fun y => !ltInt y d[a]!) d (Go.Sort.scanUp (fun y => ltInt y d[a]!) d (b - 1) (a + 1)) (b - 1), true, swp d (Go.Sort.scanDown (fun y => !ltInt y d[a]!) d (Go.Sort.scanUp (fun y => ltInt y d[a]!) d (b - 1) (a + 1)) (b - 1)) a)
  else
    ((Go.Sort.partLoop ltInt a (Go.Sort.scanUp (fun y => ltInt y d[a]!) d (b - 1) (a + 1) + 1) (Go.Sort.scanDown (fun y => !ltInt y d[a]!) d (Go.Sort.scanUp (fun y => ltInt y d[a]!) d (b - 1) (a + 1)) (b - 1) - 1) (swp d (Go.Sort.scanUp (fun y => ltInt y d[a]!) d (b - 1) (a + 1)) (Go.Sort.scanDown (fun y => !ltInt y d[a]!) d (Go.Sort.scanUp (fun y => ltInt y d[a]!) d (b - 1) (a + 1)) (b - 1)))).1, false,
     swp (Go.Sort.partLoop ltInt a (Go.Sort.scanUp (fun y => ltInt y d[a]!) d (b - 1) (a + 1) + 1) (Go.Sort.scanDown (fun y => !ltInt y d[a]!) d (Go.Sort.scanUp (fun y => ltInt y d[a]!) d (b - 1) (a + 1)) (b - 1) - 1) (swp d (Go.Sort.scanUp (fun y => ltInt y d[a]!) d (b - 1) (a + 1)) (Go.Sort.scanDown (fun y => !ltInt y d[a]!) d (Go.Sort.scanUp (fun y => ltInt y d[a]!) d (b - 1) (a + 1)) (b - 1)))).2
      (Go.Sort.partLoop ltInt a (Go.Sort.scanUp (fun y => ltInt y d[a]!) d (b - 1) (a + 1) + 1) (Go.Sort.scanDown (fun y => !ltInt y d[a]!) d (Go.Sort.scanUp (fun y => ltInt y d[a]!) d (b - 1) (a + 1)) (b - 1) - 1) (swp d (Go.Sort.scanUp (fun y => ltInt y d[a]!) d (b - 1) (a + 1)) (Go.Sort.scanDown (fun y => !ltInt y d[a]!) d (Go.Sort.scanUp (fun y => ltInt y d[a]!) d (b - 1) (a + 1)) (b - 1)))).1 a)
theorem part_is (d : Array Int) (a b pv : Nat) : Go.Sort.partition ltInt d a b pv = partF a b (swp d a pv) := rfl
set_option maxRecDepth 100000 in
set_option maxHeartbeats 16000000 in
theorem part_any (g cap N a b pv : Nat) (d : Array Int) (w : World) (h : Row w g d) (hN : d.size = N) (h1 : a ≤ pv) (h2 : pv < b) (hb : b ≤ N) (hsz : N ≤ 140737488355328) :
    Calls Tryz.prog 80 #[.slice (some ⟨g, 0, none⟩) N cap, .int .i64 a, .int .i64 b, .int .i64 pv] w fun e w' => e = .returned (.tuple #[.int .i64 ((Go.Sort.partition ltInt d a b pv).1 : Nat), .bool (Go.Sort.partition ltInt d a b pv).2.1]) ∧ Row w' g (Go.Sort.partition ltInt d a b pv).2.2 ∧ Only g w w' := by
  obtain ⟨z, hz⟩ : ∃ z, d[a]! = z := ⟨_, rfl⟩
  obtain ⟨x, hx⟩ : ∃ x, d[pv]! = x := ⟨_, rfl⟩
  have cz := h.cell (j := a) (by omega) hz
  have cx := h.cell (j := pv) (by omega) hx
  have fa := h.free a
  have fp := h.free pv
  have a1 : (a : Int) < (N : Int) := by omega
  have p1 : (pv : Int) < (N : Int) := by omega
  have HRO := Lib.hid (Row.swapped h (i := a) (j := pv) (by omega) (by omega) hz hx)
  obtain ⟨u2, hu2⟩ := h.second (i := a) (j := pv) (.int .i64 x) (by omega)
  have HD := Lib.hid (part_is d a b pv)
  obtain ⟨dk, hdk⟩ : ∃ dk, swp d a pv = dk := ⟨_, rfl⟩
  have hsk : dk.size = N := by rw [← hdk, swp_sz]; exact hN
  rw [hdk] at HRO HD
  have q2 : a + 1 ≤ b - 1 + 1 := by omega
  have q1 : a < a + 1 := by omega
  have q3 : b - 1 < b := by omega
  clear hz hx
  go_enter Tryz.func80, Tryz.ntmps80
  go_wp2_with fail
  go_region
  all_goals go_wp2_with fail
  have hR := HRO.out.1.drew
  have hO := HRO.out.2.trans (Only.drew _ _)
  generalize ((w.setCell ⟨g, a, none⟩ (.int .i64 x)).setCell ⟨g, pv, none⟩ (.int .i64 z)).drew = wb at hR hO ⊢
  clear h cz cx fa fp HRO hu2 hdk
  obtain ⟨x, hx⟩ : ∃ x, dk[a]! = x := ⟨_, rfl⟩
  have HX := Lib.hid hx
  clear hx
  obtain ⟨i0, hi0⟩ : ∃ i0, a + 1 = i0 := ⟨_, rfl⟩
  obtain ⟨j0, hj0⟩ : ∃ j0, b - 1 = j0 := ⟨_, rfl⟩
  have ei : (a : Int) + 1 = (i0 : Int) := by omega
  have ej : (b : Int) - 1 = (j0 : Int) := by omega
  rw [ei, ej]
  rw [hi0] at q1 q2
  rw [hj0] at q2 q3
  unfold partF at HD
  rw [hi0, hj0] at HD
  obtain ⟨I2, HI2⟩ : ∃ I2, Hid (Go.Sort.scanUp (fun y => ltInt y x) dk j0 i0 = I2) := ⟨_, rfl⟩
  go_wp2_with fail
  go_loopw [10] (fun si wr => ∃ i : Nat, si = .int .i64 i ∧ i0 ≤ i ∧ i ≤ j0 + 1 ∧ Row wr g dk ∧ Only g w wr ∧ Hid (Go.Sort.scanUp (fun y => ltInt y x) dk j0 i = I2)) (fun si _ => j0 + 1 - (intOf si).toNat)
  case atStart => exact ⟨i0, rfl, Nat.le_refl _, q2, hR, hO, HI2⟩
  case round =>
    clear hR hO
    obtain ⟨i, rfl, r1, r2, hR, hO, HU⟩ := hrel
    have cx := hR.cell (j := a) (by omega) HX.out
    have a0 : (a : Int) < (N : Int) := by omega
    go_upto_region 3 with fail
    go_cut [43] (fun s wx => ∃ c : Bool, s = .bool c ∧ Row wx g dk ∧ Only g w wx ∧ (c = true → i ≤ j0 ∧ (ltInt dk[i]! x) = true) ∧ (c = false → j0 < i ∨ (ltInt dk[i]! x) = false))
    case first =>
      by_cases hij : (i : Int) ≤ (j0 : Int)
      · obtain ⟨y, hy⟩ : ∃ y, dk[i]! = y := ⟨_, rfl⟩
        have cy := hR.cell (j := i) (by omega) hy
        have y1 : (i : Int) < (N : Int) := by omega
        have HIJ : i ≤ j0 := by omega
        have HY := Lib.hid hy
        clear hy
        cases hl : ltInt y x
        · go_quiet ((go_at_call 78; exact Calls.quiet_of_same (by refine (less_any _ _ _).mono ?_; rintro e w1 ⟨rfl, rfl⟩; exact ⟨by rw [hl], rfl⟩)))
          go_wp2_with fail
          go_meet
          exact ⟨false, rfl, hR.drewN _, hO.trans (Only.drewN _ _ _), by simp [HY.out, hl, HIJ], by simp [HY.out, hl, HIJ]⟩
        · go_quiet ((go_at_call 78; exact Calls.quiet_of_same (by refine (less_any _ _ _).mono ?_; rintro e w1 ⟨rfl, rfl⟩; exact ⟨by rw [hl], rfl⟩)))
          go_wp2_with fail
          go_meet
          exact ⟨true, rfl, hR.drewN _, hO.trans (Only.drewN _ _ _), by simp [HY.out, hl, HIJ], by simp [HY.out, hl, HIJ]⟩
      · have hd0 : decide ((i : Int) ≤ (j0 : Int)) = false := by simpa using hij
        have hd1 : decide (i ≤ j0) = false := by simp; omega
        go_quiet (fail)
        go_wp2_with fail
        go_meet
        exact ⟨false, rfl, hR.drewN _, hO.trans (Only.drewN _ _ _), by simp, fun _ => .inl (by omega)⟩
    case rest =>
      clear hR hO
      obtain ⟨c, rfl, hR, hO, hc1, hc0⟩ := hcut
      cases c
      · have hI : i = I2 := by
          have := HU.out
          rw [su_stop (hc0 rfl)] at this
          exact this
        have hs1 := Lib.hid (hc0 rfl)
        clear hc0 hc1 HU
        subst hI
        obtain ⟨J2, HJ2⟩ : ∃ J2, Hid (Go.Sort.scanDown (fun y => !ltInt y x) dk i j0 = J2) := ⟨_, rfl⟩
        go_wp2_with fail
        go_loopw [11] (fun sj wr => ∃ j : Nat, sj = .int .i64 j ∧ i ≤ j + 1 ∧ j ≤ j0 ∧ Row wr g dk ∧ Only g w wr ∧ Hid (Go.Sort.scanDown (fun y => !ltInt y x) dk i j = J2)) (fun sj _ => (intOf sj).toNat)
        case atStart => exact ⟨j0, rfl, r2, Nat.le_refl _, hR, hO, HJ2⟩
        case round =>
          clear hR hO cx
          obtain ⟨j, rfl, r3, r4, hR, hO, HV⟩ := hrel
          have cx := hR.cell (j := a) (by omega) HX.out
          go_upto_region 5 with fail
          go_cut [60] (fun s wx => ∃ c : Bool, s = .bool c ∧ Row wx g dk ∧ Only g w wx ∧ (c = true → i ≤ j ∧ (!ltInt dk[j]! x) = true) ∧ (c = false → j < i ∨ (!ltInt dk[j]! x) = false))
          case first =>
            by_cases hij : (i : Int) ≤ (j : Int)
            · obtain ⟨y, hy⟩ : ∃ y, dk[j]! = y := ⟨_, rfl⟩
              have cy := hR.cell (j := j) (by omega) hy
              have y1 : (j : Int) < (N : Int) := by omega
              have HIJ : i ≤ j := by omega
              have HY := Lib.hid hy
              clear hy
              cases hl : ltInt y x
              · go_quiet ((go_at_call 78; exact Calls.quiet_of_same (by refine (less_any _ _ _).mono ?_; rintro e w1 ⟨rfl, rfl⟩; exact ⟨by rw [hl], rfl⟩)))
                go_wp2_with fail
                go_meet
                exact ⟨true, rfl, hR.drewN _, hO.trans (Only.drewN _ _ _), by simp [HY.out, hl, HIJ], by simp [HY.out, hl, HIJ]⟩
              · go_quiet ((go_at_call 78; exact Calls.quiet_of_same (by refine (less_any _ _ _).mono ?_; rintro e w1 ⟨rfl, rfl⟩; exact ⟨by rw [hl], rfl⟩)))
                go_wp2_with fail
                go_meet
                exact ⟨false, rfl, hR.drewN _, hO.trans (Only.drewN _ _ _), by simp [HY.out, hl, HIJ], by simp [HY.out, hl, HIJ]⟩
            · have hd0 : decide ((i : Int) ≤ (j : Int)) = false := by simpa using hij
              have hd1 : decide (i ≤ j) = false := by simp; omega
              go_quiet (fail)
              go_wp2_with fail
              go_meet
              exact ⟨false, rfl, hR.drewN _, hO.trans (Only.drewN _ _ _), by simp, fun _ => .inl (by omega)⟩
          case rest =>
            clear hR hO
            obtain ⟨c, rfl, hR, hO, hc1, hc0⟩ := hcut
            cases c
            · have hJ : j = J2 := by
                have := HV.out
                rw [sw_stop (hc0 rfl)] at this
                exact this
              have hs2 := Lib.hid (hc0 rfl)
              clear hc0 hc1 HV
              subst hJ
              by_cases hgt : (j : Int) < (i : Int)
              · have e : Go.Sort.partition ltInt d a b pv = (j, true, swp dk j a) := by
                  rw [HD.out]; simp only [HX.out, HI2.out, HJ2.out]; rw [if_pos (by omega)]
                have HEE := Lib.hid e
                clear e
                obtain ⟨z, hz⟩ : ∃ z, dk[j]! = z := ⟨_, rfl⟩
                have cxa := hR.cell (j := a) (by omega) HX.out
                have cz := hR.cell (j := j) (by omega) hz
                have fa := hR.free a
                have fj := hR.free j
                have z1 : (j : Int) < (N : Int) := by omega
                obtain ⟨u2, hu2⟩ := hR.second (i := j) (j := a) (.int .i64 x) (by omega)
                have HRO := Lib.hid (Row.swapped hR (i := j) (j := a) (by omega) (by omega) hz HX.out)
                clear hz
                go_wp2_with fail
                go_region
                all_goals go_wp2_with fail
                go_ret2
                rw [HEE.out]
                exact ⟨rfl, HRO.out.1, (hO.trans HRO.out.2).trans (Only.drew _ _)⟩
              · obtain ⟨RR, HR0⟩ : ∃ RR, Hid (Go.Sort.partLoop ltInt a (i + 1) (j - 1) (swp dk i j) = RR) := ⟨_, rfl⟩
                have HD2 : Hid (Go.Sort.partition ltInt d a b pv = (RR.1, false, swp RR.2 RR.1 a)) := by
                  show _ = _
                  rw [HD.out]; simp only [HX.out, HI2.out, HJ2.out]; rw [if_neg (by omega), HR0.out]
                have hne : i ≠ j := by
                  rintro rfl
                  rcases hs1.out with h | h
                  · omega
                  · rcases hs2.out with h' | h'
                    · omega
                    · rw [h] at h'; cases h'
                obtain ⟨y, hy⟩ : ∃ y, dk[i]! = y := ⟨_, rfl⟩
                obtain ⟨z, hz⟩ : ∃ z, dk[j]! = z := ⟨_, rfl⟩
                have cy := hR.cell (j := i) (by omega) hy
                have cz := hR.cell (j := j) (by omega) hz
                have fi := hR.free i
                have fj := hR.free j
                have y1 : (i : Int) < (N : Int) := by omega
                have z1 : (j : Int) < (N : Int) := by omega
                obtain ⟨u2, hu2⟩ := hR.second (i := i) (j := j) (.int .i64 z) (by omega)
                have HRO := Lib.hid (Row.swapped hR (i := i) (j := j) (by omega) (by omega) hy hz)
                clear hy hz
                go_wp2_with fail
                go_region
                all_goals go_wp2_with fail
                go_loopw [10, 11] (fun s10 s11 wr => ∃ (i j : Nat) (dk : Array Int), s10 = .int .i64 i ∧ s11 = .int .i64 j ∧ a < i ∧ i ≤ j + 1 ∧ j < b ∧ dk.size = N ∧ Row wr g dk ∧ Only g w wr ∧
                    Hid (Go.Sort.partLoop ltInt a i j dk = RR)) (fun s10 s11 _ => (intOf s11 + 1 - intOf s10).toNat)
                case atStart => exact ⟨i + 1, j - 1, swp dk i j, by congr 1, by congr 1; omega, by omega, by omega, by omega, by rw [swp_sz]; exact hsk, HRO.out.1, (hO.trans HRO.out.2).trans (Only.drew _ _), HR0⟩
                case round =>
                  clear hR hO HX HI2 HJ2 hsk HR0 HRO cx cy cz fi fj hu2 hs1 hs2 q1 q2 q3 r1 r2 r3 r4 hgt hne y1 z1
                  obtain ⟨i0, j0, dk, rfl, rfl, q1, q2, q3, hsk, hR, hO, HL⟩ := hrel
                  obtain ⟨x, hx⟩ : ∃ x, dk[a]! = x := ⟨_, rfl⟩
                  have HX := Lib.hid hx
                  clear hx
                  obtain ⟨I2, HI2⟩ : ∃ I2, Hid (Go.Sort.scanUp (fun y => ltInt y x) dk j0 i0 = I2) := ⟨_, rfl⟩
                  go_wp2_with fail
                  go_loopw [10] (fun si wr => ∃ i : Nat, si = .int .i64 i ∧ i0 ≤ i ∧ i ≤ j0 + 1 ∧ Row wr g dk ∧ Only g w wr ∧ Hid (Go.Sort.scanUp (fun y => ltInt y x) dk j0 i = I2)) (fun si _ => j0 + 1 - (intOf si).toNat)
                  case atStart => exact ⟨i0, rfl, Nat.le_refl _, q2, hR, hO, HI2⟩
                  case round =>
                    clear hR hO
                    obtain ⟨i, rfl, r1, r2, hR, hO, HU⟩ := hrel
                    have cx := hR.cell (j := a) (by omega) HX.out
                    have a0 : (a : Int) < (N : Int) := by omega
                    go_upto_region 13 with fail
                    go_cut [112] (fun s wx => ∃ c : Bool, s = .bool c ∧ Row wx g dk ∧ Only g w wx ∧ (c = true → i ≤ j0 ∧ (ltInt dk[i]! x) = true) ∧ (c = false → j0 < i ∨ (ltInt dk[i]! x) = false))
                    case first =>
                      by_cases hij : (i : Int) ≤ (j0 : Int)
                      · obtain ⟨y, hy⟩ : ∃ y, dk[i]! = y := ⟨_, rfl⟩
                        have cy := hR.cell (j := i) (by omega) hy
                        have y1 : (i : Int) < (N : Int) := by omega
                        have HIJ : i ≤ j0 := by omega
                        have HY := Lib.hid hy
                        clear hy
                        cases hl : ltInt y x
                        · go_quiet ((go_at_call 78; exact Calls.quiet_of_same (by refine (less_any _ _ _).mono ?_; rintro e w1 ⟨rfl, rfl⟩; exact ⟨by rw [hl], rfl⟩)))
                          go_wp2_with fail
                          go_meet
                          exact ⟨false, rfl, hR.drewN _, hO.trans (Only.drewN _ _ _), by simp [HY.out, hl, HIJ], by simp [HY.out, hl, HIJ]⟩
                        · go_quiet ((go_at_call 78; exact Calls.quiet_of_same (by refine (less_any _ _ _).mono ?_; rintro e w1 ⟨rfl, rfl⟩; exact ⟨by rw [hl], rfl⟩)))
                          go_wp2_with fail
                          go_meet
                          exact ⟨true, rfl, hR.drewN _, hO.trans (Only.drewN _ _ _), by simp [HY.out, hl, HIJ], by simp [HY.out, hl, HIJ]⟩
                      · have hd0 : decide ((i : Int) ≤ (j0 : Int)) = false := by simpa using hij
                        have hd1 : decide (i ≤ j0) = false := by simp; omega
                        go_quiet (fail)
                        go_wp2_with fail
                        go_meet
                        exact ⟨false, rfl, hR.drewN _, hO.trans (Only.drewN _ _ _), by simp, fun _ => .inl (by omega)⟩
                    case rest =>
                      clear hR hO
                      obtain ⟨c, rfl, hR, hO, hc1, hc0⟩ := hcut
                      cases c
                      · have hI : i = I2 := by
                          have := HU.out
                          rw [su_stop (hc0 rfl)] at this
                          exact this
                        have hs1 := Lib.hid (hc0 rfl)
                        clear hc0 hc1 HU
                        subst hI
                        obtain ⟨J2, HJ2⟩ : ∃ J2, Hid (Go.Sort.scanDown (fun y => !ltInt y x) dk i j0 = J2) := ⟨_, rfl⟩
                        go_wp2_with fail
                        go_loopw [11] (fun sj wr => ∃ j : Nat, sj = .int .i64 j ∧ i ≤ j + 1 ∧ j ≤ j0 ∧ Row wr g dk ∧ Only g w wr ∧ Hid (Go.Sort.scanDown (fun y => !ltInt y x) dk i j = J2)) (fun sj _ => (intOf sj).toNat)
                        case atStart => exact ⟨j0, rfl, r2, Nat.le_refl _, hR, hO, HJ2⟩
                        case round =>
                          clear hR hO cx
                          obtain ⟨j, rfl, r3, r4, hR, hO, HV⟩ := hrel
                          have cx := hR.cell (j := a) (by omega) HX.out
                          go_upto_region 15 with fail
                          go_cut [129] (fun s wx => ∃ c : Bool, s = .bool c ∧ Row wx g dk ∧ Only g w wx ∧ (c = true → i ≤ j ∧ (!ltInt dk[j]! x) = true) ∧ (c = false → j < i ∨ (!ltInt dk[j]! x) = false))
                          case first =>
                            by_cases hij : (i : Int) ≤ (j : Int)
                            · obtain ⟨y, hy⟩ : ∃ y, dk[j]! = y := ⟨_, rfl⟩
                              have cy := hR.cell (j := j) (by omega) hy
                              have y1 : (j : Int) < (N : Int) := by omega
                              have HIJ : i ≤ j := by omega
                              have HY := Lib.hid hy
                              clear hy
                              cases hl : ltInt y x
                              · go_quiet ((go_at_call 78; exact Calls.quiet_of_same (by refine (less_any _ _ _).mono ?_; rintro e w1 ⟨rfl, rfl⟩; exact ⟨by rw [hl], rfl⟩)))
                                go_wp2_with fail
                                go_meet
                                exact ⟨true, rfl, hR.drewN _, hO.trans (Only.drewN _ _ _), by simp [HY.out, hl, HIJ], by simp [HY.out, hl, HIJ]⟩
                              · go_quiet ((go_at_call 78; exact Calls.quiet_of_same (by refine (less_any _ _ _).mono ?_; rintro e w1 ⟨rfl, rfl⟩; exact ⟨by rw [hl], rfl⟩)))
                                go_wp2_with fail
                                go_meet
                                exact ⟨false, rfl, hR.drewN _, hO.trans (Only.drewN _ _ _), by simp [HY.out, hl, HIJ], by simp [HY.out, hl, HIJ]⟩
                            · have hd0 : decide ((i : Int) ≤ (j : Int)) = false := by simpa using hij
                              have hd1 : decide (i ≤ j) = false := by simp; omega
                              go_quiet (fail)
                              go_wp2_with fail
                              go_meet
                              exact ⟨false, rfl, hR.drewN _, hO.trans (Only.drewN _ _ _), by simp, fun _ => .inl (by omega)⟩
                          case rest =>
                            clear hR hO
                            obtain ⟨c, rfl, hR, hO, hc1, hc0⟩ := hcut
                            cases c
                            · have hJ : j = J2 := by
                                have := HV.out
                                rw [sw_stop (hc0 rfl)] at this
                                exact this
                              have hs2 := Lib.hid (hc0 rfl)
                              clear hc0 hc1 HV
                              subst hJ
                              have HE := Go.Sort.partLoop_eq ltInt a i0 j0 dk
                              rw [HX.out, HI2.out, HJ2.out] at HE
                              by_cases hgt : (j : Int) < (i : Int)
                              · rw [if_pos (by omega)] at HE
                                have e := HL.out
                                rw [HE] at e
                                have HEE := Lib.hid e
                                clear HE e
                                obtain ⟨z, hz⟩ : ∃ z, dk[j]! = z := ⟨_, rfl⟩
                                have cxa := hR.cell (j := a) (by omega) HX.out
                                have cz := hR.cell (j := j) (by omega) hz
                                have fa := hR.free a
                                have fj := hR.free j
                                have z1 : (j : Int) < (N : Int) := by omega
                                obtain ⟨u2, hu2⟩ := hR.second (i := j) (j := a) (.int .i64 x) (by omega)
                                have HRO := Lib.hid (Row.swapped hR (i := j) (j := a) (by omega) (by omega) hz HX.out)
                                clear hz
                                go_wp2_with fail
                                go_region
                                all_goals go_wp2_with fail
                                go_ret2
                                have e : Go.Sort.partition ltInt d a b pv = (j, false, swp dk j a) := by rw [HD2.out, ← HEE.out]
                                rw [e]
                                exact ⟨rfl, HRO.out.1, (hO.trans HRO.out.2).trans (Only.drew _ _)⟩
                              · rw [if_neg (by omega)] at HE
                                have e := HL.out
                                rw [HE] at e
                                have HEE := Lib.hid e
                                clear HE e
                                have hne : i ≠ j := by
                                  rintro rfl
                                  rcases hs1.out with h | h
                                  · omega
                                  · rcases hs2.out with h' | h'
                                    · omega
                                    · rw [h] at h'; cases h'
                                obtain ⟨y, hy⟩ : ∃ y, dk[i]! = y := ⟨_, rfl⟩
                                obtain ⟨z, hz⟩ : ∃ z, dk[j]! = z := ⟨_, rfl⟩
                                have cy := hR.cell (j := i) (by omega) hy
                                have cz := hR.cell (j := j) (by omega) hz
                                have fi := hR.free i
                                have fj := hR.free j
                                have y1 : (i : Int) < (N : Int) := by omega
                                have z1 : (j : Int) < (N : Int) := by omega
                                obtain ⟨u2, hu2⟩ := hR.second (i := i) (j := j) (.int .i64 z) (by omega)
                                have HRO := Lib.hid (Row.swapped hR (i := i) (j := j) (by omega) (by omega) hy hz)
                                clear hy hz
                                go_wp2_with fail
                                go_region
                                all_goals go_wp2_with fail
                                refine ⟨⟨i + 1, j - 1, swp dk i j, by congr 1, by congr 1; omega, by omega, by omega, by omega, by rw [swp_sz]; exact hsk, HRO.out.1, (hO.trans HRO.out.2).trans (Only.drew _ _), HEE⟩, by simp [intOf]; omega⟩
                            · obtain ⟨q, rfl⟩ : ∃ q, j = q + 1 := ⟨j - 1, by have := (hc1 rfl).1; omega⟩
                              have hq : ((q + 1 : Nat) : Int) - 1 = (q : Int) := by omega
                              have hup : i ≤ q + 1 ∧ Go.Sort.scanDown (fun y => !ltInt y x) dk i q = J2 := by
                                have := HV.out
                                rw [sw_go (hc1 rfl).1 (hc1 rfl).2] at this
                                exact ⟨(hc1 rfl).1, this⟩
                              clear hc0 hc1
                              go_wp2_with fail
                              exact ⟨⟨q, by congr 1, hup.1, by omega, hR, hO, hup.2⟩, by simp [intOf]⟩
                      · have hup : i + 1 ≤ j0 + 1 ∧ Go.Sort.scanUp (fun y => ltInt y x) dk j0 (i + 1) = I2 := by
                          have := HU.out
                          rw [su_go (hc1 rfl).1 (hc1 rfl).2] at this
                          exact ⟨by have := (hc1 rfl).1; omega, this⟩
                        clear hc0 hc1
                        go_wp2_with fail
                        exact ⟨⟨i + 1, by go_num, by omega, hup.1, hR, hO, hup.2⟩, by simp [intOf]; omega⟩
            · obtain ⟨q, rfl⟩ : ∃ q, j = q + 1 := ⟨j - 1, by have := (hc1 rfl).1; omega⟩
              have hq : ((q + 1 : Nat) : Int) - 1 = (q : Int) := by omega
              have hup : i ≤ q + 1 ∧ Go.Sort.scanDown (fun y => !ltInt y x) dk i q = J2 := by
                have := HV.out
                rw [sw_go (hc1 rfl).1 (hc1 rfl).2] at this
                exact ⟨(hc1 rfl).1, this⟩
              clear hc0 hc1
              go_wp2_with fail
              exact ⟨⟨q, by congr 1, hup.1, by omega, hR, hO, hup.2⟩, by simp [intOf]⟩
      · have hup : i + 1 ≤ j0 + 1 ∧ Go.Sort.scanUp (fun y => ltInt y x) dk j0 (i + 1) = I2 := by
          have := HU.out
          rw [su_go (hc1 rfl).1 (hc1 rfl).2] at this
          exact ⟨by have := (hc1 rfl).1; omega, this⟩
        clear hc0 hc1
        go_wp2_with fail
        exact ⟨⟨i + 1, by go_num, by omega, hup.1, hR, hO, hup.2⟩, by simp [intOf]; omega⟩
end Go.Proofs.YtcpkpljeimbdiaaGreat.QI
