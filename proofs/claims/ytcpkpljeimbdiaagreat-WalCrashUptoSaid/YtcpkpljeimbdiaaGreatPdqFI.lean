/-
  The walks of Go's sort of numbers of type int: the partial insertion sort.
-/
import Derived.Deep.DeepCutAuto
import Derived.Test.YtcpkpljeimbdiaaGreatPdqDI
namespace Go.Proofs.YtcpkpljeimbdiaaGreat.QI
open Go.RowKit
open Aid
open Go.Sort (swp ltInt)
set_option linter.unusedSimpArgs false
set_option linter.unusedVariables false

theorem ss_go {d : Array Int} {b i : Nat} (h : i < b) (hp : ltInt d[i]! d[i - 1]! = false) : Go.Sort.scanSorted ltInt d b i = Go.Sort.scanSorted ltInt d b (i + 1) := by rw [Go.Sort.scanSorted, if_pos (by simp [h, hp])]
theorem ss_stop {d : Array Int} {b i : Nat} (h : b ≤ i ∨ ltInt d[i]! d[i - 1]! = true) : Go.Sort.scanSorted ltInt d b i = i := by
  rw [Go.Sort.scanSorted, if_neg]
  simp only [Bool.and_eq_true, decide_eq_true_eq]
  rintro ⟨h1, h2⟩
  rcases h with h | h
  · omega
  · rw [h] at h2; cases h2
set_option maxRecDepth 100000 in
set_option maxHeartbeats 16000000 in
theorem pins_any (g cap N a b : Nat) (d : Array Int) (w : World) (h : Row w g d) (hN : d.size = N) (hab : a < b) (hb : b ≤ N) (hsz : N ≤ 140737488355328) :
    Calls Tryz.prog 77 #[.slice (some ⟨g, 0, none⟩) N cap, .int .i64 a, .int .i64 b] w fun e w' => e = .returned (.bool (Go.Sort.partialInsertionSort ltInt d a b).2) ∧ Row w' g (Go.Sort.partialInsertionSort ltInt d a b).1 ∧ Only g w w' := by
  obtain ⟨RR, HR0⟩ : ∃ RR, Hid (Go.Sort.partialInsertionSort ltInt d a b = RR) := ⟨_, rfl⟩
  rw [HR0.out]
  have HR1 : Hid (Go.Sort.partialIns ltInt a b 5 (a + 1) d = RR) := HR0.out
  have Wba : IntKind.i64.wrap ((b : Int) - (a : Int)) = ((b - a : Nat) : Int) := by rw [IntWalk.i64_in _ (by omega)]; omega
  go_enter Tryz.func77, Tryz.ntmps77
  go_wp2_with fail
  go_loopw [7, 8] (fun s7 s8 wr => ∃ (s i : Nat) (dk : Array Int), s7 = .int .i64 i ∧ s8 = .int .i64 (5 - (s : Int)) ∧ s ≤ 5 ∧ a < i ∧ i ≤ b ∧ dk.size = N ∧ Row wr g dk ∧ Only g w wr ∧
      Hid (Go.Sort.partialIns ltInt a b s i dk = RR)) (fun _ s8 _ => (5 - intOf s8).toNat)
  case atStart => exact ⟨5, a + 1, d, by congr 1, rfl, by omega, by omega, by omega, hN, h, Only.refl _ _, HR1⟩
  case round =>
    clear h
    obtain ⟨s, i0, dk, rfl, rfl, q1, q2, q3, hsk, hR, hO, HL⟩ := hrel
    cases s with
    | zero =>
      have hz5 : (5 : Int) - ((0 : Nat) : Int) = 5 := rfl
      rw [hz5]
      have e : (dk, false) = RR := HL.out
      go_wp2_with fail
      go_ret
      rw [← e]
      exact ⟨rfl, hR, hO⟩
    | succ s =>
      have h5 : (5 : Int) - ((s + 1 : Nat) : Int) < 5 := by omega
      obtain ⟨v5, hv5⟩ : ∃ v5 : Int, (5 : Int) - ((s + 1 : Nat) : Int) = v5 := ⟨_, rfl⟩
      rw [hv5] at h5 ⊢
      obtain ⟨I2, HI2⟩ : ∃ I2, Hid (Go.Sort.scanSorted ltInt dk b i0 = I2) := ⟨_, rfl⟩
      go_wp2_with fail
      go_loopw [7] (fun s7 wr => ∃ i : Nat, s7 = .int .i64 i ∧ a < i ∧ i ≤ b ∧ Row wr g dk ∧ Only g w wr ∧ Hid (Go.Sort.scanSorted ltInt dk b i = I2)) (fun s7 _ => b - (intOf s7).toNat)
      case atStart => exact ⟨i0, rfl, q2, q3, hR, hO, HI2⟩
      case round =>
        clear hR hO
        obtain ⟨i, rfl, r1, r2, hR, hO, HU⟩ := hrel
        go_upto_region 5 with fail
        go_cut [32] (fun s wx => ∃ c : Bool, s = .bool c ∧ Row wx g dk ∧ Only g w wx ∧ (c = true → i < b ∧ ltInt dk[i]! dk[i - 1]! = false) ∧ (c = false → b ≤ i ∨ ltInt dk[i]! dk[i - 1]! = true))
        case first =>
          by_cases hij : (i : Int) < (b : Int)
          · obtain ⟨i1, hi1⟩ : ∃ i1, i - 1 = i1 := ⟨_, rfl⟩
            have HI1 := Lib.hid hi1
            obtain ⟨y, hy⟩ : ∃ y, dk[i]! = y := ⟨_, rfl⟩
            obtain ⟨z, hz⟩ : ∃ z, dk[i1]! = z := ⟨_, rfl⟩
            have cy := hR.cell (j := i) (by omega) hy
            have cz := hR.cell (j := i1) (by omega) hz
            have fi := hR.free i
            have fj := hR.free i1
            have W1 : IntKind.i64.wrap ((i : Int) - 1) = (i1 : Int) := by rw [IntWalk.i64_in _ (by omega)]; omega
            have y0 : (0 : Int) ≤ (i : Int) := by omega
            have y1 : (i : Int) < (N : Int) := by omega
            have z0 : (0 : Int) ≤ (i1 : Int) := by omega
            have z1 : (i1 : Int) < (N : Int) := by omega
            have z2 : ((i1 : Nat) : Int).toNat = i1 := Int.toNat_natCast _
            have HY := Lib.hid hy
            have HZ := Lib.hid hz
            have HIJ : i < b := by omega
            clear hy hz hi1
            cases hl : ltInt y z
            · go_quiet ((go_at_call 78; exact Calls.quiet_of_same (by refine (less_any _ _ _).mono ?_; rintro e w1 ⟨rfl, rfl⟩; exact ⟨by rw [hl], rfl⟩)))
              go_wp2_with fail
              go_meet
              exact ⟨true, rfl, hR.drewN _, hO.trans (Only.drewN _ _ _), by simp [HI1.out, HY.out, HZ.out, hl, HIJ], by simp⟩
            · go_quiet ((go_at_call 78; exact Calls.quiet_of_same (by refine (less_any _ _ _).mono ?_; rintro e w1 ⟨rfl, rfl⟩; exact ⟨by rw [hl], rfl⟩)))
              go_wp2_with fail
              go_meet
              exact ⟨false, rfl, hR.drewN _, hO.trans (Only.drewN _ _ _), by simp, by simp [HI1.out, HY.out, HZ.out, hl]⟩
          · have hd0 : decide ((i : Int) < (b : Int)) = false := by simpa using hij
            have hd1 : decide (i < b) = false := by simp; omega
            go_quiet (fail)
            go_wp2_with fail
            go_meet
            exact ⟨false, rfl, hR.drewN _, hO.trans (Only.drewN _ _ _), by simp, fun _ => .inl (by omega)⟩
        case rest =>
          clear hR hO
          obtain ⟨c, rfl, hR, hO, hc1, hc0⟩ := hcut
          cases c
          · have hI : i = I2 := by
              have := HU.out
              rw [ss_stop (hc0 rfl)] at this
              exact this
            clear hc0 hc1 HU
            subst hI
            have HE := Go.Sort.partialIns_succ (lt := ltInt) a b s i0 dk
            rw [HI2.out] at HE
            have e := HL.out
            rw [HE] at e
            by_cases hib : i = b
            · rw [if_pos hib] at e
              have hq : ((i : Int) == (b : Int)) = true := by rw [beq_iff_eq]; omega
              go_wp2_with fail
              go_ret
              rw [← e]
              exact ⟨rfl, hR, hO⟩
            · rw [if_neg hib] at e
              have hq : ((i : Int) == (b : Int)) = false := by rw [beq_eq_false_iff_ne]; omega
              by_cases h50 : b - a < 50
              · rw [if_pos h50] at e
                have h50' : ((b - a : Nat) : Int) < 50 := by omega
                have h50'' : (b : Int) - (a : Int) < 50 := by omega
                go_wp2_with fail
                go_ret
                rw [← e]
                exact ⟨rfl, hR, hO⟩
              · rw [if_neg h50] at e
                have h50' : ¬ ((b - a : Nat) : Int) < 50 := by omega
                have h50'' : ¬ (b : Int) - (a : Int) < 50 := by omega
                have HEE := Lib.hid e
                clear e HE
                obtain ⟨i1, hi1⟩ : ∃ i1, i - 1 = i1 := ⟨_, rfl⟩
                obtain ⟨y, hy⟩ : ∃ y, dk[i]! = y := ⟨_, rfl⟩
                obtain ⟨z, hz⟩ : ∃ z, dk[i1]! = z := ⟨_, rfl⟩
                have cy := hR.cell (j := i) (by omega) hy
                have cz := hR.cell (j := i1) (by omega) hz
                have fi := hR.free i
                have fj := hR.free i1
                have W1 : IntKind.i64.wrap ((i : Int) - 1) = (i1 : Int) := by rw [IntWalk.i64_in _ (by omega)]; omega
                have y0 : (0 : Int) ≤ (i : Int) := by omega
                have y1 : (i : Int) < (N : Int) := by omega
                have z0 : (0 : Int) ≤ (i1 : Int) := by omega
                have z1 : (i1 : Int) < (N : Int) := by omega
                have z2 : ((i1 : Nat) : Int).toNat = i1 := Int.toNat_natCast _
                obtain ⟨u2, hu2⟩ := hR.second (i := i) (j := i1) (.int .i64 z) (by omega)
                have HRO := Lib.hid (Row.swapped hR (i := i) (j := i1) (by omega) (by omega) hy hz)
                clear hy hz
                obtain ⟨d1, hd1⟩ : ∃ d1, swp dk i i1 = d1 := ⟨_, rfl⟩
                have hs1 : d1.size = N := by rw [← hd1, swp_sz]; exact hsk
                rw [hi1, hd1] at HEE
                rw [hd1] at HRO
                obtain ⟨m1, hm1⟩ : ∃ m1, i - a = m1 := ⟨_, rfl⟩
                have Wm1 : IntKind.i64.wrap ((i : Int) - (a : Int)) = (m1 : Int) := by rw [IntWalk.i64_in _ (by omega)]; omega
                have Em1 : (i : Int) - (a : Int) = (m1 : Int) := by omega
                obtain ⟨m2, hm2⟩ : ∃ m2, b - i = m2 := ⟨_, rfl⟩
                have Wm2 : IntKind.i64.wrap ((b : Int) - (i : Int)) = (m2 : Int) := by rw [IntWalk.i64_in _ (by omega)]; omega
                have Em2 : (b : Int) - (i : Int) = (m2 : Int) := by omega
                go_wp2_with fail
                go_region
                all_goals go_upto_if 61 with fail
                have hR1 := HRO.out.1.drew
                have hO1 := (hO.trans HRO.out.2).trans (Only.drew _ _)
                generalize ((wc.setCell ⟨g, i, none⟩ (.int .i64 z)).setCell ⟨g, i1, none⟩ (.int .i64 y)).drew = wb at hR1 hO1 ⊢
                clear hR hO HRO hu2 cy cz fi fj
                obtain ⟨D2, HD2⟩ : ∃ D2, Hid (Go.Sort.fixDown ltInt a i d1 = D2) := ⟨_, rfl⟩
                rw [HD2.out] at HEE
                go_cut [] (fun wy => D2.size = N ∧ Row wy g D2 ∧ Only g w wy)
                case first =>
                  by_cases hm : 2 ≤ m1
                  · have hm' : (2 : Int) ≤ (m1 : Int) := by omega
                    have HD2 : Hid (Go.Sort.shiftDown ltInt i1 d1 = D2) := by
                      have := HD2.out
                      unfold Go.Sort.fixDown at this
                      rw [if_pos (by omega), hi1] at this
                      exact this
                    have hdm : decide ((2 : Int) ≤ (m1 : Int)) = true := decide_eq_true hm'
                    rw [hdm]
                    go_wp2_with fail
                    go_loopw [9] (fun s9 wr => ∃ (j : Nat) (dk : Array Int), s9 = .int .i64 j ∧ j < b ∧ dk.size = N ∧ Row wr g dk ∧ Only g w wr ∧ Hid (Go.Sort.shiftDown ltInt j dk = D2)) (fun s9 _ => (intOf s9).toNat)
                    case atStart => exact ⟨i1, d1, rfl, by omega, hs1, hR1, hO1, HD2⟩
                    case round =>
                      clear hR1 hO1
                      obtain ⟨j, dk, rfl, r1, hsk, hR, hO, HV⟩ := hrel
                      cases j with
                      | zero =>
                        go_wp2_with fail
                        go_meet
                        have e : dk = D2 := HV.out
                        exact ⟨e ▸ hsk, e ▸ hR, hO⟩
                      | succ q =>
                        obtain ⟨j, hj⟩ : ∃ j, q + 1 = j := ⟨_, rfl⟩
                        have hj1 : (1 : Int) ≤ (j : Int) := by omega
                        have HS : Go.Sort.shiftDown ltInt j dk = if ltInt dk[j]! dk[q]! = false then dk else Go.Sort.shiftDown ltInt q (swp dk j q) := by
                          rw [← hj, Go.Sort.shiftDown]
                          cases ltInt dk[q + 1]! dk[q]! <;> rfl
                        rw [hj] at HV r1 ⊢
                        obtain ⟨y, hy⟩ : ∃ y, dk[j]! = y := ⟨_, rfl⟩
                        obtain ⟨z, hz⟩ : ∃ z, dk[q]! = z := ⟨_, rfl⟩
                        have cy := hR.cell (j := j) (by omega) hy
                        have cz := hR.cell (j := q) (by omega) hz
                        have fi := hR.free j
                        have fj := hR.free q
                        have W1 : IntKind.i64.wrap ((j : Int) - 1) = (q : Int) := by rw [IntWalk.i64_in _ (by omega)]; omega
                        have y0 : (0 : Int) ≤ (j : Int) := by omega
                        have y1 : (j : Int) < (N : Int) := by omega
                        have z0 : (0 : Int) ≤ (q : Int) := by omega
                        have z1 : (q : Int) < (N : Int) := by omega
                        have z2 : ((q : Nat) : Int).toNat = q := Int.toNat_natCast _
                        cases hl2 : ltInt y z
                        · rw [hy, hz, hl2, if_pos rfl] at HS
                          have e : dk = D2 := by rw [← HV.out]; exact HS.symm
                          clear hy hz HS
                          go_wp2_with fail
                          go_still_tail 9, (by kernel_rfl); go_wp2_with (first | (go_at_call 78; refine (less_any _ _ _).mono ?_; rintro e w1 ⟨rfl, rfl⟩; rw [hl2]))
                          go_meet
                          exact ⟨e ▸ hsk, e ▸ hR.drew, hO.trans (Only.drew _ _)⟩
                        · rw [hy, hz, hl2, if_neg (by decide)] at HS
                          have e : Go.Sort.shiftDown ltInt q (swp dk j q) = D2 := by rw [← HV.out]; exact HS.symm
                          obtain ⟨u2, hu2⟩ := hR.second (i := j) (j := q) (.int .i64 z) (by omega)
                          have HRO := Lib.hid (Row.swapped hR (i := j) (j := q) (by omega) (by omega) hy hz)
                          have HEE := Lib.hid e
                          clear hy hz HS e
                          go_wp2_with fail
                          go_still_tail 9, (by kernel_rfl); go_wp2_with (first | (go_at_call 78; refine (less_any _ _ _).mono ?_; rintro e w1 ⟨rfl, rfl⟩; rw [hl2]))
                          go_region
                          all_goals go_wp2_with fail
                          refine ⟨⟨q, swp dk j q, by congr 1, by omega, by rw [swp_sz]; exact hsk, HRO.out.1, (hO.trans HRO.out.2).trans ((Only.drew _ _).trans (Only.drew _ _)), HEE⟩, by simp [intOf]; omega⟩

                  · have hm' : ¬ (2 : Int) ≤ (m1 : Int) := by omega
                    have e : d1 = D2 := by
                      have := HD2.out
                      unfold Go.Sort.fixDown at this
                      rw [if_neg (by omega)] at this
                      exact this
                    go_wp2_with fail
                    go_meet
                    exact ⟨e ▸ hs1, e ▸ hR1, hO1⟩
                case rest =>
                  clear hR1 hO1 hs1
                  obtain ⟨hs2, hR2, hO2⟩ := hcut
                  obtain ⟨D3, HD3⟩ : ∃ D3, Hid (Go.Sort.fixUp ltInt b i D2 = D3) := ⟨_, rfl⟩
                  rw [HD3.out] at HEE
                  by_cases hm : 2 ≤ m2
                  · have hm' : (2 : Int) ≤ (m2 : Int) := by omega
                    have HD3 : Hid (Go.Sort.shiftUp ltInt b (i + 1) D2 = D3) := by
                      have := HD3.out
                      unfold Go.Sort.fixUp at this
                      rw [if_pos (by omega)] at this
                      exact this
                    have hdm : decide ((2 : Int) ≤ (m2 : Int)) = true := decide_eq_true hm'
                    go_wp2_with fail
                    go_loopw [10] (fun s10 wr => ∃ (j : Nat) (dk : Array Int), s10 = .int .i64 j ∧ 1 ≤ j ∧ dk.size = N ∧ Row wr g dk ∧ Only g w wr ∧ Hid (Go.Sort.shiftUp ltInt b j dk = D3)) (fun s10 _ => b - (intOf s10).toNat)
                    case atStart => exact ⟨i + 1, D2, by congr 1, by omega, hs2, hR2, hO2, HD3⟩
                    case round =>
                      clear hR2 hO2
                      obtain ⟨j, dk, rfl, t1, hsk, hR, hO, HV⟩ := hrel
                      by_cases hjb : (j : Int) < (b : Int)
                      · obtain ⟨q, hq⟩ : ∃ q, j - 1 = q := ⟨_, rfl⟩
                        have HS : Go.Sort.shiftUp ltInt b j dk = if ltInt dk[j]! dk[q]! = false then dk else Go.Sort.shiftUp ltInt b (j + 1) (swp dk j q) := by
                          rw [Go.Sort.shiftUp, if_pos (by omega), hq]
                          cases ltInt dk[j]! dk[q]! <;> rfl
                        obtain ⟨y, hy⟩ : ∃ y, dk[j]! = y := ⟨_, rfl⟩
                        obtain ⟨z, hz⟩ : ∃ z, dk[q]! = z := ⟨_, rfl⟩
                        have cy := hR.cell (j := j) (by omega) hy
                        have cz := hR.cell (j := q) (by omega) hz
                        have fi := hR.free j
                        have fj := hR.free q
                        have W1 : IntKind.i64.wrap ((j : Int) - 1) = (q : Int) := by rw [IntWalk.i64_in _ (by omega)]; omega
                        have y0 : (0 : Int) ≤ (j : Int) := by omega
                        have y1 : (j : Int) < (N : Int) := by omega
                        have z0 : (0 : Int) ≤ (q : Int) := by omega
                        have z1 : (q : Int) < (N : Int) := by omega
                        have z2 : ((q : Nat) : Int).toNat = q := Int.toNat_natCast _
                        cases hl2 : ltInt y z
                        · rw [hy, hz, hl2, if_pos rfl] at HS
                          have e : dk = D3 := by rw [← HV.out]; exact HS.symm
                          clear hy hz HS
                          go_wp2_with fail
                          go_still_tail 9, (by kernel_rfl); go_wp2_with (first | (go_at_call 78; refine (less_any _ _ _).mono ?_; rintro e w1 ⟨rfl, rfl⟩; rw [hl2]))
                          refine ⟨⟨s, i, D3, rfl, by congr 1; omega, by omega, r1, r2, e ▸ hsk, e ▸ hR.drew, hO.trans (Only.drew _ _), HEE⟩, by simp [intOf]; omega⟩
                        · rw [hy, hz, hl2, if_neg (by decide)] at HS
                          have e : Go.Sort.shiftUp ltInt b (j + 1) (swp dk j q) = D3 := by rw [← HV.out]; exact HS.symm
                          obtain ⟨u2, hu2⟩ := hR.second (i := j) (j := q) (.int .i64 z) (by omega)
                          have HRO := Lib.hid (Row.swapped hR (i := j) (j := q) (by omega) (by omega) hy hz)
                          have HE3 := Lib.hid e
                          clear hy hz HS e
                          go_wp2_with fail
                          go_still_tail 9, (by kernel_rfl); go_wp2_with (first | (go_at_call 78; refine (less_any _ _ _).mono ?_; rintro e w1 ⟨rfl, rfl⟩; rw [hl2]))
                          go_region
                          all_goals go_wp2_with fail
                          refine ⟨⟨j + 1, swp dk j q, by congr 1, by omega, by rw [swp_sz]; exact hsk, HRO.out.1, (hO.trans HRO.out.2).trans ((Only.drew _ _).trans (Only.drew _ _)), HE3⟩, by simp [intOf]; omega⟩
                      · have e : dk = D3 := by
                          have := HV.out
                          rw [Go.Sort.shiftUp, if_neg (by omega)] at this
                          exact this
                        go_wp2_with fail
                        refine ⟨⟨s, i, D3, rfl, by congr 1; omega, by omega, r1, r2, e ▸ hsk, e ▸ hR, hO, HEE⟩, by simp [intOf]; omega⟩

                  · have hm' : ¬ (2 : Int) ≤ (m2 : Int) := by omega
                    have e : D2 = D3 := by
                      have := HD3.out
                      unfold Go.Sort.fixUp at this
                      rw [if_neg (by omega)] at this
                      exact this
                    go_wp2_with fail
                    refine ⟨⟨s, i, D3, rfl, by congr 1; omega, by omega, r1, r2, e ▸ hs2, e ▸ hR2, hO2, HEE⟩, by simp [intOf]; omega⟩
          · have hup : Go.Sort.scanSorted ltInt dk b (i + 1) = I2 := by
              have := HU.out
              rw [ss_go (hc1 rfl).1 (hc1 rfl).2] at this
              exact this
            have hib := (hc1 rfl).1
            clear hc0 hc1
            go_wp2_with fail
            exact ⟨⟨i + 1, by go_num, by omega, by omega, hR, hO, hup⟩, by simp [intOf]; omega⟩
end Go.Proofs.YtcpkpljeimbdiaaGreat.QI
