/-
  The walks of Go's sort of numbers of type uint64: the insertion sort.
-/
import Derived.Test.YtcpkpljeimbdiaaGreatPdqAU
namespace Go.Proofs.YtcpkpljeimbdiaaGreat.QU
open Go.RowKit
open Aid
open Go.Sort (swp ltInt)
set_option linter.unusedSimpArgs false
set_option linter.unusedVariables false

theorem ins_go (a j : Nat) (d : Array Int) (hj : a < j) (hl : ltInt d[j]! d[j - 1]! = true) : Go.Sort.insInner ltInt a j d = Go.Sort.insInner ltInt a (j - 1) (swp d j (j - 1)) := by
  obtain ⟨k, rfl⟩ : ∃ k, j = k + 1 := ⟨j - 1, by omega⟩
  rw [Go.Sort.insInner]
  simp only [Nat.add_sub_cancel] at hl ⊢
  rw [if_pos (by simp [hl]; omega)]
theorem ins_stop (a j : Nat) (d : Array Int) (h : j ≤ a ∨ ltInt d[j]! d[j - 1]! = false) : Go.Sort.insInner ltInt a j d = d := by
  cases j with
  | zero => rfl
  | succ k =>
    rw [Go.Sort.insInner]
    simp only [Nat.add_sub_cancel] at h
    rw [if_neg]
    simp only [Bool.and_eq_true, decide_eq_true_eq]
    rintro ⟨h1, h2⟩
    rcases h with h | h
    · omega
    · rw [h] at h2; cases h2
theorem out_go (a b i : Nat) (d : Array Int) (h : i < b) : Go.Sort.insOuter ltInt a b i d = Go.Sort.insOuter ltInt a b (i + 1) (Go.Sort.insInner ltInt a i d) := by rw [Go.Sort.insOuter, if_pos h]
theorem out_stop (a b i : Nat) (d : Array Int) (h : ¬ i < b) : Go.Sort.insOuter ltInt a b i d = d := by rw [Go.Sort.insOuter, if_neg h]
set_option maxRecDepth 100000 in
set_option maxHeartbeats 4000000 in
theorem ins_any (g cap N a b : Nat) (d : Array Int) (w : World) (h : Row w g d) (hN : d.size = N) (hab : a ≤ b) (hb : b ≤ N) (hsz : N ≤ 140737488355328) :
    Calls Tryz.prog 83 #[.slice (some ⟨g, 0, none⟩) N cap, .int .i64 a, .int .i64 b] w fun e w' => e = .returned (.tuple #[]) ∧ Row w' g (Go.Sort.insertionSort ltInt d a b) ∧ Only g w w' := by
  obtain ⟨RR, HR0⟩ : ∃ RR, Hid (Go.Sort.insOuter ltInt a b (a + 1) d = RR) := ⟨_, rfl⟩
  have e0 : Go.Sort.insertionSort ltInt d a b = RR := HR0.out
  rw [e0]
  clear e0
  go_enter Tryz.func83, Tryz.ntmps83
  go_wp2_with fail
  go_loopw [6] (fun x wr => ∃ (i : Nat) (dk : Array Int), x = .int .i64 i ∧ a < i ∧ i ≤ b + 1 ∧ dk.size = N ∧ Row wr g dk ∧ Only g w wr ∧
      Hid (Go.Sort.insOuter ltInt a b i dk = RR)) (fun x _ => b + 1 - (intOf x).toNat)
  case atStart => exact ⟨a + 1, d, by congr 1, by omega, by omega, hN, h, Only.refl _ _, HR0⟩
  case round =>
    clear h
    obtain ⟨i, dk, rfl, hi1, hib, hsk, hR, hO, HO⟩ := hrel
    by_cases hlast : (i : Int) < (b : Int)
    · go_wp2_with fail
      go_loopw [7] (fun x wr => ∃ (j : Nat) (dj : Array Int), x = .int .i64 j ∧ a ≤ j ∧ j ≤ i ∧ dj.size = N ∧ Row wr g dj ∧ Only g w wr ∧
          Hid (Go.Sort.insInner ltInt a j dj = Go.Sort.insInner ltInt a i dk)) (fun x _ => (intOf x).toNat)
      case atStart => exact ⟨i, dk, rfl, by omega, Nat.le_refl _, hsk, hR, hO, rfl⟩
      case round =>
        clear hR hO
        obtain ⟨j, dj, rfl, haj, hji, hsj, hR, hO, HI⟩ := hrel
        have OUT : Hid (Go.Sort.insOuter ltInt a b (i + 1) (Go.Sort.insInner ltInt a j dj) = RR) := by
          show _ = _
          rw [HI.out, ← HO.out, out_go a b i dk (by omega)]
        by_cases hj0 : (a : Int) < (j : Int)
        · obtain ⟨q, hq⟩ : ∃ q, j - 1 = q := ⟨_, rfl⟩
          obtain ⟨y, hy⟩ : ∃ y, dj[j]! = y := ⟨_, rfl⟩
          obtain ⟨z, hz⟩ : ∃ z, dj[q]! = z := ⟨_, rfl⟩
          have cy := hR.cell (j := j) (by omega) hy
          have cz := hR.cell (j := q) (by omega) hz
          have fi := hR.free j
          have fj := hR.free q
          have W1 : IntKind.i64.wrap ((j : Int) - 1) = (q : Int) := by rw [IntWalk.i64_in _ (by omega)]; omega
          have y0 : (0 : Int) ≤ (j : Int) := by omega
          have y1 : (j : Int) < (N : Int) := by omega
          have z0 : (0 : Int) ≤ (q : Int) := by omega
          have z1 : (q : Int) < (N : Int) := by omega
          have z2 : ((q : Nat) : Int).toNat = q := Int.toNat_natCast _
          cases hl : ltInt y z
          · have HS : Hid (Go.Sort.insInner ltInt a j dj = dj) := ins_stop a j dj (Or.inr (by rw [hq, hy, hz]; exact hl))
            clear hy hz
            go_wp2_with fail
            go_quiet ((go_at_call 89; exact Calls.quiet_of_same (by refine (less_any _ _ _).mono ?_; rintro e w1 ⟨rfl, rfl⟩; exact ⟨by rw [hl], rfl⟩)))
            go_wp2_with fail
            refine ⟨⟨i + 1, dj, by go_num, by omega, by omega, hsj, hR.drewN _, hO.trans (Only.drewN _ _ _), ?_⟩, by simp [intOf]; omega⟩
            have e := OUT.out
            rw [HS.out] at e
            exact e
          · have HS : Hid (Go.Sort.insInner ltInt a j dj = Go.Sort.insInner ltInt a q (swp dj j q)) := by
              have := ins_go a j dj (by omega) (by rw [hq, hy, hz]; exact hl)
              rw [hq] at this
              exact this
            have HRO := Lib.hid (fun n => Row.swapped (hR.drewN n) (i := j) (j := q) (by omega) (by omega) hy hz)
            clear hy hz
            go_wp2_with fail
            go_quiet ((go_at_call 89; exact Calls.quiet_of_same (by refine (less_any _ _ _).mono ?_; rintro e w1 ⟨rfl, rfl⟩; exact ⟨by rw [hl], rfl⟩)))
            go_wp2_with fail
            go_region
            all_goals go_wp2_with fail
            have hro := HRO.out (nq + 1)
            refine ⟨⟨q, swp dj j q, by congr 1, by omega, by omega, by rw [swp_sz]; exact hsj, hro.1, (hO.trans (Only.drewN _ _ _)).trans hro.2, ?_⟩, by simp [intOf]; omega⟩
            show _ = _
            rw [← HS.out]; exact HI.out
        · have HS : Hid (Go.Sort.insInner ltInt a j dj = dj) := ins_stop a j dj (Or.inl (by omega))
          have hd0 : decide ((a : Int) < (j : Int)) = false := by simpa using hj0
          have hd1 : decide (a < j) = false := by simp; omega
          go_wp2_with fail
          go_quiet (fail)
          go_wp2_with fail
          refine ⟨⟨i + 1, dj, by go_num, by omega, by omega, hsj, hR.drewN _, hO.trans (Only.drewN _ _ _), ?_⟩, by simp [intOf]; omega⟩
          have e := OUT.out
          rw [HS.out] at e
          exact e
    · have e := HO.out
      rw [out_stop _ _ _ _ (by omega)] at e
      go_wp2_with fail
      go_end0
      exact ⟨rfl, e ▸ hR, hO⟩
end Go.Proofs.YtcpkpljeimbdiaaGreat.QU
