/-
  The walks of Go's sort of numbers of type int: heap sort.
-/
import Derived.Test.YtcpkpljeimbdiaaGreatPdqBI
namespace Go.Proofs.YtcpkpljeimbdiaaGreat.QI
open Go.RowKit
open Aid
open Go.Sort (swp ltInt)
set_option linter.unusedSimpArgs false
set_option linter.unusedVariables false

theorem hb_go {hi F k : Nat} {d : Array Int} : Go.Sort.heapBuild ltInt hi F (k + 1) d = Go.Sort.heapBuild ltInt hi F k (Go.Sort.siftDown ltInt hi F k d) := rfl
theorem hp_go {F k : Nat} {d : Array Int} : Go.Sort.heapPop ltInt F (k + 1) d = Go.Sort.heapPop ltInt F k (Go.Sort.siftDown ltInt k F 0 (swp d F (F + k))) := rfl
theorem sift_sz : ∀ (n hi F root : Nat) (d : Array Int), hi - root ≤ n → (Go.Sort.siftDown ltInt hi F root d).size = d.size := by
  intro n
  induction n with
  | zero => intro hi F root d h; rw [sd_stop (by omega)]
  | succ n ih =>
    intro hi F root d h
    by_cases h1 : hi ≤ 2 * root + 1
    · rw [sd_stop h1]
    · by_cases h2 : 2 * root + 1 + 1 < hi ∧ ltInt d[F + (2 * root + 1)]! d[F + (2 * root + 1 + 1)]! = true
      · rw [sd_two rfl h2.1 h2.2]
        split
        · rw [ih _ _ _ _ (by omega), swp_sz]
        · rfl
      · rw [sd_one rfl (by omega) (by
          by_cases h3 : hi ≤ 2 * root + 1 + 1
          · exact .inl h3
          · right
            cases h4 : ltInt d[F + (2 * root + 1)]! d[F + (2 * root + 1 + 1)]!
            · rfl
            · exact absurd ⟨by omega, h4⟩ h2)]
        split
        · rw [ih _ _ _ _ (by omega), swp_sz]
        · rfl
set_option maxRecDepth 100000 in
set_option maxHeartbeats 4000000 in
theorem heap_any (g cap N a b : Nat) (d : Array Int) (w : World) (h : Row w g d) (hN : d.size = N) (hab : a < b) (hb : b ≤ N) (hsz : N ≤ 140737488355328) :
    Calls Tryz.prog 73 #[.slice (some ⟨g, 0, none⟩) N cap, .int .i64 a, .int .i64 b] w fun e w' => e = .returned (.tuple #[]) ∧ Row w' g (Go.Sort.heapSort ltInt d a b) ∧ Only g w w' := by
  obtain ⟨hi, hhi⟩ : ∃ hi, b - a = hi := ⟨_, rfl⟩
  have Whi : IntKind.i64.wrap ((b : Int) - (a : Int)) = (hi : Int) := by rw [IntWalk.i64_in _ (by omega)]; omega
  obtain ⟨m, hm⟩ : ∃ m, (hi - 1) / 2 = m := ⟨_, rfl⟩
  have Wd' : ((hi : Int) - 1) / 2 = (m : Int) := by omega
  have Wt : ((hi : Int) - 1).tdiv 2 = (m : Int) := by rw [Int.tdiv_eq_ediv_of_nonneg (by omega)]; omega
  have hheap : Go.Sort.heapSort ltInt d a b = Go.Sort.heapPop ltInt a hi (Go.Sort.heapBuild ltInt hi a (m + 1) d) := by unfold Go.Sort.heapSort; rw [hhi, hm]
  have HH := Lib.hid hheap
  clear hheap
  go_enter Tryz.func73, Tryz.ntmps73
  go_wp2_with fail
  go_loopw [9] (fun x wr => ∃ (k : Nat) (dk : Array Int), x = .int .i64 ((k : Int) - 1) ∧ k ≤ hi ∧ dk.size = N ∧ Row wr g dk ∧ Only g w wr ∧
      Hid (Go.Sort.heapBuild ltInt hi a k dk = Go.Sort.heapBuild ltInt hi a (m + 1) d)) (fun x _ => (intOf x + 1).toNat)
  case atStart => exact ⟨m + 1, d, by congr 1; omega, by omega, hN, h, Only.refl _ _, rfl⟩
  case round =>
    clear h
    obtain ⟨k, dk, rfl, h1, hsk, hR, hO, HI⟩ := hrel
    by_cases hk : k = 0
    · subst hk
      have hm1 : ((0 : Nat) : Int) - 1 = -1 := rfl
      rw [hm1]
      have hHI : dk = Go.Sort.heapBuild ltInt hi a (m + 1) d := HI.out
      go_wp2_with fail
      go_loopw [10] (fun x wr => ∃ (k : Nat) (dj : Array Int), x = .int .i64 ((k : Int) - 1) ∧ k ≤ hi ∧ dj.size = N ∧ Row wr g dj ∧ Only g w wr ∧
          Hid (Go.Sort.heapPop ltInt a k dj = Go.Sort.heapSort ltInt d a b)) (fun x _ => (intOf x + 1).toNat)
      case atStart => exact ⟨hi, dk, by congr 1, Nat.le_refl _, hsk, hR, hO, by show _ = _; rw [HH.out, hHI]⟩
      case round =>
        clear hR hO hHI HI
        obtain ⟨k, dj, rfl, h2, hsj, hR, hO, HI⟩ := hrel
        by_cases hk : k = 0
        · subst hk
          have e : dj = Go.Sort.heapSort ltInt d a b := HI.out
          go_wp2_with fail
          go_end0
          exact ⟨rfl, e ▸ hR, hO⟩
        · obtain ⟨q, rfl⟩ : ∃ q, k = q + 1 := ⟨k - 1, by omega⟩
          have hq : ((q + 1 : Nat) : Int) - 1 = (q : Int) := by omega
          rw [hq]
          obtain ⟨P, hP⟩ : ∃ P, a + q = P := ⟨_, rfl⟩
          have WP : IntKind.i64.wrap ((a : Int) + (q : Int)) = (P : Int) := by rw [IntWalk.i64_in _ (by omega)]; omega
          obtain ⟨z, hz⟩ : ∃ z, dj[a]! = z := ⟨_, rfl⟩
          have cz := hR.cell (j := a) (by omega) hz
          obtain ⟨x, hx⟩ : ∃ x, dj[P]! = x := ⟨_, rfl⟩
          have cx := hR.cell (j := P) (by omega) hx
          have P0 : (0 : Int) ≤ (P : Int) := by omega
          have P1 : (P : Int) < (N : Int) := by omega
          have P2 : ((P : Nat) : Int).toNat = P := Int.toNat_natCast _
          have a1 : (a : Int) < (N : Int) := by omega
          have fa := hR.free a
          have fp := hR.free P
          have HS : Hid (Go.Sort.heapPop ltInt a (q + 1) dj = Go.Sort.heapPop ltInt a q (Go.Sort.siftDown ltInt q a 0 (swp dj a P))) := by
            show _ = _
            rw [hp_go, hP]
          have HRO := Lib.hid (Row.swapped hR (i := a) (j := P) (by omega) (by omega) hz hx)
          obtain ⟨u2, hu2⟩ := hR.second (i := a) (j := P) (.int .i64 x) (by omega)
          clear hz hx
          go_wp2_with fail
          go_region
          all_goals go_wp2_with fail
          refine (sift_any g cap N 0 q a (swp dj a P) _ (by exact HRO.out.1) (by rw [swp_sz]; exact hsj) (by omega) (by omega) hsz).mono ?_
          rintro e w5 ⟨rfl, hR5, hO5⟩
          go_wp2_with fail
          refine ⟨⟨q, _, by congr 1, by omega, by rw [sift_sz _ _ _ _ _ (Nat.le_refl _), swp_sz]; exact hsj, hR5, ((hO.trans HRO.out.2).trans (Only.drew _ _)).trans hO5, ?_⟩, by simp [intOf]⟩
          show _ = _
          rw [← HS.out]; exact HI.out
    · obtain ⟨q, rfl⟩ : ∃ q, k = q + 1 := ⟨k - 1, by omega⟩
      have hq : ((q + 1 : Nat) : Int) - 1 = (q : Int) := by omega
      rw [hq]
      go_wp2_with fail
      refine (sift_any g cap N q hi a dk _ hR hsk (by omega) (by omega) hsz).mono ?_
      rintro e w5 ⟨rfl, hR5, hO5⟩
      go_wp2_with fail
      refine ⟨⟨q, _, by congr 1, by omega, by rw [sift_sz _ _ _ _ _ (Nat.le_refl _)]; exact hsk, hR5, hO.trans hO5, HI⟩, by simp [intOf]⟩
end Go.Proofs.YtcpkpljeimbdiaaGreat.QI
