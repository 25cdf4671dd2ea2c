/-
  The walks of Go's sort of numbers of type int: the heap.
-/
import Derived.Test.YtcpkpljeimbdiaaGreatPdqAI
namespace Go.Proofs.YtcpkpljeimbdiaaGreat.QI
open Go.RowKit
open Aid
open Go.Sort (swp ltInt)
set_option linter.unusedSimpArgs false
set_option linter.unusedVariables false

set_option maxRecDepth 100000 in
set_option maxHeartbeats 4000000 in
theorem sift_any (g cap N lo hi first : Nat) (d : Array Int) (w : World) (h : Row w g d) (hN : d.size = N) (hf : first + hi ≤ N) (hlo : lo ≤ N) (hsz : N ≤ 140737488355328) :
    Calls Tryz.prog 92 #[.slice (some ⟨g, 0, none⟩) N cap, .int .i64 lo, .int .i64 hi, .int .i64 first] w fun e w' => e = .returned (.tuple #[]) ∧ Row w' g (Go.Sort.siftDown ltInt hi first lo d) ∧ Only g w w' := by
  go_enter Tryz.func92, Tryz.ntmps92
  go_wp2_with fail
  go_loopw [8] (fun x wr => ∃ (root : Nat) (dk : Array Int), x = .int .i64 root ∧ root ≤ N ∧ dk.size = N ∧ Row wr g dk ∧ Only g w wr ∧
      Hid (Go.Sort.siftDown ltInt hi first root dk = Go.Sort.siftDown ltInt hi first lo d)) (fun x _ => hi - (intOf x).toNat)
  case atStart => exact ⟨lo, d, rfl, hlo, hN, h, Only.refl _ _, rfl⟩
  case round =>
    clear h
    obtain ⟨root, dk, rfl, h1, hsk, hR, hO, HI⟩ := hrel
    obtain ⟨c, hc⟩ : ∃ c, 2 * root + 1 = c := ⟨_, rfl⟩
    have hci : 2 * (root : Int) + 1 = (c : Int) := by omega
    by_cases hch : (c : Int) < (hi : Int)
    · have hge : ¬ ((hi : Int) ≤ (c : Int)) := by omega
      obtain ⟨P, hP⟩ : ∃ P, first + root = P := ⟨_, rfl⟩
      obtain ⟨J, hJ⟩ : ∃ J, first + c = J := ⟨_, rfl⟩
      obtain ⟨q1, hq1⟩ : ∃ q1, c + 1 = q1 := ⟨_, rfl⟩
      obtain ⟨S, hS⟩ : ∃ S, first + q1 = S := ⟨_, rfl⟩
      have WP : IntKind.i64.wrap ((first : Int) + (root : Int)) = (P : Int) := by rw [IntWalk.i64_in _ (by omega)]; omega
      have WJ : IntKind.i64.wrap ((first : Int) + (c : Int)) = (J : Int) := by rw [IntWalk.i64_in _ (by omega)]; omega
      have Wq : IntKind.i64.wrap ((c : Int) + 1) = (q1 : Int) := by rw [IntWalk.i64_in _ (by omega)]; omega
      have WS : IntKind.i64.wrap ((J : Int) + 1) = (S : Int) := by rw [IntWalk.i64_in _ (by omega)]; omega
      have WT : IntKind.i64.wrap ((first : Int) + (q1 : Int)) = (S : Int) := by rw [IntWalk.i64_in _ (by omega)]; omega
      obtain ⟨z, hz⟩ : ∃ z, dk[P]! = z := ⟨_, rfl⟩
      have cz := hR.cell (j := P) (by omega) hz
      obtain ⟨x, hx⟩ : ∃ x, dk[J]! = x := ⟨_, rfl⟩
      have cx := hR.cell (j := J) (by omega) hx
      have P0 : (0 : Int) ≤ (P : Int) := by omega
      have P1 : (P : Int) < (N : Int) := by omega
      have P2 : ((P : Nat) : Int).toNat = P := Int.toNat_natCast _
      have J0 : (0 : Int) ≤ (J : Int) := by omega
      have J1 : (J : Int) < (N : Int) := by omega
      have J2 : ((J : Nat) : Int).toNat = J := Int.toNat_natCast _
      by_cases h2 : (q1 : Int) < (hi : Int)
      · obtain ⟨y, hy⟩ : ∃ y, dk[S]! = y := ⟨_, rfl⟩
        have cy := hR.cell (j := S) (by omega) hy
        have S0 : (0 : Int) ≤ (S : Int) := by omega
        have S1 : (S : Int) < (N : Int) := by omega
        have S2 : ((S : Nat) : Int).toNat = S := Int.toNat_natCast _
        cases hl : ltInt x y
        · have HB : Go.Sort.siftDown ltInt hi first root dk = if ltInt dk[first + root]! dk[first + c]! = true then Go.Sort.siftDown ltInt hi first c (swp dk (first + root) (first + c)) else dk := by
            exact sd_one hc.symm (by omega) (.inr (by rw [hJ, hq1, hS, hx, hy]; exact hl))
          go_wp2_with fail
          go_quiet ((go_at_call 78; exact Calls.quiet_of_same (by refine (less_any _ _ _).mono ?_; rintro e w1 ⟨rfl, rfl⟩; exact ⟨by rw [hl], rfl⟩)))
          go_wp2_with fail
          have hRq : Row (wr.drewN nq) g dk := hR.drewN nq
          have hOq := hO.trans (Only.drewN g wr nq)
          have czq : (wr.drewN nq).cell? ⟨g, P, none⟩ = some (.int .i64 z) := cz
          have ceq : (wr.drewN nq).cell? ⟨g, J, none⟩ = some (.int .i64 x) := cx
          have fz := hRq.free P
          have fe := hRq.free J
          generalize wr.drewN nq = wq at hRq hOq czq ceq fz fe ⊢
          cases hl2 : ltInt z x
          · have HS : Go.Sort.siftDown ltInt hi first root dk = dk := by rw [HB, hP, hJ, hz, hx, hl2]; rfl
            have e := HI.out
            rw [HS] at e
            clear hz hx HS
            go_wp2_with fail
            go_still_tail 12, (by kernel_rfl); go_wp2_with (first | (go_at_call 78; refine (less_any _ _ _).mono ?_; rintro e w1 ⟨rfl, rfl⟩; rw [hl2]))
            first | go_end0 | ((try simp only [Exit.inBlock, Exit.then]); refine bodyPost_ret (results_none rfl _ _ _) rfl ?_)
            exact ⟨rfl, e ▸ hRq.drew, hOq.trans (Only.drew _ _)⟩
          · have HS : Hid (Go.Sort.siftDown ltInt hi first root dk = Go.Sort.siftDown ltInt hi first c (swp dk P J)) := by
              show _ = _
              rw [HB, hP, hJ, hz, hx, hl2]; rfl
            have HRO := Lib.hid (Row.swapped hRq (i := P) (j := J) (by omega) (by omega) hz hx)
            clear hz hx
            go_wp2_with fail
            go_still_tail 12, (by kernel_rfl); go_wp2_with (first | (go_at_call 78; refine (less_any _ _ _).mono ?_; rintro e w1 ⟨rfl, rfl⟩; rw [hl2]))
            go_region
            all_goals go_wp2_with fail
            refine ⟨⟨c, swp dk P J, rfl, by omega, by rw [swp_sz]; exact hsk, HRO.out.1, (hOq.trans HRO.out.2).trans ((Only.drew _ _).trans (Only.drew _ _)), ?_⟩, by simp [intOf]; omega⟩
            show _ = _
            rw [← HS.out]; exact HI.out
        · have HA : Go.Sort.siftDown ltInt hi first root dk = if ltInt dk[first + root]! dk[first + q1]! = true then Go.Sort.siftDown ltInt hi first q1 (swp dk (first + root) (first + q1)) else dk := by
            exact by subst hq1; exact sd_two hc.symm (by omega) (by rw [hJ, hS, hx, hy]; exact hl)
          go_wp2_with fail
          go_quiet ((go_at_call 78; exact Calls.quiet_of_same (by refine (less_any _ _ _).mono ?_; rintro e w1 ⟨rfl, rfl⟩; exact ⟨by rw [hl], rfl⟩)))
          go_wp2_with fail
          have hRq : Row (wr.drewN nq) g dk := hR.drewN nq
          have hOq := hO.trans (Only.drewN g wr nq)
          have czq : (wr.drewN nq).cell? ⟨g, P, none⟩ = some (.int .i64 z) := cz
          have ceq : (wr.drewN nq).cell? ⟨g, S, none⟩ = some (.int .i64 y) := cy
          have fz := hRq.free P
          have fe := hRq.free S
          generalize wr.drewN nq = wq at hRq hOq czq ceq fz fe ⊢
          cases hl2 : ltInt z y
          · have HS : Go.Sort.siftDown ltInt hi first root dk = dk := by rw [HA, hP, hS, hz, hy, hl2]; rfl
            have e := HI.out
            rw [HS] at e
            clear hz hy HS
            go_wp2_with fail
            go_still_tail 12, (by kernel_rfl); go_wp2_with (first | (go_at_call 78; refine (less_any _ _ _).mono ?_; rintro e w1 ⟨rfl, rfl⟩; rw [hl2]))
            first | go_end0 | ((try simp only [Exit.inBlock, Exit.then]); refine bodyPost_ret (results_none rfl _ _ _) rfl ?_)
            exact ⟨rfl, e ▸ hRq.drew, hOq.trans (Only.drew _ _)⟩
          · have HS : Hid (Go.Sort.siftDown ltInt hi first root dk = Go.Sort.siftDown ltInt hi first q1 (swp dk P S)) := by
              show _ = _
              rw [HA, hP, hS, hz, hy, hl2]; rfl
            have HRO := Lib.hid (Row.swapped hRq (i := P) (j := S) (by omega) (by omega) hz hy)
            clear hz hy
            go_wp2_with fail
            go_still_tail 12, (by kernel_rfl); go_wp2_with (first | (go_at_call 78; refine (less_any _ _ _).mono ?_; rintro e w1 ⟨rfl, rfl⟩; rw [hl2]))
            go_region
            all_goals go_wp2_with fail
            refine ⟨⟨q1, swp dk P S, rfl, by omega, by rw [swp_sz]; exact hsk, HRO.out.1, (hOq.trans HRO.out.2).trans ((Only.drew _ _).trans (Only.drew _ _)), ?_⟩, by simp [intOf]; omega⟩
            show _ = _
            rw [← HS.out]; exact HI.out
      · have HC : Go.Sort.siftDown ltInt hi first root dk = if ltInt dk[first + root]! dk[first + c]! = true then Go.Sort.siftDown ltInt hi first c (swp dk (first + root) (first + c)) else dk := by
          exact sd_one hc.symm (by omega) (.inl (by omega))
        have hd0 : decide ((q1 : Int) < (hi : Int)) = false := by simpa using h2
        have hd1 : decide (q1 < hi) = false := by simp; omega
        go_wp2_with fail
        go_quiet (fail)
        go_wp2_with fail
        have hRq : Row (wr.drewN nq) g dk := hR.drewN nq
        have hOq := hO.trans (Only.drewN g wr nq)
        have czq : (wr.drewN nq).cell? ⟨g, P, none⟩ = some (.int .i64 z) := cz
        have ceq : (wr.drewN nq).cell? ⟨g, J, none⟩ = some (.int .i64 x) := cx
        have fz := hRq.free P
        have fe := hRq.free J
        generalize wr.drewN nq = wq at hRq hOq czq ceq fz fe ⊢
        cases hl2 : ltInt z x
        · have HS : Go.Sort.siftDown ltInt hi first root dk = dk := by rw [HC, hP, hJ, hz, hx, hl2]; rfl
          have e := HI.out
          rw [HS] at e
          clear hz hx HS
          go_wp2_with fail
          go_still_tail 12, (by kernel_rfl); go_wp2_with (first | (go_at_call 78; refine (less_any _ _ _).mono ?_; rintro e w1 ⟨rfl, rfl⟩; rw [hl2]))
          first | go_end0 | ((try simp only [Exit.inBlock, Exit.then]); refine bodyPost_ret (results_none rfl _ _ _) rfl ?_)
          exact ⟨rfl, e ▸ hRq.drew, hOq.trans (Only.drew _ _)⟩
        · have HS : Hid (Go.Sort.siftDown ltInt hi first root dk = Go.Sort.siftDown ltInt hi first c (swp dk P J)) := by
            show _ = _
            rw [HC, hP, hJ, hz, hx, hl2]; rfl
          have HRO := Lib.hid (Row.swapped hRq (i := P) (j := J) (by omega) (by omega) hz hx)
          clear hz hx
          go_wp2_with fail
          go_still_tail 12, (by kernel_rfl); go_wp2_with (first | (go_at_call 78; refine (less_any _ _ _).mono ?_; rintro e w1 ⟨rfl, rfl⟩; rw [hl2]))
          go_region
          all_goals go_wp2_with fail
          refine ⟨⟨c, swp dk P J, rfl, by omega, by rw [swp_sz]; exact hsk, HRO.out.1, (hOq.trans HRO.out.2).trans ((Only.drew _ _).trans (Only.drew _ _)), ?_⟩, by simp [intOf]; omega⟩
          show _ = _
          rw [← HS.out]; exact HI.out
    · have HS := sd_stop (first := first) (d := dk) (show hi ≤ 2 * root + 1 by omega)
      have e := HI.out
      rw [HS] at e
      have hge : (hi : Int) ≤ (c : Int) := by omega
      go_wp2_with fail
      go_end0
      exact ⟨rfl, e ▸ hR, hO⟩
end Go.Proofs.YtcpkpljeimbdiaaGreat.QI
