/-
  The walks of Go's sort of numbers of type uint64: pdqsort itself.
-/
import Derived.Deep.DeepCutAuto
import Derived.Test.YtcpkpljeimbdiaaGreatPdqCU
import Derived.Test.YtcpkpljeimbdiaaGreatPdqEU
import Derived.Test.YtcpkpljeimbdiaaGreatPdqFU
import Derived.Test.YtcpkpljeimbdiaaGreatPdqGU
import Derived.Test.YtcpkpljeimbdiaaGreatPdqHU
import Derived.Test.YtcpkpljeimbdiaaGreatPdqIU
namespace Go.Proofs.YtcpkpljeimbdiaaGreat.QU
open Go.RowKit
open Aid
open Go.Sort (swp ltInt)
set_option linter.unusedSimpArgs false
set_option linter.unusedVariables false

/-- what a sort of a part is owed -/
def Fin (a b : Nat) (d : Array Int) (a' b' : Nat) (dk : Array Int) : Prop := ∀ R, Go.Sort.PermIn a' b' dk R → Go.Sort.SortedIn ltInt a' b' R → Go.Sort.PermIn a b d R ∧ Go.Sort.SortedIn ltInt a b R
theorem Fin.perm {a b a' b' : Nat} {d dk d' : Array Int} (h : Fin a b d a' b' dk) (hp : Go.Sort.PermIn a' b' dk d') : Fin a b d a' b' d' := fun R h1 h2 => h R (Go.Sort.permIn_trans _ _ _ _ _ hp h1) h2
def Sorts (g a b : Nat) (d : Array Int) (w : World) (e : Ending) (w' : World) : Prop := e = .returned (.tuple #[]) ∧ ∃ d', Row w' g d' ∧ Go.Sort.PermIn a b d d' ∧ Go.Sort.SortedIn ltInt a b d' ∧ Only g w w'
def PdqAt (g cap N n : Nat) : Prop := ∀ (a b : Nat) (lim : Int) (d : Array Int) (w : World), b - a ≤ n → Row w g d → d.size = N → a ≤ b → b ≤ N → N ≤ 70368744177664 → Go.Sort.Below ltInt a b d →
  Calls Tryz.prog 71 #[.slice (some ⟨g, 0, none⟩) N cap, .int .i64 a, .int .i64 b, .int .i64 lim] w (Sorts g a b d w)
theorem swo : Go.Sort.SWO ltInt := Go.Sort.swo_ltInt
theorem PermIn.sz {a b : Nat} {d d' : Array Int} (h : Go.Sort.PermIn a b d d') : d'.size = d.size := h.1

set_option maxRecDepth 100000 in
set_option maxHeartbeats 16000000 in
theorem pdq_step (g cap N n : Nat) (IH : ∀ m, m < n → PdqAt g cap N m) : PdqAt g cap N n := by
  intro a b lim d w hn h hN hab hb hsz hBel
  have hsz2 : N ≤ 140737488355328 := by omega
  go_enter Tryz.func71, Tryz.ntmps71
  go_wp2_with fail
  go_loopw [1, 2, 3, 8, 9] (fun s1 s2 s3 s8 s9 wr => ∃ (a' b' : Nat) (dk : Array Int) (lim : Int) (wb wp : Bool), s1 = .int .i64 a' ∧ s2 = .int .i64 b' ∧ s3 = .int .i64 lim ∧ s8 = .bool wb ∧ s9 = .bool wp ∧ a' ≤ b' ∧ b' ≤ N ∧ b' - a' ≤ n ∧ dk.size = N ∧ Row wr g dk ∧ Only g w wr ∧ Go.Sort.Below ltInt a' b' dk ∧ Fin a b d a' b' dk) (fun s1 s2 _ _ _ _ => (intOf s2 - intOf s1).toNat)
  case atStart => exact ⟨a, b, d, lim, true, true, rfl, rfl, rfl, rfl, rfl, hab, hb, hn, hN, h, Only.refl _ _, hBel, fun R h1 h2 => ⟨h1, h2⟩⟩
  case round =>
    clear h hBel
    obtain ⟨a', b', dk, lim, wb, wp, rfl, rfl, rfl, rfl, rfl, q1, q2, q3, hsk, hR, hO, hBl, hF⟩ := hrel
    obtain ⟨l, hl⟩ : ∃ l, b' - a' = l := ⟨_, rfl⟩
    have Wl : IntKind.i64.wrap ((b' : Int) - (a' : Int)) = (l : Int) := by rw [IntWalk.i64_in _ (by omega)]; omega
    have El : (b' : Int) - (a' : Int) = (l : Int) := by omega
    by_cases h12 : (l : Int) ≤ 12
    · go_wp2_with (go_at_call 83; refine (ins_any g cap N a' b' dk _ hR hsk q1 q2 hsz2).mono ?_; rintro e w1 ⟨rfl, hR1, hO1⟩)
      first | go_end0 | ((try simp only [Exit.inBlock, Exit.then]); refine bodyPost_ret (results_none rfl _ _ _) rfl ?_)
      obtain ⟨p1, p2⟩ := Go.Sort.insertionSort_holds swo dk a' b' q1 (by omega)
      obtain ⟨p3, p4⟩ := hF _ p1 p2
      exact ⟨rfl, _, hR1, p3, p4, hO.trans hO1⟩
    by_cases hl0 : lim = 0
    · have hq : (lim == 0) = true := by rw [beq_iff_eq]; exact hl0
      go_wp2_with (go_at_call 84; refine (heap_any g cap N a' b' dk _ hR hsk (by omega) q2 hsz2).mono ?_; rintro e w1 ⟨rfl, hR1, hO1⟩)
      first | go_end0 | ((try simp only [Exit.inBlock, Exit.then]); refine bodyPost_ret (results_none rfl _ _ _) rfl ?_)
      obtain ⟨p1, p2⟩ := Go.Sort.heapSort_holds swo dk a' b' q1 (by omega)
      obtain ⟨p3, p4⟩ := hF _ p1 p2
      exact ⟨rfl, _, hR1, p3, p4, hO.trans hO1⟩
    have hq : (lim == 0) = false := by rw [beq_eq_false_iff_ne]; exact hl0
    have hFK := Lib.hid hF
    clear hF
    go_upto_if 35 with fail
    go_cut [3] (fun s3 wx => ∃ (lim' : Int) (d1 : Array Int), s3 = .int .i64 lim' ∧ Row wx g d1 ∧ Go.Sort.PermIn a' b' dk d1 ∧ Only g w wx)
    case first =>
      cases wb
      · go_wp2_with (go_at_call 85; refine (break_any g cap N a' b' dk _ hR hsk (by omega) q2 hsz).mono ?_; rintro e w1 ⟨d1, rfl, hR1, hP1, hO1⟩)
        go_meet
        exact ⟨_, d1, rfl, hR1, hP1, hO.trans hO1⟩
      · go_wp2_with fail
        go_meet
        exact ⟨lim, dk, rfl, hR, Go.Sort.permIn_refl _ _ _, hO⟩
    case rest =>
      clear hR hO
      obtain ⟨lim, d1, rfl, hR, hP1, hO⟩ := hcut
      have hs1 : d1.size = N := by rw [hP1.1]; exact hsk
      have hBl1 := Go.Sort.Below.perm hBl (by omega) hP1
      have hF1 := Lib.hid (hFK.out.perm hP1)
      clear hFK hBl hP1 hsk
      go_upto_if 50 with (go_at_call 86; refine (pivot_any g cap N a' b' d1 _ hR hs1 (by omega) q2 hsz2).mono ?_; rintro e w2 ⟨x, hint, rfl, x1, x2, hh, hR2, hO2⟩)
      have hO2' := hO.trans hO2
      clear hR hO hO2
      go_cut [11, 12] (fun s11 s12 wx => ∃ (pv : Nat) (h' : Int) (d2 : Array Int), s11 = .int .i64 pv ∧ s12 = .int .i64 h' ∧ a' ≤ pv ∧ pv < b' ∧ Row wx g d2 ∧ Go.Sort.PermIn a' b' d1 d2 ∧ Only g w wx)
      case first =>
        by_cases h2 : hint = 2
        · subst h2
          obtain ⟨c1, hc1⟩ : ∃ c1, b' - 1 = c1 := ⟨_, rfl⟩
          obtain ⟨c2, hc2⟩ : ∃ c2, x - a' = c2 := ⟨_, rfl⟩
          obtain ⟨pv, hpv⟩ : ∃ pv, c1 - c2 = pv := ⟨_, rfl⟩
          have W1 : IntKind.i64.wrap ((b' : Int) - 1) = (c1 : Int) := by rw [IntWalk.i64_in _ (by omega)]; omega
          have W2 : IntKind.i64.wrap ((x : Int) - (a' : Int)) = (c2 : Int) := by rw [IntWalk.i64_in _ (by omega)]; omega
          have W3 : IntKind.i64.wrap ((c1 : Int) - (c2 : Int)) = (pv : Int) := by rw [IntWalk.i64_in _ (by omega)]; omega
          have E1 : (b' : Int) - 1 = (c1 : Int) := by omega
          have E2 : (x : Int) - (a' : Int) = (c2 : Int) := by omega
          have E3 : (c1 : Int) - (c2 : Int) = (pv : Int) := by omega
          have p1 : a' ≤ pv := by omega
          have p2 : pv < b' := by omega
          go_wp2_with (go_at_call 87; refine (rev_any g cap N a' b' d1 _ hR2 hs1 (by omega) q2 hsz2).mono ?_; rintro e w3 ⟨rfl, hR3, hO3⟩)
          go_meet
          exact ⟨pv, 1, _, rfl, rfl, p1, p2, hR3, Go.Sort.reverseRange_holds d1 a' b' q1 (by omega), hO2'.trans hO3⟩
        · have hq2 : (hint == 2) = false := by rw [beq_eq_false_iff_ne]; exact h2
          go_wp2_with fail
          go_meet
          exact ⟨x, hint, d1, rfl, rfl, x1, x2, hR2, Go.Sort.permIn_refl _ _ _, hO2'⟩
      case rest =>
        clear hR2 hO2' hh x1 x2
        obtain ⟨pv, hint, d2, rfl, rfl, p1, p2, hR, hP2, hO⟩ := hcut
        have hs2 : d2.size = N := by rw [hP2.1]; exact hs1
        have hBl2 := Go.Sort.Below.perm hBl1 (by omega) hP2
        have hF2 := Lib.hid (hF1.out.perm hP2)
        clear hF1 hBl1 hP2 hs1
        go_upto_region 15 with fail
        go_cut [68] (fun s68 wx => ∃ c : Bool, s68 = .bool c ∧ Row wx g d2 ∧ Only g w wx)
        case first =>
          by_cases h1 : hint = 1
          · have hq1 : (hint == 1) = true := by rw [beq_iff_eq]; exact h1
            cases wb <;> cases wp
            all_goals go_wp2_with fail
            all_goals go_meet
            all_goals exact ⟨_, rfl, hR, hO⟩
          · have hq1 : (hint == 1) = false := by rw [beq_eq_false_iff_ne]; exact h1
            cases wb <;> cases wp
            all_goals go_wp2_with fail
            all_goals go_meet
            all_goals exact ⟨_, rfl, hR, hO⟩
        case rest =>
          clear hR hO
          obtain ⟨c, rfl, hR, hO⟩ := hcut
          go_upto_if 68 with fail
          go_cut [] (fun wx => ∃ d3 : Array Int, Row wx g d3 ∧ Go.Sort.PermIn a' b' d2 d3 ∧ Only g w wx)
          case first =>
            cases c
            · go_wp2_with fail
              go_meet
              exact ⟨d2, hR, Go.Sort.permIn_refl _ _ _, hO⟩
            · obtain ⟨r, hr⟩ : ∃ r, Go.Sort.partialInsertionSort ltInt d2 a' b' = r := ⟨_, rfl⟩
              have hpi := Go.Sort.partialInsertionSort_holds swo d2 a' b' (by omega) (by omega) hBl2
              have hins := pins_any g cap N a' b' d2 _ hR hs2 (by omega) q2 hsz2
              rw [hr] at hpi hins
              obtain ⟨d3, c⟩ := r
              have HPI := Lib.hid hpi
              clear hr hpi
              cases c
              · go_wp2_with (go_at_call 88; refine hins.mono ?_; rintro e w4 ⟨rfl, hR4, hO4⟩)
                go_meet
                exact ⟨d3, hR4, HPI.out.1, hO.trans hO4⟩
              · go_wp2_with (go_at_call 88; refine hins.mono ?_; rintro e w4 ⟨rfl, hR4, hO4⟩)
                first | go_end0 | ((try simp only [Exit.inBlock, Exit.then]); refine bodyPost_ret (results_none rfl _ _ _) rfl ?_)
                obtain ⟨p3, p4⟩ := hF2.out _ HPI.out.1 (HPI.out.2 (by simp))
                exact ⟨rfl, d3, hR4, p3, p4, hO.trans hO4⟩
          case rest =>
            clear hR hO
            obtain ⟨d3, hR, hP3, hO⟩ := hcut
            have hs3 : d3.size = N := by rw [hP3.1]; exact hs2
            have hBl3 := Go.Sort.Below.perm hBl2 (by omega) hP3
            have hF3 := Lib.hid (hF2.out.perm hP3)
            clear hF2 hBl2 hP3 hs2
            go_upto_region 17 with fail
            go_cut [87] (fun s87 wx => ∃ c : Bool, s87 = .bool c ∧ Row wx g d3 ∧ Only g w wx ∧ (c = true → 0 < a' ∧ ltInt d3[a' - 1]! d3[pv]! = false))
            case first =>
              by_cases ha0 : (0 : Int) < (a' : Int)
              · obtain ⟨q, hq⟩ : ∃ q, a' - 1 = q := ⟨_, rfl⟩
                have HQ := Lib.hid hq
                have HA0 : 0 < a' := by omega
                obtain ⟨y, hy⟩ : ∃ y, d3[q]! = y := ⟨_, rfl⟩
                obtain ⟨z, hz⟩ : ∃ z, d3[pv]! = z := ⟨_, rfl⟩
                have cy := hR.cell (j := q) (by omega) hy
                have cz := hR.cell (j := pv) (by omega) hz
                have W1 : IntKind.i64.wrap ((a' : Int) - 1) = (q : Int) := by rw [IntWalk.i64_in _ (by omega)]; omega
                have z0 : (0 : Int) ≤ (q : Int) := by omega
                have z1 : (q : Int) < (N : Int) := by omega
                have z2 : ((q : Nat) : Int).toNat = q := Int.toNat_natCast _
                have y1 : (pv : Int) < (N : Int) := by omega
                have HY := Lib.hid hy
                have HZ := Lib.hid hz
                clear hy hz hq
                cases hl : ltInt y z
                · go_quiet ((go_at_call 89; exact Calls.quiet_of_same (by refine (less_any _ _ _).mono ?_; rintro e w1 ⟨rfl, rfl⟩; exact ⟨by rw [hl], rfl⟩)))
                  go_wp2_with fail
                  go_meet
                  exact ⟨true, rfl, hR.drewN _, hO.trans (Only.drewN _ _ _), fun _ => ⟨HA0, by rw [HQ.out, HY.out, HZ.out]; exact hl⟩⟩
                · go_quiet ((go_at_call 89; exact Calls.quiet_of_same (by refine (less_any _ _ _).mono ?_; rintro e w1 ⟨rfl, rfl⟩; exact ⟨by rw [hl], rfl⟩)))
                  go_wp2_with fail
                  go_meet
                  exact ⟨false, rfl, hR.drewN _, hO.trans (Only.drewN _ _ _), fun h => (nomatch h)⟩
              · have hd0 : decide ((0 : Int) < (a' : Int)) = false := by simpa using ha0
                have hd1 : decide (0 < a') = false := by simp; omega
                go_quiet (fail)
                go_wp2_with fail
                go_meet
                exact ⟨false, rfl, hR.drewN _, hO.trans (Only.drewN _ _ _), fun h => (nomatch h)⟩
            case rest =>
              clear hR hO
              obtain ⟨c, rfl, hR, hO, hc⟩ := hcut
              cases c
              · obtain ⟨r, hr⟩ : ∃ r, Go.Sort.partition ltInt d3 a' b' pv = r := ⟨_, rfl⟩
                obtain ⟨mid, ap, d4⟩ := r
                have hpa := part_any g cap N a' b' pv d3 _ hR hs3 p1 p2 q2 hsz2
                rw [hr] at hpa
                obtain ⟨m1, m2, m3, m4, m5, m6, m7⟩ := Go.Sort.round_part swo (Go.Sort.partition_holds ltInt) p1 p2 (by omega) hBl3 hr
                have M6 := Lib.hid m6
                have M7 := Lib.hid m7
                have hs4 : d4.size = N := by rw [m3]; exact hs3
                obtain ⟨ll, hll⟩ : ∃ ll, mid - a' = ll := ⟨_, rfl⟩
                obtain ⟨rl, hrl⟩ : ∃ rl, b' - mid = rl := ⟨_, rfl⟩
                obtain ⟨l8, hl8⟩ : ∃ l8, l / 8 = l8 := ⟨_, rfl⟩
                obtain ⟨mid1, hm1⟩ : ∃ mid1, mid + 1 = mid1 := ⟨_, rfl⟩
                have W1 : IntKind.i64.wrap ((mid : Int) - (a' : Int)) = (ll : Int) := by rw [IntWalk.i64_in _ (by omega)]; omega
                have W2 : IntKind.i64.wrap ((b' : Int) - (mid : Int)) = (rl : Int) := by rw [IntWalk.i64_in _ (by omega)]; omega
                have W3 : IntKind.i64.wrap ((mid : Int) + 1) = (mid1 : Int) := by rw [IntWalk.i64_in _ (by omega)]; omega
                have E1 : (mid : Int) - (a' : Int) = (ll : Int) := by omega
                have E2 : (b' : Int) - (mid : Int) = (rl : Int) := by omega
                have E3 : (mid : Int) + 1 = (mid1 : Int) := by omega
                have E8 : (l : Int) / 8 = (l8 : Int) := by omega
                rw [hm1] at m5 M6 M7
                clear hr m6 m7 hc
                by_cases hside : (ll : Int) < (rl : Int)
                · go_wp2_with (go_at_call 91; refine hpa.mono ?_; rintro e w5 ⟨rfl, hR5, hO5⟩)
                  refine (IH (mid - a') (by omega) a' mid lim d4 w5 (Nat.le_refl _) hR5 hs4 m1 (by omega) hsz m4).mono ?_
                  rintro e w6 ⟨rfl, d6, hR6, hP6, hS6, hO6⟩
                  obtain ⟨k1, k2⟩ := M6.out d6 hP6 hS6
                  go_wp2_with fail
                  refine ⟨⟨mid1, b', d6, lim, _, ap, rfl, rfl, rfl, rfl, rfl, by omega, q2, by omega, by rw [hP6.1]; exact hs4, hR6, (hO.trans hO5).trans hO6, k1, fun R r1 r2 => ?_⟩, by simp [intOf]; omega⟩
                  obtain ⟨k3, k4⟩ := k2 R r1 r2
                  exact hF3.out R k3 k4
                · go_wp2_with (go_at_call 91; refine hpa.mono ?_; rintro e w5 ⟨rfl, hR5, hO5⟩)
                  refine (IH (b' - mid1) (by omega) mid1 b' lim d4 w5 (Nat.le_refl _) hR5 hs4 (by omega) q2 hsz m5).mono ?_
                  rintro e w6 ⟨rfl, d6, hR6, hP6, hS6, hO6⟩
                  obtain ⟨k1, k2⟩ := M7.out d6 hP6 hS6
                  go_wp2_with fail
                  refine ⟨⟨a', mid, d6, lim, _, ap, rfl, rfl, rfl, rfl, rfl, m1, by omega, by omega, by rw [hP6.1]; exact hs4, hR6, (hO.trans hO5).trans hO6, k1, fun R r1 r2 => ?_⟩, by simp [intOf]; omega⟩
                  obtain ⟨k3, k4⟩ := k2 R r1 r2
                  exact hF3.out R k3 k4
              · obtain ⟨c1, c2⟩ := hc rfl
                obtain ⟨r, hr⟩ : ∃ r, Go.Sort.partitionEqual ltInt d3 a' b' pv = r := ⟨_, rfl⟩
                obtain ⟨mid, d4⟩ := r
                have hpa := parteq_any g cap N a' b' pv d3 _ hR hs3 p1 p2 q2 hsz2
                rw [hr] at hpa
                obtain ⟨m1, m2, m3, m4, m5⟩ := Go.Sort.round_eq swo (Go.Sort.partitionEqual_holds ltInt) c1 p1 p2 (by omega) hBl3 c2 hr
                have M5 := Lib.hid m5
                clear hr m5 hc c2
                go_wp2_with (go_at_call 90; refine hpa.mono ?_; rintro e w5 ⟨rfl, hR5, hO5⟩)
                refine ⟨⟨mid, b', d4, lim, wb, wp, rfl, rfl, rfl, rfl, rfl, m2, q2, by omega, by rw [m3]; exact hs3, hR5, hO.trans hO5, m4, fun R r1 r2 => ?_⟩, by simp [intOf]; omega⟩
                obtain ⟨k3, k4⟩ := M5.out R r1 r2
                exact hF3.out R k3 k4

theorem pdq_all (g cap N : Nat) : ∀ n, PdqAt g cap N n := by
  intro n
  induction n using Nat.strongRecOn with
  | _ n ih => exact pdq_step g cap N n ih
/-- the sorted list -/
def srt (l : List Int) : List Int := l.mergeSort (fun x y => decide (x ≤ y))
theorem srt_eq {d d' : Array Int} (h1 : Go.Sort.PermIn 0 d.size d d') (h2 : Go.Sort.SortedIn ltInt 0 d.size d') : d' = (srt d.toList).toArray := by
  have h := Go.Sort.sorted_unique_holds (lt := ltInt) swo (fun x y h1 h2 => by
    have e1 : ¬ x < y := of_decide_eq_false h1
    have e2 : ¬ y < x := of_decide_eq_false h2
    omega) d d' h1 h2
  have e : (fun x y => !ltInt y x) = (fun x y : Int => decide (x ≤ y)) := by
    funext x y
    show (!decide (y < x)) = decide (x ≤ y)
    by_cases hc : y < x
    · rw [decide_eq_true hc, decide_eq_false (by omega)]; rfl
    · rw [decide_eq_false hc, decide_eq_true (by omega)]; rfl
  rw [e] at h
  unfold srt
  rw [← h]
set_option maxRecDepth 100000 in
set_option maxHeartbeats 1000000 in
theorem sort_any (g cap N : Nat) (d : Array Int) (w : World) (h : Row w g d) (hN : d.size = N) (hsz : N ≤ 70368744177664) :
    Calls Tryz.prog 61 #[.slice (some ⟨g, 0, none⟩) N cap] w fun e w' => e = .returned (.tuple #[]) ∧ Row w' g (srt d.toList).toArray ∧ Only g w w' := by
  have h1 : IntKind.u64.wrap (N : Int) = (N : Int) := by rw [IntKind.wrap_u64]; omega
  go_enter Tryz.func61, Tryz.ntmps61
  go_wp2_with (first
    | (go_at_call 65; refine (len_any N _ (by omega)).mono ?_; rintro e w1 ⟨⟨k, rfl, _⟩, rfl⟩)
    | (go_at_call 71; refine (pdq_all g cap N N 0 N k d _ (by omega) h hN (Nat.zero_le _) (Nat.le_refl _) hsz (.inl rfl)).mono ?_; rintro e w1 ⟨rfl, d', hr, hp, hs, ho⟩))
  first | go_end0 | ((try simp only [Exit.inBlock, Exit.then]); refine bodyPost_ret (results_none rfl _ _ _) rfl ?_)
  subst hN
  rw [← srt_eq hp hs]
  exact ⟨rfl, hr, ho⟩
end Go.Proofs.YtcpkpljeimbdiaaGreat.QU
