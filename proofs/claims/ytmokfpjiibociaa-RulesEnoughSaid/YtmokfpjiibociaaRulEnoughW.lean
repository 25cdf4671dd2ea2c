/-
  The walk of the law of those that have enough.
-/
import Derived.Test.YtmokfpjiibociaaRulEnough
namespace Go.Proofs.Ytmokfpjiibociaa.R
open Go.RowKit
open Aid
set_option linter.unusedSimpArgs false
set_option linter.unusedVariables false

theorem Ints.duo {w : World} {base : Nat} {e : TypeId} {u v : Value} {xs ys : List Int} (h : Duo w base e u v xs.length ys.length (xs.map (.int .i64)) (ys.map (.int .i64))) (hx : xs.length ≤ 100) (hy : ys.length ≤ 100) : Ints w .i64 u xs ∧ Ints w .i64 v ys :=
  ⟨Ints.own h.1 (by omega), Ints.own h.2.1 (by omega)⟩
theorem atF_in {m : List Int} {q : Nat} (h : q < m.length) : atF m (q : Int) = m.getD q 0 := by unfold atF; rw [if_pos (by omega), Int.toNat_natCast]
theorem atF_out {m : List Int} {y : Int} (h : ¬ y < (m.length : Int)) : atF m y = 0 := by unfold atF; rw [if_neg (by omega)]

set_option maxRecDepth 100000 in
set_option maxHeartbeats 4000000 in
theorem enough_law (v u : Value) (l m : List Int) (w : World) (h : Ints w .i64 v l) (hu : Ints w .u64 u m) : Calls Try.prog 8 #[.agg #[v], u] w (TrueIn w) := by
  obtain ⟨i0, hi, hz0, hz1, hz2⟩ := info_parts (show (Try.prog.info? 3).map (fun i => (i.zero, i.size, i.bytes)) = some (some (.int .i64 0), 1, 8) by kernel_rfl)
  have HI := Lib.hid h
  have HU := Lib.hid hu
  have h63 := h.1
  have u63 := hu.1
  clear h hu
  obtain ⟨a, c, rfl⟩ := Ints.form HI.out
  obtain ⟨a2, c2, rfl⟩ := Ints.form HU.out
  go_enter Try.func8, Try.ntmps8
  go_wp2_with fail
  have hbA : Below w.heap.size w (w.alloc (.cells #[.slice a l.length c] 40)) := (Below.refl _ _).alloc (Nat.le_refl _) _
  have hc0 : (w.alloc (.cells #[.slice a l.length c] 40)).cell? ⟨w.heap.size, 0, none⟩ = some (.slice a l.length c) := cell_new _ _ _ _ rfl
  obtain ⟨wa, hwa⟩ : ∃ wa, w.alloc (.cells #[.slice a l.length c] 40) = wa := ⟨_, rfl⟩
  rw [hwa] at hbA hc0
  simp only [hwa]
  have hIa := HI.out.below hbA
  have hUa := HU.out.below hbA
  obtain ⟨A, hA⟩ : ∃ A, w.heap.size = A := ⟨_, rfl⟩
  rw [hA] at hc0 hbA
  simp only [hA]
  have hsz : A < wa.heap.size := by rw [← hwa]; simp [hA]
  have HA := Lib.hid hA
  clear hwa hA
  refine (rright_any _ l _ hIa).mono ?_
  rintro e w1 ⟨rfl, hb1⟩
  cases hr : rightB l
  · skip
    go_wp2_with fail
    refine (alive_any _).mono ?_
    rintro e w2 ⟨rfl, hb2⟩
    go_wp2_with fail
    go_ret
    exact ⟨rfl, by rw [HA.out]; exact hbA.trans ((hb1.trans (hb2.mono hb1.size)).mono (by omega))⟩
  · have h7 := right_len hr
    have hup := Lib.hid (right_up hr).1
    have hne : l ≠ [] := by intro e; have := (right_up hr).2; rw [e] at this; simp at this
    have HQ1 := Lib.hid (enough_have l m hne)
    have HQ2 := Lib.hid (enough_more l m hne)
    have hc1 := (hb1.cell (p := ⟨A, 0, none⟩) hsz).trans hc0
    have hs1 : A < w1.heap.size := by have := hb1.size; omega
    have hbB : Below A w w1 := hbA.trans (hb1.mono (by omega))
    have hI1 := hIa.below hb1
    have hU1 := hUa.below hb1
    clear hc0 hsz hbA hIa hUa hb1 hr hne
    go_wp2_with fail
    refine (agreed_any _ _ l m _ hI1 hU1 (by omega)).mono ?_
    rintro e w2 ⟨rfl, hb2⟩
    obtain ⟨n, hn⟩ : ∃ n, agreedF l m = n := ⟨_, rfl⟩
    rw [hn] at HQ1 HQ2 ⊢
    clear hn
    have hc2 := (hb2.cell (p := ⟨A, 0, none⟩) hs1).trans hc1
    have hs2 : A < w2.heap.size := by have := hb2.size; omega
    have hbC : Below A w w2 := hbB.trans (hb2.mono (by omega))
    have HI2 := Lib.hid (hI1.below hb2)
    have HU2 := Lib.hid (hU1.below hb2)
    clear hc1 hs1 hbB hI1 hU1 hb2
    go_wp2_with fail
    go_loopw [6, 7, 21] (fun v6 v7 i wr => ∃ (k : Nat) (xs ys : List Int), i = .int .i64 k ∧ k ≤ l.length ∧ xs.length ≤ k ∧ ys.length ≤ k ∧ Hid (xs = (l.take k).filter fun v => decide (n ≤ atF m v)) ∧ Hid (ys = (l.take k).filter fun v => decide (n < atF m v)) ∧
        Hid (Duo wr w2.heap.size 3 v6 v7 xs.length ys.length (xs.map (.int .i64)) (ys.map (.int .i64))) ∧ Below w2.heap.size w2 wr)
      (fun _ _ i _ => l.length - (intOf i).toNat)
    case atStart => exact ⟨0, [], [], rfl, Nat.zero_le _, Nat.le_refl _, Nat.le_refl _, by simp [Hid], by simp [Hid], Duo.nil _ _ _, Below.refl _ _⟩
    case round =>
      obtain ⟨k, xs, ys, rfl, hk, hxk, hyk, HX, HY, HT, hb⟩ := hrel
      have hcr := (hb.cell (p := ⟨A, 0, none⟩) hs2).trans hc2
      have HIr := Lib.hid (HI2.out.below hb)
      have HUr := Lib.hid (HU2.out.below hb)
      by_cases hlt : (k : Int) < (l.length : Int)
      · obtain ⟨y, hy⟩ : ∃ y, l.getD k 0 = y := ⟨_, rfl⟩
        have hy0 : 0 ≤ y := by rw [← hy]; exact up_nonneg hup.out k (by omega)
        obtain ⟨q, rfl⟩ : ∃ q : Nat, y = q := ⟨y.toNat, by omega⟩
        obtain ⟨b1, o1, rfl, _, cy⟩ := Ints.at_ HIr.out (k := k) (by omega) hy
        have HXn := Lib.hid (filt_next (by omega) hy (fun v => decide (n ≤ atF m v)))
        have HYn := Lib.hid (filt_next (by omega) hy (fun v => decide (n < atF m v)))
        rw [← HX.out] at HXn
        rw [← HY.out] at HYn
        clear hy
        by_cases hqm : (q : Int) < (m.length : Int)
        · obtain ⟨z, hz⟩ : ∃ z, m.getD q 0 = z := ⟨_, rfl⟩
          obtain ⟨b2, o2, rfl, _, cz⟩ := Ints.at_ HUr.out (k := q) (by omega) hz
          rw [atF_in (by omega), hz] at HXn HYn
          clear hz
          rcases Int.lt_trichotomy z n with h1 | h1 | h1
          · have d1 : decide (n ≤ z) = false := by simp; omega
            have d2 : decide (n < z) = false := by simp; omega
            simp only [d1, d2, if_true, if_false, Bool.false_eq_true, List.append_nil] at HXn HYn
            go_wp2_with fail
            exact ⟨⟨k + 1, xs, ys, by go_num, by omega, by omega, by omega, HXn.out.symm, HYn.out.symm, (HT.out), hb⟩, by simp [intOf]; omega⟩
          · have d1 : decide (n ≤ z) = true := by simp; omega
            have d2 : decide (n < z) = false := by simp; omega
            simp only [d1, d2, if_true, if_false, Bool.false_eq_true, List.append_nil] at HXn HYn
            go_wp2_with (first | (at_builtin; refine wpList_duo _ (by rfl) _ _ 38 rfl w2.heap.size 3 i0 (.int .i64 0) 8 Try.underlying38 hi hz0 hz1 hz2 rfl _ _ _ _ _ _ rfl (HT.out.below ((Below.refl _ _).alloc (Nat.le_refl _) _)) wr.heap.size (.int .i64 (q : Int)) rfl (cell_new _ _ _ _ rfl) rfl (by unfold maxLen; omega) (by omega) (by have := hb.size; simp; omega) ?_; intro u5 w5 HT5 hb5; have hb6 := hb.trans (((Below.refl w2.heap.size wr).alloc hb.size _).trans hb5)))
            exact ⟨⟨k + 1, xs ++ [(q : Int)], ys, by go_num, by omega, by simp; omega, by omega, HXn.out.symm, HYn.out.symm, ((by show Duo _ _ _ _ _ _ _ _ _; simpa using HT5)), hb6⟩, by simp [intOf]; omega⟩
          · have d1 : decide (n ≤ z) = true := by simp; omega
            have d2 : decide (n < z) = true := by simp; omega
            simp only [d1, d2, if_true, if_false, Bool.false_eq_true, List.append_nil] at HXn HYn
            go_wp2_with (first
              | (at_builtin; refine wpList_duo _ (by rfl) _ _ 38 rfl w2.heap.size 3 i0 (.int .i64 0) 8 Try.underlying38 hi hz0 hz1 hz2 rfl _ _ _ _ _ _ rfl (HT5.swap.below ((Below.refl _ _).alloc (Nat.le_refl _) _)) w5.heap.size (.int .i64 (q : Int)) rfl (cell_new _ _ _ _ rfl) rfl (by unfold maxLen; omega) (by omega) (by have := hb6.size; simp; omega) ?_; intro u7 w7 HT7 hb7; have hb8 := hb6.trans (((Below.refl w2.heap.size w5).alloc hb6.size _).trans hb7))
              | (at_builtin; refine wpList_duo _ (by rfl) _ _ 38 rfl w2.heap.size 3 i0 (.int .i64 0) 8 Try.underlying38 hi hz0 hz1 hz2 rfl _ _ _ _ _ _ rfl (HT.out.below ((Below.refl _ _).alloc (Nat.le_refl _) _)) wr.heap.size (.int .i64 (q : Int)) rfl (cell_new _ _ _ _ rfl) rfl (by unfold maxLen; omega) (by omega) (by have := hb.size; simp; omega) ?_; intro u5 w5 HT5 hb5; have hb6 := hb.trans (((Below.refl w2.heap.size wr).alloc hb.size _).trans hb5)))
            exact ⟨⟨k + 1, xs ++ [(q : Int)], ys ++ [(q : Int)], by go_num, by omega, by simp; omega, by simp; omega, HXn.out.symm, HYn.out.symm, ((by show Duo _ _ _ _ _ _ _ _ _; simpa using HT7.swap)), hb8⟩, by simp [intOf]; omega⟩
        · rw [atF_out hqm] at HXn HYn
          rcases Int.lt_trichotomy 0 n with h1 | h1 | h1
          · have d1 : decide (n ≤ 0) = false := by simp; omega
            have d2 : decide (n < 0) = false := by simp; omega
            simp only [d1, d2, if_true, if_false, Bool.false_eq_true, List.append_nil] at HXn HYn
            go_wp2_with fail
            exact ⟨⟨k + 1, xs, ys, by go_num, by omega, by omega, by omega, HXn.out.symm, HYn.out.symm, (HT.out), hb⟩, by simp [intOf]; omega⟩
          · have d1 : decide (n ≤ 0) = true := by simp; omega
            have d2 : decide (n < 0) = false := by simp; omega
            simp only [d1, d2, if_true, if_false, Bool.false_eq_true, List.append_nil] at HXn HYn
            go_wp2_with (first | (at_builtin; refine wpList_duo _ (by rfl) _ _ 38 rfl w2.heap.size 3 i0 (.int .i64 0) 8 Try.underlying38 hi hz0 hz1 hz2 rfl _ _ _ _ _ _ rfl (HT.out.below ((Below.refl _ _).alloc (Nat.le_refl _) _)) wr.heap.size (.int .i64 (q : Int)) rfl (cell_new _ _ _ _ rfl) rfl (by unfold maxLen; omega) (by omega) (by have := hb.size; simp; omega) ?_; intro u5 w5 HT5 hb5; have hb6 := hb.trans (((Below.refl w2.heap.size wr).alloc hb.size _).trans hb5)))
            exact ⟨⟨k + 1, xs ++ [(q : Int)], ys, by go_num, by omega, by simp; omega, by omega, HXn.out.symm, HYn.out.symm, ((by show Duo _ _ _ _ _ _ _ _ _; simpa using HT5)), hb6⟩, by simp [intOf]; omega⟩
          · have d1 : decide (n ≤ 0) = true := by simp; omega
            have d2 : decide (n < 0) = true := by simp; omega
            simp only [d1, d2, if_true, if_false, Bool.false_eq_true, List.append_nil] at HXn HYn
            go_wp2_with (first
              | (at_builtin; refine wpList_duo _ (by rfl) _ _ 38 rfl w2.heap.size 3 i0 (.int .i64 0) 8 Try.underlying38 hi hz0 hz1 hz2 rfl _ _ _ _ _ _ rfl (HT5.swap.below ((Below.refl _ _).alloc (Nat.le_refl _) _)) w5.heap.size (.int .i64 (q : Int)) rfl (cell_new _ _ _ _ rfl) rfl (by unfold maxLen; omega) (by omega) (by have := hb6.size; simp; omega) ?_; intro u7 w7 HT7 hb7; have hb8 := hb6.trans (((Below.refl w2.heap.size w5).alloc hb6.size _).trans hb7))
              | (at_builtin; refine wpList_duo _ (by rfl) _ _ 38 rfl w2.heap.size 3 i0 (.int .i64 0) 8 Try.underlying38 hi hz0 hz1 hz2 rfl _ _ _ _ _ _ rfl (HT.out.below ((Below.refl _ _).alloc (Nat.le_refl _) _)) wr.heap.size (.int .i64 (q : Int)) rfl (cell_new _ _ _ _ rfl) rfl (by unfold maxLen; omega) (by omega) (by have := hb.size; simp; omega) ?_; intro u5 w5 HT5 hb5; have hb6 := hb.trans (((Below.refl w2.heap.size wr).alloc hb.size _).trans hb5)))
            exact ⟨⟨k + 1, xs ++ [(q : Int)], ys ++ [(q : Int)], by go_num, by omega, by simp; omega, by simp; omega, HXn.out.symm, HYn.out.symm, ((by show Duo _ _ _ _ _ _ _ _ _; simpa using HT7.swap)), hb8⟩, by simp [intOf]; omega⟩
      · have hke : k = l.length := by omega
        subst hke
        rw [List.take_length] at HX HY
        rw [← HX.out] at HQ1
        rw [← HY.out] at HQ2
        have hbw : Below A w wr := hbC.trans (hb.mono (by omega))
        have hrs : A < wr.heap.size := by have := hb.size; omega
        go_wp2_with fail
        refine (alive_any _).mono ?_
        rintro e w5 ⟨rfl, hb5⟩
        have hc5 := (hb5.cell (p := ⟨A, 0, none⟩) hrs).trans hcr
        have hI5 := HIr.out.below hb5
        have hT5 := Ints.duo (HT.out.below hb5) (by omega) (by omega)
        have hs5 : A < w5.heap.size := by have := hb5.size; omega
        have hb5' := hbw.trans (hb5.mono (by omega))
        go_wp2_with fail
        refine (quorum_any _ _ l xs _ hI5 hT5.1).mono ?_
        rintro e w6 ⟨rfl, hb6⟩
        rw [HQ1.out]
        have hc6 := (hb6.cell (p := ⟨A, 0, none⟩) hs5).trans hc5
        have hI6 := hI5.below hb6
        have hJ6 := hT5.2.below hb6
        have hb6' := hb5'.trans (hb6.mono (by omega))
        go_wp2_with fail
        refine (quorum_any _ _ l ys _ hI6 hJ6).mono ?_
        rintro e w7 ⟨rfl, hb7⟩
        rw [HQ2.out]
        have hb7' := hb6'.trans (hb7.mono (by have := hb6.size; omega))
        go_wp2_with fail
        go_ret
        exact ⟨rfl, by rw [HA.out]; exact hb7'⟩
end Go.Proofs.Ytmokfpjiibociaa.R
