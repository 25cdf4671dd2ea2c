/-
  The walks of the laws of layer 11 on texts that are read: each answers true.
-/
import Derived.Test.YtldohnolpojccaaDoorLevLaws
namespace Go.Proofs.YtldohnolpojccaaDoor.V
open Go.RowKit
open LM EM Aid L E VM
set_option linter.unusedSimpArgs false
set_option linter.unusedVariables false

theorem row_next {out : Nat} {l t : List Int} {k : Nat} (hk : k < t.length) {r : Int} (hr : t.getD k 0 = r) : stepF out l (cutF out l.length (rowF out l (t.take k))) r = rowF out l (t.take (k + 1)) := by
  have e1 : t[k] = r := by rw [← hr]; simp [List.getD_eq_getElem?_getD, hk]
  rw [cut_row, step_row, List.take_succ_eq_append_getElem hk, e1]
theorem dist_row (out : Nat) (l t : List Int) : distF out l.length (rowF out l t) = if lv t l < out then (lv t l, true) else (0, false) := by
  have e : rowF out l t l.length = min (lv t l) out := by unfold rowF; rw [if_pos (Nat.le_refl _), List.take_length]
  unfold distF
  rw [e]
  by_cases h : lv t l < out
  · rw [if_pos h, if_pos (by omega), Nat.min_eq_left (by omega)]
  · rw [if_neg h, if_neg (by omega)]

set_option maxRecDepth 100000 in
set_option maxHeartbeats 2000000 in
theorem near_law (s : ByteArray) (edits : Int) (v : Value) (t : List Int) (w : World) (hs : s.size ≤ 35184372088832) (hv : Ints w .i32 v t) (T : Tab w) :
    Calls Tryd.prog 7 #[.string s, .int .i64 edits, v] w (TrueIn w) := by
  obtain ⟨zi, hzi, hzz⟩ := zero_row
  have HV := Lib.hid hv
  have ht63 := hv.1
  clear hv
  obtain ⟨av, cv, rfl⟩ := Ints.form HV.out
  go_enter Tryd.func7, Tryd.ntmps7
  go_wp2_with fail
  refine (made_any s edits w hs T).mono ?_
  rintro e w1 ⟨hb1, ⟨hr, v, rfl⟩ | ⟨l, n, out, p, a, c, hr, hl, rfl, hn, ho, rfl, hL, hI, hc⟩⟩
  · have HR := Lib.hid hr
    clear hr
    have T1 := T.below hb1
    go_wp2_with fail
    refine (alive_any w1 T1).mono ?_
    rintro e w2 ⟨rfl, hb2⟩
    have hbb := hb1.trans (hb2.mono hb1.size)
    clear hb1 hb2
    go_wp2_with fail
    refine (right_any s edits w2 (by omega)).mono ?_
    rintro e w3 ⟨rfl, hb3⟩
    rw [HR.out]
    go_wp2_with fail
    go_ret
    exact ⟨rfl, hbb.trans (hb3.mono hbb.size)⟩
  · have HI := Lib.hid hI
    have hlb := hL.bounds
    clear hr hl hI
    have T1 := T.below hb1
    by_cases h300 : (t.length : Int) ≤ 300
    · have h300' : ¬ (300 : Int) < (t.length : Int) := by omega
      go_wp2_with (first
        | (go_at_call 15; refine (start_any p l out w1 hL).mono ?_; rintro e w2 ⟨he, hb2⟩; rw [start_row] at he; subst he)
        | (refine wpList_allocN _ (by rfl) _ rfl zi hzi _ hzz ?_; intro w3 hA hb3 hs3)
        | (refine wpList_storeN _ (by rfl) _ _ _ rfl rfl w2.heap.size rfl _ _ _ hA rfl (size_row _) (by rw [u8A_size, u8A_size]) (u8A_all _ _) ?_; intro w4 hr4 hb4 hs4 _))
      have hs2 := hb2.size
      obtain ⟨A, hA'⟩ : ∃ A, w2.heap.size = A := ⟨_, rfl⟩
      have hB : Below w1.heap.size w1 w4 := hb2.trans (((hb3.trans (hb4.mono (Nat.le_refl _))).mono hs2))
      have hAl : w1.heap.size ≤ A := by omega
      have hAs : A < w4.heap.size := by omega
      rw [hA'] at hr4
      simp only [hA']
      clear hA hb2 hb3 hb4 hs2 hs3 hs4 hA'
      have hR0 : Rw w4 A (rowF out l (t.take 0)) := hr4
      go_loopw [44] (fun x wr => ∃ k : Nat, x = .int .i64 k ∧ k ≤ t.length ∧ Rw wr A (rowF out l (t.take k)) ∧ Below w1.heap.size w1 wr ∧ A < wr.heap.size)
        (fun x _ => t.length - (intOf x).toNat)
      case atStart => exact ⟨0, rfl, Nat.zero_le _, hR0, hB, hAs⟩
      case round =>
        clear hR0 hB hAs hr4
        obtain ⟨k, rfl, hk, hR, hB, hAs⟩ := hrel
        by_cases hlast : (k : Int) < (t.length : Int)
        · obtain ⟨r, hr⟩ : ∃ r, t.getD k 0 = r := ⟨_, rfl⟩
          have hBW := hb1.trans (hB.mono hb1.size)
          obtain ⟨bb, oo, rfl, _, cc⟩ := Ints.at_ (HV.out.below hBW) (k := k) (by omega) hr
          have HN := Lib.hid (row_next (out := out) (l := l) (t := t) (k := k) (by omega) hr)
          have hLr := hL.below hB
          clear hr
          go_wp2_with (first
            | (refine wpList_loadN _ (by rfl) _ _ rfl _ under_row rfl A 0 rfl (u8A 25 _) (size_row _) (Rw.cells hR) ?_)
            | (go_at_call 17; refine (step_any p l out _ _ _ hLr).mono ?_; rintro e wn ⟨he, hbn⟩; rw [HN.out] at he; subst he; have hsn := hbn.size; replace hR := Rw.below hR hbn hAs; replace hB := hB.trans (hbn.mono hB.size))
            | (refine wpList_storeN _ (by rfl) _ _ _ rfl rfl A rfl _ _ _ hR rfl (size_row _) (by rw [u8A_size, u8A_size]) (u8A_all _ _) ?_; intro wq hrq hbq hsq _))
          exact ⟨⟨k + 1, by go_num, by omega, hrq, hB.trans (hbq.mono hAl), by omega⟩, by simp [intOf]; omega⟩
        · have hke : k = t.length := by omega
          subst hke
          rw [List.take_length] at hR
          have hLr := hL.below hB
          have HD := Lib.hid (dist_row out l t)
          obtain ⟨d, hd⟩ : ∃ d, lv t l = d := ⟨_, rfl⟩
          have hdm : d ≤ 400 := by have := lv_max t l; omega
          rw [hd] at HD
          have HDD := Lib.hid hd
          clear hd
          by_cases hdo : d < out
          · have hD2 : Hid (distF out l.length (rowF out l t) = (d, true)) := by show _ = _; rw [HD.out, if_pos hdo]
            have hdn : (d : Int) ≤ (n : Int) := by omega
            go_wp2_with (first
              | (refine wpList_loadN _ (by rfl) _ _ rfl _ under_row rfl A 0 rfl (u8A 25 _) (size_row _) (Rw.cells hR) ?_)
              | (go_at_call 19; refine (dist_any p l out _ _ hLr).mono ?_; rintro e w5 ⟨he, hb5⟩; rw [hD2.out] at he; subst he; replace hB := hB.trans (hb5.mono hB.size)))
            refine (far_any _ _ t l _ (HV.out.below (hb1.trans (hB.mono hb1.size))) (HI.out.below hB) (by omega) (by omega)).mono ?_
            rintro e w6 ⟨rfl, hb6⟩
            rw [HDD.out]
            have hB6 := hB.trans (hb6.mono hB.size)
            clear hB hb6 hb5
            go_wp2_with fail
            refine (alive_any _ (T1.below hB6)).mono ?_
            rintro e w7 ⟨rfl, hb7⟩
            go_wp2_with fail
            go_ret
            exact ⟨by simp <;> omega, hb1.trans ((hB6.trans (hb7.mono hB6.size)).mono hb1.size)⟩
          · have hD2 : Hid (distF out l.length (rowF out l t) = (0, false)) := by show _ = _; rw [HD.out, if_neg hdo]
            have hdn : ¬ (d : Int) ≤ (n : Int) := by omega
            go_wp2_with (first
              | (refine wpList_loadN _ (by rfl) _ _ rfl _ under_row rfl A 0 rfl (u8A 25 _) (size_row _) (Rw.cells hR) ?_)
              | (go_at_call 19; refine (dist_any p l out _ _ hLr).mono ?_; rintro e w5 ⟨he, hb5⟩; rw [hD2.out] at he; subst he; replace hB := hB.trans (hb5.mono hB.size)))
            refine (far_any _ _ t l _ (HV.out.below (hb1.trans (hB.mono hb1.size))) (HI.out.below hB) (by omega) (by omega)).mono ?_
            rintro e w6 ⟨rfl, hb6⟩
            rw [HDD.out]
            have hB6 := hB.trans (hb6.mono hB.size)
            clear hB hb6 hb5
            go_wp2_with fail
            refine (alive_any _ (T1.below hB6)).mono ?_
            rintro e w7 ⟨rfl, hb7⟩
            go_wp2_with fail
            go_ret
            exact ⟨by simp <;> omega, hb1.trans ((hB6.trans (hb7.mono hB6.size)).mono hb1.size)⟩
    · have h300' : (300 : Int) < (t.length : Int) := by omega
      go_wp2_with fail
      refine (alive_any w1 T1).mono ?_
      rintro e w2 ⟨rfl, hb2⟩
      go_wp2_with fail
      go_ret
      exact ⟨rfl, hb1.trans (hb2.mono hb1.size)⟩
end Go.Proofs.YtldohnolpojccaaDoor.V
