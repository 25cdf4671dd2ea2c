/-
  The walks of the laws LevLess and LevReads: each answers true.
-/
import Derived.Test.YtldohnolpojccaaDoorLevLawsB
namespace Go.Proofs.YtldohnolpojccaaDoor.V
open Go.RowKit
open LM EM Aid L E VM
set_option linter.unusedSimpArgs false
set_option linter.unusedVariables false

set_option maxRecDepth 100000 in
set_option maxHeartbeats 2000000 in
theorem less_law (s : ByteArray) (edits : Int) (v : Value) (t : List Int) (w : World) (hs : s.size ≤ 35184372088832) (hv : Ints w .i32 v t) (T : Tab w) :
    Calls Tryd.prog 10 #[.string s, .int .i64 edits, v] w (TrueIn w) := by
  obtain ⟨zi, hzi, hzz⟩ := zero_row
  have HV := Lib.hid hv
  have ht63 := hv.1
  clear hv
  obtain ⟨av, cv, rfl⟩ := Ints.form HV.out
  obtain ⟨e2, he2⟩ : ∃ e2, IntKind.i64.wrap (edits + 1) = e2 := ⟨_, rfl⟩
  go_enter Tryd.func10, Tryd.ntmps10
  go_wp2_with fail
  refine (made_any s edits w hs T).mono ?_
  rintro e w1 ⟨hb1, ⟨hr, v, rfl⟩ | ⟨l, n, out, p, a, c, hr, hl, rfl, hn, ho, rfl, hL, hI, hc⟩⟩
  · have HR := Lib.hid hr
    clear hr
    have T1 := T.below hb1
    go_wp2_with fail
    refine (made_any s e2 w1 hs T1).mono ?_
    rintro e w2 ⟨hb2, hx⟩
    have T2 := T1.below hb2
    have hbb := hb1.trans (hb2.mono hb1.size)
    clear hb1 hb2
    rcases hx with ⟨hr, v2, rfl⟩ | ⟨l, n, out, p, a, c, hr, hl, hne, hn, ho, rfl, hL, hI, hc⟩
    all_goals
      try clear hL hI hl hne
      clear hr
      go_wp2_with fail
      refine (alive_any w2 T2).mono ?_
      rintro e w3 ⟨rfl, hb3⟩
      have hbc := hbb.trans (hb3.mono hbb.size)
      clear hb3
      go_wp2_with fail
      refine (right_any s edits w3 (by omega)).mono ?_
      rintro e w4 ⟨rfl, hb4⟩
      rw [HR.out]
      go_wp2_with fail
      go_ret
      exact ⟨rfl, hbc.trans (hb4.mono hbc.size)⟩
  · have hlb := hL.bounds
    have HL := Lib.hid hl
    clear hr hl hI
    have T0 := T.below hb1
    have he2' : e2 = (n : Int) + 1 := by rw [← he2]; exact IntWalk.i64_in _ (by omega)
    have HE := Lib.hid he2'
    clear he2'
    go_wp2_with fail
    refine (made_any s e2 w1 hs T0).mono ?_
    rintro e w2 ⟨hb2, ⟨hr, v2, rfl⟩ | ⟨l', n2, out2, p2, a2, c2, hr, hl, hne, hn2, ho2, rfl, hL2, hI2, hc2⟩⟩
    · have T2 := T0.below hb2
      clear hr
      go_wp2_with fail
      refine (alive_any w2 T2).mono ?_
      rintro e w3 ⟨rfl, hb3⟩
      go_wp2_with fail
      go_ret
      have hbb := hb1.trans (hb2.mono hb1.size)
      exact ⟨rfl, hbb.trans (hb3.mono hbb.size)⟩
    · rw [HL.out] at hl
      obtain rfl := Option.some.inj hl
      have T1 := T0.below hb2
      have hoo : out2 = out + 1 := by have := HE.out; omega
      have HO := Lib.hid hoo
      replace hL := hL.below hb2
      replace hb1 := hb1.trans (hb2.mono hb1.size)
      clear hr hl hI2 hne hb2 HE he2 T0 ho2 hn2 hoo
      go_wp2_with (first
        | (go_at_call 15; refine (start_any p2 l out2 w5 (hL2.below hB)).mono ?_; rintro e w6 ⟨he, hb6⟩; rw [start_row] at he; subst he)
        | (go_at_call 15; refine (start_any p l out w2 hL).mono ?_; rintro e w3 ⟨he, hb3⟩; rw [start_row] at he; subst he)
        | (refine wpList_allocN _ (by rfl) _ rfl zi hzi _ hzz ?_; have hr5' := hr5; intro w7 hA2 hb7 hs7)
        | (refine wpList_allocN _ (by rfl) _ rfl zi hzi _ hzz ?_; intro w4 hA hb4 hs4)
        | (refine wpList_storeN _ (by rfl) _ _ _ rfl rfl w3.heap.size rfl _ _ _ hA rfl (size_row _) (by rw [u8A_size, u8A_size]) (u8A_all _ _) ?_; intro w5 hr5 hb5 hs5 _; have hB : Below w2.heap.size w2 w5 := hb3.trans (((hb4.trans (hb5.mono (Nat.le_refl _))).mono hb3.size)))
        | (refine wpList_storeN _ (by rfl) _ _ _ rfl rfl w6.heap.size rfl _ _ _ hA2 rfl (size_row _) (by rw [u8A_size, u8A_size]) (u8A_all _ _) ?_; intro w8 hr8 hb8 hs8 _))
      have hs3 := hb3.size
      have hs6 := hb6.size
      have hs56 := hB.size
      obtain ⟨A, hA'⟩ : ∃ A, w3.heap.size = A := ⟨_, rfl⟩
      obtain ⟨B, hB'⟩ : ∃ A, w6.heap.size = A := ⟨_, rfl⟩
      have hb68 : Below w6.heap.size w6 w8 := hb7.trans (hb8.mono (Nat.le_refl _))
      have hr58 : Rw w8 A (rowF out l (t.take 0)) := by
        have := hr5.below (hb6.trans (hb68.mono hs6)) (by omega)
        rw [hA'] at this; exact this
      have hr88 : Rw w8 B (rowF out2 l (t.take 0)) := by rw [hB'] at hr8; exact hr8
      have hBB : Below w2.heap.size w2 w8 := hB.trans ((hb6.trans (hb68.mono hs6)).mono hs56)
      have hAl : w2.heap.size ≤ A := by omega
      have hAB : A < B := by omega
      have hBs : B < w8.heap.size := by omega
      simp only [hA', hB']
      clear hA hA2 hb3 hb4 hb5 hb6 hb7 hb8 hs3 hs4 hs5 hs6 hs7 hs8 hs56 hA' hB' hr5 hr5' hr8 hb68 hB
      go_loopw [58] (fun x wr => ∃ k : Nat, x = .int .i64 k ∧ k ≤ t.length ∧ Rw wr A (rowF out l (t.take k)) ∧ Rw wr B (rowF out2 l (t.take k)) ∧ Below w2.heap.size w2 wr ∧ B < wr.heap.size)
        (fun x _ => t.length - (intOf x).toNat)
      case atStart => exact ⟨0, rfl, Nat.zero_le _, hr58, hr88, hBB, hBs⟩
      case round =>
        clear hr58 hr88 hBB hBs
        obtain ⟨k, rfl, hk, hR, hR2, hB, hBs⟩ := hrel
        by_cases hlast : (k : Int) < (t.length : Int)
        · obtain ⟨r, hr⟩ : ∃ r, t.getD k 0 = r := ⟨_, rfl⟩
          have hBW := hb1.trans (hB.mono hb1.size)
          obtain ⟨bb, oo, rfl, _, cc⟩ := Ints.at_ (HV.out.below hBW) (k := k) (by omega) hr
          have HN := Lib.hid (row_next (out := out) (l := l) (t := t) (k := k) (by omega) hr)
          have HN2 := Lib.hid (row_next (out := out2) (l := l) (t := t) (k := k) (by omega) hr)
          clear hr
          go_wp2_with (first
            | (refine wpList_loadN _ (by rfl) _ _ rfl _ under_row rfl A 0 rfl (u8A 25 _) (size_row _) (Rw.cells hR) ?_)
            | (refine wpList_loadN _ (by rfl) _ _ rfl _ under_row rfl B 0 rfl (u8A 25 _) (size_row _) (Rw.cells hR2) ?_)
            | (refine wpList_storeN _ (by rfl) _ _ _ rfl rfl A rfl _ _ _ hR rfl (size_row _) (by rw [u8A_size, u8A_size]) (u8A_all _ _) ?_; intro wq hrq hbq hsq hkq; replace hR2 : Rw wq B _ := (hkq B (by omega)).trans hR2; replace hB := hB.trans (hbq.mono hAl); replace hBs := hsq ▸ hBs)
            | (have hrq' := hrq; go_at_call 17; refine (step_any p2 l out2 _ _ _ (hL2.below hB)).mono ?_; rintro e wm ⟨he, hbm⟩; rw [HN2.out] at he; subst he; have hsm := hbm.size; have hrm := Blk.below hrq hbm (by omega); replace hR2 := Rw.below hR2 hbm hBs; replace hB := hB.trans (hbm.mono hB.size); replace hBs := Nat.lt_of_lt_of_le hBs hsm)
            | (go_at_call 17; refine (step_any p l out _ _ _ (hL.below hB)).mono ?_; rintro e wn ⟨he, hbn⟩; rw [HN.out] at he; subst he; have hsn := hbn.size; replace hR := Rw.below hR hbn (by omega); replace hR2 := Rw.below hR2 hbn hBs; replace hB := hB.trans (hbn.mono hB.size); replace hBs := Nat.lt_of_lt_of_le hBs hsn)
            | (refine wpList_storeN _ (by rfl) _ _ _ rfl rfl B rfl _ _ _ hR2 rfl (size_row _) (by rw [u8A_size, u8A_size]) (u8A_all _ _) ?_; intro wz hrz hbz hsz hkz; replace hrm : Blk wz A _ _ := (hkz A (by omega)).trans hrm; replace hB := hB.trans (hbz.mono (by omega))))
          exact ⟨⟨k + 1, by go_num, by omega, hrm, hrz, hB, by omega⟩, by simp [intOf]; omega⟩
        · have hke : k = t.length := by omega
          subst hke
          rw [List.take_length] at hR hR2
          have HD1 := Lib.hid (dist_row out l t)
          have HD2 := Lib.hid (dist_row out2 l t)
          obtain ⟨d, hd⟩ : ∃ d, lv t l = d := ⟨_, rfl⟩
          rw [hd] at HD1 HD2
          clear hd
          by_cases hdo : d < out
          · have hdo2 : d < out2 := by have := HO.out; omega
            have hD1 : Hid (distF out l.length (rowF out l t) = (d, true)) := by show _ = _; rw [HD1.out, if_pos hdo]
            have hD2 : Hid (distF out2 l.length (rowF out2 l t) = (d, true)) := by show _ = _; rw [HD2.out, if_pos hdo2]
            go_wp2_with (first
              | (refine wpList_loadN _ (by rfl) _ _ rfl _ under_row rfl A 0 rfl (u8A 25 _) (size_row _) (Rw.cells hR) ?_)
              | (refine wpList_loadN _ (by rfl) _ _ rfl _ under_row rfl B 0 rfl (u8A 25 _) (size_row _) (Rw.cells hR2) ?_)
              | (have hb5' := hb5; go_at_call 19; refine (dist_any p2 l out2 _ _ (hL2.below hB)).mono ?_; rintro e w6 ⟨he, hb6⟩; rw [hD2.out] at he; subst he; replace hB := hB.trans (hb6.mono hB.size))
              | (go_at_call 19; refine (dist_any p l out _ _ (hL.below hB)).mono ?_; rintro e w5 ⟨he, hb5⟩; rw [hD1.out] at he; subst he; replace hR2 := Rw.below hR2 hb5 hBs; replace hB := hB.trans (hb5.mono hB.size)))
            refine (alive_any _ (T1.below hB)).mono ?_
            rintro e w7 ⟨rfl, hb7⟩
            go_wp2_with fail
            go_ret
            exact ⟨by simp, hb1.trans ((hB.trans (hb7.mono hB.size)).mono hb1.size)⟩
          · by_cases hdo2 : d < out2
            · skip
              have hD1 : Hid (distF out l.length (rowF out l t) = (0, false)) := by show _ = _; rw [HD1.out, if_neg hdo]
              have hD2 : Hid (distF out2 l.length (rowF out2 l t) = (d, true)) := by show _ = _; rw [HD2.out, if_pos hdo2]
              go_wp2_with (first
                | (refine wpList_loadN _ (by rfl) _ _ rfl _ under_row rfl A 0 rfl (u8A 25 _) (size_row _) (Rw.cells hR) ?_)
                | (refine wpList_loadN _ (by rfl) _ _ rfl _ under_row rfl B 0 rfl (u8A 25 _) (size_row _) (Rw.cells hR2) ?_)
                | (have hb5' := hb5; go_at_call 19; refine (dist_any p2 l out2 _ _ (hL2.below hB)).mono ?_; rintro e w6 ⟨he, hb6⟩; rw [hD2.out] at he; subst he; replace hB := hB.trans (hb6.mono hB.size))
                | (go_at_call 19; refine (dist_any p l out _ _ (hL.below hB)).mono ?_; rintro e w5 ⟨he, hb5⟩; rw [hD1.out] at he; subst he; replace hR2 := Rw.below hR2 hb5 hBs; replace hB := hB.trans (hb5.mono hB.size)))
              refine (alive_any _ (T1.below hB)).mono ?_
              rintro e w7 ⟨rfl, hb7⟩
              go_wp2_with fail
              go_ret
              exact ⟨by simp, hb1.trans ((hB.trans (hb7.mono hB.size)).mono hb1.size)⟩
            · skip
              have hD1 : Hid (distF out l.length (rowF out l t) = (0, false)) := by show _ = _; rw [HD1.out, if_neg hdo]
              have hD2 : Hid (distF out2 l.length (rowF out2 l t) = (0, false)) := by show _ = _; rw [HD2.out, if_neg hdo2]
              go_wp2_with (first
                | (refine wpList_loadN _ (by rfl) _ _ rfl _ under_row rfl A 0 rfl (u8A 25 _) (size_row _) (Rw.cells hR) ?_)
                | (refine wpList_loadN _ (by rfl) _ _ rfl _ under_row rfl B 0 rfl (u8A 25 _) (size_row _) (Rw.cells hR2) ?_)
                | (have hb5' := hb5; go_at_call 19; refine (dist_any p2 l out2 _ _ (hL2.below hB)).mono ?_; rintro e w6 ⟨he, hb6⟩; rw [hD2.out] at he; subst he; replace hB := hB.trans (hb6.mono hB.size))
                | (go_at_call 19; refine (dist_any p l out _ _ (hL.below hB)).mono ?_; rintro e w5 ⟨he, hb5⟩; rw [hD1.out] at he; subst he; replace hR2 := Rw.below hR2 hb5 hBs; replace hB := hB.trans (hb5.mono hB.size)))
              refine (alive_any _ (T1.below hB)).mono ?_
              rintro e w7 ⟨rfl, hb7⟩
              go_wp2_with fail
              go_ret
              exact ⟨by simp, hb1.trans ((hB.trans (hb7.mono hB.size)).mono hb1.size)⟩
end Go.Proofs.YtldohnolpojccaaDoor.V
