/-
  The walks of the reference's Right, At and Step.
-/
import Derived.Test.YtldohnolpojccaaDoorLevNew
namespace Go.Proofs.YtldohnolpojccaaDoor.V
open Go.RowKit
open LM EM Aid L E VM
set_option linter.unusedSimpArgs false
set_option linter.unusedVariables false

set_option maxRecDepth 100000 in
theorem right_any (s : ByteArray) (edits : Int) (w : World) (hs : (s.size : Int) ≤ 9223372036854775807) :
    Calls Tryd.prog 12 #[.string s, .int .i64 edits] w fun e w' => e = .returned (.bool (rightB s edits)) ∧ Below w.heap.size w w' := by
  cases hw : wordB s
  all_goals
    have HW := Lib.hid hw
    clear hw
    go_enter Tryd.func12, Tryd.ntmps12
    go_wp2_with fail
    refine (rword_any s w hs).mono ?_
    rintro e w1 ⟨rfl, hb1⟩
    rw [HW.out]
    go_wp2_with fail
  · go_ret
    exact ⟨ret_bool (by simp [rightB, HW.out]), hb1⟩
  all_goals
    go_ret
    exact ⟨ret_bool (by simp [rightB, HW.out]; try omega), hb1⟩

set_option maxRecDepth 100000 in
set_option maxHeartbeats 1000000 in
theorem at_any (f : Nat → Nat) (j : Int) (k n out x : Nat) (w : World) (hj : j = k) (hk : k < 25) (hn : n ≤ 3) (ho : n + 1 = out) (hf : f k ≤ 255) (hx : min (f k) out = x) :
    Calls Tryd.prog 21 #[.agg (u8A 25 f), .int .i64 j, .int .i64 n] w fun e w' => e = .returned (.int .i64 (x : Int)) ∧ Below w.heap.size w w' := by
  subst hj
  obtain ⟨y, hy⟩ : ∃ y, f k = y := ⟨_, rfl⟩
  have hk25 : (k : Int) < 25 := by omega
  rw [hy] at hx
  rw [hy] at hf
  obtain ⟨hM, hM'⟩ := min2d hx
  have hwy : IntKind.i64.wrap (y : Int) = (y : Int) := IntWalk.i64_in _ (by omega)
  have hwo : IntKind.i64.wrap ((n : Int) + 1) = (out : Int) := (IntWalk.i64_in _ (by omega)).trans (by omega)
  clear hx ho hn hf
  go_enter Tryd.func21, Tryd.ntmps21
  go_wp2_with (refine wpList_boxN _ (by rfl) _ _ rfl (u8A 25 f) rfl ?_; intro w1 hr hb hs1; have cx := Rw.cell hr (j := k) (by omega) hy)
  go_ret
  exact ⟨rfl, hb⟩

set_option maxRecDepth 100000 in
set_option maxHeartbeats 1000000 in
theorem rstep_any (v : Value) (l : List Int) (n out : Nat) (f : Nat → Nat) (r : Int) (w : World) (hI : Ints w .i32 v l) (hl : l.length ≤ 24) (hn : n ≤ 3) (ho : n + 1 = out) (hf : ∀ j, f j ≤ 255) :
    Calls Tryd.prog 18 #[v, .int .i64 n, .agg (u8A 25 f), .int .i32 r] w fun e w' => e = .returned (.agg (u8A 25 (stepF out l (cutF out l.length f) r))) ∧ Below w.heap.size w w' := by
  obtain ⟨zi, hzi, hzz⟩ := zero_row
  have HI := Lib.hid hI
  clear hI
  obtain ⟨a0, c0, rfl⟩ := Ints.form HI.out
  obtain ⟨S, hS⟩ : ∃ S, cutF out l.length f = S := ⟨_, rfl⟩
  have hSo : ∀ j, S j ≤ out := by intro j; rw [← hS]; unfold cutF; split <;> omega
  have hSf : Hid (∀ j, j ≤ l.length → min (f j) out = S j) := by intro j hj; rw [← hS]; unfold cutF; rw [if_pos hj]
  rw [hS]
  obtain ⟨F, hF⟩ : ∃ F, stepF out l S r = F := ⟨_, rfl⟩
  have hF0 : Hid (F 0 = min (min (S 0) out + 1) out) := by rw [← hF]; rfl
  have hFs : Hid (∀ j, j < l.length → F (j + 1) = min (min (min (min (S j) out + if l.getD j 0 = r then 0 else 1) (min (S (j + 1)) out + 1)) (F j + 1)) out) := by
    intro j hj; rw [← hF, stepF, if_pos hj]
  have hFz : ∀ j, l.length < j → F j = 0 := fun j hj => by rw [← hF]; exact step_out _ _ _ _ _ hj
  have hFo : ∀ j, F j ≤ out := fun j => by rw [← hF]; exact step_le _ _ _ _ _
  rw [hF]
  clear hF hS
  obtain ⟨x0, hx0⟩ : ∃ x, S 0 = x := ⟨_, rfl⟩
  have hx0o := hSo 0
  have hfx0 : Hid (min (f 0) out = x0) := (hSf.out 0 (Nat.zero_le _)).trans hx0
  have hF0' := hF0.out
  rw [hx0] at hx0o hF0'
  obtain ⟨y0, hy0⟩ : ∃ y, x0 + 1 = y := ⟨_, rfl⟩
  have hwy0 : IntKind.i64.wrap ((x0 : Int) + 1) = (y0 : Int) := (IntWalk.i64_in _ (by omega)).trans (by omega)
  have hwo : IntKind.i64.wrap ((n : Int) + 1) = (out : Int) := (IntWalk.i64_in _ (by omega)).trans (by omega)
  obtain ⟨m0, hm0⟩ : ∃ m, min y0 out = m := ⟨_, rfl⟩
  obtain ⟨hM, hM'⟩ := min2d hm0
  have hwm0 : IntKind.u8.wrap (m0 : Int) = (m0 : Int) := IntWalk.u8_in _ (by omega)
  have HF0 : Hid (F 0 = m0) := by show _ = _; omega
  have HO := Lib.hid ho
  clear hm0 hy0 hx0 hF0' hF0 ho
  go_enter Tryd.func18, Tryd.ntmps18
  go_wp2_with (first
    | (refine wpList_boxN _ (by rfl) _ _ rfl (u8A 25 f) rfl ?_; intro w1 hS hb hs1)
    | (refine wpList_allocN _ (by rfl) _ rfl zi hzi _ hzz ?_; have hT' := hT; intro w5 hU hb5 hs5; replace hS := hS.below hb5 (by omega); replace hT := hT.below hb5 (by omega); replace hb := hb.trans (hb5.mono (by omega)))
    | (refine wpList_allocN _ (by rfl) _ rfl zi hzi _ hzz ?_; intro w2 hT hb2 hs2; replace hS := hS.below hb2 (by omega); replace hb := hb.trans (hb2.mono (by omega)))
    | (refine wpList_loadN _ (by rfl) _ _ rfl _ under_row rfl w.heap.size 0 rfl (u8A 25 f) (size_row _) (Rw.cells hS) ?_)
    | (go_at_call 21; refine (at_any f _ 0 n out x0 _ rfl (by omega) hn HO.out (hf 0) hfx0.out).mono ?_; rintro e w6 ⟨rfl, hb6⟩; have hs6 := hb6.size; replace hS := hS.below hb6 (by omega); replace hT := hT.below hb6 (by omega); replace hU := hU.below hb6 (by omega); replace hb := hb.trans (hb6.mono (by omega)); have hfr := hU.free 0; have cz := Rw.cell hU (j := 0) (x := 0) (by omega) rfl; rw [hs2, hs1] at hfr cz))
  obtain ⟨A2, hA2⟩ : ∃ A, w.heap.size + 1 + 1 = A := ⟨_, rfl⟩
  obtain ⟨A1, hA1⟩ : ∃ A, w.heap.size + 1 = A := ⟨_, rfl⟩
  obtain ⟨A0, hA0⟩ : ∃ A, w.heap.size = A := ⟨_, rfl⟩
  have g1 : A0 < A1 := by omega
  have g2 : A1 < A2 := by omega
  have g4 : A2 < w6.heap.size := by omega
  rw [hs2, hs1, hA2] at hU
  rw [hs1, hA1] at hT
  rw [hA0] at hS hb
  simp only [hA2]
  try simp only [hA1]
  try simp only [hA0]
  clear hs1 hs2 hs5 hs6 hA1 hA2 hT' hb5 hb2 hb6 hfr cz
  have HU0 : Hid (Rw (w6.setCell ⟨A2, 0, none⟩ (.int .u8 m0)) A2 (fun i => if i ≤ 0 then F i else 0)) := Rw.set (f := fun _ => 0) hU 0 m0 (by
    intro i hi
    by_cases e : i = 0
    · subst e; simp [HF0.out]
    · rw [if_neg (by omega), if_neg e])
  obtain ⟨w7, hw7⟩ : ∃ w7, w6.setCell ⟨A2, 0, none⟩ (.int .u8 m0) = w7 := ⟨_, rfl⟩
  have hb67 : Below A2 w6 w7 := by rw [← hw7]; exact Below.setCell (Below.refl A2 w6) (p := ⟨A2, 0, none⟩) (Nat.le_refl _) _
  have hs7 : A2 < w7.heap.size := by have := hb67.size; omega
  simp only [hw7] at HU0 ⊢
  have hB7 : Below A0 w w7 := hb.trans (hb67.mono (by omega))
  have hS7 : Rw w7 A0 f := Rw.below hS hb67 (by omega)
  have hT7 : Blk w7 A1 32 (u8A 25 fun x => 0) := hT.below hb67 (by omega)
  clear hw7 hb67 hS hT hU hb g4 hM hM' hwm0 hwy0 HF0 hx0o hfx0
  go_loopw [10] (fun x wr => ∃ j : Nat, x = .int .i64 ((j : Int) + 1) ∧ j ≤ l.length ∧ Rw wr A2 (fun i => if i ≤ j then F i else 0) ∧ Below A2 w7 wr)
    (fun x _ => l.length + 1 - (intOf x).toNat)
  case atStart => exact ⟨0, by simp, Nat.zero_le _, HU0.out, Below.refl _ _⟩
  case round =>
    clear HU0
    obtain ⟨j, rfl, hj, hR, hb⟩ := hrel
    have hBr : Below A0 w wr := hB7.trans (hb.mono (by omega))
    have hSr : Rw wr A0 f := Rw.below hS7 hb (by omega)
    have hsr : A2 < wr.heap.size := by have := hb.size; omega
    by_cases hlast : (j : Int) + 1 ≤ (l.length : Int)
    · obtain ⟨c, hc⟩ : ∃ c, l.getD j 0 = c := ⟨_, rfl⟩
      obtain ⟨bb, oo, rfl, hbb, cc⟩ := Ints.at_ (HI.out.below (by rw [hA0]; exact hBr)) (k := j) (by omega) hc
      obtain ⟨x, hx⟩ : ∃ x, S j = x := ⟨_, rfl⟩
      obtain ⟨y, hy⟩ : ∃ y, S (j + 1) = y := ⟨_, rfl⟩
      obtain ⟨z, hz⟩ : ∃ z, F j = z := ⟨_, rfl⟩
      have hxo := hSo j
      have hyo := hSo (j + 1)
      have hzo := hFo j
      rw [hx] at hxo
      rw [hy] at hyo
      rw [hz] at hzo
      have hfx : Hid (min (f j) out = x) := (hSf.out j (by omega)).trans hx
      have hfy : Hid (min (f (j + 1)) out = y) := (hSf.out (j + 1) (by omega)).trans hy
      have hst := hFs.out j (by omega)
      rw [hc, hx, hy, hz] at hst
      obtain ⟨k, hk⟩ : ∃ k, x + (if c = r then 0 else 1) = k := ⟨_, rfl⟩
      have hko : k ≤ 5 := by have := HO.out; rw [← hk]; split <;> omega
      rw [Nat.min_eq_left hxo, Nat.min_eq_left hyo, hk] at hst
      obtain ⟨y', hy'⟩ : ∃ y', y + 1 = y' := ⟨_, rfl⟩
      obtain ⟨z', hz'⟩ : ∃ z', z + 1 = z' := ⟨_, rfl⟩
      have hO := HO.out
      have hwy : IntKind.i64.wrap ((y : Int) + 1) = (y' : Int) := (IntWalk.i64_in _ (by omega)).trans (by omega)
      have hwz0 : IntKind.i64.wrap (z : Int) = (z : Int) := IntWalk.i64_in _ (by omega)
      have hwz : IntKind.i64.wrap ((z : Int) + 1) = (z' : Int) := (IntWalk.i64_in _ (by omega)).trans (by omega)
      obtain ⟨m1, hm1⟩ : ∃ m, min k y' = m := ⟨_, rfl⟩
      obtain ⟨m2, hm2⟩ : ∃ m, min m1 z' = m := ⟨_, rfl⟩
      obtain ⟨m3, hm3⟩ : ∃ m, min m2 out = m := ⟨_, rfl⟩
      obtain ⟨hA, hA'⟩ := min2d hm1
      obtain ⟨hB, hB'⟩ := min2d hm2
      obtain ⟨hC, hC'⟩ := min2d hm3
      have hwm : IntKind.u8.wrap (m3 : Int) = (m3 : Int) := IntWalk.u8_in _ (by omega)
      have HF : Hid (F (j + 1) = m3) := by show _ = _; rw [hst]; omega
      have hj24 : (j : Int) + 1 < 25 := by omega
      have hj25 : (j : Int) < 25 := by omega
      have hj0 : (0 : Int) ≤ (j : Int) + 1 := by omega
      have hjl : (j : Int) < (l.length : Int) := by omega
      have htj : ((j : Int) + 1).toNat = j + 1 := by omega
      have HZ := Lib.hid hz
      by_cases hcr : c = r
      · have hcr1 : (c == r) = true := by rw [beq_iff_eq]; exact hcr
        have hcr2 : (c != r) = false := by simp [hcr]
        have hxn : x = k := by rw [← hk, if_pos hcr]; rfl
        subst hxn
        clear hk hst hm1 hm2 hm3 hy' hz' hx hy hz hc hO hcr hxo hyo hzo hko
        go_wp2_with (first
          | (refine wpList_loadN _ (by rfl) _ _ rfl _ under_row rfl A0 0 rfl (u8A 25 f) (size_row _) (Rw.cells hSr) ?_)
          | (go_at_call 21; refine (at_any f _ j n out x _ (by omega) (by omega) hn HO.out (hf _) hfx.out).mono ?_; rintro e wn ⟨rfl, hbn⟩; replace hSr := Rw.below hSr hbn (by omega); replace hR := Rw.below hR hbn (by omega); replace cc := (hbn.cell (p := ⟨bb, oo + j, none⟩) hbb).trans cc; replace hBr := hBr.trans (hbn.mono (by omega)); replace hb := hb.trans (hbn.mono (by omega)); have hsn := hbn.size; replace hbb := Nat.lt_of_lt_of_le hbb hsn; replace hsr := Nat.lt_of_lt_of_le hsr hsn)
          | (go_at_call 21; refine (at_any f _ (j + 1) n out y _ (by omega) (by omega) hn HO.out (hf _) hfy.out).mono ?_; rintro e wn ⟨rfl, hbn⟩; replace hR := Rw.below hR hbn (by omega); replace hBr := hBr.trans (hbn.mono (by omega)); replace hb := hb.trans (hbn.mono (by omega)); clear hbn; have cz := hR.cell (j := j) (x := z) (by omega) (by simp [HZ.out]); have cn := hR.cell (j := j + 1) (x := 0) (by omega) (by show (if j + 1 ≤ j then F (j + 1) else 0) = 0; rw [if_neg (by omega)]); have hfr := hR.free (j + 1)))
        have HR : Hid (Rw (wn.setCell ⟨A2, j + 1, none⟩ (.int .u8 m3)) A2 (fun i => if i ≤ j + 1 then F i else 0)) := hR.set (j + 1) m3 (by
          intro i hi
          by_cases e : i = j + 1
          · subst e; rw [if_pos (Nat.le_refl _), if_pos rfl]; exact HF.out
          · rw [if_neg e]
            by_cases h' : i ≤ j
            · rw [if_pos h', if_pos (by omega)]
            · rw [if_neg h', if_neg (by omega)])
        exact ⟨⟨j + 1, by go_num, by omega, HR.out, Below.setCell hb (p := ⟨A2, j + 1, none⟩) (Nat.le_refl _) _⟩, by simp [intOf]; omega⟩
      · have hcr1 : (c == r) = false := by rw [beq_eq_false_iff_ne]; exact hcr
        have hcr2 : (c != r) = true := by simp [hcr]
        have hwx : IntKind.i64.wrap ((x : Int) + 1) = (k : Int) := by rw [IntWalk.i64_in _ (by omega), ← hk, if_neg hcr]; rfl
        clear hk hst hm1 hm2 hm3 hy' hz' hx hy hz hc hO hcr hxo hyo hzo hko
        go_wp2_with (first
          | (refine wpList_loadN _ (by rfl) _ _ rfl _ under_row rfl A0 0 rfl (u8A 25 f) (size_row _) (Rw.cells hSr) ?_)
          | (go_at_call 21; refine (at_any f _ j n out x _ (by omega) (by omega) hn HO.out (hf _) hfx.out).mono ?_; rintro e wn ⟨rfl, hbn⟩; replace hSr := Rw.below hSr hbn (by omega); replace hR := Rw.below hR hbn (by omega); replace cc := (hbn.cell (p := ⟨bb, oo + j, none⟩) hbb).trans cc; replace hBr := hBr.trans (hbn.mono (by omega)); replace hb := hb.trans (hbn.mono (by omega)); have hsn := hbn.size; replace hbb := Nat.lt_of_lt_of_le hbb hsn; replace hsr := Nat.lt_of_lt_of_le hsr hsn)
          | (go_at_call 21; refine (at_any f _ (j + 1) n out y _ (by omega) (by omega) hn HO.out (hf _) hfy.out).mono ?_; rintro e wn ⟨rfl, hbn⟩; replace hR := Rw.below hR hbn (by omega); replace hBr := hBr.trans (hbn.mono (by omega)); replace hb := hb.trans (hbn.mono (by omega)); clear hbn; have cz := hR.cell (j := j) (x := z) (by omega) (by simp [HZ.out]); have cn := hR.cell (j := j + 1) (x := 0) (by omega) (by show (if j + 1 ≤ j then F (j + 1) else 0) = 0; rw [if_neg (by omega)]); have hfr := hR.free (j + 1)))
        have HR : Hid (Rw (wn.setCell ⟨A2, j + 1, none⟩ (.int .u8 m3)) A2 (fun i => if i ≤ j + 1 then F i else 0)) := hR.set (j + 1) m3 (by
          intro i hi
          by_cases e : i = j + 1
          · subst e; rw [if_pos (Nat.le_refl _), if_pos rfl]; exact HF.out
          · rw [if_neg e]
            by_cases h' : i ≤ j
            · rw [if_pos h', if_pos (by omega)]
            · rw [if_neg h', if_neg (by omega)])
        exact ⟨⟨j + 1, by go_num, by omega, HR.out, Below.setCell hb (p := ⟨A2, j + 1, none⟩) (Nat.le_refl _) _⟩, by simp [intOf]; omega⟩
    · have hje : j = l.length := by omega
      subst hje
      have hR2 := Rw.same (f' := F) hR (by intro i hi; by_cases e : i ≤ l.length; { rw [if_pos e] }; { rw [if_neg e, hFz _ (by omega)] })
      have hTr := hT7.below hb (by omega)
      go_wp2_with (first
        | (refine wpList_loadN _ (by rfl) _ _ rfl _ under_row rfl A2 0 rfl (u8A 25 F) (size_row _) (Rw.cells hR2) ?_)
        | (refine wpList_storeN _ (by rfl) _ _ _ rfl rfl A1 rfl _ _ _ hTr rfl (size_row _) (by rw [u8A_size, u8A_size]) (u8A_all _ _) ?_; intro w8 hr8 hb8 hs8 _))
      refine bodyPost_ret (results_cellN rfl _ _ A1 rfl _ _ hr8 _ under_row rfl (size_row _)) rfl ?_
      exact ⟨rfl, hBr.trans (hb8.mono (by omega))⟩
end Go.Proofs.YtldohnolpojccaaDoor.V
