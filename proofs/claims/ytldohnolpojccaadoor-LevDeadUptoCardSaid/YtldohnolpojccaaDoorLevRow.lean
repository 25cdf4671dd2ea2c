/-
  The walk of the reference's Row.
-/
import Derived.Test.YtldohnolpojccaaDoorLevRef
import Derived.Test.YtldohnolpojccaaDoorEdFar
namespace Go.Proofs.YtldohnolpojccaaDoor.V
open Go.RowKit
open LM EM Aid L E VM
set_option linter.unusedSimpArgs false
set_option linter.unusedVariables false

theorem ints_take {w : World} {K : IntKind} {a : Option Addr} {n cap : Nat} {l : List Int} (h : Ints w K (.slice a n cap) l) (j : Nat) (hj : j ≤ l.length) : Ints w K (.slice a j cap) (l.take j) := by
  have hlen : (l.take j).length = j := by simp [hj]
  obtain ⟨h0, ⟨rfl, h⟩ | ⟨b, off, c, hv, hlt, hc⟩⟩ := h
  · simp at hj; subst hj
    refine ⟨by simp, .inl ⟨by simp, ?_⟩⟩
    rcases h with h | ⟨x, c, h⟩
    · simp at h; obtain ⟨rfl, rfl, rfl⟩ := h; exact .inl rfl
    · simp at h; obtain ⟨rfl, rfl, rfl⟩ := h; exact .inr ⟨_, _, rfl⟩
  · simp at hv
    obtain ⟨rfl, rfl, rfl⟩ := hv
    by_cases h0' : j = 0
    · subst h0'; exact ⟨by simp, .inl ⟨by simp, .inr ⟨_, _, rfl⟩⟩⟩
    · refine ⟨by omega, .inr ⟨b, off, cap, by rw [hlen], hlt, fun i hi => ?_⟩⟩
      rw [hlen] at hi
      rw [hc i (by omega)]
      simp only [List.getD_eq_getElem?_getD, List.getElem?_take]
      rw [if_pos hi]

set_option maxRecDepth 100000 in
set_option maxHeartbeats 1000000 in
theorem rrow_any (a0 : Option Addr) (c0 : Nat) (u : Value) (l t : List Int) (n out : Nat) (w : World) (hI : Ints w .i32 (.slice a0 l.length c0) l) (hcap : l.length ≤ c0) (hU : Ints w .i32 u t) (hl : l.length ≤ 24) (ht : t.length ≤ 1024) (hn : n ≤ 3) (ho : n + 1 = out) :
    Calls Tryd.prog 16 #[.slice a0 l.length c0, .int .i64 n, u] w fun e w' => e = .returned (.agg (u8A 25 (rowF out l t))) ∧ Below w.heap.size w w' := by
  obtain ⟨zi, hzi, hzz⟩ := zero_row
  have HI := Lib.hid hI
  have HU := Lib.hid hU
  have hwo : IntKind.i64.wrap ((n : Int) + 1) = (out : Int) := (IntWalk.i64_in _ (by omega)).trans (by omega)
  clear hI hU
  go_enter Tryd.func16, Tryd.ntmps16
  go_wp2_with (first
    | (refine wpList_allocN _ (by rfl) _ rfl zi hzi _ hzz ?_; have hT' := hT; intro w5 hU hb5 hs5; replace hT := hT.below hb5 (by omega); replace hb := hb.trans (hb5.mono (by omega)))
    | (refine wpList_allocN _ (by rfl) _ rfl zi hzi _ hzz ?_; intro w2 hT hb hs2))
  obtain ⟨A2, hA2⟩ : ∃ A, w.heap.size + 1 = A := ⟨_, rfl⟩
  obtain ⟨A1, hA1⟩ : ∃ A, w.heap.size = A := ⟨_, rfl⟩
  have g2 : A1 < A2 := by omega
  rw [hs2, hA2] at hU
  rw [hA1] at hT hb
  have hs7 : A2 < w5.heap.size := by omega
  simp only [hA2]
  try simp only [hA1]
  clear hs2 hs5 hA2 hT' hb5
  go_loopw [8] (fun x wr => ∃ j : Nat, x = .int .i64 j ∧ j ≤ l.length + 1 ∧ Rw wr A2 (fun i => if i < j then rowF out l t i else 0) ∧ Below A2 w5 wr)
    (fun x _ => l.length + 1 - (intOf x).toNat)
  case atStart => exact ⟨0, rfl, Nat.zero_le _, by simpa [Rw] using hU, Below.refl _ _⟩
  case round =>
    clear hU
    obtain ⟨j, rfl, hj, hR, hbr⟩ := hrel
    have hBr : Below A1 w wr := hb.trans (hbr.mono (by omega))
    have hsr : A2 < wr.heap.size := by have := hbr.size; omega
    by_cases hlast : (j : Int) ≤ (l.length : Int)
    · have hlen : (l.take j).length = j := by simp; omega
      obtain ⟨d, hd⟩ : ∃ d, lv t (l.take j) = d := ⟨_, rfl⟩
      have hd2 : d ≤ 1048 := by have := lv_max t (l.take j); omega
      obtain ⟨m, hm⟩ : ∃ m, min d out = m := ⟨_, rfl⟩
      obtain ⟨hM, hM'⟩ := min2d hm
      have hwm : IntKind.u8.wrap (m : Int) = (m : Int) := IntWalk.u8_in _ (by omega)
      have hj25 : (j : Int) < 25 := by omega
      have hjc : (j : Int) ≤ (c0 : Int) := by omega
      have HF : Hid (rowF out l t j = m) := by unfold rowF; rw [if_pos (by omega), hd, hm]; rfl
      have HD := Lib.hid hd
      have h1 : Ints wr .i32 u t := HU.out.below (by rw [hA1]; exact hBr)
      have H2 := Lib.hid (ints_take (HI.out.below (by rw [hA1]; exact hBr)) j (by omega))
      clear hd hm
      go_wp2_with fail
      refine (far_any u _ t (l.take j) wr h1 H2.out ht (by omega)).mono ?_
      rintro e wn ⟨rfl, hbn⟩
      rw [HD.out]
      have hsn := hbn.size
      replace hR := Rw.below hR hbn (by omega)
      have hbr2 : Below A2 w5 wn := hbr.trans (hbn.mono (by omega))
      have cn := hR.cell (j := j) (x := 0) (by omega) (by show (if j < j then rowF out l t j else 0) = 0; rw [if_neg (by omega)])
      have hfr := hR.free j
      have HR : Hid (Rw (wn.setCell ⟨A2, j, none⟩ (.int .u8 m)) A2 (fun i => if i < j + 1 then rowF out l t i else 0)) := hR.set j m (by
        intro i hi
        by_cases e : i = j
        · subst e; rw [if_pos (by omega), if_pos rfl]; exact HF.out
        · rw [if_neg e]
          by_cases h' : i < j
          · rw [if_pos h', if_pos (by omega)]
          · rw [if_neg h', if_neg (by omega)])
      clear h1 hd2
      go_wp2_with fail
      exact ⟨⟨j + 1, by go_num, by omega, HR.out, Below.setCell hbr2 (p := ⟨A2, j, none⟩) (Nat.le_refl _) _⟩, by simp [intOf]; omega⟩
    · have hje : j = l.length + 1 := by omega
      subst hje
      have hR2 := Rw.same (f' := rowF out l t) hR (by intro i hi; unfold rowF; (repeat' split) <;> omega)
      have hTr := hT.below hbr (by omega)
      go_wp2_with (first
        | (refine wpList_loadN _ (by rfl) _ _ rfl _ under_row rfl A2 0 rfl (u8A 25 (rowF out l t)) (size_row _) (Rw.cells hR2) ?_)
        | (refine wpList_storeN _ (by rfl) _ _ _ rfl rfl A1 rfl _ _ _ hTr rfl (size_row _) (by rw [u8A_size, u8A_size]) (u8A_all _ _) ?_; intro w8 hr8 hb8 hs8 _))
      refine bodyPost_ret (results_cellN rfl _ _ A1 rfl _ _ hr8 _ under_row rfl (size_row _)) rfl ?_
      exact ⟨rfl, hBr.trans hb8⟩
end Go.Proofs.YtldohnolpojccaaDoor.V
