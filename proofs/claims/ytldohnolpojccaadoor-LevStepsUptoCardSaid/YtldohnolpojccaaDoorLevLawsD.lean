/-
  The walks of the laws LevReads and LevAsks: each answers true.
-/
import Derived.Test.YtldohnolpojccaaDoorLevLawsC
namespace Go.Proofs.YtldohnolpojccaaDoor.V
open Go.RowKit
open LM EM Aid L E VM
set_option linter.unusedSimpArgs false
set_option linter.unusedVariables false

set_option maxRecDepth 100000 in
set_option maxHeartbeats 2000000 in
theorem reads_law (s : ByteArray) (edits : Int) (av : Option Addr) (cv : Nat) (t : List Int) (w : World) (hs : s.size ≤ 35184372088832) (hv : Ints w .i32 (.slice av t.length cv) t) (hcv : t.length ≤ cv) (T : Tab w) :
    Calls Tryd.prog 6 #[.string s, .int .i64 edits, .slice av t.length cv] w (TrueIn w) := by
  obtain ⟨zi, hzi, hzz⟩ := zero_row
  have HV := Lib.hid hv
  have ht63 := hv.1
  have hu := under_row
  clear hv
  go_enter Tryd.func6, Tryd.ntmps6
  go_wp2_with fail
  refine (made_any s edits w hs T).mono ?_
  rintro e w1 ⟨hb1, ⟨hr, v, rfl⟩ | ⟨l, n, out, p, a, c, hr, hl, rfl, hn, ho, rfl, hL, hI, hc⟩⟩
  · have HR := Lib.hid hr
    clear hr
    have T1 := T.below hb1
    go_wp2_with fail
    refine (alive_any w1 T1).mono ?_
    rintro e w2 ⟨rfl, hb2⟩
    have hbb := hb1.trans (hb2.mono hb1.size)
    clear hb1 hb2
    go_wp2_with fail
    refine (right_any s edits w2 (by omega)).mono ?_
    rintro e w3 ⟨rfl, hb3⟩
    rw [HR.out]
    go_wp2_with fail
    go_ret
    exact ⟨rfl, hbb.trans (hb3.mono hbb.size)⟩
  · have HI := Lib.hid hI
    have hlb := hL.bounds
    clear hr hl hI
    have T1 := T.below hb1
    by_cases h300 : (t.length : Int) ≤ 300
    · have h300' : ¬ (300 : Int) < (t.length : Int) := by omega
      go_wp2_with (first
        | (go_at_call 15; refine (start_any p l out w1 hL).mono ?_; rintro e w2 ⟨he, hb2⟩; rw [start_row] at he; subst he)
        | (refine wpList_allocN _ (by rfl) _ rfl zi hzi _ hzz ?_; intro w3 hA hb3 hs3)
        | (refine wpList_storeN _ (by rfl) _ _ _ rfl rfl w2.heap.size rfl _ _ _ hA rfl (size_row _) (by rw [u8A_size, u8A_size]) (u8A_all _ _) ?_; intro w4 hr4 hb4 hs4 _))
      have hs2 := hb2.size
      obtain ⟨A, hA'⟩ : ∃ A, w2.heap.size = A := ⟨_, rfl⟩
      have hB : Below w1.heap.size w1 w4 := hb2.trans (((hb3.trans (hb4.mono (Nat.le_refl _))).mono hs2))
      have hAl : w1.heap.size ≤ A := by omega
      have hAs : A < w4.heap.size := by omega
      rw [hA'] at hr4
      simp only [hA']
      clear hA hb2 hb3 hb4 hs2 hs3 hs4 hA'
      have hR0 : Rw w4 A (rowF out l (t.take 0)) := hr4
      go_loopw [41] (fun x wr => ∃ k : Nat, x = .int .i64 k ∧ k ≤ t.length ∧ Rw wr A (rowF out l (t.take k)) ∧ Below w1.heap.size w1 wr ∧ A < wr.heap.size)
        (fun x _ => t.length - (intOf x).toNat)
      case atStart => exact ⟨0, rfl, Nat.zero_le _, hR0, hB, hAs⟩
      case round =>
        clear hR0 hB hAs hr4
        obtain ⟨k, rfl, hk, hR, hB, hAs⟩ := hrel
        by_cases hlast : (k : Int) < (t.length : Int)
        · obtain ⟨r, hr⟩ : ∃ r, t.getD k 0 = r := ⟨_, rfl⟩
          have hBW := hb1.trans (hB.mono hb1.size)
          obtain ⟨bb, oo, rfl, _, cc⟩ := Ints.at_ (HV.out.below hBW) (k := k) (by omega) hr
          have HN := Lib.hid (row_next (out := out) (l := l) (t := t) (k := k) (by omega) hr)
          have hLr := hL.below hB
          clear hr
          have h40w : IntKind.i64.wrap ((k : Int) + 1) = (k : Int) + 1 := IntWalk.i64_in _ (by omega)
          have htk : ((k : Int) + 1).toNat = k + 1 := by omega
          have hk0 : (0 : Int) ≤ (k : Int) + 1 := by omega
          have hkc : (k : Int) + 1 ≤ (cv : Int) := by omega
          have hkl : k + 1 ≤ t.length := by omega
          by_cases h40 : (k : Int) < 40
          · go_wp2_with (first
              | (refine wpList_loadN _ (by rfl) _ _ rfl _ under_row rfl A 0 rfl (u8A 25 _) (size_row _) (Rw.cells hR) ?_)
              | (go_at_call 17; refine (step_any p l out _ _ _ hLr).mono ?_; rintro e wn ⟨he, hbn⟩; rw [HN.out] at he; subst he; have hsn := hbn.size; replace hR := Rw.below hR hbn hAs; replace hB := hB.trans (hbn.mono hB.size))
              | (refine wpList_storeN _ (by rfl) _ _ _ rfl rfl A rfl _ _ _ hR rfl (size_row _) (by rw [u8A_size, u8A_size]) (u8A_all _ _) ?_; intro wq hrq hbq hsq _))
            have hBq := hB.trans (hbq.mono hAl)
            have hz1 := size_list (rowF out l (t.take (k + 1)))
            have heq := eq_same (rowF out l (t.take (k + 1)))
            have hrg : wq.drew.rangeAt A 0 (u8A 25 (rowF out l (t.take (k + 1)))).toList := Rw.range hrq
            have hrow := fun wx hx1 hx2 => rrow_any a c (.slice (some ⟨bb, oo, none⟩) (k + 1) cv) l (t.take (k + 1)) n out wx hx1 hc hx2 hlb.2.1 (by simp; omega) hn ho
            obtain ⟨U, hU⟩ : ∃ U, u8A 25 (rowF out l (t.take (k + 1))) = U := ⟨_, rfl⟩
            rw [hU] at hz1 heq hrow hrg
            have HU := Lib.hid hU
            have hAq : A < wq.drew.heap.size := by show A < wq.heap.size; omega
            have hBd : Below w1.heap.size w1 wq.drew := hBq.drew
            clear hU hR hbq hB
            go_region_held3 (fun w' => w'.rangeAt A 0 U.toList) (first | go_keep) ((go_at_call 16; refine (hrow _ (HI.out.below hBd) (ints_take (HV.out.below (hb1.trans (hBd.mono hb1.size))) (k + 1) hkl)).mono ?_; rintro e wz ⟨rfl, hbz⟩; have hrz : wz.rangeAt A 0 U.toList := range_below hrg hbz hAq))
            go_wp2_with fail
            have hrz2 : Rw wz A (rowF out l (t.take (k + 1))) := Rw.below (w := wq.drew) hrq hbz hAq
            have hBz := hBd.trans (hbz.mono hBd.size)
            have hszz := hbz.size
            exact ⟨⟨k + 1, by go_num, by omega, hrz2, hBz, by omega⟩, by simp [intOf]; omega⟩
          · have hd40 : decide ((k : Int) < 40) = false := by simpa using h40
            have hd40' : decide (k < 40) = false := by simp; omega
            go_wp2_with (first
              | (refine wpList_loadN _ (by rfl) _ _ rfl _ under_row rfl A 0 rfl (u8A 25 _) (size_row _) (Rw.cells hR) ?_)
              | (go_at_call 17; refine (step_any p l out _ _ _ hLr).mono ?_; rintro e wn ⟨he, hbn⟩; rw [HN.out] at he; subst he; have hsn := hbn.size; replace hR := Rw.below hR hbn hAs; replace hB := hB.trans (hbn.mono hB.size))
              | (refine wpList_storeN _ (by rfl) _ _ _ rfl rfl A rfl _ _ _ hR rfl (size_row _) (by rw [u8A_size, u8A_size]) (u8A_all _ _) ?_; intro wq hrq hbq hsq _))
            have hBq := hB.trans (hbq.mono hAl)
            clear hR hbq hB
            go_quiet (fail)
            go_wp2_with fail
            exact ⟨⟨k + 1, by go_num, by omega, Rw.drewN hrq nq, below_drewN hBq nq, by show A < wq.heap.size; omega⟩, by simp [intOf]; omega⟩
        · have hke : k = t.length := by omega
          subst hke
          rw [List.take_length] at hR
          have hz1 := size_list (rowF out l t)
          have heq := eq_same (rowF out l t)
          have hrg : wr.drew.rangeAt A 0 (u8A 25 (rowF out l t)).toList := Rw.range hR
          have hrow := fun wx hx1 hx2 => rrow_any a c (.slice av t.length cv) l t n out wx hx1 hc hx2 hlb.2.1 (by omega) hn ho
          obtain ⟨U, hU⟩ : ∃ U, u8A 25 (rowF out l t) = U := ⟨_, rfl⟩
          rw [hU] at hz1 heq hrow hrg
          clear hU hR
          have hAd : A < wr.drew.heap.size := hAs
          have hBd : Below w1.heap.size w1 wr.drew := hB.drew
          go_wp2_with fail
          go_region_held3 (fun w' => w'.rangeAt A 0 U.toList) (first | go_keep) (first
            | (go_at_call 13; refine (alive_any _ (T1.below hBd)).mono ?_; rintro e wy ⟨rfl, hby⟩; have hry : wy.rangeAt A 0 U.toList := range_below hrg hby hAd; have hBy := hBd.trans (hby.mono hBd.size); have hAy : A < wy.heap.size := Nat.lt_of_lt_of_le hAd hby.size)
            | (go_at_call 16; refine (hrow _ (HI.out.below hBy) (HV.out.below (hb1.trans (hBy.mono hb1.size)))).mono ?_; rintro e wz ⟨rfl, hbz⟩; have hrz : wz.rangeAt A 0 U.toList := range_below hry hbz hAy))
          go_wp2_with fail
          go_ret
          exact ⟨rfl, hb1.trans ((hBy.trans (hbz.mono hBy.size)).mono hb1.size)⟩
    · have h300' : (300 : Int) < (t.length : Int) := by omega
      go_wp2_with fail
      refine (alive_any w1 T1).mono ?_
      rintro e w2 ⟨rfl, hb2⟩
      go_wp2_with fail
      go_ret
      exact ⟨rfl, hb1.trans (hb2.mono hb1.size)⟩
end Go.Proofs.YtldohnolpojccaaDoor.V
