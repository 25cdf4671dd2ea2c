/-
  The walks of the reference's Common and of alive.
-/
import Derived.Test.YtmbbgfdgekphoaaDoorLetWord
namespace Go.Proofs.YtmbbgfdgekphoaaDoor.L
open Go.RowKit
open LM Aid
set_option linter.unusedSimpArgs false
set_option linter.unusedVariables false

set_option maxRecDepth 100000 in
set_option maxHeartbeats 1000000 in
theorem rcommon_any (a b : ByteArray) (w : World) (ha : a.size ≤ 35184372088832) (hb : b.size ≤ 35184372088832) :
    Calls Tryd.prog 24 #[.string a, .string b] w fun e w' => e = .returned (.int .i64 (commonOf a b)) ∧ Below w.heap.size w w' := by
  have hfa := Lib.hid (fits_small ha)
  have hfb := Lib.hid (fits_small hb)
  go_enter Tryd.func24, Tryd.ntmps24
  go_wp2_with fail
  refine (rrunes_any a w (by omega) hfa.out).mono ?_
  rintro e w1 ⟨hb1, hr⟩
  rcases hr with ⟨hn, rfl⟩ | ⟨l, v, hl, rfl, hown⟩
  · have HN := Lib.hid hn
    clear hn
    go_wp2_with fail
    refine (rrunes_any b w1 (by omega) hfb.out).mono ?_
    rintro e w2 ⟨hb2, ⟨hn, rfl⟩ | ⟨l, v, hl, rfl, hown⟩⟩
    all_goals
      have HN2 := True.intro
      try clear hn
      try clear hl
      go_wp2_with fail
      refine wp_loop_rounds 1 ?_
      rw [rounds_succ]
      go_wp2_with fail
      go_quiet (fail)
      go_wp2_with fail
      go_ret
      exact ⟨ret_int (by rw [common_no1 HN.out]; rfl), below_drewN (hb1.trans (hb2.mono hb1.size)) _⟩
  · have HL := Lib.hid hl
    clear hl
    go_wp2_with fail
    refine (rrunes_any b w1 (by omega) hfb.out).mono ?_
    rintro e w2 ⟨hb2, ⟨hn, rfl⟩ | ⟨m, v2, hm, rfl, hown2⟩⟩
    · have HN := Lib.hid hn
      clear hn
      go_wp2_with fail
      refine wp_loop_rounds 1 ?_
      rw [rounds_succ]
      go_wp2_with fail
      go_quiet (fail)
      go_wp2_with fail
      go_ret
      exact ⟨ret_int (by rw [common_no2 HN.out]; rfl), below_drewN (hb1.trans (hb2.mono hb1.size)) _⟩
    · have hlen := runes_len HL.out
      have hlen2 := runes_len hm
      have HM := Lib.hid hm
      have H1 := Lib.hid ((Ints.own hown (by omega)).below hb2)
      have H2 := Lib.hid (Ints.own hown2 (by omega))
      have hbb := hb1.trans (hb2.mono hb1.size)
      clear hm hown hown2 hb1 hb2
      obtain ⟨a1, c1, rfl⟩ := Ints.form H1.out
      obtain ⟨a2, c2, rfl⟩ := Ints.form H2.out
      go_wp2_with fail
      go_loopw [9] (fun i wr => ∃ k : Nat, i = .int .i64 k ∧ k ≤ l.length ∧ k ≤ m.length ∧ Hid (l.take k = m.take k) ∧ Hid (∃ n, wr = w2.drewN n))
        (fun i _ => l.length - (intOf i).toNat)
      case atStart => exact ⟨0, rfl, Nat.zero_le _, Nat.zero_le _, by simp [Hid], ⟨0, rfl⟩⟩
      case round =>
        obtain ⟨k, rfl, hk, hk2, HT, HW⟩ := hrel
        have hbr : Below w.heap.size w wr := by obtain ⟨n, rfl⟩ := HW.out; exact below_drewN hbb _
        by_cases hlt : (k : Int) < (l.length : Int)
        · by_cases hlt2 : (k : Int) < (m.length : Int)
          · obtain ⟨x, hx⟩ : ∃ x, l.getD k 0 = x := ⟨_, rfl⟩
            obtain ⟨y, hy⟩ : ∃ y, m.getD k 0 = y := ⟨_, rfl⟩
            obtain ⟨b1, o1, rfl, _, cx0⟩ := Ints.at_ H1.out (k := k) (by omega) hx
            obtain ⟨b2, o2, rfl, _, cy0⟩ := Ints.at_ H2.out (k := k) (by omega) hy
            have cx : wr.cell? ⟨b1, o1 + k, none⟩ = some (.int .i32 x) := by obtain ⟨n, rfl⟩ := HW.out; exact cx0
            have cy : wr.cell? ⟨b2, o2 + k, none⟩ = some (.int .i32 y) := by obtain ⟨n, rfl⟩ := HW.out; exact cy0
            have HX := Lib.hid hx
            have HY := Lib.hid hy
            clear hx hy cx0 cy0
            by_cases he : x = y
            · have hne : (x == y) = true := by rw [he]; simp
              have HE := Lib.hid he
              clear he
              go_wp2_with fail
              go_quiet (fail)
              go_wp2_with fail
              exact ⟨⟨k + 1, by go_num, by omega, by omega, take_next HT.out (by omega) (by omega) (by rw [HX.out, HY.out, HE.out]), by obtain ⟨n, rfl⟩ := HW.out; exact ⟨_, World.drewN_drewN _ _ _⟩⟩, by simp [intOf]; omega⟩
            · have hne : (x == y) = false := by rw [beq_eq_false_iff_ne]; exact he
              have HE := Lib.hid he
              clear he
              go_wp2_with fail
              go_quiet (fail)
              go_wp2_with fail
              go_ret
              exact ⟨ret_int (by rw [common_some HL.out HM.out, lcp_at (by omega) (by omega) HT.out HX.out HY.out HE.out]), below_drewN hbr _⟩
          · have hd : decide (k < m.length) = false := by simp; omega
            go_wp2_with fail
            go_quiet (fail)
            go_wp2_with fail
            go_ret
            exact ⟨ret_int (by rw [common_some HL.out HM.out, lcp_end hk hk2 HT.out (by omega)]), below_drewN hbr _⟩
        · have hd : decide (k < l.length) = false := by simp; omega
          go_wp2_with fail
          go_quiet (fail)
          go_wp2_with fail
          go_ret
          exact ⟨ret_int (by rw [common_some HL.out HM.out, lcp_end hk hk2 HT.out (by omega)]), below_drewN hbr _⟩

theorem runes_a : runes [97, 195, 169] = some [97, 233] := by decide +kernel
theorem text_a : encs [8364] = [226, 130, 172] := by decide +kernel
theorem word_x : wordB ⟨#[120]⟩ = true := by decide +kernel

set_option maxRecDepth 100000 in
set_option maxHeartbeats 1000000 in
theorem alive_any (w : World) (T : Tab w) :
    Calls Tryd.prog 14 #[] w fun e w' => e = .returned (.bool true) ∧ Below w.heap.size w w' := by
  go_enter Tryd.func14, Tryd.ntmps14
  go_wp2_with fail
  refine (runes_any _ w (by decide) (fits_small (by decide)) T).mono ?_
  rintro e w1 ⟨hb1, ⟨hn, rfl⟩ | ⟨l, v, hl, rfl, hown⟩⟩
  · exfalso
    have := runes_a
    rw [show (ByteArray.mk #[97, 195, 169]).data.toList = [97, 195, 169] from rfl, this] at hn
    cases hn
  rw [show (ByteArray.mk #[97, 195, 169]).data.toList = [97, 195, 169] from rfl, runes_a] at hl
  obtain rfl := Option.some.inj hl
  clear hl
  have T1 := T.below hb1
  have HI := Ints.own hown (by decide)
  have hbs := hb1.size
  obtain ⟨b1, o1, c1, rfl, hlt1, cell1⟩ : ∃ b o c, v = .slice (some ⟨b, o, none⟩) 2 c ∧ b < w1.heap.size ∧ w1.cell? ⟨b, o + 1, none⟩ = some (.int .i32 233) := by
    obtain ⟨_, ⟨h, _⟩ | ⟨b, o, c, hv, hlt, hc⟩⟩ := HI
    · cases h
    · exact ⟨b, o, c, hv, hlt, hc 1 (by decide)⟩
  clear hown HI
  go_wp2_with fail
  refine (text_any _ [8364] _ ⟨by decide, .inr ⟨w1.heap.size, 0, 1, rfl, by simp, fun j hj => ?_⟩⟩ (by decide) (T1.below ((Below.refl _ _).alloc (Nat.le_refl _) _))).mono ?_
  · match j, hj with
    | 0, _ => rw [World.cell?_alloc_at _ _ _ _ rfl]; rfl
    | j + 1, hj => simp at hj
  rintro e w2 ⟨ht, hb2⟩
  have hb3 : Below w1.heap.size w1 w2 := ((Below.refl w1.heap.size w1).alloc (Nat.le_refl _) _).trans (hb2.mono (by simp))
  have T2 := T1.below hb3
  have cell2 := (hb3.cell (p := ⟨b1, o1 + 1, none⟩) hlt1).trans cell1
  obtain ⟨t, ht2, rfl⟩ : ∃ t : ByteArray, t.data.toList = [226, 130, 172] ∧ e = .returned (.tuple #[.string t, .bool true]) := by
    rcases ht with ⟨_, t, ht, rfl⟩ | ⟨h, _⟩
    · exact ⟨t, by rw [ht, text_a], rfl⟩
    · cases (by decide +kernel : ([8364].all scalar) = true).symm.trans h
  obtain rfl : t = ⟨#[226, 130, 172]⟩ := by
    apply ByteArray.ext
    apply Array.ext'
    rw [ht2]
  have hbb := hb1.trans (hb3.mono hbs)
  have hbs2 := hbb.size
  clear ht hb2 hb3 cell1 T1 ht2
  go_wp2_with (go_at_call 18; refine (word_any _ w2 (by decide) T2).mono ?_; rintro e w3 ⟨rfl, hb4⟩; rw [word_x])
  go_ret
  exact ⟨rfl, hbb.trans (hb4.mono hbs2)⟩
end Go.Proofs.YtmbbgfdgekphoaaDoor.L
