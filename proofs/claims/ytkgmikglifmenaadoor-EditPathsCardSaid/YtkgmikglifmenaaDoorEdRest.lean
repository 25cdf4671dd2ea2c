/-
  The walks of the reference's Once and Distance at whatever rows and texts, of near and of alive.
-/
import Derived.Test.YtkgmikglifmenaaDoorEdOnce
namespace Go.Proofs.YtkgmikglifmenaaDoor.E
open Go.RowKit
open LM EM Aid L
set_option linter.unusedSimpArgs false
set_option linter.unusedVariables false

theorem once_any (a1 a2 : Option Addr) (c1 c2 : Nat) (l m : List Int) (w : World) (h1 : Ints w .i32 (.slice a1 l.length c1) l) (h2 : Ints w .i32 (.slice a2 m.length c2) m) (hc1 : l.length ≤ c1) (hc2 : m.length ≤ c2) :
    Calls Tryd.prog 8 #[.slice a1 l.length c1, .slice a2 m.length c2] w fun e w' => e = .returned (.bool (once l m)) ∧ Below w.heap.size w w' := by
  by_cases hl : l.length ≤ m.length
  · refine (onceLe_any a1 a2 c1 c2 l m w h1 h2 hc1 hc2 hl).mono ?_
    rintro e w' ⟨rfl, hb⟩
    exact ⟨ret_bool (by unfold once; rw [if_neg (by omega)]), hb⟩
  · have g1 := h1.1
    have g2 := h2.1
    have H1 := Lib.hid h1
    have H2 := Lib.hid h2
    have hgt : (m.length : Int) < (l.length : Int) := by omega
    have HR := Lib.hid (show once l m = onceLe m l by unfold once; rw [if_pos (by omega)])
    have hle : m.length ≤ l.length := by omega
    clear h1 h2 hl
    go_enter Tryd.func8, Tryd.ntmps8
    go_wp2_with fail
    refine (onceLe_any a2 a1 c2 c1 m l w H2.out H1.out hc2 hc1 hle).mono ?_
    rintro e w1 ⟨rfl, hb⟩
    go_wp2_with fail
    go_ret
    exact ⟨ret_bool HR.out.symm, hb⟩

set_option maxRecDepth 100000 in
set_option maxHeartbeats 1000000 in
theorem rdistance_any (a b : ByteArray) (w : World) (ha : a.size ≤ 35184372088832) (hb : b.size ≤ 35184372088832) :
    Calls Tryd.prog 5 #[.string a, .string b] w fun e w' => DistIs a b e ∧ Below w.heap.size w w' := by
  have hfa := Lib.hid (fits_of ha)
  have hfb := Lib.hid (fits_of hb)
  go_enter Tryd.func5, Tryd.ntmps5
  go_wp2_with fail
  refine (rrunes_any a w (by omega) hfa.out).mono ?_
  rintro e w1 ⟨hb1, hr⟩
  rcases hr with ⟨hn, rfl⟩ | ⟨l, v, hl, rfl, hown⟩
  · have HN := Lib.hid (dist_none (pair_no1 (b := b) hn))
    clear hn
    go_wp2_with fail
    refine (rrunes_any b w1 (by omega) hfb.out).mono ?_
    rintro e w2 ⟨hb2, hr⟩
    have hbb := hb1.trans (hb2.mono hb1.size)
    rcases hr with ⟨hn, rfl⟩ | ⟨m, v2, hm, rfl, hown2⟩
    all_goals
      try clear hn
      try clear hm hown2
      go_wp2_with fail
      go_ret2
      exact ⟨.inl ⟨HN.out, rfl⟩, hbb⟩
  · have HL := Lib.hid hl
    have hlen := runes_len hl
    clear hl
    go_wp2_with fail
    refine (rrunes_any b w1 (by omega) hfb.out).mono ?_
    rintro e w2 ⟨hb2, hr⟩
    have hbb := hb1.trans (hb2.mono hb1.size)
    have H1 := Lib.hid ((Ints.own hown (by omega)).below hb2)
    clear hb1 hb2 hown
    obtain ⟨a1, c1, rfl⟩ := Ints.form H1.out
    rcases hr with ⟨hn, rfl⟩ | ⟨m, v2, hm, rfl, hown2⟩
    · have HN := Lib.hid (dist_none (pair_no2 (a := a) hn))
      clear hn
      go_wp2_with fail
      go_ret2
      exact ⟨.inl ⟨HN.out, rfl⟩, hbb⟩
    · have HM := Lib.hid hm
      have hlen2 := runes_len hm
      have H2 := Lib.hid (Ints.own hown2 (by omega))
      clear hm hown2
      obtain ⟨a2, c2, rfl⟩ := Ints.form H2.out
      by_cases h1 : (l.length : Int) ≤ 1024
      · by_cases h2 : (m.length : Int) ≤ 1024
        · have hd : decide ((1024 : Int) < (m.length : Int)) = false := by simpa using h2
          have HD := Lib.hid (dist_some (pair_some HL.out HM.out (by omega) (by omega)))
          obtain ⟨n, hn⟩ : ∃ n, lv l m = n := ⟨_, rfl⟩
          have HN := Lib.hid hn
          rw [hn] at HD
          clear hn
          go_wp2_with fail
          refine (far_any _ _ l m w2 H1.out H2.out (by omega) (by omega)).mono ?_
          rintro e w3 ⟨rfl, hb3⟩
          rw [HN.out]
          go_wp2_with fail
          go_ret2
          exact ⟨.inr ⟨n, HD.out.1, HD.out.2, rfl⟩, hbb.trans (hb3.mono hbb.size)⟩
        · have hd : decide ((1024 : Int) < (m.length : Int)) = true := by simpa using h2
          have HN := Lib.hid (dist_none (pair_long HL.out HM.out (by omega)))
          go_wp2_with fail
          go_ret2
          exact ⟨.inl ⟨HN.out, rfl⟩, hbb⟩
      · have HN := Lib.hid (dist_none (pair_long HL.out HM.out (by omega)))
        go_wp2_with fail
        go_ret2
        exact ⟨.inl ⟨HN.out, rfl⟩, hbb⟩

theorem dist_kitten : distOf ⟨#[107, 105, 116, 116, 101, 110]⟩ ⟨#[115, 105, 116, 116, 105, 110, 103]⟩ = some 3 := by decide +kernel
theorem within_2 : withinOf ⟨#[97, 98]⟩ ⟨#[98, 97]⟩ 2 = true := by decide +kernel
theorem within_1 : withinOf ⟨#[97, 98]⟩ ⟨#[98, 97]⟩ 1 = false := by decide +kernel

set_option maxRecDepth 100000 in
set_option maxHeartbeats 1000000 in
theorem alive_any (w : World) (T : Tab w) :
    Calls Tryd.prog 4 #[] w fun e w' => e = .returned (.bool true) ∧ Below w.heap.size w w' := by
  go_enter Tryd.func4, Tryd.ntmps4
  go_wp2_with fail
  refine (distance_any _ _ w (by decide) (by decide) T).mono ?_
  rintro e w1 ⟨⟨hd, _⟩ | ⟨n, hd, hn, rfl⟩, hb1⟩
  · rw [dist_kitten] at hd; cases hd
  · rw [dist_kitten] at hd
    obtain rfl := Option.some.inj hd
    have T1 := T.below hb1
    have hbs := hb1.size
    clear hd hn
    go_wp2_with fail
    refine (within_any _ _ 2 w1 (by decide) (by decide) T1).mono ?_
    rintro e w2 ⟨rfl, hb2⟩
    rw [within_2]
    have T2 := T1.below hb2
    have hbb := hb1.trans (hb2.mono hbs)
    clear hb1 hb2
    go_wp2_with fail
    refine (within_any _ _ 1 w2 (by decide) (by decide) T2).mono ?_
    rintro e w3 ⟨rfl, hb3⟩
    rw [within_1]
    go_wp2_with fail
    go_ret
    exact ⟨rfl, hbb.trans (hb3.mono hbb.size)⟩
end Go.Proofs.YtkgmikglifmenaaDoor.E
