/-
  The walks of the laws of layer 10: each answers true (second part).
-/
import Derived.Test.YtacbokpjegbbbaaDoorEdLaws
namespace Go.Proofs.YtacbokpjegbbbaaDoor.E
open Go.RowKit
open LM EM Aid L
set_option linter.unusedSimpArgs false
set_option linter.unusedVariables false

set_option maxRecDepth 100000 in
set_option maxHeartbeats 2000000 in
theorem within_law (a b : ByteArray) (most : Int) (w : World) (ha : a.size ≤ 9223372036854775807) (hb : b.size ≤ 9223372036854775807) (T : Tab w) :
    Calls Tryd.prog 4 #[.string a, .string b, .int .i64 most] w fun e w' => TrueIn w e w' := by
  cases hn : nearB a b
  · have HN := Lib.hid hn
    clear hn
    go_enter Tryd.func4, Tryd.ntmps4
    go_wp2_with fail
    refine (near_any a b w (by omega) (by omega)).mono ?_
    rintro e w1 ⟨rfl, rfl⟩
    rw [HN.out]
    go_wp2_with fail
    refine (alive_any w T).mono ?_
    rintro e w2 ⟨rfl, hb2⟩
    go_wp2_with fail
    go_ret
    exact ⟨rfl, hb2⟩
  · have HN := Lib.hid hn
    obtain ⟨hsa, hsb⟩ := nearB_size hn
    clear hn
    go_enter Tryd.func4, Tryd.ntmps4
    go_wp2_with fail
    refine (near_any a b w (by omega) (by omega)).mono ?_
    rintro e w1 ⟨rfl, rfl⟩
    rw [HN.out]
    go_wp2_with fail
    refine (rdistance_any a b w (by omega) (by omega)).mono ?_
    rintro e w2 ⟨hd2, hb2⟩
    have T2 := T.below hb2
    have hbs := hb2.size
    rcases hd2 with ⟨hd, rfl⟩ | ⟨n, hd, hle, rfl⟩
    · have HD := Lib.hid hd
      clear hd
      go_wp2_with fail
      refine (alive_any w2 T2).mono ?_
      rintro e w3 ⟨rfl, hb3⟩
      have T3 := T2.below hb3
      have hbb := hb2.trans (hb3.mono hbs)
      clear hb2 hb3
      go_wp2_with fail
      refine (within_any a b most w3 (by omega) (by omega) T3).mono ?_
      rintro e w4 ⟨rfl, hb4⟩
      have hwf : withinOf a b most = false := by simp [withinOf, HD.out]
      rw [hwf]
      go_wp2_with fail
      go_ret
      exact ⟨by simp, hbb.trans (hb4.mono hbb.size)⟩
    · have HD := Lib.hid hd
      clear hd
      go_wp2_with fail
      refine (alive_any w2 T2).mono ?_
      rintro e w3 ⟨rfl, hb3⟩
      have T3 := T2.below hb3
      have hbb := hb2.trans (hb3.mono hbs)
      clear hb2 hb3
      go_wp2_with fail
      refine (within_any a b most w3 (by omega) (by omega) T3).mono ?_
      rintro e w4 ⟨rfl, hb4⟩
      have HW := Lib.hid (show withinOf a b most = decide ((n : Int) ≤ most) by simp [withinOf, HD.out])
      by_cases hm : (n : Int) ≤ most
      · have hx : withinOf a b most = true := by rw [HW.out]; simpa using hm
        rw [hx]
        go_wp2_with fail
        go_ret
        exact ⟨by simp [hm], hbb.trans (hb4.mono hbb.size)⟩
      · have hx : withinOf a b most = false := by rw [HW.out]; simpa using hm
        rw [hx]
        go_wp2_with fail
        go_ret
        exact ⟨by simp [hm], hbb.trans (hb4.mono hbb.size)⟩

theorem dist_comm (a b : ByteArray) : distOf a b = distOf b a := by
  cases h : pairOf a b with
  | none =>
    have h' : pairOf b a = none := by
      cases h2 : pairOf b a with
      | none => rfl
      | some p =>
        obtain ⟨g1, g2, g3, g4⟩ := pair_of (l := p.1) (m := p.2) h2
        rw [pair_some g2 g1 g4 g3] at h; cases h
    rw [dist_none h, dist_none h']
  | some p =>
    obtain ⟨g1, g2, g3, g4⟩ := pair_of (l := p.1) (m := p.2) h
    rw [(dist_some (pair_some g1 g2 g3 g4)).1, (dist_some (pair_some g2 g1 g4 g3)).1, lv_comm]
theorem dist_zero {a b : ByteArray} {n : Nat} (h : distOf a b = some n) : n = 0 ↔ a = b := by
  cases hp : pairOf a b with
  | none => rw [dist_none hp] at h; cases h
  | some p =>
    obtain ⟨g1, g2, g3, g4⟩ := pair_of (l := p.1) (m := p.2) hp
    rw [(dist_some (pair_some g1 g2 g3 g4)).1] at h
    obtain rfl := Option.some.inj h
    rw [lv_zero]
    constructor
    · intro he
      have e1 := (runes_iff.1 g1).2
      have e2 := (runes_iff.1 g2).2
      apply ByteArray.ext; apply Array.ext'
      rw [e1, e2, he]
    · rintro rfl
      rw [g1] at g2
      exact Option.some.inj g2

set_option maxRecDepth 100000 in
set_option maxHeartbeats 2000000 in
theorem back_law10 (a b : ByteArray) (w : World) (ha : a.size ≤ 9223372036854775807) (hb : b.size ≤ 9223372036854775807) (T : Tab w) :
    Calls Tryd.prog 5 #[.string a, .string b] w fun e w' => TrueIn w e w' := by
  cases hn : nearB a b
  · have HN := Lib.hid hn
    clear hn
    go_enter Tryd.func5, Tryd.ntmps5
    go_wp2_with fail
    refine (near_any a b w (by omega) (by omega)).mono ?_
    rintro e w1 ⟨rfl, rfl⟩
    rw [HN.out]
    go_wp2_with fail
    refine (alive_any w T).mono ?_
    rintro e w2 ⟨rfl, hb2⟩
    go_wp2_with fail
    go_ret
    exact ⟨rfl, hb2⟩
  · have HN := Lib.hid hn
    obtain ⟨hsa, hsb⟩ := nearB_size hn
    clear hn
    go_enter Tryd.func5, Tryd.ntmps5
    go_wp2_with fail
    refine (near_any a b w (by omega) (by omega)).mono ?_
    rintro e w1 ⟨rfl, rfl⟩
    rw [HN.out]
    go_wp2_with fail
    have HC := Lib.hid (dist_comm a b)
    refine (distance_any a b w (by omega) (by omega) T).mono ?_
    rintro e w1 ⟨⟨hd, rfl⟩ | ⟨n, hd, hle, rfl⟩, hb1⟩
    all_goals
      have HD := Lib.hid hd
      have T1 := T.below hb1
      clear hd
      go_wp2_with fail
      refine (distance_any b a w1 (by omega) (by omega) T1).mono ?_
      rintro e w2 ⟨hd2, hb2⟩
      have T2 := T1.below hb2
      have hbb := hb1.trans (hb2.mono hb1.size)
      clear hb1 hb2
      rw [DistIs, ← HC.out, HD.out] at hd2
    · rcases hd2 with ⟨hd2, rfl⟩ | ⟨n', hd2, hle2, rfl⟩
      · clear hd2
        go_wp2_with fail
        refine (alive_any w2 T2).mono ?_
        rintro e w3 ⟨rfl, hb3⟩
        go_wp2_with fail
        go_ret
        exact ⟨by simp, hbb.trans (hb3.mono hbb.size)⟩
      · cases hd2
    · rcases hd2 with ⟨hd2, rfl⟩ | ⟨n', hd2, hle2, rfl⟩
      · cases hd2
      · obtain rfl := Option.some.inj hd2
        have HZ := Lib.hid (dist_zero HD.out)
        clear hd2
        go_wp2_with fail
        refine (alive_any w2 T2).mono ?_
        rintro e w3 ⟨rfl, hb3⟩
        go_wp2_with fail
        go_ret
        refine ⟨?_, hbb.trans (hb3.mono hbb.size)⟩
        have hz := HZ.out
        by_cases h0 : n = 0
        · have := hz.1 h0; simp [h0, this]
        · have h2 : ¬ a.data = b.data := fun h => h0 (hz.2 (ByteArray.ext h))
          rw [ByteArray.toList_eq, ByteArray.toList_eq]
          have h3 : ¬ a.data.toList = b.data.toList := fun h => h2 (Array.ext' h)
          have h4 : (a.data.toList == b.data.toList) = false := beq_eq_false_iff_ne.2 h3
          have h5 : ((n : Int) == 0) = false := beq_eq_false_iff_ne.2 (by omega)
          rw [h4, h5]; rfl
end Go.Proofs.YtacbokpjegbbbaaDoor.E
