/-
  The walks of the laws of layer 10: each answers true.
-/
import Derived.Test.YtacbokpjegbbbaaDoorEdRest
namespace Go.Proofs.YtacbokpjegbbbaaDoor.E
open Go.RowKit
open LM EM Aid L
set_option linter.unusedSimpArgs false
set_option linter.unusedVariables false

def TrueIn (w : World) (e : Ending) (w' : World) : Prop := e = .returned (.bool true) ∧ Below w.heap.size w w'

theorem nearB_size {a b : ByteArray} (h : nearB a b = true) : a.size ≤ 1200 ∧ b.size ≤ 1200 := by
  simpa [nearB] using h

set_option maxRecDepth 100000 in
set_option maxHeartbeats 1000000 in
theorem far_law (a b : ByteArray) (w : World) (ha : a.size ≤ 9223372036854775807) (hb : b.size ≤ 9223372036854775807) (T : Tab w) :
    Calls Tryd.prog 3 #[.string a, .string b] w fun e w' => TrueIn w e w' := by
  cases hn : nearB a b
  · have HN := Lib.hid hn
    clear hn
    go_enter Tryd.func3, Tryd.ntmps3
    go_wp2_with fail
    refine (near_any a b w (by omega) (by omega)).mono ?_
    rintro e w1 ⟨rfl, rfl⟩
    rw [HN.out]
    go_wp2_with fail
    refine (alive_any w T).mono ?_
    rintro e w2 ⟨rfl, hb2⟩
    go_wp2_with fail
    go_ret
    exact ⟨rfl, hb2⟩
  · have HN := Lib.hid hn
    obtain ⟨hsa, hsb⟩ := nearB_size hn
    clear hn
    go_enter Tryd.func3, Tryd.ntmps3
    go_wp2_with fail
    refine (near_any a b w (by omega) (by omega)).mono ?_
    rintro e w1 ⟨rfl, rfl⟩
    rw [HN.out]
    go_wp2_with fail
    refine (distance_any a b w (by omega) (by omega) T).mono ?_
    rintro e w1 ⟨⟨hd, rfl⟩ | ⟨n, hd, hle, rfl⟩, hb1⟩
    all_goals
      have HD := Lib.hid hd
      have T1 := T.below hb1
      clear hd
      go_wp2_with fail
      refine (rdistance_any a b w1 (by omega) (by omega)).mono ?_
      rintro e w2 ⟨hd2, hb2⟩
      have T2 := T1.below hb2
      have hbb := hb1.trans (hb2.mono hb1.size)
      clear hb1 hb2
    · rcases hd2 with ⟨hd2, rfl⟩ | ⟨n', hd2, hle2, rfl⟩
      · clear hd2
        go_wp2_with fail
        refine (alive_any w2 T2).mono ?_
        rintro e w3 ⟨rfl, hb3⟩
        go_wp2_with fail
        go_ret
        exact ⟨by simp, hbb.trans (hb3.mono hbb.size)⟩
      · rw [HD.out] at hd2; cases hd2
    · rcases hd2 with ⟨hd2, rfl⟩ | ⟨n', hd2, hle2, rfl⟩
      · rw [HD.out] at hd2; cases hd2
      · rw [HD.out] at hd2
        obtain rfl := Option.some.inj hd2
        clear hd2
        go_wp2_with fail
        refine (alive_any w2 T2).mono ?_
        rintro e w3 ⟨rfl, hb3⟩
        go_wp2_with fail
        go_ret
        exact ⟨by simp, hbb.trans (hb3.mono hbb.size)⟩
end Go.Proofs.YtacbokpjegbbbaaDoor.E
