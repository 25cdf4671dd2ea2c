/-
  The walk of the law of layer 1 on texts that are put together: it answers true.
-/
import Derived.Test.YtmbbgfdgekphoaaDoorLetLawsB
namespace Go.Proofs.YtmbbgfdgekphoaaDoor.L
open Go.RowKit
open LM Aid
set_option linter.unusedSimpArgs false
set_option linter.unusedVariables false

theorem owns_empty (w : World) (e : TypeId) (base : Nat) (h : base ≤ w.heap.size) : (w.alloc (.cells #[] e)).ownsRow base e 1 (.slice (some ⟨w.heap.size, 0, none⟩) 0 0) 0 [] :=
  ⟨rfl, .inr ⟨w.heap.size, 0, #[], rfl, h, heap_alloc_new w _, Nat.le_refl _, Nat.zero_le _, rfl, rfl⟩⟩

set_option maxRecDepth 100000 in
set_option maxHeartbeats 1000000 in
theorem joins_law (a b : ByteArray) (w : World) (ha : (a.size : Int) ≤ 9223372036854775807) (hb : (b.size : Int) ≤ 9223372036854775807) (T : Tab w) :
    Calls Tryd.prog 7 #[.string a, .string b] w fun e w' => e = .returned (.bool true) ∧ Below w.heap.size w w' := by
  obtain ⟨i0, hi, hz0, hz1, hz2⟩ := info_parts info_i32
  by_cases hla : (a.size : Int) ≤ 65536
  · by_cases hlb : (b.size : Int) ≤ 65536
    · have hfa := Lib.hid (fits_small (s := a) (by omega))
      have hfb := Lib.hid (fits_small (s := b) (by omega))
      have hfab := Lib.hid (fits_small (s := a ++ b) (by rw [ByteArray.size_append]; omega))
      have hab : a.size + b.size ≤ 131072 := by omega
      have hsab : ((a ++ b).size : Int) ≤ 9223372036854775807 := by rw [ByteArray.size_append]; omega
      have HAB := Lib.hid (show (a ++ b).data.toList = a.data.toList ++ b.data.toList by rw [ByteArray.data_append, Array.toList_append])
      go_enter Tryd.func7, Tryd.ntmps7
      go_wp2_with fail
      refine (runes_any a w (by omega) hfa.out T).mono ?_
      rintro e w1 ⟨hb1, hr⟩
      have T1 := T.below hb1
      rcases hr with ⟨hn, rfl⟩ | ⟨l, v, hl, rfl, hown⟩
      · clear hn
        go_wp2_with fail
        refine (runes_any b w1 (by omega) hfb.out T1).mono ?_
        rintro e w2 ⟨hb2, hr⟩
        have T2 := T1.below hb2
        have hbb := hb1.trans (hb2.mono hb1.size)
        clear hb1 hb2
        rcases hr with ⟨hn, rfl⟩ | ⟨m, v2, hm, rfl, hown2⟩
        all_goals
          try clear hn
          try clear hm hown2
          go_wp2_with fail
          refine (runes_any (a ++ b) w2 (by omega) hfab.out T2).mono ?_
          rintro e w3 ⟨hb3, hr⟩
          have T3 := T2.below hb3
          have hbc := hbb.trans (hb3.mono hbb.size)
          clear hb3
          rcases hr with ⟨hn, rfl⟩ | ⟨m, v2, hm, rfl, hown2⟩
          all_goals
            try clear hn
            try clear hm hown2
            go_wp2_with fail
            refine (alive_any w3 T3).mono ?_
            rintro e w4 ⟨rfl, hb4⟩
            go_wp2_with fail
            go_ret
            exact ⟨rfl, hbc.trans (hb4.mono hbc.size)⟩
      · have HL := Lib.hid hl
        have hlen := runes_len hl
        clear hl
        go_wp2_with fail
        refine (runes_any b w1 (by omega) hfb.out T1).mono ?_
        rintro e w2 ⟨hb2, hr⟩
        have T2 := T1.below hb2
        have hbb := hb1.trans (hb2.mono hb1.size)
        have H1 := Lib.hid ((Ints.own hown (by omega)).below hb2)
        clear hb1 hb2 hown
        rcases hr with ⟨hn, rfl⟩ | ⟨m, v2, hm, rfl, hown2⟩
        · have HN := Lib.hid (runes_join (t := b.data.toList) HL.out)
          rw [hn, ← HAB.out] at HN
          clear hn
          go_wp2_with fail
          refine (runes_any (a ++ b) w2 (by omega) hfab.out T2).mono ?_
          rintro e w3 ⟨hb3, hr⟩
          have T3 := T2.below hb3
          have hbc := hbb.trans (hb3.mono hbb.size)
          clear hb3
          rcases hr with ⟨hn, rfl⟩ | ⟨m, v2, hm, rfl, hown2⟩
          · clear hn
            go_wp2_with fail
            refine (alive_any w3 T3).mono ?_
            rintro e w4 ⟨rfl, hb4⟩
            go_wp2_with fail
            go_ret
            exact ⟨by simp, hbc.trans (hb4.mono hbc.size)⟩
          · rw [HN.out] at hm; cases hm
        · have hlen2 := runes_len hm
          have HN := Lib.hid (runes_join (t := b.data.toList) HL.out)
          rw [hm, ← HAB.out] at HN
          have H2 := Lib.hid (Ints.own hown2 (by omega))
          clear hm hown2
          go_wp2_with fail
          refine (runes_any (a ++ b) w2 (by omega) hfab.out T2).mono ?_
          rintro e w3 ⟨hb3, hr⟩
          have T3 := T2.below hb3
          have hbc := hbb.trans (hb3.mono hbb.size)
          have H1' := Lib.hid (H1.out.below hb3)
          have H2' := Lib.hid (H2.out.below hb3)
          clear hb3
          rcases hr with ⟨hn, _⟩ | ⟨lm, v3, hlm, rfl, hown3⟩
          · rw [HN.out] at hn; cases hn
          · rw [HN.out] at hlm
            obtain rfl := Option.some.inj hlm
            have H3 := Lib.hid (Ints.own hown3 (by simp; omega))
            clear hlm hown3
            go_wp2_with fail
            refine (alive_any w3 T3).mono ?_
            rintro e w4 ⟨rfl, hb4⟩
            have hbd := hbc.trans (hb4.mono hbc.size)
            have H1'' := Lib.hid (H1'.out.below hb4)
            have H2'' := Lib.hid (H2'.out.below hb4)
            have H3'' := Lib.hid (H3.out.below hb4)
            have hbs := hbd.size
            clear hb4
            go_wp2_with (first | (at_builtin; refine wpList_append_ints _ (by rfl) (.tmp 51) (.tmp 52) 22 rfl w4.heap.size 21 i0 (.int .i32 0) 4 Tryd.underlying22 hi hz0 hz1 hz2 rfl .i32 _ 0 [] rfl (owns_empty w4 _ _ (Nat.le_refl _)) _ l rfl (H1''.out.below ((Below.refl _ _).alloc (Nat.le_refl _) _)) (by unfold maxLen; omega) (by omega) (by simp) ?_; intro v4 w5 hown5 hb5; simp only [Nat.zero_add, List.nil_append] at hown5) | (at_builtin; refine wpList_append_ints _ (by rfl) (.tmp 53) (.tmp 54) 22 rfl w4.heap.size 21 i0 (.int .i32 0) 4 Tryd.underlying22 hi hz0 hz1 hz2 rfl .i32 _ l.length _ rfl hown5 _ m rfl (H2''.out.below (((Below.refl _ _).alloc (Nat.le_refl _) _).trans hb5)) (by unfold maxLen; omega) (by omega) (by have := hb5.size; simp at this; omega) ?_; intro v5 w6 hown6 hb6) | (go_at_call 15; refine (same_any _ _ (l ++ m) (l ++ m) _ (H3''.out.below ((((Below.refl _ _).alloc (Nat.le_refl _) _).trans hb5).trans hb6)) (Ints.own (by simpa using hown6) (by simp; omega))).mono ?_; rintro e w7 ⟨rfl, hb7⟩; rw [show decide (l ++ m = l ++ m) = true from by simp]))
            go_ret
            refine ⟨by simp, ?_⟩
            have g1 : Below w4.heap.size w4 w6 := ((((Below.refl _ _).alloc (Nat.le_refl _) _).trans hb5).trans hb6)
            exact (hbd.trans (g1.mono hbs)).trans (hb7.mono (by have := g1.size; omega))
    · go_enter Tryd.func7, Tryd.ntmps7
      go_wp2_with fail
      refine (alive_any w T).mono ?_
      rintro e w1 ⟨rfl, hb1⟩
      go_wp2_with fail
      go_ret
      exact ⟨rfl, hb1⟩
  · go_enter Tryd.func7, Tryd.ntmps7
    go_wp2_with fail
    refine (alive_any w T).mono ?_
    rintro e w1 ⟨rfl, hb1⟩
    go_wp2_with fail
    go_ret
    exact ⟨rfl, hb1⟩
end Go.Proofs.YtmbbgfdgekphoaaDoor.L
