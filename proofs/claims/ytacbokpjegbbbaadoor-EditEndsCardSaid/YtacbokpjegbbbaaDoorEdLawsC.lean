/-
  The walks of the laws of layer 10: each answers true (third part).
-/
import Derived.Test.YtacbokpjegbbbaaDoorEdLawsB
namespace Go.Proofs.YtacbokpjegbbbaaDoor.E
open Go.RowKit
open LM EM Aid L
set_option linter.unusedSimpArgs false
set_option linter.unusedVariables false

theorem dist_tri {a b c : ByteArray} {n m : Nat} (h1 : distOf a b = some n) (h2 : distOf b c = some m) : ∃ k, distOf a c = some k ∧ k ≤ n + m := by
  cases hp : pairOf a b with
  | none => rw [dist_none hp] at h1; cases h1
  | some p =>
    cases hq : pairOf b c with
    | none => rw [dist_none hq] at h2; cases h2
    | some q =>
      obtain ⟨g1, g2, g3, g4⟩ := pair_of (l := p.1) (m := p.2) hp
      obtain ⟨f1, f2, f3, f4⟩ := pair_of (l := q.1) (m := q.2) hq
      rw [(dist_some (pair_some g1 g2 g3 g4)).1] at h1
      rw [(dist_some (pair_some f1 f2 f3 f4)).1] at h2
      rw [g2] at f1
      have e := Option.some.inj f1
      refine ⟨_, (dist_some (pair_some g1 f2 g3 f4)).1, ?_⟩
      have := lv_tri p.1 p.2 q.2
      rw [← Option.some.inj h1, ← Option.some.inj h2, ← e]
      exact this

set_option maxRecDepth 100000 in
set_option maxHeartbeats 2000000 in
theorem around_law (a b c : ByteArray) (w : World) (ha : a.size ≤ 9223372036854775807) (hb : b.size ≤ 9223372036854775807) (hc : c.size ≤ 9223372036854775807) (T : Tab w) :
    Calls Tryd.prog 6 #[.string a, .string b, .string c] w fun e w' => TrueIn w e w' := by
  cases hn : nearB a b
  · have HN := Lib.hid hn
    clear hn
    go_enter Tryd.func6, Tryd.ntmps6
    go_wp2_with fail
    refine (near_any a b w (by omega) (by omega)).mono ?_
    rintro e w1 ⟨rfl, rfl⟩
    rw [HN.out]
    go_wp2_with fail
    refine (alive_any w T).mono ?_
    rintro e w2 ⟨rfl, hb2⟩
    go_wp2_with fail
    go_ret
    exact ⟨rfl, hb2⟩
  · have HN := Lib.hid hn
    obtain ⟨hsa, hsb⟩ := nearB_size hn
    clear hn
    go_enter Tryd.func6, Tryd.ntmps6
    go_wp2_with fail
    refine (near_any a b w (by omega) (by omega)).mono ?_
    rintro e w1 ⟨rfl, rfl⟩
    rw [HN.out]
    go_wp2_with fail
    cases hn : nearB b c
    · have HN2 := Lib.hid hn
      clear hn
      refine (near_any b c w (by omega) (by omega)).mono ?_
      rintro e w1 ⟨rfl, rfl⟩
      rw [HN2.out]
      go_wp2_with fail
      refine (alive_any w T).mono ?_
      rintro e w2 ⟨rfl, hb2⟩
      go_wp2_with fail
      go_ret
      exact ⟨rfl, hb2⟩
    have HN2 := Lib.hid hn
    obtain ⟨_, hsc⟩ := nearB_size hn
    clear hn
    refine (near_any b c w (by omega) (by omega)).mono ?_
    rintro e w1 ⟨rfl, rfl⟩
    rw [HN2.out]
    go_wp2_with fail
    refine (distance_any a b w (by omega) (by omega) T).mono ?_
    rintro e w1 ⟨⟨hd, rfl⟩ | ⟨n, hd, hle, rfl⟩, hb1⟩
    all_goals
      have HD := Lib.hid hd
      have T1 := T.below hb1
      clear hd
      go_wp2_with fail
      refine (distance_any b c w1 (by omega) (by omega) T1).mono ?_
      rintro e w2 ⟨⟨hd2, rfl⟩ | ⟨m, hd2, hle2, rfl⟩, hb2⟩
      all_goals
        have HD2 := Lib.hid hd2
        have T2 := T1.below hb2
        have hbb := hb1.trans (hb2.mono hb1.size)
        clear hb1 hb2 hd2
        go_wp2_with fail
        refine (distance_any a c w2 (by omega) (by omega) T2).mono ?_
        rintro e w3 ⟨⟨hd3, rfl⟩ | ⟨k, hd3, hle3, rfl⟩, hb3⟩
        all_goals
          have HD3 := Lib.hid hd3
          have T3 := T2.below hb3
          have hbc := hbb.trans (hb3.mono hbb.size)
          clear hbb hb3 hd3
          go_wp2_with fail
          refine (alive_any w3 T3).mono ?_
          rintro e w4 ⟨rfl, hb4⟩
          have hbd := hbc.trans (hb4.mono hbc.size)
          clear hbc hb4
    rotate_left 6
    · obtain ⟨k, hk, _⟩ := dist_tri HD.out HD2.out
      rw [HD3.out] at hk; cases hk
    · obtain ⟨k', hk, hkle⟩ := dist_tri HD.out HD2.out
      rw [HD3.out] at hk
      obtain rfl := Option.some.inj hk
      clear hk
      have hw : IntKind.i64.wrap ((n : Int) + (m : Int)) = (n : Int) + (m : Int) := IntWalk.i64_in _ (by omega)
      go_wp2_with fail
      go_ret
      exact ⟨by simp; omega, hbd⟩
    all_goals
      go_wp2_with fail
      go_ret
      exact ⟨by simp, hbd⟩

theorem owns_cap {w : World} {base : Nat} {e : TypeId} {v : Value} {n : Nat} {xs : List Value} (h : w.ownsRow base e 1 v n xs) : ∃ a cap, v = .slice a n cap ∧ n ≤ cap := by
  rcases h.2 with ⟨rfl, h0⟩ | ⟨g, cap, cur, rfl, hb, hg, hc, r⟩
  · exact ⟨none, 0, by rw [h0], by omega⟩
  · exact ⟨_, cap, rfl, hc⟩
/-- a text's runes or nothing, and what Runes hands back for it -/
theorem dist_runes {a b : ByteArray} {n : Nat} (h : distOf a b = some n) : ∃ l m, runes a.data.toList = some l ∧ runes b.data.toList = some m ∧ n = lv l m := by
  cases hp : pairOf a b with
  | none => rw [dist_none hp] at h; cases h
  | some p =>
    obtain ⟨g1, g2, g3, g4⟩ := pair_of (l := p.1) (m := p.2) hp
    rw [(dist_some (pair_some g1 g2 g3 g4)).1] at h
    exact ⟨_, _, g1, g2, (Option.some.inj h).symm⟩

set_option maxRecDepth 100000 in
set_option maxHeartbeats 2000000 in
theorem once_law (a b : ByteArray) (w : World) (ha : a.size ≤ 9223372036854775807) (hb : b.size ≤ 9223372036854775807) (T : Tab w) :
    Calls Tryd.prog 9 #[.string a, .string b] w fun e w' => TrueIn w e w' := by
  cases hn : nearB a b
  · have HN := Lib.hid hn
    clear hn
    go_enter Tryd.func9, Tryd.ntmps9
    go_wp2_with fail
    refine (near_any a b w (by omega) (by omega)).mono ?_
    rintro e w1 ⟨rfl, rfl⟩
    rw [HN.out]
    go_wp2_with fail
    refine (alive_any w T).mono ?_
    rintro e w2 ⟨rfl, hb2⟩
    go_wp2_with fail
    go_ret
    exact ⟨rfl, hb2⟩
  · have HN := Lib.hid hn
    obtain ⟨hsa, hsb⟩ := nearB_size hn
    clear hn
    go_enter Tryd.func9, Tryd.ntmps9
    go_wp2_with fail
    refine (near_any a b w (by omega) (by omega)).mono ?_
    rintro e w1 ⟨rfl, rfl⟩
    rw [HN.out]
    go_wp2_with fail
    have hfa := Lib.hid (fits_of (s := a) (by omega))
    have hfb := Lib.hid (fits_of (s := b) (by omega))
    refine (rrunes_any a w (by omega) hfa.out).mono ?_
    rintro e w1 ⟨hb1, hr⟩
    have T1 := T.below hb1
    obtain ⟨l, v, hv, hown, hlen1, HR1⟩ : ∃ (l : List Int) (v : Value), (∃ ok, e = .returned (.tuple #[v, .bool ok])) ∧ w1.ownsRow w.heap.size 21 1 v l.length (l.map (.int .i32)) ∧ l.length ≤ 1200 ∧ Hid (∀ l', runes a.data.toList = some l' → l' = l) := by
      rcases hr with ⟨hn, rfl⟩ | ⟨l, v, hl, rfl, hown⟩
      · exact ⟨[], _, ⟨_, rfl⟩, World.ownsRow_nil _ _ _ _, by simp, Lib.hid (fun l' h => by rw [hn] at h; cases h)⟩
      · exact ⟨l, v, ⟨_, rfl⟩, hown, (by have := runes_len hl; omega), Lib.hid (fun l' h => by rw [hl] at h; exact (Option.some.inj h).symm)⟩
    obtain ⟨ok1, rfl⟩ := hv
    obtain ⟨a1, c1, rfl, hc1⟩ := owns_cap hown
    have H1 := Lib.hid (Ints.own hown (by omega))
    clear hr hown
    go_wp2_with fail
    refine (rrunes_any b w1 (by omega) hfb.out).mono ?_
    rintro e w2 ⟨hb2, hr⟩
    have T2 := T1.below hb2
    obtain ⟨m, v, hv, hown, hlen2, HR2⟩ : ∃ (l : List Int) (v : Value), (∃ ok, e = .returned (.tuple #[v, .bool ok])) ∧ w2.ownsRow w1.heap.size 21 1 v l.length (l.map (.int .i32)) ∧ l.length ≤ 1200 ∧ Hid (∀ l', runes b.data.toList = some l' → l' = l) := by
      rcases hr with ⟨hn, rfl⟩ | ⟨l, v, hl, rfl, hown⟩
      · exact ⟨[], _, ⟨_, rfl⟩, World.ownsRow_nil _ _ _ _, by simp, Lib.hid (fun l' h => by rw [hn] at h; cases h)⟩
      · exact ⟨l, v, ⟨_, rfl⟩, hown, (by have := runes_len hl; omega), Lib.hid (fun l' h => by rw [hl] at h; exact (Option.some.inj h).symm)⟩
    obtain ⟨ok2, rfl⟩ := hv
    obtain ⟨a2, c2, rfl, hc2⟩ := owns_cap hown
    have H2 := Lib.hid (Ints.own hown (by omega))
    clear hr hown
    go_wp2_with fail
    have H1' := Lib.hid (H1.out.below hb2)
    have hbb := hb1.trans (hb2.mono hb1.size)
    clear hb1 hb2
    refine (distance_any a b w2 (by omega) (by omega) T2).mono ?_
    rintro e w3 ⟨⟨hd, rfl⟩ | ⟨n, hd, hle, rfl⟩, hb3⟩
    all_goals
      have HD := Lib.hid hd
      have T3 := T2.below hb3
      have H1'' := Lib.hid (H1'.out.below hb3)
      have H2'' := Lib.hid (H2.out.below hb3)
      have hbc := hbb.trans (hb3.mono hbb.size)
      clear hbb hb3 hd
    · go_wp2_with fail
      refine (alive_any w3 T3).mono ?_
      rintro e w4 ⟨rfl, hb4⟩
      have hbd := hbc.trans (hb4.mono hbc.size)
      go_wp2_with fail
      go_ret
      exact ⟨by simp, hbd⟩
    · obtain ⟨l', m', hl', hm', rfl⟩ := dist_runes HD.out
      obtain rfl := HR1.out _ hl'
      obtain rfl := HR2.out _ hm'
      have HO := Lib.hid (once_iff l' m')
      obtain ⟨n, hn⟩ : ∃ n, lv l' m' = n := ⟨_, rfl⟩
      rw [hn] at hle HO ⊢
      clear hl' hm' hn HD HR1 HR2
      go_wp2_with fail
      refine (alive_any w3 T3).mono ?_
      rintro e w4 ⟨rfl, hb4⟩
      have hbd := hbc.trans (hb4.mono hbc.size)
      have H1 := Lib.hid (H1''.out.below hb4)
      have H2 := Lib.hid (H2''.out.below hb4)
      clear hbc hb4 H1'' H2'' H1'
      go_wp2_with fail
      refine (once_any _ _ _ _ l' m' w4 H1.out H2.out hc1 hc2).mono ?_
      rintro e w5 ⟨rfl, hb5⟩
      have hbe := hbd.trans (hb5.mono hbd.size)
      have ho := HO.out
      cases h : once l' m'
      · have h1 : n ≠ 1 := fun e => by rw [ho.1 e] at h; cases h
        go_wp2_with fail
        go_ret
        exact ⟨by simp; omega, hbe⟩
      · have h1 : n = 1 := ho.2 h
        go_wp2_with fail
        go_ret
        exact ⟨by simp [h1], hbe⟩

set_option maxRecDepth 100000 in
set_option maxHeartbeats 2000000 in
theorem bounds_law (a b : ByteArray) (w : World) (ha : a.size ≤ 9223372036854775807) (hb : b.size ≤ 9223372036854775807) (T : Tab w) :
    Calls Tryd.prog 7 #[.string a, .string b] w fun e w' => TrueIn w e w' := by
  cases hn : nearB a b
  · have HN := Lib.hid hn
    clear hn
    go_enter Tryd.func7, Tryd.ntmps7
    go_wp2_with fail
    refine (near_any a b w (by omega) (by omega)).mono ?_
    rintro e w1 ⟨rfl, rfl⟩
    rw [HN.out]
    go_wp2_with fail
    refine (alive_any w T).mono ?_
    rintro e w2 ⟨rfl, hb2⟩
    go_wp2_with fail
    go_ret
    exact ⟨rfl, hb2⟩
  · have HN := Lib.hid hn
    obtain ⟨hsa, hsb⟩ := nearB_size hn
    clear hn
    go_enter Tryd.func7, Tryd.ntmps7
    go_wp2_with fail
    refine (near_any a b w (by omega) (by omega)).mono ?_
    rintro e w1 ⟨rfl, rfl⟩
    rw [HN.out]
    go_wp2_with fail
    have hfa := Lib.hid (fits_of (s := a) (by omega))
    have hfb := Lib.hid (fits_of (s := b) (by omega))
    refine (rrunes_any a w (by omega) hfa.out).mono ?_
    rintro e w1 ⟨hb1, hr⟩
    have T1 := T.below hb1
    obtain ⟨l, v, hv, hown, hlen1, HR1⟩ : ∃ (l : List Int) (v : Value), (∃ ok, e = .returned (.tuple #[v, .bool ok])) ∧ w1.ownsRow w.heap.size 21 1 v l.length (l.map (.int .i32)) ∧ l.length ≤ 1200 ∧ Hid (∀ l', runes a.data.toList = some l' → l' = l) := by
      rcases hr with ⟨hn, rfl⟩ | ⟨l, v, hl, rfl, hown⟩
      · exact ⟨[], _, ⟨_, rfl⟩, World.ownsRow_nil _ _ _ _, by simp, Lib.hid (fun l' h => by rw [hn] at h; cases h)⟩
      · exact ⟨l, v, ⟨_, rfl⟩, hown, (by have := runes_len hl; omega), Lib.hid (fun l' h => by rw [hl] at h; exact (Option.some.inj h).symm)⟩
    obtain ⟨ok1, rfl⟩ := hv
    obtain ⟨a1, c1, rfl, hc1⟩ := owns_cap hown
    have H1 := Lib.hid (Ints.own hown (by omega))
    clear hr hown
    go_wp2_with fail
    refine (rrunes_any b w1 (by omega) hfb.out).mono ?_
    rintro e w2 ⟨hb2, hr⟩
    have T2 := T1.below hb2
    obtain ⟨m, v, hv, hown, hlen2, HR2⟩ : ∃ (l : List Int) (v : Value), (∃ ok, e = .returned (.tuple #[v, .bool ok])) ∧ w2.ownsRow w1.heap.size 21 1 v l.length (l.map (.int .i32)) ∧ l.length ≤ 1200 ∧ Hid (∀ l', runes b.data.toList = some l' → l' = l) := by
      rcases hr with ⟨hn, rfl⟩ | ⟨l, v, hl, rfl, hown⟩
      · exact ⟨[], _, ⟨_, rfl⟩, World.ownsRow_nil _ _ _ _, by simp, Lib.hid (fun l' h => by rw [hn] at h; cases h)⟩
      · exact ⟨l, v, ⟨_, rfl⟩, hown, (by have := runes_len hl; omega), Lib.hid (fun l' h => by rw [hl] at h; exact (Option.some.inj h).symm)⟩
    obtain ⟨ok2, rfl⟩ := hv
    obtain ⟨a2, c2, rfl, hc2⟩ := owns_cap hown
    have H2 := Lib.hid (Ints.own hown (by omega))
    clear hr hown
    go_wp2_with fail
    have H1' := Lib.hid (H1.out.below hb2)
    have hbb := hb1.trans (hb2.mono hb1.size)
    clear hb1 hb2
    refine (distance_any a b w2 (by omega) (by omega) T2).mono ?_
    rintro e w3 ⟨⟨hd, rfl⟩ | ⟨n, hd, hle, rfl⟩, hb3⟩
    all_goals
      have HD := Lib.hid hd
      have T3 := T2.below hb3
      have H1'' := Lib.hid (H1'.out.below hb3)
      have H2'' := Lib.hid (H2.out.below hb3)
      have hbc := hbb.trans (hb3.mono hbb.size)
      clear hbb hb3 hd
    · go_wp2_with fail
      all_goals
        go_wp2_with fail
        refine (alive_any w3 T3).mono ?_
        rintro e w4 ⟨rfl, hb4⟩
        have hbd := hbc.trans (hb4.mono hbc.size)
        go_wp2_with fail
        go_ret
        exact ⟨by simp, hbd⟩
    · obtain ⟨l', m', hl', hm', rfl⟩ := dist_runes HD.out
      obtain rfl := HR1.out _ hl'
      obtain rfl := HR2.out _ hm'
      have g1 := lv_len l' m'
      have g2 := lv_max l' m'
      obtain ⟨n, hn⟩ : ∃ n, lv l' m' = n := ⟨_, rfl⟩
      rw [hn] at hle g1 g2 ⊢
      clear hl' hm' hn HD HR1 HR2
      have hw : IntKind.i64.wrap ((l'.length : Int) - (m'.length : Int)) = (l'.length : Int) - (m'.length : Int) := IntWalk.i64_in _ (by omega)
      go_wp2_with fail
      all_goals
        go_wp2_with fail
        refine (alive_any w3 T3).mono ?_
        rintro e w4 ⟨rfl, hb4⟩
        have hbd := hbc.trans (hb4.mono hbc.size)
        go_wp2_with fail
        go_ret
        exact ⟨by simp; omega, hbd⟩
end Go.Proofs.YtacbokpjegbbbaaDoor.E
