/-
  The walk of the law EditEnds: it answers true.
-/
import Derived.Test.YtacbokpjegbbbaaDoorEdLawsC
namespace Go.Proofs.YtacbokpjegbbbaaDoor.E
open Go.RowKit
open LM EM Aid L
set_option linter.unusedSimpArgs false
set_option linter.unusedVariables false

theorem cell_new2 (w : World) (cs : Array Value) (t : TypeId) (i : Nat) (u : Value) (h : cs[i]? = some u) : (w.alloc (.cells cs t)).cell? ⟨w.heap.size, i, none⟩ = some u := by
  rw [World.cell?_alloc_at _ _ _ _ rfl]; exact h
theorem dist_ends {a b h t : ByteArray} {n : Nat} (h1 : (runes h.data.toList).isSome = true) (h2 : (runes t.data.toList).isSome = true) (hd : distOf a b = some n)
    (sa : a.size ≤ 300) (sb : b.size ≤ 300) (sh : h.size ≤ 300) (st : t.size ≤ 300) : distOf (h ++ a ++ t) (h ++ b ++ t) = some n := by
  obtain ⟨l, m, g1, g2, rfl⟩ := dist_runes hd
  obtain ⟨lh, e1⟩ := Option.isSome_iff_exists.1 h1
  obtain ⟨lt, e2⟩ := Option.isSome_iff_exists.1 h2
  have k1 := runes_len g1
  have k2 := runes_len g2
  have k3 := runes_len e1
  have k4 := runes_len e2
  have app : ∀ (x : ByteArray) (k : List Int), runes x.data.toList = some k → runes (h ++ x ++ t).data.toList = some (lh ++ k ++ lt) := by
    intro x k hx
    rw [runes_iff] at *
    refine ⟨?_, ?_⟩
    · intro r hr
      simp only [List.mem_append] at hr
      rcases hr with (hr | hr) | hr
      · exact e1.1 r hr
      · exact hx.1 r hr
      · exact e2.1 r hr
    · rw [ByteArray.data_append, Array.toList_append, ByteArray.data_append, Array.toList_append, e1.2, hx.2, e2.2, encs_append, encs_append]
  rw [(dist_some (pair_some (app a l g1) (app b m g2) (by simp; omega) (by simp; omega))).1, lv_right, lv_left]

set_option maxRecDepth 100000 in
set_option maxHeartbeats 2000000 in
theorem ends_law (a b h t : ByteArray) (w : World) (ha : a.size ≤ 9223372036854775807) (hb : b.size ≤ 9223372036854775807) (hh : h.size ≤ 9223372036854775807) (ht : t.size ≤ 9223372036854775807) (T : Tab w) :
    Calls Tryd.prog 8 #[.string a, .string b, .agg #[.string h, .string t]] w fun e w' => TrueIn w e w' := by
  by_cases hs : ((h.size : Int) ≤ 300 ∧ (t.size : Int) ≤ 300) ∧ ((a.size : Int) ≤ 300 ∧ (b.size : Int) ≤ 300)
  · obtain ⟨⟨sh, st⟩, sa, sb⟩ := hs
    have hfh := Lib.hid (fits_of (s := h) (by omega))
    have hft := Lib.hid (fits_of (s := t) (by omega))
    have HE := Lib.hid (fun n h1 h2 hd => dist_ends (a := a) (b := b) (h := h) (t := t) (n := n) h1 h2 hd (by omega) (by omega) (by omega) (by omega))
    go_enter Tryd.func8, Tryd.ntmps8
    go_wp2_with fail
    have c0 : (w.alloc (.cells #[.string h, .string t] 31)).cell? ⟨w.heap.size, 0, none⟩ = some (.string h) := cell_new2 _ _ _ 0 _ rfl
    have c1 : (w.alloc (.cells #[.string h, .string t] 31)).cell? ⟨w.heap.size, 1, none⟩ = some (.string t) := cell_new2 _ _ _ 1 _ rfl
    have hbz : Below w.heap.size w (w.alloc (.cells #[.string h, .string t] 31)) := (Below.refl _ _).alloc (Nat.le_refl _) _
    obtain ⟨wa, hwa⟩ : ∃ wa, w.alloc (.cells #[.string h, .string t] 31) = wa := ⟨_, rfl⟩
    rw [hwa] at c0 c1 hbz ⊢
    clear hwa
    go_quiet (fail)
    replace hbz := below_drewN hbz nq
    obtain ⟨wb, hwb⟩ : ∃ wb, wa.drewN nq = wb := ⟨_, rfl⟩
    rw [hwb] at hbz ⊢
    have Ta := T.below hbz
    clear hwb c0 c1
    go_wp2_with fail
    refine (rrunes_any h wb (by omega) hfh.out).mono ?_
    rintro e w1 ⟨hb1, hr⟩
    have T1 := Ta.below hb1
    replace hb1 := hbz.trans (hb1.mono hbz.size)
    obtain ⟨v1, o1, rfl, ho1⟩ : ∃ (v : Value) (o : Bool), e = .returned (.tuple #[v, .bool o]) ∧ Hid (o = (runes h.data.toList).isSome) := by
      rcases hr with ⟨hn, rfl⟩ | ⟨l, v, hl, rfl, _⟩
      · exact ⟨_, _, rfl, Lib.hid (by rw [hn]; rfl)⟩
      · exact ⟨_, _, rfl, Lib.hid (by rw [hl]; rfl)⟩
    clear hr
    go_wp2_with fail
    refine (rrunes_any t w1 (by omega) hft.out).mono ?_
    rintro e w2 ⟨hb2, hr⟩
    have T2 := T1.below hb2
    obtain ⟨v2, o2, rfl, ho2⟩ : ∃ (v : Value) (o : Bool), e = .returned (.tuple #[v, .bool o]) ∧ Hid (o = (runes t.data.toList).isSome) := by
      rcases hr with ⟨hn, rfl⟩ | ⟨l, v, hl, rfl, _⟩
      · exact ⟨_, _, rfl, Lib.hid (by rw [hn]; rfl)⟩
      · exact ⟨_, _, rfl, Lib.hid (by rw [hl]; rfl)⟩
    have hbb := hb1.trans (hb2.mono hb1.size)
    clear hr hb1 hb2
    go_wp2_with fail
    refine (distance_any a b w2 (by omega) (by omega) T2).mono ?_
    rintro e w3 ⟨hd, hb3⟩
    have T3 := T2.below hb3
    have hbc := hbb.trans (hb3.mono hbb.size)
    obtain ⟨n, o3, rfl, ho3⟩ : ∃ (n : Nat) (o : Bool), e = .returned (.tuple #[.int .i64 n, .bool o]) ∧ Hid (o = true → distOf a b = some n) := by
      rcases hd with ⟨hn, rfl⟩ | ⟨n, hn, hle, rfl⟩
      · exact ⟨0, _, rfl, Lib.hid (fun h => by cases h)⟩
      · exact ⟨n, _, rfl, Lib.hid (fun _ => hn)⟩
    clear hd hbb hb3
    have q1 : (h ++ a).size = h.size + a.size := ByteArray.size_append
    have q2 : (h ++ a ++ t).size = h.size + a.size + t.size := by rw [ByteArray.size_append, q1]
    have q3 : (h ++ b).size = h.size + b.size := ByteArray.size_append
    have q4 : (h ++ b ++ t).size = h.size + b.size + t.size := by rw [ByteArray.size_append, q3]
    go_wp2_with fail
    refine (distance_any (h ++ a ++ t) (h ++ b ++ t) w3 (by omega) (by omega) T3).mono ?_
    rintro e w4 ⟨hd, hb4⟩
    have T4 := T3.below hb4
    have hbd := hbc.trans (hb4.mono hbc.size)
    obtain ⟨m, o4, rfl, ho4⟩ : ∃ (m : Nat) (o : Bool), e = .returned (.tuple #[.int .i64 m, .bool o]) ∧ Hid (∀ k, distOf (h ++ a ++ t) (h ++ b ++ t) = some k → o = true ∧ m = k) := by
      rcases hd with ⟨hn, rfl⟩ | ⟨n, hn, hle, rfl⟩
      · exact ⟨0, _, rfl, Lib.hid (fun k h => by rw [hn] at h; cases h)⟩
      · exact ⟨n, _, rfl, Lib.hid (fun k h => by rw [hn] at h; exact ⟨rfl, Option.some.inj h⟩)⟩
    clear hd hbc hb4
    go_wp2_with fail
    refine (alive_any w4 T4).mono ?_
    rintro e w5 ⟨rfl, hb5⟩
    have hbe := hbd.trans (hb5.mono hbd.size)
    clear hbd hb5
    by_cases hall : o1 = true ∧ o2 = true ∧ o3 = true
    · obtain ⟨rfl, rfl, rfl⟩ := hall
      have hk := HE.out n ho1.out.symm ho2.out.symm (ho3.out rfl)
      obtain ⟨rfl, rfl⟩ := ho4.out n hk
      go_wp2_with fail
      go_ret
      exact ⟨by simp, hbe⟩
    · cases o1 <;> cases o2 <;> cases o3
      all_goals first
        | exact absurd ⟨rfl, rfl, rfl⟩ hall
        | (go_wp2_with fail
           go_ret
           exact ⟨by simp, hbe⟩)
  · go_enter Tryd.func8, Tryd.ntmps8
    go_wp2_with fail
    have c0 : (w.alloc (.cells #[.string h, .string t] 31)).cell? ⟨w.heap.size, 0, none⟩ = some (.string h) := cell_new2 _ _ _ 0 _ rfl
    have c1 : (w.alloc (.cells #[.string h, .string t] 31)).cell? ⟨w.heap.size, 1, none⟩ = some (.string t) := cell_new2 _ _ _ 1 _ rfl
    have hbz : Below w.heap.size w (w.alloc (.cells #[.string h, .string t] 31)) := (Below.refl _ _).alloc (Nat.le_refl _) _
    obtain ⟨wa, hwa⟩ : ∃ wa, w.alloc (.cells #[.string h, .string t] 31) = wa := ⟨_, rfl⟩
    rw [hwa] at c0 c1 hbz ⊢
    clear hwa
    go_quiet (fail)
    replace hbz := below_drewN hbz nq
    obtain ⟨wb, hwb⟩ : ∃ wb, wa.drewN nq = wb := ⟨_, rfl⟩
    rw [hwb] at hbz ⊢
    have Ta := T.below hbz
    clear hwb c0 c1
    go_wp2_with fail
    all_goals
      refine (alive_any _ Ta).mono ?_
      rintro e w2 ⟨rfl, hb2⟩
      go_wp2_with fail
      go_ret
      exact ⟨rfl, hbz.trans (hb2.mono hbz.size)⟩
end Go.Proofs.YtacbokpjegbbbaaDoor.E
