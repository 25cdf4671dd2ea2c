/-
  The walks of edit.both, Distance and Within.
-/
import Derived.Test.YtkgmikglifmenaaDoorEdTable
namespace Go.Proofs.YtkgmikglifmenaaDoor.E
open Go.RowKit
open LM EM Aid L
set_option linter.unusedSimpArgs false
set_option linter.unusedVariables false

theorem runes_len {s : ByteArray} {l : List Int} (h : runes s.data.toList = some l) : l.length ≤ s.size := by
  have h1 := congrArg List.length (runes_iff.1 h).2
  rw [len_at] at h1
  have := (encs_len l).1
  omega
theorem fits_of {s : ByteArray} (h : s.size ≤ 35184372088832) : Fits s.data.toList := by
  intro l t _ he
  have h1 := congrArg List.length he
  rw [len_at, List.length_append] at h1
  have := (encs_len l).1
  omega
theorem runes_short {s : ByteArray} {l : List Int} (h : runes s.data.toList = some l) : l.length ≤ s.size ∧ s.size ≤ 4 * l.length := by
  have h1 := congrArg List.length (runes_iff.1 h).2
  rw [len_at] at h1
  have := encs_len l
  omega
/-- the runes of two texts that are looked at, and how far they are -/
def pairOf (a b : ByteArray) : Option (List Int × List Int) := match runes a.data.toList, runes b.data.toList with
  | some l, some m => if l.length ≤ 1024 ∧ m.length ≤ 1024 then some (l, m) else none
  | _, _ => none
def distOf (a b : ByteArray) : Option Nat := (pairOf a b).map fun p => lv p.1 p.2
theorem pair_some {a b : ByteArray} {l m : List Int} (h1 : runes a.data.toList = some l) (h2 : runes b.data.toList = some m) (h3 : l.length ≤ 1024) (h4 : m.length ≤ 1024) : pairOf a b = some (l, m) := by
  simp [pairOf, h1, h2, h3, h4]
theorem pair_long {a b : ByteArray} {l m : List Int} (h1 : runes a.data.toList = some l) (h2 : runes b.data.toList = some m) (h : ¬ (l.length ≤ 1024 ∧ m.length ≤ 1024)) : pairOf a b = none := by
  simp only [pairOf, h1, h2]; rw [if_neg h]
theorem pair_no1 {a b : ByteArray} (h1 : runes a.data.toList = none) : pairOf a b = none := by simp [pairOf, h1]
theorem pair_no2 {a b : ByteArray} (h1 : runes b.data.toList = none) : pairOf a b = none := by unfold pairOf; rw [h1]; cases runes a.data.toList <;> rfl
theorem pair_of {a b : ByteArray} {l m : List Int} (h : pairOf a b = some (l, m)) : runes a.data.toList = some l ∧ runes b.data.toList = some m ∧ l.length ≤ 1024 ∧ m.length ≤ 1024 := by
  unfold pairOf at h
  cases h1 : runes a.data.toList with
  | none => rw [h1] at h; simp at h
  | some x =>
    cases h2 : runes b.data.toList with
    | none => rw [h1, h2] at h; simp at h
    | some y =>
      rw [h1, h2] at h
      simp only at h
      split at h
      · rename_i hh; simp only [Option.some.injEq, Prod.mk.injEq] at h; obtain ⟨rfl, rfl⟩ := h; exact ⟨rfl, rfl, hh.1, hh.2⟩
      · cases h
theorem pair_great {a b : ByteArray} (h : 4096 < a.size ∨ 4096 < b.size) : pairOf a b = none := by
  cases hp : pairOf a b with
  | none => rfl
  | some p =>
    obtain ⟨l, m⟩ := p
    obtain ⟨h1, h2, h3, h4⟩ := pair_of hp
    have := runes_short h1
    have := runes_short h2
    omega

/-- what both tells -/
def BothPost (W : World) (a b : ByteArray) (e : Ending) (w' : World) : Prop :=
  Below W.heap.size W w' ∧ ((pairOf a b = none ∧ ∃ v1 v2, e = .returned (.tuple #[v1, v2, .bool false])) ∨
    ∃ l m v1 v2, pairOf a b = some (l, m) ∧ e = .returned (.tuple #[v1, v2, .bool true]) ∧ Ints w' .i32 v1 l ∧ Ints w' .i32 v2 m)

set_option maxRecDepth 100000 in
set_option maxHeartbeats 1000000 in
theorem both_any (a b : ByteArray) (w : World) (ha : (a.size : Int) ≤ 9223372036854775807) (hb : (b.size : Int) ≤ 9223372036854775807) (T : Tab w) :
    Calls Tryd.prog 12 #[.string a, .string b] w (BothPost w a b) := by
  by_cases hla : (a.size : Int) ≤ 4096
  · by_cases hlb : (b.size : Int) ≤ 4096
    · have hfa := Lib.hid (fits_of (s := a) (by omega))
      have hfb := Lib.hid (fits_of (s := b) (by omega))
      go_enter Tryd.func12, Tryd.ntmps12
      go_wp2_with fail
      refine (runes_any a w (by omega) hfa.out T).mono ?_
      rintro e w1 ⟨hb1, hr⟩
      have T1 := T.below hb1
      rcases hr with ⟨hn, rfl⟩ | ⟨l, v, hl, rfl, hown⟩
      · have HN := Lib.hid hn
        clear hn
        go_wp2_with fail
        refine (runes_any b w1 (by omega) hfb.out T1).mono ?_
        rintro e w2 ⟨hb2, hr⟩
        have hbb := hb1.trans (hb2.mono hb1.size)
        rcases hr with ⟨hn, rfl⟩ | ⟨m, v2, hm, rfl, hown2⟩
        all_goals
          try clear hn
          try clear hm hown2
          go_wp2_with fail
          go_ret3
          exact ⟨hbb, .inl ⟨pair_no1 HN.out, _, _, rfl⟩⟩
      · have HL := Lib.hid hl
        have hlen := runes_len hl
        clear hl
        go_wp2_with fail
        refine (runes_any b w1 (by omega) hfb.out T1).mono ?_
        rintro e w2 ⟨hb2, hr⟩
        have hbb := hb1.trans (hb2.mono hb1.size)
        have H1 := Lib.hid ((Ints.own hown (by omega)).below hb2)
        clear hb1 hb2 hown
        obtain ⟨a1, c1, rfl⟩ := Ints.form H1.out
        rcases hr with ⟨hn, rfl⟩ | ⟨m, v2, hm, rfl, hown2⟩
        · have HN := Lib.hid hn
          clear hn
          go_wp2_with fail
          go_ret3
          exact ⟨hbb, .inl ⟨pair_no2 HN.out, _, _, rfl⟩⟩
        · have HM := Lib.hid hm
          have hlen2 := runes_len hm
          have H2 := Lib.hid (Ints.own hown2 (by omega))
          clear hm hown2
          obtain ⟨a2, c2, rfl⟩ := Ints.form H2.out
          by_cases h1 : (l.length : Int) ≤ 1024
          · by_cases h2 : (m.length : Int) ≤ 1024
            · have hd : decide ((m.length : Int) ≤ 1024) = true := by simpa using h2
              go_wp2_with fail
              go_ret3
              exact ⟨hbb, .inr ⟨l, m, _, _, pair_some HL.out HM.out (by omega) (by omega), rfl, H1.out, H2.out⟩⟩
            · have hd : decide ((m.length : Int) ≤ 1024) = false := by simpa using h2
              go_wp2_with fail
              go_ret3
              exact ⟨hbb, .inl ⟨pair_long HL.out HM.out (by omega), _, _, rfl⟩⟩
          · go_wp2_with fail
            go_ret3
            exact ⟨hbb, .inl ⟨pair_long HL.out HM.out (by omega), _, _, rfl⟩⟩
    · go_enter Tryd.func12, Tryd.ntmps12
      go_wp2_with fail
      go_ret3
      exact ⟨Below.refl _ _, .inl ⟨pair_great (by omega), _, _, rfl⟩⟩
  · go_enter Tryd.func12, Tryd.ntmps12
    go_wp2_with fail
    go_ret3
    exact ⟨Below.refl _ _, .inl ⟨pair_great (by omega), _, _, rfl⟩⟩

/-- what Distance tells -/
def DistIs (a b : ByteArray) (e : Ending) : Prop := (distOf a b = none ∧ e = .returned (.tuple #[.int .i64 0, .bool false])) ∨ ∃ n : Nat, distOf a b = some n ∧ n ≤ 1024 ∧ e = .returned (.tuple #[.int .i64 n, .bool true])
theorem dist_none {a b : ByteArray} (h : pairOf a b = none) : distOf a b = none := by simp [distOf, h]
theorem dist_some {a b : ByteArray} {l m : List Int} (h : pairOf a b = some (l, m)) : distOf a b = some (lv l m) ∧ lv l m ≤ 1024 := by
  obtain ⟨_, _, h3, h4⟩ := pair_of h
  have := lv_max l m
  exact ⟨by simp [distOf, h], by omega⟩

set_option maxRecDepth 100000 in
set_option maxHeartbeats 1000000 in
theorem distance_any (a b : ByteArray) (w : World) (ha : (a.size : Int) ≤ 9223372036854775807) (hb : (b.size : Int) ≤ 9223372036854775807) (T : Tab w) :
    Calls Tryd.prog 9 #[.string a, .string b] w fun e w' => DistIs a b e ∧ Below w.heap.size w w' := by
  go_enter Tryd.func9, Tryd.ntmps9
  go_wp2_with fail
  refine (both_any a b w ha hb T).mono ?_
  rintro e w1 ⟨hb1, hr⟩
  rcases hr with ⟨hp, v1, v2, rfl⟩ | ⟨l, m, v1, v2, hp, rfl, h1, h2⟩
  · have HP := Lib.hid hp
    clear hp
    go_wp2_with fail
    go_ret2
    exact ⟨.inl ⟨dist_none HP.out, rfl⟩, hb1⟩
  · obtain ⟨_, _, hl3, hl4⟩ := pair_of hp
    have HD := Lib.hid (dist_some hp)
    obtain ⟨n, hn⟩ : ∃ n, lv l m = n := ⟨_, rfl⟩
    have HN := Lib.hid hn
    rw [hn] at HD
    have H1 := Lib.hid h1
    have H2 := Lib.hid h2
    clear hp h1 h2 hn
    obtain ⟨a1, c1, rfl⟩ := Ints.form H1.out
    obtain ⟨a2, c2, rfl⟩ := Ints.form H2.out
    go_wp2_with fail
    refine (table_any _ _ l m w1 H1.out H2.out hl3 hl4).mono ?_
    rintro e w2 ⟨hb2, v, cs, A, rfl, hA, hblk, hF, hown⟩
    obtain ⟨g, cap, rfl, hg, _, hcell⟩ := owns_at hown (by omega)
    have c0 := hcell l.length _ (rowsV_at A (m.length + 1) (l.length + 1) l.length (by omega))
    have c1' : w2.cell? ⟨A, l.length * (m.length + 1) + m.length, none⟩ = some (.int .i64 (n : Int)) := by
      rw [hblk.cell, hF l.length m.length (by omega) (by omega), D_full, HN.out]
    have hbb := hb1.trans (hb2.mono hb1.size)
    clear hcell hblk hF hown hb1 hb2
    go_wp2_with fail
    go_ret2
    exact ⟨.inr ⟨n, HD.out.1, HD.out.2, rfl⟩, hbb⟩

/-- what Within tells -/
def withinOf (a b : ByteArray) (most : Int) : Bool := match distOf a b with
  | none => false
  | some n => decide ((n : Int) ≤ most)

set_option maxRecDepth 100000 in
set_option maxHeartbeats 1000000 in
theorem within_any (a b : ByteArray) (most : Int) (w : World) (ha : (a.size : Int) ≤ 9223372036854775807) (hb : (b.size : Int) ≤ 9223372036854775807) (T : Tab w) :
    Calls Tryd.prog 10 #[.string a, .string b, .int .i64 most] w fun e w' => e = .returned (.bool (withinOf a b most)) ∧ Below w.heap.size w w' := by
  go_enter Tryd.func10, Tryd.ntmps10
  go_wp2_with fail
  refine (distance_any a b w ha hb T).mono ?_
  rintro e w1 ⟨⟨hd, rfl⟩ | ⟨n, hd, hn, rfl⟩, hb1⟩
  · have HD := Lib.hid hd
    clear hd
    go_wp2_with fail
    go_ret
    exact ⟨ret_bool (by simp [withinOf, HD.out]), hb1⟩
  · have HD := Lib.hid hd
    clear hd
    go_wp2_with fail
    go_ret
    exact ⟨ret_bool (by simp [withinOf, HD.out]), hb1⟩
end Go.Proofs.YtkgmikglifmenaaDoor.E
