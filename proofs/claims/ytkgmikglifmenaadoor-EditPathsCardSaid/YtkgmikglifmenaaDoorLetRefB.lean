/-
  The walks of the reference's First and Runes.
-/
import Derived.Test.YtkgmikglifmenaaDoorLetRefA
import Derived.Deep.QuietTactic
import Derived.BigQuiet
namespace Go.Proofs.YtkgmikglifmenaaDoor.L
open Go.RowKit
open LM Aid
set_option linter.unusedSimpArgs false
set_option linter.unusedVariables false

theorem round_to {n : Nat} : (5 - intOf (Value.int IntKind.i64 ((n : Int) + 1))).toNat < (5 - intOf (Value.int IntKind.i64 (n : Int))).toNat ↔ n < 5 := by
  simp only [intOf]; omega
theorem miss_next {l : List UInt8} {n : Nat} (h : ∀ m, 1 ≤ m → m < n → m ≤ l.length → Miss l m) (hn : Miss l n) : ∀ m, 1 ≤ m → m < n + 1 → m ≤ l.length → Miss l m := fun m h1 h2 h3 => by
  by_cases e : m = n
  · subst e; exact hn
  · exact h m h1 (by omega) h3
theorem rune_no (r : Int) (w : World) (h : scalar r = false) : Calls Tryd.prog 27 #[.int .i64 r] w fun e w' => e = .returned (.bool false) ∧ w' = w :=
  (rune_any r w).mono fun e w' ⟨he, hw⟩ => ⟨by rw [he, h], hw.symm⟩
theorem take_extract (s : ByteArray) (n : Nat) : (s.extract 0 n).data.toList = s.data.toList.take n := by
  rw [ByteArray.data_extract, Array.toList_extract]
  simp [List.extract]

set_option maxRecDepth 100000 in
set_option maxHeartbeats 1000000 in
theorem rfirst_any (s : ByteArray) (w : World) (hs : (s.size : Int) ≤ 9223372036854775807) :
    Calls Tryd.prog 19 #[.string s] w fun e w' => RDecIs s e ∧ Below w.heap.size w w' := by
  go_enter Tryd.func19, Tryd.ntmps19
  go_wp2_with fail
  go_loopw [4] (fun x wr => ∃ n : Nat, x = .int .i64 n ∧ 1 ≤ n ∧ n ≤ 5 ∧ (∀ m, 1 ≤ m → m < n → m ≤ s.data.toList.length → Miss s.data.toList m) ∧ Below w.heap.size w wr)
    (fun x _ => (5 - intOf x).toNat)
  case atStart => exact ⟨1, rfl, by omega, by omega, fun m h1 h2 => by omega, Below.refl _ _⟩
  case round =>
    obtain ⟨n, rfl, hn1, hn5, hmiss, hb⟩ := hrel
    have HM := Lib.hid hmiss
    clear hmiss
    have hb0 := hb.size
    by_cases h4 : (n : Int) ≤ 4
    · by_cases hle : (n : Int) ≤ (s.size : Int)
      · obtain ⟨r, hr⟩ : ∃ r, saidOf n s.data.toList = r := ⟨_, rfl⟩
        have HR := Lib.hid hr
        clear hr
        cases hsc : scalar r
        · go_wp2_with (first | (go_at_call 26; refine (said_any s n _ hs (by omega) (by omega) (by omega)).mono ?_; rintro e w1 ⟨rfl, rfl⟩; rw [HR.out]))
          go_quiet ((go_at_call 27; exact Calls.quiet_of_same (rune_no _ _ hsc)))
          go_wp2_with fail
          exact ⟨⟨n + 1, by go_num, by omega, by omega, miss_next HM.out (fun hx => by rw [HR.out, hsc] at hx; cases hx), below_drewN hb _⟩, round_to.2 (by omega)⟩
        · go_wp2_with (first | (go_at_call 26; refine (said_any s n _ hs (by omega) (by omega) (by omega)).mono ?_; rintro e w1 ⟨rfl, rfl⟩; rw [HR.out]))
          go_region_with (first | (go_at_call 27; refine (rune_any _ _).mono ?_; rintro e w1 ⟨rfl, rfl⟩; rw [hsc]) | (go_at_call 28; refine (rwrite_any _ _ hsc).mono ?_; rintro e w1 ⟨rfl, hb1⟩))
          go_wp2_with fail
          · have hit : (enc r == (s.extract 0 n).toList) = true := by assumption
            rw [beq_iff_eq, ByteArray.toList_eq, take_extract] at hit
            go_ret2
            exact ⟨RDecIs.mk (x := r) (n := n) (by have := hit_dec (l := s.data.toList) (n := n) (by rw [HR.out]; exact hsc) (by rw [HR.out]; exact hit) (by rw [len_at]; omega); rw [HR.out] at this; exact this) rfl, hb.drew.trans (hb1.mono hb0)⟩
          · have hit : (enc r == (s.extract 0 n).toList) = false := by assumption
            rw [beq_eq_false_iff_ne, ByteArray.toList_eq, take_extract] at hit
            exact ⟨⟨n + 1, by go_num, by omega, by omega, miss_next HM.out (fun _ => by rw [HR.out]; exact hit), hb.drew.trans (hb1.mono hb0)⟩, round_to.2 (by omega)⟩
      · go_wp2_with fail
        go_ret2
        exact ⟨RDecIs.mk (x := 0) (n := 0) (miss_dec fun m h1 h2 h3 => HM.out m h1 (by rw [len_at] at h3; omega) h3) rfl, hb⟩
    · go_wp2_with fail
      go_ret2
      exact ⟨RDecIs.mk (x := 0) (n := 0) (miss_dec fun m h1 h2 h3 => HM.out m h1 (by omega) h3) rfl, hb⟩

theorem dec_range (s : List UInt8) : 0 ≤ (dec s).1 ∧ (dec s).1 ≤ 1114111 := by
  by_cases hn : (dec s).2 = 0
  · rw [dec_zero hn]; decide
  · have := scalar_iff.1 (dec_some (s := s) (r := (dec s).1) (n := (dec s).2) rfl hn).1; omega

set_option maxRecDepth 100000 in
set_option maxHeartbeats 1000000 in
theorem rrunes_any (s : ByteArray) (w : World) (hs : (s.size : Int) ≤ 9223372036854775807) (hf : Fits s.data.toList) :
    Calls Tryd.prog 7 #[.string s] w (RunesPost w s) := by
  obtain ⟨i0, hi, hz0, hz1, hz2⟩ := info_parts info_i32
  go_enter Tryd.func7, Tryd.ntmps7
  go_wp2_with fail
  go_loopw [0, 4] (fun x v wr => ∃ (l : List Int) (t : ByteArray), x = .string t ∧ t.size ≤ s.size ∧ (∀ r ∈ l, scalar r = true) ∧ Hid (s.data.toList = encs l ++ t.data.toList) ∧
      wr.ownsRow w.heap.size 21 1 v l.length (l.map (.int .i32)) ∧ Below w.heap.size w wr)
    (fun x _ _ => strLen x)
  case atStart => exact ⟨[], s, rfl, Nat.le_refl _, by simp, rfl, World.ownsRow_nil _ _ _ _, Below.refl _ _⟩
  case round =>
    obtain ⟨l, t, rfl, ht, hl, HS, hown, hb⟩ := hrel
    have hL := hf l _ hl HS.out
    have HL := Lib.hid hl
    clear hl
    by_cases h0 : t.size = 0
    · have h0' : ¬ (0 : Int) < (t.size : Int) := by omega
      have HE := Lib.hid h0
      clear h0
      go_wp2_with fail
      go_ret2
      have e0 : t.data.toList = [] := by
        apply List.eq_nil_of_length_eq_zero; rw [len_at]; exact HE.out
      exact ⟨hb, .inr ⟨l, _, runes_iff.2 ⟨HL.out, by rw [HS.out, e0, List.append_nil]⟩, rfl, hown⟩⟩
    · have h0' : 0 < t.size := by omega
      clear h0
      have hrg := dec_range t.data.toList
      obtain ⟨r, n, hd⟩ : ∃ r n, dec t.data.toList = (r, n) := ⟨_, _, rfl⟩
      rw [hd] at hrg
      obtain ⟨hr0, hr1⟩ := hrg
      simp only at hr0 hr1
      by_cases hn : n = 0
      · subst hn
        have HD := Lib.hid hd
        clear hd
        go_wp2_with (go_at_call 19; refine (rfirst_any _ _ (by omega)).mono ?_; rintro e w1 ⟨hdec, hb1⟩; unfold RDecIs at hdec; rw [HD.out] at hdec; subst hdec)
        go_ret2
        refine ⟨hb.trans (hb1.mono hb.size), .inl ⟨?_, rfl⟩⟩
        rw [HS.out]
        exact runes_none HL.out (fun h => by have := congrArg List.length h; rw [len_at, List.length_nil] at this; omega) (by rw [HD.out])
      · obtain ⟨g1, g2, g3, g4⟩ := runes_step (W := w) (wr := wr) (w1 := wr) HL.out HS.out hd hn
        have hL2 := hf _ _ g1 g2
        rw [List.length_append, List.length_singleton] at hL2
        have HG := Lib.hid g1
        have HS2 := Lib.hid g2
        have HD := Lib.hid hd
        have hnb : ((n : Int) == 0) = false := by rw [beq_eq_false_iff_ne]; omega
        clear g1 g2 hd hn
        have hbs0 := hb.size
        go_wp2_with (first | (go_at_call 19; refine (rfirst_any _ _ (by omega)).mono ?_; rintro e w1 ⟨hdec, hb1⟩; unfold RDecIs at hdec; rw [HD.out] at hdec; subst hdec; replace hown := owns_below hown hb1; replace hb := hb.trans (hb1.mono hbs0); have hbs := hb.size; clear hb1) | (at_builtin; refine wpList_append_own _ rfl _ _ 28 rfl w.heap.size 21 i0 (.int .i32 0) 1 4 Tryd.underlying28 hi hz0 hz1 hz2 rfl (by decide) _ _ _ rfl (hown.alloc _) ⟨w1.heap.size, 0, none⟩ 1 1 [.int .i32 r] rfl rfl (cell_one _ _) one_int (by unfold maxLen; omega) (by omega) (by simp; omega) ?_; intro v' w2 hown' hgrow hnil'))
        have hb2 := hb.trans ((((Below.refl _ _).alloc hbs _).trans (below_of_grown (row := u4.ownBlock) hgrow (by simp; omega) (owns_base hown))))
        have hsz : (t.extract n t.size).size = t.size - n := by rw [ByteArray.size_extract]; omega
        exact ⟨⟨l ++ [r], t.extract n t.size, rfl, by omega, HG.out, HS2, by simpa using hown', hb2⟩, by show (t.extract n t.size).size < t.size; omega⟩
end Go.Proofs.YtkgmikglifmenaaDoor.L
