/-
  The walks of the laws of layer 1 on order, on joining and on beginnings: each answers true.
-/
import Derived.Test.YtmbbgfdgekphoaaDoorLetLaws
import Derived.Deep.RegionHeld3
namespace Go.Proofs.YtmbbgfdgekphoaaDoor.L
open Go.RowKit
open LM Aid
set_option linter.unusedSimpArgs false
set_option linter.unusedVariables false

theorem lex_encs {l : List Int} : ∀ {m : List Int}, (∀ r ∈ l, scalar r = true) → (∀ r ∈ m, scalar r = true) → lex (ns (encs l)) (ns (encs m)) = lex l m := by
  induction l with
  | nil =>
    intro m _ hm
    match m with
    | [] => rfl
    | q :: m =>
      rw [encs_cons, ns_append]
      have := enc_len q
      match hq : ns (enc q), (by simpa [ns] using this.1 : 1 ≤ (ns (enc q)).length) with
      | x :: t, _ => rfl
  | cons r l ih =>
    intro m hl hm
    match m with
    | [] =>
      rw [encs_cons, ns_append]
      have := enc_len r
      match hq : ns (enc r), (by simpa [ns] using this.1 : 1 ≤ (ns (enc r)).length) with
      | x :: t, _ => rfl
    | q :: m =>
      rw [encs_cons, encs_cons, ns_append, ns_append]
      by_cases h : r = q
      · subst h
        have hp : ∀ (p x y : List Int), lex (p ++ x) (p ++ y) = lex x y := by
          intro p x y
          induction p with
          | nil => rfl
          | cons a p ihp => simpa [lex] using ihp
        rw [hp, ih (fun x hx => hl x (by simp [hx])) (fun x hx => hm x (by simp [hx]))]
        simp [lex]
      · rw [lex_enc (hl r (by simp)) (hm q (by simp)) h]
        simp [lex, h]

theorem less_eq (a b : ByteArray) : Op.bytesLess a.toList b.toList = lex (nums a) (nums b) := by
  rw [ByteArray.toList_eq, ByteArray.toList_eq, bytesLess_lex]; rfl
theorem less_runes {a b : ByteArray} {l m : List Int} (h1 : runes a.data.toList = some l) (h2 : runes b.data.toList = some m) : lex (nums a) (nums b) = lex l m := by
  obtain ⟨hl, ha⟩ := runes_iff.1 h1
  obtain ⟨hm, hb⟩ := runes_iff.1 h2
  show lex (ns a.data.toList) (ns b.data.toList) = _
  rw [ha, hb, lex_encs hl hm]

theorem less_is (a b : ByteArray) (w : World) :
    Calls Tryd.prog 20 #[.string a, .string b] w fun e w' => e = .returned (.bool (lex (nums a) (nums b))) ∧ w = w' :=
  (less_any a b w).mono fun e w' ⟨he, hw⟩ => ⟨by rw [he, less_eq], hw⟩

set_option maxRecDepth 100000 in
set_option maxHeartbeats 1000000 in
theorem order_law (a b : ByteArray) (w : World) (ha : a.size ≤ 35184372088832) (hb : b.size ≤ 35184372088832) (T : Tab w) :
    Calls Tryd.prog 10 #[.string a, .string b] w fun e w' => e = .returned (.bool true) ∧ Below w.heap.size w w' := by
  have hfa := Lib.hid (fits_small ha)
  have hfb := Lib.hid (fits_small hb)
  obtain ⟨x, hx⟩ : ∃ x, lex (nums a) (nums b) = x := ⟨_, rfl⟩
  have HX := Lib.hid hx
  clear hx
  go_enter Tryd.func10, Tryd.ntmps10
  go_wp2_with fail
  refine (runes_any a w (by omega) hfa.out T).mono ?_
  rintro e w1 ⟨hb1, hr⟩
  have T1 := T.below hb1
  rcases hr with ⟨hn, rfl⟩ | ⟨l, v, hl, rfl, hown⟩
  · clear hn
    go_wp2_with fail
    refine (runes_any b w1 (by omega) hfb.out T1).mono ?_
    rintro e w2 ⟨hb2, hr⟩
    have T2 := T1.below hb2
    have hbb := hb1.trans (hb2.mono hb1.size)
    clear hb1 hb2
    rcases hr with ⟨hn, rfl⟩ | ⟨m, v2, hm, rfl, hown2⟩
    all_goals
      try clear hn
      try clear hm hown2
      go_wp2_with fail
      refine (less_is a b _).mono ?_
      rintro e w3 ⟨rfl, rfl⟩
      rw [HX.out]
      go_wp2_with fail
      refine (ahead_any a b w2 (by omega) (by omega)).mono ?_
      rintro e w3 ⟨rfl, hb3⟩
      rw [HX.out]
      have T3 := T2.below hb3
      have hbc := hbb.trans (hb3.mono hbb.size)
      clear hb3
      have hd : (x != x) = false := by simp
      go_wp2_with fail
      refine (alive_any w3 T3).mono ?_
      rintro e w4 ⟨rfl, hb4⟩
      go_wp2_with fail
      go_ret
      exact ⟨by simp, hbc.trans (hb4.mono hbc.size)⟩
  · have HL := Lib.hid hl
    have hlen := runes_len hl
    clear hl
    go_wp2_with fail
    refine (runes_any b w1 (by omega) hfb.out T1).mono ?_
    rintro e w2 ⟨hb2, hr⟩
    have T2 := T1.below hb2
    have hbb := hb1.trans (hb2.mono hb1.size)
    have H1 := Lib.hid ((Ints.own hown (by omega)).below hb2)
    clear hb1 hb2 hown
    rcases hr with ⟨hn, rfl⟩ | ⟨m, v2, hm, rfl, hown2⟩
    · clear hn
      go_wp2_with fail
      refine (less_is a b _).mono ?_
      rintro e w3 ⟨rfl, rfl⟩
      rw [HX.out]
      go_wp2_with fail
      refine (ahead_any a b w2 (by omega) (by omega)).mono ?_
      rintro e w3 ⟨rfl, hb3⟩
      rw [HX.out]
      have T3 := T2.below hb3
      have hbc := hbb.trans (hb3.mono hbb.size)
      clear hb3
      have hd : (x != x) = false := by simp
      go_wp2_with fail
      refine (alive_any w3 T3).mono ?_
      rintro e w4 ⟨rfl, hb4⟩
      go_wp2_with fail
      go_ret
      exact ⟨by simp, hbc.trans (hb4.mono hbc.size)⟩
    · have hlen2 := runes_len hm
      have HY := Lib.hid (less_runes HL.out hm)
      have H2 := Lib.hid (Ints.own hown2 (by omega))
      clear hm hown2
      go_wp2_with fail
      refine (less_is a b _).mono ?_
      rintro e w3 ⟨rfl, rfl⟩
      rw [HX.out]
      go_wp2_with fail
      refine (ahead_any a b w2 (by omega) (by omega)).mono ?_
      rintro e w3 ⟨rfl, hb3⟩
      rw [HX.out]
      have T3 := T2.below hb3
      have hbc := hbb.trans (hb3.mono hbb.size)
      have H1' := Lib.hid (H1.out.below hb3)
      have H2' := Lib.hid (H2.out.below hb3)
      clear hb3
      have hd : (x != x) = false := by simp
      go_wp2_with fail
      refine (alive_any w3 T3).mono ?_
      rintro e w4 ⟨rfl, hb4⟩
      have hbd := hbc.trans (hb4.mono hbc.size)
      have H1'' := Lib.hid (H1'.out.below hb4)
      have H2'' := Lib.hid (H2'.out.below hb4)
      clear hb4
      go_wp2_with fail
      refine (less_is a b _).mono ?_
      rintro e w5 ⟨rfl, rfl⟩
      rw [HX.out]
      go_wp2_with fail
      refine (rless_any _ _ l m w4 H1''.out H2''.out).mono ?_
      rintro e w5 ⟨rfl, hb5⟩
      rw [← HY.out, HX.out]
      go_wp2_with fail
      go_ret
      exact ⟨by simp, hbd.trans (hb5.mono hbd.size)⟩

theorem ints_one (w : World) (x : Int) : Ints (w.alloc (.cells #[.int .i32 x] 21)) .i32 (.slice (some ⟨w.heap.size, 0, none⟩) 1 1) [x] := by
  refine ⟨by simp, .inr ⟨w.heap.size, 0, 1, rfl, by simp, fun j hj => ?_⟩⟩
  match j, hj with
  | 0, _ => rw [World.cell?_alloc_at _ _ _ _ rfl]; rfl
  | j + 1, hj => simp at hj

theorem encs_one (x : Int) : encs [x] = enc x := by simp [encs]
theorem apart_str {a b : Int} {s t : ByteArray} (ha : scalar a = true) (hb : scalar b = true) (hne : a ≠ b) (hs : s.data.toList = enc a) (ht : t.data.toList = enc b) (n : Nat) (hn : n = min s.size t.size) :
    (s.extract 0 n).toList ≠ (t.extract 0 n).toList := by
  rw [ByteArray.toList_eq, ByteArray.toList_eq, take_extract, take_extract, hs, ht]
  exact apart ha hb hne n (by rw [hn, size_of s _ hs, size_of t _ ht])

set_option maxRecDepth 100000 in
set_option maxHeartbeats 1000000 in
theorem apart_law (a b : Int) (w : World) (T : Tab w) :
    Calls Tryd.prog 8 #[.int .i32 a, .int .i32 b] w fun e w' => e = .returned (.bool true) ∧ Below w.heap.size w w' := by
  go_enter Tryd.func8, Tryd.ntmps8
  go_wp2_with fail
  refine (text_any _ [a] _ (ints_one w a) (by simp) (T.below ((Below.refl _ _).alloc (Nat.le_refl _) _))).mono ?_
  rintro e w1 ⟨hp, hb1⟩
  have hb1' : Below w.heap.size w w1 := ((Below.refl w.heap.size w).alloc (Nat.le_refl _) _).trans (hb1.mono (by simp))
  have T1 := T.below hb1'
  clear hb1
  rcases hp with ⟨hall, t, ht, rfl⟩ | ⟨hall, rfl⟩
  · have HA : Hid (scalar a = true) := (by simpa using hall : scalar a = true)
    have HT : Hid (t.data.toList = enc a) := by rw [ht, encs_one]; rfl
    have hts : 1 ≤ t.size ∧ t.size ≤ 4 := by rw [size_of t _ HT.out]; exact enc_len a
    obtain ⟨hts1, hts2⟩ := hts
    clear hall ht
    go_wp2_with fail
    refine (text_any _ [b] _ (ints_one w1 b) (by simp) (T1.below ((Below.refl _ _).alloc (Nat.le_refl _) _))).mono ?_
    rintro e w2 ⟨hp, hb2⟩
    have hb2' : Below w.heap.size w w2 := hb1'.trans (((Below.refl w.heap.size w1).alloc hb1'.size _).trans (hb2.mono (by have := hb1'.size; simp; omega)))
    have T2 := T.below hb2'
    clear hb2
    rcases hp with ⟨hall, t2, ht, rfl⟩ | ⟨hall, rfl⟩
    · have HB : Hid (scalar b = true) := (by simpa using hall : scalar b = true)
      have HT2 : Hid (t2.data.toList = enc b) := by rw [ht, encs_one]; rfl
      have hts : 1 ≤ t2.size ∧ t2.size ≤ 4 := by rw [size_of t2 _ HT2.out]; exact enc_len b
      obtain ⟨hus1, hus2⟩ := hts
      have hp1 : 0 < t.size := by omega
      have hp2 : 0 < t2.size := by omega
      clear hall ht
      by_cases hab : a = b
      · have hd : (a == b) = true := by rw [beq_iff_eq]; exact hab
        clear hab
        go_wp2_with fail
        refine (alive_any w2 T2).mono ?_
        rintro e w3 ⟨rfl, hb3⟩
        go_wp2_with fail
        go_ret
        exact ⟨rfl, hb2'.trans (hb3.mono hb2'.size)⟩
      · have hd : (a == b) = false := by rw [beq_eq_false_iff_ne]; exact hab
        have HN := Lib.hid hab
        clear hab
        have z1 : (0 : Int) ≤ (t.size : Int) := by omega
        have z2 : (0 : Int) ≤ (t2.size : Int) := by omega
        by_cases hle : t2.size < t.size
        · have hb1 : ((t.extract 0 t2.size).toList == t2.toList) = false := by
            have := apart_str HA.out HB.out HN.out HT.out HT2.out t2.size (by omega)
            rw [beq_eq_false_iff_ne]
            rwa [show t2.extract 0 t2.size = t2 from ByteArray.extract_zero_size] at this
          have H1 := Lib.hid hb1
          clear hb1
          have le1 : (t2.size : Int) ≤ (t.size : Int) := by omega
          go_wp2_with fail
          go_region_held3 (fun _ => True) (trivial) ((go_at_call 14; refine (alive_any _ (T2.below (Below.refl _ _).drew)).mono ?_; rintro e w3 ⟨rfl, hb3⟩))
          go_wp2_with fail
          go_ret
          exact ⟨ret_bool (by rw [H1.out]; rfl), hb2'.drew.trans (hb3.mono hb2'.size)⟩
        · have hb1 : (t.toList == (t2.extract 0 t.size).toList) = false := by
            have := apart_str HA.out HB.out HN.out HT.out HT2.out t.size (by omega)
            rw [beq_eq_false_iff_ne]
            rwa [show t.extract 0 t.size = t from ByteArray.extract_zero_size] at this
          have H1 := Lib.hid hb1
          clear hb1
          have le1 : (t.size : Int) ≤ (t2.size : Int) := by omega
          go_wp2_with fail
          go_region_held3 (fun _ => True) (trivial) ((go_at_call 14; refine (alive_any _ (T2.below (Below.refl _ _).drew)).mono ?_; rintro e w3 ⟨rfl, hb3⟩))
          go_wp2_with fail
          go_ret
          exact ⟨ret_bool (by rw [H1.out]; rfl), hb2'.drew.trans (hb3.mono hb2'.size)⟩
    · clear hall
      go_wp2_with fail
      refine (alive_any w2 T2).mono ?_
      rintro e w3 ⟨rfl, hb3⟩
      go_wp2_with fail
      go_ret
      exact ⟨rfl, hb2'.trans (hb3.mono hb2'.size)⟩
  · clear hall
    go_wp2_with fail
    refine (text_any _ [b] _ (ints_one w1 b) (by simp) (T1.below ((Below.refl _ _).alloc (Nat.le_refl _) _))).mono ?_
    rintro e w2 ⟨hp, hb2⟩
    have hb2' : Below w.heap.size w w2 := hb1'.trans (((Below.refl w.heap.size w1).alloc hb1'.size _).trans (hb2.mono (by have := hb1'.size; simp; omega)))
    have T2 := T.below hb2'
    clear hb2
    rcases hp with ⟨hall, t2, ht, rfl⟩ | ⟨hall, rfl⟩
    all_goals
      try clear ht
      clear hall
      go_wp2_with fail
      refine (alive_any w2 T2).mono ?_
      rintro e w3 ⟨rfl, hb3⟩
      go_wp2_with fail
      go_ret
      exact ⟨rfl, hb2'.trans (hb3.mono hb2'.size)⟩
end Go.Proofs.YtmbbgfdgekphoaaDoor.L
