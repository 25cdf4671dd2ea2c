/-
  WalFre + WalFreesC.
-/
import Derived.Test.YtcpkpljeimbdiaaWalPackD
import Derived.Deep.Slices
import Derived.Deep.CondSized
import Derived.Test.YtcpkpljeimbdiaaShut
import Derived.JoinedCond
namespace Go.Proofs.Ytcpkpljeimbdiaa.W
open Go.RowKit
open Aid K
set_option linter.unusedSimpArgs false
set_option linter.unusedVariables false

/-- what is freed: all but the last segment, if its index is reached -/
theorem frF_one : ∀ (f : Nat) (s : LSt) (st : DSt) (x : Int) (y : Int × Int), s.old.length ≤ f → s.old.getLast? = some y → y.2 ≤ x → s.code = 0 → (frF f s st x).1.code = 0 → (frF f s st x).1.old.length ≤ 1
  | 0, s, st, x, y, h, _, _, _, _ => by rw [frF]; exact Nat.le_trans h (by decide)
  | f + 1, s, st, x, y, h, hl, hy, hc, hr => by
    rw [frF] at hr ⊢
    by_cases hcond : 1 < s.old.length ∧ (s.old.tail.any fun x' => decide (x'.2 ≤ x)) = true
    · rw [if_pos hcond] at hr ⊢
      simp only at hr ⊢
      split
      · rename_i he
        rw [if_pos he] at hr
        exact absurd hr he
      · rename_i he
        rw [if_neg he] at hr
        refine frF_one f _ _ x y (by simp only [List.length_tail]; omega) ?_ hy hc hr
        cases ho : s.old with
        | nil => rw [ho] at hcond; simp at hcond
        | cons a t =>
          rw [ho] at hl hcond
          cases t with
          | nil => simp at hcond
          | cons b t => rw [List.getLast?_cons_cons] at hl; exact hl
    · rw [if_neg hcond]
      refine Nat.le_of_not_lt fun h1 => hcond ⟨h1, ?_⟩
      cases ho : s.old with
      | nil => rw [ho] at h1; simp at h1
      | cons a t =>
        rw [ho] at hl h1
        cases t with
        | nil => simp at h1
        | cons b t =>
          rw [List.getLast?_cons_cons] at hl
          exact List.any_eq_true.2 ⟨y, List.mem_of_getLast? hl, decide_eq_true hy⟩
theorem coS_one {s : LSt} {st : DSt} {x : Int} (hc : s.code = 0) (h0 : s.first < x) (hx : x = s.first + s.L.length) (hr : (coS s st x).1.code = 0) : (coS s st x).1.old.length ≤ 1 := by
  unfold coS at hr ⊢
  rw [if_neg (by rw [hc]; decide), if_neg (by omega), if_neg (by omega)] at hr ⊢
  simp only at hr ⊢
  rw [if_pos hx] at hr ⊢
  split
  · rename_i h1
    rw [if_pos h1] at hr
    exact absurd hr h1
  · rename_i h1
    rw [if_neg h1] at hr
    have h1' := Decidable.not_not.1 h1
    have hb : (beS s st x).1.code = 0 := by
      refine Decidable.byContradiction fun hh => ?_
      have : (syS (beS s st x).1 (beS s st x).2).1.code = (beS s st x).1.code := by unfold syS; rw [if_pos hh]
      rw [this] at h1'
      exact hh h1'
    have hold : ∃ pre q, (beS s st x).1.old = pre ++ [(q, x)] := by
      unfold beS at hb ⊢
      simp only at hb ⊢
      split
      · rename_i h2
        rw [if_pos h2] at hb
        exact absurd hb h2
      · obtain ⟨_, q2, _, _⟩ := wrS_same { (syS s st).1 with opn := some ⟨(syS s st).1.next, x, 0, []⟩, next := (syS s st).1.next + 1, old := (syS s st).1.old ++ [((syS s st).1.next, x)] } (syS s st).2 (putU x.toNat)
        rw [q2]
        exact ⟨_, _, rfl⟩
    obtain ⟨pre, q, hold⟩ := hold
    obtain ⟨_, z2, _, _, _⟩ := syS_same (beS s st x).1 (beS s st x).2
    have key := frF_one (syS (beS s st x).1 (beS s st x).2).1.old.length (syS (beS s st x).1 (beS s st x).2).1 (syS (beS s st x).1 (beS s st x).2).2 x (q, x) (Nat.le_refl _) (by rw [z2, hold]; simp) (Int.le_refl _) h1'
    split
    · rename_i h2
      rw [if_pos h2] at hr
      exact absurd hr h2
    · rename_i h2
      exact key (Decidable.not_not.1 h2)
theorem al_compact {w0 W : World} {N g p : Nat} {s : LSt} {st : DSt} {R : Int} {k i : Nat} {x : Int} (h : ALs w0 W N g p s st) (hv : Inv s st R k i) (hk : k ≤ 2000000) (hi : i + 2002200 ≤ 4398046511103) (hR : R ≤ 9223372036854775807) (hx0 : 0 ≤ x) (hx1 : x < 18446744073709551616) :
    Calls Try.prog 19 #[.pointer (some ⟨g, 0, none⟩), .int .u64 x] W (AEnd w0 g p (coS s st x)) := by
  obtain ⟨O, Q, h⟩ := h
  refine (compact_any O Q g p s st R i 2000000 x W h.wal h.disk (fun k hk => by have := h.lt k (.inl hk); have := h.nle; omega) hv.fit (by have := hv.old; omega) hR (fun hc => hv.ok hk hc) hv.first hv.top hx0 hx1).mono ?_
  rintro e W' ⟨he, O', Q', hA⟩
  exact ⟨he, h.step hA⟩
/-- all is taken away, plainly -/
theorem CutP.frees {T : Nat} {s : LSt} {st : DSt} {was : List Lg} (h : CutP T s st was (-1)) (hT : T ≤ 1048590) (hlt : 0 < s.L.length) :
    (coS s st (s.first + s.L.length)).2.2 = 0 ∧ (coS s st (s.first + s.L.length)).1.first = s.first + s.L.length ∧ (coS s st (s.first + s.L.length)).1.L = [] ∧ (coS s st (s.first + s.L.length)).2.1.C ≤ 1048600 ∧
    ∀ xs, AreasOf (coS s st (s.first + s.L.length)).2.1 xs → (numsF (QU.srt xs)).length ≤ 1 := by
  obtain ⟨C, l, h1, h2, h3⟩ := h.lg
  have hr := h.room
  have he := h.endd
  have hinv := h.inv
  have hf := hinv.first
  obtain ⟨x, hx⟩ : ∃ x, s.first + (s.L.length : Int) = x := ⟨_, rfl⟩
  have hwx : x = IntKind.u64.wrap (s.first + IntKind.u64.wrap (s.L.length : Int)) := by rw [IntKind.wrap_u64, IntKind.wrap_u64]; omega
  have hend : IntKind.u64.wrap (s.first + (s.L.length : Int)) = x := by rw [IntKind.wrap_u64]; omega
  have haf := coS_after (E := (T : Int) + 1) (K := (T : Int) + 2) (n := (s.L.length : Int)) (x := x) h1 h2 hinv (by omega) (by omega) (by omega) h.mem hwx (by omega) h3 he (by have := hinv.next; push_cast at this; omega)
  have hcalm := coS_ind calm_ind (s := s) (x := x) (⟨h1.dead, h.calm rfl⟩ : Calm st)
  have hcnt := coS_ind cnt_ind (s := s) (x := x) h.cnt
  have hone := coS_one (st := st) h1.code (show s.first < x by omega) hx.symm
  rw [hend, if_neg (by omega), if_neg (by omega), if_neg (by omega), if_neg (by omega)] at haf
  rw [hx]
  obtain ⟨y, hy⟩ : ∃ y, coS s st x = y := ⟨_, rfl⟩
  rw [hy] at haf hcalm hcnt hone ⊢
  obtain ⟨a1, a2, a3⟩ := haf
  rcases a3 with ⟨a3, _⟩ | ⟨a3, a4, a5, C1, l1, a6, a7, a8⟩
  · rw [hcalm.1] at a3; cases a3
  · have hlen : (all C1 l1).length ≤ 1 := by
      have := hone a6.code
      rw [a6.old, List.length_map] at this
      exact this
    refine ⟨a4, congrArg Prod.fst a5, ?_, ?_, fun xs hxs => ?_⟩
    · have := congrArg Prod.snd a5
      simp only at this
      rw [this]
      exact List.drop_eq_nil_of_le (by omega)
    · refine Nat.le_trans (hcnt.few (K := T + 4) (fun n hA => ?_)) (by omega)
      have hw := a1.wfa _ hA
      obtain ⟨c, hc, hcn⟩ := a6.ond.only n (by omega) hA
      have := (a8 c hc).2
      omega
    · rw [a6.ready.nums a1 hxs]
      simpa using hlen
theorem sorted_ints {w w' : World} {v : Value} {l : List Int} (h : QU.SortedAt w w' v l) (hl : l.length ≤ 4398046511104) : Ints w' .u64 v l := by
  rcases h with ⟨rfl, rfl⟩ | ⟨b, cap, rfl, h1, h2, h3⟩
  · exact Ints.nil _ _
  · refine ⟨by omega, .inr ⟨b, 0, cap, rfl, ?_, fun j hj => ?_⟩⟩
    · obtain ⟨rest, h3⟩ := h3; exact Blk.lt h3
    · rw [Nat.zero_add]
      refine h3.cell (by simpa using hj) ?_
      rw [getElem!_pos _ _ (by simpa using hj), List.getD_eq_getElem?_getD, List.getElem?_eq_getElem hj]
      rfl
theorem dl_areas {w0 W : World} {p : Nat} {st : DSt} (h : DL w0 W p st) (hc : st.C ≤ 1048600) : Calls Try.prog 21 #[.pointer (some ⟨p, 0, none⟩)] W fun e w' => ∃ v xs, e = .returned v ∧ AreasOf st xs ∧ xs.length ≤ 1048600 ∧ Ints w' .u64 v (QU.srt xs) ∧ Below W.heap.size W w' := by
  obtain ⟨O, h1, _⟩ := h
  refine (areas_any O p st W h1 (by omega)).mono ?_
  rintro e w' ⟨v, xs, rfl, ⟨h2, h3⟩, h4, h5⟩
  exact ⟨v, xs, rfl, h2, by omega, sorted_ints h4 (by rw [show (QU.srt xs).length = xs.length from (List.mergeSort_perm xs _).length_eq]; omega), h5⟩
set_option maxRecDepth 100000 in
set_option maxHeartbeats 8000000 in
theorem frees_law (v : Value) (n : Nat) (f : Nat → WOp) (w : World) (hO : WOps w v n f) (hn : n ≤ 1048576) :
    Calls Try.prog 4 #[v] w (TrueIn w) := by
  obtain ⟨a0, cap0, hv0, hel0⟩ := hO.2
  subst hv0
  have HO := Lib.hid hO
  clear hO hel0
  go_enter Try.func4, Try.ntmps4
  go_wp2_with fail
  refine (new_dl (w0 := w) (room := 1073741824) (Below.refl _ _)).mono ?_
  rintro e w1 ⟨p, rfl, D1⟩
  go_wp2_with fail
  refine (alive_any w1).mono ?_
  rintro e w2 ⟨rfl, hb2⟩
  have HCUT := Lib.hid (cut_any w w2 p 0 n _ (-1) _ f (D1.below hb2) CutB.new (by omega) HO.out (by decide))
  clear D1 hb2
  go_wp2_with fail
  refine HCUT.out.mono ?_
  rintro e w3 ⟨v3, was, st3, rfl, hW3, D3, hE3⟩
  have hB3 := hE3.again
  have hC3 := hB3.C (by omega)
  have HB3 := Lib.hid hB3
  have HXL := Lib.hid (show ∀ xs, AreasOf st3 xs → xs.length ≤ 1048600 from fun xs hx => by
    obtain ⟨O, hO, _⟩ := D3
    have h1 := areas_few hO (by omega)
    rw [← areasL_eq hx] at h1
    have h2 : (QI.srt xs).length = xs.length := (List.mergeSort_perm xs _).length_eq
    omega)
  have HOP := Lib.hid (dl_openg (R := 1073741824) (i := (0 + 1 + n) * 1050400) (fr := 0) (first := 1) D3 hB3.pln.sects hB3.fit (by omega) hC3 (by decide) hB3.calm.1 (by decide) (by decide))
  clear hW3 D3 hE3 hB3
  go_wp2_with fail
  refine HOP.out.mono ?_
  rintro e w4 ⟨xs, hx, hE⟩
  obtain ⟨s, st4, e4, hl4, hP4, _⟩ := HB3.out.opens (by omega) hx (HXL.out xs hx)
  rw [e4] at hE
  obtain ⟨g, rfl, H4⟩ := hE
  have hAP := hP4.does (kd := 0) (n := 0) (b := []) (by omega) (fun x hx => by cases hx) (by decide)
  have hcal := doesS_ind calm_ind (s := s) (kd := 0) (n := 0) (b := []) (⟨(hP4.lg.choose_spec.choose_spec.1).dead, hl4⟩ : Calm st4)
  have hap : doesS s st4 0 0 [] = apS s st4 [] := by unfold doesS; simp
  rw [hap] at hAP hcal
  have hdo : doF (s.first, s.L) 0 0 [] = ((s.first, s.L ++ [[]]), 0) := by unfold doF; simp
  rw [hdo] at hAP
  obtain ⟨y, hy⟩ : ∃ y, apS s st4 [] = y := ⟨_, rfl⟩
  have C5 := al_append (bv := .slice none 0 0) (b := []) H4 hP4.inv (by omega) (by omega) (by decide) (Ints.nil _ _) (fun x hx => by cases hx) (fun k hk => by cases hk)
  rw [hy] at hAP hcal C5
  obtain ⟨hy1, hy2, was5, hP5⟩ : y.2.2 = 0 ∧ (y.1.first, y.1.L) = (s.first, s.L ++ [[]]) ∧ ∃ was5, CutP (0 + 1 + n + 1 + 1) y.1 y.2.1 was5 (-1) := by
    rcases hAP with ⟨h, _⟩ | ⟨_, h1, h2, h3⟩
    · rw [hcal.1] at h; cases h
    · exact ⟨h1, h2, _, h3⟩
  have hyL : 0 < y.1.L.length := by
    have := congrArg Prod.snd hy2
    simp only at this
    rw [this]; simp
  have hfr := hP5.frees (by omega) hyL
  have hinv5 := hP5.inv
  have hf5 := hinv5.first
  have hend5 := hP5.endd
  obtain ⟨s5, st5, c5⟩ := y
  simp only at C5 hfr hinv5 hf5 hend5 hyL hy1
  subst hy1
  obtain ⟨x, hx5⟩ : ∃ x, s5.first + (s5.L.length : Int) = x := ⟨_, rfl⟩
  obtain ⟨LV, hLV⟩ : ∃ LV, IntKind.u64.wrap (IntKind.u64.wrap (s5.first + s5.L.length) - 1) = LV := ⟨_, rfl⟩
  have hLVe : LV = x - 1 := by rw [← hLV, IntKind.wrap_u64, IntKind.wrap_u64]; omega
  have hsum : IntKind.u64.wrap (LV + 1) = x := by rw [IntKind.wrap_u64]; omega
  have hsum2 : LV + 1 = x := by omega
  have hwx : IntKind.u64.wrap x = x := by rw [IntKind.wrap_u64]; omega
  rw [hx5] at hfr
  have HC5 := Lib.hid C5
  have HP5 := Lib.hid (And.intro hinv5 (And.intro hLV (And.intro hx5 (And.intro hend5 hf5))))
  have HFR := Lib.hid hfr
  clear hx e4 hP4 H4 hAP hcal hap hdo hy hy2 hP5 hyL hfr hinv5 C5 hx5 hLV hLVe hend5
  go_wp2_with fail
  refine HC5.out.mono ?_
  rintro e w5 ⟨rfl, H5⟩
  have H5 : ALs w w5 w5.heap.size g p s5 st5 := H5
  have HH5 := Lib.hid H5
  have HL5 := Lib.hid (al_last H5 (by have := HP5.out.1.len; omega))
  rw [HP5.out.2.1] at HL5
  clear H5
  go_wp2_with fail
  refine HL5.out.mono ?_
  rintro e w6 ⟨rfl, hb6⟩
  have C7 := al_compact (x := x) (HH5.out.below hb6) HP5.out.1 (by omega) (by omega) (by decide) (by have := HP5.out; omega) (by have := HP5.out; omega)
  obtain ⟨z, hz⟩ : ∃ z, coS s5 st5 x = z := ⟨_, rfl⟩
  rw [hz] at C7 HFR
  obtain ⟨z1, z2, z3, z4, z5⟩ := HFR.out
  obtain ⟨s7, st7, c7⟩ := z
  simp only at z1 z2 z3 z4 z5
  subst z1
  have HC7 := Lib.hid C7
  clear C7 hz hb6 HFR
  go_wp2_with fail
  refine HC7.out.mono ?_
  rintro e w7 ⟨rfl, H7⟩
  have H7 : ALs w w7 w7.heap.size g p s7 st7 := H7
  have HH7 := Lib.hid H7
  have HAR := Lib.hid (dl_areas H7.dl z4)
  have HZ := Lib.hid (And.intro z2 (And.intro z3 z5))
  clear H7 z2 z3 z5
  go_wp2_with fail
  refine HAR.out.mono ?_
  rintro e w8 ⟨v8, ys, rfl, hys, hyl, hI8, hb8⟩
  obtain ⟨Y, hY⟩ : ∃ Y, QU.srt ys = Y := ⟨_, rfl⟩
  have hYl : Y.length = ys.length := by rw [← hY]; exact (List.mergeSort_perm ys _).length_eq
  have hnum := HZ.out.2.2 ys hys
  rw [hY] at hI8 hnum
  obtain ⟨ya, yc, rfl⟩ := hI8.form
  obtain ⟨yn, hyn⟩ : ∃ yn, Y.length = yn := ⟨_, rfl⟩
  rw [hyn] at hI8 hYl ⊢
  have hwy : IntKind.i64.wrap (yn : Int) = (yn : Int) := IntWalk.i64_in _ (by omega)
  have HI8 := Lib.hid hI8
  have HYN := Lib.hid hyn
  have hbd : ∀ y ∈ Y, 0 ≤ y ∧ y < 18446744073709551616 := fun y hy => by
    rw [← hY] at hy
    have h1 := hys.2.1 y ((List.mergeSort_perm ys _).mem_iff.1 hy)
    simp [Lit.wf, IntKind.min, IntKind.max, IntKind.signed, IntKind.bits] at h1
    omega
  have HBD := Lib.hid hbd
  have HNUM := Lib.hid hnum
  have HH8 := Lib.hid (HH7.out.below hb8)
  have hB8 := HH8.out.bel.1
  have HBL := Lib.hid hB8
  clear hI8 hyn hbd hnum hb8 hY hys hB8
  go_wp2_with fail
  go_loop [8, 49] (fun x8 x49 => ∃ k : Nat, x49 = .int .i64 k ∧ k ≤ yn ∧ x8 = .int .i64 ((numsF (Y.take k)).length : Int)) (fun _ x49 => (yn - intOf x49).toNat)
  case atStart => exact ⟨0, rfl, Nat.zero_le _, rfl⟩
  case round =>
    obtain ⟨k, rfl, hk, rfl⟩ := hrel
    by_cases hlt : (k : Int) < (yn : Int)
    · have hkY : k < Y.length := by rw [HYN.out]; omega
      obtain ⟨b, o, rfl, hb, hcell⟩ := HI8.out.at_ (k := k) hkY rfl
      obtain ⟨y, hy⟩ : ∃ y, Y.getD k 0 = y := ⟨_, rfl⟩
      rw [hy] at hcell
      have hyk : Y[k]? = some y := by rw [← hy, List.getD_eq_getElem?_getD, List.getElem?_eq_getElem hkY]; rfl
      have htk : Y.take (k + 1) = Y.take k ++ [y] := by rw [List.take_add_one, hyk]; rfl
      obtain ⟨hy0, hy1⟩ := HBD.out y (List.mem_of_getElem? hyk)
      have hn1 : (numsF (Y.take (k + 1))).length = (numsF (Y.take k)).length + if y % 4 = 1 then 1 else 0 := by
        rw [htk]; unfold numsF
        rw [List.filter_append, List.map_append, List.length_append]
        by_cases h4 : y % 4 = 1 <;> simp [h4]
      have hnl : (numsF (Y.take k)).length ≤ 1 := by
        refine Nat.le_trans ?_ HNUM.out
        unfold numsF
        rw [List.length_map, List.length_map]
        exact ((List.take_sublist k Y).filter _).length_le
      obtain ⟨m, hm⟩ : ∃ m, (numsF (Y.take k)).length = m := ⟨_, rfl⟩
      rw [hm] at hn1 hnl ⊢
      have HN1 := Lib.hid hn1
      have hinext : IntKind.i64.wrap ((k : Int) + 1) = ((k + 1 : Nat) : Int) := IntWalk.i64_in _ (by omega)
      have hmnext : IntKind.i64.wrap ((m : Int) + 1) = ((m + 1 : Nat) : Int) := IntWalk.i64_in _ (by omega)
      clear hy htk hn1 hm hyk
      by_cases h4 : y % 4 = 1
      · have hn1 := HN1.out
        rw [if_pos h4] at hn1
        go_wp2_with fail
        exact ⟨⟨k + 1, by congr 1, by omega, by rw [hn1]; rfl⟩, by simp [intOf]; omega⟩
      · have hn1 := HN1.out
        rw [if_neg h4] at hn1
        have h4b : (y % 4 == 1) = false := by simpa using h4
        go_wp2_with fail
        exact ⟨⟨k + 1, by congr 1, by omega, by rw [hn1]; rfl⟩, by simp [intOf]; omega⟩
    · have hkn : k = yn := by omega
      subst hkn
      obtain ⟨m, hm⟩ : ∃ m, (numsF (Y.take k)).length = m := ⟨_, rfl⟩
      have hml : m ≤ 1 := by
        rw [← hm, List.take_of_length_le (by rw [HYN.out]; exact Nat.le_refl _)]
        exact HNUM.out
      rw [hm]
      have hm2 : decide ((m : Int) ≤ 2) = true := decide_eq_true (by omega)
      have hx0 : 0 ≤ x ∧ x ≤ 4611686018427387904 := by have := HP5.out.1.top; have := HP5.out; omega
      have HF9 := Lib.hid (al_first HH8.out)
      have HL9 := Lib.hid (al_last HH8.out (by rw [HZ.out.2.1]; decide))
      rw [HZ.out.1, HZ.out.2.1] at HL9
      rw [HZ.out.1] at HF9
      obtain ⟨L2, hL2⟩ : ∃ L2, IntKind.u64.wrap (IntKind.u64.wrap (x + (([] : List (List Int)).length : Int)) - 1) = L2 := ⟨_, rfl⟩
      rw [hL2] at HL9
      have hx1 : IntKind.u64.wrap (L2 + 1) = x := by
        rw [← hL2]
        simp only [List.length_nil]
        rw [IntKind.wrap_u64, IntKind.wrap_u64, IntKind.wrap_u64]
        omega
      have hB8 := HBL.out
      have hs8 := hB8.size
      clear hm hL2
      go_wp2_with fail
      refine HF9.out.mono ?_
      rintro e w9 ⟨rfl, hw9⟩
      obtain rfl : w8 = w9 := hw9.symm
      go_wp2_with fail
      refine HL9.out.mono ?_
      rintro e w9 ⟨rfl, hb9⟩
      go_wp2_with fail
      go_ret
      exact ⟨rfl, hB8.trans (hb9.mono hs8)⟩
end Go.Proofs.Ytcpkpljeimbdiaa.W
namespace Go.Proofs.Ytcpkpljeimbdiaa.cWalFrees
open Go.ChangeShapes Go.WideShapes Go.ChangeAt Go.RowKit Aid
open Go.ChangeMaps (open_string shut_string)
open K W
set_option linter.unusedVariables false
set_option linter.unusedSimpArgs false
theorem own : ownKnob Try.prog.godebug = none := by kernel_rfl
theorem laidOut : laidOutB Try.prog = true := by kernel_rfl
theorem readable : ∀ t ∈ Try.f4.params.toList, Try.prog.readableRec t = true ∧ t < Try.prog.types.size := by
  intro t ht
  rw [Try.params4] at ht
  simp only [List.mem_cons, List.not_mem_nil, or_false] at ht
  rcases ht with rfl
  all_goals exact ⟨by kernel_rfl, of_decide_eq_true (by kernel_rfl)⟩
theorem bulk_pos {H : Type} (d : DataW H) : 1 ≤ Rows.uptoBulk d := by
  cases d with
  | lit l => cases l <;> simp [Rows.uptoBulk]
  | _ => simp [Rows.uptoBulk]
theorem bulk_len {H : Type} : ∀ (l : List (DataW H)), l.length ≤ Rows.uptoBulkAll l
  | [] => Nat.zero_le _
  | y :: l => by
    have h1 := bulk_pos y
    have h2 := bulk_len l
    simp only [Rows.uptoBulkAll, List.length_cons]
    omega
theorem ops_bulk {H : Type} {enc : TypeId × Value → H} {W : World} {v : Value} {d : DataW H} {p : List MemPlace} {n : Nat} {f : Nat → WOp}
    (h : DataW.Trod enc Try.prog W 0 (fun _ => true) true 45 v d p) (hO : WOps W v n f) : n ≤ Rows.uptoBulk d := by
  obtain ⟨a0, cap, hv, _⟩ := hO.2
  subst hv
  obtain ⟨fuel, hf⟩ := h
  rcases Go.Deep.open_slice Try.underlying45 hf with ⟨hcs, hx⟩ | ⟨a', len', cap', m, n', D, Pl, hcs, hab, hl, hm, hmm, hx, hel⟩
  · simp [Value.cells] at hcs
    omega
  · simp [Value.cells] at hcs
    obtain ⟨rfl, rfl, rfl⟩ := hcs
    simp only [Prod.mk.injEq] at hx
    rw [hx.1]
    simp only [Rows.uptoBulk]
    have := bulk_len ((List.range n).map D)
    simp only [List.length_map, List.length_range] at this
    omega
set_option maxRecDepth 100000 in
theorem contract (H : Type) (enc : TypeId × Value → H) (W : World) (base : Nat) (args : Array Value) (ds gs : List (DataW H)) (before : List MemPlace)
    (hval : ∀ (j : Nat) t v, Try.f4.params[j]? = some t → args[j]? = some v → Value.okWide Try.prog W .any base t v)
    (hW : DataW.Whole enc Try.prog Try.f4.params.toList Rows.walFreesSpec.vars false W args.toList ds gs before) (hk : Rows.uptoSmall H (ds ++ gs) = true)
    (hsz : (DataW.weightsEach Try.prog (Try.f4.params.toList ++ []) (ds ++ gs)).all (· ≤ reachBytes) = true) :
    Calls Try.prog 4 args W fun e W' => ∃ v, e = .returned v ∧ Rows.walFreesSpec.post enc Try.prog Try.f4 false true false false W args v W' := by
  have hW' := hW
  obtain ⟨p, q, hA0, hV, rfl, hfz, hnd⟩ := hW
  have hA : DataW.TrodAll enc Try.prog W 0 (fun _ => true) true Try.f4.params.toList args.toList ds p := hA0
  have hlt : ∀ x ∈ p, x.block < W.heap.size := fun x hx => by simpa using hW'.lt x (by simp [hx])
  rw [Try.params4] at hA hval hsz
  obtain ⟨v0, vs0, d0, ds0, p0, q0, hargs, rfl, rfl, h0, r0⟩ := trodAll_cons hA
  obtain ⟨rfl, rfl, rfl⟩ := trodAll_nil r0
  obtain rfl : args = #[v0] := by cases args; simp_all
  obtain ⟨rfl, rfl⟩ := trodVars_none hV
  clear hA0
  have cO : Try.prog.cellsOf 55 = 3 := by kernel_rfl
  have bO : Try.prog.bytesOf 55 = 40 := by kernel_rfl
  have bU : Try.prog.bytesOf 5 = 1 := by kernel_rfl
  obtain ⟨n, f, hOps⟩ := WOps.arg Try.underlying45 Try.underlying55 cO rfl rfl rfl (by kernel_rfl) (by kernel_rfl) (by kernel_rfl) Try.underlying3 Try.underlying3 Try.underlying28 Try.underlying5 (by kernel_rfl) bO bU (hval 0 45 v0 rfl rfl) h0 (fun x hx => hlt x (by simp [hx])) (fun x hx => by
    have := List.all_eq_true.1 hsz x (DataW.weights_mem_each (j := 0) (t := 45) rfl rfl x hx)
    simpa using this)
  have hk1 : Rows.uptoBulkAll _ ≤ 1048576 := of_decide_eq_true hk
  simp only [Rows.uptoBulkAll, Rows.uptoBulk, List.cons_append, List.nil_append, List.append_nil] at hk1
  have hb1 := ops_bulk h0 hOps
  refine (frees_law v0 n f W hOps (by omega)).mono fun e W' ⟨he, hb⟩ => ⟨_, he, law_post 4 laidOut readable rfl Try.underlying4 rfl rfl hW' hb⟩
set_option maxRecDepth 100000 in
theorem lifted (os : Os) (started : os.Started) (H : Type) (enc : TypeId × Value → H) (F : Stop.Interp) :
    ReturnsInHanded {} Try.checked os 4 .any ((Rows.OpenSpec.upto Rows.walFreesSpec).pre6 enc Try.prog Try.f4 Rows.walFreesUptoRow.domain false) (((Rows.OpenSpec.upto Rows.walFreesSpec).at F).post enc Try.prog Try.f4 false true false false) := by
  refine returnsInHanded_of_cond_sized (C := Try.checked) (s := Rows.OpenSpec.upto Rows.walFreesSpec) (k := Rows.uptoSmall) rfl own started (by kernel_rfl) Try.func4
    (OpenSpec.witness (enc := enc) (C := Try.checked) (s := Rows.OpenSpec.upto Rows.walFreesSpec) (k := Rows.uptoSmall) rfl false ⟨#[], #[.slice none 0 0], []⟩ 8 (by kernel_rfl) (by kernel_rfl) (by kernel_rfl)
      (x := ([.nil], [], [])) (by kernel_rfl) rfl (by kernel_rfl)) ?_
  intro W base args ds gs before hval hW _ hk hsz _
  exact contract H enc W base args ds gs before hval hW hk hsz
theorem said : Rows.WalFreesUptoSaid :=
  OpenClaim.holds_of_cond 4 Try.f4 rfl rfl rfl rfl rfl rfl rfl ⟨rfl, rfl, rfl, rfl, rfl⟩ rfl rfl rfl rfl rfl (by kernel_rfl) Try.func4 (by kernel_rfl)
    (of_decide_eq_true (by kernel_rfl)) (by unfold Func.isWrapper; first | (rw [if_pos (by decide +kernel)]; kernel_rfl) | (rw [if_neg (by decide +kernel)]; exact ⟨rfl, rfl⟩))
    (fun os started H enc _ F => lifted os started H enc F)
end Go.Proofs.Ytcpkpljeimbdiaa.cWalFrees
