/-
  SlotAgain.
-/
import Derived.Test.YtfoogbchajgepaaSloTurn
namespace Go.Proofs.Ytfoogbchajgepaa.S
open Go.RowKit
open Aid K
set_option linter.unusedSimpArgs false
set_option linter.unusedVariables false

/-- what the loop keeps -/
structure AgainIn (W0 : World) (p s i num : Nat) (now was : List Int) (st : DSt) (O : Nat → Prop) (w : World) : Prop where
  d : DiskIs O w p st
  o : ∀ k, O k → W0.heap.size ≤ k ∧ k < w.heap.size
  slot : SlotIn O w s p 1 num now
  sge : W0.heap.size ≤ s
  good : GoodS st 1073741824 1 (2 * i)
  left : st.left < 0
  cnt : num ≤ i
  pl : AgP st num now was
  below : Below W0.heap.size W0 w
theorem AgainIn.low {W0 w w' : World} {p s i num : Nat} {now was : List Int} {st : DSt} {O : Nat → Prop} (h : AgainIn W0 p s i num now was st O w) (hb : Below w.heap.size w w') : AgainIn W0 p s i num now was st O w' :=
  ⟨h.d.below hb, fun k hk => by have := h.o k hk; have := hb.size; omega, h.slot.below hb, h.sge, h.good, h.left, h.cnt, h.pl, h.below.trans (hb.mono h.below.size)⟩
theorem good_mono {st : DSt} {R a : Int} {B B' : Nat} (h : GoodS st R a B) (hb : B ≤ B') : GoodS st R a B' := ⟨h.dead, h.left, by have := h.steps; omega, h.F0, h.N, h.room, h.C, h.A, h.V⟩

set_option maxRecDepth 100000 in
set_option maxHeartbeats 8000000 in
theorem again_law (v : Value) (n : Nat) (f : Nat → Value × List Int) (sector bit : Int) (w : World) (h : ValsAre w v n f) (hsec : (Lit.int .i64 sector).wf = true) (hbit : (Lit.int .i64 bit).wf = true) :
    Calls Try.prog 3 #[v, .int .i64 sector, .int .i64 bit] w (TrueOf w) := by
  have hn := h.1
  obtain ⟨a0, cap0, hv0, hel0⟩ := h.2
  subst hv0
  have hlen : IntKind.i64.wrap (n : Int) = (n : Int) := IntWalk.i64_in _ (by omega)
  have hbit2 : -9223372036854775808 ≤ bit ∧ bit ≤ 9223372036854775807 := by
    have := hbit
    simp [Lit.wf, IntKind.min, IntKind.max, IntKind.signed, IntKind.bits] at this
    omega
  go_enter Try.func3, Try.ntmps3
  go_wp2_with fail
  refine (new_fine 1073741824 w).mono ?_
  rintro e w1 ⟨p, O, rfl, hD1, hO1, hb1⟩
  go_wp2_with fail
  refine (alive_any w1).mono ?_
  rintro e w2 ⟨rfl, hb2⟩
  have hs1 := hb1.size
  have hs2 := hb2.size
  have hop := open_new 1073741824 1
  have hG := good_new (R := 1073741824) (a := 1) (by decide)
  have hP := agp_new 1073741824
  have hl0 : (newSt 1073741824).left < 0 := by show (-1 : Int) < 0; decide
  go_wp2_with fail
  refine (open_any O p _ 1 w2 (hD1.below hb2) (fun k hk => by have := (hO1 k hk).2; omega) hG.dead (by decide) (fun i _ => .inl rfl)).mono ?_
  rintro e w3 ⟨s, rfl, hS3, ⟨hs3, hs3'⟩, hb3⟩
  rw [hop] at hS3
  have hA3 : AgainIn w p s 0 0 [] [] (newSt 1073741824) O w3 :=
    ⟨(hD1.below hb2).below hb3, fun k hk => by have := hO1 k hk; have := hb3.size; omega, hS3, by omega, hG, hl0, Nat.le_refl _, hP, (hb1.trans (hb2.mono hs1)).trans (hb3.mono (by omega))⟩
  clear hP hG hop hS3 hD1 hO1 hb1 hb2 hb3 hl0
  have hemp : strOf [] = ByteArray.empty := by decide +kernel
  go_wp2_with fail
  go_loopw [10, 11, 34] (fun x10 x11 x34 wr => ∃ (i num : Nat) (now was : List Int) (st : DSt) (O : Nat → Prop), x10 = .string (strOf was) ∧ x11 = .string (strOf now) ∧ x34 = .int .i64 i ∧ i ≤ n ∧ AgainIn w p s i num now was st O wr) (fun _ _ x34 _ => (n - intOf x34).toNat)
  case atStart => exact ⟨0, 0, [], [], _, O, rfl, rfl, rfl, by omega, hA3⟩
  case round =>
    obtain ⟨i, num, now, was, st, O, rfl, rfl, rfl, hi, hA⟩ := hrel
    by_cases hlt : (i : Int) < (n : Int)
    · have hiN : i < n := by omega
      obtain ⟨b, o, rfl, hb, hc0, hok⟩ := hel0 i hiN
      have hsr := hA.below.size
      have hc0' : wr.cell? ⟨b, o + i, none⟩ = some (f i).1 := (hA.below.cell (p := ⟨b, o + i, none⟩) hb).trans hc0
      have hok' := hok.below hA.below
      obtain ⟨x, hx⟩ : ∃ x, f i = x := ⟨_, rfl⟩
      rw [hx] at hc0' hok' hok
      obtain ⟨xv, l⟩ := x
      simp only at hc0'
      obtain ⟨va, vc, hve, _⟩ := ints_slice hok'.1
      simp only at hve
      subst hve
      have hI : Ints wr .u8 (.slice va l.length vc) l := hok'.1
      have hby : By l := hok'.2
      have hvb := Lib.hid (ints_block hok.1)
      have hn63 := hI.1
      clear hc0
      have hnext : ∀ (num' : Nat) (now' was' : List Int) (st' : DSt) (O' : Nat → Prop) (w' : World), AgainIn w p s (i + 1) num' now' was' st' O' w' → (∃ (i_1 num : Nat) (now_1 was_1 : List Int) (st : DSt) (O : Nat → Prop), Value.string (strOf was') = .string (strOf was_1) ∧ Value.string (strOf now') = .string (strOf now_1) ∧ Value.int IntKind.i64 ((i : Int) + 1) = .int .i64 (i_1 : Nat) ∧ i_1 ≤ n ∧ AgainIn w p s i_1 num now_1 was_1 st O w') ∧ ((n : Int) - intOf (.int .i64 ((i : Int) + 1))).toNat < ((n : Int) - intOf (.int .i64 (i : Int))).toNat := by
        intro num' now' was' st' O' w' hA'
        refine ⟨⟨i + 1, num', now', was', st', O', rfl, rfl, by congr 1, by omega, hA'⟩, ?_⟩
        simp [intOf]; omega
      by_cases hl48 : l.length ≤ 48
      · go_wp2_with fail
        refine (save_any O s p st 1 num now _ l wr hA.d (fun k hk => (hA.o k hk).2) hA.slot hI hby (fun b' o' n' c' e hn0 => by
          have := hvb.out b' o' n' c' e hn0
          exact ⟨fun h => by have := (hA.o b' h).1; omega, by have := hA.sge; omega⟩) hl48 (by have := hA.cnt; omega) (by decide) hA.good.dead (good_fits hA.good (by decide) (by omega))).mono ?_
        rintro e w4 ⟨O4, rfl, hD4, hS4, K4, hO4⟩
        have hdl := save_left (a := 1) (num := num) (l := l) hA.left
        have hG4 := good_save hA.good hdl.1
        have hP4 := hA.pl.save hl48 hby hdl.1
        obtain ⟨st4, hst4⟩ : ∃ st4, saveF st 1 num l = st4 := ⟨_, rfl⟩
        rw [hst4] at hD4 hS4 hdl hG4 hP4 ⊢
        rw [hdl.1] at hS4 ⊢
        have hs4 := K4.size
        have hB4 : Below w.heap.size w w4 := K4.below hA.below (by omega) (fun k hk => by
          rcases hk with h | h
          · exact (hA.o k h).1
          · have := hA.sge; omega)
        have hI4 : Ints w4 .u8 (.slice va l.length vc) l := hok.1.below hB4
        have hconv := conv_str hI4 hby
        have hconvd : ∀ k, (convert 31 9 (.slice va l.length vc)).run Try.prog (w4.drewN k) = .ok (.string (strOf l)) (w4.drewN k) := fun k => conv_str (hI4.below (below_drewN (Below.refl _ _) k)) hby
        have hA4 : AgainIn w p s (i + 1) (num + 1) l now st4 O4 w4 := by
          refine ⟨hD4, fun k hk => ?_, hS4, hA.sge, good_mono hG4 (by omega), by rw [hdl.2]; exact hA.left, by have := hA.cnt; omega, hP4, hB4⟩
          rcases hO4 k hk with h | h
          · have := hA.o k h; omega
          · omega
        go_wp2_with fail
        go_quiet (fail)
        go_wp2_with fail
        exact hnext _ _ _ _ _ _ (hA4.low (below_drewN (Below.refl _ _) nq))
      · go_wp2_with fail
        refine (save_long O s p 1 num now _ l wr hA.slot hI (by omega)).mono ?_
        rintro e w4 ⟨rfl, rfl⟩
        go_wp2_with fail
        exact hnext num now was st O w4 ⟨hA.d, hA.o, hA.slot, hA.sge, good_mono hA.good (by omega), hA.left, by have := hA.cnt; omega, hA.pl, hA.below⟩
    · have hin : i = n := by omega
      subst hin
      have hnum64 : num < 18446744073709551616 := by have := hA.cnt; omega
      have hopn := hA.pl.open_ hnum64
      clear hel0
      go_wp2_with fail
      refine (open_any O p st 1 wr hA.d (fun k hk => (hA.o k hk).2) hA.good.dead (by decide) hA.pl.c64).mono ?_
      rintro e w4 ⟨t, rfl, hS4, ⟨ht4, ht4'⟩, hb4⟩
      rw [hopn] at hS4
      have hA4 := hA.low hb4
      go_wp2_with fail
      refine (value_any O t p 1 num now w4 hS4).mono ?_
      rintro e w5 ⟨v5, rfl, ⟨hI5, _⟩, hb5⟩
      obtain ⟨a5, c5, rfl, _⟩ := ints_slice hI5
      have hconv5 := conv_str hI5 hA.pl.bn
      have hA5 := hA4.low hb5
      have hS5 := hS4.below hb5
      go_wp2_with fail
      refine (number_any O t p 1 num now w5 hS5).mono ?_
      rintro e w6 ⟨rfl, rfl⟩
      go_wp2_with fail
      refine (number_any O s p 1 num now w6 hA5.slot).mono ?_
      rintro e w6 ⟨rfl, rfl⟩
      have hsmall : (lastI st 1 sector).length ≤ 1000 := by
        by_cases e0 : sector = 0
        · subst e0
          rcases hA.pl.c64 0 (by omega) with h | h
          · have : lastI st 1 0 = [] := h
            rw [this]; decide
          · have : (lastI st 1 0).length = 64 := h
            omega
        · by_cases e1 : sector = 1
          · subst e1
            rcases hA.pl.c64 1 (by omega) with h | h
            · have : lastI st 1 1 = [] := h
              rw [this]; decide
            · have : (lastI st 1 1).length = 64 := h
              omega
          · unfold lastI; rw [hA.good.F0 sector e0 e1]; decide
      clear hconv5 hI5 hS5 hS4 hA4
      go_wp2_with fail
      refine (disk_turn O p st 1 sector w6 hA5.d (by decide) hsec hsmall).mono ?_
      rintro e w7 ⟨⟨v7, rfl, hI7, hf7⟩, hb7⟩
      have hA7 := hA5.low hb7
      have hB7 := hA7.below
      obtain ⟨a7, c7, rfl, _, hcell7⟩ := ints_slice hI7
      cases his : (st.F 1 sector).isSome with
      | false =>
        go_wp2_with fail
        go_ret
        exact ⟨rfl, hB7⟩
      | true =>
        by_cases hlo : bit < 0
        · go_wp2_with fail
          go_ret
          exact ⟨rfl, hB7⟩
        by_cases hhi : 512 ≤ bit
        · go_wp2_with fail
          go_ret
          exact ⟨rfl, hB7⟩
        obtain ⟨k, rfl⟩ : ∃ k : Nat, bit = (k : Int) := ⟨bit.toNat, by omega⟩
        have hk : k < 512 := by omega
        obtain ⟨q, rfl, hq⟩ : ∃ q : Nat, sector = (q : Int) ∧ q < 2 := by
          by_cases e0 : sector = 0
          · exact ⟨0, e0, by omega⟩
          · by_cases e1 : sector = 1
            · exact ⟨1, e1, by omega⟩
            · rw [hA.good.F0 sector e0 e1] at his; cases his
        have hne0 := hA.pl.fs _ his
        have hL64 : (lastI st 1 (q : Nat)).length = 64 := by
          rcases hA.pl.c64 q hq with h | h
          · exact absurd h hne0
          · exact h
        have hflip := Lib.hid (fun (j : Nat) (y : Int) => hA.pl.flip (i := q) (j := j) (y := y) hnum64 hq hne0)
        have hLby := lastI_by st 1 (q : Nat)
        obtain ⟨L, hL⟩ : ∃ L, lastI st 1 (q : Nat) = L := ⟨_, rfl⟩
        rw [hL] at hI7 hf7 hcell7 hL64 hflip hLby ⊢
        rw [hL64] at hI7 hf7 hcell7 ⊢
        obtain ⟨j, hj⟩ : ∃ j, k / 8 = j := ⟨_, rfl⟩
        have hj64 : j < 64 := by omega
        obtain ⟨b, o, rfl, hb7', hx⟩ := hcell7 j hj64
        obtain ⟨x, hxx⟩ : ∃ x : Nat, L.getD j 0 = (x : Int) := ⟨(L.getD j 0).toNat, by
          have := hLby (L.getD j 0) (by rw [List.getD_eq_getElem?_getD, List.getElem?_eq_getElem (by omega)]; exact List.getElem_mem _)
          omega⟩
        have hx256 : x < 256 := by
          have := hLby (L.getD j 0) (by rw [List.getD_eq_getElem?_getD, List.getElem?_eq_getElem (by omega)]; exact List.getElem_mem _)
          omega
        rw [hxx] at hx
        obtain ⟨hf71, _, hf73⟩ := hf7 b o _ c7 rfl
        have hfz := hf73 j hj64
        have hbge := hf71 (by omega)
        have HXX := Lib.hid hxx
        have HL := Lib.hid hL
        clear hcell7 hxx hL hne0
        have hd1 : (k : Int).tdiv 8 = (j : Int) := by rw [Int.tdiv_eq_ediv_of_nonneg (by omega)]; omega
        have hd2 : IntKind.i64.wrap (j : Int) = (j : Int) := IntWalk.i64_in _ (by omega)
        have hm1 : (k : Int).tmod 8 = ((k % 8 : Nat) : Int) := by rw [Int.tmod_eq_emod_of_nonneg (by omega)]; omega
        have hm2 : IntKind.i64.wrap ((k % 8 : Nat) : Int) = ((k % 8 : Nat) : Int) := IntWalk.i64_in _ (by omega)
        have hj0 : (0 : Int) ≤ (j : Int) := by omega
        have hj1 : (j : Int) < 64 := by omega
        have hj2 : ((j : Nat) : Int).toNat = j := Int.toNat_natCast j
        go_wp2_with fail
        go_still_tail 10, (by kernel_rfl)
        have hy0 : bits BinOp.xor IntKind.u8 (x : Int) (IntKind.u8.wrap (2 ^ ((k : Int) % 8).toNat)) = ((x ^^^ 2 ^ (k % 8) : Nat) : Int) := by
          have e : ((k : Int) % 8).toNat = k % 8 := by omega
          have e2 : IntKind.u8.wrap (2 ^ (k % 8)) = ((2 ^ (k % 8) : Nat) : Int) := by
            have h8 : k % 8 < 8 := by omega
            generalize k % 8 = z at h8
            have hz : z = 0 ∨ z = 1 ∨ z = 2 ∨ z = 3 ∨ z = 4 ∨ z = 5 ∨ z = 6 ∨ z = 7 := by omega
            rcases hz with rfl | rfl | rfl | rfl | rfl | rfl | rfl | rfl <;> rfl
          rw [e, e2]
          exact u8_xor_nat x (2 ^ (k % 8)) hx256 (Nat.pow_lt_pow_right (n := 8) (by decide) (by omega))
        obtain ⟨hy1, hy2⟩ := bit_turned hx256 (show k % 8 < 8 by omega)
        obtain ⟨y, hy⟩ : ∃ y, x ^^^ 2 ^ (k % 8) = y := ⟨_, rfl⟩
        rw [hy] at hy0 hy1 hy2
        rw [hy0]
        change wpList _ _ _ _ _ w7.drew
        obtain ⟨w8, hw8⟩ : ∃ w8, w7.drew = w8 := ⟨_, rfl⟩
        have hb8 : Below w7.heap.size w7 w8 := by rw [← hw8]; exact (Below.refl _ _).drew
        have hA8 := hA7.low hb8
        have hI8 := hI7.below hb8
        have hx8 : w8.cell? ⟨b, o + j, none⟩ = some (.int .u8 (x : Nat)) := (hb8.cell (p := ⟨b, o + j, none⟩) hb7').trans hx
        rw [hw8]
        have hfz8 : w8.frozen? ⟨b, o + j, none⟩ = false := by rw [← hw8]; exact hfz
        clear hx hy0 hA7
        go_wp2_with fail
        obtain ⟨w9, hw9⟩ : ∃ w9, w8.setCell ⟨b, o + j, none⟩ (.int .u8 (y : Nat)) = w9 := ⟨_, rfl⟩
        have hK9 : Keeps (fun k => k = b) w8 w9 := by rw [← hw9]; exact set_keeps (Keeps.refl _ _) rfl
        have hs9 : w9.heap.size = w8.heap.size := by rw [← hw9]; exact World.size_setCell _ _ _
        have hb6s := hA5.below.size
        have hb7s := hb7.size
        have hb8s := hb8.size
        have hbO : ¬ O b := fun h => by have := (hA5.o b h).2; omega
        have hD9 := hA8.d.keep (O' := fun k => k = b) hK9 (fun k hk e => hbO (e ▸ hk))
        have hB9 : Below w.heap.size w w9 := hK9.below hA8.below hA8.below.size (fun k hk => by omega)
        have hI9 : Ints w9 .u8 (.slice (some ⟨b, o, none⟩) 64 c7) (L.set j (y : Nat)) := by
          refine ⟨by rw [List.length_set, hL64]; decide, .inr ⟨b, o, c7, by rw [List.length_set, hL64], by omega, fun z hz => ?_⟩⟩
          rw [List.length_set, hL64] at hz
          by_cases hzj : z = j
          · subst hzj
            rw [← hw9, World.cell?_setCell_same w8 _ _ hx8]
            rw [List.getD_eq_getElem?_getD, List.getElem?_set_self (by omega)]; rfl
          · obtain ⟨a', c', e', _, hc'⟩ := ints_slice hI8
            simp only [Value.slice.injEq] at e'
            obtain ⟨b', o', e2, _, hx'⟩ := hc' z (by omega)
            rw [← e'.1] at e2
            simp only [Option.some.injEq, Addr.mk.injEq] at e2
            rw [← e2.1, ← e2.2.1] at hx'
            rw [List.getD_eq_getElem?_getD, List.getElem?_set_ne (by omega), ← List.getD_eq_getElem?_getD, ← hw9, World.cell?_setCell_other w8 _ _ _ (by intro e; simp only [Addr.mk.injEq] at e; omega)]
            exact hx'
        have hLby9 : By (L.set j (y : Nat)) := by
          intro z hz
          rcases List.mem_or_eq_of_mem_set hz with h | h
          · exact hLby z h
          · rw [h]; omega
        have hL9 : (L.set j (y : Nat)).length = 64 := by rw [List.length_set]; exact hL64
        obtain ⟨m, u, hopen, hu⟩ := hflip.out j (y : Nat) hj64 (by omega) (by rw [HXX.out]; omega)
        have hg := good_fits (n := (q : Nat)) hA.good (by decide) (by omega)
        have hlast9 : ∀ i : Nat, i < 2 → lastI (writeF st 1 (q : Nat) (L.set j (y : Nat))) 1 i = [] ∨ (lastI (writeF st 1 (q : Nat) (L.set j (y : Nat))) 1 i).length = 64 := fun i hi => by
          rw [last_write hL9 hLby9]
          split
          · exact .inr hL9
          · exact hA.pl.c64 i hi
        have hnd : (writeF st 1 (q : Nat) (L.set j (y : Nat))).dead = false := by
          rw [(write_steps st 1 (q : Nat) (L.set j (y : Nat))).2.2]
          exact decide_eq_false (by have := hA.left; omega)
        obtain ⟨L9, hL9e⟩ : ∃ L9, L.set j (y : Nat) = L9 := ⟨_, rfl⟩
        rw [hL9e] at hI9 hLby9 hL9 hopen hlast9 hnd
        have hwr := write_good O p st 1 (q : Nat) _ L9 w9 hD9 (fun k hk => by have := (hA8.o k hk).2; omega) hI9 (fun b' o' n' c' e _ hh => by
          simp only [Value.slice.injEq, Option.some.injEq, Addr.mk.injEq] at e
          rw [← e.1.1] at hh; exact hbO hh) hLby9 (by decide) hsec hA.good.dead (by omega) (by omega) (by omega) (.inl his) hg.room ⟨hg.steps.1, by have := hg.steps.2; omega⟩ hg.left (by have := hg.N; omega) hg.C hg.V
        have hOo := Lib.hid hA8.o
        have hub : By u := by
          rcases hu with rfl | rfl
          · exact hA.pl.bn
          · exact hA.pl.bw
        obtain ⟨st9, hst9⟩ : ∃ st9, writeF st 1 (q : Nat) L9 = st9 := ⟨_, rfl⟩
        rw [hst9] at hopen hlast9 hnd hwr
        unfold WriteEnd at hwr
        rw [hnd] at hwr
        rw [hw9]
        refine hwr.mono ?_
        rintro e wa ⟨rfl, Ka, Oa, Da, hOa⟩
        have hBa : Below w.heap.size w wa := Ka.below hB9 hB9.size (fun k hk => (hOo.out k hk).1)
        have HL9 := Lib.hid hlast9
        have HU := Lib.hid hu
        clear hwr hlast9 hI8 hI9 hflip hx8 hfz hfz8 hu hL9e hst9 hLby9
        go_wp2_with fail
        refine (open_any Oa p st9 1 wa Da (fun k hk => by
          rcases hOa k hk with h | h
          · have := (hOo.out k h).2; have := Ka.size; omega
          · exact h.2) hnd (by decide) HL9.out).mono ?_
        rintro e wb ⟨t2, rfl, hSb, ⟨htb, htb'⟩, hbb⟩
        rw [hopen] at hSb
        have hBb := hBa.trans (hbb.mono hBa.size)
        go_wp2_with fail
        refine (value_any Oa t2 p 1 m u wb hSb).mono ?_
        rintro e wc ⟨vc, rfl, ⟨hIc, _⟩, hbc⟩
        obtain ⟨ac, cc, rfl, _⟩ := ints_slice hIc
        have hconvc := conv_str hIc hub
        have hSc := hSb.below hbc
        have hBc := hBb.trans (hbc.mono hBb.size)
        by_cases hun : u = now
        · subst hun
          go_wp2_with fail
          go_ret
          exact ⟨rfl, hBc⟩
        · obtain rfl : u = was := by
            rcases HU.out with h | h
            · exact absurd h hun
            · exact h
          go_wp2_with fail
          · go_ret
            exact ⟨rfl, hBc⟩
          refine (value_any Oa t2 p 1 m u wc hSc).mono ?_
          rintro e wd ⟨vd, rfl, ⟨hId, _⟩, hbd⟩
          obtain ⟨ad, cd, rfl, _⟩ := ints_slice hId
          have hconvd := conv_str hId hub
          go_wp2_with fail
          go_ret
          exact ⟨rfl, hBc.trans (hbd.mono hBc.size)⟩
end Go.Proofs.Ytfoogbchajgepaa.S
