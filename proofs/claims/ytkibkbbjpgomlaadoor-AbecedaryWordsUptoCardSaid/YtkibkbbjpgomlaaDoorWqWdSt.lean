/-
  WdSt.
-/
import Derived.Test.YtkibkbbjpgomlaaDoorWqWdUpM
import Derived.Test.YtkibkbbjpgomlaaDoorWqWdAlike
import Derived.Test.YtkibkbbjpgomlaaDoorWqFstBldA
import Derived.Maps.AppendAt
import Derived.Test.YtkibkbbjpgomlaaDoorWqWdRight
namespace Go.Proofs.YtkibkbbjpgomlaaDoor.F
open Go.RowKit Go.Shelf Go.Maps
open Aid L LM
open W (putU putU_ten RdIs)
set_option linter.unusedSimpArgs false
set_option linter.unusedVariables false
attribute [local go_sem] Oper.semAt_some

theorem rd_turn {O : Nat → Prop} {b0 p : Nat} {w w' : World} {l : List Int} {x : Int} (h : RdIs b0 w p l x) (hT : Turn O w w') (h1 : ¬ O p) (h2 : ¬ O b0) : RdIs b0 w' p l x := by
  obtain ⟨hb0, v, hB, hI, hC, hn⟩ := h
  exact ⟨hb0, v, hT.blk hB h1, W.ints_kept hI hT (fun b o n c e h0 => by rw [hn b o n c e h0]; exact h2), hC, hn⟩
/-- what the loop of state keeps -/
def UpLp (wr w : World) (b0 p i K Q : Nat) (fin : Bool) (out : Int) (A : List ArcM) (t : List Int) (j : Nat) : Prop :=
  ∃ u, Blk wr K 61 #[.bool fin, .int .i64 out, u] ∧ wr.ownsRow (K + 1) 63 3 u j (rowA (A.take j)) ∧ K + 1 ≤ wr.heap.size ∧ RdIs b0 wr p (arcsB i (lastL 0 (A.take j)) (A.drop j) ++ t) 0 ∧ Turn (fun k => k = p) w wr ∧ Blk wr Q 61 #[.bool false, .int .i64 0, .slice none 0 0]
def UpStEnd (b0 p : Nat) (s : StM) (t : List Int) (w : World) (e : Ending) (w' : World) : Prop := ∃ u, e = .returned (.agg (stV s u)) ∧ ArcsAre (fun x => x < w.heap.size) w' u s.arcs ∧ RdIs b0 w' p t 0 ∧ Turn (fun k => k = p) w w'
set_option maxRecDepth 100000 in
set_option maxHeartbeats 8000000 in
theorem ustate_any (b0 p i : Nat) (s : StM) (t : List Int) (w : World) (hR : RdIs b0 w p (stB i s ++ t) 0) (hp : p < w.heap.size) (hb0 : b0 < w.heap.size) (hs : StW i s) (hi : i ≤ 98305) (hT : By t) (hl : (stB i s ++ t).length ≤ 5000000000000) :
    Calls Tryd.prog 23 #[.pointer (some ⟨p, 0, none⟩), .int .i64 i] w (UpStEnd b0 p s t w) := by
  have hlen := stB_len (by omega) hs
  obtain ⟨fin, out, A⟩ := s
  obtain ⟨q1, ⟨q2, q3⟩, q4, q5, q6⟩ := hs
  dsimp only at q1 q2 q3 q4 q5 q6 hlen
  obtain ⟨o, rfl⟩ : ∃ o : Nat, out = (o : Int) := ⟨out.toNat, by omega⟩
  obtain ⟨q, hq⟩ : ∃ q, A.length = q := ⟨_, rfl⟩
  obtain ⟨tot, htot⟩ : ∃ tot, (stB i ⟨fin, (o : Int), A⟩ ++ t).length = tot := ⟨_, rfl⟩
  have htq : 1 + 3 * q ≤ tot := by rw [← htot, List.length_append]; omega
  rw [htot] at hl
  rw [hq] at q1
  have HR := Lib.hid hR
  have HQ := Lib.hid (And.intro q5 (And.intro q6 (And.intro hq (And.intro htot (And.intro hT q4)))))
  clear hR q4 q5 q6 hq hT hlen
  go_enter Tryd.func23, Tryd.ntmps23
  obtain ⟨Q, hQ⟩ : ∃ Q, w.heap.size = Q := ⟨_, rfl⟩
  obtain ⟨W1, hW1⟩ : ∃ W1, w.alloc (.cells #[.bool false, .int .i64 0, .slice none 0 0] 61) = W1 := ⟨_, rfl⟩
  have hb1 : Below w.heap.size w W1 := by rw [← hW1]; exact (Below.refl _ _).alloc (Nat.le_refl _) _
  have bQ : Blk W1 Q 61 #[.bool false, .int .i64 0, .slice none 0 0] := by rw [← hW1, ← hQ]; exact Blk.alloc_new _ _ _
  have hs1 : W1.heap.size = Q + 1 := by rw [← hW1, ← hQ]; simp
  have HR1 := Lib.hid (rd_turn (O := fun _ => False) HR.out (Turn.of_below hb1) id id)
  have HB1 := Lib.hid (And.intro hb1 bQ)
  clear hb1 bQ htot
  cases fin with
  | true =>
    go_wp2_with fail
    refine (left_any b0 p _ 0 W1 HR1.out).mono ?_
    rintro e w1 ⟨rfl, rfl⟩
    rw [HQ.out.2.2.2.1]
    obtain ⟨nn, hnn⟩ : ∃ nn, 2 * q + 1 = nn := ⟨_, rfl⟩
    have hbytes : stB i ⟨true, (o : Int), A⟩ ++ t = putU nn ++ (putU o ++ (arcsB i 0 A ++ t)) := by
      unfold stB headB
      rw [if_pos rfl]
      dsimp only
      rw [HQ.out.2.2.1, hnn, show ((o : Nat) : Int).toNat = o by omega]
      simp
    have hR1 := HR1.out
    rw [hbytes] at hR1
    have HU := Lib.hid (uint_put b0 p nn (putU o ++ (arcsB i 0 A ++ t)) (2 * (tot : Int) + 1) w1 hR1 ((by_put _).app ((arcsB_by i A 0).app HQ.out.2.2.2.2.1)) (by omega) (by omega))
    clear hbytes hR1 HR1
    go_wp2_with fail
    refine HU.out.mono ?_
    rintro e w2 ⟨rfl, hR2, hT2⟩
    have hmod2 : (nn : Int) % 2 = 1 := by omega
    have hmod : (nn : Int).tmod 2 = 1 := by rw [Int.tmod_eq_emod_of_nonneg (by omega)]; exact hmod2
    have hdiv : (nn : Int).tdiv 2 = (q : Int) := by rw [Int.tdiv_eq_ediv_of_nonneg (by omega)]; omega
    have hdiv2 : (nn : Int) / 2 = (q : Int) := by omega
    obtain ⟨K, hK⟩ : ∃ K, w2.heap.size = K := ⟨_, rfl⟩
    obtain ⟨W3, hW3⟩ : ∃ W3, w2.alloc (.cells #[.bool true, .int .i64 0, .slice none 0 0] 61) = W3 := ⟨_, rfl⟩
    have hb3 : Below w2.heap.size w2 W3 := by rw [← hW3]; exact (Below.refl _ _).alloc (Nat.le_refl _) _
    have bK : Blk W3 K 61 #[.bool true, .int .i64 0, .slice none 0 0] := by rw [← hW3, ← hK]; exact Blk.alloc_new _ _ _
    have hR3 := rd_turn (O := fun _ => False) hR2 (Turn.of_below hb3) id id
    obtain ⟨hb1, bQ⟩ := HB1.out
    have hQl := bQ.lt
    have hpQ : p ≠ Q := by omega
    have hT1 : Turn (fun k => k = p) w w1 := Turn.of_below hb1
    have hT3 : Turn (fun k => k = p) w W3 := (hT1.trans hT2 (fun _ _ h => h)).trans (Turn.of_below (O := fun k => k = p) hb3) (fun _ _ h => h)
    have bQ3 : Blk W3 Q 61 #[.bool false, .int .i64 0, .slice none 0 0] := (hT2.blk bQ (fun e => hpQ e.symm)).below hb3 (by rw [hK]; have := hT2.size; omega)
    have hKp : Q + 1 ≤ K := by rw [← hK, ← hs1]; exact hT2.size
    have k0 : W3.cell? ⟨K, 0, none⟩ = some (.bool true) := (Blk.cell bK 0).trans rfl
    have HB3 := Lib.hid (And.intro bK (And.intro hR3 (And.intro hT3 (And.intro bQ3 hKp))))
    have HW3 := Lib.hid hW3
    have HK := Lib.hid hK
    clear hb3 bK hR3 hT3 bQ3 hT1 hb1 bQ hR2 hT2 HU hQl hnn hW3 hK
    go_upto_region 3 with fail
    rw [HW3.out, HK.out]
    go_wp2_with fail
    obtain ⟨bK, hR3, hT3, bQ3, hKp⟩ := HB3.out
    refine (uint_put b0 p o (arcsB i 0 A ++ t) 1048576 W3 hR3 ((arcsB_by i A 0).app HQ.out.2.2.2.2.1) (by omega) (by omega)).mono ?_
    rintro e w4 ⟨rfl, hR4, hT4⟩
    have bK4 := hT4.blk bK (by omega)
    have bQ4 := hT4.blk bQ3 (by omega)
    have c1 : w4.cell? ⟨K, 1, none⟩ = some (.int .i64 0) := (Blk.cell bK4 1).trans rfl
    have c1f := Blk.free bK4 1
    obtain ⟨W6, hW6⟩ : ∃ W6, w4.setCell ⟨K, 1, none⟩ (.int .i64 o) = W6 := ⟨_, rfl⟩
    have hT46 : Turn (fun k => k = K) w4 W6 := by rw [← hW6]; exact W.turn_setW w4 K _
    have bK6 : Blk W6 K 61 #[.bool true, .int .i64 o, .slice none 0 0] := by rw [← hW6]; exact bK4.set 1 _
    have bQ6 := hT46.blk bQ4 (by omega)
    have hR6 := rd_turn hR4 hT46 (by omega) (by omega)
    have hT6 : Turn (fun k => k = p) w W6 := (hT3.trans hT4 (fun _ _ h => h)).trans hT46 (fun x hx h => by omega)
    have HB6 := Lib.hid (And.intro bK6 (And.intro hR6 (And.intro hT6 (And.intro bQ6 hKp))))
    clear bK hR3 hT3 bQ3 hKp hR4 hT4 bK4 bQ4 hT46 bK6 bQ6 hR6 hT6 HB3 k0
    go_upto_region 6 with fail
    try rw [hW6]
    clear c1 c1f hW6
    have hdone := True.intro
    clear hdone
    obtain ⟨bK6, hR6, hT6, bQ6, hKp⟩ := HB6.out
    have hbase : K + 1 ≤ W6.heap.size := bK6.lt
    have hst : UpLp W6 w b0 p i K Q true (o : Int) A t 0 := ⟨.slice none 0 0, bK6, World.ownsRow_nil _ _ _ _, hbase, hR6, hT6, bQ6⟩
    have HST := Lib.hid hst
    clear bK6 hR6 hT6 bQ6 hbase hst HB6 hmod hmod2
    go_wp2_with fail
    go_loopw [7, 30] (fun x7 x30 wr => ∃ j : Nat, x30 = .int .i64 j ∧ j ≤ q ∧ x7 = .int .i32 (lastL 0 (A.take j)) ∧ Hid (UpLp wr w b0 p i K Q true (o : Int) A t j)) (fun _ x30 _ => q - (intOf x30).toNat)
    case atStart => exact ⟨0, rfl, Nat.zero_le _, rfl, HST⟩
    case round =>
      clear HST
      obtain ⟨j, rfl, hj, rfl, HL⟩ := hrel
      by_cases hjl : (j : Int) < (q : Int)
      · obtain ⟨y, hy⟩ : ∃ y, A[j]? = some y := ⟨_, List.getElem?_eq_getElem (by have := HQ.out.2.2.1; omega)⟩
        obtain ⟨q5, q6, hq, _, hT, _⟩ := HQ.out
        obtain ⟨lb1, lb2⟩ := q5.le (s := ⟨true, (o : Int), A⟩) (fun a ha => (q6 a ha).1.1) hy
        obtain ⟨⟨y1, y2⟩, ⟨y3, y4⟩, y5, y6⟩ := q6 y (List.mem_of_getElem? hy)
        dsimp only at lb1 lb2
        obtain ⟨u, bKr, hrow, hbse, hRr, hTr, bQr⟩ := HL.out
        have hdr : A.drop j = y :: A.drop (j + 1) := by
          obtain ⟨h1, h2⟩ := List.getElem?_eq_some_iff.1 hy
          rw [List.drop_eq_getElem_cons h1, h2]
        have hlastA : lastL 0 (A.take (j + 1)) = y.label := by rw [take_snoc hy, lastL_snoc]
        have hrowA : rowA (A.take (j + 1)) = rowA (A.take j) ++ (arcV y).toList := by rw [take_snoc hy, rowA_snoc]
        obtain ⟨lab, hlab⟩ : ∃ lab, lastL 0 (A.take j) = lab := ⟨_, rfl⟩
        rw [hdr, hlab] at hRr
        rw [hlab] at lb1 lb2 ⊢
        obtain ⟨la, ou, tt⟩ := y
        dsimp only at y1 y2 y3 y4 y5 y6 lb2 hlastA
        obtain ⟨dl, hdl⟩ : ∃ dl : Nat, la - lab = (dl : Int) := ⟨(la - lab).toNat, by omega⟩
        obtain ⟨on, rfl⟩ : ∃ on : Nat, ou = (on : Int) := ⟨ou.toNat, by omega⟩
        obtain ⟨by_, hby⟩ : ∃ by_ : Nat, (i : Int) - tt = (by_ : Int) := ⟨((i : Int) - tt).toNat, by omega⟩
        have hbytes : arcsB i lab (⟨la, (on : Int), tt⟩ :: A.drop (j + 1)) ++ t = putU dl ++ (putU on ++ (putU by_ ++ (arcsB i la (A.drop (j + 1)) ++ t))) := by
          rw [arcsB]
          unfold arcB
          dsimp only
          rw [hdl, hby, show ((dl : Nat) : Int).toNat = dl by omega, show ((on : Nat) : Int).toNat = on by omega, show ((by_ : Nat) : Int).toNat = by_ by omega]
          simp
        rw [hbytes] at hRr
        have hbT : By (arcsB i la (A.drop (j + 1)) ++ t) := (arcsB_by i _ la).app hT
        have hd1 : dl ≤ 1114111 := by omega
        have hd2 : by_ ≤ 98305 := by omega
        have hpK : p ≠ K := by omega
        have hpw : p < wr.heap.size := by have := hTr.size; omega
        have HU1 := Lib.hid (uint_put b0 p dl (putU on ++ (putU by_ ++ (arcsB i la (A.drop (j + 1)) ++ t))) 1114111 wr hRr ((by_put _).app ((by_put _).app hbT)) (by omega) (by omega))
        have hi1 : IntKind.i32.wrap (dl : Int) = (dl : Int) := IntWalk.i32_in _ (by omega)
        have hi2 : IntKind.i32.wrap (lab + (dl : Int)) = la := by rw [show lab + (dl : Int) = la by omega]; exact IntWalk.i32_in _ (by omega)
        have hi3 : wrap64 ((i : Int) - (by_ : Int)) = tt := by rw [show (i : Int) - (by_ : Int) = tt by omega]; exact IntWalk.wrap64_in _ (by omega)
        have hi4 : (i : Int) - (by_ : Int) = tt := by omega
        have HLR := Lib.hid (And.intro bKr (And.intro hrow (And.intro hbse (And.intro hTr (And.intro bQr (And.intro hbT (And.intro hlastA (And.intro hrowA hlab))))))))
        have hj0 : (0 : Int) ≤ (j : Int) := by omega
        clear hy q5 q6 hq hT bKr hrow hbse hRr hTr bQr hdr hlastA hrowA hlab hdl hby hbytes hbT HL y5 y6
        go_wp2_with fail
        refine HU1.out.mono ?_
        rintro e wa ⟨rfl, hRa, hTa⟩
        go_wp2_with fail
        refine (uint_put b0 p on (putU by_ ++ (arcsB i la (A.drop (j + 1)) ++ t)) 1048576 wa hRa ((by_put _).app HLR.out.2.2.2.2.2.1) (by omega) (by omega)).mono ?_
        rintro e wb ⟨rfl, hRb, hTb⟩
        go_wp2_with fail
        refine (uint_put b0 p by_ (arcsB i la (A.drop (j + 1)) ++ t) 98305 wb hRb HLR.out.2.2.2.2.2.1 (by omega) (by omega)).mono ?_
        rintro e wc ⟨rfl, hRc, hTc⟩
        go_wp2_with fail
        refine (W.err_any b0 p _ 0 wc hRc).mono ?_
        rintro e wd ⟨rfl, rfl⟩
        go_upto_region 12 with fail
        obtain ⟨bKr, hrow, hbse, hTr, bQr, hbT, hlastA, hrowA, hlab⟩ := HLR.out
        have hTd : Turn (fun k => k = p) wr wd := (hTa.trans hTb (fun _ _ h => h)).trans hTc (fun _ _ h => h)
        have bKd := hTd.blk bKr (by omega)
        have hsd := hTd.size
        have hlt0 : (A.take j).length = j := by rw [List.length_take]; have := HQ.out.2.2.1; omega
        have hrowd := owns_kept hrow (fun x hx => hTd.kept x (hrow.lt x hx).2 (by have := (hrow.lt x hx).1; omega))
        obtain ⟨ua, uc, rfl⟩ := owns_shape hrow
        have d2 : wd.cell? ⟨K, 2, none⟩ = some (.slice ua j uc) := (Blk.cell bKd 2).trans rfl
        have hb7 : Below wd.heap.size wd (wd.alloc (.cells #[.int .i32 la, .int .i64 on, .int .i64 tt] 63)) := (Below.refl _ _).alloc (Nat.le_refl _) _
        have own7 := owns_below hrowd hb7
        have b7 : Blk (wd.alloc (.cells #[.int .i32 la, .int .i64 on, .int .i64 tt] 63)) wd.heap.size 63 #[.int .i32 la, .int .i64 on, .int .i64 tt] := Blk.alloc_new _ _ _
        have hs7 : (wd.alloc (.cells #[.int .i32 la, .int .i64 on, .int .i64 tt] 63)).heap.size = wd.heap.size + 1 := by simp
        obtain ⟨i0, z0, hi0, hz0, hsz0, hby0, hzs0⟩ := info_arc
        obtain ⟨u8, W8, hr8, own8, grow8, _, new8⟩ := run_append_own_at (P := Tryd.prog) (wd.alloc (.cells #[.int .i32 la, .int .i64 on, .int .i64 tt] 63)) (K + 1) 59 59 63 i0 z0 3 24 Tryd.underlying59 hi0 hz0 hsz0 hby0 hzs0 (by decide) (.slice ua j uc) j (rowA (A.take j)) own7 ⟨wd.heap.size, 0, none⟩ 1 1 [.int .i32 la, .int .i64 on, .int .i64 tt] rfl
          (World.news_of_block b7) (by intro y hy; simp at hy; rcases hy with rfl | rfl | rfl <;> rfl) (by unfold maxLen; omega) (by omega) (by omega)
        obtain ⟨va, vc, rfl⟩ := owns_shape own8
        have hT7 : Turn (fun _ => False) wd (wd.alloc (.cells #[.int .i32 la, .int .i64 on, .int .i64 tt] 63)) := Turn.of_below hb7
        have hT8 : Turn (fun k => K + 1 ≤ k) (wd.alloc (.cells #[.int .i32 la, .int .i64 on, .int .i64 tt] 63)) W8 := ⟨grow8.size, grow8.os, grow8.tape, grow8.output, fun x hx hn => grow8.block x hx (fun e => hn (own7.lt x e.symm).1)⟩
        have hTd8 : Turn (fun k => K + 1 ≤ k) wd W8 := (hT7.more (fun _ _ h => h.elim)).trans hT8 (fun _ _ h => h)
        have bK8 := hTd8.blk bKd (by omega)
        have e2 : W8.cell? ⟨K, 2, none⟩ = some (.slice ua j uc) := (Blk.cell bK8 2).trans rfl
        have e2f : W8.frozen? ⟨K, 2, none⟩ = false := Blk.free bK8 2
        obtain ⟨W9, hW9⟩ : ∃ W9, W8.setCell ⟨K, 2, none⟩ (.slice va (j + 1) vc) = W9 := ⟨_, rfl⟩
        have hT9 : Turn (fun k => k = K) W8 W9 := by rw [← hW9]; exact W.turn_setW W8 K _
        have bK9 : Blk W9 K 61 #[.bool true, .int .i64 (o : Int), .slice va (j + 1) vc] := by rw [← hW9]; exact bK8.set 2 _
        have own9 : W9.ownsRow (K + 1) 63 3 (.slice va (j + 1) vc) (j + 1) (rowA (A.take (j + 1))) := by rw [hrowA]; exact owns_kept own8 (fun x hx => hT9.kept x (own8.lt x hx).2 (by have := (own8.lt x hx).1; omega))
        have hnew : UpLp W9 w b0 p i K Q true (o : Int) A t (j + 1) := by
          refine ⟨_, bK9, own9, ?_, ?_, ?_, ?_⟩
          · have := bK9.lt; omega
          · rw [hlastA]; exact rd_turn (rd_turn hRc hTd8 (by omega) (by omega)) hT9 (by omega) (by omega)
          · exact (hTr.trans hTd (fun _ _ h => h)).trans ((hTd8.more (O' := fun k => K ≤ k) (fun x _ h => by omega)).trans hT9 (fun x _ h => by omega)) (fun x hx h => by omega)
          · exact hT9.blk (hTd8.blk (hTd.blk bQr (by omega)) (by omega)) (by omega)
        have HNW := Lib.hid hnew
        have hla : lastL 0 (A.take (j + 1)) = la := hlastA
        have hjq : j + 1 ≤ q := by omega
        clear bKr hrow hbse hTr bQr hbT hlastA hrowA hlab hTd bKd hlt0 hrowd hb7 own7 b7 hs7 own8 grow8 new8 hT7 hT8 hTd8 bK8 hT9 bK9 own9 hnew hRa hTa hRb hTb hRc hTc hsd HLR HU1 
        go_wp2_with (at_builtin; refine wpList_append_run _ (by rfl) _ _ _ rfl _ _ rfl rfl _ _ hr8 ?_)
        refine ⟨⟨j + 1, by first | rfl | simp, hjq, by rw [hla], HNW⟩, ?_⟩
        simp only [intOf]; omega
      · have hjq : j = q := by omega
        subst hjq
        obtain ⟨u, bKr, hrow, hbse, hRr, hTr, bQr⟩ := HL.out
        have htk : A.take j = A := List.take_of_length_le (by have := HQ.out.2.2.1; omega)
        have hdk : A.drop j = [] := List.drop_eq_nil_of_le (by have := HQ.out.2.2.1; omega)
        rw [htk] at hrow hRr ⊢
        rw [hdk] at hRr
        obtain ⟨ua, uc, rfl⟩ := owns_shape hrow
        have k0 : wr.cell? ⟨K, 0, none⟩ = some (.bool true) := (Blk.cell bKr 0).trans rfl
        have k1 : wr.cell? ⟨K, 0 + 1, none⟩ = some (.int .i64 (o : Int)) := (Blk.cell bKr 1).trans rfl
        have k2 : wr.cell? ⟨K, 0 + 2, none⟩ = some (.slice ua j uc) := (Blk.cell bKr 2).trans rfl
        have kk := three_cells k0 k1 k2
        have r0 : wr.cell? ⟨Q, 0, none⟩ = some (.bool false) := (Blk.cell bQr 0).trans rfl
        have r1 : wr.cell? ⟨Q, 0 + 1, none⟩ = some (.int .i64 0) := (Blk.cell bQr 1).trans rfl
        have r2 : wr.cell? ⟨Q, 0 + 2, none⟩ = some (.slice none 0 0) := (Blk.cell bQr 2).trans rfl
        have f0 := Blk.free bQr 0
        have f1 := Blk.free bQr 1
        have f2 := Blk.free bQr 2
        have HLR := Lib.hid (And.intro hrow (And.intro hbse (And.intro hRr (And.intro hTr bQr))))
        clear bKr hrow hbse hRr hTr bQr htk hdk HL
        go_wp2_with fail
        obtain ⟨hrow, hbse, hRr, hTr, bQr⟩ := HLR.out
        have hjl := HQ.out.2.2.1
        rw [← hjl] at hrow ⊢
        refine bodyPost_ret (results_cellN rfl _ _ Q rfl _ _ (((bQr.set 0 _).set 1 _).set 2 _) _ Tryd.underlying61 rfl (by kernel_rfl)) rfl ?_
        obtain ⟨X1, hX1⟩ : ∃ X1, wr.setCell ⟨Q, 0, none⟩ (.bool true) = X1 := ⟨_, rfl⟩
        have t1 : Turn (fun k => k = Q) wr X1 := by rw [← hX1]; exact W.turn_setW wr Q _
        rw [hX1]
        obtain ⟨X2, hX2⟩ : ∃ X2, X1.setCell ⟨Q, 1, none⟩ (.int .i64 (o : Int)) = X2 := ⟨_, rfl⟩
        have t2 : Turn (fun k => k = Q) X1 X2 := by rw [← hX2]; exact W.turn_setW X1 Q _
        rw [hX2]
        obtain ⟨X3, hX3⟩ : ∃ X3, X2.setCell ⟨Q, 2, none⟩ (.slice ua A.length uc) = X3 := ⟨_, rfl⟩
        have t3 : Turn (fun k => k = Q) X2 X3 := by rw [← hX3]; exact W.turn_setW X2 Q _
        rw [hX3]
        have t4 := (t1.trans t2 (fun _ _ h => h)).trans t3 (fun _ _ h => h)
        have hou : (o : Int) = (o : Int) := rfl
        refine ⟨_, by rw [hou]; rfl, arcs_own (owns_kept hrow (fun x hx => t4.kept x (hrow.lt x hx).2 (by have := (hrow.lt x hx).1; omega))) (by show A.length ≤ 1000000; omega) (fun x hx h => by have := (hrow.lt x hx).1; omega), ?_, hTr.trans t4 (fun x hx h => by omega)⟩
        have := rd_turn hRr t4 hpQ (by omega)
        rw [arcsB] at this
        exact this
  | false =>
    go_wp2_with fail
    refine (left_any b0 p _ 0 W1 HR1.out).mono ?_
    rintro e w1 ⟨rfl, rfl⟩
    rw [HQ.out.2.2.2.1]
    obtain ⟨nn, hnn⟩ : ∃ nn, 2 * q = nn := ⟨_, rfl⟩
    have hbytes : stB i ⟨false, (o : Int), A⟩ ++ t = putU nn ++ (arcsB i 0 A ++ t) := by
      unfold stB headB
      rw [if_neg (by simp)]
      dsimp only
      rw [HQ.out.2.2.1, hnn]
      simp
    have hR1 := HR1.out
    rw [hbytes] at hR1
    have HU := Lib.hid (uint_put b0 p nn (arcsB i 0 A ++ t) (2 * (tot : Int) + 1) w1 hR1 ((arcsB_by i A 0).app HQ.out.2.2.2.2.1) (by omega) (by omega))
    clear hbytes hR1 HR1
    go_wp2_with fail
    refine HU.out.mono ?_
    rintro e w2 ⟨rfl, hR2, hT2⟩
    have hmod2 : (nn : Int) % 2 = 0 := by omega
    have hmod : (nn : Int).tmod 2 = 0 := by rw [Int.tmod_eq_emod_of_nonneg (by omega)]; exact hmod2
    have hdiv : (nn : Int).tdiv 2 = (q : Int) := by rw [Int.tdiv_eq_ediv_of_nonneg (by omega)]; omega
    have hdiv2 : (nn : Int) / 2 = (q : Int) := by omega
    obtain ⟨K, hK⟩ : ∃ K, w2.heap.size = K := ⟨_, rfl⟩
    obtain ⟨W3, hW3⟩ : ∃ W3, w2.alloc (.cells #[.bool false, .int .i64 0, .slice none 0 0] 61) = W3 := ⟨_, rfl⟩
    have hb3 : Below w2.heap.size w2 W3 := by rw [← hW3]; exact (Below.refl _ _).alloc (Nat.le_refl _) _
    have bK : Blk W3 K 61 #[.bool false, .int .i64 0, .slice none 0 0] := by rw [← hW3, ← hK]; exact Blk.alloc_new _ _ _
    have hR3 := rd_turn (O := fun _ => False) hR2 (Turn.of_below hb3) id id
    obtain ⟨hb1, bQ⟩ := HB1.out
    have hQl := bQ.lt
    have hpQ : p ≠ Q := by omega
    have hT1 : Turn (fun k => k = p) w w1 := Turn.of_below hb1
    have hT3 : Turn (fun k => k = p) w W3 := (hT1.trans hT2 (fun _ _ h => h)).trans (Turn.of_below (O := fun k => k = p) hb3) (fun _ _ h => h)
    have bQ3 : Blk W3 Q 61 #[.bool false, .int .i64 0, .slice none 0 0] := (hT2.blk bQ (fun e => hpQ e.symm)).below hb3 (by rw [hK]; have := hT2.size; omega)
    have hKp : Q + 1 ≤ K := by rw [← hK, ← hs1]; exact hT2.size
    have k0 : W3.cell? ⟨K, 0, none⟩ = some (.bool false) := (Blk.cell bK 0).trans rfl
    have HB3 := Lib.hid (And.intro bK (And.intro hR3 (And.intro hT3 (And.intro bQ3 hKp))))
    have HW3 := Lib.hid hW3
    have HK := Lib.hid hK
    clear hb3 bK hR3 hT3 bQ3 hT1 hb1 bQ hR2 hT2 HU hQl hnn hW3 hK
    go_upto_region 3 with fail
    rw [HW3.out, HK.out]
    go_wp2_with fail
    have HB6 := HB3
    clear HB3 k0
    have hdone := True.intro
    clear hdone
    obtain ⟨bK6, hR6, hT6, bQ6, hKp⟩ := HB6.out
    have hbase : K + 1 ≤ W3.heap.size := bK6.lt
    have hst : UpLp W3 w b0 p i K Q false 0 A t 0 := ⟨.slice none 0 0, bK6, World.ownsRow_nil _ _ _ _, hbase, hR6, hT6, bQ6⟩
    have HST := Lib.hid hst
    clear bK6 hR6 hT6 bQ6 hbase hst HB6 hmod hmod2
    go_wp2_with fail
    go_loopw [7, 30] (fun x7 x30 wr => ∃ j : Nat, x30 = .int .i64 j ∧ j ≤ q ∧ x7 = .int .i32 (lastL 0 (A.take j)) ∧ Hid (UpLp wr w b0 p i K Q false 0 A t j)) (fun _ x30 _ => q - (intOf x30).toNat)
    case atStart => exact ⟨0, rfl, Nat.zero_le _, rfl, HST⟩
    case round =>
      clear HST
      obtain ⟨j, rfl, hj, rfl, HL⟩ := hrel
      by_cases hjl : (j : Int) < (q : Int)
      · obtain ⟨y, hy⟩ : ∃ y, A[j]? = some y := ⟨_, List.getElem?_eq_getElem (by have := HQ.out.2.2.1; omega)⟩
        obtain ⟨q5, q6, hq, _, hT, _⟩ := HQ.out
        obtain ⟨lb1, lb2⟩ := q5.le (s := ⟨false, (o : Int), A⟩) (fun a ha => (q6 a ha).1.1) hy
        obtain ⟨⟨y1, y2⟩, ⟨y3, y4⟩, y5, y6⟩ := q6 y (List.mem_of_getElem? hy)
        dsimp only at lb1 lb2
        obtain ⟨u, bKr, hrow, hbse, hRr, hTr, bQr⟩ := HL.out
        have hdr : A.drop j = y :: A.drop (j + 1) := by
          obtain ⟨h1, h2⟩ := List.getElem?_eq_some_iff.1 hy
          rw [List.drop_eq_getElem_cons h1, h2]
        have hlastA : lastL 0 (A.take (j + 1)) = y.label := by rw [take_snoc hy, lastL_snoc]
        have hrowA : rowA (A.take (j + 1)) = rowA (A.take j) ++ (arcV y).toList := by rw [take_snoc hy, rowA_snoc]
        obtain ⟨lab, hlab⟩ : ∃ lab, lastL 0 (A.take j) = lab := ⟨_, rfl⟩
        rw [hdr, hlab] at hRr
        rw [hlab] at lb1 lb2 ⊢
        obtain ⟨la, ou, tt⟩ := y
        dsimp only at y1 y2 y3 y4 y5 y6 lb2 hlastA
        obtain ⟨dl, hdl⟩ : ∃ dl : Nat, la - lab = (dl : Int) := ⟨(la - lab).toNat, by omega⟩
        obtain ⟨on, rfl⟩ : ∃ on : Nat, ou = (on : Int) := ⟨ou.toNat, by omega⟩
        obtain ⟨by_, hby⟩ : ∃ by_ : Nat, (i : Int) - tt = (by_ : Int) := ⟨((i : Int) - tt).toNat, by omega⟩
        have hbytes : arcsB i lab (⟨la, (on : Int), tt⟩ :: A.drop (j + 1)) ++ t = putU dl ++ (putU on ++ (putU by_ ++ (arcsB i la (A.drop (j + 1)) ++ t))) := by
          rw [arcsB]
          unfold arcB
          dsimp only
          rw [hdl, hby, show ((dl : Nat) : Int).toNat = dl by omega, show ((on : Nat) : Int).toNat = on by omega, show ((by_ : Nat) : Int).toNat = by_ by omega]
          simp
        rw [hbytes] at hRr
        have hbT : By (arcsB i la (A.drop (j + 1)) ++ t) := (arcsB_by i _ la).app hT
        have hd1 : dl ≤ 1114111 := by omega
        have hd2 : by_ ≤ 98305 := by omega
        have hpK : p ≠ K := by omega
        have hpw : p < wr.heap.size := by have := hTr.size; omega
        have HU1 := Lib.hid (uint_put b0 p dl (putU on ++ (putU by_ ++ (arcsB i la (A.drop (j + 1)) ++ t))) 1114111 wr hRr ((by_put _).app ((by_put _).app hbT)) (by omega) (by omega))
        have hi1 : IntKind.i32.wrap (dl : Int) = (dl : Int) := IntWalk.i32_in _ (by omega)
        have hi2 : IntKind.i32.wrap (lab + (dl : Int)) = la := by rw [show lab + (dl : Int) = la by omega]; exact IntWalk.i32_in _ (by omega)
        have hi3 : wrap64 ((i : Int) - (by_ : Int)) = tt := by rw [show (i : Int) - (by_ : Int) = tt by omega]; exact IntWalk.wrap64_in _ (by omega)
        have hi4 : (i : Int) - (by_ : Int) = tt := by omega
        have HLR := Lib.hid (And.intro bKr (And.intro hrow (And.intro hbse (And.intro hTr (And.intro bQr (And.intro hbT (And.intro hlastA (And.intro hrowA hlab))))))))
        have hj0 : (0 : Int) ≤ (j : Int) := by omega
        clear hy q5 q6 hq hT bKr hrow hbse hRr hTr bQr hdr hlastA hrowA hlab hdl hby hbytes hbT HL y5 y6
        go_wp2_with fail
        refine HU1.out.mono ?_
        rintro e wa ⟨rfl, hRa, hTa⟩
        go_wp2_with fail
        refine (uint_put b0 p on (putU by_ ++ (arcsB i la (A.drop (j + 1)) ++ t)) 1048576 wa hRa ((by_put _).app HLR.out.2.2.2.2.2.1) (by omega) (by omega)).mono ?_
        rintro e wb ⟨rfl, hRb, hTb⟩
        go_wp2_with fail
        refine (uint_put b0 p by_ (arcsB i la (A.drop (j + 1)) ++ t) 98305 wb hRb HLR.out.2.2.2.2.2.1 (by omega) (by omega)).mono ?_
        rintro e wc ⟨rfl, hRc, hTc⟩
        go_wp2_with fail
        refine (W.err_any b0 p _ 0 wc hRc).mono ?_
        rintro e wd ⟨rfl, rfl⟩
        go_upto_region 12 with fail
        obtain ⟨bKr, hrow, hbse, hTr, bQr, hbT, hlastA, hrowA, hlab⟩ := HLR.out
        have hTd : Turn (fun k => k = p) wr wd := (hTa.trans hTb (fun _ _ h => h)).trans hTc (fun _ _ h => h)
        have bKd := hTd.blk bKr (by omega)
        have hsd := hTd.size
        have hlt0 : (A.take j).length = j := by rw [List.length_take]; have := HQ.out.2.2.1; omega
        have hrowd := owns_kept hrow (fun x hx => hTd.kept x (hrow.lt x hx).2 (by have := (hrow.lt x hx).1; omega))
        obtain ⟨ua, uc, rfl⟩ := owns_shape hrow
        have d2 : wd.cell? ⟨K, 2, none⟩ = some (.slice ua j uc) := (Blk.cell bKd 2).trans rfl
        have hb7 : Below wd.heap.size wd (wd.alloc (.cells #[.int .i32 la, .int .i64 on, .int .i64 tt] 63)) := (Below.refl _ _).alloc (Nat.le_refl _) _
        have own7 := owns_below hrowd hb7
        have b7 : Blk (wd.alloc (.cells #[.int .i32 la, .int .i64 on, .int .i64 tt] 63)) wd.heap.size 63 #[.int .i32 la, .int .i64 on, .int .i64 tt] := Blk.alloc_new _ _ _
        have hs7 : (wd.alloc (.cells #[.int .i32 la, .int .i64 on, .int .i64 tt] 63)).heap.size = wd.heap.size + 1 := by simp
        obtain ⟨i0, z0, hi0, hz0, hsz0, hby0, hzs0⟩ := info_arc
        obtain ⟨u8, W8, hr8, own8, grow8, _, new8⟩ := run_append_own_at (P := Tryd.prog) (wd.alloc (.cells #[.int .i32 la, .int .i64 on, .int .i64 tt] 63)) (K + 1) 59 59 63 i0 z0 3 24 Tryd.underlying59 hi0 hz0 hsz0 hby0 hzs0 (by decide) (.slice ua j uc) j (rowA (A.take j)) own7 ⟨wd.heap.size, 0, none⟩ 1 1 [.int .i32 la, .int .i64 on, .int .i64 tt] rfl
          (World.news_of_block b7) (by intro y hy; simp at hy; rcases hy with rfl | rfl | rfl <;> rfl) (by unfold maxLen; omega) (by omega) (by omega)
        obtain ⟨va, vc, rfl⟩ := owns_shape own8
        have hT7 : Turn (fun _ => False) wd (wd.alloc (.cells #[.int .i32 la, .int .i64 on, .int .i64 tt] 63)) := Turn.of_below hb7
        have hT8 : Turn (fun k => K + 1 ≤ k) (wd.alloc (.cells #[.int .i32 la, .int .i64 on, .int .i64 tt] 63)) W8 := ⟨grow8.size, grow8.os, grow8.tape, grow8.output, fun x hx hn => grow8.block x hx (fun e => hn (own7.lt x e.symm).1)⟩
        have hTd8 : Turn (fun k => K + 1 ≤ k) wd W8 := (hT7.more (fun _ _ h => h.elim)).trans hT8 (fun _ _ h => h)
        have bK8 := hTd8.blk bKd (by omega)
        have e2 : W8.cell? ⟨K, 2, none⟩ = some (.slice ua j uc) := (Blk.cell bK8 2).trans rfl
        have e2f : W8.frozen? ⟨K, 2, none⟩ = false := Blk.free bK8 2
        obtain ⟨W9, hW9⟩ : ∃ W9, W8.setCell ⟨K, 2, none⟩ (.slice va (j + 1) vc) = W9 := ⟨_, rfl⟩
        have hT9 : Turn (fun k => k = K) W8 W9 := by rw [← hW9]; exact W.turn_setW W8 K _
        have bK9 : Blk W9 K 61 #[.bool false, .int .i64 0, .slice va (j + 1) vc] := by rw [← hW9]; exact bK8.set 2 _
        have own9 : W9.ownsRow (K + 1) 63 3 (.slice va (j + 1) vc) (j + 1) (rowA (A.take (j + 1))) := by rw [hrowA]; exact owns_kept own8 (fun x hx => hT9.kept x (own8.lt x hx).2 (by have := (own8.lt x hx).1; omega))
        have hnew : UpLp W9 w b0 p i K Q false 0 A t (j + 1) := by
          refine ⟨_, bK9, own9, ?_, ?_, ?_, ?_⟩
          · have := bK9.lt; omega
          · rw [hlastA]; exact rd_turn (rd_turn hRc hTd8 (by omega) (by omega)) hT9 (by omega) (by omega)
          · exact (hTr.trans hTd (fun _ _ h => h)).trans ((hTd8.more (O' := fun k => K ≤ k) (fun x _ h => by omega)).trans hT9 (fun x _ h => by omega)) (fun x hx h => by omega)
          · exact hT9.blk (hTd8.blk (hTd.blk bQr (by omega)) (by omega)) (by omega)
        have HNW := Lib.hid hnew
        have hla : lastL 0 (A.take (j + 1)) = la := hlastA
        have hjq : j + 1 ≤ q := by omega
        clear bKr hrow hbse hTr bQr hbT hlastA hrowA hlab hTd bKd hlt0 hrowd hb7 own7 b7 hs7 own8 grow8 new8 hT7 hT8 hTd8 bK8 hT9 bK9 own9 hnew hRa hTa hRb hTb hRc hTc hsd HLR HU1 
        go_wp2_with (at_builtin; refine wpList_append_run _ (by rfl) _ _ _ rfl _ _ rfl rfl _ _ hr8 ?_)
        refine ⟨⟨j + 1, by first | rfl | simp, hjq, by rw [hla], HNW⟩, ?_⟩
        simp only [intOf]; omega
      · have hjq : j = q := by omega
        subst hjq
        obtain ⟨u, bKr, hrow, hbse, hRr, hTr, bQr⟩ := HL.out
        have htk : A.take j = A := List.take_of_length_le (by have := HQ.out.2.2.1; omega)
        have hdk : A.drop j = [] := List.drop_eq_nil_of_le (by have := HQ.out.2.2.1; omega)
        rw [htk] at hrow hRr ⊢
        rw [hdk] at hRr
        obtain ⟨ua, uc, rfl⟩ := owns_shape hrow
        have k0 : wr.cell? ⟨K, 0, none⟩ = some (.bool false) := (Blk.cell bKr 0).trans rfl
        have k1 : wr.cell? ⟨K, 0 + 1, none⟩ = some (.int .i64 0) := (Blk.cell bKr 1).trans rfl
        have k2 : wr.cell? ⟨K, 0 + 2, none⟩ = some (.slice ua j uc) := (Blk.cell bKr 2).trans rfl
        have kk := three_cells k0 k1 k2
        have r0 : wr.cell? ⟨Q, 0, none⟩ = some (.bool false) := (Blk.cell bQr 0).trans rfl
        have r1 : wr.cell? ⟨Q, 0 + 1, none⟩ = some (.int .i64 0) := (Blk.cell bQr 1).trans rfl
        have r2 : wr.cell? ⟨Q, 0 + 2, none⟩ = some (.slice none 0 0) := (Blk.cell bQr 2).trans rfl
        have f0 := Blk.free bQr 0
        have f1 := Blk.free bQr 1
        have f2 := Blk.free bQr 2
        have HLR := Lib.hid (And.intro hrow (And.intro hbse (And.intro hRr (And.intro hTr bQr))))
        clear bKr hrow hbse hRr hTr bQr htk hdk HL
        go_wp2_with fail
        obtain ⟨hrow, hbse, hRr, hTr, bQr⟩ := HLR.out
        have hjl := HQ.out.2.2.1
        rw [← hjl] at hrow ⊢
        refine bodyPost_ret (results_cellN rfl _ _ Q rfl _ _ (((bQr.set 0 _).set 1 _).set 2 _) _ Tryd.underlying61 rfl (by kernel_rfl)) rfl ?_
        obtain ⟨X1, hX1⟩ : ∃ X1, wr.setCell ⟨Q, 0, none⟩ (.bool false) = X1 := ⟨_, rfl⟩
        have t1 : Turn (fun k => k = Q) wr X1 := by rw [← hX1]; exact W.turn_setW wr Q _
        rw [hX1]
        obtain ⟨X2, hX2⟩ : ∃ X2, X1.setCell ⟨Q, 1, none⟩ (.int .i64 0) = X2 := ⟨_, rfl⟩
        have t2 : Turn (fun k => k = Q) X1 X2 := by rw [← hX2]; exact W.turn_setW X1 Q _
        rw [hX2]
        obtain ⟨X3, hX3⟩ : ∃ X3, X2.setCell ⟨Q, 2, none⟩ (.slice ua A.length uc) = X3 := ⟨_, rfl⟩
        have t3 : Turn (fun k => k = Q) X2 X3 := by rw [← hX3]; exact W.turn_setW X2 Q _
        rw [hX3]
        have t4 := (t1.trans t2 (fun _ _ h => h)).trans t3 (fun _ _ h => h)
        have hou : (o : Int) = 0 := (HQ.out.2.2.2.2.2 trivial)
        refine ⟨_, by rw [hou]; rfl, arcs_own (owns_kept hrow (fun x hx => t4.kept x (hrow.lt x hx).2 (by have := (hrow.lt x hx).1; omega))) (by show A.length ≤ 1000000; omega) (fun x hx h => by have := (hrow.lt x hx).1; omega), ?_, hTr.trans t4 (fun x hx h => by omega)⟩
        have := rd_turn hRr t4 hpQ (by omega)
        rw [arcsB] at this
        exact this
end Go.Proofs.YtkibkbbjpgomlaaDoor.F
