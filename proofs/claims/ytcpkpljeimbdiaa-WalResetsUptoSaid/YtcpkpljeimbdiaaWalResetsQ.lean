/-
  WalFre + WalRst + WalRsm + WalRsp + WalRes + WalResetsC.
-/
import Derived.Test.YtcpkpljeimbdiaaWalRpD
import Derived.Deep.Slices
import Derived.Deep.CondSized
import Derived.Test.YtcpkpljeimbdiaaShut
import Derived.JoinedCond
namespace Go.Proofs.Ytcpkpljeimbdiaa.W
open Go.RowKit
open Aid K
set_option linter.unusedSimpArgs false
set_option linter.unusedVariables false
theorem sorted_ints {w w' : World} {v : Value} {l : List Int} (h : QU.SortedAt w w' v l) (hl : l.length ≤ 4398046511104) : Ints w' .u64 v l := by
  rcases h with ⟨rfl, rfl⟩ | ⟨b, cap, rfl, h1, h2, h3⟩
  · exact Ints.nil _ _
  · refine ⟨by omega, .inr ⟨b, 0, cap, rfl, ?_, fun j hj => ?_⟩⟩
    · obtain ⟨rest, h3⟩ := h3; exact Blk.lt h3
    · rw [Nat.zero_add]
      refine h3.cell (by simpa using hj) ?_
      rw [getElem!_pos _ _ (by simpa using hj), List.getD_eq_getElem?_getD, List.getElem?_eq_getElem hj]
      rfl
end Go.Proofs.Ytcpkpljeimbdiaa.W
namespace Go.Proofs.Ytcpkpljeimbdiaa.W
open Go.RowKit
open Aid K
set_option linter.unusedSimpArgs false
set_option linter.unusedVariables false
noncomputable def rsF : List Int → DSt → DSt × Int
  | [], st => (st, 0)
  | a :: l, st => if a % 4 = 1 then (if doE st 2 a 0 [] ≠ 0 then (doS st 2 a 0 [], doE st 2 a 0 []) else rsF l (doS st 2 a 0 [])) else rsF l st
noncomputable def rsS (s : LSt) (st : DSt) (Y : List Int) (first : Int) : LSt × DSt × Int :=
  if (rsF Y st).2 ≠ 0 then ({ s with code := (rsF Y st).2 }, (rsF Y st).1, (rsF Y st).2) else ({ s with opn := none, old := [], L := [], first := first }, (rsF Y st).1, 0)
theorem LogAt.freed {O Q O' Q' O5 : Nat → Prop} {w wr w5 w6 : World} {g p : Nat} {s : LSt} {st st2 : DSt} {ov lv oldv : Value} {E : Int} (h : LogAt O Q w g p s st O' Q' wr) (hW : WalIn O' Q' wr g p s ov lv oldv) (hK : Keeps O' wr w5) (hD : DiskIs O5 w5 p st2) (hO5 : ∀ k, O5 k → O' k ∨ (wr.heap.size ≤ k ∧ k < w5.heap.size))
    (hB : Blk w6 g 77 (walV ov p s.first lv oldv s.next E)) (hK6 : Keeps (fun k => k = g) w5 w6) (hs6 : w6.heap.size = w5.heap.size) : LogAt O Q w g p { s with code := E } st2 O5 Q' w6 := by
  have hKK : Keeps (fun k => O' k ∨ k = g) wr w6 := (keeps_mono hK (fun k hk => .inl hk)).trans hK6 (fun k hk => .inl (.inr hk))
  have hsz := hK.size
  refine ⟨⟨ov, lv, oldv, hW.calls hKK (fun k hk => hk) (fun k hk => ?_) hB rfl rfl rfl⟩, hD.keep hK6 (fun k hk e => ?_), fun k hk => ?_, fun k hk => ?_, h.keep.trans hKK (fun k hk => ?_)⟩
  · rcases hO5 k hk with h1 | h1
    · exact .inl h1
    · exact .inr h1.1
  · subst e
    rcases hO5 k hk with h1 | h1
    · exact hW.apart k hW.qg h1
    · have := hW.lt k hW.qg; omega
  · rcases hO5 k hk with h1 | h1
    · have := h.olt k h1; omega
    · omega
  · rcases hk with hk | hk
    · rcases hO5 k hk with h1 | h1
      · exact h.grow k (.inl h1)
      · have := h.keep.size; exact .inr (by omega)
    · exact h.grow k (.inr hk)
  · rcases hk with hk | hk
    · exact h.grow k (.inl hk)
    · exact h.grow k (.inr (hk ▸ hW.qg))
def RsI (O Q : Nat → Prop) (g p : Nat) (s : LSt) (R : Int) (I : Nat) (Y : List Int) (T : DSt × Int) (w : World) (k : Nat) (wr : World) : Prop :=
  ∃ st O' i, LogAt O Q w g p s st O' Q wr ∧ T = rsF (Y.drop k) st ∧ FitS st R i ∧ i + (Y.length - k) ≤ I
set_option maxRecDepth 100000 in
set_option maxHeartbeats 4000000 in
theorem reset_any (O Q : Nat → Prop) (g p : Nat) (s : LSt) (st : DSt) (R : Int) (i : Nat) (first : Int) (w : World) (hW : WalIs O Q w g p s) (hD : DiskIs O w p st) (hO : ∀ k, O k → k < w.heap.size) (hF : FitS st R i) (hi : i + 1048600 ≤ 4398046511103) (hC : st.C ≤ 1048600) (hR : R ≤ 9223372036854775807) (hc : s.code = 0) (hf : 0 ≤ first ∧ first ≤ 4611686018427387904) :
    Calls Try.prog 28 #[.pointer (some ⟨g, 0, none⟩), .int .u64 first] w fun e w' => ∃ xs, AreasOf st xs ∧ LogEnd O Q g p (rsS s st (QU.srt xs) first).2.2 (rsS s st (QU.srt xs) first).1 (rsS s st (QU.srt xs) first).2.1 w e w' := by
  have HWI := Lib.hid hW
  obtain ⟨ov, lv, oldv, hW0⟩ := hW
  have hb0 := hW0.blk
  rw [hc] at hb0
  obtain ⟨c0, c1, c2, c3, c4, c5, c6⟩ := blk7 hb0
  have HAR := Lib.hid (areas_any O p st w hD (by omega))
  have HL0 := Lib.hid (LogAt.refl HWI.out hD hO)
  have HF := Lib.hid hF
  have hgl := Blk.lt hb0
  clear hW0 hb0 hD hF
  go_enter Try.func28, Try.ntmps28
  go_wp2_with fail
  refine HAR.out.mono ?_
  rintro e w1 ⟨v, xs, rfl, ⟨hxs, hxl⟩, hsrt, hb1⟩
  obtain ⟨Y, hY⟩ : ∃ Y, QU.srt xs = Y := ⟨_, rfl⟩
  have hYl : Y.length = xs.length := by rw [← hY]; exact (List.mergeSort_perm xs _).length_eq
  rw [hY] at hsrt
  have hI := sorted_ints hsrt (by omega)
  have hvg : ∀ k, v.ownBlock = some k → w.heap.size ≤ k := fun k hk => by
    rcases hsrt with ⟨rfl, _⟩ | ⟨b, cap, rfl, h1, _⟩
    · cases hk
    · have e : b = k := by simpa [Value.ownBlock] using hk
      omega
  have hbd : ∀ y ∈ Y, 0 ≤ y ∧ y < 18446744073709551616 := fun y hy => by
    rw [← hY] at hy
    have h1 := hxs.2.1 y ((List.mergeSort_perm xs _).mem_iff.1 hy)
    simp [Lit.wf, IntKind.min, IntKind.max, IntKind.signed, IntKind.bits] at h1
    omega
  obtain ⟨va, vc, rfl⟩ := hI.form
  obtain ⟨n, hn⟩ : ∃ n, Y.length = n := ⟨_, rfl⟩
  rw [hn] at hI hYl hvg ⊢
  obtain ⟨T, hT⟩ : ∃ T, rsF Y st = T := ⟨_, rfl⟩
  have hwn : IntKind.i64.wrap (n : Int) = (n : Int) := IntWalk.i64_in _ (by omega)
  have HL1 := Lib.hid (HL0.out.below hb1)
  have HVL := Lib.hid (show ∀ k, (Value.slice va n vc).ownBlock = some k → Y ≠ [] → k < w1.heap.size from fun k hk hne => by
    obtain ⟨_, ⟨h1, _⟩ | ⟨b, o, c', h1, h2, _⟩⟩ := hI
    · exact absurd h1 hne
    · rw [h1] at hk; cases hk; exact h2)
  have HYL := Lib.hid hYl
  have hnx : n ≤ 1048600 := by omega
  have HST := Lib.hid (show RsI O Q g p s R (i + n) Y T w1 0 w1 from ⟨st, O, i, LogAt.refl HL1.out.wal HL1.out.disk HL1.out.olt, hT.symm, HF.out, by rw [hn]; omega⟩)
  have HI := Lib.hid hI
  have HN := Lib.hid (And.intro hn (And.intro hY (And.intro hxs hT)))
  have HVG := Lib.hid hvg
  have HBD := Lib.hid hbd
  have hs1 := hb1.size
  clear hsrt hI hvg hbd hn hY hT hb1 hxs hYl hxl
  go_wp2_with fail
  go_loopw [26] (fun x26 wr => ∃ k : Nat, x26 = .int .i64 k ∧ k ≤ n ∧ Hid (RsI O Q g p s R (i + n) Y T w1 k wr) ∧ Hid (Ints wr .u64 (.slice va n vc) Y)) (fun x26 _ => (n - intOf x26).toNat)
  case atStart => exact ⟨0, rfl, Nat.zero_le _, HST, HI⟩
  case round =>
    clear HST
    obtain ⟨k, rfl, hk, hinv, HIr⟩ := hrel
    obtain ⟨st', O', i', hA, hT, hF', hi'⟩ := hinv.out
    obtain ⟨ov, lv, oldv, hW'⟩ := hA.wal
    have hb' := hW'.blk
    rw [hc] at hb'
    obtain ⟨g0, g1, g2, g3, g4, g5, g6⟩ := blk7 hb'
    by_cases hlt : (k : Int) < (n : Int)
    · have hkN : k < Y.length := by rw [HN.out.1]; omega
      obtain ⟨b, o, rfl, hb, hcell⟩ := HIr.out.at_ (k := k) hkN rfl
      obtain ⟨y, hy⟩ : ∃ y, Y.getD k 0 = y := ⟨_, rfl⟩
      rw [hy] at hcell
      have hyk : Y[k]? = some y := by rw [← hy, List.getD_eq_getElem?_getD, List.getElem?_eq_getElem hkN]; rfl
      obtain ⟨hy0, hy1⟩ := HBD.out y (List.mem_of_getElem? hyk)
      have hdr : Y.drop k = y :: Y.drop (k + 1) := by
        rw [List.drop_eq_getElem_cons hkN]
        congr 1
        rw [List.getElem?_eq_getElem hkN] at hyk
        cases hyk; rfl
      have hinext : IntKind.i64.wrap ((k : Int) + 1) = ((k + 1 : Nat) : Int) := IntWalk.i64_in _ (by omega)
      by_cases h4 : y % 4 = 1
      · obtain ⟨E, hE⟩ : ∃ E, doE st' 2 y 0 [] = E := ⟨_, rfl⟩
        obtain ⟨st2, hst2⟩ : ∃ st2, doS st' 2 y 0 [] = st2 := ⟨_, rfl⟩
        have hfc := free_do O' p st' R i' y 0 [] wr hA.disk hF' (by have := HN.out.1; omega) hR (wf_u64 hy0 hy1)
        rw [hE, hst2] at hfc
        have HFC := Lib.hid hfc
        have HTE := Lib.hid (show T = if E ≠ 0 then (st2, E) else rsF (Y.drop (k + 1)) st2 from by rw [hT, hdr, rsF, if_pos h4, hE, hst2])
        have HFT := Lib.hid (show FitS st2 R (i' + 1) from by rw [← hst2]; exact fit_do (n := 0) hF' (by decide))
        have HA := Lib.hid (And.intro hA hi')
        have HW' := Lib.hid hW'
        have HB' := Lib.hid hb'
        have hgO : ¬ O' g := hW'.apart g hW'.qg
        clear hE hst2 hdr hT hfc hF' hA hi' hW' hb' hinv hyk hy
        go_wp2_with fail
        refine HFC.out.mono ?_
        rintro e w5 ⟨rfl, hK5, O5, hD5, hO5⟩
        have hb5 := blk_keep HB'.out hK5 hgO
        have hdi := did_any g ov p s.first lv oldv s.next 0 E w5 hb5
        simp only [if_true] at hdi
        have HDI := Lib.hid hdi
        have HK5 := Lib.hid (And.intro hK5 (And.intro hD5 hO5))
        clear hK5 hD5 hO5 hb5 hdi
        go_wp2_with fail
        refine HDI.out.mono ?_
        rintro e w6 ⟨rfl, hB6, hK6, hs6⟩
        have hA6 := HA.out.1.freed HW'.out HK5.out.1 HK5.out.2.1 HK5.out.2.2 hB6 hK6 hs6
        have hne : Y ≠ [] := fun e => by rw [e] at hkN; simp at hkN
        have hvb : ∀ z, (Value.slice (some ⟨b, o, none⟩) n vc).ownBlock = some z → ¬ (O' z ∨ z = g) := fun z hz ho => by
          have h1 := HVG.out z hz
          have h3 := HVL.out z hz hne
          rcases ho with ho | ho
          · rcases HA.out.1.grow z (.inl ho) with h2 | h2
            · rcases h2 with h2 | h2
              · have := hO z h2; omega
              · obtain ⟨_, _, _, hww⟩ := HWI.out
                have := hww.lt z h2
                omega
            · omega
          · omega
        have hI6 := ints_kept2 (ints_kept2 HIr.out HK5.out.1 (fun z hz ho => hvb z hz (.inl ho))) hK6 (fun z hz ho => hvb z hz (.inr ho))
        have HI6 := Lib.hid hI6
        have HA6 := Lib.hid hA6
        clear hA6 hvb hI6 hB6 hK6 hs6
        by_cases hE0 : E = 0
        · subst hE0
          have hs0 : ({ s with code := 0 } : LSt) = s := by
            obtain ⟨a1, a2, a3, a4, a5, a6⟩ := s
            simp only at hc
            subst hc
            rfl
          have hA7 := HA6.out
          rw [hs0] at hA7
          have HNX := Lib.hid (show RsI O Q g p s R (i + n) Y T w1 (k + 1) w6 from ⟨st2, O5, i' + 1, hA7, by rw [HTE.out, if_neg (by simp)], HFT.out, by have := HA.out.2; have := HN.out.1; omega⟩)
          clear hA7 hs0
          go_wp2_with fail
          exact ⟨⟨k + 1, by congr 1, by omega, HNX, HI6⟩, by simp [intOf]; omega⟩
        · have hc1 : (E == 0) = false := by simpa using hE0
          have hc2 : (E != 0) = true := by simpa using hE0
          obtain ⟨_, _, _, hW6⟩ := HA6.out.wal
          have q6 := (blk7 hW6.blk).2.2.2.2.2.2
          simp only at q6
          have HEND := Lib.hid (show ∃ xs, AreasOf st xs ∧ LogEnd O Q g p (rsS s st (QU.srt xs) first).2.2 (rsS s st (QU.srt xs) first).1 (rsS s st (QU.srt xs) first).2.1 w (.returned (.int .i64 E)) w6 from ⟨xs, HN.out.2.2.1, by
            have hr : rsF (QU.srt xs) st = (st2, E) := by rw [HN.out.2.1, HN.out.2.2.2, HTE.out, if_pos hE0]
            have hz : rsS s st (QU.srt xs) first = ({ s with code := E }, st2, E) := by unfold rsS; rw [hr, if_pos hE0]
            rw [hz]
            exact ⟨rfl, O5, Q, HL1.out.trans HA6.out⟩⟩)
          clear hW6
          go_wp2_with fail
          go_ret
          exact HEND.out
      · have h4b : (y % 4 == 1) = false := by simpa using h4
        have hTn : T = rsF (Y.drop (k + 1)) st' := by rw [hT, hdr, rsF, if_neg h4]
        have HNX := Lib.hid (show RsI O Q g p s R (i + n) Y T w1 (k + 1) wr from ⟨st', O', i', hA, hTn, hF', by have := HN.out.1; omega⟩)
        clear hT hTn hdr hF' hA hi' hW' hb' hinv hyk hy
        go_wp2_with fail
        exact ⟨⟨k + 1, by congr 1, by omega, HNX, HIr⟩, by simp [intOf]; omega⟩
    · have hkn : k = n := by omega
      subst hkn
      have hT2 : T = (st', 0) := by
        rw [hT, List.drop_eq_nil_of_le (by rw [HN.out.1]; exact Nat.le_refl _)]
        rfl
      obtain ⟨f0, f1, f2, f3, f4, f5, f6⟩ := free7 hb'
      have HA := Lib.hid (And.intro hA (And.intro hW' hT2))
      have HB := Lib.hid hb'
      clear hT hT2 hA hW' hb' hinv hF' hi'
      go_wp2_with fail
      go_ret
      obtain ⟨W2, hW2⟩ : ∃ W2, (((wr.setCell ⟨g, 0, none⟩ (.pointer none)).setCell ⟨g, 4, none⟩ (.slice none 0 0)).setCell ⟨g, 3, none⟩ (.slice none 0 0)).setCell ⟨g, 2, none⟩ (.int .u64 first) = W2 := ⟨_, rfl⟩
      have hB2 : Blk W2 g 77 (walV (.pointer none) p first (.slice none 0 0) (.slice none 0 0) s.next s.code) := by
        rw [← hW2, hc]
        exact (((HB.out.set 0 _).set 4 _).set 3 _).set 2 _
      have hK2 : Keeps (fun k => k = g) wr W2 := by
        rw [← hW2]
        exact set_keeps (set_keeps (set_keeps (set_keeps (Keeps.refl _ _) rfl (StrRow.no_blk HB.out (by decide))) rfl (StrRow.no_blk (HB.out.set 0 _) (by decide))) rfl (StrRow.no_blk ((HB.out.set 0 _).set 4 _) (by decide))) rfl (StrRow.no_blk (((HB.out.set 0 _).set 4 _).set 3 _) (by decide))
      rw [hW2]
      obtain ⟨a1, a2, a3⟩ := HA.out
      have hz : rsS s st (QU.srt xs) first = ({ s with opn := none, old := [], L := [], first := first }, st', 0) := by
        have hr : rsF (QU.srt xs) st = (st', 0) := by rw [HN.out.2.1, HN.out.2.2.2, a3]
        unfold rsS
        rw [hr, if_neg (by simp)]
      refine ⟨xs, HN.out.2.2.1, ?_⟩
      rw [hz]
      have hwin : WalIn O' Q W2 g p { s with opn := none, old := [], L := [], first := first } (.pointer none) (.slice none 0 0) (.slice none 0 0) :=
        ⟨hB2, a2.qg, rfl, ⟨[], ⟨rfl, OffRow.nil _ _ _, fun j v l hv => (by cases hv)⟩⟩, fun k hk => (by cases hk), Segs.nil _, fun k hk => (by cases hk), fun k hk => (by have := a2.lt k hk; have := hK2.size; omega), a2.apart⟩
      refine ⟨rfl, O', Q, HL1.out.trans (a1.trans ⟨⟨_, _, _, hwin⟩, a1.disk.keep hK2 (fun k hk e => a2.apart k (e ▸ a2.qg) hk), fun k hk => (by have := a1.olt k hk; have := hK2.size; omega), fun k hk => .inl hk, keeps_mono hK2 (fun k hk => .inr (hk ▸ a2.qg))⟩)⟩
end Go.Proofs.Ytcpkpljeimbdiaa.W
namespace Go.Proofs.Ytcpkpljeimbdiaa.W
open Go.RowKit
open Aid K
set_option linter.unusedSimpArgs false
set_option linter.unusedVariables false
theorem crash_cnt {st st0 : DSt} {Ns : Int → List Int} {ps : List Int} : ∀ (As : List Int) (x : List Int × DSt), As.Nodup → (∀ a ∈ As, x.2.A a = false) → (∃ la : List Int, la.Nodup ∧ (∀ a ∈ la, x.2.A a = true) ∧ x.2.C ≤ la.length) →
    ∃ la : List Int, la.Nodup ∧ (∀ a ∈ la, (As.foldl (crOut st Ns) x).2.A a = true) ∧ (As.foldl (crOut st Ns) x).2.C ≤ la.length
  | [], x, _, _, h => h
  | a :: As, x, hnd, hA, h => by
    obtain ⟨la, h1, h2, h3⟩ := h
    obtain ⟨n1, n2⟩ := List.nodup_cons.1 hnd
    rw [List.foldl_cons]
    obtain ⟨c, hc⟩ : ∃ c, (Ns a).foldl (crIn (st.F a)) ⟨x.1, fun _ => none, 0, 0⟩ = c := ⟨_, rfl⟩
    have hy : crOut st Ns x a = (c.picks, if c.cnt = 0 then roomF x.2 c.miss else layA (roomF x.2 c.miss) a c.F c.cnt) := by unfold crOut crIns; simp only [hc]
    have ha := hA a (by simp)
    rw [hy]
    by_cases h0 : c.cnt = 0
    · rw [if_pos h0]
      exact crash_cnt (st0 := st0) (ps := ps) As _ n2 (fun b hb => hA b (by simp [hb])) ⟨la, h1, h2, h3⟩
    · rw [if_neg h0]
      refine crash_cnt (st0 := st0) (ps := ps) As _ n2 (fun b hb => ?_) ⟨la ++ [a], List.nodup_append.2 ⟨h1, by simp, fun b hb d hd e => ?_⟩, fun b hb => ?_, ?_⟩
      · show updA x.2.A a true b = false
        unfold updA
        rw [if_neg (fun e => n1 (by rw [← e]; exact hb))]
        exact hA b (by simp [hb])
      · rw [List.mem_singleton] at hd
        subst hd
        subst e
        rw [h2 b hb] at ha
        cases ha
      · show updA x.2.A a true b = true
        unfold updA
        split
        · rfl
        · rename_i hne
          rcases List.mem_append.1 hb with hb | hb
          · exact h2 b hb
          · exact absurd (by simpa using hb) hne
      · show x.2.C + 1 ≤ _
        rw [List.length_append]
        simp only [List.length_cons, List.length_nil]
        omega
theorem Cnt.crash {O : Nat → Prop} {p : Nat} {st : DSt} {w : World} (h : Cnt st) (hP : Pln st) (hD : DiskIs O w p st) (hC : st.C ≤ 4398046511104) (hN : ∀ a, st.N a ≤ 4398046511104) (ps : List Int) :
    Cnt (crashF st (areasL st) (secsL st) ps).2 ∧ (∀ a, (crashF st (areasL st) (secsL st) ps).2.A a = true → st.A a = true) ∧ Calm (crashF st (areasL st) (secsL st) ps).2 := by
  obtain ⟨q1, q2, _, q4, q5, _⟩ := crash_F hD hC hN (fun a ha => wf_u64 (hP.wfa a ha).1 (hP.wfa a ha).2) (fun a n hn => wf_i64 (hP.few a n hn).1 (by have := (hP.few a n hn).2; omega)) ps
  have hsub : ∀ a, (crashF st (areasL st) (secsL st) ps).2.A a = true → st.A a = true := by
    intro a ha
    obtain ⟨n, hn⟩ := (q2 a).1 ha
    refine (hP.pres a).2 ⟨n, ?_⟩
    cases hF : st.F a n with
    | some sc => rfl
    | none => rw [(q1 a n).1 hF] at hn; cases hn
  obtain ⟨xs, hxs⟩ := areas_ex hD hC
  have hAn : (areasL st).Nodup := by rw [← areasL_eq hxs]; exact srt_nodup hxs.1
  exact ⟨⟨fun a ha => h.1 a (hsub a ha), crash_cnt (st0 := st) (ps := ps) _ _ hAn (fun _ _ => rfl) ⟨[], List.nodup_nil, (fun a ha => by cases ha), Nat.le_refl _⟩⟩, hsub, q4, q5⟩
theorem rsF_all (R : Int) : ∀ (Y : List Int) (st : DSt) (i : Nat), Pln st → FitS st R i → Cnt st → st.dead = false → (∀ y ∈ Y, 0 ≤ y ∧ y < 18446744073709551616) →
    Pln (rsF Y st).1 ∧ FitS (rsF Y st).1 R (i + Y.length) ∧ Cnt (rsF Y st).1 ∧ (∀ a, (rsF Y st).1.A a = true → st.A a = true) ∧ st.room ≤ (rsF Y st).1.room ∧ ((rsF Y st).1.dead = false → (rsF Y st).2 = 0)
  | [], st, i, hP, hF, hC, hd, _ => ⟨hP, hF, hC, fun _ h => h, Int.le_refl _, fun _ => rfl⟩
  | a :: Y, st, i, hP, hF, hC, hd, hY => by
    have hY' : ∀ y ∈ Y, 0 ≤ y ∧ y < 18446744073709551616 := fun y hy => hY y (by simp [hy])
    rw [rsF]
    by_cases h4 : a % 4 = 1
    · rw [if_pos h4]
      have hP1 : Pln (doS st 2 a 0 []) := hP.does (hY a (by simp))
      have hF1 : FitS (doS st 2 a 0 []) R (i + 1) := fit_do hF (by decide)
      have hC1 : Cnt (doS st 2 a 0 []) := by
        have e : a = 4 * ((a - 1) / 4) + 1 := by omega
        rw [e]
        exact cnt_ind st 2 ((a - 1) / 4) 0 [] (.inr (.inr rfl)) hC
      have hAr : (∀ x, (doS st 2 a 0 []).A x = true → st.A x = true) ∧ st.room ≤ (doS st 2 a 0 []).room := by
        unfold doS
        rw [if_neg (by decide), if_neg (by decide), if_pos rfl]
        split
        · refine ⟨fun x hx => by rw [(tick_same st).2.1] at hx; exact hx, ?_⟩
          unfold tickF
          split
          · exact Int.le_refl _
          · exact Int.le_refl _
        · refine ⟨fun x hx => ?_, ?_⟩
          · rw [free_A] at hx
            split at hx
            · cases hx
            · exact hx
          · rw [free_room]; omega
      split
      · rename_i he
        refine ⟨hP1, fit_mono hF1 (by simp only [List.length_cons]; omega), hC1, hAr.1, hAr.2, fun hd' => ?_⟩
        unfold doE doS at *
        rw [if_neg (by decide), if_pos (.inr rfl)] at he
        rw [if_neg (by decide), if_neg (by decide), if_pos rfl] at hd'
        split at he
        · rename_i ht
          rw [if_pos ht] at hd'
          rw [ht] at hd'
          cases hd'
        · exact absurd rfl he
      · rename_i he
        have hd1 := do_ok hd (by decide) (Decidable.not_not.1 he)
        obtain ⟨q1, q2, q3, q4, q5, q6⟩ := rsF_all R Y _ (i + 1) hP1 hF1 hC1 hd1 hY'
        exact ⟨q1, fit_mono q2 (by simp only [List.length_cons]; omega), q3, fun x hx => hAr.1 x (q4 x hx), by omega, q6⟩
    · rw [if_neg h4]
      obtain ⟨q1, q2, q3, q4, q5, q6⟩ := rsF_all R Y st i hP hF hC hd hY'
      exact ⟨q1, fit_mono q2 (by simp only [List.length_cons]; omega), q3, q4, q5, q6⟩
theorem opL_gone {st : DSt} {fr : Int} {s : LSt} (hs : s.first + s.L.length ≤ 4611686018427387904) : ∀ (N g : List Int), (∀ n ∈ N, n < fr) → opL st fr N s g = some (s, g ++ N)
  | [], g, _ => by simp [opL]
  | n :: N, g, h => by
    have hn := h n (by simp)
    rw [opL]
    have e : (if n < fr then (s, true, true) else rdS s n (textF st (4 * n + 1) 65537 0)) = (s, true, true) := if_pos hn
    simp only [e]
    rw [if_neg (by
      rintro (hh | hh)
      · cases hh
      · omega)]
    rw [if_pos trivial, opL_gone hs N (g ++ [n]) (fun x hx => h x (by simp [hx]))]
    simp
theorem opF_gone {st : DSt} {xs : List Int} {fr d : Int} {R : Int} {i : Nat} (hP : Pln st) (hx : AreasOf st xs) (hcalm : Calm st) (hC : Cnt st) (hF : FitS st R i) (hfr : 0 ≤ fr ∧ fr ≤ 1152921504606846976) (hd : 0 ≤ d ∧ d ≤ 4611686018427387904) (hall : ∀ n, 0 ≤ n → st.A (4 * n + 1) = true → n < fr) :
    ∃ st1, opF st xs fr d = (some (logOf d [] fr), st1, 0) ∧ LgD d (logOf d [] fr) st1 [] none ∧ Calm st1 ∧ Cnt st1 ∧ FitS st1 R (i + xs.length) ∧ st.room ≤ st1.room := by
  have hN : ∀ n ∈ numsF (QU.srt xs), 0 ≤ n ∧ n < fr := fun n hn => by
    have h1 := nums_mem.1 hn
    have ha := (hx.2.2 _ (hx.2.1 _ h1)).1 h1
    have h2 := hP.wfa _ ha
    exact ⟨by omega, hall n (by omega) ha⟩
  obtain ⟨N, hNe⟩ : ∃ N, numsF (QU.srt xs) = N := ⟨_, rfl⟩
  have hnr := nums_range hP hx
  have hnd : (numsF (QU.srt xs)).Nodup := (nums_lt hx.1).imp fun {a b} hab => by omega
  have hmem : ∀ y, y ∈ N ↔ 4 * y + 1 ∈ xs := fun y => by rw [← hNe]; exact nums_mem
  have hfew := nums_few (xs := xs)
  have hnx : max (nextF 0 (QU.srt xs)) fr = fr := by
    rw [nextF_list hNe]
    cases hg : N.getLast? with
    | none => simp only; omega
    | some y =>
      simp only
      have := hN y (by rw [hNe]; exact List.mem_of_getLast? hg)
      omega
  rw [hNe] at hN hnr hnd hfew
  have hset := setF_calm2 N N st hcalm.1 hcalm.2
  obtain ⟨st1, hst1⟩ : ∃ st1, (setF N N st).1 = st1 := ⟨_, rfl⟩
  have hpair : setF N N st = (st1, 0) := Prod.ext hst1 hset.1
  obtain ⟨z1, z2, z3, z4, z5⟩ := setF_is N N st st1 hnd hpair
  obtain ⟨hP1, hF1⟩ := setF_same R N N st i hP hF hnr
  have hC1 := setF_ind cnt_ind N N st hC
  rw [hst1] at hset hP1 hF1 hC1
  have hroom : st.room ≤ st1.room := by
    have key : ∀ (N g : List Int) (st : DSt), st.dead = false → st.left = -1 → st.room ≤ (setF N g st).1.room := by
      intro N g
      induction N with
      | nil => intro st _ _; exact Int.le_refl _
      | cons n N ih =>
        intro st hd1 hl1
        obtain ⟨k, hk⟩ : ∃ k : Int, (if hasB g n = true then 2 else 1) = k := ⟨_, rfl⟩
        have hk12 : k = 1 ∨ k = 2 := by rw [← hk]; split <;> simp
        have hdo := does_calm (a := 4 * n + 1) (n := 0) (l := []) (.inr hk12) hd1 hl1
        have ht : ¬ (tickF st).dead = true := by unfold tickF; rw [if_neg (by rw [hd1]; decide), (step_calm hl1).1]; decide
        have hr : st.room ≤ (doS st k (4 * n + 1) 0 []).room := by
          rcases hk12 with rfl | rfl
          · unfold doS
            rw [if_neg (by decide), if_pos rfl, if_neg ht]
            exact Int.le_refl _
          · unfold doS
            rw [if_neg (by decide), if_neg (by decide), if_pos rfl, if_neg ht]
            show st.room ≤ st.room + (st.N (4 * n + 1) : Int)
            omega
        have he : doE st k (4 * n + 1) 0 [] = 0 := by unfold doE; rw [if_neg (by omega), if_pos hk12, if_neg ht]
        rw [setF]
        simp only [hk]
        rw [if_neg (by rw [he]; simp)]
        exact Int.le_trans hr (ih _ hdo.1 hdo.2)
    rw [← hst1]
    exact key N N st hcalm.1 hcalm.2
  have hno : ∀ n, 0 ≤ n → st1.A (4 * n + 1) = false := by
    intro n hn
    by_cases hm : n ∈ N
    · exact (z4 n hm hm).2
    · rw [(z3 (4 * n + 1) (fun x hx' e => hm ((show n = x by omega) ▸ hx'))).2]
      cases hA : st.A (4 * n + 1) with
      | false => rfl
      | true =>
        have hw := hP.wfa _ hA
        exact absurd ((hmem n).2 ((hx.2.2 _ (wf_u64 hw.1 hw.2)).2 hA)) hm
  refine ⟨st1, ?_, ⟨⟨(fun c hc => by cases hc), (fun c k e => by cases e), List.Pairwise.nil, (fun c hc => by cases hc), (fun n hn ha => by rw [hno n hn] at ha; cases ha), trivial⟩, hP1, hset.2.1, rfl, trivial, rfl, (fun c hc => by cases hc), hfr.1, Suf.refl _⟩, hset.2, hC1, fit_mono hF1 (by omega), hroom⟩
  unfold opF
  rw [if_neg (by rw [hcalm.1]; decide), if_neg (by omega)]
  simp only
  rw [hnx, if_neg (by omega), hNe, ← logOf_nil, opL_gone (by show d + (([] : List (List Int)).length : Int) ≤ _; simp only [List.length_nil]; omega) N [] (fun n hn => (hN n hn).2)]
  simp only [List.nil_append]
  rw [hpair]
  rfl
theorem apS_old {s : LSt} {st : DSt} {b : List Int} : ∀ x ∈ (apS s st b).1.old, x ∈ s.old ∨ x.1 = s.next := by
  have hbe : ∀ (ix : Int), ∀ x ∈ (beS s st ix).1.old, x ∈ s.old ∨ x.1 = s.next := by
    intro ix x hx
    obtain ⟨q1, q2, _, _, _⟩ := syS_same s st
    unfold beS at hx
    simp only at hx
    split at hx
    · rw [q2] at hx; exact .inl hx
    · obtain ⟨_, w2, _, _⟩ := wrS_same { (syS s st).1 with opn := some ⟨(syS s st).1.next, ix, 0, []⟩, next := (syS s st).1.next + 1, old := (syS s st).1.old ++ [((syS s st).1.next, ix)] } (syS s st).2 (putU ix.toNat)
      rw [w2] at hx
      simp only at hx
      rcases List.mem_append.1 hx with hx | hx
      · rw [q2] at hx; exact .inl hx
      · rw [List.mem_singleton] at hx
        rw [hx, q1]; exact .inr rfl
  intro x hx
  unfold apS at hx
  split at hx
  · exact .inl hx
  split at hx
  · exact .inl hx
  split at hx
  · exact .inl hx
  simp only at hx
  obtain ⟨r, hr⟩ : ∃ r, (if wantS s = true then beS s st (s.first + s.L.length) else (s, st)) = r := ⟨_, rfl⟩
  have hro : ∀ x ∈ r.1.old, x ∈ s.old ∨ x.1 = s.next := by
    rw [← hr]
    split
    · exact hbe _
    · exact fun x hx => .inl hx
  rw [hr] at hx
  split at hx
  · exact hro x hx
  · obtain ⟨_, w2, _, _⟩ := wrS_same r.1 r.2 (putU b.length ++ b)
    have : x ∈ (wrS r.1 r.2 (putU b.length ++ b)).1.old := by
      split at hx
      · exact hx
      · exact hx
    rw [w2] at this
    exact hro x this
end Go.Proofs.Ytcpkpljeimbdiaa.W
namespace Go.Proofs.Ytcpkpljeimbdiaa.W
open Go.RowKit
open Aid K
set_option linter.unusedSimpArgs false
set_option linter.unusedVariables false
theorem crash_room {st : DSt} {Ns : Int → List Int} : ∀ (As : List Int) (x : List Int × DSt), x.2.room ≤ (As.foldl (crOut st Ns) x).2.room
  | [], x => Int.le_refl _
  | a :: As, x => by
    rw [List.foldl_cons]
    refine Int.le_trans ?_ (crash_room As _)
    unfold crOut
    simp only
    split
    · show x.2.room ≤ x.2.room + _; omega
    · show x.2.room ≤ x.2.room + _; omega
structure RsP (T : Nat) (s : LSt) (st2 : DSt) : Prop where
  pln : Pln st2
  fit : FitS st2 1073741824 1300000000000
  cnt : Cnt st2
  gone : ∀ n, 0 ≤ n → st2.A (4 * n + 1) = true → n < s.next
  few : st2.C ≤ 1048600
  room : 2000000 ≤ st2.room
  nx : 0 ≤ s.next ∧ s.next ≤ T + 2
theorem CutP.reset {T : Nat} {s : LSt} {st : DSt} {was : List Lg} {at_ : Int} {Y : List Int} (h : CutP T s st was at_) (hT : T ≤ 1048590) (hd : st.dead = false) (hY : ∀ y ∈ Y, 0 ≤ y ∧ y < 18446744073709551616) (hYl : Y.length ≤ 1048600) :
    RsP T s (rsF Y st).1 ∧ ((rsF Y st).1.dead = false → (rsF Y st).2 = 0) := by
  obtain ⟨C, l, h1, h2, h3⟩ := h.lg
  obtain ⟨q1, q2, q3, q4, q5, q6⟩ := rsF_all 1073741824 Y st (T * 1050400) h1.pln h.inv.fit h.cnt hd hY
  have hr := h.room
  have hn := h.inv.next
  have hg : ∀ n, 0 ≤ n → (rsF Y st).1.A (4 * n + 1) = true → n < s.next := fun n hn ha => by
    obtain ⟨c, hc, rfl⟩ := h1.ond.only n hn (q4 _ ha)
    exact h1.nxt c hc
  refine ⟨⟨q1, fit_mono q2 (by omega), q3, hg, ?_, by omega, by push_cast at hn; omega⟩, q6⟩
  refine Nat.le_trans (q3.few (K := T + 2) (fun n hA => ?_)) (by omega)
  have hw := q1.wfa _ hA
  have := hg n (by omega) hA
  push_cast at hn ⊢
  omega
structure RsC (T : Nat) (fr : Int) (sc : DSt) : Prop where
  pln : Pln sc
  fit : FitS sc 1073741824 1300000000001
  cnt : Cnt sc
  calm : Calm sc
  gone : ∀ n, 0 ≤ n → sc.A (4 * n + 1) = true → n < fr
  few : sc.C ≤ 1048600
  room : 2000000 ≤ sc.room
  nx : 0 ≤ fr ∧ fr ≤ T + 2
theorem RsP.crash {T : Nat} {s : LSt} {st2 : DSt} {O : Nat → Prop} {p : Nat} {w : World} (h : RsP T s st2) (hD : DiskIs O w p st2) (ps : List Int) : RsC T s.next (crashF st2 (areasL st2) (secsL st2) ps).2 := by
  have hN : ∀ a, st2.N a ≤ 4398046511104 := fun a => by have := h.fit.N a; omega
  have hC : st2.C ≤ 4398046511104 := by have := h.few; omega
  obtain ⟨c1, c2, c3⟩ := h.cnt.crash h.pln hD hC hN ps
  obtain ⟨f1, f2⟩ := crash_fit hD h.pln h.fit (by decide) ps
  exact ⟨h.pln.crash hD hC hN ps, f1, c1, c3, fun n hn ha => h.gone n hn (c2 _ ha), Nat.le_trans f2 h.few, Int.le_trans (Int.le_trans h.room (Int.le_max_left _ _)) (crash_room (st := st2) (Ns := secsL st2) (areasL st2) (ps, newSt st2.room)), h.nx⟩
theorem RsC.opens {T : Nat} {fr : Int} {sc : DSt} {xs : List Int} {b : List Int} (h : RsC T fr sc) (hT : T ≤ 1048590) (hx : AreasOf sc xs) (hxl : xs.length ≤ 1048600) (hb8 : By8 b) (hb : b.length ≤ 512) :
    ∃ st1, opF sc xs fr 900 = (some (logOf 900 [] fr), st1, 0) ∧ Inv (logOf 900 [] fr) st1 1073741824 1900000 1300001048601 ∧
    ∃ s2 st2, apS (logOf 900 [] fr) st1 b = (s2, st2, 0) ∧ Inv s2 st2 1073741824 1900001 1300001050401 ∧
    ∃ s3 st3, syS s2 st2 = (s3, st3) ∧ s3.code = 0 ∧ st3.C ≤ 1048600 ∧ Pln st3 ∧ FitS st3 1073741824 1300001050402 ∧ Calm st3 ∧
    ∀ ys, AreasOf st3 ys → ∃ s4 st4, opF st3 ys fr 900 = (some s4, st4, 0) ∧ s4.first + s4.L.length = 901 ∧ s4.L.length ≤ 2000 := by
  have hnx := h.nx
  obtain ⟨st1, e1, L1, c1, n1, F1, r1⟩ := opF_gone (R := 1073741824) (i := 1300000000001) (d := 900) h.pln hx h.calm h.cnt h.fit (by omega) (by decide) h.gone
  have I1 : Inv (logOf 900 [] fr) st1 1073741824 1900000 1300001048601 := inv_of (E := 0) (K := 0) L1 (by decide) (fun c hc => by cases hc) (by decide) (by omega) (by decide) (by decide) (fit_mono F1 (by omega))
  refine ⟨st1, e1, I1, ?_⟩
  have hrm := h.room
  have hcov : Cov 900 [((900 : Int), ([] : List (List Int)))] [] none := Cov.last (r := ((900 : Int), ([] : List (List Int)))) (fun c k e => by cases e) (Suf.refl _) (by simp)
  have haf := apS_after (E := 900) (K := fr) (b := b) L1 hcov I1 (by decide) hb8 (by omega) (by show (900 : Int) + 0 < _; decide) (by rw [logOf_nil]; simp) (fun c hc => by cases hc) (by show (900 : Int) + 0 ≤ _; decide) (Int.le_refl _)
  rw [if_neg (by omega), if_neg (by omega)] at haf
  have hold := apS_old (s := logOf 900 [] fr) (st := st1) (b := b)
  have hI2 := I1.append (b := b) (by decide) hb8
  have hc2 := apS_ind calm_ind (s := logOf 900 [] fr) (b := b) c1
  have hn2 := apS_ind cnt_ind (s := logOf 900 [] fr) (b := b) n1
  obtain ⟨y, hy⟩ : ∃ y, apS (logOf 900 [] fr) st1 b = y := ⟨_, rfl⟩
  rw [hy] at haf hold hI2 hc2 hn2 ⊢
  obtain ⟨s2, st2, code2⟩ := y
  obtain ⟨a1, a2, a3⟩ := haf
  rcases a3 with ⟨a3, _⟩ | ⟨a3, a4, a5, C2, l2, a6, a7, a8⟩
  · rw [hc2.1] at a3; cases a3
  simp only at a1 a2 a3 a4 a5 a6 a7 a8 hold hI2 hc2 hn2
  subst a4
  refine ⟨s2, st2, rfl, hI2, ?_⟩
  have hsy := syS_after (E := 901) (K := fr + 1) a6 a7 a8
  have hI3 := hI2.sync
  have hc3 := syS_ind calm_ind (s := s2) hc2
  have hn3 := syS_ind cnt_ind (s := s2) hn2
  obtain ⟨_, o3, _, _, _⟩ := syS_same s2 st2
  obtain ⟨z, hz⟩ : ∃ z, syS s2 st2 = z := ⟨_, rfl⟩
  rw [hz] at hsy hI3 hc3 hn3 o3 ⊢
  obtain ⟨s3, st3⟩ := z
  obtain ⟨b1, b2, b3⟩ := hsy
  simp only at b1 b2 b3 hI3 hc3 hn3 o3
  rcases b3 with ⟨b3, _⟩ | ⟨b3, b4, b5, C3, l3, b6, b7, b8⟩
  · rw [hc3.1] at b3; cases b3
  have hnu : ∀ c ∈ all C3 l3, c.nu = fr := fun c hc => by
    have h1 : (c.nu, (c.ix : Int)) ∈ s3.old := by rw [b6.old]; exact List.mem_map.2 ⟨c, hc, rfl⟩
    rw [o3] at h1
    rcases hold _ h1 with h2 | h2
    · cases h2
    · exact h2
  refine ⟨s3, st3, rfl, b4, ?_, b1, hI3.fit, hc3, fun ys hys => ?_⟩
  · refine Nat.le_trans (hn3.few (K := T + 3) (fun n hA => ?_)) (by omega)
    have hw := b1.wfa _ hA
    obtain ⟨c, hc, hcn⟩ := b6.ond.only n (by omega) hA
    have := hnu c hc
    omega
  · have hmem : ∀ n ∈ (all C3 l3).map (fun c => c.nu) ++ (none : Option Int).toList, n = fr := fun n hn => by
      simp only [Option.toList_none, List.append_nil] at hn
      obtain ⟨c, hc, rfl⟩ := List.mem_map.1 hn
      exact hnu c hc
    obtain ⟨nx, st4, e4, L4, _, _, _⟩ := b6.ready.opens (fr := fr) (d := 900) (K := fr + 1) b1 hys hc3.1 hc3.2 (by decide) (fun n hn => by rw [hmem n hn]; omega) (by omega) (fun n hn => by rw [hmem n hn]; exact Int.le_refl _) (by omega)
    refine ⟨_, st4, e4, ?_, ?_⟩
    · have hs := b6.suf
      have hs2 : (s3.first : Int) + (s3.L.length : Int) = (chD 900 (all C3 l3)).1 + ((chD 900 (all C3 l3)).2.length : Int) := hs.2.1
      have h5 := congrArg Prod.fst b5
      have h6 := congrArg Prod.snd b5
      have h7 := congrArg Prod.fst a5
      have h8 := congrArg Prod.snd a5
      simp only at h5 h6 h7 h8
      rw [h5, h6, h7, h8] at hs2
      show (chD 900 (all C3 l3)).1 + ((chD 900 (all C3 l3)).2.length : Int) = 901
      rw [← hs2]
      rfl
    · have hs := b6.suf
      have hs1 : (chD 900 (all C3 l3)).1 ≤ s3.first := hs.1
      have hp := chD_pos (d := 900) (by decide) (all C3 l3)
      have hs2 : (s3.first : Int) + (s3.L.length : Int) = (chD 900 (all C3 l3)).1 + ((chD 900 (all C3 l3)).2.length : Int) := hs.2.1
      have h5 := congrArg Prod.fst b5
      have h6 := congrArg Prod.snd b5
      have h7 := congrArg Prod.fst a5
      have h8 := congrArg Prod.snd a5
      simp only at h5 h6 h7 h8
      rw [h5, h6, h7, h8] at hs2
      rw [logOf_nil] at hs2
      simp only [List.nil_append, List.length_cons, List.length_nil] at hs2
      show (chD 900 (all C3 l3)).2.length ≤ 2000
      omega
end Go.Proofs.Ytcpkpljeimbdiaa.W
namespace Go.Proofs.Ytcpkpljeimbdiaa.W
open Go.RowKit
open Aid K
set_option linter.unusedSimpArgs false
set_option linter.unusedVariables false
theorem al_next {w0 W : World} {N g p : Nat} {s : LSt} {st : DSt} (h : ALs w0 W N g p s st) : Calls Try.prog 27 #[.pointer (some ⟨g, 0, none⟩)] W fun e w' => e = .returned (.int .u64 s.next) ∧ w' = W := by
  obtain ⟨O, Q, h⟩ := h
  obtain ⟨ov, lv, oldv, hW⟩ := h.wal
  exact next_any g ov p s.first lv oldv s.next s.code W hW.blk
theorem al_reset {w0 W : World} {N g p : Nat} {s : LSt} {st : DSt} {R : Int} {i : Nat} {x : Int} (h : ALs w0 W N g p s st) (hF : FitS st R i) (hi : i + 1048600 ≤ 4398046511103) (hC : st.C ≤ 1048600) (hR : R ≤ 9223372036854775807) (hc : s.code = 0) (hx : 0 ≤ x ∧ x ≤ 4611686018427387904) :
    Calls Try.prog 28 #[.pointer (some ⟨g, 0, none⟩), .int .u64 x] W fun e W' => ∃ xs, AreasOf st xs ∧ AEnd w0 g p (rsS s st (QU.srt xs) x) e W' := by
  obtain ⟨O, Q, h⟩ := h
  refine (reset_any O Q g p s st R i x W h.wal h.disk (fun k hk => by have := h.lt k (.inl hk); have := h.nle; omega) hF hi hC hR hc hx).mono ?_
  rintro e W' ⟨xs, hxs, he, O', Q', hA⟩
  exact ⟨xs, hxs, he, h.step hA⟩
theorem few_areas {w0 W : World} {p : Nat} {st : DSt} (h : DL w0 W p st) (hC : st.C ≤ 1048600) : ∀ xs, AreasOf st xs → xs.length ≤ 1048600 := fun xs hx => by
  obtain ⟨O, hO, _⟩ := h
  have h1 := areas_few hO (by omega)
  rw [← areasL_eq hx] at h1
  have h2 : (QI.srt xs).length = xs.length := (List.mergeSort_perm xs _).length_eq
  omega
theorem srt_bounds {st : DSt} {xs : List Int} (h : AreasOf st xs) : ∀ y ∈ QU.srt xs, 0 ≤ y ∧ y < 18446744073709551616 := fun y hy => by
  have h1 := h.2.1 y ((List.mergeSort_perm xs _).mem_iff.1 hy)
  simp [Lit.wf, IntKind.min, IntKind.max, IntKind.signed, IntKind.bits] at h1
  omega
theorem by120 : By8 [120] := fun x hx => by simp at hx; omega
set_option maxRecDepth 100000 in
set_option maxHeartbeats 8000000 in
theorem resets_law (v : Value) (n : Nat) (f : Nat → WOp) (at_ : Int) (vp : Value) (ps : List Int) (w : World) (hO : WOps w v n f) (hn : n ≤ 1048576) (hat : (Lit.int .i64 at_).wf = true) (hI : Ints w .i64 vp ps) (hcap : CapV vp) (hps : ∀ y ∈ ps, (Lit.int .i64 y).wf = true) :
    Calls Try.prog 6 #[v, .int .i64 at_, vp] w (TrueIn w) := by
  obtain ⟨a0, cap0, hv0, hel0⟩ := hO.2
  subst hv0
  obtain ⟨va, vc, rfl⟩ := Ints.form hI
  obtain ⟨pn, hpn⟩ : ∃ pn, ps.length = pn := ⟨_, rfl⟩
  rw [hpn]
  rw [hpn] at hcap hI
  have HO := Lib.hid hO
  have HI := Lib.hid (And.intro hI (And.intro hcap hps))
  have HPN := Lib.hid hpn
  have hatl : at_ ≤ 9223372036854775807 := by
    simp [Lit.wf, IntKind.min, IntKind.max, IntKind.signed, IntKind.bits] at hat
    omega
  clear hO hel0 hI hcap hps hpn
  go_enter Try.func6, Try.ntmps6
  go_wp2_with fail
  refine (new_dl (w0 := w) (room := 1073741824) (Below.refl _ _)).mono ?_
  rintro e w1 ⟨p, rfl, D1⟩
  go_wp2_with fail
  refine (alive_any w1).mono ?_
  rintro e w2 ⟨rfl, hb2⟩
  have HCUT := Lib.hid (cut_any w w2 p 0 n _ (-1) _ f (D1.below hb2) CutB.new (by omega) HO.out (by decide))
  clear D1 hb2
  go_wp2_with fail
  refine HCUT.out.mono ?_
  rintro e w3 ⟨v3, was, st3, rfl, hW3, D3, hE3⟩
  have hB3 := hE3.again
  have hC3 := hB3.C (by omega)
  have HB3 := Lib.hid hB3
  have HXL := Lib.hid (few_areas D3 hC3)
  have HOP := Lib.hid (dl_openg (R := 1073741824) (i := (0 + 1 + n) * 1050400) (fr := 0) (first := 1) D3 hB3.pln.sects hB3.fit (by omega) hC3 (by decide) hB3.calm.1 (by decide) (by decide))
  clear hW3 D3 hE3 hB3
  go_wp2_with fail
  refine HOP.out.mono ?_
  rintro e w4 ⟨xs, hx, hE⟩
  obtain ⟨s, st4, e4, hl4, hP4, _⟩ := HB3.out.opens (by omega) hx (HXL.out xs hx)
  rw [e4] at hE
  obtain ⟨g, rfl, H4⟩ := hE
  have hPA := hP4.arm hatl
  have hd4 : (armF st4 at_).dead = false := hPA.lg.choose_spec.choose_spec.1.dead
  have hcode : s.code = 0 := hP4.lg.choose_spec.choose_spec.1.code
  have hCA : (armF st4 at_).C ≤ 1048600 := by
    have h1 := (CutP.reset (Y := []) hPA (by omega) hd4 (fun y hy => by cases hy) (by decide)).1.few
    exact h1
  obtain ⟨fr, hfr⟩ : ∃ fr, s.next = fr := ⟨_, rfl⟩
  have HNX := Lib.hid (al_next H4)
  rw [hfr] at HNX
  have HAR := Lib.hid (al_arm (at_ := at_) H4)
  have HPA := Lib.hid (And.intro hPA (And.intro hd4 (And.intro hcode (And.intro hCA hfr))))
  clear hx e4 hP4 H4 hPA hd4 hcode hCA hfr HOP HB3
  go_wp2_with fail
  refine HNX.out.mono ?_
  rintro e w5 ⟨rfl, hw5⟩
  obtain rfl : w4 = w5 := hw5.symm
  go_wp2_with fail
  refine HAR.out.mono ?_
  rintro e w6 ⟨rfl, H6⟩
  have HX6 := Lib.hid (few_areas H6.dl HPA.out.2.2.2.1)
  have HRS := Lib.hid (al_reset (x := 900) H6 HPA.out.1.inv.fit (by omega) HPA.out.2.2.2.1 (by decide) HPA.out.2.2.1 (by decide))
  clear H6 HNX HAR
  go_wp2_with fail
  refine HRS.out.mono ?_
  rintro e w7 ⟨xs7, hx7, hE7⟩
  have hyl : (QU.srt xs7).length ≤ 1048600 := by
    have h1 : (QU.srt xs7).length = xs7.length := (List.mergeSort_perm xs7 _).length_eq
    have := HX6.out xs7 hx7
    omega
  obtain ⟨hR7, hR7c⟩ := CutP.reset (Y := QU.srt xs7) HPA.out.1 (by omega) HPA.out.2.1 (srt_bounds hx7) hyl
  obtain ⟨T, hT⟩ : ∃ T, rsF (QU.srt xs7) (armF st4 at_) = T := ⟨_, rfl⟩
  have hsr : (rsS s (armF st4 at_) (QU.srt xs7) 900).2.1 = T.1 ∧ (rsS s (armF st4 at_) (QU.srt xs7) 900).2.2 = T.2 ∧ (T.2 = 0 → (rsS s (armF st4 at_) (QU.srt xs7) 900).1.first = 900 ∧ (rsS s (armF st4 at_) (QU.srt xs7) 900).1.L = []) := by
    unfold rsS
    rw [hT]
    by_cases h0 : T.2 = 0
    · rw [if_neg (by simp [h0])]
      exact ⟨rfl, h0.symm, fun _ => ⟨rfl, rfl⟩⟩
    · rw [if_pos h0]
      exact ⟨rfl, rfl, fun hh => absurd hh h0⟩
  rw [hT] at hR7 hR7c
  obtain ⟨z, hz⟩ : ∃ z, rsS s (armF st4 at_) (QU.srt xs7) 900 = z := ⟨_, rfl⟩
  rw [hz] at hE7 hsr
  obtain ⟨s7, st7, c7⟩ := z
  obtain ⟨T1, T2⟩ := T
  simp only at hsr hR7c hR7
  obtain ⟨rfl, rfl, hs7⟩ := hsr
  obtain ⟨he7, H7⟩ := hE7
  simp only at he7
  subst he7
  have H7 : ALs w w7 w7.heap.size g p s7 st7 := H7
  have HR7 := Lib.hid hR7
  have HH7 := Lib.hid H7
  have HD7 := Lib.hid (dl_dead H7.dl)
  have hB7 := H7.bel.1
  have hIW := HI.out.1.below hB7
  have HCR := Lib.hid (dl_crash (R := 1073741824) (i := 1300000000000) H7.dl hR7.fit (by decide) (by decide) (by rw [← HPN.out] at hIW ⊢; exact hIW) HI.out.2.1 HI.out.2.2)
  obtain ⟨O7, hO7, _⟩ := H7.dl
  have hRC := hR7.crash hO7 ps
  rw [HPA.out.2.2.2.2] at hRC
  have HRC := Lib.hid hRC
  have HBL := Lib.hid hB7
  clear hx7 hyl hT hz H7 hR7 hB7 hIW hO7 HRS HX6 HPA hRC
  by_cases hdd : st7.dead = true
  focus
    have HCRW := HCR
    rw [hdd] at HD7
    go_wp2_with fail
    refine HD7.out.mono ?_
    rintro e w8 ⟨rfl, hw8⟩
    obtain rfl : w8 = w7 := hw8
    clear HD7
    have HBW := HBL
    clear hs7
    go_wp2_with fail
  rotate_left
  focus
    have hdf : st7.dead = false := by simpa using hdd
    rw [hdf] at HD7
    have hc0 := hR7c hdf
    subst hc0
    obtain ⟨hs71, hs72⟩ := hs7 rfl
    have HF8 := Lib.hid (al_first HH7.out)
    have HL8 := Lib.hid (al_last HH7.out (by rw [hs72]; decide))
    rw [hs71, hs72] at HL8
    rw [hs71] at HF8
    simp only [show IntKind.u64.wrap (IntKind.u64.wrap ((900 : Int) + (([] : List (List Int)).length : Int)) - 1) = 899 by decide] at HL8
    go_wp2_with fail
    refine HD7.out.mono ?_
    rintro e w8 ⟨rfl, hw8⟩
    obtain rfl : w7 = w8 := hw8.symm
    clear HD7
    go_wp2_with fail
    refine HF8.out.mono ?_
    rintro e w8 ⟨rfl, hw8⟩
    obtain rfl : w7 = w8 := hw8.symm
    go_wp2_with fail
    refine HL8.out.mono ?_
    rintro e w8 ⟨rfl, hb8⟩
    have HBW := Lib.hid (HBL.out.trans (hb8.mono HBL.out.size))
    have hIW := HI.out.1.below HBW.out
    have HCRW := Lib.hid (dl_crash (R := 1073741824) (i := 1300000000000) (HH7.out.below hb8).dl HR7.out.fit (by decide) (by decide) (by rw [← HPN.out] at hIW ⊢; exact hIW) HI.out.2.1 HI.out.2.2)
    clear hIW
    go_wp2_with fail
  all_goals
    refine HCRW.out.mono ?_
    rintro e w9 ⟨pc, rfl, D9, hB9⟩
    clear HCRW HCR HXL HR7 HH7
    obtain ⟨sc, hsc⟩ : ∃ sc, (crashF st7 (areasL st7) (secsL st7) ps).2 = sc := ⟨_, rfl⟩
    rw [hsc] at D9 HRC
    have hR := HRC.out
    have HXC := Lib.hid (few_areas D9 hR.few)
    have HO9 := Lib.hid (dl_openg (R := 1073741824) (i := 1300000000001) (fr := fr) (first := 900) D9 hR.pln.sects hR.fit (by decide) hR.few (by decide) hR.calm.1 (by have := hR.nx; omega) (by decide))
    clear hR D9 hsc
    go_wp2_with fail
    refine HO9.out.mono ?_
    rintro e w10 ⟨xsc, hxc, hE10⟩
    obtain ⟨sta, e1, I1, s2, stb, e2, I2, s3, stc, e3, hc3, hC3', hP3, hF3, hcl3, hag⟩ := HRC.out.opens (b := [120]) (by omega) hxc (HXC.out xsc hxc) by120 (by decide)
    rw [e1] at hE10
    obtain ⟨g9, rfl, H10⟩ := hE10
    have H10 : ALs w8 w10 w10.heap.size g9 pc ⟨none, 900, [], [], fr, 0⟩ sta := H10
    have I1 : Inv ⟨none, 900, [], [], fr, 0⟩ sta 1073741824 1900000 1300001048601 := I1
    have e2 : apS ⟨none, 900, [], [], fr, 0⟩ sta [120] = (s2, stb, 0) := e2
    have HF := Lib.hid (al_first H10)
    have HL := Lib.hid (al_last H10 (Nat.zero_le _))
    simp only [show IntKind.u64.wrap (IntKind.u64.wrap ((900 : Int) + (([] : List (List Int)).length : Int)) - 1) = 899 by decide] at HL
    have HH10 := Lib.hid H10
    have HI1 := Lib.hid I1
    have HE2 := Lib.hid e2
    have HI2 := Lib.hid I2
    have HE3 := Lib.hid e3
    have HP3 := Lib.hid (And.intro hc3 (And.intro hC3' (And.intro hP3 (And.intro hF3 (And.intro hcl3 hag)))))
    have hnx := HRC.out.nx
    clear H10 I1 e1 e2 I2 e3 hc3 hC3' hP3 hF3 hcl3 hag hxc HXC HO9 HRC
    go_wp2_with fail
    refine HF.out.mono ?_
    rintro e w11 ⟨rfl, hw11⟩
    obtain rfl : w10 = w11 := hw11.symm
    go_wp2_with fail
    refine HL.out.mono ?_
    rintro e w11 ⟨rfl, hb11⟩
    have hN11 := (HH10.out.below hb11).bel
    have hconv := Lib.run_convert_bytes_const (P := Try.prog) w11 28 5 #[.int .u8 120] 1 1 Try.underlying28 Try.underlying5
    have hbX : Below w11.heap.size w11 (w11.alloc (.cells #[.int .u8 120] 5 (1, 2))) := (Below.refl _ _).alloc (Nat.le_refl _) _
    have hIX := ints_one w11 120 5 (1, 2)
    have hAP := al_append (b := [120]) ((HH10.out.below hb11).below hbX) HI1.out (by decide) (by decide) (by decide) hIX by120 (fun k hk _ => by cases hk; exact .inr hN11.2)
    rw [HE2.out] at hAP
    have HAP := Lib.hid hAP
    clear hAP hIX hbX HF HL HH10 hb11 HI1 HE2
    go_wp2_with fail
    refine HAP.out.mono ?_
    rintro e w12 ⟨rfl, H12⟩
    have H12 : ALs w8 w12 w12.heap.size g9 pc s2 stb := H12
    have hSY := al_sync H12 HI2.out (by decide) (by decide)
    rw [HE3.out] at hSY
    simp only [HP3.out.1] at hSY
    have HSY := Lib.hid hSY
    clear hSY H12 HI2 HE3 HAP
    go_wp2_with fail
    refine HSY.out.mono ?_
    rintro e w13 ⟨rfl, H13⟩
    have H13 : ALs w8 w13 w13.heap.size g9 pc s3 stc := H13
    have HXD := Lib.hid (few_areas H13.dl HP3.out.2.1)
    have HOZ := Lib.hid (dl_openg (R := 1073741824) (i := 1300001050402) (fr := fr) (first := 900) H13.dl HP3.out.2.2.1.sects HP3.out.2.2.2.1 (by decide) HP3.out.2.1 (by decide) HP3.out.2.2.2.2.1.1 (by omega) (by decide))
    clear H13 HSY
    go_wp2_with fail
    refine HOZ.out.mono ?_
    rintro e w14 ⟨ys, hys, hE14⟩
    obtain ⟨s4, st4b, e4, h41, h42⟩ := HP3.out.2.2.2.2.2 ys hys
    rw [e4] at hE14
    obtain ⟨g14, rfl, H14⟩ := hE14
    have H14 : ALs w8 w14 w14.heap.size g14 pc s4 st4b := H14
    have HL14 := al_last H14 (by omega)
    rw [h41] at HL14
    simp only [show IntKind.u64.wrap (IntKind.u64.wrap 901 - 1) = 900 by decide] at HL14
    have HL14 := Lib.hid HL14
    have hb14 := H14.bel.1
    have hbw := HBW.out
    have hsw := hbw.size
    have hs14 := hb14.size
    clear e4 h41 h42 H14 HOZ HP3 HXD hys
    go_wp2_with fail
    refine HL14.out.mono ?_
    rintro e w15 ⟨rfl, hb15⟩
    go_wp2_with fail
    go_ret
    exact ⟨rfl, (hbw.trans (hb14.mono hsw)).trans (hb15.mono (by omega))⟩
end Go.Proofs.Ytcpkpljeimbdiaa.W
namespace Go.Proofs.Ytcpkpljeimbdiaa.cWalResets
open Go.ChangeShapes Go.WideShapes Go.ChangeAt Go.RowKit Aid
open Go.ChangeMaps (open_string shut_string)
open K W
set_option linter.unusedVariables false
set_option linter.unusedSimpArgs false
theorem own : ownKnob Try.prog.godebug = none := by kernel_rfl
theorem laidOut : laidOutB Try.prog = true := by kernel_rfl
theorem readable : ∀ t ∈ Try.f6.params.toList, Try.prog.readableRec t = true ∧ t < Try.prog.types.size := by
  intro t ht
  rw [Try.params6] at ht
  simp only [List.mem_cons, List.not_mem_nil, or_false] at ht
  rcases ht with rfl | rfl | rfl
  all_goals exact ⟨by kernel_rfl, of_decide_eq_true (by kernel_rfl)⟩
theorem cells_li : Try.prog.cellsOf 3 = 1 := by kernel_rfl
theorem bytes_li : Try.prog.bytesOf 3 = 8 := by kernel_rfl
theorem bulk_pos {H : Type} (d : DataW H) : 1 ≤ Rows.uptoBulk d := by
  cases d with
  | lit l => cases l <;> simp [Rows.uptoBulk]
  | _ => simp [Rows.uptoBulk]
theorem bulk_len {H : Type} : ∀ (l : List (DataW H)), l.length ≤ Rows.uptoBulkAll l
  | [] => Nat.zero_le _
  | y :: l => by
    have h1 := bulk_pos y
    have h2 := bulk_len l
    simp only [Rows.uptoBulkAll, List.length_cons]
    omega
theorem ops_bulk {H : Type} {enc : TypeId × Value → H} {W : World} {v : Value} {d : DataW H} {p : List MemPlace} {n : Nat} {f : Nat → WOp}
    (h : DataW.Trod enc Try.prog W 0 (fun _ => true) true 45 v d p) (hO : WOps W v n f) : n ≤ Rows.uptoBulk d := by
  obtain ⟨a0, cap, hv, _⟩ := hO.2
  subst hv
  obtain ⟨fuel, hf⟩ := h
  rcases Go.Deep.open_slice Try.underlying45 hf with ⟨hcs, hx⟩ | ⟨a', len', cap', m, n', D, Pl, hcs, hab, hl, hm, hmm, hx, hel⟩
  · simp [Value.cells] at hcs
    omega
  · simp [Value.cells] at hcs
    obtain ⟨rfl, rfl, rfl⟩ := hcs
    simp only [Prod.mk.injEq] at hx
    rw [hx.1]
    simp only [Rows.uptoBulk]
    have := bulk_len ((List.range n).map D)
    simp only [List.length_map, List.length_range] at this
    omega
theorem arg_cap {H : Type} {enc : TypeId × Value → H} {P : Program} {W : World} {base : Nat} {sp : Nat → Bool} {held : Bool} {t e : TypeId} {v : Value} {d : DataW H} {p : List MemPlace}
    (ht : P.underlying t = some (.slice e)) (h : DataW.Trod enc P W base sp held t v d p) {a : Option Addr} {len cap : Nat} (hv : v = .slice a len cap) : len ≤ cap := by
  obtain ⟨fuel, hf⟩ := h
  subst hv
  rcases DataW.trod_slice ht hf with ⟨hcs, _⟩ | ⟨a', len', cap', _, _, _, _, hcs, _, _, hl, _⟩
  · simp [Value.cells] at hcs; omega
  · simp [Value.cells] at hcs; omega
set_option maxRecDepth 100000 in
theorem contract (H : Type) (enc : TypeId × Value → H) (W : World) (base : Nat) (args : Array Value) (ds gs : List (DataW H)) (before : List MemPlace)
    (hval : ∀ (j : Nat) t v, Try.f6.params[j]? = some t → args[j]? = some v → Value.okWide Try.prog W .any base t v)
    (hW : DataW.Whole enc Try.prog Try.f6.params.toList Rows.walResetsSpec.vars false W args.toList ds gs before) (hk : Rows.uptoSmall H (ds ++ gs) = true)
    (hsz : (DataW.weightsEach Try.prog (Try.f6.params.toList ++ []) (ds ++ gs)).all (· ≤ reachBytes) = true) :
    Calls Try.prog 6 args W fun e W' => ∃ v, e = .returned v ∧ Rows.walResetsSpec.post enc Try.prog Try.f6 false true false false W args v W' := by
  have hW' := hW
  obtain ⟨p, q, hA0, hV, rfl, hfz, hnd⟩ := hW
  have hA : DataW.TrodAll enc Try.prog W 0 (fun _ => true) true Try.f6.params.toList args.toList ds p := hA0
  have hlt : ∀ x ∈ p, x.block < W.heap.size := fun x hx => by simpa using hW'.lt x (by simp [hx])
  rw [Try.params6] at hA hval hsz
  obtain ⟨v0, vs0, d0, ds0, p0, q0, hargs, rfl, rfl, h0, r0⟩ := trodAll_cons hA
  obtain ⟨v1, vs1, d1, ds1, p1, q1, rfl, rfl, rfl, h1, r1⟩ := trodAll_cons r0
  obtain ⟨v2, vs2, d2, ds2, p2, q2, rfl, rfl, rfl, h2, r2⟩ := trodAll_cons r1
  obtain ⟨rfl, rfl, rfl⟩ := trodAll_nil r2
  obtain rfl : args = #[v0, v1, v2] := by cases args; simp_all
  obtain ⟨rfl, rfl⟩ := trodVars_none hV
  clear hA0
  have cO : Try.prog.cellsOf 55 = 3 := by kernel_rfl
  have bO : Try.prog.bytesOf 55 = 40 := by kernel_rfl
  have bU : Try.prog.bytesOf 5 = 1 := by kernel_rfl
  obtain ⟨n, f, hOps⟩ := WOps.arg Try.underlying45 Try.underlying55 cO rfl rfl rfl (by kernel_rfl) (by kernel_rfl) (by kernel_rfl) Try.underlying3 Try.underlying3 Try.underlying28 Try.underlying5 (by kernel_rfl) bO bU (hval 0 45 v0 rfl rfl) h0 (fun x hx => hlt x (by simp [hx])) (fun x hx => by
    have := List.all_eq_true.1 hsz x (DataW.weights_mem_each (j := 0) (t := 45) rfl rfl x hx)
    simpa using this)
  obtain ⟨at_, rfl, rfl, rfl, wat_⟩ := open_int Try.underlying3 (hval 1 3 v1 rfl rfl) h1
  obtain ⟨picks, hIpicks, hwpicks, hdpicks⟩ := arg_ints (k := .i64) Try.underlying24 Try.underlying3 cells_li (hval 2 24 v2 rfl rfl) h2 (fun x hx => hlt x (by simp [hx])) (fun elems spare hd => by
    subst hd
    have := sized_slice hsz (j := 2) (t := 24) (e := 3) rfl rfl Try.underlying24
    rw [bytes_li] at this
    simp only [reachBytes] at this
    omega)
  have hnpicks : picks.length * 8 ≤ 140737488351232 := by
    rcases hdpicks with ⟨_, rfl⟩ | ⟨spare, hd⟩
    · simp
    · subst hd
      have := sized_slice hsz (j := 2) (t := 24) (e := 3) rfl rfl Try.underlying24
      rw [bytes_li] at this
      simp only [reachBytes, lits, List.length_map] at this
      omega
  have hk1 : Rows.uptoBulkAll _ ≤ 1048576 := of_decide_eq_true hk
  simp only [Rows.uptoBulkAll, Rows.uptoBulk, List.cons_append, List.nil_append, List.append_nil] at hk1
  obtain ⟨va, vc, hv2⟩ := Ints.form hIpicks
  have hcap := arg_cap Try.underlying24 h2 hv2
  subst hv2
  have hb1 := ops_bulk h0 hOps
  refine (resets_law v0 n f at_ (.slice va picks.length vc) picks W hOps (by omega) wat_ hIpicks hcap hwpicks).mono fun e W' ⟨he, hb⟩ => ⟨_, he, law_post 4 laidOut readable rfl Try.underlying4 rfl rfl hW' hb⟩
set_option maxRecDepth 100000 in
theorem lifted (os : Os) (started : os.Started) (H : Type) (enc : TypeId × Value → H) (F : Stop.Interp) :
    ReturnsInHanded {} Try.checked os 6 .any ((Rows.OpenSpec.upto Rows.walResetsSpec).pre6 enc Try.prog Try.f6 Rows.walResetsUptoRow.domain false) (((Rows.OpenSpec.upto Rows.walResetsSpec).at F).post enc Try.prog Try.f6 false true false false) := by
  refine returnsInHanded_of_cond_sized (C := Try.checked) (s := Rows.OpenSpec.upto Rows.walResetsSpec) (k := Rows.uptoSmall) rfl own started (by kernel_rfl) Try.func6
    (OpenSpec.witness (enc := enc) (C := Try.checked) (s := Rows.OpenSpec.upto Rows.walResetsSpec) (k := Rows.uptoSmall) rfl false ⟨#[], #[.slice none 0 0, .int .i64 0, .slice none 0 0], []⟩ 8 (by kernel_rfl) (by kernel_rfl) (by kernel_rfl)
      (x := ([.nil, .lit (.int .i64 0), .nil], [], [])) (by kernel_rfl) rfl (by kernel_rfl)) ?_
  intro W base args ds gs before hval hW _ hk hsz _
  exact contract H enc W base args ds gs before hval hW hk hsz
theorem said : Rows.WalResetsUptoSaid :=
  OpenClaim.holds_of_cond 6 Try.f6 rfl rfl rfl rfl rfl rfl rfl ⟨rfl, rfl, rfl, rfl, rfl⟩ rfl rfl rfl rfl rfl (by kernel_rfl) Try.func6 (by kernel_rfl)
    (of_decide_eq_true (by kernel_rfl)) (by unfold Func.isWrapper; first | (rw [if_pos (by decide +kernel)]; kernel_rfl) | (rw [if_neg (by decide +kernel)]; exact ⟨rfl, rfl⟩))
    (fun os started H enc _ F => lifted os started H enc F)
end Go.Proofs.Ytcpkpljeimbdiaa.cWalResets
