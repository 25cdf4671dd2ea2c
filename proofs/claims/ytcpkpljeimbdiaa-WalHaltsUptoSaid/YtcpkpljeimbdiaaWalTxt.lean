/-
  The text of a segment.
-/
import Derived.Test.YtcpkpljeimbdiaaWalBy
import Derived.Test.YtcpkpljeimbdiaaDskMiss
import Derived.Deep.QuietTactic
import Derived.BigQuiet
namespace Go.Proofs.Ytcpkpljeimbdiaa.W
open Go.RowKit
open Aid K
set_option linter.unusedSimpArgs false
set_option linter.unusedVariables false

theorem wf_u64 {x : Int} (h0 : 0 ≤ x) (h1 : x < 18446744073709551616) : (Lit.int .u64 x).wf = true := by
  simp [Lit.wf, IntKind.min, IntKind.max, IntKind.signed, IntKind.bits]; omega
theorem wf_i64 {x : Int} (h0 : 0 ≤ x) (h1 : x ≤ 1000000) : (Lit.int .i64 x).wf = true := by
  simp [Lit.wf, IntKind.min, IntKind.max, IntKind.signed, IntKind.bits]; omega
theorem area_any (n : Int) (w : World) (h0 : 0 ≤ n) (h1 : 4 * n + 1 < 18446744073709551616) : Calls Try.prog 50 #[.int .u64 n] w fun e w' => e = .returned (.int .u64 (4 * n + 1)) ∧ w' = w := by
  have hw : IntKind.u64.wrap (4 * n) = 4 * n := by rw [IntKind.wrap_u64]; omega
  have hw2 : IntKind.u64.wrap (4 * n + 1) = 4 * n + 1 := by rw [IntKind.wrap_u64]; omega
  go_enter Try.func50, Try.ntmps50
  go_wp2_with fail
  go_ret
  exact ⟨rfl, rfl⟩
/-- a disk whose sectors are sectors -/
structure Sects (st : DSt) : Prop where
  full : ∀ a m L s, st.F a m = some (L, s) → L ≠ [] ∧ (L.getLastD ByteArray.empty).size = 64
  few : ∀ a m, (st.F a m).isSome = true → 0 ≤ m ∧ m < 65536
/-- what is read of a segment's sector -/
def sectF (st : DSt) (a : Int) (n : Nat) : Option (List Int) := (st.F a n).map fun s => bytesI (s.1.getLastD ByteArray.empty)
def usedF (s : List Int) : Nat := min (s.getD 0 0).toNat 63
/-- a segment's text from a sector on -/
def textF (st : DSt) (a : Int) : Nat → Nat → List Int
  | 0, _ => []
  | f + 1, n => match sectF st a n with
    | none => []
    | some s => (s.drop 1).take (usedF s) ++ (if usedF s < 63 then [] else textF st a f (n + 1))
theorem bytesI_by (b : ByteArray) : By8 (bytesI b) := by
  intro x hx
  unfold bytesI at hx
  obtain ⟨y, _, rfl⟩ := List.mem_map.1 hx
  have := y.toNat_lt
  omega
theorem getD_by {l : List Int} (h : By8 l) (k : Nat) : ∃ m : Nat, l.getD k 0 = (m : Int) ∧ m < 256 := by
  by_cases hk : k < l.length
  · have h1 := h (l.getD k 0) (by rw [List.getD_eq_getElem?_getD, List.getElem?_eq_getElem hk]; exact List.getElem_mem hk)
    exact ⟨(l.getD k 0).toNat, by omega, by omega⟩
  · exact ⟨0, by rw [List.getD_eq_getElem?_getD, List.getElem?_eq_none (by omega)]; rfl, by omega⟩
theorem ints_mid {w : World} {b o N c k : Nat} {s : List Int} (h : Ints w .u8 (.slice (some ⟨b, o, none⟩) N c) s) (hk : 1 + k ≤ N) : Ints w .u8 (.slice (some ⟨b, o + 1, none⟩) (1 + k - 1) (c - 1)) ((s.drop 1).take k) := by
  have h1 := ints_drop (ints_take h hk) (k := 1) (by omega)
  rw [List.drop_take, show 1 + k - 1 = k by omega] at h1
  rw [show 1 + k - 1 = k by omega]
  simpa [add_any] using h1
def JF (j f : Nat) : Prop := j + f = 65537 ∧ j ≤ 65536
theorem JF.start : JF 0 65537 := ⟨rfl, by omega⟩
theorem JF.pos {j f : Nat} (h : JF j f) : ∃ f', f = f' + 1 := ⟨f - 1, by have h1 := h.1; have h2 := h.2; omega⟩
theorem JF.next {j f : Nat} (h : JF j (f + 1)) (hj : (j : Int) < 65536) : JF (j + 1) f := ⟨by have h1 := h.1; omega, by omega⟩
def msr (v : Value) : Nat := (65537 - intOf v).toNat
theorem JF.less {j f : Nat} (h : JF j (f + 1)) : msr (.int .i64 ((j + 1 : Nat) : Int)) < msr (.int .i64 (j : Int)) := by
  have h1 := h.1
  have h2 := h.2
  show (65537 - ((j + 1 : Nat) : Int)).toNat < (65537 - (j : Int)).toNat
  omega
theorem JF.le {j f : Nat} (h : JF j f) : j ≤ 65536 := h.2
def TextEnd (t : List Int) (w : World) (e : Ending) (w' : World) : Prop := ∃ v, e = .returned v ∧ Own w' w.heap.size v t ∧ Below w.heap.size w w'
set_option maxRecDepth 100000 in
set_option maxHeartbeats 2000000 in
theorem text_any (O : Nat → Prop) (p : Nat) (st : DSt) (n : Int) (w : World) (h : DiskIs O w p st) (hS : Sects st) (h0 : 0 ≤ n) (h1 : 4 * n + 1 < 18446744073709551616) :
    Calls Try.prog 55 #[.pointer (some ⟨p, 0, none⟩), .int .u64 n] w (TextEnd (textF st (4 * n + 1) 65537 0) w) := by
  obtain ⟨iu, hiu, hzu, hsu, hbu⟩ := parts_u8
  have HS := Lib.hid hS
  have HD := Lib.hid h
  clear hS h
  go_enter Try.func55, Try.ntmps55
  go_wp2_with fail
  obtain ⟨T, hT⟩ : ∃ T, textF st (4 * n + 1) 65537 0 = T := ⟨_, rfl⟩
  rw [hT]
  go_loopw [5, 6] (fun x5 x6 wr => ∃ (j f : Nat) (l : List Int), x6 = .int .i64 j ∧ Hid (JF j f) ∧ l.length ≤ 63 * j ∧ Own wr w.heap.size x5 l ∧ Below w.heap.size w wr ∧ Hid (T = l ++ textF st (4 * n + 1) f j)) (fun _ x6 _ => msr x6)
  case atStart => exact ⟨0, 65537, [], rfl, Lib.hid JF.start, by simp, World.ownsRow_nil _ _ _ _, Below.refl _ _, Lib.hid hT.symm⟩
  case round =>
    clear hT
    obtain ⟨j, f, l, rfl, hjf, hl, hO, hb, hht⟩ := hrel
    have hj := hjf.out.le
    obtain ⟨f, rfl⟩ := hjf.out.pos
    have ht := hht.out
    clear hht
    rw [textF] at ht
    have hs := hb.size
    have harea := area_any n wr h0 h1
    have HO := Lib.hid hO
    have HB := Lib.hid hb
    have hIo := Ints.own hO (by omega)
    obtain ⟨oa, oc, hoe⟩ := hIo.form
    subst hoe
    clear hO hb hIo
    cases hq : sectF st (4 * n + 1) j with
    | none =>
      rw [hq] at ht
      simp only [List.append_nil] at ht
      have hq2 : st.F (4 * n + 1) j = none := by simpa [sectF] using hq
      have hm := read_gone O p st (4 * n + 1) j wr (HD.out.below HB.out) (wf_u64 (by omega) h1) (wf_i64 (by omega) (by omega)) hq2
      subst ht
      clear hq hq2
      go_wp2_with fail
      refine harea.mono ?_
      rintro e wq ⟨rfl, rfl⟩
      go_wp2_with fail
      refine hm.mono ?_
      rintro e w2 ⟨rfl, hb2⟩
      go_wp2_with fail
      go_ret
      exact ⟨_, rfl, owns_below HO.out hb2, HB.out.trans (hb2.mono hs)⟩
    | some s =>
      rw [hq] at ht
      have hq2 : ∃ L sy, st.F (4 * n + 1) j = some (L, sy) ∧ s = bytesI (L.getLastD ByteArray.empty) := by
        unfold sectF at hq
        cases e : st.F (4 * n + 1) j with
        | none => rw [e] at hq; cases hq
        | some x => rw [e] at hq; cases hq; exact ⟨x.1, x.2, rfl, rfl⟩
      obtain ⟨L, sy, hF, hse⟩ := hq2
      obtain ⟨hne, h64⟩ := HS.out.full _ _ _ _ hF
      have hfew := (HS.out.few (4 * n + 1) j (by rw [hF]; rfl)).2
      have hgl : L.getLast hne = L.getLastD ByteArray.empty := by rw [List.getLastD_eq_getLast?, List.getLast?_eq_some_getLast hne]; rfl
      have hr := read_there O p st (4 * n + 1) j L sy wr (HD.out.below HB.out) (wf_u64 (by omega) h1) (wf_i64 (by omega) (by omega)) hF hne (by rw [hgl]; omega)
      rw [hgl, ← hse] at hr
      have hby : By8 s := by rw [hse]; exact bytesI_by _
      have hsl : s.length = 64 := by rw [hse]; simp only [bytesI, List.length_map, Array.length_toList]; exact h64
      have hHR := Lib.hid hr
      have HT := Lib.hid ht
      clear hq hF hse hgl hr ht hne h64
      go_wp2_with fail
      refine harea.mono ?_
      rintro e wq ⟨rfl, rfl⟩
      go_wp2_with fail
      refine hHR.out.mono ?_
      rintro e w2 ⟨⟨v2, rfl, hI2, hc2⟩, hb2⟩
      obtain ⟨a2, c2, rfl⟩ := hI2.form
      obtain ⟨b, o, rfl, hbl, hcell⟩ := hI2.at_ (k := 0) (by omega) rfl
      rw [Nat.add_zero] at hcell
      have hcap := (hc2 b o _ _ rfl).2
      obtain ⟨N, hN⟩ : ∃ N, s.length = N := ⟨_, rfl⟩
      rw [hN] at hcap hI2 hc2 hsl
      rw [hN]
      have hN0 : 0 < N := by omega
      have hN1 : 63 < N := by omega
      have HN := Lib.hid hN
      clear hN
      obtain ⟨k, hk, hk8⟩ := getD_by hby 0
      rw [hk] at hcell
      have hu : usedF s = min k 63 := by unfold usedF; rw [hk]; rfl
      have HI2 := Lib.hid hI2
      have HU := Lib.hid hu
      have HK := Lib.hid hk
      have HSL := Lib.hid hsl
      have hO2 := owns_below HO.out hb2
      have hs2 := hb2.size
      have HO2 := Lib.hid hO2
      have HB2 := Lib.hid hb2
      clear hu hk hsl hI2 hc2 hO2 hb2 HO hHR harea
      have hbw := HB.out.trans (HB2.out.mono hs)
      have HBW := Lib.hid hbw
      have hw2s : w.heap.size ≤ w2.heap.size := by omega
      have hinext : IntKind.i64.wrap ((j : Int) + 1) = ((j + 1 : Nat) : Int) := IntWalk.i64_in _ (by omega)
      clear hbw hby
      by_cases h63 : (k : Int) < 63
      · have hI3 := ints_mid (k := k) HI2.out (by omega)
        have hl3 : ((s.drop 1).take k).length ≤ 63 := by rw [List.length_take]; omega
        have HI3 := Lib.hid hI3
        clear hI3
        go_wp2_with (at_builtin; refine wpList_append_ints _ (by rfl) _ _ 28 rfl w.heap.size 5 iu (.int .u8 0) 1 Try.underlying28 hiu hzu hsu hbu rfl .u8 _ _ _ rfl HO2.out _ ((s.drop 1).take k) rfl HI3.out (by unfold maxLen; omega) (by omega) hw2s ?_; intro v' w4 hown4 hb4)
        go_ret
        refine ⟨v', rfl, ?_, HBW.out.trans hb4⟩
        have ht := HT.out
        have hu63 : usedF s = k := by have := HU.out; omega
        rw [hu63, if_pos (by omega), List.append_nil] at ht
        rw [ht]
        show World.ownsRow _ _ _ _ _ _ _
        rw [List.length_append, List.map_append]
        exact hown4
      · obtain ⟨u, hu⟩ : ∃ u : Nat, u = 63 := ⟨_, rfl⟩
        have hmin : (if (63 : Int) < (k : Int) then (63 : Int) else (k : Int)) = (u : Int) := by split <;> omega
        have hI3 := ints_mid (k := u) HI2.out (by omega)
        have hl3 : ((s.drop 1).take u).length ≤ 63 := by rw [List.length_take]; omega
        have hu1 : 1 + u ≤ N := by omega
        have hu2 : ¬ ((u : Int) < 63) := by omega
        have hu3 : u < 64 := by omega
        have HI3 := Lib.hid hI3
        have HUE := Lib.hid hu
        clear hI3 hu
        go_wp2_with (at_builtin; refine wpList_append_ints _ (by rfl) _ _ 28 rfl w.heap.size 5 iu (.int .u8 0) 1 Try.underlying28 hiu hzu hsu hbu rfl .u8 _ _ _ rfl HO2.out _ ((s.drop 1).take u) rfl HI3.out (by unfold maxLen; omega) (by omega) hw2s ?_; intro v' w4 hown4 hb4; have HF := Lib.hid (And.intro hl3 (And.intro hj (And.intro hl hfew))); clear hmin hl3 hu1 hu3 hk8 hcap hN0 hN1 hfew hinext hj hl hs hs2 hw2s)
        obtain ⟨hl3, hj, hl, hfew⟩ := HF.out
        rw [HUE.out] at hown4 hl3
        have hinext : wrap64 ((j : Int) + 1) = ((j + 1 : Nat) : Int) := by rw [← IntWalk.i64_left]; exact IntWalk.i64_in _ (by omega)
        rw [hinext]
        have ht := HT.out
        have hu63 : usedF s = 63 := by have := HU.out; omega
        rw [hu63, if_neg (Nat.lt_irrefl 63), ← List.append_assoc] at ht
        clear hu63 hinext
        have HT2 := Lib.hid ht
        clear ht
        have hlen2 : (l ++ (s.drop 1).take 63).length ≤ 63 * (j + 1) := by rw [List.length_append]; omega
        have HJN := Lib.hid (hjf.out.next hfew)
        refine ⟨⟨j + 1, f, l ++ (s.drop 1).take 63, ?_, HJN, hlen2, ?_, HBW.out.trans hb4, HT2⟩, ?_⟩
        · rfl
        · show World.ownsRow _ _ _ _ _ _ _
          rw [List.length_append, List.map_append]
          exact hown4
        · exact hjf.out.less
end Go.Proofs.Ytcpkpljeimbdiaa.W
