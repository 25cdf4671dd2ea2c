/-
  Path: one way from a text to another.
-/
import Derived.Test.YtkgmikglifmenaaDoorEdPathB
import Derived.Deep.DeepCutAuto
import Derived.BigQuiet
namespace Go.Proofs.YtkgmikglifmenaaDoor.E
open Go.RowKit Go.Maps Aid L LM EM
set_option linter.unusedVariables false
set_option linter.unusedSimpArgs false

theorem one_str (w : World) (b : ByteArray) (B : Nat) (hB : B ≤ w.heap.size) : (w.alloc (.cells #[.string b] 9)).ownsRow B 9 1 (.slice (some ⟨w.heap.size, 0, none⟩) 1 1) 1 [.string b] :=
  ⟨rfl, .inr ⟨w.heap.size, 1, #[.string b], rfl, hB, Blk.alloc_new _ _ _, Nat.le_refl _, by unfold maxLen; omega, rfl, rfl⟩⟩
set_option maxRecDepth 100000 in
set_option maxHeartbeats 4000000 in
theorem path_any (a b : ByteArray) (w : World) (ha : (a.size : Int) ≤ 9223372036854775807) (hb : (b.size : Int) ≤ 9223372036854775807) (T : Tab w) :
    Calls Tryd.prog 6 #[.string a, .string b] w (PathPost w a b) := by
  have hboth := both_any a b w ha hb T
  cases hp : pairOf a b with
  | none =>
    have HB : Hid (Calls Tryd.prog 12 #[.string a, .string b] w fun e w' => ∃ v1 v2, e = .returned (.tuple #[v1, v2, .bool false]) ∧ Below w.heap.size w w') := hboth.mono fun e w' ⟨h1, h2⟩ => by
      rcases h2 with ⟨_, v1, v2, h3⟩ | ⟨l, m, v1, v2, h3, _⟩
      · exact ⟨v1, v2, h3, h1⟩
      · rw [hp] at h3; cases h3
    have HP := Lib.hid hp
    clear hboth hp
    go_enter Tryd.func6, Tryd.ntmps6
    go_wp2_with (go_at_call 12; refine (HB.out).mono ?_; rintro e w1 ⟨v1, v2, rfl, hb1⟩)
    go_ret2
    exact ⟨hb1, .inl ⟨HP.out, rfl⟩⟩
  | some p =>
    obtain ⟨l, m⟩ := p
    obtain ⟨hra, hrb, hl, hm⟩ := pair_of hp
    have hsl := (runes_iff.1 hra).1
    have hsm := (runes_iff.1 hrb).1
    have HB : Hid (Calls Tryd.prog 12 #[.string a, .string b] w fun e w' => ∃ v1 v2, e = .returned (.tuple #[v1, v2, .bool true]) ∧ Ints w' .i32 v1 l ∧ Ints w' .i32 v2 m ∧ Below w.heap.size w w') := hboth.mono fun e w' ⟨h1, h2⟩ => by
      rcases h2 with ⟨h3, _⟩ | ⟨l', m', v1, v2, h3, h4, h5, h6⟩
      · rw [hp] at h3; cases h3
      · rw [hp] at h3; cases h3; exact ⟨v1, v2, h4, h5, h6, h1⟩
    have HP := Lib.hid hp
    have HRA := Lib.hid hra
    have HRB := Lib.hid hrb
    have HSL := Lib.hid hsl
    have HSM := Lib.hid hsm
    clear hboth hp hra hrb hsl hsm
    go_enter Tryd.func6, Tryd.ntmps6
    go_upto_region 7 with (first
      | (go_at_call 12; refine (HB.out).mono ?_; rintro e w1 ⟨v1, v2, rfl, hI1, hI2, hb1⟩; obtain ⟨a1, c1, rfl⟩ := hI1.form; obtain ⟨a2, c2, rfl⟩ := hI2.form; have HI1 := Lib.hid hI1; have HI2 := Lib.hid hI2; clear hI1 hI2)
      | (go_at_call 13; refine (table_any _ _ l m _ HI1.out HI2.out hl hm).mono ?_; rintro e w2 ⟨hb2, v9, cs, A, rfl, hA, hBA, hFi, hrow⟩; obtain ⟨a9, c9, rfl⟩ := owns_shape hrow; have HBA := Lib.hid hBA; have HFI := Lib.hid hFi; have HROW := Lib.hid hrow; clear hBA hFi hrow)
      | (go_at_call 14; refine (clone_any _ m _ (HI2.out.below hb2) (by omega)).mono ?_; rintro e w3 ⟨v12, rfl, hown, hb3⟩; obtain ⟨a12, c12, rfl⟩ := owns_shape hown; have HOWN := Lib.hid hown; clear hown))
    obtain ⟨j0, hj0', hj1', hj2', hj3'⟩ := info_parts info_str
    have hT2 := (T.below hb1).below hb2
    have HT2 := Lib.hid hT2
    clear hT2
    have hst0 : PIn w2 (w3.alloc (.cells #[.string b] 9)) l m l.length m.length (.slice a12 m.length c12) (.slice (some ⟨w3.heap.size, 0, none⟩) 1 1) [b] := by
      have hz := hb3.size
      have hal : Below w3.heap.size w3 (w3.alloc (.cells #[.string b] 9)) := (Below.refl _ _).alloc (Nat.le_refl _) _
      refine ⟨?_, one_str w3 b _ hz, fun x hx e => ?_, hb3.trans (hal.mono hz)⟩
      · rw [cur_start, Nat.sub_self, Nat.add_zero]
        exact owns_below HOWN.out hal
      · have := (HOWN.out.lt x hx).2
        have e' : some w3.heap.size = some x := e
        simp only [Option.some.injEq] at e'
        omega
    have HST0 := Lib.hid hst0
    clear hst0
    go_wp2_with fail
    go_loopw [10, 11, 12, 13] (fun x10 x11 x12 x13 wr => ∃ (i j : Nat) (TT : List ByteArray), x10 = .int .i64 i ∧ x11 = .int .i64 j ∧ Hid (PathInv b l m i j TT) ∧ Hid (PIn w2 wr l m i j x12 x13 TT)) (fun x10 x11 _ _ _ => (intOf x10).toNat + (intOf x11).toNat)
    case atStart => exact ⟨l.length, m.length, [b], rfl, rfl, Lib.hid (PathInv.start HRB.out hl hm), HST0⟩
    case round =>
      obtain ⟨i, j, TT, rfl, rfl, HPI, HIN⟩ := hrel
      have hin := HIN.out
      have hbw := hin.below
      have hwz := hbw.size
      obtain ⟨na, nc, hvn⟩ := owns_shape hin.now
      obtain ⟨pa, pc, hvp⟩ := owns_shape hin.path
      subst hvn hvp
      have hil := HPI.out.hi
      have hjm := HPI.out.hj
      have hlv := lv_max l m
      have htl := HPI.out.len
      have htt : TT.length ≤ 1025 := by omega
      have htp : 0 < TT.length := by
        have := HPI.out.head
        cases TT with
        | nil => cases this
        | cons x t => simp
      obtain ⟨n, hn⟩ : ∃ n, j + (l.length - i) = n := ⟨_, rfl⟩
      rw [hn] at hin ⊢
      have hDle := D_le l m hil hjm
      clear HIN HST0 hlv htl
      by_cases hi0 : i = 0
      · by_cases hj0 : j = 0
        · --EXIT
          obtain ⟨pb, pcap, e, hpb, hprow⟩ := owns_row hin.path (fun e => by simp only [Value.slice.injEq] at e; omega)
          simp only [Value.slice.injEq] at e
          obtain ⟨rfl, _, rfl⟩ := e
          have gi : decide ((0 : Int) < (i : Int)) = false := decide_eq_false (by omega)
          have gi' : decide (0 < i) = false := decide_eq_false (by omega)
          have gj : decide ((0 : Int) < (j : Int)) = false := decide_eq_false (by omega)
          have gj' : decide (0 < j) = false := decide_eq_false (by omega)
          have hok : PathOk a b (lv l m) TT.reverse := PathInv.ok (by have := HPI.out; rw [hi0, hj0] at this; exact this) HRA.out
          have hin1 := hin.below
          have HOK := Lib.hid hok
          have HIN1 := Lib.hid hin1
          have HROWP := Lib.hid hprow
          clear hok hin1 hprow hin hi0 hj0 hn
          go_wp2_with (go_at_call 18; refine (reverse_any pb TT.length pc TT _ HROWP.out (by omega)).mono ?_; rintro e w7 ⟨rfl, hr7, ht7⟩)
          go_ret2
          have hb17 : Below w.heap.size w w2 := hb1.trans (hb2.mono hb1.size)
          have hb27 : Below w2.heap.size w2 w7 := HIN1.out.trans (ht7.below HIN1.out.size (fun x hx => by have : x = pb := hx; omega))
          refine ⟨hb17.trans (hb27.mono hb17.size), .inr ⟨l, m, _, TT.reverse, HP.out, rfl, ?_, HOK.out⟩⟩
          rw [List.length_reverse]
          exact hr7.owns (by have := hb17.size; omega)
        · have hj1x : 0 < j := by omega
          obtain ⟨N, hN⟩ : ∃ N, D l m i j = N := ⟨_, rfl⟩
          have hNb : N ≤ 1024 := by have := hDle; rw [hN] at this; omega
          obtain ⟨R, cR, eR, hR, ri2⟩ := row_cell HROW.out (p := i) (by omega)
          simp only [Value.slice.injEq] at eR
          obtain ⟨rfl, _, rfl⟩ := eR
          have hA2 := HBA.out.lt
          have dij2 : w2.cell? ⟨A, i * (m.length + 1) + j, none⟩ = some (.int .i64 N) := (HBA.out.cell _).trans (by rw [HFI.out i j (by omega) (by omega), hN])
          have i0 : (0 : Int) ≤ (i : Int) := by omega
          have i9 : (i : Int) < (l.length : Int) + 1 := by omega
          have jz : (0 : Int) ≤ (j : Int) := by omega
          have j9 : (j : Int) < (m.length : Int) + 1 := by omega
          have gi : decide ((0 : Int) < (i : Int)) = false := decide_eq_false (by omega)
          have gi' : decide (0 < i) = false := decide_eq_false (by omega)
          obtain ⟨q, hjq⟩ : ∃ q, j = q + 1 := ⟨j - 1, by omega⟩
          have hqm : q < m.length := by omega
          obtain ⟨mq, hmq⟩ : ∃ mq, m[q] = mq := ⟨_, rfl⟩
          obtain ⟨gm, om, e2, hgm1, cm1⟩ := Ints.at_ HI2.out (k := q) hqm (x := mq) (by rw [← hmq]; simp [List.getD_eq_getElem?_getD, hqm])
          subst e2
          have hgm : gm < w2.heap.size := Nat.lt_of_lt_of_le hgm1 hb2.size
          have cm2 := (hb2.cell (p := ⟨gm, om + q, none⟩) hgm1).trans cm1
          have wj : IntKind.i64.wrap ((j : Int) - 1) = (q : Int) := by rw [IntWalk.i64_in _ (by omega)]; omega
          have hj1 : (j : Int) - 1 = (q : Int) := by omega
          have q0 : (0 : Int) ≤ (q : Int) := by omega
          have q1 : (q : Int) < (m.length : Int) := by omega
          have q2 : (q : Int) < (m.length : Int) + 1 := by omega
          obtain ⟨P1, hP1⟩ : ∃ P1, D l m i q = P1 := ⟨_, rfl⟩
          have diq2 : w2.cell? ⟨A, i * (m.length + 1) + q, none⟩ = some (.int .i64 P1) := (HBA.out.cell _).trans (by rw [HFI.out i q (by omega) (by omega), hP1])
          have gj : decide ((0 : Int) < (j : Int)) = true := decide_eq_true (by omega)
          have gj' : decide (0 < j) = true := decide_eq_true (by omega)
          have hNj : N = j := by rw [← hN, hi0, D_zero_left l m (by omega)]
          have hPq : P1 = q := by rw [← hP1, hi0, D_zero_left l m (by omega)]
          obtain ⟨k, hk⟩ : ∃ k, N = k + 1 := ⟨N - 1, by omega⟩
          have wk : IntKind.i64.wrap ((N : Int) - 1) = (k : Int) := by rw [IntWalk.i64_in _ (by omega)]; omega
          have hk1 : (N : Int) - 1 = (k : Int) := by omega
          have kb : (k : Int) ≤ 1024 := by omega
          have k0 : (0 : Int) ≤ (k : Int) := by omega
          have e17 : ((P1 : Int) == (k : Int)) = true := by rw [beq_iff_eq]; omega
          have hd : D l m i q + 1 = D l m i j := by rw [hP1, hN]; omega
          have HD := Lib.hid hd
          have hst : ∀ W, PIn w2 W l m i j (.slice na n nc) (.slice pa TT.length pc) TT → Calls Tryd.prog 15 #[.slice na n nc, .int .i64 (q : Int), .int .i64 (j : Int)] W (StepEnd w2 l m i q (.slice pa TT.length pc) TT) := fun W h => del_step (q := q) (by rw [← hjq]; exact h) (by omega) hqm (by omega) rfl (by omega)
          have HSTA := Lib.hid hst
          clear hd hst hNj hPq hi0
          have HNN := Lib.hid hN
          have HNX := Lib.hid hn
          have HJQ := Lib.hid hjq
          have HMQ := Lib.hid hmq
          have HP1 := Lib.hid hP1
          have HKK := Lib.hid hk
          clear hN hn hjq hmq hP1 cm1 hk
          have cm_wr := (hbw.cell (p := ⟨gm, om + q, none⟩) hgm).trans cm2
          have ri_wr := (hbw.cell (p := ⟨R, i, none⟩) hR).trans ri2
          have dij_wr := (hbw.cell (p := ⟨A, i * (m.length + 1) + j, none⟩) hA2).trans dij2
          have diq_wr := (hbw.cell (p := ⟨A, i * (m.length + 1) + q, none⟩) hA2).trans diq2
          go_wp2_with fail
          go_quiet (fail)
          have hbqW5 := below_drewN (Below.refl wr.heap.size wr) nq
          obtain ⟨W5, hW5⟩ : ∃ W, wr.drewN nq = W := ⟨_, rfl⟩
          rw [hW5] at hbqW5 ⊢
          have hinW5 := hin.later hbqW5
          have hbwW5 := hinW5.below
          clear hW5 nq
          have cm_W5 := (hbwW5.cell (p := ⟨gm, om + q, none⟩) hgm).trans cm2
          have ri_W5 := (hbwW5.cell (p := ⟨R, i, none⟩) hR).trans ri2
          have dij_W5 := (hbwW5.cell (p := ⟨A, i * (m.length + 1) + j, none⟩) hA2).trans dij2
          have diq_W5 := (hbwW5.cell (p := ⟨A, i * (m.length + 1) + q, none⟩) hA2).trans diq2
          have HST := Lib.hid (HSTA.out _ hinW5)
          go_wp2_with (first
            | (at_builtin; refine wpList_append_own_at _ rfl _ _ 25 rfl w2.heap.size 9 j0 (.string .empty) 1 16 Tryd.underlying25 hj0' hj1' hj2' hj3' rfl (by decide) (.slice pa TT.length pc) _ _ rfl (h8.path.alloc _) ⟨w8.heap.size, 0, none⟩ 1 1 _ rfl rfl (World.news_of_block (Blk.alloc_new _ _ _)) (by intro y hy; simp at hy; subst hy; rfl) (by unfold maxLen; omega) (by omega) (by simp; omega) ?_; intro v9' w9 hown9 hgrow9 hnil9 hat9; have h9 := h8.add (t := t) ((Below.refl w8.heap.size w8).alloc (Nat.le_refl _) (.cells #[.string t] 9)) hown9 hgrow9 hat9; have H9 := Lib.hid h9; have HTR := Lib.hid htr; clear h9 hown9 hgrow9 hnil9 hat9 htr)
            | (go_at_call 17; refine (text_step h7 (by omega) (by omega) hl hm HSL.out HSM.out HT2.out).mono ?_; rintro e w8 ⟨t, rfl, htr, hb8⟩; have h8 := h7.later hb8; have hz8 := h8.below.size)
            | (go_at_call 15; refine (HST.out).mono ?_; rintro e w7 ⟨na', nc', rfl, h7⟩))
          refine ⟨⟨i, q, TT ++ [t], by first | rfl | (congr 1; omega), by first | rfl | (congr 1; omega), Lib.hid (HPI.out.step (by omega) (by omega) HD.out (by rw [HJQ.out]; exact cur_del hqm) HTR.out), H9⟩, ?_⟩
          simp [intOf]; omega
      · have hi1x : 0 < i := by omega
        by_cases hj0 : j = 0
        · have hjzz : j ≤ 0 := by omega
          obtain ⟨N, hN⟩ : ∃ N, D l m i j = N := ⟨_, rfl⟩
          have hNb : N ≤ 1024 := by have := hDle; rw [hN] at this; omega
          obtain ⟨R, cR, eR, hR, ri2⟩ := row_cell HROW.out (p := i) (by omega)
          simp only [Value.slice.injEq] at eR
          obtain ⟨rfl, _, rfl⟩ := eR
          have hA2 := HBA.out.lt
          have dij2 : w2.cell? ⟨A, i * (m.length + 1) + j, none⟩ = some (.int .i64 N) := (HBA.out.cell _).trans (by rw [HFI.out i j (by omega) (by omega), hN])
          have i0 : (0 : Int) ≤ (i : Int) := by omega
          have i9 : (i : Int) < (l.length : Int) + 1 := by omega
          have jz : (0 : Int) ≤ (j : Int) := by omega
          have j9 : (j : Int) < (m.length : Int) + 1 := by omega
          obtain ⟨p, hip⟩ : ∃ p, i = p + 1 := ⟨i - 1, by omega⟩
          have hpl : p < l.length := by omega
          obtain ⟨lp, hlp⟩ : ∃ lp, l[p] = lp := ⟨_, rfl⟩
          obtain ⟨gl, ol, e1, hgl1, cl1⟩ := Ints.at_ HI1.out (k := p) hpl (x := lp) (by rw [← hlp]; simp [List.getD_eq_getElem?_getD, hpl])
          subst e1
          have hgl : gl < w2.heap.size := Nat.lt_of_lt_of_le hgl1 hb2.size
          have cl2 := (hb2.cell (p := ⟨gl, ol + p, none⟩) hgl1).trans cl1
          obtain ⟨R', cR', eR', _, rp2⟩ := row_cell HROW.out (p := p) (by omega)
          simp only [Value.slice.injEq, Option.some.injEq, Addr.mk.injEq] at eR'
          obtain ⟨⟨rfl, _⟩, _, rfl⟩ := eR'
          have wi : IntKind.i64.wrap ((i : Int) - 1) = (p : Int) := by rw [IntWalk.i64_in _ (by omega)]; omega
          have hi1 : (i : Int) - 1 = (p : Int) := by omega
          have p0 : (0 : Int) ≤ (p : Int) := by omega
          have p1 : (p : Int) < (l.length : Int) := by omega
          have p2 : (p : Int) < (l.length : Int) + 1 := by omega
          have gi : decide ((0 : Int) < (i : Int)) = true := decide_eq_true (by omega)
          have gi' : decide (0 < i) = true := decide_eq_true (by omega)
          have gj : decide ((0 : Int) < (j : Int)) = false := decide_eq_false (by omega)
          have gj' : decide (0 < j) = false := decide_eq_false (by omega)
          have hd : D l m p j + 1 = D l m i j := by rw [hj0, D_zero_right l m (by omega), D_zero_right l m (by omega)]; omega
          have HD := Lib.hid hd
          have hst : ∀ W, PIn w2 W l m i j (.slice na n nc) (.slice pa TT.length pc) TT → Calls Tryd.prog 16 #[.slice na n nc, .int .i64 (j : Int), .slice (some ⟨W.heap.size, 0, none⟩) 1 1] (W.alloc (.cells #[.int .i32 lp] 21)) (StepEnd w2 l m p j (.slice pa TT.length pc) TT) := fun W h => ins_step (p := p) (by rw [← hip]; exact h) hpl (by omega) hl hm (by omega) rfl hlp
          have HSTA := Lib.hid hst
          clear hd hst hj0
          have HNN := Lib.hid hN
          have HNX := Lib.hid hn
          have HIP := Lib.hid hip
          have HLP := Lib.hid hlp
          clear hN hn hip hlp cl1
          have cl_wr := (hbw.cell (p := ⟨gl, ol + p, none⟩) hgl).trans cl2
          have ri_wr := (hbw.cell (p := ⟨R, i, none⟩) hR).trans ri2
          have rp_wr := (hbw.cell (p := ⟨R, p, none⟩) hR).trans rp2
          have dij_wr := (hbw.cell (p := ⟨A, i * (m.length + 1) + j, none⟩) hA2).trans dij2
          go_wp2_with fail
          go_quiet (fail)
          have hbqW5 := below_drewN (Below.refl wr.heap.size wr) nq
          obtain ⟨W5, hW5⟩ : ∃ W, wr.drewN nq = W := ⟨_, rfl⟩
          rw [hW5] at hbqW5 ⊢
          have hinW5 := hin.later hbqW5
          have hbwW5 := hinW5.below
          clear hW5 nq
          have cl_W5 := (hbwW5.cell (p := ⟨gl, ol + p, none⟩) hgl).trans cl2
          have ri_W5 := (hbwW5.cell (p := ⟨R, i, none⟩) hR).trans ri2
          have rp_W5 := (hbwW5.cell (p := ⟨R, p, none⟩) hR).trans rp2
          have dij_W5 := (hbwW5.cell (p := ⟨A, i * (m.length + 1) + j, none⟩) hA2).trans dij2
          have HST := Lib.hid (HSTA.out _ hinW5)
          go_wp2_with (first
            | (at_builtin; refine wpList_append_own_at _ rfl _ _ 25 rfl w2.heap.size 9 j0 (.string .empty) 1 16 Tryd.underlying25 hj0' hj1' hj2' hj3' rfl (by decide) (.slice pa TT.length pc) _ _ rfl (h8.path.alloc _) ⟨w8.heap.size, 0, none⟩ 1 1 _ rfl rfl (World.news_of_block (Blk.alloc_new _ _ _)) (by intro y hy; simp at hy; subst hy; rfl) (by unfold maxLen; omega) (by omega) (by simp; omega) ?_; intro v9' w9 hown9 hgrow9 hnil9 hat9; have h9 := h8.add (t := t) ((Below.refl w8.heap.size w8).alloc (Nat.le_refl _) (.cells #[.string t] 9)) hown9 hgrow9 hat9; have H9 := Lib.hid h9; have HTR := Lib.hid htr; clear h9 hown9 hgrow9 hnil9 hat9 htr)
            | (go_at_call 17; refine (text_step h7 (by omega) (by omega) hl hm HSL.out HSM.out HT2.out).mono ?_; rintro e w8 ⟨t, rfl, htr, hb8⟩; have h8 := h7.later hb8; have hz8 := h8.below.size)
            | (go_at_call 16; refine (HST.out).mono ?_; rintro e w7 ⟨na', nc', rfl, h7⟩))
          refine ⟨⟨p, j, TT ++ [t], by first | rfl | (congr 1; omega), by first | rfl | (congr 1; omega), Lib.hid (HPI.out.step (by omega) (by omega) HD.out (by rw [HIP.out]; exact cur_ins hpl) HTR.out), H9⟩, ?_⟩
          simp [intOf]; omega
        · have hj1x : 0 < j := by omega
          obtain ⟨N, hN⟩ : ∃ N, D l m i j = N := ⟨_, rfl⟩
          have hNb : N ≤ 1024 := by have := hDle; rw [hN] at this; omega
          obtain ⟨R, cR, eR, hR, ri2⟩ := row_cell HROW.out (p := i) (by omega)
          simp only [Value.slice.injEq] at eR
          obtain ⟨rfl, _, rfl⟩ := eR
          have hA2 := HBA.out.lt
          have dij2 : w2.cell? ⟨A, i * (m.length + 1) + j, none⟩ = some (.int .i64 N) := (HBA.out.cell _).trans (by rw [HFI.out i j (by omega) (by omega), hN])
          have i0 : (0 : Int) ≤ (i : Int) := by omega
          have i9 : (i : Int) < (l.length : Int) + 1 := by omega
          have jz : (0 : Int) ≤ (j : Int) := by omega
          have j9 : (j : Int) < (m.length : Int) + 1 := by omega
          obtain ⟨p, hip⟩ : ∃ p, i = p + 1 := ⟨i - 1, by omega⟩
          have hpl : p < l.length := by omega
          obtain ⟨lp, hlp⟩ : ∃ lp, l[p] = lp := ⟨_, rfl⟩
          obtain ⟨gl, ol, e1, hgl1, cl1⟩ := Ints.at_ HI1.out (k := p) hpl (x := lp) (by rw [← hlp]; simp [List.getD_eq_getElem?_getD, hpl])
          subst e1
          have hgl : gl < w2.heap.size := Nat.lt_of_lt_of_le hgl1 hb2.size
          have cl2 := (hb2.cell (p := ⟨gl, ol + p, none⟩) hgl1).trans cl1
          obtain ⟨R', cR', eR', _, rp2⟩ := row_cell HROW.out (p := p) (by omega)
          simp only [Value.slice.injEq, Option.some.injEq, Addr.mk.injEq] at eR'
          obtain ⟨⟨rfl, _⟩, _, rfl⟩ := eR'
          have wi : IntKind.i64.wrap ((i : Int) - 1) = (p : Int) := by rw [IntWalk.i64_in _ (by omega)]; omega
          have hi1 : (i : Int) - 1 = (p : Int) := by omega
          have p0 : (0 : Int) ≤ (p : Int) := by omega
          have p1 : (p : Int) < (l.length : Int) := by omega
          have p2 : (p : Int) < (l.length : Int) + 1 := by omega
          have gi : decide ((0 : Int) < (i : Int)) = true := decide_eq_true (by omega)
          have gi' : decide (0 < i) = true := decide_eq_true (by omega)
          obtain ⟨q, hjq⟩ : ∃ q, j = q + 1 := ⟨j - 1, by omega⟩
          have hqm : q < m.length := by omega
          obtain ⟨mq, hmq⟩ : ∃ mq, m[q] = mq := ⟨_, rfl⟩
          obtain ⟨gm, om, e2, hgm1, cm1⟩ := Ints.at_ HI2.out (k := q) hqm (x := mq) (by rw [← hmq]; simp [List.getD_eq_getElem?_getD, hqm])
          subst e2
          have hgm : gm < w2.heap.size := Nat.lt_of_lt_of_le hgm1 hb2.size
          have cm2 := (hb2.cell (p := ⟨gm, om + q, none⟩) hgm1).trans cm1
          have wj : IntKind.i64.wrap ((j : Int) - 1) = (q : Int) := by rw [IntWalk.i64_in _ (by omega)]; omega
          have hj1 : (j : Int) - 1 = (q : Int) := by omega
          have q0 : (0 : Int) ≤ (q : Int) := by omega
          have q1 : (q : Int) < (m.length : Int) := by omega
          have q2 : (q : Int) < (m.length : Int) + 1 := by omega
          obtain ⟨P1, hP1⟩ : ∃ P1, D l m i q = P1 := ⟨_, rfl⟩
          have diq2 : w2.cell? ⟨A, i * (m.length + 1) + q, none⟩ = some (.int .i64 P1) := (HBA.out.cell _).trans (by rw [HFI.out i q (by omega) (by omega), hP1])
          have gj : decide ((0 : Int) < (j : Int)) = true := decide_eq_true (by omega)
          have gj' : decide (0 < j) = true := decide_eq_true (by omega)
          obtain ⟨P0, hP0⟩ : ∃ P0, D l m p q = P0 := ⟨_, rfl⟩
          have dpq2 : w2.cell? ⟨A, p * (m.length + 1) + q, none⟩ = some (.int .i64 P0) := (HBA.out.cell _).trans (by rw [HFI.out p q (by omega) (by omega), hP0])
          by_cases heq : lp = mq
          · have eqb : (lp == mq) = true := by rw [beq_iff_eq]; exact heq
            have hsm : PathInv b l m p q TT := PathInv.same (by rw [← hip, ← hjq]; exact HPI.out) hpl hqm (by rw [hlp, hmq]; exact heq)
            have HSM2 := Lib.hid hsm
            have hcs := cur_same hpl hqm (by rw [hlp, hmq]; exact heq)
            have hpin : ∀ W, PIn w2 W l m i j (.slice na n nc) (.slice pa TT.length pc) TT → PIn w2 W l m p q (.slice na n nc) (.slice pa TT.length pc) TT := fun W h => ⟨by have := h.now; rw [hip, hjq, hcs] at this; rw [show q + (l.length - p) = q + 1 + (l.length - (p + 1)) by omega]; exact this, h.path, h.apart, h.below⟩
            have HPIN := Lib.hid hpin
            clear hsm hcs hpin heq
            have HNN := Lib.hid hN
            have HNX := Lib.hid hn
            have HIP := Lib.hid hip
            have HLP := Lib.hid hlp
            have HJQ := Lib.hid hjq
            have HMQ := Lib.hid hmq
            have HP1 := Lib.hid hP1
            have HP0 := Lib.hid hP0
            clear hN hn hip hlp cl1 hjq hmq hP1 cm1 hP0
            have cl_wr := (hbw.cell (p := ⟨gl, ol + p, none⟩) hgl).trans cl2
            have cm_wr := (hbw.cell (p := ⟨gm, om + q, none⟩) hgm).trans cm2
            have ri_wr := (hbw.cell (p := ⟨R, i, none⟩) hR).trans ri2
            have rp_wr := (hbw.cell (p := ⟨R, p, none⟩) hR).trans rp2
            have dij_wr := (hbw.cell (p := ⟨A, i * (m.length + 1) + j, none⟩) hA2).trans dij2
            have diq_wr := (hbw.cell (p := ⟨A, i * (m.length + 1) + q, none⟩) hA2).trans diq2
            have dpq_wr := (hbw.cell (p := ⟨A, p * (m.length + 1) + q, none⟩) hA2).trans dpq2
            go_wp2_with fail
            go_quiet (fail)
            have hbqW5 := below_drewN (Below.refl wr.heap.size wr) nq
            obtain ⟨W5, hW5⟩ : ∃ W, wr.drewN nq = W := ⟨_, rfl⟩
            rw [hW5] at hbqW5 ⊢
            have hinW5 := hin.later hbqW5
            have hbwW5 := hinW5.below
            clear hW5 nq
            have cl_W5 := (hbwW5.cell (p := ⟨gl, ol + p, none⟩) hgl).trans cl2
            have cm_W5 := (hbwW5.cell (p := ⟨gm, om + q, none⟩) hgm).trans cm2
            have ri_W5 := (hbwW5.cell (p := ⟨R, i, none⟩) hR).trans ri2
            have rp_W5 := (hbwW5.cell (p := ⟨R, p, none⟩) hR).trans rp2
            have dij_W5 := (hbwW5.cell (p := ⟨A, i * (m.length + 1) + j, none⟩) hA2).trans dij2
            have diq_W5 := (hbwW5.cell (p := ⟨A, i * (m.length + 1) + q, none⟩) hA2).trans diq2
            have dpq_W5 := (hbwW5.cell (p := ⟨A, p * (m.length + 1) + q, none⟩) hA2).trans dpq2
            go_wp2_with fail
            refine ⟨⟨p, q, TT, by first | rfl | (congr 1; omega), by first | rfl | (congr 1; omega), HSM2, Lib.hid (HPIN.out _ hinW5)⟩, ?_⟩
            simp [intOf]; omega
          · have eqb : (lp == mq) = false := by rw [beq_eq_false_iff_ne]; exact heq
            have hDo := D_other l m hpl hqm (by rw [hlp, hmq]; exact heq)
            have hDo' := D_other' (l := l) (m := m) hpl hqm (by rw [hlp, hmq]; exact heq)
            rw [← hip, ← hjq, hN] at hDo
            rw [← hip, ← hjq, hN, hP0, hP1] at hDo'
            obtain ⟨k, hk⟩ : ∃ k, N = k + 1 := ⟨N - 1, by omega⟩
            have wk : IntKind.i64.wrap ((N : Int) - 1) = (k : Int) := by rw [IntWalk.i64_in _ (by omega)]; omega
            have hk1 : (N : Int) - 1 = (k : Int) := by omega
            have kb : (k : Int) ≤ 1024 := by omega
            have k0 : (0 : Int) ≤ (k : Int) := by omega
            by_cases hC : P0 = k
            · have e14 : ((P0 : Int) == (k : Int)) = true := by rw [beq_iff_eq]; omega
              have hd : D l m p q + 1 = D l m i j := by rw [hP0, hN]; omega
              have HD := Lib.hid hd
              have hone : once (curL l m p q) (curL l m i j) = true := by rw [hip, hjq]; exact cur_sub hpl hqm (by rw [hlp, hmq]; exact heq)
              have HONE := Lib.hid hone
              have hst : ∀ W, PIn w2 W l m i j (.slice na n nc) (.slice pa TT.length pc) TT → ∃ b, na = some ⟨b, 0, none⟩ ∧ (∃ v, W.cell? ⟨b, q, none⟩ = some v) ∧ W.frozen? ⟨b, q, none⟩ = false ∧ PIn w2 (W.setCell ⟨b, q, none⟩ (.int .i32 lp)) l m p q (.slice na n nc) (.slice pa TT.length pc) TT := fun W h => sub_step (by rw [← hip, ← hjq]; exact h) hpl hqm (by omega) hlp
              have qn : (q : Int) < (n : Int) := by omega
              have HSTA := Lib.hid hst
              clear hd hst hone hC hDo hDo' heq
              have HNN := Lib.hid hN
              have HNX := Lib.hid hn
              have HIP := Lib.hid hip
              have HLP := Lib.hid hlp
              have HJQ := Lib.hid hjq
              have HMQ := Lib.hid hmq
              have HP1 := Lib.hid hP1
              have HP0 := Lib.hid hP0
              have HKK := Lib.hid hk
              clear hN hn hip hlp cl1 hjq hmq hP1 cm1 hP0 hk
              have cl_wr := (hbw.cell (p := ⟨gl, ol + p, none⟩) hgl).trans cl2
              have cm_wr := (hbw.cell (p := ⟨gm, om + q, none⟩) hgm).trans cm2
              have ri_wr := (hbw.cell (p := ⟨R, i, none⟩) hR).trans ri2
              have rp_wr := (hbw.cell (p := ⟨R, p, none⟩) hR).trans rp2
              have dij_wr := (hbw.cell (p := ⟨A, i * (m.length + 1) + j, none⟩) hA2).trans dij2
              have diq_wr := (hbw.cell (p := ⟨A, i * (m.length + 1) + q, none⟩) hA2).trans diq2
              have dpq_wr := (hbw.cell (p := ⟨A, p * (m.length + 1) + q, none⟩) hA2).trans dpq2
              go_wp2_with fail
              go_quiet (fail)
              have hbqW5 := below_drewN (Below.refl wr.heap.size wr) nq
              obtain ⟨W5, hW5⟩ : ∃ W, wr.drewN nq = W := ⟨_, rfl⟩
              rw [hW5] at hbqW5 ⊢
              have hinW5 := hin.later hbqW5
              have hbwW5 := hinW5.below
              clear hW5 nq
              have cl_W5 := (hbwW5.cell (p := ⟨gl, ol + p, none⟩) hgl).trans cl2
              have cm_W5 := (hbwW5.cell (p := ⟨gm, om + q, none⟩) hgm).trans cm2
              have ri_W5 := (hbwW5.cell (p := ⟨R, i, none⟩) hR).trans ri2
              have rp_W5 := (hbwW5.cell (p := ⟨R, p, none⟩) hR).trans rp2
              have dij_W5 := (hbwW5.cell (p := ⟨A, i * (m.length + 1) + j, none⟩) hA2).trans dij2
              have diq_W5 := (hbwW5.cell (p := ⟨A, i * (m.length + 1) + q, none⟩) hA2).trans diq2
              have dpq_W5 := (hbwW5.cell (p := ⟨A, p * (m.length + 1) + q, none⟩) hA2).trans dpq2
              obtain ⟨nb, e, ⟨vb, cb⟩, fb, h7⟩ := HSTA.out _ hinW5
              subst e
              go_wp2_with (first
                | (at_builtin; refine wpList_append_own_at _ rfl _ _ 25 rfl w2.heap.size 9 j0 (.string .empty) 1 16 Tryd.underlying25 hj0' hj1' hj2' hj3' rfl (by decide) (.slice pa TT.length pc) _ _ rfl (h8.path.alloc _) ⟨w8.heap.size, 0, none⟩ 1 1 _ rfl rfl (World.news_of_block (Blk.alloc_new _ _ _)) (by intro y hy; simp at hy; subst hy; rfl) (by unfold maxLen; omega) (by omega) (by simp; omega) ?_; intro v9' w9 hown9 hgrow9 hnil9 hat9; have h9 := h8.add (t := t) ((Below.refl w8.heap.size w8).alloc (Nat.le_refl _) (.cells #[.string t] 9)) hown9 hgrow9 hat9; have H9 := Lib.hid h9; have HTR := Lib.hid htr; clear h9 hown9 hgrow9 hnil9 hat9 htr)
                | (go_at_call 17; refine (text_step h7 (by omega) (by omega) hl hm HSL.out HSM.out HT2.out).mono ?_; rintro e w8 ⟨t, rfl, htr, hb8⟩; have h8 := h7.later hb8; have hz8 := h8.below.size))
              refine ⟨⟨p, q, TT ++ [t], by first | rfl | (congr 1; omega), by first | rfl | (congr 1; omega), Lib.hid (HPI.out.step (by omega) (by omega) HD.out HONE.out HTR.out), H9⟩, ?_⟩
              simp [intOf]; omega
            · have e14 : ((P0 : Int) == (k : Int)) = false := by rw [beq_eq_false_iff_ne]; omega
              by_cases hE : P1 = k
              · have e17 : ((P1 : Int) == (k : Int)) = true := by rw [beq_iff_eq]; omega
                have hd : D l m i q + 1 = D l m i j := by rw [hP1, hN]; omega
                have HD := Lib.hid hd
                have hst : ∀ W, PIn w2 W l m i j (.slice na n nc) (.slice pa TT.length pc) TT → Calls Tryd.prog 15 #[.slice na n nc, .int .i64 (q : Int), .int .i64 (j : Int)] W (StepEnd w2 l m i q (.slice pa TT.length pc) TT) := fun W h => del_step (q := q) (by rw [← hjq]; exact h) (by omega) hqm (by omega) rfl (by omega)
                have HSTA := Lib.hid hst
                clear hd hst hC hE hDo hDo' heq
                have HNN := Lib.hid hN
                have HNX := Lib.hid hn
                have HIP := Lib.hid hip
                have HLP := Lib.hid hlp
                have HJQ := Lib.hid hjq
                have HMQ := Lib.hid hmq
                have HP1 := Lib.hid hP1
                have HP0 := Lib.hid hP0
                have HKK := Lib.hid hk
                clear hN hn hip hlp cl1 hjq hmq hP1 cm1 hP0 hk
                have cl_wr := (hbw.cell (p := ⟨gl, ol + p, none⟩) hgl).trans cl2
                have cm_wr := (hbw.cell (p := ⟨gm, om + q, none⟩) hgm).trans cm2
                have ri_wr := (hbw.cell (p := ⟨R, i, none⟩) hR).trans ri2
                have rp_wr := (hbw.cell (p := ⟨R, p, none⟩) hR).trans rp2
                have dij_wr := (hbw.cell (p := ⟨A, i * (m.length + 1) + j, none⟩) hA2).trans dij2
                have diq_wr := (hbw.cell (p := ⟨A, i * (m.length + 1) + q, none⟩) hA2).trans diq2
                have dpq_wr := (hbw.cell (p := ⟨A, p * (m.length + 1) + q, none⟩) hA2).trans dpq2
                go_wp2_with fail
                go_quiet (fail)
                have hbqW5 := below_drewN (Below.refl wr.heap.size wr) nq
                obtain ⟨W5, hW5⟩ : ∃ W, wr.drewN nq = W := ⟨_, rfl⟩
                rw [hW5] at hbqW5 ⊢
                have hinW5 := hin.later hbqW5
                have hbwW5 := hinW5.below
                clear hW5 nq
                have cl_W5 := (hbwW5.cell (p := ⟨gl, ol + p, none⟩) hgl).trans cl2
                have cm_W5 := (hbwW5.cell (p := ⟨gm, om + q, none⟩) hgm).trans cm2
                have ri_W5 := (hbwW5.cell (p := ⟨R, i, none⟩) hR).trans ri2
                have rp_W5 := (hbwW5.cell (p := ⟨R, p, none⟩) hR).trans rp2
                have dij_W5 := (hbwW5.cell (p := ⟨A, i * (m.length + 1) + j, none⟩) hA2).trans dij2
                have diq_W5 := (hbwW5.cell (p := ⟨A, i * (m.length + 1) + q, none⟩) hA2).trans diq2
                have dpq_W5 := (hbwW5.cell (p := ⟨A, p * (m.length + 1) + q, none⟩) hA2).trans dpq2
                have HST := Lib.hid (HSTA.out _ hinW5)
                go_wp2_with (first
                  | (at_builtin; refine wpList_append_own_at _ rfl _ _ 25 rfl w2.heap.size 9 j0 (.string .empty) 1 16 Tryd.underlying25 hj0' hj1' hj2' hj3' rfl (by decide) (.slice pa TT.length pc) _ _ rfl (h8.path.alloc _) ⟨w8.heap.size, 0, none⟩ 1 1 _ rfl rfl (World.news_of_block (Blk.alloc_new _ _ _)) (by intro y hy; simp at hy; subst hy; rfl) (by unfold maxLen; omega) (by omega) (by simp; omega) ?_; intro v9' w9 hown9 hgrow9 hnil9 hat9; have h9 := h8.add (t := t) ((Below.refl w8.heap.size w8).alloc (Nat.le_refl _) (.cells #[.string t] 9)) hown9 hgrow9 hat9; have H9 := Lib.hid h9; have HTR := Lib.hid htr; clear h9 hown9 hgrow9 hnil9 hat9 htr)
                  | (go_at_call 17; refine (text_step h7 (by omega) (by omega) hl hm HSL.out HSM.out HT2.out).mono ?_; rintro e w8 ⟨t, rfl, htr, hb8⟩; have h8 := h7.later hb8; have hz8 := h8.below.size)
                  | (go_at_call 15; refine (HST.out).mono ?_; rintro e w7 ⟨na', nc', rfl, h7⟩))
                refine ⟨⟨i, q, TT ++ [t], by first | rfl | (congr 1; omega), by first | rfl | (congr 1; omega), Lib.hid (HPI.out.step (by omega) (by omega) HD.out (by rw [HJQ.out]; exact cur_del hqm) HTR.out), H9⟩, ?_⟩
                simp [intOf]; omega
              · have e17 : ((P1 : Int) == (k : Int)) = false := by rw [beq_eq_false_iff_ne]; omega
                have hd : D l m p j + 1 = D l m i j := by rw [hN]; exact hDo' (by omega) (by omega)
                have HD := Lib.hid hd
                have hst : ∀ W, PIn w2 W l m i j (.slice na n nc) (.slice pa TT.length pc) TT → Calls Tryd.prog 16 #[.slice na n nc, .int .i64 (j : Int), .slice (some ⟨W.heap.size, 0, none⟩) 1 1] (W.alloc (.cells #[.int .i32 lp] 21)) (StepEnd w2 l m p j (.slice pa TT.length pc) TT) := fun W h => ins_step (p := p) (by rw [← hip]; exact h) hpl (by omega) hl hm (by omega) rfl hlp
                have HSTA := Lib.hid hst
                clear hd hst hC hE hDo hDo' heq
                have HNN := Lib.hid hN
                have HNX := Lib.hid hn
                have HIP := Lib.hid hip
                have HLP := Lib.hid hlp
                have HJQ := Lib.hid hjq
                have HMQ := Lib.hid hmq
                have HP1 := Lib.hid hP1
                have HP0 := Lib.hid hP0
                have HKK := Lib.hid hk
                clear hN hn hip hlp cl1 hjq hmq hP1 cm1 hP0 hk
                have cl_wr := (hbw.cell (p := ⟨gl, ol + p, none⟩) hgl).trans cl2
                have cm_wr := (hbw.cell (p := ⟨gm, om + q, none⟩) hgm).trans cm2
                have ri_wr := (hbw.cell (p := ⟨R, i, none⟩) hR).trans ri2
                have rp_wr := (hbw.cell (p := ⟨R, p, none⟩) hR).trans rp2
                have dij_wr := (hbw.cell (p := ⟨A, i * (m.length + 1) + j, none⟩) hA2).trans dij2
                have diq_wr := (hbw.cell (p := ⟨A, i * (m.length + 1) + q, none⟩) hA2).trans diq2
                have dpq_wr := (hbw.cell (p := ⟨A, p * (m.length + 1) + q, none⟩) hA2).trans dpq2
                go_wp2_with fail
                go_quiet (fail)
                have hbqW5 := below_drewN (Below.refl wr.heap.size wr) nq
                obtain ⟨W5, hW5⟩ : ∃ W, wr.drewN nq = W := ⟨_, rfl⟩
                rw [hW5] at hbqW5 ⊢
                have hinW5 := hin.later hbqW5
                have hbwW5 := hinW5.below
                clear hW5 nq
                have cl_W5 := (hbwW5.cell (p := ⟨gl, ol + p, none⟩) hgl).trans cl2
                have cm_W5 := (hbwW5.cell (p := ⟨gm, om + q, none⟩) hgm).trans cm2
                have ri_W5 := (hbwW5.cell (p := ⟨R, i, none⟩) hR).trans ri2
                have rp_W5 := (hbwW5.cell (p := ⟨R, p, none⟩) hR).trans rp2
                have dij_W5 := (hbwW5.cell (p := ⟨A, i * (m.length + 1) + j, none⟩) hA2).trans dij2
                have diq_W5 := (hbwW5.cell (p := ⟨A, i * (m.length + 1) + q, none⟩) hA2).trans diq2
                have dpq_W5 := (hbwW5.cell (p := ⟨A, p * (m.length + 1) + q, none⟩) hA2).trans dpq2
                have HST := Lib.hid (HSTA.out _ hinW5)
                go_wp2_with (first
                  | (at_builtin; refine wpList_append_own_at _ rfl _ _ 25 rfl w2.heap.size 9 j0 (.string .empty) 1 16 Tryd.underlying25 hj0' hj1' hj2' hj3' rfl (by decide) (.slice pa TT.length pc) _ _ rfl (h8.path.alloc _) ⟨w8.heap.size, 0, none⟩ 1 1 _ rfl rfl (World.news_of_block (Blk.alloc_new _ _ _)) (by intro y hy; simp at hy; subst hy; rfl) (by unfold maxLen; omega) (by omega) (by simp; omega) ?_; intro v9' w9 hown9 hgrow9 hnil9 hat9; have h9 := h8.add (t := t) ((Below.refl w8.heap.size w8).alloc (Nat.le_refl _) (.cells #[.string t] 9)) hown9 hgrow9 hat9; have H9 := Lib.hid h9; have HTR := Lib.hid htr; clear h9 hown9 hgrow9 hnil9 hat9 htr)
                  | (go_at_call 17; refine (text_step h7 (by omega) (by omega) hl hm HSL.out HSM.out HT2.out).mono ?_; rintro e w8 ⟨t, rfl, htr, hb8⟩; have h8 := h7.later hb8; have hz8 := h8.below.size)
                  | (go_at_call 16; refine (HST.out).mono ?_; rintro e w7 ⟨na', nc', rfl, h7⟩))
                refine ⟨⟨p, j, TT ++ [t], by first | rfl | (congr 1; omega), by first | rfl | (congr 1; omega), Lib.hid (HPI.out.step (by omega) (by omega) HD.out (by rw [HIP.out]; exact cur_ins hpl) HTR.out), H9⟩, ?_⟩
                simp [intOf]; omega
end Go.Proofs.YtkgmikglifmenaaDoor.E
