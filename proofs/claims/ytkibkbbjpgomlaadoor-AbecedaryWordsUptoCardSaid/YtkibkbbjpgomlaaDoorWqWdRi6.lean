/-
  WdRi6.
-/
import Derived.Test.YtkibkbbjpgomlaaDoorWqFstMach
import Derived.Test.YtkibkbbjpgomlaaDoorWqB
import Derived.BigQuiet
namespace Go.Proofs.YtkibkbbjpgomlaaDoor.F
open Go.RowKit Go.Shelf Go.Maps
open Aid L LM
set_option linter.unusedSimpArgs false
set_option linter.unusedVariables false
attribute [local go_sem] Oper.semAt_some

set_option maxRecDepth 100000 in
set_option maxHeartbeats 1000000 in
theorem ahead_q (a b : ByteArray) (w : World) (ha : (a.size : Int) ≤ 9223372036854775807) (hb : (b.size : Int) ≤ 9223372036854775807) :
    Calls Tryd.prog 17 #[.string a, .string b] w fun e w' => e = .returned (.bool (lex (nums a) (nums b))) ∧ ∃ n, w' = w.drewN n := by
  have N1 := Lib.hid (nums_len a)
  have N2 := Lib.hid (nums_len b)
  go_enter Tryd.func17, Tryd.ntmps17
  go_wp2_with fail
  go_loopw [5] (fun i wr => ∃ k : Nat, i = .int .i64 k ∧ k ≤ a.size ∧ k ≤ b.size ∧ Hid ((nums a).take k = (nums b).take k) ∧ Hid (∃ n, wr = w.drewN n))
    (fun i _ => a.size - (intOf i).toNat)
  case atStart => exact ⟨0, rfl, Nat.zero_le _, Nat.zero_le _, by simp [Hid], ⟨0, rfl⟩⟩
  case round =>
    obtain ⟨k, rfl, hk, hk2, HT, HW⟩ := hrel
    by_cases hlt : (k : Int) < (a.size : Int)
    · by_cases hlt2 : (k : Int) < (b.size : Int)
      · have q1 : k < a.size := by omega
        have q2 : k < b.size := by omega
        obtain ⟨x, hx⟩ : ∃ x, (a[k].toNat : Int) = x := ⟨_, rfl⟩
        obtain ⟨y, hy⟩ : ∃ y, (b[k].toNat : Int) = y := ⟨_, rfl⟩
        have HX := Lib.hid ((nums_at a k q1).trans hx)
        have HY := Lib.hid ((nums_at b k q2).trans hy)
        by_cases he : x = y
        · have hne : (x != y) = false := by rw [he]; simp
          have HE := Lib.hid he
          clear he
          go_wp2_with fail
          go_quiet (fail)
          go_wp2_with fail
          exact ⟨⟨k + 1, by go_num, by omega, by omega, take_next HT.out (by rw [N1.out]; omega) (by rw [N2.out]; omega) (by rw [HX.out, HY.out, HE.out]), by obtain ⟨n, rfl⟩ := HW.out; exact ⟨_, World.drewN_drewN _ _ _⟩⟩, by simp [intOf]; omega⟩
        · have hne : (x != y) = true := by rw [bne_iff_ne]; exact he
          have HE := Lib.hid he
          clear he
          go_wp2_with fail
          go_quiet (fail)
          go_wp2_with fail
          go_quiet (fail)
          go_wp2_with fail
          go_ret
          exact ⟨ret_bool (lex_at (by rw [N1.out]; omega) (by rw [N2.out]; omega) HT.out HX.out HY.out HE.out).symm, by obtain ⟨n, rfl⟩ := HW.out; first | exact ⟨_, rfl⟩ | (simp only [World.drewN_drewN]; exact ⟨_, rfl⟩)⟩
      · go_wp2_with fail
        go_ret
        exact ⟨ret_bool (by rw [lex_end (by rw [N1.out]; omega) (by rw [N2.out]; omega) HT.out (by rw [N1.out, N2.out]; omega), N1.out, N2.out]), by obtain ⟨n, rfl⟩ := HW.out; first | exact ⟨_, rfl⟩ | (simp only [World.drewN_drewN]; exact ⟨_, rfl⟩)⟩
    · go_wp2_with fail
      go_ret
      exact ⟨ret_bool (by rw [lex_end (by rw [N1.out]; omega) (by rw [N2.out]; omega) HT.out (by rw [N1.out, N2.out]; omega), N1.out, N2.out]), by obtain ⟨n, rfl⟩ := HW.out; first | exact ⟨_, rfl⟩ | (simp only [World.drewN_drewN]; exact ⟨_, rfl⟩)⟩


theorem ahead_less (a b : ByteArray) (w : World) (ha : (a.size : Int) ≤ 9223372036854775807) (hb : (b.size : Int) ≤ 9223372036854775807) :
    Calls Tryd.prog 17 #[.string a, .string b] w fun e w' => e = .returned (.bool (Op.bytesLess a.toList b.toList)) ∧ ∃ n, w' = w.drewN n := by
  have := ahead_q a b w ha hb
  rw [show lex (nums a) (nums b) = Op.bytesLess a.toList b.toList by rw [bytesLess_lex, toList_eq, toList_eq]; rfl] at this
  exact this
theorem not6 {l : List Wd} {k : Int} (h : buildE l = k) (hk : k ≠ 0) : decide (buildE l = 0) = false := decide_eq_false (by rw [h]; exact hk)
set_option maxRecDepth 100000 in
set_option maxHeartbeats 4000000 in
theorem right6_any (v : Value) (l : List Wd) (w : World) (h : PairsIn w v l) : Calls Tryd.prog 5 #[v] w fun e w' => e = .returned (.bool (decide (buildE l = 0))) ∧ Below w.heap.size w w' := by
  obtain ⟨av, cv, rfl⟩ := h.slice
  have hlen := h.len
  obtain ⟨n, hn⟩ : ∃ n, l.length = n := ⟨_, rfl⟩
  have hcap : (n : Int) ≤ (cv : Int) := by obtain ⟨_, _, e, _, h, _⟩ := h; cases e; omega
  rw [hn] at h hlen ⊢
  obtain ⟨r6, hr6⟩ : ∃ r, decide (buildE l = 0) = r := ⟨_, rfl⟩
  rw [hr6]
  have HR6 := Lib.hid hr6
  clear hr6
  by_cases hm : (4096 : Int) < (n : Int)
  · have he : buildE l = 70 := by unfold buildE; rw [if_pos (by omega)]
    go_enter Tryd.func5, Tryd.ntmps5
    go_wp2_with fail
    go_ret
    exact ⟨by rw [← HR6.out, not6 he (by decide)]; rfl, Below.refl _ _⟩
  have hmany : buildE l = errF none l := by unfold buildE; rw [if_neg (by omega)]
  go_enter Tryd.func5, Tryd.ntmps5
  go_wp2_with fail
  go_loopw [3] (fun x3 wr => ∃ i : Nat, x3 = .int .i64 i ∧ i ≤ n ∧ Hid (errF none l = errF (lastO none (l.take i)) (l.drop i)) ∧ Below w.heap.size w wr) (fun x3 _ => n - (intOf x3).toNat)
  case atStart => exact ⟨0, rfl, Nat.zero_le _, Lib.hid rfl, Below.refl _ _⟩
  case round =>
    obtain ⟨i, rfl, hi, HERR, hb⟩ := hrel
    have hbz := hb.size
    by_cases hlt : (i : Int) < (n : Int)
    · have hil : i < l.length := by omega
      obtain ⟨x, hx⟩ : ∃ x, l[i]? = some x := ⟨_, List.getElem?_eq_getElem hil⟩
      obtain ⟨g, off, rfl, hg, c0, c1⟩ := h.at_ hx
      obtain ⟨xs, xw⟩ := x
      dsimp only at c0 c1
      obtain ⟨hxs, hxw⟩ := h.ok _ (List.mem_of_getElem? hx)
      dsimp only at hxs hxw
      have d0 := (hb.cell (p := ⟨g, off + i * 2, none⟩) hg).trans c0
      have hgr : g < wr.heap.size := by omega
      have hdr : l.drop i = (xs, xw) :: l.drop (i + 1) := by
        rw [List.drop_eq_getElem_cons hil]
        rw [List.getElem?_eq_getElem hil] at hx
        rw [Option.some.inj hx]
      have hts := take_snoc hx
      have i0 : (0 : Int) ≤ (i : Int) := by omega
      have herr := HERR.out
      rw [hdr] at herr
      have HER := Lib.hid herr
      have HTS := Lib.hid hts
      have HB := Lib.hid hb
      have HX := Lib.hid hx
      clear herr hts hdr hb hx HERR
      have hsz9 : (xs.size : Int) ≤ 9223372036854775807 := by omega
      cases hwx : wordB xs
      · go_wp2_with (go_at_call 16; refine (rword_any xs _ hsz9).mono ?_; rintro e w3 ⟨rfl, hb3⟩; rw [hwx])
        go_ret
        exact ⟨by rw [← HR6.out, not6 (l := l) (by rw [hmany, HER.out, errF_cons, if_pos hwx]) (by decide)]; rfl, HB.out.trans (hb3.mono hbz)⟩
      · by_cases hx1 : xw < 1
        · go_wp2_with (go_at_call 16; refine (rword_any xs _ hsz9).mono ?_; rintro e w3 ⟨rfl, hb3⟩; rw [hwx]; have p1 := ((HB.out.trans (hb3.mono hbz)).cell (p := ⟨g, off + i * 2 + 1, none⟩) hg).trans c1; have p0 := (hb3.cell (p := ⟨g, off + i * 2, none⟩) hgr).trans d0)
          go_ret
          exact ⟨by rw [← HR6.out, not6 (l := l) (by rw [hmany, HER.out, errF_cons, if_neg (by rw [hwx]; simp), if_pos (.inl hx1)]) (by decide)]; rfl, HB.out.trans (hb3.mono hbz)⟩
        by_cases hx2 : 1048576 < xw
        · go_wp2_with (go_at_call 16; refine (rword_any xs _ hsz9).mono ?_; rintro e w3 ⟨rfl, hb3⟩; rw [hwx]; have p1 := ((HB.out.trans (hb3.mono hbz)).cell (p := ⟨g, off + i * 2 + 1, none⟩) hg).trans c1; have p0 := (hb3.cell (p := ⟨g, off + i * 2, none⟩) hgr).trans d0)
          go_ret
          exact ⟨by rw [← HR6.out, not6 (l := l) (by rw [hmany, HER.out, errF_cons, if_neg (by rw [hwx]; simp), if_pos (.inr hx2)]) (by decide)]; rfl, HB.out.trans (hb3.mono hbz)⟩
        by_cases hi0 : i = 0
        · have hgd : decide ((0 : Int) < (i : Int)) = false := decide_eq_false (by omega)
          have hgd' : decide (0 < i) = false := decide_eq_false (by omega)
          have HI0 := Lib.hid hi0
          clear hi0
          go_wp2_with (go_at_call 16; refine (rword_any xs _ hsz9).mono ?_; rintro e w3 ⟨rfl, hb3⟩; rw [hwx]; have p1 := ((HB.out.trans (hb3.mono hbz)).cell (p := ⟨g, off + i * 2 + 1, none⟩) hg).trans c1; have p0 := (hb3.cell (p := ⟨g, off + i * 2, none⟩) hgr).trans d0)
          go_quiet (fail)
          go_wp2_with fail
          refine ⟨⟨i + 1, by first | rfl | congr 1, by omega, Lib.hid ?_, below_drewN (HB.out.trans (hb3.mono hbz)) _⟩, ?_⟩
          · have h0 := HI0.out
            subst h0
            rw [HER.out, errF_ok (p := lastO none (l.take 0)) ⟨hwx, by omega, by omega, fun y e => by cases e⟩, HTS.out]
            rfl
          · simp [intOf]; omega
        · obtain ⟨m, hm1⟩ : ∃ m, i = m + 1 := ⟨i - 1, by omega⟩
          obtain ⟨y, hy⟩ : ∃ y, l[m]? = some y := ⟨_, List.getElem?_eq_getElem (by omega)⟩
          obtain ⟨g2, off2, eg, hg2, e0, e1⟩ := h.at_ hy
          simp only [Option.some.injEq, Addr.mk.injEq] at eg
          obtain ⟨rfl, rfl, _⟩ := eg
          obtain ⟨ys, yw⟩ := y
          dsimp only at e0 e1
          obtain ⟨hys, _⟩ := h.ok _ (List.mem_of_getElem? hy)
          dsimp only at hys
          have hlast : lastO none (l.take i) = some ys := by
            rw [hm1, take_snoc hy]; unfold lastO; simp
          have y0 := (HB.out.cell (p := ⟨g, off + m * 2, none⟩) hg).trans e0
          have hwm : IntKind.i64.wrap ((i : Int) - 1) = (m : Int) := by rw [IntWalk.i64_in _ (by omega)]; omega
          have m0 : (0 : Int) ≤ (m : Int) := by omega
          have m1 : (m : Int) < (n : Int) := by omega
          have hgd : decide ((0 : Int) < (i : Int)) = true := decide_eq_true (by omega)
          have hgd' : decide (0 < i) = true := decide_eq_true (by omega)
          have hys9 : (ys.size : Int) ≤ 9223372036854775807 := by omega
          have HM := Lib.hid hm1
          have HLA := Lib.hid hlast
          have HWM := Lib.hid hwm
          have HALL : Hid (∀ W, Calls Tryd.prog 17 #[.string ys, .string xs] W fun e w' => e = .returned (.bool (Op.bytesLess ys.toList xs.toList)) ∧ ∃ n, w' = W.drewN n) := fun W => ahead_less ys xs W hys9 hsz9
          cases hbl : Op.bytesLess ys.toList xs.toList
          · have HAL := HALL
            rw [hbl] at HAL
            have HBL := Lib.hid hbl
            clear hi0 hm1 hlast hwm hy e0 e1 hbl HALL
            go_wp2_with (go_at_call 16; refine (rword_any xs _ hsz9).mono ?_; rintro e w3 ⟨rfl, hb3⟩; rw [hwx]; have p1 := ((HB.out.trans (hb3.mono hbz)).cell (p := ⟨g, off + i * 2 + 1, none⟩) hg).trans c1; have p0 := (hb3.cell (p := ⟨g, off + i * 2, none⟩) hgr).trans d0; have z0 := (hb3.cell (p := ⟨g, off + m * 2, none⟩) hgr).trans y0)
            have hwm := HWM.out
            go_quiet ((go_at_call 17; exact Calls.quiet_of (HAL.out _)))
            clear hwm
            have hbq := below_drewN (Below.refl w3.heap.size w3) nq
            obtain ⟨W5, hW5⟩ : ∃ W5, w3.drewN nq = W5 := ⟨_, rfl⟩
            rw [hW5] at hbq ⊢
            have hz3 := hb3.size
            go_wp2_with fail
            go_ret
            exact ⟨by rw [← HR6.out, not6 (l := l) (by rw [hmany, HER.out, HLA.out, errF_cons, if_neg (by rw [hwx]; simp), if_neg (by omega), if_pos (by dsimp only; rw [HBL.out]; rfl)]) (by decide)]; rfl, (HB.out.trans (hb3.mono hbz)).trans (hbq.mono (by omega))⟩
          · have HAL := HALL
            rw [hbl] at HAL
            have HBL := Lib.hid hbl
            clear hi0 hm1 hlast hwm hy e0 e1 hbl HALL
            go_wp2_with (go_at_call 16; refine (rword_any xs _ hsz9).mono ?_; rintro e w3 ⟨rfl, hb3⟩; rw [hwx]; have p1 := ((HB.out.trans (hb3.mono hbz)).cell (p := ⟨g, off + i * 2 + 1, none⟩) hg).trans c1; have p0 := (hb3.cell (p := ⟨g, off + i * 2, none⟩) hgr).trans d0; have z0 := (hb3.cell (p := ⟨g, off + m * 2, none⟩) hgr).trans y0)
            have hwm := HWM.out
            go_quiet ((go_at_call 17; exact Calls.quiet_of (HAL.out _)))
            clear hwm
            go_wp2_with fail
            refine ⟨⟨i + 1, by first | rfl | congr 1, by omega, Lib.hid ?_, below_drewN (HB.out.trans (hb3.mono hbz)) _⟩, ?_⟩
            · rw [HER.out, errF_ok (p := lastO none (l.take i)) ⟨hwx, by omega, by omega, fun y e => by rw [HLA.out] at e; cases e; exact HBL.out⟩, HTS.out]
              unfold lastO
              simp
            · simp [intOf]; omega
    · have hin : i = n := by omega
      subst hin
      have hE0 : buildE l = 0 := by
        have := HERR.out
        rw [List.drop_of_length_le (by omega)] at this
        rw [hmany, this]
        cases lastO none (l.take i) <;> rfl
      have HE0 := Lib.hid hE0
      clear hE0
      go_wp2_with fail
      go_ret
      exact ⟨by rw [← HR6.out, decide_eq_true HE0.out]; rfl, hb⟩
end Go.Proofs.YtkibkbbjpgomlaaDoor.F
