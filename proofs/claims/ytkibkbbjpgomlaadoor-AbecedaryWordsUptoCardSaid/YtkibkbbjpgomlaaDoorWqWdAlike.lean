/-
  WdAlike.
-/
import Derived.Test.YtkibkbbjpgomlaaDoorWqFstMach
import Derived.BigQuiet
namespace Go.Proofs.YtkibkbbjpgomlaaDoor.F
open Go.RowKit Go.Shelf Go.Maps
open Aid L LM
set_option linter.unusedSimpArgs false
set_option linter.unusedVariables false
attribute [local go_sem] Oper.semAt_some

theorem three_cells {w : World} {g o : Nat} {a b c : Value} (h0 : w.cell? ⟨g, o, none⟩ = some a) (h1 : w.cell? ⟨g, o + 1, none⟩ = some b) (h2 : w.cell? ⟨g, o + 2, none⟩ = some c) : ∀ j (hj : j < (#[a, b, c] : Array Value).size), w.cell? ⟨g, o + j, none⟩ = some (#[a, b, c] : Array Value)[j]
  | 0, _ => h0
  | 1, _ => h1
  | 2, _ => h2
set_option maxRecDepth 100000 in
set_option maxHeartbeats 4000000 in
theorem alike_any (O O' : Nat → Prop) (s s' : StM) (u u' : Value) (w : World) (h : ArcsAre O w u s.arcs) (h' : ArcsAre O' w u' s'.arcs) :
    Calls Tryd.prog 35 #[.agg (stV s u), .agg (stV s' u')] w fun e w' => e = .returned (.bool (decide (s = s'))) ∧ Below w.heap.size w w' := by
  obtain ⟨a, c, rfl⟩ := h.slice
  obtain ⟨a', c', rfl⟩ := h'.slice
  obtain ⟨fin, out, A⟩ := s
  obtain ⟨fin', out', A'⟩ := s'
  unfold stV
  dsimp only at h h' ⊢
  have hl : A.length ≤ 1000000 := by obtain ⟨_, _, _, h, _⟩ := h; exact h
  have hl' : A'.length ≤ 1000000 := by obtain ⟨_, _, _, h, _⟩ := h'; exact h
  obtain ⟨n, hn⟩ : ∃ n, A.length = n := ⟨_, rfl⟩
  obtain ⟨n', hn'⟩ : ∃ n', A'.length = n' := ⟨_, rfl⟩
  rw [hn] at h hl
  rw [hn'] at h' hl'
  rw [hn, hn']
  obtain ⟨Q, hQ⟩ : ∃ Q, w.heap.size = Q := ⟨_, rfl⟩
  obtain ⟨W1, hW1⟩ : ∃ W1, (w.alloc (.cells #[.bool fin, .int .i64 out, .slice a n c] 61)).alloc (.cells #[.bool fin', .int .i64 out', .slice a' n' c'] 61) = W1 := ⟨_, rfl⟩
  have hb1 : Below w.heap.size w W1 := by rw [← hW1]; exact two_under _ _ _
  have b2 : Blk W1 (Q + 1) 61 #[.bool fin', .int .i64 out', .slice a' n' c'] := by rw [← hW1, ← hQ]; exact two_blk _ _ _ _
  have b1 : Blk W1 Q 61 #[.bool fin, .int .i64 out, .slice a n c] := by rw [← hW1, ← hQ]; exact (Blk.alloc_new _ _ _).below ((Below.refl _ _).alloc (Nat.le_refl _) _) (by simp)
  have p0 : W1.cell? ⟨Q, 0, none⟩ = some (.bool fin) := (Blk.cell b1 0).trans rfl
  have p1 : W1.cell? ⟨Q, 1, none⟩ = some (.int .i64 out) := (Blk.cell b1 1).trans rfl
  have p2 : W1.cell? ⟨Q, 2, none⟩ = some (.slice a n c) := (Blk.cell b1 2).trans rfl
  have q0 : W1.cell? ⟨Q + 1, 0, none⟩ = some (.bool fin') := (Blk.cell b2 0).trans rfl
  have q1 : W1.cell? ⟨Q + 1, 1, none⟩ = some (.int .i64 out') := (Blk.cell b2 1).trans rfl
  have q2 : W1.cell? ⟨Q + 1, 2, none⟩ = some (.slice a' n' c') := (Blk.cell b2 2).trans rfl
  have HB1 := Lib.hid hb1
  clear b1 b2
  go_enter Tryd.func35, Tryd.ntmps35
  by_cases e1 : fin = fin'
  · by_cases e2 : out = out'
    · by_cases e3 : n = n'
      · subst e1 e2 e3
        go_wp2_with fail
        go_loopw [30] (fun x30 wr => ∃ k : Nat, x30 = .int .i64 k ∧ k ≤ n ∧ A.take k = A'.take k ∧ Below W1.heap.size W1 wr) (fun x30 _ => n - (intOf x30).toNat)
        case atStart => exact ⟨0, rfl, Nat.zero_le _, rfl, Below.refl _ _⟩
        case round =>
          obtain ⟨k, rfl, hk, ht, hw⟩ := hrel
          have hz1 := hb1.size
          have hbw := HB1.out.trans (hw.mono hz1)
          have p2 := (hw.cell (p := ⟨Q, 2, none⟩) (World.block_lt_of_cell? W1 _ p2)).trans p2
          have q2 := (hw.cell (p := ⟨Q + 1, 2, none⟩) (World.block_lt_of_cell? W1 _ q2)).trans q2
          by_cases hlt : (k : Int) < (n : Int)
          · obtain ⟨x, hx⟩ : ∃ x, A[k]? = some x := ⟨_, List.getElem?_eq_getElem (by omega)⟩
            obtain ⟨y, hy⟩ : ∃ y, A'[k]? = some y := ⟨_, List.getElem?_eq_getElem (by omega)⟩
            obtain ⟨g, off, ea, hg, _, hc⟩ := h.at_ hx
            obtain ⟨g', off', ea', hg', _, hc'⟩ := h'.at_ hy
            subst ea ea'
            obtain ⟨la, ou, tt⟩ := x
            obtain ⟨la', ou', tt'⟩ := y
            have f0 : wr.cell? ⟨g, off + k * 3, none⟩ = some (.int .i32 la) := (hbw.cell (p := ⟨g, off + k * 3, none⟩) hg).trans (hc 0 (by show 0 < 3; omega))
            have f1 : wr.cell? ⟨g, off + k * 3 + 1, none⟩ = some (.int .i64 ou) := (hbw.cell (p := ⟨g, off + k * 3 + 1, none⟩) hg).trans (hc 1 (by show 1 < 3; omega))
            have f2 : wr.cell? ⟨g, off + k * 3 + 2, none⟩ = some (.int .i64 tt) := (hbw.cell (p := ⟨g, off + k * 3 + 2, none⟩) hg).trans (hc 2 (by show 2 < 3; omega))
            have g0 : wr.cell? ⟨g', off' + k * 3, none⟩ = some (.int .i32 la') := (hbw.cell (p := ⟨g', off' + k * 3, none⟩) hg').trans (hc' 0 (by show 0 < 3; omega))
            have g1 : wr.cell? ⟨g', off' + k * 3 + 1, none⟩ = some (.int .i64 ou') := (hbw.cell (p := ⟨g', off' + k * 3 + 1, none⟩) hg').trans (hc' 1 (by show 1 < 3; omega))
            have g2 : wr.cell? ⟨g', off' + k * 3 + 2, none⟩ = some (.int .i64 tt') := (hbw.cell (p := ⟨g', off' + k * 3 + 2, none⟩) hg').trans (hc' 2 (by show 2 < 3; omega))
            have hf := three_cells f0 f1 f2
            have hg3 := three_cells g0 g1 g2
            have i0 : (0 : Int) ≤ (k : Int) := by omega
            have HT := Lib.hid ht
            have HX := Lib.hid hx
            have HY := Lib.hid hy
            have HW := Lib.hid hw
            clear hc hc' ht hx hy h h' hw hbw
            by_cases h1 : la = la'
            · by_cases h2 : ou = ou'
              · by_cases h3 : tt = tt'
                · subst h1 h2 h3
                  go_wp2_with fail
                  go_quiet (fail)
                  go_wp2_with fail
                  refine ⟨⟨k + 1, by first | rfl | congr 1, by omega, by rw [take_snoc HX.out, take_snoc HY.out, HT.out], below_drewN HW.out _⟩, ?_⟩
                  simp [intOf]; omega
                · have hne : ¬ (⟨la, ou, tt⟩ : ArcM) = ⟨la', ou', tt'⟩ := by intro e; simp at e; exact absurd e.2.2 h3
                  have HNE := Lib.hid hne
                  clear hne
                  go_wp2_with fail
                  go_quiet (fail)
                  go_wp2_with fail
                  go_ret
                  refine ⟨ret_bool (a := false) (decide_eq_false ?_).symm, by first | exact below_drewN (HB1.out.trans (HW.out.mono hz1)) _ | exact hQ ▸ (below_drewN (HB1.out.trans (HW.out.mono hz1)) _)⟩
                  intro e
                  simp only [StM.mk.injEq, true_and] at e
                  rw [e, HY.out] at HX
                  exact HNE.out (Option.some.inj HX.out).symm
              · have hne : ¬ (⟨la, ou, tt⟩ : ArcM) = ⟨la', ou', tt'⟩ := by intro e; simp at e; exact absurd e.2.1 h2
                have HNE := Lib.hid hne
                clear hne
                go_wp2_with fail
                go_quiet (fail)
                go_wp2_with fail
                go_ret
                refine ⟨ret_bool (a := false) (decide_eq_false ?_).symm, by first | exact below_drewN (HB1.out.trans (HW.out.mono hz1)) _ | exact hQ ▸ (below_drewN (HB1.out.trans (HW.out.mono hz1)) _)⟩
                intro e
                simp only [StM.mk.injEq, true_and] at e
                rw [e, HY.out] at HX
                exact HNE.out (Option.some.inj HX.out).symm
            · have hne : ¬ (⟨la, ou, tt⟩ : ArcM) = ⟨la', ou', tt'⟩ := by intro e; simp at e; exact absurd e.1 h1
              have HNE := Lib.hid hne
              clear hne
              go_wp2_with fail
              go_quiet (fail)
              go_wp2_with fail
              go_ret
              refine ⟨ret_bool (a := false) (decide_eq_false ?_).symm, by first | exact below_drewN (HB1.out.trans (HW.out.mono hz1)) _ | exact hQ ▸ (below_drewN (HB1.out.trans (HW.out.mono hz1)) _)⟩
              intro e
              simp only [StM.mk.injEq, true_and] at e
              rw [e, HY.out] at HX
              exact HNE.out (Option.some.inj HX.out).symm
          · have hkn : k = n := by omega
            subst hkn
            rw [List.take_of_length_le (by omega), List.take_of_length_le (by omega)] at ht
            have HT := Lib.hid ht
            clear ht
            go_wp2_with fail
            go_ret
            refine ⟨ret_bool (a := true) (decide_eq_true ?_).symm, by first | exact HB1.out.trans (hw.mono hz1) | exact hQ ▸ (HB1.out.trans (hw.mono hz1))⟩
            rw [HT.out]
      · subst e1 e2
        have h3 : ((n : Int) == (n' : Int)) = false := by rw [beq_eq_false_iff_ne]; omega
        have h3' : ((n : Int) != (n' : Int)) = true := by rw [bne_iff_ne]; omega
        go_wp2_with fail
        go_ret
        refine ⟨ret_bool (a := false) (decide_eq_false ?_).symm, by first | exact HB1.out | exact hQ ▸ (HB1.out)⟩
        intro e
        simp only [StM.mk.injEq, true_and] at e
        exact e3 (by rw [← hn, ← hn', e])
    · subst e1
      have h3 : (out == out') = false := by rw [beq_eq_false_iff_ne]; exact e2
      have h3' : (out != out') = true := by rw [bne_iff_ne]; exact e2
      go_wp2_with fail
      go_ret
      refine ⟨ret_bool (a := false) (decide_eq_false ?_).symm, by first | exact HB1.out | exact hQ ▸ (HB1.out)⟩
      intro e
      simp only [StM.mk.injEq, true_and] at e
      exact e2 e.1
  · have h3 : (fin == fin') = false := by rw [beq_eq_false_iff_ne]; exact e1
    have h3' : (fin != fin') = true := by rw [bne_iff_ne]; exact e1
    go_wp2_with fail
    go_ret
    refine ⟨ret_bool (a := false) (decide_eq_false ?_).symm, by first | exact HB1.out | exact hQ ▸ (HB1.out)⟩
    intro e
    simp only [StM.mk.injEq] at e
    exact e1 e.1
end Go.Proofs.YtkibkbbjpgomlaaDoor.F
