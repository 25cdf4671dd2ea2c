/-
  The walk of Remove, of the program.
-/
import Derived.Test.YtmokfpjiibociaaRulRAdd
import Derived.Deep.RegionHeldLaw
import Derived.Deep.RegionLawGrows
namespace Go.Proofs.Ytmokfpjiibociaa.R
open Go.RowKit
open Aid
set_option linter.unusedSimpArgs false
set_option linter.unusedVariables false

theorem ix_pos {l : List Int} {x : Int} (h : hasB l x = true) : ∃ k : Nat, ixF l x = (k : Int) ∧ k < l.length ∧ l.getD k 0 = x := by
  unfold ixF
  have hm := (hasB_iff l x).1 h
  rw [if_pos (by simpa using hm)]
  refine ⟨l.idxOf x, rfl, List.idxOf_lt_length_of_mem hm, ?_⟩
  simp [List.getD_eq_getElem?_getD, List.idxOf_lt_length_of_mem hm]
theorem ix_neg {l : List Int} {x : Int} (h : hasB l x = false) : ixF l x = -1 := by
  unfold ixF; unfold hasB at h; rw [h]; simp

theorem addr_any (b o j : Nat) : (⟨b, o, none⟩ : Addr).add j = ⟨b, o + j, none⟩ := by unfold Addr.add; split <;> simp_all
theorem step_cut {P : Program} {ops : Array Oper} {o : Oper} {a : Act} {w : World} {K : Act → World → Prop} {Q : Exit → Act → World → Prop} {E : Prop}
    (hg : o.guard = none) (s x : Operand) (t : TypeId) (hop : o.op = Op.call { callee := Callee.builtin Builtin.append, args := #[s, x], argTypes := #[t, t] })
    (e : TypeId) (i : TypeInfo) (z : Value) (h1 : P.underlying t = some (.slice e)) (h2 : P.info? e = some i) (h3 : i.zero = some z) (h4 : i.size = 1) (h5 : i.bytes = 8) (h6 : z.cells.size = 1)
    (b o1 k : Nat) (olds : List Int) (hs : a.eval s = .slice (some ⟨b, o1, none⟩) k k) (hlo : olds.length = k) (hco : ∀ j, j < k → w.cell? ⟨b, o1 + j, none⟩ = some (.int .i64 (olds.getD j 0)))
    (ad : Addr) (m c : Nat) (news : List Int) (hx : a.eval x = .slice (some ad) m c) (hn : news.length = m) (hcn : ∀ j, j < m → w.cell? (ad.add j) = some (.int .i64 (news.getD j 0))) (hb : b < w.heap.size) (small : k + m ≤ 100)
    (hK : ∀ g off cap w', (g = b ∨ w.heap.size ≤ g) → k + m ≤ cap → Ints w' .i64 (.slice (some ⟨g, off, none⟩) (k + m) cap) (olds ++ news) → Below w.heap.size w w' → K (a.put o.dst (.slice (some ⟨g, off, none⟩) (k + m) cap)) w') :
    if Region.wanted o (yielded ops a.tmps) = true then Oper.wp P o a w K Q else E := by
  have hw : Region.wanted o (yielded ops a.tmps) = true := by simp [Region.wanted, hg]
  rw [if_pos hw]
  have hnews : ∀ j u, (news.map (Value.int .i64))[j]? = some u → w.cell? (ad.add j) = some u := by
    intro j u hj
    have hj' : j < news.length := by have := (List.getElem?_eq_some_iff.1 hj).1; simpa using this
    rw [hcn j (by omega)]
    simpa [List.getD_eq_getElem?_getD, hj'] using hj
  have holds : ∀ j u, (olds.map (Value.int .i64))[j]? = some u → w.cell? ((⟨b, o1, none⟩ : Addr).add j) = some u := by
    intro j u hj
    have hj' : j < olds.length := by have := (List.getElem?_eq_some_iff.1 hj).1; simpa using this
    have : (⟨b, o1, none⟩ : Addr).add j = ⟨b, o1 + j, none⟩ := by unfold Addr.add; split <;> simp_all
    rw [this, hco j (by omega)]
    simpa [List.getD_eq_getElem?_getD, hj'] using hj
  by_cases hm : m = 0
  · subst hm
    have hn0 : news = [] := List.eq_nil_of_length_eq_zero hn
    subst hn0
    have hrun := run_append_room_cells (P := P) w t o.type e i h1 h2 b o1 k k ad 0 c [] (by simp) (by simp) (by simp) (by omega) (by simp) (by simp)
    unfold Oper.wp
    simp [execOp, hop, resolve, invoke, builtin, hs, hx, hrun, Result.andThen]
    refine hK b o1 k w (.inl rfl) (by omega) ?_ (Below.refl _ _)
    rw [List.append_nil]
    exact ⟨by omega, .inr ⟨b, o1, k, by simp [hlo], hb, fun j hj => hco j (by omega)⟩⟩
  · obtain ⟨v', w', hrun, r1, r2⟩ := run_append_arg_grows (P := P) w t o.type e i z 1 8 h1 h2 h3 h4 h5 h6 (by decide) ⟨b, o1, none⟩ k k (olds.map (.int .i64)) (by simp [hlo]) holds ad m c (news.map (.int .i64)) (by simp [hn]) hnews (by omega) (by unfold maxLen; omega) (by omega)
    have r3 : w'.ownsRow w.heap.size e 1 v' (olds ++ news).length ((olds ++ news).map (.int .i64)) := by
      rw [List.length_append, hlo, hn, List.map_append]; exact r1
    have hI := Ints.own r3 (by rw [List.length_append]; omega)
    have hbl : Below w.heap.size w w' := below_of_grown r2 (Nat.le_refl _) (fun k hk => by cases hk)
    unfold Oper.wp
    simp [execOp, hop, resolve, invoke, builtin, hs, hx, hrun, Result.andThen]
    rcases r1.2 with ⟨_, h0⟩ | ⟨g, cap, cur, rfl, hbg, hg', hnc, _⟩
    · omega
    · exact hK g 0 cap w' (.inr hbg) hnc hI hbl

set_option maxRecDepth 100000 in
set_option maxHeartbeats 2000000 in
theorem rem_any (v : Value) (l : List Int) (x : Int) (w : World) (h : Ints w .i64 v l) (hcap : CapOk v) : Calls Try.prog 32 #[.agg #[v], .int .i64 x] w (CfgEnd (remF l x) w) := by
  obtain ⟨i0, hi, hz0, hz1, hz2⟩ := info_parts (show (Try.prog.info? 3).map (fun i => (i.zero, i.size, i.bytes)) = some (some (.int .i64 0), 1, 8) by kernel_rfl)
  have HI := Lib.hid h
  have h63 := h.1
  clear h
  obtain ⟨a, c, rfl⟩ := Ints.form HI.out
  have hlc : l.length ≤ c := hcap
  clear hcap
  obtain ⟨r, hr⟩ : ∃ r, legalB l x = r := ⟨_, rfl⟩
  have HR := Lib.hid hr
  obtain ⟨i, hix⟩ : ∃ i, ixF l x = i := ⟨_, rfl⟩
  have HX := Lib.hid hix
  go_enter Try.func32, Try.ntmps32
  go_wp2_with fail
  obtain ⟨wa, hwa⟩ : ∃ wa, (w.alloc (.cells #[.slice a l.length c] 40)).alloc (.cells #[.slice none 0 0] 40) = wa := ⟨_, rfl⟩
  obtain ⟨A, hA⟩ : ∃ A, w.heap.size = A := ⟨_, rfl⟩
  obtain ⟨B, hB⟩ : ∃ B, w.heap.size + 1 = B := ⟨_, rfl⟩
  have hb : Below A w wa := by rw [← hwa, ← hA]; exact two_below _ _ _
  have hsz : wa.heap.size = B + 1 := by rw [← hwa]; simp [← hB]
  have hAB : A < B := by omega
  have c0 : wa.cell? ⟨A, 0, none⟩ = some (.slice a l.length c) := by
    rw [← hwa]
    exact (((Below.refl (w.heap.size + 1) _).alloc (by simp) _).cell (p := ⟨A, 0, none⟩) (by show A < w.heap.size + 1; omega)).trans (cell_new _ _ _ _ hA.symm)
  have bB : Blk wa B 40 #[.slice none 0 0] := by rw [← hwa, ← hB]; exact two_blk _ _ _ _
  have hIa := HI.out.below (by rw [hA]; exact hb)
  simp only [hwa]
  simp only [hB]
  simp only [hA]
  have HA := Lib.hid hA
  clear hwa hA hB
  refine (index_any _ l x _ hIa).mono ?_
  rintro e wa ⟨rfl, rfl⟩
  rw [HX.out]
  go_wp2_with fail
  refine (legal_any _ l x _ hIa).mono ?_
  rintro e w1 ⟨rfl, hb1⟩
  rw [HR.out]
  have hs1 := hb1.size
  have c1 := (hb1.cell (p := ⟨A, 0, none⟩) (by show A < wa.heap.size; omega)).trans c0
  have bB1 := Blk.below bB hb1 (by omega)
  have fB := Blk.free bB1 0
  have oB : w1.cell? ⟨B, 0, none⟩ = some (.slice none 0 0) := by rw [Blk.cell bB1]; rfl
  have hI1 := hIa.below hb1
  have hbw1 : Below A w w1 := hb.trans (hb1.mono (by omega))
  have hB1 : B < w1.heap.size := by omega
  clear c0 bB hIa hb hs1 hb1 hsz
  cases r
  · skip
    have HF : Hid (remF l x = ([], 190)) := by show _ = _; unfold remF; simp [hr]
    clear hr hix
    go_wp2_with fail
    refine bodyPost_ret (results_cellT rfl _ _ B rfl _ rfl _ _ (one_set bB1 _) _ Try.underlying40 rfl (size_cfg _)) rfl ?_
    exact cfg_done (Ints.nil _ _) (by rw [HA.out]; exact hbw1) (by rw [HA.out]; omega) HF.out CapOk.nil
  · have hrr : rightB l = true := by unfold legalB at hr; simp only [Bool.and_eq_true] at hr; exact hr.1
    have h7 := right_len hrr
    obtain ⟨q, hq⟩ : ∃ q, hasB l x = q := ⟨_, rfl⟩
    cases q
    · have him : i = -1 := by rw [← hix]; exact ix_neg hq
      subst him
      have HF : Hid (remF l x = ([], 191)) := by show _ = _; unfold remF; simp [hr, hq]
      clear hr hix hq
      go_wp2_with fail
      refine bodyPost_ret (results_cellT rfl _ _ B rfl _ rfl _ _ (one_set bB1 _) _ Try.underlying40 rfl (size_cfg _)) rfl ?_
      exact cfg_done (Ints.nil _ _) (by rw [HA.out]; exact hbw1) (by rw [HA.out]; omega) HF.out CapOk.nil
    · obtain ⟨k, hk, hkl, hkx⟩ := ix_pos hq
      obtain rfl : i = (k : Int) := hix.symm.trans hk
      by_cases hl1 : l.length = 1
      · have hl1' : ((l.length : Int) == 1) = true := by rw [beq_iff_eq]; omega
        have HF : Hid (remF l x = ([], 191)) := by show _ = _; unfold remF; simp [hr, hq, hl1]
        clear hr hix hq hk
        go_wp2_with fail
        refine bodyPost_ret (results_cellT rfl _ _ B rfl _ rfl _ _ (one_set bB1 _) _ Try.underlying40 rfl (size_cfg _)) rfl ?_
        exact cfg_done (Ints.nil _ _) (by rw [HA.out]; exact hbw1) (by rw [HA.out]; omega) HF.out CapOk.nil
      · have hl1' : ((l.length : Int) == 1) = false := by rw [beq_eq_false_iff_ne]; omega
        have HF : Hid (remF l x = (remL l x, 0)) := by show _ = _; unfold remF; simp [hr, hq, hl1]
        have HC := Lib.hid (rem_cut hrr hkl hkx)
        obtain ⟨b1, o1, rfl, hb0, _⟩ := Ints.at_ HI.out (k := k) hkl hkx
        rw [HA.out] at hb0
        have hbl : b1 < w1.heap.size := by omega
        have z1 : (k : Int) ≤ (l.length : Int) := by omega
        have Z2 : Hid (IntKind.i64.wrap ((k : Int) + 1) = ((k + 1 : Nat) : Int)) := by show _ = _; rw [IntWalk.i64_in _ (by omega)]; omega
        have Z3 : Hid (wrap64 ((k : Int) + 1) = ((k + 1 : Nat) : Int)) := by show _ = _; rw [IntWalk.wrap64_in _ (by omega)]; omega
        have z5 : (k : Int) ≤ (c : Int) := by omega
        have z6 : (l.length : Int) ≤ (c : Int) := by omega
        have z4 : ((k + 1 : Nat) : Int) ≤ (l.length : Int) := by omega
        clear hr hix hq hk hl1
        go_wp2_with fail
        have hlen : (l.take k).length = k := by simp; omega
        have hlen2 : (l.drop (k + 1)).length = l.length - (k + 1) := by simp
        have hco : ∀ j, j < k → w1.cell? ⟨b1, o1 + j, none⟩ = some (.int .i64 ((l.take k).getD j 0)) := by
          intro j hj
          obtain ⟨b2, o2, hb2, _, c2⟩ := Ints.at_ hI1 (k := j) (by omega) rfl
          obtain ⟨rfl, rfl⟩ : b1 = b2 ∧ o1 = o2 := by simpa using hb2
          rw [c2]; simp [List.getD_eq_getElem?_getD, List.getElem?_take, hj]
        have hcn : ∀ j, j < l.length - (k + 1) → w1.cell? ⟨b1, o1 + (k + 1) + j, none⟩ = some (.int .i64 ((l.drop (k + 1)).getD j 0)) := by
          intro j hj
          obtain ⟨b2, o2, hb2, _, c2⟩ := Ints.at_ hI1 (k := k + 1 + j) (by omega) rfl
          obtain ⟨rfl, rfl⟩ : b1 = b2 ∧ o1 = o2 := by simpa using hb2
          rw [Nat.add_assoc, c2]; simp [List.getD_eq_getElem?_getD, List.getElem?_drop]
        obtain ⟨ad, had, hadj⟩ : ∃ ad : Addr, (if c = k + 1 then (some ⟨b1, o1, none⟩ : Option Addr) else some ⟨b1, o1 + (k + 1), none⟩) = some ad ∧ ∀ j, j < l.length - (k + 1) → w1.cell? (ad.add j) = some (.int .i64 ((l.drop (k + 1)).getD j 0)) := by
          by_cases hck : c = k + 1
          · exact ⟨_, if_pos hck, fun j hj => by omega⟩
          · exact ⟨_, if_neg hck, fun j hj => by rw [addr_any]; exact hcn j hj⟩
        clear hcn
        refine wp_region_noPanic ?_
        refine wp_region_held_drew (S := fun w' => w'.cell? ⟨A, 0, none⟩ = some (.slice (some ⟨b1, o1, none⟩) l.length c)) (by kernel_rfl) c1 (fun hHeld => ?_)
        refine wpAnyH_take (i := 0) (v := .pointer (some ⟨A, 0, none⟩)) rfl (by kernel_rfl) (by kernel_rfl) (by kernel_rfl) (fun _ _ _ h => h) (.inl ⟨by rfl, by intro w hSw; go_simp⟩) hHeld ?_
        simp only [Act.put, List.getElem_toArray, List.getElem_cons_succ, List.getElem_cons_zero, List.setIfInBounds_toArray, List.set_cons_zero, List.set_cons_succ]
        refine wpAnyH_take (i := 1) (v := .slice (some ⟨b1, o1, none⟩) l.length c) rfl (by kernel_rfl) (by kernel_rfl) (by kernel_rfl) (fun _ _ _ h => h) (.inl ⟨by rfl, by intro w hSw; go_simp⟩) hHeld ?_
        simp only [Act.put, List.getElem_toArray, List.getElem_cons_succ, List.getElem_cons_zero, List.setIfInBounds_toArray, List.set_cons_zero, List.set_cons_succ]
        refine wpAnyH_take (i := 2) (v := .int .i64 (k : Int)) rfl (by kernel_rfl) (by kernel_rfl) (by kernel_rfl) (fun _ _ _ h => h) (.inl ⟨by rfl, by intro w hSw; go_simp⟩) hHeld ?_
        simp only [Act.put, List.getElem_toArray, List.getElem_cons_succ, List.getElem_cons_zero, List.setIfInBounds_toArray, List.set_cons_zero, List.set_cons_succ]
        refine wpAnyH_take (i := 3) (v := .int .i64 (k : Int)) rfl (by kernel_rfl) (by kernel_rfl) (by kernel_rfl) (fun _ _ _ h => h) (.inl ⟨by rfl, by intro w hSw; go_simp⟩) hHeld ?_
        simp only [Act.put, List.getElem_toArray, List.getElem_cons_succ, List.getElem_cons_zero, List.setIfInBounds_toArray, List.set_cons_zero, List.set_cons_succ]
        refine wpAnyH_take (i := 4) (v := .slice (some ⟨b1, o1, none⟩) k k) rfl (by kernel_rfl) (by kernel_rfl) (by kernel_rfl) (fun _ _ _ h => h) (.inl ⟨by rfl, by intro w hSw; go_simp⟩) hHeld ?_
        simp only [Act.put, List.getElem_toArray, List.getElem_cons_succ, List.getElem_cons_zero, List.setIfInBounds_toArray, List.set_cons_zero, List.set_cons_succ]
        refine wpAnyH_take (i := 5) (v := .pointer (some ⟨A, 0, none⟩)) rfl (by kernel_rfl) (by kernel_rfl) (by kernel_rfl) (fun _ _ _ h => h) (.inl ⟨by rfl, by intro w hSw; go_simp⟩) hHeld ?_
        simp only [Act.put, List.getElem_toArray, List.getElem_cons_succ, List.getElem_cons_zero, List.setIfInBounds_toArray, List.set_cons_zero, List.set_cons_succ]
        refine wpAnyH_take (i := 6) (v := .slice (some ⟨b1, o1, none⟩) l.length c) rfl (by kernel_rfl) (by kernel_rfl) (by kernel_rfl) (fun _ _ _ h => h) (.inl ⟨by rfl, by intro w hSw; go_simp⟩) hHeld ?_
        simp only [Act.put, List.getElem_toArray, List.getElem_cons_succ, List.getElem_cons_zero, List.setIfInBounds_toArray, List.set_cons_zero, List.set_cons_succ]
        refine wpAnyH_take (i := 7) (v := .int .i64 (k : Int)) rfl (by kernel_rfl) (by kernel_rfl) (by kernel_rfl) (fun _ _ _ h => h) (.inl ⟨by rfl, by intro w hSw; go_simp⟩) hHeld ?_
        simp only [Act.put, List.getElem_toArray, List.getElem_cons_succ, List.getElem_cons_zero, List.setIfInBounds_toArray, List.set_cons_zero, List.set_cons_succ]
        refine wpAnyH_take (i := 8) (v := .int .i64 ((k + 1 : Nat) : Int)) rfl (by kernel_rfl) (by kernel_rfl) (by kernel_rfl) (fun _ _ _ h => h) (.inl ⟨by rfl, by intro w hSw; have z2 := Z2.out; have z3 := Z3.out; go_simp⟩) hHeld ?_
        simp only [Act.put, List.getElem_toArray, List.getElem_cons_succ, List.getElem_cons_zero, List.setIfInBounds_toArray, List.set_cons_zero, List.set_cons_succ]
        refine wpAnyH_take (i := 9) (v := .slice (some ad) (l.length - (k + 1)) (c - (k + 1))) rfl (by kernel_rfl) (by kernel_rfl) (by kernel_rfl) (fun _ _ _ h => h) (.inl ⟨by rfl, by intro w hSw; go_simp; intro h; exact absurd (h (by omega)) (by omega)⟩) hHeld ?_
        simp only [Act.put, List.getElem_toArray, List.getElem_cons_succ, List.getElem_cons_zero, List.setIfInBounds_toArray, List.set_cons_zero, List.set_cons_succ]
        refine wpAnyH_ready (rs := [10]) (by kernel_rfl) (by simp) ?_
        refine AllReadyH.cons rfl (fun K hK => ?_) AllReadyH.nil
        refine step_cut rfl _ _ 38 rfl 3 i0 (.int .i64 0) Try.underlying38 hi hz0 hz1 hz2 rfl b1 o1 k (l.take k) rfl hlen hco ad (l.length - (k + 1)) _ (l.drop (k + 1)) rfl hlen2 hadj hbl (by omega) ?_
        intro g off cap w5 hgb hcap5 hI5 hb50
        have hb5 : Below w1.heap.size w1 w5 := (Below.refl w1.heap.size w1).drew.trans hb50
        clear hb50
        have kA := (hb5.cell (p := ⟨A, 0, none⟩) (by show A < w1.heap.size; omega)).trans c1
        have bB5 := Blk.below bB1 hb5 hB1
        have kB : w5.cell? ⟨B, 0, none⟩ = some (.slice none 0 0) := by rw [Blk.cell bB5]; rfl
        have kF := Blk.free bB5 0
        refine hK.out _ _ kA (fun hHeld => ?_)
        clear hK K
        refine wpAnyH_take (i := 11) (v := .agg #[.slice (some ⟨g, off, none⟩) (k + (l.length - (k + 1))) cap]) rfl (by kernel_rfl) (by kernel_rfl) (by kernel_rfl) (fun _ _ _ h => h) (.inl ⟨by rfl, by intro w hSw; go_simp⟩) hHeld ?_
        simp only [Act.put, List.getElem_toArray, List.getElem_cons_succ, List.getElem_cons_zero, List.setIfInBounds_toArray, List.set_cons_zero, List.set_cons_succ]
        refine wpAnyH_ready (rs := [12]) (by kernel_rfl) (by simp) ?_
        refine AllReadyH.cons rfl (fun K hK => ?_) AllReadyH.nil
        go_simp
        refine hK.out _ _ ((World.cell?_setCell_other _ _ _ _ (by intro e; injection e; omega)).trans kA) (fun hHeld => ?_)
        clear hK K
        refine wpAnyH_take (i := 13) (v := .int .i64 0) rfl (by kernel_rfl) (by kernel_rfl) (by kernel_rfl) (fun _ _ _ h => h) (.inl ⟨by rfl, by intro w hSw; go_simp⟩) hHeld ?_
        simp only [Act.put, List.getElem_toArray, List.getElem_cons_succ, List.getElem_cons_zero, List.setIfInBounds_toArray, List.set_cons_zero, List.set_cons_succ]
        refine wpAnyH_done (by kernel_rfl) ?_ _
        refine NoPanic.normal ?_
        go_wp2_with fail
        have hgB : g ≠ B := by
          have : w1.drew.heap.size = w1.heap.size := rfl
          omega
        have hs5 := hb5.size
        refine bodyPost_ret (results_cellT rfl _ _ B rfl _ rfl _ _ (one_set bB5 _) _ Try.underlying40 rfl (size_cfg _)) rfl ?_
        refine cfg_done (l' := l.take k ++ l.drop (k + 1)) ?_ (by rw [HA.out]; exact hbw1.trans (hb5.mono (by omega))) (by rw [HA.out]; omega) (by rw [HF.out, HC.out]) hcap5
        exact ints_far hI5 hgB
end Go.Proofs.Ytmokfpjiibociaa.R
