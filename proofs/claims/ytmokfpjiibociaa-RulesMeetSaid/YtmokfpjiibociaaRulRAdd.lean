/-
  The walks of the reference's Add and Remove.
-/
import Derived.Test.YtmokfpjiibociaaRulAdd
namespace Go.Proofs.Ytmokfpjiibociaa.R
open Go.RowKit
open Aid
set_option linter.unusedSimpArgs false
set_option linter.unusedVariables false

theorem ints_own {w : World} {base : Nat} {e : TypeId} {k : IntKind} {v : Value} {l : List Int} (h : w.ownsRow base e 1 v l.length (l.map (.int k))) (hl : l.length ≤ 100) {B : Nat} (hB : B < base) (x : Value) : Ints (w.setCell ⟨B, 0, none⟩ x) k v l := by
  have hI := Ints.own h (by omega)
  rcases h.2 with ⟨rfl, hn⟩ | ⟨g, cap, cur, rfl, hb, hg, hnc, hcm, hcs, htake⟩
  · have : l = [] := List.eq_nil_of_length_eq_zero (by simpa using hn)
    subst this; exact Ints.nil _ _
  · exact ints_far hI (by omega)
theorem owns_form {w : World} {base : Nat} {e : TypeId} {v : Value} {n : Nat} {xs : List Value} (h : w.ownsRow base e 1 v n xs) : ∃ a cap, v = .slice a n cap := by
  rcases h.2 with ⟨rfl, hn⟩ | ⟨g, cap, cur, rfl, _⟩
  · subst hn; exact ⟨none, 0, rfl⟩
  · exact ⟨_, _, rfl⟩
theorem own_pushed {w : World} {base : Nat} {e : TypeId} {v : Value} {xs : List Int} {x : Int} (h : w.ownsRow base e 1 v (xs.length + 1) (xs.map (.int .i64) ++ [.int .i64 x])) {C : Nat} (hC : C < base) (y : Value) :
    Hid ((w.setCell ⟨C, 0, none⟩ y).ownsRow base e 1 v (xs ++ [x]).length ((xs ++ [x]).map (.int .i64))) := by
  show World.ownsRow _ _ _ _ _ _ _
  have h' : w.ownsRow base e 1 v (xs ++ [x]).length ((xs ++ [x]).map (.int .i64)) := by simpa using h
  refine ownsRow_setCell_below h' ?_ _
  exact hC

set_option maxRecDepth 100000 in
set_option maxHeartbeats 4000000 in
theorem radd_any (v : Value) (l : List Int) (x : Int) (w : World) (h : Ints w .i64 v l) : Calls Try.prog 31 #[.agg #[v], .int .i64 x] w (CfgEnd (addF l x) w) := by
  obtain ⟨i0, hi, hz0, hz1, hz2⟩ := info_parts (show (Try.prog.info? 3).map (fun i => (i.zero, i.size, i.bytes)) = some (some (.int .i64 0), 1, 8) by kernel_rfl)
  have HI := Lib.hid h
  clear h
  obtain ⟨a, c, rfl⟩ := Ints.form HI.out
  obtain ⟨r, hr⟩ : ∃ r, rightB l = r := ⟨_, rfl⟩
  have HR := Lib.hid hr
  go_enter Try.func31, Try.ntmps31
  go_wp2_with fail
  obtain ⟨wa, hwa⟩ : ∃ wa, (w.alloc (.cells #[.slice a l.length c] 40)).alloc (.cells #[.slice none 0 0] 40) = wa := ⟨_, rfl⟩
  obtain ⟨A, hA⟩ : ∃ A, w.heap.size = A := ⟨_, rfl⟩
  obtain ⟨B, hB⟩ : ∃ B, w.heap.size + 1 = B := ⟨_, rfl⟩
  have hb : Below A w wa := by rw [← hwa, ← hA]; exact two_below _ _ _
  have hsz : wa.heap.size = B + 1 := by rw [← hwa]; simp [← hB]
  have hAB : A < B := by omega
  have c0 : wa.cell? ⟨A, 0, none⟩ = some (.slice a l.length c) := by
    rw [← hwa]
    exact (((Below.refl (w.heap.size + 1) _).alloc (by simp) _).cell (p := ⟨A, 0, none⟩) (by show A < w.heap.size + 1; omega)).trans (cell_new _ _ _ _ hA.symm)
  have bB : Blk wa B 40 #[.slice none 0 0] := by rw [← hwa, ← hB]; exact two_blk _ _ _ _
  have hIa := HI.out.below (by rw [hA]; exact hb)
  simp only [hwa]
  simp only [hB]
  simp only [hA]
  have HA := Lib.hid hA
  clear hwa hA hB
  refine (rright_any _ l _ hIa).mono ?_
  rintro e w1 ⟨rfl, hb1⟩
  rw [HR.out]
  have hs1 := hb1.size
  have c1 := (hb1.cell (p := ⟨A, 0, none⟩) (by show A < wa.heap.size; omega)).trans c0
  have bB1 := Blk.below bB hb1 (by omega)
  have fB := Blk.free bB1 0
  have oB : w1.cell? ⟨B, 0, none⟩ = some (.slice none 0 0) := by rw [Blk.cell bB1]; rfl
  have hI1 := hIa.below hb1
  have hbw1 : Below A w w1 := hb.trans (hb1.mono (by omega))
  have hB1 : B < w1.heap.size := by omega
  clear c0 bB hIa hb hs1 hb1 hsz
  cases r
  · have HF : Hid (addF l x = ([], 190)) := by show _ = _; unfold addF legalB; simp [hr]
    clear hr
    go_wp2_with fail
    refine bodyPost_ret (results_cellT rfl _ _ B rfl _ rfl _ _ (one_set bB1 _) _ Try.underlying40 rfl (size_cfg _)) rfl ?_
    exact cfg_done (Ints.nil _ _) (by rw [HA.out]; exact hbw1) (by rw [HA.out]; omega) HF.out CapOk.nil
  · by_cases h0 : x < 0
    · have h0' : ¬ (0 ≤ x) := by omega
      have HF : Hid (addF l x = ([], 190)) := by show _ = _; unfold addF legalB; simp [hr, h0']
      clear hr h0'
      go_wp2_with fail
      refine bodyPost_ret (results_cellT rfl _ _ B rfl _ rfl _ _ (one_set bB1 _) _ Try.underlying40 rfl (size_cfg _)) rfl ?_
      exact cfg_done (Ints.nil _ _) (by rw [HA.out]; exact hbw1) (by rw [HA.out]; omega) HF.out CapOk.nil
    · by_cases h6 : 6 < x
      · have h6' : ¬ (x ≤ 6) := by omega
        have HF : Hid (addF l x = ([], 190)) := by show _ = _; unfold addF legalB; simp [hr, h6']
        clear hr h6'
        go_wp2_with fail
        refine bodyPost_ret (results_cellT rfl _ _ B rfl _ rfl _ _ (one_set bB1 _) _ Try.underlying40 rfl (size_cfg _)) rfl ?_
        exact cfg_done (Ints.nil _ _) (by rw [HA.out]; exact hbw1) (by rw [HA.out]; omega) HF.out CapOk.nil
      · have hleg : legalB l x = true := by unfold legalB; simp [hr]; omega
        have h7 := right_len hr
        obtain ⟨q, hq⟩ : ∃ q, hasB l x = q := ⟨_, rfl⟩
        have HQ := Lib.hid hq
        go_wp2_with fail
        refine (in_any _ l x _ hI1).mono ?_
        rintro e w1 ⟨rfl, rfl⟩
        rw [HQ.out]
        cases q
        · skip
          have HF : Hid (addF l x = (insL l x, 0)) := by show _ = _; unfold addF; simp [hleg, hq]
          clear hr hleg hq
          obtain ⟨C, hC⟩ : ∃ C, w1.heap.size = C := ⟨_, rfl⟩
          have hbX : Below C w1 (w1.alloc (.cells #[.slice none 0 0] 40)) := by rw [← hC]; exact (Below.refl _ _).alloc (Nat.le_refl _) _
          have hsX : (w1.alloc (.cells #[.slice none 0 0] 40)).heap.size = C + 1 := by simp [hC]
          have bC : Blk (w1.alloc (.cells #[.slice none 0 0] 40)) C 40 #[.slice none 0 0] := by rw [← hC]; exact Blk.alloc_new _ _ _
          have hBC : B < C := by omega
          have cX := (hbX.cell (p := ⟨A, 0, none⟩) (by show A < C; omega)).trans c1
          have bBX := Blk.below bB1 hbX hBC
          have hbwX : Below A w (w1.alloc (.cells #[.slice none 0 0] 40)) := hbw1.trans (hbX.mono (by omega))
          go_wp2_with fail
          obtain ⟨w3, hw3⟩ : ∃ w3, w1.alloc (.cells #[.slice none 0 0] 40) = w3 := ⟨_, rfl⟩
          rw [hw3] at hbX hsX bC cX bBX hbwX
          try simp only [hw3]
          try simp only [hC]
          clear hw3 hC c1 bB1 fB oB hI1 hbw1 hB1 hbX
          go_loopw [7] (fun i wr => ∃ (k : Nat) (u : Value) (xs : List Int), i = .int .i64 k ∧ k ≤ 7 ∧ xs.length ≤ k ∧ Hid (xs = ([0, 1, 2, 3, 4, 5, 6].take k).filter (fun v => v == x || hasB l v)) ∧ Blk wr C 40 #[u] ∧
              Hid (wr.ownsRow (C + 1) 3 1 u xs.length (xs.map (.int .i64))) ∧ Below C w3 wr) (fun i _ => 7 - (intOf i).toNat)
          case atStart => exact ⟨0, _, [], rfl, by omega, Nat.le_refl _, by simp [Hid], bC, World.ownsRow_nil _ _ _ _, Below.refl _ _⟩
          case round =>
            clear bC
            obtain ⟨k, u, xs, rfl, hk, hxk, HX, bC, HO, hbr⟩ := hrel
            have cr := (hbr.cell (p := ⟨A, 0, none⟩) (by show A < C; omega)).trans cX
            have hbwr : Below A w wr := hbwX.trans (hbr.mono (by omega))
            have HIr := Lib.hid (HI.out.below (by rw [HA.out]; exact hbwr))
            have fC := Blk.free bC 0
            have oC : wr.cell? ⟨C, 0, none⟩ = some u := by rw [Blk.cell bC]; rfl
            obtain ⟨au, cu, rfl⟩ := owns_form HO.out
            have hsr := hbr.size
            by_cases hlt : (k : Int) < 7
            · have HN := Lib.hid (sel_next (fun v => v == x || hasB l v) k (by omega))
              rw [← HX.out] at HN
              obtain ⟨e1, he1⟩ : ∃ e1, ((k : Int) == x) = e1 := ⟨_, rfl⟩
              obtain ⟨e2, he2⟩ : ∃ e2, hasB l (k : Int) = e2 := ⟨_, rfl⟩
              have he3 : ((k : Int) != x) = !e1 := by rw [← he1]; rfl
              have HE2 := Lib.hid he2
              simp only [he1, he2, he3] at HN
              clear he2
              have hbA := (Below.refl (C + 1) wr).alloc (by omega) (.cells #[.int .i64 (k : Int)] 3)
              have hownX := HO.out.alloc (.cells #[.int .i64 (k : Int)] 3)
              have bCX := Blk.below bC hbA (by omega)
              cases e1
              all_goals cases e2
              all_goals simp only [Bool.not_true, Bool.not_false, Bool.true_and, Bool.and_true, Bool.false_and, Bool.and_false, Bool.or_false, Bool.or_true, Bool.false_or, Bool.true_or, if_true, if_false, Bool.false_eq_true, List.append_nil] at HN
              all_goals go_wp2_with (first
                | (go_at_call 29; refine (in_any _ l (k : Int) _ HIr.out).mono ?_; rintro e wr ⟨rfl, rfl⟩; rw [HE2.out])
                | (at_builtin; refine wpList_push _ (by rfl) _ _ 38 rfl (C + 1) 3 i0 (.int .i64 0) 8 Try.underlying38 hi hz0 hz1 hz2 rfl _ _ _ rfl hownX wr.heap.size (.int .i64 (k : Int)) rfl (cell_new _ _ _ _ rfl) rfl (by unfold maxLen; omega) (by omega) (by simp; omega) ?_; intro v4 w4 hown4 hb4; obtain ⟨a4, c4, rfl⟩ := owns_form hown4; have bC4 := Blk.below bCX hb4 (by omega); have fC4 := Blk.free bC4 0; have oC4 : w4.cell? ⟨C, 0, none⟩ = some (.slice au xs.length cu) := (by rw [Blk.cell bC4]; rfl); have hb34 := hbr.trans ((hbA.trans hb4).mono (by omega))))
              all_goals first
                | exact ⟨⟨k + 1, _, xs, by go_num, by omega, by omega, HN.out.symm, bC, HO.out, hbr⟩, by simp [intOf]; omega⟩
                | exact ⟨⟨k + 1, _, xs ++ [(k : Int)], by go_num, by omega, by simp; omega, HN.out.symm, one_set bC4 _, own_pushed hown4 (by omega) _, Below.setCell hb34 (p := ⟨C, 0, none⟩) (Nat.le_refl _) _⟩, by simp [intOf]; omega⟩
            · have hke : k = 7 := by omega
              subst hke
              have HX7 : Hid (xs = insL l x) := HX.out
              have bBr := Blk.below bBX hbr hBC
              have fBr := Blk.free bBr 0
              have oBr : wr.cell? ⟨B, 0, none⟩ = some (.slice none 0 0) := by rw [Blk.cell bBr]; rfl
              go_wp2_with fail
              refine bodyPost_ret (results_cellT rfl _ _ B rfl _ rfl _ _ (one_set bBr _) _ Try.underlying40 rfl (size_cfg _)) rfl ?_
              exact cfg_done (ints_own HO.out (by omega) (by omega) _) (by rw [HA.out]; exact hbwr) (by rw [HA.out]; omega) (by rw [HF.out, HX7.out]) (cap_owns HO.out)
        · skip
          have HF : Hid (addF l x = ([], 191)) := by show _ = _; unfold addF; simp [hleg, hq]
          clear hr hleg hq
          go_wp2_with fail
          refine bodyPost_ret (results_cellT rfl _ _ B rfl _ rfl _ _ (one_set bB1 _) _ Try.underlying40 rfl (size_cfg _)) rfl ?_
          exact cfg_done (Ints.nil _ _) (by rw [HA.out]; exact hbw1) (by rw [HA.out]; omega) HF.out CapOk.nil

set_option maxRecDepth 100000 in
set_option maxHeartbeats 4000000 in
theorem rrem_any (v : Value) (l : List Int) (x : Int) (w : World) (h : Ints w .i64 v l) : Calls Try.prog 33 #[.agg #[v], .int .i64 x] w (CfgEnd (remF l x) w) := by
  obtain ⟨i0, hi, hz0, hz1, hz2⟩ := info_parts (show (Try.prog.info? 3).map (fun i => (i.zero, i.size, i.bytes)) = some (some (.int .i64 0), 1, 8) by kernel_rfl)
  have HI := Lib.hid h
  clear h
  obtain ⟨a, c, rfl⟩ := Ints.form HI.out
  obtain ⟨r, hr⟩ : ∃ r, rightB l = r := ⟨_, rfl⟩
  have HR := Lib.hid hr
  go_enter Try.func33, Try.ntmps33
  go_wp2_with fail
  obtain ⟨wa, hwa⟩ : ∃ wa, (w.alloc (.cells #[.slice a l.length c] 40)).alloc (.cells #[.slice none 0 0] 40) = wa := ⟨_, rfl⟩
  obtain ⟨A, hA⟩ : ∃ A, w.heap.size = A := ⟨_, rfl⟩
  obtain ⟨B, hB⟩ : ∃ B, w.heap.size + 1 = B := ⟨_, rfl⟩
  have hb : Below A w wa := by rw [← hwa, ← hA]; exact two_below _ _ _
  have hsz : wa.heap.size = B + 1 := by rw [← hwa]; simp [← hB]
  have hAB : A < B := by omega
  have c0 : wa.cell? ⟨A, 0, none⟩ = some (.slice a l.length c) := by
    rw [← hwa]
    exact (((Below.refl (w.heap.size + 1) _).alloc (by simp) _).cell (p := ⟨A, 0, none⟩) (by show A < w.heap.size + 1; omega)).trans (cell_new _ _ _ _ hA.symm)
  have bB : Blk wa B 40 #[.slice none 0 0] := by rw [← hwa, ← hB]; exact two_blk _ _ _ _
  have hIa := HI.out.below (by rw [hA]; exact hb)
  simp only [hwa]
  simp only [hB]
  simp only [hA]
  have HA := Lib.hid hA
  clear hwa hA hB
  refine (rright_any _ l _ hIa).mono ?_
  rintro e w1 ⟨rfl, hb1⟩
  rw [HR.out]
  have hs1 := hb1.size
  have c1 := (hb1.cell (p := ⟨A, 0, none⟩) (by show A < wa.heap.size; omega)).trans c0
  have bB1 := Blk.below bB hb1 (by omega)
  have fB := Blk.free bB1 0
  have oB : w1.cell? ⟨B, 0, none⟩ = some (.slice none 0 0) := by rw [Blk.cell bB1]; rfl
  have hI1 := hIa.below hb1
  have hbw1 : Below A w w1 := hb.trans (hb1.mono (by omega))
  have hB1 : B < w1.heap.size := by omega
  clear c0 bB hIa hb hs1 hb1 hsz
  cases r
  · have HF : Hid (remF l x = ([], 190)) := by show _ = _; unfold remF legalB; simp [hr]
    clear hr
    go_wp2_with fail
    refine bodyPost_ret (results_cellT rfl _ _ B rfl _ rfl _ _ (one_set bB1 _) _ Try.underlying40 rfl (size_cfg _)) rfl ?_
    exact cfg_done (Ints.nil _ _) (by rw [HA.out]; exact hbw1) (by rw [HA.out]; omega) HF.out CapOk.nil
  · by_cases h0 : x < 0
    · have h0' : ¬ (0 ≤ x) := by omega
      have HF : Hid (remF l x = ([], 190)) := by show _ = _; unfold remF legalB; simp [hr, h0']
      clear hr h0'
      go_wp2_with fail
      refine bodyPost_ret (results_cellT rfl _ _ B rfl _ rfl _ _ (one_set bB1 _) _ Try.underlying40 rfl (size_cfg _)) rfl ?_
      exact cfg_done (Ints.nil _ _) (by rw [HA.out]; exact hbw1) (by rw [HA.out]; omega) HF.out CapOk.nil
    · by_cases h6 : 6 < x
      · have h6' : ¬ (x ≤ 6) := by omega
        have HF : Hid (remF l x = ([], 190)) := by show _ = _; unfold remF legalB; simp [hr, h6']
        clear hr h6'
        go_wp2_with fail
        refine bodyPost_ret (results_cellT rfl _ _ B rfl _ rfl _ _ (one_set bB1 _) _ Try.underlying40 rfl (size_cfg _)) rfl ?_
        exact cfg_done (Ints.nil _ _) (by rw [HA.out]; exact hbw1) (by rw [HA.out]; omega) HF.out CapOk.nil
      · have hleg : legalB l x = true := by unfold legalB; simp [hr]; omega
        have h7 := right_len hr
        obtain ⟨q, hq⟩ : ∃ q, hasB l x = q := ⟨_, rfl⟩
        have HQ := Lib.hid hq
        go_wp2_with fail
        refine (in_any _ l x _ hI1).mono ?_
        rintro e w1 ⟨rfl, rfl⟩
        rw [HQ.out]
        cases q
        · skip
          have HF : Hid (remF l x = ([], 191)) := by show _ = _; unfold remF; simp [hleg, hq]
          clear hr hleg hq
          go_wp2_with fail
          refine bodyPost_ret (results_cellT rfl _ _ B rfl _ rfl _ _ (one_set bB1 _) _ Try.underlying40 rfl (size_cfg _)) rfl ?_
          exact cfg_done (Ints.nil _ _) (by rw [HA.out]; exact hbw1) (by rw [HA.out]; omega) HF.out CapOk.nil
        · by_cases hl1 : l.length = 1
          · have hl1' : ((l.length : Int) == 1) = true := by rw [beq_iff_eq]; omega
            have HF : Hid (remF l x = ([], 191)) := by show _ = _; unfold remF; simp [hleg, hq, hl1]
            clear hr hleg hq
            go_wp2_with fail
            refine bodyPost_ret (results_cellT rfl _ _ B rfl _ rfl _ _ (one_set bB1 _) _ Try.underlying40 rfl (size_cfg _)) rfl ?_
            exact cfg_done (Ints.nil _ _) (by rw [HA.out]; exact hbw1) (by rw [HA.out]; omega) HF.out CapOk.nil
          · have hl1' : ((l.length : Int) == 1) = false := by rw [beq_eq_false_iff_ne]; omega
            have HF : Hid (remF l x = (remL l x, 0)) := by show _ = _; unfold remF; simp [hleg, hq, hl1]
            clear hr hleg hq
            obtain ⟨C, hC⟩ : ∃ C, w1.heap.size = C := ⟨_, rfl⟩
            have hbX : Below C w1 (w1.alloc (.cells #[.slice none 0 0] 40)) := by rw [← hC]; exact (Below.refl _ _).alloc (Nat.le_refl _) _
            have hsX : (w1.alloc (.cells #[.slice none 0 0] 40)).heap.size = C + 1 := by simp [hC]
            have bC : Blk (w1.alloc (.cells #[.slice none 0 0] 40)) C 40 #[.slice none 0 0] := by rw [← hC]; exact Blk.alloc_new _ _ _
            have hBC : B < C := by omega
            have cX := (hbX.cell (p := ⟨A, 0, none⟩) (by show A < C; omega)).trans c1
            have bBX := Blk.below bB1 hbX hBC
            have hbwX : Below A w (w1.alloc (.cells #[.slice none 0 0] 40)) := hbw1.trans (hbX.mono (by omega))
            go_wp2_with fail
            obtain ⟨w3, hw3⟩ : ∃ w3, w1.alloc (.cells #[.slice none 0 0] 40) = w3 := ⟨_, rfl⟩
            rw [hw3] at hbX hsX bC cX bBX hbwX
            try simp only [hw3]
            try simp only [hC]
            clear hw3 hC c1 bB1 fB oB hI1 hbw1 hB1 hbX
            go_loopw [7] (fun i wr => ∃ (k : Nat) (u : Value) (xs : List Int), i = .int .i64 k ∧ k ≤ 7 ∧ xs.length ≤ k ∧ Hid (xs = ([0, 1, 2, 3, 4, 5, 6].take k).filter (fun v => v != x && hasB l v)) ∧ Blk wr C 40 #[u] ∧
                Hid (wr.ownsRow (C + 1) 3 1 u xs.length (xs.map (.int .i64))) ∧ Below C w3 wr) (fun i _ => 7 - (intOf i).toNat)
            case atStart => exact ⟨0, _, [], rfl, by omega, Nat.le_refl _, by simp [Hid], bC, World.ownsRow_nil _ _ _ _, Below.refl _ _⟩
            case round =>
              clear bC
              obtain ⟨k, u, xs, rfl, hk, hxk, HX, bC, HO, hbr⟩ := hrel
              have cr := (hbr.cell (p := ⟨A, 0, none⟩) (by show A < C; omega)).trans cX
              have hbwr : Below A w wr := hbwX.trans (hbr.mono (by omega))
              have HIr := Lib.hid (HI.out.below (by rw [HA.out]; exact hbwr))
              have fC := Blk.free bC 0
              have oC : wr.cell? ⟨C, 0, none⟩ = some u := by rw [Blk.cell bC]; rfl
              obtain ⟨au, cu, rfl⟩ := owns_form HO.out
              have hsr := hbr.size
              by_cases hlt : (k : Int) < 7
              · have HN := Lib.hid (sel_next (fun v => v != x && hasB l v) k (by omega))
                rw [← HX.out] at HN
                obtain ⟨e1, he1⟩ : ∃ e1, ((k : Int) == x) = e1 := ⟨_, rfl⟩
                obtain ⟨e2, he2⟩ : ∃ e2, hasB l (k : Int) = e2 := ⟨_, rfl⟩
                have he3 : ((k : Int) != x) = !e1 := by rw [← he1]; rfl
                have HE2 := Lib.hid he2
                simp only [he1, he2, he3] at HN
                clear he2
                have hbA := (Below.refl (C + 1) wr).alloc (by omega) (.cells #[.int .i64 (k : Int)] 3)
                have hownX := HO.out.alloc (.cells #[.int .i64 (k : Int)] 3)
                have bCX := Blk.below bC hbA (by omega)
                cases e1
                all_goals cases e2
                all_goals simp only [Bool.not_true, Bool.not_false, Bool.true_and, Bool.and_true, Bool.false_and, Bool.and_false, Bool.or_false, Bool.or_true, Bool.false_or, Bool.true_or, if_true, if_false, Bool.false_eq_true, List.append_nil] at HN
                all_goals go_wp2_with (first
                  | (go_at_call 29; refine (in_any _ l (k : Int) _ HIr.out).mono ?_; rintro e wr ⟨rfl, rfl⟩; rw [HE2.out])
                  | (at_builtin; refine wpList_push _ (by rfl) _ _ 38 rfl (C + 1) 3 i0 (.int .i64 0) 8 Try.underlying38 hi hz0 hz1 hz2 rfl _ _ _ rfl hownX wr.heap.size (.int .i64 (k : Int)) rfl (cell_new _ _ _ _ rfl) rfl (by unfold maxLen; omega) (by omega) (by simp; omega) ?_; intro v4 w4 hown4 hb4; obtain ⟨a4, c4, rfl⟩ := owns_form hown4; have bC4 := Blk.below bCX hb4 (by omega); have fC4 := Blk.free bC4 0; have oC4 : w4.cell? ⟨C, 0, none⟩ = some (.slice au xs.length cu) := (by rw [Blk.cell bC4]; rfl); have hb34 := hbr.trans ((hbA.trans hb4).mono (by omega))))
                all_goals first
                  | exact ⟨⟨k + 1, _, xs, by go_num, by omega, by omega, HN.out.symm, bC, HO.out, hbr⟩, by simp [intOf]; omega⟩
                  | exact ⟨⟨k + 1, _, xs ++ [(k : Int)], by go_num, by omega, by simp; omega, HN.out.symm, one_set bC4 _, own_pushed hown4 (by omega) _, Below.setCell hb34 (p := ⟨C, 0, none⟩) (Nat.le_refl _) _⟩, by simp [intOf]; omega⟩
              · have hke : k = 7 := by omega
                subst hke
                have HX7 : Hid (xs = remL l x) := HX.out
                have bBr := Blk.below bBX hbr hBC
                have fBr := Blk.free bBr 0
                have oBr : wr.cell? ⟨B, 0, none⟩ = some (.slice none 0 0) := by rw [Blk.cell bBr]; rfl
                go_wp2_with fail
                refine bodyPost_ret (results_cellT rfl _ _ B rfl _ rfl _ _ (one_set bBr _) _ Try.underlying40 rfl (size_cfg _)) rfl ?_
                exact cfg_done (ints_own HO.out (by omega) (by omega) _) (by rw [HA.out]; exact hbwr) (by rw [HA.out]; omega) (by rw [HF.out, HX7.out]) (cap_owns HO.out)
end Go.Proofs.Ytmokfpjiibociaa.R
