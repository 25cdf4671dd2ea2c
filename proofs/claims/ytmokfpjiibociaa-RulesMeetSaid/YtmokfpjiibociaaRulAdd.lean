/-
  The walk of Add, of the program.
-/
import Derived.Test.YtmokfpjiibociaaRulSel
import Derived.Lib.SliceRun
namespace Go.Proofs.Ytmokfpjiibociaa.R
open Go.RowKit
open Aid
set_option linter.unusedSimpArgs false
set_option linter.unusedVariables false

set_option maxRecDepth 100000 in
set_option maxHeartbeats 1000000 in
theorem clone_any (v : Value) (l : List Int) (w : World) (h : Ints w .i64 v l) (hn : l.length * 8 ≤ 140737488351232) : Calls Try.prog 39 #[v] w fun e w' => (∃ v', e = .returned v' ∧ w'.ownsRow w.heap.size 3 1 v' l.length (l.map (.int .i64))) ∧ Below w.heap.size w w' := by
  obtain ⟨i0, hi, hz0, hz1, hz2⟩ := info_parts (show (Try.prog.info? 3).map (fun i => (i.zero, i.size, i.bytes)) = some (some (.int .i64 0), 1, 8) by kernel_rfl)
  have HI := Lib.hid h
  have h63 := h.1
  clear h
  obtain ⟨a, c, rfl⟩ := Ints.form HI.out
  cases a with
  | none =>
    have hl : l = [] ∧ c = 0 := by
      obtain ⟨_, ⟨h1, h2 | ⟨a, cap, h2⟩⟩ | ⟨b, off, cap, h2, _⟩⟩ := HI.out
      · simp at h2; exact ⟨h1, h2.2⟩
      · simp at h2
      · simp at h2
    obtain ⟨rfl, rfl⟩ := hl
    have hq : ∀ w : World, (binOp .eql 38 (.slice none 0 0) (.slice none 0 0)).run Try.prog w = .ok (.bool true) w := fun w => Lib.run_eql_slice_nil w _ _ none 0 0 0 0 Try.underlying38
    go_enter Try.func39, Try.ntmps39
    go_wp2_with fail
    go_ret
    exact ⟨⟨_, rfl, World.ownsRow_nil _ _ _ _⟩, Below.refl _ _⟩
  | some a =>
    have hown : (w.alloc (.cells #[] 3)).ownsRow w.heap.size 3 1 (.slice (some ⟨w.heap.size, 0, none⟩) 0 0) 0 [] := World.ownsRow_made w #[] 0 (Nat.le_refl _) (by unfold maxLen; omega) (by simp)
    have hbX : Below w.heap.size w (w.alloc (.cells #[] 3)) := (Below.refl _ _).alloc (Nat.le_refl _) _
    have hIX := HI.out.below hbX
    have hq : ∀ w : World, (binOp .eql 38 (.slice (some a) l.length c) (.slice none 0 0)).run Try.prog w = .ok (.bool false) w := fun w => Lib.run_eql_slice_nil w _ _ (some a) _ _ 0 0 Try.underlying38
    go_enter Try.func39, Try.ntmps39
    go_wp2_with (first | (at_builtin; refine wpList_append_ints _ (by rfl) _ _ 38 rfl w.heap.size 3 i0 (.int .i64 0) 8 Try.underlying38 hi hz0 hz1 hz2 rfl .i64 _ 0 [] rfl hown _ l rfl hIX (by unfold maxLen; omega) (by omega) (by simp) ?_; intro v' w2 hown2 hb2))
    go_ret
    rw [Nat.zero_add, List.nil_append] at hown2
    exact ⟨⟨_, rfl, hown2⟩, hbX.trans hb2⟩

def legalB (l : List Int) (x : Int) : Bool := rightB l && (decide (0 ≤ x) && decide (x ≤ 6))
set_option maxRecDepth 100000 in
set_option maxHeartbeats 1000000 in
theorem legal_any (v : Value) (l : List Int) (x : Int) (w : World) (h : Ints w .i64 v l) : Calls Try.prog 38 #[.agg #[v], .int .i64 x] w fun e w' => e = .returned (.bool (legalB l x)) ∧ Below w.heap.size w w' := by
  have HI := Lib.hid h
  clear h
  obtain ⟨a, c, rfl⟩ := Ints.form HI.out
  have hbA : Below w.heap.size w (w.alloc (.cells #[.slice a l.length c] 40)) := (Below.refl _ _).alloc (Nat.le_refl _) _
  have HIa := Lib.hid (HI.out.below hbA)
  have hsz : (w.alloc (.cells #[.slice a l.length c] 40)).heap.size = w.heap.size + 1 := by simp
  obtain ⟨r, hr⟩ : ∃ r, rightB l = r := ⟨_, rfl⟩
  have HR := Lib.hid hr
  have HL : Hid (legalB l x = (r && (decide (0 ≤ x) && decide (x ≤ 6)))) := by show _ = _; unfold legalB; rw [hr]
  clear hr
  go_enter Try.func38, Try.ntmps38
  go_wp2_with fail
  refine (right_any _ l _ HIa.out).mono ?_
  rintro e w1 ⟨rfl, hb1⟩
  rw [HR.out]
  have hb2 : Below w.heap.size w w1 := hbA.trans (hb1.mono (by rw [hsz]; omega))
  cases r
  · skip
    go_wp2_with fail
    go_ret
    exact ⟨ret_bool (by rw [HL.out]; simp), hb2⟩
  · by_cases h0 : 0 ≤ x
    · by_cases h6 : x < 7
      all_goals
        go_wp2_with fail
        go_ret
        exact ⟨ret_bool (by rw [HL.out, Bool.eq_iff_iff]; simp; omega), hb2⟩
    · go_wp2_with fail
      go_ret
      exact ⟨ret_bool (by rw [HL.out, Bool.eq_iff_iff]; simp; omega), hb2⟩

/-- what Add tells, what Remove tells -/
def addF (l : List Int) (x : Int) : List Int × Int := if legalB l x = true then (if hasB l x = true then ([], 191) else (insL l x, 0)) else ([], 190)
def remF (l : List Int) (x : Int) : List Int × Int := if legalB l x = true then (if hasB l x = true ∧ l.length ≠ 1 then (remL l x, 0) else ([], 191)) else ([], 190)
/-- a slice is no longer than its room -/
def CapOk : Value → Prop
  | .slice _ n c => n ≤ c
  | _ => True
theorem CapOk.nil : CapOk (.slice none 0 0) := Nat.le_refl 0
/-- a configuration and an error come back -/
def CfgEnd (r : List Int × Int) (w : World) (e : Ending) (w' : World) : Prop := ∃ v', e = .returned (.tuple #[.agg #[v'], .int .i64 r.2]) ∧ Ints w' .i64 v' r.1 ∧ Below w.heap.size w w' ∧ CapOk v'

theorem size_cfg (v : Value) : (Try.prog.info? 40).map (·.size) = some (#[v] : Array Value).size := by
  show _ = some 1
  kernel_rfl
theorem row_of_owns {w : World} {base : Nat} {g n cap : Nat} {zs : List Int} (h : w.ownsRow base 3 1 (.slice (some ⟨g, 0, none⟩) n cap) zs.length (zs.map (.int .i64))) : RI.Row w g zs.toArray ∧ n = zs.length ∧ base ≤ g := by
  obtain ⟨_, ⟨h1, _⟩ | ⟨g', cap', cur, hv, hb, hg, hn, hm, hs, ht⟩⟩ := h
  · cases h1
  · simp at hv
    obtain ⟨rfl, rfl, rfl⟩ := hv
    refine ⟨⟨cur.extract zs.length cur.size, ?_⟩, rfl, hb⟩
    have e : cur = RI.i64A zs.toArray ++ cur.extract zs.length cur.size := by
      apply Array.ext'
      rw [Array.toList_append, Array.toList_extract]
      have e1 : (RI.i64A zs.toArray).toList = zs.map (.int .i64) := by simp [RI.i64A]
      rw [e1, ← ht, Nat.mul_one]
      have e2 : cur.toList.extract zs.length cur.size = cur.toList.drop zs.length := by
        rw [List.extract_eq_take_drop, List.take_of_length_le (by simp)]
      rw [e2, List.take_append_drop]
    unfold Blk
    rw [← e]; exact hg
theorem cap_owns {w : World} {base : Nat} {e : TypeId} {v : Value} {n : Nat} {xs : List Value} (h : w.ownsRow base e 1 v n xs) : CapOk v := by
  rcases h.2 with ⟨rfl, hn⟩ | ⟨g, cap, cur, rfl, _, _, hn, _⟩
  · exact Nat.le_refl 0
  · exact hn
theorem sort_list {d : List Int} : ∃ S : List Int, Go.Sort.insertionSort Go.Sort.ltInt d.toArray 0 d.length = S.toArray ∧ S.length = d.length ∧ S.Perm d ∧ (∀ i j, i < j → j < S.length → S.getD i 0 ≤ S.getD j 0) := by
  have hDs : d.toArray.size = d.length := by simp
  obtain ⟨hP, hS⟩ := Go.Sort.insertionSort_holds Go.Sort.swo_ltInt d.toArray 0 d.toArray.size (Nat.zero_le _) (Nat.le_refl _)
  obtain ⟨h1, _, h3⟩ := hP
  rw [hDs] at h1 h3 hS
  obtain ⟨E, hE⟩ : ∃ E, Go.Sort.insertionSort Go.Sort.ltInt d.toArray 0 d.length = E := ⟨_, rfl⟩
  rw [hE] at h1 h3 hS ⊢
  have g : ∀ j, j < d.length → E[j]! = E.toList.getD j 0 := by
    intro j hj
    rw [getElem!_pos E j (by rw [h1]; exact hj)]
    simp [List.getD_eq_getElem?_getD, h1, hj]
  refine ⟨E.toList, by simp, by rw [Array.length_toList, h1], ?_, ?_⟩
  · have e1 : (E.extract 0 d.length).toList = E.toList := by
      rw [show d.length = E.size from h1.symm, Array.extract_size]
    have e2 : (d.toArray.extract 0 d.length).toList = d := by
      rw [show d.length = d.toArray.size by simp, Array.extract_size]
    rw [e1, e2] at h3; exact h3
  · intro i j hij hj
    rw [Array.length_toList, h1] at hj
    have := hS i j (Nat.zero_le _) hij hj
    rw [g _ hj, g _ (by omega)] at this
    simp only [Go.Sort.ltInt, decide_eq_false_iff_not, Int.not_lt] at this
    exact this
theorem ints_row {w : World} {g cap : Nat} {S : List Int} (h : RI.Row w g S.toArray) (hl : S.length ≤ 100) (hg : g < w.heap.size) : Ints w .i64 (.slice (some ⟨g, 0, none⟩) S.length cap) S := by
  refine ⟨by omega, .inr ⟨g, 0, cap, rfl, hg, fun j hj => ?_⟩⟩
  rw [Nat.zero_add]
  refine h.cell (by simpa using hj) ?_
  rw [getElem!_pos _ _ (by simpa using hj)]
  simp [List.getD_eq_getElem?_getD, hj]

theorem ints_far {w : World} {k : IntKind} {g off n cap B j : Nat} {l : List Int} {x : Value} (h : Ints w k (.slice (some ⟨g, off, none⟩) n cap) l) (hg : g ≠ B) : Ints (w.setCell ⟨B, j, none⟩ x) k (.slice (some ⟨g, off, none⟩) n cap) l := by
  obtain ⟨h0, h | ⟨b, o, c, hv, hlt, hc⟩⟩ := h
  · exact ⟨h0, .inl h⟩
  · simp at hv
    obtain ⟨⟨rfl, rfl⟩, rfl, rfl⟩ := hv
    exact ⟨h0, .inr ⟨g, off, cap, rfl, by simpa using hlt, fun i hi => (World.cell?_setCell_other _ _ _ _ (by intro e; injection e with e1; exact hg e1.symm)).trans (hc i hi)⟩⟩
theorem cfg_done {w w1 : World} {B : Nat} {v : Value} {l' : List Int} {code : Int} {r : List Int × Int} (hI : Ints (w1.setCell ⟨B, 0, none⟩ v) .i64 v l') (hbw : Below w.heap.size w w1) (hB : w.heap.size ≤ B) (hr : r = (l', code)) (hc : CapOk v) :
    CfgEnd r w (.returned (.tuple #[.agg #[v], .int .i64 code])) (w1.setCell ⟨B, 0, none⟩ v) := by
  subst hr
  exact ⟨v, rfl, hI, Below.setCell hbw (p := ⟨B, 0, none⟩) hB _, hc⟩
theorem one_set {w : World} {B : Nat} {t : TypeId} {u : Value} (h : Blk w B t #[u]) (v : Value) : Blk (w.setCell ⟨B, 0, none⟩ v) B t #[v] := by
  have := h.set 0 v
  simpa using this

set_option maxRecDepth 100000 in
set_option maxHeartbeats 2000000 in
theorem add_any (v : Value) (l : List Int) (x : Int) (w : World) (h : Ints w .i64 v l) : Calls Try.prog 30 #[.agg #[v], .int .i64 x] w (CfgEnd (addF l x) w) := by
  obtain ⟨i0, hi, hz0, hz1, hz2⟩ := info_parts (show (Try.prog.info? 3).map (fun i => (i.zero, i.size, i.bytes)) = some (some (.int .i64 0), 1, 8) by kernel_rfl)
  have HI := Lib.hid h
  clear h
  obtain ⟨a, c, rfl⟩ := Ints.form HI.out
  obtain ⟨r, hr⟩ : ∃ r, legalB l x = r := ⟨_, rfl⟩
  have HR := Lib.hid hr
  go_enter Try.func30, Try.ntmps30
  go_wp2_with fail
  obtain ⟨wa, hwa⟩ : ∃ wa, (w.alloc (.cells #[.slice a l.length c] 40)).alloc (.cells #[.slice none 0 0] 40) = wa := ⟨_, rfl⟩
  obtain ⟨A, hA⟩ : ∃ A, w.heap.size = A := ⟨_, rfl⟩
  obtain ⟨B, hB⟩ : ∃ B, w.heap.size + 1 = B := ⟨_, rfl⟩
  have hb : Below A w wa := by rw [← hwa, ← hA]; exact two_below _ _ _
  have hsz : wa.heap.size = B + 1 := by rw [← hwa]; simp [← hB]
  have hAB : A < B := by omega
  have c0 : wa.cell? ⟨A, 0, none⟩ = some (.slice a l.length c) := by
    rw [← hwa]
    exact (((Below.refl (w.heap.size + 1) _).alloc (by simp) _).cell (p := ⟨A, 0, none⟩) (by show A < w.heap.size + 1; omega)).trans (cell_new _ _ _ _ hA.symm)
  have bB : Blk wa B 40 #[.slice none 0 0] := by rw [← hwa, ← hB]; exact two_blk _ _ _ _
  have hIa := HI.out.below (by rw [hA]; exact hb)
  simp only [hwa]
  simp only [hB]
  simp only [hA]
  have HA := Lib.hid hA
  clear hwa hA hB
  refine (legal_any _ l x _ hIa).mono ?_
  rintro e w1 ⟨rfl, hb1⟩
  rw [HR.out]
  have hs1 := hb1.size
  have c1 := (hb1.cell (p := ⟨A, 0, none⟩) (by show A < wa.heap.size; omega)).trans c0
  have bB1 := Blk.below bB hb1 (by omega)
  have fB := Blk.free bB1 0
  have oB : w1.cell? ⟨B, 0, none⟩ = some (.slice none 0 0) := by rw [Blk.cell bB1]; rfl
  have hI1 := hIa.below hb1
  have hbw1 : Below A w w1 := hb.trans (hb1.mono (by omega))
  have hB1 : B < w1.heap.size := by omega
  clear c0 bB hIa hb hs1 hb1 hsz
  cases r
  · have HF : Hid (addF l x = ([], 190)) := by show _ = _; unfold addF; rw [hr]; rfl
    clear hr
    go_wp2_with fail
    refine bodyPost_ret (results_cellT rfl _ _ B rfl _ rfl _ _ (one_set bB1 _) _ Try.underlying40 rfl (size_cfg _)) rfl ?_
    exact cfg_done (Ints.nil _ _) (by rw [HA.out]; exact hbw1) (by rw [HA.out]; omega) HF.out CapOk.nil
  · have hrr : rightB l = true := by unfold legalB at hr; simp only [Bool.and_eq_true] at hr; exact hr.1
    have hx06 : 0 ≤ x ∧ x ≤ 6 := by unfold legalB at hr; simp only [Bool.and_eq_true, decide_eq_true_eq] at hr; exact hr.2
    have h7 := right_len hrr
    obtain ⟨q, hq⟩ : ∃ q, hasB l x = q := ⟨_, rfl⟩
    have HQ := Lib.hid hq
    go_wp2_with fail
    refine (votes_any _ l x _ hI1).mono ?_
    rintro e w2 ⟨rfl, hb2⟩
    rw [HQ.out]
    have hs2 := hb2.size
    have c2 := (hb2.cell (p := ⟨A, 0, none⟩) (by show A < w1.heap.size; omega)).trans c1
    have bB2 := Blk.below bB1 hb2 hB1
    have fB2 := Blk.free bB2 0
    have oB2 : w2.cell? ⟨B, 0, none⟩ = some (.slice none 0 0) := by rw [Blk.cell bB2]; rfl
    have hI2 := hI1.below hb2
    have hbw2 : Below A w w2 := hbw1.trans (hb2.mono (by omega))
    have hB2 : B < w2.heap.size := by omega
    clear c1 bB1 hI1 hbw1 hs2 hb2 fB oB hB1
    cases q
    · have HF : Hid (addF l x = (insL l x, 0)) := by show _ = _; unfold addF; rw [hr, hq]; rfl
      clear hr
      go_wp2_with fail
      refine (clone_any _ l _ hI2 (by omega)).mono ?_
      rintro e w3 ⟨⟨v3, rfl, hown⟩, hb3⟩
      have hs3 := hb3.size
      have c3 := (hb3.cell (p := ⟨A, 0, none⟩) (by show A < w2.heap.size; omega)).trans c2
      have bB3 := Blk.below bB2 hb3 hB2
      have hbw3 : Below A w w3 := hbw2.trans (hb3.mono (by omega))
      have hownX := hown.alloc (.cells #[.int .i64 x] 3)
      have hbX : Below w2.heap.size w3 (w3.alloc (.cells #[.int .i64 x] 3)) := (Below.refl _ _).alloc hs3 _
      clear c2 bB2 hI2 hbw2 hb3 fB2 oB2
      go_wp2_with (first
        | (at_builtin; refine wpList_push _ (by rfl) _ _ 38 rfl w2.heap.size 3 i0 (.int .i64 0) 8 Try.underlying38 hi hz0 hz1 hz2 rfl _ _ _ rfl hownX w3.heap.size (.int .i64 x) rfl (cell_new _ _ _ _ rfl) rfl (by unfold maxLen; omega) (by omega) (by simp; omega) ?_; intro v4 w4 hown4 hb4))
      have hown5 : w4.ownsRow w2.heap.size 3 1 v4 (l ++ [x]).length ((l ++ [x]).map (.int .i64)) := by simpa using hown4
      obtain ⟨g4, cap4, rfl⟩ : ∃ g cap, v4 = .slice (some ⟨g, 0, none⟩) (l ++ [x]).length cap := by
        rcases hown5.2 with ⟨_, h0⟩ | ⟨g, cap, _, hv, _⟩
        · simp at h0
        · exact ⟨g, cap, hv⟩
      obtain ⟨hrow, _, hg4⟩ := row_of_owns hown5
      have hcap4 := cap_owns hown5
      have hlt4 := (hown5.lt g4 rfl).2
      have hb34 : Below w2.heap.size w3 w4 := hbX.trans hb4
      have hs4 := hb34.size
      have bB4 := Blk.below bB3 hb34 hB2
      have hbw4 : Below A w w4 := hbw3.trans (hb34.mono (by omega))
      obtain ⟨S, hS1, hS2, hS3, hS4⟩ := sort_list (d := l ++ [x])
      have HS : Hid (S = insL l x) := ins_sorted hrr hx06 hq hS3 hS4
      have hsort := RI.sort_any g4 cap4 (l ++ [x]).toArray w4 hrow (by simp; omega)
      have e1 : (l ++ [x]).toArray.size = (l ++ [x]).length := by simp
      rw [e1, hS1] at hsort
      have hS7 : S.length ≤ 100 := by rw [hS2]; simp; omega
      have hS2' : (l ++ [x]).length = S.length := hS2.symm
      have hgB : g4 ≠ B := by omega
      rw [hS2'] at hsort
      simp only [hS2']
      rw [hS2'] at hcap4
      clear hown hownX hown4 hown5 hb4 hbX hbw3 c3 bB3 hS1 hS2 hS3 hS4 e1 hq hrr hb34
      go_wp2_with fail
      refine hsort.mono ?_
      rintro e w5 ⟨rfl, hr5, hb5⟩
      have hs5 := hb5.size
      have bB5 := Blk.below bB4 hb5 (by omega)
      have hI5 := ints_row (cap := cap4) hr5 hS7 (by omega)
      have fB5 := Blk.free bB5 0
      have oB5 : w5.cell? ⟨B, 0, none⟩ = some (.slice none 0 0) := by rw [Blk.cell bB5]; rfl
      have hbw5 : Below A w w5 := hbw4.trans (hb5.mono (by omega))
      clear hsort hr5 hb5 bB4 hbw4
      go_wp2_with fail
      refine bodyPost_ret (results_cellT rfl _ _ B rfl _ rfl _ _ (one_set bB5 _) _ Try.underlying40 rfl (size_cfg _)) rfl ?_
      exact cfg_done (ints_far hI5 hgB) (by rw [HA.out]; exact hbw5) (by rw [HA.out]; omega) (by rw [HF.out, HS.out]) hcap4
    · have HF : Hid (addF l x = ([], 191)) := by show _ = _; unfold addF; rw [hr, hq]; rfl
      clear hr hq
      go_wp2_with fail
      refine bodyPost_ret (results_cellT rfl _ _ B rfl _ rfl _ _ (one_set bB2 _) _ Try.underlying40 rfl (size_cfg _)) rfl ?_
      exact cfg_done (Ints.nil _ _) (by rw [HA.out]; exact hbw2) (by rw [HA.out]; omega) HF.out CapOk.nil
end Go.Proofs.Ytmokfpjiibociaa.R
