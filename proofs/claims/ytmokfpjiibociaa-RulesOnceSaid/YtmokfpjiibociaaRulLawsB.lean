/-
  The walks of the laws of layer 19 over logs' ends: each answers true.
-/
import Derived.Test.YtmokfpjiibociaaRulLaws
namespace Go.Proofs.Ytmokfpjiibociaa.R
open Go.RowKit
open Aid
set_option linter.unusedSimpArgs false
set_option linter.unusedVariables false

/-- two cells of a block -/
def Two (w : World) (g : Nat) (x y : Value) : Prop := w.cell? ⟨g, 0, none⟩ = some x ∧ w.cell? ⟨g, 1, none⟩ = some y
theorem two_new (w : World) (x y : Value) (t : TypeId) (g : Nat) (hg : g = w.heap.size) : Two (w.alloc (.cells #[x, y] t)) g x y := by
  subst hg
  constructor <;> (rw [World.cell?_alloc_at _ _ _ _ rfl]; rfl)
theorem Two.below {w w' : World} {B g : Nat} {x y : Value} (h : Two w g x y) (hb : Below B w w') (hg : g < B) : Two w' g x y :=
  ⟨(hb.cell (p := ⟨g, 0, none⟩) hg).trans h.1, (hb.cell (p := ⟨g, 1, none⟩) hg).trans h.2⟩

set_option maxRecDepth 100000 in
set_option maxHeartbeats 1000000 in
theorem newer_law (at_ ai bt bi : Int) (w : World) : Calls Try.prog 3 #[.agg #[.int .u64 at_, .int .u64 ai], .agg #[.int .u64 bt, .int .u64 bi]] w (TrueIn w) := by
  go_enter Try.func3, Try.ntmps3
  go_wp2_with fail
  obtain ⟨A, hA⟩ : ∃ A, w.heap.size = A := ⟨_, rfl⟩
  obtain ⟨B, hB⟩ : ∃ B, w.heap.size + 1 = B := ⟨_, rfl⟩
  obtain ⟨wa, hwa⟩ : ∃ wa, (w.alloc (.cells #[.int .u64 at_, .int .u64 ai] 24)).alloc (.cells #[.int .u64 bt, .int .u64 bi] 24) = wa := ⟨_, rfl⟩
  have hb : Below A w wa := by rw [← hwa, ← hA]; exact two_below _ _ _
  have hsz : wa.heap.size = B + 1 := by rw [← hwa]; simp [← hB]
  have hAB : A < B := by omega
  have T1 : Two wa A (.int .u64 at_) (.int .u64 ai) := by
    rw [← hwa]; exact (two_new w _ _ _ A hA.symm).below ((Below.refl _ _).alloc (Nat.le_refl _) _) (by simp; omega)
  have T2 : Two wa B (.int .u64 bt) (.int .u64 bi) := by
    rw [← hwa]; exact two_new _ _ _ _ B (by simp; omega)
  simp only [hwa]
  simp only [hB]
  simp only [hA]
  have HA := Lib.hid hA
  clear hA hB hwa
  have c0 := T1.1
  have c1 := T1.2
  have c2 := T2.1
  have c3 := T2.2
  clear T1 T2
  go_region_held3 (fun w' => w'.cell? ⟨A, 0, none⟩ = some (.int .u64 at_) ∧ w'.cell? ⟨A, 1, none⟩ = some (.int .u64 ai) ∧ w'.cell? ⟨B, 0, none⟩ = some (.int .u64 bt) ∧ w'.cell? ⟨B, 1, none⟩ = some (.int .u64 bi)) (first | go_keep) (first
    | (go_at_call 15; refine (alive_any _).mono ?_; rintro e w3 ⟨rfl, hb3⟩; have hbA : Below A w w3 := hb.trans (((Below.refl wa.heap.size wa).drew.trans hb3).mono (by omega)); have k0 : w3.cell? ⟨A, 0, none⟩ = some (.int .u64 at_) := (hb3.cell (p := ⟨A, 0, none⟩) (by simp; omega)).trans c0; have k1 : w3.cell? ⟨A, 1, none⟩ = some (.int .u64 ai) := (hb3.cell (p := ⟨A, 1, none⟩) (by simp; omega)).trans c1; have k2 : w3.cell? ⟨B, 0, none⟩ = some (.int .u64 bt) := (hb3.cell (p := ⟨B, 0, none⟩) (by simp; omega)).trans c2; have k3 : w3.cell? ⟨B, 1, none⟩ = some (.int .u64 bi) := (hb3.cell (p := ⟨B, 1, none⟩) (by simp; omega)).trans c3)
    | (go_at_call 16; refine (newer_any at_ ai bt bi _).mono ?_; rintro e w4 ⟨rfl, rfl⟩)
    | (go_at_call 17; refine (rnewer_any at_ ai bt bi _).mono ?_; rintro e w5 ⟨rfl, rfl⟩))
  all_goals
    go_wp2_with fail
    go_ret
    exact ⟨ret_bool (by simp), by rw [HA.out]; exact hbA⟩

theorem newer_total (a b c d : Int) : (!newerB a b c d && !newerB c d a b) = false := by
  unfold newerB
  by_cases h1 : c < a <;> by_cases h2 : a < c <;> by_cases h3 : a = c <;> by_cases h4 : d ≤ b <;> by_cases h5 : b ≤ d <;> simp_all <;> omega
theorem newer_both (a b c d : Int) : (newerB a b c d && newerB c d a b) = (a == c && b == d) := by
  unfold newerB
  rw [Bool.eq_iff_iff]
  simp
  omega
theorem newer_trans (a b c d e f : Int) (h1 : newerB a b c d = true) (h2 : newerB c d e f = true) : newerB a b e f = true := by
  unfold newerB at *
  simp at *
  omega

set_option maxRecDepth 100000 in
set_option maxHeartbeats 1000000 in
theorem order_law (a0 a1 b0 b1 c0 c1 : Int) (w : World) : Calls Try.prog 4 #[.agg #[.int .u64 a0, .int .u64 a1], .agg #[.int .u64 b0, .int .u64 b1], .agg #[.int .u64 c0, .int .u64 c1]] w (TrueIn w) := by
  obtain ⟨p, hp⟩ : ∃ p, newerB a0 a1 b0 b1 = p := ⟨_, rfl⟩
  obtain ⟨q, hq⟩ : ∃ q, newerB b0 b1 a0 a1 = q := ⟨_, rfl⟩
  obtain ⟨r, hr⟩ : ∃ r, newerB b0 b1 c0 c1 = r := ⟨_, rfl⟩
  have h1 : (!p && !q) = false := by rw [← hp, ← hq]; exact newer_total _ _ _ _
  have h2 : (p && q) = (a0 == b0 && a1 == b1) := by rw [← hp, ← hq]; exact newer_both _ _ _ _
  have h3 : p = true → r = true → newerB a0 a1 c0 c1 = true := by rw [← hp, ← hr]; exact newer_trans _ _ _ _ _ _
  have HP := Lib.hid hp
  have HQ := Lib.hid hq
  have HR := Lib.hid hr
  clear hp hq hr
  go_enter Try.func4, Try.ntmps4
  go_wp2_with fail
  obtain ⟨A, hA⟩ : ∃ A, w.heap.size = A := ⟨_, rfl⟩
  obtain ⟨B, hB⟩ : ∃ B, w.heap.size + 1 = B := ⟨_, rfl⟩
  obtain ⟨C, hC⟩ : ∃ C, w.heap.size + 1 + 1 = C := ⟨_, rfl⟩
  obtain ⟨wa, hwa⟩ : ∃ wa, ((w.alloc (.cells #[.int .u64 a0, .int .u64 a1] 24)).alloc (.cells #[.int .u64 b0, .int .u64 b1] 24)).alloc (.cells #[.int .u64 c0, .int .u64 c1] 24) = wa := ⟨_, rfl⟩
  have hb : Below A w wa := by rw [← hwa, ← hA]; exact (two_below _ _ _).alloc (by simp; omega) _
  have hsz : wa.heap.size = C + 1 := by rw [← hwa]; simp [← hC]
  have hAB : A < B := by omega
  have hBC : B < C := by omega
  have T1 : Two wa A (.int .u64 a0) (.int .u64 a1) := by
    rw [← hwa]; exact (two_new w _ _ _ A hA.symm).below (((Below.refl _ _).alloc (Nat.le_refl _) _).alloc (by simp) _) (by simp; omega)
  have T2 : Two wa B (.int .u64 b0) (.int .u64 b1) := by
    rw [← hwa]; exact (two_new _ _ _ _ B (by simp; omega)).below ((Below.refl _ _).alloc (Nat.le_refl _) _) (by simp; omega)
  have T3 : Two wa C (.int .u64 c0) (.int .u64 c1) := by
    rw [← hwa]; exact two_new _ _ _ _ C (by simp; omega)
  simp only [hwa]
  simp only [hC]
  simp only [hB]
  simp only [hA]
  have HA := Lib.hid hA
  clear hA hB hC hwa
  have x0 := T1.1
  have x1 := T1.2
  have x2 := T2.1
  have x3 := T2.2
  have x4 := T3.1
  have x5 := T3.2
  clear T1 T2 T3
  go_wp2_with fail
  refine (newer_any a0 a1 b0 b1 _).mono ?_
  rintro e wa ⟨rfl, rfl⟩
  rw [HP.out]
  go_wp2_with fail
  refine (newer_any b0 b1 a0 a1 _).mono ?_
  rintro e wa ⟨rfl, rfl⟩
  rw [HQ.out]
  go_wp2_with fail
  refine (newer_any b0 b1 c0 c1 _).mono ?_
  rintro e wa ⟨rfl, rfl⟩
  rw [HR.out]
  cases p
  · cases q
    · cases h1
    · have hne : ¬ (a0 = b0 ∧ a1 = b1) := by
        rintro ⟨rfl, rfl⟩; simp at h2
      clear h1 h2 h3
      cases r
      · skip
        by_cases e0 : a0 = b0
        · subst e0
          have n1 : ¬ a1 = b1 := fun e => hne ⟨rfl, e⟩
          clear hne
          go_wp2_with (first
              | (go_at_call 15; refine (alive_any _).mono ?_; rintro e w3 ⟨rfl, hb3⟩; have hbA : Below A w w3 := hb.trans (hb3.mono (by omega)); have y0 := (hb3.cell (p := ⟨A, 0, none⟩) (by show A < wa.heap.size; omega)).trans x0; have y1 := (hb3.cell (p := ⟨A, 1, none⟩) (by show A < wa.heap.size; omega)).trans x1; have y2 := (hb3.cell (p := ⟨B, 0, none⟩) (by show B < wa.heap.size; omega)).trans x2; have y3 := (hb3.cell (p := ⟨B, 1, none⟩) (by show B < wa.heap.size; omega)).trans x3; have y4 := (hb3.cell (p := ⟨C, 0, none⟩) (by show C < wa.heap.size; omega)).trans x4; have y5 := (hb3.cell (p := ⟨C, 1, none⟩) (by show C < wa.heap.size; omega)).trans x5))
          all_goals first
            | (go_ret; exact ⟨ret_bool (by simp), by rw [HA.out]; exact hbA⟩)
        · clear hne
          go_wp2_with (first
              | (go_at_call 15; refine (alive_any _).mono ?_; rintro e w3 ⟨rfl, hb3⟩; have hbA : Below A w w3 := hb.trans (hb3.mono (by omega)); have y0 := (hb3.cell (p := ⟨A, 0, none⟩) (by show A < wa.heap.size; omega)).trans x0; have y1 := (hb3.cell (p := ⟨A, 1, none⟩) (by show A < wa.heap.size; omega)).trans x1; have y2 := (hb3.cell (p := ⟨B, 0, none⟩) (by show B < wa.heap.size; omega)).trans x2; have y3 := (hb3.cell (p := ⟨B, 1, none⟩) (by show B < wa.heap.size; omega)).trans x3; have y4 := (hb3.cell (p := ⟨C, 0, none⟩) (by show C < wa.heap.size; omega)).trans x4; have y5 := (hb3.cell (p := ⟨C, 1, none⟩) (by show C < wa.heap.size; omega)).trans x5))
          all_goals first
            | (go_ret; exact ⟨ret_bool (by simp), by rw [HA.out]; exact hbA⟩)
      · skip
        by_cases e0 : a0 = b0
        · subst e0
          have n1 : ¬ a1 = b1 := fun e => hne ⟨rfl, e⟩
          clear hne
          go_wp2_with (first
              | (go_at_call 15; refine (alive_any _).mono ?_; rintro e w3 ⟨rfl, hb3⟩; have hbA : Below A w w3 := hb.trans (hb3.mono (by omega)); have y0 := (hb3.cell (p := ⟨A, 0, none⟩) (by show A < wa.heap.size; omega)).trans x0; have y1 := (hb3.cell (p := ⟨A, 1, none⟩) (by show A < wa.heap.size; omega)).trans x1; have y2 := (hb3.cell (p := ⟨B, 0, none⟩) (by show B < wa.heap.size; omega)).trans x2; have y3 := (hb3.cell (p := ⟨B, 1, none⟩) (by show B < wa.heap.size; omega)).trans x3; have y4 := (hb3.cell (p := ⟨C, 0, none⟩) (by show C < wa.heap.size; omega)).trans x4; have y5 := (hb3.cell (p := ⟨C, 1, none⟩) (by show C < wa.heap.size; omega)).trans x5))
          all_goals first
            | (go_ret; exact ⟨ret_bool (by simp), by rw [HA.out]; exact hbA⟩)
        · clear hne
          go_wp2_with (first
              | (go_at_call 15; refine (alive_any _).mono ?_; rintro e w3 ⟨rfl, hb3⟩; have hbA : Below A w w3 := hb.trans (hb3.mono (by omega)); have y0 := (hb3.cell (p := ⟨A, 0, none⟩) (by show A < wa.heap.size; omega)).trans x0; have y1 := (hb3.cell (p := ⟨A, 1, none⟩) (by show A < wa.heap.size; omega)).trans x1; have y2 := (hb3.cell (p := ⟨B, 0, none⟩) (by show B < wa.heap.size; omega)).trans x2; have y3 := (hb3.cell (p := ⟨B, 1, none⟩) (by show B < wa.heap.size; omega)).trans x3; have y4 := (hb3.cell (p := ⟨C, 0, none⟩) (by show C < wa.heap.size; omega)).trans x4; have y5 := (hb3.cell (p := ⟨C, 1, none⟩) (by show C < wa.heap.size; omega)).trans x5))
          all_goals first
            | (go_ret; exact ⟨ret_bool (by simp), by rw [HA.out]; exact hbA⟩)
  · cases q
    · have hne : ¬ (a0 = b0 ∧ a1 = b1) := by
        rintro ⟨rfl, rfl⟩; simp at h2
      clear h1 h2
      cases r
      · clear h3
        by_cases e0 : a0 = b0
        · subst e0
          have n1 : ¬ a1 = b1 := fun e => hne ⟨rfl, e⟩
          clear hne
          go_wp2_with (first
              | (go_at_call 15; refine (alive_any _).mono ?_; rintro e w3 ⟨rfl, hb3⟩; have hbA : Below A w w3 := hb.trans (hb3.mono (by omega)); have y0 := (hb3.cell (p := ⟨A, 0, none⟩) (by show A < wa.heap.size; omega)).trans x0; have y1 := (hb3.cell (p := ⟨A, 1, none⟩) (by show A < wa.heap.size; omega)).trans x1; have y2 := (hb3.cell (p := ⟨B, 0, none⟩) (by show B < wa.heap.size; omega)).trans x2; have y3 := (hb3.cell (p := ⟨B, 1, none⟩) (by show B < wa.heap.size; omega)).trans x3; have y4 := (hb3.cell (p := ⟨C, 0, none⟩) (by show C < wa.heap.size; omega)).trans x4; have y5 := (hb3.cell (p := ⟨C, 1, none⟩) (by show C < wa.heap.size; omega)).trans x5))
          all_goals first
            | (go_ret; exact ⟨ret_bool (by simp), by rw [HA.out]; exact hbA⟩)
        · clear hne
          go_wp2_with (first
              | (go_at_call 15; refine (alive_any _).mono ?_; rintro e w3 ⟨rfl, hb3⟩; have hbA : Below A w w3 := hb.trans (hb3.mono (by omega)); have y0 := (hb3.cell (p := ⟨A, 0, none⟩) (by show A < wa.heap.size; omega)).trans x0; have y1 := (hb3.cell (p := ⟨A, 1, none⟩) (by show A < wa.heap.size; omega)).trans x1; have y2 := (hb3.cell (p := ⟨B, 0, none⟩) (by show B < wa.heap.size; omega)).trans x2; have y3 := (hb3.cell (p := ⟨B, 1, none⟩) (by show B < wa.heap.size; omega)).trans x3; have y4 := (hb3.cell (p := ⟨C, 0, none⟩) (by show C < wa.heap.size; omega)).trans x4; have y5 := (hb3.cell (p := ⟨C, 1, none⟩) (by show C < wa.heap.size; omega)).trans x5))
          all_goals first
            | (go_ret; exact ⟨ret_bool (by simp), by rw [HA.out]; exact hbA⟩)
      · have HT := Lib.hid (h3 rfl rfl)
        clear h3
        by_cases e0 : a0 = b0
        · subst e0
          have n1 : ¬ a1 = b1 := fun e => hne ⟨rfl, e⟩
          clear hne
          go_wp2_with (first
              | (go_at_call 15; refine (alive_any _).mono ?_; rintro e w3 ⟨rfl, hb3⟩; have hbA : Below A w w3 := hb.trans (hb3.mono (by omega)); have y0 := (hb3.cell (p := ⟨A, 0, none⟩) (by show A < wa.heap.size; omega)).trans x0; have y1 := (hb3.cell (p := ⟨A, 1, none⟩) (by show A < wa.heap.size; omega)).trans x1; have y2 := (hb3.cell (p := ⟨B, 0, none⟩) (by show B < wa.heap.size; omega)).trans x2; have y3 := (hb3.cell (p := ⟨B, 1, none⟩) (by show B < wa.heap.size; omega)).trans x3; have y4 := (hb3.cell (p := ⟨C, 0, none⟩) (by show C < wa.heap.size; omega)).trans x4; have y5 := (hb3.cell (p := ⟨C, 1, none⟩) (by show C < wa.heap.size; omega)).trans x5)
              | (go_at_call 16; refine (newer_any a0 a1 c0 c1 _).mono ?_; rintro e w4 ⟨rfl, rfl⟩; rw [HT.out]))
          all_goals first
            | (go_ret; exact ⟨ret_bool (by simp), by rw [HA.out]; exact hbA⟩)
        · clear hne
          go_wp2_with (first
              | (go_at_call 15; refine (alive_any _).mono ?_; rintro e w3 ⟨rfl, hb3⟩; have hbA : Below A w w3 := hb.trans (hb3.mono (by omega)); have y0 := (hb3.cell (p := ⟨A, 0, none⟩) (by show A < wa.heap.size; omega)).trans x0; have y1 := (hb3.cell (p := ⟨A, 1, none⟩) (by show A < wa.heap.size; omega)).trans x1; have y2 := (hb3.cell (p := ⟨B, 0, none⟩) (by show B < wa.heap.size; omega)).trans x2; have y3 := (hb3.cell (p := ⟨B, 1, none⟩) (by show B < wa.heap.size; omega)).trans x3; have y4 := (hb3.cell (p := ⟨C, 0, none⟩) (by show C < wa.heap.size; omega)).trans x4; have y5 := (hb3.cell (p := ⟨C, 1, none⟩) (by show C < wa.heap.size; omega)).trans x5)
              | (go_at_call 16; refine (newer_any a0 a1 c0 c1 _).mono ?_; rintro e w4 ⟨rfl, rfl⟩; rw [HT.out]))
          all_goals first
            | (go_ret; exact ⟨ret_bool (by simp), by rw [HA.out]; exact hbA⟩)
    · obtain ⟨rfl, rfl⟩ : a0 = b0 ∧ a1 = b1 := by simpa using h2.symm
      cases r
      · clear h1 h2 h3
        go_wp2_with (first
            | (go_at_call 15; refine (alive_any _).mono ?_; rintro e w3 ⟨rfl, hb3⟩; have hbA : Below A w w3 := hb.trans (hb3.mono (by omega)); have y0 := (hb3.cell (p := ⟨A, 0, none⟩) (by show A < wa.heap.size; omega)).trans x0; have y1 := (hb3.cell (p := ⟨A, 1, none⟩) (by show A < wa.heap.size; omega)).trans x1; have y2 := (hb3.cell (p := ⟨B, 0, none⟩) (by show B < wa.heap.size; omega)).trans x2; have y3 := (hb3.cell (p := ⟨B, 1, none⟩) (by show B < wa.heap.size; omega)).trans x3; have y4 := (hb3.cell (p := ⟨C, 0, none⟩) (by show C < wa.heap.size; omega)).trans x4; have y5 := (hb3.cell (p := ⟨C, 1, none⟩) (by show C < wa.heap.size; omega)).trans x5))
        all_goals first
          | (go_ret; exact ⟨ret_bool (by simp), by rw [HA.out]; exact hbA⟩)
      · have HT := Lib.hid (h3 rfl rfl)
        clear h1 h2 h3
        go_wp2_with (first
            | (go_at_call 15; refine (alive_any _).mono ?_; rintro e w3 ⟨rfl, hb3⟩; have hbA : Below A w w3 := hb.trans (hb3.mono (by omega)); have y0 := (hb3.cell (p := ⟨A, 0, none⟩) (by show A < wa.heap.size; omega)).trans x0; have y1 := (hb3.cell (p := ⟨A, 1, none⟩) (by show A < wa.heap.size; omega)).trans x1; have y2 := (hb3.cell (p := ⟨B, 0, none⟩) (by show B < wa.heap.size; omega)).trans x2; have y3 := (hb3.cell (p := ⟨B, 1, none⟩) (by show B < wa.heap.size; omega)).trans x3; have y4 := (hb3.cell (p := ⟨C, 0, none⟩) (by show C < wa.heap.size; omega)).trans x4; have y5 := (hb3.cell (p := ⟨C, 1, none⟩) (by show C < wa.heap.size; omega)).trans x5)
            | (go_at_call 16; refine (newer_any a0 a1 c0 c1 _).mono ?_; rintro e w4 ⟨rfl, rfl⟩; rw [HT.out]))
        all_goals first
          | (go_ret; exact ⟨ret_bool (by simp), by rw [HA.out]; exact hbA⟩)
end Go.Proofs.Ytmokfpjiibociaa.R
