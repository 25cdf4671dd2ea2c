/-
  The walks of the laws of layer 19 over configurations: each answers true.
-/
import Derived.Test.YtmokfpjiibociaaRulRight
namespace Go.Proofs.Ytmokfpjiibociaa.R
open Go.RowKit
open Aid
set_option linter.unusedSimpArgs false
set_option linter.unusedVariables false

theorem step_below {p : Prop} {wa wc wz : World} (h : p ∧ Below wa.heap.size wa wc) (hb : Below wc.heap.size wc wz) : Below wa.heap.size wa wz := h.2.trans (hb.mono h.2.size)
theorem ints_step {p : Prop} {wa wc : World} {K : IntKind} {v : Value} {l : List Int} (hI : Ints wa K v l) (h : p ∧ Below wa.heap.size wa wc) : Ints wc K v l := hI.below h.2
theorem drew_step {p : Prop} {wa wc : World} (h : p ∧ Below wa.heap.size wa wc) : Below wa.heap.size wa wc.drew := h.2.drew

set_option maxRecDepth 100000 in
set_option maxHeartbeats 4000000 in
theorem configs_law (v : Value) (l : List Int) (x : Int) (w : World) (h : Ints w .i64 v l) : Calls Try.prog 11 #[.agg #[v], .int .i64 x] w (TrueIn w) := by
  have HI := Lib.hid h
  clear h
  obtain ⟨a, c, rfl⟩ := Ints.form HI.out
  go_enter Try.func11, Try.ntmps11
  go_wp2_with fail
  have hbA : Below w.heap.size w (w.alloc (.cells #[.slice a l.length c] 40)) := (Below.refl _ _).alloc (Nat.le_refl _) _
  have hc0 : (w.alloc (.cells #[.slice a l.length c] 40)).cell? ⟨w.heap.size, 0, none⟩ = some (.slice a l.length c) := cell_new _ _ _ _ rfl
  obtain ⟨wa, hwa⟩ : ∃ wa, w.alloc (.cells #[.slice a l.length c] 40) = wa := ⟨_, rfl⟩
  rw [hwa] at hbA hc0
  simp only [hwa]
  have hIa := HI.out.below hbA
  have HIa := Lib.hid hIa
  obtain ⟨A, hA⟩ : ∃ A, w.heap.size = A := ⟨_, rfl⟩
  rw [hA] at hc0 hbA
  simp only [hA]
  have hsz : A < wa.heap.size := by rw [← hwa]; simp [hA]
  have HA := Lib.hid hA
  clear hwa hA hIa
  have hS0 : wa.cell? ⟨A, 0, none⟩ = some (.slice a l.length c) ∧ Below wa.heap.size wa wa := ⟨hc0, Below.refl _ _⟩
  go_region_held3 (fun w' => w'.cell? ⟨A, 0, none⟩ = some (.slice a l.length c) ∧ Below wa.heap.size wa w') (first | assumption | (exact ⟨((drew_step (by assumption)).cell (p := ⟨A, 0, none⟩) hsz).trans hc0, drew_step (by assumption)⟩) | (exact ⟨by assumption, by assumption⟩)) (first
    | (go_at_call 15; refine (alive_any _).mono ?_; rintro e wz ⟨rfl, hbz⟩; have hz := step_below (by first | assumption | exact ⟨trivial, drew_step (by assumption)⟩) hbz; have kz := (hz.cell (p := ⟨A, 0, none⟩) hsz).trans hc0)
    | (go_at_call 27; refine (right_any _ l _ (ints_step HIa.out (by assumption))).mono ?_; rintro e wz ⟨rfl, hbz⟩; have hz := step_below (by assumption) hbz; have kz := (hz.cell (p := ⟨A, 0, none⟩) hsz).trans hc0)
    | (go_at_call 22; refine (rright_any _ l _ (ints_step HIa.out (by assumption))).mono ?_; rintro e wz ⟨rfl, hbz⟩; have hz := step_below (by assumption) hbz; have kz := (hz.cell (p := ⟨A, 0, none⟩) hsz).trans hc0)
    | (go_at_call 28; refine (votes_any _ l x _ (ints_step HIa.out (by assumption))).mono ?_; rintro e wz ⟨rfl, hbz⟩; have hz := step_below (by assumption) hbz; have kz := (hz.cell (p := ⟨A, 0, none⟩) hsz).trans hc0)
    | (go_at_call 29; refine (in_any _ l x _ (ints_step HIa.out (by assumption))).mono ?_; rintro e wz ⟨rfl, rfl⟩))
  all_goals
    go_wp2_with fail
    go_ret
    exact ⟨rfl, by rw [HA.out]; exact hbA.trans (hz.mono (by omega))⟩
end Go.Proofs.Ytmokfpjiibociaa.R
