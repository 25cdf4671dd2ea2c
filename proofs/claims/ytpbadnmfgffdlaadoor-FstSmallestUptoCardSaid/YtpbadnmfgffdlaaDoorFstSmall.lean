/-
  The law FstSmallest: a machine has as many states as its words have unlike levelled rests.
-/
import Derived.Test.YtpbadnmfgffdlaaDoorFstRRis
import Derived.Test.YtpbadnmfgffdlaaDoorFstBuild
import Derived.Test.YtpbadnmfgffdlaaDoorFstAlive
import Derived.Test.YtpbadnmfgffdlaaDoorFstSameS
import Derived.Deep.RegionHeld3
namespace Go.Proofs.YtpbadnmfgffdlaaDoor.F
open Go.RowKit Go.Shelf Go.Maps
open Aid L LM
set_option linter.unusedSimpArgs false
set_option linter.unusedVariables false
attribute [local go_sem] Oper.semAt_some

theorem step_below {p : Prop} {wa wc wz : World} (h : p ∧ Below wa.heap.size wa wc) (hb : Below wc.heap.size wc wz) : Below wa.heap.size wa wz := h.2.trans (hb.mono h.2.size)
theorem drew_step {p : Prop} {wa wc : World} (h : p ∧ Below wa.heap.size wa wc) : Below wa.heap.size wa wc.drew := h.2.drew
/-- both sides are as long -/
theorem same_long {l : List Wd} (he : buildE l = 0) : (risesF (restsF l)).length = (makeF l).2.length := by
  by_cases hl : l = []
  · subst hl; rfl
  · exact rises_len l he hl
set_option maxRecDepth 100000 in
set_option maxHeartbeats 4000000 in
theorem small_law (v : Value) (l : List Wd) (w : World) (h : PairsIn w v l) (T : Tab w) : Calls Tryd.prog 8 #[v] w fun e w' => e = .returned (.bool true) ∧ Below w.heap.size w w' := by
  have hbuild := build_any v l w h T
  by_cases he : buildE l = 0
  · unfold BuildIs at hbuild
    rw [build_ok he] at hbuild
    have hsl := same_long he
    obtain ⟨⟨B, S⟩, hm⟩ : ∃ p, makeF l = p := ⟨_, rfl⟩
    rw [hm] at hbuild hsl
    dsimp only at hbuild hsl
    obtain ⟨N, hN⟩ : ∃ N, S.length = N := ⟨_, rfl⟩
    rw [hN] at hsl
    have HBD := Lib.hid hbuild
    obtain ⟨fw, hfw⟩ : ∃ fw, decide (l.length ≤ 300 ∨ 4096 < l.length) = fw := ⟨_, rfl⟩
    have HFW := Lib.hid (fun (W : World) (hb : Below w.heap.size w W) => (by have := few_any l v W (h.below hb); rw [hfw] at this; exact this : Calls Tryd.prog 11 #[v] W fun e w' => e = .returned (.bool fw) ∧ W = w'))
    have HRI := Lib.hid (fun (W : World) (hb : Below w.heap.size w W) => (by have := rrises_any v l W (h.below hb) he; rw [hsl] at this; exact this : Calls Tryd.prog 20 #[v] W fun e w' => ∃ a c, e = .returned (.slice a N c) ∧ Below W.heap.size W w'))
    clear hbuild he hm h hfw hsl
    go_enter Tryd.func8, Tryd.ntmps8
    go_upto_region 2 with (go_at_call 13; refine HBD.out.mono ?_; rintro e w2 ⟨sv, rfl, hSt, hb2⟩; obtain ⟨sa, sc, rfl⟩ := hSt.slice)
    obtain ⟨W0, hW0⟩ : ∃ W0, w2.alloc (.cells #[.int .i64 B, .slice sa S.length sc] 27) = W0 := ⟨_, rfl⟩
    have hb0 : Below w2.heap.size w2 W0 := by rw [← hW0]; exact (Below.refl _ _).alloc (Nat.le_refl _) _
    have bM : Blk W0 w2.heap.size 27 #[.int .i64 B, .slice sa S.length sc] := by rw [← hW0]; exact Blk.alloc_new _ _ _
    have hbw0 : Below w.heap.size w W0 := hb2.trans (hb0.mono hb2.size)
    have hNl := hSt.len
    obtain ⟨Q, hQ⟩ : ∃ Q, w2.heap.size = Q := ⟨_, rfl⟩
    rw [hN] at bM hNl hW0
    rw [hQ] at bM
    have m1 : W0.cell? ⟨Q, 1, none⟩ = some (.slice sa N sc) := (Blk.cell bM 1).trans rfl
    have hQl := bM.lt
    have T0 := T.below hbw0
    have hbwz := hbw0.size
    try rw [hN]
    try rw [hW0]
    try rw [hQ]
    have HT0 := Lib.hid T0
    have HBW := Lib.hid hbw0
    clear hSt hbw0 hb0 T0 hb2
    cases fw
    · go_wp2_with (first | (go_at_call 12; refine (alive_any _ HT0.out).mono ?_; rintro e w4 ⟨rfl, hb4⟩) | (go_at_call 11; refine (HFW.out _ HBW.out).mono ?_; rintro e w3 ⟨rfl, rfl⟩))
      go_ret
      exact ⟨rfl, HBW.out.trans (hb4.mono HBW.out.size)⟩
    have hNN : ((N : Int) == (N : Int)) = true := by simp
    have hw1 : True := trivial
    go_wp2_with (go_at_call 11; refine (HFW.out _ HBW.out).mono ?_; rintro e w3 ⟨rfl, rfl⟩)
    clear hW0 bM hN hQ hNl
    have hS0 : W0.cell? ⟨Q, 1, none⟩ = some (.slice sa N sc) ∧ Below W0.heap.size W0 W0 := ⟨m1, Below.refl _ _⟩
    go_region_held3 (fun w' => w'.cell? ⟨Q, 1, none⟩ = some (.slice sa N sc) ∧ Below W0.heap.size W0 w') (first | assumption | (exact ⟨((drew_step (by assumption)).cell (p := ⟨Q, 1, none⟩) hQl).trans m1, drew_step (by assumption)⟩) | (exact ⟨by assumption, by assumption⟩)) (first
      | (go_at_call 12; refine (alive_any _ (HT0.out.below (And.right (by assumption)))).mono ?_; rintro e wz ⟨rfl, hbz⟩; have hz := step_below (by assumption) hbz; have kz := (hz.cell (p := ⟨Q, 1, none⟩) hQl).trans m1)
      | (go_at_call 20; refine (HRI.out _ (HBW.out.trans ((And.right (by assumption : _ ∧ Below W0.heap.size W0 _)).mono hbwz))).mono ?_; rintro e wz ⟨ra, rc, rfl, hbz⟩; have hz := step_below (by assumption) hbz; have kz := (hz.cell (p := ⟨Q, 1, none⟩) hQl).trans m1))
    all_goals
      go_wp2_with fail
      go_ret
      exact ⟨rfl, HBW.out.trans (hz.mono hbwz)⟩
  · have herr := build_err he
    unfold BuildIs at hbuild
    rw [herr] at hbuild
    dsimp only at hbuild
    obtain ⟨E, hE⟩ : ∃ E, buildE l = E := ⟨_, rfl⟩
    rw [hE] at hbuild he
    have heb : (E == 0) = false := by rw [beq_eq_false_iff_ne]; exact he
    have heb' : (E != 0) = true := by rw [bne_iff_ne]; exact he
    have HBD := Lib.hid hbuild
    clear hbuild h herr
    go_enter Tryd.func8, Tryd.ntmps8
    go_wp2_with (first | (go_at_call 12; refine (alive_any _ (T.below hb3)).mono ?_; rintro e w4 ⟨rfl, hb4⟩) | (go_at_call 13; refine HBD.out.mono ?_; rintro e w2 ⟨sv, rfl, hSt, hb2⟩; obtain ⟨sa, sc, rfl⟩ := hSt.slice; have hb3 := hb2.alloc hb2.size (.cells #[.int .i64 0, .slice sa ([] : List StM).length sc] 27)))
    go_ret
    exact ⟨rfl, hb3.trans (hb4.mono hb3.size)⟩
end Go.Proofs.YtpbadnmfgffdlaaDoor.F
