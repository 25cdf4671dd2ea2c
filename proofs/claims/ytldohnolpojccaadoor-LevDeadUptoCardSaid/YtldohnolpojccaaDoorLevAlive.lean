/-
  The walk of a Lev's Alive.
-/
import Derived.Test.YtldohnolpojccaaDoorLevRest
namespace Go.Proofs.YtldohnolpojccaaDoor.V
open Go.RowKit
open LM EM Aid L E VM
set_option linter.unusedSimpArgs false
set_option linter.unusedVariables false

theorem size_list : ∀ f, (Tryd.prog.info? 32).map (·.size) = some (u8A 25 f).toList.length := fun f => by rw [Array.length_toList]; exact size_row f
theorem Rw.range {w : World} {g : Nat} {f : Nat → Nat} (h : Rw w g f) : w.rangeAt g 0 (u8A 25 f).toList := by
  intro j v hv
  obtain ⟨hj, hv⟩ := List.getElem?_eq_some_iff.1 hv
  rw [h.cells j (by simpa using hj), ← hv]; simp
theorem IsLev.range {w : World} {p : Nat} {l : List Int} {out : Nat} (h : IsLev w p l out) : w.rangeAt p 2 (u8A 25 (deadF out l.length)).toList := by
  intro j v hv
  obtain ⟨hj, hv⟩ := List.getElem?_eq_some_iff.1 hv
  rw [h.dead j (by simpa using hj), ← hv]; simp
/-- are two rows the same? -/
def eqR (f g : Nat → Nat) : Bool := (List.range 25).all fun i => f i == g i
theorem info_u8i : ∃ i, Tryd.prog.info? 5 = some i := by
  obtain ⟨i, h, _⟩ := info_parts (show (Tryd.prog.info? 5).map (fun i => (i.zero, i.size, i.bytes)) = some (some (.int .u8 0), 1, 1) by kernel_rfl)
  exact ⟨i, h⟩
theorem eq_rows (f g : Nat → Nat) (w : World) : (Op.equal 32 (.agg (u8A 25 f)) (.agg (u8A 25 g))).run Tryd.prog w = .ok (eqR f g) w := by
  obtain ⟨i, hi⟩ := info_u8i
  exact run_equal_u8 under_row i hi Tryd.underlying5 (by kernel_rfl) f g w

theorem range_below {w w' : World} {B b o : Nat} {cs : List Value} (h : w.rangeAt b o cs) (hb : Below B w w') (hlt : b < B) : w'.rangeAt b o cs := fun j v hv => (hb.cell (p := ⟨b, o + j, none⟩) hlt).trans (h j v hv)
theorem isLev_drew {w : World} {p : Nat} {l : List Int} {out : Nat} (h : IsLev w p l out) : IsLev w.drew p l out := h.below (Below.refl _ _).drew

set_option maxRecDepth 100000 in
set_option maxHeartbeats 1000000 in
theorem lalive_any (p : Nat) (l : List Int) (out : Nat) (f : Nat → Nat) (w : World) (h : IsLev w p l out) :
    Calls Tryd.prog 22 #[.pointer (some ⟨p, 0, none⟩), .agg (u8A 25 f)] w fun e w' => e = .returned (.bool (!eqR (cutF out l.length f) (deadF out l.length))) ∧ Below w.heap.size w w' := by
  have hp := h.lt
  have hu := under_row
  have hz1 := size_list f
  have hz2 := size_list (deadF out l.length)
  have hcut := cut_any p l out f
  have heq : ∀ w, (Op.equalIn 10000 32 (.agg (u8A 25 (cutF out l.length f))) (.agg (u8A 25 (deadF out l.length)))).run Tryd.prog w = .ok (eqR (cutF out l.length f) (deadF out l.length)) w := eq_rows (cutF out l.length f) (deadF out l.length)
  have hR := fun (w : World) (g : Nat) (h : Blk w g 32 (u8A 25 f)) => Rw.range h
  have hD := fun (w : World) (h : IsLev w p l out) => h.range
  obtain ⟨U, hU⟩ : ∃ U, u8A 25 f = U := ⟨_, rfl⟩
  obtain ⟨C, hC⟩ : ∃ U, u8A 25 (cutF out l.length f) = U := ⟨_, rfl⟩
  obtain ⟨D, hDd⟩ : ∃ U, u8A 25 (deadF out l.length) = U := ⟨_, rfl⟩
  obtain ⟨b, hb'⟩ : ∃ b, eqR (cutF out l.length f) (deadF out l.length) = b := ⟨_, rfl⟩
  rw [hU] at hz1 hcut hR ⊢
  rw [hC] at hcut heq
  rw [hDd] at hz2 heq hD
  rw [hb'] at heq ⊢
  clear hU hC hDd hb'
  go_enter Tryd.func22, Tryd.ntmps22
  go_wp2_with (refine wpList_boxN _ (by rfl) _ _ rfl U rfl ?_; intro w1 hr hb hs1)
  have h1 : IsLev w1 p l out := h.below hb
  have t1 : w1.drew.rangeAt w.heap.size 0 U.toList := hR _ _ hr
  have t2 : w1.drew.rangeAt p 2 D.toList := hD _ h1
  have hlt1 : w.heap.size < w1.drew.heap.size := by show w.heap.size < w1.heap.size; omega
  have hlt2 : p < w1.drew.heap.size := by omega
  have hlt3 : w.heap.size ≤ w1.drew.heap.size := by omega
  clear hR hD hr
  refine wp_region_noPanic ?_
  refine wp_region_held_drew (S := fun w' => w'.rangeAt w.heap.size 0 U.toList ∧ w'.rangeAt p 2 D.toList) (by kernel_rfl) ⟨t1, t2⟩ (fun hHeld => ?_)
  refine wpAnyH_take (i := 0) (v := .pointer (some ⟨p, 0, none⟩)) rfl (by kernel_rfl) (by kernel_rfl) (by kernel_rfl) (fun _ _ _ h => h) (.inl ⟨by rfl, by intro w hSw; go_simp⟩) hHeld ?_
  simp only [Act.put, List.getElem_toArray, List.getElem_cons_succ, List.getElem_cons_zero, List.setIfInBounds_toArray, List.set_cons_zero, List.set_cons_succ]
  refine wpAnyH_take (i := 1) (v := _) rfl (by kernel_rfl) (by kernel_rfl) (by kernel_rfl) (fun _ _ _ h => h) (yieldsIf_load_mid (by rfl) _ _ rfl _ _ rfl U.toList _ (fun _ h => h.1) hu rfl hz1) hHeld ?_
  simp only [Act.put, List.getElem_toArray, List.getElem_cons_succ, List.getElem_cons_zero, List.setIfInBounds_toArray, List.set_cons_zero, List.set_cons_succ]
  refine wpAnyH_take (i := 3) (v := .pointer (some ⟨p, 0, none⟩)) rfl (by kernel_rfl) (by kernel_rfl) (by kernel_rfl) (fun _ _ _ h => h) (.inl ⟨by rfl, by intro w hSw; go_simp⟩) hHeld ?_
  simp only [Act.put, List.getElem_toArray, List.getElem_cons_succ, List.getElem_cons_zero, List.setIfInBounds_toArray, List.set_cons_zero, List.set_cons_succ]
  refine wpAnyH_take (i := 4) (v := .pointer (some ⟨p, 0, none⟩)) rfl (by kernel_rfl) (by kernel_rfl) (by kernel_rfl) (fun _ _ _ h => h) (.inl ⟨by rfl, by intro w hSw; go_simp⟩) hHeld ?_
  simp only [Act.put, List.getElem_toArray, List.getElem_cons_succ, List.getElem_cons_zero, List.setIfInBounds_toArray, List.set_cons_zero, List.set_cons_succ]
  refine wpAnyH_take (i := 5) (v := .pointer (some ⟨p, 2, none⟩)) rfl (by kernel_rfl) (by kernel_rfl) (by kernel_rfl) (fun _ _ _ h => h) (.inl ⟨by rfl, by intro w hSw; go_simp⟩) hHeld ?_
  simp only [Act.put, List.getElem_toArray, List.getElem_cons_succ, List.getElem_cons_zero, List.setIfInBounds_toArray, List.set_cons_zero, List.set_cons_succ]
  refine wpAnyH_take (i := 6) (v := _) rfl (by kernel_rfl) (by kernel_rfl) (by kernel_rfl) (fun _ _ _ h => h) (yieldsIf_load_mid (by rfl) _ _ rfl _ _ rfl D.toList _ (fun _ h => h.2) hu rfl hz2) hHeld ?_
  simp only [Act.put, List.getElem_toArray, List.getElem_cons_succ, List.getElem_cons_zero, List.setIfInBounds_toArray, List.set_cons_zero, List.set_cons_succ]
  refine wpAnyH_ready (rs := [2]) (by kernel_rfl) (by simp) ?_
  refine AllReadyH.cons rfl (fun K hK => ?_) AllReadyH.nil
  go_simp
  refine (hcut _ (h.below hb.drew)).mono ?_
  rintro e w3 ⟨rfl, hb3⟩
  have t3 : w3.rangeAt w.heap.size 0 U.toList := range_below t1 hb3 hlt1
  have t4 : w3.rangeAt p 2 D.toList := range_below t2 hb3 hlt2
  have hbb : Below w.heap.size w w3 := hb.drew.trans (hb3.mono hlt3)
  refine hK.out _ _ ⟨t3, t4⟩ (fun hHeld => ?_)
  clear hK K
  refine wpAnyH_take (i := 7) (v := .bool (!b)) rfl (by kernel_rfl) (by kernel_rfl) (by kernel_rfl) (fun _ _ _ h => h) (.inl ⟨by rfl, by intro w hSw; go_simp⟩) hHeld ?_
  simp only [Act.put, List.getElem_toArray, List.getElem_cons_succ, List.getElem_cons_zero, List.setIfInBounds_toArray, List.set_cons_zero, List.set_cons_succ]
  refine wpAnyH_take (i := 8) (v := .bool (!b)) rfl (by kernel_rfl) (by kernel_rfl) (by kernel_rfl) (fun _ _ _ h => h) (.inl ⟨by rfl, by intro w hSw; go_simp⟩) hHeld ?_
  simp only [Act.put, List.getElem_toArray, List.getElem_cons_succ, List.getElem_cons_zero, List.setIfInBounds_toArray, List.set_cons_zero, List.set_cons_succ]
  refine wpAnyH_done (by kernel_rfl) ?_ _
  refine NoPanic.normal ?_
  go_wp2_with fail
  go_ret
  exact ⟨rfl, hbb⟩
end Go.Proofs.YtldohnolpojccaaDoor.V
