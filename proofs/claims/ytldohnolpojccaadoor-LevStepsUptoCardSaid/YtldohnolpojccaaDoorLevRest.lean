/-
  The walks of a Lev's Start, Dist and Alive.
-/
import Derived.Test.YtldohnolpojccaaDoorLevStep
namespace Go.Proofs.YtldohnolpojccaaDoor.V
open Go.RowKit
open LM EM Aid L E VM
set_option linter.unusedSimpArgs false
set_option linter.unusedVariables false

set_option maxRecDepth 100000 in
set_option maxHeartbeats 1000000 in
theorem start_any (p : Nat) (l : List Int) (out : Nat) (w : World) (h : IsLev w p l out) :
    Calls Tryd.prog 15 #[.pointer (some ⟨p, 0, none⟩)] w fun e w' => e = .returned (.agg (u8A 25 (startF out l.length))) ∧ Below w.heap.size w w' := by
  obtain ⟨zi, hzi, hzz⟩ := zero_row
  have hp := h.lt
  obtain ⟨hl1, hl2, ho1, ho2⟩ := h.bounds
  obtain ⟨a0, c0, HI0, cr0, co0⟩ := h.reads
  clear HI0
  go_enter Tryd.func15, Tryd.ntmps15
  go_wp2_with (first
    | (refine wpList_allocN _ (by rfl) _ rfl zi hzi _ hzz ?_; have hS' := hS; intro w2 hT hb2 hs2; replace hS := hS.below hb2 (by omega); replace hb := hb.trans (hb2.mono (by omega)); have cr := (hb.cell (p := ⟨p, 0, none⟩) hp).trans cr0)
    | (refine wpList_allocN _ (by rfl) _ rfl zi hzi _ hzz ?_; intro w1 hS hb hs1))
  obtain ⟨A1, hA1⟩ : ∃ A, w.heap.size + 1 = A := ⟨_, rfl⟩
  obtain ⟨A0, hA0⟩ : ∃ A, w.heap.size = A := ⟨_, rfl⟩
  have g1 : A0 < A1 := by omega
  have g3 : p < A0 := by omega
  rw [hs1, hA1] at hT
  rw [hA0] at hS hb
  try simp only [hA1]
  try simp only [hA0]
  clear hs1 hs2 hA1 hp hS' hb2
  go_loopw [11] (fun x wr => ∃ j : Nat, x = .int .i64 j ∧ j ≤ l.length + 1 ∧ Rw wr A1 (fun i => if i < j then startF out l.length i else 0) ∧ Below A1 w2 wr)
    (fun x _ => l.length + 1 - (intOf x).toNat)
  case atStart => exact ⟨0, rfl, Nat.zero_le _, by simpa [Rw] using hT, Below.refl _ _⟩
  case round =>
    obtain ⟨j, rfl, hj, hR, hbr⟩ := hrel
    have hBr : Below A0 w wr := hb.trans (hbr.mono (by omega))
    have co := (hBr.cell (p := ⟨p, 1, none⟩) g3).trans co0
    by_cases hlast : (j : Int) < (l.length : Int) + 1
    · obtain ⟨m, hm⟩ : ∃ m, min j out = m := ⟨_, rfl⟩
      obtain ⟨hA, hA'⟩ := min2d hm
      have hfr : wr.frozen? ⟨A1, j, none⟩ = false := hR.free j
      have hold := hR.cell (j := j) (x := 0) (by omega) (by simp)
      have hj25 : (j : Int) < 25 := by omega
      have hwm : IntKind.u8.wrap (m : Int) = (m : Int) := IntWalk.u8_in _ (by omega)
      have hwo : IntKind.i64.wrap (out : Int) = (out : Int) := IntWalk.i64_in _ (by omega)
      have HR : Hid (Rw (wr.setCell ⟨A1, j, none⟩ (.int .u8 m)) A1 (fun i => if i < j + 1 then startF out l.length i else 0)) := hR.set j m (by
        intro i hi
        by_cases e : i = j
        · subst e; simp only [Nat.lt_succ_self, if_true]; unfold startF; rw [if_pos (by omega), hm]
        · rw [if_neg e]; by_cases h' : i < j
          · rw [if_pos h', if_pos (by omega)]
          · rw [if_neg h', if_neg (by omega)])
      clear hm
      go_wp2_with fail
      exact ⟨⟨j + 1, by go_num, by omega, HR.out, Below.setCell hbr (p := ⟨A1, j, none⟩) (Nat.le_refl _) _⟩, by simp [intOf]; omega⟩
    · have hje : j = l.length + 1 := by omega
      subst hje
      have hR2 := Rw.same (f' := startF out l.length) hR (by intro i hi; unfold startF; (repeat' split) <;> omega)
      have hSr := hS.below hbr (by omega)
      go_wp2_with (first
        | (refine wpList_loadN _ (by rfl) _ _ rfl _ under_row rfl A1 0 rfl (u8A 25 (startF out l.length)) (size_row _) (Rw.cells hR2) ?_)
        | (refine wpList_storeN _ (by rfl) _ _ _ rfl rfl A0 rfl _ _ _ hSr rfl (size_row _) (by rw [u8A_size, u8A_size]) (u8A_all _ _) ?_; intro w7 hr7 hb7 hs7 _))
      refine bodyPost_ret (results_cellN rfl _ _ A0 rfl _ _ hr7 _ under_row rfl (size_row _)) rfl ?_
      exact ⟨rfl, hBr.trans hb7⟩

/-- what Dist tells -/
def distF (out n : Nat) (f : Nat → Nat) : Nat × Bool := if f n < out then (f n, true) else (0, false)

set_option maxRecDepth 100000 in
set_option maxHeartbeats 1000000 in
theorem dist_any (p : Nat) (l : List Int) (out : Nat) (f : Nat → Nat) (w : World) (h : IsLev w p l out) :
    Calls Tryd.prog 19 #[.pointer (some ⟨p, 0, none⟩), .agg (u8A 25 f)] w fun e w' => e = .returned (.tuple #[.int .i64 ((distF out l.length f).1 : Nat), .bool (distF out l.length f).2]) ∧ Below w.heap.size w w' := by
  have hp := h.lt
  obtain ⟨hl1, hl2, ho1, ho2⟩ := h.bounds
  obtain ⟨a0, c0, HI0, cr0, co0⟩ := h.reads
  clear HI0
  obtain ⟨x, hx⟩ : ∃ x, f l.length = x := ⟨_, rfl⟩
  have hl25 : (l.length : Int) < 25 := by omega
  by_cases hlt : x < out
  · have hD : distF out l.length f = (x, true) := by unfold distF; rw [hx, if_pos hlt]
    rw [hD]
    have hwx : IntKind.i64.wrap (x : Int) = (x : Int) := IntWalk.i64_in _ (by omega)
    have hge : ¬ (out : Int) ≤ (x : Int) := by omega
    clear hD
    go_enter Tryd.func19, Tryd.ntmps19
    go_wp2_with (refine wpList_boxN _ (by rfl) _ _ rfl (u8A 25 f) rfl ?_; intro w1 hr hb hs1; have cr := (hb.cell (p := ⟨p, 0, none⟩) hp).trans cr0; have co := (hb.cell (p := ⟨p, 1, none⟩) hp).trans co0; have cx := Rw.cell hr (j := l.length) (by omega) hx)
    go_ret2
    exact ⟨rfl, hb⟩
  · have hD : distF out l.length f = (0, false) := by unfold distF; rw [hx, if_neg hlt]
    rw [hD]
    have hge : (out : Int) ≤ (x : Int) := by omega
    clear hD
    go_enter Tryd.func19, Tryd.ntmps19
    go_wp2_with (refine wpList_boxN _ (by rfl) _ _ rfl (u8A 25 f) rfl ?_; intro w1 hr hb hs1; have cr := (hb.cell (p := ⟨p, 0, none⟩) hp).trans cr0; have co := (hb.cell (p := ⟨p, 1, none⟩) hp).trans co0; have cx := Rw.cell hr (j := l.length) (by omega) hx)
    go_ret2
    exact ⟨rfl, hb⟩
end Go.Proofs.YtldohnolpojccaaDoor.V
