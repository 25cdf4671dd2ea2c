/-
  The walk of the law LevAsks: it answers true.
-/
import Derived.Test.YtldohnolpojccaaDoorLevLawsD
namespace Go.Proofs.YtldohnolpojccaaDoor.V
open Go.RowKit
open LM EM Aid L E VM
set_option linter.unusedSimpArgs false
set_option linter.unusedVariables false

/-- is some number of the first ones near? -/
def someB (f : Nat → Nat) (out : Nat) (k : Nat) : Bool := (List.range k).any fun j => decide (min (f j) out < out)
theorem someB_next (f : Nat → Nat) (out k : Nat) : someB f out (k + 1) = (someB f out k || decide (min (f k) out < out)) := by simp [someB, List.range_succ]
theorem someB_alive {f : Nat → Nat} {out n : Nat} (hn : n ≤ 24) : (!eqR (cutF out n f) (deadF out n)) = someB f out (n + 1) := by
  rw [Bool.eq_iff_iff, Bool.not_eq_true', ← Bool.not_eq_true]
  have h1 : eqR (cutF out n f) (deadF out n) = true ↔ ∀ j, j ≤ 24 → cutF out n f j = cutF out n (fun _ => out) j := by
    unfold eqR deadF
    rw [all_u8]
    constructor
    · intro h j hj; exact h j (by omega)
    · intro h j hj; exact h j (by omega)
  rw [h1, cut_dead]
  simp only [someB, List.any_eq_true, List.mem_range, decide_eq_true_eq]
  constructor
  · intro h
    apply Classical.byContradiction
    intro hh
    apply h
    intro j _ hjn
    apply Classical.byContradiction
    intro hlt
    exact hh ⟨j, by omega, by omega⟩
  · rintro ⟨j, hj, hlt⟩ h
    have := h j (by omega) (by omega)
    omega

set_option maxRecDepth 100000 in
set_option maxHeartbeats 2000000 in
theorem asks_law (s : ByteArray) (edits : Int) (f : Nat → Nat) (w : World) (hs : s.size ≤ 35184372088832) (hf : ∀ j, f j ≤ 255) (T : Tab w) :
    Calls Tryd.prog 8 #[.string s, .int .i64 edits, .agg (u8A 25 f)] w (TrueIn w) := by
  go_enter Tryd.func8, Tryd.ntmps8
  go_wp2_with (refine wpList_boxN _ (by rfl) _ _ rfl (u8A 25 f) rfl ?_; intro w0 hR hb0 hs0)
  refine (made_any s edits w0 hs (T.below hb0)).mono ?_
  rintro e w1 ⟨hb1, hx⟩
  have hsz1 := hb1.size
  have hAs : w.heap.size < w1.heap.size := by omega
  replace hR := Rw.below hR hb1 (by omega)
  have T1 : Tab w1 := (T.below hb0).below hb1
  replace hb1 := hb0.trans (hb1.mono hb0.size)
  clear hb0 hs0 hsz1
  rcases hx with ⟨hr, v, rfl⟩ | ⟨l, n, out, p, a, c, hr, hl, rfl, hn, ho, rfl, hL, hI, hc⟩
  · have HR := Lib.hid hr
    clear hr
    have T1 := T.below hb1
    go_wp2_with fail
    refine (alive_any w1 T1).mono ?_
    rintro e w2 ⟨rfl, hb2⟩
    have hbb := hb1.trans (hb2.mono hb1.size)
    clear hb1 hb2
    go_wp2_with fail
    refine (right_any s edits w2 (by omega)).mono ?_
    rintro e w3 ⟨rfl, hb3⟩
    rw [HR.out]
    go_wp2_with fail
    go_ret
    exact ⟨rfl, hbb.trans (hb3.mono hbb.size)⟩
  · have hlb := hL.bounds
    clear hr hl hI
    obtain ⟨x, hx⟩ : ∃ x, f l.length = x := ⟨_, rfl⟩
    obtain ⟨y, hy⟩ : ∃ y, min (f l.length) out = y := ⟨_, rfl⟩
    have HX := Lib.hid hx
    have HY := Lib.hid hy
    have hD0 : Hid (distF out l.length f = if x < out then (x, true) else (0, false)) := by rw [← hx]; rfl
    have hxy : min x out = y := by rw [← hx]; exact hy
    obtain ⟨d, b, hdb⟩ : ∃ d b, distF out l.length f = (d, b) := ⟨_, _, rfl⟩
    have HD := Lib.hid hdb
    clear hx hy hdb
    have hB : Below w1.heap.size w1 w1 := Below.refl _ _
    go_wp2_with (first
      | (refine wpList_loadN _ (by rfl) _ _ rfl _ under_row rfl w.heap.size 0 rfl (u8A 25 f) (size_row _) (Rw.cells hR) ?_)
      | (go_at_call 19; refine (dist_any p l out f _ (hL.below hB)).mono ?_; rintro e w5 ⟨he, hb5⟩; rw [HD.out] at he; subst he; replace hR := Rw.below hR hb5 hAs; replace hB := hB.trans (hb5.mono hB.size); replace hAs := Nat.lt_of_lt_of_le hAs hb5.size)
      | (go_at_call 21; refine (at_any f _ l.length n out y _ rfl (by omega) hn ho (hf _) HY.out).mono ?_; rintro e w6 ⟨rfl, hb6⟩; replace hR := Rw.below hR hb6 hAs; replace hB := hB.trans (hb6.mono hB.size); replace hAs := Nat.lt_of_lt_of_le hAs hb6.size))
    go_loopw [13, 14] (fun q x wr => ∃ (k : Nat) (b : Bool), q = .bool b ∧ x = .int .i64 k ∧ k ≤ l.length + 1 ∧ Hid (b = someB f out k) ∧ Rw wr w.heap.size f ∧ Below w1.heap.size w1 wr ∧ w.heap.size < wr.heap.size)
      (fun _ x _ => l.length + 1 - (intOf x).toNat)
    case atStart => exact ⟨0, false, rfl, rfl, Nat.zero_le _, rfl, hR, hB, hAs⟩
    case round =>
      clear hR hB hAs
      obtain ⟨k, q, rfl, rfl, hk, HQ, hR, hB, hAs⟩ := hrel
      by_cases hlast : (k : Int) ≤ (l.length : Int)
      · have HN := Lib.hid (someB_next f out k)
        cases q
        · obtain ⟨z, hz⟩ : ∃ z, min (f k) out = z := ⟨_, rfl⟩
          have HZ := Lib.hid hz
          rw [hz, ← HQ.out, Bool.false_or] at HN
          have hzn : decide ((z : Int) ≤ (n : Int)) = decide (z < out) := by rw [decide_eq_decide]; omega
          have hzn' : decide (z ≤ n) = decide (z < out) := by rw [decide_eq_decide]; omega
          clear hz
          go_wp2_with (first
            | (refine wpList_loadN _ (by rfl) _ _ rfl _ under_row rfl w.heap.size 0 rfl (u8A 25 f) (size_row _) (Rw.cells hR) ?_)
            | (go_at_call 21; refine (at_any f _ k n out z _ rfl (by omega) hn ho (hf _) HZ.out).mono ?_; rintro e w7 ⟨rfl, hb7⟩; replace hR := Rw.below hR hb7 hAs; replace hB := hB.trans (hb7.mono hB.size); replace hAs := Nat.lt_of_lt_of_le hAs hb7.size))
          exact ⟨⟨k + 1, _, rfl, by go_num, by omega, HN.out.symm, hR, hB, hAs⟩, by simp [intOf]; omega⟩
        · rw [← HQ.out, Bool.true_or] at HN
          go_wp2_with fail
          exact ⟨⟨k + 1, true, rfl, by go_num, by omega, HN.out.symm, hR, hB, hAs⟩, by simp [intOf]; omega⟩
      · have hke : k = l.length + 1 := by omega
        subst hke
        have HA : Hid ((!eqR (cutF out l.length f) (deadF out l.length)) = q) := by show _ = _; rw [someB_alive (by omega)]; exact HQ.out.symm
        by_cases hxo : x < out
        · have h0 := hD0.out
          rw [HD.out, if_pos hxo] at h0
          obtain ⟨rfl, rfl⟩ := Prod.mk.inj h0
          have hyx : y = d := by omega
          subst hyx
          have hyn : (y : Int) ≤ (n : Int) := by omega
          clear h0 hD0 HD hxy HY HX
          go_wp2_with (first
            | (refine wpList_loadN _ (by rfl) _ _ rfl _ under_row rfl w.heap.size 0 rfl (u8A 25 f) (size_row _) (Rw.cells hR) ?_)
            | (go_at_call 13; refine (alive_any _ (T1.below hB)).mono ?_; rintro e wy ⟨rfl, hby⟩; replace hR := Rw.below hR hby hAs; replace hB := hB.trans (hby.mono hB.size))
            | (go_at_call 22; refine (lalive_any p l out f _ (hL.below hB)).mono ?_; rintro e wz ⟨he, hbz⟩; rw [HA.out] at he; subst he; replace hB := hB.trans (hbz.mono hB.size)))
          go_ret
          exact ⟨ret_bool (by simp), hb1.trans (hB.mono hb1.size)⟩
        · have h0 := hD0.out
          rw [HD.out, if_neg hxo] at h0
          obtain ⟨rfl, rfl⟩ := Prod.mk.inj h0
          have hyn : ¬ (y : Int) ≤ (n : Int) := by omega
          have hyd : decide ((y : Int) ≤ (n : Int)) = false := by simpa using hyn
          have hyd2 : decide (y ≤ n) = false := by simp; omega
          have hyd3 : decide ((n : Int) < (y : Int)) = true := by simp; omega
          have hyd4 : decide (n < y) = true := by simp; omega
          clear h0 hD0 HD hxy HY HX
          go_wp2_with (first
            | (refine wpList_loadN _ (by rfl) _ _ rfl _ under_row rfl w.heap.size 0 rfl (u8A 25 f) (size_row _) (Rw.cells hR) ?_)
            | (go_at_call 13; refine (alive_any _ (T1.below hB)).mono ?_; rintro e wy ⟨rfl, hby⟩; replace hR := Rw.below hR hby hAs; replace hB := hB.trans (hby.mono hB.size))
            | (go_at_call 22; refine (lalive_any p l out f _ (hL.below hB)).mono ?_; rintro e wz ⟨he, hbz⟩; rw [HA.out] at he; subst he; replace hB := hB.trans (hbz.mono hB.size)))
          go_ret
          exact ⟨ret_bool (by simp), hb1.trans (hB.mono hb1.size)⟩
end Go.Proofs.YtldohnolpojccaaDoor.V
