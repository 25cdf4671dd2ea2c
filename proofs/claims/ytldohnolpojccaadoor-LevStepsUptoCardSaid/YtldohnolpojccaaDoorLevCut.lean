/-
  What a Lev is in memory; the walk of its cut.
-/
import Derived.Test.YtldohnolpojccaaDoorAidC
import Derived.Test.YtldohnolpojccaaDoorEdRows
import Derived.Test.YtldohnolpojccaaDoorLevMath
namespace Go.Proofs.YtldohnolpojccaaDoor.V
open Go.RowKit
open LM EM Aid L E VM
set_option linter.unusedSimpArgs false
set_option linter.unusedVariables false

theorem info_rowz : (Tryd.prog.info? 32).map (fun i => (i.zero, i.size)) = some (some (.agg (u8A 25 fun _ => 0)), 25) := by kernel_rfl
theorem size_row : ∀ f, (Tryd.prog.info? 32).map (·.size) = some (u8A 25 f).size := fun f => by
  rw [u8A_size]
  have h := info_rowz
  cases hq : Tryd.prog.info? 32 with
  | none => rw [hq] at h; cases h
  | some i => rw [hq] at h; simp at h ⊢; exact h.2
theorem zero_row : ∃ i, Tryd.prog.info? 32 = some i ∧ i.zero = some (.agg (u8A 25 fun _ => 0)) := by
  have h := info_rowz
  cases hq : Tryd.prog.info? 32 with
  | none => rw [hq] at h; cases h
  | some i => rw [hq] at h; simp at h; exact ⟨i, rfl, h.1⟩
theorem under_row : Tryd.prog.underlying 32 = some (.array 25 5) := Tryd.underlying32

/-- a row in a block -/
def Rw (w : World) (g : Nat) (f : Nat → Nat) : Prop := Blk w g 32 (u8A 25 f)
theorem Rw.below {w w' : World} {B g : Nat} {f : Nat → Nat} (h : Rw w g f) (hb : Below B w w') (hg : g < B) : Rw w' g f := Blk.below h hb hg
theorem Rw.cell {w : World} {g : Nat} {f : Nat → Nat} (h : Rw w g f) {j x : Nat} (hj : j < 25) (hx : f j = x) : w.cell? ⟨g, j, none⟩ = some (.int .u8 (x : Int)) := by
  rw [Blk.cell h, u8A_get _ _ _ hj, hx]
theorem Rw.free {w : World} {g : Nat} {f : Nat → Nat} (h : Rw w g f) (j : Nat) : w.frozen? ⟨g, j, none⟩ = false := Blk.free h j
theorem Rw.set {w : World} {g : Nat} {f f' : Nat → Nat} (h : Rw w g f) (j x : Nat) (hf : ∀ i, i < 25 → f' i = if i = j then x else f i) : Rw (w.setCell ⟨g, j, none⟩ (.int .u8 (x : Int))) g f' := by
  have := Blk.set h j (.int .u8 (x : Int))
  rw [u8A_set] at this
  unfold Rw
  rw [u8A_ext hf]; exact this
theorem Rw.cells {w : World} {g : Nat} {f : Nat → Nat} (h : Rw w g f) : ∀ j (hj : j < (u8A 25 f).size), w.cell? ⟨g, 0 + j, none⟩ = some (u8A 25 f)[j] := Blk.cells h
theorem Rw.drewN {w : World} {g : Nat} {f : Nat → Nat} (h : Rw w g f) (n : Nat) : Rw (w.drewN n) g f := h
theorem Rw.same {w : World} {g : Nat} {f f' : Nat → Nat} (h : Rw w g f) (hf : ∀ i, i < 25 → f' i = f i) : Rw w g f' := by unfold Rw; rw [u8A_ext hf]; exact h

/-- the row of what is too far everywhere -/
def deadF (out n : Nat) : Nat → Nat := cutF out n (fun _ => out)
def levA (v : Value) (out : Nat) (f : Nat → Nat) : Array Value := #[v, .int .u8 (out : Int)] ++ u8A 25 f
theorem levA_0 (v : Value) (out : Nat) (f : Nat → Nat) : (levA v out f)[0]? = some v := by unfold levA; rw [Array.getElem?_append_left (by simp)]; rfl
theorem levA_1 (v : Value) (out : Nat) (f : Nat → Nat) : (levA v out f)[1]? = some (.int .u8 (out : Int)) := by unfold levA; rw [Array.getElem?_append_left (by simp)]; rfl
theorem levA_2 (v : Value) (out : Nat) (f : Nat → Nat) (j : Nat) (h : j < 25) : (levA v out f)[2 + j]? = some (.int .u8 (f j : Int)) := by
  unfold levA
  rw [Array.getElem?_append_right (by simp)]
  simp [u8A_get _ _ _ h]
theorem levA_set (v : Value) (out : Nat) (f f' : Nat → Nat) (j x : Nat) (hj : j < 25) (hf : ∀ i, i < 25 → f' i = if i = j then x else f i) : (levA v out f).setIfInBounds (2 + j) (.int .u8 (x : Int)) = levA v out f' := by
  unfold levA
  rw [Array.setIfInBounds_append_right (by simp), show 2 + j - (#[v, Value.int .u8 (out : Int)]).size = j by simp, u8A_set, u8A_ext hf]

/-- a Lev: its word's runes, what is too far -/
def IsLev (w : World) (p : Nat) (l : List Int) (out : Nat) : Prop :=
  ∃ v, Blk w p 50 (levA v out (deadF out l.length)) ∧ Ints w .i32 v l ∧ 1 ≤ l.length ∧ l.length ≤ 24 ∧ 1 ≤ out ∧ out ≤ 4
theorem IsLev.below {w w' : World} {p : Nat} {l : List Int} {out : Nat} (h : IsLev w p l out) (hb : Below w.heap.size w w') : IsLev w' p l out := by
  obtain ⟨v, h1, h2, h3⟩ := h
  exact ⟨v, h1.below hb h1.lt, h2.below hb, h3⟩
theorem IsLev.lt {w : World} {p : Nat} {l : List Int} {out : Nat} (h : IsLev w p l out) : p < w.heap.size := by obtain ⟨v, h1, _⟩ := h; exact h1.lt
theorem IsLev.bounds {w : World} {p : Nat} {l : List Int} {out : Nat} (h : IsLev w p l out) : 1 ≤ l.length ∧ l.length ≤ 24 ∧ 1 ≤ out ∧ out ≤ 4 := by obtain ⟨v, _, _, h3⟩ := h; exact h3
/-- what a walk reads of a Lev -/
theorem IsLev.reads {w : World} {p : Nat} {l : List Int} {out : Nat} (h : IsLev w p l out) : ∃ a c, Ints w .i32 (.slice a l.length c) l ∧ w.cell? ⟨p, 0, none⟩ = some (.slice a l.length c) ∧ w.cell? ⟨p, 1, none⟩ = some (.int .u8 (out : Int)) := by
  obtain ⟨v, h1, h2, _⟩ := h
  obtain ⟨a, c, rfl⟩ := Ints.form h2
  exact ⟨a, c, h2, by rw [h1.cell, levA_0], by rw [h1.cell, levA_1]⟩
theorem IsLev.dead {w : World} {p : Nat} {l : List Int} {out : Nat} (h : IsLev w p l out) : ∀ j (hj : j < (u8A 25 (deadF out l.length)).size), w.cell? ⟨p, 2 + j, none⟩ = some (u8A 25 (deadF out l.length))[j] := by
  obtain ⟨v, h1, h2, _⟩ := h
  intro j hj
  rw [u8A_size] at hj
  rw [h1.cell, levA_2 _ _ _ _ hj, u8A_at]

theorem far1 {w : World} {a b : Addr} {v : Value} (h : a ≠ b) : (w.setCell a v).drew.cell? b = w.cell? b := World.cell?_setCell_other _ _ _ _ h
theorem min2' (a b : Nat) : (if b < a then (b : Int) else (a : Int)) = ((min a b : Nat) : Int) := by split <;> omega
theorem min2 (a b : Nat) : (if (b : Int) < (a : Int) then (b : Int) else (a : Int)) = ((min a b : Nat) : Int) := by split <;> omega

set_option maxRecDepth 100000 in
set_option maxHeartbeats 1000000 in
theorem cut_any (p : Nat) (l : List Int) (out : Nat) (f : Nat → Nat) (w : World) (h : IsLev w p l out) :
    Calls Tryd.prog 27 #[.pointer (some ⟨p, 0, none⟩), .agg (u8A 25 f)] w fun e w' => e = .returned (.agg (u8A 25 (cutF out l.length f))) ∧ Below w.heap.size w w' := by
  obtain ⟨zi, hzi, hzz⟩ := zero_row
  have hp := h.lt
  obtain ⟨hl1, hl2, ho1, ho2⟩ := h.bounds
  go_enter Tryd.func27, Tryd.ntmps27
  go_wp2_with (first
    | (refine wpList_boxN _ (by rfl) _ _ rfl (u8A 25 f) rfl ?_; intro w1 hr1 hb1 hs1; replace h := h.below hb1)
    | (refine wpList_allocN _ (by rfl) _ rfl zi hzi _ hzz ?_; intro w3 hr3 hb3 hs3; replace h := h.below hb3; replace hr2 := hr2.below hb3 (by omega); replace hr1 := hr1.below hb3 (by omega); replace hb2 := hb2.trans (hb3.mono (by omega)); obtain ⟨a0, c0, HI, cr, co⟩ := h.reads)
    | (refine wpList_allocN _ (by rfl) _ rfl zi hzi _ hzz ?_; intro w2 hr2 hb2 hs2; replace h := h.below hb2; replace hr1 := hr1.below hb2 (by omega); replace hb2 := hb1.trans (hb2.mono (by omega))))
  obtain ⟨A, hA⟩ : ∃ A, w.heap.size + 1 + 1 = A := ⟨_, rfl⟩
  obtain ⟨A1, hA1⟩ : ∃ A1, w.heap.size + 1 = A1 := ⟨_, rfl⟩
  obtain ⟨A0, hA0⟩ : ∃ A0, w.heap.size = A0 := ⟨_, rfl⟩
  rw [hs2, hs1, hA] at hr3
  rw [hs1, hA1] at hr2
  rw [hA0] at hr1
  have hs4 : w3.heap.size = A + 1 := by omega
  have h5 : A1 < A := by omega
  have h6 : A0 < A1 := by omega
  have h7 : p < A0 := by omega
  simp only [hA]
  simp only [hA1]
  simp only [hA0]
  rw [hA0] at hb2
  clear hs1 hs2 hs3 hb3 hb1 hA hA1 hp
  go_loopw [6, 13] (fun _ x wr => ∃ j : Nat, x = .int .i64 j ∧ j ≤ l.length + 1 ∧ Rw wr A (fun i => if i < j then cutF out l.length f i else 0) ∧ Below A w3 wr)
    (fun _ x _ => l.length + 1 - (intOf x).toNat)
  case atStart => exact ⟨0, rfl, Nat.zero_le _, by simpa [Rw] using hr3, Below.refl _ _⟩
  case round =>
    obtain ⟨j, rfl, hj, hR, hb⟩ := hrel
    have co' := (hb.cell (p := ⟨p, 1, none⟩) (by simp; omega)).trans co
    by_cases hlast : (j : Int) < (l.length : Int) + 1
    · obtain ⟨x, hx⟩ : ∃ x, f j = x := ⟨_, rfl⟩
      have cx := (hb.cell (p := ⟨A0, j, none⟩) (by simp; omega)).trans (Rw.cell hr1 (j := j) (by omega) hx)
      have hfr : wr.frozen? ⟨A, j, none⟩ = false := hR.free j
      have hold := hR.cell (j := j) (x := 0) (by omega) (by simp)
      obtain ⟨m, hm⟩ : ∃ m, min x out = m := ⟨_, rfl⟩
      have hM : (if (out : Int) < (x : Int) then (out : Int) else (x : Int)) = (m : Int) := by rw [min2, hm]
      have hM2 : (if out < x then (out : Int) else (x : Int)) = (m : Int) := by rw [min2', hm]
      have hj25 : (j : Int) < 25 := by omega
      go_wp2_with fail
      have t1 : (wr.setCell ⟨A,j,none⟩ (.int .u8 m)).drew.cell? ⟨A0,j,none⟩ = some (.int .u8 (x : Int)) := (far1 (by intro e; injection e; omega)).trans cx
      have t2 : (wr.setCell ⟨A,j,none⟩ (.int .u8 m)).drew.cell? ⟨p,1,none⟩ = some (.int .u8 (out : Int)) := (far1 (by intro e; injection e; omega)).trans co'
      go_region_held3 (fun w' => w'.cell? ⟨A0, j, none⟩ = some (.int .u8 (x : Int)) ∧ w'.cell? ⟨p, 1, none⟩ = some (.int .u8 (out : Int))) (first | go_keep | (exact ⟨(far1 (by intro e; injection e; omega)).trans cx, (far1 (by intro e; injection e; omega)).trans co'⟩)) (fail)
      go_wp2_with fail
      exact ⟨⟨j + 1, by go_num, by omega, hR.set j m (by
        intro i hi
        by_cases e : i = j
        · subst e; simp only [Nat.lt_succ_self, if_true]; unfold cutF; rw [if_pos (by omega), hx, hm]
        · rw [if_neg e]; by_cases h' : i < j
          · rw [if_pos h', if_pos (by omega)]
          · rw [if_neg h', if_neg (by omega)]), (hb.setCell (by simp) _).drew⟩, by simp [intOf]; omega⟩
    · have hje : j = l.length + 1 := by omega
      subst hje
      have hR2 := Rw.same (f' := cutF out l.length f) hR (by intro i hi; unfold cutF; (repeat' split) <;> omega)
      go_wp2_with (first
        | (refine wpList_loadN _ (by rfl) _ _ rfl _ under_row rfl A 0 rfl (u8A 25 (cutF out l.length f)) (size_row _) (Rw.cells hR2) ?_)
        | (refine wpList_storeN _ (by rfl) _ _ _ rfl rfl A1 rfl _ _ _ (hr2.below hb h5) rfl (size_row _) (by rw [u8A_size, u8A_size]) (u8A_all _ _) ?_; intro w4 hr4 hb4 hs5 _))
      refine bodyPost_ret (results_cellN rfl _ _ A1 rfl _ _ hr4 _ under_row rfl (size_row _)) rfl ?_
      exact ⟨rfl, (hb2.trans (hb.mono (by omega))).trans (hb4.mono (by omega))⟩
end Go.Proofs.YtldohnolpojccaaDoor.V
