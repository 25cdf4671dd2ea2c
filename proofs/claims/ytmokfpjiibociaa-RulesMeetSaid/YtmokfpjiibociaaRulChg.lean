/-
  The walk of Same (of equal lists), and of the law of changes.
-/
import Derived.Test.YtmokfpjiibociaaRulRem
namespace Go.Proofs.Ytmokfpjiibociaa.R
open Go.RowKit
open Aid
set_option linter.unusedSimpArgs false
set_option linter.unusedVariables false

/-- a configuration's own block and what it reads as -/
def Has (w : World) (g : Nat) (v : Value) (l : List Int) : Prop := w.cell? ⟨g, 0, none⟩ = some v ∧ Ints w .i64 v l ∧ g < w.heap.size
theorem Has.keep {w w1 : World} {g : Nat} {v : Value} {l : List Int} (h : Has w g v l) (hb : Below w.heap.size w w1) : Has w1 g v l :=
  ⟨(hb.cell (p := ⟨g, 0, none⟩) h.2.2).trans h.1, h.2.1.below hb, by have := hb.size; have := h.2.2; omega⟩
theorem Has.step {w w1 : World} {g : Nat} {v : Value} {l : List Int} (h : Has w g v l) (hb : Below w.heap.size w w1) (X : Obj) : Has (w1.alloc X) g v l :=
  h.keep (hb.alloc hb.size X)
theorem Has.new {w : World} {v : Value} {l : List Int} (h : Ints w .i64 v l) (t : TypeId) : Has (w.alloc (.cells #[v] t)) w.heap.size v l :=
  ⟨cell_new _ _ _ _ rfl, h.below ((Below.refl _ _).alloc (Nat.le_refl _) _), by simp⟩
theorem below_step {w0 w w1 : World} {A : Nat} (h : Below A w0 w) (hA : A ≤ w.heap.size) (hb : Below w.heap.size w w1) (X : Obj) : Below A w0 (w1.alloc X) :=
  (h.trans (hb.mono hA)).alloc (by have := hb.size; omega) X

set_option maxRecDepth 100000 in
set_option maxHeartbeats 2000000 in
theorem same_any (v u : Value) (l : List Int) (w : World) (h : Ints w .i64 v l) (hu : Ints w .i64 u l) : Calls Try.prog 34 #[.agg #[v], .agg #[u]] w fun e w' => e = .returned (.bool true) ∧ Below w.heap.size w w' := by
  have HI := Lib.hid h
  have HU := Lib.hid hu
  have h63 := h.1
  clear h hu
  obtain ⟨a, c, rfl⟩ := Ints.form HI.out
  obtain ⟨a2, c2, rfl⟩ := Ints.form HU.out
  go_enter Try.func34, Try.ntmps34
  go_wp2_with fail
  obtain ⟨wa, hwa⟩ : ∃ wa, (w.alloc (.cells #[.slice a l.length c] 40)).alloc (.cells #[.slice a2 l.length c2] 40) = wa := ⟨_, rfl⟩
  obtain ⟨A, hA⟩ : ∃ A, w.heap.size = A := ⟨_, rfl⟩
  obtain ⟨B, hB⟩ : ∃ B, w.heap.size + 1 = B := ⟨_, rfl⟩
  have hb : Below A w wa := by rw [← hwa, ← hA]; exact two_below _ _ _
  have hsz : wa.heap.size = B + 1 := by rw [← hwa]; simp [← hB]
  have hAB : A < B := by omega
  have c0 : wa.cell? ⟨A, 0, none⟩ = some (.slice a l.length c) := by
    rw [← hwa]
    exact (((Below.refl (w.heap.size + 1) _).alloc (by simp) _).cell (p := ⟨A, 0, none⟩) (by show A < w.heap.size + 1; omega)).trans (cell_new _ _ _ _ hA.symm)
  have c1 : wa.cell? ⟨B, 0, none⟩ = some (.slice a2 l.length c2) := by rw [← hwa]; exact cell_new _ _ _ _ (by simp; omega)
  have HIa := Lib.hid (HI.out.below (by rw [hA]; exact hb))
  have HUa := Lib.hid (HU.out.below (by rw [hA]; exact hb))
  simp only [hwa]
  simp only [hB]
  simp only [hA]
  have HA := Lib.hid hA
  clear hwa hA hB
  go_loopw [5] (fun i wr => ∃ (k : Nat), i = .int .i64 k ∧ k ≤ l.length ∧ Below wa.heap.size wa wr) (fun i _ => l.length - (intOf i).toNat)
  case atStart => exact ⟨0, rfl, Nat.zero_le _, Below.refl _ _⟩
  case round =>
    obtain ⟨k, rfl, hk, hbr⟩ := hrel
    have r0 := (hbr.cell (p := ⟨A, 0, none⟩) (by show A < wa.heap.size; omega)).trans c0
    have r1 := (hbr.cell (p := ⟨B, 0, none⟩) (by show B < wa.heap.size; omega)).trans c1
    by_cases hlt : (k : Int) < (l.length : Int)
    · obtain ⟨y, hy⟩ : ∃ y, l.getD k 0 = y := ⟨_, rfl⟩
      obtain ⟨b1, o1, rfl, _, cy⟩ := Ints.at_ (HIa.out.below hbr) (k := k) (by omega) hy
      obtain ⟨b2, o2, rfl, _, cz⟩ := Ints.at_ (HUa.out.below hbr) (k := k) (by omega) hy
      have hyy : (y != y) = false := by simp
      clear hy
      go_wp2_with fail
      go_quiet (fail)
      go_wp2_with fail
      exact ⟨⟨k + 1, by go_num, by omega, below_drewN hbr _⟩, by simp [intOf]; omega⟩
    · go_wp2_with fail
      go_ret
      exact ⟨rfl, by rw [HA.out]; exact hb.trans (hbr.mono (by omega))⟩

set_option maxRecDepth 100000 in
set_option maxHeartbeats 4000000 in
theorem changes_law (v : Value) (l : List Int) (x : Int) (w : World) (h : Ints w .i64 v l) (hcap : CapOk v) : Calls Try.prog 12 #[.agg #[v], .int .i64 x] w (TrueIn w) := by
  obtain ⟨a, c, rfl⟩ := Ints.form h
  obtain ⟨r, n, hr⟩ : ∃ r n, addF l x = (r, n) := ⟨_, _, rfl⟩
  obtain ⟨q, m, hq⟩ : ∃ q m, remF l x = (q, m) := ⟨_, _, rfl⟩
  have HR := Lib.hid hr
  have HQ := Lib.hid hq
  clear hr hq
  go_enter Try.func12, Try.ntmps12
  go_wp2_with fail
  have H0 := Has.new h 40
  have hb0 : Below w.heap.size w (w.alloc (.cells #[.slice a l.length c] 40)) := (Below.refl _ _).alloc (Nat.le_refl _) _
  refine (add_any _ l x _ H0.2.1).mono ?_
  rintro e w1 ⟨v1, rfl, hI1, hb1, _⟩
  rw [HR.out] at hI1 ⊢
  obtain ⟨a1, c1, rfl⟩ := Ints.form hI1
  have H0' := H0.step hb1 (.cells #[.slice a1 r.length c1] 40)
  have H1 := Has.new hI1 40
  have hbw1 := below_step hb0 hb0.size hb1 (.cells #[.slice a1 r.length c1] 40)
  have k0 := H0'.1
  clear H0 hb0 hb1 hI1
  go_wp2_with fail
  refine (radd_any _ l x _ H0'.2.1).mono ?_
  rintro e w2 ⟨v2, rfl, hI2, hb2, _⟩
  rw [HR.out] at hI2 ⊢
  obtain ⟨a2, c2, rfl⟩ := Ints.form hI2
  have H0'' := H0'.step hb2 (.cells #[.slice a2 r.length c2] 40)
  have H1' := H1.step hb2 (.cells #[.slice a2 r.length c2] 40)
  have H2 := Has.new hI2 40
  have hbw2 := below_step hbw1 hbw1.size hb2 (.cells #[.slice a2 r.length c2] 40)
  clear k0 H0' H1 hbw1 hb2 hI2
  have k0 := H0''.1
  go_wp2_with fail
  refine (rem_any _ l x _ H0''.2.1 hcap).mono ?_
  rintro e w3 ⟨v3, rfl, hI3, hb3, _⟩
  rw [HQ.out] at hI3 ⊢
  obtain ⟨a3, c3, rfl⟩ := Ints.form hI3
  have I0 := H0''.step hb3 (.cells #[.slice a3 q.length c3] 40)
  have I1 := H1'.step hb3 (.cells #[.slice a3 q.length c3] 40)
  have I2 := H2.step hb3 (.cells #[.slice a3 q.length c3] 40)
  have I3 := Has.new hI3 40
  have hbw3 := below_step hbw2 hbw2.size hb3 (.cells #[.slice a3 q.length c3] 40)
  clear k0 H0'' H1' H2 hbw2 hb3 hI3
  have k0 := I0.1
  go_wp2_with fail
  refine (rrem_any _ l x _ I0.2.1).mono ?_
  rintro e w4 ⟨v4, rfl, hI4, hb4, _⟩
  rw [HQ.out] at hI4 ⊢
  obtain ⟨a4, c4, rfl⟩ := Ints.form hI4
  have J1 := I1.step hb4 (.cells #[.slice a4 q.length c4] 40)
  have J2 := I2.step hb4 (.cells #[.slice a4 q.length c4] 40)
  have J3 := I3.step hb4 (.cells #[.slice a4 q.length c4] 40)
  have J4 := Has.new hI4 40
  have hbw4 := below_step hbw3 hbw3.size hb4 (.cells #[.slice a4 q.length c4] 40)
  clear k0 I0 I1 I2 I3 hbw3 hb4 hI4
  go_wp2_with fail
  refine (alive_any _).mono ?_
  rintro e w5 ⟨rfl, hb5⟩
  have K1 := J1.keep hb5
  have K2 := J2.keep hb5
  have K3 := J3.keep hb5
  have K4 := J4.keep hb5
  have hbw5 := hbw4.trans (hb5.mono hbw4.size)
  have k1 := K1.1
  have k2 := K2.1
  have hnn : (n == n) = true := by simp
  have hmm : (m == m) = true := by simp
  clear J1 J2 J3 J4 hbw4 hb5
  go_wp2_with fail
  refine (same_any _ _ r _ K1.2.1 K2.2.1).mono ?_
  rintro e w6 ⟨rfl, hb6⟩
  have L3 := K3.keep hb6
  have L4 := K4.keep hb6
  have hbw6 := hbw5.trans (hb6.mono hbw5.size)
  have k3 := L3.1
  have k4 := L4.1
  clear k1 k2 K1 K2 K3 K4 hbw5 hb6
  go_wp2_with fail
  refine (same_any _ _ q _ L3.2.1 L4.2.1).mono ?_
  rintro e w7 ⟨rfl, hb7⟩
  have hbw7 := hbw6.trans (hb7.mono hbw6.size)
  go_wp2_with fail
  go_ret
  exact ⟨ret_bool (by simp), hbw7⟩
end Go.Proofs.Ytmokfpjiibociaa.R
