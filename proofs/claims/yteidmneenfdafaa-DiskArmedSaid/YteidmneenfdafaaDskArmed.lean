/-
  DiskArmed: up to the step at which it dies an armed disk does what one does that is not.
-/
import Derived.Test.YteidmneenfdafaaDskOpen
import Derived.Test.YteidmneenfdafaaDskAlive
import Derived.Test.YteidmneenfdafaaDskFull
namespace Go.Proofs.Yteidmneenfdafaa.K
open Go.RowKit
open Aid
set_option linter.unusedSimpArgs false
set_option linter.unusedVariables false

theorem ints_slice {w : World} {k : IntKind} {v : Value} {l : List Int} (h : Ints w k v l) : ∃ a c, v = .slice a l.length c := by
  obtain ⟨_, ⟨rfl, rfl | ⟨a, c, rfl⟩⟩ | ⟨b, o, c, rfl, _⟩⟩ := h
  · exact ⟨_, _, rfl⟩
  · exact ⟨_, _, rfl⟩
  · exact ⟨_, _, rfl⟩
/-- how many steps an armed disk has left -/
def LeftIs (st : DSt) (at_ : Int) : Prop := (at_ < 0 ∧ st.left = -1) ∨ (0 ≤ at_ ∧ st.left = at_ - st.steps ∧ 0 ≤ st.left)
theorem left_goes {st st' : DSt} {at_ : Int} (h : LeftIs st at_) (hg : Goes st st') : LeftIs st' at_ := by
  unfold LeftIs at *
  rcases hg with ⟨h1, h2⟩ | ⟨h1, h2, h3⟩
  · rw [h1, h2]; exact h
  · rw [h1, h3]
    split <;> omega
theorem op_cells {w : World} {T : Nat} {x : OpR} (h : Blk w T 30 #[.int .i64 x.k, .int .u64 x.a, .int .i64 x.n, x.v]) : w.cell? ⟨T, 0, none⟩ = some (.int .i64 x.k) ∧ w.cell? ⟨T, 1, none⟩ = some (.int .u64 x.a) ∧ w.cell? ⟨T, 2, none⟩ = some (.int .i64 x.n) ∧ w.cell? ⟨T, 3, none⟩ = some x.v :=
  ⟨by rw [Blk.cell h]; rfl, by rw [Blk.cell h]; rfl, by rw [Blk.cell h]; rfl, by rw [Blk.cell h]; rfl⟩
theorem fit_unarm {st : DSt} {R : Int} {i : Nat} (h : FitS st R i) : FitS (unarm st) R i := ⟨h.steps, by show (-1 : Int) ≤ _; decide, h.N, h.C, h.V, h.room, h.sum⟩
/-- what the loop keeps -/
structure ArmedIn (W0 : World) (p1 p2 : Nat) (at_ : Int) (i : Nat) (st : DSt) (O1 O2 : Nat → Prop) (w : World) : Prop where
  d1 : DiskIs O1 w p1 st
  d2 : DiskIs O2 w p2 (unarm st)
  o1 : ∀ k, O1 k → W0.heap.size ≤ k ∧ k < w.heap.size
  o2 : ∀ k, O2 k → W0.heap.size ≤ k ∧ k < w.heap.size
  apart : ∀ k, O1 k → ¬ O2 k
  fit : FitS st 1073741824 i
  alive : st.dead = false
  left : LeftIs st at_
  below : Below W0.heap.size W0 w

set_option maxRecDepth 100000 in
set_option maxHeartbeats 4000000 in
theorem armed_law (v : Value) (n : Nat) (f : Nat → OpR) (at_ : Int) (w : World) (h : OpsAre w v n f) (hat : (Lit.int .i64 at_).wf = true) :
    Calls Try.prog 3 #[v, .int .i64 at_] w (TrueIn w) := by
  have hn := h.1
  obtain ⟨a0, cap0, hv0, hel0⟩ := h.2
  subst hv0
  have hat2 : -9223372036854775808 ≤ at_ ∧ at_ ≤ 9223372036854775807 := by
    have := hat
    simp [Lit.wf, IntKind.min, IntKind.max, IntKind.signed, IntKind.bits] at this
    omega
  have hlen : IntKind.i64.wrap (n : Int) = (n : Int) := IntWalk.i64_in _ (by omega)
  go_enter Try.func3, Try.ntmps3
  go_wp2_with fail
  refine (new_fine 1073741824 w).mono ?_
  rintro e w1 ⟨p1, O1, rfl, D1, hO1, hB1⟩
  go_wp2_with fail
  refine (new_fine 1073741824 w1).mono ?_
  rintro e w2 ⟨p2, O2, rfl, D2, hO2, hB2⟩
  go_wp2_with fail
  refine (alive_any w2).mono ?_
  rintro e w3 ⟨rfl, hB3⟩
  have hs1 := hB1.size
  have hs2 := hB2.size
  have hs3 := hB3.size
  have D1' := (D1.below hB2).below hB3
  have D2' := D2.below hB3
  go_wp2_with fail
  refine (arm_any O1 p1 _ at_ w3 D1').mono ?_
  rintro e w4 ⟨rfl, D14, K4⟩
  have hs4 := K4.size
  have hap : ∀ k, O1 k → ¬ O2 k := fun k h1 h2 => by have := hO1 k h1; have := hO2 k h2; omega
  have D24 := D2'.keep K4 (fun k h2 h1 => hap k h1 h2)
  have hB4 := K4.below ((hB1.trans (hB2.mono hs1)).trans (hB3.mono (by omega))) (by omega) (fun k hk => (hO1 k hk).1)
  have hA4 : ArmedIn w p1 p2 at_ 0 (armF (newSt 1073741824) at_) O1 O2 w4 := by
    refine ⟨D14, D24, fun k hk => ⟨(hO1 k hk).1, by have := (hO1 k hk).2; omega⟩, fun k hk => ⟨by have := (hO2 k hk).1; omega, by have := (hO2 k hk).2; omega⟩, hap, ?_, rfl, ?_, hB4⟩
    · have h0 := fit_new (room := 1073741824) (by decide)
      exact ⟨h0.steps, by show max at_ (-1) ≤ _; omega, h0.N, h0.C, h0.V, h0.room, h0.sum⟩
    · show (at_ < 0 ∧ max at_ (-1) = -1) ∨ (0 ≤ at_ ∧ max at_ (-1) = at_ - 0 ∧ 0 ≤ max at_ (-1))
      omega
  clear D1 D2 D1' D2' D14 D24 hap hO1 hO2 K4 hB1 hB2 hB3 hB4
  go_wp2_with fail
  go_loopw [27] (fun x27 wr => ∃ (i : Nat) (st : DSt) (O1 O2 : Nat → Prop), x27 = .int .i64 i ∧ i ≤ n ∧ ArmedIn w p1 p2 at_ i st O1 O2 wr) (fun x27 _ => (n - intOf x27).toNat)
  case atStart => exact ⟨0, _, O1, O2, rfl, by omega, hA4⟩
  case round =>
    obtain ⟨i, st, O1, O2, rfl, hi, hA⟩ := hrel
    by_cases hlt : (i : Int) < (n : Int)
    · have hiN : i < n := by omega
      obtain ⟨b, o, rfl, hb, hc0, hc1, hc2, hc3, hok⟩ := hel0 i hiN
      have hsr := hA.below.size
      have hc0' : wr.cell? ⟨b, o + i * 4, none⟩ = some (.int .i64 (f i).k) := (hA.below.cell (p := ⟨b, o + i * 4, none⟩) hb).trans hc0
      have hc1' : wr.cell? ⟨b, o + i * 4 + 1, none⟩ = some (.int .u64 (f i).a) := (hA.below.cell (p := ⟨b, o + i * 4 + 1, none⟩) hb).trans hc1
      have hc2' : wr.cell? ⟨b, o + i * 4 + 2, none⟩ = some (.int .i64 (f i).n) := (hA.below.cell (p := ⟨b, o + i * 4 + 2, none⟩) hb).trans hc2
      have hc3' : wr.cell? ⟨b, o + i * 4 + 3, none⟩ = some (f i).v := (hA.below.cell (p := ⟨b, o + i * 4 + 3, none⟩) hb).trans hc3
      have hok' : OpOk wr (f i) := hok.below hA.below
      obtain ⟨x, hx⟩ : ∃ x, f i = x := ⟨_, rfl⟩
      rw [hx] at hc0' hc1' hc2' hc3' hok' hok
      obtain ⟨k, a, m, v, l⟩ := x
      simp only at hc0' hc1' hc2' hc3'
      obtain ⟨va, vc, hve⟩ := ints_slice hok'.ints
      simp only at hve
      obtain ⟨vl, hvl⟩ : ∃ vl, l.length = vl := ⟨_, rfl⟩
      rw [hvl] at hve
      subst hve
      clear hc0 hc1 hc2 hc3
      obtain ⟨Z, hZ⟩ : ∃ Z, wr.heap.size = Z := ⟨_, rfl⟩
      obtain ⟨W1, hW1⟩ : ∃ W1, wr.alloc (.cells #[.int .i64 k, .int .u64 a, .int .i64 m, .slice va vl vc] 30) = W1 := ⟨_, rfl⟩
      have hb1 : Below wr.heap.size wr W1 := by rw [← hW1]; exact (Below.refl _ _).alloc (Nat.le_refl _) _
      have hBk : Blk W1 Z 30 #[.int .i64 k, .int .u64 a, .int .i64 m, .slice va vl vc] := by rw [← hW1, ← hZ]; exact Blk.alloc_new _ _ _
      have hz0 : W1.cell? ⟨Z, 0, none⟩ = some (.int .i64 k) := by rw [Blk.cell hBk]; rfl
      have hz1 : W1.cell? ⟨Z, 1, none⟩ = some (.int .u64 a) := by rw [Blk.cell hBk]; rfl
      have hz2 : W1.cell? ⟨Z, 2, none⟩ = some (.int .i64 m) := by rw [Blk.cell hBk]; rfl
      have hz3 : W1.cell? ⟨Z, 3, none⟩ = some (.slice va vl vc) := by rw [Blk.cell hBk]; rfl
      have hsz1 : Z < W1.heap.size := Blk.lt hBk
      have hb1s := hb1.size
      have hB1 := hA.below.trans (hb1.mono hsr)
      have hinext : IntKind.i64.wrap ((i : Int) + 1) = ((i + 1 : Nat) : Int) := IntWalk.i64_in _ (by omega)
      have hnext : ∀ (st' : DSt) (O1' O2' : Nat → Prop) (w' : World), ArmedIn w p1 p2 at_ (i + 1) st' O1' O2' w' → (∃ i_1 st O1 O2, Value.int IntKind.i64 ((i : Int) + 1) = .int .i64 (i_1 : Nat) ∧ i_1 ≤ n ∧ ArmedIn w p1 p2 at_ i_1 st O1 O2 w') ∧ ((n : Int) - intOf (.int .i64 ((i : Int) + 1))).toNat < ((n : Int) - intOf (.int .i64 (i : Int))).toNat := by
        intro st' O1' O2' w' hA'
        refine ⟨⟨i + 1, st', O1', O2', by congr 1, by omega, hA'⟩, ?_⟩
        simp [intOf]; omega
      have hA1 : ArmedIn w p1 p2 at_ i st O1 O2 W1 :=
        ⟨hA.d1.below hb1, hA.d2.below hb1, fun k hk => by have := hA.o1 k hk; omega, fun k hk => by have := hA.o2 k hk; omega, hA.apart, hA.fit, hA.alive, hA.left, hB1⟩
      have hZ1 : ¬ O1 Z := fun hh => by have := (hA.o1 Z hh).2; omega
      have hZ2 : ¬ O2 Z := fun hh => by have := (hA.o2 Z hh).2; omega
      have hok1 : OpOk W1 ⟨k, a, m, .slice va vl vc, l⟩ := hok'.below hb1
      have hvlt : ∀ b o n c, Value.slice va vl vc = .slice (some ⟨b, o, none⟩) n c → n ≠ 0 → b < w.heap.size := fun b' o' n' c' e hn0 => by
        rcases hok.lt b' o' n' c' e with hh | hh
        · exact hh
        · exact absurd hh hn0
      by_cases k3 : k = 3
      · subst k3
        go_wp2_with fail
        exact hnext st O1 O2 W1 ⟨hA1.d1, hA1.d2, hA1.o1, hA1.o2, hA1.apart, fit_mono hA1.fit (by omega), hA1.alive, hA1.left, hA1.below⟩
      have hk3 : (k == 3) = false := by rw [beq_eq_false_iff_ne]; exact k3
      go_wp2_with fail
      refine (does_any O1 p1 st 1073741824 i k a m _ l W1 hA1.d1 (fun k hk => (hA1.o1 k hk).2) hA1.fit (by omega) (by omega) hok1.ints (fun b' o' n' c' e hn0 hO => by have := hvlt b' o' n' c' e hn0; have := (hA1.o1 b' hO).1; omega) hok1.bytes hok1.wk hok1.wa hok1.wn).mono ?_
      rintro e w5 ⟨rfl, K5, O1', D5, hO5⟩
      have hs5 := K5.size
      have hZ5 : Z < w5.heap.size := by omega
      have hkeep : ∀ j : Nat, w5.cell? ⟨Z, j, none⟩ = W1.cell? ⟨Z, j, none⟩ := fun j => K5.cell (p := ⟨Z, j, none⟩) hsz1 hZ1
      have y0 := (hkeep 0).trans hz0
      have y1 := (hkeep 1).trans hz1
      have y2 := (hkeep 2).trans hz2
      have y3 := (hkeep 3).trans hz3
      have hB5 := K5.below hB1 (by omega) (fun k hk => (hA1.o1 k hk).1)
      have D25 := hA1.d2.keep K5 (fun k h2 h1 => hA1.apart k h1 h2)
      obtain ⟨r, hr⟩ : ∃ r, doE st k a m l = r := ⟨_, rfl⟩
      obtain ⟨st', hst'⟩ : ∃ st', doS st k a m l = st' := ⟨_, rfl⟩
      rw [hst'] at D5
      rw [hr]
      go_wp2_with fail
      refine (dead_any O1' p1 st' w5 D5).mono ?_
      rintro e w5 ⟨rfl, rfl⟩
      cases hdd : st'.dead with
      | true =>
        have hdies := do_dies (l := l) (a := a) (n := m) hA.alive k3 (by rw [hst']; exact hdd)
        rw [hst', hr] at hdies
        obtain ⟨d1, d2, d3⟩ := hdies
        have hl := hA.left
        unfold LeftIs at hl
        have hat0 : 0 ≤ at_ := by omega
        have hsteps : st'.steps = at_ + 1 := by omega
        have hst2 := hA.fit.steps
        have hwat : IntKind.i64.wrap (at_ + 1) = at_ + 1 := IntWalk.i64_in _ (by omega)
        have HW := Lib.hid hwat
        clear hwat
        subst d1
        go_wp2_with fail
        refine (steps_any O1' p1 st' w5 D5).mono ?_
        rintro e w5 ⟨rfl, rfl⟩
        rw [hsteps]
        have hwat := HW.out
        go_wp2_with fail
        go_ret
        exact ⟨ret_bool (by simp), hB5⟩
      | false =>
        have hal := do_alive (l := l) (a := a) (n := m) hA.alive k3 (by rw [hst']; exact hdd)
        rw [hst', hr] at hal
        obtain ⟨d1, d2, d3⟩ := hal
        have hok5 : OpOk w5 ⟨k, a, m, .slice va vl vc, l⟩ := hok.below hB5
        go_wp2_with fail
        refine (does_any O2 p2 (unarm st) 1073741824 i k a m _ l w5 D25 (fun k hk => by have := (hA1.o2 k hk).2; omega) (fit_unarm hA1.fit) (by omega) (by omega) hok5.ints (fun b' o' n' c' e hn0 hO => by have := hvlt b' o' n' c' e hn0; have := (hA1.o2 b' hO).1; omega) hok5.bytes hok5.wk hok5.wa hok5.wn).mono ?_
        rintro e w6 ⟨rfl, K6, O2', D6, hO6⟩
        rw [d1] at D6
        rw [d2]
        have hs6 := K6.size
        have hap : ∀ k, O1' k → ¬ O2 k := fun k h1 h2 => by
          rcases hO5 k h1 with h1 | h1
          · exact hA1.apart k h1 h2
          · have := (hA1.o2 k h2).2; omega
        have hlt5 : ∀ k, O1' k → w.heap.size ≤ k ∧ k < w5.heap.size := fun k h1 => by
          rcases hO5 k h1 with h1 | h1
          · have := hA1.o1 k h1; omega
          · omega
        have D16 := D5.keep K6 hap
        have hB6 := K6.below hB5 (by omega) (fun k hk => (hA1.o2 k hk).1)
        have hap6 : ∀ k, O1' k → ¬ O2' k := fun k h1 h2 => by
          rcases hO6 k h2 with h2 | h2
          · exact hap k h1 h2
          · have := (hlt5 k h1).2; omega
        have hfit : FitS st' 1073741824 (i + 1) := by rw [← hst']; exact fit_do hA.fit hok1.wn
        have hun : (unarm st').steps = st'.steps := rfl
        go_wp2_with fail
        refine (steps_any O1' p1 st' w6 D16).mono ?_
        rintro e w6 ⟨rfl, rfl⟩
        go_wp2_with fail
        refine (steps_any O2' p2 _ w6 D6).mono ?_
        rintro e w6 ⟨rfl, rfl⟩
        rw [hun]
        go_wp2_with fail
        exact hnext st' O1' O2' w6 ⟨D16, D6, fun k h1 => by have := hlt5 k h1; omega, fun k h2 => by
          rcases hO6 k h2 with h2 | h2
          · have := hA1.o2 k h2; omega
          · omega, hap6, hfit, hdd, left_goes hA.left d3, hB6⟩
    · have hin : i = n := by omega
      subst hin
      have hst := hA.fit.steps
      rcases hA.left with ⟨hl1, hl2⟩ | ⟨hl1, hl2, hl3⟩
      · go_wp2_with fail
        go_ret
        exact ⟨rfl, hA.below⟩
      · have hle : st.steps ≤ at_ := by omega
        go_wp2_with fail
        refine (steps_any O1 p1 st wr hA.d1).mono ?_
        rintro e wr ⟨rfl, rfl⟩
        go_wp2_with fail
        go_ret
        exact ⟨rfl, hA.below⟩
end Go.Proofs.Yteidmneenfdafaa.K
