/-
  The walk of the law LevDead: it answers true.
-/
import Derived.Test.YtldohnolpojccaaDoorLevLawsF
namespace Go.Proofs.YtldohnolpojccaaDoor.V
open Go.RowKit
open LM EM Aid L E VM
set_option linter.unusedSimpArgs false
set_option linter.unusedVariables false

/-- nothing is near -/
def Dead (out n : Nat) (g : Nat → Nat) : Prop := ∀ j, j ≤ n → out ≤ g j
theorem dead_some {out n : Nat} {g : Nat → Nat} : someB g out (n + 1) = false ↔ Dead out n g := by
  rw [← Bool.not_eq_true]
  simp only [someB, List.any_eq_true, List.mem_range, decide_eq_true_eq, Dead]
  constructor
  · intro h j hj
    apply Classical.byContradiction
    intro hlt
    exact h ⟨j, by omega, by omega⟩
  · rintro h ⟨j, hj, hlt⟩
    have := h j (by omega)
    omega
theorem dead_step {out : Nat} {l : List Int} {g : Nat → Nat} {r : Int} (h : Dead out l.length g) : Dead out l.length (stepF out l (cutF out l.length g) r) := by
  apply step_dead
  intro j hj
  have := h j hj
  unfold cutF
  rw [if_pos hj]; omega
theorem dead_dist {out n : Nat} {g : Nat → Nat} (h : Dead out n g) : distF out n g = (0, false) := by
  have := h n (Nat.le_refl _)
  unfold distF
  rw [if_neg (by omega)]
/-- an automaton's row as it is asked -/
theorem eq_dead {out n : Nat} {g : Nat → Nat} (hn : n ≤ 24) : (!eqR (cutF out n g) (deadF out n)) = someB g out (n + 1) := someB_alive hn

set_option maxRecDepth 100000 in
set_option maxHeartbeats 4000000 in
theorem dead_law (s : ByteArray) (edits : Int) (v : Value) (N : Nat) (f : Nat → Nat → Nat) (r : Nat → Int) (w : World) (hs : s.size ≤ 35184372088832) (hv : Stps w v N f r) (T : Tab w) :
    Calls Tryd.prog 9 #[.string s, .int .i64 edits, v] w (TrueIn w) := by
  obtain ⟨zi, hzi, hzz⟩ := zero_step
  obtain ⟨yi, hyi, hyy⟩ := zero_row
  have HV := Lib.hid hv
  have hN63 := hv.1
  clear hv
  obtain ⟨av, cv, rfl⟩ := HV.out.form
  go_enter Tryd.func9, Tryd.ntmps9
  go_wp2_with fail
  refine (made_any s edits w hs T).mono ?_
  rintro e w1 ⟨hb1, ⟨hr, v, rfl⟩ | ⟨l, n, out, p, a, c, hr, hl, rfl, hn, ho, rfl, hL, hI, hc⟩⟩
  · have HR := Lib.hid hr
    clear hr
    have T1 := T.below hb1
    go_wp2_with fail
    refine (alive_any w1 T1).mono ?_
    rintro e w2 ⟨rfl, hb2⟩
    have hbb := hb1.trans (hb2.mono hb1.size)
    clear hb1 hb2
    go_wp2_with fail
    refine (right_any s edits w2 (by omega)).mono ?_
    rintro e w3 ⟨rfl, hb3⟩
    rw [HR.out]
    go_wp2_with fail
    go_ret
    exact ⟨rfl, hbb.trans (hb3.mono hbb.size)⟩
  · have hlb := hL.bounds
    clear hr hl hI
    have T1 := T.below hb1
    by_cases hN0 : N = 0
    · have hN0' : ((N : Int) == 0) = true := by rw [beq_iff_eq]; omega
      go_wp2_with fail
      refine (alive_any w1 T1).mono ?_
      rintro e w2 ⟨rfl, hb2⟩
      go_wp2_with fail
      go_ret
      exact ⟨rfl, hb1.trans (hb2.mono hb1.size)⟩
    · have hN0' : ((N : Int) == 0) = false := by rw [beq_eq_false_iff_ne]; omega
      have hN1 : (0 : Int) < (N : Int) := by omega
      obtain ⟨bb, oo, rfl, hbb, hcells⟩ := (HV.out.below hb1).at_ (k := 0) (by omega)
      have hfirst : ∀ j (hj : j < (u8A 25 (f 0)).size), w1.cell? ⟨bb, oo + j, none⟩ = some (u8A 25 (f 0))[j] := by
        intro j hj
        have hj25 : j < 25 := by simpa [u8A_size] using hj
        have h1 := hcells j (by rw [stepA_size]; omega)
        have h2 := stepA_row (f 0) (r 0) j hj25
        rw [Array.getElem?_eq_getElem (by rw [stepA_size]; omega)] at h2
        rw [Nat.zero_mul, Nat.add_zero] at h1
        rw [h1, h2, u8A_at]
      clear hcells hN0
      go_wp2_with (first
        | (refine wpList_loadN _ (by rfl) _ _ rfl _ under_row rfl bb oo rfl (u8A 25 (f 0)) (size_row _) hfirst ?_)
        | (refine wpList_allocN _ (by rfl) _ rfl yi hyi _ hyy ?_; intro w2 hA hb2 hs2)
        | (refine wpList_storeN _ (by rfl) _ _ _ rfl rfl w1.heap.size rfl _ _ _ hA rfl (size_row _) (by rw [u8A_size, u8A_size]) (u8A_all _ _) ?_; intro w3 hr3 hb3 hs3 _; have hB3 : Below w1.heap.size w1 w3 := hb2.trans hb3)
        | (refine wpList_loadN _ (by rfl) _ _ rfl _ under_row rfl w1.heap.size 0 rfl (u8A 25 (f 0)) (size_row _) (Rw.cells hr3) ?_)
        | (go_at_call 22; refine (lalive_any p l out (f 0) _ (hL.below hB3)).mono ?_; rintro e w4 ⟨he, hb4⟩; rw [eq_dead (by omega)] at he; subst he))
      obtain ⟨A, hA'⟩ : ∃ A, w1.heap.size = A := ⟨_, rfl⟩
      have hr4 : Rw w4 A (f 0) := by have := hr3.below hb4 (by omega); rw [hA'] at this; exact this
      have hB4 : Below A w1 w4 := by rw [← hA']; exact hB3.trans (hb4.mono hB3.size)
      have hA4 : A < w4.heap.size := by have := hb4.size; omega
      obtain ⟨q0, hq0⟩ : ∃ q, someB (f 0) out (l.length + 1) = q := ⟨_, rfl⟩
      have HQ0 : Hid (q0 = false → Dead out l.length (f 0)) := fun h => dead_some.1 (hq0.trans h)
      simp only [hA', hq0]
      clear hq0 hA hb2 hs2 hr3 hb3 hs3 hB3 hb4 hfirst
      go_loopw [11, 50] (fun d x wr => ∃ (k : Nat) (q : Bool) (g : Nat → Nat), d = .bool (!q) ∧ x = .int .i64 k ∧ k ≤ N ∧ Hid (q = false → Dead out l.length g) ∧ Rw wr A g ∧ Below A w1 wr ∧ A < wr.heap.size)
        (fun _ x _ => N - (intOf x).toNat)
      case atStart => exact ⟨0, q0, f 0, rfl, rfl, Nat.zero_le _, HQ0, hr4, hB4, hA4⟩
      case round =>
        clear HQ0 hr4 hB4 hA4
        obtain ⟨k, q, g, rfl, rfl, hk, HQ, hR, hB, hAs⟩ := hrel
        have hB1 : Below w1.heap.size w1 wr := by rw [hA']; exact hB
        by_cases hlast : (k : Int) < (N : Int)
        · obtain ⟨b2, o2, he2, hbb, hcells⟩ := (HV.out.below (hb1.trans (hB1.mono hb1.size))).at_ (k := k) (by omega)
          simp only [Option.some.injEq, Addr.mk.injEq, and_true] at he2
          obtain ⟨rfl, rfl⟩ := he2
          obtain ⟨rk, hrk⟩ : ∃ g, r k = g := ⟨_, rfl⟩
          obtain ⟨fk, hfk⟩ : ∃ g, f k = g := ⟨_, rfl⟩
          rw [hfk, hrk] at hcells
          obtain ⟨g2, hg2⟩ : ∃ g2, stepF out l (cutF out l.length g) rk = g2 := ⟨_, rfl⟩
          have HG := Lib.hid hg2
          obtain ⟨q2, hq2⟩ : ∃ q, someB g2 out (l.length + 1) = q := ⟨_, rfl⟩
          have HQ2 := Lib.hid hq2
          obtain ⟨d2, m2, hdm⟩ : ∃ d m, distF out l.length g2 = (d, m) := ⟨_, _, rfl⟩
          have HD := Lib.hid hdm
          have HND : Hid (q2 = false → Dead out l.length g2) := fun h => dead_some.1 (hq2.trans h)
          clear hfk hrk hg2 hq2 hdm
          cases q
          · have hdd : Dead out l.length g2 := by rw [← HG.out]; exact dead_step (HQ.out rfl)
            have hq2f : q2 = false := by rw [← HQ2.out]; exact dead_some.2 hdd
            have hm2 := dead_dist hdd
            rw [HD.out] at hm2
            obtain ⟨rfl, rfl⟩ := Prod.mk.inj hm2
            subst hq2f
            have HDD := Lib.hid hdd
            clear hdd hm2
            go_wp2_with (first
              | (refine wpList_loadN _ (by rfl) _ _ rfl _ Tryd.underlying37 rfl bb (oo + k * 26) rfl (stepA fk rk) (size_step _ _) hcells ?_)
              | (refine wpList_allocN _ (by rfl) _ rfl zi hzi _ hzz ?_; intro w2 hZ hb2 hs2)
              | (refine wpList_storeN _ (by rfl) _ _ _ rfl rfl wr.heap.size rfl _ _ _ hZ rfl (size_step _ _) (by rw [stepA_size, stepA_size]) (stepA_all _ _) ?_; intro w3 hr3 hb3 hs3 hk3; have hbW : Below wr.heap.size wr w3 := hb2.trans hb3; replace hR := Rw.below hR hbW hAs; replace hB := hB.trans (hbW.mono (by omega)); replace hB1 := hB1.trans (hbW.mono hB1.size); have cr := (step_range hr3).2; replace hAs : A < w3.heap.size := by omega)
              | (refine wpList_loadN _ (by rfl) _ _ rfl _ under_row rfl A 0 rfl (u8A 25 _) (size_row _) (Rw.cells hR) ?_)
              | (go_at_call 17; refine (step_any p l out g rk _ (hL.below hB1)).mono ?_; rintro e w4 ⟨he, hb4⟩; rw [HG.out] at he; subst he; replace hR := Rw.below hR hb4 hAs; replace hB := hB.trans (hb4.mono (by omega)); replace hB1 := hB1.trans (hb4.mono hB1.size); replace hAs := Nat.lt_of_lt_of_le hAs hb4.size)
              | (refine wpList_storeN _ (by rfl) _ _ _ rfl rfl A rfl _ _ _ hR rfl (size_row _) (by rw [u8A_size, u8A_size]) (u8A_all _ _) ?_; intro w5 hR hb5 hs5 _; replace hB := hB.trans hb5; replace hB1 := hB1.trans (hb5.mono (by omega)); replace hAs : A < w5.heap.size := by omega)
              | (go_at_call 19; refine (dist_any p l out g2 _ (hL.below hB1)).mono ?_; rintro e w6 ⟨he, hb6⟩; rw [HD.out] at he; subst he; replace hR := Rw.below hR hb6 hAs; replace hB := hB.trans (hb6.mono (by omega)); replace hB1 := hB1.trans (hb6.mono hB1.size); replace hAs := Nat.lt_of_lt_of_le hAs hb6.size)
              | (go_at_call 22; refine (lalive_any p l out g2 _ (hL.below hB1)).mono ?_; rintro e w7 ⟨he, hb7⟩; rw [eq_dead (by omega), HQ2.out] at he; subst he; replace hR := Rw.below hR hb7 hAs; replace hB := hB.trans (hb7.mono (by omega)); replace hB1 := hB1.trans (hb7.mono hB1.size); replace hAs := Nat.lt_of_lt_of_le hAs hb7.size))
            exact ⟨⟨k + 1, false, g2, rfl, by go_num, by omega, fun _ => HDD.out, hR, hB, hAs⟩, by simp [intOf]; omega⟩
          · cases q2
            · skip
              go_wp2_with (first
                | (refine wpList_loadN _ (by rfl) _ _ rfl _ Tryd.underlying37 rfl bb (oo + k * 26) rfl (stepA fk rk) (size_step _ _) hcells ?_)
                | (refine wpList_allocN _ (by rfl) _ rfl zi hzi _ hzz ?_; intro w2 hZ hb2 hs2)
                | (refine wpList_storeN _ (by rfl) _ _ _ rfl rfl wr.heap.size rfl _ _ _ hZ rfl (size_step _ _) (by rw [stepA_size, stepA_size]) (stepA_all _ _) ?_; intro w3 hr3 hb3 hs3 hk3; have hbW : Below wr.heap.size wr w3 := hb2.trans hb3; replace hR := Rw.below hR hbW hAs; replace hB := hB.trans (hbW.mono (by omega)); replace hB1 := hB1.trans (hbW.mono hB1.size); have cr := (step_range hr3).2; replace hAs : A < w3.heap.size := by omega)
                | (refine wpList_loadN _ (by rfl) _ _ rfl _ under_row rfl A 0 rfl (u8A 25 _) (size_row _) (Rw.cells hR) ?_)
                | (go_at_call 17; refine (step_any p l out g rk _ (hL.below hB1)).mono ?_; rintro e w4 ⟨he, hb4⟩; rw [HG.out] at he; subst he; replace hR := Rw.below hR hb4 hAs; replace hB := hB.trans (hb4.mono (by omega)); replace hB1 := hB1.trans (hb4.mono hB1.size); replace hAs := Nat.lt_of_lt_of_le hAs hb4.size)
                | (refine wpList_storeN _ (by rfl) _ _ _ rfl rfl A rfl _ _ _ hR rfl (size_row _) (by rw [u8A_size, u8A_size]) (u8A_all _ _) ?_; intro w5 hR hb5 hs5 _; replace hB := hB.trans hb5; replace hB1 := hB1.trans (hb5.mono (by omega)); replace hAs : A < w5.heap.size := by omega)
                | (go_at_call 19; refine (dist_any p l out g2 _ (hL.below hB1)).mono ?_; rintro e w6 ⟨he, hb6⟩; rw [HD.out] at he; subst he; replace hR := Rw.below hR hb6 hAs; replace hB := hB.trans (hb6.mono (by omega)); replace hB1 := hB1.trans (hb6.mono hB1.size); replace hAs := Nat.lt_of_lt_of_le hAs hb6.size)
                | (go_at_call 22; refine (lalive_any p l out g2 _ (hL.below hB1)).mono ?_; rintro e w7 ⟨he, hb7⟩; rw [eq_dead (by omega), HQ2.out] at he; subst he; replace hR := Rw.below hR hb7 hAs; replace hB := hB.trans (hb7.mono (by omega)); replace hB1 := hB1.trans (hb7.mono hB1.size); replace hAs := Nat.lt_of_lt_of_le hAs hb7.size))
              exact ⟨⟨k + 1, false, g2, rfl, by go_num, by omega, fun _ => HND.out (by trivial), hR, hB, hAs⟩, by simp [intOf]; omega⟩
            · skip
              go_wp2_with (first
                | (refine wpList_loadN _ (by rfl) _ _ rfl _ Tryd.underlying37 rfl bb (oo + k * 26) rfl (stepA fk rk) (size_step _ _) hcells ?_)
                | (refine wpList_allocN _ (by rfl) _ rfl zi hzi _ hzz ?_; intro w2 hZ hb2 hs2)
                | (refine wpList_storeN _ (by rfl) _ _ _ rfl rfl wr.heap.size rfl _ _ _ hZ rfl (size_step _ _) (by rw [stepA_size, stepA_size]) (stepA_all _ _) ?_; intro w3 hr3 hb3 hs3 hk3; have hbW : Below wr.heap.size wr w3 := hb2.trans hb3; replace hR := Rw.below hR hbW hAs; replace hB := hB.trans (hbW.mono (by omega)); replace hB1 := hB1.trans (hbW.mono hB1.size); have cr := (step_range hr3).2; replace hAs : A < w3.heap.size := by omega)
                | (refine wpList_loadN _ (by rfl) _ _ rfl _ under_row rfl A 0 rfl (u8A 25 _) (size_row _) (Rw.cells hR) ?_)
                | (go_at_call 17; refine (step_any p l out g rk _ (hL.below hB1)).mono ?_; rintro e w4 ⟨he, hb4⟩; rw [HG.out] at he; subst he; replace hR := Rw.below hR hb4 hAs; replace hB := hB.trans (hb4.mono (by omega)); replace hB1 := hB1.trans (hb4.mono hB1.size); replace hAs := Nat.lt_of_lt_of_le hAs hb4.size)
                | (refine wpList_storeN _ (by rfl) _ _ _ rfl rfl A rfl _ _ _ hR rfl (size_row _) (by rw [u8A_size, u8A_size]) (u8A_all _ _) ?_; intro w5 hR hb5 hs5 _; replace hB := hB.trans hb5; replace hB1 := hB1.trans (hb5.mono (by omega)); replace hAs : A < w5.heap.size := by omega)
                | (go_at_call 19; refine (dist_any p l out g2 _ (hL.below hB1)).mono ?_; rintro e w6 ⟨he, hb6⟩; rw [HD.out] at he; subst he; replace hR := Rw.below hR hb6 hAs; replace hB := hB.trans (hb6.mono (by omega)); replace hB1 := hB1.trans (hb6.mono hB1.size); replace hAs := Nat.lt_of_lt_of_le hAs hb6.size)
                | (go_at_call 22; refine (lalive_any p l out g2 _ (hL.below hB1)).mono ?_; rintro e w7 ⟨he, hb7⟩; rw [eq_dead (by omega), HQ2.out] at he; subst he; replace hR := Rw.below hR hb7 hAs; replace hB := hB.trans (hb7.mono (by omega)); replace hB1 := hB1.trans (hb7.mono hB1.size); replace hAs := Nat.lt_of_lt_of_le hAs hb7.size))
              exact ⟨⟨k + 1, true, g2, rfl, by go_num, by omega, fun h => (by cases h), hR, hB, hAs⟩, by simp [intOf]; omega⟩
        · have hke : k = N := by omega
          subst hke
          go_wp2_with fail
          refine (alive_any _ (T1.below hB1)).mono ?_
          rintro e w7 ⟨rfl, hb7⟩
          go_wp2_with fail
          go_ret
          exact ⟨rfl, hb1.trans ((hB1.trans (hb7.mono hB1.size)).mono hb1.size)⟩
end Go.Proofs.YtldohnolpojccaaDoor.V
