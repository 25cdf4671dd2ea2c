/-
  The walks of the laws LevSteps and LevDead: each answers true.
-/
import Derived.Test.YtldohnolpojccaaDoorLevLawsE
namespace Go.Proofs.YtldohnolpojccaaDoor.V
open Go.RowKit
open LM EM Aid L E VM
set_option linter.unusedSimpArgs false
set_option linter.unusedVariables false

/-- a step: a row and a rune -/
def stepA (f : Nat → Nat) (r : Int) : Array Value := u8A 25 f ++ #[.int .i32 r]
theorem stepA_size (f : Nat → Nat) (r : Int) : (stepA f r).size = 26 := by simp [stepA, u8A_size]
theorem stepA_row (f : Nat → Nat) (r : Int) (j : Nat) (h : j < 25) : (stepA f r)[j]? = some (.int .u8 (f j : Int)) := by
  unfold stepA
  rw [Array.getElem?_append_left (by rw [u8A_size]; exact h), u8A_get _ _ _ h]
theorem stepA_rune (f : Nat → Nat) (r : Int) : (stepA f r)[25]? = some (.int .i32 r) := by
  unfold stepA
  rw [Array.getElem?_append_right (by simp [u8A_size])]
  simp [u8A_size]
theorem stepA_all (f : Nat → Nat) (r : Int) : (stepA f r).all (·.oneCell') = true := by
  unfold stepA
  rw [Array.all_append, u8A_all]; simp [Value.oneCell']
theorem info_stepz : (Tryd.prog.info? 37).map (fun i => (i.zero, i.size)) = some (some (.agg (stepA (fun _ => 0) 0)), 26) := by kernel_rfl
theorem size_step : ∀ f r, (Tryd.prog.info? 37).map (·.size) = some (stepA f r).size := fun f r => by
  rw [stepA_size]
  have h := info_stepz
  cases hq : Tryd.prog.info? 37 with
  | none => rw [hq] at h; cases h
  | some i => rw [hq] at h; simp at h ⊢; exact h.2
theorem zero_step : ∃ i, Tryd.prog.info? 37 = some i ∧ i.zero = some (.agg (stepA (fun _ => 0) 0)) := by
  have h := info_stepz
  cases hq : Tryd.prog.info? 37 with
  | none => rw [hq] at h; cases h
  | some i => rw [hq] at h; simp at h; exact ⟨i, rfl, h.1⟩

/-- steps that came in -/
def Stps (w : World) (v : Value) (n : Nat) (f : Nat → Nat → Nat) (r : Nat → Int) : Prop := n ≤ 140737488355328 ∧ (∀ k j, f k j ≤ 255) ∧ ((n = 0 ∧ ∃ a cap, v = .slice a 0 cap) ∨
  ∃ b off cap, v = .slice (some ⟨b, off, none⟩) n cap ∧ b < w.heap.size ∧ ∀ k, k < n → ∀ j (hj : j < (stepA (f k) (r k)).size), w.cell? ⟨b, off + k * 26 + j, none⟩ = some (stepA (f k) (r k))[j])
theorem Stps.below {w w' : World} {v : Value} {n : Nat} {f : Nat → Nat → Nat} {r : Nat → Int} (h : Stps w v n f r) (hb : Below w.heap.size w w') : Stps w' v n f r := by
  obtain ⟨h0, h1, h2 | ⟨b, off, cap, hv, hlt, hc⟩⟩ := h
  · exact ⟨h0, h1, .inl h2⟩
  · exact ⟨h0, h1, .inr ⟨b, off, cap, hv, by have := hb.size; omega, fun k hk j hj => (hb.cell (p := ⟨b, off + k * 26 + j, none⟩) hlt).trans (hc k hk j hj)⟩⟩
theorem Stps.form {w : World} {v : Value} {n : Nat} {f : Nat → Nat → Nat} {r : Nat → Int} (h : Stps w v n f r) : ∃ a cap, v = .slice a n cap := by
  obtain ⟨_, _, ⟨rfl, a, cap, rfl⟩ | ⟨b, off, cap, rfl, _⟩⟩ := h
  · exact ⟨_, _, rfl⟩
  · exact ⟨_, _, rfl⟩
theorem Stps.at_ {w : World} {a : Option Addr} {n cap : Nat} {f : Nat → Nat → Nat} {r : Nat → Int} (h : Stps w (.slice a n cap) n f r) {k : Nat} (hk : k < n) : ∃ b o, a = some ⟨b, o, none⟩ ∧ b < w.heap.size ∧
    ∀ j (hj : j < (stepA (f k) (r k)).size), w.cell? ⟨b, o + k * 26 + j, none⟩ = some (stepA (f k) (r k))[j] := by
  obtain ⟨_, _, ⟨rfl, _⟩ | ⟨b, o, c, hv, hlt, hc⟩⟩ := h
  · omega
  · simp at hv; exact ⟨b, o, hv.1, hlt, hc k hk⟩
theorem step_range {w : World} {g : Nat} {f : Nat → Nat} {r : Int} {t : TypeId} (h : Blk w g t (stepA f r)) : w.rangeAt g 0 (u8A 25 f).toList ∧ w.cell? ⟨g, 25, none⟩ = some (.int .i32 r) := by
  constructor
  · intro j v hv
    obtain ⟨hj, hv⟩ := List.getElem?_eq_some_iff.1 hv
    have hj' : j < 25 := by simpa [u8A_size] using hj
    rw [Nat.zero_add, h.cell, stepA_row _ _ _ hj', ← hv]
    simp [u8A_at]
  · rw [h.cell, stepA_rune]

set_option maxRecDepth 100000 in
set_option maxHeartbeats 4000000 in
theorem steps_law (s : ByteArray) (edits : Int) (v : Value) (N : Nat) (f : Nat → Nat → Nat) (r : Nat → Int) (w : World) (hs : s.size ≤ 35184372088832) (hv : Stps w v N f r) (T : Tab w) :
    Calls Tryd.prog 5 #[.string s, .int .i64 edits, v] w (TrueIn w) := by
  obtain ⟨zi, hzi, hzz⟩ := zero_step
  have HV := Lib.hid hv
  have hN63 := hv.1
  have hu := under_row
  have hf := hv.2.1
  clear hv
  obtain ⟨av, cv, rfl⟩ := HV.out.form
  go_enter Tryd.func5, Tryd.ntmps5
  go_wp2_with fail
  refine (made_any s edits w hs T).mono ?_
  rintro e w1 ⟨hb1, ⟨hr, v, rfl⟩ | ⟨l, n, out, p, a, c, hr, hl, rfl, hn, ho, rfl, hL, hI, hc⟩⟩
  · have HR := Lib.hid hr
    clear hr
    have T1 := T.below hb1
    go_wp2_with fail
    refine (alive_any w1 T1).mono ?_
    rintro e w2 ⟨rfl, hb2⟩
    have hbb := hb1.trans (hb2.mono hb1.size)
    clear hb1 hb2
    go_wp2_with fail
    refine (right_any s edits w2 (by omega)).mono ?_
    rintro e w3 ⟨rfl, hb3⟩
    rw [HR.out]
    go_wp2_with fail
    go_ret
    exact ⟨rfl, hbb.trans (hb3.mono hbb.size)⟩
  · have HI := Lib.hid hI
    have hlb := hL.bounds
    clear hr hl hI
    have T1 := T.below hb1
    go_wp2_with fail
    go_loopw [30] (fun x wr => ∃ k : Nat, x = .int .i64 k ∧ k ≤ N ∧ Below w1.heap.size w1 wr) (fun x _ => N - (intOf x).toNat)
    case atStart => exact ⟨0, rfl, Nat.zero_le _, Below.refl _ _⟩
    case round =>
      obtain ⟨k, rfl, hk, hB⟩ := hrel
      by_cases hlast : (k : Int) < (N : Int)
      · obtain ⟨bb, oo, rfl, hbb, hcells⟩ := (HV.out.below (hb1.trans (hB.mono hb1.size))).at_ (k := k) (by omega)
        obtain ⟨fk, hfk⟩ : ∃ g, f k = g := ⟨_, rfl⟩
        obtain ⟨rk, hrk⟩ : ∃ g, r k = g := ⟨_, rfl⟩
        rw [hfk, hrk] at hcells
        have hfk2 : ∀ j, fk j ≤ 255 := by rw [← hfk]; exact hf k
        clear hfk hrk
        go_wp2_with (first
          | (refine wpList_loadN _ (by rfl) _ _ rfl _ Tryd.underlying37 rfl bb (oo + k * 26) rfl (stepA fk rk) (size_step _ _) hcells ?_)
          | (refine wpList_allocN _ (by rfl) _ rfl zi hzi _ hzz ?_; intro w2 hA hb2 hs2)
          | (refine wpList_storeN _ (by rfl) _ _ _ rfl rfl wr.heap.size rfl _ _ _ hA rfl (size_step _ _) (by rw [stepA_size, stepA_size]) (stepA_all _ _) ?_; intro w3 hr3 hb3 hs3 _))
        obtain ⟨B, hBB⟩ : ∃ B, wr.heap.size = B := ⟨_, rfl⟩
        rw [hBB] at hr3
        simp only [hBB]
        have hB3 : Below w1.heap.size w1 w3 := hB.trans ((hb2.trans hb3).mono hB.size)
        have hBd : Below w1.heap.size w1 w3.drew := hB3.drew
        have hxd : B < w3.drew.heap.size := by show B < w3.heap.size; omega
        obtain ⟨t1, t2⟩ := step_range hr3
        replace t1 : w3.drew.rangeAt B 0 (u8A 25 fk).toList := t1
        replace t2 : w3.drew.cell? ⟨B, 25, none⟩ = some (.int .i32 rk) := t2
        have hz1 := size_list fk
        have hStep := step_any p l out fk rk
        have hRef := fun wx hx => rstep_any (.slice a l.length c) l n out fk rk wx hx hlb.2.1 hn ho hfk2
        have heq := eq_same (stepF out l (cutF out l.length fk) rk)
        obtain ⟨U, hU⟩ : ∃ U, u8A 25 fk = U := ⟨_, rfl⟩
        obtain ⟨V, hV⟩ : ∃ U, u8A 25 (stepF out l (cutF out l.length fk) rk) = U := ⟨_, rfl⟩
        rw [hU] at t1 hz1 hStep hRef
        rw [hV] at hStep hRef heq
        clear hU hV hA hr3 hcells hbb hb2 hb3 hs2 hs3 hBB
        refine wp_region_held_drew (S := fun w' => w'.rangeAt B 0 U.toList ∧ w'.cell? ⟨B, 25, none⟩ = some (.int .i32 rk)) (by kernel_rfl) ⟨t1, t2⟩ (fun hHeld => ?_)
        refine wpAnyH_take (i := 0) (v := .pointer (some ⟨p, 0, none⟩)) rfl (by kernel_rfl) (by kernel_rfl) (by kernel_rfl) (fun _ _ _ h => h) (.inl ⟨by rfl, by intro w hSw; go_simp⟩) hHeld ?_
        simp only [Act.put, List.getElem_toArray, List.getElem_cons_succ, List.getElem_cons_zero, List.setIfInBounds_toArray, List.set_cons_zero, List.set_cons_succ]
        refine wpAnyH_take (i := 1) (v := .pointer (some ⟨B, 0, none⟩)) rfl (by kernel_rfl) (by kernel_rfl) (by kernel_rfl) (fun _ _ _ h => h) (.inl ⟨by rfl, by intro w hSw; go_simp⟩) hHeld ?_
        simp only [Act.put, List.getElem_toArray, List.getElem_cons_succ, List.getElem_cons_zero, List.setIfInBounds_toArray, List.set_cons_zero, List.set_cons_succ]
        refine wpAnyH_take (i := 2) (v := _) rfl (by kernel_rfl) (by kernel_rfl) (by kernel_rfl) (fun _ _ _ h => h) (yieldsIf_load_mid (by rfl) _ _ rfl _ _ rfl U.toList _ (fun _ h => h.1) hu rfl hz1) hHeld ?_
        simp only [Act.put, List.getElem_toArray, List.getElem_cons_succ, List.getElem_cons_zero, List.setIfInBounds_toArray, List.set_cons_zero, List.set_cons_succ]
        refine wpAnyH_take (i := 3) (v := .pointer (some ⟨B, 25, none⟩)) rfl (by kernel_rfl) (by kernel_rfl) (by kernel_rfl) (fun _ _ _ h => h) (.inl ⟨by rfl, by intro w hSw; go_simp⟩) hHeld ?_
        simp only [Act.put, List.getElem_toArray, List.getElem_cons_succ, List.getElem_cons_zero, List.setIfInBounds_toArray, List.set_cons_zero, List.set_cons_succ]
        refine wpAnyH_take (i := 4) (v := .int .i32 rk) rfl (by kernel_rfl) (by kernel_rfl) (by kernel_rfl) (fun _ _ _ h => h) (.inl ⟨by rfl, by intro w hSw; have hc2 := hSw.2; go_simp⟩) hHeld ?_
        simp only [Act.put, List.getElem_toArray, List.getElem_cons_succ, List.getElem_cons_zero, List.setIfInBounds_toArray, List.set_cons_zero, List.set_cons_succ]
        refine wpAnyH_take (i := 6) (v := .slice a l.length c) rfl (by kernel_rfl) (by kernel_rfl) (by kernel_rfl) (fun _ _ _ h => h) (.inl ⟨by rfl, by intro w hSw; go_simp⟩) hHeld ?_
        simp only [Act.put, List.getElem_toArray, List.getElem_cons_succ, List.getElem_cons_zero, List.setIfInBounds_toArray, List.set_cons_zero, List.set_cons_succ]
        refine wpAnyH_take (i := 7) (v := .int .i64 n) rfl (by kernel_rfl) (by kernel_rfl) (by kernel_rfl) (fun _ _ _ h => h) (.inl ⟨by rfl, by intro w hSw; go_simp⟩) hHeld ?_
        simp only [Act.put, List.getElem_toArray, List.getElem_cons_succ, List.getElem_cons_zero, List.setIfInBounds_toArray, List.set_cons_zero, List.set_cons_succ]
        refine wpAnyH_take (i := 8) (v := .pointer (some ⟨B, 0, none⟩)) rfl (by kernel_rfl) (by kernel_rfl) (by kernel_rfl) (fun _ _ _ h => h) (.inl ⟨by rfl, by intro w hSw; go_simp⟩) hHeld ?_
        simp only [Act.put, List.getElem_toArray, List.getElem_cons_succ, List.getElem_cons_zero, List.setIfInBounds_toArray, List.set_cons_zero, List.set_cons_succ]
        refine wpAnyH_take (i := 9) (v := _) rfl (by kernel_rfl) (by kernel_rfl) (by kernel_rfl) (fun _ _ _ h => h) (yieldsIf_load_mid (by rfl) _ _ rfl _ _ rfl U.toList _ (fun _ h => h.1) hu rfl hz1) hHeld ?_
        simp only [Act.put, List.getElem_toArray, List.getElem_cons_succ, List.getElem_cons_zero, List.setIfInBounds_toArray, List.set_cons_zero, List.set_cons_succ]
        refine wpAnyH_take (i := 10) (v := .pointer (some ⟨B, 25, none⟩)) rfl (by kernel_rfl) (by kernel_rfl) (by kernel_rfl) (fun _ _ _ h => h) (.inl ⟨by rfl, by intro w hSw; go_simp⟩) hHeld ?_
        simp only [Act.put, List.getElem_toArray, List.getElem_cons_succ, List.getElem_cons_zero, List.setIfInBounds_toArray, List.set_cons_zero, List.set_cons_succ]
        refine wpAnyH_take (i := 11) (v := .int .i32 rk) rfl (by kernel_rfl) (by kernel_rfl) (by kernel_rfl) (fun _ _ _ h => h) (.inl ⟨by rfl, by intro w hSw; have hc2 := hSw.2; go_simp⟩) hHeld ?_
        simp only [Act.put, List.getElem_toArray, List.getElem_cons_succ, List.getElem_cons_zero, List.setIfInBounds_toArray, List.set_cons_zero, List.set_cons_succ]
        refine wpAnyH_ready (rs := [5]) (by kernel_rfl) (by simp) ?_
        refine AllReadyH.cons rfl (fun K hK => ?_) AllReadyH.nil
        go_simp
        refine (hStep _ (hL.below hBd)).mono ?_
        rintro e wa ⟨rfl, hba⟩
        have t3 : wa.rangeAt B 0 U.toList := range_below hHeld.1 hba hxd
        have t4 : wa.cell? ⟨B, 25, none⟩ = some (.int .i32 rk) := (hba.cell (p := ⟨B, 25, none⟩) hxd).trans hHeld.2
        have hBa := (hBd).trans (hba.mono (hBd).size)
        have hxa := Nat.lt_of_lt_of_le hxd hba.size
        refine hK.out _ _ ⟨t3, t4⟩ (fun hHeld => ?_)
        clear hK K
        try simp only [Act.put, List.getElem_toArray, List.getElem_cons_succ, List.getElem_cons_zero, List.setIfInBounds_toArray, List.set_cons_zero, List.set_cons_succ]
        refine wpAnyH_ready (rs := [12]) (by kernel_rfl) (by simp) ?_
        refine AllReadyH.cons rfl (fun K hK => ?_) AllReadyH.nil
        go_simp
        refine (hRef _ (HI.out.below hBa)).mono ?_
        rintro e wb ⟨rfl, hbb⟩
        have t5 : wb.rangeAt B 0 U.toList := range_below hHeld.1 hbb hxa
        have t6 : wb.cell? ⟨B, 25, none⟩ = some (.int .i32 rk) := (hbb.cell (p := ⟨B, 25, none⟩) hxa).trans hHeld.2
        have hBb := (hBa).trans (hbb.mono (hBa).size)
        have hxb := Nat.lt_of_lt_of_le hxa hbb.size
        refine hK.out _ _ ⟨t5, t6⟩ (fun hHeld => ?_)
        clear hK K
        try simp only [Act.put, List.getElem_toArray, List.getElem_cons_succ, List.getElem_cons_zero, List.setIfInBounds_toArray, List.set_cons_zero, List.set_cons_succ]
        refine wpAnyH_take (i := 13) (v := .bool (!true)) rfl (by kernel_rfl) (by kernel_rfl) (by kernel_rfl) (fun _ _ _ h => h) (.inl ⟨by rfl, by intro w hSw; go_simp⟩) hHeld ?_
        simp only [Act.put, List.getElem_toArray, List.getElem_cons_succ, List.getElem_cons_zero, List.setIfInBounds_toArray, List.set_cons_zero, List.set_cons_succ]
        refine wpAnyH_done (by kernel_rfl) ?_ _
        go_wp2_with fail
        exact ⟨⟨k + 1, by go_num, by omega, hBb⟩, by simp [intOf]; omega⟩
      · have hke : k = N := by omega
        subst hke
        go_wp2_with fail
        refine (alive_any _ (T1.below hB)).mono ?_
        rintro e w7 ⟨rfl, hb7⟩
        go_wp2_with fail
        go_ret
        exact ⟨rfl, hb1.trans ((hB.trans (hb7.mono hB.size)).mono hb1.size)⟩
end Go.Proofs.YtldohnolpojccaaDoor.V
