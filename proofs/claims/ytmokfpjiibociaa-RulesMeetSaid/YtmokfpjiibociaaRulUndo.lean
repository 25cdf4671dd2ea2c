/-
  Who is added and removed again has changed nothing.
-/
import Derived.Test.YtmokfpjiibociaaRulChg
namespace Go.Proofs.Ytmokfpjiibociaa.R
open Go.RowKit
open Aid
set_option linter.unusedSimpArgs false
set_option linter.unusedVariables false

theorem legal_iff {l : List Int} {x : Int} (h : legalB l x = true) : rightB l = true ∧ 0 ≤ x ∧ x ≤ 6 := by
  unfold legalB at h; simp only [Bool.and_eq_true, decide_eq_true_eq] at h; exact h
theorem legal_mk {l : List Int} {x : Int} (h : rightB l = true) (h0 : 0 ≤ x) (h6 : x ≤ 6) : legalB l x = true := by
  unfold legalB; simp [h, h0, h6]
theorem mem_ins (l : List Int) (x y : Int) : y ∈ insL l x ↔ (0 ≤ y ∧ y ≤ 6) ∧ (y = x ∨ y ∈ l) := by
  rw [show insL l x = sel (fun v => v == x || hasB l v) from rfl, mem_sel]
  simp [hasB_iff]
theorem mem_rem (l : List Int) (x y : Int) : y ∈ remL l x ↔ (0 ≤ y ∧ y ≤ 6) ∧ (y ≠ x ∧ y ∈ l) := by
  rw [show remL l x = sel (fun v => v != x && hasB l v) from rfl, mem_sel]
  simp [hasB_iff]
theorem rem_len {l : List Int} {x : Int} (h : rightB l = true) (hx : hasB l x = true) : (remL l x).length + 1 = l.length := by
  obtain ⟨k, _, hk, hkx⟩ := ix_pos hx
  rw [← rem_cut h hk hkx]
  simp; omega
theorem ins_right {l : List Int} {x : Int} (h0 : 0 ≤ x) (h6 : x ≤ 6) : rightB (insL l x) = true := by
  refine right_of ?_ (pair_sel _) (fun y hy => ((mem_ins l x y).1 hy).1)
  exact List.length_pos_of_mem ((mem_ins l x x).2 ⟨⟨h0, h6⟩, .inl rfl⟩)
theorem rem_right {l : List Int} {x : Int} (h : rightB l = true) (hx : hasB l x = true) (hl : l.length ≠ 1) : rightB (remL l x) = true := by
  have h1 := rem_len h hx
  have h2 := (right_up h).2
  exact right_of (by omega) (pair_sel _) (fun y hy => ((mem_rem l x y).1 hy).1)
theorem rem_ins {l : List Int} {x : Int} (h : rightB l = true) (h0 : 0 ≤ x) (h6 : x ≤ 6) (hx : hasB l x = false) : remF (insL l x) x = (l, 0) := by
  have hxl : x ∉ l := by intro hh; rw [(hasB_iff l x).2 hh] at hx; cases hx
  have hr := ins_right (l := l) h0 h6
  have hh : hasB (insL l x) x = true := (hasB_iff _ _).2 ((mem_ins l x x).2 ⟨⟨h0, h6⟩, .inl rfl⟩)
  have he : remL (insL l x) x = l := by
    refine eq_of_strict _ _ (pair_sel _) (right_pair h) (fun y => ?_)
    rw [mem_rem, mem_ins]
    constructor
    · rintro ⟨_, h1, _, h2 | h2⟩
      · exact absurd h2 h1
      · exact h2
    · intro hy
      have := right_mem h hy
      exact ⟨this, fun e => hxl (e ▸ hy), this, .inr hy⟩
  have hl := rem_len hr hh
  rw [he] at hl
  have := (right_up h).2
  unfold remF
  rw [if_pos (legal_mk hr h0 h6), if_pos ⟨hh, by omega⟩, he]
theorem ins_rem {l : List Int} {x : Int} (h : rightB l = true) (h0 : 0 ≤ x) (h6 : x ≤ 6) (hx : hasB l x = true) (hl : l.length ≠ 1) : addF (remL l x) x = (l, 0) := by
  have hxl := (hasB_iff l x).1 hx
  have hr := rem_right h hx hl
  have hh : hasB (remL l x) x = false := by
    cases hc : hasB (remL l x) x with
    | false => rfl
    | true => exact absurd rfl ((mem_rem l x x).1 ((hasB_iff _ _).1 hc)).2.1
  have he : insL (remL l x) x = l := by
    refine eq_of_strict _ _ (pair_sel _) (right_pair h) (fun y => ?_)
    rw [mem_ins, mem_rem]
    constructor
    · rintro ⟨_, h1 | h1⟩
      · subst h1; exact hxl
      · exact h1.2.2
    · intro hy
      have h1 := right_mem h hy
      refine ⟨h1, ?_⟩
      by_cases e : y = x
      · exact .inl e
      · exact .inr ⟨h1, e, hy⟩
  unfold addF
  rw [if_pos (legal_mk hr h0 h6), if_neg (by rw [hh]; simp), he]

set_option maxRecDepth 100000 in
set_option maxHeartbeats 4000000 in
theorem undo_law (v : Value) (l : List Int) (x : Int) (w : World) (h : Ints w .i64 v l) (hcap : CapOk v) (hn : l.length * 8 ≤ 140737488351232) : Calls Try.prog 13 #[.agg #[v], .int .i64 x] w (TrueIn w) := by
  obtain ⟨i0, hi, hz0, hz1, hz2⟩ := info_parts (show (Try.prog.info? 3).map (fun i => (i.zero, i.size, i.bytes)) = some (some (.int .i64 0), 1, 8) by kernel_rfl)
  obtain ⟨a, c, rfl⟩ := Ints.form h
  have h63 := h.1
  have H00 := Has.new h 40
  have hb00 : Below w.heap.size w (w.alloc (.cells #[.slice a l.length c] 40)) := (Below.refl _ _).alloc (Nat.le_refl _) _
  have hX := H00.step (Below.refl _ _) (.cells #[] 3)
  have hbX : Below (w.heap.size + 1) (w.alloc (.cells #[.slice a l.length c] 40)) ((w.alloc (.cells #[.slice a l.length c] 40)).alloc (.cells #[] 3)) := (Below.refl _ _).alloc (by simp) _
  have hown : ((w.alloc (.cells #[.slice a l.length c] 40)).alloc (.cells #[] 3)).ownsRow (w.heap.size + 1) 3 1 (.slice (some ⟨w.heap.size + 1, 0, none⟩) 0 0) 0 [] := by
    have := World.ownsRow_made (e := 3) (size := 1) (base := w.heap.size + 1) (w.alloc (.cells #[.slice a l.length c] 40)) #[] 0 (by simp) (by unfold maxLen; omega) (by simp)
    simpa using this
  have hs0 : (w.alloc (.cells #[.slice a l.length c] 40)).heap.size = w.heap.size + 1 := by simp
  go_enter Try.func13, Try.ntmps13
  go_wp2_with (first | (at_builtin; refine wpList_append_ints _ (by rfl) _ _ 38 rfl (w.heap.size + 1) 3 i0 (.int .i64 0) 8 Try.underlying38 hi hz0 hz1 hz2 rfl .i64 _ 0 [] rfl hown _ l rfl hX.2.1 (by unfold maxLen; omega) (by omega) (by simp) ?_; intro v5 w0 hown5 hb5; have H0 := H00.keep (by rw [hs0]; exact hbX.trans hb5); have x1 := H0.1))
  have hI5 : Ints w0 .i64 v5 l := Ints.own (by rw [Nat.zero_add, List.nil_append] at hown5; exact hown5) h63
  obtain ⟨a5, c5, rfl⟩ := Ints.form hI5
  have hb0 : Below w.heap.size w w0 := hb00.trans ((hbX.trans hb5).mono (by omega))
  clear H00 hb00 hX hbX hown hown5 hb5
  by_cases hE : ∃ r n q m, addF l x = (r, n) ∧ remF l x = (q, m) ∧ (n == 0) = false ∧ (m == 0) = false
  · obtain ⟨r, n, q, m, h1, h2, h3, h4⟩ := hE
    have HR := Lib.hid h1
    have HQ := Lib.hid h2
    clear h1 h2
    refine (add_any _ l x _ H0.2.1).mono ?_
    rintro e w1 ⟨v1, rfl, hI1, hb1, hcap1⟩
    rw [HR.out] at hI1 ⊢
    obtain ⟨a1, c1, rfl⟩ := Ints.form hI1
    have G0 := H0.step hb1 (.cells #[.slice a1 (r : List Int).length c1] 40)
    have G5 := (hI5.below hb1).below ((Below.refl _ _).alloc (Nat.le_refl _) (.cells #[.slice a1 (r : List Int).length c1] 40))
    have G1 := Has.new hI1 40
    have hbw1 := below_step hb0 hb0.size hb1 (.cells #[.slice a1 (r : List Int).length c1] 40)
    have k0 := G0.1
    have k1 := G1.1
    clear H0 x1 hI5 hI1 hb0 hb1
    go_wp2_with fail
    refine (rem_any _ l x _ G0.2.1 hcap).mono ?_
    rintro e w4 ⟨v4, rfl, hI4, hb4, _⟩
    rw [HQ.out] at hI4 ⊢
    obtain ⟨a4, c4, rfl⟩ := Ints.form hI4
    have F0 := G0.step hb4 (.cells #[.slice a4 (q : List Int).length c4] 40)
    have F5 := (G5.below hb4).below ((Below.refl _ _).alloc (Nat.le_refl _) (.cells #[.slice a4 (q : List Int).length c4] 40))
    have F4 := Has.new hI4 40
    have hbw4 := below_step hbw1 hbw1.size hb4 (.cells #[.slice a4 (q : List Int).length c4] 40)
    clear k0 G0 G5 hI4 hbw1 hb4
    have k0 := F0.1
    have k4 := F4.1
    go_wp2_with fail
    refine (alive_any _).mono ?_
    rintro e w8 ⟨rfl, hb8⟩
    have E0 := F0.keep hb8
    have E5 := F5.below hb8
    have hbw8 := hbw4.trans (hb8.mono hbw4.size)
    have j0 := E0.1
    go_wp2_with fail
    refine (same_any _ _ l _ E0.2.1 E5).mono ?_
    rintro e w9 ⟨rfl, hb9⟩
    go_wp2_with fail
    go_ret
    exact ⟨rfl, hbw8.trans (hb9.mono hbw8.size)⟩
  · have hleg : legalB l x = true := by
      cases hl : legalB l x with
      | true => rfl
      | false => exact absurd ⟨[], 190, [], 190, by unfold addF; simp [hl], by unfold remF; simp [hl], by decide, by decide⟩ hE
    obtain ⟨hr, h0, h6⟩ := legal_iff hleg
    cases hx : hasB l x
    · have HR : Hid (addF l x = (insL l x, 0)) := by show _ = _; unfold addF; simp [hleg, hx]
      obtain ⟨q, hq⟩ : ∃ q, remF l x = (q, 191) := ⟨[], by unfold remF; simp [hleg, hx]⟩
      have HQ := Lib.hid hq
      clear hq
      have HA2 := Lib.hid (rem_ins hr h0 h6 hx)
      clear hE hleg hr hx
      refine (add_any _ l x _ H0.2.1).mono ?_
      rintro e w1 ⟨v1, rfl, hI1, hb1, hcap1⟩
      rw [HR.out] at hI1 ⊢
      obtain ⟨a1, c1, rfl⟩ := Ints.form hI1
      have G0 := H0.step hb1 (.cells #[.slice a1 (insL l x : List Int).length c1] 40)
      have G5 := (hI5.below hb1).below ((Below.refl _ _).alloc (Nat.le_refl _) (.cells #[.slice a1 (insL l x : List Int).length c1] 40))
      have G1 := Has.new hI1 40
      have hbw1 := below_step hb0 hb0.size hb1 (.cells #[.slice a1 (insL l x : List Int).length c1] 40)
      have k0 := G0.1
      have k1 := G1.1
      clear H0 x1 hI5 hI1 hb0 hb1
      go_wp2_with fail
      refine (rem_any _ (insL l x) x _ G1.2.1 hcap1).mono ?_
      rintro e w2 ⟨v2, rfl, hI2, hb2, _⟩
      rw [HA2.out] at hI2 ⊢
      obtain ⟨a2, c2, rfl⟩ := Ints.form hI2
      have F0 := G0.step hb2 (.cells #[.slice a2 l.length c2] 40)
      have F5 := (G5.below hb2).below ((Below.refl _ _).alloc (Nat.le_refl _) (.cells #[.slice a2 l.length c2] 40))
      have F2 := Has.new hI2 40
      have hbw2 := below_step hbw1 hbw1.size hb2 (.cells #[.slice a2 l.length c2] 40)
      clear k0 k1 G0 G5 G1 hI2 hbw1 hb2
      have k0 := F0.1
      have k2 := F2.1
      go_wp2_with fail
      refine (same_any _ _ l _ F2.2.1 F0.2.1).mono ?_
      rintro e w3 ⟨rfl, hb3⟩
      have G0 := F0.keep hb3
      have G5 := F5.below hb3
      have hbw1 := hbw2.trans (hb3.mono hbw2.size)
      clear k0 k2 F0 F5 F2 hbw2 hb3
      have k0 := G0.1
      go_wp2_with fail
      refine (rem_any _ l x _ G0.2.1 hcap).mono ?_
      rintro e w4 ⟨v4, rfl, hI4, hb4, _⟩
      rw [HQ.out] at hI4 ⊢
      obtain ⟨a4, c4, rfl⟩ := Ints.form hI4
      have F0 := G0.step hb4 (.cells #[.slice a4 (q : List Int).length c4] 40)
      have F5 := (G5.below hb4).below ((Below.refl _ _).alloc (Nat.le_refl _) (.cells #[.slice a4 (q : List Int).length c4] 40))
      have F4 := Has.new hI4 40
      have hbw4 := below_step hbw1 hbw1.size hb4 (.cells #[.slice a4 (q : List Int).length c4] 40)
      clear k0 G0 G5 hI4 hbw1 hb4
      have k0 := F0.1
      have k4 := F4.1
      go_wp2_with fail
      refine (alive_any _).mono ?_
      rintro e w8 ⟨rfl, hb8⟩
      have E0 := F0.keep hb8
      have E5 := F5.below hb8
      have hbw8 := hbw4.trans (hb8.mono hbw4.size)
      have j0 := E0.1
      go_wp2_with fail
      refine (same_any _ _ l _ E0.2.1 E5).mono ?_
      rintro e w9 ⟨rfl, hb9⟩
      go_wp2_with fail
      go_ret
      exact ⟨rfl, hbw8.trans (hb9.mono hbw8.size)⟩
    · have hl1 : l.length ≠ 1 := by
        intro hl
        exact hE ⟨[], 191, [], 191, by unfold addF; simp [hleg, hx], by unfold remF; simp [hleg, hx, hl], by decide, by decide⟩
      obtain ⟨r, hr1⟩ : ∃ r, addF l x = (r, 191) := ⟨[], by unfold addF; simp [hleg, hx]⟩
      have HR := Lib.hid hr1
      clear hr1
      have HQ : Hid (remF l x = (remL l x, 0)) := by show _ = _; unfold remF; simp [hleg, hx, hl1]
      have HA2 := Lib.hid (ins_rem hr h0 h6 hx hl1)
      clear hE hleg hr hx
      refine (add_any _ l x _ H0.2.1).mono ?_
      rintro e w1 ⟨v1, rfl, hI1, hb1, hcap1⟩
      rw [HR.out] at hI1 ⊢
      obtain ⟨a1, c1, rfl⟩ := Ints.form hI1
      have G0 := H0.step hb1 (.cells #[.slice a1 (r : List Int).length c1] 40)
      have G5 := (hI5.below hb1).below ((Below.refl _ _).alloc (Nat.le_refl _) (.cells #[.slice a1 (r : List Int).length c1] 40))
      have G1 := Has.new hI1 40
      have hbw1 := below_step hb0 hb0.size hb1 (.cells #[.slice a1 (r : List Int).length c1] 40)
      have k0 := G0.1
      have k1 := G1.1
      clear H0 x1 hI5 hI1 hb0 hb1
      go_wp2_with fail
      refine (rem_any _ l x _ G0.2.1 hcap).mono ?_
      rintro e w4 ⟨v4, rfl, hI4, hb4, _⟩
      rw [HQ.out] at hI4 ⊢
      obtain ⟨a4, c4, rfl⟩ := Ints.form hI4
      have F0 := G0.step hb4 (.cells #[.slice a4 (remL l x : List Int).length c4] 40)
      have F5 := (G5.below hb4).below ((Below.refl _ _).alloc (Nat.le_refl _) (.cells #[.slice a4 (remL l x : List Int).length c4] 40))
      have F4 := Has.new hI4 40
      have hbw4 := below_step hbw1 hbw1.size hb4 (.cells #[.slice a4 (remL l x : List Int).length c4] 40)
      clear k0 G0 G5 hI4 hbw1 hb4
      have k0 := F0.1
      have k4 := F4.1
      go_wp2_with fail
      refine (add_any _ (remL l x) x _ F4.2.1).mono ?_
      rintro e w6 ⟨v6, rfl, hI6, hb6, _⟩
      rw [HA2.out] at hI6 ⊢
      obtain ⟨a6, c6, rfl⟩ := Ints.form hI6
      have E0 := F0.step hb6 (.cells #[.slice a6 l.length c6] 40)
      have E5 := (F5.below hb6).below ((Below.refl _ _).alloc (Nat.le_refl _) (.cells #[.slice a6 l.length c6] 40))
      have E6 := Has.new hI6 40
      have hbw6 := below_step hbw4 hbw4.size hb6 (.cells #[.slice a6 l.length c6] 40)
      clear k0 k4 F0 F5 F4 hI6 hbw4 hb6
      have k0 := E0.1
      have k6 := E6.1
      go_wp2_with fail
      refine (same_any _ _ l _ E6.2.1 E0.2.1).mono ?_
      rintro e w7 ⟨rfl, hb7⟩
      have F0 := E0.keep hb7
      have F5 := E5.below hb7
      have hbw4 := hbw6.trans (hb7.mono hbw6.size)
      clear k0 k6 E0 E5 E6 hbw6 hb7
      have k0 := F0.1
      go_wp2_with fail
      refine (alive_any _).mono ?_
      rintro e w8 ⟨rfl, hb8⟩
      have E0 := F0.keep hb8
      have E5 := F5.below hb8
      have hbw8 := hbw4.trans (hb8.mono hbw4.size)
      have j0 := E0.1
      go_wp2_with fail
      refine (same_any _ _ l _ E0.2.1 E5).mono ?_
      rintro e w9 ⟨rfl, hb9⟩
      go_wp2_with fail
      go_ret
      exact ⟨rfl, hbw8.trans (hb9.mono hbw8.size)⟩
end Go.Proofs.Ytmokfpjiibociaa.R
