/-
  A call on a disk.
-/
import Derived.Test.YteidmneenfdafaaDskFit
namespace Go.Proofs.Yteidmneenfdafaa.K
open Go.RowKit
open Aid
set_option linter.unusedSimpArgs false
set_option linter.unusedVariables false

set_option maxRecDepth 100000 in
set_option maxHeartbeats 2000000 in
theorem does_any (O : Nat → Prop) (p : Nat) (st : DSt) (R : Int) (i : Nat) (k a n : Int) (v : Value) (l : List Int) (w : World) (h : DiskIs O w p st) (hO : ∀ k, O k → k < w.heap.size) (hF : FitS st R i) (hi : i ≤ 4398046511103) (hR : R ≤ 9223372036854775807)
    (hI : Ints w .u8 v l) (hIO : ∀ b o n c, v = .slice (some ⟨b, o, none⟩) n c → n ≠ 0 → ¬ O b) (hl255 : ∀ x ∈ l, 0 ≤ x ∧ x ≤ 255) (hk : (Lit.int .i64 k).wf = true) (ha : (Lit.int .u64 a).wf = true) (hn : (Lit.int .i64 n).wf = true) :
    Calls Try.prog 14 #[.pointer (some ⟨p, 0, none⟩), .agg #[.int .i64 k, .int .u64 a, .int .i64 n, v]] w (DoEnd O p (doE st k a n l) (doS st k a n l) w) := by
  have hst := hF.steps
  have hroom : st.room + (st.N a : Nat) ≤ R := by have := hF.sum [a] (by simp); simpa using this
  have hroom0 := hF.room
  have hN := hF.N a
  have hC := hF.C
  have hleft := hF.left
  have hV := hF.V a n
  obtain ⟨W1, hW1⟩ : ∃ W1, w.alloc (.cells #[.int .i64 k, .int .u64 a, .int .i64 n, v] 30) = W1 := ⟨_, rfl⟩
  obtain ⟨T, hT⟩ : ∃ T, w.heap.size = T := ⟨_, rfl⟩
  have hb1 : Below w.heap.size w W1 := by rw [← hW1]; exact (Below.refl _ _).alloc (Nat.le_refl _) _
  have hD1 : DiskIs O W1 p st := h.below hb1
  have hO1 : ∀ k, O k → k < W1.heap.size := fun k hk => by have := hO k hk; have := hb1.size; omega
  have hI1 : Ints W1 .u8 v l := ints_kept (O := fun _ => False) hI (Keeps.of_below hb1) (fun _ _ _ _ _ _ h => h)
  have hBk : Blk W1 T 30 #[.int .i64 k, .int .u64 a, .int .i64 n, v] := by rw [← hW1, ← hT]; exact Blk.alloc_new _ _ _
  have hc0 : W1.cell? ⟨T, 0, none⟩ = some (.int .i64 k) := by rw [Blk.cell hBk]; rfl
  have hc1 : W1.cell? ⟨T, 1, none⟩ = some (.int .u64 a) := by rw [Blk.cell hBk]; rfl
  have hc2 : W1.cell? ⟨T, 2, none⟩ = some (.int .i64 n) := by rw [Blk.cell hBk]; rfl
  have hc3 : W1.cell? ⟨T, 3, none⟩ = some v := by rw [Blk.cell hBk]; rfl
  have K1 : Keeps O w W1 := Keeps.of_below hb1
  have hsz : w.heap.size ≤ W1.heap.size := hb1.size
  have hsub : ∀ (O' : Nat → Prop) (w' : World), (∀ k, O' k → O k ∨ (W1.heap.size ≤ k ∧ k < w'.heap.size)) → ∀ k, O' k → O k ∨ (w.heap.size ≤ k ∧ k < w'.heap.size) := fun O' w' hh k hk => by
    rcases hh k hk with h | h
    · exact .inl h
    · right; omega
  by_cases k0 : k = 0
  · subst k0
    by_cases hb : BadW st a n l
    · have hE : doE st 0 a n l = (if st.dead = true then 30 else if (n < 0 ∨ 65536 ≤ n ∨ 64 < l.length) then 31 else 32) := by unfold doE; rw [if_pos rfl, if_pos hb]
      have hS : doS st 0 a n l = st := by unfold doS; rw [if_pos rfl, if_pos hb]
      have hcall := write_bad O p st a n v l W1 hD1 hI1 ha hn hb
      obtain ⟨r, hr⟩ : ∃ r : Int, (if st.dead = true then (30 : Int) else if (n < 0 ∨ 65536 ≤ n ∨ 64 < l.length) then 31 else 32) = r := ⟨_, rfl⟩
      rw [hE, hS]
      rw [hr] at hcall ⊢
      clear hE hS hr
      go_enter Try.func14, Try.ntmps14
      go_wp2_with fail
      refine hcall.mono ?_
      rintro e w2 ⟨rfl, hb2⟩
      go_wp2_with fail
      go_ret
      exact ⟨rfl, K1.trans (Keeps.of_below (O := fun _ => False) hb2) (fun _ h => h.elim), O, hD1.below hb2, fun k hk => .inl hk⟩
    · have hE : doE st 0 a n l = (if (writeF st a n l).dead = true then 30 else 0) := by unfold doE; rw [if_pos rfl, if_neg hb]
      have hS : doS st 0 a n l = writeF st a n l := by unfold doS; rw [if_pos rfl, if_neg hb]
      rw [hE, hS]
      clear hE hS
      unfold BadW at hb
      have g1 : st.dead = false := by cases hd : st.dead with
        | false => rfl
        | true => exact absurd (.inl hd) hb
      have g2 : 0 ≤ n ∧ n < 65536 ∧ l.length ≤ 64 := by
        refine ⟨?_, ?_, ?_⟩
        · exact Int.not_lt.1 fun hh => hb (.inr (.inl (.inl hh)))
        · exact Int.not_le.1 fun hh => hb (.inr (.inl (.inr (.inl hh))))
        · exact Nat.not_lt.1 fun hh => hb (.inr (.inl (.inr (.inr hh))))
      have g3 : (st.F a n).isSome = true ∨ st.room ≠ 0 := by
        cases hf : st.F a n with
        | some s => exact .inl rfl
        | none => exact .inr fun hh => hb (.inr (.inr ⟨hf, hh⟩))
      have hcall := write_good O p st a n v l W1 hD1 hO1 hI1 hIO hl255 ha hn g1 g2.1 g2.2.1 g2.2.2 g3 (by omega) (by omega) (by omega) (by omega) (by omega) (fun Lv sb hh => by have := hV Lv sb hh; omega)
      unfold WriteEnd at hcall
      obtain ⟨r, hr⟩ : ∃ r : Int, (if (writeF st a n l).dead = true then (30 : Int) else 0) = r := ⟨_, rfl⟩
      rw [hr] at hcall ⊢
      clear hr
      go_enter Try.func14, Try.ntmps14
      go_wp2_with fail
      refine hcall.mono ?_
      rintro e w2 ⟨rfl, K2, O2, hD2, hO2⟩
      go_wp2_with fail
      go_ret
      exact ⟨rfl, K1.trans K2 (fun _ h => .inl h), O2, hD2, hsub O2 w2 hO2⟩
  have hkz0 : (k == 0) = false := by rw [beq_eq_false_iff_ne]; exact k0
  by_cases k1 : k = 1
  · subst k1
    cases ht : (tickF st).dead with
    | true =>
      have hE : doE st 1 a n l = 30 := by unfold doE; rw [if_neg (by decide), if_pos (.inl rfl), if_pos ht]
      have hS : doS st 1 a n l = tickF st := by unfold doS; rw [if_neg (by decide), if_pos rfl, if_pos ht]
      rw [hE, hS]
      clear hE hS
      go_enter Try.func14, Try.ntmps14
      go_wp2_with fail
      refine (sync_dies O p st a W1 hD1 (by omega) (by omega) ht).mono ?_
      rintro e w2 ⟨rfl, hD2, K2⟩
      go_wp2_with fail
      go_ret
      exact ⟨rfl, K1.trans K2 (fun _ h => .inl h), O, hD2, fun k hk => .inl hk⟩
    | false =>
      have hnt : ¬ ((tickF st).dead = true) := by rw [ht]; decide
      have hE : doE st 1 a n l = 0 := by unfold doE; rw [if_neg (by decide), if_pos (.inl rfl), if_neg hnt]
      have hS : doS st 1 a n l = syncF st a := by unfold doS; rw [if_neg (by decide), if_pos rfl, if_neg hnt]
      rw [hE, hS]
      clear hE hS
      have g1 : st.dead = false := by cases hd : st.dead with
        | false => rfl
        | true => unfold tickF at ht; rw [if_pos hd] at ht; rw [hd] at ht; cases ht
      have g2 : (stepF st).dead = false := by unfold tickF at ht; rw [if_neg (by rw [g1]; decide)] at ht; exact ht
      go_enter Try.func14, Try.ntmps14
      go_wp2_with fail
      refine (sync_good O p st a W1 hD1 hO1 ha (by omega) (by omega) g1 g2 (by omega)).mono ?_
      rintro e w2 ⟨rfl, hD2, K2⟩
      go_wp2_with fail
      go_ret
      exact ⟨rfl, K1.trans K2 (fun _ h => .inl h), O, hD2, fun k hk => .inl hk⟩
  have hkz1 : (k == 1) = false := by rw [beq_eq_false_iff_ne]; exact k1
  by_cases k2 : k = 2
  · subst k2
    cases ht : (tickF st).dead with
    | true =>
      have hE : doE st 2 a n l = 30 := by unfold doE; rw [if_neg (by decide), if_pos (.inr rfl), if_pos ht]
      have hS : doS st 2 a n l = tickF st := by unfold doS; rw [if_neg (by decide), if_neg (by decide), if_pos rfl, if_pos ht]
      rw [hE, hS]
      clear hE hS
      go_enter Try.func14, Try.ntmps14
      go_wp2_with fail
      refine (free_dies O p st a W1 hD1 (by omega) (by omega) ht).mono ?_
      rintro e w2 ⟨rfl, hD2, K2⟩
      go_wp2_with fail
      go_ret
      exact ⟨rfl, K1.trans K2 (fun _ h => .inl h), O, hD2, fun k hk => .inl hk⟩
    | false =>
      have hnt : ¬ ((tickF st).dead = true) := by rw [ht]; decide
      have hE : doE st 2 a n l = 0 := by unfold doE; rw [if_neg (by decide), if_pos (.inr rfl), if_neg hnt]
      have hS : doS st 2 a n l = freeF st a := by unfold doS; rw [if_neg (by decide), if_neg (by decide), if_pos rfl, if_neg hnt]
      rw [hE, hS]
      clear hE hS
      have g1 : st.dead = false := by cases hd : st.dead with
        | false => rfl
        | true => unfold tickF at ht; rw [if_pos hd] at ht; rw [hd] at ht; cases ht
      have g2 : (stepF st).dead = false := by unfold tickF at ht; rw [if_neg (by rw [g1]; decide)] at ht; exact ht
      go_enter Try.func14, Try.ntmps14
      go_wp2_with fail
      refine (free_good O p st a W1 hD1 ha (by omega) (by omega) g1 g2 (by omega) (by omega)).mono ?_
      rintro e w2 ⟨rfl, hD2, K2⟩
      go_wp2_with fail
      go_ret
      exact ⟨rfl, K1.trans K2 (fun _ h => .inl h), O, hD2, fun k hk => .inl hk⟩
  have hkz2 : (k == 2) = false := by rw [beq_eq_false_iff_ne]; exact k2
  have hE : doE st k a n l = 0 := by unfold doE; rw [if_neg k0, if_neg (by rintro (h | h); exact k1 h; exact k2 h)]
  rw [hE]
  clear hE
  by_cases k3 : k = 3
  · subst k3
    have hS : doS st 3 a n l = armF st n := by unfold doS; rw [if_neg (by decide), if_neg (by decide), if_neg (by decide), if_pos rfl]
    rw [hS]
    clear hS
    go_enter Try.func14, Try.ntmps14
    go_wp2_with fail
    refine (arm_any O p st n W1 hD1).mono ?_
    rintro e w2 ⟨rfl, hD2, K2⟩
    go_wp2_with fail
    go_ret
    exact ⟨rfl, K1.trans K2 (fun _ h => .inl h), O, hD2, fun k hk => .inl hk⟩
  have hkz3 : (k == 3) = false := by rw [beq_eq_false_iff_ne]; exact k3
  have hS : doS st k a n l = st := by unfold doS; rw [if_neg k0, if_neg k1, if_neg k2, if_neg k3]
  rw [hS]
  clear hS
  go_enter Try.func14, Try.ntmps14
  go_wp2_with fail
  go_ret
  exact ⟨rfl, K1, O, hD1, fun k hk => .inl hk⟩
end Go.Proofs.Yteidmneenfdafaa.K
