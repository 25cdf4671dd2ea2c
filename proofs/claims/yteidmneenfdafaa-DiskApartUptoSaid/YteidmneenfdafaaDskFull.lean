/-
  The law: as many sectors can be as there is room for.
-/
import Derived.Test.YteidmneenfdafaaDskTell
import Derived.Test.YteidmneenfdafaaDskAlive
import Derived.Test.YteidmneenfdafaaDskFree
namespace Go.Proofs.Yteidmneenfdafaa.K
open Go.RowKit
open Aid
set_option linter.unusedSimpArgs false
set_option linter.unusedVariables false

def TrueIn (w : World) (e : Ending) (w' : World) : Prop := e = .returned (.bool true) ∧ Below w.heap.size w w'
/-- a disk behind so many writes -/
structure FullSt (st : DSt) (R k : Nat) : Prop where
  room : st.room = (R : Int) - k
  steps : st.steps = k
  left : st.left = -1
  dead : st.dead = false
  C : st.C ≤ k
  N : ∀ a, st.N a ≤ k
  N0 : st.N 0 = (k + 2) / 3
  F : ∀ a x, (k : Int) ≤ x → st.F a x = none
  F9 : ∀ x, st.F 9 x = none
theorem full_zero (R : Nat) : FullSt (newSt R) R 0 :=
  ⟨by simp [newSt], rfl, rfl, rfl, Nat.le_refl _, fun _ => Nat.le_refl _, rfl, fun _ _ _ => rfl, fun _ => rfl⟩
/-- the state behind a write to a sector that was not there -/
theorem write_new {st : DSt} {a n : Int} {l : List Int} (hF : st.F a n = none) (hd : st.left ≠ 0) (hl : ¬ 0 < st.left) : ∃ C', (C' = st.C ∨ C' = st.C + 1) ∧
    (writeF st a n l).room = st.room - 1 ∧ (writeF st a n l).steps = st.steps + 1 ∧ (writeF st a n l).left = st.left ∧ (writeF st a n l).dead = false ∧ (writeF st a n l).C = C' ∧ (writeF st a n l).N = updN st.N a (st.N a + 1) ∧ (writeF st a n l).F = updF st.F a n (some ([wholeI l], false)) := by
  unfold writeF
  rw [hF]
  cases hA : st.A a
  · refine ⟨st.C + 1, .inr rfl, ?_⟩
    simp [stepF, putS, openA, hF, hd, hl]
  · refine ⟨st.C, .inl rfl, ?_⟩
    simp [stepF, putS, openA, hF, hd, hl]
theorem full_next {st : DSt} {R k : Nat} (h : FullSt st R k) : FullSt (writeF st ((k % 3 : Nat) : Int) k []) R (k + 1) := by
  obtain ⟨C', hC, e1, e2, e3, e4, e5, e6, e7⟩ := write_new (a := ((k % 3 : Nat) : Int)) (n := k) (l := []) (h.F _ _ (by omega)) (by rw [h.left]; decide) (by rw [h.left]; decide)
  refine ⟨?_, ?_, ?_, e4, ?_, fun a => ?_, ?_, fun a x hx => ?_, fun x => ?_⟩
  · rw [e1, h.room]; omega
  · rw [e2, h.steps]; omega
  · rw [e3, h.left]
  · rw [e5]; have := h.C; omega
  · rw [e6]; unfold updN; have := h.N a; split
    · subst_vars; omega
    · omega
  · rw [e6]; unfold updN
    by_cases h3 : (0 : Int) = ((k % 3 : Nat) : Int)
    · rw [if_pos h3, ← h3, h.N0]; omega
    · rw [if_neg h3, h.N0]; omega
  · rw [e7]; unfold updF
    rw [if_neg (by omega)]
    exact h.F a x (by omega)
  · rw [e7]; unfold updF
    rw [if_neg (by omega)]
    exact h.F9 x
theorem wf_u64 {x : Int} (h0 : 0 ≤ x) (h1 : x ≤ 1000000) : (Lit.int .u64 x).wf = true := by
  simp [Lit.wf, IntKind.min, IntKind.max, IntKind.signed, IntKind.bits]; omega
theorem wf_i64 {x : Int} (h0 : 0 ≤ x) (h1 : x ≤ 1000000) : (Lit.int .i64 x).wf = true := by
  simp [Lit.wf, IntKind.min, IntKind.max, IntKind.signed, IntKind.bits]; omega

set_option maxRecDepth 100000 in
set_option maxHeartbeats 4000000 in
theorem full_law (room : Int) (w : World) : Calls Try.prog 4 #[.int .i64 room] w (TrueIn w) := by
  by_cases hr0 : room < 0
  · go_enter Try.func4, Try.ntmps4
    go_wp2_with fail
    refine (alive_any w).mono ?_
    rintro e w1 ⟨rfl, hb1⟩
    go_wp2_with fail
    go_ret
    exact ⟨rfl, hb1⟩
  · by_cases hr3 : 300 < room
    · go_enter Try.func4, Try.ntmps4
      go_wp2_with fail
      refine (alive_any w).mono ?_
      rintro e w1 ⟨rfl, hb1⟩
      go_wp2_with fail
      go_ret
      exact ⟨rfl, hb1⟩
    · obtain ⟨R, rfl⟩ : ∃ R : Nat, room = R := ⟨room.toNat, by omega⟩
      go_enter Try.func4, Try.ntmps4
      go_wp2_with fail
      refine (new_fine R w).mono ?_
      rintro e w1 ⟨p, O, rfl, hD1, hO1, hb1⟩
      go_wp2_with fail
      refine (alive_any w1).mono ?_
      rintro e w2 ⟨rfl, hb2⟩
      have hD2 := hD1.below hb2
      have hB2 := hb1.trans (hb2.mono hb1.size)
      have hO2 : ∀ k, O k → w.heap.size ≤ k ∧ k < w2.heap.size := fun k hk => by have := hO1 k hk; have := hb2.size; omega
      clear hD1 hO1 hb1 hb2
      go_wp2_with fail
      go_loopw [23] (fun i wr => ∃ (k : Nat) (O : Nat → Prop) (st : DSt), i = .int .i64 k ∧ k ≤ R ∧ DiskIs O wr p st ∧ (∀ k, O k → w.heap.size ≤ k ∧ k < wr.heap.size) ∧ FullSt st R k ∧ Below w.heap.size w wr) (fun i _ => R - (intOf i).toNat)
      case atStart => exact ⟨0, O, _, rfl, Nat.zero_le _, hD2, hO2, full_zero R, hB2⟩
      case round =>
        clear hD2 hO2 hB2
        obtain ⟨k, O, st, rfl, hk, hD, hO, hS, hB⟩ := hrel
        have e1 := hS.room
        have e2 := hS.steps
        have e3 := hS.left
        have e5 := hS.C
        by_cases hlt : (k : Int) < (R : Int)
        · have hm : (k : Int).tmod 3 = ((k % 3 : Nat) : Int) := by rw [Int.tmod_eq_emod_of_nonneg (by omega)]; omega
          obtain ⟨q, hq⟩ : ∃ q : Nat, k % 3 = q := ⟨_, rfl⟩
          rw [hq] at hm
          have hwq : IntKind.u64.wrap (q : Int) = (q : Int) := by rw [IntKind.wrap_u64]; omega
          have hn := hS.N q
          go_wp2_with fail
          refine (write_good O p st q k _ [] _ hD (fun k hk => (hO k hk).2) (Ints.nil _ _) (fun b o n c hv => by simp at hv) (by simp) (wf_u64 (by omega) (by omega)) (wf_i64 (by omega) (by omega)) hS.dead (by omega) (by omega) (by simp) (.inr (by omega)) (by omega) (by omega) (by omega) (by omega) (by omega) (fun Lv sb hh => by rw [hS.F _ _ (Int.le_refl _)] at hh; cases hh)).mono ?_
          rintro e w3 ⟨rfl, K3, O3, hD3, hO3⟩
          have hS3 := full_next hS
          rw [hq] at hS3
          rw [hS3.dead]
          go_wp2_with fail
          exact ⟨⟨k + 1, O3, _, by go_num, by omega, hD3, fun x hx => (by rcases hO3 x hx with h | h; (have := hO x h; have := K3.size; omega); (have := hB.size; omega)), hS3, K3.below hB hB.size (fun x hx => (hO x hx).1)⟩, by simp [intOf]; omega⟩
        · have hke : k = R := by omega
          subst hke
          have hroom0 : st.room = 0 := by omega
          have hval : (if st.dead = true then (30 : Int) else if ((9 : Int) < 0 ∨ (65536 : Int) ≤ 9 ∨ 64 < ([] : List Int).length) then 31 else 32) = 32 := by rw [hS.dead]; simp
          have hN0 := hS.N0
          have hfd : (stepF st).dead = false := by unfold stepF; simp [e3]
          have ff1 : (freeF st 0).room = (((k + 2) / 3 : Nat) : Int) := by show st.room + (st.N 0 : Int) = _; rw [hroom0, hN0]; omega
          have ff2 : (freeF st 0).steps = st.steps + 1 := rfl
          have ff3 : (freeF st 0).left = -1 := by show (stepF st).left = -1; unfold stepF; simp [e3]
          have ff4 : (freeF st 0).dead = false := hfd
          have ff5 : (freeF st 0).F 9 9 = none := by show (if (9 : Int) = 0 then (fun _ => none) else st.F 9) 9 = none; rw [if_neg (by decide)]; exact hS.F9 9
          have ff6 : (freeF st 0).N 9 ≤ 300 := by show updN (stepF st).N 0 0 9 ≤ 300; unfold updN; rw [if_neg (by decide)]; have := hS.N 9; show st.N 9 ≤ 300; omega
          have ff7 : (freeF st 0).C ≤ 300 := by show (if (stepF st).A 0 = true then st.C - 1 else st.C) ≤ 300; split <;> omega
          obtain ⟨z, hz⟩ : ∃ z : Nat, (k + 2) / 3 = z := ⟨_, rfl⟩
          rw [hz] at ff1
          have hk2 : IntKind.i64.wrap ((k : Int) + 2) = (k : Int) + 2 := IntWalk.i64_in _ (by omega)
          have htd : ((k : Int) + 2).tdiv 3 = (z : Int) := by rw [Int.tdiv_eq_ediv_of_nonneg (by omega)]; omega
          have hzw : IntKind.i64.wrap (z : Int) = (z : Int) := IntWalk.i64_in _ (by omega)
          have HK2 := Lib.hid hk2
          have HZW := Lib.hid hzw
          clear hk2 hzw
          go_wp2_with fail
          refine (room_any O p st _ hD).mono ?_
          rintro e wr ⟨rfl, rfl⟩
          rw [hroom0]
          go_wp2_with fail
          refine (write_bad O p st 9 9 _ [] _ hD (Ints.nil _ _) (by decide) (by decide) (.inr (.inr ⟨hS.F9 9, hroom0⟩))).mono ?_
          rintro e w3 ⟨he, hb3⟩
          rw [hval] at he
          subst he
          have hD3 := hD.below hb3
          have hO3 : ∀ x, O x → w.heap.size ≤ x ∧ x < w3.heap.size := fun x hx => by have := hO x hx; have := hb3.size; omega
          have hB3 := hB.trans (hb3.mono hB.size)
          go_wp2_with fail
          refine (free_good O p st 0 w3 hD3 (by decide) (by omega) (by omega) hS.dead hfd (by omega) (by omega)).mono ?_
          rintro e w4 ⟨rfl, hD4, K4⟩
          have hO4 : ∀ x, O x → w.heap.size ≤ x ∧ x < w4.heap.size := fun x hx => by have := hO3 x hx; have := K4.size; omega
          have hB4 := K4.below hB3 hB3.size (fun x hx => (hO3 x hx).1)
          go_wp2_with fail
          refine (room_any O p _ _ hD4).mono ?_
          rintro e w4 ⟨rfl, rfl⟩
          rw [ff1]
          have hk2 := HK2.out
          have hzw := HZW.out
          by_cases hz0 : k = 0
          · have hkz : ((k : Int) == 0) = true := by rw [beq_iff_eq]; omega
            go_wp2_with fail
            go_ret
            exact ⟨ret_bool (by simp), hB4⟩
          · have hkz : ((k : Int) == 0) = false := by rw [beq_eq_false_iff_ne]; omega
            go_wp2_with fail
            refine (write_good O p (freeF st 0) 9 9 _ [] _ hD4 (fun k hk => (hO4 k hk).2) (Ints.nil _ _) (fun b o n c hv => by simp at hv) (by simp) (by decide) (by decide) ff4 (by decide) (by decide) (by simp) (.inr (by omega)) (by omega) (by omega) (by omega) (by omega) (by omega) (fun Lv sb hh => by rw [ff5] at hh; cases hh)).mono ?_
            rintro e w5 ⟨rfl, K5, O5, _, _⟩
            obtain ⟨_, _, _, _, _, hdd, _⟩ := write_new (a := 9) (n := 9) (l := []) ff5 (by rw [ff3]; decide) (by rw [ff3]; decide)
            rw [hdd]
            go_wp2_with fail
            go_ret
            exact ⟨ret_bool (by simp), K5.below hB4 hB4.size (fun x hx => (hO4 x hx).1)⟩
end Go.Proofs.Yteidmneenfdafaa.K
