/-
  A sector that is not there; slices.Equal and slices.Clone of bytes.
-/
import Derived.Test.YtfoogbchajgepaaSloSec
import Derived.Deep.QuietTactic
import Derived.Lib.SliceRun
import Derived.BigQuiet
namespace Go.Proofs.Ytfoogbchajgepaa.S
open Go.RowKit
open Aid K
set_option linter.unusedSimpArgs false
set_option linter.unusedVariables false

set_option maxRecDepth 100000 in
set_option maxHeartbeats 1000000 in
theorem read_none (O : Nat → Prop) (p : Nat) (st : DSt) (area n : Int) (w : World) (h : DiskIs O w p st) (ha : (Lit.int .u64 area).wf = true) (hn : (Lit.int .i64 n).wf = true) (hF : st.F area n = none) :
    Calls Try.prog 13 #[.pointer (some ⟨p, 0, none⟩), .int .u64 area, .int .i64 n] w fun e w' => e = .returned (.tuple #[.slice none 0 0, .bool false]) ∧ Below w.heap.size w w' := by
  obtain ⟨m, G, hD⟩ := h
  obtain ⟨c0, c1, c2, c3, c4⟩ := hD.cells
  have hL1 := hD.area ha
  obtain ⟨sv, sb, hL2, hsv⟩ := hD.sector (a := area) hn
  rw [hF] at hL2
  simp only [Option.isSome_none] at hL2
  have hb : ∀ sv : Value, Below w.heap.size w (w.alloc (.cells #[sv, .bool sb] 69)) := fun sv => (Below.refl _ _).alloc (Nat.le_refl _) _
  obtain ⟨a, l, c, rfl⟩ : ∃ a l c, sv = .slice a l c := by
    rcases hsv with ⟨_, e, _⟩ | ⟨s', e, _⟩
    · exact ⟨_, _, _, e⟩
    · rw [hF] at e; cases e
  clear hsv
  go_enter Try.func13, Try.ntmps13
  go_wp2_with fail
  go_ret2
  exact ⟨rfl, hb _⟩

theorem ints_slice {w : World} {k : IntKind} {v : Value} {l : List Int} (h : Ints w k v l) : ∃ a c, v = .slice a l.length c ∧ (a = none → l.length = 0 ∧ c = 0) ∧ ∀ j, j < l.length → ∃ b o, a = some ⟨b, o, none⟩ ∧ b < w.heap.size ∧ w.cell? ⟨b, o + j, none⟩ = some (.int k (l.getD j 0)) := by
  obtain ⟨_, ⟨rfl, rfl | ⟨a, c, rfl⟩⟩ | ⟨b, o, c, rfl, hlt, hc⟩⟩ := h
  · exact ⟨_, _, rfl, fun _ => ⟨rfl, rfl⟩, fun j hj => by simp at hj⟩
  · exact ⟨_, _, rfl, fun e => by simp at e, fun j hj => by simp at hj⟩
  · exact ⟨_, _, rfl, fun e => by simp at e, fun j hj => ⟨b, o, rfl, hlt, hc j hj⟩⟩
def eqTo (l m : List Int) (i : Nat) : Prop := ∀ j, j < i → l.getD j 0 = m.getD j 0
set_option maxRecDepth 100000 in
set_option maxHeartbeats 2000000 in
theorem equal_any (v u : Value) (l m : List Int) (w : World) (hl : Ints w .u8 v l) (hm : Ints w .u8 u m) : Calls Try.prog 35 #[v, u] w fun e w' => e = .returned (.bool (decide (l = m))) ∧ Below w.heap.size w w' := by
  have hn := hl.1
  have hn' := hm.1
  obtain ⟨a, c, rfl, _, hlc⟩ := ints_slice hl
  obtain ⟨a', c', rfl, _, hmc⟩ := ints_slice hm
  by_cases hlen : l.length = m.length
  · have hne : ((l.length : Int) == (m.length : Int)) = true := by rw [beq_iff_eq]; omega
    obtain ⟨N, hN⟩ : ∃ N, l.length = N := ⟨_, rfl⟩
    rw [← hlen]
    rw [← hlen] at hmc
    rw [hN] at hlc hmc hn ⊢
    go_enter Try.func35, Try.ntmps35
    go_wp2_with fail
    go_loopw [13] (fun x13 wr => ∃ i : Nat, x13 = .int .i64 i ∧ i ≤ N ∧ eqTo l m i ∧ Below w.heap.size w wr) (fun x13 _ => N - (intOf x13).toNat)
    case atStart => exact ⟨0, rfl, Nat.zero_le _, fun j hj => by omega, Below.refl _ _⟩
    case round =>
      obtain ⟨i, rfl, hi, hE, hB⟩ := hrel
      by_cases hlt : (i : Int) < (N : Int)
      · have hiN : i < N := by omega
        obtain ⟨b1, o1, rfl, z1, x1⟩ := hlc i hiN
        obtain ⟨b2, o2, rfl, z2, x2⟩ := hmc i hiN
        have y1 := (hB.cell (p := ⟨b1, o1 + i, none⟩) z1).trans x1
        have y2 := (hB.cell (p := ⟨b2, o2 + i, none⟩) z2).trans x2
        clear x1 x2 hlc hmc
        obtain ⟨p, hp⟩ : ∃ p, l.getD i 0 = p := ⟨_, rfl⟩
        obtain ⟨q, hq⟩ : ∃ q, m.getD i 0 = q := ⟨_, rfl⟩
        rw [hp] at y1
        rw [hq] at y2
        go_wp2_with fail
        go_quiet (fail)
        by_cases hpq : p = q
        · have hx : (p == q) = true := by rw [beq_iff_eq]; exact hpq
          go_wp2_with fail
          refine ⟨⟨i + 1, by congr 1, by omega, fun j hj => ?_, below_drewN hB nq⟩, by simp [intOf]; omega⟩
          by_cases hji : j = i
          · subst hji; rw [hp, hq]; exact hpq
          · exact hE j (by omega)
        · have hx : (p == q) = false := by rw [beq_eq_false_iff_ne]; exact hpq
          have hd : decide (l = m) = false := decide_eq_false (fun e => by rw [e, hq] at hp; exact hpq hp.symm)
          go_wp2_with fail
          rw [hd]
          go_ret
          exact ⟨rfl, below_drewN hB nq⟩
      · go_wp2_with fail
        go_ret
        refine ⟨?_, hB⟩
        have hiN : i = N := by omega
        have hd : decide (l = m) = true := decide_eq_true (by
          refine List.ext_getElem hlen fun j h1 h2 => ?_
          have := hE j (by omega)
          rw [List.getD_eq_getElem?_getD, List.getD_eq_getElem?_getD, List.getElem?_eq_getElem h1, List.getElem?_eq_getElem h2] at this
          exact this)
        rw [hd]; rfl
  · have hne : ((l.length : Int) == (m.length : Int)) = false := by rw [beq_eq_false_iff_ne]; omega
    have hd : decide (l = m) = false := decide_eq_false (fun e => hlen (by rw [e]))
    rw [hd]
    go_enter Try.func35, Try.ntmps35
    go_wp2_with fail
    go_ret
    exact ⟨rfl, Below.refl _ _⟩

/-- bytes that lie in memory made since -/
def NewInts (B : Nat) (w : World) (v : Value) (l : List Int) : Prop := Ints w .u8 v l ∧ ∀ b o n c, v = .slice (some ⟨b, o, none⟩) n c → n ≠ 0 → B ≤ b
theorem info_u8 : ∃ i, Try.prog.info? 5 = some i ∧ i.zero = some (.int .u8 0) ∧ i.size = 1 ∧ i.bytes = 1 := by
  have h : (Try.prog.info? 5).map (fun i => (i.zero, i.size, i.bytes)) = some (some (.int .u8 0), 1, 1) := by kernel_rfl
  cases hq : Try.prog.info? 5 with
  | none => rw [hq] at h; cases h
  | some i =>
    rw [hq] at h
    simp at h
    exact ⟨i, rfl, h.1, h.2.1, h.2.2⟩
set_option maxRecDepth 100000 in
set_option maxHeartbeats 2000000 in
theorem clone_any (v : Value) (l : List Int) (w : World) (hl : Ints w .u8 v l) (h63 : l.length ≤ 1000) : Calls Try.prog 24 #[v] w fun e w' => ∃ v', e = .returned v' ∧ NewInts w.heap.size w' v' l ∧ Below w.heap.size w w' := by
  obtain ⟨a, c, rfl, h0, _⟩ := ints_slice hl
  obtain ⟨iu, hiu, hzu, hsu, hbu⟩ := info_u8
  cases a with
  | none =>
    obtain ⟨h1, rfl⟩ := h0 rfl
    obtain rfl : l = [] := List.eq_nil_of_length_eq_zero h1
    have hq : ∀ w : World, (binOp .eql 31 (.slice none 0 0) (.slice none 0 0)).run Try.prog w = .ok (.bool true) w := fun w => Lib.run_eql_slice_nil w _ _ none 0 0 0 0 Try.underlying31
    go_enter Try.func24, Try.ntmps24
    go_wp2_with fail
    go_ret
    exact ⟨_, rfl, ⟨Ints.nil _ _, fun b o n c e => by simp at e⟩, Below.refl _ _⟩
  | some ad =>
    have hown : (w.alloc (.cells #[] 5)).ownsRow w.heap.size 5 1 (.slice (some ⟨w.heap.size, 0, none⟩) 0 0) 0 [] := World.ownsRow_made w #[] 0 (Nat.le_refl _) (by unfold maxLen; omega) (by simp)
    have hbX : Below w.heap.size w (w.alloc (.cells #[] 5)) := (Below.refl _ _).alloc (Nat.le_refl _) _
    have hIX := hl.below hbX
    have hq : ∀ w : World, (binOp .eql 31 (.slice (some ad) l.length c) (.slice none 0 0)).run Try.prog w = .ok (.bool false) w := fun w => Lib.run_eql_slice_nil w _ _ (some ad) _ _ 0 0 Try.underlying31
    go_enter Try.func24, Try.ntmps24
    go_wp2_with (first | (at_builtin; refine wpList_append_ints _ (by rfl) _ _ 31 rfl w.heap.size 5 iu (.int .u8 0) 1 Try.underlying31 hiu hzu hsu hbu rfl .u8 _ 0 [] rfl hown _ l rfl hIX (by unfold maxLen; omega) (by omega) (by simp) ?_; intro v' w2 hown2 hb2))
    go_ret
    rw [Nat.zero_add, List.nil_append] at hown2
    refine ⟨v', rfl, ⟨Ints.own hown2 (by omega), fun b o n c e hn => ?_⟩, hbX.trans hb2⟩
    rcases hown2.2 with ⟨h1, _⟩ | ⟨q, cap, cur, h1, hb, _⟩
    · rw [e] at h1; simp at h1
    · rw [e] at h1; simp at h1; omega
end Go.Proofs.Ytfoogbchajgepaa.S
