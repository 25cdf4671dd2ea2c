/-
  The walk of Open, of Value and Number.
-/
import Derived.Test.YtfoogbchajgepaaSloRead
namespace Go.Proofs.Ytfoogbchajgepaa.S
open Go.RowKit
open Aid K
set_option linter.unusedSimpArgs false
set_option linter.unusedVariables false

/-- what a slot is -/
def SlotIn (O : Nat → Prop) (w : World) (s p : Nat) (area : Int) (num : Nat) (val : List Int) : Prop :=
  ∃ vv, Blk w s 60 #[.pointer (some ⟨p, 0, none⟩), .int .u64 area, vv, .int .u64 (num : Nat)] ∧ Ints w .u8 vv val ∧ By val ∧ val.length ≤ 48 ∧ ¬ O s ∧ ∀ b o n c, vv = .slice (some ⟨b, o, none⟩) n c → n ≠ 0 → ¬ O b ∧ b ≠ s
theorem says_ok {l : List Int} {i : Nat} (hb : By l) : (saysF l i).1 < 18446744073709551616 ∧ By (saysF l i).2 ∧ (saysF l i).2.length ≤ 48 := by
  unfold saysF
  have hz : (0 : Nat) < 18446744073709551616 ∧ By [] ∧ ([] : List Int).length ≤ 48 := ⟨by decide, fun x hx => (by cases hx), by decide⟩
  split
  · exact hz
  · rename_i h
    split
    · exact hz
    · refine ⟨?_, fun y hy => hb y (List.mem_of_mem_drop (List.mem_of_mem_take hy)), ?_⟩
      · have := undig_lt (l := l.take 8) (fun y hy => hb y (List.mem_of_mem_take hy))
        have h2 : (l.take 8).length ≤ 8 := by rw [List.length_take]; exact Nat.min_le_left _ _
        exact Nat.lt_of_lt_of_le this (Nat.le_trans (Nat.pow_le_pow_right (by decide) h2) (by decide))
      · unfold valOf
        rw [List.length_take]
        have h3 : ¬ (48 < l.getD 8 0) := fun e => h (.inr e)
        refine Nat.le_trans (Nat.min_le_left _ _) ?_
        omega
/-- the best so far -/
def openK (st : DSt) (a : Int) : Nat → Nat × List Int
  | 0 => (0, [])
  | i + 1 => if (openK st a i).1 < (saysF (lastI st a (i : Nat)) i).1 then saysF (lastI st a (i : Nat)) i else openK st a i
theorem openK_ok (st : DSt) (a : Int) : ∀ i, (openK st a i).1 < 18446744073709551616 ∧ By (openK st a i).2 ∧ (openK st a i).2.length ≤ 48
  | 0 => ⟨(by decide : (0:Nat) < 18446744073709551616), fun x hx => (nomatch hx), Nat.zero_le _⟩
  | i + 1 => by
    unfold openK
    split
    · exact says_ok (lastI_by _ _ _)
    · exact openK_ok st a i

set_option maxRecDepth 100000 in
set_option maxHeartbeats 4000000 in
theorem open_any (O : Nat → Prop) (p : Nat) (st : DSt) (area : Int) (w : World) (h : DiskIs O w p st) (hO : ∀ k, O k → k < w.heap.size) (hd : st.dead = false) (ha : (Lit.int .u64 area).wf = true) (h64 : ∀ i : Nat, i < 2 → lastI st area i = [] ∨ (lastI st area i).length = 64) :
    Calls Try.prog 9 #[.pointer (some ⟨p, 0, none⟩), .int .u64 area] w fun e w' => ∃ s, e = .returned (.tuple #[.pointer (some ⟨s, 0, none⟩), .int .i64 0]) ∧ SlotIn O w' s p area (openK st area 2).1 (openK st area 2).2 ∧ (w.heap.size ≤ s ∧ s < w'.heap.size) ∧ Below w.heap.size w w' := by
  obtain ⟨s, hs⟩ : ∃ s, w.heap.size = s := ⟨_, rfl⟩
  go_enter Try.func9, Try.ntmps9
  go_wp2_with fail
  refine (dead_any O p st w h).mono ?_
  rintro e w1 ⟨rfl, rfl⟩
  rw [hd]
  have hbx : Below w1.heap.size w1 (w1.alloc (.cells #[.pointer (some ⟨p, 0, none⟩), .int .u64 area, .slice none 0 0, .int .u64 0] 60)) := (Below.refl _ _).alloc (Nat.le_refl _) _
  have hB0 : Blk (w1.alloc (.cells #[.pointer (some ⟨p, 0, none⟩), .int .u64 area, .slice none 0 0, .int .u64 0] 60)) s 60 #[.pointer (some ⟨p, 0, none⟩), .int .u64 area, .slice none 0 0, .int .u64 0] := by rw [← hs]; exact Blk.alloc_new _ _ _
  have hs' : ¬ O s := fun hh => by have := hO s hh; omega
  go_wp2_with fail
  go_loopw [16] (fun x16 wr => ∃ i : Nat, x16 = .int .i64 i ∧ i ≤ 2 ∧ SlotIn O wr s p area (openK st area i).1 (openK st area i).2 ∧ Below w1.heap.size w1 wr) (fun x16 _ => 2 - (intOf x16).toNat)
  case atStart => exact ⟨0, rfl, by omega, ⟨_, hB0, Ints.nil _ _, fun x hx => (nomatch hx), Nat.zero_le _, hs', fun b o n c e => by simp at e⟩, hbx⟩
  case round =>
    obtain ⟨i, rfl, hi, ⟨vv, hB, hI, hby, hlen, _, hnv⟩, hBel⟩ := hrel
    by_cases hlt : (i : Int) < 2
    · have hi2 : i < 2 := by omega
      have hDr := h.below hBel
      go_wp2_with fail
      refine (sread_any O p s st area vv _ i wr hDr hB ha hi2 (h64 i hi2)).mono ?_
      rintro e w2 ⟨v2, rfl, ⟨hI2, hf2⟩, hb2⟩
      have hnext : openK st area (i + 1) = if (openK st area i).1 < (saysF (lastI st area (i : Nat)) i).1 then saysF (lastI st area (i : Nat)) i else openK st area i := rfl
      have hok := says_ok (l := lastI st area i) (i := i) (lastI_by _ _ _)
      have hok0 := openK_ok st area i
      obtain ⟨R, hR⟩ : ∃ R, saysF (lastI st area (i : Nat)) i = R := ⟨_, rfl⟩
      obtain ⟨K, hK⟩ : ∃ K, openK st area i = K := ⟨_, rfl⟩
      rw [hR, hK] at hnext
      rw [hR] at hI2 hok ⊢
      rw [hK] at hB hI hby hlen hok0
      obtain ⟨rn, rv⟩ := R
      obtain ⟨kn, kv⟩ := K
      simp only at hnext hI2 hok hB hI hby hlen hok0
      obtain ⟨va, vc, rfl, _⟩ := ints_slice hI2
      have hB2 := Blk.below hB hb2 (Blk.lt hB)
      have hc2 : w2.cell? ⟨s, 2, none⟩ = some vv := by rw [Blk.cell hB2]; rfl
      have hc3 : w2.cell? ⟨s, 3, none⟩ = some (.int .u64 (kn : Nat)) := by rw [Blk.cell hB2]; rfl
      have hf2' := Blk.free hB2 2
      have hf3' := Blk.free hB2 3
      have hBel2 := hBel.trans (hb2.mono hBel.size)
      have hvl : va = none → rv.length = 0 := by
        intro e; subst e
        rcases hI2.2 with ⟨h1, _⟩ | ⟨b, o, c, h1, _⟩
        · rw [h1]; rfl
        · simp at h1
      by_cases hgt : (kn : Int) < (rn : Int)
      · rw [if_pos (by simpa using hgt)] at hnext
        go_wp2_with fail
        have hB3 := (hB2.set 3 (.int .u64 (rn : Nat))).set 2 (.slice va rv.length vc)
        have hK3 : Keeps (fun k => k = s) w2 ((w2.setCell ⟨s, 3, none⟩ (.int .u64 (rn : Nat))).setCell ⟨s, 2, none⟩ (.slice va rv.length vc)) := set_keeps (set_keeps (Keeps.refl _ _) rfl) rfl
        have hsz : w1.heap.size ≤ s := by omega
        have hI3 : Ints ((w2.setCell ⟨s, 3, none⟩ (.int .u64 (rn : Nat))).setCell ⟨s, 2, none⟩ (.slice va rv.length vc)) .u8 (.slice va rv.length vc) rv := by
          rcases hI2.2 with ⟨h1, h2⟩ | ⟨b, o, c, h1, h2, h3⟩
          · exact ⟨hI2.1, .inl ⟨h1, h2⟩⟩
          · refine ⟨hI2.1, .inr ⟨b, o, c, h1, by rw [World.size_setCell, World.size_setCell]; exact h2, fun j hj => ?_⟩⟩
            have hbs : b ≠ s := by
              have := hf2 b o _ c h1 (by omega)
              have := Blk.lt hB
              omega
            rw [hK3.cell (p := ⟨b, o + j, none⟩) h2 hbs]
            exact h3 j hj
        refine ⟨⟨i + 1, by congr 1, by omega, ⟨_, by rw [hnext]; exact hB3, by rw [hnext]; exact hI3, by rw [hnext]; exact hok.2.1, by rw [hnext]; exact hok.2.2, hs', fun b o n c e hn => ?_⟩, hK3.below hBel2 (by have := hBel2.size; omega) (fun k hk => by omega)⟩, by simp [intOf]; omega⟩
        have := hf2 b o n c e hn
        have := Blk.lt hB
        exact ⟨fun hh => by have := hO b hh; have := hBel.size; omega, by omega⟩
      · rw [if_neg (by simpa using hgt)] at hnext
        go_wp2_with fail
        refine ⟨⟨i + 1, by congr 1, by omega, ⟨_, by rw [hnext]; exact hB2, by rw [hnext]; exact hI.below hb2, by rw [hnext]; exact hby, by rw [hnext]; exact hlen, hs', fun b o n c e hn => hnv b o n c e hn⟩, hBel2⟩, by simp [intOf]; omega⟩
    · go_wp2_with fail
      go_ret2
      have hi2 : i = 2 := by omega
      subst hi2
      exact ⟨s, rfl, ⟨_, hB, hI, hby, hlen, hs', hnv⟩, ⟨by omega, Blk.lt hB⟩, by rw [← hs]; exact hBel⟩
end Go.Proofs.Ytfoogbchajgepaa.S
