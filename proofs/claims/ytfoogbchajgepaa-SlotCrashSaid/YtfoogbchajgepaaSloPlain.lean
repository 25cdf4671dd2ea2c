/-
  SlotAgain: the plain laws.
-/
import Derived.Test.YtfoogbchajgepaaSloApart
namespace Go.Proofs.Ytfoogbchajgepaa.S
open Go.RowKit
open Aid K
set_option linter.unusedSimpArgs false
set_option linter.unusedVariables false

/-- what lies in the area behind saves -/
structure AgP (st : DSt) (num : Nat) (now was : List Int) : Prop where
  bn : By now
  ln : now.length ≤ 48
  bw : By was
  lw : was.length ≤ 48
  z0 : num = 0 → now = []
  z1 : num ≤ 1 → was = []
  c0 : lastI st 1 (num % 2 : Nat) = if num = 0 then [] else secL num now
  c1 : lastI st 1 ((num + 1) % 2 : Nat) = if num ≤ 1 then [] else secL (num - 1) was
  fs : ∀ x, (st.F 1 x).isSome = true → lastI st 1 x ≠ []
theorem agp_new (R : Int) : AgP (newSt R) 0 [] [] :=
  ⟨fun x hx => (nomatch hx), Nat.zero_le _, fun x hx => (nomatch hx), Nat.zero_le _, fun _ => rfl, fun _ => rfl, rfl, rfl, fun x h => (nomatch h)⟩
theorem sec_ne (n : Nat) {v : List Int} (h : v.length ≤ 48) : secL n v ≠ [] := fun e => by have := secL_len (n := n) (v := v) (by omega); rw [e] at this; cases this
theorem AgP.c64 {st : DSt} {num : Nat} {now was : List Int} (h : AgP st num now was) (i : Nat) (hi : i < 2) : lastI st 1 (i : Nat) = [] ∨ (lastI st 1 (i : Nat)).length = 64 := by
  have hl := h.ln
  have hw := h.lw
  by_cases e : i = num % 2
  · subst e
    rw [h.c0]
    split
    · exact .inl rfl
    · exact .inr (secL_len (by omega))
  · obtain rfl : i = (num + 1) % 2 := by omega
    rw [h.c1]
    split
    · exact .inl rfl
    · exact .inr (secL_len (by omega))
theorem AgP.open_ {st : DSt} {num : Nat} {now was : List Int} (h : AgP st num now was) (hn : num < 18446744073709551616) : openK st 1 2 = (num, now) := by
  have h0 := h.c0
  have h1 := h.c1
  by_cases e : num = 0
  · subst e
    rw [h.z0 rfl]
    rw [if_pos rfl] at h0
    rw [if_pos (by decide)] at h1
    refine open_none ?_ ?_
    · have : lastI st 1 0 = [] := h0
      rw [this, says_nil]
    · have : lastI st 1 1 = [] := h1
      rw [this, says_nil]
  · rw [if_neg e] at h0
    refine open_is (by omega) (by rw [h0]; exact says_sec hn h.ln) ?_
    rw [h1]
    split
    · rw [says_nil]; show 0 < num; omega
    · have := says_sec (n := num - 1) (v := was) (by omega) h.lw
      rw [show (num + 1) % 2 = (num - 1) % 2 by omega, this]
      show num - 1 < num
      omega
theorem AgP.save {st : DSt} {num : Nat} {now was l : List Int} (h : AgP st num now was) (hl : l.length ≤ 48) (hb : By l) (hd : (saveF st 1 num l).dead = false) : AgP (saveF st 1 num l) (num + 1) l now := by
  have hla := fun y x => last_save (st := st) (a := 1) (num := num) hl hb y x
  have hln := h.ln
  refine ⟨hb, hl, h.bn, h.ln, fun e => by omega, fun e => h.z0 (by omega), ?_, ?_, fun x hx => ?_⟩
  · rw [hla, if_pos ⟨rfl, rfl⟩, if_neg (by omega)]
  · rw [hla, if_neg (by rintro ⟨_, e⟩; omega), show (num + 1 + 1) % 2 = num % 2 by omega, h.c0]
    by_cases e : num = 0
    · rw [if_pos e, if_pos (by omega)]
    · rw [if_neg e, if_neg (by omega), Nat.add_sub_cancel]
  · rw [hla]
    split
    · exact sec_ne _ hl
    · rename_i hne
      have hne : x ≠ ((num + 1) % 2 : Nat) := fun e => hne ⟨rfl, e⟩
      refine h.fs x ?_
      rw [save_well hd] at hx
      have hx2 : ((writeF st 1 ((num + 1) % 2 : Nat) (secL (num + 1) l)).F 1 x).isSome = true := by
        cases hq : (writeF st 1 ((num + 1) % 2 : Nat) (secL (num + 1) l)).F 1 x with
        | none => rw [sync_F_none _ _ _ hq] at hx; cases hx
        | some _ => rfl
      rw [write_F] at hx2
      unfold updF at hx2
      rw [if_neg (fun e => hne e.2)] at hx2
      exact hx2
/-- one bit is another one: the value, or the one ahead of it -/
theorem AgP.flip {st : DSt} {num : Nat} {now was : List Int} (h : AgP st num now was) (hn : num < 18446744073709551616) {i j : Nat} {y : Int} (hi : i < 2) (hne0 : lastI st 1 (i : Nat) ≠ []) (hj : j < 64) (hy : 0 ≤ y ∧ y ≤ 255) (hne : y ≠ (lastI st 1 (i : Nat)).getD j 0) :
    ∃ m u, openK (writeF st 1 (i : Nat) ((lastI st 1 (i : Nat)).set j y)) 1 2 = (m, u) ∧ (u = now ∨ u = was) := by
  have hl := h.ln
  have hlw := h.lw
  have h0 := h.c0
  have h1 := h.c1
  obtain ⟨q, hq⟩ : ∃ q, (lastI st 1 (i : Nat)).set j y = q := ⟨_, rfl⟩
  have hlen : q.length = 64 := by
    rw [← hq, List.length_set]
    rcases h.c64 i hi with e | e
    · exact absurd e hne0
    · exact e
  have hby : By q := by
    rw [← hq]
    intro x hx
    rcases List.mem_or_eq_of_mem_set hx with h | h
    · exact lastI_by _ _ _ x h
    · rw [h]; exact hy
  have hla := fun y x => last_write (st := st) (a := 1) (n := (i : Nat)) hlen hby y x
  rw [hq]
  by_cases e : i = num % 2
  · subst e
    have hn0 : num ≠ 0 := fun e => hne0 (by rw [h0, if_pos e])
    rw [if_neg hn0] at h0
    have hbad : saysF q (num % 2) = (0, []) := by
      rw [← hq, h0]
      rw [h0] at hne
      exact says_flip hl h.bn hj hy hne
    have f0 : lastI (writeF st 1 (num % 2 : Nat) q) 1 (num % 2 : Nat) = q := by rw [hla, if_pos ⟨rfl, rfl⟩]
    have f1 : lastI (writeF st 1 (num % 2 : Nat) q) 1 ((num + 1) % 2 : Nat) = lastI st 1 ((num + 1) % 2 : Nat) := by rw [hla, if_neg (by rintro ⟨_, e⟩; omega)]
    by_cases e1 : num ≤ 1
    · obtain rfl : num = 1 := by omega
      refine ⟨0, [], open_none ?_ ?_, .inr (h.z1 (by omega)).symm⟩
      · have f1' : lastI (writeF st 1 (1 % 2 : Nat) q) 1 0 = lastI st 1 0 := f1
        have h1' : lastI st 1 0 = [] := h1
        rw [f1', h1', says_nil]
      · have f0' : lastI (writeF st 1 (1 % 2 : Nat) q) 1 1 = q := f0
        have hb' : saysF q 1 = (0, []) := hbad
        rw [f0', hb']
    · rw [if_neg e1] at h1
      have p1 : (num - 1) % 2 = (num + 1) % 2 := by omega
      have p2 : (num - 1 + 1) % 2 = num % 2 := by omega
      refine ⟨num - 1, was, open_is (by omega) ?_ ?_, .inr rfl⟩
      · rw [p1, f1, h1, ← p1]; exact says_sec (by omega) hlw
      · rw [p2, f0, hbad]; show 0 < num - 1; omega
  · obtain rfl : i = (num + 1) % 2 := by omega
    have hn1 : ¬ num ≤ 1 := fun e => hne0 (by rw [h1, if_pos e])
    rw [if_neg hn1] at h1
    rw [if_neg (by omega)] at h0
    have hbad : saysF q ((num + 1) % 2) = (0, []) := by
      rw [← hq, h1]
      rw [h1] at hne
      exact says_flip hlw h.bw hj hy hne
    have f0 : lastI (writeF st 1 ((num + 1) % 2 : Nat) q) 1 ((num + 1) % 2 : Nat) = q := by rw [hla, if_pos ⟨rfl, rfl⟩]
    have f1 : lastI (writeF st 1 ((num + 1) % 2 : Nat) q) 1 (num % 2 : Nat) = lastI st 1 (num % 2 : Nat) := by rw [hla, if_neg (by rintro ⟨_, e⟩; omega)]
    refine ⟨num, now, open_is (by omega) ?_ ?_, .inl rfl⟩
    · rw [f1, h0]; exact says_sec hn hl
    · rw [f0, hbad]; show 0 < num; omega
/-- a bit that is turned -/
theorem bit_turned {x k : Nat} (hx : x < 256) (hk : k < 8) : x ^^^ 2 ^ k < 256 ∧ x ^^^ 2 ^ k ≠ x := by
  refine ⟨Nat.xor_lt_two_pow (n := 8) hx (Nat.pow_lt_pow_right (by decide) hk), fun e => ?_⟩
  have h1 := congrArg (fun z => x ^^^ z) e
  simp only [← Nat.xor_assoc, Nat.xor_self, Nat.zero_xor] at h1
  have := Nat.two_pow_pos k
  omega

/-- values that came in: a slice of slices of bytes -/
def ValOk (w : World) (x : Value × List Int) : Prop := Ints w .u8 x.1 x.2 ∧ By x.2
def ValsAre (w : World) (v : Value) (n : Nat) (f : Nat → Value × List Int) : Prop := n ≤ 8796093022000 ∧ ∃ a cap, v = .slice a n cap ∧ ∀ j, j < n → ∃ b o, a = some ⟨b, o, none⟩ ∧ b < w.heap.size ∧ w.cell? ⟨b, o + j, none⟩ = some (f j).1 ∧ ValOk w (f j)
theorem ValOk.below {w w' : World} {x : Value × List Int} (h : ValOk w x) (hb : Below w.heap.size w w') : ValOk w' x := ⟨h.1.below hb, h.2⟩
end Go.Proofs.Ytfoogbchajgepaa.S
