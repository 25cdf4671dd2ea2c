/-
  LetMath + LetFirst + LetRunes + LetRWrite + LetRefA + LetRefB + LetTake + LetWord + LetSameM + LetLess + LetMathL + LetWrite + LetText.
-/
import Derived.Test.YtkibkbbjpgomlaaDoorWqA
import Derived.Lib.Hide
import Derived.Deep.RegionWith
import Derived.Deep.QuietTactic
import Derived.BigQuiet
namespace Go.Proofs.YtkibkbbjpgomlaaDoor.LM

def scalar (r : Int) : Bool := decide (0 ≤ r ∧ r ≤ 1114111 ∧ (r < 55296 ∨ 57343 < r))
theorem scalar_iff {r : Int} : scalar r = true ↔ 0 ≤ r ∧ r ≤ 1114111 ∧ (r < 55296 ∨ 57343 < r) := by simp [scalar]

/-- a byte -/
def by8 (x : Int) : UInt8 := UInt8.ofNat x.toNat
theorem by8_toNat {x : Int} (h0 : 0 ≤ x) (h : x < 256) : ((by8 x).toNat : Int) = x := by
  unfold by8
  rw [UInt8.toNat_ofNat']
  omega
theorem by8_toNat' {x : Int} (h0 : 0 ≤ x) (h : x < 256) : (by8 x).toNat = x.toNat := by
  have := by8_toNat h0 h
  omega
theorem eq_by8 {c : UInt8} {x : Int} (h : (c.toNat : Int) = x) : c = by8 x := by
  have h1 := c.toNat_lt
  apply UInt8.toNat_inj.1
  rw [by8_toNat' (by omega) (by omega)]
  omega

/-- the writing of a rune -/
def enc (r : Int) : List UInt8 :=
  if r < 128 then [by8 r]
  else if r < 2048 then [by8 (192 + r / 64), by8 (128 + r % 64)]
  else if r < 65536 then [by8 (224 + r / 4096), by8 (128 + r / 64 % 64), by8 (128 + r % 64)]
  else [by8 (240 + r / 262144), by8 (128 + r / 4096 % 64), by8 (128 + r / 64 % 64), by8 (128 + r % 64)]

theorem enc_len (r : Int) : 1 ≤ (enc r).length ∧ (enc r).length ≤ 4 := by
  unfold enc; (repeat' split) <;> simp

def lead (c : Nat) : Nat := if c < 128 then 1 else if c / 32 = 6 then 2 else if c / 16 = 14 then 3 else if c / 8 = 30 then 4 else 0
def least (n : Nat) : Int := if n = 2 then 128 else if n = 3 then 2048 else if n = 4 then 65536 else 0

/-- the bytes behind the first one, put to it; none: one of them is no such byte -/
def conts : List UInt8 → Int → Option Int
  | [], r => some r
  | d :: t, r => if d.toNat / 64 = 2 then conts t (r * 64 + (d.toNat : Int) % 64) else none

def lead0 (c : Nat) : Int := if c < 128 then c else if c / 32 = 6 then (c : Int) % 32 else if c / 16 = 14 then (c : Int) % 16 else (c : Int) % 8

/-- the rune with whose writing a text begins, and how many bytes that has; 0: none -/
def dec : List UInt8 → Int × Nat
  | [] => (0, 0)
  | c :: t =>
    if c.toNat < 128 then (c.toNat, 1)
    else if lead c.toNat = 0 ∨ t.length + 1 < lead c.toNat then (0, 0)
    else match conts (t.take (lead c.toNat - 1)) (lead0 c.toNat) with
      | none => (0, 0)
      | some r => if r < least (lead c.toNat) ∨ scalar r = false then (0, 0) else (r, lead c.toNat)

theorem dec_enc {r : Int} (h : scalar r = true) (t : List UInt8) : dec (enc r ++ t) = (r, (enc r).length) := by
  have hs := scalar_iff.1 h
  unfold enc
  split
  · rename_i h1
    have e := by8_toNat (x := r) (by omega) (by omega)
    simp only [List.cons_append, List.nil_append, dec, List.length_cons, List.length_nil]
    rw [if_pos (by omega), e]
  split
  · rename_i h0 h1
    have e1 := by8_toNat (x := 192 + r / 64) (by omega) (by omega)
    have e2 := by8_toNat (x := 128 + r % 64) (by omega) (by omega)
    have hl : lead (by8 (192 + r / 64)).toNat = 2 := by unfold lead; rw [if_neg (by omega), if_pos (by omega)]
    have hst : lead0 (by8 (192 + r / 64)).toNat = r / 64 := by unfold lead0; rw [if_neg (by omega), if_pos (by omega)]; omega
    simp only [List.cons_append, List.nil_append, dec, List.length_cons, List.length_nil, hl, hst]
    rw [if_neg (by omega), if_neg (by omega)]
    have hc : conts (List.take (2 - 1) (by8 (128 + r % 64) :: t)) (r / 64) = some r := by
      simp only [List.take_succ_cons, List.take_zero, conts, Nat.reduceSub]
      rw [if_pos (by omega)]
      congr 1; omega
    rw [hc]
    simp only [least, h, Bool.true_eq_false, or_false]
    rw [if_neg (by simp; omega)]
  split
  · rename_i h00 h0 h1
    have e1 := by8_toNat (x := 224 + r / 4096) (by omega) (by omega)
    have e2 := by8_toNat (x := 128 + r / 64 % 64) (by omega) (by omega)
    have e3 := by8_toNat (x := 128 + r % 64) (by omega) (by omega)
    have hl : lead (by8 (224 + r / 4096)).toNat = 3 := by unfold lead; rw [if_neg (by omega), if_neg (by omega), if_pos (by omega)]
    have hst : lead0 (by8 (224 + r / 4096)).toNat = r / 4096 := by unfold lead0; rw [if_neg (by omega), if_neg (by omega), if_pos (by omega)]; omega
    simp only [List.cons_append, List.nil_append, dec, List.length_cons, List.length_nil, hl, hst]
    rw [if_neg (by omega), if_neg (by omega)]
    have hc : conts (List.take (3 - 1) (by8 (128 + r / 64 % 64) :: by8 (128 + r % 64) :: t)) (r / 4096) = some r := by
      simp only [List.take_succ_cons, List.take_zero, conts, Nat.reduceSub]
      rw [if_pos (by omega), if_pos (by omega)]
      congr 1; omega
    rw [hc]
    simp only [least, h, Bool.true_eq_false, or_false]
    rw [if_neg (by simp; omega)]
  · rename_i h000 h00 h0
    have e1 := by8_toNat (x := 240 + r / 262144) (by omega) (by omega)
    have e2 := by8_toNat (x := 128 + r / 4096 % 64) (by omega) (by omega)
    have e3 := by8_toNat (x := 128 + r / 64 % 64) (by omega) (by omega)
    have e4 := by8_toNat (x := 128 + r % 64) (by omega) (by omega)
    have hl : lead (by8 (240 + r / 262144)).toNat = 4 := by unfold lead; rw [if_neg (by omega), if_neg (by omega), if_neg (by omega), if_pos (by omega)]
    have hst : lead0 (by8 (240 + r / 262144)).toNat = r / 262144 := by unfold lead0; rw [if_neg (by omega), if_neg (by omega), if_neg (by omega)]; omega
    simp only [List.cons_append, List.nil_append, dec, List.length_cons, List.length_nil, hl, hst]
    rw [if_neg (by omega), if_neg (by omega)]
    have hc : conts (List.take (4 - 1) (by8 (128 + r / 4096 % 64) :: by8 (128 + r / 64 % 64) :: by8 (128 + r % 64) :: t)) (r / 262144) = some r := by
      simp only [List.take_succ_cons, List.take_zero, conts, Nat.reduceSub]
      rw [if_pos (by omega), if_pos (by omega), if_pos (by omega)]
      congr 1; omega
    rw [hc]
    simp only [least, h, Bool.true_eq_false, or_false]
    rw [if_neg (by simp; omega)]

theorem conts_some {l : List UInt8} {r x : Int} (h : conts l r = some x) : (∀ d ∈ l, d.toNat / 64 = 2) ∧ x = l.foldl (fun r d => r * 64 + (d.toNat : Int) % 64) r := by
  induction l generalizing r with
  | nil => simp [conts] at h; simp [h]
  | cons d t ih =>
    unfold conts at h
    split at h
    · rename_i hd
      obtain ⟨h1, h2⟩ := ih h
      exact ⟨by simpa using ⟨hd, h1⟩, by simpa using h2⟩
    · cases h

/-- what begins with a rune's writing -/
theorem dec_some {s : List UInt8} {r : Int} {n : Nat} (h : dec s = (r, n)) (hn : n ≠ 0) : scalar r = true ∧ n = (enc r).length ∧ s = enc r ++ s.drop n := by
  match s with
  | [] => simp [dec] at h; omega
  | c :: t =>
    have hc := c.toNat_lt
    simp only [dec] at h
    split at h
    · rename_i h1
      simp only [Prod.mk.injEq] at h
      obtain ⟨rfl, rfl⟩ := h
      have he : enc (c.toNat : Int) = [c] := by
        unfold enc; rw [if_pos (by omega), ← eq_by8 rfl]
      rw [he]
      exact ⟨scalar_iff.2 (by omega), rfl, rfl⟩
    split at h
    · simp at h; omega
    split at h
    · simp at h; omega
    rename_i h1 h2 _ x hx
    split at h
    · simp at h; omega
    rename_i h3
    simp only [Prod.mk.injEq] at h
    obtain ⟨rfl, rfl⟩ := h
    have hsc : scalar x = true := by
      cases hx' : scalar x
      · exact (h3 (.inr hx')).elim
      · rfl
    have hs := scalar_iff.1 hsc
    have hle : ¬ x < least (lead c.toNat) := fun hh => h3 (.inl hh)
    obtain ⟨hall, hval⟩ := conts_some hx
    have hlead : lead c.toNat = 2 ∧ c.toNat / 32 = 6 ∨ lead c.toNat = 3 ∧ c.toNat / 16 = 14 ∨ lead c.toNat = 4 ∧ c.toNat / 8 = 30 := by
      unfold lead at h2 ⊢
      repeat' split
      all_goals simp_all
    refine ⟨hsc, ?_⟩
    rcases hlead with ⟨hl, hc6⟩ | ⟨hl, hc6⟩ | ⟨hl, hc6⟩
    · rw [hl] at h2 hle hval hall
      have hst : lead0 c.toNat = (c.toNat : Int) % 32 := by unfold lead0; rw [if_neg (by omega), if_pos (by omega)]
      match t, h2 with
      | [], h2 => simp at h2
      | d :: t', _ =>
        simp [hst] at hval hall
        have hd := d.toNat_lt
        simp only [least] at hle
        simp at hle
        have he : enc x = [c, d] := by
          unfold enc; rw [if_neg (by omega), if_pos (by omega)]
          rw [← eq_by8 (c := c) (by omega), ← eq_by8 (c := d) (by omega)]
        rw [hl, he]; exact ⟨rfl, rfl⟩
    · rw [hl] at h2 hle hval hall
      have hst : lead0 c.toNat = (c.toNat : Int) % 16 := by unfold lead0; rw [if_neg (by omega), if_neg (by omega), if_pos (by omega)]
      match t, h2 with
      | [], h2 => simp at h2
      | [_], h2 => simp at h2
      | d :: d2 :: t', _ =>
        simp [hst] at hval hall
        have hd := d.toNat_lt
        have hd2 := d2.toNat_lt
        simp only [least] at hle
        simp at hle
        have he : enc x = [c, d, d2] := by
          unfold enc; rw [if_neg (by omega), if_neg (by omega), if_pos (by omega)]
          rw [← eq_by8 (c := c) (by omega), ← eq_by8 (c := d) (by omega), ← eq_by8 (c := d2) (by omega)]
        rw [hl, he]; exact ⟨rfl, rfl⟩
    · rw [hl] at h2 hle hval hall
      have hst : lead0 c.toNat = (c.toNat : Int) % 8 := by unfold lead0; rw [if_neg (by omega), if_neg (by omega), if_neg (by omega)]
      match t, h2 with
      | [], h2 => simp at h2
      | [_], h2 => simp at h2
      | [_, _], h2 => simp at h2
      | d :: d2 :: d3 :: t', _ =>
        simp [hst] at hval hall
        have hd := d.toNat_lt
        have hd2 := d2.toNat_lt
        have hd3 := d3.toNat_lt
        simp only [least] at hle
        simp at hle
        have he : enc x = [c, d, d2, d3] := by
          unfold enc; rw [if_neg (by omega), if_neg (by omega), if_neg (by omega)]
          rw [← eq_by8 (c := c) (by omega), ← eq_by8 (c := d) (by omega), ← eq_by8 (c := d2) (by omega), ← eq_by8 (c := d3) (by omega)]
        rw [hl, he]; exact ⟨rfl, rfl⟩

theorem dec_zero {s : List UInt8} (h : (dec s).2 = 0) : dec s = (0, 0) := by
  match s with
  | [] => rfl
  | c :: t =>
    simp only [dec] at h ⊢
    split
    · rename_i h1; rw [if_pos h1] at h; simp at h
    rename_i h1
    rw [if_neg h1] at h
    split
    · rfl
    rename_i h2
    rw [if_neg h2] at h
    split
    · rfl
    · rename_i x hx
      rw [hx] at h
      simp only at h
      split
      · rfl
      · rename_i h3
        rw [if_neg h3] at h
        simp at h
        exact (h2 (.inl h)).elim

/-- the writing of runes -/
def encs (l : List Int) : List UInt8 := l.flatMap enc
theorem encs_cons (r : Int) (l : List Int) : encs (r :: l) = enc r ++ encs l := by simp [encs]
theorem encs_append (l m : List Int) : encs (l ++ m) = encs l ++ encs m := by simp [encs]
theorem encs_len (l : List Int) : l.length ≤ (encs l).length ∧ (encs l).length ≤ 4 * l.length := by
  induction l with
  | nil => simp [encs]
  | cons r l ih => rw [encs_cons]; have := enc_len r; simp; omega

def runesN : Nat → List UInt8 → Option (List Int)
  | _, [] => some []
  | 0, _ :: _ => none
  | f + 1, c :: t => if (dec (c :: t)).2 = 0 then none else (runesN f ((c :: t).drop (dec (c :: t)).2)).map ((dec (c :: t)).1 :: ·)
def runes (s : List UInt8) : Option (List Int) := runesN s.length s

theorem dec_le (s : List UInt8) : (dec s).2 ≤ s.length := by
  by_cases h : (dec s).2 = 0
  · omega
  · obtain ⟨_, h2, h3⟩ := dec_some (s := s) (r := (dec s).1) (n := (dec s).2) rfl h
    have := congrArg List.length h3
    simp at this
    omega

theorem runesN_iff (f : Nat) : ∀ (s : List UInt8), s.length ≤ f → ∀ l, runesN f s = some l ↔ (∀ r ∈ l, scalar r = true) ∧ s = encs l := by
  induction f with
  | zero =>
    intro s hs l
    match s, hs with
    | [], _ =>
      simp only [runesN, Option.some.injEq]
      constructor
      · rintro rfl; simp [encs]
      · rintro ⟨_, h⟩
        match l with
        | [] => rfl
        | r :: l => rw [encs_cons] at h; have := enc_len r; have := congrArg List.length h; simp at this; omega
  | succ f ih =>
    intro s hs l
    match s, hs with
    | [], _ =>
      simp only [runesN, Option.some.injEq]
      constructor
      · rintro rfl; simp [encs]
      · rintro ⟨_, h⟩
        match l with
        | [] => rfl
        | r :: l => rw [encs_cons] at h; have := enc_len r; have := congrArg List.length h; simp at this; omega
    | c :: t, hs =>
      simp only [runesN]
      constructor
      · intro h
        split at h
        · cases h
        rename_i hn
        obtain ⟨l', hl', rfl⟩ := Option.map_eq_some_iff.1 h
        obtain ⟨h1, h2, h3⟩ := dec_some (s := c :: t) (r := (dec (c :: t)).1) (n := (dec (c :: t)).2) rfl hn
        have hlen : ((c :: t).drop (dec (c :: t)).2).length ≤ f := by simp at hs ⊢; omega
        obtain ⟨g1, g2⟩ := (ih _ hlen l').1 hl'
        refine ⟨by simpa using ⟨h1, g1⟩, ?_⟩
        rw [encs_cons, ← g2]; exact h3
      · rintro ⟨h1, h2⟩
        match l with
        | [] => simp [encs] at h2
        | r :: l =>
          rw [encs_cons] at h2
          have hd := dec_enc (h1 r (by simp)) (encs l)
          rw [← h2] at hd
          have hr := enc_len r
          rw [hd]
          simp only
          rw [if_neg (by omega)]
          have hdrop : (c :: t).drop (enc r).length = encs l := by rw [h2]; simp
          rw [hdrop, (ih (encs l) (by have := congrArg List.length h2; simp at this hs; omega) l).2 ⟨fun x hx => h1 x (by simp [hx]), rfl⟩]
          rfl
theorem runes_iff {s : List UInt8} {l : List Int} : runes s = some l ↔ (∀ r ∈ l, scalar r = true) ∧ s = encs l := runesN_iff _ s (Nat.le_refl _) l

theorem runes_nil : runes [] = some [] := rfl
/-- no rune begins it: no writing -/
theorem runes_none {l : List Int} {t : List UInt8} (hl : ∀ r ∈ l, scalar r = true) (ht : t ≠ []) (h : (dec t).2 = 0) : runes (encs l ++ t) = none := by
  cases hr : runes (encs l ++ t) with
  | none => rfl
  | some m =>
    exfalso
    obtain ⟨hm, he⟩ := runes_iff.1 hr
    clear hr
    induction l generalizing m with
    | nil =>
      match m with
      | [] => simp [encs] at he; exact ht he
      | r :: m =>
        rw [encs_cons] at he
        have hd := dec_enc (hm r (by simp)) (encs m)
        have hr := enc_len r
        simp [encs] at he
        simp only [encs] at hd
        rw [← he] at hd; rw [hd] at h; simp at h; rw [h] at hr; simp at hr
    | cons r l ih =>
      match m with
      | [] => 
        rw [encs_cons] at he
        have hr := enc_len r
        have := congrArg List.length he; simp [encs] at this
        rw [this.1] at hr; simp at hr
      | r' :: m =>
        rw [encs_cons, encs_cons, List.append_assoc] at he
        have d1 := dec_enc (hl r (by simp)) (encs l ++ t)
        have d2 := dec_enc (hm r' (by simp)) (encs m)
        rw [he, d2] at d1
        simp only [Prod.mk.injEq] at d1
        obtain ⟨rfl, _⟩ := d1
        exact ih (fun x hx => hl x (by simp [hx])) m (fun x hx => hm x (by simp [hx])) (List.append_cancel_left he)

def text (l : List Int) : Option (List UInt8) := if l.all scalar then some (encs l) else none

end Go.Proofs.YtkibkbbjpgomlaaDoor.LM
namespace Go.Proofs.YtkibkbbjpgomlaaDoor.L
open Go.RowKit
open LM Aid
set_option linter.unusedSimpArgs false
set_option linter.unusedVariables false

/-- the table of the least runes, as it lies in memory -/
def Tab (w : World) : Prop := 0 < w.heap.size ∧ w.cell? ⟨0, 2, none⟩ = some (.int .i32 128) ∧ w.cell? ⟨0, 3, none⟩ = some (.int .i32 2048) ∧ w.cell? ⟨0, 4, none⟩ = some (.int .i32 65536) ∧ 0 < w.heap.size
theorem Tab.below {w w' : World} (h : Tab w) (hb : Below w.heap.size w w') : Tab w' := by
  obtain ⟨h0, h1, h2, h3, h4⟩ := h
  exact ⟨by have := hb.size; omega, (hb.cell (p := ⟨0, 2, none⟩) h4).trans h1, (hb.cell (p := ⟨0, 3, none⟩) h4).trans h2, (hb.cell (p := ⟨0, 4, none⟩) h4).trans h3, by have := hb.size; omega⟩

theorem ret_bool {a b : Bool} (h : a = b) : Ending.returned (.bool a) = .returned (.bool b) := by rw [h]
theorem scalar_any (r : Int) (w : World) : Calls Tryd.prog 42 #[.int .i32 r] w fun e w' => e = .returned (.bool (scalar r)) ∧ w = w' := by
  go_enter Tryd.func42, Tryd.ntmps42
  go_wp2
  all_goals go_ret
  all_goals exact ⟨ret_bool (by rw [Bool.eq_iff_iff]; simp only [scalar, decide_eq_true_eq, Bool.or_eq_true, Bool.false_eq_true, true_iff, false_iff]; omega), rfl⟩

/-- what first tells -/
def DecIs (s : ByteArray) (e : Ending) : Prop := e = .returned (.tuple #[.int .i32 (dec s.data.toList).1, .int .i64 ((dec s.data.toList).2 : Int)])
theorem DecIs.mk {s : ByteArray} {x : Int} {n : Nat} {m : Int} (h : dec s.data.toList = (x, n)) (hm : m = n) : DecIs s (.returned (.tuple #[.int .i32 x, .int .i64 m])) := by
  unfold DecIs; rw [h, hm]

theorem m_and {x m j : Int} (i : Nat) (hi : i ≤ 31) (hm : m = 2 ^ i - 1) (hj : j = 2 ^ i) (h0 : 0 ≤ x) (h1 : x < 2147483648) : bits .and .i32 x m = x % j := by
  subst hm hj; exact bits_mask .i32 31 (by decide) wraps_i32 i hi x h0 h1
theorem m_63 {x : Int} (h0 : 0 ≤ x) (h1 : x < 256) : bits .and .u8 x 63 = x % 64 := bits_mask .u8 8 (by decide) wraps_u8 6 (by decide) x h0 h1

theorem dec_2 (c d1 : UInt8) (t : List UInt8) (h : c.toNat / 32 = 6) : dec (c :: d1 :: t) = if (d1.toNat / 64 = 2) ∧ 128 ≤ (((c.toNat : Int) % 32) * 64 + (d1.toNat : Int) % 64) ∧ scalar (((c.toNat : Int) % 32) * 64 + (d1.toNat : Int) % 64) = true then ((((c.toNat : Int) % 32) * 64 + (d1.toNat : Int) % 64), 2) else (0, 0) := by
  have hl : lead c.toNat = 2 := by unfold lead; repeat (first | rw [if_pos (by omega)] | rw [if_neg (by omega)])
  have hst : lead0 c.toNat = (c.toNat : Int) % 32 := by unfold lead0; repeat (first | rw [if_pos (by omega)] | rw [if_neg (by omega)])
  simp only [dec, hl, hst, conts, List.length_cons, List.take_succ_cons, List.take_zero, Nat.reduceSub, least]
  rw [if_neg (by omega), if_neg (by omega)]
  by_cases g0 : d1.toNat / 64 = 2
  case neg => simp [g0]
  simp only [g0, if_true, true_and]
  by_cases k : 128 ≤ (((c.toNat : Int) % 32) * 64 + (d1.toNat : Int) % 64)
  · cases hk : scalar (((c.toNat : Int) % 32) * 64 + (d1.toNat : Int) % 64)
    · simp
    · simp [k]
  · have k' : (((c.toNat : Int) % 32) * 64 + (d1.toNat : Int) % 64) < 128 := by omega
    simp [k, k']

set_option maxRecDepth 100000 in
set_option maxHeartbeats 1000000 in
theorem first_2 (s : ByteArray) (w : World) (hs : (s.size : Int) ≤ 9223372036854775807) (h2 : 2 ≤ (s.size : Int)) (c d1 : Int) (e0 : (s[0].toNat : Int) = c) (c0 : 128 ≤ c) (c2 : c < 256)
    (e1 : (s[1].toNat : Int) = d1) (p1 : 0 ≤ d1) (q1 : d1 < 256) (t2 : (c / 32 == 6) = true) (T : Tab w) :
    Calls Tryd.prog 29 #[.string s] w fun e w' => DecIs s e ∧ Below w.heap.size w w' := by
  have hdec := dec_2 s[0] s[1] (s.data.toList.drop 2) (by have := beq_iff_eq.1 t2; omega)
  have hcons : s[0] :: s[1] :: s.data.toList.drop 2 = s.data.toList := by
    have hlen : 2 ≤ s.data.toList.length := by simp; have : s.data.size = s.size := rfl; omega
    match hh : s.data.toList, hlen with
    | x0 :: x1 :: t, _ =>
      simp [ByteArray.getElem_eq_getElem_data, ← Array.getElem_toList, hh]
  rw [hcons, e0, e1] at hdec
  have g1 : (s[1].toNat / 64 = 2) = (d1 / 64 = 2) := propext (by omega)
  simp only [g1] at hdec
  clear g1
  have HD := Lib.hid hdec
  clear hdec hcons
  have T2 := T.1
  have m0 : bits .and .i32 c 31 = c % 32 := m_and 5 (by decide) rfl rfl (by omega) (by omega)
  have m1 : bits .and .u8 d1 63 = d1 % 64 := m_63 (by omega) (by omega)
  have o1 : bits .or .i32 ((c % 32) * 64) (d1 % 64) = (c % 32) * 64 + d1 % 64 := i32_or6 _ _ (by omega) (by omega) (by omega) (by omega) (by omega)
  go_enter Tryd.func29, Tryd.ntmps29
  go_wp2_with (with_reducible refine wpList_bytes _ rfl 9 30 _ rfl 5 Tryd.underlying9 Tryd.underlying30 Tryd.underlying5 (s.extract 1 2) rfl 1 ?hsz ?_; rotate_right; intro g cap w1 hcap hg1 hg2 hb hc; have x0 : w1.cell? ⟨g, 0, none⟩ = some (.int .u8 d1) := (by rw [hc 0 (by simp; omega), ext_at s 1 2 0 (by simp; omega) (by omega)]; exact congrArg (fun z => some (Value.int .u8 z)) e1); have T1 := T.below hb; clear hc)
  case hsz => simp; omega
  obtain ⟨u1, u2, u3, u4, u5⟩ := T1
  refine wp_loop_rounds 2 ?_
  rw [rounds_succ]
  go_wp2_with fail
  · go_ret2
    exact ⟨DecIs.mk (x := 0) (n := 0) (by rw [HD.out]; exact if_neg (by have hne : (d1 / 64 != 2) = true := by assumption
                                                                        rw [bne_iff_ne] at hne
                                                                        omega)) rfl, hb⟩
  rw [rounds_succ]
  go_wp2_with (go_at_call 42; refine (scalar_any _ _).mono ?_; rintro e w' ⟨rfl, rfl⟩)
  all_goals go_ret2
  · have hx : (c % 32) * 64 + d1 % 64 < 128 ∨ (!scalar ((c % 32) * 64 + d1 % 64)) = true := ‹_›
    exact ⟨DecIs.mk (x := 0) (n := 0) (by rw [HD.out]; exact if_neg (by rintro ⟨_, _, hz⟩; rw [hz] at hx; simp at hx; omega)) rfl, hb⟩
  · have hx : 128 ≤ (c % 32) * 64 + d1 % 64 ∧ (!scalar ((c % 32) * 64 + d1 % 64)) = false := ‹_›
    exact ⟨DecIs.mk (x := (c % 32) * 64 + d1 % 64) (n := 2) (by rw [HD.out]; exact if_pos ⟨by have y1 : (d1 / 64 != 2) = false := (by assumption); simp only [bne_eq_false_iff_eq] at y1; omega, by omega, by simpa using hx.2⟩) rfl, hb⟩
  · exact ⟨DecIs.mk (x := 0) (n := 0) (by rw [HD.out]; exact if_neg (by omega)) rfl, hb⟩

theorem dec_3 (c d1 d2 : UInt8) (t : List UInt8) (h : c.toNat / 16 = 14) : dec (c :: d1 :: d2 :: t) = if (d1.toNat / 64 = 2 ∧ d2.toNat / 64 = 2) ∧ 2048 ≤ ((((c.toNat : Int) % 16) * 64 + (d1.toNat : Int) % 64) * 64 + (d2.toNat : Int) % 64) ∧ scalar ((((c.toNat : Int) % 16) * 64 + (d1.toNat : Int) % 64) * 64 + (d2.toNat : Int) % 64) = true then (((((c.toNat : Int) % 16) * 64 + (d1.toNat : Int) % 64) * 64 + (d2.toNat : Int) % 64), 3) else (0, 0) := by
  have hl : lead c.toNat = 3 := by unfold lead; repeat (first | rw [if_pos (by omega)] | rw [if_neg (by omega)])
  have hst : lead0 c.toNat = (c.toNat : Int) % 16 := by unfold lead0; repeat (first | rw [if_pos (by omega)] | rw [if_neg (by omega)])
  simp only [dec, hl, hst, conts, List.length_cons, List.take_succ_cons, List.take_zero, Nat.reduceSub, least]
  rw [if_neg (by omega), if_neg (by omega)]
  by_cases g0 : d1.toNat / 64 = 2
  case neg => simp [g0]
  simp only [g0, if_true, true_and]
  by_cases g1 : d2.toNat / 64 = 2
  case neg => simp [g1]
  simp only [g1, if_true, true_and]
  by_cases k : 2048 ≤ ((((c.toNat : Int) % 16) * 64 + (d1.toNat : Int) % 64) * 64 + (d2.toNat : Int) % 64)
  · cases hk : scalar ((((c.toNat : Int) % 16) * 64 + (d1.toNat : Int) % 64) * 64 + (d2.toNat : Int) % 64)
    · simp
    · simp [k]
  · have k' : ((((c.toNat : Int) % 16) * 64 + (d1.toNat : Int) % 64) * 64 + (d2.toNat : Int) % 64) < 2048 := by omega
    simp [k, k']

set_option maxRecDepth 100000 in
set_option maxHeartbeats 1000000 in
theorem first_3 (s : ByteArray) (w : World) (hs : (s.size : Int) ≤ 9223372036854775807) (h2 : 3 ≤ (s.size : Int)) (c d1 d2 : Int) (e0 : (s[0].toNat : Int) = c) (c0 : 128 ≤ c) (c2 : c < 256)
    (e1 : (s[1].toNat : Int) = d1) (p1 : 0 ≤ d1) (q1 : d1 < 256) (e2 : (s[2].toNat : Int) = d2) (p2 : 0 ≤ d2) (q2 : d2 < 256) (t2 : (c / 32 == 6) = false) (t3 : (c / 16 == 14) = true) (T : Tab w) :
    Calls Tryd.prog 29 #[.string s] w fun e w' => DecIs s e ∧ Below w.heap.size w w' := by
  have hdec := dec_3 s[0] s[1] s[2] (s.data.toList.drop 3) (by have := beq_iff_eq.1 t3; omega)
  have hcons : s[0] :: s[1] :: s[2] :: s.data.toList.drop 3 = s.data.toList := by
    have hlen : 3 ≤ s.data.toList.length := by simp; have : s.data.size = s.size := rfl; omega
    match hh : s.data.toList, hlen with
    | x0 :: x1 :: x2 :: t, _ =>
      simp [ByteArray.getElem_eq_getElem_data, ← Array.getElem_toList, hh]
  rw [hcons, e0, e1, e2] at hdec
  have g1 : (s[1].toNat / 64 = 2) = (d1 / 64 = 2) := propext (by omega)
  have g2 : (s[2].toNat / 64 = 2) = (d2 / 64 = 2) := propext (by omega)
  simp only [g1, g2] at hdec
  clear g1 g2
  have HD := Lib.hid hdec
  clear hdec hcons
  have T2 := T.1
  have m0 : bits .and .i32 c 15 = c % 16 := m_and 4 (by decide) rfl rfl (by omega) (by omega)
  have m1 : bits .and .u8 d1 63 = d1 % 64 := m_63 (by omega) (by omega)
  have o1 : bits .or .i32 ((c % 16) * 64) (d1 % 64) = (c % 16) * 64 + d1 % 64 := i32_or6 _ _ (by omega) (by omega) (by omega) (by omega) (by omega)
  have m2 : bits .and .u8 d2 63 = d2 % 64 := m_63 (by omega) (by omega)
  have o2 : bits .or .i32 (((c % 16) * 64 + d1 % 64) * 64) (d2 % 64) = ((c % 16) * 64 + d1 % 64) * 64 + d2 % 64 := i32_or6 _ _ (by omega) (by omega) (by omega) (by omega) (by omega)
  go_enter Tryd.func29, Tryd.ntmps29
  go_wp2_with (with_reducible refine wpList_bytes _ rfl 9 30 _ rfl 5 Tryd.underlying9 Tryd.underlying30 Tryd.underlying5 (s.extract 1 3) rfl 2 ?hsz ?_; rotate_right; intro g cap w1 hcap hg1 hg2 hb hc; have x0 : w1.cell? ⟨g, 0, none⟩ = some (.int .u8 d1) := (by rw [hc 0 (by simp; omega), ext_at s 1 3 0 (by simp; omega) (by omega)]; exact congrArg (fun z => some (Value.int .u8 z)) e1); have x1 : w1.cell? ⟨g, 1, none⟩ = some (.int .u8 d2) := (by rw [hc 1 (by simp; omega), ext_at s 1 3 1 (by simp; omega) (by omega)]; exact congrArg (fun z => some (Value.int .u8 z)) e2); have T1 := T.below hb; clear hc)
  case hsz => simp; omega
  obtain ⟨u1, u2, u3, u4, u5⟩ := T1
  refine wp_loop_rounds 3 ?_
  rw [rounds_succ]
  go_wp2_with fail
  · go_ret2
    exact ⟨DecIs.mk (x := 0) (n := 0) (by rw [HD.out]; exact if_neg (by have hne : (d1 / 64 != 2) = true := by assumption
                                                                        rw [bne_iff_ne] at hne
                                                                        omega)) rfl, hb⟩
  rw [rounds_succ]
  go_wp2_with fail
  · go_ret2
    exact ⟨DecIs.mk (x := 0) (n := 0) (by rw [HD.out]; exact if_neg (by have hne : (d2 / 64 != 2) = true := by assumption
                                                                        rw [bne_iff_ne] at hne
                                                                        omega)) rfl, hb⟩
  rw [rounds_succ]
  go_wp2_with (go_at_call 42; refine (scalar_any _ _).mono ?_; rintro e w' ⟨rfl, rfl⟩)
  all_goals go_ret2
  · have hx : ((c % 16) * 64 + d1 % 64) * 64 + d2 % 64 < 2048 ∨ (!scalar (((c % 16) * 64 + d1 % 64) * 64 + d2 % 64)) = true := ‹_›
    exact ⟨DecIs.mk (x := 0) (n := 0) (by rw [HD.out]; exact if_neg (by rintro ⟨_, _, hz⟩; rw [hz] at hx; simp at hx; omega)) rfl, hb⟩
  · have hx : 2048 ≤ ((c % 16) * 64 + d1 % 64) * 64 + d2 % 64 ∧ (!scalar (((c % 16) * 64 + d1 % 64) * 64 + d2 % 64)) = false := ‹_›
    exact ⟨DecIs.mk (x := ((c % 16) * 64 + d1 % 64) * 64 + d2 % 64) (n := 3) (by rw [HD.out]; exact if_pos ⟨by have y1 : (d1 / 64 != 2) = false := (by assumption); have y2 : (d2 / 64 != 2) = false := (by assumption); simp only [bne_eq_false_iff_eq] at y1 y2; omega, by omega, by simpa using hx.2⟩) rfl, hb⟩
  · exact ⟨DecIs.mk (x := 0) (n := 0) (by rw [HD.out]; exact if_neg (by omega)) rfl, hb⟩

theorem dec_4 (c d1 d2 d3 : UInt8) (t : List UInt8) (h : c.toNat / 8 = 30) : dec (c :: d1 :: d2 :: d3 :: t) = if (d1.toNat / 64 = 2 ∧ d2.toNat / 64 = 2 ∧ d3.toNat / 64 = 2) ∧ 65536 ≤ (((((c.toNat : Int) % 8) * 64 + (d1.toNat : Int) % 64) * 64 + (d2.toNat : Int) % 64) * 64 + (d3.toNat : Int) % 64) ∧ scalar (((((c.toNat : Int) % 8) * 64 + (d1.toNat : Int) % 64) * 64 + (d2.toNat : Int) % 64) * 64 + (d3.toNat : Int) % 64) = true then ((((((c.toNat : Int) % 8) * 64 + (d1.toNat : Int) % 64) * 64 + (d2.toNat : Int) % 64) * 64 + (d3.toNat : Int) % 64), 4) else (0, 0) := by
  have hl : lead c.toNat = 4 := by unfold lead; repeat (first | rw [if_pos (by omega)] | rw [if_neg (by omega)])
  have hst : lead0 c.toNat = (c.toNat : Int) % 8 := by unfold lead0; repeat (first | rw [if_pos (by omega)] | rw [if_neg (by omega)])
  simp only [dec, hl, hst, conts, List.length_cons, List.take_succ_cons, List.take_zero, Nat.reduceSub, least]
  rw [if_neg (by omega), if_neg (by omega)]
  by_cases g0 : d1.toNat / 64 = 2
  case neg => simp [g0]
  simp only [g0, if_true, true_and]
  by_cases g1 : d2.toNat / 64 = 2
  case neg => simp [g1]
  simp only [g1, if_true, true_and]
  by_cases g2 : d3.toNat / 64 = 2
  case neg => simp [g2]
  simp only [g2, if_true, true_and]
  by_cases k : 65536 ≤ (((((c.toNat : Int) % 8) * 64 + (d1.toNat : Int) % 64) * 64 + (d2.toNat : Int) % 64) * 64 + (d3.toNat : Int) % 64)
  · cases hk : scalar (((((c.toNat : Int) % 8) * 64 + (d1.toNat : Int) % 64) * 64 + (d2.toNat : Int) % 64) * 64 + (d3.toNat : Int) % 64)
    · simp
    · simp [k]
  · have k' : (((((c.toNat : Int) % 8) * 64 + (d1.toNat : Int) % 64) * 64 + (d2.toNat : Int) % 64) * 64 + (d3.toNat : Int) % 64) < 65536 := by omega
    simp [k, k']

set_option maxRecDepth 100000 in
set_option maxHeartbeats 1000000 in
theorem first_4 (s : ByteArray) (w : World) (hs : (s.size : Int) ≤ 9223372036854775807) (h2 : 4 ≤ (s.size : Int)) (c d1 d2 d3 : Int) (e0 : (s[0].toNat : Int) = c) (c0 : 128 ≤ c) (c2 : c < 256)
    (e1 : (s[1].toNat : Int) = d1) (p1 : 0 ≤ d1) (q1 : d1 < 256) (e2 : (s[2].toNat : Int) = d2) (p2 : 0 ≤ d2) (q2 : d2 < 256) (e3 : (s[3].toNat : Int) = d3) (p3 : 0 ≤ d3) (q3 : d3 < 256) (t2 : (c / 32 == 6) = false) (t3 : (c / 16 == 14) = false) (t4 : (c / 8 == 30) = true) (T : Tab w) :
    Calls Tryd.prog 29 #[.string s] w fun e w' => DecIs s e ∧ Below w.heap.size w w' := by
  have hdec := dec_4 s[0] s[1] s[2] s[3] (s.data.toList.drop 4) (by have := beq_iff_eq.1 t4; omega)
  have hcons : s[0] :: s[1] :: s[2] :: s[3] :: s.data.toList.drop 4 = s.data.toList := by
    have hlen : 4 ≤ s.data.toList.length := by simp; have : s.data.size = s.size := rfl; omega
    match hh : s.data.toList, hlen with
    | x0 :: x1 :: x2 :: x3 :: t, _ =>
      simp [ByteArray.getElem_eq_getElem_data, ← Array.getElem_toList, hh]
  rw [hcons, e0, e1, e2, e3] at hdec
  have g1 : (s[1].toNat / 64 = 2) = (d1 / 64 = 2) := propext (by omega)
  have g2 : (s[2].toNat / 64 = 2) = (d2 / 64 = 2) := propext (by omega)
  have g3 : (s[3].toNat / 64 = 2) = (d3 / 64 = 2) := propext (by omega)
  simp only [g1, g2, g3] at hdec
  clear g1 g2 g3
  have HD := Lib.hid hdec
  clear hdec hcons
  have T2 := T.1
  have m0 : bits .and .i32 c 7 = c % 8 := m_and 3 (by decide) rfl rfl (by omega) (by omega)
  have m1 : bits .and .u8 d1 63 = d1 % 64 := m_63 (by omega) (by omega)
  have o1 : bits .or .i32 ((c % 8) * 64) (d1 % 64) = (c % 8) * 64 + d1 % 64 := i32_or6 _ _ (by omega) (by omega) (by omega) (by omega) (by omega)
  have m2 : bits .and .u8 d2 63 = d2 % 64 := m_63 (by omega) (by omega)
  have o2 : bits .or .i32 (((c % 8) * 64 + d1 % 64) * 64) (d2 % 64) = ((c % 8) * 64 + d1 % 64) * 64 + d2 % 64 := i32_or6 _ _ (by omega) (by omega) (by omega) (by omega) (by omega)
  have m3 : bits .and .u8 d3 63 = d3 % 64 := m_63 (by omega) (by omega)
  have o3 : bits .or .i32 ((((c % 8) * 64 + d1 % 64) * 64 + d2 % 64) * 64) (d3 % 64) = (((c % 8) * 64 + d1 % 64) * 64 + d2 % 64) * 64 + d3 % 64 := i32_or6 _ _ (by omega) (by omega) (by omega) (by omega) (by omega)
  go_enter Tryd.func29, Tryd.ntmps29
  go_wp2_with (with_reducible refine wpList_bytes _ rfl 9 30 _ rfl 5 Tryd.underlying9 Tryd.underlying30 Tryd.underlying5 (s.extract 1 4) rfl 3 ?hsz ?_; rotate_right; intro g cap w1 hcap hg1 hg2 hb hc; have x0 : w1.cell? ⟨g, 0, none⟩ = some (.int .u8 d1) := (by rw [hc 0 (by simp; omega), ext_at s 1 4 0 (by simp; omega) (by omega)]; exact congrArg (fun z => some (Value.int .u8 z)) e1); have x1 : w1.cell? ⟨g, 1, none⟩ = some (.int .u8 d2) := (by rw [hc 1 (by simp; omega), ext_at s 1 4 1 (by simp; omega) (by omega)]; exact congrArg (fun z => some (Value.int .u8 z)) e2); have x2 : w1.cell? ⟨g, 2, none⟩ = some (.int .u8 d3) := (by rw [hc 2 (by simp; omega), ext_at s 1 4 2 (by simp; omega) (by omega)]; exact congrArg (fun z => some (Value.int .u8 z)) e3); have T1 := T.below hb; clear hc)
  case hsz => simp; omega
  obtain ⟨u1, u2, u3, u4, u5⟩ := T1
  refine wp_loop_rounds 4 ?_
  rw [rounds_succ]
  go_wp2_with fail
  · go_ret2
    exact ⟨DecIs.mk (x := 0) (n := 0) (by rw [HD.out]; exact if_neg (by have hne : (d1 / 64 != 2) = true := by assumption
                                                                        rw [bne_iff_ne] at hne
                                                                        omega)) rfl, hb⟩
  rw [rounds_succ]
  go_wp2_with fail
  · go_ret2
    exact ⟨DecIs.mk (x := 0) (n := 0) (by rw [HD.out]; exact if_neg (by have hne : (d2 / 64 != 2) = true := by assumption
                                                                        rw [bne_iff_ne] at hne
                                                                        omega)) rfl, hb⟩
  rw [rounds_succ]
  go_wp2_with fail
  · go_ret2
    exact ⟨DecIs.mk (x := 0) (n := 0) (by rw [HD.out]; exact if_neg (by have hne : (d3 / 64 != 2) = true := by assumption
                                                                        rw [bne_iff_ne] at hne
                                                                        omega)) rfl, hb⟩
  rw [rounds_succ]
  go_wp2_with (go_at_call 42; refine (scalar_any _ _).mono ?_; rintro e w' ⟨rfl, rfl⟩)
  all_goals go_ret2
  · have hx : (((c % 8) * 64 + d1 % 64) * 64 + d2 % 64) * 64 + d3 % 64 < 65536 ∨ (!scalar ((((c % 8) * 64 + d1 % 64) * 64 + d2 % 64) * 64 + d3 % 64)) = true := ‹_›
    exact ⟨DecIs.mk (x := 0) (n := 0) (by rw [HD.out]; exact if_neg (by rintro ⟨_, _, hz⟩; rw [hz] at hx; simp at hx; omega)) rfl, hb⟩
  · have hx : 65536 ≤ (((c % 8) * 64 + d1 % 64) * 64 + d2 % 64) * 64 + d3 % 64 ∧ (!scalar ((((c % 8) * 64 + d1 % 64) * 64 + d2 % 64) * 64 + d3 % 64)) = false := ‹_›
    exact ⟨DecIs.mk (x := (((c % 8) * 64 + d1 % 64) * 64 + d2 % 64) * 64 + d3 % 64) (n := 4) (by rw [HD.out]; exact if_pos ⟨by have y1 : (d1 / 64 != 2) = false := (by assumption); have y2 : (d2 / 64 != 2) = false := (by assumption); have y3 : (d3 / 64 != 2) = false := (by assumption); simp only [bne_eq_false_iff_eq] at y1 y2 y3; omega, by omega, by simpa using hx.2⟩) rfl, hb⟩
  · exact ⟨DecIs.mk (x := 0) (n := 0) (by rw [HD.out]; exact if_neg (by omega)) rfl, hb⟩

theorem dec_low (c : UInt8) (t : List UInt8) (h : c.toNat < 128) : dec (c :: t) = ((c.toNat : Int), 1) := by simp only [dec]; rw [if_pos h]
theorem dec_bad (c : UInt8) (t : List UInt8) (h : ¬ c.toNat < 128) (hl : lead c.toNat = 0 ∨ t.length + 1 < lead c.toNat) : dec (c :: t) = (0, 0) := by simp only [dec]; rw [if_neg h, if_pos hl]
theorem cons_at (s : ByteArray) (h0 : 0 < s.size) : s[0] :: s.data.toList.drop 1 = s.data.toList := by
  have hlen : 1 ≤ s.data.toList.length := by rw [Array.length_toList]; exact h0
  match hh : s.data.toList, hlen with
  | x0 :: t, _ => simp [ByteArray.getElem_eq_getElem_data, ← Array.getElem_toList, hh]
theorem len_at (s : ByteArray) : s.data.toList.length = s.size := by rw [Array.length_toList]; rfl

set_option maxRecDepth 100000 in
set_option maxHeartbeats 1000000 in
theorem first_low (s : ByteArray) (w : World) (hs : (s.size : Int) ≤ 9223372036854775807) (h0 : 0 < s.size) (c : Int) (e0 : (s[0].toNat : Int) = c) (c0 : 0 ≤ c) (c1 : c < 128) :
    Calls Tryd.prog 29 #[.string s] w fun e w' => DecIs s e ∧ Below w.heap.size w w' := by
  have HD := Lib.hid (dec_low s[0] (s.data.toList.drop 1) (by omega))
  rw [cons_at s h0, e0] at HD
  go_enter Tryd.func29, Tryd.ntmps29
  go_wp2_with fail
  go_ret2
  exact ⟨DecIs.mk (x := c) (n := 1) HD.out rfl, Below.refl _ _⟩

set_option maxRecDepth 100000 in
set_option maxHeartbeats 1000000 in
theorem first_short2 (s : ByteArray) (w : World) (hs : (s.size : Int) ≤ 9223372036854775807) (h0 : 0 < s.size) (c : Int) (e0 : (s[0].toNat : Int) = c) (c0 : 128 ≤ c) (c1 : c < 256) (t2 : (c / 32 == 6) = true) (h2 : (s.size : Int) < 2) :
    Calls Tryd.prog 29 #[.string s] w fun e w' => DecIs s e ∧ Below w.heap.size w w' := by
  have hl : lead s[0].toNat = 0 ∨ (s.data.toList.drop 1).length + 1 < lead s[0].toNat := by
    have hlen : (s.data.toList.drop 1).length = s.size - 1 := by rw [List.length_drop, len_at]
    rw [hlen]
    simp only [beq_iff_eq, beq_eq_false_iff_ne, ne_eq] at *
    unfold lead
    repeat' split
    all_goals omega
  have HD := Lib.hid (dec_bad s[0] (s.data.toList.drop 1) (by omega) hl)
  rw [cons_at s h0] at HD
  clear hl
  go_enter Tryd.func29, Tryd.ntmps29
  go_wp2_with fail
  go_ret2
  exact ⟨DecIs.mk (x := 0) (n := 0) HD.out rfl, Below.refl _ _⟩

set_option maxRecDepth 100000 in
set_option maxHeartbeats 1000000 in
theorem first_short3 (s : ByteArray) (w : World) (hs : (s.size : Int) ≤ 9223372036854775807) (h0 : 0 < s.size) (c : Int) (e0 : (s[0].toNat : Int) = c) (c0 : 128 ≤ c) (c1 : c < 256) (t2 : (c / 32 == 6) = false) (t3 : (c / 16 == 14) = true) (h2 : (s.size : Int) < 3) :
    Calls Tryd.prog 29 #[.string s] w fun e w' => DecIs s e ∧ Below w.heap.size w w' := by
  have hl : lead s[0].toNat = 0 ∨ (s.data.toList.drop 1).length + 1 < lead s[0].toNat := by
    have hlen : (s.data.toList.drop 1).length = s.size - 1 := by rw [List.length_drop, len_at]
    rw [hlen]
    simp only [beq_iff_eq, beq_eq_false_iff_ne, ne_eq] at *
    unfold lead
    repeat' split
    all_goals omega
  have HD := Lib.hid (dec_bad s[0] (s.data.toList.drop 1) (by omega) hl)
  rw [cons_at s h0] at HD
  clear hl
  go_enter Tryd.func29, Tryd.ntmps29
  go_wp2_with fail
  go_ret2
  exact ⟨DecIs.mk (x := 0) (n := 0) HD.out rfl, Below.refl _ _⟩

set_option maxRecDepth 100000 in
set_option maxHeartbeats 1000000 in
theorem first_short4 (s : ByteArray) (w : World) (hs : (s.size : Int) ≤ 9223372036854775807) (h0 : 0 < s.size) (c : Int) (e0 : (s[0].toNat : Int) = c) (c0 : 128 ≤ c) (c1 : c < 256) (t2 : (c / 32 == 6) = false) (t3 : (c / 16 == 14) = false) (t4 : (c / 8 == 30) = true) (h2 : (s.size : Int) < 4) :
    Calls Tryd.prog 29 #[.string s] w fun e w' => DecIs s e ∧ Below w.heap.size w w' := by
  have hl : lead s[0].toNat = 0 ∨ (s.data.toList.drop 1).length + 1 < lead s[0].toNat := by
    have hlen : (s.data.toList.drop 1).length = s.size - 1 := by rw [List.length_drop, len_at]
    rw [hlen]
    simp only [beq_iff_eq, beq_eq_false_iff_ne, ne_eq] at *
    unfold lead
    repeat' split
    all_goals omega
  have HD := Lib.hid (dec_bad s[0] (s.data.toList.drop 1) (by omega) hl)
  rw [cons_at s h0] at HD
  clear hl
  go_enter Tryd.func29, Tryd.ntmps29
  go_wp2_with fail
  go_ret2
  exact ⟨DecIs.mk (x := 0) (n := 0) HD.out rfl, Below.refl _ _⟩

set_option maxRecDepth 100000 in
set_option maxHeartbeats 1000000 in
theorem first_short0 (s : ByteArray) (w : World) (hs : (s.size : Int) ≤ 9223372036854775807) (h0 : 0 < s.size) (c : Int) (e0 : (s[0].toNat : Int) = c) (c0 : 128 ≤ c) (c1 : c < 256) (t2 : (c / 32 == 6) = false) (t3 : (c / 16 == 14) = false) (t4 : (c / 8 == 30) = false)  :
    Calls Tryd.prog 29 #[.string s] w fun e w' => DecIs s e ∧ Below w.heap.size w w' := by
  have hl : lead s[0].toNat = 0 ∨ (s.data.toList.drop 1).length + 1 < lead s[0].toNat := by
    have hlen : (s.data.toList.drop 1).length = s.size - 1 := by rw [List.length_drop, len_at]
    rw [hlen]
    simp only [beq_iff_eq, beq_eq_false_iff_ne, ne_eq] at *
    unfold lead
    repeat' split
    all_goals omega
  have HD := Lib.hid (dec_bad s[0] (s.data.toList.drop 1) (by omega) hl)
  rw [cons_at s h0] at HD
  clear hl
  go_enter Tryd.func29, Tryd.ntmps29
  go_wp2_with fail
  go_ret2
  exact ⟨DecIs.mk (x := 0) (n := 0) HD.out rfl, Below.refl _ _⟩

theorem first_any (s : ByteArray) (w : World) (hs : (s.size : Int) ≤ 9223372036854775807) (h0 : 0 < s.size) (T : Tab w) :
    Calls Tryd.prog 29 #[.string s] w fun e w' => DecIs s e ∧ Below w.heap.size w w' := by
  have hb : ∀ i (h : i < s.size), 0 ≤ (s[i].toNat : Int) ∧ (s[i].toNat : Int) < 256 := fun i h => by have := s[i].toNat_lt; omega
  have b0 := hb 0 h0
  by_cases l : (s[0].toNat : Int) < 128
  · exact first_low s w hs h0 _ rfl b0.1 l
  by_cases t2 : (s[0].toNat : Int) / 32 = 6
  · by_cases l2 : (s.size : Int) < 2
    · exact first_short2 s w hs h0 _ rfl (by omega) b0.2 (beq_iff_eq.2 t2) l2
    · exact first_2 s w hs (by omega) _ _ rfl (by omega) b0.2 rfl (hb 1 (by omega)).1 (hb 1 (by omega)).2 (beq_iff_eq.2 t2) T
  by_cases t3 : (s[0].toNat : Int) / 16 = 14
  · by_cases l2 : (s.size : Int) < 3
    · exact first_short3 s w hs h0 _ rfl (by omega) b0.2 (beq_eq_false_iff_ne.2 t2) (beq_iff_eq.2 t3) l2
    · exact first_3 s w hs (by omega) _ _ _ rfl (by omega) b0.2 rfl (hb 1 (by omega)).1 (hb 1 (by omega)).2 rfl (hb 2 (by omega)).1 (hb 2 (by omega)).2 (beq_eq_false_iff_ne.2 t2) (beq_iff_eq.2 t3) T
  by_cases t4 : (s[0].toNat : Int) / 8 = 30
  · by_cases l2 : (s.size : Int) < 4
    · exact first_short4 s w hs h0 _ rfl (by omega) b0.2 (beq_eq_false_iff_ne.2 t2) (beq_eq_false_iff_ne.2 t3) (beq_iff_eq.2 t4) l2
    · exact first_4 s w hs (by omega) _ _ _ _ rfl (by omega) b0.2 rfl (hb 1 (by omega)).1 (hb 1 (by omega)).2 rfl (hb 2 (by omega)).1 (hb 2 (by omega)).2 rfl (hb 3 (by omega)).1 (hb 3 (by omega)).2 (beq_eq_false_iff_ne.2 t2) (beq_eq_false_iff_ne.2 t3) (beq_iff_eq.2 t4) T
  · exact first_short0 s w hs h0 _ rfl (by omega) b0.2 (beq_eq_false_iff_ne.2 t2) (beq_eq_false_iff_ne.2 t3) (beq_eq_false_iff_ne.2 t4)

end Go.Proofs.YtkibkbbjpgomlaaDoor.L
namespace Go.Proofs.YtkibkbbjpgomlaaDoor.L
open Go.RowKit
open LM Aid
set_option linter.unusedSimpArgs false
set_option linter.unusedVariables false

theorem info_i32 : (Tryd.prog.info? 21).map (fun i => (i.zero, i.size, i.bytes)) = some (some (.int .i32 0), 1, 4) := by kernel_rfl

/-- no beginning of the text that is a writing has more than 2^45 runes -/
def Fits (s : List UInt8) : Prop := ∀ l t, (∀ r ∈ l, scalar r = true) → s = encs l ++ t → l.length ≤ 35184372088832

def RunesPost (W : World) (s : ByteArray) (e : Ending) (w' : World) : Prop :=
  Below W.heap.size W w' ∧ ((runes s.data.toList = none ∧ e = .returned (.tuple #[.slice none 0 0, .bool false])) ∨
    ∃ l v, runes s.data.toList = some l ∧ e = .returned (.tuple #[v, .bool true]) ∧ w'.ownsRow W.heap.size 21 1 v l.length (l.map (.int .i32)))

theorem drop_extract (s : ByteArray) (n : Nat) : (s.extract n s.size).data.toList = s.data.toList.drop n := by
  rw [ByteArray.data_extract, Array.toList_extract]
  simp [List.extract]
  rw [List.take_of_length_le]
  simp

theorem runes_step {W wr w1 : World} {s t : ByteArray} {l : List Int} {r : Int} {n : Nat} (hl : ∀ r ∈ l, scalar r = true) (hs : s.data.toList = encs l ++ t.data.toList)
    (hd : dec t.data.toList = (r, n)) (hn : n ≠ 0) : (∀ x ∈ l ++ [r], scalar x = true) ∧ s.data.toList = encs (l ++ [r]) ++ (t.extract n t.size).data.toList ∧ n ≤ t.size ∧ 0 < n := by
  obtain ⟨h1, h2, h3⟩ := dec_some hd hn
  have hle := dec_le t.data.toList
  rw [hd, len_at] at hle
  refine ⟨?_, ?_, hle, by omega⟩
  · intro x hx
    rcases List.mem_append.1 hx with h | h
    · exact hl x h
    · simp at h; subst h; exact h1
  · rw [encs_append, drop_extract, List.append_assoc]
    have he : encs [r] = enc r := by simp [encs]
    rw [he, ← h3]; exact hs

set_option maxRecDepth 100000 in
set_option maxHeartbeats 1000000 in
theorem runes_any (s : ByteArray) (w : World) (hs : (s.size : Int) ≤ 9223372036854775807) (hf : Fits s.data.toList) (T : Tab w) :
    Calls Tryd.prog 11 #[.string s] w (RunesPost w s) := by
  obtain ⟨i0, hi, hz0, hz1, hz2⟩ := info_parts info_i32
  go_enter Tryd.func11, Tryd.ntmps11
  go_wp2_with fail
  go_loopw [0, 4] (fun x v wr => ∃ (l : List Int) (t : ByteArray), x = .string t ∧ t.size ≤ s.size ∧ (∀ r ∈ l, scalar r = true) ∧ Hid (s.data.toList = encs l ++ t.data.toList) ∧
      wr.ownsRow w.heap.size 21 1 v l.length (l.map (.int .i32)) ∧ Below w.heap.size w wr)
    (fun x _ _ => strLen x)
  case atStart => exact ⟨[], s, rfl, Nat.le_refl _, by simp, rfl, World.ownsRow_nil _ _ _ _, Below.refl _ _⟩
  case round =>
    obtain ⟨l, t, rfl, ht, hl, HS, hown, hb⟩ := hrel
    have hL := hf l _ hl HS.out
    have Tr := T.below hb
    have HL := Lib.hid hl
    clear hl
    by_cases h0 : t.size = 0
    · have h0' : ¬ (0 : Int) < (t.size : Int) := by omega
      have HE := Lib.hid h0
      clear h0
      go_wp2_with fail
      go_ret2
      have e0 : t.data.toList = [] := by
        apply List.eq_nil_of_length_eq_zero; rw [len_at]; exact HE.out
      exact ⟨hb, .inr ⟨l, _, runes_iff.2 ⟨HL.out, by rw [HS.out, e0, List.append_nil]⟩, rfl, hown⟩⟩
    · have h0' : 0 < t.size := by omega
      clear h0
      obtain ⟨r, n, hd⟩ : ∃ r n, dec t.data.toList = (r, n) := ⟨_, _, rfl⟩
      by_cases hn : n = 0
      · subst hn
        have HD := Lib.hid hd
        clear hd
        go_wp2_with (go_at_call 29; refine (first_any _ _ (by omega) (by omega) (by assumption)).mono ?_; rintro e w1 ⟨hdec, hb1⟩; unfold DecIs at hdec; rw [HD.out] at hdec; subst hdec)
        go_ret2
        refine ⟨hb.trans (hb1.mono hb.size), .inl ⟨?_, rfl⟩⟩
        rw [HS.out]
        exact runes_none HL.out (fun h => by have := congrArg List.length h; rw [len_at, List.length_nil] at this; omega) (by rw [HD.out])
      · obtain ⟨g1, g2, g3, g4⟩ := runes_step (W := w) (wr := wr) (w1 := wr) HL.out HS.out hd hn
        have hL2 := hf _ _ g1 g2
        rw [List.length_append, List.length_singleton] at hL2
        have HG := Lib.hid g1
        have HS2 := Lib.hid g2
        have HD := Lib.hid hd
        have hnb : ((n : Int) == 0) = false := by rw [beq_eq_false_iff_ne]; omega
        clear g1 g2 hd hn
        have hbs0 := hb.size
        go_wp2_with (first | (go_at_call 29; refine (first_any _ _ (by omega) (by omega) (by assumption)).mono ?_; rintro e w1 ⟨hdec, hb1⟩; unfold DecIs at hdec; rw [HD.out] at hdec; subst hdec; replace hown := owns_below hown hb1; replace hb := hb.trans (hb1.mono hbs0); have hbs := hb.size; clear hb1) | (at_builtin; refine wpList_append_own _ rfl _ _ 44 rfl w.heap.size 21 i0 (.int .i32 0) 1 4 Tryd.underlying44 hi hz0 hz1 hz2 rfl (by decide) _ _ _ rfl (hown.alloc _) ⟨w1.heap.size, 0, none⟩ 1 1 [.int .i32 r] rfl rfl (cell_one _ _) one_int (by unfold maxLen; omega) (by omega) (by simp; omega) ?_; intro v' w2 hown' hgrow hnil'))
        have hb2 := hb.trans ((((Below.refl _ _).alloc hbs _).trans (below_of_grown (row := u4.ownBlock) hgrow (by simp; omega) (owns_base hown))))
        have hsz : (t.extract n t.size).size = t.size - n := by rw [ByteArray.size_extract]; omega
        exact ⟨⟨l ++ [r], t.extract n t.size, rfl, by omega, HG.out, HS2, by simpa using hown', hb2⟩, by show (t.extract n t.size).size < t.size; omega⟩
end Go.Proofs.YtkibkbbjpgomlaaDoor.L
namespace Go.Proofs.YtkibkbbjpgomlaaDoor.L
open Go.RowKit
open LM Aid
set_option linter.unusedSimpArgs false
set_option linter.unusedVariables false

theorem rune_any (r : Int) (w : World) : Calls Tryd.prog 50 #[.int .i64 r] w fun e w' => e = .returned (.bool (scalar r)) ∧ w = w' := by
  go_enter Tryd.func50, Tryd.ntmps50
  go_wp2
  all_goals go_ret
  all_goals exact ⟨ret_bool (by rw [Bool.eq_iff_iff]; simp only [scalar, decide_eq_true_eq, Bool.or_eq_true, Bool.false_eq_true, true_iff, false_iff]; omega), rfl⟩

theorem i32_or {x y : Int} (i : Nat) (hx0 : 0 ≤ x) (hx : x % 2 ^ i = 0) (hx1 : x < 2147483648) (h0 : 0 ≤ y) (h1 : y < 2 ^ i) (hi : i ≤ 31) : bits .or .i32 x y = x + y :=
  bits_join .i32 31 (by decide) wraps_i32 i x y hx0 hx hx1 h0 h1 (by
    have : (2 : Int) ^ i ≤ 2 ^ 31 := by
      have := Nat.pow_le_pow_right (n := 2) (by decide) hi
      exact_mod_cast this
    omega)
theorem info_u8 : (Tryd.prog.info? 5).map (fun i => (i.zero, i.size, i.bytes)) = some (some (.int .u8 0), 1, 1) := by kernel_rfl

theorem enc_1 {r : Int} (h0 : 0 ≤ r) (h1 : r < 128) : enc r = [by8 (r)] := by unfold enc; rw [if_pos (by omega)]
theorem cells_1 {r : Int} (h0 : 0 ≤ r) (h1 : r < 128) : bytesV (enc r) = [.int .u8 (r)] := by
  rw [enc_1 h0 h1]
  simp only [bytesV, List.map_cons, List.map_nil]
  rw [by8_toNat (x := r) (by omega) (by omega)]
set_option maxRecDepth 100000 in
set_option maxHeartbeats 1000000 in
theorem rwrite_1 (r : Int) (w : World) (h0 : 0 ≤ r) (h1 : r < 128) :
    Calls Tryd.prog 51 #[.int .i64 r] w fun e w' => e = .returned (.string ⟨(enc r).toArray⟩) ∧ Below w.heap.size w w' := by
  have HC := Lib.hid (cells_1 h0 h1)
  have HL := Lib.hid (congrArg List.length (enc_1 h0 h1))
  go_enter Tryd.func51, Tryd.ntmps51
  go_wp2_with (with_reducible refine wpList_string _ rfl 30 9 _ rfl 5 Tryd.underlying30 Tryd.underlying9 Tryd.underlying5 w.heap.size 1 1 (enc r) rfl ?hl ?hc ?_)
  case hl => rw [HL.out]; rfl
  case hc =>
    intro j hj
    have hj' : (bytesV (enc r))[j]? = some (.int .u8 ((enc r)[j].toNat : Int)) := by simp [bytesV, List.getElem?_eq_getElem hj]
    rw [HC.out] at hj'
    rw [World.cell?_alloc_at _ _ _ _ rfl]
    simpa using hj'
  go_ret
  exact ⟨rfl, (Below.refl _ _).alloc (Nat.le_refl _) _⟩

theorem enc_2 {r : Int} (h0 : 128 ≤ r) (h1 : r < 2048) : enc r = [by8 (192 + r / 64), by8 (128 + r % 64)] := by unfold enc; rw [if_neg (by omega)]; rw [if_pos (by omega)]
theorem cells_2 {r : Int} (h0 : 128 ≤ r) (h1 : r < 2048) : bytesV (enc r) = [.int .u8 (192 + r / 64), .int .u8 (128 + r % 64)] := by
  rw [enc_2 h0 h1]
  simp only [bytesV, List.map_cons, List.map_nil]
  rw [by8_toNat (x := 192 + r / 64) (by omega) (by omega), by8_toNat (x := 128 + r % 64) (by omega) (by omega)]
set_option maxRecDepth 100000 in
set_option maxHeartbeats 1000000 in
theorem rwrite_2 (r : Int) (w : World) (h0 : 128 ≤ r) (h1 : r < 2048) :
    Calls Tryd.prog 51 #[.int .i64 r] w fun e w' => e = .returned (.string ⟨(enc r).toArray⟩) ∧ Below w.heap.size w w' := by
  have HC := Lib.hid (cells_2 h0 h1)
  have HL := Lib.hid (congrArg List.length (enc_2 h0 h1))
  go_enter Tryd.func51, Tryd.ntmps51
  go_wp2_with (with_reducible refine wpList_string _ rfl 30 9 _ rfl 5 Tryd.underlying30 Tryd.underlying9 Tryd.underlying5 w.heap.size 2 2 (enc r) rfl ?hl ?hc ?_)
  case hl => rw [HL.out]; rfl
  case hc =>
    intro j hj
    have hj' : (bytesV (enc r))[j]? = some (.int .u8 ((enc r)[j].toNat : Int)) := by simp [bytesV, List.getElem?_eq_getElem hj]
    rw [HC.out] at hj'
    rw [World.cell?_alloc_at _ _ _ _ rfl]
    simpa using hj'
  go_ret
  exact ⟨rfl, (Below.refl _ _).alloc (Nat.le_refl _) _⟩

theorem enc_3 {r : Int} (h0 : 2048 ≤ r) (h1 : r < 65536) : enc r = [by8 (224 + r / 4096), by8 (128 + r / 64 % 64), by8 (128 + r % 64)] := by unfold enc; rw [if_neg (by omega)]; rw [if_neg (by omega)]; rw [if_pos (by omega)]
theorem cells_3 {r : Int} (h0 : 2048 ≤ r) (h1 : r < 65536) : bytesV (enc r) = [.int .u8 (224 + r / 4096), .int .u8 (128 + r / 64 % 64), .int .u8 (128 + r % 64)] := by
  rw [enc_3 h0 h1]
  simp only [bytesV, List.map_cons, List.map_nil]
  rw [by8_toNat (x := 224 + r / 4096) (by omega) (by omega), by8_toNat (x := 128 + r / 64 % 64) (by omega) (by omega), by8_toNat (x := 128 + r % 64) (by omega) (by omega)]
set_option maxRecDepth 100000 in
set_option maxHeartbeats 1000000 in
theorem rwrite_3 (r : Int) (w : World) (h0 : 2048 ≤ r) (h1 : r < 65536) :
    Calls Tryd.prog 51 #[.int .i64 r] w fun e w' => e = .returned (.string ⟨(enc r).toArray⟩) ∧ Below w.heap.size w w' := by
  have HC := Lib.hid (cells_3 h0 h1)
  have HL := Lib.hid (congrArg List.length (enc_3 h0 h1))
  go_enter Tryd.func51, Tryd.ntmps51
  go_wp2_with (with_reducible refine wpList_string _ rfl 30 9 _ rfl 5 Tryd.underlying30 Tryd.underlying9 Tryd.underlying5 w.heap.size 3 3 (enc r) rfl ?hl ?hc ?_)
  case hl => rw [HL.out]; rfl
  case hc =>
    intro j hj
    have hj' : (bytesV (enc r))[j]? = some (.int .u8 ((enc r)[j].toNat : Int)) := by simp [bytesV, List.getElem?_eq_getElem hj]
    rw [HC.out] at hj'
    rw [World.cell?_alloc_at _ _ _ _ rfl]
    simpa using hj'
  go_ret
  exact ⟨rfl, (Below.refl _ _).alloc (Nat.le_refl _) _⟩

theorem enc_4 {r : Int} (h0 : 65536 ≤ r) (h1 : r ≤ 1114111) : enc r = [by8 (240 + r / 262144), by8 (128 + r / 4096 % 64), by8 (128 + r / 64 % 64), by8 (128 + r % 64)] := by unfold enc; rw [if_neg (by omega)]; rw [if_neg (by omega)]; rw [if_neg (by omega)]
theorem cells_4 {r : Int} (h0 : 65536 ≤ r) (h1 : r ≤ 1114111) : bytesV (enc r) = [.int .u8 (240 + r / 262144), .int .u8 (128 + r / 4096 % 64), .int .u8 (128 + r / 64 % 64), .int .u8 (128 + r % 64)] := by
  rw [enc_4 h0 h1]
  simp only [bytesV, List.map_cons, List.map_nil]
  rw [by8_toNat (x := 240 + r / 262144) (by omega) (by omega), by8_toNat (x := 128 + r / 4096 % 64) (by omega) (by omega), by8_toNat (x := 128 + r / 64 % 64) (by omega) (by omega), by8_toNat (x := 128 + r % 64) (by omega) (by omega)]
set_option maxRecDepth 100000 in
set_option maxHeartbeats 1000000 in
theorem rwrite_4 (r : Int) (w : World) (h0 : 65536 ≤ r) (h1 : r ≤ 1114111) :
    Calls Tryd.prog 51 #[.int .i64 r] w fun e w' => e = .returned (.string ⟨(enc r).toArray⟩) ∧ Below w.heap.size w w' := by
  have HC := Lib.hid (cells_4 h0 h1)
  have HL := Lib.hid (congrArg List.length (enc_4 h0 h1))
  go_enter Tryd.func51, Tryd.ntmps51
  go_wp2_with (with_reducible refine wpList_string _ rfl 30 9 _ rfl 5 Tryd.underlying30 Tryd.underlying9 Tryd.underlying5 w.heap.size 4 4 (enc r) rfl ?hl ?hc ?_)
  case hl => rw [HL.out]; rfl
  case hc =>
    intro j hj
    have hj' : (bytesV (enc r))[j]? = some (.int .u8 ((enc r)[j].toNat : Int)) := by simp [bytesV, List.getElem?_eq_getElem hj]
    rw [HC.out] at hj'
    rw [World.cell?_alloc_at _ _ _ _ rfl]
    simpa using hj'
  go_ret
  exact ⟨rfl, (Below.refl _ _).alloc (Nat.le_refl _) _⟩

theorem rwrite_any (r : Int) (w : World) (h : scalar r = true) :
    Calls Tryd.prog 51 #[.int .i64 r] w fun e w' => e = .returned (.string ⟨(enc r).toArray⟩) ∧ Below w.heap.size w w' := by
  have hs := scalar_iff.1 h
  by_cases h1 : r < 128
  · exact rwrite_1 r w (by omega) h1
  by_cases h2 : r < 2048
  · exact rwrite_2 r w (by omega) h2
  by_cases h3 : r < 65536
  · exact rwrite_3 r w (by omega) h3
  · exact rwrite_4 r w (by omega) (by omega)
end Go.Proofs.YtkibkbbjpgomlaaDoor.L
namespace Go.Proofs.YtkibkbbjpgomlaaDoor.L
open Go.RowKit
open LM Aid
set_option linter.unusedSimpArgs false
set_option linter.unusedVariables false

/-- the number that so many bytes would say -/
def saidOf (n : Nat) : List UInt8 → Int
  | [] => 0
  | c :: t => if n = 1 then c.toNat else (t.take (n - 1)).foldl (fun r d => r * 64 + (d.toNat : Int) % 64) ((c.toNat : Int) % (if n = 2 then 32 else if n = 3 then 16 else 8))

theorem said_enc {r : Int} (h : scalar r = true) (t : List UInt8) : saidOf (enc r).length (enc r ++ t) = r := by
  have hs := scalar_iff.1 h
  have cases4 : r < 128 ∨ 128 ≤ r ∧ r < 2048 ∨ 2048 ≤ r ∧ r < 65536 ∨ 65536 ≤ r := by omega
  rcases cases4 with g | ⟨g0, g1⟩ | ⟨g0, g1⟩ | g0
  · rw [enc_1 (by omega) (by omega)]
    simp [saidOf]
    have := fun x => @by8_toNat x
    rw [by8_toNat (x := r) (by omega) (by omega)]
    
  · rw [enc_2 (by omega) (by omega)]
    simp [saidOf]
    have := fun x => @by8_toNat x
    rw [by8_toNat (x := 192 + r / 64) (by omega) (by omega), by8_toNat (x := 128 + r % 64) (by omega) (by omega)]
    omega
  · rw [enc_3 (by omega) (by omega)]
    simp [saidOf]
    have := fun x => @by8_toNat x
    rw [by8_toNat (x := 224 + r / 4096) (by omega) (by omega), by8_toNat (x := 128 + r / 64 % 64) (by omega) (by omega), by8_toNat (x := 128 + r % 64) (by omega) (by omega)]
    omega
  · rw [enc_4 (by omega) (by omega)]
    simp [saidOf]
    have := fun x => @by8_toNat x
    rw [by8_toNat (x := 240 + r / 262144) (by omega) (by omega), by8_toNat (x := 128 + r / 4096 % 64) (by omega) (by omega), by8_toNat (x := 128 + r / 64 % 64) (by omega) (by omega), by8_toNat (x := 128 + r % 64) (by omega) (by omega)]
    omega

set_option maxRecDepth 100000 in
set_option maxHeartbeats 1000000 in
theorem said_1 (s : ByteArray) (w : World) (hs : (s.size : Int) ≤ 9223372036854775807) (h2 : 1 ≤ (s.size : Int)) (c  : Int) (e0 : (s[0].toNat : Int) = c) (c0 : 0 ≤ c) (c2 : c < 256)
     :
    Calls Tryd.prog 49 #[.string s, .int .i64 1] w fun e w' => e = .returned (.int .i64 (c)) ∧ w = w' := by
  go_enter Tryd.func49, Tryd.ntmps49
  go_wp2_with fail
  go_ret
  exact ⟨rfl, rfl⟩

set_option maxRecDepth 100000 in
set_option maxHeartbeats 1000000 in
theorem said_2 (s : ByteArray) (w : World) (hs : (s.size : Int) ≤ 9223372036854775807) (h2 : 2 ≤ (s.size : Int)) (c d1 : Int) (e0 : (s[0].toNat : Int) = c) (c0 : 0 ≤ c) (c2 : c < 256)
    (e1 : (s[1].toNat : Int) = d1) (p1 : 0 ≤ d1) (q1 : d1 < 256) :
    Calls Tryd.prog 49 #[.string s, .int .i64 2] w fun e w' => e = .returned (.int .i64 ((c % 32) * 64 + d1 % 64)) ∧ w = w' := by
  go_enter Tryd.func49, Tryd.ntmps49
  go_wp2_with fail
  refine wp_loop_rounds 2 ?_
  rw [rounds_succ]
  go_wp2_with fail
  rw [rounds_succ]
  go_wp2_with fail
  go_ret
  exact ⟨rfl, rfl⟩

set_option maxRecDepth 100000 in
set_option maxHeartbeats 1000000 in
theorem said_3 (s : ByteArray) (w : World) (hs : (s.size : Int) ≤ 9223372036854775807) (h2 : 3 ≤ (s.size : Int)) (c d1 d2 : Int) (e0 : (s[0].toNat : Int) = c) (c0 : 0 ≤ c) (c2 : c < 256)
    (e1 : (s[1].toNat : Int) = d1) (p1 : 0 ≤ d1) (q1 : d1 < 256) (e2 : (s[2].toNat : Int) = d2) (p2 : 0 ≤ d2) (q2 : d2 < 256) :
    Calls Tryd.prog 49 #[.string s, .int .i64 3] w fun e w' => e = .returned (.int .i64 (((c % 16) * 64 + d1 % 64) * 64 + d2 % 64)) ∧ w = w' := by
  go_enter Tryd.func49, Tryd.ntmps49
  go_wp2_with fail
  refine wp_loop_rounds 3 ?_
  rw [rounds_succ]
  go_wp2_with fail
  rw [rounds_succ]
  go_wp2_with fail
  rw [rounds_succ]
  go_wp2_with fail
  go_ret
  exact ⟨rfl, rfl⟩

set_option maxRecDepth 100000 in
set_option maxHeartbeats 1000000 in
theorem said_4 (s : ByteArray) (w : World) (hs : (s.size : Int) ≤ 9223372036854775807) (h2 : 4 ≤ (s.size : Int)) (c d1 d2 d3 : Int) (e0 : (s[0].toNat : Int) = c) (c0 : 0 ≤ c) (c2 : c < 256)
    (e1 : (s[1].toNat : Int) = d1) (p1 : 0 ≤ d1) (q1 : d1 < 256) (e2 : (s[2].toNat : Int) = d2) (p2 : 0 ≤ d2) (q2 : d2 < 256) (e3 : (s[3].toNat : Int) = d3) (p3 : 0 ≤ d3) (q3 : d3 < 256) :
    Calls Tryd.prog 49 #[.string s, .int .i64 4] w fun e w' => e = .returned (.int .i64 ((((c % 8) * 64 + d1 % 64) * 64 + d2 % 64) * 64 + d3 % 64)) ∧ w = w' := by
  go_enter Tryd.func49, Tryd.ntmps49
  go_wp2_with fail
  refine wp_loop_rounds 4 ?_
  rw [rounds_succ]
  go_wp2_with fail
  rw [rounds_succ]
  go_wp2_with fail
  rw [rounds_succ]
  go_wp2_with fail
  rw [rounds_succ]
  go_wp2_with fail
  go_ret
  exact ⟨rfl, rfl⟩

theorem said_any (s : ByteArray) (n : Nat) (w : World) (hs : (s.size : Int) ≤ 9223372036854775807) (h1 : 1 ≤ n) (h4 : n ≤ 4) (hn : n ≤ s.size) :
    Calls Tryd.prog 49 #[.string s, .int .i64 n] w fun e w' => e = .returned (.int .i64 (saidOf n s.data.toList)) ∧ w = w' := by
  have hb : ∀ i (h : i < s.size), 0 ≤ (s[i].toNat : Int) ∧ (s[i].toNat : Int) < 256 := fun i h => by have := s[i].toNat_lt; omega
  have hcons : ∀ i (h : i < s.size), s.data.toList.drop i = s[i] :: s.data.toList.drop (i + 1) := fun i h => by
    rw [List.drop_eq_getElem_cons (by rw [len_at]; exact h)]; rfl
  have h0 : s.data.toList = s[0] :: s.data.toList.drop 1 := by have := hcons 0 (by omega); simpa using this
  match n, h1, h4, hn with
  | 1, _, _, hn =>
    refine (said_1 s w hs (by omega) _ rfl (hb 0 (by omega)).1 (hb 0 (by omega)).2).mono ?_
    rintro e w' ⟨rfl, rfl⟩
    refine ⟨?_, rfl⟩
    rw [h0]; rfl
  | 2, _, _, hn =>
    refine (said_2 s w hs (by omega) _ _ rfl (hb 0 (by omega)).1 (hb 0 (by omega)).2 rfl (hb 1 (by omega)).1 (hb 1 (by omega)).2).mono ?_
    rintro e w' ⟨rfl, rfl⟩
    refine ⟨?_, rfl⟩
    rw [h0, hcons 1 (by omega)]; simp [saidOf]
  | 3, _, _, hn =>
    refine (said_3 s w hs (by omega) _ _ _ rfl (hb 0 (by omega)).1 (hb 0 (by omega)).2 rfl (hb 1 (by omega)).1 (hb 1 (by omega)).2 rfl (hb 2 (by omega)).1 (hb 2 (by omega)).2).mono ?_
    rintro e w' ⟨rfl, rfl⟩
    refine ⟨?_, rfl⟩
    rw [h0, hcons 1 (by omega), hcons 2 (by omega)]; simp [saidOf]
  | 4, _, _, hn =>
    refine (said_4 s w hs (by omega) _ _ _ _ rfl (hb 0 (by omega)).1 (hb 0 (by omega)).2 rfl (hb 1 (by omega)).1 (hb 1 (by omega)).2 rfl (hb 2 (by omega)).1 (hb 2 (by omega)).2 rfl (hb 3 (by omega)).1 (hb 3 (by omega)).2).mono ?_
    rintro e w' ⟨rfl, rfl⟩
    refine ⟨?_, rfl⟩
    rw [h0, hcons 1 (by omega), hcons 2 (by omega), hcons 3 (by omega)]; simp [saidOf]

/-- what First tells -/
def RDecIs (s : ByteArray) (e : Ending) : Prop := e = .returned (.tuple #[.int .i64 (dec s.data.toList).1, .int .i64 ((dec s.data.toList).2 : Int)])
theorem RDecIs.mk {s : ByteArray} {x : Int} {n : Nat} {m : Int} (h : dec s.data.toList = (x, n)) (hm : m = n) : RDecIs s (.returned (.tuple #[.int .i64 x, .int .i64 m])) := by
  unfold RDecIs; rw [h, hm]
/-- so many bytes are no rune's writing -/
def Miss (l : List UInt8) (n : Nat) : Prop := scalar (saidOf n l) = true → enc (saidOf n l) ≠ l.take n
theorem hit_dec {l : List UInt8} {n : Nat} (h : scalar (saidOf n l) = true) (he : enc (saidOf n l) = l.take n) (hn : n ≤ l.length) : dec l = (saidOf n l, n) := by
  have h1 := dec_enc h (l.drop n)
  rw [he, List.take_append_drop] at h1
  rw [h1]; simp [hn]
theorem miss_dec {l : List UInt8} (h : ∀ n, 1 ≤ n → n ≤ 4 → n ≤ l.length → Miss l n) : dec l = (0, 0) := by
  refine dec_zero ?_
  by_cases hn : (dec l).2 = 0
  · exact hn
  exfalso
  obtain ⟨h1, h2, h3⟩ := dec_some (s := l) (r := (dec l).1) (n := (dec l).2) rfl hn
  have hs := said_enc h1 (l.drop (dec l).2)
  rw [← h3, ← h2] at hs
  have hl := enc_len (dec l).1
  have hle := dec_le l
  refine h (dec l).2 (by omega) (by omega) (by omega) (by rw [hs]; exact h1) ?_
  rw [hs]
  have ht := congrArg (List.take (dec l).2) h3
  have hz : (enc (dec l).1 ++ l.drop (dec l).2).take (dec l).2 = enc (dec l).1 := by
    apply List.take_left'; omega
  rw [hz] at ht; exact ht.symm
end Go.Proofs.YtkibkbbjpgomlaaDoor.L
namespace Go.Proofs.YtkibkbbjpgomlaaDoor.L
open Go.RowKit
open LM Aid
set_option linter.unusedSimpArgs false
set_option linter.unusedVariables false

theorem round_to {n : Nat} : (5 - intOf (Value.int IntKind.i64 ((n : Int) + 1))).toNat < (5 - intOf (Value.int IntKind.i64 (n : Int))).toNat ↔ n < 5 := by
  simp only [intOf]; omega
theorem miss_next {l : List UInt8} {n : Nat} (h : ∀ m, 1 ≤ m → m < n → m ≤ l.length → Miss l m) (hn : Miss l n) : ∀ m, 1 ≤ m → m < n + 1 → m ≤ l.length → Miss l m := fun m h1 h2 h3 => by
  by_cases e : m = n
  · subst e; exact hn
  · exact h m h1 (by omega) h3
theorem rune_no (r : Int) (w : World) (h : scalar r = false) : Calls Tryd.prog 50 #[.int .i64 r] w fun e w' => e = .returned (.bool false) ∧ w' = w :=
  (rune_any r w).mono fun e w' ⟨he, hw⟩ => ⟨by rw [he, h], hw.symm⟩
theorem take_extract (s : ByteArray) (n : Nat) : (s.extract 0 n).data.toList = s.data.toList.take n := by
  rw [ByteArray.data_extract, Array.toList_extract]
  simp [List.extract]

set_option maxRecDepth 100000 in
set_option maxHeartbeats 1000000 in
theorem rfirst_any (s : ByteArray) (w : World) (hs : (s.size : Int) ≤ 9223372036854775807) :
    Calls Tryd.prog 45 #[.string s] w fun e w' => RDecIs s e ∧ Below w.heap.size w w' := by
  go_enter Tryd.func45, Tryd.ntmps45
  go_wp2_with fail
  go_loopw [4] (fun x wr => ∃ n : Nat, x = .int .i64 n ∧ 1 ≤ n ∧ n ≤ 5 ∧ (∀ m, 1 ≤ m → m < n → m ≤ s.data.toList.length → Miss s.data.toList m) ∧ Below w.heap.size w wr)
    (fun x _ => (5 - intOf x).toNat)
  case atStart => exact ⟨1, rfl, by omega, by omega, fun m h1 h2 => by omega, Below.refl _ _⟩
  case round =>
    obtain ⟨n, rfl, hn1, hn5, hmiss, hb⟩ := hrel
    have HM := Lib.hid hmiss
    clear hmiss
    have hb0 := hb.size
    by_cases h4 : (n : Int) ≤ 4
    · by_cases hle : (n : Int) ≤ (s.size : Int)
      · obtain ⟨r, hr⟩ : ∃ r, saidOf n s.data.toList = r := ⟨_, rfl⟩
        have HR := Lib.hid hr
        clear hr
        cases hsc : scalar r
        · go_wp2_with (first | (go_at_call 49; refine (said_any s n _ hs (by omega) (by omega) (by omega)).mono ?_; rintro e w1 ⟨rfl, rfl⟩; rw [HR.out]))
          go_quiet ((go_at_call 50; exact Calls.quiet_of_same (rune_no _ _ hsc)))
          go_wp2_with fail
          exact ⟨⟨n + 1, by go_num, by omega, by omega, miss_next HM.out (fun hx => by rw [HR.out, hsc] at hx; cases hx), below_drewN hb _⟩, round_to.2 (by omega)⟩
        · go_wp2_with (first | (go_at_call 49; refine (said_any s n _ hs (by omega) (by omega) (by omega)).mono ?_; rintro e w1 ⟨rfl, rfl⟩; rw [HR.out]))
          go_region_with (first | (go_at_call 50; refine (rune_any _ _).mono ?_; rintro e w1 ⟨rfl, rfl⟩; rw [hsc]) | (go_at_call 51; refine (rwrite_any _ _ hsc).mono ?_; rintro e w1 ⟨rfl, hb1⟩))
          go_wp2_with fail
          · have hit : (enc r == (s.extract 0 n).toList) = true := by assumption
            rw [beq_iff_eq, ByteArray.toList_eq, take_extract] at hit
            go_ret2
            exact ⟨RDecIs.mk (x := r) (n := n) (by have := hit_dec (l := s.data.toList) (n := n) (by rw [HR.out]; exact hsc) (by rw [HR.out]; exact hit) (by rw [len_at]; omega); rw [HR.out] at this; exact this) rfl, hb.drew.trans (hb1.mono hb0)⟩
          · have hit : (enc r == (s.extract 0 n).toList) = false := by assumption
            rw [beq_eq_false_iff_ne, ByteArray.toList_eq, take_extract] at hit
            exact ⟨⟨n + 1, by go_num, by omega, by omega, miss_next HM.out (fun _ => by rw [HR.out]; exact hit), hb.drew.trans (hb1.mono hb0)⟩, round_to.2 (by omega)⟩
      · go_wp2_with fail
        go_ret2
        exact ⟨RDecIs.mk (x := 0) (n := 0) (miss_dec fun m h1 h2 h3 => HM.out m h1 (by rw [len_at] at h3; omega) h3) rfl, hb⟩
    · go_wp2_with fail
      go_ret2
      exact ⟨RDecIs.mk (x := 0) (n := 0) (miss_dec fun m h1 h2 h3 => HM.out m h1 (by omega) h3) rfl, hb⟩

theorem dec_range (s : List UInt8) : 0 ≤ (dec s).1 ∧ (dec s).1 ≤ 1114111 := by
  by_cases hn : (dec s).2 = 0
  · rw [dec_zero hn]; decide
  · have := scalar_iff.1 (dec_some (s := s) (r := (dec s).1) (n := (dec s).2) rfl hn).1; omega

set_option maxRecDepth 100000 in
set_option maxHeartbeats 1000000 in
theorem rrunes_any (s : ByteArray) (w : World) (hs : (s.size : Int) ≤ 9223372036854775807) (hf : Fits s.data.toList) :
    Calls Tryd.prog 31 #[.string s] w (RunesPost w s) := by
  obtain ⟨i0, hi, hz0, hz1, hz2⟩ := info_parts info_i32
  go_enter Tryd.func31, Tryd.ntmps31
  go_wp2_with fail
  go_loopw [0, 4] (fun x v wr => ∃ (l : List Int) (t : ByteArray), x = .string t ∧ t.size ≤ s.size ∧ (∀ r ∈ l, scalar r = true) ∧ Hid (s.data.toList = encs l ++ t.data.toList) ∧
      wr.ownsRow w.heap.size 21 1 v l.length (l.map (.int .i32)) ∧ Below w.heap.size w wr)
    (fun x _ _ => strLen x)
  case atStart => exact ⟨[], s, rfl, Nat.le_refl _, by simp, rfl, World.ownsRow_nil _ _ _ _, Below.refl _ _⟩
  case round =>
    obtain ⟨l, t, rfl, ht, hl, HS, hown, hb⟩ := hrel
    have hL := hf l _ hl HS.out
    have HL := Lib.hid hl
    clear hl
    by_cases h0 : t.size = 0
    · have h0' : ¬ (0 : Int) < (t.size : Int) := by omega
      have HE := Lib.hid h0
      clear h0
      go_wp2_with fail
      go_ret2
      have e0 : t.data.toList = [] := by
        apply List.eq_nil_of_length_eq_zero; rw [len_at]; exact HE.out
      exact ⟨hb, .inr ⟨l, _, runes_iff.2 ⟨HL.out, by rw [HS.out, e0, List.append_nil]⟩, rfl, hown⟩⟩
    · have h0' : 0 < t.size := by omega
      clear h0
      have hrg := dec_range t.data.toList
      obtain ⟨r, n, hd⟩ : ∃ r n, dec t.data.toList = (r, n) := ⟨_, _, rfl⟩
      rw [hd] at hrg
      obtain ⟨hr0, hr1⟩ := hrg
      simp only at hr0 hr1
      by_cases hn : n = 0
      · subst hn
        have HD := Lib.hid hd
        clear hd
        go_wp2_with (go_at_call 45; refine (rfirst_any _ _ (by omega)).mono ?_; rintro e w1 ⟨hdec, hb1⟩; unfold RDecIs at hdec; rw [HD.out] at hdec; subst hdec)
        go_ret2
        refine ⟨hb.trans (hb1.mono hb.size), .inl ⟨?_, rfl⟩⟩
        rw [HS.out]
        exact runes_none HL.out (fun h => by have := congrArg List.length h; rw [len_at, List.length_nil] at this; omega) (by rw [HD.out])
      · obtain ⟨g1, g2, g3, g4⟩ := runes_step (W := w) (wr := wr) (w1 := wr) HL.out HS.out hd hn
        have hL2 := hf _ _ g1 g2
        rw [List.length_append, List.length_singleton] at hL2
        have HG := Lib.hid g1
        have HS2 := Lib.hid g2
        have HD := Lib.hid hd
        have hnb : ((n : Int) == 0) = false := by rw [beq_eq_false_iff_ne]; omega
        clear g1 g2 hd hn
        have hbs0 := hb.size
        go_wp2_with (first | (go_at_call 45; refine (rfirst_any _ _ (by omega)).mono ?_; rintro e w1 ⟨hdec, hb1⟩; unfold RDecIs at hdec; rw [HD.out] at hdec; subst hdec; replace hown := owns_below hown hb1; replace hb := hb.trans (hb1.mono hbs0); have hbs := hb.size; clear hb1) | (at_builtin; refine wpList_append_own _ rfl _ _ 44 rfl w.heap.size 21 i0 (.int .i32 0) 1 4 Tryd.underlying44 hi hz0 hz1 hz2 rfl (by decide) _ _ _ rfl (hown.alloc _) ⟨w1.heap.size, 0, none⟩ 1 1 [.int .i32 r] rfl rfl (cell_one _ _) one_int (by unfold maxLen; omega) (by omega) (by simp; omega) ?_; intro v' w2 hown' hgrow hnil'))
        have hb2 := hb.trans ((((Below.refl _ _).alloc hbs _).trans (below_of_grown (row := u4.ownBlock) hgrow (by simp; omega) (owns_base hown))))
        have hsz : (t.extract n t.size).size = t.size - n := by rw [ByteArray.size_extract]; omega
        exact ⟨⟨l ++ [r], t.extract n t.size, rfl, by omega, HG.out, HS2, by simpa using hown', hb2⟩, by show (t.extract n t.size).size < t.size; omega⟩
end Go.Proofs.YtkibkbbjpgomlaaDoor.L
namespace Go.Proofs.YtkibkbbjpgomlaaDoor.L
open Go.RowKit
open LM Aid
set_option linter.unusedSimpArgs false
set_option linter.unusedVariables false

theorem all_take_next {p : Int → Bool} {l : List Int} {k : Nat} (h : (l.take k).all p = true) (hk : k < l.length) {x : Int} (hx : l.getD k 0 = x) (hp : p x = true) : (l.take (k + 1)).all p = true := by
  rw [List.take_succ_eq_append_getElem hk, List.all_append, h]
  have e1 : l[k] = x := by rw [← hx]; simp [List.getD_eq_getElem?_getD, hk]
  simp [e1, hp]
theorem all_false {p : Int → Bool} {l : List Int} {k : Nat} (hk : k < l.length) {x : Int} (hx : l.getD k 0 = x) (hp : p x = false) : l.all p = false := by
  have e1 : l[k] = x := by rw [← hx]; simp [List.getD_eq_getElem?_getD, hk]
  rw [List.all_eq_false]
  exact ⟨l[k], List.getElem_mem hk, by rw [e1, hp]; simp⟩
theorem encs_take_next {l : List Int} {k : Nat} (hk : k < l.length) {x : Int} (hx : l.getD k 0 = x) : encs (l.take (k + 1)) = encs (l.take k) ++ enc x := by
  have e1 : l[k] = x := by rw [← hx]; simp [List.getD_eq_getElem?_getD, hk]
  rw [List.take_succ_eq_append_getElem hk, encs_append, e1]
  simp [encs]
theorem size_of (t : ByteArray) (l : List UInt8) (h : t.data.toList = l) : t.size = l.length := by rw [← h, len_at]
end Go.Proofs.YtkibkbbjpgomlaaDoor.L
namespace Go.Proofs.YtkibkbbjpgomlaaDoor.L
open Go.RowKit
open LM Aid
set_option linter.unusedSimpArgs false
set_option linter.unusedVariables false

def good (r : Int) : Bool := decide (32 < r ∧ r ≠ 127)
/-- is a text a word? -/
def wordB (s : ByteArray) : Bool := decide (s.size ≤ 96) && (match runes s.data.toList with | none => false | some l => l.all good && decide (1 ≤ l.length ∧ l.length ≤ 24))

theorem fits_small {s : ByteArray} (h : s.size ≤ 35184372088832) : Fits s.data.toList := by
  intro l t _ he
  have h1 := congrArg List.length he
  rw [len_at, List.length_append] at h1
  have := (encs_len l).1
  omega
theorem runes_len {s : ByteArray} {l : List Int} (h : runes s.data.toList = some l) : l.length ≤ s.size := by
  have h1 := congrArg List.length (runes_iff.1 h).2
  rw [len_at] at h1
  have := (encs_len l).1
  omega
theorem wordB_none {s : ByteArray} (h : runes s.data.toList = none) : wordB s = false := by simp [wordB, h]
theorem wordB_some {s : ByteArray} {l : List Int} (h9 : s.size ≤ 96) (h : runes s.data.toList = some l) : wordB s = (l.all good && decide (1 ≤ l.length ∧ l.length ≤ 24)) := by simp [wordB, h, h9]
theorem wordB_long {s : ByteArray} (h : ¬ s.size ≤ 96) : wordB s = false := by simp [wordB, h]

theorem all_next {p : Int → Bool} {l : List Int} {k : Nat} (hk : k < l.length) {x : Int} (hx : l.getD k 0 = x) : (l.take (k + 1)).all p = ((l.take k).all p && p x) := by
  rw [List.take_succ_eq_append_getElem hk, List.all_append]
  have e1 : l[k] = x := by rw [← hx]; simp [List.getD_eq_getElem?_getD, hk]
  simp [e1]

set_option maxRecDepth 100000 in
set_option maxHeartbeats 1000000 in
theorem word_any (s : ByteArray) (w : World) (hs : (s.size : Int) ≤ 9223372036854775807) (T : Tab w) :
    Calls Tryd.prog 12 #[.string s] w fun e w' => e = .returned (.bool (wordB s)) ∧ Below w.heap.size w w' := by
  by_cases h9 : (s.size : Int) ≤ 96
  · have hf := Lib.hid (fits_small (s := s) (by omega))
    go_enter Tryd.func12, Tryd.ntmps12
    go_wp2_with fail
    refine (runes_any s w hs hf.out T).mono ?_
    rintro e w1 ⟨hb, ⟨hn, rfl⟩ | ⟨l, v, hl, rfl, hown⟩⟩
    · have HN := Lib.hid hn
      clear hn
      go_wp2_with fail
      refine wp_loop_rounds 1 ?_
      rw [rounds_succ]
      go_wp2_with fail
      go_ret
      exact ⟨ret_bool (wordB_none HN.out).symm, hb⟩
    · have hlen := runes_len hl
      have HL := Lib.hid hl
      have HI := Lib.hid (Ints.own hown (by omega))
      clear hl hown
      obtain ⟨a1, c1, rfl⟩ := Ints.form HI.out
      go_wp2_with fail
      go_loop [17, 4] (fun i ok => ∃ (k : Nat) (b : Bool), i = .int .i64 k ∧ k ≤ l.length ∧ ok = .bool b ∧ Hid (b = (l.take k).all good)) (fun i _ => l.length - (intOf i).toNat)
      case atStart => exact ⟨0, true, rfl, Nat.zero_le _, rfl, by simp [Hid]⟩
      case round =>
        obtain ⟨k, ok, rfl, hk, rfl, HO⟩ := hrel
        by_cases hlt : (k : Int) < (l.length : Int)
        · have hlt' : k < l.length := by omega
          obtain ⟨x, hx⟩ : ∃ x, l.getD k 0 = x := ⟨_, rfl⟩
          obtain ⟨b1, o1, rfl, hbb, cx⟩ := Ints.at_ HI.out hlt' hx
          have HX := Lib.hid hx
          clear hx
          have HN := Lib.hid (all_next (p := good) hlt' HX.out)
          cases ok
          · go_wp2_with fail
            exact ⟨⟨k + 1, false, by go_num, by omega, rfl, by rw [HN.out, ← HO.out]; rfl⟩, by simp [intOf]; omega⟩
          · go_wp2_with fail
            · have hx : 32 < x := by assumption
              exact ⟨⟨k + 1, (x != 127), by go_num, by omega, rfl, by rw [HN.out, ← HO.out]; exact (by rw [Bool.eq_iff_iff]; simp [good, hx] : (x != 127) = (true && good x))⟩, by simp [intOf]; omega⟩
            · have hx : ¬ 32 < x := by assumption
              exact ⟨⟨k + 1, false, by go_num, by omega, rfl, by rw [HN.out, ← HO.out]; simp [good, hx, Hid]⟩, by simp [intOf]; omega⟩
        · have hke : k = l.length := by omega
          subst hke
          rw [List.take_length] at HO
          have HW := Lib.hid (wordB_some (s := s) (by omega) HL.out)
          rw [← HO.out] at HW
          by_cases hl1 : (1 : Int) ≤ (l.length : Int)
          · by_cases hl2 : (l.length : Int) ≤ 24
            · cases ok
              all_goals
                go_wp2_with fail
                go_ret
                exact ⟨ret_bool (by rw [HW.out]; simp; try omega), hb⟩
            · cases ok
              all_goals
                go_wp2_with fail
                go_ret
                exact ⟨ret_bool (by rw [HW.out]; simp; try omega), hb⟩
          · cases ok
            all_goals
              go_wp2_with fail
              go_ret
              exact ⟨ret_bool (by rw [HW.out]; simp; try omega), hb⟩
  · go_enter Tryd.func12, Tryd.ntmps12
    go_wp2_with fail
    go_ret
    exact ⟨ret_bool (wordB_long (by omega)).symm, Below.refl _ _⟩

set_option maxRecDepth 100000 in
set_option maxHeartbeats 1000000 in
theorem rword_any (s : ByteArray) (w : World) (hs : (s.size : Int) ≤ 9223372036854775807) :
    Calls Tryd.prog 16 #[.string s] w fun e w' => e = .returned (.bool (wordB s)) ∧ Below w.heap.size w w' := by
  by_cases h9 : (s.size : Int) ≤ 96
  · have hf := Lib.hid (fits_small (s := s) (by omega))
    go_enter Tryd.func16, Tryd.ntmps16
    go_wp2_with fail
    refine (rrunes_any s w hs hf.out).mono ?_
    rintro e w1 ⟨hb, ⟨hn, rfl⟩ | ⟨l, v, hl, rfl, hown⟩⟩
    · have HN := Lib.hid hn
      clear hn
      go_wp2_with fail
      refine wp_loop_rounds 1 ?_
      rw [rounds_succ]
      go_wp2_with fail
      go_ret
      exact ⟨ret_bool (wordB_none HN.out).symm, hb⟩
    · have hlen := runes_len hl
      have HL := Lib.hid hl
      have HI := Lib.hid (Ints.own hown (by omega))
      clear hl hown
      obtain ⟨a1, c1, rfl⟩ := Ints.form HI.out
      go_wp2_with fail
      go_loop [5] (fun i => ∃ (k : Nat), i = .int .i64 k ∧ k ≤ l.length ∧ Hid ((l.take k).all good = true)) (fun i => l.length - (intOf i).toNat)
      case atStart => exact ⟨0, rfl, Nat.zero_le _, by simp [Hid]⟩
      case round =>
        obtain ⟨k, rfl, hk, HO⟩ := hrel
        by_cases hlt : (k : Int) < (l.length : Int)
        · have hlt' : k < l.length := by omega
          obtain ⟨x, hx⟩ : ∃ x, l.getD k 0 = x := ⟨_, rfl⟩
          obtain ⟨b1, o1, rfl, hbb, cx⟩ := Ints.at_ HI.out hlt' hx
          have HX := Lib.hid hx
          clear hx
          have HW := Lib.hid (wordB_some (s := s) (by omega) HL.out)
          by_cases hx1 : x ≤ 32
          · go_wp2_with fail
            go_ret
            exact ⟨ret_bool (by rw [HW.out, all_false hlt' HX.out (by simp [good]; omega)]; rfl), hb⟩
          · by_cases hx2 : x = 127
            · have hb2 : (x == 127) = true := by rw [beq_iff_eq]; exact hx2
              have HX2 := Lib.hid hx2
              clear hx2
              go_wp2_with fail
              go_ret
              exact ⟨ret_bool (by rw [HW.out, all_false hlt' HX.out (by simp [good, HX2.out])]; rfl), hb⟩
            · have hb2 : (x == 127) = false := by rw [beq_eq_false_iff_ne]; exact hx2
              go_wp2_with fail
              exact ⟨⟨k + 1, by go_num, by omega, all_take_next HO.out hlt' HX.out (by simp [good]; omega)⟩, by simp [intOf]; omega⟩
        · have hke : k = l.length := by omega
          subst hke
          rw [List.take_length] at HO
          have HW := Lib.hid (wordB_some (s := s) (by omega) HL.out)
          rw [HO.out] at HW
          by_cases hl1 : (1 : Int) ≤ (l.length : Int)
          · by_cases hl2 : (l.length : Int) ≤ 24
            · go_wp2_with fail
              go_ret
              exact ⟨ret_bool (by rw [HW.out]; simp; try omega), hb⟩
            · go_wp2_with fail
              go_ret
              exact ⟨ret_bool (by rw [HW.out]; simp; try omega), hb⟩
          · go_wp2_with fail
            go_ret
            exact ⟨ret_bool (by rw [HW.out]; simp; try omega), hb⟩
  · go_enter Tryd.func16, Tryd.ntmps16
    go_wp2_with fail
    go_ret
    exact ⟨ret_bool (wordB_long (by omega)).symm, Below.refl _ _⟩
end Go.Proofs.YtkibkbbjpgomlaaDoor.L
namespace Go.Proofs.YtkibkbbjpgomlaaDoor.L
open Go.RowKit
open LM Aid
set_option linter.unusedSimpArgs false
set_option linter.unusedVariables false

theorem take_same {l m : List Int} (h : l.length = m.length) (ht : l.take l.length = m.take l.length) : l = m := by
  rw [List.take_length, h, List.take_length] at ht; exact ht
theorem take_next {l m : List Int} {k : Nat} (ht : l.take k = m.take k) (hk : k < l.length) (hm : k < m.length) (he : l.getD k 0 = m.getD k 0) : l.take (k + 1) = m.take (k + 1) := by
  rw [List.take_succ_eq_append_getElem hk, List.take_succ_eq_append_getElem hm, ht]
  congr 2
  simpa [List.getD_eq_getElem?_getD, hk, hm] using he
end Go.Proofs.YtkibkbbjpgomlaaDoor.L
namespace Go.Proofs.YtkibkbbjpgomlaaDoor.L
open Go.RowKit
open LM Aid
set_option linter.unusedSimpArgs false
set_option linter.unusedVariables false

/-- which of two rows of numbers is ahead -/
def lex : List Int → List Int → Bool
  | [], [] => false
  | [], _ :: _ => true
  | _ :: _, [] => false
  | a :: l, b :: m => if a = b then lex l m else decide (a < b)
theorem lex_drop {l m : List Int} : ∀ k, k ≤ l.length → k ≤ m.length → l.take k = m.take k → lex l m = lex (l.drop k) (m.drop k) := by
  intro k
  induction k generalizing l m with
  | zero => intro _ _ _; rfl
  | succ k ih =>
    intro h1 h2 h3
    match l, m, h1, h2 with
    | a :: l, b :: m, h1, h2 =>
      simp at h3
      obtain ⟨rfl, h3⟩ := h3
      simp only [lex, if_true, List.drop_succ_cons]
      exact ih (by simpa using h1) (by simpa using h2) h3
theorem lex_at {l m : List Int} {k : Nat} (h1 : k < l.length) (h2 : k < m.length) (ht : l.take k = m.take k) {x y : Int} (hx : l.getD k 0 = x) (hy : m.getD k 0 = y) (hne : x ≠ y) : lex l m = decide (x < y) := by
  rw [lex_drop k (by omega) (by omega) ht, List.drop_eq_getElem_cons h1, List.drop_eq_getElem_cons h2]
  have e1 : l[k] = x := by rw [← hx]; simp [List.getD_eq_getElem?_getD, h1]
  have e2 : m[k] = y := by rw [← hy]; simp [List.getD_eq_getElem?_getD, h2]
  simp only [lex, e1, e2, if_neg hne]
theorem lex_end {l m : List Int} {k : Nat} (h1 : k ≤ l.length) (h2 : k ≤ m.length) (ht : l.take k = m.take k) (he : k = l.length ∨ k = m.length) : lex l m = decide (l.length < m.length) := by
  rw [lex_drop k h1 h2 ht]
  have g1 : (l.drop k).length = l.length - k := List.length_drop
  have g2 : (m.drop k).length = m.length - k := List.length_drop
  match hl : l.drop k, hm : m.drop k with
  | [], [] => rw [hl] at g1; rw [hm] at g2; simp at g1 g2; simp [lex]; omega
  | [], _ :: _ => rw [hl] at g1; rw [hm] at g2; simp at g1 g2; simp [lex]; omega
  | _ :: _, [] => rw [hl] at g1; rw [hm] at g2; simp at g1 g2; simp [lex]; omega
  | _ :: _, _ :: _ => rw [hl] at g1; rw [hm] at g2; simp at g1 g2; omega

/-- a text's bytes as numbers -/
def nums (s : ByteArray) : List Int := s.data.toList.map fun b => (b.toNat : Int)
theorem nums_len (s : ByteArray) : (nums s).length = s.size := by unfold nums; rw [List.length_map, len_at]
theorem nums_at (s : ByteArray) (k : Nat) (h : k < s.size) : (nums s).getD k 0 = (s[k].toNat : Int) := by
  have h' : k < (nums s).length := by rw [nums_len]; exact h
  rw [List.getD_eq_getElem?_getD, List.getElem?_eq_getElem h', Option.getD_some]
  simp [nums, ByteArray.getElem_eq_getElem_data]

set_option maxRecDepth 100000 in
set_option maxHeartbeats 1000000 in
theorem ahead_any (a b : ByteArray) (w : World) (ha : (a.size : Int) ≤ 9223372036854775807) (hb : (b.size : Int) ≤ 9223372036854775807) :
    Calls Tryd.prog 17 #[.string a, .string b] w fun e w' => e = .returned (.bool (lex (nums a) (nums b))) ∧ Below w.heap.size w w' := by
  have N1 := Lib.hid (nums_len a)
  have N2 := Lib.hid (nums_len b)
  go_enter Tryd.func17, Tryd.ntmps17
  go_wp2_with fail
  go_loopw [5] (fun i wr => ∃ k : Nat, i = .int .i64 k ∧ k ≤ a.size ∧ k ≤ b.size ∧ Hid ((nums a).take k = (nums b).take k) ∧ Hid (∃ n, wr = w.drewN n))
    (fun i _ => a.size - (intOf i).toNat)
  case atStart => exact ⟨0, rfl, Nat.zero_le _, Nat.zero_le _, by simp [Hid], ⟨0, rfl⟩⟩
  case round =>
    obtain ⟨k, rfl, hk, hk2, HT, HW⟩ := hrel
    by_cases hlt : (k : Int) < (a.size : Int)
    · by_cases hlt2 : (k : Int) < (b.size : Int)
      · have q1 : k < a.size := by omega
        have q2 : k < b.size := by omega
        obtain ⟨x, hx⟩ : ∃ x, (a[k].toNat : Int) = x := ⟨_, rfl⟩
        obtain ⟨y, hy⟩ : ∃ y, (b[k].toNat : Int) = y := ⟨_, rfl⟩
        have HX := Lib.hid ((nums_at a k q1).trans hx)
        have HY := Lib.hid ((nums_at b k q2).trans hy)
        by_cases he : x = y
        · have hne : (x != y) = false := by rw [he]; simp
          have HE := Lib.hid he
          clear he
          go_wp2_with fail
          go_quiet (fail)
          go_wp2_with fail
          exact ⟨⟨k + 1, by go_num, by omega, by omega, take_next HT.out (by rw [N1.out]; omega) (by rw [N2.out]; omega) (by rw [HX.out, HY.out, HE.out]), by obtain ⟨n, rfl⟩ := HW.out; exact ⟨_, World.drewN_drewN _ _ _⟩⟩, by simp [intOf]; omega⟩
        · have hne : (x != y) = true := by rw [bne_iff_ne]; exact he
          have HE := Lib.hid he
          clear he
          go_wp2_with fail
          go_quiet (fail)
          go_wp2_with fail
          go_quiet (fail)
          go_wp2_with fail
          go_ret
          exact ⟨ret_bool (lex_at (by rw [N1.out]; omega) (by rw [N2.out]; omega) HT.out HX.out HY.out HE.out).symm, by obtain ⟨n, rfl⟩ := HW.out; exact below_drewN (below_drewN (below_drewN (Below.refl _ _) _) _) _⟩
      · go_wp2_with fail
        go_ret
        exact ⟨ret_bool (by rw [lex_end (by rw [N1.out]; omega) (by rw [N2.out]; omega) HT.out (by rw [N1.out, N2.out]; omega), N1.out, N2.out]), by obtain ⟨n, rfl⟩ := HW.out; exact below_drewN (Below.refl _ _) _⟩
    · go_wp2_with fail
      go_ret
      exact ⟨ret_bool (by rw [lex_end (by rw [N1.out]; omega) (by rw [N2.out]; omega) HT.out (by rw [N1.out, N2.out]; omega), N1.out, N2.out]), by obtain ⟨n, rfl⟩ := HW.out; exact below_drewN (Below.refl _ _) _⟩

theorem less_any (a b : ByteArray) (w : World) :
    Calls Tryd.prog 13 #[.string a, .string b] w fun e w' => e = .returned (.bool (Op.bytesLess a.toList b.toList)) ∧ w = w' := by
  go_enter Tryd.func13, Tryd.ntmps13
  go_wp2_with fail
  go_ret
  exact ⟨rfl, rfl⟩
end Go.Proofs.YtkibkbbjpgomlaaDoor.L
namespace Go.Proofs.YtkibkbbjpgomlaaDoor.L
open LM
set_option linter.unusedSimpArgs false
set_option linter.unusedVariables false

theorem encs_cancel {l : List Int} : ∀ {m : List Int} {s t : List UInt8}, (∀ r ∈ l, scalar r = true) → (∀ r ∈ m, scalar r = true) → encs l ++ s = encs m → ∃ m', m = l ++ m' ∧ s = encs m' := by
  induction l with
  | nil => intro m s _ _ _ h; exact ⟨m, rfl, by simpa [encs] using h⟩
  | cons r l ih =>
    intro m s t hl hm h
    rw [encs_cons, List.append_assoc] at h
    have d1 := dec_enc (hl r (by simp)) (encs l ++ s)
    match m with
    | [] =>
      exfalso
      have := congrArg List.length h
      have h1 := enc_len r
      simp [encs] at this
      rw [this.1] at h1; simp at h1
    | q :: m =>
      have d2 := dec_enc (hm q (by simp)) (encs m)
      rw [encs_cons] at h
      rw [h, d2] at d1
      simp only [Prod.mk.injEq] at d1
      obtain ⟨rfl, _⟩ := d1
      obtain ⟨m', rfl, hs⟩ := ih (t := t) (fun x hx => hl x (by simp [hx])) (fun x hx => hm x (by simp [hx])) (List.append_cancel_left h)
      exact ⟨m', rfl, hs⟩

theorem runes_join {s t : List UInt8} {l : List Int} (h : runes s = some l) : runes (s ++ t) = (runes t).map (l ++ ·) := by
  obtain ⟨hl, rfl⟩ := runes_iff.1 h
  cases ht : runes t with
  | some m =>
    obtain ⟨hm, rfl⟩ := runes_iff.1 ht
    refine runes_iff.2 ⟨fun r hr => ?_, by rw [encs_append]⟩
    rcases List.mem_append.1 hr with h | h
    · exact hl r h
    · exact hm r h
  | none =>
    cases hb : runes (encs l ++ t) with
    | none => rfl
    | some m =>
      exfalso
      obtain ⟨hm, he⟩ := runes_iff.1 hb
      obtain ⟨m', rfl, rfl⟩ := encs_cancel (t := []) hl hm he
      have : runes (encs m') = some m' := runes_iff.2 ⟨fun r hr => hm r (by simp [hr]), rfl⟩
      rw [ht] at this; cases this

theorem fits_encs {l : List Int} (hl : ∀ r ∈ l, scalar r = true) (h : l.length ≤ 35184372088832) : ∀ m t, (∀ r ∈ m, scalar r = true) → encs l = encs m ++ t → m.length ≤ 35184372088832 := by
  intro m t hm he
  obtain ⟨m', rfl, _⟩ := encs_cancel (t := []) hm hl he.symm
  simp at h; omega

theorem apart {a b : Int} (ha : scalar a = true) (hb : scalar b = true) (hne : a ≠ b) (n : Nat) (hn : n = min (enc a).length (enc b).length) : (enc a).take n ≠ (enc b).take n := by
  intro h
  have key : ∀ {x y : Int}, scalar x = true → scalar y = true → (enc x).length ≤ (enc y).length → (enc x) = (enc y).take (enc x).length → x = y := by
    intro x y hx hy hle he
    have d1 := dec_enc hx ((enc y).drop (enc x).length)
    rw [he, List.length_take, Nat.min_eq_left hle, List.take_append_drop] at d1
    have d2 := dec_enc hy []
    rw [List.append_nil, d1] at d2
    simp only [Prod.mk.injEq] at d2
    exact d2.1
  by_cases hle : (enc a).length ≤ (enc b).length
  · have : n = (enc a).length := by omega
    subst this
    rw [List.take_length] at h
    exact hne (key ha hb hle h)
  · have : n = (enc b).length := by omega
    subst this
    rw [List.take_length] at h
    exact hne (key hb ha (by omega) h.symm).symm

def ns (l : List UInt8) : List Int := l.map fun b => (b.toNat : Int)
theorem ns_append (l m : List UInt8) : ns (l ++ m) = ns l ++ ns m := by simp [ns]
theorem bytesLess_lex (l : List UInt8) : ∀ m, Op.bytesLess l m = lex (ns l) (ns m) := by
  induction l with
  | nil => intro m; cases m <;> rfl
  | cons a l ih =>
    intro m
    match m with
    | [] => rfl
    | b :: m =>
      simp only [Op.bytesLess, ns, List.map_cons, lex]
      have := ih m
      simp only [ns] at this
      rw [this]
      by_cases h : a = b
      · subst h; simp
      · have h' : ¬ (a.toNat : Int) = (b.toNat : Int) := fun e => h (UInt8.toNat_inj.1 (by omega))
        rw [if_neg h']
        simp [h, UInt8.lt_iff_toNat_lt]

theorem ns_enc {r : Int} (h : scalar r = true) : ns (enc r) = if r < 128 then [r] else if r < 2048 then [192 + r / 64, 128 + r % 64] else if r < 65536 then [224 + r / 4096, 128 + r / 64 % 64, 128 + r % 64]
    else [240 + r / 262144, 128 + r / 4096 % 64, 128 + r / 64 % 64, 128 + r % 64] := by
  have hs := scalar_iff.1 h
  unfold enc ns
  split
  · simp only [List.map_cons, List.map_nil]; rw [by8_toNat (by omega) (by omega)]
  split
  · simp only [List.map_cons, List.map_nil]; rw [by8_toNat (by omega) (by omega), by8_toNat (by omega) (by omega)]
  split
  · simp only [List.map_cons, List.map_nil]; rw [by8_toNat (by omega) (by omega), by8_toNat (by omega) (by omega), by8_toNat (by omega) (by omega)]
  · simp only [List.map_cons, List.map_nil]; rw [by8_toNat (by omega) (by omega), by8_toNat (by omega) (by omega), by8_toNat (by omega) (by omega), by8_toNat (by omega) (by omega)]

theorem lex_step {a b : Int} {l m : List Int} {p : Prop} [Decidable p] (h : if a = b then lex l m = decide p else (a < b ↔ p)) : lex (a :: l) (b :: m) = decide p := by
  simp only [lex]
  by_cases hab : a = b
  · rw [if_pos hab] at h ⊢; exact h
  · rw [if_neg hab] at h ⊢; simp [h]
theorem lex_enc {r q : Int} (hr : scalar r = true) (hq : scalar q = true) (hne : r ≠ q) (S T : List Int) : lex (ns (enc r) ++ S) (ns (enc q) ++ T) = decide (r < q) := by
  have h1 := scalar_iff.1 hr
  have h2 := scalar_iff.1 hq
  rw [ns_enc hr, ns_enc hq]
  have c1 : r < 128 ∨ (128 ≤ r ∧ r < 2048) ∨ (2048 ≤ r ∧ r < 65536) ∨ 65536 ≤ r := by omega
  have c2 : q < 128 ∨ (128 ≤ q ∧ q < 2048) ∨ (2048 ≤ q ∧ q < 65536) ∨ 65536 ≤ q := by omega
  rcases c1 with a | ⟨a, b⟩ | ⟨a, b⟩ | a <;> rcases c2 with c | ⟨c, d⟩ | ⟨c, d⟩ | c
  all_goals
    repeat (first | rw [if_pos (by omega)] | rw [if_neg (by omega)])
    simp only [List.cons_append, List.nil_append]
    repeat (refine lex_step ?_; split)
    all_goals omega
end Go.Proofs.YtkibkbbjpgomlaaDoor.L
namespace Go.Proofs.YtkibkbbjpgomlaaDoor.L
open Go.RowKit
open LM Aid
set_option linter.unusedSimpArgs false
set_option linter.unusedVariables false

set_option maxRecDepth 100000 in
set_option maxHeartbeats 1000000 in
theorem write_1 (b : Value) (m base : Nat) (xs : List Value) (r : Int) (w : World) (h0 : 0 ≤ r) (h1 : r < 128) (T : Tab w) (hown : w.ownsRow base 5 1 b m xs) (hm : m + 1 ≤ 140737488355328) (hb : base ≤ w.heap.size) :
    Calls Tryd.prog 47 #[b, .int .i32 r] w fun e w' => ∃ v, e = .returned v ∧ w'.ownsRow base 5 1 v (m + (enc r).length) (xs ++ bytesV (enc r)) ∧ Below base w w' := by
  obtain ⟨i0, hi, hz0, hz1, hz2⟩ := info_parts info_u8
  obtain ⟨u1, u2, u3, u4, u5⟩ := T
  have HC := Lib.hid (cells_1 h0 h1)
  have HL : Hid ((enc r).length = 1) := (congrArg List.length (enc_1 h0 h1))

  go_enter Tryd.func47, Tryd.ntmps47
  go_wp2_with (at_builtin; refine wpList_append_own _ rfl _ _ 30 rfl base 5 i0 (.int .u8 0) 1 1 Tryd.underlying30 hi hz0 hz1 hz2 rfl (by decide) _ _ _ rfl (hown.alloc _) ⟨w.heap.size, 0, none⟩ 1 1 (bytesV (enc r)) rfl (by rw [bytesV_length, HL.out]) ?c1 (bytesV_one _) (by unfold maxLen; omega) (by omega) (by simp; omega) ?_; rotate_right; intro v' w2 hown' hgrow hnil')
  case c1 =>
    intro j u hj
    rw [HC.out] at hj
    rw [add_plain]
    rw [World.cell?_alloc_at _ _ _ _ rfl]
    simpa using hj
  go_ret
  exact ⟨v', rfl, by rw [HL.out]; exact hown', ((Below.refl _ _).alloc hb _).trans (below_of_grown (row := b.ownBlock) hgrow (by simp; omega) (owns_base hown))⟩

set_option maxRecDepth 100000 in
set_option maxHeartbeats 1000000 in
theorem write_2 (b : Value) (m base : Nat) (xs : List Value) (r : Int) (w : World) (h0 : 128 ≤ r) (h1 : r < 2048) (T : Tab w) (hown : w.ownsRow base 5 1 b m xs) (hm : m + 2 ≤ 140737488355328) (hb : base ≤ w.heap.size) :
    Calls Tryd.prog 47 #[b, .int .i32 r] w fun e w' => ∃ v, e = .returned v ∧ w'.ownsRow base 5 1 v (m + (enc r).length) (xs ++ bytesV (enc r)) ∧ Below base w w' := by
  obtain ⟨i0, hi, hz0, hz1, hz2⟩ := info_parts info_u8
  obtain ⟨u1, u2, u3, u4, u5⟩ := T
  have HC := Lib.hid (cells_2 h0 h1)
  have HL : Hid ((enc r).length = 2) := (congrArg List.length (enc_2 h0 h1))
  have a1 : bits .or .i32 192 (r / 64) = 192 + r / 64 := i32_or 6 (by decide) (by decide) (by decide) (by omega) (by omega) (by decide)
  have z1 : bits .and .i32 r 63 = r % 64 := m_and 6 (by decide) rfl rfl (by omega) (by omega)
  have z2 : bits .or .i32 128 (r % 64) = 128 + r % 64 := i32_or 6 (by decide) (by decide) (by decide) (by omega) (by omega) (by decide)
  go_enter Tryd.func47, Tryd.ntmps47
  go_wp2_with (at_builtin; refine wpList_append_own _ rfl _ _ 30 rfl base 5 i0 (.int .u8 0) 1 1 Tryd.underlying30 hi hz0 hz1 hz2 rfl (by decide) _ _ _ rfl (hown.alloc _) ⟨w.heap.size, 0, none⟩ 2 2 (bytesV (enc r)) rfl (by rw [bytesV_length, HL.out]) ?c1 (bytesV_one _) (by unfold maxLen; omega) (by omega) (by simp; omega) ?_; rotate_right; intro v' w2 hown' hgrow hnil')
  case c1 =>
    intro j u hj
    rw [HC.out] at hj
    rw [add_plain]
    rw [World.cell?_alloc_at _ _ _ _ rfl]
    simpa using hj
  go_ret
  exact ⟨v', rfl, by rw [HL.out]; exact hown', ((Below.refl _ _).alloc hb _).trans (below_of_grown (row := b.ownBlock) hgrow (by simp; omega) (owns_base hown))⟩

set_option maxRecDepth 100000 in
set_option maxHeartbeats 1000000 in
theorem write_3 (b : Value) (m base : Nat) (xs : List Value) (r : Int) (w : World) (h0 : 2048 ≤ r) (h1 : r < 65536) (T : Tab w) (hown : w.ownsRow base 5 1 b m xs) (hm : m + 3 ≤ 140737488355328) (hb : base ≤ w.heap.size) :
    Calls Tryd.prog 47 #[b, .int .i32 r] w fun e w' => ∃ v, e = .returned v ∧ w'.ownsRow base 5 1 v (m + (enc r).length) (xs ++ bytesV (enc r)) ∧ Below base w w' := by
  obtain ⟨i0, hi, hz0, hz1, hz2⟩ := info_parts info_u8
  obtain ⟨u1, u2, u3, u4, u5⟩ := T
  have HC := Lib.hid (cells_3 h0 h1)
  have HL : Hid ((enc r).length = 3) := (congrArg List.length (enc_3 h0 h1))
  have a1 : bits .or .i32 224 (r / 4096) = 224 + r / 4096 := i32_or 5 (by decide) (by decide) (by decide) (by omega) (by omega) (by decide)
  have a2 : bits .and .i32 (r / 64) 63 = r / 64 % 64 := m_and 6 (by decide) rfl rfl (by omega) (by omega)
  have a3 : bits .or .i32 128 (r / 64 % 64) = 128 + r / 64 % 64 := i32_or 6 (by decide) (by decide) (by decide) (by omega) (by omega) (by decide)
  have z1 : bits .and .i32 r 63 = r % 64 := m_and 6 (by decide) rfl rfl (by omega) (by omega)
  have z2 : bits .or .i32 128 (r % 64) = 128 + r % 64 := i32_or 6 (by decide) (by decide) (by decide) (by omega) (by omega) (by decide)
  go_enter Tryd.func47, Tryd.ntmps47
  go_wp2_with (at_builtin; refine wpList_append_own _ rfl _ _ 30 rfl base 5 i0 (.int .u8 0) 1 1 Tryd.underlying30 hi hz0 hz1 hz2 rfl (by decide) _ _ _ rfl (hown.alloc _) ⟨w.heap.size, 0, none⟩ 3 3 (bytesV (enc r)) rfl (by rw [bytesV_length, HL.out]) ?c1 (bytesV_one _) (by unfold maxLen; omega) (by omega) (by simp; omega) ?_; rotate_right; intro v' w2 hown' hgrow hnil')
  case c1 =>
    intro j u hj
    rw [HC.out] at hj
    rw [add_plain]
    rw [World.cell?_alloc_at _ _ _ _ rfl]
    simpa using hj
  go_ret
  exact ⟨v', rfl, by rw [HL.out]; exact hown', ((Below.refl _ _).alloc hb _).trans (below_of_grown (row := b.ownBlock) hgrow (by simp; omega) (owns_base hown))⟩

set_option maxRecDepth 100000 in
set_option maxHeartbeats 1000000 in
theorem write_4 (b : Value) (m base : Nat) (xs : List Value) (r : Int) (w : World) (h0 : 65536 ≤ r) (h1 : r ≤ 1114111) (T : Tab w) (hown : w.ownsRow base 5 1 b m xs) (hm : m + 4 ≤ 140737488355328) (hb : base ≤ w.heap.size) :
    Calls Tryd.prog 47 #[b, .int .i32 r] w fun e w' => ∃ v, e = .returned v ∧ w'.ownsRow base 5 1 v (m + (enc r).length) (xs ++ bytesV (enc r)) ∧ Below base w w' := by
  obtain ⟨i0, hi, hz0, hz1, hz2⟩ := info_parts info_u8
  obtain ⟨u1, u2, u3, u4, u5⟩ := T
  have HC := Lib.hid (cells_4 h0 h1)
  have HL : Hid ((enc r).length = 4) := (congrArg List.length (enc_4 h0 h1))
  have a1 : bits .or .i32 240 (r / 262144) = 240 + r / 262144 := i32_or 4 (by decide) (by decide) (by decide) (by omega) (by omega) (by decide)
  have a2 : bits .and .i32 (r / 4096) 63 = r / 4096 % 64 := m_and 6 (by decide) rfl rfl (by omega) (by omega)
  have a3 : bits .or .i32 128 (r / 4096 % 64) = 128 + r / 4096 % 64 := i32_or 6 (by decide) (by decide) (by decide) (by omega) (by omega) (by decide)
  have a4 : bits .and .i32 (r / 64) 63 = r / 64 % 64 := m_and 6 (by decide) rfl rfl (by omega) (by omega)
  have a5 : bits .or .i32 128 (r / 64 % 64) = 128 + r / 64 % 64 := i32_or 6 (by decide) (by decide) (by decide) (by omega) (by omega) (by decide)
  have z1 : bits .and .i32 r 63 = r % 64 := m_and 6 (by decide) rfl rfl (by omega) (by omega)
  have z2 : bits .or .i32 128 (r % 64) = 128 + r % 64 := i32_or 6 (by decide) (by decide) (by decide) (by omega) (by omega) (by decide)
  go_enter Tryd.func47, Tryd.ntmps47
  go_wp2_with (at_builtin; refine wpList_append_own _ rfl _ _ 30 rfl base 5 i0 (.int .u8 0) 1 1 Tryd.underlying30 hi hz0 hz1 hz2 rfl (by decide) _ _ _ rfl (hown.alloc _) ⟨w.heap.size, 0, none⟩ 4 4 (bytesV (enc r)) rfl (by rw [bytesV_length, HL.out]) ?c1 (bytesV_one _) (by unfold maxLen; omega) (by omega) (by simp; omega) ?_; rotate_right; intro v' w2 hown' hgrow hnil')
  case c1 =>
    intro j u hj
    rw [HC.out] at hj
    rw [add_plain]
    rw [World.cell?_alloc_at _ _ _ _ rfl]
    simpa using hj
  go_ret
  exact ⟨v', rfl, by rw [HL.out]; exact hown', ((Below.refl _ _).alloc hb _).trans (below_of_grown (row := b.ownBlock) hgrow (by simp; omega) (owns_base hown))⟩

theorem write_any (b : Value) (m base : Nat) (xs : List Value) (r : Int) (w : World) (h : scalar r = true) (T : Tab w) (hown : w.ownsRow base 5 1 b m xs) (hm : m + (enc r).length ≤ 140737488355328) (hb : base ≤ w.heap.size) :
    Calls Tryd.prog 47 #[b, .int .i32 r] w fun e w' => ∃ v, e = .returned v ∧ w'.ownsRow base 5 1 v (m + (enc r).length) (xs ++ bytesV (enc r)) ∧ Below base w w' := by
  have hs := scalar_iff.1 h
  by_cases h1 : r < 128
  · rw [enc_1 (by omega) h1] at hm; exact write_1 b m base xs r w (by omega) h1 T hown hm hb
  by_cases h2 : r < 2048
  · rw [enc_2 (by omega) h2] at hm; exact write_2 b m base xs r w (by omega) h2 T hown hm hb
  by_cases h3 : r < 65536
  · rw [enc_3 (by omega) h3] at hm; exact write_3 b m base xs r w (by omega) h3 T hown hm hb
  · rw [enc_4 (by omega) (by omega)] at hm; exact write_4 b m base xs r w (by omega) (by omega) T hown hm hb
end Go.Proofs.YtkibkbbjpgomlaaDoor.L
namespace Go.Proofs.YtkibkbbjpgomlaaDoor.L
open Go.RowKit
open LM Aid
set_option linter.unusedSimpArgs false
set_option linter.unusedVariables false

/-- what is told of numbers that are to be written -/
def TextPost (l : List Int) (e : Ending) : Prop := (l.all scalar = true ∧ ∃ t : ByteArray, t.data.toList = encs l ∧ e = .returned (.tuple #[.string t, .bool true])) ∨
  (l.all scalar = false ∧ e = .returned (.tuple #[.string ⟨#[]⟩, .bool false]))

set_option maxRecDepth 100000 in
set_option maxHeartbeats 1000000 in
theorem text_any (v : Value) (l : List Int) (w : World) (h1 : Ints w .i32 v l) (h4 : 4 * l.length ≤ 140737488355328) (T : Tab w) :
    Calls Tryd.prog 41 #[v] w fun e w' => TextPost l e ∧ Below w.heap.size w w' := by
  have H1 := Lib.hid h1
  clear h1
  obtain ⟨a1, c1, rfl⟩ := Ints.form H1.out
  go_enter Tryd.func41, Tryd.ntmps41
  go_wp2_with fail
  go_loopw [9, 4] (fun i b wr => ∃ k : Nat, i = .int .i64 k ∧ k ≤ l.length ∧ Hid ((l.take k).all scalar = true) ∧ wr.ownsRow w.heap.size 5 1 b (encs (l.take k)).length (bytesV (encs (l.take k))) ∧ Below w.heap.size w wr)
    (fun i _ _ => l.length - (intOf i).toNat)
  case atStart => exact ⟨0, rfl, Nat.zero_le _, by simp [Hid], by simpa [encs, bytesV] using World.ownsRow_nil w w.heap.size 5 1, Below.refl _ _⟩
  case round =>
    obtain ⟨k, rfl, hk, HA, hown, hb⟩ := hrel
    have Tr := T.below hb
    have hbs := hb.size
    by_cases hlt : (k : Int) < (l.length : Int)
    · have hlt' : k < l.length := by omega
      obtain ⟨x, hx⟩ : ∃ x, l.getD k 0 = x := ⟨_, rfl⟩
      obtain ⟨b1, o1, rfl, hbb, cx⟩ := Ints.at_ (H1.out.below hb) hlt' hx
      have HX := Lib.hid hx
      clear hx
      cases hsc : scalar x
      · go_wp2_with (go_at_call 42; refine (scalar_any _ _).mono ?_; rintro e w1 ⟨rfl, rfl⟩; rw [hsc])
        go_ret2
        exact ⟨.inr ⟨all_false hlt' HX.out hsc, rfl⟩, hb⟩
      · have hle := (encs_len (l.take (k + 1))).2
        rw [encs_take_next hlt' HX.out, List.length_append, List.length_take] at hle
        have hle2 : (encs (l.take k)).length + (enc x).length ≤ 140737488355328 := by omega
        have HN := Lib.hid (encs_take_next hlt' HX.out)
        clear hle
        go_wp2_with (first | (go_at_call 42; refine (scalar_any _ _).mono ?_; rintro e w1 ⟨rfl, rfl⟩; rw [hsc]) | (go_at_call 47; refine (write_any _ _ w.heap.size _ _ _ hsc Tr hown hle2 hbs).mono ?_; rintro e w1 ⟨v', rfl, hown', hb1⟩))
        exact ⟨⟨k + 1, by go_num, by omega, all_take_next HA.out hlt' HX.out hsc, by rw [HN.out, List.length_append, bytesV_append]; exact hown', hb.trans hb1⟩, by simp [intOf]; omega⟩
    · have hke : k = l.length := by omega
      subst hke
      rw [List.take_length] at HA hown
      go_wp2_with (with_reducible refine wpList_string_own _ rfl 30 9 _ rfl 5 Tryd.underlying30 Tryd.underlying9 Tryd.underlying5 w.heap.size u4 (encs l) rfl hown ?_)
      go_ret2
      exact ⟨.inl ⟨HA.out, ⟨_, rfl, rfl⟩⟩, hb⟩

end Go.Proofs.YtkibkbbjpgomlaaDoor.L
