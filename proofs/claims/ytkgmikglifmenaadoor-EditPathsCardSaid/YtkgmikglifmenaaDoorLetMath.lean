/-
  The plain mathematics of layer 1 (letters): the writing of a rune, the rune that a text begins with, and that each undoes the other. No program is in sight.
-/
namespace Go.Proofs.YtkgmikglifmenaaDoor.LM

def scalar (r : Int) : Bool := decide (0 ≤ r ∧ r ≤ 1114111 ∧ (r < 55296 ∨ 57343 < r))
theorem scalar_iff {r : Int} : scalar r = true ↔ 0 ≤ r ∧ r ≤ 1114111 ∧ (r < 55296 ∨ 57343 < r) := by simp [scalar]

/-- a byte -/
def by8 (x : Int) : UInt8 := UInt8.ofNat x.toNat
theorem by8_toNat {x : Int} (h0 : 0 ≤ x) (h : x < 256) : ((by8 x).toNat : Int) = x := by
  unfold by8
  rw [UInt8.toNat_ofNat']
  omega
theorem by8_toNat' {x : Int} (h0 : 0 ≤ x) (h : x < 256) : (by8 x).toNat = x.toNat := by
  have := by8_toNat h0 h
  omega
theorem eq_by8 {c : UInt8} {x : Int} (h : (c.toNat : Int) = x) : c = by8 x := by
  have h1 := c.toNat_lt
  apply UInt8.toNat_inj.1
  rw [by8_toNat' (by omega) (by omega)]
  omega

/-- the writing of a rune -/
def enc (r : Int) : List UInt8 :=
  if r < 128 then [by8 r]
  else if r < 2048 then [by8 (192 + r / 64), by8 (128 + r % 64)]
  else if r < 65536 then [by8 (224 + r / 4096), by8 (128 + r / 64 % 64), by8 (128 + r % 64)]
  else [by8 (240 + r / 262144), by8 (128 + r / 4096 % 64), by8 (128 + r / 64 % 64), by8 (128 + r % 64)]

theorem enc_len (r : Int) : 1 ≤ (enc r).length ∧ (enc r).length ≤ 4 := by
  unfold enc; (repeat' split) <;> simp

def lead (c : Nat) : Nat := if c < 128 then 1 else if c / 32 = 6 then 2 else if c / 16 = 14 then 3 else if c / 8 = 30 then 4 else 0
def least (n : Nat) : Int := if n = 2 then 128 else if n = 3 then 2048 else if n = 4 then 65536 else 0

/-- the bytes behind the first one, put to it; none: one of them is no such byte -/
def conts : List UInt8 → Int → Option Int
  | [], r => some r
  | d :: t, r => if d.toNat / 64 = 2 then conts t (r * 64 + (d.toNat : Int) % 64) else none

def lead0 (c : Nat) : Int := if c < 128 then c else if c / 32 = 6 then (c : Int) % 32 else if c / 16 = 14 then (c : Int) % 16 else (c : Int) % 8

/-- the rune with whose writing a text begins, and how many bytes that has; 0: none -/
def dec : List UInt8 → Int × Nat
  | [] => (0, 0)
  | c :: t =>
    if c.toNat < 128 then (c.toNat, 1)
    else if lead c.toNat = 0 ∨ t.length + 1 < lead c.toNat then (0, 0)
    else match conts (t.take (lead c.toNat - 1)) (lead0 c.toNat) with
      | none => (0, 0)
      | some r => if r < least (lead c.toNat) ∨ scalar r = false then (0, 0) else (r, lead c.toNat)

theorem dec_enc {r : Int} (h : scalar r = true) (t : List UInt8) : dec (enc r ++ t) = (r, (enc r).length) := by
  have hs := scalar_iff.1 h
  unfold enc
  split
  · rename_i h1
    have e := by8_toNat (x := r) (by omega) (by omega)
    simp only [List.cons_append, List.nil_append, dec, List.length_cons, List.length_nil]
    rw [if_pos (by omega), e]
  split
  · rename_i h0 h1
    have e1 := by8_toNat (x := 192 + r / 64) (by omega) (by omega)
    have e2 := by8_toNat (x := 128 + r % 64) (by omega) (by omega)
    have hl : lead (by8 (192 + r / 64)).toNat = 2 := by unfold lead; rw [if_neg (by omega), if_pos (by omega)]
    have hst : lead0 (by8 (192 + r / 64)).toNat = r / 64 := by unfold lead0; rw [if_neg (by omega), if_pos (by omega)]; omega
    simp only [List.cons_append, List.nil_append, dec, List.length_cons, List.length_nil, hl, hst]
    rw [if_neg (by omega), if_neg (by omega)]
    have hc : conts (List.take (2 - 1) (by8 (128 + r % 64) :: t)) (r / 64) = some r := by
      simp only [List.take_succ_cons, List.take_zero, conts, Nat.reduceSub]
      rw [if_pos (by omega)]
      congr 1; omega
    rw [hc]
    simp only [least, h, Bool.true_eq_false, or_false]
    rw [if_neg (by simp; omega)]
  split
  · rename_i h00 h0 h1
    have e1 := by8_toNat (x := 224 + r / 4096) (by omega) (by omega)
    have e2 := by8_toNat (x := 128 + r / 64 % 64) (by omega) (by omega)
    have e3 := by8_toNat (x := 128 + r % 64) (by omega) (by omega)
    have hl : lead (by8 (224 + r / 4096)).toNat = 3 := by unfold lead; rw [if_neg (by omega), if_neg (by omega), if_pos (by omega)]
    have hst : lead0 (by8 (224 + r / 4096)).toNat = r / 4096 := by unfold lead0; rw [if_neg (by omega), if_neg (by omega), if_pos (by omega)]; omega
    simp only [List.cons_append, List.nil_append, dec, List.length_cons, List.length_nil, hl, hst]
    rw [if_neg (by omega), if_neg (by omega)]
    have hc : conts (List.take (3 - 1) (by8 (128 + r / 64 % 64) :: by8 (128 + r % 64) :: t)) (r / 4096) = some r := by
      simp only [List.take_succ_cons, List.take_zero, conts, Nat.reduceSub]
      rw [if_pos (by omega), if_pos (by omega)]
      congr 1; omega
    rw [hc]
    simp only [least, h, Bool.true_eq_false, or_false]
    rw [if_neg (by simp; omega)]
  · rename_i h000 h00 h0
    have e1 := by8_toNat (x := 240 + r / 262144) (by omega) (by omega)
    have e2 := by8_toNat (x := 128 + r / 4096 % 64) (by omega) (by omega)
    have e3 := by8_toNat (x := 128 + r / 64 % 64) (by omega) (by omega)
    have e4 := by8_toNat (x := 128 + r % 64) (by omega) (by omega)
    have hl : lead (by8 (240 + r / 262144)).toNat = 4 := by unfold lead; rw [if_neg (by omega), if_neg (by omega), if_neg (by omega), if_pos (by omega)]
    have hst : lead0 (by8 (240 + r / 262144)).toNat = r / 262144 := by unfold lead0; rw [if_neg (by omega), if_neg (by omega), if_neg (by omega)]; omega
    simp only [List.cons_append, List.nil_append, dec, List.length_cons, List.length_nil, hl, hst]
    rw [if_neg (by omega), if_neg (by omega)]
    have hc : conts (List.take (4 - 1) (by8 (128 + r / 4096 % 64) :: by8 (128 + r / 64 % 64) :: by8 (128 + r % 64) :: t)) (r / 262144) = some r := by
      simp only [List.take_succ_cons, List.take_zero, conts, Nat.reduceSub]
      rw [if_pos (by omega), if_pos (by omega), if_pos (by omega)]
      congr 1; omega
    rw [hc]
    simp only [least, h, Bool.true_eq_false, or_false]
    rw [if_neg (by simp; omega)]

theorem conts_some {l : List UInt8} {r x : Int} (h : conts l r = some x) : (∀ d ∈ l, d.toNat / 64 = 2) ∧ x = l.foldl (fun r d => r * 64 + (d.toNat : Int) % 64) r := by
  induction l generalizing r with
  | nil => simp [conts] at h; simp [h]
  | cons d t ih =>
    unfold conts at h
    split at h
    · rename_i hd
      obtain ⟨h1, h2⟩ := ih h
      exact ⟨by simpa using ⟨hd, h1⟩, by simpa using h2⟩
    · cases h

/-- what begins with a rune's writing -/
theorem dec_some {s : List UInt8} {r : Int} {n : Nat} (h : dec s = (r, n)) (hn : n ≠ 0) : scalar r = true ∧ n = (enc r).length ∧ s = enc r ++ s.drop n := by
  match s with
  | [] => simp [dec] at h; omega
  | c :: t =>
    have hc := c.toNat_lt
    simp only [dec] at h
    split at h
    · rename_i h1
      simp only [Prod.mk.injEq] at h
      obtain ⟨rfl, rfl⟩ := h
      have he : enc (c.toNat : Int) = [c] := by
        unfold enc; rw [if_pos (by omega), ← eq_by8 rfl]
      rw [he]
      exact ⟨scalar_iff.2 (by omega), rfl, rfl⟩
    split at h
    · simp at h; omega
    split at h
    · simp at h; omega
    rename_i h1 h2 _ x hx
    split at h
    · simp at h; omega
    rename_i h3
    simp only [Prod.mk.injEq] at h
    obtain ⟨rfl, rfl⟩ := h
    have hsc : scalar x = true := by
      cases hx' : scalar x
      · exact (h3 (.inr hx')).elim
      · rfl
    have hs := scalar_iff.1 hsc
    have hle : ¬ x < least (lead c.toNat) := fun hh => h3 (.inl hh)
    obtain ⟨hall, hval⟩ := conts_some hx
    have hlead : lead c.toNat = 2 ∧ c.toNat / 32 = 6 ∨ lead c.toNat = 3 ∧ c.toNat / 16 = 14 ∨ lead c.toNat = 4 ∧ c.toNat / 8 = 30 := by
      unfold lead at h2 ⊢
      repeat' split
      all_goals simp_all
    refine ⟨hsc, ?_⟩
    rcases hlead with ⟨hl, hc6⟩ | ⟨hl, hc6⟩ | ⟨hl, hc6⟩
    · rw [hl] at h2 hle hval hall
      have hst : lead0 c.toNat = (c.toNat : Int) % 32 := by unfold lead0; rw [if_neg (by omega), if_pos (by omega)]
      match t, h2 with
      | [], h2 => simp at h2
      | d :: t', _ =>
        simp [hst] at hval hall
        have hd := d.toNat_lt
        simp only [least] at hle
        simp at hle
        have he : enc x = [c, d] := by
          unfold enc; rw [if_neg (by omega), if_pos (by omega)]
          rw [← eq_by8 (c := c) (by omega), ← eq_by8 (c := d) (by omega)]
        rw [hl, he]; exact ⟨rfl, rfl⟩
    · rw [hl] at h2 hle hval hall
      have hst : lead0 c.toNat = (c.toNat : Int) % 16 := by unfold lead0; rw [if_neg (by omega), if_neg (by omega), if_pos (by omega)]
      match t, h2 with
      | [], h2 => simp at h2
      | [_], h2 => simp at h2
      | d :: d2 :: t', _ =>
        simp [hst] at hval hall
        have hd := d.toNat_lt
        have hd2 := d2.toNat_lt
        simp only [least] at hle
        simp at hle
        have he : enc x = [c, d, d2] := by
          unfold enc; rw [if_neg (by omega), if_neg (by omega), if_pos (by omega)]
          rw [← eq_by8 (c := c) (by omega), ← eq_by8 (c := d) (by omega), ← eq_by8 (c := d2) (by omega)]
        rw [hl, he]; exact ⟨rfl, rfl⟩
    · rw [hl] at h2 hle hval hall
      have hst : lead0 c.toNat = (c.toNat : Int) % 8 := by unfold lead0; rw [if_neg (by omega), if_neg (by omega), if_neg (by omega)]
      match t, h2 with
      | [], h2 => simp at h2
      | [_], h2 => simp at h2
      | [_, _], h2 => simp at h2
      | d :: d2 :: d3 :: t', _ =>
        simp [hst] at hval hall
        have hd := d.toNat_lt
        have hd2 := d2.toNat_lt
        have hd3 := d3.toNat_lt
        simp only [least] at hle
        simp at hle
        have he : enc x = [c, d, d2, d3] := by
          unfold enc; rw [if_neg (by omega), if_neg (by omega), if_neg (by omega)]
          rw [← eq_by8 (c := c) (by omega), ← eq_by8 (c := d) (by omega), ← eq_by8 (c := d2) (by omega), ← eq_by8 (c := d3) (by omega)]
        rw [hl, he]; exact ⟨rfl, rfl⟩

theorem dec_zero {s : List UInt8} (h : (dec s).2 = 0) : dec s = (0, 0) := by
  match s with
  | [] => rfl
  | c :: t =>
    simp only [dec] at h ⊢
    split
    · rename_i h1; rw [if_pos h1] at h; simp at h
    rename_i h1
    rw [if_neg h1] at h
    split
    · rfl
    rename_i h2
    rw [if_neg h2] at h
    split
    · rfl
    · rename_i x hx
      rw [hx] at h
      simp only at h
      split
      · rfl
      · rename_i h3
        rw [if_neg h3] at h
        simp at h
        exact (h2 (.inl h)).elim

/-- the writing of runes -/
def encs (l : List Int) : List UInt8 := l.flatMap enc
theorem encs_cons (r : Int) (l : List Int) : encs (r :: l) = enc r ++ encs l := by simp [encs]
theorem encs_append (l m : List Int) : encs (l ++ m) = encs l ++ encs m := by simp [encs]
theorem encs_len (l : List Int) : l.length ≤ (encs l).length ∧ (encs l).length ≤ 4 * l.length := by
  induction l with
  | nil => simp [encs]
  | cons r l ih => rw [encs_cons]; have := enc_len r; simp; omega

def runesN : Nat → List UInt8 → Option (List Int)
  | _, [] => some []
  | 0, _ :: _ => none
  | f + 1, c :: t => if (dec (c :: t)).2 = 0 then none else (runesN f ((c :: t).drop (dec (c :: t)).2)).map ((dec (c :: t)).1 :: ·)
def runes (s : List UInt8) : Option (List Int) := runesN s.length s

theorem dec_le (s : List UInt8) : (dec s).2 ≤ s.length := by
  by_cases h : (dec s).2 = 0
  · omega
  · obtain ⟨_, h2, h3⟩ := dec_some (s := s) (r := (dec s).1) (n := (dec s).2) rfl h
    have := congrArg List.length h3
    simp at this
    omega

theorem runesN_iff (f : Nat) : ∀ (s : List UInt8), s.length ≤ f → ∀ l, runesN f s = some l ↔ (∀ r ∈ l, scalar r = true) ∧ s = encs l := by
  induction f with
  | zero =>
    intro s hs l
    match s, hs with
    | [], _ =>
      simp only [runesN, Option.some.injEq]
      constructor
      · rintro rfl; simp [encs]
      · rintro ⟨_, h⟩
        match l with
        | [] => rfl
        | r :: l => rw [encs_cons] at h; have := enc_len r; have := congrArg List.length h; simp at this; omega
  | succ f ih =>
    intro s hs l
    match s, hs with
    | [], _ =>
      simp only [runesN, Option.some.injEq]
      constructor
      · rintro rfl; simp [encs]
      · rintro ⟨_, h⟩
        match l with
        | [] => rfl
        | r :: l => rw [encs_cons] at h; have := enc_len r; have := congrArg List.length h; simp at this; omega
    | c :: t, hs =>
      simp only [runesN]
      constructor
      · intro h
        split at h
        · cases h
        rename_i hn
        obtain ⟨l', hl', rfl⟩ := Option.map_eq_some_iff.1 h
        obtain ⟨h1, h2, h3⟩ := dec_some (s := c :: t) (r := (dec (c :: t)).1) (n := (dec (c :: t)).2) rfl hn
        have hlen : ((c :: t).drop (dec (c :: t)).2).length ≤ f := by simp at hs ⊢; omega
        obtain ⟨g1, g2⟩ := (ih _ hlen l').1 hl'
        refine ⟨by simpa using ⟨h1, g1⟩, ?_⟩
        rw [encs_cons, ← g2]; exact h3
      · rintro ⟨h1, h2⟩
        match l with
        | [] => simp [encs] at h2
        | r :: l =>
          rw [encs_cons] at h2
          have hd := dec_enc (h1 r (by simp)) (encs l)
          rw [← h2] at hd
          have hr := enc_len r
          rw [hd]
          simp only
          rw [if_neg (by omega)]
          have hdrop : (c :: t).drop (enc r).length = encs l := by rw [h2]; simp
          rw [hdrop, (ih (encs l) (by have := congrArg List.length h2; simp at this hs; omega) l).2 ⟨fun x hx => h1 x (by simp [hx]), rfl⟩]
          rfl
theorem runes_iff {s : List UInt8} {l : List Int} : runes s = some l ↔ (∀ r ∈ l, scalar r = true) ∧ s = encs l := runesN_iff _ s (Nat.le_refl _) l

theorem runes_nil : runes [] = some [] := rfl
/-- no rune begins it: no writing -/
theorem runes_none {l : List Int} {t : List UInt8} (hl : ∀ r ∈ l, scalar r = true) (ht : t ≠ []) (h : (dec t).2 = 0) : runes (encs l ++ t) = none := by
  cases hr : runes (encs l ++ t) with
  | none => rfl
  | some m =>
    exfalso
    obtain ⟨hm, he⟩ := runes_iff.1 hr
    clear hr
    induction l generalizing m with
    | nil =>
      match m with
      | [] => simp [encs] at he; exact ht he
      | r :: m =>
        rw [encs_cons] at he
        have hd := dec_enc (hm r (by simp)) (encs m)
        have hr := enc_len r
        simp [encs] at he
        simp only [encs] at hd
        rw [← he] at hd; rw [hd] at h; simp at h; rw [h] at hr; simp at hr
    | cons r l ih =>
      match m with
      | [] => 
        rw [encs_cons] at he
        have hr := enc_len r
        have := congrArg List.length he; simp [encs] at this
        rw [this.1] at hr; simp at hr
      | r' :: m =>
        rw [encs_cons, encs_cons, List.append_assoc] at he
        have d1 := dec_enc (hl r (by simp)) (encs l ++ t)
        have d2 := dec_enc (hm r' (by simp)) (encs m)
        rw [he, d2] at d1
        simp only [Prod.mk.injEq] at d1
        obtain ⟨rfl, _⟩ := d1
        exact ih (fun x hx => hl x (by simp [hx])) m (fun x hx => hm x (by simp [hx])) (List.append_cancel_left he)

def text (l : List Int) : Option (List UInt8) := if l.all scalar then some (encs l) else none

end Go.Proofs.YtkgmikglifmenaaDoor.LM
