/-
  More of the plain mathematics of layer 1: writings are ordered as their runes are, none is the beginning of another one, and they join.
-/
import Derived.Test.YtpbadnmfgffdlaaDoorLetLess
namespace Go.Proofs.YtpbadnmfgffdlaaDoor.L
open LM
set_option linter.unusedSimpArgs false
set_option linter.unusedVariables false

theorem encs_cancel {l : List Int} : ∀ {m : List Int} {s t : List UInt8}, (∀ r ∈ l, scalar r = true) → (∀ r ∈ m, scalar r = true) → encs l ++ s = encs m → ∃ m', m = l ++ m' ∧ s = encs m' := by
  induction l with
  | nil => intro m s _ _ _ h; exact ⟨m, rfl, by simpa [encs] using h⟩
  | cons r l ih =>
    intro m s t hl hm h
    rw [encs_cons, List.append_assoc] at h
    have d1 := dec_enc (hl r (by simp)) (encs l ++ s)
    match m with
    | [] =>
      exfalso
      have := congrArg List.length h
      have h1 := enc_len r
      simp [encs] at this
      rw [this.1] at h1; simp at h1
    | q :: m =>
      have d2 := dec_enc (hm q (by simp)) (encs m)
      rw [encs_cons] at h
      rw [h, d2] at d1
      simp only [Prod.mk.injEq] at d1
      obtain ⟨rfl, _⟩ := d1
      obtain ⟨m', rfl, hs⟩ := ih (t := t) (fun x hx => hl x (by simp [hx])) (fun x hx => hm x (by simp [hx])) (List.append_cancel_left h)
      exact ⟨m', rfl, hs⟩

theorem runes_join {s t : List UInt8} {l : List Int} (h : runes s = some l) : runes (s ++ t) = (runes t).map (l ++ ·) := by
  obtain ⟨hl, rfl⟩ := runes_iff.1 h
  cases ht : runes t with
  | some m =>
    obtain ⟨hm, rfl⟩ := runes_iff.1 ht
    refine runes_iff.2 ⟨fun r hr => ?_, by rw [encs_append]⟩
    rcases List.mem_append.1 hr with h | h
    · exact hl r h
    · exact hm r h
  | none =>
    cases hb : runes (encs l ++ t) with
    | none => rfl
    | some m =>
      exfalso
      obtain ⟨hm, he⟩ := runes_iff.1 hb
      obtain ⟨m', rfl, rfl⟩ := encs_cancel (t := []) hl hm he
      have : runes (encs m') = some m' := runes_iff.2 ⟨fun r hr => hm r (by simp [hr]), rfl⟩
      rw [ht] at this; cases this

theorem fits_encs {l : List Int} (hl : ∀ r ∈ l, scalar r = true) (h : l.length ≤ 35184372088832) : ∀ m t, (∀ r ∈ m, scalar r = true) → encs l = encs m ++ t → m.length ≤ 35184372088832 := by
  intro m t hm he
  obtain ⟨m', rfl, _⟩ := encs_cancel (t := []) hm hl he.symm
  simp at h; omega

theorem apart {a b : Int} (ha : scalar a = true) (hb : scalar b = true) (hne : a ≠ b) (n : Nat) (hn : n = min (enc a).length (enc b).length) : (enc a).take n ≠ (enc b).take n := by
  intro h
  have key : ∀ {x y : Int}, scalar x = true → scalar y = true → (enc x).length ≤ (enc y).length → (enc x) = (enc y).take (enc x).length → x = y := by
    intro x y hx hy hle he
    have d1 := dec_enc hx ((enc y).drop (enc x).length)
    rw [he, List.length_take, Nat.min_eq_left hle, List.take_append_drop] at d1
    have d2 := dec_enc hy []
    rw [List.append_nil, d1] at d2
    simp only [Prod.mk.injEq] at d2
    exact d2.1
  by_cases hle : (enc a).length ≤ (enc b).length
  · have : n = (enc a).length := by omega
    subst this
    rw [List.take_length] at h
    exact hne (key ha hb hle h)
  · have : n = (enc b).length := by omega
    subst this
    rw [List.take_length] at h
    exact hne (key hb ha (by omega) h.symm).symm

def ns (l : List UInt8) : List Int := l.map fun b => (b.toNat : Int)
theorem ns_append (l m : List UInt8) : ns (l ++ m) = ns l ++ ns m := by simp [ns]
theorem bytesLess_lex (l : List UInt8) : ∀ m, Op.bytesLess l m = lex (ns l) (ns m) := by
  induction l with
  | nil => intro m; cases m <;> rfl
  | cons a l ih =>
    intro m
    match m with
    | [] => rfl
    | b :: m =>
      simp only [Op.bytesLess, ns, List.map_cons, lex]
      have := ih m
      simp only [ns] at this
      rw [this]
      by_cases h : a = b
      · subst h; simp
      · have h' : ¬ (a.toNat : Int) = (b.toNat : Int) := fun e => h (UInt8.toNat_inj.1 (by omega))
        rw [if_neg h']
        simp [h, UInt8.lt_iff_toNat_lt]

theorem ns_enc {r : Int} (h : scalar r = true) : ns (enc r) = if r < 128 then [r] else if r < 2048 then [192 + r / 64, 128 + r % 64] else if r < 65536 then [224 + r / 4096, 128 + r / 64 % 64, 128 + r % 64]
    else [240 + r / 262144, 128 + r / 4096 % 64, 128 + r / 64 % 64, 128 + r % 64] := by
  have hs := scalar_iff.1 h
  unfold enc ns
  split
  · simp only [List.map_cons, List.map_nil]; rw [by8_toNat (by omega) (by omega)]
  split
  · simp only [List.map_cons, List.map_nil]; rw [by8_toNat (by omega) (by omega), by8_toNat (by omega) (by omega)]
  split
  · simp only [List.map_cons, List.map_nil]; rw [by8_toNat (by omega) (by omega), by8_toNat (by omega) (by omega), by8_toNat (by omega) (by omega)]
  · simp only [List.map_cons, List.map_nil]; rw [by8_toNat (by omega) (by omega), by8_toNat (by omega) (by omega), by8_toNat (by omega) (by omega), by8_toNat (by omega) (by omega)]

theorem lex_step {a b : Int} {l m : List Int} {p : Prop} [Decidable p] (h : if a = b then lex l m = decide p else (a < b ↔ p)) : lex (a :: l) (b :: m) = decide p := by
  simp only [lex]
  by_cases hab : a = b
  · rw [if_pos hab] at h ⊢; exact h
  · rw [if_neg hab] at h ⊢; simp [h]
theorem lex_enc {r q : Int} (hr : scalar r = true) (hq : scalar q = true) (hne : r ≠ q) (S T : List Int) : lex (ns (enc r) ++ S) (ns (enc q) ++ T) = decide (r < q) := by
  have h1 := scalar_iff.1 hr
  have h2 := scalar_iff.1 hq
  rw [ns_enc hr, ns_enc hq]
  have c1 : r < 128 ∨ (128 ≤ r ∧ r < 2048) ∨ (2048 ≤ r ∧ r < 65536) ∨ 65536 ≤ r := by omega
  have c2 : q < 128 ∨ (128 ≤ q ∧ q < 2048) ∨ (2048 ≤ q ∧ q < 65536) ∨ 65536 ≤ q := by omega
  rcases c1 with a | ⟨a, b⟩ | ⟨a, b⟩ | a <;> rcases c2 with c | ⟨c, d⟩ | ⟨c, d⟩ | c
  all_goals
    repeat (first | rw [if_pos (by omega)] | rw [if_neg (by omega)])
    simp only [List.cons_append, List.nil_append]
    repeat (refine lex_step ?_; split)
    all_goals omega
end Go.Proofs.YtpbadnmfgffdlaaDoor.L
