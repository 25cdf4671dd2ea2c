/-
  What saves make of a disk: plain laws; bytes as a string.
-/
import Derived.Test.YtfoogbchajgepaaSloSave
namespace Go.Proofs.Ytfoogbchajgepaa.S
open Go.RowKit
open Aid K
set_option linter.unusedSimpArgs false
set_option linter.unusedVariables false

/-- bytes as a string -/
def strOf (l : List Int) : ByteArray := ⟨(l.map u8).toArray⟩
theorem strOf_inj {l m : List Int} (hl : By l) (hm : By m) (h : strOf l = strOf m) : l = m := by
  unfold strOf at h
  have h1 : l.map u8 = m.map u8 := by
    have := congrArg (fun s : ByteArray => s.data.toList) h
    simpa using this
  have h2 : (l.map u8).map (fun x => (x.toNat : Int)) = (m.map u8).map (fun x => (x.toNat : Int)) := by rw [h1]
  rw [List.map_map, List.map_map] at h2
  have e : ∀ {l : List Int}, By l → l.map ((fun x : UInt8 => (x.toNat : Int)) ∘ u8) = l := by
    intro l hl
    conv => rhs; rw [← List.map_id l]
    refine List.map_congr_left fun x hx => ?_
    exact u8_int (hl x hx).1 (hl x hx).2
  rw [e hl, e hm] at h2
  exact h2
theorem conv_str {w : World} {a : Option Addr} {c : Nat} {l : List Int} (hI : Ints w .u8 (.slice a l.length c) l) (hb : By l) : (convert 31 9 (.slice a l.length c)).run Try.prog w = .ok (.string (strOf l)) w := by
  cases a with
  | none =>
    obtain ⟨_, _, h, h0, _⟩ := ints_slice hI
    simp only [Value.slice.injEq] at h
    have h1 := (h0 h.1.symm).1
    obtain rfl : l = [] := List.eq_nil_of_length_eq_zero h1
    exact run_convert_bytes_nil (P := Try.prog) w 31 5 Try.underlying31 Try.underlying5 0 c 9 Try.underlying9
  | some ad =>
    have := run_convert_bytes_back (P := Try.prog) w 31 9 5 ad c (l.map u8) Try.underlying31 Try.underlying5 Try.underlying9 (fun j hj => by
      have hjl : j < l.length := by simpa using hj
      obtain ⟨ad', e, hsrc⟩ := ints_src hI (by omega)
      obtain rfl : ad = ad' := by simpa using e
      rw [hsrc j (.int .u8 l[j]) (by rw [List.getElem?_map, List.getElem?_eq_getElem hjl]; rfl), List.getElem_map]
      have hx := hb _ (List.getElem_mem hjl)
      rw [u8_int hx.1 hx.2])
    rw [List.length_map] at this
    exact this
theorem whole_bytes {l : List Int} (h : l.length = 64) (hb : By l) : bytesI (wholeI l) = l := by
  unfold bytesI wholeI whole
  simp only [List.length_map, h, Nat.sub_self, List.replicate_zero, List.append_nil]
  rw [List.map_map]
  conv => rhs; rw [← List.map_id l]
  refine List.map_congr_left fun x hx => ?_
  exact u8_int (hb x hx).1 (hb x hx).2

theorem write_F (st : DSt) (a n : Int) (l : List Int) : (writeF st a n l).F = updF st.F a n (some (match st.F a n with | some (L, s) => (L ++ [wholeI l], s) | none => ([wholeI l], false))) := by
  unfold writeF
  split
  · rename_i L s h; rw [h]; rfl
  · rename_i h; rw [h]; split <;> rfl
theorem last_write {st : DSt} {a n : Int} {l : List Int} (h : l.length = 64) (hb : By l) (y x : Int) : lastI (writeF st a n l) y x = if y = a ∧ x = n then l else lastI st y x := by
  unfold lastI
  rw [write_F]
  unfold updF
  by_cases e : y = a ∧ x = n
  · rw [if_pos e, if_pos e]
    have hw := whole_bytes h hb
    cases hF : st.F a n with
    | none => simpa using hw
    | some s =>
      obtain ⟨L, s⟩ := s
      show bytesI ((L ++ [wholeI l]).getLastD ByteArray.empty) = l
      rw [List.getLastD_concat]; exact hw
  · rw [if_neg e, if_neg e]
theorem last_sync (st : DSt) (a y x : Int) : lastI (syncF st a) y x = lastI st y x := by
  unfold lastI syncF partF
  show (match (if y = a ∧ (false : Bool) = false ∧ (Lit.int .i64 x).wf = true then (st.F a x).map lastS else st.F y x) with | none => [] | some s => bytesI (s.1.getLastD ByteArray.empty)) = _
  by_cases e : y = a ∧ (false : Bool) = false ∧ (Lit.int .i64 x).wf = true
  · rw [if_pos e, e.1]
    cases st.F a x with
    | none => rfl
    | some s => rfl
  · rw [if_neg e]; rfl
theorem last_save {st : DSt} {a : Int} {num : Nat} {l : List Int} (hl : l.length ≤ 48) (hb : By l) (y x : Int) : lastI (saveF st a num l) y x = if y = a ∧ x = ((num + 1) % 2 : Nat) then secL (num + 1) l else lastI st y x := by
  have h := last_write (st := st) (a := a) (n := ((num + 1) % 2 : Nat)) (secL_len (n := num + 1) (v := l) (by omega)) (secL_by (by omega) hb) y x
  unfold saveF
  dsimp only
  split
  · exact h
  · split
    · exact h
    · rw [last_sync]; exact h

theorem says_nil (i : Nat) : saysF [] i = (0, []) := by unfold saysF; rw [if_pos (.inl (by decide))]
theorem says_sec {n : Nat} {v : List Int} (hn : n < 18446744073709551616) (hv : v.length ≤ 48) : saysF (secL n v) (n % 2) = (n, v) := by
  unfold saysF
  rw [if_neg (by rintro (h | h); (rw [secL_len (by omega)] at h; omega); (rw [sec_8] at h; omega)), numOf_sec hn, valOf_sec, if_neg (by rintro (h | h); exact h rfl; exact h rfl)]
theorem says_flip {n i j : Nat} {v : List Int} {y : Int} (hv : v.length ≤ 48) (bv : By v) (hj : j < 64) (hy : 0 ≤ y ∧ y ≤ 255) (hne : y ≠ (secL n v).getD j 0) : saysF ((secL n v).set j y) i = (0, []) := by
  have hby : By ((secL n v).set j y) := by
    intro x hx
    rcases List.mem_or_eq_of_mem_set hx with h | h
    · exact secL_by (by omega) bv x h
    · rw [h]; exact hy
  generalize hL : (secL n v).set j y = L at *
  unfold saysF
  split
  · rfl
  · rename_i h1
    split
    · rfl
    · rename_i h2
      exfalso
      have h3 : L = secL (numOf L) (valOf L) := Classical.byContradiction fun h => h2 (.inr h)
      have h4 : (valOf L).length ≤ 48 := by
        unfold valOf
        rw [List.length_take]
        have h3 : ¬ (48 < L.getD 8 0) := fun e => h1 (.inr e)
        refine Nat.le_trans (Nat.min_le_left _ _) ?_
        omega
      exact sec_set (m := numOf L) (u := valOf L) (by omega) (by omega) bv (fun x hx => hby x (List.mem_of_mem_drop (List.mem_of_mem_take hx))) hj hy hne (by rw [hL]; exact h3.symm)
theorem open_two (st : DSt) (a : Int) : openK st a 2 = (if (if 0 < (saysF (lastI st a 0) 0).1 then saysF (lastI st a 0) 0 else (0, [])).1 < (saysF (lastI st a 1) 1).1 then saysF (lastI st a 1) 1 else (if 0 < (saysF (lastI st a 0) 0).1 then saysF (lastI st a 0) 0 else (0, []))) := rfl
theorem open_none {st : DSt} {a : Int} (h0 : (saysF (lastI st a 0) 0).1 = 0) (h1 : (saysF (lastI st a 1) 1).1 = 0) : openK st a 2 = (0, []) := by
  rw [open_two, h0, h1]; rfl
theorem open_is {st : DSt} {a : Int} {n : Nat} {v : List Int} (hn : 0 < n) (h0 : saysF (lastI st a (n % 2 : Nat)) (n % 2) = (n, v)) (h1 : (saysF (lastI st a ((n + 1) % 2 : Nat)) ((n + 1) % 2)).1 < n) : openK st a 2 = (n, v) := by
  rw [open_two]
  rcases Nat.mod_two_eq_zero_or_one n with e | e
  · have e' : (n + 1) % 2 = 1 := by omega
    rw [e] at h0
    rw [e'] at h1
    have h0' : saysF (lastI st a 0) 0 = (n, v) := h0
    have h1' : (saysF (lastI st a 1) 1).1 < n := h1
    rw [h0', if_pos hn, if_neg (by show ¬ n < _; omega)]
  · have e' : (n + 1) % 2 = 0 := by omega
    rw [e] at h0
    rw [e'] at h1
    have h0' : saysF (lastI st a 1) 1 = (n, v) := h0
    have h1' : (saysF (lastI st a 0) 0).1 < n := h1
    rw [h0', if_pos (by split; exact h1'; exact hn)]

/-- a disk between saves: one area with one sector or two -/
structure GoodS (st : DSt) (R a : Int) (B : Nat) : Prop where
  dead : st.dead = false
  left : st.left ≤ 9223372036854775807
  steps : 0 ≤ st.steps ∧ st.steps ≤ B
  F0 : ∀ x, x ≠ 0 → x ≠ 1 → st.F a x = none
  N : st.N a = (if (st.F a 0).isSome = true then 1 else 0) + (if (st.F a 1).isSome = true then 1 else 0)
  room : st.room + st.N a = R
  C : st.C ≤ 1
  A : st.C = 1 → st.A a = true
  V : ∀ x L s, st.F a x = some (L, s) → L.length ≤ 1 ∧ s = true
theorem GoodS.two {st : DSt} {R a : Int} {B : Nat} (h : GoodS st R a B) : st.N a ≤ 2 := by
  rw [h.N]; split <;> split <;> omega
theorem good_fits {st : DSt} {R a n : Int} {B : Nat} (h : GoodS st R a B) (hR : 2 < R ∧ R ≤ 1073741824) (hB : B < 4611686018427387904) : Fits st a n := by
  have h2 := h.two
  have hr := h.room
  have hs := h.steps
  have hC := h.C
  exact ⟨.inr (by omega), by omega, by omega, h.left, by omega, by omega, fun L s e => by have := (h.V _ _ _ e).1; omega⟩
theorem write_rest (st : DSt) (a n : Int) (l : List Int) :
    (writeF st a n l).N a = (if (st.F a n).isSome = true then st.N a else st.N a + 1) ∧ (writeF st a n l).room = (if (st.F a n).isSome = true then st.room else st.room - 1) ∧
    (writeF st a n l).C = (if (st.F a n).isSome = true ∨ st.A a = true then st.C else st.C + 1) ∧ ((st.F a n).isSome = true → (writeF st a n l).A = st.A) ∧ (st.F a n = none → (writeF st a n l).A a = true) := by
  unfold writeF
  split
  · rename_i L s h
    refine ⟨?_, ?_, ?_, ?_, ?_⟩
    · show updN st.N a _ a = _
      unfold updN; exact if_pos rfl
    · rw [h]; rfl
    · rw [h]; rfl
    · intro _; rfl
    · intro e; rw [h] at e; cases e
  · rename_i h
    split
    · rename_i hA
      refine ⟨?_, ?_, ?_, ?_, ?_⟩
      · show updN st.N a _ a = _
        unfold updN; exact if_pos rfl
      · rw [h]; rfl
      · rw [if_pos (.inr hA)]; rfl
      · intro e; rw [h] at e; cases e
      · intro _; exact hA
    · rename_i hA
      refine ⟨?_, ?_, ?_, ?_, ?_⟩
      · show updN st.N a _ a = _
        unfold updN; exact if_pos rfl
      · rw [h]; rfl
      · rw [if_neg (by rintro (e | e); (rw [h] at e; cases e); exact hA e)]; rfl
      · intro e; rw [h] at e; cases e
      · intro _
        show updA st.A a true a = true
        unfold updA; rw [if_pos rfl]
theorem wf01 {i : Nat} (hi : i < 2) : (Lit.int .i64 (i : Nat)).wf = true := wf_i64 (by omega) (by omega)
theorem sync_F (st : DSt) (a x : Int) (hx : (Lit.int .i64 x).wf = true) : (syncF st a).F a x = (st.F a x).map lastS := by
  show (if a = a ∧ (false : Bool) = false ∧ (Lit.int .i64 x).wf = true then (st.F a x).map lastS else st.F a x) = _
  rw [if_pos ⟨rfl, rfl, hx⟩]
theorem sync_F_none (st : DSt) (a x : Int) (hx : st.F a x = none) : (syncF st a).F a x = none := by
  show (if a = a ∧ (false : Bool) = false ∧ (Lit.int .i64 x).wf = true then (st.F a x).map lastS else st.F a x) = _
  split
  · rw [hx]; rfl
  · exact hx
theorem save_well {st : DSt} {a : Int} {num : Nat} {l : List Int} (h : (saveF st a num l).dead = false) : saveF st a num l = syncF (writeF st a ((num + 1) % 2 : Nat) (secL (num + 1) l)) a := by
  unfold saveF at h ⊢
  dsimp only at h ⊢
  split
  · rename_i h1; rw [if_pos h1, h1] at h; cases h
  · rename_i h1
    rw [if_neg h1] at h
    split
    · rename_i h2; rw [if_pos h2, h2] at h; cases h
    · rfl
theorem good_save {st : DSt} {R a : Int} {B num : Nat} {l : List Int} (h : GoodS st R a B) (hd : (saveF st a num l).dead = false) : GoodS (saveF st a num l) R a (B + 2) := by
  have e := save_well hd
  rw [e] at hd ⊢
  obtain ⟨i, hi⟩ : ∃ i, (num + 1) % 2 = i := ⟨_, rfl⟩
  have hi2 : i < 2 := by omega
  obtain ⟨Z, hZ⟩ : ∃ Z, secL (num + 1) l = Z := ⟨_, rfl⟩
  rw [hi, hZ] at hd ⊢
  obtain ⟨s1, s2, s3⟩ := write_steps st a (i : Nat) Z
  obtain ⟨r1, r2, r3, r4, r5⟩ := write_rest st a (i : Nat) Z
  have rF := write_F st a (i : Nat) Z
  obtain ⟨W, hW⟩ : ∃ W, writeF st a (i : Nat) Z = W := ⟨_, rfl⟩
  rw [hW] at s1 s2 s3 r1 r2 r3 r4 r5 rF hd ⊢
  have hst := h.steps
  have hroom := h.room
  have hF0 : ∀ x, x ≠ 0 → x ≠ 1 → W.F a x = none := by
    intro x h0 h1
    rw [rF]
    unfold updF
    rw [if_neg (by rintro ⟨_, e⟩; omega)]
    exact h.F0 x h0 h1
  have hS : ∀ j : Nat, j < 2 → (W.F a j).isSome = if j = i then true else (st.F a j).isSome := by
    intro j hj
    rw [rF]
    unfold updF
    by_cases e : j = i
    · rw [if_pos ⟨rfl, by omega⟩, if_pos e]; rfl
    · rw [if_neg (by rintro ⟨_, e'⟩; omega), if_neg e]
  have hS2 : ∀ j : Nat, j < 2 → ((syncF W a).F a j).isSome = if j = i then true else (st.F a j).isSome := by
    intro j hj
    rw [sync_F _ _ _ (wf01 hj), Option.isSome_map]; exact hS j hj
  refine ⟨hd, ?_, ?_, ?_, ?_, ?_, ?_, ?_, ?_⟩
  · show (if 0 < W.left then W.left - 1 else W.left) ≤ _
    have := h.left
    have hl2 : W.left ≤ 9223372036854775807 := by rw [s2]; split <;> omega
    split <;> omega
  · show 0 ≤ W.steps + 1 ∧ W.steps + 1 ≤ ((B + 2 : Nat) : Int)
    rw [s1]; omega
  · exact fun x h0 h1 => sync_F_none _ _ _ (hF0 x h0 h1)
  · have e0 : ((syncF W a).F a 0).isSome = if 0 = i then true else (st.F a 0).isSome := hS2 0 (by omega)
    have e1 : ((syncF W a).F a 1).isSome = if 1 = i then true else (st.F a 1).isSome := hS2 1 (by omega)
    show W.N a = _
    rw [e0, e1, r1, h.N]
    have hcase : i = 0 ∨ i = 1 := by omega
    rcases hcase with rfl | rfl
    · show (if (st.F a 0).isSome = true then _ else _) = _
      cases (st.F a 0).isSome <;> cases (st.F a 1).isSome <;> simp
    · show (if (st.F a 1).isSome = true then _ else _) = _
      cases (st.F a 0).isSome <;> cases (st.F a 1).isSome <;> simp
  · show W.room + W.N a = R
    rw [r1, r2]
    split <;> omega
  · show W.C ≤ 1
    rw [r3]
    have := h.C
    split
    · exact this
    · rename_i hh
      have : st.C ≠ 1 := fun e => hh (.inr (h.A e))
      omega
  · show W.C = 1 → W.A a = true
    intro hC
    cases hF : st.F a (i : Nat) with
    | none => exact r5 hF
    | some s =>
      rw [r4 (by rw [hF]; rfl)]
      rw [r3, if_pos (.inl (by rw [hF]; rfl))] at hC
      exact h.A hC
  · intro x L s hx
    by_cases h01 : x = 0 ∨ x = 1
    · have hwf : (Lit.int .i64 x).wf = true := by rcases h01 with rfl | rfl <;> decide
      rw [sync_F _ _ _ hwf] at hx
      obtain ⟨q, _, hq⟩ := Option.map_eq_some_iff.1 hx
      unfold lastS at hq
      simp only [Prod.mk.injEq] at hq
      exact ⟨by rw [← hq.1]; exact Nat.le_refl 1, hq.2.symm⟩
    · rw [sync_F_none _ _ _ (hF0 x (fun e => h01 (.inl e)) (fun e => h01 (.inr e)))] at hx; cases hx
theorem good_new {R a : Int} (h : 0 ≤ R) : GoodS (newSt R) R a 0 := by
  refine ⟨rfl, by show (-1 : Int) ≤ _; decide, ⟨Int.le_refl 0, Int.le_refl 0⟩, fun _ _ _ => rfl, rfl, ?_, Nat.zero_le _, fun e => (nomatch e), fun x L s e => (nomatch e)⟩
  show max R 0 + 0 = R
  omega
/-- nobody dies who is not armed -/
theorem save_left {st : DSt} {a : Int} {num : Nat} {l : List Int} (h : st.left < 0) : (saveF st a num l).dead = false ∧ (saveF st a num l).left = st.left := by
  obtain ⟨s1, s2, s3⟩ := write_steps st a ((num + 1) % 2 : Nat) (secL (num + 1) l)
  obtain ⟨W, hW⟩ : ∃ W, writeF st a ((num + 1) % 2 : Nat) (secL (num + 1) l) = W := ⟨_, rfl⟩
  have e0 : W.left = st.left := by rw [← hW, s2, if_neg (by omega)]
  have d0 : W.dead = false := by rw [← hW, s3]; exact decide_eq_false (by omega)
  have d1 : (stepF W).dead = false := by show decide (W.left = 0) = false; exact decide_eq_false (by omega)
  have e : saveF st a num l = syncF W a := by
    unfold saveF
    dsimp only
    rw [hW, d0, d1]; rfl
  rw [e]
  refine ⟨d1, ?_⟩
  show (if 0 < W.left then W.left - 1 else W.left) = _
  rw [if_neg (by omega)]; exact e0
end Go.Proofs.Ytfoogbchajgepaa.S
