/-
  The walk of the laws' own alive.
-/
import Derived.Test.YtfoogbchajgepaaSloSt
namespace Go.Proofs.Ytfoogbchajgepaa.S
open Go.RowKit
open Aid K
set_option linter.unusedSimpArgs false
set_option linter.unusedVariables false

theorem new_none (R a x : Int) : lastI (newSt R) a x = [] := rfl
theorem open_new (R a : Int) : openK (newSt R) a 2 = (0, []) := open_none rfl rfl
theorem ab_str : strOf [97, 98] = ⟨#[97, 98]⟩ := by decide +kernel

set_option maxRecDepth 100000 in
set_option maxHeartbeats 4000000 in
theorem alive_any (w : World) : Calls Try.prog 8 #[] w fun e w' => e = .returned (.bool true) ∧ Below w.heap.size w w' := by
  go_enter Try.func8, Try.ntmps8
  go_wp2_with fail
  refine (new_fine 2 w).mono ?_
  rintro e w1 ⟨p, O, rfl, hD1, hO1, hb1⟩
  have hop := open_new 2 9
  have hlast := new_none 2 9
  have hF : Fits (newSt 2) 9 ((0 + 1) % 2 : Nat) := ⟨.inr (by show max (2 : Int) 0 ≠ 0; decide), by show _ ≤ max (2 : Int) 0 ∧ max (2 : Int) 0 ≤ _; decide, ⟨Int.le_refl 0, by show (0 : Int) < _; decide⟩, by show (-1 : Int) ≤ _; decide, by show 0 < _; decide, by show 0 < _; decide, fun L s e => (nomatch e)⟩
  obtain ⟨l, hl⟩ : ∃ l : List Int, [97, 98] = l := ⟨_, rfl⟩
  have hl2 : l.length = 2 := by rw [← hl]; rfl
  have hby : By l := by rw [← hl]; unfold By; decide
  have hsv := save_left (st := newSt 2) (a := 9) (num := 0) (l := l) (by show (-1 : Int) < 0; decide)
  have hls : ∀ x, lastI (saveF (newSt 2) 9 0 l) 9 x = if x = 1 then secL 1 l else [] := fun x => by
    rw [last_save (by omega) hby, new_none]
    by_cases e : x = 1
    · rw [if_pos ⟨rfl, e⟩, if_pos e]
    · rw [if_neg (fun h => e h.2), if_neg e]
  have hop2 : openK (saveF (newSt 2) 9 0 l) 9 2 = (1, l) := open_is (by decide) (by
    show saysF (lastI _ 9 1) 1 = _
    rw [hls, if_pos rfl]; exact says_sec (by decide) (by omega)) (by
    show (saysF (lastI _ 9 0) 0).1 < 1
    rw [hls, if_neg (by decide), says_nil]; decide)
  have h64 : ∀ i : Nat, i < 2 → lastI (saveF (newSt 2) 9 0 l) 9 i = [] ∨ (lastI (saveF (newSt 2) 9 0 l) 9 i).length = 64 := fun i _ => by
    rw [hls]
    split
    · right; exact secL_len (by omega)
    · exact .inl rfl
  have hd0 : (newSt 2).dead = false := rfl
  obtain ⟨st, hst⟩ : ∃ st, newSt 2 = st := ⟨_, rfl⟩
  rw [hst] at hop hD1 hF hsv hop2 h64 hlast hd0
  clear hls
  obtain ⟨st1, hst1⟩ : ∃ st1, saveF st 9 0 l = st1 := ⟨_, rfl⟩
  rw [hst1] at hsv hop2 h64
  have hs1 := hb1.size
  have H64 := Lib.hid h64
  have HOP2 := Lib.hid hop2
  clear hop2 h64
  go_wp2_with fail
  refine (open_any O p st 9 w1 hD1 (fun k hk => (hO1 k hk).2) hd0 (by decide) (fun i _ => .inl (hlast i))).mono ?_
  rintro e w2 ⟨s, rfl, hS2, ⟨hs2, hs2'⟩, hb2⟩
  rw [hop] at hS2
  have hconv := Lib.run_convert_bytes_const (P := Try.prog) w2 31 5 #[.int .u8 97, .int .u8 98] 2 2 Try.underlying31 Try.underlying5
  have hbX : Below w2.heap.size w2 (w2.alloc (.cells #[.int .u8 97, .int .u8 98] 5 (2, 3))) := (Below.refl _ _).alloc (Nat.le_refl _) _
  have hIX := ints_two w2 97 98 5 (2, 3)
  rw [hl] at hIX
  have hsz2 := hb2.size
  have hDX := (hD1.below hb2).below hbX
  have hSX := hS2.below hbX
  have hO2 : ∀ k, O k → k < w2.heap.size := fun k hk => by have := (hO1 k hk).2; omega
  go_wp2_with fail
  refine (save_any O s p st 9 0 [] _ l _ hDX (fun k hk => by have := hO2 k hk; have := hbX.size; omega) hSX hIX hby (fun b o n c e _ => by simp only [Value.slice.injEq, Option.some.injEq, Addr.mk.injEq] at e; exact ⟨fun h => by have := hO2 b h; omega, by omega⟩) (by omega) (by decide) (by decide) hd0 hF).mono ?_
  rintro e w3 ⟨O3, rfl, hD3, hS3, K3, hO3⟩
  rw [hst1] at hD3 hS3 ⊢
  rw [hsv.1] at hS3 ⊢
  have hsz3 := K3.size
  have hbXs := hbX.size
  have hB3 : Below w.heap.size w w3 := K3.below ((hb1.trans (hb2.mono hs1)).trans (hbX.mono (by omega))) (by omega) (fun k hk => by
    rcases hk with h | h
    · exact (hO1 k h).1
    · omega)
  have hO3' : ∀ k, O3 k → k < w3.heap.size := fun k hk => by
    rcases hO3 k hk with h | h
    · have := hO2 k h; omega
    · exact h.2
  clear hconv hIX hDX hSX K3 hbX hS2 hD1 hS3
  go_wp2_with fail
  refine (open_any O3 p st1 9 w3 hD3 hO3' hsv.1 (by decide) H64.out).mono ?_
  rintro e w4 ⟨t, rfl, hS4, ⟨ht4, ht4'⟩, hb4⟩
  rw [HOP2.out] at hS4
  have hB4 := hB3.trans (hb4.mono (by omega))
  go_wp2_with fail
  refine (value_any O3 t p 9 1 l w4 hS4).mono ?_
  rintro e w5 ⟨v5, rfl, ⟨hI5, _⟩, hb5⟩
  obtain ⟨a5, c5, rfl, _⟩ := ints_slice hI5
  have hst5 := conv_str hI5 hby
  rw [hl2] at hst5
  have hab : (strOf l).toList = [97, 98] := by rw [← hl, ab_str]; decide +kernel
  have hS5 := hS4.below hb5
  go_wp2_with fail
  refine (number_any O3 t p 9 1 l w5 hS5).mono ?_
  rintro e w6 ⟨rfl, rfl⟩
  go_wp2_with fail
  go_ret
  exact ⟨rfl, hB4.trans (hb5.mono (by have := hB4.size; omega))⟩
end Go.Proofs.Ytfoogbchajgepaa.S
