/-
  SlotApart: what is saved in one area is not seen in another one.
-/
import Derived.Test.YtfoogbchajgepaaSloAlive
import Derived.Test.YtfoogbchajgepaaShut
namespace Go.Proofs.Ytfoogbchajgepaa.S
open Go.RowKit
open Aid K
set_option linter.unusedSimpArgs false
set_option linter.unusedVariables false

def TrueOf (w : World) (e : Ending) (w' : World) : Prop := e = .returned (.bool true) ∧ Below w.heap.size w w'
theorem ints_block {w : World} {k : IntKind} {v : Value} {l : List Int} (hI : Ints w k v l) : ∀ b o n c, v = .slice (some ⟨b, o, none⟩) n c → n ≠ 0 → b < w.heap.size := by
  intro b o n c e hn
  obtain ⟨a', c', e', _, hc⟩ := ints_slice hI
  rw [e] at e'
  simp only [Value.slice.injEq] at e'
  obtain ⟨b', o', e2, h6, _⟩ := hc 0 (by omega)
  rw [← e'.1] at e2
  simp only [Option.some.injEq, Addr.mk.injEq] at e2
  omega
theorem ret_true {a : Bool} (h : a = true) : Ending.returned (.bool a) = .returned (.bool true) := by rw [h]

set_option maxRecDepth 100000 in
set_option maxHeartbeats 4000000 in
theorem apart_law (a b : Int) (v : Value) (l : List Int) (w : World) (hI : Ints w .u8 v l) (hby : By l) (ha : (Lit.int .u64 a).wf = true) (hb : (Lit.int .u64 b).wf = true) :
    Calls Try.prog 4 #[.int .u64 a, .int .u64 b, v] w (TrueOf w) := by
  have hn := hI.1
  have hvb := Lib.hid (ints_block hI)
  obtain ⟨va, vc, rfl, _⟩ := ints_slice hI
  have hlw : IntKind.i64.wrap (l.length : Int) = (l.length : Int) := IntWalk.i64_in _ (by omega)
  go_enter Try.func4, Try.ntmps4
  go_wp2_with fail
  refine (new_fine 1073741824 w).mono ?_
  rintro e w1 ⟨p, O, rfl, hD1, hO1, hb1⟩
  go_wp2_with fail
  refine (alive_any w1).mono ?_
  rintro e w2 ⟨rfl, hb2⟩
  have hop := open_new 1073741824 a
  have hlast := Lib.hid (new_none 1073741824 a)
  have hopb := open_new 1073741824 b
  have hlastb := Lib.hid (new_none 1073741824 b)
  have hG := good_new (R := 1073741824) (a := a) (by decide)
  have hF := good_fits (n := ((0 + 1) % 2 : Nat)) hG (by decide) (by decide)
  have hd0 := hG.dead
  have hsv := Lib.hid (fun l => save_left (st := newSt 1073741824) (a := a) (num := 0) (l := l) (by show (-1 : Int) < 0; decide))
  obtain ⟨st, hst⟩ : ∃ st, newSt 1073741824 = st := ⟨_, rfl⟩
  rw [hst] at hop hopb hD1 hF hsv hlast hlastb hd0
  have hs1 := hb1.size
  have hs2 := hb2.size
  have hB2 : Below w.heap.size w w2 := hb1.trans (hb2.mono hs1)
  clear hG
  go_wp2_with fail
  refine (open_any O p st a w2 (hD1.below hb2) (fun k hk => by have := (hO1 k hk).2; omega) hd0 ha (fun i _ => .inl (hlast.out i))).mono ?_
  rintro e w3 ⟨s, rfl, hS3, ⟨hs3, hs3'⟩, hb3⟩
  rw [hop] at hS3
  have hs3s := hb3.size
  have hB3 : Below w.heap.size w w3 := hB2.trans (hb3.mono (by omega))
  have hI3 := hI.below hB3
  have hD3 := (hD1.below hb2).below hb3
  by_cases hlen : l.length ≤ 48
  · go_wp2_with fail
    refine (save_any O s p st a 0 [] _ l _ hD3 (fun k hk => by have := hO1 k hk; omega) hS3 hI3 hby (fun b o n c e hn0 => by
      have := hvb.out b o n c e hn0
      exact ⟨fun h => by have := hO1 b h; omega, by omega⟩) hlen (by decide) ha hd0 hF).mono ?_
    rintro e w4 ⟨O4, rfl, hD4, hS4, K4, hO4⟩
    have hdl := hsv.out l
    have hla : ∀ y x, lastI (saveF st a 0 l) y x = if y = a ∧ x = 1 then secL 1 l else lastI st y x := fun y x => last_save hlen hby y x
    obtain ⟨st4, hst4⟩ : ∃ st4, saveF st a 0 l = st4 := ⟨_, rfl⟩
    rw [hst4] at hD4 hS4 hdl hla ⊢
    rw [hdl.1] at hS4 ⊢
    have hs4 := K4.size
    have hB4 : Below w.heap.size w w4 := K4.below hB3 (by omega) (fun k hk => by
      rcases hk with h | h
      · have := hO1 k h; omega
      · omega)
    have h64 : ∀ i : Nat, i < 2 → lastI st4 b i = [] ∨ (lastI st4 b i).length = 64 := fun i _ => by
      rw [hla]
      split
      · right; exact secL_len (by omega)
      · exact .inl (hlastb.out i)
    have h64 := Lib.hid h64
    have hla := Lib.hid hla
    go_wp2_with fail
    refine (open_any O4 p st4 b w4 hD4 (fun k hk => by
      rcases hO4 k hk with h | h
      · have := hO1 k h; omega
      · exact h.2) hdl.1 hb h64.out).mono ?_
    rintro e w5 ⟨t, rfl, hS5, ⟨ht5, ht5'⟩, hb5⟩
    have hB5 := hB4.trans (hb5.mono (by omega))
    by_cases hab : a = b
    · have hq : (a == b) = true := by rw [beq_iff_eq]; exact hab
      go_wp2_with fail
      go_ret
      exact ⟨rfl, hB5⟩
    · have hq : (a == b) = false := by rw [beq_eq_false_iff_ne]; exact hab
      have hopn : openK st4 b 2 = (0, []) := open_none
        (by rw [hla.out, if_neg (fun h => hab h.1.symm), hlastb.out]; rfl) (by rw [hla.out, if_neg (fun h => hab h.1.symm), hlastb.out]; rfl)
      rw [hopn] at hS5
      go_wp2_with fail
      refine (number_any O4 t p b 0 [] w5 hS5).mono ?_
      rintro e w6 ⟨rfl, rfl⟩
      go_wp2_with fail
      refine (value_any O4 t p b 0 [] w6 hS5).mono ?_
      rintro e w7 ⟨v7, rfl, ⟨hI7, _⟩, hb7⟩
      obtain ⟨a7, c7, rfl, _⟩ := ints_slice hI7
      go_wp2_with fail
      go_ret
      exact ⟨rfl, hB5.trans (hb7.mono (by have := hB5.size; omega))⟩
  · go_wp2_with fail
    refine (save_long O s p a 0 [] _ l _ hS3 hI3 (by omega)).mono ?_
    rintro e w4 ⟨rfl, rfl⟩
    go_wp2_with fail
    refine (open_any O p st b w4 hD3 (fun k hk => by have := hO1 k hk; omega) hd0 hb (fun i _ => .inl (hlastb.out i))).mono ?_
    rintro e w5 ⟨t, rfl, hS5, ⟨ht5, ht5'⟩, hb5⟩
    have hB5 := hB3.trans (hb5.mono (by omega))
    rw [hopb] at hS5
    by_cases hab : a = b
    · have hq : (a == b) = true := by rw [beq_iff_eq]; exact hab
      go_wp2_with fail
      go_ret
      exact ⟨rfl, hB5⟩
    · have hq : (a == b) = false := by rw [beq_eq_false_iff_ne]; exact hab
      go_wp2_with fail
      refine (number_any O t p b 0 [] w5 hS5).mono ?_
      rintro e w6 ⟨rfl, rfl⟩
      go_wp2_with fail
      refine (value_any O t p b 0 [] w6 hS5).mono ?_
      rintro e w7 ⟨v7, rfl, ⟨hI7, _⟩, hb7⟩
      obtain ⟨a7, c7, rfl, _⟩ := ints_slice hI7
      go_wp2_with fail
      go_ret
      exact ⟨ret_true (a := !decide ((l.length : Int) ≤ 48)) (by simp; omega), hB5.trans (hb7.mono (by have := hB5.size; omega))⟩
end Go.Proofs.Ytfoogbchajgepaa.S
