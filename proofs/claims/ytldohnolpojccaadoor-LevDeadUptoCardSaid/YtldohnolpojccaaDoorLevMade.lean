/-
  The walks of the laws' own helpers: made and alive.
-/
import Derived.Test.YtldohnolpojccaaDoorLevRow
namespace Go.Proofs.YtldohnolpojccaaDoor.V
open Go.RowKit
open LM EM Aid L E VM
set_option linter.unusedSimpArgs false
set_option linter.unusedVariables false

theorem owns_cap {w : World} {base : Nat} {e : TypeId} {v : Value} {n : Nat} {xs : List Value} (h : w.ownsRow base e 1 v n xs) : ∃ a cap, v = .slice a n cap ∧ n ≤ cap := by
  rcases h.2 with ⟨rfl, hn⟩ | ⟨g, cap, cur, rfl, hb, hg, hnc, r⟩
  · subst hn; exact ⟨none, 0, rfl, Nat.le_refl _⟩
  · exact ⟨_, cap, rfl, hnc⟩

/-- what made hands back -/
def MadePost (W : World) (s : ByteArray) (edits : Int) (e : Ending) (w' : World) : Prop := Below W.heap.size W w' ∧
  ((rightB s edits = false ∧ ∃ v, e = .returned (.tuple #[.pointer none, v, .bool false])) ∨
   (∃ (l : List Int) (n out p : Nat) (a : Option Addr) (c : Nat), rightB s edits = true ∧ runes s.data.toList = some l ∧ edits = (n : Int) ∧ n ≤ 3 ∧ n + 1 = out ∧ e = .returned (.tuple #[.pointer (some ⟨p, 0, none⟩), .slice a l.length c, .bool true]) ∧ IsLev w' p l out ∧ Ints w' .i32 (.slice a l.length c) l ∧ l.length ≤ c))
theorem rightB_nat {s : ByteArray} {edits : Int} (h : rightB s edits = true) : ∃ n : Nat, edits = n ∧ n ≤ 3 := by
  unfold rightB at h
  simp only [Bool.and_eq_true, decide_eq_true_eq] at h
  exact ⟨edits.toNat, by omega, by omega⟩

set_option maxRecDepth 100000 in
set_option maxHeartbeats 1000000 in
theorem made_any (s : ByteArray) (edits : Int) (w : World) (hs : s.size ≤ 35184372088832) (T : Tab w) :
    Calls Tryd.prog 14 #[.string s, .int .i64 edits] w (MadePost w s edits) := by
  have hf := Lib.hid (fits_small hs)
  go_enter Tryd.func14, Tryd.ntmps14
  go_wp2_with fail
  refine (new_any s edits w (by omega) T).mono ?_
  rintro e w1 ⟨hb1, ⟨hr, rfl⟩ | ⟨l, out, p, hr, hl, ho, rfl, hL⟩⟩
  · have HR := Lib.hid hr
    clear hr
    go_wp2_with fail
    refine (rrunes_any s w1 (by omega) hf.out).mono ?_
    rintro e w2 ⟨hb2, ⟨hn, rfl⟩ | ⟨l, v, hl, rfl, hown⟩⟩
    all_goals
      try clear hn
      try clear hl hown
      go_wp2_with fail
      go_ret3
      exact ⟨hb1.trans (hb2.mono hb1.size), .inl ⟨HR.out, _, rfl⟩⟩
  · have HR := Lib.hid hr
    have HL := Lib.hid hl
    clear hr hl
    go_wp2_with fail
    refine (rrunes_any s w1 (by omega) hf.out).mono ?_
    rintro e w2 ⟨hb2, ⟨hn, rfl⟩ | ⟨l', v, hl, rfl, hown⟩⟩
    · rw [HL.out] at hn; cases hn
    · rw [HL.out] at hl
      obtain rfl := Option.some.inj hl
      obtain ⟨n, he, hn3⟩ := rightB_nat HR.out
      have HI := Lib.hid (Ints.own hown (by have := hL.bounds; omega))
      obtain ⟨a, c, rfl, hc⟩ := owns_cap hown
      clear hown hl
      subst he
      go_wp2_with fail
      go_ret3
      exact ⟨hb1.trans (hb2.mono hb1.size), .inr ⟨l, n, out, p, a, c, HR.out, HL.out, rfl, hn3, by omega, rfl, hL.below hb2, HI.out, hc⟩⟩

/-- the rows that alive goes through -/
def F1 : Nat → Nat := stepF 2 [97, 98] (cutF 2 2 (startF 2 2)) 98
def F2 : Nat → Nat := stepF 2 [97, 98] (cutF 2 2 F1) 120
def G1 : Nat → Nat := fun i => if i < 3 then 1 else 0
theorem ones : (#[.int .u8 1, .int .u8 1, .int .u8 1, .int .u8 0, .int .u8 0, .int .u8 0, .int .u8 0, .int .u8 0, .int .u8 0, .int .u8 0, .int .u8 0, .int .u8 0, .int .u8 0, .int .u8 0, .int .u8 0, .int .u8 0, .int .u8 0, .int .u8 0, .int .u8 0, .int .u8 0, .int .u8 0, .int .u8 0, .int .u8 0, .int .u8 0, .int .u8 0] : Array Value) = u8A 25 G1 := by kernel_rfl
theorem F1_G1 : eqR F1 G1 = true := by decide +kernel
theorem F1_dist : distF 2 2 F1 = (1, true) := by decide +kernel
theorem F2_dead : eqR (cutF 2 2 F2) (deadF 2 2) = true := by decide +kernel
theorem ab_right : rightB ⟨#[97, 98]⟩ 1 = true := by decide +kernel
theorem ab_runes : runes (⟨#[97, 98]⟩ : ByteArray).data.toList = some [97, 98] := by decide +kernel

set_option maxRecDepth 100000 in
set_option maxHeartbeats 1000000 in
theorem alive_any (w : World) (T : Tab w) :
    Calls Tryd.prog 13 #[] w fun e w' => e = .returned (.bool true) ∧ Below w.heap.size w w' := by
  obtain ⟨zi, hzi, hzz⟩ := zero_row
  have heq : (∀ w, (Op.equalIn 10000 32 (.agg (u8A 25 F1)) (.agg #[.int .u8 1, .int .u8 1, .int .u8 1, .int .u8 0, .int .u8 0, .int .u8 0, .int .u8 0, .int .u8 0, .int .u8 0, .int .u8 0, .int .u8 0, .int .u8 0, .int .u8 0, .int .u8 0, .int .u8 0, .int .u8 0, .int .u8 0, .int .u8 0, .int .u8 0, .int .u8 0, .int .u8 0, .int .u8 0, .int .u8 0, .int .u8 0, .int .u8 0])).run Tryd.prog w = .ok true w) := fun w => by
    rw [ones]; have := eq_rows F1 G1 w; rw [F1_G1] at this; exact this
  go_enter Tryd.func13, Tryd.ntmps13
  go_wp2_with fail
  refine (new_any _ 1 w (by decide) T).mono ?_
  rintro e w1 ⟨hb1, ⟨hr, rfl⟩ | ⟨l, out, p, hr, hl, ho, rfl, hL⟩⟩
  · rw [ab_right] at hr; cases hr
  · rw [ab_runes] at hl
    obtain rfl := Option.some.inj hl
    obtain rfl : out = 2 := by omega
    clear hr hl ho
    go_wp2_with (first
      | (go_at_call 15; refine (start_any p _ 2 w1 hL).mono ?_; rintro e w2 ⟨rfl, hb2⟩; have hL2 := hL.below hb2; have hbb := hb1.trans (hb2.mono hb1.size))
      | (go_at_call 17; refine (step_any p _ 2 (startF 2 2) 98 _ hL2).mono ?_; rintro e w3 ⟨he, hb3⟩; have he' : e = .returned (.agg (u8A 25 F1)) := he; subst he'; clear he; have hL3 := hL2.below hb3; replace hbb := hbb.trans (hb3.mono hbb.size))
      | (refine wpList_allocN _ (by rfl) _ rfl zi hzi _ hzz ?_; intro w4 hT hb4 hs4)
      | (refine wpList_storeN _ (by rfl) _ _ _ rfl rfl w3.heap.size rfl _ _ _ hT rfl (size_row _) (by rw [u8A_size, u8A_size]) (u8A_all _ _) ?_; intro w5 hr5 hb5 hs5 _; have hb35 : Below w3.heap.size w3 w5 := hb4.trans hb5; have hL5 := hL3.below hb35; have hbb5 := hbb.trans (hb35.mono hbb.size))
      | (refine wpList_loadN _ (by rfl) _ _ rfl _ under_row rfl w3.heap.size 0 rfl (u8A 25 F1) (size_row _) (Rw.cells hr5) ?_))
    refine (dist_any p _ 2 F1 w5 hL5).mono ?_
    rintro e w6 ⟨he, hb6⟩
    rw [show distF 2 ([97, 98] : List Int).length F1 = (1, true) from F1_dist] at he
    have he' : e = .returned (.tuple #[.int .i64 1, .bool true]) := he
    subst he'
    have hr6 := hr5.below hb6 (by omega)
    have hL6 := hL5.below hb6
    have hbb6 := hbb5.trans (hb6.mono hbb5.size)
    clear he hr5 hb6 hL hL2 hL3 hL5 hT hb2 hb3 hb4 hb5 hb35 hbb hbb5 hs4 hs5
    go_wp2_with (first
      | (go_at_call 17; refine (step_any p _ 2 F1 120 _ hL6).mono ?_; rintro e w7 ⟨he, hb7⟩; have he' : e = .returned (.agg (u8A 25 F2)) := he; subst he'; clear he; have hL7 := hL6.below hb7; replace hbb6 := hbb6.trans (hb7.mono hbb6.size))
      | (go_at_call 22; refine (lalive_any p _ 2 F2 _ hL7).mono ?_; rintro e w8 ⟨he, hb8⟩; rw [show eqR (cutF 2 ([97, 98] : List Int).length F2) (deadF 2 ([97, 98] : List Int).length) = true from F2_dead] at he; have he' : e = .returned (.bool false) := he; subst he'; clear he; replace hbb6 := hbb6.trans (hb8.mono hbb6.size))
      | (refine wpList_loadN _ (by rfl) _ _ rfl _ under_row rfl w3.heap.size 0 rfl (u8A 25 F1) (size_row _) (Rw.cells hr6) ?_))
    go_ret
    exact ⟨rfl, hbb6⟩
end Go.Proofs.YtldohnolpojccaaDoor.V
