/-
  The law EditPaths: a way leads from one text to the other by single edits, as short as the distance says.
-/
import Derived.Test.YtkgmikglifmenaaDoorEdPath
import Derived.Test.YtkgmikglifmenaaDoorEdRest
namespace Go.Proofs.YtkgmikglifmenaaDoor.E
open Go.RowKit Go.Maps Aid L LM EM
set_option linter.unusedVariables false
set_option linter.unusedSimpArgs false

theorem rr_some (s : ByteArray) (x : List Int) (w : World) (h : runes s.data.toList = some x) (hx : x.length ≤ 2048) : Calls Tryd.prog 7 #[.string s] w fun e w' =>
    ∃ a c, e = .returned (.tuple #[.slice a x.length c, .bool true]) ∧ Ints w' .i32 (.slice a x.length c) x ∧ x.length ≤ c ∧ Below w.heap.size w w' := by
  have hs := (runes_short h).2
  refine (rrunes_any s w (by omega) (fits_of (by omega))).mono ?_
  rintro e w' ⟨hb, ⟨h1, _⟩ | ⟨l, v, h1, rfl, h2⟩⟩
  · rw [h] at h1; cases h1
  · rw [h] at h1; cases h1
    obtain ⟨a, c, rfl⟩ := owns_shape h2
    refine ⟨a, c, rfl, Ints.own h2 (by omega), ?_, hb⟩
    rcases h2.2 with ⟨e, h0⟩ | ⟨g, cap, cur, e, _, _, h3, _⟩
    · omega
    · cases e; exact h3
set_option maxRecDepth 100000 in
set_option maxHeartbeats 4000000 in
theorem paths_law (a b : ByteArray) (w : World) (ha : (a.size : Int) ≤ 9223372036854775807) (hb : (b.size : Int) ≤ 9223372036854775807) (T : Tab w) :
    Calls Tryd.prog 3 #[.string a, .string b] w fun e w' => e = .returned (.bool true) ∧ Below w.heap.size w w' := by
  by_cases h1 : (300 : Int) < (a.size : Int)
  · go_enter Tryd.func3, Tryd.ntmps3
    go_wp2_with (go_at_call 4; refine (alive_any _ T).mono ?_; rintro e w4 ⟨rfl, hb4⟩)
    go_ret
    exact ⟨rfl, hb4⟩
  by_cases h2 : (300 : Int) < (b.size : Int)
  · go_enter Tryd.func3, Tryd.ntmps3
    go_wp2_with (go_at_call 4; refine (alive_any _ T).mono ?_; rintro e w4 ⟨rfl, hb4⟩)
    go_ret
    exact ⟨rfl, hb4⟩
  have hdist := rdistance_any a b w (by omega) (by omega)
  have hpath := fun (W : World) (hw : Below w.heap.size w W) => path_any a b W ha hb (T.below hw)
  cases hp : pairOf a b with
  | none =>
    have HD : Hid (Calls Tryd.prog 5 #[.string a, .string b] w fun e w' => e = .returned (.tuple #[.int .i64 0, .bool false]) ∧ Below w.heap.size w w') := hdist.mono fun e w' ⟨h3, h4⟩ => by
      rcases h3 with ⟨_, h5⟩ | ⟨n, h5, _⟩
      · exact ⟨h5, h4⟩
      · rw [dist_none hp] at h5; cases h5
    have HPA : Hid (∀ W, Below w.heap.size w W → Calls Tryd.prog 6 #[.string a, .string b] W fun e w' => e = .returned (.tuple #[.slice none 0 0, .bool false]) ∧ Below W.heap.size W w') := fun W hw => (hpath W hw).mono fun e w' ⟨h3, h4⟩ => by
      rcases h4 with ⟨_, h5⟩ | ⟨l, m, v, L, h5, _⟩
      · exact ⟨h5, h3⟩
      · rw [hp] at h5; cases h5
    clear hdist hpath hp
    go_enter Tryd.func3, Tryd.ntmps3
    go_wp2_with (first
      | (go_at_call 4; refine (alive_any _ (T.below hb23)).mono ?_; rintro e w4 ⟨rfl, hb4⟩)
      | (go_at_call 6; refine (HPA.out _ hb2).mono ?_; rintro e w3 ⟨rfl, hb3⟩; have hb23 := hb2.trans (hb3.mono hb2.size))
      | (go_at_call 5; refine (HD.out).mono ?_; rintro e w2 ⟨rfl, hb2⟩))
    go_ret
    exact ⟨rfl, hb23.trans (hb4.mono hb23.size)⟩
  | some pr =>
    obtain ⟨l, m⟩ := pr
    obtain ⟨N, hN⟩ : ∃ N, lv l m = N := ⟨_, rfl⟩
    have hNl := (dist_some hp).2
    rw [hN] at hNl
    have HD : Hid (Calls Tryd.prog 5 #[.string a, .string b] w fun e w' => e = .returned (.tuple #[.int .i64 N, .bool true]) ∧ Below w.heap.size w w') := hdist.mono fun e w' ⟨h3, h4⟩ => by
      rcases h3 with ⟨h5, _⟩ | ⟨n, h5, _, h6⟩
      · rw [(dist_some hp).1] at h5; cases h5
      · rw [(dist_some hp).1, hN] at h5; cases h5; exact ⟨h6, h4⟩
    have HPA : Hid (∀ W, Below w.heap.size w W → Calls Tryd.prog 6 #[.string a, .string b] W fun e w' => ∃ g c L, e = .returned (.tuple #[.slice (some ⟨g, 0, none⟩) (N + 1) c, .bool true]) ∧ Below W.heap.size W w' ∧ PathOk a b N L ∧ g < w'.heap.size ∧ ∀ j s, L[j]? = some s → w'.cell? ⟨g, j, none⟩ = some (.string s)) := fun W hw => (hpath W hw).mono fun e w' ⟨h3, h4⟩ => by
      rcases h4 with ⟨h5, _⟩ | ⟨l', m', v, L, h5, h6, h7, h8⟩
      · rw [hp] at h5; cases h5
      · rw [hp] at h5; cases h5
        rw [hN] at h8
        have hl := h8.1
        obtain ⟨g, c, rfl, _, hr⟩ := owns_row h7 (fun e => by
          rcases h7.2 with ⟨_, h0⟩ | ⟨g, cap, cur, e', _⟩
          · omega
          · rw [e] at e'; cases e')
        rw [hl] at h6
        refine ⟨g, c, L, h6, h3, h8, ?_, fun j s hs => hr.at_ (by rw [List.getElem?_map, hs]; rfl)⟩
        obtain ⟨⟨cur, hc, _⟩, _⟩ := hr
        exact hc.lt
    clear hdist hpath hp hN
    go_enter Tryd.func3, Tryd.ntmps3
    go_upto_region 7 with (first
      | (go_at_call 4; refine (alive_any _ (T.below hb23)).mono ?_; rintro e w4 ⟨rfl, hb4⟩)
      | (go_at_call 6; refine (HPA.out _ hb2).mono ?_; rintro e w3 ⟨g, c, LL, rfl, hb3, hok, hg, hcells⟩; have hb23 := hb2.trans (hb3.mono hb2.size); have HOK := Lib.hid hok; have HCE := Lib.hid hcells; clear hok hcells)
      | (go_at_call 5; refine (HD.out).mono ?_; rintro e w2 ⟨rfl, hb2⟩))
    have hg4 : g < w4.heap.size := Nat.lt_of_lt_of_le hg hb4.size
    have hcl : ∀ j s, LL[j]? = some s → w4.cell? ⟨g, j, none⟩ = some (.string s) := fun j s hs => (hb4.cell (p := ⟨g, j, none⟩) hg).trans (HCE.out j s hs)
    have c0 := hcl 0 a HOK.out.2.1
    have cN := hcl N b HOK.out.2.2.1
    have HCL := Lib.hid hcl
    have n0 : (0 : Int) ≤ (N : Int) := by omega
    have hbw4 : Below w.heap.size w w4 := hb23.trans (hb4.mono hb23.size)
    have HBW := Lib.hid hbw4
    clear hcl hbw4 HCE hb23 hb3 hb2 hb4
    go_wp2_with fail
    go_loopw [9] (fun x9 wr => ∃ i : Nat, x9 = .int .i64 i ∧ 1 ≤ i ∧ i ≤ N + 1 ∧ Below w4.heap.size w4 wr) (fun x9 _ => N + 1 - (intOf x9).toNat)
    case atStart => exact ⟨1, rfl, Nat.le_refl _, by omega, Below.refl _ _⟩
    case round =>
      obtain ⟨i, rfl, hi1, hi2, hbr⟩ := hrel
      by_cases hlt : (i : Int) ≤ (N : Int)
      · obtain ⟨p, hip⟩ : ∃ p, i = p + 1 := ⟨i - 1, by omega⟩
        obtain ⟨s, hs⟩ : ∃ s, LL[p]? = some s := ⟨_, List.getElem?_eq_getElem (by have := HOK.out.1; omega)⟩
        obtain ⟨t, ht⟩ : ∃ t, LL[i]? = some t := ⟨_, List.getElem?_eq_getElem (by have := HOK.out.1; omega)⟩
        obtain ⟨x, y, hx, hy, ho, hxl, hyl⟩ := HOK.out.2.2.2 p s t hs (by rw [← hip]; exact ht)
        have d0 := (hbr.cell (p := ⟨g, p, none⟩) hg4).trans (HCL.out p s hs)
        have d1 := (hbr.cell (p := ⟨g, i, none⟩) hg4).trans (HCL.out i t ht)
        have hgr : g < wr.heap.size := Nat.lt_of_lt_of_le hg4 hbr.size
        have hi3 : (i : Int) - 1 = (p : Int) := by omega
        have p0 : (0 : Int) ≤ (p : Int) := by omega
        have p1 : (p : Int) < (N : Int) + 1 := by omega
        have i0 : (0 : Int) ≤ (i : Int) := by omega
        have i1 : (i : Int) < (N : Int) + 1 := by omega
        obtain ⟨xl, hxn⟩ : ∃ n, x.length = n := ⟨_, rfl⟩
        obtain ⟨yl, hyn⟩ : ∃ n, y.length = n := ⟨_, rfl⟩
        have HX : Hid (∀ W, Calls Tryd.prog 7 #[.string s] W fun e w' => ∃ a c, e = .returned (.tuple #[.slice a xl c, .bool true]) ∧ Ints w' .i32 (.slice a xl c) x ∧ xl ≤ c ∧ Below W.heap.size W w') := fun W => by
          have := rr_some s x W hx hxl
          rw [hxn] at this
          exact this
        have HY : Hid (∀ W, Calls Tryd.prog 7 #[.string t] W fun e w' => ∃ a c, e = .returned (.tuple #[.slice a yl c, .bool true]) ∧ Ints w' .i32 (.slice a yl c) y ∧ yl ≤ c ∧ Below W.heap.size W w') := fun W => by
          have := rr_some t y W hy hyl
          rw [hyn] at this
          exact this
        have HON : Hid (∀ ax ay cx cy W, Ints W .i32 (.slice ax xl cx) x → Ints W .i32 (.slice ay yl cy) y → xl ≤ cx → yl ≤ cy → Calls Tryd.prog 8 #[.slice ax xl cx, .slice ay yl cy] W fun e w' => e = .returned (.bool true) ∧ Below W.heap.size W w') := fun ax ay cx cy W h3 h4 h5 h6 => by
          have := once_any ax ay cx cy x y W (by rw [hxn]; exact h3) (by rw [hyn]; exact h4) (by rw [hxn]; exact h5) (by rw [hyn]; exact h6)
          rw [ho, hxn, hyn] at this
          exact this
        have HBR := Lib.hid hbr
        have HIP := Lib.hid hip
        have hbrz := hbr.size
        clear hx hy ho hbr hip hs ht hxn hyn hxl hyl
        go_wp2_with (first
          | (go_at_call 8; refine (HON.out ax ay cx cy _ (hIx.below hby) hIy hcx hcy).mono ?_; rintro e w7 ⟨rfl, hb7⟩)
          | (go_at_call 7; have _t := hbx; refine (HY.out _).mono ?_; rintro e w6 ⟨ay, cy, rfl, hIy, hcy, hby⟩)
          | (go_at_call 7; refine (HX.out _).mono ?_; rintro e w5 ⟨ax, cx, rfl, hIx, hcx, hbx⟩; have d1 := (hbx.cell (p := ⟨g, i, none⟩) hgr).trans d1))
        have hbE := HBR.out.trans (((hbx.trans (hby.mono hbx.size)).trans (hb7.mono (Nat.le_trans hbx.size hby.size))).mono hbrz)
        refine ⟨⟨i + 1, by first | rfl | congr 1, by omega, by omega, hbE⟩, ?_⟩
        simp [intOf]; omega
      · go_wp2_with fail
        go_ret
        exact ⟨rfl, HBW.out.trans (hbr.mono HBW.out.size)⟩
end Go.Proofs.YtkgmikglifmenaaDoor.E
