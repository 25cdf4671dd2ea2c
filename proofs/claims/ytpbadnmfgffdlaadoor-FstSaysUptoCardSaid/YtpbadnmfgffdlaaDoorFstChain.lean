/-
  FstChain, as a call: it answers true.
-/
import Derived.Test.YtpbadnmfgffdlaaDoorFstAlive
import Derived.Test.YtpbadnmfgffdlaaDoorFstLawN
import Derived.Test.YtpbadnmfgffdlaaDoorLetRefB
namespace Go.Proofs.YtpbadnmfgffdlaaDoor.F
open Go.RowKit Go.Shelf Go.Maps
open Aid L LM
set_option linter.unusedSimpArgs false
set_option linter.unusedVariables false

theorem rrunes_uni (s : ByteArray) (w : World) (hs : (s.size : Int) ≤ 35184372088832) : Calls Tryd.prog 16 #[.string s] w fun e w' =>
    ∃ a n c rb, e = .returned (.tuple #[.slice a n c, .bool rb]) ∧ Below w.heap.size w w' ∧ rb = (runes s.data.toList).isSome ∧ ((runes s.data.toList).isSome = true → n = (runesOf s).length ∧ w'.ownsRow w.heap.size 21 1 (.slice a n c) (runesOf s).length ((runesOf s).map (.int .i32))) := by
  refine (rrunes_any s w (by omega) (fits_small (by omega))).mono ?_
  rintro e w' ⟨hb, ⟨h1, rfl⟩ | ⟨l, v, h1, rfl, h2⟩⟩
  · exact ⟨_, _, _, _, rfl, hb, by rw [h1]; rfl, (fun h => by rw [h1] at h; cases h)⟩
  · have e : runesOf s = l := by unfold runesOf; rw [h1]; rfl
    obtain ⟨a, c, hv⟩ := owns_shape h2
    subst hv
    exact ⟨_, _, _, _, rfl, hb, by rw [h1]; rfl, (fun _ => by rw [e]; exact ⟨rfl, h2⟩)⟩
set_option maxRecDepth 100000 in
set_option maxHeartbeats 4000000 in
theorem chain_law (s : ByteArray) (n : Int) (w : World) (hs : (s.size : Int) ≤ 35184372088832) (hn : i64 n) (T : Tab w) : Calls Tryd.prog 10 #[.string s, .int .i64 n] w fun e w' => e = .returned (.bool true) ∧ Below w.heap.size w w' := by
  obtain ⟨W1, hW1⟩ : ∃ W1, w.alloc (.cells #[.string s, .int .i64 n] 40) = W1 := ⟨_, rfl⟩
  have hb1 : Below w.heap.size w W1 := by rw [← hW1]; exact (Below.refl _ _).alloc (Nat.le_refl _) _
  have bB : Blk W1 w.heap.size 40 #[.string s, .int .i64 n] := by rw [← hW1]; exact Blk.alloc_new _ _ _
  have hP : PairsIn W1 (.slice (some ⟨w.heap.size, 0, none⟩) 1 1) [(s, n)] := by
    refine ⟨_, 1, rfl, by simp, by simp, ?_, ?_⟩
    · intro x hx
      simp only [List.mem_cons, List.not_mem_nil, or_false] at hx
      subst hx
      exact ⟨hs, hn⟩
    · intro j x hj
      match j, hj with
      | 0, hj => cases hj; exact ⟨_, 0, rfl, bB.lt, (Blk.cell bB 0).trans rfl, (Blk.cell bB 1).trans rfl⟩
      | j + 1, hj => simp at hj
  have hbuild := build_any _ [(s, n)] W1 hP (T.below hb1)
  have HB1 := Lib.hid hb1
  have T1 := T.below hb1
  clear hP bB hb1
  by_cases he : buildE [(s, n)] = 0
  · obtain ⟨k1, k2⟩ := make_chain s n he
    have hwd : (runes s.data.toList).isSome = true := by
      obtain ⟨_, g2, _⟩ := errF_sorted [(s, n)] none (by unfold buildE at he; rw [if_neg (by simp)] at he; exact he) (by simp)
      obtain ⟨l, h1, _⟩ := runes_word (g2 (s, n) (List.mem_cons_self)).1
      rw [h1]; rfl
    have hlen : (runesOf s).length ≤ 24 := by
      obtain ⟨_, g2, _⟩ := errF_sorted [(s, n)] none (by unfold buildE at he; rw [if_neg (by simp)] at he; exact he) (by simp)
      obtain ⟨l, _, h1, _, _, _, h2⟩ := runes_word (g2 (s, n) (List.mem_cons_self)).1
      rw [h1]; exact h2
    unfold BuildIs at hbuild
    rw [show buildF [(s, n)] = (makeF [(s, n)], 0) by unfold buildF; rw [if_pos he]] at hbuild
    obtain ⟨⟨B, S⟩, hm⟩ : ∃ p, makeF [(s, n)] = p := ⟨_, rfl⟩
    rw [hm] at hbuild k1 k2
    dsimp only at hbuild k1 k2
    subst k1
    obtain ⟨rn, hrn⟩ : ∃ rn, (runesOf s).length = rn := ⟨_, rfl⟩
    obtain ⟨N, hN⟩ : ∃ N, S.length = N := ⟨_, rfl⟩
    rw [hrn] at k2 hlen
    rw [hN] at k2
    subst k2
    have HBD := Lib.hid hbuild
    clear hbuild he hm
    go_enter Tryd.func10, Tryd.ntmps10
    go_upto_region 4 with (go_at_call 13; refine HBD.out.mono ?_; rintro e w2 ⟨sv, rfl, hSt, hb2⟩; obtain ⟨sa, sc, rfl⟩ := hSt.slice; rw [hN] at hSt)
    obtain ⟨W0, hW0⟩ : ∃ W0, w2.alloc (.cells #[.int .i64 B, .slice sa (rn + 1) sc] 27) = W0 := ⟨_, rfl⟩
    have hb0 : Below w2.heap.size w2 W0 := by rw [← hW0]; exact (Below.refl _ _).alloc (Nat.le_refl _) _
    have bM : Blk W0 w2.heap.size 27 #[.int .i64 B, .slice sa (rn + 1) sc] := by rw [← hW0]; exact Blk.alloc_new _ _ _
    have hb10 : Below W1.heap.size W1 W0 := hb2.trans (hb0.mono hb2.size)
    have HB10 := Lib.hid hb10
    have T0 := T1.below hb10
    have hQl := bM.lt
    obtain ⟨Q, hQ⟩ : ∃ Q, w2.heap.size = Q := ⟨_, rfl⟩
    rw [hQ] at bM hQl
    clear hb0 hSt hb2 hb10
    go_wp2_with (first
      | (go_at_call 12; (refine (alive_any _ (T0.below hb3)).mono ?_; rintro e w4 ⟨rfl, hb4⟩; have hb04 := hb3.trans (hb4.mono hb3.size); have q0 : w4.cell? ⟨Q, 0, none⟩ = some (.int .i64 B) := (Blk.cell (bM.below hb04 hQl) 0).trans rfl; have q1 : w4.cell? ⟨Q, 1, none⟩ = some (.slice sa (rn + 1) sc) := (Blk.cell (bM.below hb04 hQl) 1).trans rfl))
      | (go_at_call 16; refine (rrunes_uni s _ hs).mono ?_; rintro e w3 ⟨ra, rl, rc, rb, rfl, hb3, hrb, hrr⟩; obtain ⟨rfl, _⟩ := hrr hwd; rw [hrn]))
    go_ret
    exact ⟨rfl, HB1.out.trans ((HB10.out.trans (hb04.mono HB10.out.size)).mono HB1.out.size)⟩
  · obtain ⟨E, hE⟩ : ∃ E, buildE [(s, n)] = E := ⟨_, rfl⟩
    unfold BuildIs at hbuild
    rw [show buildF [(s, n)] = ((0, []), buildE [(s, n)]) by unfold buildF; rw [if_neg he]] at hbuild
    dsimp only at hbuild
    rw [hE] at hbuild he
    have heb : (E == 0) = false := by rw [beq_eq_false_iff_ne]; exact he
    have heb' : (E != 0) = true := by rw [bne_iff_ne]; exact he
    have HBD := Lib.hid hbuild
    clear hbuild
    go_enter Tryd.func10, Tryd.ntmps10
    go_wp2_with (first | (go_at_call 12; refine (alive_any _ (T1.below hb3)).mono ?_; rintro e w4 ⟨rfl, hb4⟩) | (go_at_call 13; refine HBD.out.mono ?_; rintro e w2 ⟨sv, rfl, hSt, hb2⟩; obtain ⟨sa, sc, rfl⟩ := hSt.slice; have hb3 := hb2.alloc hb2.size (.cells #[.int .i64 0, .slice sa ([] : List StM).length sc] 27)))
    go_ret
    exact ⟨rfl, HB1.out.trans ((hb3.trans (hb4.mono hb3.size)).mono HB1.out.size)⟩
end Go.Proofs.YtpbadnmfgffdlaaDoor.F
