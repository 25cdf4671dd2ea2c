/-
  FstWords, as a call: it answers true.
-/
import Derived.Test.YtpbadnmfgffdlaaDoorFstFollow
import Derived.Test.YtpbadnmfgffdlaaDoorFstChain
namespace Go.Proofs.YtpbadnmfgffdlaaDoor.F
open Go.RowKit Go.Shelf Go.Maps
open Aid L LM
set_option linter.unusedSimpArgs false
set_option linter.unusedVariables false

theorem lexR_irrefl : ∀ a : List Int, lexR a a = false
  | [] => rfl
  | x :: a => by
    unfold lexR
    rw [if_pos rfl]
    exact lexR_irrefl a
theorem look_mem : ∀ {l : List Rw} {x : Rw}, l.Pairwise (fun a b => lexR a.1 b.1 = true) → x ∈ l → look l x.1 = some x.2
  | [], _, _, h => by cases h
  | y :: l, x, hs, h => by
    rw [look_cons]
    obtain ⟨h1, h2⟩ := List.pairwise_cons.1 hs
    rcases List.mem_cons.1 h with rfl | h
    · rw [if_pos rfl]
    · have h3 := h1 x h
      rw [if_neg (fun e => by rw [e, lexR_irrefl] at h3; cases h3)]
      exact look_mem h2 h
/-- what Follow says of a dictionary's machine -/
theorem make_follow (l : List Wd) (h : buildE l = 0) (r : List Int) : followR (makeF l).1 (makeF l).2 r = match look (restsF l) r with | none => (0, false) | some w => (w, true) := by
  unfold followR sayR
  by_cases hl : l = []
  · subst hl
    rfl
  · have hne : restsF l ≠ [] := by simpa [restsF] using hl
    have h1 := root_last 25 (restsF l) (rests_ok h) hne
    have h2 : (makeF l).2.length ≠ 0 := by
      unfold makeF
      rw [if_neg hl]
      dsimp only
      omega
    rw [if_neg h2, make_say l h hl r]
    cases look (restsF l) r with
    | none => rfl
    | some w =>
      simp only [Option.map_some]
      congr 1
      omega
set_option maxRecDepth 100000 in
set_option maxHeartbeats 4000000 in
theorem words_law (v : Value) (l : List Wd) (w : World) (h : PairsIn w v l) (T : Tab w) : Calls Tryd.prog 5 #[v] w fun e w' => e = .returned (.bool true) ∧ Below w.heap.size w w' := by
  have hbuild := build_any v l w h T
  by_cases he : buildE l = 0
  · obtain ⟨hinv, _, _⟩ := make_ok l he
    obtain ⟨hout, hB⟩ := make_outs l he
    have hfol := make_follow l he
    obtain ⟨hgood, hsort⟩ : (∀ x ∈ l, wordB x.1 = true) ∧ (restsF l).Pairwise (fun a b => lexR a.1 b.1 = true) := by
      have h2 := (rests_ok he).sorted
      unfold buildE at he
      split at he
      · omega
      · obtain ⟨_, g2, _⟩ := errF_sorted l none he (by simp)
        exact ⟨fun x hx => (g2 x hx).1, h2⟩
    unfold BuildIs at hbuild
    rw [build_ok he] at hbuild
    obtain ⟨⟨B, S⟩, hm⟩ : ∃ p, makeF l = p := ⟨_, rfl⟩
    rw [hm] at hbuild hinv hout hB hfol
    dsimp only at hbuild hinv hout hB hfol
    obtain ⟨av, cv, rfl⟩ := h.slice
    obtain ⟨n, hn⟩ : ∃ n, l.length = n := ⟨_, rfl⟩
    have hok := h.ok
    have hlen := h.len
    rw [hn] at h hbuild hlen ⊢
    have hcap : (n : Int) ≤ (cv : Int) := by obtain ⟨_, _, e, _, h, _⟩ := h; cases e; omega
    have HBD := Lib.hid hbuild
    clear hbuild he hm
    go_enter Tryd.func5, Tryd.ntmps5
    go_upto_region 4 with (go_at_call 13; refine HBD.out.mono ?_; rintro e w2 ⟨sv, rfl, hSt, hb2⟩; obtain ⟨sa, sc, rfl⟩ := hSt.slice)
    obtain ⟨N, hN⟩ : ∃ N, S.length = N := ⟨_, rfl⟩
    rw [hN] at hSt
    try rw [hN]
    obtain ⟨W0, hW0⟩ : ∃ W0, w2.alloc (.cells #[.int .i64 B, .slice sa N sc] 27) = W0 := ⟨_, rfl⟩
    have hb0 : Below w2.heap.size w2 W0 := by rw [← hW0]; exact (Below.refl _ _).alloc (Nat.le_refl _) _
    have bM : Blk W0 w2.heap.size 27 #[.int .i64 B, .slice sa N sc] := by rw [← hW0]; exact Blk.alloc_new _ _ _
    have hSt0 := hSt.below hb0
    have hbw0 : Below w.heap.size w W0 := hb2.trans (hb0.mono hb2.size)
    obtain ⟨Q, hQ⟩ : ∃ Q, w2.heap.size = Q := ⟨_, rfl⟩
    rw [hQ] at bM
    have hQl := bM.lt
    have T0 := T.below hbw0
    try rw [hW0]
    try rw [hQ]
    have HT0 := Lib.hid T0
    have HST := Lib.hid hSt0
    have HBW := Lib.hid hbw0
    clear hSt hSt0 hbw0 hb0 T0 hb2
    go_wp2_with fail
    go_loopw [6, 7, 8, 9, 10, 21] (fun x6 x7 x8 x9 x10 x21 wr => ∃ i : Nat, x21 = .int .i64 i ∧ i ≤ n ∧ Below W0.heap.size W0 wr) (fun _ _ _ _ _ x21 _ => n - (intOf x21).toNat)
    case atStart => exact ⟨0, rfl, Nat.zero_le _, Below.refl _ _⟩
    case round =>
      obtain ⟨i, rfl, hi, hb⟩ := hrel
      have hbz := hb.size
      by_cases hlt : (i : Int) < (n : Int)
      · obtain ⟨x, hx⟩ : ∃ x, l[i]? = some x := ⟨_, List.getElem?_eq_getElem (by omega)⟩
        obtain ⟨g, off, rfl, hg, c0, c1⟩ := h.at_ hx
        have hxm := List.mem_of_getElem? hx
        have hxs := (hok x hxm).1
        have hfx := hfol (runesOf x.1)
        rw [look_mem hsort (x := (runesOf x.1, x.2)) (List.mem_map_of_mem hxm)] at hfx
        have hwx := hgood x hxm
        obtain ⟨xs, xw⟩ := x
        dsimp only at c0 c1 hxs hfx hwx
        have hsome : (runes xs.data.toList).isSome = true := by obtain ⟨z, hz, _⟩ := runes_word hwx; rw [hz]; rfl
        have hrl : (runesOf xs).length ≤ 24 := by obtain ⟨z, _, hz, _, _, _, hz2⟩ := runes_word hwx; rw [hz]; exact hz2
        obtain ⟨rn, hrn⟩ : ∃ rn, (runesOf xs).length = rn := ⟨_, rfl⟩
        have hbw := HBW.out.trans (hb.mono HBW.out.size)
        have d0 := (hbw.cell (p := ⟨g, off + i * 2, none⟩) hg).trans c0
        have d1 := (hbw.cell (p := ⟨g, off + i * 2 + 1, none⟩) hg).trans c1
        have hcs := two_cells d0 d1
        have i0 : (0 : Int) ≤ (i : Int) := by omega
        obtain ⟨K, hK⟩ : ∃ K, wr.heap.size = K := ⟨_, rfl⟩
        obtain ⟨W1, hW1⟩ : ∃ W1, wr.alloc (.cells #[.string xs, .int .i64 xw] 40) = W1 := ⟨_, rfl⟩
        have hb1 : Below wr.heap.size wr W1 := by rw [← hW1]; exact (Below.refl _ _).alloc (Nat.le_refl _) _
        have bK : Blk W1 K 40 #[.string xs, .int .i64 xw] := by rw [← hW1, ← hK]; exact Blk.alloc_new _ _ _
        have hKl := bK.lt
        have p0 : W1.cell? ⟨K, 0, none⟩ = some (.string xs) := (Blk.cell bK 0).trans rfl
        have p1 : W1.cell? ⟨K, 1, none⟩ = some (.int .i64 xw) := (Blk.cell bK 1).trans rfl
        have hb01 : Below W0.heap.size W0 W1 := hb.trans (hb1.mono hb.size)
        have HB01 := Lib.hid hb01
        have HFX := Lib.hid hfx
        have bM1 := bM.below hb01 hQl
        have hQ1 := bM1.lt
        clear hb1 hb01 hbw c0 c1 hx hxm hfx hb
        go_wp2_with (first
          | (go_at_call 17; refine (follow_any B S _ _ (runesOf xs) _ (HST.out.below hb03) hI3 hinv hout hB).mono ?_; rintro e w4 ⟨rfl, hb4⟩; rw [HFX.out]; have p1 := (hb4.cell (p := ⟨K, 1, none⟩) (by have := hb3.size; show K < _; omega)).trans p1)
          | (go_at_call 16; refine (rrunes_uni xs _ hxs).mono ?_; rintro e w3 ⟨ra, rl, rc, rb, rfl, hb3, hrb, hrr⟩; obtain ⟨rfl, hro⟩ := hrr hsome; rw [hrn] at hro ⊢; have hI3 : Ints w3 .i32 (.slice ra rn rc) (runesOf xs) := Ints.own (by rw [hrn]; exact hro) (by omega); have hb03 := HB01.out.trans (hb3.mono HB01.out.size); have q0 : w3.cell? ⟨Q, 0, none⟩ = some (.int .i64 B) := (Blk.cell (bM1.below hb3 hQ1) 0).trans rfl; have q1 : w3.cell? ⟨Q, 1, none⟩ = some (.slice sa N sc) := (Blk.cell (bM1.below hb3 hQ1) 1).trans rfl; have p1 := (hb3.cell (p := ⟨K, 1, none⟩) hKl).trans p1))
        have hbe : Below W0.heap.size W0 w4 := hb03.trans (hb4.mono hb03.size)
        refine ⟨⟨i + 1, by first | rfl | congr 1, by omega, hbe⟩, ?_⟩
        simp [intOf]; omega
      · have hT1 := HT0.out.below hb
        go_wp2_with (go_at_call 12; refine (alive_any _ hT1).mono ?_; rintro e w4 ⟨rfl, hb4⟩)
        go_ret
        exact ⟨rfl, HBW.out.trans ((hb.trans (hb4.mono hb.size)).mono HBW.out.size)⟩
  · have herr := build_err he
    unfold BuildIs at hbuild
    rw [herr] at hbuild
    dsimp only at hbuild
    obtain ⟨E, hE⟩ : ∃ E, buildE l = E := ⟨_, rfl⟩
    rw [hE] at hbuild he
    have heb : (E == 0) = false := by rw [beq_eq_false_iff_ne]; exact he
    have heb' : (E != 0) = true := by rw [bne_iff_ne]; exact he
    have HBD := Lib.hid hbuild
    clear hbuild h herr
    go_enter Tryd.func5, Tryd.ntmps5
    go_wp2_with (first | (go_at_call 12; refine (alive_any _ (T.below hb3)).mono ?_; rintro e w4 ⟨rfl, hb4⟩) | (go_at_call 13; refine HBD.out.mono ?_; rintro e w2 ⟨sv, rfl, hSt, hb2⟩; obtain ⟨sa, sc, rfl⟩ := hSt.slice; have hb3 := hb2.alloc hb2.size (.cells #[.int .i64 0, .slice sa ([] : List StM).length sc] 27)))
    go_ret
    exact ⟨rfl, hb3.trans (hb4.mono hb3.size)⟩
end Go.Proofs.YtpbadnmfgffdlaaDoor.F
