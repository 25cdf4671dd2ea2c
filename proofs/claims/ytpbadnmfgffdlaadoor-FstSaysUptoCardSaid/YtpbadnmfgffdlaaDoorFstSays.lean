/-
  FstSays, as a call: it answers true.
-/
import Derived.Test.YtpbadnmfgffdlaaDoorFstWords
namespace Go.Proofs.YtpbadnmfgffdlaaDoor.F
open Go.RowKit Go.Shelf Go.Maps
open Aid L LM
set_option linter.unusedSimpArgs false
set_option linter.unusedVariables false

/-- the last pair of a word -/
def findF (l : List Wd) (s : ByteArray) : Int × Bool := match l.reverse.find? (fun x => decide (x.1 = s)) with | none => (0, false) | some x => (x.2, true)
theorem findF_at {l : List Wd} {s : ByteArray} {j : Nat} {x : Wd} (hx : l[j]? = some x) (hs : x.1 = s) (hn : ∀ y ∈ l.drop (j + 1), y.1 ≠ s) : findF l s = (x.2, true) := by
  have hj := (List.getElem?_eq_some_iff.1 hx).1
  have e : l = l.take j ++ x :: l.drop (j + 1) := by
    rw [List.getElem?_eq_getElem hj] at hx
    rw [← Option.some.inj hx, List.getElem_cons_drop, List.take_append_drop]
  unfold findF
  rw [e, List.reverse_append, List.reverse_cons, List.append_assoc, List.find?_append]
  rw [List.find?_eq_none.2 (fun y hy => by
    have := hn y (by simpa using hy)
    simpa using this)]
  simp [hs]
theorem findF_none {l : List Wd} {s : ByteArray} (h : ∀ y ∈ l, y.1 ≠ s) : findF l s = (0, false) := by
  unfold findF
  rw [List.find?_eq_none.2 (fun y hy => by
    have := h y (by simpa using hy)
    simpa using this)]
theorem bytes_ext {a b : ByteArray} (h : a.data.toList = b.data.toList) : a = b := by
  obtain ⟨⟨a⟩⟩ := a
  obtain ⟨⟨b⟩⟩ := b
  simp at h
  rw [h]
theorem says_eq (l : List Wd) (h : buildE l = 0) (s : ByteArray) (hs : (runes s.data.toList).isSome = true) :
    (match look (restsF l) (runesOf s) with | none => ((0 : Int), false) | some w => (w, true)) = findF l s := by
  have hsort := (rests_ok h).sorted
  have hgood : ∀ x ∈ l, wordB x.1 = true := by
    unfold buildE at h
    split at h
    · omega
    · obtain ⟨_, g2, _⟩ := errF_sorted l none h (by simp)
      exact fun x hx => (g2 x hx).1
  obtain ⟨r, hr⟩ := Option.isSome_iff_exists.1 hs
  obtain ⟨_, hse⟩ := runes_iff.1 hr
  have hrs : runesOf s = r := by unfold runesOf; rw [hr]; rfl
  by_cases hex : ∃ j x, l[j]? = some x ∧ x.1 = s ∧ ∀ y ∈ l.drop (j + 1), y.1 ≠ s
  · obtain ⟨j, x, hx, hxs, hn⟩ := hex
    rw [findF_at hx hxs hn]
    have := look_mem hsort (x := (runesOf x.1, x.2)) (List.mem_map_of_mem (List.mem_of_getElem? hx))
    dsimp only at this
    rw [hxs] at this
    rw [this]
  · have hno : ∀ y ∈ l, y.1 ≠ s := by
      intro y hy e
      apply hex
      -- the last one
      clear hex hsort hgood h
      induction l with
      | nil => cases hy
      | cons z l ih =>
        by_cases hz : ∃ y ∈ l, y.1 = s
        · obtain ⟨y', hy', e'⟩ := hz
          have : ∃ j x, l[j]? = some x ∧ x.1 = s ∧ ∀ y ∈ l.drop (j + 1), y.1 ≠ s := by
            rcases List.mem_cons.1 hy with rfl | hy
            · clear ih
              -- take the last by induction on the tail
              have key : ∀ l : List Wd, (∃ y ∈ l, y.1 = s) → ∃ j x, l[j]? = some x ∧ x.1 = s ∧ ∀ y ∈ l.drop (j + 1), y.1 ≠ s := by
                intro l
                induction l with
                | nil => rintro ⟨_, h, _⟩; cases h
                | cons a l ihl =>
                  rintro ⟨y, hy, e⟩
                  by_cases ht : ∃ y ∈ l, y.1 = s
                  · obtain ⟨j, x, h1, h2, h3⟩ := ihl ht
                    exact ⟨j + 1, x, by simpa using h1, h2, by simpa using h3⟩
                  · rcases List.mem_cons.1 hy with rfl | hy
                    · exact ⟨0, y, rfl, e, fun z hz hzs => ht ⟨z, by simpa using hz, hzs⟩⟩
                    · exact absurd ⟨y, hy, e⟩ ht
              exact key l ⟨y', hy', e'⟩
            · exact ih hy
          obtain ⟨j, x, h1, h2, h3⟩ := this
          exact ⟨j + 1, x, by simpa using h1, h2, by simpa using h3⟩
        · rcases List.mem_cons.1 hy with rfl | hy
          · exact ⟨0, y, rfl, e, fun z hz' hzs => hz ⟨z, by simpa using hz', hzs⟩⟩
          · exact absurd ⟨y, hy, e⟩ hz
    rw [findF_none hno, look_none (fun y hy e => by
      obtain ⟨x, hx, rfl⟩ := List.mem_map.1 hy
      dsimp only at e
      obtain ⟨z, _, hz, _, hze, _⟩ := runes_word (hgood x hx)
      rw [hz, hrs] at e
      subst e
      exact hno x hx (bytes_ext (hze.trans hse.symm)))]
set_option maxRecDepth 100000 in
set_option maxHeartbeats 2000000 in
theorem find_any (l : List Wd) (v : Value) (s : ByteArray) (w : World) (h : PairsIn w v l) :
    Calls Tryd.prog 18 #[v, .string s] w fun e w' => e = .returned (.tuple #[.int .i64 (findF l s).1, .bool (findF l s).2]) ∧ w = w' := by
  obtain ⟨a, c, rfl⟩ := h.slice
  have hlen := h.len
  obtain ⟨n, hn⟩ : ∃ n, l.length = n := ⟨_, rfl⟩
  have hcap : (n : Int) ≤ (c : Int) := by obtain ⟨_, _, e, _, h, _⟩ := h; cases e; omega
  rw [hn] at h hlen ⊢
  have hwn : wrap64 ((n : Int) - 1) = (n : Int) - 1 := IntWalk.wrap64_in _ (by omega)
  go_enter Tryd.func18, Tryd.ntmps18
  go_wp2_with fail
  clear hwn
  go_loopw [6] (fun x6 wr => ∃ k : Nat, x6 = .int .i64 ((k : Int) - 1) ∧ k ≤ n ∧ (∀ y ∈ l.drop k, y.1 ≠ s) ∧ w = wr) (fun x6 _ => (intOf x6 + 1).toNat)
  case atStart => exact ⟨n, rfl, Nat.le_refl _, by rw [List.drop_eq_nil_of_le (by omega)]; simp, rfl⟩
  case round =>
    obtain ⟨k, rfl, hk, hno, rfl⟩ := hrel
    cases k with
    | zero =>
      have hF : findF l s = (0, false) := findF_none (by simpa using hno)
      have HF := Lib.hid hF
      clear hF hno
      go_wp2_with fail
      go_ret2
      exact ⟨by rw [HF.out]; rfl, rfl⟩
    | succ k =>
      obtain ⟨x, hx⟩ : ∃ x, l[k]? = some x := ⟨_, List.getElem?_eq_getElem (by omega)⟩
      obtain ⟨g, off, rfl, hg, c0, c1⟩ := h.at_ hx
      have hdr : l.drop k = x :: l.drop (k + 1) := by
        have hj := (List.getElem?_eq_some_iff.1 hx).1
        rw [List.drop_eq_getElem_cons hj]
        rw [List.getElem?_eq_getElem hj] at hx
        rw [Option.some.inj hx]
      have hkk : ((k + 1 : Nat) : Int) - 1 = (k : Int) := by omega
      rw [hkk]
      have k0 : (0 : Int) ≤ (k : Int) := by omega
      have k1 : (k : Int) < (n : Int) := by omega
      by_cases hxs : x.1 = s
      · have hF := findF_at hx hxs hno
        have hq : (x.1.toList == s.toList) = true := by rw [hxs]; simp
        have HF := Lib.hid hF
        obtain ⟨xs, xw⟩ := x
        dsimp only at c0 c1 hq
        clear hF hno hx hdr hxs hkk
        go_wp2_with fail
        go_ret2
        exact ⟨by rw [HF.out]; rfl, rfl⟩
      · have hq : (x.1.toList == s.toList) = false := by
          rw [beq_eq_false_iff_ne]
          intro e
          rw [toList_eq, toList_eq] at e
          exact hxs (bytes_ext e)
        have HNO := Lib.hid hno
        have HDR := Lib.hid hdr
        have HXS := Lib.hid hxs
        obtain ⟨xs, xw⟩ := x
        dsimp only at c0 c1 hq
        have hw2 : wrap64 ((k : Int) - 1) = (k : Int) - 1 := IntWalk.wrap64_in _ (by omega)
        clear hno hx hdr hxs hkk
        go_wp2_with fail
        clear hw2
        refine ⟨⟨k, rfl, by omega, fun y hy => ?_, by first | rfl | trivial⟩, ?_⟩
        · rw [HDR.out] at hy
          rcases List.mem_cons.1 hy with rfl | hy
          · exact HXS.out
          · exact HNO.out y hy
        · simp [intOf]
set_option maxRecDepth 100000 in
set_option maxHeartbeats 4000000 in
theorem says_law (v : Value) (l : List Wd) (s : ByteArray) (w : World) (h : PairsIn w v l) (hs : (s.size : Int) ≤ 35184372088832) (T : Tab w) : Calls Tryd.prog 4 #[v, .string s] w fun e w' => e = .returned (.bool true) ∧ Below w.heap.size w w' := by
  have hbuild := build_any v l w h T
  by_cases he : buildE l = 0
  · obtain ⟨hinv, _, _⟩ := make_ok l he
    obtain ⟨hout, hB⟩ := make_outs l he
    have hfol : ∀ r, followR (makeF l).1 (makeF l).2 r = match look (restsF l) r with | none => (0, false) | some w => (w, true) := make_follow l he
    have heq := says_eq l he s
    unfold BuildIs at hbuild
    rw [build_ok he] at hbuild
    obtain ⟨⟨B, S⟩, hm⟩ : ∃ p, makeF l = p := ⟨_, rfl⟩
    rw [hm] at hbuild hinv hout hB hfol
    dsimp only at hbuild hinv hout hB hfol
    have HFD := Lib.hid (fun (W : World) (hb : Below w.heap.size w W) => find_any l v s W (h.below hb))
    have HBD := Lib.hid hbuild
    obtain ⟨⟨fv, fh⟩, hff⟩ : ∃ p, findF l s = p := ⟨_, rfl⟩
    rw [hff] at heq HFD
    clear hbuild he hm h
    go_enter Tryd.func4, Tryd.ntmps4
    go_upto_region 4 with (go_at_call 13; refine HBD.out.mono ?_; rintro e w2 ⟨sv, rfl, hSt, hb2⟩; obtain ⟨sa, sc, rfl⟩ := hSt.slice)
    obtain ⟨N, hN⟩ : ∃ N, S.length = N := ⟨_, rfl⟩
    rw [hN] at hSt
    try rw [hN]
    obtain ⟨W0, hW0⟩ : ∃ W0, w2.alloc (.cells #[.int .i64 B, .slice sa N sc] 27) = W0 := ⟨_, rfl⟩
    have hb0 : Below w2.heap.size w2 W0 := by rw [← hW0]; exact (Below.refl _ _).alloc (Nat.le_refl _) _
    have bM : Blk W0 w2.heap.size 27 #[.int .i64 B, .slice sa N sc] := by rw [← hW0]; exact Blk.alloc_new _ _ _
    have hSt0 := hSt.below hb0
    have hbw0 : Below w.heap.size w W0 := hb2.trans (hb0.mono hb2.size)
    obtain ⟨Q, hQ⟩ : ∃ Q, w2.heap.size = Q := ⟨_, rfl⟩
    rw [hQ] at bM
    have hQl := bM.lt
    have T0 := T.below hbw0
    try rw [hW0]
    try rw [hQ]
    have HT0 := Lib.hid T0
    have HST := Lib.hid hSt0
    have HBW := Lib.hid hbw0
    clear hSt hSt0 hbw0 hb0 T0 hb2
    by_cases hsm : (runes s.data.toList).isSome = true
    · have hfx := hfol (runesOf s)
      rw [heq hsm] at hfx
      have HFX := Lib.hid hfx
      obtain ⟨rn, hrn⟩ : ∃ rn, (runesOf s).length = rn := ⟨_, rfl⟩
      have hrnl : rn ≤ 140737488355328 := by
        obtain ⟨r, hr⟩ := Option.isSome_iff_exists.1 hsm
        have h1 := runes_len hr
        have h2 : runesOf s = r := by unfold runesOf; rw [hr]; rfl
        rw [← hrn, h2]
        omega
      clear heq hfol hfx
      go_wp2_with (first
        | (go_at_call 12; refine (alive_any _ (HT0.out.below hb04)).mono ?_; rintro e w6 ⟨rfl, hb6⟩)
        | (go_at_call 18; refine (HFD.out _ (HBW.out.trans (hb04.mono HBW.out.size))).mono ?_; rintro e w5 ⟨rfl, rfl⟩)
        | (go_at_call 17; refine (follow_any B S _ _ (runesOf s) _ (HST.out.below hb3) hI3 hinv hout hB).mono ?_; rintro e w4 ⟨rfl, hb4⟩; rw [HFX.out]; have hb04 := hb3.trans (hb4.mono hb3.size))
        | (go_at_call 16; refine (rrunes_uni s _ hs).mono ?_; rintro e w3 ⟨ra, rl, rc, rb, rfl, hb3, hrb, hrr⟩; obtain ⟨rfl, hro⟩ := hrr hsm; rw [hsm] at hrb; subst hrb; rw [hrn] at hro ⊢; have hI3 : Ints w3 .i32 (.slice ra rn rc) (runesOf s) := Ints.own (by rw [hrn]; exact hro) (by omega); have q0 : w3.cell? ⟨Q, 0, none⟩ = some (.int .i64 B) := (Blk.cell (bM.below hb3 hQl) 0).trans rfl; have q1 : w3.cell? ⟨Q, 1, none⟩ = some (.slice sa N sc) := (Blk.cell (bM.below hb3 hQl) 1).trans rfl))
      go_ret
      exact ⟨rfl, HBW.out.trans ((hb04.trans (hb6.mono hb04.size)).mono HBW.out.size)⟩
    · have hnone : runes s.data.toList = none := by
        cases hq : runes s.data.toList with
        | none => rfl
        | some z => rw [hq] at hsm; exact absurd rfl hsm
      have hrun : ∀ W, Calls Tryd.prog 16 #[.string s] W fun e w' => e = .returned (.tuple #[.slice none 0 0, .bool false]) ∧ Below W.heap.size W w' := fun W => by
        refine (rrunes_any s W (by omega) (fits_small (by omega))).mono ?_
        rintro e w' ⟨hb, ⟨h1, rfl⟩ | ⟨l, v, h1, rfl, h2⟩⟩
        · exact ⟨rfl, hb⟩
        · rw [hnone] at h1; cases h1
      obtain ⟨⟨gv, gh⟩, hfx⟩ : ∃ p, followR B S [] = p := ⟨_, rfl⟩
      have HFX := Lib.hid hfx
      have HRN := Lib.hid hrun
      clear heq hfol hfx hrun
      go_wp2_with (first
        | (go_at_call 12; refine (alive_any _ (HT0.out.below hb04)).mono ?_; rintro e w6 ⟨rfl, hb6⟩)
        | (go_at_call 18; refine (HFD.out _ (HBW.out.trans (hb04.mono HBW.out.size))).mono ?_; rintro e w5 ⟨rfl, rfl⟩)
        | (go_at_call 17; refine (follow_any B S _ (.slice none 0 0) [] _ (HST.out.below hb3) (Ints.nil _ _) hinv hout hB).mono ?_; rintro e w4 ⟨rfl, hb4⟩; rw [HFX.out]; have hb04 := hb3.trans (hb4.mono hb3.size))
        | (go_at_call 16; refine (HRN.out _).mono ?_; rintro e w3 ⟨rfl, hb3⟩; have q0 : w3.cell? ⟨Q, 0, none⟩ = some (.int .i64 B) := (Blk.cell (bM.below hb3 hQl) 0).trans rfl; have q1 : w3.cell? ⟨Q, 1, none⟩ = some (.slice sa N sc) := (Blk.cell (bM.below hb3 hQl) 1).trans rfl))
      go_ret
      exact ⟨rfl, HBW.out.trans ((hb04.trans (hb6.mono hb04.size)).mono HBW.out.size)⟩
  · have herr := build_err he
    unfold BuildIs at hbuild
    rw [herr] at hbuild
    dsimp only at hbuild
    obtain ⟨E, hE⟩ : ∃ E, buildE l = E := ⟨_, rfl⟩
    rw [hE] at hbuild he
    have heb : (E == 0) = false := by rw [beq_eq_false_iff_ne]; exact he
    have heb' : (E != 0) = true := by rw [bne_iff_ne]; exact he
    have HBD := Lib.hid hbuild
    clear hbuild h herr
    go_enter Tryd.func4, Tryd.ntmps4
    go_wp2_with (first | (go_at_call 12; refine (alive_any _ (T.below hb3)).mono ?_; rintro e w4 ⟨rfl, hb4⟩) | (go_at_call 13; refine HBD.out.mono ?_; rintro e w2 ⟨sv, rfl, hSt, hb2⟩; obtain ⟨sa, sc, rfl⟩ := hSt.slice; have hb3 := hb2.alloc hb2.size (.cells #[.int .i64 0, .slice sa ([] : List StM).length sc] 27)))
    go_ret
    exact ⟨rfl, hb3.trans (hb4.mono hb3.size)⟩
end Go.Proofs.YtpbadnmfgffdlaaDoor.F
