/-
  The walk of the law that no two candidates are given a vote in one term.
-/
import Derived.Test.YtmokfpjiibociaaRulOnceM
namespace Go.Proofs.Ytmokfpjiibociaa.R
open Go.RowKit
open Aid
set_option linter.unusedSimpArgs false
set_option linter.unusedVariables false

theorem blk3 {w : World} {g : Nat} {t : TypeId} {x y z : Value} (h : Blk w g t #[x, y, z]) : w.cell? ⟨g, 0, none⟩ = some x ∧ w.cell? ⟨g, 1, none⟩ = some y ∧ w.cell? ⟨g, 2, none⟩ = some z :=
  ⟨by rw [Blk.cell h]; rfl, by rw [Blk.cell h]; rfl, by rw [Blk.cell h]; rfl⟩
theorem blk2 {w : World} {g : Nat} {t : TypeId} {x y : Value} (h : Blk w g t #[x, y]) : w.cell? ⟨g, 0, none⟩ = some x ∧ w.cell? ⟨g, 1, none⟩ = some y :=
  ⟨by rw [Blk.cell h]; rfl, by rw [Blk.cell h]; rfl⟩

theorem two_set {w : World} {g : Nat} {t : TypeId} {x y : Value} (h : Blk w g t #[x, y]) (u v : Value) : Blk ((w.setCell ⟨g, 0, none⟩ u).setCell ⟨g, 1, none⟩ v) g t #[u, v] := by
  have := (h.set 0 u).set 1 v
  simpa using this
theorem owns_formN {w : World} {base : Nat} {e : TypeId} {s : Nat} {v : Value} {n : Nat} {xs : List Value} (h : w.ownsRow base e s v n xs) : ∃ a cap, v = .slice a n cap := by
  rcases h.2 with ⟨rfl, hn⟩ | ⟨g, cap, cur, rfl, _⟩
  · subst hn; exact ⟨none, 0, rfl⟩
  · exact ⟨_, _, rfl⟩
set_option maxRecDepth 100000 in
set_option maxHeartbeats 8000000 in
theorem once_law (h0 v0 : Int) (u : Value) (n : Nat) (T C : Nat → Int) (F : Nat → Bool) (w : World) (hA : Asks w u n T C F) : Calls Try.prog 6 #[.agg #[.int .u64 h0, .int .i64 v0], u] w (TrueIn w) := by
  obtain ⟨ia, hia, hza, hsa, hba⟩ : ∃ i, Try.prog.info? 32 = some i ∧ i.zero = some (.agg #[.int .u64 0, .int .i64 0, .bool false]) ∧ i.size = 3 ∧ i.bytes = 24 :=
    info_parts (show (Try.prog.info? 32).map (fun i => (i.zero, i.size, i.bytes)) = some (some (.agg #[.int .u64 0, .int .i64 0, .bool false]), 3, 24) by kernel_rfl)
  have n63 := hA.1
  have HI := Lib.hid hA
  clear hA
  obtain ⟨a, c, rfl⟩ : ∃ a c, u = .slice a n c := by obtain ⟨_, a, c, h, _⟩ := HI.out; exact ⟨a, c, h⟩
  go_enter Try.func6, Try.ntmps6
  by_cases hmany : (2000 : Int) < (n : Int)
  · go_wp2_with fail
    refine (alive_any _).mono ?_
    rintro e w1 ⟨rfl, hb1⟩
    go_wp2_with fail
    go_ret
    exact ⟨rfl, ((Below.refl w.heap.size w).alloc (Nat.le_refl _) _).trans (hb1.mono (by simp))⟩
  · go_wp2_with fail
    have hb0 : Below w.heap.size w (w.alloc (.cells #[.int .u64 h0, .int .i64 v0] 30)) := (Below.refl _ _).alloc (Nat.le_refl _) _
    have bH0 : Blk (w.alloc (.cells #[.int .u64 h0, .int .i64 v0] 30)) w.heap.size 30 #[.int .u64 h0, .int .i64 v0] := Blk.alloc_new _ _ _
    obtain ⟨wa, hwa⟩ : ∃ wa, w.alloc (.cells #[.int .u64 h0, .int .i64 v0] 30) = wa := ⟨_, rfl⟩
    obtain ⟨A, hA⟩ : ∃ A, w.heap.size = A := ⟨_, rfl⟩
    have hsz : wa.heap.size = A + 1 := by rw [← hwa]; simp [hA]
    rw [hwa, hA] at hb0 bH0
    simp only [hwa]
    simp only [hA]
    have HA := Lib.hid hA
    clear hwa hA
    go_loopw [5, 18] (fun v5 i wr => ∃ (k : Nat) (G : List (Int × Int × Bool)) (ht hv : Int), i = .int .i64 k ∧ k ≤ n ∧ Blk wr A 30 #[.int .u64 ht, .int .i64 hv] ∧ Hid (wr.ownsRow (A + 1) 32 3 v5 G.length (asksV G)) ∧ G.length ≤ k ∧ Hid (Kept ht hv G) ∧ Below A w wr ∧ A + 1 ≤ wr.heap.size)
      (fun _ i _ => n - (intOf i).toNat)
    case atStart => exact ⟨0, [], h0, v0, rfl, Nat.zero_le _, bH0, World.ownsRow_nil _ _ _ _, Nat.le_refl _, fun b hb => by simp at hb, hb0, by omega⟩
    case round =>
      clear bH0
      obtain ⟨k, G, ht, hv, rfl, hk, bH, HO, hGk, HK, hb, hsr⟩ := hrel
      obtain ⟨a5, c5, rfl⟩ := owns_formN HO.out
      have hlt5 : ∀ q, (Value.slice a5 G.length c5).ownBlock = some q → q < wr.heap.size := fun q hq => (HO.out.lt q hq).2
      by_cases hlt : (k : Int) < (n : Int)
      · obtain ⟨t, ht0⟩ : ∃ t, T k = t := ⟨_, rfl⟩
        obtain ⟨cd, hcd⟩ : ∃ cd, C k = cd := ⟨_, rfl⟩
        obtain ⟨f, hf⟩ : ∃ f, F k = f := ⟨_, rfl⟩
        obtain ⟨b1, o1, had, _, e0, e1, e2⟩ : ∃ b o, a = some ⟨b, o, none⟩ ∧ b < wr.heap.size ∧ wr.cell? ⟨b, o + k * 3, none⟩ = some (.int .u64 t) ∧ wr.cell? ⟨b, o + k * 3 + 1, none⟩ = some (.int .i64 cd) ∧ wr.cell? ⟨b, o + k * 3 + 2, none⟩ = some (.bool f) := by
          obtain ⟨_, a', c', hv', h⟩ := HI.out.below (by rw [HA.out]; exact hb)
          simp at hv'
          obtain ⟨rfl, _⟩ := hv'
          rw [← ht0, ← hcd, ← hf]
          exact h k (by omega)
        subst had
        clear ht0 hcd hf
        by_cases hneg : cd < 0
        · go_wp2_with fail
          exact ⟨⟨k + 1, G, ht, hv, by go_num, by omega, Blk.below bH ((Below.refl (A + 1) wr).alloc (by omega) _) (by omega), owns_below HO.out ((Below.refl _ _).alloc (Nat.le_refl _) _), by omega, HK, hb.alloc (by omega) _, by simp; omega⟩, by simp [intOf]; omega⟩
        · obtain ⟨g1, g2, ok, hg⟩ : ∃ g1 g2 ok, grantF ht hv t cd f = ((g1, g2), ok) := ⟨_, _, _, rfl⟩
          have hup : ht ≤ g1 := by have := grant_up ht hv t cd f; rw [hg] at this; exact this
          have hto : ok = true → g1 = t ∧ g2 = cd := by
            intro h
            have := grant_to (ht := ht) (hv := hv) (t := t) (c := cd) (n := f) (by rw [hg]; exact h)
            rw [hg] at this; simpa using this
          have HN : Hid (Kept g1 g2 G) := by
            have := kept_no (t := t) (c := cd) (n := f) HK.out
            rw [hg] at this; exact this
          have HO1 : Hid (ok = true → ∀ b ∈ G, b.1 = t → b.2.1 = cd) := fun h => kept_one HK.out (by rw [hg]; exact h)
          have HM : Hid (ok = true → Kept g1 g2 (G ++ [(t, cd, f)])) := by
            intro h
            have h2 := kept_more (n := f) HK.out (by omega) (show (grantF ht hv t cd f).2 = true by rw [hg]; exact h)
            rw [(hto h).1, (hto h).2]; exact h2
          have HG := Lib.hid hg
          clear hg HK
          obtain ⟨D, hD⟩ : ∃ D, wr.heap.size = D := ⟨_, rfl⟩
          rw [hD] at hlt5
          have hX : Below D wr (wr.alloc (.cells #[.int .u64 t, .int .i64 cd, .bool f] 32)) := by rw [← hD]; exact (Below.refl _ _).alloc (Nat.le_refl _) _
          have bD : Blk (wr.alloc (.cells #[.int .u64 t, .int .i64 cd, .bool f] 32)) D 32 #[.int .u64 t, .int .i64 cd, .bool f] := by rw [← hD]; exact Blk.alloc_new _ _ _
          have bHX := Blk.below bH hX (by omega)
          have hsX : (wr.alloc (.cells #[.int .u64 t, .int .i64 cd, .bool f] 32)).heap.size = D + 1 := by simp [hD]
          have HOX := owns_below HO.out (by rw [hD]; exact hX)
          have hbX := hb.trans (hX.mono (by omega))
          obtain ⟨x0, x1⟩ := blk2 bHX
          obtain ⟨y0, y1, y2⟩ := blk3 bD
          go_wp2_with fail
          refine (grant_any ht hv t cd f _).mono ?_
          rintro e w1 ⟨he, hb1⟩
          rw [HG.out] at he
          subst he
          simp only [hardA]
          (try simp only [hD])
          have hs1 := hb1.size
          rw [hsX] at hb1 hs1
          have bH1 := Blk.below bHX hb1 (by omega)
          have bD1 := Blk.below bD hb1 (by omega)
          have HO1' := owns_below HOX (by rw [hsX]; exact hb1)
          have hbw1 := hbX.trans (hb1.mono (by omega))
          have hAD : A < D := by omega
          clear x0 x1 y0 y1 y2 e0 e1 e2 bH HO hb hsr hX bD bHX hsX HOX hbX hb1 hD
          obtain ⟨E, hE⟩ : ∃ E, w1.heap.size = E := ⟨_, rfl⟩
          have hX : Below E w1 (w1.alloc (.cells #[.int .u64 g1, .int .i64 g2] 30)) := by rw [← hE]; exact (Below.refl _ _).alloc (Nat.le_refl _) _
          have bE := Blk.alloc_new w1 #[.int .u64 g1, .int .i64 g2] 30
          rw [hE] at bE
          have hsX : (w1.alloc (.cells #[.int .u64 g1, .int .i64 g2] 30)).heap.size = E + 1 := by simp [hE]
          have bH2 := Blk.below bH1 hX (by omega)
          have bD2 := Blk.below bD1 hX (by omega)
          have HO2 := Lib.hid (owns_below HO1' (by rw [hE]; exact hX))
          have hbw2 := hbw1.trans (hX.mono (by omega))
          obtain ⟨x0, x1⟩ := blk2 bH2
          obtain ⟨y0, y1, y2⟩ := blk3 bD2
          obtain ⟨z0, z1⟩ := blk2 bE
          have hDE : D < E := by omega
          have hlow : decide (g1 < ht) = false := by simp; omega
          clear bH1 bD1 HO1' hbw1 hX hs1
          cases ok
          · clear hto HO1 HM
            go_wp2_with fail
            obtain ⟨wb, hwb⟩ : ∃ wb, w1.alloc (.cells #[.int .u64 g1, .int .i64 g2] 30) = wb := ⟨_, rfl⟩
            rw [hwb] at bE hsX bH2 bD2 HO2 hbw2 x0 x1 y0 y1 y2 z0 z1
            (try simp only [hwb])
            (try simp only [hE])
            clear hwb hE
            go_loopw [60] (fun i wj => ∃ j : Nat, i = .int .i64 j ∧ j ≤ G.length ∧ Below (E + 1) wb wj) (fun i _ => G.length - (intOf i).toNat)
            case atStart => exact ⟨0, rfl, Nat.zero_le _, Below.refl _ _⟩
            case round =>
              obtain ⟨j, rfl, hj, hbj⟩ := hrel
              have hsj := hbj.size
              by_cases hjl : (j : Int) < (G.length : Int)
              · have HOj := owns_below HO2.out (by rw [hsX]; exact hbj)
                obtain ⟨g5, rfl⟩ : ∃ g, a5 = some ⟨g, 0, none⟩ := by
                  rcases HOj.2 with ⟨_, h0⟩ | ⟨g, cap, _, hv, _⟩
                  · omega
                  · simp at hv; exact ⟨g, hv.1⟩
                obtain ⟨q0, q1, q2⟩ := asks_get G j (by omega)
                have hcell := HOj.cells (g := g5) rfl
                have p0 := hcell _ _ q0
                have p1 := hcell _ _ q1
                have p2 := hcell _ _ q2
                rw [Aid.add_plain] at p0 p1 p2
                obtain ⟨bt, hbt⟩ : ∃ bt, G[j].1 = bt := ⟨_, rfl⟩
                obtain ⟨bc, hbc⟩ : ∃ bc, G[j].2.1 = bc := ⟨_, rfl⟩
                obtain ⟨bf, hbf⟩ : ∃ bf, G[j].2.2 = bf := ⟨_, rfl⟩
                rw [hbt] at p0
                rw [hbc] at p1
                rw [hbf] at p2
                have bDj := Blk.below bD2 hbj (by omega)
                have hbX : Below (E + 1) wb (wr.alloc (.cells #[.int .u64 bt, .int .i64 bc, .bool bf] 32)) := hbj.alloc (by omega) _
                have bDX := Blk.below bD2 hbX (by omega)
                obtain ⟨r0, r1, r2⟩ := blk3 bDX
                clear hcell HOj q0 q1 q2
                clear hbt hbc hbf
                go_wp2_with fail
                exact ⟨⟨j + 1, by go_num, by omega, hbX⟩, by simp [intOf]; omega⟩
              · have bHj := Blk.below bH2 hbj (by omega)
                have bEj := Blk.below bE hbj (by omega)
                have bDj := Blk.below bD2 hbj (by omega)
                have HOj := owns_below HO2.out (by rw [hsX]; exact hbj)
                have hbwj := hbw2.trans (hbj.mono (by omega))
                obtain ⟨a0, a1⟩ := blk2 bHj
                obtain ⟨c0, c1⟩ := blk2 bEj
                have f0 := Blk.free bHj 0
                have f1 := Blk.free bHj 1
                go_wp2_with fail
                refine ⟨⟨k + 1, G, g1, g2, by go_num, by omega, two_set bHj _ _, ?_, by omega, HN, Below.setCell (Below.setCell hbwj (p := ⟨A, 0, none⟩) (Nat.le_refl _) _) (p := ⟨A, 1, none⟩) (Nat.le_refl _) _, by simp; omega⟩, by simp [intOf]; omega⟩
                exact ownsRow_setCell_below (ownsRow_setCell_below HOj (a := ⟨A, 0, none⟩) (Nat.lt_succ_self _) _) (a := ⟨A, 1, none⟩) (Nat.lt_succ_self _) _
          · obtain ⟨rfl, rfl⟩ := hto rfl
            have HO9 := Lib.hid (HO1.out rfl)
            have HM9 := Lib.hid (HM.out rfl)
            clear hto HO1 HM
            go_wp2_with fail
            obtain ⟨wb, hwb⟩ : ∃ wb, w1.alloc (.cells #[.int .u64 g1, .int .i64 g2] 30) = wb := ⟨_, rfl⟩
            rw [hwb] at bE hsX bH2 bD2 HO2 hbw2 x0 x1 y0 y1 y2 z0 z1
            (try simp only [hwb])
            (try simp only [hE])
            clear hwb hE
            go_loopw [60] (fun i wj => ∃ j : Nat, i = .int .i64 j ∧ j ≤ G.length ∧ Below (E + 1) wb wj) (fun i _ => G.length - (intOf i).toNat)
            case atStart => exact ⟨0, rfl, Nat.zero_le _, Below.refl _ _⟩
            case round =>
              obtain ⟨j, rfl, hj, hbj⟩ := hrel
              have hsj := hbj.size
              by_cases hjl : (j : Int) < (G.length : Int)
              · have HOj := owns_below HO2.out (by rw [hsX]; exact hbj)
                obtain ⟨g5, rfl⟩ : ∃ g, a5 = some ⟨g, 0, none⟩ := by
                  rcases HOj.2 with ⟨_, h0⟩ | ⟨g, cap, _, hv, _⟩
                  · omega
                  · simp at hv; exact ⟨g, hv.1⟩
                obtain ⟨q0, q1, q2⟩ := asks_get G j (by omega)
                have hcell := HOj.cells (g := g5) rfl
                have p0 := hcell _ _ q0
                have p1 := hcell _ _ q1
                have p2 := hcell _ _ q2
                rw [Aid.add_plain] at p0 p1 p2
                obtain ⟨bt, hbt⟩ : ∃ bt, G[j].1 = bt := ⟨_, rfl⟩
                obtain ⟨bc, hbc⟩ : ∃ bc, G[j].2.1 = bc := ⟨_, rfl⟩
                obtain ⟨bf, hbf⟩ : ∃ bf, G[j].2.2 = bf := ⟨_, rfl⟩
                rw [hbt] at p0
                rw [hbc] at p1
                rw [hbf] at p2
                have bDj := Blk.below bD2 hbj (by omega)
                have hbX : Below (E + 1) wb (wr.alloc (.cells #[.int .u64 bt, .int .i64 bc, .bool bf] 32)) := hbj.alloc (by omega) _
                have bDX := Blk.below bD2 hbX (by omega)
                obtain ⟨r0, r1, r2⟩ := blk3 bDX
                clear hcell HOj q0 q1 q2
                have hsame : bt = g1 → bc = g2 := by
                  intro e
                  have := HO9.out _ (List.getElem_mem (show j < G.length by omega)) (by rw [hbt]; exact e)
                  rw [hbc] at this; exact this
                clear hbt hbc hbf
                by_cases heq : bt = g1
                · have hs2 := hsame heq
                  subst heq hs2
                  have z9 : (bc != bc) = false := by simp
                  go_wp2_with fail
                  exact ⟨⟨j + 1, by go_num, by omega, hbX⟩, by simp [intOf]; omega⟩
                · have z8 : (bt == g1) = false := by rw [beq_eq_false_iff_ne]; exact heq
                  go_wp2_with fail
                  exact ⟨⟨j + 1, by go_num, by omega, hbX⟩, by simp [intOf]; omega⟩
              · have bHj := Blk.below bH2 hbj (by omega)
                have bEj := Blk.below bE hbj (by omega)
                have bDj := Blk.below bD2 hbj (by omega)
                have HOj := owns_below HO2.out (by rw [hsX]; exact hbj)
                have hbwj := hbw2.trans (hbj.mono (by omega))
                obtain ⟨c0, c1, c2⟩ := blk3 bDj
                obtain ⟨L, hL⟩ : ∃ L, wr.heap.size = L := ⟨_, rfl⟩
                have hbX : Below L wr (wr.alloc (.cells #[.int .u64 g1, .int .i64 g2, .bool f] 32)) := by rw [← hL]; exact (Below.refl _ _).alloc (Nat.le_refl _) _
                have hownX := owns_below HOj (by rw [hL]; exact hbX)
                have bN := blk3 (Blk.alloc_new wr #[.int .u64 g1, .int .i64 g2, .bool f] 32)
                rw [hL] at bN
                have hsL : (wr.alloc (.cells #[.int .u64 g1, .int .i64 g2, .bool f] 32)).heap.size = L + 1 := by simp [hL]
                have bHX := Blk.below bHj hbX (by omega)
                have bEX := Blk.below bEj hbX (by omega)
                have hbwX := hbwj.trans (hbX.mono (by omega))
                have hbN : ∀ j' (u : Value), [Value.int .u64 g1, .int .i64 g2, .bool f][j']? = some u → (wr.alloc (.cells #[.int .u64 g1, .int .i64 g2, .bool f] 32)).cell? ⟨L, j', none⟩ = some u := by
                  intro j' u hj'
                  match j', hj' with
                  | 0, hj' => simp at hj'; subst hj'; exact bN.1
                  | 1, hj' => simp at hj'; subst hj'; exact bN.2.1
                  | 2, hj' => simp at hj'; subst hj'; exact bN.2.2
                  | j' + 3, hj' => simp at hj'
                have h1N : ∀ u ∈ [Value.int .u64 g1, .int .i64 g2, .bool f], u.oneCell' = true := by
                  intro u hu; simp at hu; rcases hu with rfl | rfl | rfl <;> rfl
                go_wp2_with (first
                  | (at_builtin; refine wpList_pushN _ (by rfl) _ _ 36 rfl (A + 1) 32 ia _ 3 24 Try.underlying36 hia hza hsa hba rfl (by decide) _ _ _ rfl hownX L [.int .u64 g1, .int .i64 g2, .bool f] (by rw [← hL]; rfl) rfl hbN h1N (by unfold maxLen; omega) (by omega) (by omega) ?_; intro v6 w6 hown6 hb6 hg6; obtain ⟨a6, c6, rfl⟩ := owns_formN hown6; have bH6 := Blk.below bHX hb6 (by omega); have hb6' : Below (A + 1) (wr.alloc (.cells #[.int .u64 g1, .int .i64 g2, .bool f] 32)) w6 := hb6; have bE6 : Blk w6 E 30 #[.int .u64 g1, .int .i64 g2] := Blk.grown bEX hg6 (fun q hq => by have := hlt5 q hq; omega); obtain ⟨m0, m1⟩ := blk2 bH6; obtain ⟨n0, n1⟩ := blk2 bE6; have f0 := Blk.free bH6 0; have f1 := Blk.free bH6 1))
                have hsz6 := hb6.size
                refine ⟨⟨k + 1, G ++ [(g1, g2, f)], g1, g2, by go_num, by omega, two_set bH6 _ _, ?_, by simp; omega, HM9, Below.setCell (Below.setCell (hbwX.trans (hb6.mono (by omega))) (p := ⟨A, 0, none⟩) (Nat.le_refl _) _) (p := ⟨A, 1, none⟩) (Nat.le_refl _) _, by simp; omega⟩, by simp [intOf]; omega⟩
                have hown7 : w6.ownsRow (A + 1) 32 3 (.slice a6 (G.length + 1) c6) (G ++ [(g1, g2, f)]).length (asksV (G ++ [(g1, g2, f)])) := by
                  have e1 : asksV (G ++ [(g1, g2, f)]) = asksV G ++ [.int .u64 g1, .int .i64 g2, .bool f] := by simp [asksV, ask3]
                  rw [e1, List.length_append]; exact hown6
                exact ownsRow_setCell_below (ownsRow_setCell_below hown7 (a := ⟨A, 0, none⟩) (Nat.lt_succ_self _) _) (a := ⟨A, 1, none⟩) (Nat.lt_succ_self _) _
      · go_wp2_with fail
        refine (alive_any _).mono ?_
        rintro e w1 ⟨rfl, hb1⟩
        go_wp2_with fail
        go_ret
        exact ⟨rfl, by rw [HA.out]; exact hb.trans (hb1.mono (by omega))⟩
end Go.Proofs.Ytmokfpjiibociaa.R
