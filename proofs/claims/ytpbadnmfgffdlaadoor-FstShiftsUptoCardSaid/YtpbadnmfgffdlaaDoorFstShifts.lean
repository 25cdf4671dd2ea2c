/-
  FstShifts, as a call: it answers true.
-/
import Derived.Test.YtpbadnmfgffdlaaDoorFstShiftM
import Derived.Test.YtpbadnmfgffdlaaDoorFstSameM
namespace Go.Proofs.YtpbadnmfgffdlaaDoor.F
open Go.RowKit Go.Shelf Go.Maps
open Aid L LM
set_option linter.unusedSimpArgs false
set_option linter.unusedVariables false

def rowP (l : List Wd) : List Value := l.flatMap fun x => [.string x.1, .int .i64 x.2]
theorem rowP_at : ∀ (q : List Wd) (j : Nat) (x : Wd), q[j]? = some x → (rowP q)[j * 2]? = some (.string x.1) ∧ (rowP q)[j * 2 + 1]? = some (.int .i64 x.2)
  | [], j, x, h => by simp at h
  | a :: A, 0, x, h => by
    simp at h; subst h
    exact ⟨rfl, rfl⟩
  | a :: A, j + 1, x, h => by
    have := rowP_at A j x (by simpa using h)
    show ([.string a.1, .int .i64 a.2] ++ rowP A)[(j + 1) * 2]? = _ ∧ ([.string a.1, .int .i64 a.2] ++ rowP A)[(j + 1) * 2 + 1]? = _
    rw [List.getElem?_append_right (by simp; omega), List.getElem?_append_right (by simp; omega)]
    have e1 : (j + 1) * 2 - [Value.string a.1, .int .i64 a.2].length = j * 2 := by simp; omega
    have e2 : (j + 1) * 2 + 1 - [Value.string a.1, .int .i64 a.2].length = j * 2 + 1 := by simp; omega
    rw [e1, e2]
    exact this
theorem rowP_snoc (q : List Wd) (x : Wd) : rowP (q ++ [x]) = rowP q ++ [.string x.1, .int .i64 x.2] := by unfold rowP; simp
theorem pairs_own {W : World} {base : Nat} {u : Value} {q : List Wd} (h : W.ownsRow base 40 2 u q.length (rowP q)) (hl : q.length ≤ 140737488355328) (ho : ∀ x ∈ q, (x.1.size : Int) ≤ 35184372088832 ∧ i64 x.2) : PairsIn W u q := by
  rcases h.2 with ⟨rfl, hn⟩ | ⟨g, cap, cur, rfl, hb, hg, hnc, hcm, hcs, htake⟩
  · refine ⟨none, 0, by rw [hn], by omega, by omega, ho, fun j x hj => ?_⟩
    have := (List.getElem?_eq_some_iff.1 hj).1
    omega
  · have hgl : g < W.heap.size := (Array.getElem?_eq_some_iff.1 hg).1
    refine ⟨_, cap, rfl, hl, hnc, ho, fun j x hj => ⟨g, 0, rfl, hgl, ?_, ?_⟩⟩
    · have := h.cells (g := g) rfl (j * 2) _ (rowP_at q j x hj).1
      rw [add_plain] at this
      rw [Nat.zero_add]; exact this
    · have := h.cells (g := g) rfl (j * 2 + 1) _ (rowP_at q j x hj).2
      rw [add_plain] at this
      rw [Nat.zero_add]; exact this
theorem info_pair : ∃ i z, Tryd.prog.info? 40 = some i ∧ i.zero = some z ∧ i.size = 2 ∧ i.bytes = 24 ∧ z.cells.size = 2 := by
  have h : (Tryd.prog.info? 40).map (fun i => (i.zero.map (·.cells.size), i.size, i.bytes)) = some (some 2, 2, 24) := by kernel_rfl
  cases hq : Tryd.prog.info? 40 with
  | none => rw [hq] at h; cases h
  | some i =>
    rw [hq] at h
    simp only [Option.map_some, Option.some.injEq, Prod.mk.injEq] at h
    cases hz : i.zero with
    | none => rw [hz] at h; cases h.1
    | some z =>
      rw [hz] at h
      simp only [Option.map_some, Option.some.injEq] at h
      exact ⟨i, z, rfl, hz, h.2.1, h.2.2, h.1⟩
theorem ArcsAre.fresh {w : World} {v : Value} {q : List ArcM} (h : ArcsAre (fun _ => False) w v q) : ArcsAre (fun x => w.heap.size ≤ x) w v q := by
  obtain ⟨a, cap, rfl, h1, h2, h3⟩ := h
  refine ⟨a, cap, rfl, h1, fun x e => ⟨(h2 x e).1, fun hx => by have := (h2 x e).1; have hx' : w.heap.size ≤ x.block := hx; omega⟩, fun j x hj => ?_⟩
  obtain ⟨g, off, e, hg, _, hc⟩ := h3 j x hj
  exact ⟨g, off, e, hg, fun hx => by have hx' : w.heap.size ≤ g := hx; omega, hc⟩
theorem StatesAre.fresh {w : World} {v : Value} {S : List StM} (h : StatesAre (fun _ => False) w v S) : StatesAre (fun x => w.heap.size ≤ x) w v S := by
  obtain ⟨a, cap, q, rfl, hq, hl, h3⟩ := h
  refine ⟨a, cap, q, rfl, hq, hl, fun j x hj => ?_⟩
  obtain ⟨⟨g, off, e, hg, _, hc⟩, ha⟩ := h3 j x hj
  exact ⟨⟨g, off, e, hg, fun hx => by have hx' : w.heap.size ≤ g := hx; omega, hc⟩, ha.fresh⟩
set_option maxRecDepth 100000 in
set_option maxHeartbeats 4000000 in
theorem shifts_law (v : Value) (l : List Wd) (more : Int) (w : World) (h : PairsIn w v l) (hmore : i64 more) (T : Tab w) : Calls Tryd.prog 9 #[v, .int .i64 more] w fun e w' => e = .returned (.bool true) ∧ Below w.heap.size w w' := by
  have hbuild := build_any v l w h T
  by_cases he : buildE l = 0
  · by_cases hr : 1 ≤ more ∧ more ≤ 1048576
    · obtain ⟨hr1, hr2⟩ := hr
      have hwts : ∀ x ∈ l, 1 ≤ x.2 ∧ x.2 ≤ 1048576 := by
        unfold buildE at he
        split at he
        · omega
        · obtain ⟨_, g2, _⟩ := errF_sorted l none he (by simp)
          exact fun x hx => (g2 x hx).2
      have hl4 : l.length ≤ 4096 := by
        unfold buildE at he
        split at he <;> omega
      unfold BuildIs at hbuild
      rw [build_ok he] at hbuild
      obtain ⟨⟨B, S⟩, hm⟩ : ∃ p, makeF l = p := ⟨_, rfl⟩
      rw [hm] at hbuild
      dsimp only at hbuild
      obtain ⟨av, cv, rfl⟩ := h.slice
      obtain ⟨n, hn⟩ : ∃ n, l.length = n := ⟨_, rfl⟩
      have hok := h.ok
      rw [hn] at h hl4 hbuild ⊢
      have hcap : (n : Int) ≤ (cv : Int) := by obtain ⟨_, _, e, _, h, _⟩ := h; cases e; omega
      have HBD := Lib.hid hbuild
      have HE := Lib.hid he
      have HM := Lib.hid hm
      clear hbuild he hm
      go_enter Tryd.func9, Tryd.ntmps9
      go_upto_region 4 with (go_at_call 13; refine HBD.out.mono ?_; rintro e w2 ⟨sv, rfl, hSt, hb2⟩; obtain ⟨sa, sc, rfl⟩ := hSt.slice)
      obtain ⟨N, hN⟩ : ∃ N, S.length = N := ⟨_, rfl⟩
      rw [hN] at hSt
      try rw [hN]
      obtain ⟨W0, hW0⟩ : ∃ W0, w2.alloc (.cells #[.int .i64 B, .slice sa N sc] 27) = W0 := ⟨_, rfl⟩
      have hb0 : Below w2.heap.size w2 W0 := by rw [← hW0]; exact (Below.refl _ _).alloc (Nat.le_refl _) _
      have bM : Blk W0 w2.heap.size 27 #[.int .i64 B, .slice sa N sc] := by rw [← hW0]; exact Blk.alloc_new _ _ _
      have hSt0 := hSt.fresh.below hb0
      have hbw0 : Below w.heap.size w W0 := hb2.trans (hb0.mono hb2.size)
      obtain ⟨Q, hQ⟩ : ∃ Q, w2.heap.size = Q := ⟨_, rfl⟩
      rw [hQ] at bM
      have hQl := bM.lt
      have HWQ := Lib.hid (show w.heap.size ≤ w2.heap.size from hb2.size)
      have T0 := T.below hbw0
      try rw [hW0]
      try rw [hQ]
      have HT0 := Lib.hid T0
      have HST := Lib.hid hSt0
      have HBW := Lib.hid hbw0
      clear hSt hSt0 hbw0 hb0 T0 hb2
      go_wp2_with fail
      go_loopw [7, 9, 30] (fun x7 x9 x30 wr => ∃ i : Nat, x30 = .int .i64 i ∧ i ≤ n ∧ wr.ownsRow W0.heap.size 40 2 x7 i (rowP (shW more (l.take i))) ∧ (∀ x ∈ l.take i, x.2 + more ≤ 1048576) ∧ Below W0.heap.size W0 wr) (fun _ _ x30 _ => n - (intOf x30).toNat)
      case atStart => exact ⟨0, rfl, Nat.zero_le _, World.ownsRow_nil _ _ _ _, by simp, Below.refl _ _⟩
      case round =>
        obtain ⟨i, rfl, hi, hrow, hle, hb⟩ := hrel
        have hbz := hb.size
        by_cases hlt : (i : Int) < (n : Int)
        · obtain ⟨x, hx⟩ : ∃ x, l[i]? = some x := ⟨_, List.getElem?_eq_getElem (by omega)⟩
          obtain ⟨g, off, rfl, hg, c0, c1⟩ := h.at_ hx
          obtain ⟨hx1, hx2⟩ := hwts x (List.mem_of_getElem? hx)
          obtain ⟨xs, xw⟩ := x
          dsimp only at c0 c1 hx1 hx2
          have hbw := HBW.out.trans (hb.mono HBW.out.size)
          have d0 := (hbw.cell (p := ⟨g, off + i * 2, none⟩) hg).trans c0
          have d1 := (hbw.cell (p := ⟨g, off + i * 2 + 1, none⟩) hg).trans c1
          have hcs := two_cells d0 d1
          have hts := take_snoc hx
          have i0 : (0 : Int) ≤ (i : Int) := by omega
          obtain ⟨K, hK⟩ : ∃ K, wr.heap.size = K := ⟨_, rfl⟩
          obtain ⟨W1, hW1⟩ : ∃ W1, wr.alloc (.cells #[.string xs, .int .i64 xw] 40) = W1 := ⟨_, rfl⟩
          have hb1 : Below wr.heap.size wr W1 := by rw [← hW1]; exact (Below.refl _ _).alloc (Nat.le_refl _) _
          have hz1 : W1.heap.size = K + 1 := by rw [← hW1, ← hK]; simp
          have bK : Blk W1 K 40 #[.string xs, .int .i64 xw] := by rw [← hW1, ← hK]; exact Blk.alloc_new _ _ _
          have p0 : W1.cell? ⟨K, 0, none⟩ = some (.string xs) := (Blk.cell bK 0).trans rfl
          have p1 : W1.cell? ⟨K, 1, none⟩ = some (.int .i64 xw) := (Blk.cell bK 1).trans rfl
          have own1 := owns_below hrow hb1
          have hb01 : Below W0.heap.size W0 W1 := hb.trans (hb1.mono hb.size)
          have HTS := Lib.hid hts
          have HLE := Lib.hid hle
          have HB01 := Lib.hid hb01
          obtain ⟨q0, z0, hi0, hz0, hsz0, hby0, hzs0⟩ := info_pair
          clear hts hle hb hbw c0 c1
          by_cases hg1 : 1048576 - more < xw
          · have T1 := HT0.out.below hb01
            go_wp2_with (go_at_call 12; refine (alive_any _ T1).mono ?_; rintro e w4 ⟨rfl, hb4⟩)
            go_ret
            exact ⟨rfl, HBW.out.trans ((hb01.trans (hb4.mono hb01.size)).mono HBW.out.size)⟩
          · have hz01 := hb01.size
            clear hb01 hz1
            go_wp2_with (at_builtin; (refine wpList_append_own_at _ rfl _ _ 22 rfl W0.heap.size 40 q0 z0 2 24 Tryd.underlying22 hi0 hz0 hsz0 hby0 hzs0 (by decide) _ _ _ rfl (own1.alloc _) ⟨W1.heap.size, 0, none⟩ 1 1 _ rfl rfl (World.news_of_block (Blk.alloc_new _ _ _)) (by intro y hy; simp at hy; rcases hy with rfl | rfl <;> rfl) (by unfold maxLen; omega) (by omega) (by simp; omega) ?_; intro v' w1 hown' hgrow hnil hat))
            have hB1 : Below W0.heap.size W0 w1 := below_grown' (HB01.out.alloc HB01.out.size _) hgrow (by simp; omega) (fun k hk => owns_base own1 k hk)
            refine ⟨⟨i + 1, by first | rfl | congr 1, by omega, ?_, ?_, hB1⟩, ?_⟩
            · rw [HTS.out]
              unfold shW
              rw [List.map_append]
              exact (rowP_snoc _ _).symm ▸ hown'
            · rw [HTS.out]
              intro x hx
              rcases List.mem_append.1 hx with hx | hx
              · exact HLE.out x hx
              · simp only [List.mem_singleton] at hx
                subst hx
                show xw + more ≤ 1048576
                omega
            · simp [intOf]; omega
        · have hin : i = n := by omega
          subst hin
          have htl : l.take i = l := List.take_of_length_le (by omega)
          rw [htl] at hrow hle
          have hE := HE.out
          obtain ⟨e1, e2⟩ := build_shW more (by omega) hE hle
          have hlS : (shW more l).length = i := by unfold shW; rw [List.length_map]; exact hn
          have hPk : PairsIn wr u7 (shW more l) := pairs_own (by rw [hlS]; exact hrow) (by omega) (fun x hx => by
            unfold shW at hx
            obtain ⟨y, hy, rfl⟩ := List.mem_map.1 hx
            have h1 := hwts y hy
            exact ⟨(hok y hy).1, (i64_iff _).2 (by dsimp only; omega)⟩)
          have hTr := HT0.out.below hb
          have hb2 := build_new u7 _ wr hPk hTr
          unfold BuildNew at hb2
          rw [build_ok e1, e2, HM.out] at hb2
          dsimp only at hb2
          obtain ⟨B2, hB2⟩ : ∃ B2, (if l = [] then 0 else B + more) = B2 := ⟨_, rfl⟩
          rw [hB2] at hb2
          have HBD2 := Lib.hid hb2
          have HH2 := Lib.hid hB2
          have hbr := bM.below hb hQl
          have hBb : 0 ≤ B ∧ B ≤ 1048576 := by
            have := HM.out
            unfold makeF at this
            split at this
            · cases this; omega
            · rename_i hne
              obtain ⟨x, hx, e⟩ := low_mem (l := restsF l) (by simpa [restsF] using hne)
              have h3 := (rests_ok hE).wt x hx
              have h4 : low (restsF l) = B := congrArg Prod.fst this
              omega
          have HBR := Lib.hid hb
          have hwB : wrap64 (B + more) = B + more := IntWalk.wrap64_in _ (by omega)
          have HOK := Lib.hid hok
          clear hb2 hB2 hPk hrow hle hE e1 e2 hb hok
          go_upto_region 13 with (go_at_call 13; refine HBD2.out.mono ?_; rintro e w3 ⟨sv2, rfl, hSt2, hb3⟩; obtain ⟨sb, scb, rfl⟩ := hSt2.slice; rw [hN] at hSt2; rw [hN])
          obtain ⟨W5, hW5⟩ : ∃ W5, w3.alloc (.cells #[.int .i64 B2, .slice sb N scb] 27) = W5 := ⟨_, rfl⟩
          obtain ⟨K3, hK3⟩ : ∃ K3, w3.heap.size = K3 := ⟨_, rfl⟩
          have hb5 : Below w3.heap.size w3 W5 := by rw [← hW5]; exact (Below.refl _ _).alloc (Nat.le_refl _) _
          have bK3 : Blk W5 K3 27 #[.int .i64 B2, .slice sb N scb] := by rw [← hW5, ← hK3]; exact Blk.alloc_new _ _ _
          have hbr5 : Below wr.heap.size wr W5 := hb3.trans (hb5.mono hb3.size)
          have hQr : Q < wr.heap.size := by omega
          have bQ5 := hbr.below hbr5 hQr
          have hb05 : Below W0.heap.size W0 W5 := HBR.out.trans (hbr5.mono hbz)
          have hQ3 : Q ≠ K3 := by have := hb3.size; omega
          have hS5 := HST.out.below hb05
          have hS5' := hSt2.below hb5
          have hbw5 : Below w.heap.size w W5 := HBW.out.trans (hb05.mono HBW.out.size)
          have hwQ : w.heap.size ≤ Q := by rw [← hQ]; exact HWQ.out
          try rw [hW5]
          try rw [hK3]
          have HS5 := Lib.hid hS5
          have HS5' := Lib.hid hS5'
          have HBW5 := Lib.hid hbw5
          clear hb5 hbr5 hb05 hSt2 hb3 hS5 hS5' hbw5 hbr
          by_cases hi0 : i = 0
          · have hl0 : l = [] := List.eq_nil_of_length_eq_zero (by omega)
            have hB0 : B = 0 := by
              have h4 := HM.out
              rw [hl0] at h4
              cases h4; rfl
            have hB20 : B2 = 0 := by rw [← HH2.out, if_pos hl0]
            subst hB0 hB20
            have HI0 := Lib.hid hi0
            have hid0 : decide ((0 : Int) < (i : Int)) = false := decide_eq_false (by omega)
            have hid1 : decide (0 < i) = false := decide_eq_false (by omega)
            have T5 := T.below HBW5.out
            clear hi0 hl0
            go_wp2_with (first
              | (go_at_call 15; refine (sameM_eq 0 S _ _ _ (((HS5.out.below hb6).turn (Turn.refl _ _) (fun _ _ h => h.elim))) ((HS5'.out.below hb6).turn (Turn.refl _ _) (fun _ _ h => h.elim))).mono ?_; rintro e w7 ⟨rfl, hb7⟩)
              | (go_at_call 12; refine (alive_any _ T5).mono ?_; rintro e w6 ⟨rfl, hb6⟩; have bQ6 := bQ5.below hb6 bQ5.lt; have bK6 := bK3.below hb6 bK3.lt; have y1 : w6.cell? ⟨Q, 0, none⟩ = some (.int .i64 0) := (Blk.cell bQ6 0).trans rfl; have y2 : w6.cell? ⟨Q, 1, none⟩ = some (.slice sa N sc) := (Blk.cell bQ6 1).trans rfl; have y3 : w6.cell? ⟨K3, 0, none⟩ = some (.int .i64 0) := (Blk.cell bK6 0).trans rfl; have y4 : w6.cell? ⟨K3, 1, none⟩ = some (.slice sb N scb) := (Blk.cell bK6 1).trans rfl))
            go_ret
            exact ⟨rfl, HBW5.out.trans ((hb6.trans (hb7.mono hb6.size)).mono HBW5.out.size)⟩
          · have hl0 : l ≠ [] := fun e => hi0 (by rw [← hn, e]; rfl)
            have hB20 : B2 = B + more := by rw [← HH2.out, if_neg hl0]
            subst hB20
            have HI0 := Lib.hid hi0
            have hid0 : decide ((0 : Int) < (i : Int)) = true := decide_eq_true (by omega)
            have hid1 : decide (0 < i) = true := decide_eq_true (by omega)
            have x0 : W5.cell? ⟨Q, 0, none⟩ = some (.int .i64 B) := (Blk.cell bQ5 0).trans rfl
            have x1 : W5.frozen? ⟨Q, 0, none⟩ = false := Blk.free bQ5 0
            obtain ⟨W6, hW6⟩ : ∃ W6, W5.setCell ⟨Q, 0, none⟩ (.int .i64 (B + more)) = W6 := ⟨_, rfl⟩
            have hTQ : Turn (fun x => x = Q) W5 W6 := by
              rw [← hW6]
              exact ⟨by simp, rfl, rfl, rfl, fun x hx hn => Below.heap_setCell _ _ _ _ (by show x ≠ Q; exact hn)⟩
            have bQ6 : Blk W6 Q 27 #[.int .i64 (B + more), .slice sa N sc] := by rw [← hW6]; exact bQ5.set 0 _
            have bK6 : Blk W6 K3 27 #[.int .i64 (B + more), .slice sb N scb] := hTQ.blk bK3 (by show ¬ K3 = Q; omega)
            have hbw6 : Below w.heap.size w W6 := by rw [← hW6]; exact below_set HBW5.out hwQ
            have hS6 : StatesAre (fun _ => False) W6 (.slice sa N sc) S := HS5.out.turn (hTQ.more (fun x _ h => by have h' : x = Q := h; show w2.heap.size ≤ x; omega)) (fun _ _ h => h.elim)
            have hS6' : StatesAre (fun _ => False) W6 (.slice sb N scb) S := HS5'.out.turn (hTQ.more (fun x _ h => by have h' : x = Q := h; show x < wr.heap.size; omega)) (fun _ _ h => h.elim)
            have T6 := T.below hbw6
            have HS6 := Lib.hid hS6
            have HS6' := Lib.hid hS6'
            have HBW6 := Lib.hid hbw6
            clear hi0 hl0 hS6 hS6' hbw6 hTQ
            go_wp2_with (first
              | (go_at_call 15; refine (sameM_eq (B + more) S _ _ _ (HS6.out.below hb7) (HS6'.out.below hb7)).mono ?_; rintro e w8 ⟨rfl, hb8⟩)
              | (go_at_call 12; refine (alive_any _ T6).mono ?_; rintro e w7 ⟨rfl, hb7⟩; have bQ7 := bQ6.below hb7 bQ6.lt; have bK7 := bK6.below hb7 bK6.lt; have y1 : w7.cell? ⟨Q, 0, none⟩ = some (.int .i64 (B + more)) := (Blk.cell bQ7 0).trans rfl; have y2 : w7.cell? ⟨Q, 1, none⟩ = some (.slice sa N sc) := (Blk.cell bQ7 1).trans rfl; have y3 : w7.cell? ⟨K3, 0, none⟩ = some (.int .i64 (B + more)) := (Blk.cell bK7 0).trans rfl; have y4 : w7.cell? ⟨K3, 1, none⟩ = some (.slice sb N scb) := (Blk.cell bK7 1).trans rfl))
            go_ret
            exact ⟨rfl, HBW6.out.trans ((hb7.trans (hb8.mono hb7.size)).mono HBW6.out.size)⟩
    · unfold BuildIs at hbuild
      rw [build_ok he] at hbuild
      obtain ⟨⟨B, S⟩, hm⟩ : ∃ p, makeF l = p := ⟨_, rfl⟩
      rw [hm] at hbuild
      dsimp only at hbuild
      have HBD := Lib.hid hbuild
      clear hbuild h he hm
      by_cases hm1 : more < 1
      · go_enter Tryd.func9, Tryd.ntmps9
        go_wp2_with (first | (go_at_call 12; refine (alive_any _ (T.below hb3)).mono ?_; rintro e w4 ⟨rfl, hb4⟩) | (go_at_call 13; refine HBD.out.mono ?_; rintro e w2 ⟨sv, rfl, hSt, hb2⟩; obtain ⟨sa, sc, rfl⟩ := hSt.slice; have hb3 := hb2.alloc hb2.size (.cells #[.int .i64 B, .slice sa S.length sc] 27)))
        go_ret
        exact ⟨rfl, hb3.trans (hb4.mono hb3.size)⟩
      · have hm2 : 1048576 < more := by omega
        go_enter Tryd.func9, Tryd.ntmps9
        go_wp2_with (first | (go_at_call 12; refine (alive_any _ (T.below hb3)).mono ?_; rintro e w4 ⟨rfl, hb4⟩) | (go_at_call 13; refine HBD.out.mono ?_; rintro e w2 ⟨sv, rfl, hSt, hb2⟩; obtain ⟨sa, sc, rfl⟩ := hSt.slice; have hb3 := hb2.alloc hb2.size (.cells #[.int .i64 B, .slice sa S.length sc] 27)))
        go_ret
        exact ⟨rfl, hb3.trans (hb4.mono hb3.size)⟩
  · have herr := build_err he
    unfold BuildIs at hbuild
    rw [herr] at hbuild
    dsimp only at hbuild
    obtain ⟨E, hE⟩ : ∃ E, buildE l = E := ⟨_, rfl⟩
    rw [hE] at hbuild he
    have heb : (E == 0) = false := by rw [beq_eq_false_iff_ne]; exact he
    have heb' : (E != 0) = true := by rw [bne_iff_ne]; exact he
    have HBD := Lib.hid hbuild
    clear hbuild h herr
    go_enter Tryd.func9, Tryd.ntmps9
    go_wp2_with (first | (go_at_call 12; refine (alive_any _ (T.below hb3)).mono ?_; rintro e w4 ⟨rfl, hb4⟩) | (go_at_call 13; refine HBD.out.mono ?_; rintro e w2 ⟨sv, rfl, hSt, hb2⟩; obtain ⟨sa, sc, rfl⟩ := hSt.slice; have hb3 := hb2.alloc hb2.size (.cells #[.int .i64 0, .slice sa ([] : List StM).length sc] 27)))
    go_ret
    exact ⟨rfl, hb3.trans (hb4.mono hb3.size)⟩
end Go.Proofs.YtpbadnmfgffdlaaDoor.F
