/-
  WdNw.
-/
import Derived.Test.YtkibkbbjpgomlaaDoorWqWdNwL
import Derived.Test.YtkibkbbjpgomlaaDoorWqWdCl
import Derived.Test.YtkibkbbjpgomlaaDoorWqWdRt0
import Derived.Deep.RegionHeld3
namespace Go.Proofs.YtkibkbbjpgomlaaDoor.F
open Go.RowKit Go.Shelf Go.Maps
open Aid L LM
set_option linter.unusedSimpArgs false
set_option linter.unusedVariables false
attribute [local go_sem] Oper.semAt_some

/-- a walk over a machine, in blocks that O does not name -/
def WalkIs (O : Nat → Prop) (w : World) (P : Nat) (B : Int) (S : List StM) : Prop :=
  P < w.heap.size ∧ ¬ O P ∧ ∃ su wu, Blk w P 72 #[.int .i64 B, su, wu] ∧ StatesAre O w su S ∧ w.ownsRow (P + 1) 3 1 wu S.length (rowN S S.length) ∧ ∀ g, wu.ownBlock = some g → ¬ O g
theorem enumA_snoc_len (f : Nat → List Rw) : ∀ (A : List ArcM) (a : ArcM), (enumA f (A ++ [a])).length = (enumA f A).length + (f a.to_.toNat).length
  | [], a => by simp [enumA]
  | b :: A, a => by rw [List.cons_append, enumA, enumA, List.length_append, List.length_append, enumA_snoc_len f A a]; omega
theorem enumA_take_le (f : Nat → List Rw) (A : List ArcM) : ∀ j, (enumA f (A.take j)).length ≤ (enumA f A).length
  | j => by
    have : ∀ (B C : List ArcM), (enumA f B).length ≤ (enumA f (B ++ C)).length := fun B C => by
      induction C generalizing B with
      | nil => simp
      | cons c C ih =>
        have h1 := ih (B ++ [c])
        rw [enumA_snoc_len, List.append_assoc] at h1
        exact Nat.le_trans (Nat.le_add_right _ _) h1
    have h := this (A.take j) (A.drop j)
    rwa [List.take_append_drop] at h
theorem MachR.ok {B : Int} {S : List StM} (h : MachR B S) {k : Nat} {s : StM} (hs : S[k]? = some s) : (if s.fin then 1 else 0) + (enumA (wordsS S) s.arcs).length ≤ 4096 ∧ (∀ a ∈ s.arcs, 0 ≤ a.to_ ∧ a.to_.toNat < k) ∧ cntS S k = (if s.fin then 1 else 0) + (enumA (wordsS S) s.arcs).length := by
  rcases h with ⟨_, rfl⟩ | h
  · simp at hs
  · have h1 := h.st hs
    have h2 := wordsS_eq h.inv k
    rw [stA_some hs] at h2
    have h3 := congrArg List.length h2
    rw [List.length_append] at h3
    have h4 : (if s.fin then [(([] : List Int), s.out)] else []).length = if s.fin then 1 else 0 := by cases s.fin <;> rfl
    rw [h4] at h3
    exact ⟨by have := h1.words.2; omega, fun a ha => (h1.arcs a ha).1, h3⟩
theorem WalkIs.turn {O O' : Nat → Prop} {w w' : World} {P : Nat} {B : Int} {S : List StM} (h : WalkIs O w P B S) (hT : Turn O w w') (hO : ∀ x, x < w.heap.size → O' x → O x) : WalkIs O' w' P B S := by
  obtain ⟨h1, h2, su, wu, h3, h4, h5, h6⟩ := h
  exact ⟨Nat.lt_of_lt_of_le h1 hT.size, fun e => h2 (hO P h1 e), su, wu, hT.blk h3 h2, h4.turn hT hO, owns_kept h5 (fun x hx => hT.kept x (h5.lt x hx).2 (h6 x hx)), fun g hg e => h6 g hg (hO g (h5.lt g hg).2 e)⟩
def NewEnd (w : World) (B : Int) (S : List StM) (e : Ending) (w' : World) : Prop := ∃ P, e = .returned (.tuple #[.pointer (some ⟨P, 0, none⟩), .bool true]) ∧ WalkIs (fun x => x < w.heap.size) w' P B S ∧ Below w.heap.size w w'
set_option maxRecDepth 100000 in
set_option maxHeartbeats 8000000 in
theorem new_any (B : Int) (sv : Value) (S : List StM) (w : World) (hS : StatesAre (fun _ => False) w sv S) (hM : MachR B S) (T : Tab w) :
    Calls Tryd.prog 8 #[.agg #[.int .i64 B, sv]] w (NewEnd w B S) := by
  obtain ⟨a, cp, rfl⟩ := hS.slice
  have hfew := hM.few
  obtain ⟨N, hN⟩ : ∃ N, S.length = N := ⟨_, rfl⟩
  rw [hN] at hfew ⊢
  obtain ⟨Q, hQ⟩ : ∃ Q, w.heap.size = Q := ⟨_, rfl⟩
  obtain ⟨W1, hW1⟩ : ∃ W1, w.alloc (.cells #[.int .i64 B, .slice a N cp] 25) = W1 := ⟨_, rfl⟩
  have hb1 : Below w.heap.size w W1 := by rw [← hW1]; exact (Below.refl _ _).alloc (Nat.le_refl _) _
  have bM : Blk W1 Q 25 #[.int .i64 B, .slice a N cp] := by rw [← hW1, ← hQ]; exact Blk.alloc_new _ _ _
  have hR := right_all B (.slice a S.length cp) S W1 (hS.below hb1) hM (T.below hb1)
  rw [hN] at hR
  have m0 : W1.cell? ⟨Q, 0, none⟩ = some (.int .i64 B) := (Blk.cell bM 0).trans rfl
  have m1 : W1.cell? ⟨Q, 0 + 1, none⟩ = some (.slice a N cp) := (Blk.cell bM 1).trans rfl
  have mm := two_cells m0 m1
  have HB1 := Lib.hid (And.intro hb1 bM)
  have HR := Lib.hid hR
  have HS := Lib.hid hS
  have HM := Lib.hid (And.intro hM (And.intro hN T))
  clear hb1 bM hR hS hM hN T
  go_enter Tryd.func8, Tryd.ntmps8
  go_wp2_with fail
  refine HR.out.mono ?_
  rintro e w2 ⟨rfl, hb2⟩
  obtain ⟨hb1, bM⟩ := HB1.out
  have bM2 := bM.below hb2 bM.lt
  have hw2 : Below w.heap.size w w2 := hb1.trans (hb2.mono hb1.size)
  have m0 : w2.cell? ⟨Q, 0, none⟩ = some (.int .i64 B) := (Blk.cell bM2 0).trans rfl
  obtain ⟨P, hP⟩ : ∃ P, w2.heap.size = P := ⟨_, rfl⟩
  have hQP : Q ≠ P := by have := bM2.lt; omega
  obtain ⟨W3, hW3⟩ : ∃ W3, w2.alloc (.cells #[.int .i64 B, .slice none 0 0, .slice none 0 0] 72) = W3 := ⟨_, rfl⟩
  have hb3 : Below w2.heap.size w2 W3 := by rw [← hW3]; exact (Below.refl _ _).alloc (Nat.le_refl _) _
  have bP : Blk W3 P 72 #[.int .i64 B, .slice none 0 0, .slice none 0 0] := by rw [← hW3, ← hP]; exact Blk.alloc_new _ _ _
  have m1 : W3.cell? ⟨Q, 1, none⟩ = some (.slice a N cp) := (Blk.cell (bM2.below hb3 bM2.lt) 1).trans rfl
  have hbP := bP.lt
  have hw3 : Below w.heap.size w W3 := hw2.trans (hb3.mono hw2.size)
  have hst : NwLp w W3 P B S (.slice none 0 0) (.slice none 0 0) 0 0 := ⟨⟨[], SUp.nil (by omega) ⟨by omega, by omega, by omega⟩, rfl, fun x hx => by cases hx⟩, World.ownsRow_nil _ _ _ _, (fun g hg => by cases hg), bP, hw3, by have := hw2.size; omega⟩
  have HST := Lib.hid hst
  have HW3 := Lib.hid hW3
  have HP := Lib.hid hP
  clear hb1 bM bM2 hb2 hw2 mm HR HB1 hb3 bP hbP hst hw3 hW3 hP
  go_upto_region 4 with fail
  rw [HW3.out, HP.out]
  go_wp2_with fail
  go_loopw [20] (fun x20 wr => ∃ k : Nat, x20 = .int .i64 k ∧ k ≤ N ∧ Hid (∃ su wu, NwLp w wr P B S su wu k k)) (fun x20 _ => N - (intOf x20).toNat)
  case atStart => exact ⟨0, rfl, Nat.zero_le _, ⟨_, _, HST.out⟩⟩
  case round =>
    clear HST m0 m1
    obtain ⟨w0, hw0⟩ : ∃ w0, w0 = wr := ⟨_, rfl⟩
    subst hw0
    obtain ⟨k, rfl, hk, HL⟩ := hrel
    obtain ⟨su, wu, hL⟩ := HL.out
    have hN' := HM.out.2.1
    obtain ⟨⟨sua, suc, rfl⟩, wua, wuc, rfl⟩ := hL.form (by omega)
    by_cases hlt : (k : Int) < (N : Int)
    · obtain ⟨s, hs⟩ : ∃ s, S[k]? = some s := ⟨_, List.getElem?_eq_getElem (by omega)⟩
      have hSw := HS.out.below hL.bel
      rw [hN'] at hSw
      obtain ⟨g, off, u, rfl, hg, _, c0, c1, c2, hu⟩ := hSw.at_ hs
      have hi0 : (0 : Int) ≤ (k : Int) := by omega
      have hcc := three_cells c0 c1 c2
      obtain ⟨fin, out, A⟩ := s
      obtain ⟨ua, uc, rfl⟩ := hu.slice
      obtain ⟨n, hn⟩ : ∃ n, A.length = n := ⟨_, rfl⟩
      dsimp only at hu c0 c1 c2 hcc
      rw [hn] at hu c2 hcc
      have hn6 : n ≤ 1000000 := by obtain ⟨_, _, _, h, _⟩ := hu; omega
      obtain ⟨X, hX⟩ : ∃ X, w0.heap.size = X := ⟨_, rfl⟩
      obtain ⟨W4, hW4⟩ : ∃ W4, w0.alloc (.cells #[.bool fin, .int .i64 out, .slice ua n uc] 61) = W4 := ⟨_, rfl⟩
      have hb4 : Below w0.heap.size w0 W4 := by rw [← hW4]; exact (Below.refl _ _).alloc (Nat.le_refl _) _
      have bX : Blk W4 X 61 #[.bool fin, .int .i64 out, .slice ua n uc] := by rw [← hW4, ← hX]; exact Blk.alloc_new _ _ _
      have hC := clone_arcs (.slice ua n uc) A W4 (hu.turn (Turn.of_below hb4) (fun _ _ h => h))
      have x2 : W4.cell? ⟨X, 2, none⟩ = some (.slice ua n uc) := (Blk.cell bX 2).trans rfl
      have HC := Lib.hid hC
      have HX := Lib.hid (And.intro hs (And.intro hn (And.intro hb4 bX)))
      have HL1 := Lib.hid hL
      have HW4 := Lib.hid hW4
      have HXx := Lib.hid hX
      clear hL HL hs hSw hu hn hb4 bX hC hN' hW4 hX
      go_upto_region 7 with fail
      rw [HW4.out, HXx.out]
      clear c0 c1 c2 hcc
      go_wp2_with fail
      refine HC.out.mono ?_
      rintro e w5 ⟨u5, rfl, hA5, hb5⟩
      obtain ⟨hs, hn, hb4, bX⟩ := HX.out
      obtain ⟨xa, xc, rfl⟩ := hA5.slice
      rw [hn] at hA5 ⊢
      have bX5 := bX.below hb5 bX.lt
      have x2 : w5.cell? ⟨X, 2, none⟩ = some (.slice ua n uc) := (Blk.cell bX5 2).trans rfl
      have x2f : w5.frozen? ⟨X, 2, none⟩ = false := Blk.free bX5 2
      obtain ⟨W6, hW6⟩ : ∃ W6, w5.setCell ⟨X, 2, none⟩ (.slice xa n xc) = W6 := ⟨_, rfl⟩
      have hT6 : Turn (fun x => x = X) w5 W6 := by rw [← hW6]; exact W.turn_setW w5 X _
      have bX6 : Blk W6 X 61 #[.bool fin, .int .i64 out, .slice xa n xc] := by rw [← hW6]; exact bX5.set 2 _
      have hXlt := bX.lt
      have hA6 : ArcsAre (fun x => x < w0.heap.size) W6 (.slice xa n xc) A := by
        have := hA5.turn (O' := fun x => x < W4.heap.size) (hT6.more (fun x _ h => by have h' : x = X := h; show x < W4.heap.size; omega)) (fun _ _ h => h)
        rw [← hn] at this ⊢
        exact this.turn (Turn.refl _ _) (fun y _ hy => Nat.lt_of_lt_of_le hy hb4.size)
      have hb6 : Below w0.heap.size w0 W6 := below_turn hT6 (fun x h => by have := HXx.out; omega) (hb4.trans (hb5.mono hb4.size)) (Nat.le_refl _)
      have x0 : W6.cell? ⟨X, 0, none⟩ = some (.bool fin) := (Blk.cell bX6 0).trans rfl
      have x26 : W6.cell? ⟨X, 2, none⟩ = some (.slice xa n xc) := (Blk.cell bX6 2).trans rfl
      have HX6 := Lib.hid (And.intro bX6 (And.intro hA6 hb6))
      have HW6 := Lib.hid hW6
      have HSN := Lib.hid (And.intro hs hn)
      clear hs hn hb4 bX bX5 hT6 bX6 hXlt hA6 hb6 hA5 hb5 HX HC hW6
      go_upto_region 8 with fail
      rw [HW6.out]
      clear x2 x2f
      cases fin with
      | true =>
        obtain ⟨sm, hsm⟩ : ∃ sm : Nat → Nat, ∀ j, sm j = 1 + (enumA (wordsS S) (A.take j)).length := ⟨_, fun _ => rfl⟩
        have HSM := Lib.hid hsm
        have hsm0 : ((sm 0 : Nat) : Int) = 1 := by rw [hsm]; rfl
        clear hsm
        go_wp2_with fail
        clear x0 x26
        go_loopw [7, 33] (fun x7 x33 w7 => ∃ j : Nat, x33 = .int .i64 j ∧ j ≤ n ∧ x7 = .int .i64 (sm j) ∧ Below W6.heap.size W6 w7) (fun _ x33 _ => n - (intOf x33).toNat)
        case atStart => exact ⟨0, rfl, Nat.zero_le _, by rw [hsm0], Below.refl _ _⟩
        case round =>
          clear hsm0
          obtain ⟨j, rfl, hj, rfl, hb7⟩ := hrel
          by_cases hlt2 : (j : Int) < (n : Int)
          · obtain ⟨y, hy⟩ : ∃ y, A[j]? = some y := ⟨_, List.getElem?_eq_getElem (by have := HSN.out.2; omega)⟩
            obtain ⟨bX6, hA6, hb6⟩ := HX6.out
            obtain ⟨ga, oa, e, hga, _, hc⟩ := hA6.at_ hy
            subst e
            have hArc := (HM.out.1.ok HSN.out.1).2.1 y (List.mem_of_getElem? hy)
            have hmax := (HM.out.1.ok HSN.out.1).1
            have hsj : sm (j + 1) = sm j + cntS S y.to_.toNat := by
              have h1 := HSM.out (j + 1)
              rw [take_snoc hy, enumA_snoc_len] at h1
              rw [h1, HSM.out j]
              unfold cntS
              omega
            have hle := enumA_take_le (wordsS S) A (j + 1)
            have hs1 := HSM.out (j + 1)
            obtain ⟨la, ou, tt⟩ := y
            dsimp only at hArc hsj
            obtain ⟨t, rfl⟩ : ∃ t : Nat, tt = (t : Int) := ⟨tt.toNat, by omega⟩
            have htk : t < k := by omega
            rw [show ((t : Nat) : Int).toNat = t by omega] at hsj
            have hcnt := owns_below (owns_below HL1.out.cnt hb6) hb7
            obtain ⟨cn, hcn⟩ : ∃ cn, cntS S t = cn := ⟨_, rfl⟩
            have hwu : ∃ gw, wua = some ⟨gw, 0, none⟩ := by
              rcases hcnt.2 with ⟨_, h0⟩ | ⟨g1, cap, cur, e, _⟩
              · omega
              · simp only [Value.slice.injEq] at e
                exact ⟨g1, e.1⟩
            obtain ⟨gw, rfl⟩ := hwu
            have hwc : wr.cell? ⟨gw, t, none⟩ = some (.int .i64 cn) := by
              have := hcnt.cells (g := gw) rfl t _ (rowN_at S htk)
              rw [add_plain, hcn] at this
              exact this
            have hgw := hcnt.lt gw rfl
            have a0 : wr.cell? ⟨ga, oa + j * 3, none⟩ = some (.int .i32 la) := (hb7.cell (p := ⟨ga, oa + j * 3, none⟩) hga).trans (hc 0 (by show 0 < 3; omega))
            have a1 : wr.cell? ⟨ga, oa + j * 3 + 1, none⟩ = some (.int .i64 ou) := (hb7.cell (p := ⟨ga, oa + j * 3 + 1, none⟩) hga).trans (hc 1 (by show 1 < 3; omega))
            have a2 : wr.cell? ⟨ga, oa + j * 3 + 2, none⟩ = some (.int .i64 t) := (hb7.cell (p := ⟨ga, oa + j * 3 + 2, none⟩) hga).trans (hc 2 (by show 2 < 3; omega))
            have hcc := three_cells a0 a1 a2
            obtain ⟨Y, hY⟩ : ∃ Y, wr.heap.size = Y := ⟨_, rfl⟩
            obtain ⟨W7, hW7⟩ : ∃ W7, wr.alloc (.cells #[.int .i32 la, .int .i64 ou, .int .i64 t] 63) = W7 := ⟨_, rfl⟩
            have hb8 : Below wr.heap.size wr W7 := by rw [← hW7]; exact (Below.refl _ _).alloc (Nat.le_refl _) _
            have bY : Blk W7 Y 63 #[.int .i32 la, .int .i64 ou, .int .i64 t] := by rw [← hW7, ← hY]; exact Blk.alloc_new _ _ _
            have y2 : W7.cell? ⟨Y, 2, none⟩ = some (.int .i64 t) := (Blk.cell bY 2).trans rfl
            have bP := HL1.out.blk.below hb6 HL1.out.blk.lt
            have bP7 := (bP.below hb7 bP.lt).below hb8 (bP.below hb7 bP.lt).lt
            have p2 : W7.cell? ⟨P, 2, none⟩ = some (.slice (some ⟨gw, 0, none⟩) k wuc) := (Blk.cell bP7 2).trans rfl
            have w2c : W7.cell? ⟨gw, t, none⟩ = some (.int .i64 cn) := (hb8.cell (p := ⟨gw, t, none⟩) hgw.2).trans hwc
            have hsj' : (sm j : Int) + (cn : Int) = (sm (j + 1) : Int) := by omega
            have hq1 : (sm j : Int) ≤ 4096 := by dsimp only at hmax; first | (rw [if_pos rfl] at hmax; omega) | (rw [if_neg (by simp)] at hmax; omega)
            have hq2 : (cn : Int) ≤ 4096 := by dsimp only at hmax; first | (rw [if_pos rfl] at hmax; omega) | (rw [if_neg (by simp)] at hmax; omega)
            have ht0 : (0 : Int) ≤ (t : Int) := by omega
            have htk' : (t : Int) < (k : Int) := by omega
            have hj0 : (0 : Int) ≤ (j : Int) := by omega
            have HB7 := Lib.hid (hb7.trans (hb8.mono hb7.size))
            have HW7 := Lib.hid hW7
            have HY := Lib.hid hY
            clear hb7 hb8 bY bP bP7 hcnt hgw hwc hmax hle hs1 hArc hsj hc hy hA6 bX6 hb6 hW7 hY hcn
            go_upto_region 14 with fail
            rw [HW7.out, HY.out]
            clear a0 a1 a2 hcc
            go_quiet (fail)
            go_wp2_with fail
            refine ⟨⟨j + 1, by first | rfl | simp, by omega, rfl, below_drewN HB7.out _⟩, ?_⟩
            simp only [intOf]; omega
          · have hjn : j = n := by omega
            subst hjn
            obtain ⟨bX6, hA6, hb6⟩ := HX6.out
            have hkc : (sm j : Nat) = cntS S k := by
              have h1 := (HM.out.1.ok HSN.out.1).2.2
              have h2 := HSM.out j
              rw [List.take_of_length_le (by have := HSN.out.2; omega)] at h2
              rw [h1, h2]
              simp
            obtain ⟨cn, hcn⟩ : ∃ cn, cntS S k = cn := ⟨_, rfl⟩
            rw [hkc, hcn]
            have hb06 : Below w0.heap.size w0 wr.drew := (hb6.trans (hb7.mono hb6.size)).drew
            have hA7 : ArcsAre (fun x => x < w0.heap.size) wr.drew (.slice xa j xc) A := hA6.turn (Turn.of_below hb7.drew) (fun _ _ h => h)
            obtain ⟨a8, c8, W8, hr8, k2, k3, hN9⟩ := HL1.out.state HSN.out.1 (by have := HM.out.2.1; omega) hb06 hA7
            unfold stV at hr8
            have bP := HL1.out.blk.below hb6 HL1.out.blk.lt
            have bPr := bP.below hb7 bP.lt
            have bXr := bX6.below hb7 bX6.lt
            have hb9 : Below wr.heap.size wr (wr.alloc (.cells #[.bool true, .int .i64 out, .slice xa j xc] 61)) := (Below.refl _ _).alloc (Nat.le_refl _) _
            have p1 : wr.drew.cell? ⟨P, 1, none⟩ = some (.slice sua k suc) := (Blk.cell bPr 1).trans rfl
            have p1' : (wr.alloc (.cells #[.bool true, .int .i64 out, .slice xa j xc] 61)).cell? ⟨P, 1, none⟩ = some (.slice sua k suc) := (hb9.cell (p := ⟨P, 1, none⟩) bPr.lt).trans p1
            have z0 : wr.drew.cell? ⟨X, 0, none⟩ = some (.bool true) := (Blk.cell bXr 0).trans rfl
            have z1 : wr.drew.cell? ⟨X, 0 + 1, none⟩ = some (.int .i64 out) := (Blk.cell bXr 1).trans rfl
            have z2 : wr.drew.cell? ⟨X, 0 + 2, none⟩ = some (.slice xa j xc) := (Blk.cell bXr 2).trans rfl
            have zz := three_cells z0 z1 z2
            obtain ⟨W9, hW9⟩ : ∃ W9, W8.setCell ⟨P, 1, none⟩ (.slice a8 (k + 1) c8) = W9 := ⟨_, rfl⟩
            rw [hW9] at hN9
            have HN9 := Lib.hid hN9
            clear bX6 hA6 hb6 hkc hb06 hA7 bP bPr bXr hb9 hN9 hb7
            dsimp only at hr8
            go_wp2_with fail
            refine wp_region_noPanic ?_
            refine wp_region_held_drew (S := fun _ => True) (by kernel_rfl) trivial (fun hHeld => ?_)
            refine wpAnyH_take (i := 0) (v := .pointer (some ⟨P, 0, none⟩)) rfl (by kernel_rfl) (by kernel_rfl) (by kernel_rfl) (fun _ _ _ h => h) (.inl ⟨by rfl, by intro w hSw; go_simp⟩) hHeld ?_
            simp only [Act.put, List.getElem_toArray, List.getElem_cons_succ, List.getElem_cons_zero, List.setIfInBounds_toArray, List.set_cons_zero, List.set_cons_succ]
            refine wpAnyH_take (i := 1) (v := .pointer (some ⟨P, 0, none⟩)) rfl (by kernel_rfl) (by kernel_rfl) (by kernel_rfl) (fun _ _ _ h => h) (.inl ⟨by rfl, by intro w hSw; go_simp⟩) hHeld ?_
            simp only [Act.put, List.getElem_toArray, List.getElem_cons_succ, List.getElem_cons_zero, List.setIfInBounds_toArray, List.set_cons_zero, List.set_cons_succ]
            refine wpAnyH_take (i := 2) (v := .pointer (some ⟨P, 0, none⟩)) rfl (by kernel_rfl) (by kernel_rfl) (by kernel_rfl) (fun _ _ _ h => h) (.inl ⟨by rfl, by intro w hSw; go_simp⟩) hHeld ?_
            simp only [Act.put, List.getElem_toArray, List.getElem_cons_succ, List.getElem_cons_zero, List.setIfInBounds_toArray, List.set_cons_zero, List.set_cons_succ]
            refine wpAnyH_take (i := 3) (v := .pointer (some ⟨P, 1, none⟩)) rfl (by kernel_rfl) (by kernel_rfl) (by kernel_rfl) (fun _ _ _ h => h) (.inl ⟨by rfl, by intro w hSw; go_simp⟩) hHeld ?_
            simp only [Act.put, List.getElem_toArray, List.getElem_cons_succ, List.getElem_cons_zero, List.setIfInBounds_toArray, List.set_cons_zero, List.set_cons_succ]
            refine wpAnyH_ready (rs := [4, 5]) (by kernel_rfl) (by simp) ?_
            refine AllReadyH.cons rfl (fun K hK => ?_) (AllReadyH.cons rfl (fun K hK => ?_) AllReadyH.nil)
            · have hx := p1
              go_simp
              clear hx
              refine hK.out _ _ trivial (fun hHeld => ?_)
              clear hK K
              try simp only [Act.put, List.getElem_toArray, List.getElem_cons_succ, List.getElem_cons_zero, List.setIfInBounds_toArray, List.set_cons_zero, List.set_cons_succ]
              refine wpAnyH_ready (rs := [5]) (by kernel_rfl) (by simp) ?_
              refine AllReadyH.cons rfl (fun K hK => ?_) AllReadyH.nil
              have hx := zz
              go_simp
              clear hx
              refine hK.out _ _ trivial (fun hHeld => ?_)
              clear hK K
              try simp only [Act.put, List.getElem_toArray, List.getElem_cons_succ, List.getElem_cons_zero, List.setIfInBounds_toArray, List.set_cons_zero, List.set_cons_succ]
              refine wpAnyH_ready (rs := [6]) (by kernel_rfl) (by simp) ?_
              refine AllReadyH.cons rfl (fun K hK => ?_) AllReadyH.nil
              go_simp
              refine hK.out _ _ trivial (fun hHeld => ?_)
              clear hK K
              try simp only [Act.put, List.getElem_toArray, List.getElem_cons_succ, List.getElem_cons_zero, List.setIfInBounds_toArray, List.set_cons_zero, List.set_cons_succ]
              refine wpAnyH_ready (rs := [7]) (by kernel_rfl) (by simp) ?_
              refine AllReadyH.cons rfl (fun K hK => ?_) AllReadyH.nil
              rw [if_pos (by rfl)]
              refine wp_append_run _ _ 23 rfl _ _ rfl rfl hr8 ?_
              refine hK.out _ _ trivial (fun hHeld => ?_)
              clear hK K
              try simp only [Act.put, List.getElem_toArray, List.getElem_cons_succ, List.getElem_cons_zero, List.setIfInBounds_toArray, List.set_cons_zero, List.set_cons_succ]
              refine wpAnyH_take (i := 8) (v := .pointer (some ⟨P, 0, none⟩)) rfl (by kernel_rfl) (by kernel_rfl) (by kernel_rfl) (fun _ _ _ h => h) (.inl ⟨by rfl, by intro w hSw; go_simp⟩) hHeld ?_
              simp only [Act.put, List.getElem_toArray, List.getElem_cons_succ, List.getElem_cons_zero, List.setIfInBounds_toArray, List.set_cons_zero, List.set_cons_succ]
              refine wpAnyH_take (i := 9) (v := .pointer (some ⟨P, 1, none⟩)) rfl (by kernel_rfl) (by kernel_rfl) (by kernel_rfl) (fun _ _ _ h => h) (.inl ⟨by rfl, by intro w hSw; go_simp⟩) hHeld ?_
              simp only [Act.put, List.getElem_toArray, List.getElem_cons_succ, List.getElem_cons_zero, List.setIfInBounds_toArray, List.set_cons_zero, List.set_cons_succ]
              refine wpAnyH_ready (rs := [10]) (by kernel_rfl) (by simp) ?_
              refine AllReadyH.cons rfl (fun K hK => ?_) AllReadyH.nil
              go_simp
              refine hK.out _ _ trivial (fun hHeld => ?_)
              clear hK K
              try simp only [Act.put, List.getElem_toArray, List.getElem_cons_succ, List.getElem_cons_zero, List.setIfInBounds_toArray, List.set_cons_zero, List.set_cons_succ]
              refine wpAnyH_done (by kernel_rfl) ?_ _
              refine NoPanic.normal ?_
              try rw [hW9]
              obtain ⟨a9, c9, W10, hr10, j2, j3, hN10⟩ := HN9.out.count (by omega) hcn (Below.refl _ _)
              have q2 : W9.cell? ⟨P, 2, none⟩ = some (.slice wua k wuc) := (Blk.cell HN9.out.blk 2).trans rfl
              obtain ⟨W11, hW11⟩ : ∃ W11, W10.setCell ⟨P, 2, none⟩ (.slice a9 (k + 1) c9) = W11 := ⟨_, rfl⟩
              rw [hW11] at hN10
              have HN10 := Lib.hid hN10
              clear hN10
              go_wp2_with (at_builtin; refine wpList_append_run _ (by rfl) _ _ _ rfl _ _ rfl rfl _ _ hr10 ?_)
              try rw [hW11]
              refine ⟨⟨k + 1, by first | rfl | simp, by omega, ⟨_, _, HN10.out⟩⟩, ?_⟩
              simp only [intOf]; omega
            · have hx := zz
              go_simp
              clear hx
              refine hK.out _ _ trivial (fun hHeld => ?_)
              clear hK K
              try simp only [Act.put, List.getElem_toArray, List.getElem_cons_succ, List.getElem_cons_zero, List.setIfInBounds_toArray, List.set_cons_zero, List.set_cons_succ]
              refine wpAnyH_ready (rs := [4, 6]) (by kernel_rfl) (by simp) ?_
              refine AllReadyH.cons rfl (fun K hK => ?_) (AllReadyH.cons rfl (fun K hK => ?_) AllReadyH.nil)
              · have hx := p1
                go_simp
                clear hx
                refine hK.out _ _ trivial (fun hHeld => ?_)
                clear hK K
                try simp only [Act.put, List.getElem_toArray, List.getElem_cons_succ, List.getElem_cons_zero, List.setIfInBounds_toArray, List.set_cons_zero, List.set_cons_succ]
                refine wpAnyH_ready (rs := [6]) (by kernel_rfl) (by simp) ?_
                refine AllReadyH.cons rfl (fun K hK => ?_) AllReadyH.nil
                go_simp
                refine hK.out _ _ trivial (fun hHeld => ?_)
                clear hK K
                try simp only [Act.put, List.getElem_toArray, List.getElem_cons_succ, List.getElem_cons_zero, List.setIfInBounds_toArray, List.set_cons_zero, List.set_cons_succ]
                refine wpAnyH_ready (rs := [7]) (by kernel_rfl) (by simp) ?_
                refine AllReadyH.cons rfl (fun K hK => ?_) AllReadyH.nil
                rw [if_pos (by rfl)]
                refine wp_append_run _ _ 23 rfl _ _ rfl rfl hr8 ?_
                refine hK.out _ _ trivial (fun hHeld => ?_)
                clear hK K
                try simp only [Act.put, List.getElem_toArray, List.getElem_cons_succ, List.getElem_cons_zero, List.setIfInBounds_toArray, List.set_cons_zero, List.set_cons_succ]
                refine wpAnyH_take (i := 8) (v := .pointer (some ⟨P, 0, none⟩)) rfl (by kernel_rfl) (by kernel_rfl) (by kernel_rfl) (fun _ _ _ h => h) (.inl ⟨by rfl, by intro w hSw; go_simp⟩) hHeld ?_
                simp only [Act.put, List.getElem_toArray, List.getElem_cons_succ, List.getElem_cons_zero, List.setIfInBounds_toArray, List.set_cons_zero, List.set_cons_succ]
                refine wpAnyH_take (i := 9) (v := .pointer (some ⟨P, 1, none⟩)) rfl (by kernel_rfl) (by kernel_rfl) (by kernel_rfl) (fun _ _ _ h => h) (.inl ⟨by rfl, by intro w hSw; go_simp⟩) hHeld ?_
                simp only [Act.put, List.getElem_toArray, List.getElem_cons_succ, List.getElem_cons_zero, List.setIfInBounds_toArray, List.set_cons_zero, List.set_cons_succ]
                refine wpAnyH_ready (rs := [10]) (by kernel_rfl) (by simp) ?_
                refine AllReadyH.cons rfl (fun K hK => ?_) AllReadyH.nil
                go_simp
                refine hK.out _ _ trivial (fun hHeld => ?_)
                clear hK K
                try simp only [Act.put, List.getElem_toArray, List.getElem_cons_succ, List.getElem_cons_zero, List.setIfInBounds_toArray, List.set_cons_zero, List.set_cons_succ]
                refine wpAnyH_done (by kernel_rfl) ?_ _
                refine NoPanic.normal ?_
                try rw [hW9]
                obtain ⟨a9, c9, W10, hr10, j2, j3, hN10⟩ := HN9.out.count (by omega) hcn (Below.refl _ _)
                have q2 : W9.cell? ⟨P, 2, none⟩ = some (.slice wua k wuc) := (Blk.cell HN9.out.blk 2).trans rfl
                obtain ⟨W11, hW11⟩ : ∃ W11, W10.setCell ⟨P, 2, none⟩ (.slice a9 (k + 1) c9) = W11 := ⟨_, rfl⟩
                rw [hW11] at hN10
                have HN10 := Lib.hid hN10
                clear hN10
                go_wp2_with (at_builtin; refine wpList_append_run _ (by rfl) _ _ _ rfl _ _ rfl rfl _ _ hr10 ?_)
                try rw [hW11]
                refine ⟨⟨k + 1, by first | rfl | simp, by omega, ⟨_, _, HN10.out⟩⟩, ?_⟩
                simp only [intOf]; omega
              · go_simp
                refine hK.out _ _ trivial (fun hHeld => ?_)
                clear hK K
                try simp only [Act.put, List.getElem_toArray, List.getElem_cons_succ, List.getElem_cons_zero, List.setIfInBounds_toArray, List.set_cons_zero, List.set_cons_succ]
                refine wpAnyH_ready (rs := [4]) (by kernel_rfl) (by simp) ?_
                refine AllReadyH.cons rfl (fun K hK => ?_) AllReadyH.nil
                have hx := p1'
                go_simp
                clear hx
                refine hK.out _ _ trivial (fun hHeld => ?_)
                clear hK K
                try simp only [Act.put, List.getElem_toArray, List.getElem_cons_succ, List.getElem_cons_zero, List.setIfInBounds_toArray, List.set_cons_zero, List.set_cons_succ]
                refine wpAnyH_ready (rs := [7]) (by kernel_rfl) (by simp) ?_
                refine AllReadyH.cons rfl (fun K hK => ?_) AllReadyH.nil
                rw [if_pos (by rfl)]
                refine wp_append_run _ _ 23 rfl _ _ rfl rfl hr8 ?_
                refine hK.out _ _ trivial (fun hHeld => ?_)
                clear hK K
                try simp only [Act.put, List.getElem_toArray, List.getElem_cons_succ, List.getElem_cons_zero, List.setIfInBounds_toArray, List.set_cons_zero, List.set_cons_succ]
                refine wpAnyH_take (i := 8) (v := .pointer (some ⟨P, 0, none⟩)) rfl (by kernel_rfl) (by kernel_rfl) (by kernel_rfl) (fun _ _ _ h => h) (.inl ⟨by rfl, by intro w hSw; go_simp⟩) hHeld ?_
                simp only [Act.put, List.getElem_toArray, List.getElem_cons_succ, List.getElem_cons_zero, List.setIfInBounds_toArray, List.set_cons_zero, List.set_cons_succ]
                refine wpAnyH_take (i := 9) (v := .pointer (some ⟨P, 1, none⟩)) rfl (by kernel_rfl) (by kernel_rfl) (by kernel_rfl) (fun _ _ _ h => h) (.inl ⟨by rfl, by intro w hSw; go_simp⟩) hHeld ?_
                simp only [Act.put, List.getElem_toArray, List.getElem_cons_succ, List.getElem_cons_zero, List.setIfInBounds_toArray, List.set_cons_zero, List.set_cons_succ]
                refine wpAnyH_ready (rs := [10]) (by kernel_rfl) (by simp) ?_
                refine AllReadyH.cons rfl (fun K hK => ?_) AllReadyH.nil
                go_simp
                refine hK.out _ _ trivial (fun hHeld => ?_)
                clear hK K
                try simp only [Act.put, List.getElem_toArray, List.getElem_cons_succ, List.getElem_cons_zero, List.setIfInBounds_toArray, List.set_cons_zero, List.set_cons_succ]
                refine wpAnyH_done (by kernel_rfl) ?_ _
                refine NoPanic.normal ?_
                try rw [hW9]
                obtain ⟨a9, c9, W10, hr10, j2, j3, hN10⟩ := HN9.out.count (by omega) hcn (Below.refl _ _)
                have q2 : W9.cell? ⟨P, 2, none⟩ = some (.slice wua k wuc) := (Blk.cell HN9.out.blk 2).trans rfl
                obtain ⟨W11, hW11⟩ : ∃ W11, W10.setCell ⟨P, 2, none⟩ (.slice a9 (k + 1) c9) = W11 := ⟨_, rfl⟩
                rw [hW11] at hN10
                have HN10 := Lib.hid hN10
                clear hN10
                go_wp2_with (at_builtin; refine wpList_append_run _ (by rfl) _ _ _ rfl _ _ rfl rfl _ _ hr10 ?_)
                try rw [hW11]
                refine ⟨⟨k + 1, by first | rfl | simp, by omega, ⟨_, _, HN10.out⟩⟩, ?_⟩
                simp only [intOf]; omega
      | false =>
        obtain ⟨sm, hsm⟩ : ∃ sm : Nat → Nat, ∀ j, sm j = 0 + (enumA (wordsS S) (A.take j)).length := ⟨_, fun _ => rfl⟩
        have HSM := Lib.hid hsm
        have hsm0 : ((sm 0 : Nat) : Int) = 0 := by rw [hsm]; rfl
        clear hsm
        go_wp2_with fail
        clear x0 x26
        go_loopw [7, 33] (fun x7 x33 w7 => ∃ j : Nat, x33 = .int .i64 j ∧ j ≤ n ∧ x7 = .int .i64 (sm j) ∧ Below W6.heap.size W6 w7) (fun _ x33 _ => n - (intOf x33).toNat)
        case atStart => exact ⟨0, rfl, Nat.zero_le _, by rw [hsm0], Below.refl _ _⟩
        case round =>
          clear hsm0
          obtain ⟨j, rfl, hj, rfl, hb7⟩ := hrel
          by_cases hlt2 : (j : Int) < (n : Int)
          · obtain ⟨y, hy⟩ : ∃ y, A[j]? = some y := ⟨_, List.getElem?_eq_getElem (by have := HSN.out.2; omega)⟩
            obtain ⟨bX6, hA6, hb6⟩ := HX6.out
            obtain ⟨ga, oa, e, hga, _, hc⟩ := hA6.at_ hy
            subst e
            have hArc := (HM.out.1.ok HSN.out.1).2.1 y (List.mem_of_getElem? hy)
            have hmax := (HM.out.1.ok HSN.out.1).1
            have hsj : sm (j + 1) = sm j + cntS S y.to_.toNat := by
              have h1 := HSM.out (j + 1)
              rw [take_snoc hy, enumA_snoc_len] at h1
              rw [h1, HSM.out j]
              unfold cntS
              omega
            have hle := enumA_take_le (wordsS S) A (j + 1)
            have hs1 := HSM.out (j + 1)
            obtain ⟨la, ou, tt⟩ := y
            dsimp only at hArc hsj
            obtain ⟨t, rfl⟩ : ∃ t : Nat, tt = (t : Int) := ⟨tt.toNat, by omega⟩
            have htk : t < k := by omega
            rw [show ((t : Nat) : Int).toNat = t by omega] at hsj
            have hcnt := owns_below (owns_below HL1.out.cnt hb6) hb7
            obtain ⟨cn, hcn⟩ : ∃ cn, cntS S t = cn := ⟨_, rfl⟩
            have hwu : ∃ gw, wua = some ⟨gw, 0, none⟩ := by
              rcases hcnt.2 with ⟨_, h0⟩ | ⟨g1, cap, cur, e, _⟩
              · omega
              · simp only [Value.slice.injEq] at e
                exact ⟨g1, e.1⟩
            obtain ⟨gw, rfl⟩ := hwu
            have hwc : wr.cell? ⟨gw, t, none⟩ = some (.int .i64 cn) := by
              have := hcnt.cells (g := gw) rfl t _ (rowN_at S htk)
              rw [add_plain, hcn] at this
              exact this
            have hgw := hcnt.lt gw rfl
            have a0 : wr.cell? ⟨ga, oa + j * 3, none⟩ = some (.int .i32 la) := (hb7.cell (p := ⟨ga, oa + j * 3, none⟩) hga).trans (hc 0 (by show 0 < 3; omega))
            have a1 : wr.cell? ⟨ga, oa + j * 3 + 1, none⟩ = some (.int .i64 ou) := (hb7.cell (p := ⟨ga, oa + j * 3 + 1, none⟩) hga).trans (hc 1 (by show 1 < 3; omega))
            have a2 : wr.cell? ⟨ga, oa + j * 3 + 2, none⟩ = some (.int .i64 t) := (hb7.cell (p := ⟨ga, oa + j * 3 + 2, none⟩) hga).trans (hc 2 (by show 2 < 3; omega))
            have hcc := three_cells a0 a1 a2
            obtain ⟨Y, hY⟩ : ∃ Y, wr.heap.size = Y := ⟨_, rfl⟩
            obtain ⟨W7, hW7⟩ : ∃ W7, wr.alloc (.cells #[.int .i32 la, .int .i64 ou, .int .i64 t] 63) = W7 := ⟨_, rfl⟩
            have hb8 : Below wr.heap.size wr W7 := by rw [← hW7]; exact (Below.refl _ _).alloc (Nat.le_refl _) _
            have bY : Blk W7 Y 63 #[.int .i32 la, .int .i64 ou, .int .i64 t] := by rw [← hW7, ← hY]; exact Blk.alloc_new _ _ _
            have y2 : W7.cell? ⟨Y, 2, none⟩ = some (.int .i64 t) := (Blk.cell bY 2).trans rfl
            have bP := HL1.out.blk.below hb6 HL1.out.blk.lt
            have bP7 := (bP.below hb7 bP.lt).below hb8 (bP.below hb7 bP.lt).lt
            have p2 : W7.cell? ⟨P, 2, none⟩ = some (.slice (some ⟨gw, 0, none⟩) k wuc) := (Blk.cell bP7 2).trans rfl
            have w2c : W7.cell? ⟨gw, t, none⟩ = some (.int .i64 cn) := (hb8.cell (p := ⟨gw, t, none⟩) hgw.2).trans hwc
            have hsj' : (sm j : Int) + (cn : Int) = (sm (j + 1) : Int) := by omega
            have hq1 : (sm j : Int) ≤ 4096 := by dsimp only at hmax; first | (rw [if_pos rfl] at hmax; omega) | (rw [if_neg (by simp)] at hmax; omega)
            have hq2 : (cn : Int) ≤ 4096 := by dsimp only at hmax; first | (rw [if_pos rfl] at hmax; omega) | (rw [if_neg (by simp)] at hmax; omega)
            have ht0 : (0 : Int) ≤ (t : Int) := by omega
            have htk' : (t : Int) < (k : Int) := by omega
            have hj0 : (0 : Int) ≤ (j : Int) := by omega
            have HB7 := Lib.hid (hb7.trans (hb8.mono hb7.size))
            have HW7 := Lib.hid hW7
            have HY := Lib.hid hY
            clear hb7 hb8 bY bP bP7 hcnt hgw hwc hmax hle hs1 hArc hsj hc hy hA6 bX6 hb6 hW7 hY hcn
            go_upto_region 14 with fail
            rw [HW7.out, HY.out]
            clear a0 a1 a2 hcc
            go_quiet (fail)
            go_wp2_with fail
            refine ⟨⟨j + 1, by first | rfl | simp, by omega, rfl, below_drewN HB7.out _⟩, ?_⟩
            simp only [intOf]; omega
          · have hjn : j = n := by omega
            subst hjn
            obtain ⟨bX6, hA6, hb6⟩ := HX6.out
            have hkc : (sm j : Nat) = cntS S k := by
              have h1 := (HM.out.1.ok HSN.out.1).2.2
              have h2 := HSM.out j
              rw [List.take_of_length_le (by have := HSN.out.2; omega)] at h2
              rw [h1, h2]
              simp
            obtain ⟨cn, hcn⟩ : ∃ cn, cntS S k = cn := ⟨_, rfl⟩
            rw [hkc, hcn]
            have hb06 : Below w0.heap.size w0 wr.drew := (hb6.trans (hb7.mono hb6.size)).drew
            have hA7 : ArcsAre (fun x => x < w0.heap.size) wr.drew (.slice xa j xc) A := hA6.turn (Turn.of_below hb7.drew) (fun _ _ h => h)
            obtain ⟨a8, c8, W8, hr8, k2, k3, hN9⟩ := HL1.out.state HSN.out.1 (by have := HM.out.2.1; omega) hb06 hA7
            unfold stV at hr8
            have bP := HL1.out.blk.below hb6 HL1.out.blk.lt
            have bPr := bP.below hb7 bP.lt
            have bXr := bX6.below hb7 bX6.lt
            have hb9 : Below wr.heap.size wr (wr.alloc (.cells #[.bool false, .int .i64 out, .slice xa j xc] 61)) := (Below.refl _ _).alloc (Nat.le_refl _) _
            have p1 : wr.drew.cell? ⟨P, 1, none⟩ = some (.slice sua k suc) := (Blk.cell bPr 1).trans rfl
            have p1' : (wr.alloc (.cells #[.bool false, .int .i64 out, .slice xa j xc] 61)).cell? ⟨P, 1, none⟩ = some (.slice sua k suc) := (hb9.cell (p := ⟨P, 1, none⟩) bPr.lt).trans p1
            have z0 : wr.drew.cell? ⟨X, 0, none⟩ = some (.bool false) := (Blk.cell bXr 0).trans rfl
            have z1 : wr.drew.cell? ⟨X, 0 + 1, none⟩ = some (.int .i64 out) := (Blk.cell bXr 1).trans rfl
            have z2 : wr.drew.cell? ⟨X, 0 + 2, none⟩ = some (.slice xa j xc) := (Blk.cell bXr 2).trans rfl
            have zz := three_cells z0 z1 z2
            obtain ⟨W9, hW9⟩ : ∃ W9, W8.setCell ⟨P, 1, none⟩ (.slice a8 (k + 1) c8) = W9 := ⟨_, rfl⟩
            rw [hW9] at hN9
            have HN9 := Lib.hid hN9
            clear bX6 hA6 hb6 hkc hb06 hA7 bP bPr bXr hb9 hN9 hb7
            dsimp only at hr8
            go_wp2_with fail
            refine wp_region_noPanic ?_
            refine wp_region_held_drew (S := fun _ => True) (by kernel_rfl) trivial (fun hHeld => ?_)
            refine wpAnyH_take (i := 0) (v := .pointer (some ⟨P, 0, none⟩)) rfl (by kernel_rfl) (by kernel_rfl) (by kernel_rfl) (fun _ _ _ h => h) (.inl ⟨by rfl, by intro w hSw; go_simp⟩) hHeld ?_
            simp only [Act.put, List.getElem_toArray, List.getElem_cons_succ, List.getElem_cons_zero, List.setIfInBounds_toArray, List.set_cons_zero, List.set_cons_succ]
            refine wpAnyH_take (i := 1) (v := .pointer (some ⟨P, 0, none⟩)) rfl (by kernel_rfl) (by kernel_rfl) (by kernel_rfl) (fun _ _ _ h => h) (.inl ⟨by rfl, by intro w hSw; go_simp⟩) hHeld ?_
            simp only [Act.put, List.getElem_toArray, List.getElem_cons_succ, List.getElem_cons_zero, List.setIfInBounds_toArray, List.set_cons_zero, List.set_cons_succ]
            refine wpAnyH_take (i := 2) (v := .pointer (some ⟨P, 0, none⟩)) rfl (by kernel_rfl) (by kernel_rfl) (by kernel_rfl) (fun _ _ _ h => h) (.inl ⟨by rfl, by intro w hSw; go_simp⟩) hHeld ?_
            simp only [Act.put, List.getElem_toArray, List.getElem_cons_succ, List.getElem_cons_zero, List.setIfInBounds_toArray, List.set_cons_zero, List.set_cons_succ]
            refine wpAnyH_take (i := 3) (v := .pointer (some ⟨P, 1, none⟩)) rfl (by kernel_rfl) (by kernel_rfl) (by kernel_rfl) (fun _ _ _ h => h) (.inl ⟨by rfl, by intro w hSw; go_simp⟩) hHeld ?_
            simp only [Act.put, List.getElem_toArray, List.getElem_cons_succ, List.getElem_cons_zero, List.setIfInBounds_toArray, List.set_cons_zero, List.set_cons_succ]
            refine wpAnyH_ready (rs := [4, 5]) (by kernel_rfl) (by simp) ?_
            refine AllReadyH.cons rfl (fun K hK => ?_) (AllReadyH.cons rfl (fun K hK => ?_) AllReadyH.nil)
            · have hx := p1
              go_simp
              clear hx
              refine hK.out _ _ trivial (fun hHeld => ?_)
              clear hK K
              try simp only [Act.put, List.getElem_toArray, List.getElem_cons_succ, List.getElem_cons_zero, List.setIfInBounds_toArray, List.set_cons_zero, List.set_cons_succ]
              refine wpAnyH_ready (rs := [5]) (by kernel_rfl) (by simp) ?_
              refine AllReadyH.cons rfl (fun K hK => ?_) AllReadyH.nil
              have hx := zz
              go_simp
              clear hx
              refine hK.out _ _ trivial (fun hHeld => ?_)
              clear hK K
              try simp only [Act.put, List.getElem_toArray, List.getElem_cons_succ, List.getElem_cons_zero, List.setIfInBounds_toArray, List.set_cons_zero, List.set_cons_succ]
              refine wpAnyH_ready (rs := [6]) (by kernel_rfl) (by simp) ?_
              refine AllReadyH.cons rfl (fun K hK => ?_) AllReadyH.nil
              go_simp
              refine hK.out _ _ trivial (fun hHeld => ?_)
              clear hK K
              try simp only [Act.put, List.getElem_toArray, List.getElem_cons_succ, List.getElem_cons_zero, List.setIfInBounds_toArray, List.set_cons_zero, List.set_cons_succ]
              refine wpAnyH_ready (rs := [7]) (by kernel_rfl) (by simp) ?_
              refine AllReadyH.cons rfl (fun K hK => ?_) AllReadyH.nil
              rw [if_pos (by rfl)]
              refine wp_append_run _ _ 23 rfl _ _ rfl rfl hr8 ?_
              refine hK.out _ _ trivial (fun hHeld => ?_)
              clear hK K
              try simp only [Act.put, List.getElem_toArray, List.getElem_cons_succ, List.getElem_cons_zero, List.setIfInBounds_toArray, List.set_cons_zero, List.set_cons_succ]
              refine wpAnyH_take (i := 8) (v := .pointer (some ⟨P, 0, none⟩)) rfl (by kernel_rfl) (by kernel_rfl) (by kernel_rfl) (fun _ _ _ h => h) (.inl ⟨by rfl, by intro w hSw; go_simp⟩) hHeld ?_
              simp only [Act.put, List.getElem_toArray, List.getElem_cons_succ, List.getElem_cons_zero, List.setIfInBounds_toArray, List.set_cons_zero, List.set_cons_succ]
              refine wpAnyH_take (i := 9) (v := .pointer (some ⟨P, 1, none⟩)) rfl (by kernel_rfl) (by kernel_rfl) (by kernel_rfl) (fun _ _ _ h => h) (.inl ⟨by rfl, by intro w hSw; go_simp⟩) hHeld ?_
              simp only [Act.put, List.getElem_toArray, List.getElem_cons_succ, List.getElem_cons_zero, List.setIfInBounds_toArray, List.set_cons_zero, List.set_cons_succ]
              refine wpAnyH_ready (rs := [10]) (by kernel_rfl) (by simp) ?_
              refine AllReadyH.cons rfl (fun K hK => ?_) AllReadyH.nil
              go_simp
              refine hK.out _ _ trivial (fun hHeld => ?_)
              clear hK K
              try simp only [Act.put, List.getElem_toArray, List.getElem_cons_succ, List.getElem_cons_zero, List.setIfInBounds_toArray, List.set_cons_zero, List.set_cons_succ]
              refine wpAnyH_done (by kernel_rfl) ?_ _
              refine NoPanic.normal ?_
              try rw [hW9]
              obtain ⟨a9, c9, W10, hr10, j2, j3, hN10⟩ := HN9.out.count (by omega) hcn (Below.refl _ _)
              have q2 : W9.cell? ⟨P, 2, none⟩ = some (.slice wua k wuc) := (Blk.cell HN9.out.blk 2).trans rfl
              obtain ⟨W11, hW11⟩ : ∃ W11, W10.setCell ⟨P, 2, none⟩ (.slice a9 (k + 1) c9) = W11 := ⟨_, rfl⟩
              rw [hW11] at hN10
              have HN10 := Lib.hid hN10
              clear hN10
              go_wp2_with (at_builtin; refine wpList_append_run _ (by rfl) _ _ _ rfl _ _ rfl rfl _ _ hr10 ?_)
              try rw [hW11]
              refine ⟨⟨k + 1, by first | rfl | simp, by omega, ⟨_, _, HN10.out⟩⟩, ?_⟩
              simp only [intOf]; omega
            · have hx := zz
              go_simp
              clear hx
              refine hK.out _ _ trivial (fun hHeld => ?_)
              clear hK K
              try simp only [Act.put, List.getElem_toArray, List.getElem_cons_succ, List.getElem_cons_zero, List.setIfInBounds_toArray, List.set_cons_zero, List.set_cons_succ]
              refine wpAnyH_ready (rs := [4, 6]) (by kernel_rfl) (by simp) ?_
              refine AllReadyH.cons rfl (fun K hK => ?_) (AllReadyH.cons rfl (fun K hK => ?_) AllReadyH.nil)
              · have hx := p1
                go_simp
                clear hx
                refine hK.out _ _ trivial (fun hHeld => ?_)
                clear hK K
                try simp only [Act.put, List.getElem_toArray, List.getElem_cons_succ, List.getElem_cons_zero, List.setIfInBounds_toArray, List.set_cons_zero, List.set_cons_succ]
                refine wpAnyH_ready (rs := [6]) (by kernel_rfl) (by simp) ?_
                refine AllReadyH.cons rfl (fun K hK => ?_) AllReadyH.nil
                go_simp
                refine hK.out _ _ trivial (fun hHeld => ?_)
                clear hK K
                try simp only [Act.put, List.getElem_toArray, List.getElem_cons_succ, List.getElem_cons_zero, List.setIfInBounds_toArray, List.set_cons_zero, List.set_cons_succ]
                refine wpAnyH_ready (rs := [7]) (by kernel_rfl) (by simp) ?_
                refine AllReadyH.cons rfl (fun K hK => ?_) AllReadyH.nil
                rw [if_pos (by rfl)]
                refine wp_append_run _ _ 23 rfl _ _ rfl rfl hr8 ?_
                refine hK.out _ _ trivial (fun hHeld => ?_)
                clear hK K
                try simp only [Act.put, List.getElem_toArray, List.getElem_cons_succ, List.getElem_cons_zero, List.setIfInBounds_toArray, List.set_cons_zero, List.set_cons_succ]
                refine wpAnyH_take (i := 8) (v := .pointer (some ⟨P, 0, none⟩)) rfl (by kernel_rfl) (by kernel_rfl) (by kernel_rfl) (fun _ _ _ h => h) (.inl ⟨by rfl, by intro w hSw; go_simp⟩) hHeld ?_
                simp only [Act.put, List.getElem_toArray, List.getElem_cons_succ, List.getElem_cons_zero, List.setIfInBounds_toArray, List.set_cons_zero, List.set_cons_succ]
                refine wpAnyH_take (i := 9) (v := .pointer (some ⟨P, 1, none⟩)) rfl (by kernel_rfl) (by kernel_rfl) (by kernel_rfl) (fun _ _ _ h => h) (.inl ⟨by rfl, by intro w hSw; go_simp⟩) hHeld ?_
                simp only [Act.put, List.getElem_toArray, List.getElem_cons_succ, List.getElem_cons_zero, List.setIfInBounds_toArray, List.set_cons_zero, List.set_cons_succ]
                refine wpAnyH_ready (rs := [10]) (by kernel_rfl) (by simp) ?_
                refine AllReadyH.cons rfl (fun K hK => ?_) AllReadyH.nil
                go_simp
                refine hK.out _ _ trivial (fun hHeld => ?_)
                clear hK K
                try simp only [Act.put, List.getElem_toArray, List.getElem_cons_succ, List.getElem_cons_zero, List.setIfInBounds_toArray, List.set_cons_zero, List.set_cons_succ]
                refine wpAnyH_done (by kernel_rfl) ?_ _
                refine NoPanic.normal ?_
                try rw [hW9]
                obtain ⟨a9, c9, W10, hr10, j2, j3, hN10⟩ := HN9.out.count (by omega) hcn (Below.refl _ _)
                have q2 : W9.cell? ⟨P, 2, none⟩ = some (.slice wua k wuc) := (Blk.cell HN9.out.blk 2).trans rfl
                obtain ⟨W11, hW11⟩ : ∃ W11, W10.setCell ⟨P, 2, none⟩ (.slice a9 (k + 1) c9) = W11 := ⟨_, rfl⟩
                rw [hW11] at hN10
                have HN10 := Lib.hid hN10
                clear hN10
                go_wp2_with (at_builtin; refine wpList_append_run _ (by rfl) _ _ _ rfl _ _ rfl rfl _ _ hr10 ?_)
                try rw [hW11]
                refine ⟨⟨k + 1, by first | rfl | simp, by omega, ⟨_, _, HN10.out⟩⟩, ?_⟩
                simp only [intOf]; omega
              · go_simp
                refine hK.out _ _ trivial (fun hHeld => ?_)
                clear hK K
                try simp only [Act.put, List.getElem_toArray, List.getElem_cons_succ, List.getElem_cons_zero, List.setIfInBounds_toArray, List.set_cons_zero, List.set_cons_succ]
                refine wpAnyH_ready (rs := [4]) (by kernel_rfl) (by simp) ?_
                refine AllReadyH.cons rfl (fun K hK => ?_) AllReadyH.nil
                have hx := p1'
                go_simp
                clear hx
                refine hK.out _ _ trivial (fun hHeld => ?_)
                clear hK K
                try simp only [Act.put, List.getElem_toArray, List.getElem_cons_succ, List.getElem_cons_zero, List.setIfInBounds_toArray, List.set_cons_zero, List.set_cons_succ]
                refine wpAnyH_ready (rs := [7]) (by kernel_rfl) (by simp) ?_
                refine AllReadyH.cons rfl (fun K hK => ?_) AllReadyH.nil
                rw [if_pos (by rfl)]
                refine wp_append_run _ _ 23 rfl _ _ rfl rfl hr8 ?_
                refine hK.out _ _ trivial (fun hHeld => ?_)
                clear hK K
                try simp only [Act.put, List.getElem_toArray, List.getElem_cons_succ, List.getElem_cons_zero, List.setIfInBounds_toArray, List.set_cons_zero, List.set_cons_succ]
                refine wpAnyH_take (i := 8) (v := .pointer (some ⟨P, 0, none⟩)) rfl (by kernel_rfl) (by kernel_rfl) (by kernel_rfl) (fun _ _ _ h => h) (.inl ⟨by rfl, by intro w hSw; go_simp⟩) hHeld ?_
                simp only [Act.put, List.getElem_toArray, List.getElem_cons_succ, List.getElem_cons_zero, List.setIfInBounds_toArray, List.set_cons_zero, List.set_cons_succ]
                refine wpAnyH_take (i := 9) (v := .pointer (some ⟨P, 1, none⟩)) rfl (by kernel_rfl) (by kernel_rfl) (by kernel_rfl) (fun _ _ _ h => h) (.inl ⟨by rfl, by intro w hSw; go_simp⟩) hHeld ?_
                simp only [Act.put, List.getElem_toArray, List.getElem_cons_succ, List.getElem_cons_zero, List.setIfInBounds_toArray, List.set_cons_zero, List.set_cons_succ]
                refine wpAnyH_ready (rs := [10]) (by kernel_rfl) (by simp) ?_
                refine AllReadyH.cons rfl (fun K hK => ?_) AllReadyH.nil
                go_simp
                refine hK.out _ _ trivial (fun hHeld => ?_)
                clear hK K
                try simp only [Act.put, List.getElem_toArray, List.getElem_cons_succ, List.getElem_cons_zero, List.setIfInBounds_toArray, List.set_cons_zero, List.set_cons_succ]
                refine wpAnyH_done (by kernel_rfl) ?_ _
                refine NoPanic.normal ?_
                try rw [hW9]
                obtain ⟨a9, c9, W10, hr10, j2, j3, hN10⟩ := HN9.out.count (by omega) hcn (Below.refl _ _)
                have q2 : W9.cell? ⟨P, 2, none⟩ = some (.slice wua k wuc) := (Blk.cell HN9.out.blk 2).trans rfl
                obtain ⟨W11, hW11⟩ : ∃ W11, W10.setCell ⟨P, 2, none⟩ (.slice a9 (k + 1) c9) = W11 := ⟨_, rfl⟩
                rw [hW11] at hN10
                have HN10 := Lib.hid hN10
                clear hN10
                go_wp2_with (at_builtin; refine wpList_append_run _ (by rfl) _ _ _ rfl _ _ rfl rfl _ _ hr10 ?_)
                try rw [hW11]
                refine ⟨⟨k + 1, by first | rfl | simp, by omega, ⟨_, _, HN10.out⟩⟩, ?_⟩
                simp only [intOf]; omega
    · have hkN : k = N := by omega
      subst hkN
      have HL1 := Lib.hid hL
      clear hL HL
      go_wp2_with fail
      go_ret2
      have hL := HL1.out
      obtain ⟨q, h1, h2, h3⟩ := hL.row
      have htk : S.take k = S := List.take_of_length_le (by omega)
      rw [htk] at h2
      have hlt := hL.lt
      have hSS := h1.states (by have := congrArg List.length h2; rw [List.length_map] at this; omega)
      rw [h2] at hSS
      refine ⟨P, rfl, ⟨hL.blk.lt, by omega, _, _, hL.blk, hSS.turn (Turn.refl _ _) (fun y _ hy => .inl (by have h' : y < w.heap.size := hy; omega)), by rw [hN']; exact hL.cnt, fun g hg h' => ?_⟩, hL.bel⟩
      have := (hL.cnt.lt g hg).1
      omega
end Go.Proofs.YtkibkbbjpgomlaaDoor.F
