/-
  WdLaw.
-/
import Derived.Test.YtkibkbbjpgomlaaDoorWqWdEnd
import Derived.Test.YtkibkbbjpgomlaaDoorWqWdRi6
import Derived.Test.YtkibkbbjpgomlaaDoorWqWdUp
import Derived.Test.YtkibkbbjpgomlaaDoorWqWdPk
import Derived.Test.YtkibkbbjpgomlaaDoorWqFstBuild
import Derived.Test.YtkibkbbjpgomlaaDoorWqA
namespace Go.Proofs.YtkibkbbjpgomlaaDoor.F
open Go.RowKit Go.Shelf Go.Maps
open Aid L LM
set_option linter.unusedSimpArgs false
set_option linter.unusedVariables false
attribute [local go_sem] Oper.semAt_some

/-- a result that lies in one cell -/
theorem results_cell1 {P : Program} {fn : Func} {p : Tmp} {ty : TypeId} (h : fn.results = #[.cell p ty]) (tmps : Array Value) (w : World) (g : Nat) (hp : tmps.getD p undef = .pointer (some ⟨g, 0, none⟩))
    (d : TypeDesc) (hu : P.underlying ty = some d) (hd : aggD d = false) (u : Value) (hc : w.cell? ⟨g, 0, none⟩ = some u) : (results fn tmps).run P w = .ok u w := by
  rw [Array.getD_eq_getD_getElem?] at hp
  have hl : (loadVar ty ⟨g, 0, none⟩).run P w = .ok u w := by
    have hag : (isAgg ty).run P w = .ok false w := by
      unfold isAgg
      simp only [Sem.run_bind, run_underlying hu, Result.andThen_ok]
      cases d <;> simp_all [aggD]
    simp [loadVar, hag, Sem.run_bind, Result.andThen, go_sem, hc]
  simp [results, h, hp, asAddr, Result.andThen, hl]
/-- between two rounds -/
structure LIn (l : List Wd) (n₀ : Nat) (W0 : World) (pre : List Wd) (W : World) : Prop where
  pf : pre <+: l
  box : Blk W n₀ 3 #[.int .i64 pre.length]
  bel : Below n₀ W0 W
theorem LIn.own (l : List Wd) (n₀ : Nat) (W0 : World) {B : Nat} (hB : n₀ < B) : OwnFrom B (LIn l n₀ W0) := fun s A A' row h hg hr => by
  refine ⟨h.pf, (hg.block n₀ h.box.lt (fun e => ?_)).trans h.box, ?_⟩
  · have := (hr n₀ e.symm).1; omega
  · exact h.bel.grown hg (by have := h.box.lt; omega) (fun k e => by have := (hr k e).1; omega)
theorem kp_putObj {n₀ l : Nat} {W : World} {o o' : Obj} (hl : n₀ < l) (ho : W.heap[l]? = some o) (hc : o.isCells = false) : Kp n₀ W (W.putObj l o') := by
  refine ⟨⟨rfl, rfl, rfl, by simp, fun k hk => World.putObj_heap_other (by omega)⟩, fun x hx o1 h1 c1 => World.putObj_heap_other (fun e => ?_)⟩
  subst e
  rw [ho] at h1
  cases h1
  rw [hc] at c1
  cases c1
theorem kp_alloc {n₀ : Nat} (W : World) (o : Obj) (hn : n₀ ≤ W.heap.size) : Kp n₀ W (W.alloc o) :=
  ⟨(Below.refl _ _).alloc hn _, fun x hx o1 h1 _ => Below.heap_alloc _ _ _ (Array.getElem?_eq_some_iff.1 h1).1⟩
theorem keeps_set {B g : Nat} {W Wq : World} (v : Value) (hb : Below W.heap.size W Wq) (hg : g < B) : KeepsFrom B W (Wq.setCell ⟨g, 0, none⟩ v) :=
  ⟨by rw [World.size_setCell]; exact hb.size, fun k o hB hk _ => (Below.heap_setCell Wq ⟨g, 0, none⟩ v k (by show k ≠ g; omega)).trans ((hb.block k (Array.getElem?_eq_some_iff.1 hk).1).trans hk)⟩
theorem kp_set {n₀ : Nat} {W Wq : World} (v : Value) (hb : Below W.heap.size W Wq) (hn : n₀ ≤ W.heap.size) : Kp n₀ W (Wq.setCell ⟨n₀, 0, none⟩ v) :=
  ⟨(hb.mono hn).setCell (p := ⟨n₀, 0, none⟩) (Nat.le_refl _) _, fun x hx o1 h1 _ => (Below.heap_setCell Wq ⟨n₀, 0, none⟩ v x (by show x ≠ n₀; omega)).trans (hb.block x (Array.getElem?_eq_some_iff.1 h1).1)⟩
theorem LIn.next {l : List Wd} {n₀ : Nat} {W0 : World} {pre : List Wd} {W Wq : World} {x : Wd} {i : Nat} (h : LIn l n₀ W0 pre W) (hb : Below W.heap.size W Wq) (hi : pre.length = i) (hx : l[i]? = some x) : LIn l n₀ W0 (pre ++ [x]) (Wq.setCell ⟨n₀, 0, none⟩ (.int .i64 ((i : Int) + 1))) := by
  refine ⟨?_, ?_, h.bel.trans (kp_set _ hb (Nat.le_of_lt h.box.lt)).1⟩
  · obtain ⟨q, rfl⟩ := h.pf
    rw [List.getElem?_append_right (by omega), show i - pre.length = 0 by omega] at hx
    cases q with
    | nil => simp at hx
    | cons y q =>
      simp at hx
      subst hx
      exact ⟨q, by simp⟩
  · have := (h.box.below hb h.box.lt).set 0 (.int .i64 ((i : Int) + 1))
    rw [List.length_append, hi]
    exact this
theorem LIn.stop {l : List Wd} {pre : List Wd} {x : Wd} {i : Nat} (hi : pre.length = i) (hx : l[i]? ≠ some x) : ¬ (pre ++ [x]) <+: l := by
  rintro ⟨q, rfl⟩
  refine hx ?_
  rw [List.append_assoc, List.getElem?_append_right (by omega), show i - pre.length = 0 by omega]
  rfl
set_option maxRecDepth 100000 in
set_option maxHeartbeats 4000000 in
theorem words_law (v : Value) (l : List Wd) (w : World) (h : PairsIn w v l) (T : Tab w) :
    Calls Tryd.prog 3 #[v] w fun e w' => e = .returned (.bool true) ∧ Below w.heap.size w w' := by
  have HP := Lib.hid h
  obtain ⟨av, cv, rfl⟩ := h.slice
  have hlen := h.len
  obtain ⟨n, hn⟩ : ∃ n, l.length = n := ⟨_, rfl⟩
  have hcap : (n : Int) ≤ (cv : Int) := by obtain ⟨_, _, e, _, h, _⟩ := h; cases e; omega
  rw [hn] at hlen HP ⊢
  obtain ⟨R0, hR0⟩ : ∃ R, w.heap.size = R := ⟨_, rfl⟩
  obtain ⟨W2, hW2⟩ : ∃ W2, (w.alloc (.cells #[.slice av n cv] 22)).alloc (.cells #[.bool false] 4) = W2 := ⟨_, rfl⟩
  have hb2 : Below w.heap.size w W2 := by rw [← hW2]; exact two_under _ _ _
  have b1 : Blk W2 R0 22 #[.slice av n cv] := by
    rw [← hW2, ← hR0]; exact (Blk.alloc_new _ _ _).below ((Below.refl _ _).alloc (Nat.le_refl _) _) (by simp)
  have b2 : Blk W2 (R0 + 1) 4 #[.bool false] := by rw [← hW2, ← hR0]; exact two_blk _ _ _ _
  have hz2 : W2.heap.size = R0 + 1 + 1 := by rw [← hW2, ← hR0]; simp
  have r0 : W2.cell? ⟨R0, 0, none⟩ = some (.slice av n cv) := (Blk.cell b1 0).trans rfl
  have hbd := build_new (.slice av n cv) l W2 (HP.out.below hb2) (T.below hb2)
  have hff := fun W (hb : Below w.heap.size w W) => right6_any (.slice av n cv) l W (HP.out.below hb)
  have HBD := Lib.hid hbd
  have HR6 := Lib.hid hff
  clear hbd hff h
  refine (callsIn_wide (n := 6)).1 ?_
  refine callsIn_of_wp_marks Tryd.func3 rfl trivial ?_ rfl
  refine wpIn_wide.2 ?_
  simp only [Tryd.ntmps3, List.size_toArray, List.length_cons, List.length_nil, Nat.reduceAdd, Nat.reduceSub, Array.replicate_succ, Array.replicate_zero, List.push_toArray, List.append_toArray, List.nil_append, List.cons_append]
  go_wp2_with fail
  try rw [hW2]
  refine HBD.out.mono ?_
  rintro e w3 ⟨sv, rfl, hS3, hb3⟩
  obtain ⟨be, hbe⟩ : ∃ be, (buildF l).2 = be := ⟨_, rfl⟩
  obtain ⟨sb, hsb⟩ : ∃ sb, (buildF l).1.1 = sb := ⟨_, rfl⟩
  rw [hbe, hsb]
  obtain ⟨sa, sc, rfl⟩ := hS3.slice
  obtain ⟨ns, hns⟩ : ∃ ns, (buildF l).1.2.length = ns := ⟨_, rfl⟩
  rw [hns] at hS3 ⊢
  have HS3 := Lib.hid hS3
  have HNS := Lib.hid hns
  clear hS3 hns
  obtain ⟨M0, hM0⟩ : ∃ M, w3.heap.size = M := ⟨_, rfl⟩
  obtain ⟨W4, hW4⟩ : ∃ W4, w3.alloc (.cells #[.int .i64 sb, .slice sa ns sc] 25) = W4 := ⟨_, rfl⟩
  have hb4 : Below w3.heap.size w3 W4 := by rw [← hW4]; exact (Below.refl _ _).alloc (Nat.le_refl _) _
  have bM4 : Blk W4 M0 25 #[.int .i64 sb, .slice sa ns sc] := by rw [← hW4, ← hM0]; exact Blk.alloc_new _ _ _
  have hz3 := hb3.size
  have hz4 := hb4.size
  have hbw4 : Below w.heap.size w W4 := (hb2.trans (hb3.mono hb2.size)).trans (hb4.mono (by have := hb2.size; omega))
  have b1_4 := (b1.below hb3 b1.lt).below hb4 (b1.below hb3 b1.lt).lt
  have b2_4 := (b2.below hb3 b2.lt).below hb4 (b2.below hb3 b2.lt).lt
  have r0_4 : W4.cell? ⟨R0, 0, none⟩ = some (.slice av n cv) := (Blk.cell b1_4 0).trans rfl
  clear r0
  go_wp2_with fail
  try rw [hW4]
  refine (HR6.out W4 hbw4).mono ?_
  rintro e w5 ⟨rfl, hb5⟩
  have hz5 := hb5.size
  have hbw5 : Below w.heap.size w w5 := hbw4.trans (hb5.mono hbw4.size)
  have b1_5 := b1_4.below hb5 b1_4.lt
  have b2_5 := b2_4.below hb5 b2_4.lt
  have bM5 := bM4.below hb5 bM4.lt
  clear r0_4 hW4 hW2
  by_cases hE : buildE l = 0
  case neg =>
    have hbn : be = buildE l := by rw [← hbe]; unfold buildF; rw [if_neg hE]
    have hne : be ≠ 0 := by rw [hbn]; exact hE
    have hde : decide (buildE l = 0) = false := decide_eq_false hE
    rw [hde]
    have q0 : w5.cell? ⟨R0 + 1, 0, none⟩ = some (.bool false) := (Blk.cell b2_5 0).trans rfl
    have q1 := Blk.free b2_5 0
    have hbe0 : (be == 0) = false := by rw [beq_eq_false_iff_ne]; exact hne
    clear hE hbn hde
    have hbt : (be != 0) = true := by simp [bne, hbe0]
    go_wp2_with fail
    have hbE : Below w.heap.size w (w5.setCell ⟨R0 + 1, 0, none⟩ (.bool true)) := hbw5.setCell (p := ⟨R0 + 1, 0, none⟩) (by show _ ≤ R0 + 1; omega) _
    exact ⟨_, results_cell1 rfl _ _ (R0 + 1) rfl _ Tryd.underlying4 rfl (.bool true) (World.cell?_setCell_same' _ _ _ (by rw [q0]; rfl)), rfl, hbE⟩
  case pos =>
    have hF : buildF l = (makeF l, 0) := by unfold buildF; rw [if_pos hE]
    have hMR := machR_make l hE
    have hAW := allW_make l hE
    have hS3 := HS3.out
    have hns := HNS.out
    rw [hF] at hbe hsb hS3 hns
    dsimp only at hbe hsb hS3 hns
    obtain ⟨S, hS⟩ : ∃ S, (makeF l).2 = S := ⟨_, rfl⟩
    rw [hsb, hS] at hMR hAW
    rw [hS] at hS3 hns
    have hlt5 : w3.heap.size ≤ w5.heap.size := by omega
    have hS5 : StatesAre (fun _ => False) w5 (.slice sa ns sc) S := hS3.turn (Turn.of_below (hb4.trans (hb5.mono hz4))) (fun _ _ h => h.elim)
    have hA := hS5.arcs
    have hpk := pack_any sb (.slice sa ns sc) S w5 hS5 hMR (T.below hbw5)
    rw [decide_eq_true hE]
    have hde : be = 0 := hbe.symm
    subst hde
    have m0 : w5.cell? ⟨M0, 0, none⟩ = some (.int .i64 sb) := (Blk.cell bM5 0).trans rfl
    have m1 : w5.cell? ⟨M0, 0 + 1, none⟩ = some (.slice sa ns sc) := (Blk.cell bM5 1).trans rfl
    have mm := two_cells m0 m1
    have HPK := Lib.hid hpk
    have HMR := Lib.hid hMR
    have HAW := Lib.hid hAW
    have HA := Lib.hid hA
    have HSN := Lib.hid hns
    clear hE hF hMR hAW hS3 hns hS hpk hS5 hA HS3 HNS HBD
    go_wp2_with fail
    refine HPK.out.mono ?_
    rintro e w6 ⟨pv, rfl, hI6, hb6⟩
    have hz6 := hb6.size
    have hbw6 : Below w.heap.size w w6 := hbw5.trans (hb6.mono hbw5.size)
    have b1_6 := b1_5.below hb6 b1_5.lt
    have b2_6 := b2_5.below hb6 b2_5.lt
    have hup := unpack_any sb S pv w6 hI6 HMR.out HA.out (T.below hbw6)
    obtain ⟨pa, pc, rfl, _⟩ := W.ints_ends hI6
    obtain ⟨pn, hpn⟩ : ∃ pn, (packF sb S).length = pn := ⟨_, rfl⟩
    rw [hpn] at hup ⊢
    have HUP := Lib.hid hup
    clear hup hI6 hpn m0 m1 mm HPK
    go_wp2_with fail
    refine HUP.out.mono ?_
    rintro e w7 ⟨uv, rfl, hS7, hb7⟩
    obtain ⟨ua, uc, rfl⟩ := hS7.slice
    rw [HSN.out] at hS7 ⊢
    have hz7 := hb7.size
    obtain ⟨M1, hM1⟩ : ∃ M, w7.heap.size = M := ⟨_, rfl⟩
    obtain ⟨W8, hW8⟩ : ∃ W8, w7.alloc (.cells #[.int .i64 sb, .slice ua ns uc] 25) = W8 := ⟨_, rfl⟩
    have hb8 : Below w7.heap.size w7 W8 := by rw [← hW8]; exact (Below.refl _ _).alloc (Nat.le_refl _) _
    have bM8 : Blk W8 M1 25 #[.int .i64 sb, .slice ua ns uc] := by rw [← hW8, ← hM1]; exact Blk.alloc_new _ _ _
    have hz8 := hb8.size
    have hbw8 : Below w.heap.size w W8 := (hbw6.trans (hb7.mono hbw6.size)).trans (hb8.mono (by have := hbw6.size; omega))
    have b1_8 := (b1_6.below hb7 b1_6.lt).below hb8 (b1_6.below hb7 b1_6.lt).lt
    have b2_8 := (b2_6.below hb7 b2_6.lt).below hb8 (b2_6.below hb7 b2_6.lt).lt
    have m0 : W8.cell? ⟨M1, 0, none⟩ = some (.int .i64 sb) := (Blk.cell bM8 0).trans rfl
    have m1 : W8.cell? ⟨M1, 0 + 1, none⟩ = some (.slice ua ns uc) := (Blk.cell bM8 1).trans rfl
    have mm := two_cells m0 m1
    have hnw := new_any sb (.slice ua ns uc) S W8 ((hS7.turn (O' := fun _ => False) (Turn.refl _ _) (fun _ _ h => h.elim)).below hb8) HMR.out (T.below hbw8)
    have HNW := Lib.hid hnw
    clear hnw hS7 HUP
    go_wp2_with fail
    try rw [hW8]
    refine HNW.out.mono ?_
    rintro e w9 ⟨P, rfl, hWK, hb9⟩
    have hz9 := hb9.size
    have hbw9 : Below w.heap.size w w9 := hbw8.trans (hb9.mono hbw8.size)
    have b1_9 := b1_8.below hb9 b1_8.lt
    have b2_9 := b2_8.below hb9 b2_8.lt
    have r0_9 : w9.cell? ⟨R0, 0, none⟩ = some (.slice av n cv) := (Blk.cell b1_9 0).trans rfl
    have hln := fun W' (hb : Below w9.heap.size w9 W') => len_any _ P sb S W' (hWK.turn (Turn.of_below hb) (fun _ _ h => h))
    have hal : (if S.length = 0 then (0 : Int) else ((cntS S (S.length - 1) : Nat) : Int)) = (n : Int) := by
      have h1 := allW_len sb S
      rw [HAW.out, hn] at h1
      rw [h1]
      split <;> simp
    rw [hal] at hln
    have HLN := Lib.hid hln
    have HWK := Lib.hid hWK
    clear hln hWK hal m0 m1 mm hW8
    go_wp2_with fail
    go_quiet ((go_at_call 9; exact Calls.quiet_of (HLN.out _ (below_drewN (Below.refl _ _) _))))
    obtain ⟨W10, hW10⟩ : ∃ W10, w9.drewN nq = W10 := ⟨_, rfl⟩
    have hb10 : Below w9.heap.size w9 W10 := by rw [← hW10]; exact below_drewN (Below.refl _ _) _
    rw [hW10]
    have hz10 := hb10.size
    have hbw10 : Below w.heap.size w W10 := hbw9.trans (hb10.mono hbw9.size)
    have b1_10 := b1_9.below hb10 b1_9.lt
    have b2_10 := b2_9.below hb10 b2_9.lt
    have hWK10 := HWK.out.turn (Turn.of_below hb10) (fun _ _ h => h)
    obtain ⟨n₀, hn₀⟩ : ∃ n₀, W10.heap.size = n₀ := ⟨_, rfl⟩
    obtain ⟨W11, hW11⟩ : ∃ W11, W10.alloc (.cells #[.int .i64 0] 3) = W11 := ⟨_, rfl⟩
    have hb11 : Below W10.heap.size W10 W11 := by rw [← hW11]; exact (Below.refl _ _).alloc (Nat.le_refl _) _
    have bI11 : Blk W11 n₀ 3 #[.int .i64 0] := by rw [← hW11, ← hn₀]; exact Blk.alloc_new _ _ _
    have hz11 : W11.heap.size = n₀ + 1 := by rw [← hW11, ← hn₀]; simp
    have HW11 := Lib.hid hW11
    clear hW10 hb10 HNW HWK r0_9 HLN hW11
    go_wp2_with fail
    rw [HW11.out]
    refine (all_any _ _).mono ?_
    rintro e W12 ⟨rfl, hW12⟩
    rw [hz11]
    have hb12 : Below W11.heap.size W11 W12 := by rw [hW12]; exact (Below.refl _ _).alloc (Nat.le_refl _) _
    have bP12 : Blk W12 (n₀ + 1) 34 #[.pointer (some ⟨P, 0, none⟩)] := by rw [hW12, ← hz11]; exact Blk.alloc_new _ _ _
    have hz12 : W12.heap.size = n₀ + 2 := by rw [hW12]; simp [hz11]
    have bI12 := bI11.below hb12 bI11.lt
    have hb012 : Below n₀ W10 W12 := (hb11.mono (by omega)).trans (hb12.mono (by omega))
    have hbw12 : Below w.heap.size w W12 := hbw10.trans (hb012.mono (by have := hbw10.size; omega))
    have hR0n : R0 + 1 < n₀ := by have := b2_10.lt; omega
    have b1_12 : Blk W12 R0 22 #[.slice av n cv] := (hb012.block R0 (by omega)).trans b1_10
    have b2_12 : Blk W12 (R0 + 1) 4 #[.bool false] := (hb012.block (R0 + 1) hR0n).trans b2_10
    have hWK12 : WalkIs (fun x => n₀ ≤ x) W12 P sb S := by
      have h1 := hWK10.turn (O' := fun x => n₀ ≤ x) (Turn.refl _ _) (fun x hx h => by omega)
      exact h1.under hb012
    have hT12 : TabAt n₀ W12 := by
      have h1 : TabAt n₀ W10 := ⟨T.below hbw10, by have h1 := T.2.2.2.2; have h2 := hbw10.size; omega⟩
      exact h1.below hb012
    clear HW11 hW12 hb11 bI11 b1_10 b2_10 hWK10
    go_wp2_with fail
    have hlB : (allW sb S).length = n := by rw [HAW.out]; exact hn
    have hD12 : 6 - 1 - 1 = 4 := rfl
    refine wpIn_wide.1 (wpIn_rangeFunc_ownH (F := Fence.wide) (n := 6) rfl (by decide) (gf := 27) (lb := #[.pointer (some ⟨n₀ + 1, 0, none⟩)]) rfl trivial (enters_of Tryd.func27 (by kernel_rfl) rfl)
      (all_stops 5 (n₀ + 1) n₀ P sb S HMR.out W12 (by omega) (by omega) ((Blk.cell bP12 0).trans rfl) hWK12 hT12) (fun h k => h.trans k)
      (fun W l o o' hl ho hc _ => kp_putObj (by omega) ho hc)
      (Below.refl _ _) (fun _ => rfl) (LIn l n₀ W12) (fun _ pre _ => ¬ pre <+: l) ?own (fun _ _ _ _ _ hs _ _ => hs) ?start
      (fun x a' W => ∃ g, n₀ + 1 < g ∧ Blk W g 42 #[.string x.1, .int .i64 x.2] ∧ a' = { tmps := #[.slice av n cv, .pointer (some ⟨R0, 0, none⟩), .pointer (some ⟨R0 + 1, 0, none⟩), .pointer (some ⟨M0, 0, none⟩), .int .i64 0, .slice pa pn pc, .int .i64 0, .pointer (some ⟨M1, 0, none⟩), .int .i64 0, .pointer (some ⟨P, 0, none⟩), .bool true, .pointer (some ⟨n₀, 0, none⟩), .pointer (some ⟨g, 0, none⟩), .tuple #[.agg #[.int .i64 sb, .slice sa ns sc], .int .i64 0], .slice av n cv, .tuple #[.agg #[.int .i64 sb, .slice sa ns sc], .int .i64 0], .agg #[.int .i64 sb, .slice sa ns sc], .int .i64 0, .slice av n cv, .bool true, .bool false, undef, undef, .tuple #[.slice pa pn pc, .int .i64 0], .agg #[.int .i64 sb, .slice sa ns sc], .tuple #[.slice pa pn pc, .int .i64 0], .slice pa pn pc, .int .i64 0, .tuple #[.agg #[.int .i64 sb, .slice ua ns uc], .int .i64 0], .slice pa pn pc, .tuple #[.agg #[.int .i64 sb, .slice ua ns uc], .int .i64 0], .agg #[.int .i64 sb, .slice ua ns uc], .int .i64 0, .tuple #[.pointer (some ⟨P, 0, none⟩), .bool true], .agg #[.int .i64 sb, .slice ua ns uc], .tuple #[.pointer (some ⟨P, 0, none⟩), .bool true], .pointer (some ⟨P, 0, none⟩), .bool true, .int .i64 0, .bool false, .bool false, .int .i64 0, .bool false, .bool false, .bool false, .int .i64 0, .bool false, .bool false, .bool false, .bool true, .bool false, .bool false, .bool false, .pointer (some ⟨P, 0, none⟩), .int .i64 n, .slice av n cv, .int .i64 n, .bool false, .bool false, .pointer (some ⟨P, 0, none⟩), .func (.func 27) #[] #[.pointer (some ⟨n₀ + 1, 0, none⟩)], .agg #[.string x.1, .int .i64 x.2], undef, undef, undef, undef, undef, undef, undef, undef, undef, undef, undef, undef, undef, undef, undef, undef, undef, undef], defers := [] }) ?ownx ?assign ?body ?done ?stop)
    case own => exact LIn.own l n₀ W12 (by omega)
    case start => exact ⟨List.nil_prefix, bI12, Below.refl _ _⟩
    case ownx =>
      rintro x a' _ A B row ⟨g, hg, hb, e⟩ hgr hr
      refine ⟨g, hg, (hgr.block g hb.lt (fun e' => ?_)).trans hb, e⟩
      obtain ⟨_, o, ho, hc⟩ := hr g e'.symm
      rw [show A.heap[g]? = _ from hb] at ho
      cases ho
      cases hc
    case assign =>
      intro l' pre x W K hI hK
      gi_wp2
      have hzW := hI.bel.size
      refine hK _ _ ((KeepsOthers.alloc W _).from _) (kp_alloc _ _ (by omega)) ((LIn.own l n₀ W12 (B := W12.heap.size) (by omega)).alloc _ hI) ⟨W.heap.size, by omega, Blk.alloc_new _ _ _, rfl⟩
    case body =>
      rintro l' pre x a' W hl ⟨r, hr⟩ hI ⟨g, hg, bG, rfl⟩ hlt
      obtain ⟨i, hi⟩ : ∃ i, pre.length = i := ⟨_, rfl⟩
      have bIW := hI.box
      have hBW := hI.bel
      have hPF := hI.pf
      rw [hi] at bIW
      have hbwW : Below w.heap.size w W := hbw12.trans (hBW.mono (by omega))
      have i0 : W.cell? ⟨n₀, 0, none⟩ = some (.int .i64 i) := (Blk.cell bIW 0).trans rfl
      have i1 := Blk.free bIW 0
      have r0 : W.cell? ⟨R0, 0, none⟩ = some (.slice av n cv) := (hBW.cell (p := ⟨R0, 0, none⟩) (by show R0 < n₀; omega)).trans ((Blk.cell b1_12 0).trans rfl)
      have b2W : Blk W (R0 + 1) 4 #[.bool false] := (hBW.block (R0 + 1) (by omega)).trans b2_12
      have q0 : W.cell? ⟨R0 + 1, 0, none⟩ = some (.bool false) := (Blk.cell b2W 0).trans rfl
      have q1 := Blk.free b2W 0
      have g0 : W.cell? ⟨g, 0, none⟩ = some (.string x.1) := (Blk.cell bG 0).trans rfl
      have g1 : W.cell? ⟨g, 0 + 1, none⟩ = some (.int .i64 x.2) := (Blk.cell bG 1).trans rfl
      have gg := two_cells g0 g1
      obtain ⟨xs, xw⟩ := x
      dsimp only at g0 g1 gg
      have HHI := Lib.hid (And.intro hI (And.intro hBW (And.intro hPF (And.intro hbwW (And.intro bIW b2W)))))
      have hin : i ≤ n := by have := hPF.length_le; omega
      have hn2 : n₀ < W12.heap.size := by omega
      have hPW := HP.out.below hbwW
      clear bIW hBW hI b2W hbwW hPF T hb2 b2 hz2 hb3 hsb hM0 hb4 bM4 hz3 hz4 hbw4 b2_4 hb5 hz5 hbw5 b2_5 bM5 hlt5 HMR HA HSN hb6 hz6 hbw6 b2_6 hb7 hz7 hM1 hb8 bM8 hz8 hbw8 b2_8 hb9 hz9 hbw9 b2_9 hz10 hbw10 hn₀ hz11 hb12 bP12 bI12 hb012 hWK12 hT12 hlB hlt hr HR6 b1 b1_4 b1_5 b1_6 b1_8 b1_9 b2_12 b1_12 hbw12 HP HAW
      have hmx : Tryd.prog.follows .mixedOrders = true := by kernel_rfl
      by_cases hlt2 : (i : Int) < (n : Int)
      · obtain ⟨y, hy⟩ : ∃ y, l[i]? = some y := ⟨_, List.getElem?_eq_getElem (by omega)⟩
        obtain ⟨g2, off2, rfl, hg2, c0, c1⟩ := hPW.at_ hy
        have cc := two_cells c0 c1
        obtain ⟨ys, yw⟩ := y
        dsimp only at c0 c1 cc
        have HY := Lib.hid hy
        have hi00 : (0 : Int) ≤ (i : Int) := by omega
        have hlt3 : i < n := by omega
        clear hPW hy hin
        by_cases hxy : xs = ys ∧ xw = yw
        · obtain ⟨rfl, rfl⟩ := hxy
          gi_wp2
          refine quiet_round (by kernel_rfl) (by kernel_rfl) (by kernel_rfl) ?_
          repeat (quiet_step_in (fail))
          refine wpQuietIn_nil ?_
          intro _ hw'
          obtain ⟨nq, rfl⟩ := hw'
          obtain ⟨Wq, hWq⟩ : ∃ Wq, W.drewN nq = Wq := ⟨_, rfl⟩
          have hbq : Below W.heap.size W Wq := by rw [← hWq]; exact below_drewN (Below.refl _ _) _
          have j0 : Wq.cell? ⟨n₀, 0, none⟩ = some (.int .i64 i) := by rw [← hWq]; exact i0
          have j1 : Wq.frozen? ⟨n₀, 0, none⟩ = false := by rw [← hWq]; exact i1
          have p0 : Wq.cell? ⟨R0 + 1, 0, none⟩ = some (.bool false) := by rw [← hWq]; exact q0
          have p1 : Wq.frozen? ⟨R0 + 1, 0, none⟩ = false := by rw [← hWq]; exact q1
          rw [hWq]
          clear hWq i0 i1 q0 q1 g0 g1 gg r0 hmx
          gi_wp2
          exact ⟨keeps_set _ hbq (by omega), kp_set _ hbq (Nat.le_of_lt HHI.out.1.box.lt), HHI.out.1.next hbq hi HY.out⟩
        · have hns : ¬ (pre ++ [(xs, xw)]) <+: l := LIn.stop hi (by rw [HY.out]; intro e; simp only [Option.some.injEq, Prod.mk.injEq] at e; exact hxy ⟨e.1.symm, e.2.symm⟩)
          have HNS2 := Lib.hid hns
          clear hns
          by_cases hst : xs.toList = ys.toList
          · have hxs : xs = ys := by
              apply ByteArray.ext
              rw [toList_eq, toList_eq] at hst
              exact Array.toList_inj.1 hst
            have hxw : ¬ xw = yw := fun e => hxy ⟨hxs, e⟩
            clear hxy hxs
            gi_wp2
            refine quiet_round (by kernel_rfl) (by kernel_rfl) (by kernel_rfl) ?_
            repeat (quiet_step_in (fail))
            refine wpQuietIn_nil ?_
            intro _ hw'
            obtain ⟨nq, rfl⟩ := hw'
            obtain ⟨Wq, hWq⟩ : ∃ Wq, W.drewN nq = Wq := ⟨_, rfl⟩
            have hbq : Below W.heap.size W Wq := by rw [← hWq]; exact below_drewN (Below.refl _ _) _
            have j0 : Wq.cell? ⟨n₀, 0, none⟩ = some (.int .i64 i) := by rw [← hWq]; exact i0
            have j1 : Wq.frozen? ⟨n₀, 0, none⟩ = false := by rw [← hWq]; exact i1
            have p0 : Wq.cell? ⟨R0 + 1, 0, none⟩ = some (.bool false) := by rw [← hWq]; exact q0
            have p1 : Wq.frozen? ⟨R0 + 1, 0, none⟩ = false := by rw [← hWq]; exact q1
            rw [hWq]
            clear hWq i0 i1 q0 q1 g0 g1 gg r0 hmx
            gi_wp2
            exact ⟨keeps_set _ hbq (by omega), HNS2.out⟩
          · clear hxy
            gi_wp2
            refine quiet_round (by kernel_rfl) (by kernel_rfl) (by kernel_rfl) ?_
            repeat (quiet_step_in (fail))
            refine wpQuietIn_nil ?_
            intro _ hw'
            obtain ⟨nq, rfl⟩ := hw'
            obtain ⟨Wq, hWq⟩ : ∃ Wq, W.drewN nq = Wq := ⟨_, rfl⟩
            have hbq : Below W.heap.size W Wq := by rw [← hWq]; exact below_drewN (Below.refl _ _) _
            have j0 : Wq.cell? ⟨n₀, 0, none⟩ = some (.int .i64 i) := by rw [← hWq]; exact i0
            have j1 : Wq.frozen? ⟨n₀, 0, none⟩ = false := by rw [← hWq]; exact i1
            have p0 : Wq.cell? ⟨R0 + 1, 0, none⟩ = some (.bool false) := by rw [← hWq]; exact q0
            have p1 : Wq.frozen? ⟨R0 + 1, 0, none⟩ = false := by rw [← hWq]; exact q1
            rw [hWq]
            clear hWq i0 i1 q0 q1 g0 g1 gg r0 hmx
            gi_wp2
            exact ⟨keeps_set _ hbq (by omega), HNS2.out⟩
      · have hns : ¬ (pre ++ [(xs, xw)]) <+: l := LIn.stop hi (by rw [List.getElem?_eq_none (by omega)]; simp)
        have HNS2 := Lib.hid hns
        clear hns
        gi_wp2
        refine quiet_round (by kernel_rfl) (by kernel_rfl) (by kernel_rfl) ?_
        repeat (quiet_step_in (fail))
        refine wpQuietIn_nil ?_
        intro _ hw'
        obtain ⟨nq, rfl⟩ := hw'
        obtain ⟨Wq, hWq⟩ : ∃ Wq, W.drewN nq = Wq := ⟨_, rfl⟩
        have hbq : Below W.heap.size W Wq := by rw [← hWq]; exact below_drewN (Below.refl _ _) _
        have j0 : Wq.cell? ⟨n₀, 0, none⟩ = some (.int .i64 i) := by rw [← hWq]; exact i0
        have j1 : Wq.frozen? ⟨n₀, 0, none⟩ = false := by rw [← hWq]; exact i1
        have p0 : Wq.cell? ⟨R0 + 1, 0, none⟩ = some (.bool false) := by rw [← hWq]; exact q0
        have p1 : Wq.frozen? ⟨R0 + 1, 0, none⟩ = false := by rw [← hWq]; exact q1
        rw [hWq]
        clear hWq i0 i1 q0 q1 g0 g1 gg r0 hmx
        gi_wp2
        exact ⟨keeps_set _ hbq (by omega), HNS2.out⟩
    case stop => rintro D c pre W _ h1 h2 _; exact absurd (by rw [← HAW.out]; exact h1) h2
    case done =>
      rintro D xs W hD hxs hI hDW
      have hxl : xs.length = n := by rw [show xs = allW sb S from hxs]; exact hlB
      have hBW := hI.bel
      have bIW := hI.box
      rw [hxl] at bIW
      have hbwW : Below w.heap.size w W := hbw12.trans (hBW.mono (by omega))
      have i0 : W.cell? ⟨n₀, 0, none⟩ = some (.int .i64 n) := (Blk.cell bIW 0).trans rfl
      have r0 : W.cell? ⟨R0, 0, none⟩ = some (.slice av n cv) := (hBW.cell (p := ⟨R0, 0, none⟩) (by show R0 < n₀; omega)).trans ((Blk.cell b1_12 0).trans rfl)
      have b2W : Blk W (R0 + 1) 4 #[.bool false] := (hBW.block (R0 + 1) (by omega)).trans b2_12
      have q0 : W.cell? ⟨R0 + 1, 0, none⟩ = some (.bool false) := (Blk.cell b2W 0).trans rfl
      have q1 := Blk.free b2W 0
      have hRD : R0 + 1 < D := by omega
      have hDW2 : (W.setCell ⟨R0 + 1, 0, none⟩ (.bool true)).heap[D]? = some (.deferred (some [])) := (Below.heap_setCell W ⟨R0 + 1, 0, none⟩ (.bool true) D (by show D ≠ R0 + 1; omega)).trans hDW
      have hcE : ∀ o, ((W.setCell ⟨R0 + 1, 0, none⟩ (.bool true)).putObj D o).cell? ⟨R0 + 1, 0, none⟩ = some (.bool true) := fun o =>
        (World.cell?_of_block (World.putObj_heap_other (show R0 + 1 ≠ D by omega))).trans (World.cell?_setCell_same' _ _ _ (by rw [q0]; rfl))
      have hbE : ∀ o, Below w.heap.size w ((W.setCell ⟨R0 + 1, 0, none⟩ (.bool true)).putObj D o) := fun o =>
        (hbwW.setCell (p := ⟨R0 + 1, 0, none⟩) (by show w.heap.size ≤ R0 + 1; omega) _).grown (grownBy_putObj' _ D o) (by rw [World.size_setCell]; exact hbwW.size) (fun k e => by cases e; omega)
      clear bIW hBW hI b2W hbwW T hb2 b2 hz2 hb3 hsb hM0 hb4 bM4 hz3 hz4 hbw4 b2_4 hb5 hz5 hbw5 b2_5 bM5 hlt5 HMR HA HSN hb6 hz6 hbw6 b2_6 hb7 hz7 hM1 hb8 bM8 hz8 hbw8 b2_8 hb9 hz9 hbw9 b2_9 hz10 hbw10 hn₀ hz11 hb12 bP12 bI12 hb012 hWK12 hT12 hlB HR6 b1 b1_4 b1_5 b1_6 b1_8 b1_9 b2_12 b1_12 hbw12 HP HAW hxs hxl
      go_wp2_with fail
      refine ⟨by simp, .inl ⟨_, _, rfl, run_takeDeferred hDW2, ?_⟩⟩
      exact ⟨_, results_cell1 rfl _ _ (R0 + 1) rfl _ Tryd.underlying4 rfl (.bool true) (hcE _), rfl, hR0 ▸ hbE _⟩
end Go.Proofs.YtkibkbbjpgomlaaDoor.F
