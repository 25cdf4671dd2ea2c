/-
  WdSum.
-/
import Derived.Test.YtkibkbbjpgomlaaDoorWqWdKey
import Derived.Test.YtkibkbbjpgomlaaDoorWqWdMath
import Derived.Test.YtkibkbbjpgomlaaDoorWqFstBldA
namespace Go.Proofs.YtkibkbbjpgomlaaDoor.F
open Go.RowKit Go.Shelf Go.Maps
open Aid L LM
set_option linter.unusedSimpArgs false
set_option linter.unusedVariables false
attribute [local go_sem] Oper.semAt_some

/-- the sums of the first k states lie in block R -/
def SumsIn (w : World) (R k : Nat) (sm : Nat → Sm) : Prop := R < w.heap.size ∧ ∀ j, j < k → w.cell? ⟨R, j * 3, none⟩ = some (.int .i64 (sm j).1) ∧ w.cell? ⟨R, j * 3 + 1, none⟩ = some (.int .i64 (sm j).2.1) ∧ w.cell? ⟨R, j * 3 + 2, none⟩ = some (.int .i64 (sm j).2.2)
theorem SumsIn.below {w w' : World} {R k : Nat} {sm : Nat → Sm} (h : SumsIn w R k sm) (hb : Below w.heap.size w w') : SumsIn w' R k sm :=
  ⟨Nat.lt_of_lt_of_le h.1 hb.size, fun j hj => by
    obtain ⟨h0, h1, h2⟩ := h.2 j hj
    exact ⟨(hb.cell (p := ⟨R, j * 3, none⟩) h.1).trans h0, (hb.cell (p := ⟨R, j * 3 + 1, none⟩) h.1).trans h1, (hb.cell (p := ⟨R, j * 3 + 2, none⟩) h.1).trans h2⟩⟩
theorem sumA_bounds {sm : Nat → Sm} {k : Nat} (hb : ∀ j, j < k → (sm j).1 ≤ 4096 ∧ (sm j).2.1 ≤ 24 ∧ 0 ≤ (sm j).2.2 ∧ (sm j).2.2 ≤ 1048576) : ∀ (A : List ArcM) (x : Sm), (∀ a ∈ A, a.to_.toNat < k ∧ 0 ≤ a.out ∧ a.out ≤ 1048576) → 0 ≤ x.2.2 → x.2.2 ≤ 2097152 → x.2.1 ≤ 25 → (sumA sm x A).2.2 ≤ 2097152 ∧ 0 ≤ (sumA sm x A).2.2 ∧ (sumA sm x A).2.1 ≤ 25
  | [], x, _, h0, h1, h2 => ⟨h1, h0, h2⟩
  | a :: A, x, h, h0, h1, h2 => by
    obtain ⟨q1, q2, q3⟩ := h a List.mem_cons_self
    obtain ⟨p1, p2, p3, p4⟩ := hb _ q1
    exact sumA_bounds hb A _ (fun b hb' => h b (List.mem_cons_of_mem _ hb')) (by dsimp only; omega) (by dsimp only; omega) (by dsimp only; omega)
/-- what the loop of sum keeps -/
structure SumLp (wr w : World) (Q : Nat) (x : Sm) : Prop where
  bel : Below w.heap.size w wr
  res : Blk wr (Q + 1) 83 #[.int .i64 0, .int .i64 0, .int .i64 0]
  x : Blk wr (Q + 1 + 1) 83 #[.int .i64 x.1, .int .i64 x.2.1, .int .i64 x.2.2]
theorem sumA_append (sm : Nat → Sm) : ∀ (l m : List ArcM) (x : Sm), sumA sm x (l ++ m) = sumA sm (sumA sm x l) m
  | [], _, _ => rfl
  | b :: l, m, x => sumA_append sm l m _
theorem size_sums : (Tryd.prog.info? 83).map (·.size) = some 3 := by kernel_rfl
theorem Blk.drewN1 {w : World} {g : Nat} {t : TypeId} {cs : Array Value} (h : Blk w g t cs) : Blk w.drew g t cs := h
def SumEnd (r : Sm) (w : World) (e : Ending) (w' : World) : Prop := e = .returned (.tuple #[.agg #[.int .i64 r.1, .int .i64 r.2.1, .int .i64 r.2.2], .bool true]) ∧ Below w.heap.size w w'
set_option maxRecDepth 100000 in
set_option maxHeartbeats 4000000 in
theorem sum_any (O : Nat → Prop) (s : StM) (u : Value) (R N k : Nat) (sm : Nat → Sm) (r : Sm) (w : World) (h : ArcsAre O w u s.arcs) (hR : SumsIn w R k sm) (hkN : k ≤ N) (hN : N ≤ 1000000)
    (ha : ∀ a ∈ s.arcs, (0 ≤ a.to_ ∧ a.to_.toNat < k) ∧ 0 ≤ a.out ∧ a.out ≤ 1048576) (hb : ∀ j, j < k → (sm j).1 ≤ 4096 ∧ (sm j).2.1 ≤ 24 ∧ 0 ≤ (sm j).2.2 ∧ (sm j).2.2 ≤ 1048576) (ho : 0 ≤ s.out ∧ s.out ≤ 1048576)
    (hr : sumA sm (if s.fin then 1 else 0, 0, s.out) s.arcs = r) (hr1 : r.1 ≤ 4096) (hr2 : r.2.1 ≤ 24) (hr3 : r.2.2 ≤ 1048576) :
    Calls Tryd.prog 33 #[.agg (stV s u), .slice (some ⟨R, 0, none⟩) N N] w (SumEnd r w) := by
  obtain ⟨a, cp, rfl⟩ := h.slice
  obtain ⟨fin, out, A⟩ := s
  unfold stV
  dsimp only at h ha ho hr ⊢
  have hl : A.length ≤ 1000000 := by obtain ⟨_, _, _, h, _⟩ := h; exact h
  obtain ⟨n, hn⟩ : ∃ n, A.length = n := ⟨_, rfl⟩
  rw [hn] at h hl
  rw [hn]
  go_enter Tryd.func33, Tryd.ntmps33
  cases fin with
  | true =>
    have hsz3 : Below w.heap.size w (((w.alloc (.cells #[.bool true, .int .i64 out, .slice a n cp] 61)).alloc (.cells #[.int .i64 0, .int .i64 0, .int .i64 0] 83)).alloc (.cells #[.int .i64 1, .int .i64 0, .int .i64 out] 83)) := (two_under _ _ _).alloc (by simp; omega) _
    have bX0 := Blk.alloc_new ((w.alloc (.cells #[.bool true, .int .i64 out, .slice a n cp] 61)).alloc (.cells #[.int .i64 0, .int .i64 0, .int .i64 0] 83)) #[.int .i64 1, .int .i64 0, .int .i64 out] 83
    have bR0 : Blk (((w.alloc (.cells #[.bool true, .int .i64 out, .slice a n cp] 61)).alloc (.cells #[.int .i64 0, .int .i64 0, .int .i64 0] 83)).alloc (.cells #[.int .i64 1, .int .i64 0, .int .i64 out] 83)) (w.heap.size + 1) 83 #[.int .i64 0, .int .i64 0, .int .i64 0] := (two_blk _ _ _ _).below ((Below.refl _ _).alloc (Nat.le_refl _) _) (by simp)
    have bX0 : Blk (((w.alloc (.cells #[.bool true, .int .i64 out, .slice a n cp] 61)).alloc (.cells #[.int .i64 0, .int .i64 0, .int .i64 0] 83)).alloc (.cells #[.int .i64 1, .int .i64 0, .int .i64 out] 83)) (w.heap.size + 1 + 1) 83 #[.int .i64 1, .int .i64 0, .int .i64 out] := by simpa using bX0
    have HB := Lib.hid (And.intro hsz3 (And.intro bR0 bX0))
    have HR := Lib.hid (show sumA sm (1, 0, out) A = r from hr)
    clear hsz3 bR0 bX0 hr
    go_wp2_with fail
    obtain ⟨Q, hQ⟩ : ∃ Q, w.heap.size = Q := ⟨_, rfl⟩
    rw [hQ]
    go_loopw [19] (fun x19 wr => ∃ (j : Nat), x19 = .int .i64 j ∧ j ≤ n ∧ Hid (∃ x, sumA sm (1, 0, out) (A.take j) = x ∧ SumLp wr w Q x))  (fun x19 _ => n - (intOf x19).toNat)
    case atStart =>
      refine ⟨0, rfl, Nat.zero_le _, Lib.hid ⟨_, rfl, ?_⟩⟩
      rw [← hQ]
      exact ⟨HB.out.1, HB.out.2.1, HB.out.2.2⟩
    case round =>
      clear HB
      obtain ⟨j, rfl, hj, HX⟩ := hrel
      by_cases hlt : (j : Int) < (n : Int)
      · obtain ⟨y, hy⟩ : ∃ y, A[j]? = some y := ⟨_, List.getElem?_eq_getElem (by omega)⟩
        obtain ⟨x, hx, hL⟩ := HX.out
        obtain ⟨hX1, hX2, hX3⟩ := sumA_bounds hb (A.take j) (1, 0, out) (fun b hb' => ⟨(ha b (List.mem_of_mem_take hb')).1.2, (ha b (List.mem_of_mem_take hb')).2⟩) (by dsimp only; omega) (by dsimp only; omega) (by dsimp only; omega)
        have hnext := sumA_snoc sm (A.take j) (1, 0, out) y
        rw [← take_snoc hy] at hnext
        have hle := (sumA_le sm (A.drop (j + 1)) (sumA sm (1, 0, out) (A.take (j + 1)))).1
        have happ : sumA sm (sumA sm (1, 0, out) (A.take (j + 1))) (A.drop (j + 1)) = r := by
          rw [← sumA_append, List.take_append_drop]; exact HR.out
        rw [happ] at hle
        rw [hx] at hnext hX1 hX2 hX3
        obtain ⟨x', hx'⟩ : ∃ x', sumA sm (1, 0, out) (A.take (j + 1)) = x' := ⟨_, rfl⟩
        rw [hx'] at hnext hle
        have hym := List.mem_of_getElem? hy
        obtain ⟨⟨a1, a2⟩, a3, a4⟩ := ha y hym
        obtain ⟨b1, b2, b3, b4⟩ := hb _ a2
        obtain ⟨r0, r1, r2⟩ := hR.2 _ a2
        obtain ⟨g, off, ea, hg, _, hcl⟩ := h.at_ hy
        subst ea
        obtain ⟨la, ou, tt⟩ := y
        dsimp only at a1 a2 a3 a4 b1 b2 b3 b4 r0 r1 r2
        obtain ⟨t, rfl⟩ : ∃ t : Nat, tt = (t : Int) := ⟨tt.toNat, by omega⟩
        rw [show ((t : Nat) : Int).toNat = t by omega] at a2 b1 b2 b3 b4 r0 r1 r2
        obtain ⟨⟨xw, xd, xt⟩, hxe⟩ : ∃ z, x = z := ⟨_, rfl⟩
        obtain ⟨⟨tw, td, tw2⟩, hte⟩ : ∃ z, sm t = z := ⟨_, rfl⟩
        rw [hxe] at hnext hX1 hX2 hX3
        rw [hte] at b1 b2 b3 b4 r0 r1 r2
        subst hxe
        dsimp only at hX1 hX2 hX3 b1 b2 b3 b4 r0 r1 r2
        have hnx : x' = (xw + tw, max xd (td + 1), max xt (ou + tw2)) := by
          rw [hnext]
          show sumA sm (xw + (sm ((t : Nat) : Int).toNat).1, max xd ((sm ((t : Nat) : Int).toNat).2.1 + 1), max xt (ou + (sm ((t : Nat) : Int).toNat).2.2)) [] = _
          rw [show ((t : Nat) : Int).toNat = t by omega, hte]
          rfl
        rw [hnx] at hle
        have hle : xw + tw ≤ 4096 := Nat.le_trans hle hr1
        obtain ⟨hbl, hbR, hbX⟩ := hL
        have hblq : Below Q w wr := by rw [← hQ]; exact hbl
        have hRQ : R < Q := by rw [← hQ]; exact hR.1
        rw [hQ] at hg
        have f0 : wr.cell? ⟨g, off + j * 3, none⟩ = some (.int .i32 la) := (hblq.cell (p := ⟨g, off + j * 3, none⟩) hg).trans (hcl 0 (by show 0 < 3; omega))
        have f1 : wr.cell? ⟨g, off + j * 3 + 1, none⟩ = some (.int .i64 ou) := (hblq.cell (p := ⟨g, off + j * 3 + 1, none⟩) hg).trans (hcl 1 (by show 1 < 3; omega))
        have f2 : wr.cell? ⟨g, off + j * 3 + 2, none⟩ = some (.int .i64 t) := (hblq.cell (p := ⟨g, off + j * 3 + 2, none⟩) hg).trans (hcl 2 (by show 2 < 3; omega))
        have s0 : wr.cell? ⟨R, t * 3, none⟩ = some (.int .i64 tw) := (hblq.cell (p := ⟨R, t * 3, none⟩) hRQ).trans r0
        have s1 : wr.cell? ⟨R, t * 3 + 1, none⟩ = some (.int .i64 td) := (hblq.cell (p := ⟨R, t * 3 + 1, none⟩) hRQ).trans r1
        have s2 : wr.cell? ⟨R, t * 3 + 2, none⟩ = some (.int .i64 tw2) := (hblq.cell (p := ⟨R, t * 3 + 2, none⟩) hRQ).trans r2
        have hf := three_cells f0 f1 f2
        obtain ⟨K2, hK2⟩ : ∃ K2, wr.heap.size = K2 := ⟨_, rfl⟩
        obtain ⟨W5, hW5⟩ : ∃ W5, wr.alloc (.cells #[.int .i32 la, .int .i64 ou, .int .i64 t] 63) = W5 := ⟨_, rfl⟩
        have hb5 : Below wr.heap.size wr W5 := by rw [← hW5]; exact (Below.refl _ _).alloc (Nat.le_refl _) _
        have hs5 : W5.heap.size = K2 + 1 := by rw [← hW5, ← hK2]; simp
        have bK2 : Blk W5 K2 63 #[.int .i32 la, .int .i64 ou, .int .i64 t] := by rw [← hW5, ← hK2]; exact Blk.alloc_new _ _ _
        obtain ⟨W6, hW6⟩ : ∃ W6, W5.alloc (.cells #[.int .i64 tw, .int .i64 td, .int .i64 tw2] 83) = W6 := ⟨_, rfl⟩
        have hb6 : Below W5.heap.size W5 W6 := by rw [← hW6]; exact (Below.refl _ _).alloc (Nat.le_refl _) _
        have bK3 : Blk W6 (K2 + 1) 83 #[.int .i64 tw, .int .i64 td, .int .i64 tw2] := by rw [← hW6, ← hs5]; exact Blk.alloc_new _ _ _
        have bK26 := bK2.below hb6 bK2.lt
        have bX5 := hbX.below hb5 hbX.lt
        have bX6 := bX5.below hb6 bX5.lt
        have bR5 := hbR.below hb5 hbR.lt
        have bR6 := bR5.below hb6 bR5.lt
        have hRw : R < wr.heap.size := Nat.lt_of_lt_of_le (by rw [hQ]; exact hRQ) hbl.size
        have s0 := (hb5.cell (p := ⟨R, t * 3, none⟩) hRw).trans s0
        have s1 := (hb5.cell (p := ⟨R, t * 3 + 1, none⟩) hRw).trans s1
        have s2 := (hb5.cell (p := ⟨R, t * 3 + 2, none⟩) hRw).trans s2
        have hs := three_cells s0 s1 s2
        have y2 : W5.cell? ⟨K2, 2, none⟩ = some (.int .i64 t) := (Blk.cell bK2 2).trans rfl
        have z0 : W6.cell? ⟨K2 + 1, 0, none⟩ = some (.int .i64 tw) := (Blk.cell bK3 0).trans rfl
        have x0 : W6.cell? ⟨Q + 1 + 1, 0, none⟩ = some (.int .i64 xw) := (Blk.cell bX6 0).trans rfl
        have x0f := Blk.free bX6 0
        have hbel6 : Below Q w W6 := by rw [← hQ]; exact (hbl.trans (hb5.mono hbl.size)).trans (hb6.mono (Nat.le_trans hbl.size hb5.size))
        have hQK : Q + 1 + 1 < K2 := by rw [← hK2]; exact hbX.lt
        have htN : (t : Int) < (N : Int) := by omega
        have hj0 : (0 : Int) ≤ (j : Int) := by omega
        have ht0 : (0 : Int) ≤ (t : Int) := by omega
        have HK := Lib.hid (And.intro hbel6 (And.intro bR6 (And.intro bX6 (And.intro bK26 (And.intro bK3 (And.intro hx' hnx))))))
        clear r0 r1 r2 hcl hym hy hnext happ hx hx' hnx HX hbl hbR hbX hb5 hb6 bK2 bK3 bK26 bX5 bX6 bR5 bR6 hRw hbel6
        go_upto_region 9 with fail
        obtain ⟨W7, hW7⟩ : ∃ W7, W6.setCell ⟨Q + 1 + 1, 0, none⟩ (.int .i64 ((xw : Int) + (tw : Int))) = W7 := ⟨_, rfl⟩
        rw [hW7]
        obtain ⟨hbel6, bR6, bX6, bK26, bK3, hx', hnx⟩ := HK.out
        have bX7 : Blk W7 (Q + 1 + 1) 83 #[.int .i64 ((xw : Int) + (tw : Int)), .int .i64 xd, .int .i64 xt] := by rw [← hW7]; exact bX6.set 0 _
        have bR7 : Blk W7 (Q + 1) 83 #[.int .i64 0, .int .i64 0, .int .i64 0] := by rw [← hW7]; exact bR6.other (a := ⟨Q + 1 + 1, 0, none⟩) (by show Q + 1 + 1 ≠ Q + 1; omega) _
        have bK27 : Blk W7 K2 63 #[.int .i32 la, .int .i64 ou, .int .i64 t] := by rw [← hW7]; exact bK26.other (a := ⟨Q + 1 + 1, 0, none⟩) (by show Q + 1 + 1 ≠ K2; omega) _
        have bK37 : Blk W7 (K2 + 1) 83 #[.int .i64 tw, .int .i64 td, .int .i64 tw2] := by rw [← hW7]; exact bK3.other (a := ⟨Q + 1 + 1, 0, none⟩) (by show Q + 1 + 1 ≠ K2 + 1; omega) _
        have hbel7 : Below Q w W7 := by rw [← hW7]; exact below_setW hbel6 (by omega)
        have x1 : W7.cell? ⟨Q + 1 + 1, 1, none⟩ = some (.int .i64 xd) := (Blk.cell bX7 1).trans rfl
        have x1f := Blk.free bX7 1
        have z1 : W7.cell? ⟨K2 + 1, 1, none⟩ = some (.int .i64 td) := (Blk.cell bK37 1).trans rfl
        have HK7 := Lib.hid (And.intro hbel7 (And.intro bR7 (And.intro bX7 (And.intro bK27 (And.intro bK37 (And.intro hx' hnx))))))
        clear hbel6 bR6 bX6 bK26 bK3 hx' hnx hbel7 bR7 bX7 bK27 bK37 HK hW7 x0 x0f z0 y2 hs s0 s1 s2 hf f0 f1 f2
        go_upto_region 10 with fail
        obtain ⟨md, hmd⟩ : ∃ md : Nat, max xd (td + 1) = md := ⟨_, rfl⟩
        have e8 : (if (xd : Int) < (td : Int) + 1 then (td : Int) + 1 else (xd : Int)) = (md : Int) := by split <;> omega
        rw [e8]
        obtain ⟨W8, hW8⟩ : ∃ W8, W7.setCell ⟨Q + 1 + 1, 1, none⟩ (.int .i64 md) = W8 := ⟨_, rfl⟩
        rw [hW8]
        obtain ⟨hbel7, bR7, bX7, bK27, bK37, hx', hnx⟩ := HK7.out
        have bX8 : Blk W8 (Q + 1 + 1) 83 #[.int .i64 ((xw : Int) + (tw : Int)), .int .i64 md, .int .i64 xt] := by rw [← hW8]; exact bX7.set 1 _
        have bR8 : Blk W8 (Q + 1) 83 #[.int .i64 0, .int .i64 0, .int .i64 0] := by rw [← hW8]; exact bR7.other (a := ⟨Q + 1 + 1, 1, none⟩) (by show Q + 1 + 1 ≠ Q + 1; omega) _
        have bK28 : Blk W8 K2 63 #[.int .i32 la, .int .i64 ou, .int .i64 t] := by rw [← hW8]; exact bK27.other (a := ⟨Q + 1 + 1, 1, none⟩) (by show Q + 1 + 1 ≠ K2; omega) _
        have bK38 : Blk W8 (K2 + 1) 83 #[.int .i64 tw, .int .i64 td, .int .i64 tw2] := by rw [← hW8]; exact bK37.other (a := ⟨Q + 1 + 1, 1, none⟩) (by show Q + 1 + 1 ≠ K2 + 1; omega) _
        have hbel8 : Below Q w W8 := by rw [← hW8]; exact below_setW hbel7 (by omega)
        have x2 : W8.cell? ⟨Q + 1 + 1, 2, none⟩ = some (.int .i64 xt) := (Blk.cell bX8 2).trans rfl
        have x2f := Blk.free bX8 2
        have z2 : W8.cell? ⟨K2 + 1, 2, none⟩ = some (.int .i64 tw2) := (Blk.cell bK38 2).trans rfl
        have y1 : W8.cell? ⟨K2, 1, none⟩ = some (.int .i64 ou) := (Blk.cell bK28 1).trans rfl
        have HK8 := Lib.hid (And.intro hbel8 (And.intro bR8 (And.intro bX8 (And.intro hmd (And.intro hx' hnx)))))
        clear hbel7 bR7 bX7 bK27 bK37 hx' hnx hbel8 bR8 bX8 bK28 bK38 HK7 hW8 x1 x1f z1 e8 hmd
        go_upto_region 11 with fail
        obtain ⟨mt, hmt⟩ : ∃ mt, max xt (ou + tw2) = mt := ⟨_, rfl⟩
        have e9 : (if xt < ou + tw2 then ou + tw2 else xt) = mt := by split <;> omega
        rw [e9]
        obtain ⟨W9, hW9⟩ : ∃ W9, W8.setCell ⟨Q + 1 + 1, 2, none⟩ (.int .i64 mt) = W9 := ⟨_, rfl⟩
        rw [hW9]
        obtain ⟨hbel8, bR8, bX8, hmd, hx', hnx⟩ := HK8.out
        have bX9 : Blk W9 (Q + 1 + 1) 83 #[.int .i64 ((xw : Int) + (tw : Int)), .int .i64 md, .int .i64 mt] := by rw [← hW9]; exact bX8.set 2 _
        have bR9 : Blk W9 (Q + 1) 83 #[.int .i64 0, .int .i64 0, .int .i64 0] := by rw [← hW9]; exact bR8.other (a := ⟨Q + 1 + 1, 2, none⟩) (by show Q + 1 + 1 ≠ Q + 1; omega) _
        have hbel9 : Below Q w W9 := by rw [← hW9]; exact below_setW hbel8 (by omega)
        have v0 : W9.cell? ⟨Q + 1 + 1, 0, none⟩ = some (.int .i64 ((xw : Int) + (tw : Int))) := (Blk.cell bX9 0).trans rfl
        have hfin : ∃ x, sumA sm (1, 0, out) (A.take (j + 1)) = x ∧ SumLp W9 w Q x := by
          refine ⟨_, hx', ?_⟩
          rw [hnx, hmd, hmt]
          refine ⟨by rw [hQ]; exact hbel9, bR9, ?_⟩
          have e : ((xw + tw : Nat) : Int) = (xw : Int) + (tw : Int) := by push_cast; rfl
          show Blk W9 (Q + 1 + 1) _ #[.int .i64 ((xw + tw : Nat) : Int), _, _]
          rw [e]
          exact bX9
        have HF := Lib.hid hfin
        clear hbel8 bR8 bX8 hx' hnx bX9 bR9 hbel9 hW9 x2 x2f z2 y1 e9 hmd hmt HK8 hfin
        have hle2 : (xw : Int) + (tw : Int) ≤ 4096 := by omega
        go_wp2_with fail
        exact ⟨⟨j + 1, rfl, by omega, HF⟩, by simp [intOf]; omega⟩
      · have hje : j = n := by omega
        subst hje
        obtain ⟨x, hx, hL⟩ := HX.out
        rw [List.take_of_length_le (by omega)] at hx
        rw [HR.out] at hx
        subst hx
        obtain ⟨⟨rw_, rd, rt⟩, hre⟩ : ∃ z, r = z := ⟨_, rfl⟩
        subst hre
        dsimp only at hr1 hr2 hr3
        obtain ⟨hbl, hbR, hbX⟩ := hL
        dsimp only at hbX
        have x0 : wr.cell? ⟨Q + 1 + 1, 0, none⟩ = some (.int .i64 rw_) := (Blk.cell hbX 0).trans rfl
        have x1 : wr.cell? ⟨Q + 1 + 1, 1, none⟩ = some (.int .i64 rd) := (Blk.cell hbX 1).trans rfl
        have x2 : wr.cell? ⟨Q + 1 + 1, 2, none⟩ = some (.int .i64 rt) := (Blk.cell hbX 2).trans rfl
        have s0 : wr.cell? ⟨Q + 1, 0, none⟩ = some (.int .i64 0) := (Blk.cell hbR 0).trans rfl
        have s1 : wr.cell? ⟨Q + 1, 1, none⟩ = some (.int .i64 0) := (Blk.cell hbR 1).trans rfl
        have s2 : wr.cell? ⟨Q + 1, 2, none⟩ = some (.int .i64 0) := (Blk.cell hbR 2).trans rfl
        have g0 := Blk.free hbR 0
        have g1 := Blk.free hbR 1
        have g2 := Blk.free hbR 2
        have hx3 := three_cells x0 x1 x2
        have d1 : (rd : Int) ≤ 24 := by omega
        have HL := Lib.hid (And.intro hbl hbR)
        clear hbl hbR hbX HX HR hb ha h hR
        go_wp2_with fail
        go_region
        go_wp2_with fail
        obtain ⟨hbl, hbR⟩ := HL.out
        refine bodyPost_ret (results_cellT rfl _ _ (Q + 1) rfl _ rfl _ _ (((hbR.set 0 _).set 1 _).set 2 _) _ Tryd.underlying83 rfl size_sums) rfl ?_
        exact ⟨rfl, Below.drew (below_setW (below_setW (below_setW hbl (by rw [hQ]; omega)) (by rw [hQ]; omega)) (by rw [hQ]; omega))⟩
  | false =>
    have hsz3 : Below w.heap.size w (((w.alloc (.cells #[.bool false, .int .i64 out, .slice a n cp] 61)).alloc (.cells #[.int .i64 0, .int .i64 0, .int .i64 0] 83)).alloc (.cells #[.int .i64 0, .int .i64 0, .int .i64 out] 83)) := (two_under _ _ _).alloc (by simp; omega) _
    have bX0 := Blk.alloc_new ((w.alloc (.cells #[.bool false, .int .i64 out, .slice a n cp] 61)).alloc (.cells #[.int .i64 0, .int .i64 0, .int .i64 0] 83)) #[.int .i64 0, .int .i64 0, .int .i64 out] 83
    have bR0 : Blk (((w.alloc (.cells #[.bool false, .int .i64 out, .slice a n cp] 61)).alloc (.cells #[.int .i64 0, .int .i64 0, .int .i64 0] 83)).alloc (.cells #[.int .i64 0, .int .i64 0, .int .i64 out] 83)) (w.heap.size + 1) 83 #[.int .i64 0, .int .i64 0, .int .i64 0] := (two_blk _ _ _ _).below ((Below.refl _ _).alloc (Nat.le_refl _) _) (by simp)
    have bX0 : Blk (((w.alloc (.cells #[.bool false, .int .i64 out, .slice a n cp] 61)).alloc (.cells #[.int .i64 0, .int .i64 0, .int .i64 0] 83)).alloc (.cells #[.int .i64 0, .int .i64 0, .int .i64 out] 83)) (w.heap.size + 1 + 1) 83 #[.int .i64 0, .int .i64 0, .int .i64 out] := by simpa using bX0
    have HB := Lib.hid (And.intro hsz3 (And.intro bR0 bX0))
    have HR := Lib.hid (show sumA sm (0, 0, out) A = r from hr)
    clear hsz3 bR0 bX0 hr
    go_wp2_with fail
    obtain ⟨Q, hQ⟩ : ∃ Q, w.heap.size = Q := ⟨_, rfl⟩
    rw [hQ]
    go_loopw [19] (fun x19 wr => ∃ (j : Nat), x19 = .int .i64 j ∧ j ≤ n ∧ Hid (∃ x, sumA sm (0, 0, out) (A.take j) = x ∧ SumLp wr w Q x))  (fun x19 _ => n - (intOf x19).toNat)
    case atStart =>
      refine ⟨0, rfl, Nat.zero_le _, Lib.hid ⟨_, rfl, ?_⟩⟩
      rw [← hQ]
      exact ⟨HB.out.1, HB.out.2.1, HB.out.2.2⟩
    case round =>
      clear HB
      obtain ⟨j, rfl, hj, HX⟩ := hrel
      by_cases hlt : (j : Int) < (n : Int)
      · obtain ⟨y, hy⟩ : ∃ y, A[j]? = some y := ⟨_, List.getElem?_eq_getElem (by omega)⟩
        obtain ⟨x, hx, hL⟩ := HX.out
        obtain ⟨hX1, hX2, hX3⟩ := sumA_bounds hb (A.take j) (0, 0, out) (fun b hb' => ⟨(ha b (List.mem_of_mem_take hb')).1.2, (ha b (List.mem_of_mem_take hb')).2⟩) (by dsimp only; omega) (by dsimp only; omega) (by dsimp only; omega)
        have hnext := sumA_snoc sm (A.take j) (0, 0, out) y
        rw [← take_snoc hy] at hnext
        have hle := (sumA_le sm (A.drop (j + 1)) (sumA sm (0, 0, out) (A.take (j + 1)))).1
        have happ : sumA sm (sumA sm (0, 0, out) (A.take (j + 1))) (A.drop (j + 1)) = r := by
          rw [← sumA_append, List.take_append_drop]; exact HR.out
        rw [happ] at hle
        rw [hx] at hnext hX1 hX2 hX3
        obtain ⟨x', hx'⟩ : ∃ x', sumA sm (0, 0, out) (A.take (j + 1)) = x' := ⟨_, rfl⟩
        rw [hx'] at hnext hle
        have hym := List.mem_of_getElem? hy
        obtain ⟨⟨a1, a2⟩, a3, a4⟩ := ha y hym
        obtain ⟨b1, b2, b3, b4⟩ := hb _ a2
        obtain ⟨r0, r1, r2⟩ := hR.2 _ a2
        obtain ⟨g, off, ea, hg, _, hcl⟩ := h.at_ hy
        subst ea
        obtain ⟨la, ou, tt⟩ := y
        dsimp only at a1 a2 a3 a4 b1 b2 b3 b4 r0 r1 r2
        obtain ⟨t, rfl⟩ : ∃ t : Nat, tt = (t : Int) := ⟨tt.toNat, by omega⟩
        rw [show ((t : Nat) : Int).toNat = t by omega] at a2 b1 b2 b3 b4 r0 r1 r2
        obtain ⟨⟨xw, xd, xt⟩, hxe⟩ : ∃ z, x = z := ⟨_, rfl⟩
        obtain ⟨⟨tw, td, tw2⟩, hte⟩ : ∃ z, sm t = z := ⟨_, rfl⟩
        rw [hxe] at hnext hX1 hX2 hX3
        rw [hte] at b1 b2 b3 b4 r0 r1 r2
        subst hxe
        dsimp only at hX1 hX2 hX3 b1 b2 b3 b4 r0 r1 r2
        have hnx : x' = (xw + tw, max xd (td + 1), max xt (ou + tw2)) := by
          rw [hnext]
          show sumA sm (xw + (sm ((t : Nat) : Int).toNat).1, max xd ((sm ((t : Nat) : Int).toNat).2.1 + 1), max xt (ou + (sm ((t : Nat) : Int).toNat).2.2)) [] = _
          rw [show ((t : Nat) : Int).toNat = t by omega, hte]
          rfl
        rw [hnx] at hle
        have hle : xw + tw ≤ 4096 := Nat.le_trans hle hr1
        obtain ⟨hbl, hbR, hbX⟩ := hL
        have hblq : Below Q w wr := by rw [← hQ]; exact hbl
        have hRQ : R < Q := by rw [← hQ]; exact hR.1
        rw [hQ] at hg
        have f0 : wr.cell? ⟨g, off + j * 3, none⟩ = some (.int .i32 la) := (hblq.cell (p := ⟨g, off + j * 3, none⟩) hg).trans (hcl 0 (by show 0 < 3; omega))
        have f1 : wr.cell? ⟨g, off + j * 3 + 1, none⟩ = some (.int .i64 ou) := (hblq.cell (p := ⟨g, off + j * 3 + 1, none⟩) hg).trans (hcl 1 (by show 1 < 3; omega))
        have f2 : wr.cell? ⟨g, off + j * 3 + 2, none⟩ = some (.int .i64 t) := (hblq.cell (p := ⟨g, off + j * 3 + 2, none⟩) hg).trans (hcl 2 (by show 2 < 3; omega))
        have s0 : wr.cell? ⟨R, t * 3, none⟩ = some (.int .i64 tw) := (hblq.cell (p := ⟨R, t * 3, none⟩) hRQ).trans r0
        have s1 : wr.cell? ⟨R, t * 3 + 1, none⟩ = some (.int .i64 td) := (hblq.cell (p := ⟨R, t * 3 + 1, none⟩) hRQ).trans r1
        have s2 : wr.cell? ⟨R, t * 3 + 2, none⟩ = some (.int .i64 tw2) := (hblq.cell (p := ⟨R, t * 3 + 2, none⟩) hRQ).trans r2
        have hf := three_cells f0 f1 f2
        obtain ⟨K2, hK2⟩ : ∃ K2, wr.heap.size = K2 := ⟨_, rfl⟩
        obtain ⟨W5, hW5⟩ : ∃ W5, wr.alloc (.cells #[.int .i32 la, .int .i64 ou, .int .i64 t] 63) = W5 := ⟨_, rfl⟩
        have hb5 : Below wr.heap.size wr W5 := by rw [← hW5]; exact (Below.refl _ _).alloc (Nat.le_refl _) _
        have hs5 : W5.heap.size = K2 + 1 := by rw [← hW5, ← hK2]; simp
        have bK2 : Blk W5 K2 63 #[.int .i32 la, .int .i64 ou, .int .i64 t] := by rw [← hW5, ← hK2]; exact Blk.alloc_new _ _ _
        obtain ⟨W6, hW6⟩ : ∃ W6, W5.alloc (.cells #[.int .i64 tw, .int .i64 td, .int .i64 tw2] 83) = W6 := ⟨_, rfl⟩
        have hb6 : Below W5.heap.size W5 W6 := by rw [← hW6]; exact (Below.refl _ _).alloc (Nat.le_refl _) _
        have bK3 : Blk W6 (K2 + 1) 83 #[.int .i64 tw, .int .i64 td, .int .i64 tw2] := by rw [← hW6, ← hs5]; exact Blk.alloc_new _ _ _
        have bK26 := bK2.below hb6 bK2.lt
        have bX5 := hbX.below hb5 hbX.lt
        have bX6 := bX5.below hb6 bX5.lt
        have bR5 := hbR.below hb5 hbR.lt
        have bR6 := bR5.below hb6 bR5.lt
        have hRw : R < wr.heap.size := Nat.lt_of_lt_of_le (by rw [hQ]; exact hRQ) hbl.size
        have s0 := (hb5.cell (p := ⟨R, t * 3, none⟩) hRw).trans s0
        have s1 := (hb5.cell (p := ⟨R, t * 3 + 1, none⟩) hRw).trans s1
        have s2 := (hb5.cell (p := ⟨R, t * 3 + 2, none⟩) hRw).trans s2
        have hs := three_cells s0 s1 s2
        have y2 : W5.cell? ⟨K2, 2, none⟩ = some (.int .i64 t) := (Blk.cell bK2 2).trans rfl
        have z0 : W6.cell? ⟨K2 + 1, 0, none⟩ = some (.int .i64 tw) := (Blk.cell bK3 0).trans rfl
        have x0 : W6.cell? ⟨Q + 1 + 1, 0, none⟩ = some (.int .i64 xw) := (Blk.cell bX6 0).trans rfl
        have x0f := Blk.free bX6 0
        have hbel6 : Below Q w W6 := by rw [← hQ]; exact (hbl.trans (hb5.mono hbl.size)).trans (hb6.mono (Nat.le_trans hbl.size hb5.size))
        have hQK : Q + 1 + 1 < K2 := by rw [← hK2]; exact hbX.lt
        have htN : (t : Int) < (N : Int) := by omega
        have hj0 : (0 : Int) ≤ (j : Int) := by omega
        have ht0 : (0 : Int) ≤ (t : Int) := by omega
        have HK := Lib.hid (And.intro hbel6 (And.intro bR6 (And.intro bX6 (And.intro bK26 (And.intro bK3 (And.intro hx' hnx))))))
        clear r0 r1 r2 hcl hym hy hnext happ hx hx' hnx HX hbl hbR hbX hb5 hb6 bK2 bK3 bK26 bX5 bX6 bR5 bR6 hRw hbel6
        go_upto_region 9 with fail
        obtain ⟨W7, hW7⟩ : ∃ W7, W6.setCell ⟨Q + 1 + 1, 0, none⟩ (.int .i64 ((xw : Int) + (tw : Int))) = W7 := ⟨_, rfl⟩
        rw [hW7]
        obtain ⟨hbel6, bR6, bX6, bK26, bK3, hx', hnx⟩ := HK.out
        have bX7 : Blk W7 (Q + 1 + 1) 83 #[.int .i64 ((xw : Int) + (tw : Int)), .int .i64 xd, .int .i64 xt] := by rw [← hW7]; exact bX6.set 0 _
        have bR7 : Blk W7 (Q + 1) 83 #[.int .i64 0, .int .i64 0, .int .i64 0] := by rw [← hW7]; exact bR6.other (a := ⟨Q + 1 + 1, 0, none⟩) (by show Q + 1 + 1 ≠ Q + 1; omega) _
        have bK27 : Blk W7 K2 63 #[.int .i32 la, .int .i64 ou, .int .i64 t] := by rw [← hW7]; exact bK26.other (a := ⟨Q + 1 + 1, 0, none⟩) (by show Q + 1 + 1 ≠ K2; omega) _
        have bK37 : Blk W7 (K2 + 1) 83 #[.int .i64 tw, .int .i64 td, .int .i64 tw2] := by rw [← hW7]; exact bK3.other (a := ⟨Q + 1 + 1, 0, none⟩) (by show Q + 1 + 1 ≠ K2 + 1; omega) _
        have hbel7 : Below Q w W7 := by rw [← hW7]; exact below_setW hbel6 (by omega)
        have x1 : W7.cell? ⟨Q + 1 + 1, 1, none⟩ = some (.int .i64 xd) := (Blk.cell bX7 1).trans rfl
        have x1f := Blk.free bX7 1
        have z1 : W7.cell? ⟨K2 + 1, 1, none⟩ = some (.int .i64 td) := (Blk.cell bK37 1).trans rfl
        have HK7 := Lib.hid (And.intro hbel7 (And.intro bR7 (And.intro bX7 (And.intro bK27 (And.intro bK37 (And.intro hx' hnx))))))
        clear hbel6 bR6 bX6 bK26 bK3 hx' hnx hbel7 bR7 bX7 bK27 bK37 HK hW7 x0 x0f z0 y2 hs s0 s1 s2 hf f0 f1 f2
        go_upto_region 10 with fail
        obtain ⟨md, hmd⟩ : ∃ md : Nat, max xd (td + 1) = md := ⟨_, rfl⟩
        have e8 : (if (xd : Int) < (td : Int) + 1 then (td : Int) + 1 else (xd : Int)) = (md : Int) := by split <;> omega
        rw [e8]
        obtain ⟨W8, hW8⟩ : ∃ W8, W7.setCell ⟨Q + 1 + 1, 1, none⟩ (.int .i64 md) = W8 := ⟨_, rfl⟩
        rw [hW8]
        obtain ⟨hbel7, bR7, bX7, bK27, bK37, hx', hnx⟩ := HK7.out
        have bX8 : Blk W8 (Q + 1 + 1) 83 #[.int .i64 ((xw : Int) + (tw : Int)), .int .i64 md, .int .i64 xt] := by rw [← hW8]; exact bX7.set 1 _
        have bR8 : Blk W8 (Q + 1) 83 #[.int .i64 0, .int .i64 0, .int .i64 0] := by rw [← hW8]; exact bR7.other (a := ⟨Q + 1 + 1, 1, none⟩) (by show Q + 1 + 1 ≠ Q + 1; omega) _
        have bK28 : Blk W8 K2 63 #[.int .i32 la, .int .i64 ou, .int .i64 t] := by rw [← hW8]; exact bK27.other (a := ⟨Q + 1 + 1, 1, none⟩) (by show Q + 1 + 1 ≠ K2; omega) _
        have bK38 : Blk W8 (K2 + 1) 83 #[.int .i64 tw, .int .i64 td, .int .i64 tw2] := by rw [← hW8]; exact bK37.other (a := ⟨Q + 1 + 1, 1, none⟩) (by show Q + 1 + 1 ≠ K2 + 1; omega) _
        have hbel8 : Below Q w W8 := by rw [← hW8]; exact below_setW hbel7 (by omega)
        have x2 : W8.cell? ⟨Q + 1 + 1, 2, none⟩ = some (.int .i64 xt) := (Blk.cell bX8 2).trans rfl
        have x2f := Blk.free bX8 2
        have z2 : W8.cell? ⟨K2 + 1, 2, none⟩ = some (.int .i64 tw2) := (Blk.cell bK38 2).trans rfl
        have y1 : W8.cell? ⟨K2, 1, none⟩ = some (.int .i64 ou) := (Blk.cell bK28 1).trans rfl
        have HK8 := Lib.hid (And.intro hbel8 (And.intro bR8 (And.intro bX8 (And.intro hmd (And.intro hx' hnx)))))
        clear hbel7 bR7 bX7 bK27 bK37 hx' hnx hbel8 bR8 bX8 bK28 bK38 HK7 hW8 x1 x1f z1 e8 hmd
        go_upto_region 11 with fail
        obtain ⟨mt, hmt⟩ : ∃ mt, max xt (ou + tw2) = mt := ⟨_, rfl⟩
        have e9 : (if xt < ou + tw2 then ou + tw2 else xt) = mt := by split <;> omega
        rw [e9]
        obtain ⟨W9, hW9⟩ : ∃ W9, W8.setCell ⟨Q + 1 + 1, 2, none⟩ (.int .i64 mt) = W9 := ⟨_, rfl⟩
        rw [hW9]
        obtain ⟨hbel8, bR8, bX8, hmd, hx', hnx⟩ := HK8.out
        have bX9 : Blk W9 (Q + 1 + 1) 83 #[.int .i64 ((xw : Int) + (tw : Int)), .int .i64 md, .int .i64 mt] := by rw [← hW9]; exact bX8.set 2 _
        have bR9 : Blk W9 (Q + 1) 83 #[.int .i64 0, .int .i64 0, .int .i64 0] := by rw [← hW9]; exact bR8.other (a := ⟨Q + 1 + 1, 2, none⟩) (by show Q + 1 + 1 ≠ Q + 1; omega) _
        have hbel9 : Below Q w W9 := by rw [← hW9]; exact below_setW hbel8 (by omega)
        have v0 : W9.cell? ⟨Q + 1 + 1, 0, none⟩ = some (.int .i64 ((xw : Int) + (tw : Int))) := (Blk.cell bX9 0).trans rfl
        have hfin : ∃ x, sumA sm (0, 0, out) (A.take (j + 1)) = x ∧ SumLp W9 w Q x := by
          refine ⟨_, hx', ?_⟩
          rw [hnx, hmd, hmt]
          refine ⟨by rw [hQ]; exact hbel9, bR9, ?_⟩
          have e : ((xw + tw : Nat) : Int) = (xw : Int) + (tw : Int) := by push_cast; rfl
          show Blk W9 (Q + 1 + 1) _ #[.int .i64 ((xw + tw : Nat) : Int), _, _]
          rw [e]
          exact bX9
        have HF := Lib.hid hfin
        clear hbel8 bR8 bX8 hx' hnx bX9 bR9 hbel9 hW9 x2 x2f z2 y1 e9 hmd hmt HK8 hfin
        have hle2 : (xw : Int) + (tw : Int) ≤ 4096 := by omega
        go_wp2_with fail
        exact ⟨⟨j + 1, rfl, by omega, HF⟩, by simp [intOf]; omega⟩
      · have hje : j = n := by omega
        subst hje
        obtain ⟨x, hx, hL⟩ := HX.out
        rw [List.take_of_length_le (by omega)] at hx
        rw [HR.out] at hx
        subst hx
        obtain ⟨⟨rw_, rd, rt⟩, hre⟩ : ∃ z, r = z := ⟨_, rfl⟩
        subst hre
        dsimp only at hr1 hr2 hr3
        obtain ⟨hbl, hbR, hbX⟩ := hL
        dsimp only at hbX
        have x0 : wr.cell? ⟨Q + 1 + 1, 0, none⟩ = some (.int .i64 rw_) := (Blk.cell hbX 0).trans rfl
        have x1 : wr.cell? ⟨Q + 1 + 1, 1, none⟩ = some (.int .i64 rd) := (Blk.cell hbX 1).trans rfl
        have x2 : wr.cell? ⟨Q + 1 + 1, 2, none⟩ = some (.int .i64 rt) := (Blk.cell hbX 2).trans rfl
        have s0 : wr.cell? ⟨Q + 1, 0, none⟩ = some (.int .i64 0) := (Blk.cell hbR 0).trans rfl
        have s1 : wr.cell? ⟨Q + 1, 1, none⟩ = some (.int .i64 0) := (Blk.cell hbR 1).trans rfl
        have s2 : wr.cell? ⟨Q + 1, 2, none⟩ = some (.int .i64 0) := (Blk.cell hbR 2).trans rfl
        have g0 := Blk.free hbR 0
        have g1 := Blk.free hbR 1
        have g2 := Blk.free hbR 2
        have hx3 := three_cells x0 x1 x2
        have d1 : (rd : Int) ≤ 24 := by omega
        have HL := Lib.hid (And.intro hbl hbR)
        clear hbl hbR hbX HX HR hb ha h hR
        go_wp2_with fail
        go_region
        go_wp2_with fail
        obtain ⟨hbl, hbR⟩ := HL.out
        refine bodyPost_ret (results_cellT rfl _ _ (Q + 1) rfl _ rfl _ _ (((hbR.set 0 _).set 1 _).set 2 _) _ Tryd.underlying83 rfl size_sums) rfl ?_
        exact ⟨rfl, Below.drew (below_setW (below_setW (below_setW hbl (by rw [hQ]; omega)) (by rw [hQ]; omega)) (by rw [hQ]; omega))⟩
end Go.Proofs.YtkibkbbjpgomlaaDoor.F
