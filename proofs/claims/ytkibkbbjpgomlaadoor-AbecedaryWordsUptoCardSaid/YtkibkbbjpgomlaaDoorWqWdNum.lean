/-
  WdNum.
-/
import Derived.Test.YtkibkbbjpgomlaaDoorWqWdVis
import Derived.OwnWalk
namespace Go.Proofs.YtkibkbbjpgomlaaDoor.F
open Go.RowKit Go.Shelf Go.Maps
open Aid L LM
set_option linter.unusedSimpArgs false
set_option linter.unusedVariables false
attribute [local go_sem] Oper.semAt_some

theorem run_store_fn {P : Program} {w : World} {a : Addr} {m : Mode} (f : Fn) (x y : Array Value) : (store a (.func f x y) m).run P w = stored P w a (.func f x y) m := run_store P w a _ m rfl
attribute [local go_sem] run_store_fn
theorem info_bool : (Tryd.prog.info? 4).map (fun i => (i.zero, i.size, i.bytes)) = some (some (.bool false), 1, 1) := by kernel_rfl
theorem seenA_zero (N : Nat) : Array.replicate N (.bool false) = seenA N 0 := by
  apply Array.ext
  · simp [seenA]
  · intro j h1 h2
    simp [seenA]
set_option maxRecDepth 100000 in
set_option maxHeartbeats 8000000 in
theorem numbered_any (B : Int) (sv : Value) (S : List StM) (w : World) (hS : StatesAre (fun _ => False) w sv S) (hM : MachOk B S) :
    Calls Tryd.prog 36 #[.agg #[.int .i64 B, sv]] w fun e w' => e = .returned (.bool true) ∧ Below w.heap.size w w' := by
  obtain ⟨a, cp, rfl⟩ := hS.slice
  have hpos := hM.pos
  have hfew := hM.few
  obtain ⟨N, hN⟩ : ∃ N, S.length = N := ⟨_, rfl⟩
  have hpost := hM.post
  have hI := hM.inv
  rw [hN] at hpos hfew hpost ⊢
  rw [hN] at hS
  obtain ⟨ib, hib, hz0, hz1, hz2⟩ := info_parts info_bool
  have hmf : ∀ (fn : Fn) (first cap : Array Value) (w : World), (Instr.makeFunc fn first cap).run Tryd.prog w = .ok (.func fn first cap) w := fun _ _ _ _ => rfl
  obtain ⟨W2, hW2⟩ : ∃ W2, (w.alloc (.cells #[.int .i64 B, .slice a N cp] 25)).alloc (.cells #[.int .i64 0] 3) = W2 := ⟨_, rfl⟩
  have hb2 : Below w.heap.size w W2 := by rw [← hW2]; exact two_under _ _ _
  have hs2 : W2.heap.size = w.heap.size + 2 := by rw [← hW2]; simp
  have bM : Blk W2 w.heap.size 25 #[.int .i64 B, .slice a N cp] := by rw [← hW2]; exact (Blk.alloc_new _ _ _).below ((Below.refl _ _).alloc (Nat.le_refl _) _) (by simp)
  have bN : Blk W2 (w.heap.size + 1) 3 #[.int .i64 0] := by rw [← hW2]; exact two_blk _ _ _ _
  have HB2 := Lib.hid (And.intro hb2 (And.intro hs2 (And.intro bM bN)))
  have HS := Lib.hid hS
  have HP := Lib.hid (And.intro hpost (And.intro hI hN))
  have HW2 := Lib.hid hW2
  clear hb2 hs2 bM bN hS hpost hI hN hM hW2
  go_enter Tryd.func36, Tryd.ntmps36
  go_upto_region 2 with fail
  rw [HW2.out]
  obtain ⟨Q, hQ⟩ : ∃ Q, w.heap.size = Q := ⟨_, rfl⟩
  rw [hQ]
  obtain ⟨hb2, hs2, bM, bN⟩ := HB2.out
  rw [hQ] at hs2 bM bN hb2
  have m1 : W2.cell? ⟨Q, 1, none⟩ = some (.slice a N cp) := (Blk.cell bM 1).trans rfl
  have HB3 := Lib.hid (And.intro hb2 (And.intro bM bN))
  clear hb2 bM bN HB2
  go_upto_region 4 with (at_make; refine wpList_makeN _ (by rfl) _ _ 109 rfl 4 ib (.bool false) Tryd.underlying109 hib hz0 hz1 rfl _ _ rfl rfl N rfl rfl (by rw [hz2]; omega) (by unfold maxLen; omega) ?_; intro w3 hblk hb3 hsz3; rw [hs2] at hblk hsz3 ⊢; have m1 := (hb3.cell (p := ⟨Q, 1, none⟩) (by rw [hs2]; show Q < Q + 2; omega)).trans m1)
  obtain ⟨W4, hW4⟩ : ∃ W4, (w3.alloc (.cells #[.slice (some ⟨Q + 2, 0, none⟩) N N] 109)).alloc (.cells #[.nilFunc] 110) = W4 := ⟨_, rfl⟩
  have hb4 : Below w3.heap.size w3 W4 := by rw [← hW4]; exact two_under _ _ _
  have bS4 : Blk W4 (Q + 2 + 1) 109 #[.slice (some ⟨Q + 2, 0, none⟩) N N] := by
    rw [← hW4, ← hsz3]
    exact (Blk.alloc_new _ _ _).below ((Below.refl _ _).alloc (Nat.le_refl _) _) (by simp)
  have bV4 : Blk W4 (Q + 2 + 1 + 1) 110 #[.nilFunc] := by rw [← hW4, ← hsz3]; exact two_blk _ _ _ _
  rw [hW4]
  have v4 : W4.cell? ⟨Q + 2 + 1 + 1, 0, none⟩ = some .nilFunc := (Blk.cell bV4 0).trans rfl
  have v4f := Blk.free bV4 0
  go_upto_region 5 with fail
  obtain ⟨W5, hW5⟩ : ∃ W5, W4.setCell ⟨Q + 2 + 1 + 1, 0, none⟩ (.func (.func 46) #[] #[.pointer (some ⟨Q, 0, none⟩), .pointer (some ⟨Q + 2 + 1, 0, none⟩), .pointer (some ⟨Q + 2 + 1 + 1, 0, none⟩), .pointer (some ⟨Q + 1, 0, none⟩)]) = W5 := ⟨_, rfl⟩
  rw [hW5]
  obtain ⟨hb2, bM, bN⟩ := HB3.out
  have hN := HP.out.2.2
  have hsz2 : Q ≤ W2.heap.size := by omega
  have hbQ : Below Q w W4 := (hb2.trans (hb3.mono hsz2)).trans (hb4.mono (by rw [hsz3]; omega))
  have hb24 : Below W2.heap.size W2 W4 := hb3.trans (hb4.mono hb3.size)
  have hbQ5 : Below Q w W5 := by rw [← hW5]; exact below_setW hbQ (by omega)
  have bM5 : Blk W5 Q 25 #[.int .i64 B, .slice a N cp] := by rw [← hW5]; exact (bM.below hb24 bM.lt).other (a := ⟨Q + 2 + 1 + 1, 0, none⟩) (by show Q + 2 + 1 + 1 ≠ Q; omega) _
  have bN5 : Blk W5 (Q + 1) 3 #[.int .i64 0] := by rw [← hW5]; exact (bN.below hb24 bN.lt).other (a := ⟨Q + 2 + 1 + 1, 0, none⟩) (by show Q + 2 + 1 + 1 ≠ Q + 1; omega) _
  have bS5 : Blk W5 (Q + 2 + 1) 109 #[.slice (some ⟨Q + 2, 0, none⟩) N N] := by rw [← hW5]; exact bS4.other (a := ⟨Q + 2 + 1 + 1, 0, none⟩) (by show Q + 2 + 1 + 1 ≠ Q + 2 + 1; omega) _
  have bR5 : Blk W5 (Q + 2) 4 (seenA N 0) := by rw [← hW5, ← seenA_zero]; exact (hblk.below hb4 hblk.lt).other (a := ⟨Q + 2 + 1 + 1, 0, none⟩) (by show Q + 2 + 1 + 1 ≠ Q + 2; omega) _
  have bV5 : Blk W5 (Q + 2 + 1 + 1) 110 #[.func (.func 46) #[] #[.pointer (some ⟨Q, 0, none⟩), .pointer (some ⟨Q + 2 + 1, 0, none⟩), .pointer (some ⟨Q + 2 + 1 + 1, 0, none⟩), .pointer (some ⟨Q + 1, 0, none⟩)]] := by rw [← hW5]; exact bV4.set 0 _
  have hV : Vis Q (Q + 2 + 1) (Q + 2 + 1 + 1) (Q + 1) (Q + 2) B (.slice a N cp) S W5 0 :=
    ⟨bM5, HS.out.turn (Turn.of_below (O := fun _ => False) (by rw [hQ]; exact hbQ5)) (fun x hx h => by rw [hQ] at hx; omega), by rw [hN]; exact bS5, by rw [hN]; exact bR5, bV5, bN5, by omega⟩
  have hC := visit_any Q (Q + 2 + 1) (Q + 2 + 1 + 1) (Q + 1) (Q + 2) B (.slice a N cp) S HP.out.2.1 25 0 (N - 1) N W5 HP.out.1 (by omega) hV
  have hcast : ((N - 1 : Nat) : Int) = (N : Int) - 1 := by omega
  rw [hcast] at hC
  have HC := Lib.hid hC
  have HQ5 := Lib.hid hbQ5
  have m2 : W5.cell? ⟨Q, 1, none⟩ = some (.slice a N cp) := (Blk.cell bM5 1).trans rfl
  have v5 : W5.cell? ⟨Q + 2 + 1 + 1, 0, none⟩ = some (.func (.func 46) #[] #[.pointer (some ⟨Q, 0, none⟩), .pointer (some ⟨Q + 2 + 1, 0, none⟩), .pointer (some ⟨Q + 2 + 1 + 1, 0, none⟩), .pointer (some ⟨Q + 1, 0, none⟩)]) := (Blk.cell bV5 0).trans rfl
  clear hb2 bM bN hbQ hb24 hbQ5 bM5 bN5 bS5 bR5 bV5 hV hC hcast hN hsz2 bS4 bV4 hblk hb3 hb4 hW4 hW5 v4 v4f m1 hs2 hsz3 hib hz0 hz1 hz2 hmf HB3 HW2
  go_wp2_with fail
  refine HC.out.mono ?_
  rintro e w6 ⟨rfl, hV6, hT6⟩
  have m3 : w6.cell? ⟨Q, 1, none⟩ = some (.slice a N cp) := (Blk.cell hV6.mb 1).trans rfl
  have x3 : w6.cell? ⟨Q + 1, 0, none⟩ = some (.int .i64 N) := (Blk.cell hV6.nb 0).trans rfl
  have HFIN := Lib.hid (show Below w.heap.size w w6 by
    rw [hQ]
    have h5 := HQ5.out
    have h6 := h5.size
    exact ⟨hT6.os.trans h5.os, hT6.tape.trans h5.tape, hT6.output.trans h5.output, Nat.le_trans h5.size hT6.size, fun x hx => (hT6.kept x (by omega) (by omega)).trans (h5.block x hx)⟩)
  clear hV6 hT6 HC HQ5 m2 v5
  go_wp2_with fail
  go_ret
  exact ⟨rfl, HFIN.out⟩
end Go.Proofs.YtkibkbbjpgomlaaDoor.F
