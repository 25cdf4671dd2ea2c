/-
  WdPut.
-/
import Derived.Test.YtkibkbbjpgomlaaDoorWqWdCod
import Derived.Test.YtkibkbbjpgomlaaDoorWqFstBld
import Derived.Maps.AppendAt
namespace Go.Proofs.YtkibkbbjpgomlaaDoor.W
open Go.RowKit Go.Maps
open Aid F
set_option linter.unusedSimpArgs false
set_option linter.unusedVariables false

/-- bytes v that were written on, as x: nothing but v's own block has turned -/
def PutTo (w : World) (v : Value) (wr : World) (x : Value) : Prop := Turn (fun y => v.ownBlock = some y) w wr ∧ ∀ g, x.ownBlock = some g → v.ownBlock = some g ∨ w.heap.size ≤ g
theorem PutTo.refl (w : World) (v : Value) : PutTo w v w v := ⟨Turn.refl _ _, fun g h => .inl h⟩
theorem PutTo.trans {w w1 w2 : World} {v v1 v2 : Value} (h : PutTo w v w1 v1) (k : PutTo w1 v1 w2 v2) : PutTo w v w2 v2 := by
  refine ⟨h.1.trans (O' := fun y => v1.ownBlock = some y) k.1 (fun y hy he => ?_), fun g hg => ?_⟩
  · rcases h.2 y he with e | e
    · exact e
    · omega
  · rcases k.2 g hg with e | e
    · exact h.2 g e
    · have := h.1.size; exact .inr (by omega)
theorem PutTo.grow {w wr w1 : World} {v x x' : Value} {o : Obj} (h : PutTo w v wr x) (hg : (wr.alloc o).grownBy w1 x.ownBlock) (hl : x'.ownBlock = x.ownBlock ∨ x'.ownBlock = some (wr.alloc o).heap.size) : PutTo w v w1 x' := by
  have hs := h.1.size
  have hb : Below wr.heap.size wr (wr.alloc o) := (Below.refl _ _).alloc (Nat.le_refl _) _
  refine ⟨⟨Nat.le_trans hs (Nat.le_trans hb.size hg.size), (hg.os.trans hb.os).trans h.1.os, (hg.tape.trans hb.tape).trans h.1.tape, (hg.output.trans hb.output).trans h.1.output, fun y hy hn => ?_⟩, fun g hx => ?_⟩
  · rw [hg.block y (by have := hb.size; omega) (fun e => ?_), hb.block y (by omega)]
    · exact h.1.kept y hy hn
    · rcases h.2 y e.symm with e2 | e2
      · exact hn e2
      · omega
  · rcases hl with e | e
    · rw [e] at hx; exact h.2 g hx
    · rw [e] at hx
      have : (wr.alloc o).heap.size = g := by simpa using hx
      have := hb.size
      exact .inr (by omega)
def PutEnd (base : Nat) (w : World) (v : Value) (l : List Int) (e : Ending) (w' : World) : Prop := ∃ v', e = .returned v' ∧ Own w' base v' l ∧ PutTo w v w' v'
set_option maxRecDepth 100000 in
set_option maxHeartbeats 1000000 in
theorem putuint2_any (base : Nat) (v : Value) (l : List Int) (n : Nat) (w : World) (h : Own w base v l) (hb : base ≤ w.heap.size) (hl : l.length ≤ 140737488355000) (hn : n < 18446744073709551616) :
    Calls Tryd.prog 37 #[v, .int .u64 n] w (PutEnd base w v (l ++ putU n)) := by
  go_enter Tryd.func37, Tryd.ntmps37
  go_wp2_with fail
  obtain ⟨iu, hi, hz0, hz1, hz2⟩ := parts_u8
  have hten := putU_ten hn
  go_loopw [0, 1] (fun x0 x1 wr => ∃ (l' : List Int) (m : Nat), x1 = .int .u64 m ∧ l' ++ putU m = l ++ putU n ∧ m ≤ n ∧ Own wr base x0 l' ∧ PutTo w v wr x0) (fun _ x1 _ => (intOf x1).toNat)
  case atStart => exact ⟨l, n, rfl, rfl, Nat.le_refl _, h, PutTo.refl _ _⟩
  case round =>
    obtain ⟨l', m, rfl, hlm, hmn, hO, hPT⟩ := hrel
    have hs := hPT.1.size
    have hlen := congrArg List.length hlm
    simp only [List.length_append] at hlen
    by_cases hlt : (128 : Int) ≤ (m : Int)
    · have e2 : bits .or .u8 ((m : Int) % 256) 128 = ((m % 128 + 128 : Nat) : Int) := by
        rw [or_128 _ (by omega) (by omega)]
        congr 1; omega
      rw [putU_big (by omega)] at hlm hlen
      simp only [List.length_cons] at hlen
      go_wp2_with (at_builtin; refine wpList_append_own_at _ (by rfl) _ _ 30 rfl base 5 iu (.int .u8 0) 1 1 Tryd.underlying30 hi hz0 hz1 hz2 rfl (by decide) _ l'.length _ rfl (hO.alloc _) ⟨wr.heap.size, 0, none⟩ 1 1 [.int .u8 ((m : Int) % 128 + 128)] rfl rfl (cell_one_new _ _ _) (fun u hu => by simp at hu; subst hu; rfl) (by unfold maxLen; omega) (by omega) (by simp; omega) ?_; intro v' w2 hown2 hgrow hnil hloc)
      refine ⟨⟨l' ++ [((m % 128 + 128 : Nat) : Int)], m / 128, ?_, by rw [← hlm]; simp, by omega, ?_, hPT.grow hgrow hloc⟩, ?_⟩
      · go_num
      · show World.ownsRow _ _ _ _ _ _ _
        simpa using hown2
      · simp [intOf]; omega
    · rw [putU_small (by omega)] at hlm hlen
      go_wp2_with (at_builtin; refine wpList_append_own_at _ (by rfl) _ _ 30 rfl base 5 iu (.int .u8 0) 1 1 Tryd.underlying30 hi hz0 hz1 hz2 rfl (by decide) _ l'.length _ rfl (hO.alloc _) ⟨wr.heap.size, 0, none⟩ 1 1 [.int .u8 (m : Int)] rfl rfl (cell_one_new _ _ _) (fun u hu => by simp at hu; subst hu; rfl) (by unfold maxLen; omega) (by omega) (by simp; omega) ?_; intro v' w2 hown2 hgrow hnil hloc)
      go_ret
      refine ⟨v', rfl, ?_, hPT.grow hgrow hloc⟩
      rw [← hlm]
      show World.ownsRow _ _ _ _ _ _ _
      simpa using hown2
set_option maxRecDepth 100000 in
theorem put_any (base : Nat) (v : Value) (l : List Int) (n : Nat) (w : World) (h : Own w base v l) (hb : base ≤ w.heap.size) (hl : l.length ≤ 140737488355000) (hn : n < 9223372036854775808) :
    Calls Tryd.prog 19 #[v, .int .i64 n] w (PutEnd base w v (l ++ putU n)) := by
  have HC := Lib.hid (putuint2_any base v l n w h hb hl (by omega))
  have hwn : IntKind.u64.wrap (n : Int) = (n : Int) := by rw [IntKind.wrap_u64]; omega
  clear h
  go_enter Tryd.func19, Tryd.ntmps19
  go_wp2_with fail
  refine HC.out.mono ?_
  rintro e w1 ⟨v', rfl, hO, hP⟩
  go_wp2_with fail
  go_ret
  exact ⟨v', rfl, hO, hP⟩
end Go.Proofs.YtkibkbbjpgomlaaDoor.W
