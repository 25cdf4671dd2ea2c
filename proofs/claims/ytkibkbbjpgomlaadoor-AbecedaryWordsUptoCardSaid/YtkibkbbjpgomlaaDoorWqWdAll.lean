/-
  WdAll.
-/
import Derived.Test.YtkibkbbjpgomlaaDoorWqWdIt
import Derived.StillTailTactics
namespace Go.Proofs.YtkibkbbjpgomlaaDoor.F
open Go.RowKit Go.Shelf Go.Maps
open Aid L LM
set_option linter.unusedSimpArgs false
set_option linter.unusedVariables false
attribute [local go_sem] Oper.semAt_some

theorem below_grown0 {w w' : World} (h : Below w.heap.size w w') (row : Option Nat) : w.grownBy w' row := ⟨h.os, h.tape, h.output, h.size, fun k hk _ => h.block k hk⟩
theorem newBlocks_of {J : List Wd → World → Prop} {B : Nat} (h : AbidesFrom B J) : NewBlocks J := fun pre W W' hj hb => h pre W W' none hj (below_grown0 hb none) (fun r e => by cases e)
/-- the words that a walk hands over -/
def allW (B : Int) (S : List StM) : List Wd := if S.length = 0 then [] else outF ⟨#[]⟩ B (wordsS S (S.length - 1))
set_option maxRecDepth 100000 in
set_option maxHeartbeats 2000000 in
theorem all1_in (n l Bt n₀ P : Nat) (B : Int) (S : List StM) (J Jx : List Wd → World → Prop) (hY : YieldOk l n₀ (allW B S).length J Jx) (hJ : NewBlocks J) (hM : MachR B S)
    (W : World) (hBt : W.cell? ⟨Bt, 0, none⟩ = some (.pointer (some ⟨P, 0, none⟩))) (hW : WalkIs (fun x => n₀ ≤ x) W P B S) (hT : TabAt n₀ W) (hn : n₀ < W.heap.size) (h0 : J [] W) :
    CallsIn Fence.wide n Tryd.prog 27 #[.func (.yield l) #[] #[], .pointer (some ⟨Bt, 0, none⟩)] W fun e W' => (∃ v, e = .returned v) ∧
      ((∃ ys, ys = allW B S ∧ J ys W') ∨ (∃ pre, pre <+: allW B S ∧ Jx pre W')) := by
  refine callsIn_wide.2 ?_
  have HW := Lib.hid hW
  obtain ⟨h1, h2, su, wu, h3, h4, h5, h6⟩ := hW
  have hl := h4.len
  obtain ⟨a, c, rfl⟩ := h4.slice
  obtain ⟨N, hN⟩ : ∃ N, S.length = N := ⟨_, rfl⟩
  rw [hN] at h3 h4 hl
  have p0 : W.cell? ⟨P, 0, none⟩ = some (.int .i64 B) := (Blk.cell h3 0).trans rfl
  have p1 : W.cell? ⟨P, 1, none⟩ = some (.slice a N c) := (Blk.cell h3 1).trans rfl
  by_cases hz : N = 0
  · have he : allW B S = [] := by unfold allW; rw [if_pos (by omega)]
    rw [he]
    subst hz
    clear h3 h4 h5 h6 HW hY he
    go_enter Tryd.func27, Tryd.ntmps27
    go_wp2_with fail
    go_end0
    exact ⟨⟨_, rfl⟩, .inl h0⟩
  · obtain ⟨M, hMN⟩ : ∃ M, N = M + 1 := ⟨N - 1, by omega⟩
    have hMk : MachOk B S := by
      rcases hM with ⟨_, rfl⟩ | h
      · simp at hN; omega
      · exact h
    have he : allW B S = outF ⟨#[]⟩ B (wordsS S M) := by unfold allW; rw [if_neg (by omega), show S.length - 1 = M by omega]
    have hbase := hMk.base
    have hfew := hMk.few
    have hd : Below W.heap.size W W.drew := (Below.refl _ _).drew
    have hp := from_in l n₀ (allW B S).length P B S J Jx hY hJ hMk (M + 1) (by omega) M (by omega) (by omega) n ⟨#[]⟩ B [] W.drew (HW.out.under (hd.mono (by omega))) (hT.below (hd.mono (by omega))) hn (hJ _ _ _ h0 hd)
      (by rw [he, outF_len]; unfold cntS; simp) (by simp [ByteArray.size]) (by omega)
    have hp := callsIn_wide.1 hp
    have HP := Lib.hid hp
    have hr := root_any (fun x => n₀ ≤ x) P B S W.drew (HW.out.under (hd.mono (by omega)))
    rw [hN, show ((N : Int) - 1) = (M : Int) by omega] at hr
    have HR := Lib.hid hr
    have HE := Lib.hid he
    have hN0 : (0 : Int) < (N : Int) := by omega
    have b0 : W.drew.cell? ⟨Bt, 0, none⟩ = some (.pointer (some ⟨P, 0, none⟩)) := hBt
    have q0 : W.drew.cell? ⟨P, 0, none⟩ = some (.int .i64 B) := p0
    clear h3 h4 h5 h6 HW hY he hp hr hM hMk hd hz hN hMN
    go_enter Tryd.func27, Tryd.ntmps27
    go_wp2_with fail
    go_still_tail 8, (by kernel_rfl)
    still_call HR.out
    repeat still_step
    refine wpStill_nil ?_
    change wpList _ _ _ _ _ W.drew
    go_wp2_with (go_at_call 28; refine HP.out.mono ?_; clear HP; rintro e W1 (⟨rfl, hJ1, _⟩ | ⟨rfl, q, hq, hx⟩))
    · go_end0
      exact ⟨⟨_, rfl⟩, .inl ⟨_, rfl, by rw [HE.out]; simpa using hJ1⟩⟩
    · go_end0
      exact ⟨⟨_, rfl⟩, .inr ⟨q, by rw [HE.out]; exact hq, by simpa using hx⟩⟩
set_option maxHeartbeats 1000000 in
theorem all_any (p : Option Addr) (w : World) :
    Calls Tryd.prog 10 #[.pointer p] w fun e w' => e = .returned (.func (.func 27) #[] #[.pointer (some ⟨w.heap.size, 0, none⟩)]) ∧ w' = w.alloc (.cells #[.pointer p] 34) := by
  go_enter Tryd.func10, Tryd.ntmps10
  go_wp2_with fail
  go_ret
  exact ⟨rfl, rfl⟩
theorem all_stops (n Bt n₀ P : Nat) (B : Int) (S : List StM) (hM : MachR B S) (w : World) (hBt : Bt < w.heap.size) (hn₀ : n₀ < w.heap.size)
    (hc : w.cell? ⟨Bt, 0, none⟩ = some (.pointer (some ⟨P, 0, none⟩))) (hW : WalkIs (fun x => n₀ ≤ x) w P B S) (hT : TabAt n₀ w) :
    SeqStopsK Fence.wide n Tryd.prog 27 #[.pointer (some ⟨Bt, 0, none⟩)] (fun x : Wd => #[Value.agg #[.string x.1, .int .i64 x.2]]) (Kp n₀) (fun ys => ys = allW B S) (fun pre => pre <+: allW B S) (allW B S).length w :=
  fun l J Jx W hw hJ _ hY h0 =>
    all1_in n l Bt n₀ P B S J Jx (fun m pre x W hj hl => YieldAt.anyDepth rfl m (hY pre x W hj hl)) (newBlocks_of hJ) hM W ((hw.cell (p := ⟨Bt, 0, none⟩) hBt).trans hc) (hW.under (hw.mono (by omega))) (hT.below (hw.mono (by omega))) (Nat.lt_of_lt_of_le hn₀ hw.size) h0
end Go.Proofs.YtkibkbbjpgomlaaDoor.F
