/-
  FstBack.
-/
import Derived.Test.YtkibkbbjpgomlaaDoorWqFstRest
import Derived.RangeFuncNested
import Derived.RangeFuncBound
import Derived.RangeFuncCalls
import Derived.RangeFuncLeaves
import Derived.RangeFuncFrom
import Derived.RangeFuncStops
import Derived.RangeFuncWrites
import Derived.RangeFuncBox
import Derived.Shelf.Abstract
import Derived.Shelf.RegionOpen
import Derived.OwnWalkIn
import Derived.TacticsInMore
import Derived.LoopNIn
import Derived.LoopIn
import Derived.RegionIn
namespace Go.Proofs.YtkibkbbjpgomlaaDoor.F
open Go.RowKit Go.Shelf Go.Maps
open Aid
set_option linter.unusedSimpArgs false
set_option linter.unusedVariables false
attribute [local go_sem] Oper.semAt_some

structure ArcM where
  label : Int
  out : Int
  to_ : Int
deriving DecidableEq
def arcV (a : ArcM) : Array Value := #[.int .i32 a.label, .int .i64 a.out, .int .i64 a.to_]
/-- a row of arcs in blocks that O does not name -/
def ArcsAre (O : Nat → Prop) (w : World) (v : Value) (q : List ArcM) : Prop :=
  ∃ a cap, v = .slice a q.length cap ∧ q.length ≤ 1000000 ∧ (∀ x, a = some x → x.block < w.heap.size ∧ ¬ O x.block) ∧ ∀ j x, q[j]? = some x → ∃ g off, a = some ⟨g, off, none⟩ ∧ g < w.heap.size ∧ ¬ O g ∧ ∀ i (hi : i < (arcV x).size), w.cell? ⟨g, off + j * 3 + i, none⟩ = some (arcV x)[i]
theorem ArcsAre.turn {O O' : Nat → Prop} {w w' : World} {v : Value} {q : List ArcM} (h : ArcsAre O w v q) (ht : Turn O w w') (hO : ∀ x, x < w.heap.size → O' x → O x) : ArcsAre O' w' v q := by
  obtain ⟨a, cap, rfl, h1, h2, h3⟩ := h
  refine ⟨a, cap, rfl, h1, fun x e => ⟨Nat.lt_of_lt_of_le (h2 x e).1 ht.size, fun hx => (h2 x e).2 (hO _ (h2 x e).1 hx)⟩, fun j x hj => ?_⟩
  obtain ⟨g, off, e, hg, hn, hc⟩ := h3 j x hj
  exact ⟨g, off, e, Nat.lt_of_lt_of_le hg ht.size, fun hx => hn (hO g hg hx), fun i hi => (ht.cell hg hn _).trans (hc i hi)⟩
theorem ArcsAre.slice {O : Nat → Prop} {w : World} {v : Value} {q : List ArcM} (h : ArcsAre O w v q) : ∃ a cap, v = .slice a q.length cap := by
  obtain ⟨a, cap, rfl, _⟩ := h; exact ⟨a, cap, rfl⟩
theorem ArcsAre.at_ {O : Nat → Prop} {w : World} {a : Option Addr} {n cap : Nat} {q : List ArcM} (h : ArcsAre O w (.slice a n cap) q) {j : Nat} {x : ArcM} (hx : q[j]? = some x) :
    ∃ g off, a = some ⟨g, off, none⟩ ∧ g < w.heap.size ∧ ¬ O g ∧ ∀ i (hi : i < (arcV x).size), w.cell? ⟨g, off + j * 3 + i, none⟩ = some (arcV x)[i] := by
  obtain ⟨a', cap', e, h1, h2, h3⟩ := h
  simp only [Value.slice.injEq] at e
  obtain ⟨rfl, rfl, rfl⟩ := e
  exact h3 j x hx
theorem ArcsAre.block {O : Nat → Prop} {w : World} {v : Value} {q : List ArcM} (h : ArcsAre O w v q) {x : Nat} (hx : v.ownBlock = some x) : x < w.heap.size ∧ ¬ O x := by
  obtain ⟨a, cap, rfl, h1, h2, h3⟩ := h
  cases a with
  | none => cases hx
  | some a =>
    obtain rfl : a.block = x := by cases hx; rfl
    exact h2 a rfl
/-- what the going through wants kept -/
def BackKp (sb : Nat) (v : Value) (W W' : World) : Prop := W.heap.size ≤ W'.heap.size ∧ ∀ x, (x = sb ∨ v.ownBlock = some x) → W'.heap[x]? = W.heap[x]?
theorem BackKp.trans {sb : Nat} {v : Value} {A B C : World} (h : BackKp sb v A B) (k : BackKp sb v B C) : BackKp sb v A C := ⟨Nat.le_trans h.1 k.1, fun x hx => (k.2 x hx).trans (h.2 x hx)⟩
theorem ArcsAre.kept {O : Nat → Prop} {w w' : World} {v : Value} {q : List ArcM} (h : ArcsAre O w v q) (hz : w.heap.size ≤ w'.heap.size) (hk : ∀ x, v.ownBlock = some x → w'.heap[x]? = w.heap[x]?) : ArcsAre O w' v q := by
  obtain ⟨a, cap, rfl, h1, h2, h3⟩ := h
  refine ⟨a, cap, rfl, h1, fun x e => ⟨Nat.lt_of_lt_of_le (h2 x e).1 hz, (h2 x e).2⟩, fun j x hj => ?_⟩
  obtain ⟨g, off, e, hg, hn, hc⟩ := h3 j x hj
  refine ⟨g, off, e, Nat.lt_of_lt_of_le hg hz, hn, fun i hi => ?_⟩
  have e2 : w'.heap[g]? = w.heap[g]? := hk g (by subst e; rfl)
  rw [← hc i hi]
  unfold World.cell?; simp only [e2]

set_option maxRecDepth 100000 in
set_option maxHeartbeats 1000000 in
theorem back1_in (F : Fence) (n : Nat) (hf : F.fn 48) (hro : F.round = none) (hn : 1 ≤ n) (l sb : Nat) (O : Nat → Prop) (v : Value) (A : List ArcM) (G : ArcM → Prop) (hG : ∀ a ∈ A, G a) (J Jx : List {x : Nat × ArcM // G x.2} → World → Prop)
    (W : World) (hJ : AbidesFrom W.heap.size J) (hm : W.cell? ⟨sb, 0, none⟩ = some v) (hA : ArcsAre O W v A)
    (hY : ∀ pre x W1, J pre W1 → pre.length < A.length → YieldAt F (n - 1) Tryd.prog l #[.int .i64 (x.1.1 : Nat), .agg (arcV x.1.2)] W1 fun e W' => (e = .returned (.bool true) ∧ J (pre ++ [x]) W' ∧ BackKp sb v W1 W') ∨ (e = .returned (.bool false) ∧ Jx (pre ++ [x]) W')) (h0 : J [] W) :
    CallsIn F n Tryd.prog 48 #[.func (.yield l) #[] #[], .pointer (some ⟨sb, 0, none⟩)] W fun e W' => (∃ v, e = .returned v) ∧ ((∃ xs : List {x : Nat × ArcM // G x.2}, (xs.map (·.1.2) = A.reverse) ∧ J xs W') ∨ (∃ pre : List {x : Nat × ArcM // G x.2}, True ∧ Jx pre W')) := by
  have hlen : A.length ≤ 1000000 := by obtain ⟨_, _, _, h, _⟩ := hA; exact h
  obtain ⟨av, cv, rfl⟩ := hA.slice
  refine callsIn_of_wp Tryd.func48 rfl hf ?_ hro
  simp only [Tryd.ntmps48, List.size_toArray, List.length_cons, List.length_nil, Nat.reduceAdd, Nat.reduceSub, Array.replicate_succ, Array.replicate_zero, List.push_toArray, List.append_toArray, List.nil_append, List.cons_append]
  have hwr : IntKind.i64.wrap ((A.length : Int) - 1) = (A.length : Int) - 1 := IntWalk.i64_in _ (by omega)
  gi_wp2
  gi_loopw [3] (fun x3 wr => ∃ (k : Nat) (pre : List {x : Nat × ArcM // G x.2}), k ≤ A.length ∧ x3 = .int .i64 ((k : Int) - 1) ∧ pre.map (·.1.2) = (A.drop k).reverse ∧ J pre wr ∧ BackKp sb (.slice av A.length cv) W wr)
    (fun x3 _ => (intOf x3 + 1).toNat)
  case atStart => exact ⟨A.length, [], Nat.le_refl _, rfl, by simp, h0, Nat.le_refl _, fun _ _ => rfl⟩
  case round =>
    obtain ⟨k, pre, hk, rfl, hpre, hJs, hkp⟩ := hrel
    have hc : wr.cell? ⟨sb, 0, none⟩ = some (.slice av A.length cv) := by
      rw [← hm]; unfold World.cell?; simp only [hkp.2 sb (.inl rfl)]
    cases k with
    | zero =>
      gi_wp2
      go_end0
      exact ⟨⟨_, rfl⟩, .inl ⟨pre, by simpa using hpre, hJs⟩⟩
    | succ k =>
      obtain ⟨x, hx⟩ : ∃ x, A[k]? = some x := ⟨_, List.getElem?_eq_getElem (by omega)⟩
      obtain ⟨g, off, rfl, hg, _, hcs0⟩ := hA.at_ hx
      have hcs : ∀ i (hi : i < (arcV x).size), wr.cell? ⟨g, off + k * 3 + i, none⟩ = some (arcV x)[i] := fun i hi => by
        rw [← hcs0 i hi]; unfold World.cell?; simp only [hkp.2 g (.inr rfl)]
      have hkk : ((k + 1 : Nat) : Int) - 1 = (k : Int) := by omega
      rw [hkk]
      have hlp : pre.length < A.length := by have := congrArg List.length hpre; simp at this; omega
      obtain ⟨fn, tmps, assign, body, hy, hR⟩ := hY pre ⟨(k, x), hG x (List.mem_of_getElem? hx)⟩ wr hJs hlp
      have HP := Lib.hid hpre
      have HK := Lib.hid hkp
      have HA := Lib.hid hA
      have i0 : (0 : Int) ≤ (k : Int) := by omega
      have i1 : (k : Int) < (A.length : Int) := by omega
      have hw2 : IntKind.i64.wrap ((k : Int) - 1) = (k : Int) - 1 := IntWalk.i64_in _ (by omega)
      obtain ⟨la, ou, tt⟩ := x
      have b0 : wr.cell? ⟨g, off + k * 3, none⟩ = some (.int .i32 la) := hcs 0 (by show 0 < 3; omega)
      have b1 : wr.cell? ⟨g, off + k * 3 + 1, none⟩ = some (.int .i64 ou) := hcs 1 (by show 1 < 3; omega)
      have b2 : wr.cell? ⟨g, off + k * 3 + 2, none⟩ = some (.int .i64 tt) := hcs 2 (by show 2 < 3; omega)
      unfold arcV at hy
      dsimp only at hy
      clear hpre hkp hA hcs0 hkk hwr hcs
      gi_wp2
      refine hR.mono ?_
      rintro e W3 (⟨rfl, hJ3, hk3⟩ | ⟨rfl, hJx⟩)
      rotate_left
      · gi_wp2
        first | go_end0 | ((try simp only [Exit.inBlock, Exit.then]); refine bodyPost_ret (results_none rfl _ _ _) rfl ?_)
        exact ⟨⟨_, rfl⟩, .inr ⟨_, trivial, hJx⟩⟩
      gi_wp2
      refine ⟨⟨k, pre ++ [⟨(k, ⟨la, ou, tt⟩), hG _ (List.mem_of_getElem? hx)⟩], by omega, rfl, ?_, hJ3, HK.out.trans hk3⟩, ?_⟩
      · rw [List.map_append, HP.out, List.drop_eq_getElem_cons (by omega : k < A.length), List.reverse_cons]
        congr 1
        simp only [List.map_cons, List.map_nil, List.cons.injEq, and_true]
        rw [List.getElem?_eq_getElem (by omega)] at hx
        exact (Option.some.inj hx).symm
      · simp [intOf]
theorem back_stops (F : Fence) (n : Nat) (hf : F.fn 48) (hro : F.round = none) (hn : 1 ≤ n) (sb : Nat) (O : Nat → Prop) (v : Value) (A : List ArcM) (G : ArcM → Prop) (hG : ∀ a ∈ A, G a) (w : World) (hsb : sb < w.heap.size)
    (hm : w.cell? ⟨sb, 0, none⟩ = some v) (hA : ArcsAre O w v A) :
    SeqStopsK F n Tryd.prog 48 #[.pointer (some ⟨sb, 0, none⟩)] (fun x : {x : Nat × ArcM // G x.2} => #[.int .i64 (x.1.1 : Nat), .agg (arcV x.1.2)]) (BackKp sb v) (fun xs => xs.map (·.1.2) = A.reverse) (fun _ => True) A.length w := fun l J Jx W hW hJ hJx hY h0 =>
  back1_in F n hf hro hn l sb O v A G hG J Jx W hJ ((hW.cell (p := ⟨sb, 0, none⟩) hsb).trans hm) (hA.turn (O' := O) (Turn.of_below hW) (fun _ _ h => h)) hY h0
theorem backward_any (a : Option Addr) (m c : Nat) (w : World) : Calls Tryd.prog 44 #[.slice a m c] w fun e w' => e = .returned (.func (.func 48) #[] #[.pointer (some ⟨w.heap.size, 0, none⟩)]) ∧ w' = w.alloc (.cells #[.slice a m c] 59) := by
  go_enter Tryd.func44, Tryd.ntmps44
  go_wp2_with fail
  go_ret
  exact ⟨rfl, rfl⟩
end Go.Proofs.YtkibkbbjpgomlaaDoor.F
