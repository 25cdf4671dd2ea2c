/-
  WdIt.
-/
import Derived.Test.YtkibkbbjpgomlaaDoorWqWdLen
import Derived.Test.YtkibkbbjpgomlaaDoorWqWdForm
import Derived.RangeFuncNested
import Derived.RangeFuncBound
import Derived.RangeFuncCalls
import Derived.RangeFuncLeaves
import Derived.Shelf.Abstract
import Derived.Shelf.RegionOpen
import Derived.WalkKit
import Derived.OwnWalkIn
import Derived.TacticsInMore
import Derived.LoopNIn
import Derived.LoopIn
namespace Go.Proofs.YtkibkbbjpgomlaaDoor.F
open Go.RowKit Go.Shelf Go.Maps
open Aid L LM
set_option linter.unusedSimpArgs false
set_option linter.unusedVariables false
attribute [local go_sem] Oper.semAt_some

theorem room_of_none {F : Fence} (hd : F.depth = none) (k : Nat) : F.room k := fun d h => by rw [hd] at h; cases h
theorem RoundIn.anyDepth {F : Fence} (hd : F.depth = none) {m m' : Nat} {P : Program} {l : Nat} {f : FuncId} {tmps : Array Value} {assign body : Code} {w : World} {R : Ending → World → Prop}
    (h : RoundIn F m P l f tmps assign body w R) : RoundIn F m' P l f tmps assign body w R := ⟨h.1, fun c cs _ => h.2 c cs (room_of_none hd _)⟩
theorem YieldAt.anyDepth {F : Fence} (hd : F.depth = none) {m : Nat} (m' : Nat) {P : Program} {l : Nat} {args : Array Value} {W : World} {R : Ending → World → Prop} (h : YieldAt F m P l args W R) : YieldAt F m' P l args W R := by
  obtain ⟨fn, tmps, assign, body, hy, hR⟩ := h
  exact ⟨fn, tmps, assign, body, hy, RoundIn.anyDepth hd hR⟩
/-- the bytes of runes -/
def bytesW (r : List Int) : ByteArray := ⟨(encs r).toArray⟩
/-- words behind a head -/
def outF (head : ByteArray) (sum : Int) (l : List Rw) : List Wd := l.map fun x => (head ++ bytesW x.1, sum + x.2)
theorem head_nil (head : ByteArray) : head ++ bytesW [] = head := by
  apply ByteArray.ext
  rw [ByteArray.data_append]
  show head.data ++ #[] = _
  simp
theorem outF_ahd (head tx : ByteArray) (sum la ou tt : Int) (h : tx.data.toList = enc la) (l : List Rw) : outF head sum (l.map (ahd ⟨la, ou, tt⟩)) = outF (head ++ tx) (sum + ou) l := by
  unfold outF
  rw [List.map_map]
  refine List.map_congr_left fun x _ => ?_
  have e : bytesW (la :: x.1) = tx ++ bytesW x.1 := by
    apply ByteArray.ext
    rw [ByteArray.data_append]
    apply Array.ext'
    rw [Array.toList_append, h]
    unfold bytesW
    dsimp only
    rw [encs_cons]
  show (head ++ bytesW (la :: x.1), sum + (ou + x.2)) = _
  rw [e, ByteArray.append_assoc, Int.add_assoc]
theorem enumA_snoc (f : Nat → List Rw) : ∀ (A : List ArcM) (a : ArcM), enumA f (A ++ [a]) = enumA f A ++ (f a.to_.toNat).map (ahd a)
  | [], a => by simp [enumA]
  | b :: A, a => by rw [List.cons_append, enumA, enumA, enumA_snoc f A a, List.append_assoc]
theorem outF_append (head : ByteArray) (sum : Int) (a b : List Rw) : outF head sum (a ++ b) = outF head sum a ++ outF head sum b := by unfold outF; rw [List.map_append]
theorem outF_len (head : ByteArray) (sum : Int) (a : List Rw) : (outF head sum a).length = a.length := by unfold outF; rw [List.length_map]
theorem enumA_take_pre (f : Nat → List Rw) : ∀ (A : List ArcM) (j : Nat), enumA f (A.take j) <+: enumA f A
  | [], j => by simp
  | a :: A, 0 => by simp [enumA]
  | a :: A, j + 1 => by
    rw [List.take_succ_cons, enumA, enumA]
    exact (List.prefix_append_right_inj _).2 (enumA_take_pre f A j)
def TabAt (n : Nat) (w : World) : Prop := Tab w ∧ 0 < n
theorem TabAt.below {n : Nat} {w w' : World} (h : TabAt n w) (hb : Below n w w') : TabAt n w' := by
  obtain ⟨⟨h0, h1, h2, h3, h4⟩, h5⟩ := h
  exact ⟨⟨by have := hb.size; omega, (hb.cell (p := ⟨0, 2, none⟩) h5).trans h1, (hb.cell (p := ⟨0, 3, none⟩) h5).trans h2, (hb.cell (p := ⟨0, 4, none⟩) h5).trans h3, by have := hb.size; omega⟩, h5⟩
theorem turn_below {n : Nat} {w w' : World} (hb : Below n w w') : Turn (fun x => n ≤ x) w w' := ⟨hb.size, hb.os, hb.tape, hb.output, fun x _ hn => hb.block x (by omega)⟩
theorem WalkIs.under {n : Nat} {w w' : World} {P : Nat} {B : Int} {S : List StM} (h : WalkIs (fun x => n ≤ x) w P B S) (hb : Below n w w') : WalkIs (fun x => n ≤ x) w' P B S := h.turn (turn_below hb) (fun _ _ h => h)
/-- what a round keeps: all below n₀, and every other block of cells but the caller's own at n₀ -/
def Kp (n₀ : Nat) (w w' : World) : Prop := Below n₀ w w' ∧ ∀ x, n₀ < x → ∀ o, w.heap[x]? = some o → o.isCells = true → w'.heap[x]? = w.heap[x]?
theorem Kp.trans {n₀ : Nat} {a b c : World} (h : Kp n₀ a b) (k : Kp n₀ b c) : Kp n₀ a c := ⟨h.1.trans k.1, fun x hx o ho hc => (k.2 x hx o ((h.2 x hx o ho hc).trans ho) hc).trans (h.2 x hx o ho hc)⟩
theorem Kp.blk {n₀ : Nat} {w w' : World} (h : Kp n₀ w w') {g : Nat} {t : TypeId} {cs : Array Value} (hb : Blk w g t cs) (hg : n₀ < g) : Blk w' g t cs := (h.2 g hg _ hb rfl).trans hb
/-- what yield does -/
def YieldOk (l n₀ N : Nat) (J Jx : List Wd → World → Prop) : Prop := ∀ m pre x W, J pre W → pre.length < N → YieldAt Fence.wide m Tryd.prog l #[.agg #[.string x.1, .int .i64 x.2]] W fun e W' =>
      (e = .returned (.bool true) ∧ J (pre ++ [x]) W' ∧ Kp n₀ W W') ∨ (e = .returned (.bool false) ∧ Jx (pre ++ [x]) W')
def NewBlocks (J : List Wd → World → Prop) : Prop := ∀ pre W W', J pre W → Below W.heap.size W W' → J pre W'
def FromEnd (n₀ : Nat) (J Jx : List Wd → World → Prop) (pre : List Wd) (out : List Wd) (W : World) (e : Ending) (W' : World) : Prop :=
  (e = .returned (.bool true) ∧ J (pre ++ out) W' ∧ Below n₀ W W') ∨ (e = .returned (.bool false) ∧ ∃ q, q <+: out ∧ Jx (pre ++ q) W')
set_option maxRecDepth 100000 in
set_option maxHeartbeats 4000000 in
theorem from_in (l n₀ N P : Nat) (B : Int) (S : List StM) (J Jx : List Wd → World → Prop) (hY : YieldOk l n₀ N J Jx) (hJ : NewBlocks J) (hM : MachOk B S) (k0 : Nat) (hk0 : k0 ≤ 98305) :
    ∀ (k : Nat), k < k0 → k < S.length → ∀ (n : Nat) (head : ByteArray) (sum : Int) (pre : List Wd) (W : World), WalkIs (fun x => n₀ ≤ x) W P B S → TabAt n₀ W → n₀ < W.heap.size → J pre W → pre.length + cntS S k ≤ N →
      (head.size : Int) ≤ 1000000 + 4 * (k0 - k : Nat) → (0 ≤ sum ∧ sum ≤ 1048576 * (k0 - k : Nat)) → 
      CallsIn Fence.wide n Tryd.prog 28 #[.pointer (some ⟨P, 0, none⟩), .int .i64 k, .string head, .int .i64 sum, .func (.yield l) #[] #[]] W (FromEnd n₀ J Jx pre (outF head sum (wordsS S k)) W) := by
  intro k
  induction k using Nat.strongRecOn with
  | _ k ih =>
  intro hkk hk n head sum pre W hW hT hn hJp hN hhead hsum
  obtain ⟨s, hs⟩ : ∃ s, S[k]? = some s := ⟨_, List.getElem?_eq_getElem hk⟩
  have HWI := Lib.hid hW
  obtain ⟨h1, h2, su, wu, h3, h4, h5, h6⟩ := hW
  have hSt := hM.st hs
  obtain ⟨a, c, rfl⟩ := h4.slice
  have p1 : W.cell? ⟨P, 1, none⟩ = some (.slice a S.length c) := (Blk.cell h3 1).trans rfl
  obtain ⟨g, off, u, rfl, hg, hgO, c0, c1, c2, hu⟩ := h4.at_ hs
  have hcc := three_cells c0 c1 c2
  obtain ⟨fin, out, A⟩ := s
  obtain ⟨ua, uc, rfl⟩ := hu.slice
  obtain ⟨m, hm⟩ : ∃ m, A.length = m := ⟨_, rfl⟩
  rw [hm] at hu c2 hcc
  have hm6 : m ≤ 1000000 := by obtain ⟨_, _, _, h, _⟩ := hu; have h' : A.length ≤ 1000000 := h; omega
  obtain ⟨NS, hNS⟩ : ∃ NS, S.length = NS := ⟨_, rfl⟩
  rw [hNS] at hk p1
  have hki : (k : Int) < (NS : Int) := by omega
  have hk00 : (0 : Int) ≤ (k : Int) := by omega
  have hdd : ∀ k : Nat, (Fence.wide.depth.isSome = true → 1 ≤ k) := fun k h => by cases h
  refine callsIn_of_wp Tryd.func28 rfl trivial ?_ rfl
  simp only [Tryd.ntmps28, List.size_toArray, List.length_cons, List.length_nil, Nat.reduceAdd, Nat.reduceSub, Array.replicate_succ, Array.replicate_zero, List.push_toArray, List.append_toArray, List.nil_append, List.cons_append]
  obtain ⟨X, hX⟩ : ∃ X, W.heap.size = X := ⟨_, rfl⟩
  obtain ⟨W4, hW4⟩ : ∃ W4, W.alloc (.cells #[.bool fin, .int .i64 out, .slice ua m uc] 61) = W4 := ⟨_, rfl⟩
  have hb4 : Below W.heap.size W W4 := by rw [← hW4]; exact (Below.refl _ _).alloc (Nat.le_refl _) _
  have bX : Blk W4 X 61 #[.bool fin, .int .i64 out, .slice ua m uc] := by rw [← hW4, ← hX]; exact Blk.alloc_new _ _ _
  have hJ4 := hJ pre W W4 hJp hb4
  have hb40 : Below n₀ W W4 := hb4.mono (by omega)
  have hout : 0 ≤ out ∧ out ≤ 1048576 := hSt.out
  have hsw : wrap64 (sum + out) = sum + out := IntWalk.wrap64_in _ (by omega)
  have hwords := wordsS_eq hM.inv k
  rw [stA_some hs] at hwords
  have HW4 := Lib.hid hW4
  have HX := Lib.hid hX
  cases fin with
  | true =>
    rw [if_pos rfl] at hwords
    have hlen : pre.length < N := by
      unfold cntS at hN
      rw [hwords] at hN
      simp only [List.length_append, List.length_cons, List.length_nil] at hN
      omega
    have hyy := YieldAt.mono (hY (n - 1) pre (head, sum + out) W4 hJ4 hlen) (R' := fun e W2 => (e = .returned (.bool true) ∧ J (pre ++ [(head, sum + out)]) W2 ∧ Below n₀ W W2 ∧ W2.cell? ⟨X, 2, none⟩ = some (.slice ua m uc)) ∨ (e = .returned (.bool false) ∧ Jx (pre ++ [(head, sum + out)]) W2)) (fun e W2 h => h.elim
      (fun ⟨he, hj, hk⟩ => .inl ⟨he, hj, hb40.trans hk.1, (Blk.cell (hk.blk bX (by omega)) 2).trans rfl⟩) .inr)
    dsimp only at hyy
    have HWD := Lib.hid hwords
    have x0 : W4.cell? ⟨X, 0, none⟩ = some (.bool true) := (Blk.cell bX 0).trans rfl
    have x1 : W4.cell? ⟨X, 1, none⟩ = some (.int .i64 out) := (Blk.cell bX 1).trans rfl
    have HIH := Lib.hid ih
    clear hwords ih
    obtain ⟨fn, tmps, assign, body, hy, hR⟩ := hyy
    gi_wp2
    refine ⟨hdd _, hR.mono ?_⟩
    rintro e W2 (⟨rfl, hJ2, hb2, x2⟩ | ⟨rfl, hJx2⟩)
    · clear hR hcc c0 c1 c2 hJ4 hJp
      gi_wp2
      gi_loopw [39] (fun x39 wr => ∃ j : Nat, x39 = .int .i64 j ∧ j ≤ m ∧ Hid (J (pre ++ [(head, sum + out)] ++ outF head sum (enumA (wordsS S) (A.take j))) wr ∧ Below n₀ W wr ∧ n₀ < wr.heap.size)) (fun x39 _ => m - (intOf x39).toNat)
      case atStart => exact ⟨0, rfl, Nat.zero_le _, ⟨by simpa [outF, enumA] using hJ2, hb2, by have := hb2.size; omega⟩⟩
      case round =>
        obtain ⟨j, rfl, hj, HL⟩ := hrel
        by_cases hlt : (j : Int) < (m : Int)
        · obtain ⟨y, hy⟩ : ∃ y, A[j]? = some y := ⟨_, List.getElem?_eq_getElem (by omega)⟩
          obtain ⟨hJr, hbr, hnr⟩ := HL.out
          rw [← hm] at hu
          obtain ⟨ga, oa, e, hga, hgn, hc⟩ := hu.at_ hy
          subst e
          have hAr := hSt.arcs y (List.mem_of_getElem? hy)
          obtain ⟨la, ou, tt⟩ := y
          obtain ⟨⟨q1, q2⟩, q3, q4, q5, q6⟩ := hAr
          dsimp only at q1 q2 q3 q4 q5 q6
          obtain ⟨t, rfl⟩ : ∃ t : Nat, tt = (t : Int) := ⟨tt.toNat, by omega⟩
          have htk : t < k := by omega
          have hgl : ga < n₀ := by omega
          have a0 : wr.cell? ⟨ga, oa + j * 3, none⟩ = some (.int .i32 la) := (hbr.cell (p := ⟨ga, oa + j * 3, none⟩) hgl).trans (hc 0 (by show 0 < 3; omega))
          have a1 : wr.cell? ⟨ga, oa + j * 3 + 1, none⟩ = some (.int .i64 ou) := (hbr.cell (p := ⟨ga, oa + j * 3 + 1, none⟩) hgl).trans (hc 1 (by show 1 < 3; omega))
          have a2 : wr.cell? ⟨ga, oa + j * 3 + 2, none⟩ = some (.int .i64 t) := (hbr.cell (p := ⟨ga, oa + j * 3 + 2, none⟩) hgl).trans (hc 2 (by show 2 < 3; omega))
          have hcc := three_cells a0 a1 a2
          obtain ⟨Y, hYy⟩ : ∃ Y, wr.heap.size = Y := ⟨_, rfl⟩
          obtain ⟨W7, hW7⟩ : ∃ W7, wr.alloc (.cells #[.int .i32 la, .int .i64 ou, .int .i64 t] 63) = W7 := ⟨_, rfl⟩
          have hb7 : Below wr.heap.size wr W7 := by rw [← hW7]; exact (Below.refl _ _).alloc (Nat.le_refl _) _
          have bY : Blk W7 Y 63 #[.int .i32 la, .int .i64 ou, .int .i64 t] := by rw [← hW7, ← hYy]; exact Blk.alloc_new _ _ _
          have y0 : W7.cell? ⟨Y, 0, none⟩ = some (.int .i32 la) := (Blk.cell bY 0).trans rfl
          obtain ⟨K8, hK8⟩ : ∃ K8, W7.heap.size = K8 := ⟨_, rfl⟩
          obtain ⟨W8, hW8⟩ : ∃ W8, W7.alloc (.cells #[.int .i32 la] 21) = W8 := ⟨_, rfl⟩
          have hb8 : Below W7.heap.size W7 W8 := by rw [← hW8]; exact (Below.refl _ _).alloc (Nat.le_refl _) _
          have b8 : Blk W8 K8 21 #[.int .i32 la] := by rw [← hW8, ← hK8]; exact Blk.alloc_new _ _ _
          have hbn8 : Below n₀ W W8 := (hbr.trans (hb7.mono (by omega))).trans (hb8.mono (by have := hb7.size; omega))
          have hTx := text_one 0 K8 W8 ⟨q4, q5, q6⟩ ((Blk.cell b8 0).trans rfl) b8.lt (hT.below hbn8).1
          have HTX := Lib.hid hTx
          have HR := Lib.hid (And.intro hJr (And.intro hbr (And.intro hnr (And.intro hb7 (And.intro bY (And.intro hb8 hbn8))))))
          have hj0 : (0 : Int) ≤ (j : Int) := by omega
          clear hJr hbr hnr hb7 bY hb8 b8 hbn8 hTx hu hc hb2 x0 x1 hJ2
          gi_wp2
          refine ⟨trivial, hdd _, ((callsIn_wide (n := n - 1)).2 HTX.out).mono ?_⟩
          rintro e w9 ⟨⟨tx, htx, rfl, _, htl⟩, hb9⟩
          obtain ⟨hJr, hbr, hnr, hb7, bY, hb8, hbn8⟩ := HR.out
          have bY9 := (bY.below hb8 bY.lt).below hb9 (bY.below hb8 bY.lt).lt
          have y1 : w9.cell? ⟨Y, 1, none⟩ = some (.int .i64 ou) := (Blk.cell bY9 1).trans rfl
          have y2 : w9.cell? ⟨Y, 2, none⟩ = some (.int .i64 t) := (Blk.cell bY9 2).trans rfl
          have hs2 : wrap64 (sum + ou) = sum + ou := IntWalk.wrap64_in _ (by omega)
          have hjw : wrap64 ((j : Int) + 1) = (j : Int) + 1 := IntWalk.wrap64_in _ (by omega)
          have hbn9 : Below n₀ W w9 := hbn8.trans (hb9.mono (by have := hb7.size; have := hb8.size; omega))
          have hbr9 : Below wr.heap.size wr w9 := (hb7.trans (hb8.mono hb7.size)).trans (hb9.mono (by have := hb7.size; have := hb8.size; omega))
          have hsn : enumA (wordsS S) (A.take (j + 1)) = enumA (wordsS S) (A.take j) ++ (wordsS S t).map (ahd ⟨la, ou, (t : Int)⟩) := by
            rw [take_snoc hy, enumA_snoc]
            rfl
          have hlen2 : (pre ++ [(head, sum + out)] ++ outF head sum (enumA (wordsS S) (A.take j))).length + cntS S t ≤ N := by
            have e1 := congrArg List.length hsn
            have e2 := enumA_take_le (wordsS S) A (j + 1)
            have e3 := hN
            unfold cntS at e3 ⊢
            rw [HWD.out] at e3
            simp only [List.length_append, List.length_cons, List.length_nil, List.length_map, outF_len] at e1 e3 ⊢
            omega
          have hrc := HIH.out t htk (by omega) (by omega) (n - 1) (head ++ tx) (sum + ou) _ w9 (HWI.out.under hbn9) (hT.below hbn9) (by have := hbr9.size; omega) (hJ _ wr w9 hJr hbr9) hlen2 (by rw [ByteArray.size_append]; omega) (by omega)
          have HRC := Lib.hid hrc
          have HF := Lib.hid (And.intro hbn9 (And.intro hsn (And.intro hnr hbr9)))
          clear hJr hbr hnr hb7 bY hb8 hbn8 bY9 y0 hbn9 hbr9 hsn hlen2 hrc
          gi_wp2
          refine ⟨trivial, hdd _, HRC.out.mono ?_⟩
          clear hsw hs2 hhead hsum hk0 hkk hN hX hNS p1 hki hk00 hk hW4 hYy hW7 hK8 hW8 hm hout q1 q2 q3 q4 q5 q6 htk hgl a0 a1 a2 hcc hn hY hJ hM hT hSt hy hga hgn h1 h2 h3 h4 h5 h6 hg hgO hs y1 y2 hb4 hb40 bX x2 hb9 htl HTX HR HRC HIH HWI hlen HX HW4 hjw
          rintro e wz (⟨rfl, hJz, hbz⟩ | ⟨rfl, qz, hqz, hxz⟩)
          · gi_wp2
            obtain ⟨hbn9, hsn, hnr, hbr9⟩ := HF.out
            refine ⟨⟨j + 1, by first | rfl | simp, by omega, ⟨?_, hbn9.trans hbz, by have := hbz.size; have := hbr9.size; omega⟩⟩, by simp only [intOf]; omega⟩
            rw [hsn, outF_append, outF_ahd head tx sum la ou t htx, ← List.append_assoc]
            exact hJz
          · gi_wp2
            go_ret
            obtain ⟨hbn9, hsn, hnr, hbr9⟩ := HF.out
            refine .inr ⟨rfl, [(head, sum + out)] ++ (outF head sum (enumA (wordsS S) (A.take j)) ++ qz), ?_, by simpa [List.append_assoc] using hxz⟩
            have e1 : outF head sum (wordsS S k) = [(head, sum + out)] ++ outF head sum (enumA (wordsS S) A) := by
              rw [HWD.out, outF_append]
              show [(head ++ bytesW [], sum + out)] ++ _ = _; rw [head_nil]
            rw [e1]
            refine (List.prefix_append_right_inj _).2 ?_
            have e2 : outF head sum (enumA (wordsS S) (A.take (j + 1))) <+: outF head sum (enumA (wordsS S) A) := (enumA_take_pre (wordsS S) A (j + 1)).map _
            rw [hsn, outF_append, outF_ahd head tx sum la ou t htx] at e2
            exact ((List.prefix_append_right_inj _).2 hqz).trans e2
        · obtain ⟨hJr, hbr, hnr⟩ := HL.out
          have hjm : j = m := by omega
          have htk : A.take j = A := List.take_of_length_le (by omega)
          rw [htk] at hJr
          have HJR := Lib.hid hJr
          clear hsw hhead hsum hk0 hkk hN hX hNS p1 hki hk00 hk hW4 hm hout hn hY hJ hM hT hSt h1 h2 h3 h4 h5 h6 hg hgO hs hb4 hb40 bX x2 HIH HWI hlen HX HW4 hJr htk hb2 hJ2 x0 x1 hu
          gi_wp2
          go_ret
          refine .inl ⟨rfl, ?_, hbr⟩
          have e1 : outF head sum (wordsS S k) = [(head, sum + out)] ++ outF head sum (enumA (wordsS S) A) := by
            rw [HWD.out, outF_append]
            show [(head ++ bytesW [], sum + out)] ++ _ = _; rw [head_nil]
          rw [e1, ← List.append_assoc]
          exact HJR.out
    · gi_wp2
      go_ret
      refine .inr ⟨rfl, [(head, sum + out)], ?_, hJx2⟩
      rw [HWD.out]
      unfold outF
      rw [List.singleton_append, List.map_cons, show head ++ bytesW [] = head from head_nil head]
      exact ⟨_, rfl⟩
  | false =>
    rw [if_neg (by simp)] at hwords
    have HWD := Lib.hid hwords
    have HIH := Lib.hid ih
    have x0 : W4.cell? ⟨X, 0, none⟩ = some (.bool false) := (Blk.cell bX 0).trans rfl
    have x2 : W4.cell? ⟨X, 2, none⟩ = some (.slice ua m uc) := (Blk.cell bX 2).trans rfl
    have hJ2 := hJ4
    have hb2 := hb40
    have x1 := x0
    have hlen := hk00
    clear hwords ih hJ4 hJp
    gi_wp2
    clear hcc c0 c1 c2
    refine ⟨fun _ h => (by cases h), ?_⟩
    gi_wp2
    gi_loopw [39] (fun x39 wr => ∃ j : Nat, x39 = .int .i64 j ∧ j ≤ m ∧ Hid (J (pre ++ [] ++ outF head sum (enumA (wordsS S) (A.take j))) wr ∧ Below n₀ W wr ∧ n₀ < wr.heap.size)) (fun x39 _ => m - (intOf x39).toNat)
    case atStart => exact ⟨0, rfl, Nat.zero_le _, ⟨by simpa [outF, enumA] using hJ2, hb2, by have := hb2.size; omega⟩⟩
    case round =>
      obtain ⟨j, rfl, hj, HL⟩ := hrel
      by_cases hlt : (j : Int) < (m : Int)
      · obtain ⟨y, hy⟩ : ∃ y, A[j]? = some y := ⟨_, List.getElem?_eq_getElem (by omega)⟩
        obtain ⟨hJr, hbr, hnr⟩ := HL.out
        rw [← hm] at hu
        obtain ⟨ga, oa, e, hga, hgn, hc⟩ := hu.at_ hy
        subst e
        have hAr := hSt.arcs y (List.mem_of_getElem? hy)
        obtain ⟨la, ou, tt⟩ := y
        obtain ⟨⟨q1, q2⟩, q3, q4, q5, q6⟩ := hAr
        dsimp only at q1 q2 q3 q4 q5 q6
        obtain ⟨t, rfl⟩ : ∃ t : Nat, tt = (t : Int) := ⟨tt.toNat, by omega⟩
        have htk : t < k := by omega
        have hgl : ga < n₀ := by omega
        have a0 : wr.cell? ⟨ga, oa + j * 3, none⟩ = some (.int .i32 la) := (hbr.cell (p := ⟨ga, oa + j * 3, none⟩) hgl).trans (hc 0 (by show 0 < 3; omega))
        have a1 : wr.cell? ⟨ga, oa + j * 3 + 1, none⟩ = some (.int .i64 ou) := (hbr.cell (p := ⟨ga, oa + j * 3 + 1, none⟩) hgl).trans (hc 1 (by show 1 < 3; omega))
        have a2 : wr.cell? ⟨ga, oa + j * 3 + 2, none⟩ = some (.int .i64 t) := (hbr.cell (p := ⟨ga, oa + j * 3 + 2, none⟩) hgl).trans (hc 2 (by show 2 < 3; omega))
        have hcc := three_cells a0 a1 a2
        obtain ⟨Y, hYy⟩ : ∃ Y, wr.heap.size = Y := ⟨_, rfl⟩
        obtain ⟨W7, hW7⟩ : ∃ W7, wr.alloc (.cells #[.int .i32 la, .int .i64 ou, .int .i64 t] 63) = W7 := ⟨_, rfl⟩
        have hb7 : Below wr.heap.size wr W7 := by rw [← hW7]; exact (Below.refl _ _).alloc (Nat.le_refl _) _
        have bY : Blk W7 Y 63 #[.int .i32 la, .int .i64 ou, .int .i64 t] := by rw [← hW7, ← hYy]; exact Blk.alloc_new _ _ _
        have y0 : W7.cell? ⟨Y, 0, none⟩ = some (.int .i32 la) := (Blk.cell bY 0).trans rfl
        obtain ⟨K8, hK8⟩ : ∃ K8, W7.heap.size = K8 := ⟨_, rfl⟩
        obtain ⟨W8, hW8⟩ : ∃ W8, W7.alloc (.cells #[.int .i32 la] 21) = W8 := ⟨_, rfl⟩
        have hb8 : Below W7.heap.size W7 W8 := by rw [← hW8]; exact (Below.refl _ _).alloc (Nat.le_refl _) _
        have b8 : Blk W8 K8 21 #[.int .i32 la] := by rw [← hW8, ← hK8]; exact Blk.alloc_new _ _ _
        have hbn8 : Below n₀ W W8 := (hbr.trans (hb7.mono (by omega))).trans (hb8.mono (by have := hb7.size; omega))
        have hTx := text_one 0 K8 W8 ⟨q4, q5, q6⟩ ((Blk.cell b8 0).trans rfl) b8.lt (hT.below hbn8).1
        have HTX := Lib.hid hTx
        have HR := Lib.hid (And.intro hJr (And.intro hbr (And.intro hnr (And.intro hb7 (And.intro bY (And.intro hb8 hbn8))))))
        have hj0 : (0 : Int) ≤ (j : Int) := by omega
        clear hJr hbr hnr hb7 bY hb8 b8 hbn8 hTx hu hc hb2 x0 x1 hJ2
        gi_wp2
        refine ⟨trivial, hdd _, ((callsIn_wide (n := n - 1)).2 HTX.out).mono ?_⟩
        rintro e w9 ⟨⟨tx, htx, rfl, _, htl⟩, hb9⟩
        obtain ⟨hJr, hbr, hnr, hb7, bY, hb8, hbn8⟩ := HR.out
        have bY9 := (bY.below hb8 bY.lt).below hb9 (bY.below hb8 bY.lt).lt
        have y1 : w9.cell? ⟨Y, 1, none⟩ = some (.int .i64 ou) := (Blk.cell bY9 1).trans rfl
        have y2 : w9.cell? ⟨Y, 2, none⟩ = some (.int .i64 t) := (Blk.cell bY9 2).trans rfl
        have hs2 : wrap64 (sum + ou) = sum + ou := IntWalk.wrap64_in _ (by omega)
        have hjw : wrap64 ((j : Int) + 1) = (j : Int) + 1 := IntWalk.wrap64_in _ (by omega)
        have hbn9 : Below n₀ W w9 := hbn8.trans (hb9.mono (by have := hb7.size; have := hb8.size; omega))
        have hbr9 : Below wr.heap.size wr w9 := (hb7.trans (hb8.mono hb7.size)).trans (hb9.mono (by have := hb7.size; have := hb8.size; omega))
        have hsn : enumA (wordsS S) (A.take (j + 1)) = enumA (wordsS S) (A.take j) ++ (wordsS S t).map (ahd ⟨la, ou, (t : Int)⟩) := by
          rw [take_snoc hy, enumA_snoc]
          rfl
        have hlen2 : (pre ++ [] ++ outF head sum (enumA (wordsS S) (A.take j))).length + cntS S t ≤ N := by
          have e1 := congrArg List.length hsn
          have e2 := enumA_take_le (wordsS S) A (j + 1)
          have e3 := hN
          unfold cntS at e3 ⊢
          rw [HWD.out] at e3
          simp only [List.length_append, List.length_cons, List.length_nil, List.length_map, outF_len] at e1 e3 ⊢
          omega
        have hrc := HIH.out t htk (by omega) (by omega) (n - 1) (head ++ tx) (sum + ou) _ w9 (HWI.out.under hbn9) (hT.below hbn9) (by have := hbr9.size; omega) (hJ _ wr w9 hJr hbr9) hlen2 (by rw [ByteArray.size_append]; omega) (by omega)
        have HRC := Lib.hid hrc
        have HF := Lib.hid (And.intro hbn9 (And.intro hsn (And.intro hnr hbr9)))
        clear hJr hbr hnr hb7 bY hb8 hbn8 bY9 y0 hbn9 hbr9 hsn hlen2 hrc
        gi_wp2
        refine ⟨trivial, hdd _, HRC.out.mono ?_⟩
        clear hsw hs2 hhead hsum hk0 hkk hN hX hNS p1 hki hk00 hk hW4 hYy hW7 hK8 hW8 hm hout q1 q2 q3 q4 q5 q6 htk hgl a0 a1 a2 hcc hn hY hJ hM hT hSt hy hga hgn h1 h2 h3 h4 h5 h6 hg hgO hs y1 y2 hb4 hb40 bX x2 hb9 htl HTX HR HRC HIH HWI hlen HX HW4 hjw
        rintro e wz (⟨rfl, hJz, hbz⟩ | ⟨rfl, qz, hqz, hxz⟩)
        · gi_wp2
          obtain ⟨hbn9, hsn, hnr, hbr9⟩ := HF.out
          refine ⟨⟨j + 1, by first | rfl | simp, by omega, ⟨?_, hbn9.trans hbz, by have := hbz.size; have := hbr9.size; omega⟩⟩, by simp only [intOf]; omega⟩
          rw [hsn, outF_append, outF_ahd head tx sum la ou t htx, ← List.append_assoc]
          exact hJz
        · gi_wp2
          go_ret
          obtain ⟨hbn9, hsn, hnr, hbr9⟩ := HF.out
          refine .inr ⟨rfl, [] ++ (outF head sum (enumA (wordsS S) (A.take j)) ++ qz), ?_, by simpa [List.append_assoc] using hxz⟩
          have e1 : outF head sum (wordsS S k) = [] ++ outF head sum (enumA (wordsS S) A) := by
            rw [HWD.out, outF_append]
            rfl
          rw [e1]
          refine (List.prefix_append_right_inj _).2 ?_
          have e2 : outF head sum (enumA (wordsS S) (A.take (j + 1))) <+: outF head sum (enumA (wordsS S) A) := (enumA_take_pre (wordsS S) A (j + 1)).map _
          rw [hsn, outF_append, outF_ahd head tx sum la ou t htx] at e2
          exact ((List.prefix_append_right_inj _).2 hqz).trans e2
      · obtain ⟨hJr, hbr, hnr⟩ := HL.out
        have hjm : j = m := by omega
        have htk : A.take j = A := List.take_of_length_le (by omega)
        rw [htk] at hJr
        have HJR := Lib.hid hJr
        clear hsw hhead hsum hk0 hkk hN hX hNS p1 hki hk00 hk hW4 hm hout hn hY hJ hM hT hSt h1 h2 h3 h4 h5 h6 hg hgO hs hb4 hb40 bX x2 HIH HWI hlen HX HW4 hJr htk hb2 hJ2 x0 x1 hu
        gi_wp2
        go_ret
        refine .inl ⟨rfl, ?_, hbr⟩
        have e1 : outF head sum (wordsS S k) = [] ++ outF head sum (enumA (wordsS S) A) := by
          rw [HWD.out, outF_append]
          rfl
        rw [e1, ← List.append_assoc]
        exact HJR.out
end Go.Proofs.YtkibkbbjpgomlaaDoor.F
