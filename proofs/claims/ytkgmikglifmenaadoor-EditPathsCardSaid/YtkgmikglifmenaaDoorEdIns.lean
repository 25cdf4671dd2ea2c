/-
  The library's Insert of one number.
-/
import Derived.Test.YtkgmikglifmenaaDoorEdDel
import Derived.Lib.AppendZerosOnto
import Derived.Lib.Overlaps
import Derived.Laws.NewBlocks
import Derived.Deep.AppendLies
import Derived.Maps.AppendAt
namespace Go.Proofs.YtkgmikglifmenaaDoor.E
open Go.RowKit Go.Maps Aid L
set_option linter.unusedVariables false
set_option linter.unusedSimpArgs false

/-- a copy whose run is known -/
theorem wpList_copyRun {P : Program} (w : World) {ops : Array Oper} {rest : List Oper} {o : Oper} {a : Act} {Q : Exit → Act → World → Prop} (hgd : o.guard = none) (d s : Operand) (t t' : TypeId)
    (ho : o.op = .call { callee := .builtin .copy, args := #[d, s], argTypes := #[t, t'] }) (v u : Value) (hd : a.eval d = v) (hs : a.eval s = u) {v' : Value} {w' : World}
    (hr : (Builtin.copy_ #[t, t'] o.type #[v, u]).run P w = .ok v' w') (h : wpList P ops Q rest (a.put o.dst v') w') : wpList P ops Q (o :: rest) a w := by
  refine wpList_plain hgd fun K hK => ?_
  unfold Oper.wp execOp
  simp only [ho, resolve, invoke, builtin, Sem.run_bind, Sem.run_pure, Result.andThen_ok, List.map_toArray, List.map_cons, List.map_nil, hd, hs, hr]
  exact hK _ _ h
theorem step_copyRun {P : Program} {ops : Array Oper} {o : Oper} {a : Act} {w : World} {K : Act → World → Prop} {Q : Exit → Act → World → Prop} {E : Prop}
    (hg : o.guard = none) (d x : Operand) (dT sT : TypeId) (hop : o.op = Op.call { callee := Callee.builtin Builtin.copy, args := #[d, x], argTypes := #[dT, sT] })
    (v u : Value) (hd : a.eval d = v) (hx : a.eval x = u) {v' : Value} {w' : World} (hr : (Builtin.copy_ #[dT, sT] o.type #[v, u]).run P w = .ok v' w') (hK : K (a.put o.dst v') w') :
    if Region.wanted o (yielded ops a.tmps) = true then Oper.wp P o a w K Q else E := by
  rw [if_pos (show Region.wanted o (yielded ops a.tmps) = true by simp [Region.wanted, hg])]
  unfold Oper.wp execOp
  simp only [hop, resolve, invoke, builtin, Sem.run_bind, Sem.run_pure, Result.andThen_ok, List.map_toArray, List.map_cons, List.map_nil, hd, hx, hr]
  exact hK
theorem addr_plus (b o j : Nat) : (⟨b, o, none⟩ : Addr).add j = ⟨b, o + j, none⟩ := by unfold Addr.add; split <;> simp_all
theorem owns_shape {w : World} {base : Nat} {e : TypeId} {size n : Nat} {v : Value} {xs : List Value} (h : w.ownsRow base e size v n xs) : ∃ a c, v = .slice a n c := by
  rcases h.2 with ⟨e, h0⟩ | ⟨g, cap, cur, hv, _⟩
  · exact ⟨none, 0, by rw [e, h0]⟩
  · exact ⟨_, cap, hv⟩
theorem own_cap (a : Option Addr) (n c n' c' : Nat) : (Value.slice a n c).ownBlock = (Value.slice a n' c').ownBlock := by cases a <;> rfl
/-- what a row is with one number more -/
def insL (l : List Int) (i : Nat) (c : Int) : List Int := l.take i ++ c :: l.drop i
def InsEnd (B : Nat) (v : Value) (n : Nat) (l : List Int) (i : Nat) (c : Int) (w : World) (e : Ending) (w' : World) : Prop :=
  ∃ v', e = .returned v' ∧ w'.ownsRow B 21 1 v' (n + 1) ((insL l i c).map (.int .i32)) ∧ Turn (fun x => v.ownBlock = some x) w w' ∧ (v'.ownBlock = v.ownBlock ∨ ∃ x, v'.ownBlock = some x ∧ w.heap.size ≤ x)
theorem size_i32 : (Tryd.prog.info? 21).map (·.size) = some 1 := by kernel_rfl
set_option maxHeartbeats 1000000 in
set_option maxRecDepth 100000 in
theorem insert_end (B : Nat) (v : Value) (n : Nat) (l : List Int) (c x : Int) (K : Nat) (w : World) (h : w.ownsRow B 21 1 v n (l.map (.int .i32))) (hK : Blk w K 21 #[.int .i32 c]) (hx : x = n) (hn : n ≤ 1000000) (hB : B ≤ w.heap.size) :
    Calls Tryd.prog 16 #[v, .int .i64 x, .slice (some ⟨K, 0, none⟩) 1 1] w (InsEnd B v n l n c w) := by
  subst hx
  have hll : l.length = n := by have := h.1; simpa using this
  obtain ⟨i0, hi0, hz0, hz1, hz2⟩ := info_parts info_i32
  obtain ⟨va, vc, hv⟩ := owns_shape h
  have hvc : n ≤ vc := by
    rcases h.2 with ⟨e, e'⟩ | ⟨g, cap, cur, e, _, _, h2, _⟩
    · omega
    · rw [hv] at e; cases e; omega
  have hvm : vc ≤ 9223372036854775807 := by
    rcases h.2 with ⟨e, e'⟩ | ⟨g, cap, cur, e, _, _, h2, h3, _⟩
    · rw [hv] at e; cases e; omega
    · rw [hv] at e; cases e; unfold maxLen at h3; omega
  subst hv
  have hx0 : (0 : Int) ≤ (n : Int) := by omega
  have hnb : ((n : Int) == (n : Int)) = true := by simp
  have hl1 : insL l n c = l ++ [c] := by unfold insL; rw [List.take_of_length_le (by omega), List.drop_of_length_le (by omega)]
  have HL1 := Lib.hid hl1
  have HH := Lib.hid h
  have HK := Lib.hid hK
  have HLL := Lib.hid hll
  clear hl1 h hK hll
  go_enter Tryd.func16, Tryd.ntmps16
  go_wp2_with (at_builtin; refine wpList_append_own_at _ rfl _ _ 28 rfl B 21 i0 (.int .i32 0) 1 4 Tryd.underlying28 hi0 hz0 hz1 hz2 rfl (by decide) (.slice va n vc) _ _ rfl HH.out ⟨K, 0, none⟩ 1 1 _ rfl rfl (World.news_of_block HK.out) (by intro y hy; simp at hy; subst hy; rfl) (by unfold maxLen; omega) (by omega) hB ?_; intro v' w1 hown' hgrow hnil hat)
  all_goals
    go_ret
    exact ⟨v', rfl, by rw [HL1.out, List.map_append]; exact hown', ⟨hgrow.size, hgrow.os, hgrow.tape, hgrow.output, fun y hy hn => hgrow.block y hy (fun e => hn ((own_cap _ _ _ _ _).trans e.symm))⟩, by
      rcases hat with e | e
      · exact .inl (e.trans (own_cap _ _ _ _ _))
      · exact .inr ⟨_, e, Nat.le_refl _⟩⟩
theorem ins_lists {A D : List Value} {i n : Nat} (v : Value) (hi : i < n) (hA : n + 1 ≤ A.length) (hD : D.length = n - i) :
    ((A.take (i + 1) ++ D ++ A.drop (i + 1 + D.length)).take i ++ [v] ++ (A.take (i + 1) ++ D ++ A.drop (i + 1 + D.length)).drop (i + 1)).take (n + 1) = A.take i ++ v :: D := by
  have l1 : (A.take (i + 1)).length = i + 1 := by rw [List.length_take]; omega
  have e1 : (A.take (i + 1) ++ D ++ A.drop (i + 1 + D.length)).take i = A.take i := by
    rw [List.append_assoc, List.take_append_of_le_length (by omega), List.take_take, Nat.min_eq_left (by omega)]
  have e2 : (A.take (i + 1) ++ D ++ A.drop (i + 1 + D.length)).drop (i + 1) = D ++ A.drop (i + 1 + D.length) := by
    rw [List.append_assoc, List.drop_append_of_le_length (by omega), List.drop_of_length_le (by omega), List.nil_append]
  rw [e1, e2, show A.take i ++ [v] ++ (D ++ A.drop (i + 1 + D.length)) = (A.take i ++ v :: D) ++ A.drop (i + 1 + D.length) by simp]
  exact List.take_left' (by rw [List.length_append, List.length_take, List.length_cons]; omega)
theorem map_insL (l : List Int) (i : Nat) (c : Int) : (insL l i c).map (Value.int .i32) = (l.map (Value.int .i32)).take i ++ Value.int .i32 c :: (l.map (Value.int .i32)).drop i := by
  unfold insL; simp
set_option maxHeartbeats 1000000 in
set_option maxRecDepth 100000 in
theorem insert_room (b n cap i : Nat) (l : List Int) (c x : Int) (K : Nat) (w : World) (h : Row w b 21 n cap (l.map (.int .i32))) (hK : Blk w K 21 #[.int .i32 c]) (hKb : K ≠ b) (hx : x = i) (hi : i < n) (hr : n + 1 ≤ cap) :
    Calls Tryd.prog 16 #[.slice (some ⟨b, 0, none⟩) n cap, .int .i64 x, .slice (some ⟨K, 0, none⟩) 1 1] w fun e w' => e = .returned (.slice (some ⟨b, 0, none⟩) (n + 1) cap) ∧ Row w' b 21 (n + 1) cap ((insL l i c).map (.int .i32)) ∧ Turn (fun x => x = b) w w' := by
  subst hx
  have hll : (l.map (Value.int .i32)).length = n := h.len
  have hone := map_one (l := l)
  rw [map_insL]
  obtain ⟨cs, hcs⟩ : ∃ cs, l.map (Value.int .i32) = cs := ⟨_, rfl⟩
  rw [hcs] at h hll hone ⊢
  obtain ⟨⟨cur, hc, hs, ht⟩, hle, hmax⟩ := id h
  unfold maxLen at hmax
  have hsz := size_i32
  have hdl : (cs.drop i).length = n - i := by rw [List.length_drop, hll]
  have hov : ∀ W lb cb, Blk W K 21 #[.int .i32 c] → Blk W b 21 cur → (callFunc 22 #[.slice (some ⟨K, 0, none⟩) 1 1, .slice (some ⟨b, i + 1, none⟩) lb cb]).run Tryd.prog W = .ok (.value (.bool false)) W := fun W lb cb h1 h2 => by
    rw [run_callFunc_extern Tryd.func22 (by kernel_rfl) (by kernel_rfl) (by kernel_rfl) (e := Extern.SlicesOverlaps.overlaps #[28, 28] #[4]) (by kernel_rfl),
      Lib.run_overlaps_apart W 28 4 21 Tryd.underlying28 1 (fun w => by kernel_rfl) ⟨K, 0, none⟩ ⟨b, i + 1, none⟩ 1 1 lb cb hKb 21 21 1 cur.size (by unfold World.shape?; rw [show W.heap[K]? = _ from h1]; rfl) (by unfold World.shape?; rw [show W.heap[b]? = _ from h2]) (by omega) (h1.free 0) (h1.free _)]
    rfl
  have hov' := fun lb cb => hov w lb cb hK hc
  obtain ⟨W1, hW1⟩ : ∃ W1, w.drew.setCells b (i + 1) (cs.drop i) = W1 := ⟨_, rfl⟩
  have hcp1 : ∀ ty dc sc, (Builtin.copy_ #[28, 28] ty #[.slice (some ⟨b, i + 1, none⟩) (n + 1 - (i + 1)) dc, .slice (some ⟨b, i, none⟩) (n + 1 - i) sc]).run Tryd.prog w.drew = .ok (goInt (cs.drop i).length) W1 := fun ty dc sc => by
    have := run_copy_cells (P := Tryd.prog) w.drew 28 28 ty 21 b (i + 1) (n + 1 - (i + 1)) dc ⟨b, i, none⟩ (n + 1 - i) sc (cs.drop i) Tryd.underlying28 hsz (by rw [hdl]; simp only [Nat.min_def]; split <;> omega)
      (fun j v hj => by rw [addr_plus]; rw [List.getElem?_drop] at hj; exact h.at_ hj)
      (fun j hj => by rw [hdl] at hj; exact h.some_ (by omega)) (fun j hj => h.free _) (fun v hv => hone v (List.mem_of_mem_drop hv))
    rw [hW1] at this
    exact this
  have b1 : Blk W1 b 21 (setL cur (i + 1) (cs.drop i)) := by rw [← hW1]; exact Blk.setCells _ _ (show Blk w.drew b _ cur from hc)
  have hs1 : (setL cur (i + 1) (cs.drop i)).size = cap := by rw [setL_size]; exact hs
  have t1 : Turn (fun g => g = b) w W1 := by rw [← hW1]; exact ((Turn.refl _ w).drew).trans (setCells_turn _ _ _ _) (fun _ _ h => h)
  have k1 : Blk W1 K 21 #[.int .i32 c] := t1.blk hK hKb
  have hcp2 : ∀ ty dc, (Builtin.copy_ #[28, 28] ty #[.slice (some ⟨b, i, none⟩) (n + 1 - i) dc, .slice (some ⟨K, 0, none⟩) 1 1]).run Tryd.prog W1 = .ok (goInt [Value.int .i32 c].length) (W1.setCells b i [.int .i32 c]) := fun ty dc =>
    run_copy_cells (P := Tryd.prog) W1 28 28 ty 21 b i (n + 1 - i) dc ⟨K, 0, none⟩ 1 1 [.int .i32 c] Tryd.underlying28 hsz (by simp only [Nat.min_def, List.length_cons, List.length_nil]; split <;> omega)
      (fun j v hj => World.news_of_block k1 j v (by simpa using hj))
      (fun j hj => by rw [b1.cell, Array.getElem?_eq_getElem (by simp at hj; omega)]; rfl) (fun j hj => b1.free _) (by intro y hy; simp at hy; subst hy; rfl)
  have hnb : ((i : Int) == (n : Int)) = false := by rw [beq_eq_false_iff_ne]; omega
  have hx0 : (0 : Int) ≤ (i : Int) := by omega
  have hx1 : (i : Int) ≤ (n : Int) := by omega
  have hx2 : (n : Int) + 1 ≤ (cap : Int) := by omega
  have hw1 : IntKind.i64.wrap ((i : Int) + 1) = (i : Int) + 1 := IntWalk.i64_in _ (by omega)
  have hw2 : IntKind.i64.wrap ((n : Int) + 1) = (n : Int) + 1 := IntWalk.i64_in _ (by omega)
  have hb1 : (0 : Int) ≤ (i : Int) + 1 := by omega
  have hb2 : ((i : Int) + 1).toNat = i + 1 := by omega
  have hb3 : ((n : Int) + 1).toNat = n + 1 := by omega
  have hb4 : ¬ cap = i + 1 := by omega
  have hb5 : ¬ cap = i := by omega
  have hb6 : (i : Int) + 1 ≤ (n : Int) + 1 := by omega
  have hb7 : (i : Int) ≤ (n : Int) + 1 := by omega
  have HW := Lib.hid hw1
  have HW2 := Lib.hid hw2
  have HB1 := Lib.hid b1
  have HS1 := Lib.hid hs1
  have HT1 := Lib.hid t1
  have HC := Lib.hid hc
  have HS := Lib.hid hs
  have HT := Lib.hid ht
  have HDL := Lib.hid hdl
  have HLL := Lib.hid hll
  clear hov hW1 b1 hs1 t1 hc hs ht k1 hK hdl hll hone hcs h hsz
  go_enter Tryd.func16, Tryd.ntmps16
  go_wp2_with (simp only [hov'])
  go_region_law (refine step_copyRun rfl (.tmp 73) (.tmp 76) 28 28 rfl (.slice (some ⟨b, i + 1, none⟩) (n + 1 - (i + 1)) (cap - (i + 1))) (.slice (some ⟨b, i, none⟩) (n + 1 - i) (cap - i)) (by simp [Act.eval, Act.put]) (by simp [Act.eval, Act.put]) (hcp1 _ _ _) ?_)
  go_wp2_with (with_reducible refine wpList_copyRun W1 rfl (.tmp 80) (.tmp 81) 28 28 rfl (.slice (some ⟨b, i, none⟩) (n + 1 - i) (cap - i)) (.slice (some ⟨K, 0, none⟩) 1 1) rfl rfl (hcp2 _ _) ?_)
  go_ret
  refine ⟨rfl, ⟨⟨_, Blk.setCells _ _ HB1.out, by rw [setL_size]; exact HS1.out, ?_⟩, by omega, by unfold maxLen; omega⟩, HT1.out.trans (setCells_turn _ _ _ _) (fun _ _ h => h)⟩
  have hs : cur.size = cap := HS.out
  have hcl2 : cur.toList.length = cap := by simpa using hs
  have hd1 : (cs.drop i).length = n - i := HDL.out
  have e1 : (setL cur (i + 1) (cs.drop i)).toList = cur.toList.take (i + 1) ++ cs.drop i ++ cur.toList.drop (i + 1 + (cs.drop i).length) := setL_toList _ _ _ (by rw [hs]; omega)
  have e2 : cs.take i = cur.toList.take i := by rw [← HT.out, List.take_take, Nat.min_eq_left (by omega)]
  rw [setL_toList _ _ _ (by rw [HS1.out]; simp; omega), e1, e2]
  exact ins_lists _ hi (by omega) hd1
end Go.Proofs.YtkgmikglifmenaaDoor.E
