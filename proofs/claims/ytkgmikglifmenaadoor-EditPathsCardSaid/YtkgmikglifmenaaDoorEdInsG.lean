/-
  The library's Insert of one number, where a new row is made; all three ways together.
-/
import Derived.Test.YtkgmikglifmenaaDoorEdIns
namespace Go.Proofs.YtkgmikglifmenaaDoor.E
open Go.RowKit Go.Maps Aid L
set_option linter.unusedVariables false
set_option linter.unusedSimpArgs false

theorem Turn.more {O O' : Nat → Prop} {w w' : World} (h : Turn O w w') (hO : ∀ x, O x → O' x) : Turn O' w w' := ⟨h.size, h.os, h.tape, h.output, fun x hx hn => h.kept x hx (fun ho => hn (hO x ho))⟩
theorem zeroCells_size (n : Nat) : (Builtin.zeroCells (Value.int .i32 0).cells n).size = n := by simp [Builtin.zeroCells, Value.cells]
theorem grow_lists {A C D : List Value} {i n : Nat} (v : Value) (hi : i < n) (hA : A.length = n) (hC : n + 1 ≤ (A.take i ++ C).length) (hD : D.length = n - i) :
    ((((A.take i ++ C).take i ++ [v] ++ (A.take i ++ C).drop (i + 1)).take (i + 1)) ++ D ++ (((A.take i ++ C).take i ++ [v] ++ (A.take i ++ C).drop (i + 1)).drop (i + 1 + D.length))).take (n + 1) = A.take i ++ v :: D := by
  have la : (A.take i).length = i := by rw [List.length_take]; omega
  have e1 : (A.take i ++ C).take i = A.take i := List.take_left' la
  rw [e1]
  have l2 : (A.take i ++ [v]).length = i + 1 := by rw [List.length_append, la]; rfl
  rw [List.take_left' l2, show A.take i ++ [v] ++ D ++ _ = (A.take i ++ v :: D) ++ (A.take i ++ [v] ++ (A.take i ++ C).drop (i + 1)).drop (i + 1 + D.length) by simp]
  exact List.take_left' (by rw [List.length_append, la, List.length_cons]; omega)
set_option maxHeartbeats 1000000 in
set_option maxRecDepth 100000 in
theorem insert_grow (b n i : Nat) (l : List Int) (c x : Int) (K : Nat) (w : World) (h : Row w b 21 n n (l.map (.int .i32))) (hK : Blk w K 21 #[.int .i32 c]) (hx : x = i) (hi : i < n) (hn : n ≤ 1000000) :
    Calls Tryd.prog 16 #[.slice (some ⟨b, 0, none⟩) n n, .int .i64 x, .slice (some ⟨K, 0, none⟩) 1 1] w fun e w' => ∃ G, e = .returned (.slice (some ⟨w.heap.size, 0, none⟩) (n + 1) G) ∧ Row w' w.heap.size 21 (n + 1) G ((insL l i c).map (.int .i32)) ∧ Below w.heap.size w w' := by
  subst hx
  have hll : (l.map (Value.int .i32)).length = n := h.len
  have hone := map_one (l := l)
  rw [map_insL]
  obtain ⟨cs, hcs⟩ : ∃ cs, l.map (Value.int .i32) = cs := ⟨_, rfl⟩
  rw [hcs] at h hll hone ⊢
  obtain ⟨i0, hi0, hz0, hzs, hzb⟩ := info_parts info_i32
  obtain ⟨⟨cur, hc, hs, ht⟩, hle, hmax⟩ := id h
  unfold maxLen at hmax
  have hsz := size_i32
  have hdl : (cs.drop i).length = n - i := by rw [List.length_drop, hll]
  have hbw := hc.lt
  have hKw := hK.lt
  have hold : (Builtin.firstCells i0.size i (.slice (some ⟨b, 0, none⟩) i n)).run Tryd.prog w.drew = .ok (cs.take i).toArray w.drew := by
    rw [hzs]
    exact run_firstCells_some w.drew 1 i ⟨b, 0, none⟩ i n (cs.take i) (by rw [List.length_take]; omega) (fun j v hj => by
      rw [addr_plus, Nat.zero_add]
      rw [List.getElem?_take] at hj
      split at hj
      · exact h.at_ hj
      · cases hj)
  obtain ⟨G, hG⟩ : ∃ G, grownCap w (n + 1) n 21 = G := ⟨_, rfl⟩
  have hGn : n + 1 ≤ G := by rw [← hG]; exact grownCap_ge w _ _ _
  have hGm : G ≤ maxLen := by rw [← hG]; exact grownCap_le_maxLen w _ _ _ (by unfold maxLen; omega)
  obtain ⟨Z, hZ⟩ : ∃ Z, Builtin.zeroCells (Value.int .i32 0).cells (n + 1 - i) ++ Builtin.zeroCells (Value.int .i32 0).cells (G - (n + 1)) = Z := ⟨_, rfl⟩
  have hZs : Z.size = G - i := by rw [← hZ, Array.size_append, zeroCells_size, zeroCells_size]; omega
  obtain ⟨ROW, hROW⟩ : ∃ ROW : Array Value, (cs.take i).toArray ++ Z = ROW := ⟨_, rfl⟩
  have hRs : ROW.size = G := by rw [← hROW, Array.size_append, hZs]; simp; omega
  have hRl : ROW.toList = cs.take i ++ Z.toList := by rw [← hROW, Array.toList_append]
  obtain ⟨N, hN⟩ : ∃ N, w.heap.size = N := ⟨_, rfl⟩
  obtain ⟨W1, hW1⟩ : ∃ W1, w.drew.alloc (.cells ROW 21) = W1 := ⟨_, rfl⟩
  have hrz : ∀ ty, (Builtin.append_ #[28, 3] ty #[.slice (some ⟨b, 0, none⟩) i n, .int .i64 ((n : Int) + 1 - (i : Int))]).run Tryd.prog w = .ok (.slice (some ⟨N, 0, none⟩) (n + 1) G) W1 := fun ty => by
    have h1 := Lib.run_append_grow_zeros w 28 3 ty 21 i0 _ .i64 .i64 Tryd.underlying28 Tryd.underlying3 hi0 hz0 (some ⟨b, 0, none⟩) i n (cs.take i) hold (n + 1 - i) (by omega) (by omega) (by omega) (by omega) (by rw [hzb]; omega) (by rw [hzb, show i + (n + 1 - i) = n + 1 by omega]; exact growslice_fits (by omega) (by omega))
    rw [show i + (n + 1 - i) = n + 1 by omega, hG, hN, Array.append_assoc, hZ, hROW, hW1, show ((n + 1 - i : Nat) : Int) = (n : Int) + 1 - (i : Int) by omega] at h1
    exact h1
  have b1 : Blk W1 N 21 ROW := by rw [← hW1, ← hN]; exact Blk.alloc_new _ _ _
  have u1 : Below w.heap.size w W1 := by rw [← hW1]; exact ((Below.refl _ _).drew).alloc (Nat.le_refl _) _
  have k1 := hK.below u1 hKw
  have c1 := hc.below u1 hbw
  obtain ⟨W2, hW2⟩ : ∃ W2, W1.setCells N i [.int .i32 c] = W2 := ⟨_, rfl⟩
  have hcpA : ∀ ty dc, (Builtin.copy_ #[28, 28] ty #[.slice (some ⟨N, i, none⟩) (n + 1 - i) dc, .slice (some ⟨K, 0, none⟩) 1 1]).run Tryd.prog W1 = .ok (goInt [Value.int .i32 c].length) W2 := fun ty dc => by
    have h1 := run_copy_cells (P := Tryd.prog) W1 28 28 ty 21 N i (n + 1 - i) dc ⟨K, 0, none⟩ 1 1 [.int .i32 c] Tryd.underlying28 hsz (by simp only [Nat.min_def, List.length_cons, List.length_nil]; split <;> omega)
      (fun j v hj => World.news_of_block k1 j v (by simpa using hj))
      (fun j hj => by rw [b1.cell, Array.getElem?_eq_getElem (by simp at hj; omega)]; rfl) (fun j hj => b1.free _) (by intro y hy; simp at hy; subst hy; rfl)
    rw [hW2] at h1
    exact h1
  have b2 : Blk W2 N 21 (setL ROW i [.int .i32 c]) := by rw [← hW2]; exact Blk.setCells _ _ b1
  have hs2 : (setL ROW i [.int .i32 c]).size = G := by rw [setL_size]; exact hRs
  have t2 : Turn (fun g => g = N) W1 W2 := by rw [← hW2]; exact setCells_turn _ _ _ _
  have c2 := t2.blk c1 (by show b ≠ N; omega)
  have hcpB : ∀ ty dc sc, (Builtin.copy_ #[28, 28] ty #[.slice (some ⟨N, i + 1, none⟩) (n + 1 - (i + 1)) dc, .slice (some ⟨b, i, none⟩) (n - i) sc]).run Tryd.prog W2.drew = .ok (goInt (cs.drop i).length) (W2.drew.setCells N (i + 1) (cs.drop i)) := fun ty dc sc =>
    run_copy_cells (P := Tryd.prog) W2.drew 28 28 ty 21 N (i + 1) (n + 1 - (i + 1)) dc ⟨b, i, none⟩ (n - i) sc (cs.drop i) Tryd.underlying28 hsz (by rw [hdl]; simp only [Nat.min_def]; split <;> omega)
      (fun j v hj => by
        rw [addr_plus]
        show W2.cell? _ = _
        rw [c2.cell, ← hc.cell]
        rw [List.getElem?_drop] at hj
        exact h.at_ hj)
      (fun j hj => by show (W2.cell? _).isSome = true; rw [b2.cell, Array.getElem?_eq_getElem (by omega)]; rfl) (fun j hj => b2.free _) (fun v hv => hone v (List.mem_of_mem_drop hv))
  have hnb : ((i : Int) == (n : Int)) = false := by rw [beq_eq_false_iff_ne]; omega
  have hx0 : (0 : Int) ≤ (i : Int) := by omega
  have hx1 : (i : Int) ≤ (n : Int) := by omega
  have hx2 : (n : Int) < (n : Int) + 1 := by omega
  have hw1 : IntKind.i64.wrap ((i : Int) + 1) = (i : Int) + 1 := IntWalk.i64_in _ (by omega)
  have hb1 : (0 : Int) ≤ (i : Int) + 1 := by omega
  have hb2 : ((i : Int) + 1).toNat = i + 1 := by omega
  have hb4 : ¬ G = i + 1 := by omega
  have hb5 : ¬ G = i := by omega
  have hb6 : (i : Int) + 1 ≤ (n : Int) + 1 := by omega
  have hb7 : (i : Int) ≤ (n : Int) + 1 := by omega
  have hb8 : ¬ n = i := by omega
  have hG9 : G ≤ 9223372036854775807 := by unfold maxLen at hGm; omega
  have HGM := Lib.hid hGm
  have HRL := Lib.hid hRl
  have HRS := Lib.hid hRs
  have HB2 := Lib.hid b2
  have HS2 := Lib.hid hs2
  have HT2 := Lib.hid t2
  have HU1 := Lib.hid u1
  have HDL := Lib.hid hdl
  have HLL := Lib.hid hll
  have HN := Lib.hid hN
  clear hW1 hW2 b1 b2 hs2 t2 c1 c2 k1 u1 hc hs ht hK hdl hll hone hcs h hsz hROW hRl hRs hZ hZs hG hGm hN hold hi0 hz0 hzs hzb
  go_enter Tryd.func16, Tryd.ntmps16
  go_wp2_with (first
    | (at_builtin; with_reducible refine Lib.wpList_append_run w rfl (.tmp 34) (.tmp 39) 28 3 rfl (.slice (some ⟨b, 0, none⟩) i n) (.int .i64 ((n : Int) + 1 - (i : Int))) rfl rfl _ _ (hrz _) ?_)
    | (with_reducible refine wpList_copyRun W1 rfl (.tmp 43) (.tmp 44) 28 28 rfl (.slice (some ⟨N, i, none⟩) (n + 1 - i) (G - i)) (.slice (some ⟨K, 0, none⟩) 1 1) rfl rfl (hcpA _ _) ?_))
  go_region_law (refine step_copyRun rfl (.tmp 50) (.tmp 53) 28 28 rfl (.slice (some ⟨N, i + 1, none⟩) (n + 1 - (i + 1)) (G - (i + 1))) (.slice (some ⟨b, i, none⟩) (n - i) (n - i)) (by simp [Act.eval, Act.put]) (by simp [Act.eval, Act.put]) (hcpB _ _ _) ?_)
  go_wp2_with fail
  go_ret
  have hd1 : (cs.drop i).length = n - i := HDL.out
  have hrs : ROW.size = G := HRS.out
  have hl2 : (setL ROW i [Value.int .i32 c]).toList = ROW.toList.take i ++ [.int .i32 c] ++ ROW.toList.drop (i + 1) := setL_toList _ _ _ (by simp; omega)
  have hnl : cs.length = n := HLL.out
  refine ⟨G, by rw [HN.out]; rfl, ⟨⟨_, by rw [HN.out]; exact Blk.setCells _ _ (show Blk W2.drew N _ _ from HB2.out), by rw [setL_size]; exact HS2.out, ?_⟩, hGn, HGM.out⟩, ?_⟩
  · rw [setL_toList _ _ _ (by rw [HS2.out]; omega), hl2, HRL.out]
    exact grow_lists _ hi hnl (by rw [← HRL.out, Array.length_toList]; omega) hd1
  · have ht : Turn (fun g => g = N) w (W2.drew.setCells N (i + 1) (cs.drop i)) := (((Turn.of_below HU1.out).trans HT2.out (fun _ _ h => h)).drew).trans (setCells_turn _ _ _ _) (fun _ _ h => h)
    exact ht.below (Nat.le_refl _) (fun x hx => by have : x = N := hx; have := HN.out; omega)
theorem insert_any (B : Nat) (v : Value) (n i : Nat) (l : List Int) (c x : Int) (K : Nat) (w : World) (h : w.ownsRow B 21 1 v n (l.map (.int .i32))) (hK : Blk w K 21 #[.int .i32 c]) (hKv : v.ownBlock ≠ some K) (hx : x = i) (hi : i ≤ n) (hn : n ≤ 1000000) (hB : B ≤ w.heap.size) :
    Calls Tryd.prog 16 #[v, .int .i64 x, .slice (some ⟨K, 0, none⟩) 1 1] w (InsEnd B v n l i c w) := by
  by_cases he : i = n
  · subst he
    exact insert_end B v i l c x K w h hK hx hn hB
  · have hnn : v ≠ .slice none 0 0 := by
      intro e
      rcases h.2 with ⟨_, h0⟩ | ⟨g, cap, cur, h1, _⟩
      · omega
      · rw [e] at h1; cases h1
    obtain ⟨b, cap, rfl, hb, hr⟩ := owns_row h hnn
    by_cases hc : n + 1 ≤ cap
    · refine (insert_room b n cap i l c x K w hr hK (fun e => hKv (by rw [e]; rfl)) hx (by omega) hc).mono ?_
      rintro e w' ⟨rfl, h1, h2⟩
      exact ⟨_, rfl, h1.owns hb, h2.more (fun x hx => by rw [show x = b from hx]; rfl), .inl rfl⟩
    · obtain rfl : cap = n := by have := hr.le; omega
      refine (insert_grow b cap i l c x K w hr hK hx (by omega) hn).mono ?_
      rintro e w' ⟨G, rfl, h1, h2⟩
      exact ⟨_, rfl, h1.owns hB, Turn.of_below h2, .inr ⟨_, rfl, Nat.le_refl _⟩⟩
end Go.Proofs.YtkgmikglifmenaaDoor.E
