/-
  The library's Delete of one number.
-/
import Derived.Test.YtkgmikglifmenaaDoorEdCells
import Derived.Deep.RegionLaw
namespace Go.Proofs.YtkgmikglifmenaaDoor.E
open Go.RowKit Aid L
set_option linter.unusedVariables false
set_option linter.unusedSimpArgs false

theorem map_one {l : List Int} : ∀ v ∈ l.map (Value.int .i32), v.oneCell' = true := fun v hv => by
  obtain ⟨x, _, rfl⟩ := List.mem_map.1 hv; rfl
theorem zero_i32 (w : World) : (zeroValue 21).run Tryd.prog w = .ok (.int .i32 0) w := by kernel_rfl
theorem Row.len {w : World} {b : Nat} {t : TypeId} {n cap : Nat} {xs : List Value} (h : Row w b t n cap xs) : xs.length = n := by
  obtain ⟨⟨cur, hc, hs, ht⟩, h1, h2⟩ := h
  rw [← ht, List.length_take]
  have : cur.toList.length = cap := by simpa using hs
  omega
theorem Row.at_ {w : World} {b : Nat} {t : TypeId} {n cap : Nat} {xs : List Value} (h : Row w b t n cap xs) {j : Nat} {v : Value} (hv : xs[j]? = some v) : w.cell? ⟨b, j, none⟩ = some v := by
  obtain ⟨⟨cur, hc, hs, ht⟩, h1, h2⟩ := h
  rw [hc.cell j, ← Array.getElem?_toList]
  rw [← ht] at hv
  have hj : j < (cur.toList.take n).length := (List.getElem?_eq_some_iff.1 hv).1
  rw [List.length_take] at hj
  rw [List.getElem?_take_of_lt (by omega)] at hv
  exact hv
theorem Row.some_ {w : World} {b : Nat} {t : TypeId} {n cap : Nat} {xs : List Value} (h : Row w b t n cap xs) {j : Nat} (hj : j < cap) : (w.cell? ⟨b, j, none⟩).isSome = true := by
  obtain ⟨⟨cur, hc, hs, ht⟩, h1, h2⟩ := h
  rw [hc.cell j, Array.getElem?_eq_getElem (by omega)]; rfl
theorem Row.free {w : World} {b : Nat} {t : TypeId} {n cap : Nat} {xs : List Value} (h : Row w b t n cap xs) (j : Nat) : w.frozen? ⟨b, j, none⟩ = false := by
  obtain ⟨⟨cur, hc, hs, ht⟩, h1, h2⟩ := h
  exact hc.free j
set_option maxHeartbeats 1000000 in
set_option maxRecDepth 100000 in
theorem delete_any (b n cap i : Nat) (l : List Int) (x y : Int) (w : World) (h : Row w b 21 n cap (l.map (.int .i32))) (hi : i < n) (hx : x = i) (hy : y = i + 1) :
    Calls Tryd.prog 15 #[.slice (some ⟨b, 0, none⟩) n cap, .int .i64 x, .int .i64 y] w fun e w' => e = .returned (.slice (some ⟨b, 0, none⟩) (n - 1) cap) ∧ Row w' b 21 (n - 1) cap ((l.eraseIdx i).map (.int .i32)) ∧ Turn (fun g => g = b) w w' := by
  subst hx hy
  have hll : l.length = n := by have := h.len; rwa [List.length_map] at this
  obtain ⟨i0, hi0, hz0, hz1, hz2⟩ := info_parts info_i32
  obtain ⟨⟨cur, hc, hs, ht⟩, hle, hmax⟩ := id h
  unfold maxLen at hmax
  obtain ⟨news, hnews⟩ : ∃ news, (l.drop (i + 1)).map (Value.int .i32) = news := ⟨_, rfl⟩
  have hlen : news.length = n - (i + 1) := by rw [← hnews]; simp; omega
  obtain ⟨A, hA, hsrc⟩ : ∃ A : Addr, (if cap = i + 1 then some (⟨b, 0, none⟩ : Addr) else some ⟨b, i + 1, none⟩) = some A ∧ Hid (∀ t u, news[t]? = some u → w.drew.cell? (A.add t) = some u) := by
    by_cases hc : cap = i + 1
    · refine ⟨⟨b, 0, none⟩, by simp [hc], fun t u hu => ?_⟩
      have h0 : news = [] := List.eq_nil_of_length_eq_zero (by omega)
      rw [h0] at hu
      simp at hu
    · refine ⟨⟨b, i + 1, none⟩, by simp [hc], fun t u hu => ?_⟩
      have e : (⟨b, i + 1, none⟩ : Addr).add t = ⟨b, i + 1 + t, none⟩ := by unfold Addr.add; split <;> simp_all
      rw [e]
      show w.cell? _ = _
      refine h.at_ ?_
      rw [← hnews, List.map_drop] at hu
      rw [List.getElem?_drop] at hu
      exact hu
  have s1 : Hid (news.length = (n - (i + 1)) * 1) := by rw [Nat.mul_one]; exact hlen
  have s2 : Hid (∀ u ∈ news, u.oneCell' = true) := by rw [← hnews]; exact map_one
  have s3 : Hid (∀ t, t < news.length → (w.drew.cell? ⟨b, 0 + i * 1 + t, none⟩).isSome = true ∧ w.drew.frozen? ⟨b, 0 + i * 1 + t, none⟩ = false) := fun t ht =>
    ⟨h.some_ (by omega), h.free _⟩
  obtain ⟨W1, hW1⟩ : ∃ W1, W1 = w.drew.setCells b (0 + i * 1) news := ⟨_, rfl⟩
  have b1 : Blk W1 b 21 (setL cur (0 + i * 1) news) := by rw [hW1]; exact Blk.setCells _ _ (show Blk w.drew b _ cur from hc)
  have hs1 : (setL cur (0 + i * 1) news).size = cap := by rw [setL_size]; exact hs
  have t1 : Turn (fun g => g = b) w W1 := by rw [hW1]; exact ((Turn.refl _ w).drew).trans (setCells_turn _ _ _ _) (fun _ _ h => h)
  have hcl : ∀ ty, (Builtin.clear_ #[28] ty #[.slice (some ⟨b, n - 1, none⟩) (n - (n - 1)) (cap - (n - 1))]).run Tryd.prog W1 = .ok (.tuple #[]) (W1.setCells b (n - 1) (List.replicate (n - (n - 1)) (.int .i32 0))) :=
    fun ty => Lib.run_clear_slice W1 _ _ ty _ Tryd.underlying28 zero_i32 rfl rfl b (n - 1) _ _ (by omega) (fun t ht => by rw [b1.cell, Array.getElem?_eq_getElem (by omega)]; rfl) (fun t ht => b1.free _)
  have hW := Lib.hid hW1
  have e1 : i + (n - (i + 1)) = n - 1 := by omega
  have hcn : ¬ cap = n - 1 := by omega
  have hx0 : (0 : Int) ≤ (i : Int) := by omega
  have hic : i ≤ cap := by omega
  have hic' : (i : Int) ≤ (cap : Int) := by omega
  have hjc : (i : Int) + 1 ≤ (n : Int) := by omega
  have hjc' : i + 1 ≤ n := by omega
  have hj0 : (0 : Int) ≤ (i : Int) + 1 := by omega
  have hjn : ((i : Int) + 1).toNat = i + 1 := by omega
  have hN1 : n - 1 ≤ n := by omega
  have HC := Lib.hid hc
  have HT := Lib.hid ht
  have HB1 := Lib.hid b1
  have HS1 := Lib.hid hs1
  have HT1 := Lib.hid t1
  have HS := Lib.hid hs
  clear hW1 hc ht b1 hs1 t1 hs h hlen
  go_enter Tryd.func15, Tryd.ntmps15
  go_wp2_with fail
  go_region_law (refine step_append_room rfl (.tmp 22) (.tmp 25) 28 rfl 21 i0 1 Tryd.underlying28 hi0 hz1 b 0 i cap (by simp [Act.eval, Act.put]) A (n - (i + 1)) (cap - (i + 1)) news (by simp [Act.eval, Act.put]) s1.out hsrc.out s2.out (by omega) s3.out ?_; rw [← hW.out])
  go_wp2
  go_ret
  refine ⟨rfl, ?_, HT1.out.trans (setCells_turn _ _ _ _) (fun _ _ h => h)⟩
  refine ⟨⟨_, Blk.setCells _ _ HB1.out, by rw [setL_size]; exact HS1.out, ?_⟩, by omega, by unfold maxLen; omega⟩
  have hnl : news.length = n - (i + 1) := by have := s1.out; omega
  have hs : cur.size = cap := HS.out
  have hcl2 : cur.toList.length = cap := by simpa using hs
  rw [setL_toList _ _ _ (by rw [HS1.out, List.length_replicate]; omega), List.append_assoc, List.take_append_of_le_length (by rw [List.length_take]; have := HS1.out; rw [Array.length_toList]; omega), List.take_take, Nat.min_self,
    setL_toList _ _ _ (by rw [hs]; omega), List.take_append_of_le_length (by rw [List.length_append, List.length_take]; omega), List.take_of_length_le (by rw [List.length_append, List.length_take]; omega)]
  rw [List.eraseIdx_eq_take_drop_succ, List.map_append, hnews, List.map_take, ← HT.out, List.take_take]
  congr 2
  omega
end Go.Proofs.YtkgmikglifmenaaDoor.E
