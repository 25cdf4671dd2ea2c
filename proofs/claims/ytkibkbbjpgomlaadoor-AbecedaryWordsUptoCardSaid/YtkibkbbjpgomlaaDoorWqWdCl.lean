/-
  WdCl.
-/
import Derived.Test.YtkibkbbjpgomlaaDoorWqWdRight
import Derived.Test.YtkibkbbjpgomlaaDoorWqWdRd
namespace Go.Proofs.YtkibkbbjpgomlaaDoor.F
open Go.RowKit Go.Shelf Go.Maps
open Aid L LM
set_option linter.unusedSimpArgs false
set_option linter.unusedVariables false
attribute [local go_sem] Oper.semAt_some

theorem rowA_len : ∀ A : List ArcM, (rowA A).length = A.length * 3
  | [] => rfl
  | a :: A => by
    show ((arcV a).toList ++ rowA A).length = _
    rw [List.length_append, rowA_len A, List.length_cons]
    show 3 + A.length * 3 = _
    omega
theorem rowA_inv : ∀ (A : List ArcM) (k : Nat) (u : Value), (rowA A)[k]? = some u → ∃ j i a, k = j * 3 + i ∧ A[j]? = some a ∧ ∃ hi : i < (arcV a).size, u = (arcV a)[i]
  | [], k, u, h => by simp [rowA] at h
  | a :: A, k, u, h => by
    have h' : ((arcV a).toList ++ rowA A)[k]? = some u := h
    have h3 : (arcV a).toList.length = 3 := rfl
    by_cases hk : k < 3
    · rw [List.getElem?_append_left (by omega)] at h'
      obtain ⟨h1, h2⟩ := List.getElem?_eq_some_iff.1 h'
      exact ⟨0, k, a, by omega, rfl, by simpa using h1, by rw [← h2]; simp⟩
    · rw [List.getElem?_append_right (by omega), h3] at h'
      obtain ⟨j, i, b, e1, e2, e3⟩ := rowA_inv A (k - 3) u h'
      exact ⟨j + 1, i, b, by omega, by simpa using e2, e3⟩
theorem rowA_one (A : List ArcM) : ∀ u ∈ rowA A, u.oneCell' = true := fun u hu => by
  obtain ⟨k, hk⟩ := List.mem_iff_getElem?.1 hu
  obtain ⟨j, i, a, _, _, hi, rfl⟩ := rowA_inv A k u hk
  obtain ⟨la, ou, tt⟩ := a
  match i, hi with
  | 0, _ => rfl
  | 1, _ => rfl
  | 2, _ => rfl
set_option maxRecDepth 100000 in
set_option maxHeartbeats 2000000 in
theorem clone_arcs (u : Value) (A : List ArcM) (w : World) (h : ArcsAre (fun _ => False) w u A) : Calls Tryd.prog 25 #[u] w fun e w' => ∃ u', e = .returned u' ∧ ArcsAre (fun x => x < w.heap.size) w' u' A ∧ Below w.heap.size w w' := by
  obtain ⟨a, c, rfl⟩ := h.slice
  have hl : A.length ≤ 1000000 := by obtain ⟨_, _, _, h, _⟩ := h; exact h
  obtain ⟨n, hn⟩ : ∃ n, A.length = n := ⟨_, rfl⟩
  rw [hn] at h ⊢
  cases a with
  | none =>
    have hA : A = [] := by
      cases A with
      | nil => rfl
      | cons x A =>
        rw [← hn] at h
        obtain ⟨g, off, e, _⟩ := h.at_ (j := 0) (x := x) rfl
        cases e
    subst hA
    simp only [List.length_nil] at hn
    subst hn
    have hq : ∀ w : World, (binOp .eql 59 (.slice none 0 c) (.slice none 0 0)).run Tryd.prog w = .ok (.bool true) w := fun w => Lib.run_eql_slice_nil w _ _ none 0 c 0 0 Tryd.underlying59
    go_enter Tryd.func25, Tryd.ntmps25
    go_wp2_with fail
    go_ret
    refine ⟨_, rfl, ⟨none, 0, rfl, by simp, fun x e => (nomatch e), fun j x hj => by simp at hj⟩, Below.refl _ _⟩
  | some ad =>
    obtain ⟨i0, z0, hi0, hz0, hsz0, hby0, hzs0⟩ := info_arc
    have hown : (w.alloc (.cells #[] 63)).ownsRow w.heap.size 63 3 (.slice (some ⟨w.heap.size, 0, none⟩) 0 0) 0 [] := World.ownsRow_made w #[] 0 (Nat.le_refl _) (by unfold maxLen; omega) (by simp)
    have hbX : Below w.heap.size w (w.alloc (.cells #[] 63)) := (Below.refl _ _).alloc (Nat.le_refl _) _
    have hnews : ∀ k u, (rowA A)[k]? = some u → (w.alloc (.cells #[] 63)).cell? (ad.add k) = some u := fun k u hk => by
      obtain ⟨j, i, x, rfl, hx, hi, rfl⟩ := rowA_inv A k u hk
      rw [← hn] at h
      obtain ⟨g, off, e, hg, _, hc⟩ := h.at_ hx
      cases e
      have := hc i hi
      rw [W.add_any, ← Nat.add_assoc]
      exact (hbX.cell (p := ⟨g, off + j * 3 + i, none⟩) hg).trans this
    obtain ⟨u8, W8, hr8, own8, grow8, _, new8⟩ := run_append_own_at (P := Tryd.prog) (w.alloc (.cells #[] 63)) w.heap.size 59 59 63 i0 z0 3 24 Tryd.underlying59 hi0 hz0 hsz0 hby0 hzs0 (by decide) (.slice (some ⟨w.heap.size, 0, none⟩) 0 0) 0 [] hown ad n c (rowA A) (by rw [rowA_len, hn]) hnews (rowA_one A) (by unfold maxLen; omega) (by omega) hbX.size
    rw [Nat.zero_add, List.nil_append] at own8
    have hb8 : Below w.heap.size w W8 := ⟨grow8.os.trans hbX.os, grow8.tape.trans hbX.tape, grow8.output.trans hbX.output, Nat.le_trans hbX.size grow8.size, fun k hk => (grow8.block k (Nat.lt_of_lt_of_le hk hbX.size) (fun e => by simp [Value.ownBlock] at e; omega)).trans (hbX.block k hk)⟩
    have hq : ∀ w : World, (binOp .eql 59 (.slice (some ad) n c) (.slice none 0 0)).run Tryd.prog w = .ok (.bool false) w := fun w => Lib.run_eql_slice_nil w _ _ (some ad) _ _ 0 0 Tryd.underlying59
    have HE := Lib.hid (And.intro own8 hb8)
    clear hown hbX hnews own8 grow8 new8 hb8 h
    go_enter Tryd.func25, Tryd.ntmps25
    go_wp2_with (at_builtin; refine wpList_append_run _ (by rfl) _ _ _ rfl _ _ rfl rfl _ _ hr8 ?_)
    go_ret
    obtain ⟨own8, hb8⟩ := HE.out
    refine ⟨_, rfl, arcs_own (by rw [hn]; exact own8) hl (fun x hx e => by have := (own8.lt x hx).1; omega), hb8⟩
end Go.Proofs.YtkibkbbjpgomlaaDoor.F
