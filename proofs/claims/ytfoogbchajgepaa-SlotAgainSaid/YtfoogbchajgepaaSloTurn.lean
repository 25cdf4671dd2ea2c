/-
  Bytes that may be turned; Read, whose bytes may be.
-/
import Derived.Test.YtfoogbchajgepaaSloVals
namespace Go.Proofs.Ytfoogbchajgepaa.S
open Go.RowKit
open Aid K
set_option linter.unusedSimpArgs false
set_option linter.unusedVariables false

/-- 'x := []byte(s)': a new block holds the bytes. -/
theorem bytes_own {P : Program} {ops : Array Oper} {rest : List Oper} {o : Oper} {a : Act} {Q : Exit → Act → World → Prop} (w : World)
    (hg : o.guard = none) (src dst : TypeId) (x : Operand) (hop : o.op = Op.convert src dst x) (e : TypeId)
    (hs : P.underlying src = some .string) (hd : P.underlying dst = some (.slice e)) (he : P.underlying e = some (.int .u8))
    (s : ByteArray) (hx : a.eval x = .string s) (n : Nat) (hn : s.size = n)
    (hK : ∀ g cap w1, n ≤ cap → w.heap.size ≤ g → g < w1.heap.size → Below w.heap.size w w1 → (∀ j (hj : j < s.size), w1.cell? ⟨g, j, none⟩ = some (.int .u8 ((s[j]'hj).toNat : Int))) → (∀ j, j < s.size → w1.frozen? ⟨g, j, none⟩ = false) →
      wpList P ops Q rest (a.put o.dst (.slice (some ⟨g, 0, none⟩) n cap)) w1) : wpList P ops Q (o :: rest) a w := by
  subst hn
  refine wpList_plain hg fun K hK' => ?_
  have hrun := run_bytes_of_string (P := P) w src dst e s hs hd he
  unfold Oper.wp
  simp [execOp, hop, hx, hrun, Result.andThen]
  refine hK' _ _ (hK w.heap.size _ _ (grownCap_ge w s.size 0 e) (Nat.le_refl _) (by simp) ((Below.refl _ _).drew.alloc (by simp) _) ?_ ?_)
  · intro j hj
    have h1 := World.cell?_alloc_mark w.drew (bytesRow s (grownCap w s.size 0 e)) e ((bytesRow s (grownCap w s.size 0 e)).size, (bytesRow s (grownCap w s.size 0 e)).size + 1) j
    have h2 := bytesRow_at s (grownCap w s.size 0 e) j hj
    rw [h2] at h1
    exact h1
  · intro j hj
    have hsz : s.size ≤ (bytesRow s (grownCap w s.size 0 e)).size := by unfold bytesRow; rw [Array.size_append, Array.size_map]; exact Nat.le_add_right _ _
    obtain ⟨N, hN⟩ : ∃ N, (bytesRow s (grownCap w s.size 0 e)).size = N := ⟨_, rfl⟩
    rw [hN] at hsz ⊢
    have e1 : (w.drew.alloc (.cells (bytesRow s (grownCap w s.size 0 e)) e (N, N + 1))).heap[w.heap.size]? = some (.cells (bytesRow s (grownCap w s.size 0 e)) e (N, N + 1)) := by
      show (w.heap.push _)[w.heap.size]? = _
      exact Array.getElem?_push_size
    unfold World.frozen?
    show (match (w.drew.alloc (.cells (bytesRow s (grownCap w s.size 0 e)) e (N, N + 1))).heap[w.heap.size]? with | some (.cells _ _ (lo, hi)) => decide (lo ≤ j) && decide (j < hi) | _ => false) = false
    rw [e1]
    show (decide (N ≤ j) && decide (j < N + 1)) = false
    rw [decide_eq_false (by omega)]; rfl

set_option maxRecDepth 100000 in
set_option maxHeartbeats 1000000 in
theorem read_turn (O : Nat → Prop) (p : Nat) (st : DSt) (area n : Int) (L : List ByteArray) (s : Bool) (w : World) (h : DiskIs O w p st) (ha : (Lit.int .u64 area).wf = true) (hn : (Lit.int .i64 n).wf = true) (hF : st.F area n = some (L, s)) (hLn : L ≠ []) (hsz : (L.getLast hLn).size ≤ 1000) :
    Calls Try.prog 13 #[.pointer (some ⟨p, 0, none⟩), .int .u64 area, .int .i64 n] w fun e w' => (∃ v', e = .returned (.tuple #[v', .bool true]) ∧ Ints w' .u8 v' (bytesI (L.getLast hLn)) ∧ ∀ b o n c, v' = .slice (some ⟨b, o, none⟩) n c → (n ≠ 0 → w.heap.size ≤ b) ∧ n ≤ c ∧ ∀ j, j < n → w'.frozen? ⟨b, o + j, none⟩ = false) ∧ Below w.heap.size w w' := by
  obtain ⟨m, G, hD⟩ := h
  obtain ⟨c0, c1, c2, c3, c4⟩ := hD.cells
  have hL1 := hD.area ha
  obtain ⟨sv, sb, hL2, hsv⟩ := hD.sector (a := area) hn
  rw [hF] at hL2
  simp only [Option.isSome_some] at hL2
  have hV : Vers O w sv L := by
    rcases hsv with ⟨e, _⟩ | ⟨s', e, _, e2, _⟩
    · rw [hF] at e; cases e
    · rw [hF] at e; obtain rfl := Option.some.inj e; exact e2
  clear hsv
  obtain ⟨h63, av, cv, rfl, hlc, hnil, hcell⟩ := hV
  have hpos : 0 < L.length := List.length_pos_iff.2 hLn
  obtain ⟨k, hk⟩ : ∃ k, L.length = k + 1 := ⟨L.length - 1, by omega⟩
  obtain ⟨b, o, rfl, _, hbw, hlast⟩ := hcell k (by omega)
  have hlast2 : L.getD k ByteArray.empty = L.getLast hLn := by
    rw [List.getLast_eq_getElem, List.getD_eq_getElem?_getD, List.getElem?_eq_getElem (by omega)]
    simp [hk]
  rw [hlast2] at hlast
  obtain ⟨S, hS⟩ : ∃ S, L.getLast hLn = S := ⟨_, rfl⟩
  rw [hS] at hlast hsz ⊢
  have hb : Below w.heap.size w (w.alloc (.cells #[.slice (some ⟨b, o, none⟩) L.length cv, .bool sb] 69)) := (Below.refl _ _).alloc (Nat.le_refl _) _
  have hx := (hb.cell (p := ⟨b, o + k, none⟩) hbw).trans hlast
  have hw1 : IntKind.i64.wrap ((L.length : Int) - 1) = (k : Int) := by rw [IntWalk.i64_in _ (by omega)]; omega
  have hkl : (k : Int) < (L.length : Int) := by omega
  have HW := Lib.hid hw1
  clear hw1
  go_enter Try.func13, Try.ntmps13
  have hw1 := HW.out
  go_wp2_with (first | (refine bytes_own _ rfl _ _ _ rfl 5 Try.underlying9 Try.underlying31 Try.underlying5 S rfl _ rfl ?_; intro g cap w2 hcap hg hg2 hb2 hc2 hfz2))
  go_ret2
  refine ⟨⟨.slice (some ⟨g, 0, none⟩) S.size cap, rfl, ?_, fun b' o' n' c' hv' => by
    simp at hv'
    have := hg
    simp at this
    refine ⟨fun _ => by omega, by omega, fun j hj => ?_⟩
    rw [← hv'.1.1, ← hv'.1.2, Nat.zero_add]
    exact hfz2 j (by omega)⟩, (((Below.refl w.heap.size w).alloc (Nat.le_refl _) _).trans (hb2.mono (by simp)))⟩
  have hlen : (bytesI S).length = S.size := by simp [bytesI]
  refine ⟨by rw [hlen]; omega, .inr ⟨g, 0, cap, by rw [hlen], hg2, fun j hj => ?_⟩⟩
  rw [hlen] at hj
  rw [Nat.zero_add, hc2 j hj]
  have e : (bytesI S).getD j 0 = ((S[j]'hj).toNat : Int) := by
    have hj2 : j < S.data.size := hj
    simp only [bytesI, List.getD_eq_getElem?_getD, List.getElem?_map, Array.getElem?_toList, Array.getElem?_eq_getElem hj2, Option.map_some, Option.getD_some, ByteArray.getElem_eq_getElem_data]
  rw [e]

theorem disk_turn (O : Nat → Prop) (p : Nat) (st : DSt) (area n : Int) (w : World) (h : DiskIs O w p st) (ha : (Lit.int .u64 area).wf = true) (hn : (Lit.int .i64 n).wf = true) (h64 : (lastI st area n).length ≤ 1000) :
    Calls Try.prog 13 #[.pointer (some ⟨p, 0, none⟩), .int .u64 area, .int .i64 n] w fun e w' => (∃ v', e = .returned (.tuple #[v', .bool (st.F area n).isSome]) ∧ Ints w' .u8 v' (lastI st area n) ∧ ∀ b o n c, v' = .slice (some ⟨b, o, none⟩) n c → (n ≠ 0 → w.heap.size ≤ b) ∧ n ≤ c ∧ ∀ j, j < n → w'.frozen? ⟨b, o + j, none⟩ = false) ∧ Below w.heap.size w w' := by
  cases hF : st.F area n with
  | none =>
    have hl : lastI st area n = [] := by unfold lastI; rw [hF]
    rw [hl]
    refine (read_none O p st area n w h ha hn hF).mono ?_
    rintro e w' ⟨rfl, hb⟩
    exact ⟨⟨_, rfl, Ints.nil _ _, fun b o n c e => by simp at e⟩, hb⟩
  | some s =>
    obtain ⟨L, sb⟩ := s
    have hl : lastI st area n = bytesI (L.getLastD ByteArray.empty) := by unfold lastI; rw [hF]
    rw [hl] at h64 ⊢
    have hLn : L ≠ [] := by
      obtain ⟨m, G, hD⟩ := h
      cases hg : G area with
      | none => have := (hD.empty area hg).1 n; rw [hF] at this; cases this
      | some g =>
        obtain ⟨_, _, S, _, hf⟩ := hD.inner area g hg
        obtain ⟨_, _, _, h3⟩ := (hf n).2 _ hF
        exact h3
    have hgl : L.getLastD ByteArray.empty = L.getLast hLn := by rw [List.getLastD_eq_getLast?, List.getLast?_eq_some_getLast hLn]; rfl
    rw [hgl] at h64 ⊢
    exact read_turn O p st area n L sb w h ha hn hF hLn (by simpa [bytesI] using h64)
end Go.Proofs.Ytfoogbchajgepaa.S
