/-
  Segments in memory; freed.
-/
import Derived.Test.YtcpkpljeimbdiaaWalSyn
namespace Go.Proofs.Ytcpkpljeimbdiaa.W
open Go.RowKit
open Aid K
set_option linter.unusedSimpArgs false
set_option linter.unusedVariables false

def segC : List (Int × Int) → List Value
  | [] => []
  | s :: S => .int .u64 s.1 :: .int .u64 s.2 :: segC S
theorem segC_len : ∀ S : List (Int × Int), (segC S).length = S.length * 2
  | [] => rfl
  | s :: S => by simp only [segC, List.length_cons, segC_len S]; omega
theorem segC_at : ∀ (S : List (Int × Int)) (j : Nat) (s : Int × Int), S[j]? = some s → (segC S)[j * 2]? = some (.int .u64 s.1) ∧ (segC S)[j * 2 + 1]? = some (.int .u64 s.2)
  | [], j, s, h => by simp at h
  | t :: S, 0, s, h => by simp at h; subst h; exact ⟨rfl, rfl⟩
  | t :: S, j + 1, s, h => by
    have := segC_at S j s (by simpa using h)
    rw [show (j + 1) * 2 = j * 2 + 1 + 1 by omega]
    simpa [segC] using this
/-- segments in memory -/
def Segs (w : World) (v : Value) (S : List (Int × Int)) : Prop := OffRow w 82 2 v S.length (segC S)
theorem Segs.at_ {w : World} {a : Option Addr} {n c : Nat} {S : List (Int × Int)} (h : Segs w (.slice a n c) S) {j : Nat} {s : Int × Int} (hs : S[j]? = some s) :
    ∃ b off, a = some ⟨b, off, none⟩ ∧ b < w.heap.size ∧ w.cell? ⟨b, off + j * 2, none⟩ = some (.int .u64 s.1) ∧ w.cell? ⟨b, off + j * 2 + 1, none⟩ = some (.int .u64 s.2) := by
  obtain ⟨h1, ⟨h2, h3⟩ | ⟨b, off, cap, cur, h2, hb, h3, h4, h5, h6⟩⟩ := h
  · rw [List.length_eq_zero_iff] at h3; subst h3; simp at hs
  · cases h2
    obtain ⟨e0, e1⟩ := segC_at S j s hs
    exact ⟨b, off, rfl, Blk.lt hb, (hb.cell _).trans (h6 _ _ e0), by rw [Nat.add_assoc]; exact (hb.cell _).trans (h6 _ _ e1)⟩
theorem Segs.keep {O : Nat → Prop} {w w' : World} {v : Value} {S : List (Int × Int)} (h : Segs w v S) (hK : Keeps O w w') (hO : ∀ k, v.ownBlock = some k → ¬ O k) : Segs w' v S := OffRow.keep h hK hO
theorem Segs.nil (w : World) : Segs w (.slice none 0 0) [] := OffRow.nil _ _ _
theorem segC_drop : ∀ (S : List (Int × Int)) (k : Nat), segC (S.drop k) = (segC S).drop (k * 2)
  | [], k => by simp [segC]
  | s :: S, 0 => by simp
  | s :: S, k + 1 => by
    rw [List.drop_succ_cons, segC_drop S k, show (k + 1) * 2 = k * 2 + 1 + 1 by omega]
    simp [segC]
theorem Segs.drop {w : World} {a : Option Addr} {n c k : Nat} {S : List (Int × Int)} (h : Segs w (.slice a n c) S) (hn : n = S.length) (hk : k ≤ n) : Segs w (.slice (a.map fun x => x.add (k * 2)) (n - k) (c - k)) (S.drop k) := by
  subst hn
  have h1 := OffRow.drop h hk
  unfold Segs
  rw [List.length_drop, segC_drop]
  exact h1
theorem segC_append (S T : List (Int × Int)) : segC (S ++ T) = segC S ++ segC T := by
  induction S with
  | nil => rfl
  | cons s S ih => simp [segC, ih]
set_option maxRecDepth 100000 in
set_option maxHeartbeats 2000000 in
theorem freed_any (g : Nat) (o : Value) (d : Nat) (first : Int) (l old : Value) (next code : Int) (S : List (Int × Int)) (i : Int) (w : World) (h : Blk w g 77 (walV o d first l old next code)) (hS : Segs w old S) (h1 : 1 ≤ S.length) (hl : S.length ≤ 4611686018427387904) :
    Calls Try.prog 48 #[.pointer (some ⟨g, 0, none⟩), .int .u64 i] w fun e w' => e = .returned (.bool (S.tail.any fun s => decide (s.2 ≤ i))) ∧ Below w.heap.size w w' := by
  obtain ⟨N, hN⟩ : ∃ N, S.length = N + 1 := ⟨S.length - 1, by omega⟩
  obtain ⟨T, hT⟩ : ∃ T, S.tail = T := ⟨_, rfl⟩
  rw [hT]
  have hTl : T.length = N := by rw [← hT, List.length_tail]; omega
  have hTj : ∀ j, T[j]? = S[j + 1]? := fun j => by rw [← hT, List.getElem?_tail]
  obtain ⟨a, c, rfl, hnc, hz⟩ := OffRow.slice hS
  obtain ⟨s0, hs0⟩ : ∃ s0, S[0]? = some s0 := ⟨_, List.getElem?_eq_getElem (by omega)⟩
  obtain ⟨b, off, rfl, hbl, _, _⟩ := Segs.at_ hS hs0
  have hcs : ∀ j s, T[j]? = some s → w.cell? ⟨b, off + 2 + j * 2, none⟩ = some (.int .u64 s.1) ∧ w.cell? ⟨b, off + 2 + j * 2 + 1, none⟩ = some (.int .u64 s.2) := fun j s hj => by
    rw [hTj] at hj
    obtain ⟨b', o', e, _, e1, e2⟩ := Segs.at_ hS hj
    cases e
    rw [show off + 2 + j * 2 = off + (j + 1) * 2 by omega]
    exact ⟨e1, e2⟩
  obtain ⟨c0, c1, c2, c3, c4, c5, c6⟩ := blk7 h
  have HCS := Lib.hid hcs
  have HTL := Lib.hid hTl
  rw [hN] at c4 hnc hl
  have hNs : N + 1 - 1 = N := rfl
  clear hS hz hcs hTl hTj hT hs0 h1 h hN
  by_cases hc1 : c = 1
  · have hN0 : N = 0 := by omega
    have hTn : T = [] := List.eq_nil_of_length_eq_zero (by rw [HTL.out]; exact hN0)
    subst hTn hN0 hc1
    go_enter Try.func48, Try.ntmps48
    go_wp2_with fail
    go_loopw [13] (fun x13 wr => x13 = .int .i64 0 ∧ wr = w) (fun _ _ => 0)
    case atStart => exact ⟨rfl, rfl⟩
    case round =>
      obtain ⟨rfl, rfl⟩ := hrel
      go_wp2_with fail
      go_ret
      exact ⟨rfl, Below.refl _ _⟩
  · go_enter Try.func48, Try.ntmps48
    go_wp2_with fail
    go_loopw [13] (fun x13 wr => ∃ k : Nat, x13 = .int .i64 k ∧ k ≤ N ∧ Hid (∀ j s, j < k → T[j]? = some s → ¬ (s.2 ≤ i)) ∧ Below w.heap.size w wr) (fun x13 _ => (N - intOf x13).toNat)
    case atStart => exact ⟨0, rfl, by omega, Lib.hid (fun j s hj => by omega), Below.refl _ _⟩
    case round =>
      obtain ⟨k, rfl, hk, hno, hb⟩ := hrel
      have hbs := hb.size
      by_cases hlt : (k : Int) < (N : Int)
      · obtain ⟨s, hs⟩ : ∃ s, T[k]? = some s := ⟨_, List.getElem?_eq_getElem (by rw [HTL.out]; omega)⟩
        obtain ⟨e1, e2⟩ := HCS.out k s hs
        have x1 := (hb.cell (p := ⟨b, off + 2 + k * 2, none⟩) hbl).trans e1
        have x2 := (hb.cell (p := ⟨b, off + 2 + k * 2 + 1, none⟩) hbl).trans e2
        obtain ⟨u, v⟩ := s
        dsimp only at x1 x2
        have HS2 := Lib.hid hs
        clear e1 e2 hs
        by_cases hle : v ≤ i
        · go_wp2_with fail
          go_ret
          have ha : (T.any fun s => decide (s.2 ≤ i)) = true := List.any_eq_true.2 ⟨(u, v), List.mem_of_getElem? HS2.out, decide_eq_true hle⟩
          exact ⟨by rw [ha]; rfl, hb.alloc hbs _⟩
        · have hno2 : ∀ j s, j < k + 1 → T[j]? = some s → ¬ (s.2 ≤ i) := fun j s hj hjs => by
            by_cases hjk : j = k
            · subst hjk
              rw [HS2.out] at hjs
              cases hjs
              exact hle
            · exact hno.out j s (by omega) hjs
          have HNO := Lib.hid hno2
          clear hno hno2
          go_wp2_with fail
          refine ⟨⟨k + 1, ?_, by omega, HNO, hb.alloc hbs _⟩, by simp [intOf]; omega⟩
          go_num
      · go_wp2_with fail
        go_ret
        have ha : (T.any fun s => decide (s.2 ≤ i)) = false := by
          rw [List.any_eq_false]
          intro s hs
          obtain ⟨j, hj⟩ := List.getElem?_of_mem hs
          have hjl := (List.getElem?_eq_some_iff.1 hj).1
          rw [HTL.out] at hjl
          have := hno.out j s (by omega) hj
          simpa using this
        exact ⟨by rw [ha]; rfl, hb⟩
end Go.Proofs.Ytcpkpljeimbdiaa.W
