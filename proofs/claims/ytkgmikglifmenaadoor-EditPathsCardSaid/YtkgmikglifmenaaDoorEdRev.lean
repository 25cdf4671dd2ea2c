/-
  The library's Reverse of texts; its Clone of numbers.
-/
import Derived.Test.YtkgmikglifmenaaDoorEdInsG
import Derived.RegionTactic
namespace Go.Proofs.YtkgmikglifmenaaDoor.E
open Go.RowKit Go.Maps Aid L
set_option linter.unusedVariables false
set_option linter.unusedSimpArgs false

/-- the cells of a row that is turned as far as k from both ends -/
def Turned (L : List ByteArray) (n k : Nat) (cur : Array Value) : Prop := n ≤ cur.size ∧ ∀ p, p < n → cur[p]? = some (.string (L.getD (if p < k ∨ n ≤ p + k then n - 1 - p else p) .empty))
theorem Turned.swap {L : List ByteArray} {n k : Nat} {cur : Array Value} (h : Turned L n k cur) (hk : k + k + 1 < n) {a b : ByteArray} (ha : L.getD k .empty = a) (hb : L.getD (n - 1 - k) .empty = b) :
    Turned L n (k + 1) ((cur.setIfInBounds k (.string b)).setIfInBounds (n - 1 - k) (.string a)) ∧ Turned L n (k + 1) ((cur.setIfInBounds (n - 1 - k) (.string a)).setIfInBounds k (.string b)) := by
  obtain ⟨h1, h2⟩ := h
  constructor
  all_goals
    refine ⟨by simpa using h1, fun p hp => ?_⟩
    rw [Array.getElem?_setIfInBounds, Array.getElem?_setIfInBounds]
    by_cases e1 : p = k
    · subst e1
      first
        | rw [if_neg (by omega), if_pos rfl, if_pos (by omega), if_pos (by omega), ← hb]
        | rw [if_pos rfl, if_pos (by simp; omega), if_pos (by omega), ← hb]
    · by_cases e2 : p = n - 1 - k
      · subst e2
        first
          | rw [if_pos rfl, if_pos (by simp; omega), if_pos (by omega), ← ha, show n - 1 - (n - 1 - k) = k by omega]
          | rw [if_neg (by omega), if_pos rfl, if_pos (by omega), if_pos (by omega), ← ha, show n - 1 - (n - 1 - k) = k by omega]
      · rw [if_neg (by omega), if_neg (by omega), h2 p hp]
        congr 3
        by_cases e3 : p < k ∨ n ≤ p + k
        · rw [if_pos e3, if_pos (by omega)]
        · rw [if_neg e3, if_neg (by omega)]
theorem Turned.start {L : List ByteArray} {n : Nat} {cur : Array Value} (hl : L.length = n) (hs : n ≤ cur.size) (ht : cur.toList.take n = L.map Value.string) : Turned L n 0 cur := by
  refine ⟨hs, fun p hp => ?_⟩
  rw [if_neg (by omega), ← Array.getElem?_toList]
  have : (cur.toList.take n)[p]? = (L.map Value.string)[p]? := by rw [ht]
  rw [List.getElem?_take_of_lt hp] at this
  rw [this, List.getElem?_map, List.getD_eq_getElem?_getD, List.getElem?_eq_getElem (by omega)]
  rfl
theorem Turned.done {L : List ByteArray} {n k : Nat} {cur : Array Value} (h : Turned L n k cur) (hl : L.length = n) (hk : n ≤ k + k + 1) (hkn : k ≤ n) : cur.toList.take n = L.reverse.map Value.string := by
  obtain ⟨h1, h2⟩ := h
  apply List.ext_getElem?
  intro p
  by_cases hp : p < n
  · rw [List.getElem?_take_of_lt hp, Array.getElem?_toList, h2 p hp, List.getElem?_map, List.getElem?_reverse (by omega), hl]
    have e : (if p < k ∨ n ≤ p + k then n - 1 - p else p) = n - 1 - p := by
      split
      · rfl
      · omega
    rw [e, List.getD_eq_getElem?_getD, List.getElem?_eq_getElem (by omega)]
    rfl
  · rw [List.getElem?_eq_none (by rw [List.length_take]; omega), List.getElem?_eq_none (by simp; omega)]
theorem set2_turn (w : World) (b i j : Nat) (x y : Value) : Turn (fun g => g = b) w ((w.setCell ⟨b, i, none⟩ x).setCell ⟨b, j, none⟩ y) :=
  ⟨by simp, rfl, rfl, rfl, fun g hg hn => (show ((w.setCell ⟨b, i, none⟩ x).setCell ⟨b, j, none⟩ y).heap[g]? = (w.setCell ⟨b, i, none⟩ x).heap[g]? from Below.heap_setCell _ _ _ _ hn).trans (Below.heap_setCell _ _ _ _ hn)⟩
set_option maxHeartbeats 1000000 in
set_option maxRecDepth 100000 in
theorem reverse_any (b n cap : Nat) (l : List ByteArray) (w : World) (h : Row w b 9 n cap (l.map Value.string)) (hn : n ≤ 1000000) :
    Calls Tryd.prog 18 #[.slice (some ⟨b, 0, none⟩) n cap] w fun e w' => e = .returned (.tuple #[]) ∧ Row w' b 9 n cap (l.reverse.map Value.string) ∧ Turn (fun g => g = b) w w' := by
  have hll : l.length = n := by have := h.len; rwa [List.length_map] at this
  obtain ⟨⟨cur, hc, hs, ht⟩, hle, hmax⟩ := h
  have hT := Turned.start hll (by omega) ht
  have HLL := Lib.hid hll
  have HMX := Lib.hid hmax
  clear ht hll hmax
  go_enter Tryd.func18, Tryd.ntmps18
  go_wp2_with fail
  go_loopw [2, 3] (fun x2 x3 wr => ∃ (k : Nat) (c : Array Value), x2 = .int .i64 k ∧ x3 = .int .i64 ((n : Int) - 1 - (k : Int)) ∧ k ≤ n ∧ Blk wr b 9 c ∧ c.size = cap ∧ Turned l n k c ∧ Turn (fun g => g = b) w wr) (fun x2 _ _ => n - (intOf x2).toNat)
  case atStart => exact ⟨0, cur, rfl, by congr 1; omega, Nat.zero_le _, hc, hs, hT, Turn.refl _ _⟩
  case round =>
    obtain ⟨k, c, rfl, rfl, hk, hB, hcs, hTk, hTu⟩ := hrel
    by_cases hlt : k + k + 1 < n
    · obtain ⟨j, hj⟩ : ∃ j, n - 1 - k = j := ⟨_, rfl⟩
      have hjj : ((n : Int) - 1 - (k : Int)) = (j : Int) := by omega
      rw [hjj]
      obtain ⟨s, hsx⟩ : ∃ s, l.getD k .empty = s := ⟨_, rfl⟩
      obtain ⟨t, htx⟩ : ∃ t, l.getD j .empty = t := ⟨_, rfl⟩
      have c0 := hTk.2 k (by omega)
      have c1 := hTk.2 j (by omega)
      rw [if_neg (by omega), hsx] at c0
      rw [if_neg (by omega), htx] at c1
      have d0 : wr.cell? ⟨b, k, none⟩ = some (.string s) := (hB.cell k).trans c0
      have d1 : wr.cell? ⟨b, j, none⟩ = some (.string t) := (hB.cell j).trans c1
      have f0 := hB.free k
      have f1 := hB.free j
      have hkj : k ≠ j := by omega
      have hkj' : ¬ (k = j) := by omega
      have hjk' : ¬ (j = k) := by omega
      have i1 : (k : Int) < (j : Int) := by omega
      have i2 : (0 : Int) ≤ (k : Int) := by omega
      have i3 : (k : Int) < (n : Int) := by omega
      have i4 : (0 : Int) ≤ (j : Int) := by omega
      have i5 : (j : Int) < (n : Int) := by omega
      have hsw := hTk.swap hlt (a := s) (b := t) hsx (by rw [hj]; exact htx)
      rw [hj] at hsw
      have HSW := Lib.hid hsw
      have HB := Lib.hid hB
      have HTU := Lib.hid hTu
      have HJJ := Lib.hid hjj
      have HCS := Lib.hid hcs
      clear hsw hB hTu hTk c0 c1 hsx htx hj hjj hcs
      go_wp2_with fail
      go_region
      all_goals
        go_wp2_with fail
        refine ⟨⟨k + 1, _, by first | rfl | congr 1, by rw [← HJJ.out]; congr 1; omega, by omega, (HB.out.set k (.string t)).set j (.string s), by simpa using HCS.out, HSW.out.1, (HTU.out.trans (set2_turn _ _ _ _ _ _) (fun _ _ h => h)).drew⟩, ?_⟩
        simp [intOf]; omega
    · have i1 : ¬ ((k : Int) < (n : Int) - 1 - (k : Int)) := by omega
      have HB := Lib.hid hB
      have HTU := Lib.hid hTu
      have HTK := Lib.hid hTk
      have HCS := Lib.hid hcs
      clear hB hTu hTk hcs
      go_wp2_with fail
      go_end0
      exact ⟨rfl, ⟨⟨c, HB.out, HCS.out, by rw [← List.map_reverse]; exact HTK.out.done HLL.out (by omega) hk⟩, hle, HMX.out⟩, HTU.out⟩
end Go.Proofs.YtkgmikglifmenaaDoor.E
