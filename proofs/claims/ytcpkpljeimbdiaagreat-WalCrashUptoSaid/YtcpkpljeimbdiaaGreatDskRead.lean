/-
  The walks of Read, of Sync where the disk is or gets dead, and of Free.
-/
import Derived.Test.YtcpkpljeimbdiaaGreatDskOps
namespace Go.Proofs.YtcpkpljeimbdiaaGreat.K
open Go.RowKit
open Aid
set_option linter.unusedSimpArgs false
set_option linter.unusedVariables false

/-- bytes as numbers -/
def bytesI (s : ByteArray) : List Int := s.data.toList.map fun b => (b.toNat : Int)
set_option maxRecDepth 100000 in
set_option maxHeartbeats 1000000 in
theorem read_there (O : Nat → Prop) (p : Nat) (st : DSt) (area n : Int) (L : List ByteArray) (s : Bool) (w : World) (h : DiskIs O w p st) (ha : (Lit.int .u64 area).wf = true) (hn : (Lit.int .i64 n).wf = true) (hF : st.F area n = some (L, s)) (hLn : L ≠ []) (hsz : (L.getLast hLn).size ≤ 1000) :
    Calls Tryz.prog 66 #[.pointer (some ⟨p, 0, none⟩), .int .u64 area, .int .i64 n] w fun e w' => (∃ v', e = .returned (.tuple #[v', .bool true]) ∧ Ints w' .u8 v' (bytesI (L.getLast hLn)) ∧ ∀ b o n c, v' = .slice (some ⟨b, o, none⟩) n c → w.heap.size ≤ b ∧ n ≤ c) ∧ Below w.heap.size w w' := by
  obtain ⟨m, G, hD⟩ := h
  obtain ⟨c0, c1, c2, c3, c4⟩ := hD.cells
  have hL1 := hD.area ha
  obtain ⟨sv, sb, hL2, hsv⟩ := hD.sector (a := area) hn
  rw [hF] at hL2
  simp only [Option.isSome_some] at hL2
  have hV : Vers O w sv L := by
    rcases hsv with ⟨e, _⟩ | ⟨s', e, _, e2, _⟩
    · rw [hF] at e; cases e
    · rw [hF] at e; obtain rfl := Option.some.inj e; exact e2
  clear hsv
  obtain ⟨h63, av, cv, rfl, hlc, hnil, hcell⟩ := hV
  have hpos : 0 < L.length := List.length_pos_iff.2 hLn
  obtain ⟨k, hk⟩ : ∃ k, L.length = k + 1 := ⟨L.length - 1, by omega⟩
  obtain ⟨b, o, rfl, _, hbw, hlast⟩ := hcell k (by omega)
  have hlast2 : L.getD k ByteArray.empty = L.getLast hLn := by
    rw [List.getLast_eq_getElem, List.getD_eq_getElem?_getD, List.getElem?_eq_getElem (by omega)]
    simp [hk]
  rw [hlast2] at hlast
  obtain ⟨S, hS⟩ : ∃ S, L.getLast hLn = S := ⟨_, rfl⟩
  rw [hS] at hlast hsz ⊢
  have hb : Below w.heap.size w (w.alloc (.cells #[.slice (some ⟨b, o, none⟩) L.length cv, .bool sb] 68)) := (Below.refl _ _).alloc (Nat.le_refl _) _
  have hx := (hb.cell (p := ⟨b, o + k, none⟩) hbw).trans hlast
  have hw1 : IntKind.i64.wrap ((L.length : Int) - 1) = (k : Int) := by rw [IntWalk.i64_in _ (by omega)]; omega
  have hkl : (k : Int) < (L.length : Int) := by omega
  have HW := Lib.hid hw1
  clear hw1
  go_enter Tryz.func66, Tryz.ntmps66
  have hw1 := HW.out
  go_wp2_with (first | (refine wpList_bytes _ rfl _ _ _ rfl 5 Tryz.underlying9 Tryz.underlying49 Tryz.underlying5 S rfl _ rfl ?_; intro g cap w2 hcap hg hg2 hb2 hc2))
  go_ret2
  refine ⟨⟨.slice (some ⟨g, 0, none⟩) S.size cap, rfl, ?_, fun b' o' n' c' hv' => by simp at hv'; have := hg; simp at this; omega⟩, (((Below.refl w.heap.size w).alloc (Nat.le_refl _) _).trans (hb2.mono (by simp)))⟩
  have hlen : (bytesI S).length = S.size := by simp [bytesI]
  refine ⟨by rw [hlen]; omega, .inr ⟨g, 0, cap, by rw [hlen], hg2, fun j hj => ?_⟩⟩
  rw [hlen] at hj
  rw [Nat.zero_add, hc2 j hj]
  have e : (bytesI S).getD j 0 = ((S[j]'hj).toNat : Int) := by
    have hj2 : j < S.data.size := hj
    simp only [bytesI, List.getD_eq_getElem?_getD, List.getElem?_map, Array.getElem?_toList, Array.getElem?_eq_getElem hj2, Option.map_some, Option.getD_some, ByteArray.getElem_eq_getElem_data]
  rw [e]

/-- a step that is counted: at a disk that is dead already none is -/
def tickF (st : DSt) : DSt := if st.dead = true then st else stepF st
set_option maxRecDepth 100000 in
set_option maxHeartbeats 1000000 in
theorem sync_dies (O : Nat → Prop) (p : Nat) (st : DSt) (area : Int) (w : World) (h : DiskIs O w p st) (hs : 0 ≤ st.steps ∧ st.steps ≤ 4611686018427387904) (hl : st.left ≤ 9223372036854775807) (hdie : (tickF st).dead = true) :
    Calls Tryz.prog 38 #[.pointer (some ⟨p, 0, none⟩), .int .u64 area] w fun e w' => e = .returned (.int .i64 30) ∧ DiskIs O w' p (tickF st) ∧ Keeps O w w' := by
  obtain ⟨m, G, hD⟩ := h
  obtain ⟨c0, c1, c2, c3, c4⟩ := hD.cells
  cases hd : st.dead
  · rw [hd] at c4
    have e : tickF st = stepF st := by unfold tickF; simp [hd]
    rw [e] at hdie ⊢
    go_enter Tryz.func38, Tryz.ntmps38
    go_wp2_with fail
    refine (step_in O p m G st w hD hs hl).mono ?_
    rintro e w1 ⟨rfl, D1, K1⟩
    rw [hdie]
    go_wp2_with fail
    go_ret
    exact ⟨rfl, ⟨m, G, D1⟩, K1⟩
  · rw [hd] at c4
    have e : tickF st = st := by unfold tickF; simp [hd]
    rw [e]
    go_enter Tryz.func38, Tryz.ntmps38
    go_wp2_with fail
    go_ret
    exact ⟨rfl, ⟨m, G, hD⟩, Keeps.refl _ _⟩
end Go.Proofs.YtcpkpljeimbdiaaGreat.K
