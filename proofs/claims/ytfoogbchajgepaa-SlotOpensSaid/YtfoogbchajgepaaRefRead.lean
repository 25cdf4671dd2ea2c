/-
  What the document's disk tells of a sector: Read.
-/
import Derived.Test.YtfoogbchajgepaaRefRel
namespace Go.Proofs.Ytfoogbchajgepaa.R
open Go.RowKit
open Aid K
set_option linter.unusedSimpArgs false
set_option linter.unusedVariables false

set_option maxRecDepth 100000 in
set_option maxHeartbeats 2000000 in
theorem rread_any (r : RSt) (v : Value) (q : List (RSec × Value)) (a n : Int) (w : World) (h : RDisk w v r q) (hs : Srt r.l) :
    Calls Try.prog 42 #[.agg (diskR r v), .int .u64 a, .int .i64 n] w fun e w' => e = .returned (.tuple #[.string (((findR r.l a n).map fun s => s.1.getLastD ByteArray.empty).getD ByteArray.empty), .bool (findR r.l a n).isSome]) ∧ Below w.heap.size w w' := by
  have hlen := h.1.len
  obtain ⟨av, cv, rfl⟩ := h.1.slice
  obtain ⟨room, steps, left, armed, dead, l⟩ := r
  have hql : q.map (·.1) = l := h.2
  unfold diskR
  dsimp only at hs ⊢
  obtain ⟨W1, hW1⟩ : ∃ W1, w.alloc (.cells #[.int .i64 room, .int .i64 steps, .int .i64 left, .bool armed, .bool dead, .slice av q.length cv] 43) = W1 := ⟨_, rfl⟩
  obtain ⟨B, hB⟩ : ∃ B, w.heap.size = B := ⟨_, rfl⟩
  have hb1 : Below w.heap.size w W1 := by rw [← hW1]; exact (Below.refl _ _).alloc (Nat.le_refl _) _
  have h1 := h.1.below hb1
  have hblk : Blk W1 B 43 #[.int .i64 room, .int .i64 steps, .int .i64 left, .bool armed, .bool dead, .slice av q.length cv] := by rw [← hW1, ← hB]; exact Blk.alloc_new _ _ _
  obtain ⟨c0, c1, c2, c3, c4, c5⟩ := blk6 hblk
  have hat := rat_any ⟨room, steps, left, armed, dead, l⟩ (.slice av q.length cv) q a n W1 h1
  unfold diskR at hat
  dsimp only at hat
  have HB1 := Lib.hid hb1
  have H1 := Lib.hid h1
  have HAT := Lib.hid hat
  have HBK := Lib.hid hblk
  have HQL := Lib.hid hql
  have HSRT := Lib.hid hs
  clear h hb1 h1 hat hblk hql hs
  obtain ⟨S, hS⟩ : ∃ S, ((findR l a n).map fun s => s.1.getLastD ByteArray.empty).getD ByteArray.empty = S := ⟨_, rfl⟩
  obtain ⟨I, hI⟩ : ∃ I, (findR l a n).isSome = I := ⟨_, rfl⟩
  rw [hS, hI]
  have HS := Lib.hid hS
  have HI := Lib.hid hI
  clear hS hI
  go_enter Try.func42, Try.ntmps42
  go_wp2_with fail
  try rw [hB]
  try rw [hW1]
  refine HAT.out.mono ?_
  rintro e w2 ⟨x, rfl, hx, hb2⟩
  have hbw := HB1.out.trans (hb2.mono HB1.out.size)
  have HBW := Lib.hid hbw
  have bB2 := HBK.out.below hb2 (Blk.lt HBK.out)
  obtain ⟨d0, d1, d2, d3, d4, d5⟩ := blk6 bB2
  have H2 := Lib.hid (H1.out.below hb2)
  clear hb2 hbw bB2 HBK c0 c1 c2 c3 c4 c5 HAT
  rcases hx with ⟨rfl, hno⟩ | ⟨i, s, hs, rfl, ha, hn⟩
  · have hf : findR l a n = none := find_none.2 fun s hs => by
      rw [← HQL.out] at hs
      obtain ⟨y, hy, rfl⟩ := List.mem_map.1 hs
      exact hno y hy
    obtain rfl : I = false := by rw [← HI.out, hf]; rfl
    obtain rfl : S = ByteArray.empty := by rw [← HS.out, hf]; rfl
    clear hno hf
    go_wp2_with fail
    go_ret2
    exact ⟨rfl, HBW.out⟩
  · have hm : s.1 ∈ l := by rw [← HQL.out]; exact List.mem_map.2 ⟨s, List.mem_of_getElem? hs, rfl⟩
    have hf := find_mem HSRT.out hm
    rw [ha, hn] at hf
    obtain rfl : I = true := by rw [← HI.out, hf]; rfl
    have hSe : S = s.1.L.getLastD ByteArray.empty := by rw [← HS.out, hf]; rfl
    have hi : i < q.length := (List.getElem?_eq_some_iff.1 hs).1
    have hsec := H2.out.secs s (List.mem_of_getElem? hs)
    obtain ⟨g, rfl, hg, k0, k1, k2, k3⟩ := H2.out.at_ hs
    have hla := rlast_any s.1 s.2 w2 hsec
    obtain ⟨⟨_, xa, xc, hxu, _⟩, _⟩ := hsec
    rw [hxu] at k2
    obtain ⟨X, hX⟩ : ∃ X, s.1.area = X := ⟨_, rfl⟩
    obtain ⟨Y, hY⟩ : ∃ Y, s.1.n = Y := ⟨_, rfl⟩
    obtain ⟨Z, hZ⟩ : ∃ Z, s.1.sync = Z := ⟨_, rfl⟩
    obtain ⟨xn, hxn⟩ : ∃ xn, s.1.L.length = xn := ⟨_, rfl⟩
    have hsr : secR s.1 s.2 = #[.int .u64 X, .int .i64 Y, .slice xa xn xc, .bool Z] := by rw [← hX, ← hY, ← hZ, ← hxn, ← hxu]; rfl
    rw [hX] at k0
    rw [hY] at k1
    rw [hxn] at k2
    rw [hZ] at k3
    rw [hsr, ← hSe] at hla
    have i0 : (0 : Int) ≤ (i : Int) := by omega
    have HLA := Lib.hid hla
    clear hm hf hSe hla hX hY hZ hxn hsr hxu hs ha hn
    go_wp2_with fail
    refine HLA.out.mono ?_
    rintro e w3 ⟨rfl, hb3⟩
    have hbf := HBW.out.trans (hb3.mono HBW.out.size)
    clear hb3
    go_wp2_with fail
    go_ret2
    exact ⟨rfl, hbf⟩
end Go.Proofs.Ytfoogbchajgepaa.R
