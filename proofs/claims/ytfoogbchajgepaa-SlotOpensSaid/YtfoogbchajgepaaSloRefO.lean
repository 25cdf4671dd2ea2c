/-
  The document's said, Open: walks.
-/
import Derived.Test.YtfoogbchajgepaaSloRefW
namespace Go.Proofs.Ytfoogbchajgepaa.S
open Go.RowKit
open Aid K
set_option linter.unusedSimpArgs false
set_option linter.unusedVariables false

theorem strOf_bytes (V : ByteArray) : strOf (bytesI V) = V := by
  unfold strOf bytesI
  have : (V.data.toList.map fun b => (b.toNat : Int)).map u8 = V.data.toList := by
    rw [List.map_map]
    conv => rhs; rw [← List.map_id V.data.toList]
    refine List.map_congr_left fun b _ => ?_
    show u8 (b.toNat : Int) = b
    unfold u8
    simp
  rw [this]
theorem strOf_extract {l : List Int} (a b : Nat) : (strOf l).extract a b = strOf ((l.drop a).take (b - a)) := by
  unfold strOf
  apply ByteArray.ext
  simp [ByteArray.data_extract, List.extract_toArray]
theorem bytes_at {V : ByteArray} {j : Nat} (hj : j < V.size) : (((V[j]'hj).toNat : Nat) : Int) = (bytesI V).getD j 0 := by
  unfold bytesI
  rw [List.getD_eq_getElem?_getD, List.getElem?_map, List.getElem?_eq_getElem (by simpa using hj)]
  simp [ByteArray.getElem_eq_getElem_data]
set_option maxRecDepth 100000 in
set_option maxHeartbeats 4000000 in
theorem rsaid_any (st : DSt) (r : R.RSt) (v : Value) (q : List (R.RSec × Value)) (area : Int) (i : Nat) (w : World) (h : R.RDisk w v r q) (hRel : R.RelD st r) (hi : i < 2) (ha : (Lit.int .u64 area).wf = true)
    (hV : ∀ L s, st.F area i = some (L, s) → (L.getLastD ByteArray.empty).size = 64) :
    Calls Try.prog 30 #[.agg (R.diskR r v), .int .u64 area, .int .i64 (i : Nat)] w fun e w' => e = .returned (.tuple #[.int .u64 ((saysF (lastI st area i) i).1 : Nat), .string (strOf (saysF (lastI st area i) i).2)]) ∧ Below w.heap.size w w' := by
  obtain ⟨av, cv, rfl⟩ := h.1.slice
  have hrd : ∀ W, Below w.heap.size w W → Calls Try.prog 42 #[.agg (R.diskR r (.slice av q.length cv)), .int .u64 area, .int .i64 (i : Nat)] W fun e w' => e = .returned (.tuple #[.string (((st.F area i).map fun s => s.1.getLastD ByteArray.empty).getD ByteArray.empty), .bool (st.F area i).isSome]) ∧ Below W.heap.size W w' := fun W hb => by
    have := R.rread_any r (.slice av q.length cv) q area i W ⟨h.1.below hb, h.2⟩ hRel.srt
    rw [← hRel.F] at this
    exact this
  obtain ⟨room, steps, left, armed, dead, rl⟩ := r
  obtain ⟨W1, hW1⟩ : ∃ W1, w.alloc (.cells #[.int .i64 room, .int .i64 steps, .int .i64 left, .bool armed, .bool dead, .slice av q.length cv] 43) = W1 := ⟨_, rfl⟩
  obtain ⟨B, hB⟩ : ∃ B, w.heap.size = B := ⟨_, rfl⟩
  have hb1 : Below w.heap.size w W1 := by rw [← hW1]; exact (Below.refl _ _).alloc (Nat.le_refl _) _
  have hblk : Blk W1 B 43 #[.int .i64 room, .int .i64 steps, .int .i64 left, .bool armed, .bool dead, .slice av q.length cv] := by rw [← hW1, ← hB]; exact Blk.alloc_new _ _ _
  obtain ⟨c0, c1, c2, c3, c4, c5⟩ := R.blk6 hblk
  have hrd1 := hrd W1 hb1
  unfold R.diskR at hrd1 ⊢
  dsimp only at hrd1 ⊢
  have HB1 := Lib.hid hb1
  cases hF : st.F area i with
  | none =>
    have hl : lastI st area i = [] := by unfold lastI; rw [hF]
    rw [hF] at hrd1
    have hs : saysF (lastI st area i) i = (0, []) := by rw [hl]; exact says_nil i
    rw [hs]
    have HRD := Lib.hid hrd1
    clear hrd hrd1 hF hl hs h hRel hV hb1 hblk
    go_enter Try.func30, Try.ntmps30
    go_wp2_with fail
    try rw [hB]
    try rw [hW1]
    refine HRD.out.mono ?_
    rintro e w2 ⟨rfl, hb2⟩
    have hbf := HB1.out.trans (hb2.mono HB1.out.size)
    clear hb2
    go_wp2_with fail
    go_ret2
    exact ⟨rfl, hbf⟩
  | some sec =>
    obtain ⟨L, sb⟩ := sec
    have h64 := hV L sb hF
    have hl : lastI st area i = bytesI (L.getLastD ByteArray.empty) := by unfold lastI; rw [hF]
    rw [hF] at hrd1
    obtain ⟨V, hVe⟩ : ∃ V, L.getLastD ByteArray.empty = V := ⟨_, rfl⟩
    have hrd2 : Calls Try.prog 42 #[.agg #[.int .i64 room, .int .i64 steps, .int .i64 left, .bool armed, .bool dead, .slice av q.length cv], .int .u64 area, .int .i64 (i : Nat)] W1 fun e w' => e = .returned (.tuple #[.string V, .bool true]) ∧ Below W1.heap.size W1 w' := by rw [← hVe]; exact hrd1
    rw [hVe] at h64 hl
    rw [hl]
    obtain ⟨l, hle⟩ : ∃ l, bytesI V = l := ⟨_, rfl⟩
    have hl64 : l.length = 64 := by rw [← hle]; simp [bytesI]; exact h64
    have hby : By l := by rw [← hle]; exact bytesI_by V
    have hstr : V = strOf l := by rw [← hle]; exact (strOf_bytes V).symm
    have hat : ∀ j (hj : j < V.size), (((V[j]'hj).toNat : Nat) : Int) = l.getD j 0 := fun j hj => by rw [← hle]; exact bytes_at hj
    rw [hle]
    obtain ⟨m, hm⟩ : ∃ m, (V[8]'(by omega)).toNat = m := ⟨_, rfl⟩
    have hm8 : l.getD 8 0 = (m : Int) := by rw [← hat 8 (by omega), hm]
    have hm255 : m < 256 := by rw [← hm]; exact (V[8]'(by omega)).toNat_lt
    obtain ⟨F, hFe⟩ : ∃ F, saysF l i = F := ⟨_, rfl⟩
    rw [hFe]
    have HRD := Lib.hid hrd2
    have HM8 := Lib.hid hm8
    have HL64 := Lib.hid hl64
    have HAT := Lib.hid hat
    have HSTR := Lib.hid hstr
    clear hrd hrd1 hrd2 hF hl h hRel hV hb1 hblk hVe hle hat hstr hm8 hl64
    by_cases h48 : (48 : Int) < (m : Int)
    · have hs : saysF l i = (0, []) := by unfold saysF; rw [if_pos (.inr (by rw [HM8.out]; exact h48))]
      rw [hs] at hFe
      subst hFe
      have h8 : (8 : Int) < (V.size : Int) := by omega
      go_enter Try.func30, Try.ntmps30
      go_wp2_with fail
      try rw [hB]
      try rw [hW1]
      refine HRD.out.mono ?_
      rintro e w2 ⟨rfl, hb2⟩
      have hbf := HB1.out.trans (hb2.mono HB1.out.size)
      clear hb2
      go_wp2_with fail
      go_ret2
      exact ⟨rfl, hbf⟩
    · have hlu : ∀ j, j ≤ 8 → undig ((l.take 8).drop j) < 256 ^ (8 - j) := fun j hj => by
        have := undig_lt (l := (l.take 8).drop j) (fun x hx => hby x (List.mem_of_mem_take (List.mem_of_mem_drop hx)))
        rw [List.length_drop, List.length_take, HL64.out] at this
        exact this
      have hum := HM8.out
      have HLU := Lib.hid hlu
      have HBY := Lib.hid hby
      have h8 : (8 : Int) < (V.size : Int) := by omega
      have hm48 : (m : Int) ≤ 48 := by omega
      clear hlu hum hby
      go_enter Try.func30, Try.ntmps30
      go_wp2_with fail
      try rw [hB]
      try rw [hW1]
      refine HRD.out.mono ?_
      rintro e w2 ⟨rfl, hb2⟩
      have HB2 := Lib.hid (HB1.out.trans (hb2.mono HB1.out.size))
      clear hb2
      go_wp2_with fail
      go_loopw [10, 11] (fun x10 x11 w3 => ∃ j : Nat, j ≤ 8 ∧ x10 = .int .u64 (undig ((l.take 8).drop j) : Nat) ∧ x11 = .int .i64 ((j : Int) - 1) ∧ w3 = w2) (fun _ x11 _ => (intOf x11 + 1).toNat)
      case atStart =>
        refine ⟨8, by omega, ?_, rfl, rfl⟩
        rw [List.drop_eq_nil_of_le (by simp; omega)]; rfl
      case round =>
        obtain ⟨j, hj, rfl, rfl, rfl⟩ := hrel
        by_cases hj0 : j = 0
        · subst hj0
          have em : (((0 : Nat) : Int) - 1) = -1 := rfl
          rw [em, List.drop_zero]
          clear em
          obtain ⟨N, hN⟩ : ∃ N, undig (l.take 8) = N := ⟨_, rfl⟩
          have hN64 : N < 256 ^ 8 := by have := HLU.out 0 (by omega); rw [List.drop_zero, hN] at this; exact this
          have hnum : numOf l = N := hN
          rw [hN]
          obtain ⟨vl, hvl⟩ : ∃ vl, valOf l = vl := ⟨_, rfl⟩
          have hvt : (l.drop 9).take m = vl := by rw [← hvl]; unfold valOf; rw [HM8.out]; simp
          have hvb : By vl := fun x hx => by rw [← hvt] at hx; exact HBY.out x (List.mem_of_mem_drop (List.mem_of_mem_take hx))
          have hvlen : vl.length ≤ 48 := by rw [← hvt, List.length_take]; omega
          obtain ⟨S, hS⟩ : ∃ S, strOf vl = S := ⟨_, rfl⟩
          have hex : V.extract 9 (9 + m) = S := by
            rw [HSTR.out, strOf_extract, ← hS, ← hvt]; congr 2; omega
          have hsec := rsector_any N vl wr (Nat.lt_of_lt_of_le hN64 (by decide)) hvb hvlen
          rw [hS] at hsec
          obtain ⟨T, hT⟩ : ∃ T, strOf (secL N vl) = T := ⟨_, rfl⟩
          rw [hT] at hsec
          have hsb : By (secL N vl) := secL_by (by omega) hvb
          have hF0 : F = if N % 2 ≠ i ∨ l ≠ secL N vl then (0, []) else (N, vl) := by
            rw [← hFe]; unfold saysF
            rw [if_neg (by rw [HL64.out, HM8.out]; omega), hnum, hvl]
          obtain ⟨d, hd⟩ : ∃ d, N % 2 = d := ⟨_, rfl⟩
          have e1 : ((N : Nat) : Int) % 2 = (d : Int) := by omega
          have e2 : ((N : Nat) : Int).tmod 2 = (d : Int) := by rw [Int.tmod_eq_emod_of_nonneg (by omega)]; exact e1
          have e3 : IntKind.u64.wrap (i : Int) = (i : Int) := by rw [IntKind.wrap_u64]; omega
          have e4 : IntKind.u64.wrap (d : Int) = (d : Int) := by rw [IntKind.wrap_u64]; omega
          have e5 : IntKind.i64.wrap (9 + (m : Int)) = 9 + (m : Int) := IntWalk.i64_in _ (by omega)
          have e6 : IntKind.i64.wrap (m : Int) = (m : Int) := IntWalk.i64_in _ (by omega)
          have e7 : (9 + (m : Int)).toNat = 9 + m := by omega
          have b1 : (0 : Int) ≤ 9 + (m : Int) := by omega
          have b2 : (9 : Int) ≤ 9 + (m : Int) := by omega
          have b3 : 9 + (m : Int) ≤ (V.size : Int) := by omega
          have HSEC := Lib.hid hsec
          have HT := Lib.hid hT
          have HS := Lib.hid hS
          have HSB := Lib.hid hsb
          have HND := Lib.hid hd
          clear hN64 hnum hN hvl hvt hvb hsec hT hsb hd hS hFe
          rw [HND.out] at hF0
          by_cases hdi : d = i
          · subst hdi
            by_cases hse : l = secL N vl
            · rw [if_neg (fun hh => hh.elim (fun h => h rfl) (fun h => h hse))] at hF0
              subst hF0
              have hTV : T = V := by rw [HSTR.out, ← HT.out, ← hse]
              subst hTV
              clear hse
              go_wp2_with fail
              refine HSEC.out.mono ?_
              rintro e w4 ⟨rfl, hb4⟩
              have hbf := HB2.out.trans (hb4.mono HB2.out.size)
              clear hb4
              go_wp2_with fail
              go_ret2
              exact ⟨by first | rfl | (rw [HS.out]; rfl), by first | exact hbf | (rw [hB] at hbf; exact hbf)⟩
            · rw [if_pos (.inr hse)] at hF0
              subst hF0
              have hbe : (T.toList == V.toList) = false := by
                rw [beq_eq_false_iff_ne, ByteArray.toList_eq, ByteArray.toList_eq]
                intro e
                have e8 : T = V := congrArg ByteArray.mk (Array.toList_inj.1 e)
                rw [HSTR.out, ← HT.out] at e8
                exact hse (strOf_inj HSB.out HBY.out e8).symm
              clear hse
              go_wp2_with fail
              refine HSEC.out.mono ?_
              rintro e w4 ⟨rfl, hb4⟩
              have hbf := HB2.out.trans (hb4.mono HB2.out.size)
              clear hb4
              go_wp2_with fail
              go_ret2
              exact ⟨rfl, by first | exact hbf | (rw [hB] at hbf; exact hbf)⟩
          · rw [if_pos (.inl hdi)] at hF0
            subst hF0
            have hne : ((d : Int) != (i : Int)) = true := by rw [bne_iff_ne]; omega
            have hbf := HB2.out
            go_wp2_with fail
            go_ret2
            exact ⟨rfl, by first | exact hbf | (rw [hB] at hbf; exact hbf)⟩
        · obtain ⟨k, rfl⟩ : ∃ k, j = k + 1 := ⟨j - 1, by omega⟩
          have hk8 : k < 8 := by omega
          obtain ⟨x, hx⟩ : ∃ x, (V[k]'(by omega)).toNat = x := ⟨_, rfl⟩
          have hx255 : x < 256 := by rw [← hx]; exact (V[k]'(by omega)).toNat_lt
          have hgx : l.getD k 0 = (x : Int) := by rw [← HAT.out k (by omega), hx]
          have htk := undig_take l k hk8 (by rw [HL64.out]; omega)
          rw [hgx] at htk
          obtain ⟨u, hu⟩ : ∃ u, undig ((l.take 8).drop (k + 1)) = u := ⟨_, rfl⟩
          have hu56 : u < 256 ^ 7 := by
            have := HLU.out (k + 1) (by omega)
            rw [hu] at this
            exact Nat.lt_of_lt_of_le this (Nat.pow_le_pow_right (by decide) (by omega))
          rw [hu] at htk ⊢
          have e0 : (((k + 1 : Nat) : Int) - 1) = (k : Int) := by omega
          rw [e0]
          have k0 : (0 : Int) ≤ (k : Int) := by omega
          have kV : (k : Int) < (V.size : Int) := by omega
          have w1 : IntKind.u64.wrap ((u : Int) * 256) = ((u * 256 : Nat) : Int) := by rw [IntKind.wrap_u64]; omega
          have w2' : IntKind.u64.wrap (x : Int) = (x : Int) := by rw [IntKind.wrap_u64]; omega
          obtain ⟨y, hy⟩ : ∃ y, u * 256 + x = y := ⟨_, rfl⟩
          have w3 : IntKind.u64.wrap (((u * 256 : Nat) : Int) + (x : Int)) = (y : Int) := by rw [IntKind.wrap_u64]; omega
          have w4 : IntKind.i64.wrap ((k : Int) - 1) = (k : Int) - 1 := IntWalk.i64_in _ (by omega)
          have HTK := Lib.hid htk
          have HY := Lib.hid hy
          obtain ⟨uu, huu⟩ : ∃ uu, u * 256 = uu := ⟨_, rfl⟩
          rw [huu] at w1 w3
          have HU := Lib.hid hu
          have HUU := Lib.hid huu
          clear htk hy huu hu hgx hu56 e0
          go_wp2_with fail
          refine ⟨⟨k, by omega, ?_, rfl, trivial⟩, ?_⟩
          · rw [HTK.out, ← HY.out, Int.toNat_natCast, Nat.mul_comm, Nat.add_comm]
          · first | (simp [intOf]; done) | (simp [intOf]; omega)
theorem size_rslot : (Try.prog.info? 47).map (·.size) = some 3 := by kernel_rfl
def slotR (a : Int) (x : Nat × List Int) : Array Value := #[.int .u64 a, .int .u64 (x.1 : Nat), .string (strOf x.2)]
set_option maxRecDepth 100000 in
set_option maxHeartbeats 4000000 in
theorem ropen_any (st : DSt) (r : R.RSt) (v : Value) (q : List (R.RSec × Value)) (area : Int) (w : World) (h : R.RDisk w v r q) (hRel : R.RelD st r) (ha : (Lit.int .u64 area).wf = true) (hd : st.dead = false)
    (hV : ∀ (i : Nat), i < 2 → ∀ L s, st.F area i = some (L, s) → (L.getLastD ByteArray.empty).size = 64) :
    Calls Try.prog 16 #[.agg (R.diskR r v), .int .u64 area] w fun e w' => e = .returned (.tuple #[.agg (slotR area (openK st area 2)), .int .i64 0]) ∧ Below w.heap.size w w' := by
  obtain ⟨av, cv, rfl⟩ := h.1.slice
  have hA : ∀ W, Below w.heap.size w W → Calls Try.prog 30 #[.agg (R.diskR r (.slice av q.length cv)), .int .u64 area, .int .i64 ((0 : Nat) : Int)] W fun e w' => e = .returned (.tuple #[.int .u64 ((saysF (lastI st area 0) 0).1 : Nat), .string (strOf (saysF (lastI st area 0) 0).2)]) ∧ Below W.heap.size W w' := fun W hb =>
    rsaid_any st r (.slice av q.length cv) q area 0 W ⟨h.1.below hb, h.2⟩ hRel (by decide) ha (hV 0 (by decide))
  have hB : ∀ W, Below w.heap.size w W → Calls Try.prog 30 #[.agg (R.diskR r (.slice av q.length cv)), .int .u64 area, .int .i64 ((1 : Nat) : Int)] W fun e w' => e = .returned (.tuple #[.int .u64 ((saysF (lastI st area 1) 1).1 : Nat), .string (strOf (saysF (lastI st area 1) 1).2)]) ∧ Below W.heap.size W w' := fun W hb =>
    rsaid_any st r (.slice av q.length cv) q area 1 W ⟨h.1.below hb, h.2⟩ hRel (by decide) ha (hV 1 (by decide))
  have hdead := hRel.dead
  rw [hd] at hdead
  have hop := open_ref st area
  rw [hop]
  clear hop
  obtain ⟨⟨a, x⟩, hAe⟩ : ∃ A, saysF (lastI st area 0) 0 = A := ⟨_, rfl⟩
  obtain ⟨⟨b, y⟩, hBe⟩ : ∃ B, saysF (lastI st area 1) 1 = B := ⟨_, rfl⟩
  rw [hAe] at hA ⊢
  rw [hBe] at hB ⊢
  dsimp only at hA hB
  obtain ⟨room, steps, left, armed, dead, rl⟩ := r
  dsimp only at hdead
  subst hdead
  obtain ⟨Q, hQ⟩ : ∃ Q, w.heap.size = Q := ⟨_, rfl⟩
  obtain ⟨W1, hW1⟩ : ∃ W1, (w.alloc (.cells #[.int .i64 room, .int .i64 steps, .int .i64 left, .bool armed, .bool false, .slice av q.length cv] 43)).alloc (.cells #[.int .u64 0, .int .u64 0, .string ⟨#[]⟩] 47) = W1 := ⟨_, rfl⟩
  have hb1 : Below w.heap.size w W1 := by rw [← hW1]; exact ((Below.refl _ _).alloc (Nat.le_refl _) _).alloc (by simp) _
  have bD : Blk W1 Q 43 #[.int .i64 room, .int .i64 steps, .int .i64 left, .bool armed, .bool false, .slice av q.length cv] := by
    rw [← hW1, ← hQ]; exact (Blk.alloc_new _ _ _).below ((Below.refl _ _).alloc (Nat.le_refl _) _) (by simp)
  have bS : Blk W1 (Q + 1) 47 #[.int .u64 0, .int .u64 0, .string ⟨#[]⟩] := by
    rw [← hW1, ← hQ]; exact R.two_blk _ _ _ _
  obtain ⟨c0, c1, c2, c3, c4, c5⟩ := R.blk6 bD
  have hA1 := hA W1 hb1
  unfold R.diskR at hA1 hB ⊢
  dsimp only at hA1 hB ⊢
  have HA := Lib.hid hA1
  have HB := Lib.hid hB
  have HB1 := Lib.hid hb1
  have HD := Lib.hid bD
  have HS := Lib.hid bS
  clear hA hA1 hB hb1 bD bS hAe hBe h hRel hV
  go_enter Try.func16, Try.ntmps16
  go_wp2_with fail
  try rw [hW1]
  refine HA.out.mono ?_
  rintro e w2 ⟨rfl, hb2⟩
  have hb12 := hb2
  have HB2 := Lib.hid hb2
  obtain ⟨d0, d1, d2, d3, d4, d5⟩ := R.blk6 (HD.out.below hb2 (Blk.lt HD.out))
  clear hb2 hb12
  go_wp2_with fail
  refine (HB.out w2 (HB1.out.trans (HB2.out.mono HB1.out.size))).mono ?_
  rintro e w3 ⟨rfl, hb3⟩
  have hb13 := HB2.out.trans (hb3.mono HB2.out.size)
  obtain ⟨sx, hsx⟩ : ∃ sx, strOf x = sx := ⟨_, rfl⟩
  obtain ⟨sy, hsy⟩ : ∃ sy, strOf y = sy := ⟨_, rfl⟩
  have HSX := Lib.hid hsx
  have HSY := Lib.hid hsy
  rw [hsx, hsy]
  clear hsx hsy hb3
  by_cases hab : (b : Int) < (a : Int)
  · have hr : ropenF (a, x) (b, y) = (a, x) := by unfold ropenF; exact if_pos (by show b < a; omega)
    have hsl : slotR area (ropenF (a, x) (b, y)) = #[.int .u64 area, .int .u64 (a : Nat), .string sx] := by rw [hr]; unfold slotR; dsimp only; rw [HSX.out]
    have HSL := Lib.hid hsl
    clear hr hsl
    have HBF := Lib.hid hb13
    have HSB := Lib.hid (HS.out.below hb13 (Blk.lt HS.out))
    have z0 := Blk.free HSB.out 0
    have z1 := Blk.free HSB.out 1
    have z2 := Blk.free HSB.out 2
    have y0 : w3.cell? ⟨Q + 1, 0, none⟩ = some (.int .u64 0) := by rw [Blk.cell HSB.out]; rfl
    have y1 : w3.cell? ⟨Q + 1, 1, none⟩ = some (.int .u64 0) := by rw [Blk.cell HSB.out]; rfl
    have y2 : w3.cell? ⟨Q + 1, 2, none⟩ = some (.string ⟨#[]⟩) := by rw [Blk.cell HSB.out]; rfl
    clear hb13
    go_wp2_with fail
    have hfin : Below w.heap.size w (((w3.setCell ⟨Q + 1, 0, none⟩ (.int .u64 area)).setCell ⟨Q + 1, 1, none⟩ (.int .u64 (a : Nat))).setCell ⟨Q + 1, 2, none⟩ (.string sx)) :=
      (((HB1.out.trans (HBF.out.mono HB1.out.size)).setCell (p := ⟨Q + 1, 0, none⟩) (by show w.heap.size ≤ Q + 1; omega) _).setCell (p := ⟨Q + 1, 1, none⟩) (by show w.heap.size ≤ Q + 1; omega) _).setCell (p := ⟨Q + 1, 2, none⟩) (by show w.heap.size ≤ Q + 1; omega) _
    have hblk := ((HSB.out.set 0 (.int .u64 area)).set 1 (.int .u64 (a : Nat))).set 2 (.string sx)
    refine bodyPost_ret (R.results_cellT rfl _ _ (Q + 1) rfl _ rfl _ #[.int .u64 area, .int .u64 (a : Nat), .string sx] hblk _ Try.underlying47 rfl size_rslot) rfl ?_
    exact ⟨by rw [HSL.out]; rfl, hfin⟩
  · have hr : ropenF (a, x) (b, y) = (b, y) := by unfold ropenF; exact if_neg (by show ¬ b < a; omega)
    have hsl : slotR area (ropenF (a, x) (b, y)) = #[.int .u64 area, .int .u64 (b : Nat), .string sy] := by rw [hr]; unfold slotR; dsimp only; rw [HSY.out]
    have HSL := Lib.hid hsl
    clear hr hsl
    have HBF := Lib.hid hb13
    have HSB := Lib.hid (HS.out.below hb13 (Blk.lt HS.out))
    have z0 := Blk.free HSB.out 0
    have z1 := Blk.free HSB.out 1
    have z2 := Blk.free HSB.out 2
    have y0 : w3.cell? ⟨Q + 1, 0, none⟩ = some (.int .u64 0) := by rw [Blk.cell HSB.out]; rfl
    have y1 : w3.cell? ⟨Q + 1, 1, none⟩ = some (.int .u64 0) := by rw [Blk.cell HSB.out]; rfl
    have y2 : w3.cell? ⟨Q + 1, 2, none⟩ = some (.string ⟨#[]⟩) := by rw [Blk.cell HSB.out]; rfl
    clear hb13
    go_wp2_with fail
    have hfin : Below w.heap.size w (((w3.setCell ⟨Q + 1, 0, none⟩ (.int .u64 area)).setCell ⟨Q + 1, 1, none⟩ (.int .u64 (b : Nat))).setCell ⟨Q + 1, 2, none⟩ (.string sy)) :=
      (((HB1.out.trans (HBF.out.mono HB1.out.size)).setCell (p := ⟨Q + 1, 0, none⟩) (by show w.heap.size ≤ Q + 1; omega) _).setCell (p := ⟨Q + 1, 1, none⟩) (by show w.heap.size ≤ Q + 1; omega) _).setCell (p := ⟨Q + 1, 2, none⟩) (by show w.heap.size ≤ Q + 1; omega) _
    have hblk := ((HSB.out.set 0 (.int .u64 area)).set 1 (.int .u64 (b : Nat))).set 2 (.string sy)
    refine bodyPost_ret (R.results_cellT rfl _ _ (Q + 1) rfl _ rfl _ #[.int .u64 area, .int .u64 (b : Nat), .string sy] hblk _ Try.underlying47 rfl size_rslot) rfl ?_
    exact ⟨by rw [HSL.out]; rfl, hfin⟩
end Go.Proofs.Ytfoogbchajgepaa.S
