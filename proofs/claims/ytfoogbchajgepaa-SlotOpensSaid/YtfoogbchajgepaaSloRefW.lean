/-
  The document's sum, sector, said, Open: walks.
-/
import Derived.Test.YtfoogbchajgepaaSloRefM
import Derived.Test.YtfoogbchajgepaaRefRead
import Derived.Lib.AppendStr
import Derived.BigQuiet
namespace Go.Proofs.Ytfoogbchajgepaa.S
open Go.RowKit
open Aid K
set_option linter.unusedSimpArgs false
set_option linter.unusedVariables false

theorem crc_odd {t : Nat} (h : t < 4294967296) (ho : t % 2 = 1) : bits BinOp.xor IntKind.u32 ((t : Int) / 2) 2197175160 = ((crcStep t : Nat) : Int) := by
  have e0 : (t : Int) / 2 = ((t / 2 : Nat) : Int) := by omega
  rw [e0]
  unfold crcStep
  rw [if_pos ho]
  exact u32_xor_nat (t / 2) 2197175160 (by omega) (by decide)
theorem crc_even {t : Nat} (ho : ¬ t % 2 = 1) : (t : Int) / 2 = ((crcStep t : Nat) : Int) := by
  unfold crcStep
  rw [if_neg ho, Nat.xor_zero]
  omega
set_option maxRecDepth 100000 in
set_option maxHeartbeats 2000000 in
theorem rsum_any (v : Value) (l : List Int) (w : World) (hI : Ints w .u8 v l) (hb : By l) : Calls Try.prog 54 #[v] w fun e w' => e = .returned (.int .u32 (sumI l : Nat)) ∧ w' = w := by
  obtain ⟨a, c, rfl⟩ := Ints.form hI
  have hn := hI.1
  go_enter Try.func54, Try.ntmps54
  go_wp2_with fail
  go_loopw [3, 4] (fun x3 x4 wr => ∃ i : Nat, x4 = .int .i64 i ∧ i ≤ l.length ∧ x3 = .int .u32 (crcL 4294967295 ((l.take i).map Int.toNat) : Nat) ∧ wr = w) (fun x3 x4 _ => l.length - (intOf x4).toNat)
  case atStart => exact ⟨0, rfl, Nat.zero_le _, rfl, rfl⟩
  case round =>
    obtain ⟨i, rfl, hi, rfl, rfl⟩ := hrel
    by_cases hlt : (i : Int) < (l.length : Int)
    · have hil : i < l.length := by omega
      obtain ⟨b, o, rfl, _, hcell⟩ := hI.at_ (k := i) hil rfl
      obtain ⟨x, hx⟩ : ∃ x : Nat, l.getD i 0 = (x : Int) := ⟨(l.getD i 0).toNat, by
        have := hb (l.getD i 0) (by rw [List.getD_eq_getElem?_getD, List.getElem?_eq_getElem hil]; exact List.getElem_mem hil)
        omega⟩
      rw [hx] at hcell
      have hx255 : x < 256 := by
        have := hb (l.getD i 0) (by rw [List.getD_eq_getElem?_getD, List.getElem?_eq_getElem hil]; exact List.getElem_mem hil)
        omega
      obtain ⟨s0, hs0⟩ : ∃ s0, crcL 4294967295 ((l.take i).map Int.toNat) = s0 := ⟨_, rfl⟩
      have hs32 : s0 < 4294967296 := by
        rw [← hs0]
        refine crcL_lt (by decide) (fun c hc => ?_)
        obtain ⟨z, hz, rfl⟩ := List.mem_map.1 hc
        have := hb z (List.mem_of_mem_take hz)
        omega
      rw [hs0]
      have hxw : IntKind.u32.wrap (x : Int) = (x : Int) := by rw [IntKind.wrap_u32']; omega
      have hxor : bits .xor .u32 (s0 : Int) (x : Int) = ((s0 ^^^ x : Nat) : Int) := u32_xor_nat s0 x hs32 (by omega)
      have hinext : IntKind.i64.wrap ((i : Int) + 1) = ((i + 1 : Nat) : Int) := IntWalk.i64_in _ (by omega)
      have i0 : (0 : Int) ≤ (i : Int) := by omega
      go_wp2_with fail
      obtain ⟨s1, hs1⟩ : ∃ s1, s0 ^^^ x = s1 := ⟨_, rfl⟩
      have hs132 : s1 < 4294967296 := by rw [← hs1]; exact Nat.xor_lt_two_pow (n := 32) hs32 (by omega)
      simp only [hs1]
      have HS0 := Lib.hid hs0
      have HS1 := Lib.hid hs1
      have HX := Lib.hid hx
      clear hs0 hx
      go_loopw [3, 5] (fun x3 x5 wr' => ∃ j : Nat, x5 = .int .i64 j ∧ j ≤ 8 ∧ x3 = .int .u32 (crcN j s1 : Nat) ∧ wr' = wr) (fun x3 x5 _ => 8 - (intOf x5).toNat)
      case atStart => exact ⟨0, rfl, by omega, rfl, rfl⟩
      case round =>
        obtain ⟨j, rfl, hj, rfl, rfl⟩ := hrel
        have hc32 := crcN_lt hs132 j
        have hnext : crcN (j + 1) s1 = crcStep (crcN j s1) := rfl
        obtain ⟨t, ht⟩ : ∃ t, crcN j s1 = t := ⟨_, rfl⟩
        rw [ht] at hc32 hnext ⊢
        have HN := Lib.hid hnext
        have HT := Lib.hid ht
        clear hnext ht
        by_cases hj8 : (j : Int) < 8
        · have hjn : IntKind.i64.wrap ((j : Int) + 1) = ((j + 1 : Nat) : Int) := IntWalk.i64_in _ (by omega)
          by_cases ho : t % 2 = 1
          · have ho1 : (t : Int) % 2 = 1 := by omega
            have ho2 : (t : Int).tmod 2 = 1 := by rw [Int.tmod_eq_emod_of_nonneg (by omega)]; exact ho1
            have hcr := crc_odd hc32 ho
            clear ho
            go_wp2_with fail
            refine ⟨⟨j + 1, by first | rfl | congr 1, by omega, by rw [HN.out], trivial⟩, ?_⟩
            simp [intOf]; omega
          · have ho1 : (t : Int) % 2 = 0 := by omega
            have ho2 : (t : Int).tmod 2 = 0 := by rw [Int.tmod_eq_emod_of_nonneg (by omega)]; exact ho1
            have hcr := crc_even ho
            have HCR := Lib.hid hcr
            clear ho hcr
            go_wp2_with fail
            refine ⟨⟨j + 1, by first | rfl | congr 1, by omega, by rw [HN.out, ← HCR.out], trivial⟩, ?_⟩
            simp [intOf]; omega
        · go_wp2_with fail
          have hj8' : j = 8 := by omega
          subst hj8'
          refine ⟨⟨i + 1, by first | rfl | congr 1, by omega, ?_, trivial⟩, ?_⟩
          · rw [List.take_add_one, List.getElem?_eq_getElem hil, Option.toList_some, List.map_append, List.map_cons, List.map_nil, crcL_snoc, HS0.out]
            have e : l[i].toNat = x := by
              have : l[i] = (x : Int) := by rw [← HX.out, List.getD_eq_getElem?_getD, List.getElem?_eq_getElem hil]; rfl
              rw [this]; rfl
            rw [e, HS1.out, HT.out]
          · simp [intOf]; omega
    · have hil : i = l.length := by omega
      subst hil
      rw [List.take_length]
      have hb' : ∀ c ∈ l.map Int.toNat, c < 256 := fun c hc => by
        obtain ⟨z, hz, rfl⟩ := List.mem_map.1 hc
        have := hb z hz
        omega
      have h32 := crcL_lt (l := l.map Int.toNat) (s := 4294967295) (by decide) hb'
      have hsum : sumI l = 4294967295 - crcL 4294967295 (l.map Int.toNat) := rfl
      obtain ⟨t, ht⟩ : ∃ t, crcL 4294967295 (l.map Int.toNat) = t := ⟨_, rfl⟩
      rw [ht] at h32 hsum ⊢
      have HS := Lib.hid hsum
      have hw : IntKind.u32.wrap (4294967295 - (t : Int)) = 4294967295 - (t : Int) := by rw [IntKind.wrap_u32']; omega
      clear hsum ht
      go_wp2_with fail
      go_ret
      exact ⟨ret_i (by rw [HS.out]; omega), rfl⟩
/-- a row of bytes that is pushed to -/
def RowB (w : World) (base : Nat) (v : Value) (L : List Int) : Prop := w.ownsRow base 5 1 v L.length (L.map (Value.int .u8))
theorem RowB.below {w w' : World} {base : Nat} {v : Value} {L : List Int} (h : RowB w base v L) (hb : Below w.heap.size w w') : RowB w' base v L := owns_below h hb
theorem RowB.form {w : World} {base : Nat} {v : Value} {L : List Int} (h : RowB w base v L) : ∃ a c, v = .slice a L.length c := by
  rcases h.2 with ⟨e, h0⟩ | ⟨g, cap, cur, hv, _⟩
  · exact ⟨none, 0, by rw [e, h0]⟩
  · exact ⟨_, cap, hv⟩
theorem wpList_pushB {ops : Array Oper} {rest : List Oper} {o : Oper} {a : Act} {Q : Exit → Act → World → Prop} (w : World)
    (hw : Region.wanted o (yielded ops a.tmps) = true) (s x : Operand)
    (ho : o.op = .call { callee := .builtin .append, args := #[s, x], argTypes := #[31, 31] })
    (base : Nat) (v : Value) (L : List Int) (hs : a.eval s = v) (hown : RowB w base v L) (g : Nat) (z : Int) (hx : a.eval x = .slice (some ⟨g, 0, none⟩) 1 1)
    (hc : w.cell? ⟨g, 0, none⟩ = some (.int .u8 z)) (hL : L.length ≤ 1000) (hbase : base ≤ w.heap.size)
    (h : ∀ v' w', RowB w' base v' (L ++ [z]) → Below base w w' → wpList Try.prog ops Q rest (a.put o.dst v') w') : wpList Try.prog ops Q (o :: rest) a w := by
  obtain ⟨i0, hi0, hz0, hz1, hz2⟩ := R.u8_info
  refine wpList_push w hw s x 31 ho base 5 i0 (.int .u8 0) 1 Try.underlying31 hi0 hz0 hz1 hz2 rfl v L.length _ hs hown g (.int .u8 z) hx hc rfl (by unfold maxLen; omega) (by omega) hbase ?_
  intro v' w' h1 h2
  refine h v' w' ?_ h2
  unfold RowB
  rw [List.length_append, List.map_append]
  exact h1
theorem strOf_size (l : List Int) : (strOf l).size = l.length := by unfold strOf; show (Array.size _) = _; simp
theorem str_cells {l : List Int} (hb : By l) : Go.Lib.strCells (strOf l) = l.map (Value.int .u8) := by
  unfold Go.Lib.strCells strOf
  simp only [List.map_toArray]
  apply List.ext_getElem
  · simp
  · intro i h1 h2
    simp only [List.length_map] at h2
    have := hb _ (List.getElem_mem (l := l) (by simpa using h2))
    simp [u8_int this.1 this.2]
set_option maxRecDepth 100000 in
set_option maxHeartbeats 4000000 in
theorem rsector_any (n : Nat) (l : List Int) (w : World) (hn : n < 18446744073709551616) (hb : By l) (hl : l.length ≤ 48) :
    Calls Try.prog 43 #[.int .u64 (n : Nat), .string (strOf l)] w fun e w' => e = .returned (.string (strOf (secL n l))) ∧ Below w.heap.size w w' := by
  obtain ⟨i0, hi0, hz0, hz1, hz2⟩ := R.u8_info
  obtain ⟨V, hV⟩ : ∃ V, strOf l = V := ⟨_, rfl⟩
  have hVs : V.size = l.length := by rw [← hV]; exact strOf_size l
  have hVc : Go.Lib.strCells V = l.map (Value.int .u8) := by rw [← hV]; exact str_cells hb
  rw [hV]
  obtain ⟨M, hM⟩ : ∃ M, w.heap.size = M := ⟨_, rfl⟩
  have hr0 : RowB w M (.slice none 0 0) (digL n 0) := World.ownsRow_nil _ _ _ _
  have hb0 : Below M w w := Below.refl _ _
  have HVC := Lib.hid hVc
  have HVS := Lib.hid hVs
  have HM := Lib.hid hM
  have HN64 := Lib.hid hn
  have HBY := Lib.hid hb
  clear hVc hVs hV hM hn hb
  go_enter Try.func43, Try.ntmps43
  go_wp2_with fail
  go_loopw [5, 6, 7] (fun x5 x6 x7 wr => ∃ (i : Nat) (v : Value), x5 = v ∧ x6 = .int .u64 ((n / 256 ^ i : Nat) : Int) ∧ x7 = .int .i64 i ∧ i ≤ 8 ∧ RowB wr M v (digL n i) ∧ Below M w wr) (fun _ _ x7 _ => 8 - (intOf x7).toNat)
  case atStart => exact ⟨0, _, rfl, by simp, rfl, by omega, hr0, hb0⟩
  case round =>
    clear hr0 hb0
    obtain ⟨i, v, rfl, rfl, rfl, hi, hrow, hbl⟩ := hrel
    have hsz : M ≤ wr.heap.size := by have := hbl.size; have := HM.out; omega
    obtain ⟨q, hq⟩ : ∃ q, n / 256 ^ i = q := ⟨_, rfl⟩
    have hqn : q ≤ n := by rw [← hq]; exact Nat.div_le_self _ _
    have hnx : n / 256 ^ (i + 1) = q / 256 := by rw [Nat.pow_succ, ← Nat.div_div_eq_div_mul, hq]
    have hdg : digL n (i + 1) = digL n i ++ [((q % 256 : Nat) : Int)] := by rw [digL_snoc]; unfold dig; rw [hq]
    rw [hq]
    have HNX := Lib.hid hnx
    have HDG := Lib.hid hdg
    clear hnx hdg hq
    by_cases hlt : (i : Int) < 8
    · have e1 : ((q : Nat) : Int) % 256 = ((q % 256 : Nat) : Int) := by omega
      have e2 : ((q : Nat) : Int).tmod 256 = ((q % 256 : Nat) : Int) := by rw [Int.tmod_eq_emod_of_nonneg (by omega)]; exact e1
      obtain ⟨q2, hq2⟩ : ∃ q2, q / 256 = q2 := ⟨_, rfl⟩
      have e3 : ((q : Nat) : Int) / 256 = (q2 : Int) := by omega
      have e4 : ((q : Nat) : Int).tdiv 256 = (q2 : Int) := by rw [Int.tdiv_eq_ediv_of_nonneg (by omega)]; exact e3
      have e5 : IntKind.u8.wrap ((q % 256 : Nat) : Int) = ((q % 256 : Nat) : Int) := by rw [IntKind.wrap_u8']; omega
      have e6 : IntKind.u64.wrap (q2 : Int) = (q2 : Int) := by have := HN64.out; rw [IntKind.wrap_u64]; omega
      have HQ2 := Lib.hid hq2
      clear hq2
      have hin : IntKind.i64.wrap ((i : Int) + 1) = ((i + 1 : Nat) : Int) := IntWalk.i64_in _ (by omega)
      obtain ⟨d, hd⟩ : ∃ d, q % 256 = d := ⟨_, rfl⟩
      rw [hd] at e1 e2 e5
      have HD := Lib.hid hd
      clear hd
      have hdl : (digL n i).length ≤ 1000 := by rw [digL_len]; omega
      go_wp2_with (at_builtin; refine wpList_pushB _ (by rfl) _ _ rfl M _ (digL n i) rfl (hrow.below ((Below.refl _ _).alloc (Nat.le_refl _) _)) wr.heap.size (d : Int) rfl (cell_new _ _ _ _ rfl) hdl (by simp; omega) ?_; intro v' w2 hrow2 hb2)
      refine ⟨⟨i + 1, v', rfl, by rw [HNX.out, HQ2.out], by first | rfl | congr 1, by omega, ?_, (hbl.alloc hsz _).trans hb2⟩, ?_⟩
      · rw [HDG.out, HD.out]; exact hrow2
      · simp [intOf]; omega
    · have hi8 : i = 8 := by omega
      subst hi8
      have hsl := HVS.out
      have hwl : IntKind.u8.wrap (l.length : Int) = (l.length : Int) := by rw [IntKind.wrap_u8']; omega
      have hdl : (digL n 8).length ≤ 1000 := by rw [digL_len]; omega
      have HL9 := Lib.hid (show (digL n 8 ++ [(l.length : Int)]).length = 9 by simp [digL_len])
      go_wp2_with (first
        | (at_builtin; refine wpList_pushB _ (by rfl) _ _ rfl M _ (digL n 8) rfl (hrow.below ((Below.refl _ _).alloc (Nat.le_refl _) _)) wr.heap.size (l.length : Int) rfl (cell_new _ _ _ _ rfl) hdl (by simp; omega) ?_; intro v2 w2 hrow2 hb2; have hbl2 := (hbl.alloc hsz _).trans hb2; have hsz2 : M ≤ w2.heap.size := by (have := hbl2.size; have := HM.out; omega))
        | (at_builtin; go_loud (refine Go.Lib.wpList_append_own_string _ (by rfl) _ _ 31 9 rfl M 5 i0 Try.underlying31 Try.underlying9 hi0 hz0 hz1 hz2 v2 (digL n 8 ++ [(l.length : Int)]).length _ rfl hrow2 V rfl (by rw [HL9.out]; have := HVS.out; unfold maxLen; omega) (by rw [HL9.out]; have := HVS.out; omega) hsz2 ?_); intro v3 w3 hrow3 hg3 _))
      have hR3 : RowB w3 M v3 (digL n 8 ++ [(l.length : Int)] ++ l) := by
        unfold RowB
        rw [List.length_append, List.map_append]
        rw [HVC.out, HVS.out] at hrow3
        exact hrow3
      have hbl3 : Below M w w3 := below_grown hbl2 hg3 hsz2 (fun k hk => owns_base hrow2 k hk)
      have hbase : ∀ k, 9 + l.length + k = 60 → digL n 8 ++ [(l.length : Int)] ++ l ++ List.replicate k 0 = baseL n l := fun k hk => by
        unfold baseL
        rw [show 51 - l.length = k by omega]
        simp
      have hlen3 : ∀ k, (digL n 8 ++ [(l.length : Int)] ++ l ++ List.replicate k 0).length = 9 + l.length + k := fun k => by simp [digL_len]; omega
      have HBASE := Lib.hid hbase
      have HLEN := Lib.hid hlen3
      obtain ⟨R3, hR3e⟩ : ∃ R3, digL n 8 ++ [(l.length : Int)] ++ l = R3 := ⟨_, rfl⟩
      have hk0 : RowB w3 M v3 (R3 ++ List.replicate 0 0) := by rw [← hR3e]; simpa using hR3
      rw [hR3e] at HBASE HLEN
      clear hrow hrow2 hrow3 hg3 hR3 hbl hbl2 hb2 hbase hlen3 hdl hwl hsl hR3e hsz hsz2
      go_loopw [5] (fun x5 w4 => ∃ (k : Nat) (v : Value), x5 = v ∧ 9 + l.length + k ≤ 60 ∧ RowB w4 M v (R3 ++ List.replicate k 0) ∧ Below M w w4) (fun x5 _ => 60 - R.lenV x5)
      case atStart => exact ⟨0, _, rfl, by omega, hk0, hbl3⟩
      case round =>
        clear hk0 hbl3
        obtain ⟨k, v, hvx, hk, hrow, hbl⟩ := hrel
        subst hvx
        have hsz : M ≤ wr.heap.size := by have := hbl.size; have := HM.out; omega
        obtain ⟨av, cv, hvf⟩ := hrow.form
        have hln := HLEN.out k
        obtain ⟨N, hN⟩ : ∃ N, (R3 ++ List.replicate k 0).length = N := ⟨_, rfl⟩
        rw [hN] at hvf hln
        subst hvf
        have HN := Lib.hid hN
        have HLN := Lib.hid hln
        have hN60 : N ≤ 60 := by omega
        have hNk : N = 9 + l.length + k := hln
        have HNK := Lib.hid hNk
        clear hN hln hNk
        by_cases hlt : (N : Int) < 60
        · have hdl : (R3 ++ List.replicate k 0).length ≤ 1000 := by rw [HN.out]; omega
          have hrow1 := hrow.below ((Below.refl _ _).alloc (Nat.le_refl _) (.cells #[.int .u8 0] 5))
          go_wp2_with (at_builtin; refine wpList_pushB _ (by rfl) _ _ rfl M _ (R3 ++ List.replicate k 0) rfl hrow1 wr.heap.size 0 rfl (cell_new _ _ _ _ rfl) hdl (by simp; omega) ?_; intro v' w5 hrow5 hb5)
          have he : R3 ++ List.replicate (k + 1) 0 = R3 ++ List.replicate k 0 ++ [0] := by rw [List.replicate_succ', List.append_assoc]
          have hl5 : R.lenV v' = N + 1 := by
            have := R.owns_len hrow5
            rw [this, List.length_append, HN.out]; rfl
          have hfin := (hbl.alloc hsz (.cells #[.int .u8 0] 5)).trans hb5
          refine ⟨⟨k + 1, v', rfl, by have := HNK.out; omega, by rw [he]; exact hrow5, hfin⟩, ?_⟩
          show 60 - R.lenV v' < 60 - N
          omega
        · have hN0 : N = 60 := by omega
          subst hN0
          have hkk := HBASE.out k (by have := HNK.out; omega)
          rw [hkk] at hrow
          have hlt48 : l.length ≤ 51 := by omega
          have hbl60 : (baseL n l).length = 60 := baseL_len hlt48
          have hby := baseL_by (n := n) hlt48 HBY.out
          have hint : Ints wr .u8 (.slice av 60 cv) (baseL n l) := Ints.own hrow (by rw [hbl60]; decide)
          have hsum := rsum_any (.slice av 60 cv) (baseL n l) wr hint hby
          obtain ⟨S, hS⟩ : ∃ S, sumI (baseL n l) = S := ⟨_, rfl⟩
          have hS32 : S < 4294967296 := by rw [← hS]; exact sumN_lt _
          rw [hS] at hsum
          have HSUM := Lib.hid hsum
          have HS := Lib.hid hS
          obtain ⟨BL, hBL⟩ : ∃ BL, baseL n l = BL := ⟨_, rfl⟩
          rw [hBL] at hrow hbl60
          have hrow0 : RowB wr M (.slice av 60 cv) (BL ++ digL S 0) := by
            have e : BL ++ digL S 0 = BL := by simp [digL]
            rw [e]; exact hrow
          have HBL := Lib.hid hBL
          have HB60 := Lib.hid hbl60
          have HS32 := Lib.hid hS32
          clear hsum hS hkk hint hby hrow hBL hbl60 hS32 hlt hN60
          go_wp2_with fail
          refine HSUM.out.mono ?_
          rintro e w6 ⟨rfl, rfl⟩
          go_wp2_with fail
          go_loopw [5, 8, 9] (fun x5 x8 x9 w7 => ∃ (i : Nat) (v : Value), x5 = v ∧ x8 = .int .u32 ((S / 256 ^ i : Nat) : Int) ∧ x9 = .int .i64 i ∧ i ≤ 4 ∧ RowB w7 M v (BL ++ digL S i) ∧ Below M w w7) (fun _ _ x9 _ => 4 - (intOf x9).toNat)
          case atStart => exact ⟨0, _, rfl, by simp, rfl, by omega, hrow0, hbl⟩
          case round =>
            clear hrow0 hbl
            obtain ⟨i, v, hvx, rfl, rfl, hi, hrow, hbl⟩ := hrel
            subst hvx
            have hsz : M ≤ wr.heap.size := by have := hbl.size; have := HM.out; omega
            obtain ⟨av, cv, hvf⟩ := hrow.form
            have hln : (BL ++ digL S i).length = 60 + i := by rw [List.length_append, HB60.out, digL_len]
            rw [hln] at hvf
            subst hvf
            obtain ⟨q7, hq7⟩ : ∃ q7, S / 256 ^ i = q7 := ⟨_, rfl⟩
            have hqn : q7 ≤ S := by rw [← hq7]; exact Nat.div_le_self _ _
            have hnx : S / 256 ^ (i + 1) = q7 / 256 := by rw [Nat.pow_succ, ← Nat.div_div_eq_div_mul, hq7]
            have hdg : digL S (i + 1) = digL S i ++ [((q7 % 256 : Nat) : Int)] := by rw [digL_snoc]; unfold dig; rw [hq7]
            rw [hq7]
            have HNX := Lib.hid hnx
            have HDG := Lib.hid hdg
            have HLN7 := Lib.hid hln
            clear hnx hdg hq7 hln
            by_cases hlt : (i : Int) < 4
            · obtain ⟨q2, hq2⟩ : ∃ q2, q7 / 256 = q2 := ⟨_, rfl⟩
              obtain ⟨d, hd⟩ : ∃ d, q7 % 256 = d := ⟨_, rfl⟩
              have e1 : ((q7 : Nat) : Int) % 256 = (d : Int) := by omega
              have e2 : ((q7 : Nat) : Int).tmod 256 = (d : Int) := by rw [Int.tmod_eq_emod_of_nonneg (by omega)]; exact e1
              have e3 : ((q7 : Nat) : Int) / 256 = (q2 : Int) := by omega
              have e4 : ((q7 : Nat) : Int).tdiv 256 = (q2 : Int) := by rw [Int.tdiv_eq_ediv_of_nonneg (by omega)]; exact e3
              have e5 : IntKind.u8.wrap (d : Int) = (d : Int) := by rw [IntKind.wrap_u8']; omega
              have e6 : IntKind.u32.wrap (q2 : Int) = (q2 : Int) := by have := HS32.out; rw [IntKind.wrap_u32']; omega
              have e7 : IntKind.u32.wrap (d : Int) = (d : Int) := by rw [IntKind.wrap_u32']; omega
              have hin : IntKind.i64.wrap ((i : Int) + 1) = ((i + 1 : Nat) : Int) := IntWalk.i64_in _ (by omega)
              have HD := Lib.hid hd
              have HQ2 := Lib.hid hq2
              clear hd hq2
              have hdl : (BL ++ digL S i).length ≤ 1000 := by rw [HLN7.out]; omega
              have hrow1 := hrow.below ((Below.refl _ _).alloc (Nat.le_refl _) (.cells #[.int .u8 (d : Int)] 5))
              go_wp2_with (at_builtin; refine wpList_pushB _ (by rfl) _ _ rfl M _ (BL ++ digL S i) rfl hrow1 wr.heap.size (d : Int) rfl (cell_new _ _ _ _ rfl) hdl (by simp; omega) ?_; intro v' w8 hrow8 hb8)
              refine ⟨⟨i + 1, v', rfl, by rw [HNX.out, HQ2.out], by first | rfl | congr 1, by omega, ?_, (hbl.alloc hsz (.cells #[.int .u8 (d : Int)] 5)).trans hb8⟩, ?_⟩
              · rw [HDG.out, HD.out, ← List.append_assoc]; exact hrow8
              · simp [intOf]; omega
            · have hi4 : i = 4 := by omega
              subst hi4
              have hsec : BL ++ digL S 4 = secL n l := by unfold secL; rw [HS.out, HBL.out]
              rw [hsec] at hrow HLN7
              have hs64 := HLN7.out
              have hint : Ints wr .u8 (.slice av (secL n l).length cv) (secL n l) := by rw [hs64]; exact Ints.own hrow (by rw [hs64]; decide)
              have hcv := conv_str hint (secL_by (by omega) HBY.out)
              rw [hs64] at hcv
              have HBF := Lib.hid hbl
              clear hsec hrow hint hbl hs64
              go_wp2_with fail
              go_ret
              exact ⟨rfl, by rw [HM.out]; exact HBF.out⟩
end Go.Proofs.Ytfoogbchajgepaa.S
