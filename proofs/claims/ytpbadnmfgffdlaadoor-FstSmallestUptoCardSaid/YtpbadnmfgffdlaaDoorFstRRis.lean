/-
  The document's Rises.
-/
import Derived.Test.YtpbadnmfgffdlaaDoorFstRMk
import Derived.Test.YtpbadnmfgffdlaaDoorFstRise
namespace Go.Proofs.YtpbadnmfgffdlaaDoor.F
open Go.RowKit Go.Shelf Go.Maps
open Aid L LM
set_option linter.unusedSimpArgs false
set_option linter.unusedVariables false
attribute [local go_sem] Oper.semAt_some

/-- rows of rests that a call made -/
structure Outs (w : World) (base : Nat) (v : Value) (LR : List (List RS × Value)) : Prop where
  row : w.ownsRow base 65 1 v LR.length (LR.map (·.2))
  rests : ∀ x ∈ LR, RestsAre (fun g => v.ownBlock = some g) w x.2 x.1
theorem Outs.all {w : World} {base : Nat} {v : Value} {LR : List (List RS × Value)} (h : Outs w base v LR) (hl : LR.length ≤ 1000000) : AllAre w v (LR.map (·.1)) := by
  have hr := h.rests
  rcases h.row.2 with ⟨e, hn⟩ | ⟨g, cap, cur, e, hb, hg, hnc, hcm, hcs, htake⟩
  · refine ⟨none, 0, by rw [e, List.length_map, hn], by rw [List.length_map]; omega, fun j q hj => ?_⟩
    have := (List.getElem?_eq_some_iff.1 hj).1
    rw [List.length_map] at this
    omega
  · have hgl : g < w.heap.size := (Array.getElem?_eq_some_iff.1 hg).1
    refine ⟨some ⟨g, 0, none⟩, cap, by rw [e, List.length_map], by rw [List.length_map]; omega, fun j q hj => ?_⟩
    rw [List.getElem?_map] at hj
    cases hx : LR[j]? with
    | none => rw [hx] at hj; cases hj
    | some x =>
      rw [hx] at hj
      obtain rfl : x.1 = q := by simpa using hj
      have hrow := h.row
      rw [e] at hrow
      have := hrow.cells (g := g) rfl j x.2 (by rw [List.getElem?_map, hx]; rfl)
      rw [add_plain] at this
      refine ⟨g, 0, x.2, rfl, hgl, by rw [Nat.zero_add]; exact this, (hr x (List.mem_of_getElem? hx)).less (fun _ _ h => h.elim)⟩
theorem Outs.below {w w' : World} {base : Nat} {v : Value} {LR : List (List RS × Value)} (h : Outs w base v LR) (hb : Below w.heap.size w w') : Outs w' base v LR :=
  ⟨owns_below h.row hb, fun x hx => (h.rests x hx).turn (Turn.of_below hb) (fun _ _ h => h)⟩
theorem Outs.nil (w : World) (base : Nat) : Outs w base (.slice none 0 0) [] := ⟨World.ownsRow_nil _ _ _ _, by simp⟩
/-- one more -/
theorem Outs.add {w w1 w2 : World} {base : Nat} {v v' u : Value} {LR : List (List RS × Value)} {q : List RS} (h : Outs w base v LR) (hq : RestsAre (fun g => v.ownBlock = some g) w u q)
    (hb : Below w.heap.size w w1) (own : w2.ownsRow base 65 1 v' (LR.length + 1) (LR.map (·.2) ++ [u])) (hg : w1.grownBy w2 v.ownBlock) (hat : v'.ownBlock = v.ownBlock ∨ v'.ownBlock = some w1.heap.size) :
    Outs w2 base v' (LR ++ [(q, u)]) := by
  have hz := hb.size
  have hT := grown_turn hb hg
  have hO : ∀ x, x < w.heap.size → v'.ownBlock = some x → v.ownBlock = some x := fun x hx e => by
    rcases hat with e' | e'
    · exact e' ▸ e
    · rw [e'] at e; cases e; omega
  refine ⟨by rw [List.length_append, List.map_append]; exact own, fun x hx => ?_⟩
  rcases List.mem_append.1 hx with hx | hx
  · exact (h.rests x hx).turn hT hO
  · simp only [List.mem_singleton] at hx
    subst hx
    exact hq.turn hT hO
theorem addL_len (out : List (List Rw)) (y : List Rw) : (addL out y).length ≤ out.length + 1 := by
  unfold addL
  split <;> simp
theorem inF_neg {l : List (List Rw)} {y : List Rw} (h : y ∉ l) : inF l y = -1 := by
  unfold inF
  rw [List.findIdx?_eq_none_iff.2 (fun x hx => by simp only [decide_eq_false_iff_not]; intro e; exact h (e ▸ hx))]
theorem inF_pos {l : List (List Rw)} {y : List Rw} (h : y ∈ l) : 0 ≤ inF l y := by
  unfold inF
  cases hf : l.findIdx? (fun x => decide (x = y)) with
  | none => rw [List.findIdx?_eq_none_iff] at hf; have := hf y h; simp at this
  | some i => dsimp only; omega
theorem IntsC.at_ {O : Nat → Prop} {w : World} {k : IntKind} {ua : Option Addr} {n uc : Nat} {l : List Int} (h : IntsC O w k (.slice ua n uc) l) {j : Nat} (hj : j < l.length) : ∃ g off, ua = some ⟨g, off, none⟩ ∧ g < w.heap.size ∧ w.cell? ⟨g, off + j, none⟩ = some (.int k (l.getD j 0)) := by
  obtain ⟨a, c, e, _, _, _, h4⟩ := h
  cases e
  obtain ⟨g, off, e, hg, _, hc⟩ := h4 j hj
  exact ⟨g, off, e, hg, hc⟩
set_option maxRecDepth 100000 in
set_option maxHeartbeats 4000000 in
theorem rrises_any (v : Value) (l : List Wd) (w : World) (h : PairsIn w v l) (he : buildE l = 0) : Calls Tryd.prog 20 #[v] w fun e w' =>
    ∃ a c, e = .returned (.slice a (risesF (restsF l)).length c) ∧ Below w.heap.size w w' := by
  obtain ⟨av, cv, rfl⟩ := h.slice
  have hok := rests_ok he
  have hl4 : l.length ≤ 4096 := by
    have := hok.few
    unfold restsF at this
    rw [List.length_map] at this
    exact this
  have hrests := rrests_any _ l w h hl4
  obtain ⟨A, hA⟩ : ∃ A, restsF l = A := ⟨_, rfl⟩
  rw [hA] at hok hrests ⊢
  obtain ⟨n0, hn0⟩ : ∃ n, l.length = n := ⟨_, rfl⟩
  have hAl : A.length = n0 := by rw [← hA, ← hn0]; unfold restsF; rw [List.length_map]
  rw [hn0] at hrests hl4 ⊢
  have HRT := Lib.hid hrests
  have HOK := Lib.hid hok
  clear hrests hA hok h he hn0
  go_enter Tryd.func20, Tryd.ntmps20
  go_wp2_with (go_at_call 30; refine (HRT.out).mono ?_; rintro e w1 ⟨v1, rfl, ⟨q, hq, hrq⟩, hb1⟩; obtain ⟨a1, c1, rfl⟩ := hq.slice; have HRQ := Lib.hid hrq; have HB1 := Lib.hid hb1; clear hrq hb1)
  obtain ⟨n, hn⟩ : ∃ n, q.length = n := ⟨_, rfl⟩
  have hlen := hq.len
  have hnn : n = n0 := by rw [← hAl, ← HRQ.out, ← hn]; unfold rw; rw [List.length_map]
  rw [hn] at hq hlen ⊢
  subst hnn
  have HHQ := Lib.hid hq
  clear hq
  go_loopw [3, 5, 6, 7, 8] (fun x3 x5 x6 x7 x8 wr => ∃ (i : Nat) (LR : List (List RS × Value)), x5 = .int .i64 i ∧ i ≤ n ∧ Outs wr w1.heap.size x3 LR ∧ LR.map (fun x => rw x.1) = riseO A (A.take i) [] ∧ LR.length ≤ i * 25 ∧ Below w1.heap.size w1 wr) (fun _ x5 _ _ _ _ => n - (intOf x5).toNat)
  case atStart => exact ⟨0, [], rfl, Nat.zero_le _, Outs.nil _ _, by simp [riseO], by simp, Below.refl _ _⟩
  case round =>
    obtain ⟨i, LR, rfl, hi, hO, hLR, hLl, hb⟩ := hrel
    rename World => wa
    by_cases hlt : (i : Int) < (n : Int)
    · obtain ⟨x, hx⟩ : ∃ x, q[i]? = some x := ⟨_, List.getElem?_eq_getElem (by omega)⟩
      obtain ⟨g, off, eg, hg, _, c0, c1'⟩ := HHQ.out.at_ hx
      subst eg
      have hIC := HHQ.out.runes x (List.mem_of_getElem? hx)
      obtain ⟨ua, uc, hu, _⟩ := HHQ.out.runes x (List.mem_of_getElem? hx)
      obtain ⟨xr, xw, xu⟩ := x
      dsimp only at c0 c1' hu hIC
      subst hu
      have hAx : A[i]? = some (xr, xw) := by rw [← HRQ.out]; unfold rw; rw [List.getElem?_map, hx]; rfl
      have hxl24 : xr.length < 25 := HOK.out.len _ (List.mem_of_getElem? hAx)
      obtain ⟨xl, hxl⟩ : ∃ xl, xr.length = xl := ⟨_, rfl⟩
      rw [hxl] at c0 hIC hxl24
      have j0 : (0 : Int) ≤ (i : Int) := by omega
      have HIC := Lib.hid hIC
      have HAX := Lib.hid hAx
      have HLR := Lib.hid hLR
      have HB := Lib.hid hb
      have hbz := hb.size
      have HHO := Lib.hid hO
      have HXL := Lib.hid hxl
      have hqO : RestsAre (fun g => u3.ownBlock = some g) wa (.slice (some ⟨g, off, none⟩) n c1) q := (HHQ.out.turn (O' := fun g => u3.ownBlock = some g) (Turn.of_below hb) (fun x hx e => by have := owns_base hO.row x e; omega))
      have HQO := Lib.hid hqO
      clear hIC hAx hLR hb hO hx c1' hxl hqO
      go_wp2_with fail
      go_loopw [3, 6, 7, 8] (fun x3 x6 x7 x8 wr => ∃ (k : Nat) (LR2 : List (List RS × Value)) (q6 : List RS), x7 = .int .i64 k ∧ k ≤ xl + 1 ∧ Outs wr w1.heap.size x3 LR2 ∧ LR2.map (fun x => rw x.1) = riseI A xr k (riseO A (A.take i) []) ∧ LR2.length ≤ i * 25 + k ∧ RestsAre (fun g => x3.ownBlock = some g) wr x6 q6 ∧ rw q6 = unders A (xr.take k) ∧ Below w1.heap.size w1 wr) (fun _ _ x7 _ _ => xl + 1 - (intOf x7).toNat)
      case atStart => exact ⟨0, LR, q, rfl, Nat.zero_le _, HHO.out, HLR.out, by omega, HQO.out, by rw [HRQ.out]; rfl, HB.out⟩
      case round =>
        obtain ⟨k, LR2, q6, rfl, hk, hO2, hLR2, hLl2, hq6, hrq6, hb2⟩ := hrel
        have hb12 := hb2
        have hzr := hb12.size
        have d0 := (hb12.cell (p := ⟨g, off + i * 2, none⟩) hg).trans c0
        obtain ⟨oa, oc, hos⟩ := owns_shape hO2.row
        by_cases hkl : (k : Int) ≤ (xl : Int)
        · have hkl' : k ≤ xl := by omega
          -- what is left behind the beginning
          obtain ⟨y, hy⟩ : ∃ y, levelW (unders A (xr.take k)) = y := ⟨_, rfl⟩
          have hmem6 : (xr.drop k, xw) ∈ unders A (xr.take k) := mem_unders.2 (by rw [List.take_append_drop]; exact List.mem_of_getElem? HAX.out)
          have hq6ne : q6 ≠ [] := by intro e; rw [e] at hrq6; rw [← hrq6] at hmem6; cases hmem6
          have hwt6 : ∀ z ∈ q6, 0 ≤ z.wt ∧ z.wt ≤ 1048576 := fun z hz => by
            have h1 : (z.r, z.wt) ∈ rw q6 := by unfold rw; exact List.mem_map_of_mem hz
            rw [hrq6] at h1
            exact HOK.out.wt _ (mem_unders.1 h1)
          have hlow : ∀ z, u3.ownBlock = some z → z < wr.heap.size := fun z e => (hO2.row.lt z e).2
          have hLV := rlevel_any (fun g => u3.ownBlock = some g) _ q6 wr hlow hq6 hq6ne hwt6
          have hLVr : rw (levelRS (leastF (q6.map (·.wt))) q6) = y := by rw [rw_level q6 _ rfl, hrq6, hy]
          obtain ⟨ql, hql⟩ : ∃ ql, levelRS (leastF (q6.map (·.wt))) q6 = ql := ⟨_, rfl⟩
          rw [hql] at hLV hLVr
          have hIN : ∀ W u, Below wr.heap.size wr W → RAre W u ql → Calls Tryd.prog 32 #[u3, u] W fun e w' => e = .returned (.int .i64 (inF (riseI A xr k (riseO A (A.take i) [])) y)) ∧ Below W.heap.size W w' := fun W u hb hu => by
            have := rin_any u3 u (LR2.map (·.1)) ql W ((hO2.all (by omega)).below hb) hu
            rw [List.map_map, hLVr] at this
            rw [← hLR2]
            exact this
          obtain ⟨OUT, hOUT⟩ : ∃ OUT, riseI A xr k (riseO A (A.take i) []) = OUT := ⟨_, rfl⟩
          rw [hOUT] at hIN hLR2
          have hnext : riseI A xr (k + 1) (riseO A (A.take i) []) = addL OUT y := by
            show addL (riseI A xr k _) _ = _
            rw [hOUT, hy]
          obtain ⟨lo, hlo⟩ : ∃ lo, LR2.length = lo := ⟨_, rfl⟩
          obtain ⟨z, hz⟩ : ∃ z, inF OUT y = z := ⟨_, rfl⟩
          have hrow := hO2.row
          rw [hlo] at hos hrow hLl2
          subst hos
          rw [hz] at hIN
          have hgr : g < wr.heap.size := by omega
          obtain ⟨i1, z1', hi1, hz1, hsz1, hby1, hzs1⟩ := info_rests
          have k0 : (0 : Int) ≤ (k : Int) := by omega
          have HO2 := Lib.hid hO2
          have HLR2 := Lib.hid hLR2
          have HLV := Lib.hid hLV
          have HIN := Lib.hid hIN
          have HNX := Lib.hid hnext
          have HLVR := Lib.hid hLVr
          have HQ6 := Lib.hid hq6
          have HRQ6 := Lib.hid hrq6
          have HLOW := Lib.hid hlow
          have HLO := Lib.hid hlo
          clear hO2 hLR2 hLV hIN hnext hLVr hq6 hrq6 hb2 hlow hlo hql hOUT hy hmem6 hq6ne hwt6
          by_cases hkx : (k : Int) < (xl : Int)
          · obtain ⟨gy, offy, ey, hgy, f2⟩ := HIC.out.at_ (j := k) (by rw [HXL.out]; omega)
            subst ey
            obtain ⟨c, hc⟩ : ∃ c, xr.getD k 0 = c := ⟨_, rfl⟩
            rw [hc] at f2
            have hxk : xr[k]? = some c := by
              have h1 : k < xr.length := by rw [HXL.out]; omega
              rw [List.getElem?_eq_getElem h1, ← hc, List.getD_eq_getElem?_getD, List.getElem?_eq_getElem h1]; rfl
            have f3 := (hb12.cell (p := ⟨gy, offy + k, none⟩) hgy).trans f2
            have hgyr : gy < wr.heap.size := by omega
            have htk := take_snoc hxk
            have HTK := Lib.hid htk
            clear htk hxk hc
            by_cases hm : y ∈ OUT
            · have hz0 : 0 ≤ z := by rw [← hz]; exact inF_pos hm
              have HM := Lib.hid hm
              clear hz hm
              go_wp2_with (first
                | (go_at_call 31; refine (HLV.out).mono ?_; rintro e w4 ⟨v4, rfl, hq4, hb4⟩; obtain ⟨a4, c4, rfl⟩ := hq4.slice)
                | (go_at_call 32; refine (HIN.out _ _ hb4 (hq4.less (fun _ _ h => h.elim))).mono ?_; rintro e w5 ⟨rfl, hb5⟩; have hb45 := hb4.trans (hb5.mono hb4.size); have hz5 := hb45.size; have hq5 := hq4.below hb5; have e0 := (hb45.cell (p := ⟨g, off + i * 2, none⟩) hgr).trans d0; have e2 := (hb45.cell (p := ⟨gy, offy + k, none⟩) hgyr).trans f3)
                | (go_at_call 33; refine (runder_any (fun z => (Value.slice oa lo oc).ownBlock = some z) _ q6 c _ (fun z e => Nat.lt_of_lt_of_le (HLOW.out z e) hz5) (HQ6.out.below hb45)).mono ?_; rintro e w8 ⟨v8, q8, rfl, hq8, hrq8, hb8⟩))
              refine ⟨⟨k + 1, LR2, q8, by first | rfl | congr 1, by omega, ((HO2.out.below hb45).below hb8), by rw [HLR2.out, HNX.out]; unfold addL; rw [if_pos HM.out], by have := HLO.out; omega, hq8, by rw [hrq8, HRQ6.out, HTK.out, unders_snoc], (hb12.trans ((hb45.trans (hb8.mono hz5)).mono hzr))⟩, ?_⟩
              simp [intOf]; omega
            · obtain rfl : z = -1 := by rw [← hz]; exact inF_neg hm
              have HM := Lib.hid hm
              clear hz hm
              go_wp2_with (first
                | (at_builtin; refine wpList_append_own_at _ rfl _ _ 47 rfl w1.heap.size 65 i1 z1' 1 24 Tryd.underlying47 hi1 hz1 hsz1 hby1 hzs1 (by decide) _ _ _ rfl ((owns_below hrow hb45).alloc _) ⟨w5.heap.size, 0, none⟩ 1 1 _ rfl rfl (World.news_of_block (Blk.alloc_new _ _ _)) (by intro y hy; simp at hy; subst hy; rfl) (by unfold maxLen; omega) (by omega) (by simp; omega) ?_; intro v' w6 hown' hgrow hnil hat; obtain ⟨xa, xc, rfl⟩ := owns_shape hown'; have hbA : Below w5.heap.size w5 (w5.alloc (.cells #[.slice a4 ql.length c4] 65)) := (Below.refl _ _).alloc (Nat.le_refl _) _; have hOn := (HO2.out.below hb45).add hq5 hbA (by rw [HLO.out]; exact hown') hgrow hat; have hb56 : Below w1.heap.size w1 w6 := below_grown' ((hb12.trans (hb45.mono hzr)).trans (hbA.mono (by omega))) hgrow (by simp; omega) (fun k hk => owns_base hrow k hk); have hTu : Turn (fun z => (Value.slice oa lo oc).ownBlock = some z) wr w6 := grown_turn (hb45.trans (hbA.mono (by omega))) hgrow; have hOv : ∀ z, z < wr.heap.size → (Value.slice xa (lo + 1) xc).ownBlock = some z → (Value.slice oa lo oc).ownBlock = some z := (fun z hz e => by rcases hat with e' | e'; exact e' ▸ e; (rw [e'] at e; simp at e; omega)); have e0 := (hb56.cell (p := ⟨g, off + i * 2, none⟩) hg).trans c0; have e2 := (hb56.cell (p := ⟨gy, offy + k, none⟩) hgy).trans f2; have HON := Lib.hid hOn; have HB56 := Lib.hid hb56; have HTU := Lib.hid hTu; have HOV := Lib.hid hOv; clear hOn hb56 hTu hOv hbA hown' hgrow hnil hat)
                | (go_at_call 31; refine (HLV.out).mono ?_; rintro e w4 ⟨v4, rfl, hq4, hb4⟩; obtain ⟨a4, c4, rfl⟩ := hq4.slice)
                | (go_at_call 32; refine (HIN.out _ _ hb4 (hq4.less (fun _ _ h => h.elim))).mono ?_; rintro e w5 ⟨rfl, hb5⟩; have hb45 := hb4.trans (hb5.mono hb4.size); have hz5 := hb45.size; have hq5 := hq4.below hb5; have e0 := (hb45.cell (p := ⟨g, off + i * 2, none⟩) hgr).trans d0; have e2 := (hb45.cell (p := ⟨gy, offy + k, none⟩) hgyr).trans f3)
                | (go_at_call 33; refine (runder_any (fun z => (Value.slice xa (lo + 1) xc).ownBlock = some z) _ q6 c _ (fun z e => (HON.out.row.lt z e).2) (HQ6.out.turn HTU.out HOV.out)).mono ?_; rintro e w8 ⟨v8, q8, rfl, hq8, hrq8, hb8⟩))
              refine ⟨⟨k + 1, LR2 ++ [(ql, .slice a4 ql.length c4)], q8, by first | rfl | congr 1, by omega, (HON.out.below hb8), by rw [List.map_append, HLR2.out, HNX.out]; unfold addL; rw [if_neg HM.out]; show OUT ++ [rw ql] = _; rw [HLVR.out], by have := HLO.out; rw [List.length_append]; simp only [List.length_cons, List.length_nil]; omega, hq8, by rw [hrq8, HRQ6.out, HTK.out, unders_snoc], (HB56.out.trans (hb8.mono HB56.out.size))⟩, ?_⟩
              simp [intOf]; omega
          · have htk : xr.take (k + 1) = xr.take k := by rw [List.take_of_length_le (by rw [HXL.out]; omega), List.take_of_length_le (by rw [HXL.out]; omega)]
            have HTK := Lib.hid htk
            clear htk
            by_cases hm : y ∈ OUT
            · have hz0 : 0 ≤ z := by rw [← hz]; exact inF_pos hm
              have HM := Lib.hid hm
              clear hz hm
              go_wp2_with (first
                | (go_at_call 31; refine (HLV.out).mono ?_; rintro e w4 ⟨v4, rfl, hq4, hb4⟩; obtain ⟨a4, c4, rfl⟩ := hq4.slice)
                | (go_at_call 32; refine (HIN.out _ _ hb4 (hq4.less (fun _ _ h => h.elim))).mono ?_; rintro e w5 ⟨rfl, hb5⟩; have hb45 := hb4.trans (hb5.mono hb4.size); have hz5 := hb45.size; have hq5 := hq4.below hb5; have e0 := (hb45.cell (p := ⟨g, off + i * 2, none⟩) hgr).trans d0))
              refine ⟨⟨k + 1, LR2, q6, by first | rfl | congr 1, by omega, (HO2.out.below hb45), by rw [HLR2.out, HNX.out]; unfold addL; rw [if_pos HM.out], by have := HLO.out; omega, (HQ6.out.below hb45), by rw [HRQ6.out, HTK.out], (hb12.trans (hb45.mono hzr))⟩, ?_⟩
              simp [intOf]; omega
            · obtain rfl : z = -1 := by rw [← hz]; exact inF_neg hm
              have HM := Lib.hid hm
              clear hz hm
              go_wp2_with (first
                | (at_builtin; refine wpList_append_own_at _ rfl _ _ 47 rfl w1.heap.size 65 i1 z1' 1 24 Tryd.underlying47 hi1 hz1 hsz1 hby1 hzs1 (by decide) _ _ _ rfl ((owns_below hrow hb45).alloc _) ⟨w5.heap.size, 0, none⟩ 1 1 _ rfl rfl (World.news_of_block (Blk.alloc_new _ _ _)) (by intro y hy; simp at hy; subst hy; rfl) (by unfold maxLen; omega) (by omega) (by simp; omega) ?_; intro v' w6 hown' hgrow hnil hat; obtain ⟨xa, xc, rfl⟩ := owns_shape hown'; have hbA : Below w5.heap.size w5 (w5.alloc (.cells #[.slice a4 ql.length c4] 65)) := (Below.refl _ _).alloc (Nat.le_refl _) _; have hOn := (HO2.out.below hb45).add hq5 hbA (by rw [HLO.out]; exact hown') hgrow hat; have hb56 : Below w1.heap.size w1 w6 := below_grown' ((hb12.trans (hb45.mono hzr)).trans (hbA.mono (by omega))) hgrow (by simp; omega) (fun k hk => owns_base hrow k hk); have hTu : Turn (fun z => (Value.slice oa lo oc).ownBlock = some z) wr w6 := grown_turn (hb45.trans (hbA.mono (by omega))) hgrow; have hOv : ∀ z, z < wr.heap.size → (Value.slice xa (lo + 1) xc).ownBlock = some z → (Value.slice oa lo oc).ownBlock = some z := (fun z hz e => by rcases hat with e' | e'; exact e' ▸ e; (rw [e'] at e; simp at e; omega)); have e0 := (hb56.cell (p := ⟨g, off + i * 2, none⟩) hg).trans c0;  have HON := Lib.hid hOn; have HB56 := Lib.hid hb56; have HTU := Lib.hid hTu; have HOV := Lib.hid hOv; clear hOn hb56 hTu hOv hbA hown' hgrow hnil hat)
                | (go_at_call 31; refine (HLV.out).mono ?_; rintro e w4 ⟨v4, rfl, hq4, hb4⟩; obtain ⟨a4, c4, rfl⟩ := hq4.slice)
                | (go_at_call 32; refine (HIN.out _ _ hb4 (hq4.less (fun _ _ h => h.elim))).mono ?_; rintro e w5 ⟨rfl, hb5⟩; have hb45 := hb4.trans (hb5.mono hb4.size); have hz5 := hb45.size; have hq5 := hq4.below hb5; have e0 := (hb45.cell (p := ⟨g, off + i * 2, none⟩) hgr).trans d0))
              refine ⟨⟨k + 1, LR2 ++ [(ql, .slice a4 ql.length c4)], q6, by first | rfl | congr 1, by omega, HON.out, by rw [List.map_append, HLR2.out, HNX.out]; unfold addL; rw [if_neg HM.out]; show OUT ++ [rw ql] = _; rw [HLVR.out], by have := HLO.out; rw [List.length_append]; simp only [List.length_cons, List.length_nil]; omega, (HQ6.out.turn HTU.out HOV.out), by rw [HRQ6.out, HTK.out], HB56.out⟩, ?_⟩
              simp [intOf]; omega
        · have hke : k = xl + 1 := by omega
          subst hke
          have HB12 := Lib.hid hb12
          have HO2 := Lib.hid hO2
          have HLR2 := Lib.hid hLR2
          clear hb2 hb12 hq6 hrq6 hO2 hLR2
          go_wp2_with fail
          refine ⟨⟨i + 1, LR2, by first | rfl | congr 1, by omega, HO2.out, ?_, by omega, HB12.out⟩, ?_⟩
          · rw [HLR2.out, take_snoc HAX.out, riseO_snoc, HXL.out]
          · simp [intOf]; omega
    · have hin : i = n := by omega
      subst hin
      have hll : LR.length = (risesF A).length := by
        rw [show risesF A = riseO A (A.take i) [] by unfold risesF; rw [List.take_of_length_le (by omega)], ← hLR, List.length_map]
      obtain ⟨oa, oc, hos⟩ := owns_shape hO.row
      rw [hll] at hos
      subst hos
      have HB := Lib.hid hb
      clear hb hO hLR hll
      go_wp2_with fail
      go_ret
      exact ⟨⟨_, _, rfl⟩, HB1.out.trans (HB.out.mono HB1.out.size)⟩
end Go.Proofs.YtpbadnmfgffdlaaDoor.F
