/-
  The document's state.
-/
import Derived.Test.YtpbadnmfgffdlaaDoorFstRStB
import Derived.Deep.DeepCutAuto
import Derived.Deep.LoopGhost
namespace Go.Proofs.YtpbadnmfgffdlaaDoor.F
open Go.RowKit Go.Shelf Go.Maps
open Aid L LM
set_option linter.unusedSimpArgs false
set_option linter.unusedVariables false
attribute [local go_sem] Oper.semAt_some

theorem tot_level (l : List Rw) : tot (levelW l) = tot l := by
  have h3 : ∀ (d : Int) (l : List Rw), tot (l.map fun x => (x.1, x.2 - d)) = tot l := fun d l => by
    induction l with
    | nil => rfl
    | cons x l ih => show x.1.length + tot (l.map fun x => (x.1, x.2 - d)) = x.1.length + tot l; rw [ih]
  exact h3 _ l
theorem turn_set2 (w : World) (x : Nat) (u v : Value) {i j : Nat} : Turn (fun y => y = x) w ((w.setCell ⟨x, i, none⟩ u).setCell ⟨x, j, none⟩ v) := by
  refine ⟨by simp, rfl, rfl, rfl, fun y hy hn => ?_⟩
  rw [show ((w.setCell ⟨x, i, none⟩ u).setCell ⟨x, j, none⟩ v).heap[y]? = (w.setCell ⟨x, i, none⟩ u).heap[y]? from Below.heap_setCell _ _ _ _ hn, show (w.setCell ⟨x, i, none⟩ u).heap[y]? = w.heap[y]? from Below.heap_setCell _ _ _ _ hn]
theorem info_rests : ∃ i z, Tryd.prog.info? 65 = some i ∧ i.zero = some z ∧ i.size = 1 ∧ i.bytes = 24 ∧ z.cells.size = 1 := by
  have h : (Tryd.prog.info? 65).map (fun i => (i.zero.map (·.cells.size), i.size, i.bytes)) = some (some 1, 1, 24) := by kernel_rfl
  cases hq : Tryd.prog.info? 65 with
  | none => rw [hq] at h; cases h
  | some i =>
    rw [hq] at h
    simp only [Option.map_some, Option.some.injEq, Prod.mk.injEq] at h
    cases hz : i.zero with
    | none => rw [hz] at h; cases h.1
    | some z =>
      rw [hz] at h
      simp only [Option.map_some, Option.some.injEq] at h
      exact ⟨i, z, rfl, hz, h.2.1, h.2.2, h.1⟩
theorem turn_set1 (w : World) (x : Nat) (u : Value) {i : Nat} : Turn (fun y => y = x) w (w.setCell ⟨x, i, none⟩ u) := by
  refine ⟨by simp, rfl, rfl, rfl, fun y hy hn => ?_⟩
  exact Below.heap_setCell _ _ _ _ hn
theorem size_known : (Tryd.prog.info? 76).map (·.size) = some 2 := by kernel_rfl
set_option maxRecDepth 100000 in
set_option maxHeartbeats 4000000 in
theorem rstate_any : ∀ (n : Nat) (k : KM) (vR vS : Value) (F : Nat → Prop) (LR : List (List RS × Value)) (qS : List (StM × Value)) (v : Value) (q : List RS) (w : World), (∀ x, F x → x < w.heap.size) → Kis w vR vS k F LR qS → RestsAre (KoF vR vS F) w v q → q ≠ [] → RwOk n (rw q) →
    k.R.length + tot (rw q) ≤ 900000 → k.S.length + tot (rw q) ≤ 900000 →
    Calls Tryd.prog 36 #[.agg #[vR, vS], v] w (REnd vR vS (rstate n k (rw q)) F w) := by
  intro n
  induction n with
  | zero =>
    intro k vR vS F LR qS v q w _ _ _ hne hok
    cases q with
    | nil => exact absurd rfl hne
    | cons x q => exact absurd (hok.len (x.r, x.wt) (List.mem_cons_self)) (by omega)
  | succ n ih =>
    intro k vR vS F LR qS v q w hF hK hR hne hok hkR hkS
    have hrne : rw q ≠ [] := by unfold rw; simpa using hne
    have hR0 : RAre w v q := hR.less (fun _ _ h => h.elim)
    have hwt : ∀ x ∈ q, 0 ≤ x.wt ∧ x.wt ≤ 1048576 := fun x hx => hok.wt (x.r, x.wt) (by unfold rw; exact List.mem_map_of_mem hx)
    obtain ⟨lo, hlo⟩ : ∃ lo, leastF (q.map (·.wt)) = lo := ⟨_, rfl⟩
    obtain ⟨q1, hq1⟩ : ∃ q1, levelRS lo q = q1 := ⟨_, rfl⟩
    have hrw1 : rw q1 = levelW (rw q) := by rw [← hq1]; exact rw_level q lo hlo
    have hok1 : RwOk (n + 1) (rw q1) := by rw [hrw1]; exact hok.level hrne
    have hne1 : rw q1 ≠ [] := by rw [hrw1]; exact level_ne hrne
    have hlow1 : low (rw q1) = 0 := by rw [hrw1]; exact low_level hrne
    have hLRl : LR.length = k.R.length := by rw [← hK.eqR, List.length_map]
    have hRmap : (LR.map (·.1)).map rw = k.R := by rw [List.map_map]; exact hK.eqR
    have hIN : ∀ W u, Below w.heap.size w W → RAre W u q1 → Calls Tryd.prog 32 #[vR, u] W fun e w' => e = .returned (.int .i64 (inF k.R (rw q1))) ∧ Below W.heap.size W w' := fun W u hb hu => by
      have := rin_any vR u (LR.map (·.1)) q1 W ((hK.all (by omega)).below hb) hu
      rw [hRmap] at this
      exact this
    obtain ⟨ra, rl, rc, hvR⟩ : ∃ a n c, vR = .slice a n c := by obtain ⟨a, c, e⟩ := owns_shape hK.rowR; exact ⟨a, _, c, e⟩
    obtain ⟨sa, sl, sc, hvS⟩ : ∃ a n c, vS = .slice a n c := by obtain ⟨a, c, e⟩ := owns_shape hK.rowS; exact ⟨a, _, c, e⟩
    obtain ⟨va, vl, vc, hvv⟩ : ∃ a n c, v = .slice a n c := by obtain ⟨a, c, e⟩ := hR.slice; exact ⟨a, _, c, e⟩
    obtain ⟨Q, hQ⟩ : ∃ Q, w.heap.size = Q := ⟨_, rfl⟩
    obtain ⟨W1, hW1⟩ : ∃ W1, (w.alloc (.cells #[vR, vS] 76)).alloc (.cells #[.slice none 0 0, .slice none 0 0] 76) = W1 := ⟨_, rfl⟩
    have hb1 : Below w.heap.size w W1 := by rw [← hW1]; exact two_under _ _ _
    have bK : Blk W1 Q 76 #[vR, vS] := by rw [← hW1, ← hQ]; exact (Blk.alloc_new _ _ _).below ((Below.refl _ _).alloc (Nat.le_refl _) _) (by simp)
    have bZ : Blk W1 (Q + 1) 76 #[.slice none 0 0, .slice none 0 0] := by rw [← hW1, ← hQ]; exact two_blk _ _ _ _
    have hQ1 := bK.lt
    have hQ2 := bZ.lt
    have hko : ∀ x, Ko (.slice ra rl rc) (.slice sa sl sc) x → x < Q := fun x hx => by rw [← hQ]; rw [← hvR, ← hvS] at hx; exact hK.lt hx
    have hLV : Calls Tryd.prog 31 #[v] W1 fun e w' => ∃ v', e = .returned v' ∧ RestsAre (fun x => KoF vR vS F x ∨ x = Q ∨ x = Q + 1) w' v' q1 ∧ Below W1.heap.size W1 w' := by
      have := rlevel_any (fun x => KoF vR vS F x ∨ x = Q ∨ x = Q + 1) v q W1 (fun x hx => by
        rcases hx with hx | hx | hx
        · have h1 := hb1.size
          rcases hx with hx | hx
          · have h2 := hK.lt hx; omega
          · have h2 := hF x hx; omega
        · omega
        · omega) (hR.turn (Turn.of_below hb1) (fun x hx h => by
        rcases h with h | h | h
        · exact h
        · omega
        · omega)) hne hwt
      rw [hlo, hq1] at this
      exact this
    have HLV := Lib.hid hLV
    have HIN := Lib.hid hIN
    have HB1 := Lib.hid hb1
    have HVR := Lib.hid hvR
    have HVS := Lib.hid hvS
    have hres : rstate (n + 1) k (rw q) = match k.R.findIdx? (fun x => decide (x = rw q1)) with
      | some i => (k, i)
      | none => (⟨(rarcs (rstate n) (body (rw q1)).length k (body (rw q1))).2.R ++ [rw q1], (rarcs (rstate n) (body (rw q1)).length k (body (rw q1))).2.S ++ [⟨isFin (rw q1), outOf (rw q1), (rarcs (rstate n) (body (rw q1)).length k (body (rw q1))).1⟩]⟩, (rarcs (rstate n) (body (rw q1)).length k (body (rw q1))).2.S.length) := by rw [hrw1]; rfl
    have HRES := Lib.hid hres
    subst hvR hvS hvv
    have HRW1 := Lib.hid hrw1
    have HLRL := Lib.hid hLRl
    have HLOW1 := Lib.hid hlow1
    have HHR := Lib.hid hR
    have HHK := Lib.hid hK
    clear hLV hIN hb1 hres hR0 hwt hrw1 hRmap hLRl hlow1 hq1 hlo hR hK
    have hWw : ∀ W, Below W1.heap.size W1 W → Below w.heap.size w W := fun _ h => HB1.out.trans (h.mono HB1.out.size)
    have HWw := Lib.hid hWw
    clear hWw
    go_enter Tryd.func36, Tryd.ntmps36
    go_upto_if 21 with (first
      | (go_at_call 32; refine (HIN.out _ _ (HWw.out _ hb2) (hq2.less (fun _ _ h => h.elim))).mono ?_; rintro e w3 ⟨rfl, hb3⟩)
      | (go_at_call 31; refine (HLV.out).mono ?_; rintro e w2 ⟨v2, rfl, hq2, hb2⟩; obtain ⟨ua, uc, rfl⟩ := hq2.slice; have k0 : w2.cell? ⟨Q, 0, none⟩ = some (.slice ra rl rc) := (Blk.cell (bK.below hb2 hQ1) 0).trans rfl))
    have hb23 : Below W1.heap.size W1 w3 := hb2.trans (hb3.mono hb2.size)
    have hq3 := hq2.below hb3
    have bK3 := bK.below hb23 hQ1
    have bZ3 := bZ.below hb23 hQ2
    have HB23 := Lib.hid (HWw.out _ hb23)
    clear hq2 hb3 hb2 hb23 bK bZ
    have k0 : w3.cell? ⟨Q, 0, none⟩ = some (.slice ra rl rc) := (Blk.cell bK3 0).trans rfl
    have k1 : w3.cell? ⟨Q, 1, none⟩ = some (.slice sa sl sc) := (Blk.cell bK3 1).trans rfl
    have z0 : w3.cell? ⟨Q + 1, 0, none⟩ = some (.slice none 0 0) := (Blk.cell bZ3 0).trans rfl
    have z1 : w3.cell? ⟨Q + 1, 1, none⟩ = some (.slice none 0 0) := (Blk.cell bZ3 1).trans rfl
    have z2 := Blk.free bZ3 0
    have z3 := Blk.free bZ3 1
    cases hfi : k.R.findIdx? (fun x => decide (x = rw q1)) with
    | some i =>
      have hinF : inF k.R (rw q1) = (i : Int) := by unfold inF; rw [hfi]
      have hrs : rstate (n + 1) k (rw q) = (k, i) := by rw [HRES.out, hfi]
      rw [hinF, hrs]
      clear hfi hinF hrs
      go_wp2_with fail
      refine bodyPost_ret (results_cellT rfl _ _ (Q + 1) rfl _ rfl _ _ (Blk.set2 bZ3) _ Tryd.underlying76 rfl size_known) rfl ?_
      have hbE : Below w.heap.size w ((w3.setCell ⟨Q + 1, 0, none⟩ (.slice ra rl rc)).setCell ⟨Q + 1, 1, none⟩ (.slice sa sl sc)) := below_set (below_set HB23.out (by omega)) (by omega)
      exact ⟨_, _, rfl, ⟨LR, qS, HHK.out.below hbE⟩, Turn.of_below hbE, fun _ _ h => h⟩
    | none =>
      have hinF : inF k.R (rw q1) = -1 := by unfold inF; rw [hfi]
      have hrs : rstate (n + 1) k (rw q) = (⟨(rarcs (rstate n) (body (rw q1)).length k (body (rw q1))).2.R ++ [rw q1], (rarcs (rstate n) (body (rw q1)).length k (body (rw q1))).2.S ++ [⟨isFin (rw q1), outOf (rw q1), (rarcs (rstate n) (body (rw q1)).length k (body (rw q1))).1⟩]⟩, (rarcs (rstate n) (body (rw q1)).length k (body (rw q1))).2.S.length) := by rw [HRES.out, hfi]
      rw [hinF, hrs]
      have hgo := goR_firsts (rstate n) (rw q1) k hok1
      obtain ⟨fin, hfin⟩ : ∃ fin, isFin (rw q1) = fin := ⟨_, rfl⟩
      obtain ⟨out, hout⟩ : ∃ out, outOf (rw q1) = out := ⟨_, rfl⟩
      obtain ⟨RR, hRR⟩ : ∃ RR, rarcs (rstate n) (body (rw q1)).length k (body (rw q1)) = RR := ⟨_, rfl⟩
      rw [hRR] at hgo
      have hrs2 := hrs
      rw [hfin, hout, hRR] at hrs2
      have HRS := Lib.hid hrs2
      clear hrs2
      rw [hfin, hout, hRR]
      have hq1n : q1 ≠ [] := by intro e; apply hne1; rw [e]; rfl
      have hml := hq3.len
      obtain ⟨y, q1', rfl⟩ : ∃ y q', q1 = y :: q' := by cases q1 with | nil => exact absurd rfl hq1n | cons a b => exact ⟨a, b, rfl⟩
      have hyf : fin = y.r.isEmpty := by rw [← hfin]; rfl
      have hyo : fin = true → out = y.wt := by
        intro hf
        rw [← hout]
        unfold outOf
        rw [if_pos (by rw [hfin]; exact hf), HLOW1.out]
        show y.wt - 0 = y.wt
        omega
      have hyn : fin = false → out = 0 := by
        intro hf
        rw [← hout]
        unfold outOf
        rw [if_neg (by rw [hfin, hf]; simp)]
      have htl : ∀ z ∈ q1', z.r ≠ [] := fun z hz => hok1.tail_ne (z.r, z.wt) (List.mem_map.2 ⟨z, hz, rfl⟩)
      obtain ⟨m, hm⟩ : ∃ m, (y :: q1').length = m := ⟨_, rfl⟩
      rw [hm] at hq3 hml ⊢
      obtain ⟨sB, hsB⟩ : ∃ sB, w3.heap.size = sB := ⟨_, rfl⟩
      obtain ⟨W3, hW3⟩ : ∃ W3, w3.alloc (.cells #[.bool false, .int .i64 0, .slice none 0 0] 43) = W3 := ⟨_, rfl⟩
      have hb3 : Below w3.heap.size w3 W3 := by rw [← hW3]; exact (Below.refl _ _).alloc (Nat.le_refl _) _
      have bS : Blk W3 sB 43 #[.bool false, .int .i64 0, .slice none 0 0] := by rw [← hW3, ← hsB]; exact Blk.alloc_new _ _ _
      have hsl := bS.lt
      have HGO := Lib.hid hgo
      have HYF := Lib.hid hyf
      have HYO := Lib.hid hyo
      have HYN := Lib.hid hyn
      have HTL := Lib.hid htl
      have HM := Lib.hid hm
      have HB3 := Lib.hid hb3
      have HQ3 := Lib.hid hq3
      have hd1 : decide ((0 : Int) ≤ -1) = false := by decide
      clear hgo hyf hyo hyn htl hinF hrs hfi hRR hfin hout hb3 hm
      go_wp2_with fail
      go_loopw [8] (fun x8 wr => ∃ i : Nat, x8 = .int .i64 i ∧ i ≤ m ∧ Blk wr sB 43 #[.bool (if i = 0 then false else fin), .int .i64 (if i = 0 then 0 else out), .slice none 0 0] ∧ Turn (fun x => x = sB) W3 wr) (fun x8 _ => m - (intOf x8).toNat)
      case atStart => exact ⟨0, rfl, Nat.zero_le _, bS, Turn.refl _ _⟩
      case round =>
        obtain ⟨i, rfl, hi, bSi, hTi⟩ := hrel
        have hTz := hTi.size
        by_cases hlt : (i : Int) < (m : Int)
        · obtain ⟨x, hx⟩ : ∃ x, (y :: q1')[i]? = some x := ⟨_, List.getElem?_eq_getElem (by rw [HM.out]; omega)⟩
          obtain ⟨g, off, eg, hg, _, c0, c1⟩ := HQ3.out.at_ hx
          subst eg
          obtain ⟨ux, uxc, hu, _⟩ := HQ3.out.runes x (List.mem_of_getElem? hx)
          have hgW : g < W3.heap.size := by have := HB3.out.size; omega
          have d0 := (hTi.cell hgW (by show ¬ g = sB; omega) (off + i * 2)).trans ((HB3.out.cell (p := ⟨g, off + i * 2, none⟩) hg).trans c0)
          have d1 := (hTi.cell hgW (by show ¬ g = sB; omega) (off + i * 2 + 1)).trans ((HB3.out.cell (p := ⟨g, off + i * 2 + 1, none⟩) hg).trans c1)
          obtain ⟨xl, hxl⟩ : ∃ xl, x.r.length = xl := ⟨_, rfl⟩
          rw [hu, hxl] at d0
          have j0 : (0 : Int) ≤ (i : Int) := by omega
          have s0 : wr.cell? ⟨sB, 0, none⟩ = some (.bool (if i = 0 then false else fin)) := (Blk.cell bSi 0).trans rfl
          have s1 : wr.cell? ⟨sB, 1, none⟩ = some (.int .i64 (if i = 0 then 0 else out)) := (Blk.cell bSi 1).trans rfl
          have s2 := Blk.free bSi 0
          have s3 := Blk.free bSi 1
          by_cases hx0 : xl = 0
          · have hi0 : i = 0 := by
              cases i with
              | zero => rfl
              | succ i => exact absurd (List.eq_nil_of_length_eq_zero (hxl.trans hx0)) (HTL.out x (List.mem_of_getElem? (by simpa using hx)))
            have hyx : y = x := by rw [hi0] at hx; simpa using hx
            have hft : fin = true := by rw [HYF.out, hyx]; simp [List.eq_nil_of_length_eq_zero (hxl.trans hx0)]
            have hot := HYO.out hft
            rw [hyx] at hot
            have hlb : ((xl : Int) == 0) = true := by rw [beq_iff_eq]; omega
            have HFT := Lib.hid hft
            have HOT := Lib.hid hot
            have HBI := Lib.hid bSi
            have HTI := Lib.hid hTi
            have HI0 := Lib.hid hi0
            have hsr := bSi.lt
            clear hft hot hx hu hxl hx0 bSi hTi hi0 hyx
            go_wp2_with fail
            refine ⟨⟨i + 1, by first | rfl | congr 1, by omega, ?_, ?_⟩, ?_⟩
            · rw [if_neg (by omega), if_neg (by omega), HFT.out, HOT.out]
              exact (HBI.out.set 0 _).set 1 _
            · exact (HTI.out).trans (turn_set2 _ _ _ _) (fun _ _ h => h)
            · simp [intOf]; omega
          · have hlb : ((xl : Int) == 0) = false := by rw [beq_eq_false_iff_ne]; omega
            have hff : i = 0 → fin = false := fun hi0 => by
              subst hi0
              obtain rfl : y = x := by simpa using hx
              rw [HYF.out]
              cases hq : y.r with
              | nil => rw [hq] at hxl; exact absurd hxl.symm hx0
              | cons a t => rfl
            have HFF := Lib.hid hff
            have HBI := Lib.hid bSi
            have HTI := Lib.hid hTi
            clear hff hx hu hxl hx0 bSi hTi
            go_wp2_with fail
            refine ⟨⟨i + 1, by first | rfl | congr 1, by omega, ?_, HTI.out⟩, ?_⟩
            · rw [if_neg (by omega), if_neg (by omega)]
              have := HBI.out
              by_cases hi0 : i = 0
              · rw [if_pos hi0, if_pos hi0] at this
                have h1 := HFF.out hi0
                rw [h1, HYN.out h1]
                exact this
              · rw [if_neg hi0, if_neg hi0] at this
                exact this
            · simp [intOf]; omega
        · have hie : i = m := by omega
          subst hie
          have hm0 : ¬ i = 0 := by have := HM.out; rw [List.length_cons] at this; omega
          rw [if_neg hm0, if_neg hm0] at bSi
          have hbw : Below w3.heap.size w3 W3 := HB3.out
          have hTw : Turn (fun x => x = sB) w3 wr := (Turn.of_below hbw).trans hTi (fun _ _ h => h)
          have hR4 : RestsAre (fun x => KoF (.slice ra rl rc) (.slice sa sl sc) F x ∨ x = Q ∨ x = Q + 1 ∨ x = sB) wr (.slice ua i uc) (y :: q1') := by
            have h1 : RestsAre (fun x => (KoF (.slice ra rl rc) (.slice sa sl sc) F x ∨ x = Q ∨ x = Q + 1) ∨ x = sB) w3 (.slice ua i uc) (y :: q1') := HQ3.out.less (fun x hx g => by
              rcases g with g | g
              · exact g
              · omega)
            refine (h1.turn (hTw.more (fun _ _ h => .inr h)) (fun x _ g => by
              rcases g with g | g | g | g
              · exact .inl (.inl g)
              · exact .inl (.inr (.inl g))
              · exact .inl (.inr (.inr g))
              · exact .inr g))
          obtain ⟨l, hl⟩ : ∃ l, rw (y :: q1') = l := ⟨_, rfl⟩
          obtain ⟨f0, hf0⟩ : ∃ f, firstsF l = f := ⟨_, rfl⟩
          have hFI : Calls Tryd.prog 45 #[.slice ua i uc] wr fun e w' => ∃ v', e = .returned v' ∧ IntsC (fun x => x < wr.heap.size) w' .i32 v' f0 ∧ f0.length ≤ 4096 ∧ Below wr.heap.size wr w' := by
            have := rfirsts_any (.slice ua i uc) (y :: q1') wr (hR4.less (fun _ _ h => h.elim))
            rw [hl, hf0] at this
            exact this
          have hgo := HGO.out
          rw [hl] at hgo hok1
          rw [hf0] at hgo
          obtain ⟨hfi1, hfi2⟩ := fine_firsts hok1
          rw [hf0] at hfi1 hfi2
          have htl1 : tot l ≤ tot (rw q) := by rw [← hl, HRW1.out, tot_level]; exact Nat.le_refl _
          have bKr : Blk wr Q 76 #[.slice ra rl rc, .slice sa sl sc] := hTw.blk bK3 (by show ¬ Q = sB; have := bK3.lt; omega)
          have bZr : Blk wr (Q + 1) 76 #[.slice none 0 0, .slice none 0 0] := hTw.blk bZ3 (by show ¬ Q + 1 = sB; have := bZ3.lt; omega)
          have hQs : Q + 1 < sB := by have := bZ3.lt; omega
          have hFQ : ∀ x, F x → x < Q := fun x hx => by rw [← hQ]; exact hF x hx
          have hKr : Kis wr (.slice ra rl rc) (.slice sa sl sc) k (LoopG F Q sB (.slice none 0 0)) LR qS := by
            have h1 := HHK.out.weaken (F' := LoopG F Q sB (.slice none 0 0)) (fun x hx g => by
              rcases g with g | g | g | g | g
              · exact g
              · omega
              · omega
              · have := HB23.out.size; omega
              · exact nomatch g)
            exact (h1.below HB23.out).turn2 hTw (fun x hx g => by have g' : x = sB := g; omega) (fun _ _ h => h)
          have HLI := Lib.hid hKr
          have HFI := Lib.hid hFI
          have HR4 := Lib.hid hR4
          have HBS := Lib.hid bSi
          have HBK := Lib.hid bKr
          have HBZ := Lib.hid bZr
          have HGG := Lib.hid hgo
          have HTW := Lib.hid hTw
          have HFF := Lib.hid hf0
          clear hKr hFI hR4 hgo bSi bKr bZr bK3 bZ3 hTi hq3 hsB hbw hTw HGO hf0
          go_wp2_with (go_at_call 45; refine HFI.out.mono ?_; rintro e W4 ⟨vf, rfl, hI4, hfl, hb4⟩)
          have hRL0 : RL n l W4 (.slice ra rl rc) (.slice sa sl sc) F Q sB fin out RR 900000 W4 k (.slice ra rl rc) (.slice sa sl sc) f0 [] (.slice none 0 0) := by
            have hz4 := hb4.size
            refine ⟨⟨LR, qS, HLI.out.below hb4⟩, HGG.out, hfi1, HBK.out.below hb4 HBK.out.lt, HBZ.out.below hb4 HBZ.out.lt, HBS.out.below hb4 HBS.out.lt, World.ownsRow_nil _ _ _ _, Turn.refl _ _, fun _ _ h => h, fun x hx hk => ?_, ⟨hQs, by have := HBS.out.lt; omega⟩, by omega, by omega, (fun _ h => nomatch h), by simpa using hfl⟩
            have h1 := hko x hk
            rcases hx with g | g | g | g
            · omega
            · omega
            · omega
            · exact nomatch g
          have HRL0 := Lib.hid hRL0
          obtain ⟨fa, fc, hvf, -⟩ := id hI4
          obtain ⟨ln, hln⟩ : ∃ ln, f0.length = ln := ⟨_, rfl⟩
          rw [hln] at hvf
          subst hvf
          have HI4 := Lib.hid hI4
          have HR6 : Hid (RestsAre (fun x => KoF (.slice ra rl rc) (.slice sa sl sc) F x ∨ x = Q ∨ x = Q + 1 ∨ x = sB) W4 (.slice ua i uc) (y :: q1')) := HR4.out.below hb4
          have HLN := Lib.hid hln
          have HB4 := Lib.hid hb4
          have hsw : sB < wr.heap.size := HBS.out.lt
          have hb4z := hb4.size
          clear hRL0 hI4 HR4 HGG HBS HBK HBZ HLI HFI hln HFF hfi1 hfi2 HIN HLV HVR HVS hb4
          go_loopw [10, 11, 12, 13] (fun x10 x11 x12 x13 wx => ∃ (j : Nat) (k' : KM) (vR' vS' : Value) (A : List ArcM) (u : Value), x10 = .int .i64 j ∧ j ≤ ln ∧ RL n l W4 (.slice ra rl rc) (.slice sa sl sc) F Q sB fin out RR 900000 wx k' vR' vS' (f0.drop j) A u) (fun x10 _ _ _ _ => ln - (intOf x10).toNat)
          case atStart => exact ⟨0, k, _, _, [], _, rfl, Nat.zero_le _, HRL0.out⟩
          case round =>
            rename World => wx
            obtain ⟨j, k', vR', vS', A, u, rfl, hj, hL⟩ := hrel
            by_cases hlt2 : (j : Int) < (ln : Int)
            · obtain ⟨c, hc⟩ : ∃ c, f0[j]? = some c := ⟨_, List.getElem?_eq_getElem (by rw [HLN.out]; omega)⟩
              have hdrop : f0.drop j = c :: f0.drop (j + 1) := by
                obtain ⟨h1, h2⟩ := List.getElem?_eq_some_iff.1 hc
                rw [List.drop_eq_getElem_cons h1, h2]
              rw [hdrop] at hL
              obtain ⟨p1, p2, p3, p4⟩ := hL.fine c (List.mem_cons_self)
              obtain ⟨fa', fc', e1, _, _, _, hat⟩ := HI4.out
              obtain ⟨gf, of, e2, hg4, hgw, hc4⟩ := hat j (by rw [HLN.out]; omega)
              have hgw : wr.heap.size ≤ gf := Nat.le_of_not_lt hgw
              have hcc : f0.getD j 0 = c := by rw [List.getD_eq_getElem?_getD, hc]; rfl
              rw [hcc] at hc4
              have hgT : ¬ LoopT (.slice ra rl rc) (.slice sa sl sc) Q sB gf := fun g => by
                rcases g with g | g | g
                · have := hko gf g; omega
                · omega
                · omega
              have hcf := (hL.turn.cell hg4 hgT (of + j)).trans hc4
              have hgf : gf < wx.heap.size := by have := hL.turn.size; omega
              have hgk : ¬ Ko vR' vS' gf := fun g => hgT (.inl (hL.old gf hg4 g))
              clear hgT hc4
              cases e1
              subst e2
              have hRx := hL.rests HR6.out
              have hlt' := hL.lt hFQ
              have hUN : Calls Tryd.prog 33 #[.slice ua i uc, .int .i32 c] wx fun e w' => ∃ v' q', e = .returned v' ∧ RestsAre (KoF vR' vS' (LoopG F Q sB u)) w' v' q' ∧ rw q' = underA c l ∧ Below wx.heap.size wx w' := by
                have := runder_any _ (.slice ua i uc) _ c wx hlt' hRx
                rw [hl] at this
                exact this
              obtain ⟨⟨k2, t2⟩, hst⟩ : ∃ p, rstate n k' (underA c l) = p := ⟨_, rfl⟩
              have hST : ∀ W0 v5 q5, Below wx.heap.size wx W0 → RestsAre (KoF vR' vS' (LoopG F Q sB u)) W0 v5 q5 → rw q5 = underA c l → Calls Tryd.prog 36 #[.agg #[vR', vS'], v5] W0 (REnd vR' vS' (k2, t2) (LoopG F Q sB u) W0) := by
                intro W0 v5 q5 hb5 hq5 he5
                obtain ⟨LR', qS', hK'⟩ := hL.known
                have hz := hb5.size
                have hcR := hL.cR
                have hcS := hL.cS
                have hnd : need l (c :: f0.drop (j + 1)) = tot (underA c l) + 1 + need l (f0.drop (j + 1)) := rfl
                have := ih k' vR' vS' (LoopG F Q sB u) LR' qS' v5 q5 W0 (fun x hx => by have := hlt' x (.inr hx); omega) (hK'.below hb5) hq5 (by intro e; rw [e] at he5; exact p2 he5.symm) (by rw [he5]; exact p1) (by rw [he5]; omega) (by rw [he5]; omega)
                rw [he5, hst] at this
                exact this
              have bKx := hL.boxK
              have HHL := Lib.hid hL
              have HUN := Lib.hid hUN
              have HST := Lib.hid hST
              have HP := Lib.hid (And.intro p1 p2)
              have HHST := Lib.hid hst
              have j0 : (0 : Int) ≤ (j : Int) := by omega
              have hQx := bKx.lt
              clear hL hUN hST p1 p2 hst hRx hlt' hc hcc hdrop hat
              go_wp2_with (first
                | (go_at_call 33; refine (HUN.out).mono ?_; rintro e w5 ⟨v5, q5, rfl, hq5, he5, hb5⟩; obtain ⟨a5, c5, rfl⟩ := hq5.slice; have k0 : w5.cell? ⟨Q, 0, none⟩ = some vR' := (Blk.cell (bKx.below hb5 hQx) 0).trans rfl; have k1 : w5.cell? ⟨Q, 1, none⟩ = some vS' := (Blk.cell (bKx.below hb5 hQx) 1).trans rfl; have HHE := Lib.hid he5; clear he5)
                | (go_at_call 36; refine (HST.out _ _ _ hb5 hq5 HHE.out).mono ?_; rintro e w6 ⟨vR2, vS2, rfl, hK2, hT2, ho2⟩;
                    obtain ⟨ra2, rl2, rc2, hvR2⟩ : ∃ a n c, vR2 = .slice a n c := (by obtain ⟨_, _, hKK⟩ := hK2; obtain ⟨a, c, e⟩ := owns_shape hKK.rowR; exact ⟨a, _, c, e⟩);
                    obtain ⟨sa2, sl2, sc2, hvS2⟩ : ∃ a n c, vS2 = .slice a n c := (by obtain ⟨_, _, hKK⟩ := hK2; obtain ⟨a, c, e⟩ := owns_shape hKK.rowS; exact ⟨a, _, c, e⟩);
                    subst hvR2 hvS2;
                    obtain ⟨s12, hs12⟩ : ∃ s, w6.heap.size = s := ⟨_, rfl⟩;
                    obtain ⟨W7, hW7⟩ : ∃ W7, w6.alloc (.cells #[.slice none 0 0, .slice none 0 0] 76) = W7 := ⟨_, rfl⟩;
                    have b12 : Blk W7 s12 76 #[.slice none 0 0, .slice none 0 0] := (by rw [← hW7, ← hs12]; exact Blk.alloc_new _ _ _);
                    have hb67 : Below w6.heap.size w6 W7 := (by rw [← hW7]; exact (Below.refl _ _).alloc (Nat.le_refl _) _);
                    have hm0 : W7.cell? ⟨s12, 0, none⟩ = some (.slice none 0 0) := (Blk.cell b12 0).trans rfl;
                    have hm1 : W7.cell? ⟨s12, 1, none⟩ = some (.slice none 0 0) := (Blk.cell b12 1).trans rfl;
                    have hm2 := Blk.free b12 0;
                    have hm3 := Blk.free b12 1;
                    obtain ⟨W8, hW8⟩ : ∃ W8, (W7.setCell ⟨s12, 0, none⟩ (.slice ra2 rl2 rc2)).setCell ⟨s12, 1, none⟩ (.slice sa2 sl2 sc2) = W8 := ⟨_, rfl⟩;
                    have b12' : Blk W8 s12 76 #[(.slice ra2 rl2 rc2), (.slice sa2 sl2 sc2)] := (by rw [← hW8]; exact (b12.set 0 (.slice ra2 rl2 rc2)).set 1 (.slice sa2 sl2 sc2));
                    have hb68 : Below w6.heap.size w6 W8 := (by rw [← hW8]; exact below_set (below_set hb67 (by omega)) (by omega));
                    have hn0 : W8.cell? ⟨s12, 0, none⟩ = some (.slice ra2 rl2 rc2) := (Blk.cell b12' 0).trans rfl;
                    have hn1 : W8.cell? ⟨s12, 1, none⟩ = some (.slice sa2 sl2 sc2) := (Blk.cell b12' 1).trans rfl;
                    have hmid := HHL.out.mid hb5 hT2 hb68;
                    have bK8 := hmid.1;
                    have hK8a : W8.cell? ⟨Q, 0, none⟩ = some vR' := (Blk.cell bK8 0).trans rfl;
                    have hK8b : W8.cell? ⟨Q, 1, none⟩ = some vS' := (Blk.cell bK8 1).trans rfl;
                    have hK8c := Blk.free bK8 0;
                    have hK8d := Blk.free bK8 1;
                    obtain ⟨W9, hW9⟩ : ∃ W9, (W8.setCell ⟨Q, 0, none⟩ (.slice ra2 rl2 rc2)).setCell ⟨Q, 1, none⟩ (.slice sa2 sl2 sc2) = W9 := ⟨_, rfl⟩;
                    have HMD := Lib.hid hmid;
                    have HK2 := Lib.hid hK2;
                    have HT2 := Lib.hid hT2;
                    have HO2 := Lib.hid ho2;
                    have HB5 := Lib.hid hb5;
                    have HB68 := Lib.hid hb68;
                    have HQ5 := Lib.hid hq5;
                    clear hmid hK2 hT2 ho2 hb5 hb68 b12 b12' hb67 hq5 bK8))
              obtain ⟨lw, hlw⟩ : ∃ lw, low (underA c l) = lw := ⟨_, rfl⟩
              have hz5 := HB5.out.size
              have hz6 := HT2.out.size
              have hz8 := HB68.out.size
              have t89 : Turn (fun y => y = Q) W8 W9 := by rw [← hW9]; exact turn_set2 _ _ _ _
              have hz9 := t89.size
              have t69 : Turn (fun y => y = Q) w6 W9 := (Turn.of_below (O := fun y => y = Q) HB68.out).trans t89 (fun _ _ h => h)
              have c9 : W9.cell? ⟨gf, of + j, none⟩ = some (.int .i32 c) := (t69.cell (by omega) (by show ¬ gf = Q; omega) _).trans ((HT2.out.cell (by omega) hgk _).trans ((HB5.out.cell (p := ⟨gf, of + j, none⟩) hgf).trans hcf))
              have hq9 : RAre W9.drew (.slice a5 q5.length c5) q5 := by
                have h1 := HQ5.out.turn (HT2.out.more (fun _ _ h => .inl h)) (fun _ _ h => h)
                have h2 := h1.turn (t69.more (fun x _ h => .inr (.inr (.inl h)))) (O' := fun _ => False) (fun _ _ h => h.elim)
                exact h2.turn (Turn.of_below (Below.refl _ _).drew) (fun _ _ h => h)
              have hq5n : q5 ≠ [] := by intro e; apply HP.out.2; rw [← HHE.out, e]; rfl
              have HHL2 : Hid (Calls Tryd.prog 37 #[.slice a5 q5.length c5] W9.drew fun e w' => e = .returned (.int .i64 lw) ∧ W9.drew = w') := by
                have h1 := rleast_any (.slice a5 q5.length c5) q5 W9.drew hq9 hq5n
                rw [show leastF (q5.map (·.wt)) = lw by rw [← hlw, ← HHE.out]; unfold low rw; rw [List.map_map]; rfl] at h1
                exact h1
              have hbd9 : Below W9.heap.size W9 W9.drew := (Below.refl _ _).drew
              obtain ⟨own9, bS9, hz4, hz89⟩ := HMD.out.2 _ _ W9.drew (by rw [hW9]; exact hbd9)
              obtain ⟨WN, hWN⟩ : ∃ W3, W9.drew.alloc (.cells #[.int .i32 c, .int .i64 lw, .int .i64 (t2 : Nat)] 46) = W3 := ⟨_, rfl⟩
              have bN : Blk WN W9.drew.heap.size 46 #[.int .i32 c, .int .i64 lw, .int .i64 (t2 : Nat)] := by rw [← hWN]; exact Blk.alloc_new _ _ _
              have hbN : Below W9.heap.size W9 WN := by rw [← hWN]; exact hbd9.alloc (Nat.le_refl _) _
              obtain ⟨ownN, bSN, hz4N, _⟩ := HMD.out.2 _ _ WN (by rw [hW9]; exact hbN)
              obtain ⟨i0, z0, hi0, hz0, hsz0, hby0, hzs0⟩ := info_arc
              have hAl : A.length ≤ 4096 := by have := HHL.out.few; omega
              have hsz9 : W9.drew.heap.size = W9.heap.size := rfl
              have hszN : WN.heap.size = W9.heap.size + 1 := by rw [← hWN]; simp
              obtain ⟨u4, WE, hr4, own4, grow4, _, new4⟩ := run_append_own_at (P := Tryd.prog) WN W4.heap.size 41 41 46 i0 z0 3 24 Tryd.underlying41 hi0 hz0 hsz0 hby0 hzs0 (by decide) u A.length (rowA A) ownN ⟨W9.drew.heap.size, 0, none⟩ 1 1 [.int .i32 c, .int .i64 lw, .int .i64 (t2 : Nat)] rfl
                (World.news_of_block bN) (by intro y hy; simp at hy; rcases hy with rfl | rfl | rfl <;> rfl) (by unfold maxLen; omega) (by omega) (by omega)
              obtain ⟨va', vc', rfl⟩ := owns_shape own4
              have hub : ∀ y, u.ownBlock = some y → W4.heap.size ≤ y := fun y hy => owns_base HHL.out.row y hy
              have bSE : Blk WE sB 43 #[.bool fin, .int .i64 out, u] := (grow4.block sB (by omega) (fun e => by have := hub sB e.symm; omega)).trans bSN
              have hRLn := HHL.out.next (by omega) hFQ HHST.out HB5.out HK2.out HT2.out HO2.out HB68.out (Wd := WN) (by rw [hW9]; exact hbN) (a := ⟨c, lw, (t2 : Nat)⟩) (by rw [hlw]) own4 grow4 new4
              have tNE : Turn (fun x => u.ownBlock = some x) W9 WE := grown_turn hbN grow4
              have SW : W9.drew.cell? ⟨gf, of + j, none⟩ = some (.int .i32 c) := c9
              have SWN : WN.cell? ⟨gf, of + j, none⟩ = some (.int .i32 c) := (hbN.cell (p := ⟨gf, of + j, none⟩) (by show gf < _; omega)).trans c9
              have SWE : WE.cell? ⟨gf, of + j, none⟩ = some (.int .i32 c) := (tNE.cell (by omega) (fun e => by have := hub gf e; omega) _).trans c9
              have SWF : ∀ x, (WE.setCell ⟨sB, 2, none⟩ x).cell? ⟨gf, of + j, none⟩ = some (.int .i32 c) := fun x => ((turn_set1 WE sB x (i := 2)).cell (by have := tNE.size; omega) (by show ¬ gf = sB; omega) _).trans SWE
              have SC9 : W9.drew.cell? ⟨sB, 2, none⟩ = some u := (Blk.cell bS9 2).trans rfl
              have SCN : WN.cell? ⟨sB, 2, none⟩ = some u := (Blk.cell bSN 2).trans rfl
              have m0 : WE.cell? ⟨sB, 2, none⟩ = some u := (Blk.cell bSE 2).trans rfl
              have m1 : WE.frozen? ⟨sB, 2, none⟩ = false := Blk.free bSE 2
              have HR4 := Lib.hid hr4
              have HRLN := Lib.hid hRLn
              have HSWF := Lib.hid SWF
              have jl : (j : Int) < (f0.length : Int) := by omega
              clear hr4 hRLn own4 grow4 new4 tNE bSE ownN bSN own9 bS9 bN hbN c9 t89 t69 hq9 SWF hK8a hK8b hK8c hK8d hn0 hn1 hm0 hm1 hm2 hm3 hW7 hW8 hW9 k0 k1 hcf
              refine wp_region_noPanic ?_
              refine wp_region_held_drew (S := fun w' => w'.cell? ⟨gf, of + j, none⟩ = some (.int .i32 c)) (by kernel_rfl) SW (fun hHeld => ?_)
              refine wpAnyH_take (i := 0) (v := .pointer (some ⟨sB, 2, none⟩)) rfl (by kernel_rfl) (by kernel_rfl) (by kernel_rfl) (fun _ _ _ h => h) (.inl ⟨by rfl, by intro w hSw; go_simp⟩) hHeld ?_
              simp only [Act.put, List.getElem_toArray, List.getElem_cons_succ, List.getElem_cons_zero, List.setIfInBounds_toArray, List.set_cons_zero, List.set_cons_succ]
              refine wpAnyH_take (i := 2) (v := (.slice (some ⟨gf, of, none⟩) f0.length fc)) rfl (by kernel_rfl) (by kernel_rfl) (by kernel_rfl) (fun _ _ _ h => h) (.inl ⟨by rfl, by intro w hSw; go_simp⟩) hHeld ?_
              simp only [Act.put, List.getElem_toArray, List.getElem_cons_succ, List.getElem_cons_zero, List.setIfInBounds_toArray, List.set_cons_zero, List.set_cons_succ]
              refine wpAnyH_take (i := 3) (v := .int .i64 j) rfl (by kernel_rfl) (by kernel_rfl) (by kernel_rfl) (fun _ _ _ h => h) (.inl ⟨by rfl, by intro w hSw; go_simp⟩) hHeld ?_
              simp only [Act.put, List.getElem_toArray, List.getElem_cons_succ, List.getElem_cons_zero, List.setIfInBounds_toArray, List.set_cons_zero, List.set_cons_succ]
              refine wpAnyH_take (i := 4) (v := .pointer (some ⟨gf, of + j, none⟩)) rfl (by kernel_rfl) (by kernel_rfl) (by kernel_rfl) (fun _ _ _ h => h) (.inl ⟨by rfl, by intro w hSw; go_simp⟩) hHeld ?_
              simp only [Act.put, List.getElem_toArray, List.getElem_cons_succ, List.getElem_cons_zero, List.setIfInBounds_toArray, List.set_cons_zero, List.set_cons_succ]
              refine wpAnyH_take (i := 5) (v := .int .i32 c) rfl (by kernel_rfl) (by kernel_rfl) (by kernel_rfl) (fun _ _ _ h => h) (.inl ⟨by rfl, by intro w hSw; have hx := hSw; go_simp⟩) hHeld ?_
              simp only [Act.put, List.getElem_toArray, List.getElem_cons_succ, List.getElem_cons_zero, List.setIfInBounds_toArray, List.set_cons_zero, List.set_cons_succ]
              refine wpAnyH_take (i := 6) (v := .slice a5 q5.length c5) rfl (by kernel_rfl) (by kernel_rfl) (by kernel_rfl) (fun _ _ _ h => h) (.inl ⟨by rfl, by intro w hSw; go_simp⟩) hHeld ?_
              simp only [Act.put, List.getElem_toArray, List.getElem_cons_succ, List.getElem_cons_zero, List.setIfInBounds_toArray, List.set_cons_zero, List.set_cons_succ]
              refine wpAnyH_take (i := 8) (v := .int .i64 (t2 : Nat)) rfl (by kernel_rfl) (by kernel_rfl) (by kernel_rfl) (fun _ _ _ h => h) (.inl ⟨by rfl, by intro w hSw; go_simp⟩) hHeld ?_
              simp only [Act.put, List.getElem_toArray, List.getElem_cons_succ, List.getElem_cons_zero, List.setIfInBounds_toArray, List.set_cons_zero, List.set_cons_succ]
              refine wpAnyH_ready (rs := [1, 7]) (by kernel_rfl) (by simp) ?_
              refine AllReadyH.cons rfl (fun K hK => ?_) (AllReadyH.cons rfl (fun K hK => ?_) AllReadyH.nil)
              · have hx := SC9
                go_simp
                clear hx
                refine hK.out _ _ SW (fun hHeld => ?_)
                clear hK K
                try simp only [Act.put, List.getElem_toArray, List.getElem_cons_succ, List.getElem_cons_zero, List.setIfInBounds_toArray, List.set_cons_zero, List.set_cons_succ]
                refine wpAnyH_ready (rs := [7]) (by kernel_rfl) (by simp) ?_
                refine AllReadyH.cons rfl (fun K hK => ?_) AllReadyH.nil
                go_simp
                (go_at_call 37; refine (HHL2.out).mono ?_; rintro e wA ⟨rfl, rfl⟩)
                try go_wp2_with fail
                refine hK.out _ _ SW (fun hHeld => ?_)
                clear hK K
                try simp only [Act.put, List.getElem_toArray, List.getElem_cons_succ, List.getElem_cons_zero, List.setIfInBounds_toArray, List.set_cons_zero, List.set_cons_succ]
                refine wpAnyH_take (i := 9) (v := .agg #[.int .i32 c, .int .i64 lw, .int .i64 (t2 : Nat)]) rfl (by kernel_rfl) (by kernel_rfl) (by kernel_rfl) (fun _ _ _ h => h) (.inl ⟨by rfl, by intro w hSw; go_simp⟩) hHeld ?_
                simp only [Act.put, List.getElem_toArray, List.getElem_cons_succ, List.getElem_cons_zero, List.setIfInBounds_toArray, List.set_cons_zero, List.set_cons_succ]
                refine wpAnyH_ready (rs := [10]) (by kernel_rfl) (by simp) ?_
                refine AllReadyH.cons rfl (fun K hK => ?_) AllReadyH.nil
                go_simp
                try rw [hWN]
                refine hK.out _ _ SWN (fun hHeld => ?_)
                clear hK K
                try simp only [Act.put, List.getElem_toArray, List.getElem_cons_succ, List.getElem_cons_zero, List.setIfInBounds_toArray, List.set_cons_zero, List.set_cons_succ]
                refine wpAnyH_ready (rs := [11]) (by kernel_rfl) (by simp) ?_
                refine AllReadyH.cons rfl (fun K hK => ?_) AllReadyH.nil
                rw [if_pos (by rfl)]
                refine wp_append_run _ _ 41 rfl _ _ rfl rfl (v' := .slice va' (A.length + 1) vc') (w' := WE) HR4.out ?_
                refine hK.out _ _ SWE (fun hHeld => ?_)
                clear hK K
                try simp only [Act.put, List.getElem_toArray, List.getElem_cons_succ, List.getElem_cons_zero, List.setIfInBounds_toArray, List.set_cons_zero, List.set_cons_succ]
                refine wpAnyH_take (i := 12) (v := .pointer (some ⟨sB, 2, none⟩)) rfl (by kernel_rfl) (by kernel_rfl) (by kernel_rfl) (fun _ _ _ h => h) (.inl ⟨by rfl, by intro w hSw; go_simp⟩) hHeld ?_
                simp only [Act.put, List.getElem_toArray, List.getElem_cons_succ, List.getElem_cons_zero, List.setIfInBounds_toArray, List.set_cons_zero, List.set_cons_succ]
                refine wpAnyH_ready (rs := [13]) (by kernel_rfl) (by simp) ?_
                refine AllReadyH.cons rfl (fun K hK => ?_) AllReadyH.nil
                go_simp
                refine hK.out _ _ (HSWF.out _) (fun hHeld => ?_)
                clear hK K
                try simp only [Act.put, List.getElem_toArray, List.getElem_cons_succ, List.getElem_cons_zero, List.setIfInBounds_toArray, List.set_cons_zero, List.set_cons_succ]
                refine wpAnyH_done (by kernel_rfl) ?_ _
                refine NoPanic.normal ?_
                go_wp2_with fail
                refine ⟨⟨j + 1, _, _, _, _, _, by first | rfl | congr 1, by omega, HRLN.out⟩, ?_⟩
                simp [intOf]; omega
              · go_simp
                (go_at_call 37; refine (HHL2.out).mono ?_; rintro e wA ⟨rfl, rfl⟩)
                try go_wp2_with fail
                refine hK.out _ _ SW (fun hHeld => ?_)
                clear hK K
                try simp only [Act.put, List.getElem_toArray, List.getElem_cons_succ, List.getElem_cons_zero, List.setIfInBounds_toArray, List.set_cons_zero, List.set_cons_succ]
                refine wpAnyH_take (i := 9) (v := .agg #[.int .i32 c, .int .i64 lw, .int .i64 (t2 : Nat)]) rfl (by kernel_rfl) (by kernel_rfl) (by kernel_rfl) (fun _ _ _ h => h) (.inl ⟨by rfl, by intro w hSw; go_simp⟩) hHeld ?_
                simp only [Act.put, List.getElem_toArray, List.getElem_cons_succ, List.getElem_cons_zero, List.setIfInBounds_toArray, List.set_cons_zero, List.set_cons_succ]
                refine wpAnyH_ready (rs := [1, 10]) (by kernel_rfl) (by simp) ?_
                refine AllReadyH.cons rfl (fun K hK => ?_) (AllReadyH.cons rfl (fun K hK => ?_) AllReadyH.nil)
                · have hx := SC9
                  go_simp
                  clear hx
                  refine hK.out _ _ SW (fun hHeld => ?_)
                  clear hK K
                  try simp only [Act.put, List.getElem_toArray, List.getElem_cons_succ, List.getElem_cons_zero, List.setIfInBounds_toArray, List.set_cons_zero, List.set_cons_succ]
                  refine wpAnyH_ready (rs := [10]) (by kernel_rfl) (by simp) ?_
                  refine AllReadyH.cons rfl (fun K hK => ?_) AllReadyH.nil
                  go_simp
                  try rw [hWN]
                  refine hK.out _ _ SWN (fun hHeld => ?_)
                  clear hK K
                  try simp only [Act.put, List.getElem_toArray, List.getElem_cons_succ, List.getElem_cons_zero, List.setIfInBounds_toArray, List.set_cons_zero, List.set_cons_succ]
                  refine wpAnyH_ready (rs := [11]) (by kernel_rfl) (by simp) ?_
                  refine AllReadyH.cons rfl (fun K hK => ?_) AllReadyH.nil
                  rw [if_pos (by rfl)]
                  refine wp_append_run _ _ 41 rfl _ _ rfl rfl (v' := .slice va' (A.length + 1) vc') (w' := WE) HR4.out ?_
                  refine hK.out _ _ SWE (fun hHeld => ?_)
                  clear hK K
                  try simp only [Act.put, List.getElem_toArray, List.getElem_cons_succ, List.getElem_cons_zero, List.setIfInBounds_toArray, List.set_cons_zero, List.set_cons_succ]
                  refine wpAnyH_take (i := 12) (v := .pointer (some ⟨sB, 2, none⟩)) rfl (by kernel_rfl) (by kernel_rfl) (by kernel_rfl) (fun _ _ _ h => h) (.inl ⟨by rfl, by intro w hSw; go_simp⟩) hHeld ?_
                  simp only [Act.put, List.getElem_toArray, List.getElem_cons_succ, List.getElem_cons_zero, List.setIfInBounds_toArray, List.set_cons_zero, List.set_cons_succ]
                  refine wpAnyH_ready (rs := [13]) (by kernel_rfl) (by simp) ?_
                  refine AllReadyH.cons rfl (fun K hK => ?_) AllReadyH.nil
                  go_simp
                  refine hK.out _ _ (HSWF.out _) (fun hHeld => ?_)
                  clear hK K
                  try simp only [Act.put, List.getElem_toArray, List.getElem_cons_succ, List.getElem_cons_zero, List.setIfInBounds_toArray, List.set_cons_zero, List.set_cons_succ]
                  refine wpAnyH_done (by kernel_rfl) ?_ _
                  refine NoPanic.normal ?_
                  go_wp2_with fail
                  refine ⟨⟨j + 1, _, _, _, _, _, by first | rfl | congr 1, by omega, HRLN.out⟩, ?_⟩
                  simp [intOf]; omega
                · go_simp
                  try rw [hWN]
                  refine hK.out _ _ SWN (fun hHeld => ?_)
                  clear hK K
                  try simp only [Act.put, List.getElem_toArray, List.getElem_cons_succ, List.getElem_cons_zero, List.setIfInBounds_toArray, List.set_cons_zero, List.set_cons_succ]
                  refine wpAnyH_ready (rs := [1]) (by kernel_rfl) (by simp) ?_
                  refine AllReadyH.cons rfl (fun K hK => ?_) AllReadyH.nil
                  have hx := SCN
                  go_simp
                  clear hx
                  refine hK.out _ _ SWN (fun hHeld => ?_)
                  clear hK K
                  try simp only [Act.put, List.getElem_toArray, List.getElem_cons_succ, List.getElem_cons_zero, List.setIfInBounds_toArray, List.set_cons_zero, List.set_cons_succ]
                  refine wpAnyH_ready (rs := [11]) (by kernel_rfl) (by simp) ?_
                  refine AllReadyH.cons rfl (fun K hK => ?_) AllReadyH.nil
                  rw [if_pos (by rfl)]
                  refine wp_append_run _ _ 41 rfl _ _ rfl rfl (v' := .slice va' (A.length + 1) vc') (w' := WE) HR4.out ?_
                  refine hK.out _ _ SWE (fun hHeld => ?_)
                  clear hK K
                  try simp only [Act.put, List.getElem_toArray, List.getElem_cons_succ, List.getElem_cons_zero, List.setIfInBounds_toArray, List.set_cons_zero, List.set_cons_succ]
                  refine wpAnyH_take (i := 12) (v := .pointer (some ⟨sB, 2, none⟩)) rfl (by kernel_rfl) (by kernel_rfl) (by kernel_rfl) (fun _ _ _ h => h) (.inl ⟨by rfl, by intro w hSw; go_simp⟩) hHeld ?_
                  simp only [Act.put, List.getElem_toArray, List.getElem_cons_succ, List.getElem_cons_zero, List.setIfInBounds_toArray, List.set_cons_zero, List.set_cons_succ]
                  refine wpAnyH_ready (rs := [13]) (by kernel_rfl) (by simp) ?_
                  refine AllReadyH.cons rfl (fun K hK => ?_) AllReadyH.nil
                  go_simp
                  refine hK.out _ _ (HSWF.out _) (fun hHeld => ?_)
                  clear hK K
                  try simp only [Act.put, List.getElem_toArray, List.getElem_cons_succ, List.getElem_cons_zero, List.setIfInBounds_toArray, List.set_cons_zero, List.set_cons_succ]
                  refine wpAnyH_done (by kernel_rfl) ?_ _
                  refine NoPanic.normal ?_
                  go_wp2_with fail
                  refine ⟨⟨j + 1, _, _, _, _, _, by first | rfl | congr 1, by omega, HRLN.out⟩, ?_⟩
                  simp [intOf]; omega
            · have hje : j = ln := by omega
              subst hje
              rw [List.drop_of_length_le (by rw [HLN.out]; exact Nat.le_refl _)] at hL
              have hres := hL.res
              have hA : A = RR.1 ∧ k' = RR.2 := by
                rw [← hres]
                exact ⟨by simp [goR], rfl⟩
              clear hres
              obtain ⟨LR', qS', hK'⟩ := hL.known
              obtain ⟨ra', rc', hvR'⟩ := owns_shape hK'.rowR
              obtain ⟨sa', sc', hvS'⟩ := owns_shape hK'.rowS
              subst hvR' hvS'
              obtain ⟨aa, ac, hus⟩ := owns_shape hL.row
              subst hus
              have hRx := hL.rests HR6.out
              have hu : ∀ x, (Value.slice aa A.length ac).ownBlock = some x → W4.heap.size ≤ x ∧ x < wx.heap.size := fun x hx => ⟨owns_base hL.row x hx, (hL.row.lt x hx).2⟩
              have hLR' : LR'.length = k'.R.length := by rw [← hK'.eqR, List.length_map]
              have hqS' : qS'.length = k'.S.length := by rw [← hK'.eqS, List.length_map]
              have hcR := hL.cR
              have hcS := hL.cS
              have b0 := hL.boxK
              have b0l := b0.lt
              have e0 : wx.cell? ⟨Q, 0, none⟩ = some (.slice ra' LR'.length rc') := (Blk.cell b0 0).trans rfl
              obtain ⟨i1, z1', hi1, hz1, hsz1, hby1, hzs1⟩ := info_rests
              obtain ⟨i2, z2', hi2, hz2, hsz2, hby2, hzs2⟩ := info_st'
              have HHL := Lib.hid hL
              have HHK' := Lib.hid hK'
              have HRX := Lib.hid hRx
              have HU := Lib.hid hu
              have HLR' := Lib.hid hLR'
              have HQS' := Lib.hid hqS'
              have HAR := Lib.hid hA
              have hrow := hK'.rowR
              have hnd : need l [] = 0 := rfl
              have hlR : LR'.length ≤ 900000 := by omega
              have hlS : qS'.length ≤ 900000 := by omega
              clear hL hK' hRx hu hLR' hqS' hA b0 hcR hcS hnd
              have HROWA := Lib.hid (HHL.out.row)
              have HFAR := Lib.hid (HHL.out.far)
              go_wp2_with (first
                | (at_builtin; refine wpList_append_own_at _ rfl _ _ 47 rfl 0 65 i1 z1' 1 24 Tryd.underlying47 hi1 hz1 hsz1 hby1 hzs1 (by decide) _ _ _ rfl (hrow.alloc _) ⟨wx.heap.size, 0, none⟩ 1 1 _ rfl rfl (World.news_of_block (Blk.alloc_new _ _ _)) (by intro y hy; simp at hy; subst hy; rfl) (by unfold maxLen; omega) (by omega) (Nat.zero_le _) ?_; intro v' w1 hown' hgrow hnil hat;
                    obtain ⟨xa, xc, rfl⟩ := owns_shape hown';
                    have hbA : Below wx.heap.size wx (wx.alloc (.cells #[.slice ua i uc] 65)) := (Below.refl _ _).alloc (Nat.le_refl _) _;
                    obtain ⟨kA, tA, oA⟩ := HHK'.out.addR HRX.out hbA hown' hgrow hat;
                    have bA := tA.blk HHL.out.boxK (HHL.out.far Q (.inl rfl));
                    have bAZ := tA.blk HHL.out.boxZ (HHL.out.far (Q + 1) (.inr (.inl rfl)));
                    have bAS := tA.blk HHL.out.boxS (HHL.out.far sB (.inr (.inr (.inl rfl))));
                    have f0' : w1.cell? ⟨Q, 0, none⟩ = some (.slice ra' LR'.length rc') := (Blk.cell bA 0).trans rfl;
                    have f0'' := Blk.free bA 0;
                    obtain ⟨W10, hW10⟩ : ∃ W, w1.setCell ⟨Q, 0, none⟩ (.slice xa (LR'.length + 1) xc) = W := ⟨_, rfl⟩;
                    have t10 : Turn (fun y => y = Q) w1 W10 := (by rw [← hW10]; exact turn_set1 _ _ _);
                    have bB : Blk W10 Q 76 #[.slice xa (LR'.length + 1) xc, .slice sa' qS'.length sc'] := (by rw [← hW10]; exact bA.set 0 _);
                    have bBZ := t10.blk bAZ (by show ¬ Q + 1 = Q; omega);
                    have bBS := t10.blk bAS (by show ¬ sB = Q; omega);
                    have f1 : W10.cell? ⟨Q, 0, none⟩ = some (.slice xa (LR'.length + 1) xc) := (Blk.cell bB 0).trans rfl;
                    have f2 : W10.cell? ⟨Q, 1, none⟩ = some (.slice sa' qS'.length sc') := (Blk.cell bB 1).trans rfl;
                    have f3 : W10.cell? ⟨sB, 0, none⟩ = some (.bool fin) := (Blk.cell bBS 0).trans rfl;
                    have f4 : W10.cell? ⟨sB, 1, none⟩ = some (.int .i64 out) := (Blk.cell bBS 1).trans rfl;
                    have f5 : W10.cell? ⟨sB, 2, none⟩ = some (.slice aa A.length ac) := (Blk.cell bBS 2).trans rfl;
                    have ofar : ∀ x, (x = Q ∨ x = Q + 1 ∨ x = sB ∨ (Value.slice aa A.length ac).ownBlock = some x) → x < wx.heap.size ∧ ¬ Ko (.slice ra' LR'.length rc') (.slice sa' qS'.length sc') x := (fun x hx => ⟨(by have hq := HHL.out.at_; have ht := HHL.out.turn.size; rcases hx with h | h | h | h; omega; omega; omega; exact (HU.out x h).2), HHL.out.far x hx⟩);
                    have k10 : Kis W10 (.slice xa (LR'.length + 1) xc) (.slice sa' qS'.length sc') ⟨k'.R ++ [rw (y :: q1')], k'.S⟩ (fun x => F x ∨ x = Q ∨ x = Q + 1) (LR' ++ [(y :: q1', .slice ua i uc)]) qS' := kA.turn2 t10 (fun x hx h => ⟨.inr (.inl h), fun hk => (ofar x (.inl h)).2 (oA x (ofar x (.inl h)).1 hk)⟩) (fun x hx h => (by rcases h with h | h | h; exact .inl h; exact .inr (.inl h); exact .inr (.inr (.inl h))));
                    have row10 : W10.ownsRow W4.heap.size 46 3 (.slice aa A.length ac) A.length (rowA A) := owns_kept HROWA.out (fun x hx => (t10.kept x (by have := tA.size; have := (HU.out x hx).2; omega) (by show ¬ x = Q; have := (HU.out x hx).1; omega)).trans (tA.kept x (HU.out x hx).2 (HFAR.out x (.inr (.inr (.inr hx))))));
                    have arc10 : ArcsAre (KoF (.slice xa (LR'.length + 1) xc) (.slice sa' qS'.length sc') (fun x => F x ∨ x = Q ∨ x = Q + 1)) W10 (.slice aa A.length ac) A := arcs_own row10 (by have := HHL.out.few; omega) (fun x hx g => (by
                      have hx1 := HU.out x hx;
                      rcases g with g | g | g | g
                      · exact HFAR.out x (.inr (.inr (.inr hx))) (oA x hx1.2 g)
                      · have := hFQ x g; omega
                      · omega
                      · omega));
                    have hrow2 := k10.rowS;
                    have hsz10 : wx.heap.size ≤ W10.heap.size := Nat.le_trans tA.size t10.size;
                    have HK10 := Lib.hid k10;
                    have HARC := Lib.hid arc10;
                    have HOF := Lib.hid ofar;
                    have HKA := Lib.hid kA;
                    have HTA := Lib.hid tA;
                    have HOA := Lib.hid oA;
                    have HT10 := Lib.hid t10;
                    have HBB := Lib.hid bB;
                    have HBBZ := Lib.hid bBZ;
                    clear kA tA oA t10 bB bBZ bBS bA bAZ bAS hown' hgrow hnil hat hrow e0 k10 row10 arc10 ofar)
                | (at_builtin; refine wpList_append_own_at _ rfl _ _ 25 rfl 0 43 i2 z2' 3 40 Tryd.underlying25 hi2 hz2 hsz2 hby2 hzs2 (by decide) _ _ _ rfl (hrow2.alloc _) ⟨W10.heap.size, 0, none⟩ 1 1 _ rfl rfl (World.news_of_block (Blk.alloc_new _ _ _)) (by intro y hy; simp at hy; rcases hy with rfl | rfl | rfl <;> rfl) (by unfold maxLen; omega) (by omega) (Nat.zero_le _) ?_; intro v' w2' hown' hgrow hnil hat;
                    obtain ⟨ya, yc, rfl⟩ := owns_shape hown';
                    have hbB : Below W10.heap.size W10 (W10.alloc (.cells #[.bool fin, .int .i64 out, (.slice aa A.length ac)] 43)) := (Below.refl _ _).alloc (Nat.le_refl _) _;
                    obtain ⟨kB, tB, oB⟩ := HK10.out.addS (s := ⟨fin, out, A⟩) HARC.out hbB hown' hgrow hat;
                    have farB : ∀ x, (x = Q ∨ x = Q + 1) → x < W10.heap.size ∧ ¬ Ko (.slice xa (LR'.length + 1) xc) (.slice sa' qS'.length sc') x := (fun x hx => (by
                      have h1 := HOF.out x (by rcases hx with h | h; exact .inl h; exact .inr (.inl h))
                      exact ⟨Nat.lt_of_lt_of_le h1.1 hsz10, fun g => h1.2 (HOA.out x h1.1 g)⟩));
                    have bC := tB.blk HBB.out (farB Q (.inl rfl)).2;
                    have bCZ := tB.blk HBBZ.out (farB (Q + 1) (.inr rfl)).2;
                    have p0 : w2'.cell? ⟨Q, 1, none⟩ = some (.slice sa' qS'.length sc') := (Blk.cell bC 1).trans rfl;
                    have p1 := Blk.free bC 1;
                    obtain ⟨W12, hW12⟩ : ∃ W, w2'.setCell ⟨Q, 1, none⟩ (.slice ya (qS'.length + 1) yc) = W := ⟨_, rfl⟩;
                    have t12 : Turn (fun y => y = Q) w2' W12 := (by rw [← hW12]; exact turn_set1 _ _ _);
                    have bD : Blk W12 Q 76 #[.slice xa (LR'.length + 1) xc, .slice ya (qS'.length + 1) yc] := (by rw [← hW12]; exact bC.set 1 _);
                    have bDZ := t12.blk bCZ (by show ¬ Q + 1 = Q; omega);
                    have r0 : W12.cell? ⟨Q, 0, none⟩ = some (.slice xa (LR'.length + 1) xc) := (Blk.cell bD 0).trans rfl;
                    have r1 : W12.cell? ⟨Q, 1, none⟩ = some (.slice ya (qS'.length + 1) yc) := (Blk.cell bD 1).trans rfl;
                    have r2 : W12.cell? ⟨Q + 1, 0, none⟩ = some (.slice none 0 0) := (Blk.cell bDZ 0).trans rfl;
                    have r3 : W12.cell? ⟨Q + 1, 1, none⟩ = some (.slice none 0 0) := (Blk.cell bDZ 1).trans rfl;
                    have r4 := Blk.free bDZ 0;
                    have r5 := Blk.free bDZ 1;
                    have HKB := Lib.hid kB;
                    have HTB := Lib.hid tB;
                    have HOB := Lib.hid oB;
                    have HT12 := Lib.hid t12;
                    have HBDZ := Lib.hid bDZ;
                    have HFB := Lib.hid farB;
                    clear kB tB oB farB bC bCZ t12 bD bDZ hown' hgrow hnil hat hrow2))
              have hwl : Hid (IntKind.i64.wrap (((qS'.length + 1 : Nat) : Int) - 1) = (qS'.length : Int)) := by show IntKind.i64.wrap (((qS'.length + 1 : Nat) : Int) - 1) = (qS'.length : Int); rw [IntWalk.i64_in _ (by omega)]; omega
              have hwl' := hwl.out
              have hfin : ∀ W13, Below ((W12.setCell ⟨Q + 1, 0, none⟩ (.slice xa (LR'.length + 1) xc)).setCell ⟨Q + 1, 1, none⟩ (.slice ya (qS'.length + 1) yc)).heap.size ((W12.setCell ⟨Q + 1, 0, none⟩ (.slice xa (LR'.length + 1) xc)).setCell ⟨Q + 1, 1, none⟩ (.slice ya (qS'.length + 1) yc)) W13 → REnd (.slice ra rl rc) (.slice sa sl sc) (rstate (n + 1) k (rw q)) F w (.returned (.tuple #[.agg #[.slice xa (LR'.length + 1) xc, .slice ya (qS'.length + 1) yc], .int .i64 (qS'.length : Int)])) W13 := by
                intro W13 hbW
                obtain ⟨eA, eK⟩ := HAR.out
                have tZ : Turn (fun y => y = Q + 1) W12 W13 := (turn_set2 W12 (Q + 1) (.slice xa (LR'.length + 1) xc) (.slice ya (qS'.length + 1) yc) (i := 0) (j := 1)).trans (Turn.of_below (O := fun _ => False) hbW) (fun _ _ h => h.elim)
                have koB : ∀ x, x < W10.heap.size → Ko (.slice xa (LR'.length + 1) xc) (.slice ya (qS'.length + 1) yc) x → Ko (.slice xa (LR'.length + 1) xc) (.slice sa' qS'.length sc') x := HOB.out
                have k12 := HKB.out.turn2 (F' := fun x => F x ∨ x = Q ∨ x = Q + 1) HT12.out (fun x hx h => ⟨.inr (.inl h), fun g => (HFB.out x (.inl h)).2 (koB x (HFB.out x (.inl h)).1 g)⟩) (fun _ _ h => h)
                have k13 := k12.turn2 (F' := F) tZ (fun x hx h => ⟨.inr (.inr h), fun g => (HFB.out x (.inr h)).2 (koB x (HFB.out x (.inr h)).1 g)⟩) (fun _ _ h => .inl h)
                have z1 := HB23.out.size
                have z2 := HTW.out.size
                have z3 := HB4.out.size
                have z4 := HHL.out.turn.size
                have z5 := HTA.out.size
                have z6 := HT10.out.size
                have oAll : ∀ x, x < w.heap.size → Ko (.slice xa (LR'.length + 1) xc) (.slice ya (qS'.length + 1) yc) x → Ko (.slice ra rl rc) (.slice sa sl sc) x := fun x hx g =>
                  HHL.out.old x (by omega) (HOA.out x (by omega) (koB x (by omega) g))
                have T0 : Turn (Ko (.slice ra rl rc) (.slice sa sl sc)) w w3 := Turn.of_below HB23.out
                have T1 := T0.trans HTW.out (fun x hx h => by have h' : x = sB := h; omega)
                have T2 := T1.trans (Turn.of_below (O := fun _ => False) HB4.out) (fun _ _ h => h.elim)
                have T3 := T2.trans HHL.out.turn (fun x hx h => by
                  rcases h with h | h | h
                  · exact h
                  · omega
                  · omega)
                have T4 := T3.trans HTA.out (fun x hx h => HHL.out.old x (by omega) h)
                have T5 := T4.trans HT10.out (fun x hx h => by have h' : x = Q := h; omega)
                have T6 := T5.trans HTB.out (fun x hx h => HHL.out.old x (by omega) (HOA.out x (by omega) h))
                have T7 := T6.trans HT12.out (fun x hx h => by have h' : x = Q := h; omega)
                have T8 := T7.trans tZ (fun x hx h => by have h' : x = Q + 1 := h; omega)
                refine ⟨_, _, ?_, ?_, T8, oAll⟩
                · rw [HRS.out, ← eK, HQS'.out]
                · rw [HRS.out, ← eK, ← eA]
                  exact ⟨_, _, k13⟩
              have HFIN := Lib.hid hfin
              clear hfin
              have hEND : Blk ((W12.setCell ⟨Q + 1, 0, none⟩ (.slice xa (LR'.length + 1) xc)).setCell ⟨Q + 1, 1, none⟩ (.slice ya (qS'.length + 1) yc)).drew (Q + 1) 76 #[.slice xa (LR'.length + 1) xc, .slice ya (qS'.length + 1) yc] := Blk.set2 HBDZ.out
              have HEND := Lib.hid hEND
              clear hEND
              go_region
              all_goals go_wp2_with fail
              all_goals refine bodyPost_ret (results_cellT rfl _ _ (Q + 1) rfl _ rfl _ _ HEND.out _ Tryd.underlying76 rfl size_known) rfl ?_
              all_goals exact HFIN.out _ (Below.refl _ _).drew
end Go.Proofs.YtpbadnmfgffdlaaDoor.F
