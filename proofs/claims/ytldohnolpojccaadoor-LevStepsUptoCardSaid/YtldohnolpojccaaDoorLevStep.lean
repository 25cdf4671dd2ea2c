/-
  The walk of a Lev's Step.
-/
import Derived.Test.YtldohnolpojccaaDoorLevCut
namespace Go.Proofs.YtldohnolpojccaaDoor.V
open Go.RowKit
open LM EM Aid L E VM
set_option linter.unusedSimpArgs false
set_option linter.unusedVariables false

theorem min2d {a b m : Nat} (h : min a b = m) : (if (b : Int) < (a : Int) then (b : Int) else (a : Int)) = (m : Int) ∧ (if b < a then (b : Int) else (a : Int)) = (m : Int) := by
  subst h; constructor <;> split <;> omega

theorem run_min4 {P : Program} (w : World) (ts : Array TypeId) (t : TypeId) {a b c d m1 m2 m3 : Nat} (h1 : min a b = m1) (h2 : min m1 c = m2) (h3 : min m2 d = m3) :
    (Builtin.min_ ts t #[.int .u8 (a : Int), .int .u8 (b : Int), .int .u8 (c : Int), .int .u8 (d : Int)]).run P w = .ok (.int .u8 (m3 : Int)) w := by
  obtain ⟨_, e1⟩ := min2d h1
  obtain ⟨_, e2⟩ := min2d h2
  obtain ⟨_, e3⟩ := min2d h3
  simp [Builtin.min_, Builtin.min2, e1, e2, e3]

set_option maxRecDepth 100000 in
set_option maxHeartbeats 1000000 in
theorem step_any (p : Nat) (l : List Int) (out : Nat) (f : Nat → Nat) (r : Int) (w : World) (h : IsLev w p l out) :
    Calls Tryd.prog 17 #[.pointer (some ⟨p, 0, none⟩), .agg (u8A 25 f), .int .i32 r] w fun e w' => e = .returned (.agg (u8A 25 (stepF out l (cutF out l.length f) r))) ∧ Below w.heap.size w w' := by
  obtain ⟨zi, hzi, hzz⟩ := zero_row
  have hp := h.lt
  obtain ⟨hl1, hl2, ho1, ho2⟩ := h.bounds
  obtain ⟨S, hS⟩ : ∃ S, cutF out l.length f = S := ⟨_, rfl⟩
  have hSo : ∀ j, S j ≤ out := by intro j; rw [← hS]; unfold cutF; split <;> omega
  rw [hS]
  have HS := Lib.hid hS
  clear hS
  obtain ⟨F, hF⟩ : ∃ F, stepF out l S r = F := ⟨_, rfl⟩
  have hF0 : Hid (F 0 = min (min (S 0) out + 1) out) := by rw [← hF]; rfl
  have hFs : Hid (∀ j, j < l.length → F (j + 1) = min (min (min (min (S j) out + if l.getD j 0 = r then 0 else 1) (min (S (j + 1)) out + 1)) (F j + 1)) out) := by
    intro j hj; rw [← hF, stepF, if_pos hj]
  have hFz : ∀ j, l.length < j → F j = 0 := fun j hj => by rw [← hF]; exact step_out _ _ _ _ _ hj
  have hFo : ∀ j, F j ≤ out := fun j => by rw [← hF]; exact step_le _ _ _ _ _
  rw [hF]
  clear hF
  obtain ⟨a0, c0, HI0, cr0, co0⟩ := h.reads
  replace HI0 := Lib.hid HI0
  go_enter Tryd.func17, Tryd.ntmps17
  go_wp2_with (first
    | (refine wpList_boxN _ (by rfl) _ _ rfl (u8A 25 f) rfl ?_; intro w1 hS hb hs1)
    | (refine wpList_allocN _ (by rfl) _ rfl zi hzi _ hzz ?_; have hT' := hT; intro w5 hU hb5 hs5; replace hS4 := hS4.below hb5 (by omega); replace hT := hT.below hb5 (by omega); replace hb := hb.trans (hb5.mono (by omega)))
    | (refine wpList_allocN _ (by rfl) _ rfl zi hzi _ hzz ?_; intro w2 hT hb2 hs2; replace hS := hS.below hb2 (by omega); replace hb := hb.trans (hb2.mono (by omega)))
    | (refine wpList_loadN _ (by rfl) _ _ rfl _ under_row rfl w.heap.size 0 rfl (u8A 25 f) (size_row _) (Rw.cells hS) ?_)
    | (go_at_call 27; refine (cut_any p l out f _ (h.below hb)).mono ?_; rintro e w3 ⟨he, hb3⟩; rw [HS.out] at he; subst he; have hs3 := hb3.size; replace hS := hS.below hb3 (by omega); replace hT := hT.below hb3 (by omega); replace hb := hb.trans (hb3.mono (by omega)))
    | (refine wpList_storeN _ (by rfl) _ _ _ rfl rfl w.heap.size rfl _ _ _ hS rfl (size_row _) (by rw [u8A_size, u8A_size]) (u8A_all _ _) ?_; intro w4 hS4 hb4 hs4 hk4; replace hT : Blk w4 _ _ _ := (hk4 _ (by omega)).trans hT; replace hb := hb.trans hb4))
  obtain ⟨A2, hA2⟩ : ∃ A, w4.heap.size = A := ⟨_, rfl⟩
  obtain ⟨A1, hA1⟩ : ∃ A, w.heap.size + 1 = A := ⟨_, rfl⟩
  obtain ⟨A0, hA0⟩ : ∃ A, w.heap.size = A := ⟨_, rfl⟩
  have g1 : A0 < A1 := by omega
  have g2 : A1 < A2 := by omega
  have g3 : p < A0 := by omega
  have g4 : w5.heap.size = A2 + 1 := by omega
  have cr := (hb.cell (p := ⟨p, 0, none⟩) hp).trans cr0
  have co := (hb.cell (p := ⟨p, 1, none⟩) hp).trans co0
  rw [hA2] at hU
  rw [hs1, hA1] at hT
  rw [hA0] at hS4 hb
  simp only [hA2]
  try simp only [hA1]
  try simp only [hA0]
  clear hs1 hs2 hs3 hs4 hs5 hA1 hA2 hp hT' hb5 hk4 hb4 hb3 hb2 hS
  obtain ⟨x0, hx0⟩ : ∃ x, S 0 = x := ⟨_, rfl⟩
  have hx0o := hSo 0
  rw [hx0] at hx0o
  have cx0 := Rw.cell hS4 (j := 0) (by omega) hx0
  have cz := Rw.cell hU (j := 0) (x := 0) (by omega) rfl
  have hfr : w5.frozen? ⟨A2, 0, none⟩ = false := Rw.free hU 0
  have hw0 : IntKind.u8.wrap ((x0 : Int) + 1) = ((x0 + 1 : Nat) : Int) := by rw [IntWalk.u8_in _ (by omega)]; rfl
  obtain ⟨y0, hy0⟩ : ∃ y, x0 + 1 = y := ⟨_, rfl⟩
  rw [hy0] at hw0
  obtain ⟨m0, hm0⟩ : ∃ m, min y0 out = m := ⟨_, rfl⟩
  obtain ⟨hM, hM'⟩ := min2d hm0
  have HF0 : Hid (F 0 = m0) := by rw [hF0.out, hx0, ← hm0, ← hy0]; show _ = _; omega
  have t1 : (w5.setCell ⟨A2, 0, none⟩ (.int .u8 m0)).drew.cell? ⟨A0, 0, none⟩ = some (.int .u8 (x0 : Int)) := (far1 (by intro e; injection e; omega)).trans cx0
  have t2 : (w5.setCell ⟨A2, 0, none⟩ (.int .u8 m0)).drew.cell? ⟨p, 1, none⟩ = some (.int .u8 (out : Int)) := (far1 (by intro e; injection e; omega)).trans co
  have HU : Hid (Rw (w5.setCell ⟨A2, 0, none⟩ (.int .u8 m0)).drew A2 (fun i => if i ≤ 0 then F i else 0)) := Rw.set (f := fun _ => 0) hU 0 m0 (by
    intro i hi
    by_cases e : i = 0
    · subst e; simp [HF0.out]
    · rw [if_neg (by omega), if_neg e])
  clear hm0 hy0 hx0 hU
  go_region_held3 (fun w' => w'.cell? ⟨A0, 0, none⟩ = some (.int .u8 (x0 : Int)) ∧ w'.cell? ⟨p, 1, none⟩ = some (.int .u8 (out : Int))) (first | go_keep) (fail)
  go_wp2_with fail
  clear t1 t2 cx0 cz hfr hw0 hM hM' HF0 hx0o hF0
  obtain ⟨w6, hw6⟩ : ∃ w6, (w5.setCell ⟨A2, 0, none⟩ (.int .u8 m0)).drew = w6 := ⟨_, rfl⟩
  have hb6 : Below A2 w5 w6 := by rw [← hw6]; exact (Below.setCell (Below.refl A2 w5) (p := ⟨A2, 0, none⟩) (Nat.le_refl _) _).drew
  have hs6 : w6.heap.size = A2 + 1 := by rw [← hw6]; simpa [World.setCell] using g4
  simp only [hw6] at HU ⊢
  clear hw6
  have hB6 : Below A0 w w6 := hb.trans (hb6.mono (by omega))
  have hS6 : Rw w6 A0 S := Rw.below hS4 hb6 (by omega)
  have hT6 : Blk w6 A1 32 (u8A 25 fun x => 0) := hT.below hb6 (by omega)
  clear hb hb6 cr co hS4 hT g4
  go_loopw [28] (fun x wr => ∃ j : Nat, x = .int .i64 j ∧ j ≤ l.length ∧ Rw wr A2 (fun i => if i ≤ j then F i else 0) ∧ Below A2 w6 wr)
    (fun x _ => l.length + 1 - (intOf x).toNat)
  case atStart => exact ⟨0, rfl, Nat.zero_le _, HU.out, Below.refl _ _⟩
  case round =>
    clear HU
    obtain ⟨j, rfl, hj, hR, hb⟩ := hrel
    have hBr : Below A0 w wr := hB6.trans (hb.mono (by omega))
    have co := (hBr.cell (p := ⟨p, 1, none⟩) g3).trans co0
    have hSr : Rw wr A0 S := Rw.below hS6 hb (by omega)
    by_cases hlast : (j : Int) < (l.length : Int)
    · obtain ⟨c, hc⟩ : ∃ c, l.getD j 0 = c := ⟨_, rfl⟩
      obtain ⟨bb, oo, rfl, _, cc⟩ := Ints.at_ (HI0.out.below (by rw [hA0]; exact hBr)) (k := j) (by omega) hc
      obtain ⟨x, hx⟩ : ∃ x, S j = x := ⟨_, rfl⟩
      obtain ⟨y, hy⟩ : ∃ y, S (j + 1) = y := ⟨_, rfl⟩
      obtain ⟨z, hz⟩ : ∃ z, F j = z := ⟨_, rfl⟩
      have hxo := hSo j
      have hyo := hSo (j + 1)
      have hzo := hFo j
      rw [hx] at hxo
      rw [hy] at hyo
      rw [hz] at hzo
      have hst := hFs.out j (by omega)
      rw [hc, hx, hy, hz] at hst
      have cx := hSr.cell (j := j) (by omega) hx
      have cy := hSr.cell (j := j + 1) (by omega) hy
      have cz := hR.cell (j := j) (x := z) (by omega) (by simp [hz])
      have cn := hR.cell (j := j + 1) (x := 0) (by omega) (by show (if j + 1 ≤ j then F (j + 1) else 0) = 0; rw [if_neg (by omega)])
      have hfr : wr.frozen? ⟨A2, j + 1, none⟩ = false := hR.free _
      have hj25 : (j : Int) < 25 := by omega
      have hj24 : (j : Int) + 1 < 25 := by omega
      have hj0 : (0 : Int) ≤ (j : Int) + 1 := by omega
      have hwj : IntKind.i64.wrap ((j : Int) + 1) = (j : Int) + 1 := IntWalk.i64_in _ (by omega)
      have htj : ((j : Int) + 1).toNat = j + 1 := by omega
      obtain ⟨n, hn⟩ : ∃ n, x + (if c = r then 0 else 1) = n := ⟨_, rfl⟩
      have hno : n ≤ 5 := by rw [← hn]; split <;> omega
      rw [Nat.min_eq_left hxo, Nat.min_eq_left hyo, hn] at hst
      obtain ⟨y', hy'⟩ : ∃ y', y + 1 = y' := ⟨_, rfl⟩
      obtain ⟨z', hz'⟩ : ∃ z', z + 1 = z' := ⟨_, rfl⟩
      have hwy : IntKind.u8.wrap ((y : Int) + 1) = (y' : Int) := by rw [IntWalk.u8_in _ (by omega)]; omega
      have hwz : IntKind.u8.wrap ((z : Int) + 1) = (z' : Int) := by rw [IntWalk.u8_in _ (by omega)]; omega
      obtain ⟨m1, hm1⟩ : ∃ m, min n y' = m := ⟨_, rfl⟩
      obtain ⟨m2, hm2⟩ : ∃ m, min m1 z' = m := ⟨_, rfl⟩
      obtain ⟨m3, hm3⟩ : ∃ m, min m2 out = m := ⟨_, rfl⟩
      have HF : Hid (F (j + 1) = m3) := by show _ = _; rw [hst]; omega
      have t1 : (wr.setCell ⟨A2, j + 1, none⟩ (.int .u8 m3)).drew.cell? ⟨A0, j + 1, none⟩ = some (.int .u8 (y : Int)) := (far1 (by intro e; injection e; omega)).trans cy
      have t2 : (wr.setCell ⟨A2, j + 1, none⟩ (.int .u8 m3)).drew.cell? ⟨A2, j, none⟩ = some (.int .u8 (z : Int)) := (far1 (by intro e; injection e; omega)).trans cz
      have t3 : (wr.setCell ⟨A2, j + 1, none⟩ (.int .u8 m3)).drew.cell? ⟨p, 1, none⟩ = some (.int .u8 (out : Int)) := (far1 (by intro e; injection e; omega)).trans co
      have HR : Hid (Rw (wr.setCell ⟨A2, j + 1, none⟩ (.int .u8 m3)).drew A2 (fun i => if i ≤ j + 1 then F i else 0)) := hR.set (j + 1) m3 (by
        intro i hi
        by_cases e : i = j + 1
        · subst e; rw [if_pos (Nat.le_refl _), if_pos rfl]; exact HF.out
        · rw [if_neg e]
          by_cases h' : i ≤ j
          · rw [if_pos h', if_pos (by omega)]
          · rw [if_neg h', if_neg (by omega)])
      by_cases hcr : c = r
      · have hcr1 : (c == r) = true := by rw [beq_iff_eq]; exact hcr
        have hcr2 : (c != r) = false := by simp [hcr]
        have hxn : x = n := by rw [← hn, if_pos hcr]; rfl
        subst hxn
        have hmin : ∀ w : World, _ := fun w : World => run_min4 (P := Tryd.prog) w #[5, 5, 5, 5] 5 hm1 hm2 hm3
        clear hn hst hm1 hm2 hm3 hy' hz' hx hy hz hc hcr hSr
        go_wp2_with fail
        go_region_held3 (fun w' => w'.cell? ⟨A0, j + 1, none⟩ = some (.int .u8 (y : Int)) ∧ w'.cell? ⟨A2, j, none⟩ = some (.int .u8 (z : Int)) ∧ w'.cell? ⟨p, 1, none⟩ = some (.int .u8 (out : Int))) (first | go_keep) (fail)
        go_wp2_with fail
        exact ⟨⟨j + 1, by go_num, by omega, HR.out, (Below.setCell hb (p := ⟨A2, j + 1, none⟩) (Nat.le_refl _) _).drew⟩, by simp [intOf]; omega⟩
      · have hcr1 : (c == r) = false := by rw [beq_eq_false_iff_ne]; exact hcr
        have hcr2 : (c != r) = true := by simp [hcr]
        have hwx : IntKind.u8.wrap ((x : Int) + 1) = (n : Int) := by rw [IntWalk.u8_in _ (by omega), ← hn, if_neg hcr]; rfl
        have hmin : ∀ w : World, _ := fun w : World => run_min4 (P := Tryd.prog) w #[5, 5, 5, 5] 5 hm1 hm2 hm3
        clear hn hst hm1 hm2 hm3 hy' hz' hx hy hz hc hcr hSr
        go_wp2_with fail
        go_region_held3 (fun w' => w'.cell? ⟨A0, j + 1, none⟩ = some (.int .u8 (y : Int)) ∧ w'.cell? ⟨A2, j, none⟩ = some (.int .u8 (z : Int)) ∧ w'.cell? ⟨p, 1, none⟩ = some (.int .u8 (out : Int))) (first | go_keep) (fail)
        go_wp2_with fail
        exact ⟨⟨j + 1, by go_num, by omega, HR.out, (Below.setCell hb (p := ⟨A2, j + 1, none⟩) (Nat.le_refl _) _).drew⟩, by simp [intOf]; omega⟩
    · have hje : j = l.length := by omega
      subst hje
      have hR2 := Rw.same (f' := F) hR (by intro i hi; by_cases e : i ≤ l.length; { rw [if_pos e] }; { rw [if_neg e, hFz _ (by omega)] })
      have hTr := hT6.below hb (by omega)
      go_wp2_with (first
        | (refine wpList_loadN _ (by rfl) _ _ rfl _ under_row rfl A2 0 rfl (u8A 25 F) (size_row _) (Rw.cells hR2) ?_)
        | (refine wpList_storeN _ (by rfl) _ _ _ rfl rfl A1 rfl _ _ _ hTr rfl (size_row _) (by rw [u8A_size, u8A_size]) (u8A_all _ _) ?_; intro w7 hr7 hb7 hs7 _))
      refine bodyPost_ret (results_cellN rfl _ _ A1 rfl _ _ hr7 _ under_row rfl (size_row _)) rfl ?_
      exact ⟨rfl, hBr.trans (hb7.mono (by omega))⟩
end Go.Proofs.YtldohnolpojccaaDoor.V
