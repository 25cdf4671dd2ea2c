/-
  The document's Follow.
-/
import Derived.Test.YtpbadnmfgffdlaaDoorFstSayM
import Derived.Test.YtpbadnmfgffdlaaDoorFstSameS
namespace Go.Proofs.YtpbadnmfgffdlaaDoor.F
open Go.RowKit Go.Shelf Go.Maps
open Aid L LM
set_option linter.unusedSimpArgs false
set_option linter.unusedVariables false
attribute [local go_sem] Oper.semAt_some

def Outs (S : List StM) : Prop := ∀ s ∈ S, (0 ≤ s.out ∧ s.out ≤ 1048576) ∧ ∀ a ∈ s.arcs, 0 ≤ a.out ∧ a.out ≤ 1048576
theorem make_outs (l : List Wd) (h : buildE l = 0) : Outs (makeF l).2 ∧ 0 ≤ (makeF l).1 ∧ (makeF l).1 ≤ 1048576 := by
  unfold makeF
  split
  · exact ⟨fun s hs => by simp at hs, by decide, by decide⟩
  · rename_i hl
    have hne : restsF l ≠ [] := by simpa [restsF] using hl
    have hok := rests_ok h
    refine ⟨states_ind (fun s => (0 ≤ s.out ∧ s.out ≤ 1048576) ∧ ∀ a ∈ s.arcs, 0 ≤ a.out ∧ a.out ≤ 1048576) (fun n S l hok hne => ?_) 25 [] _ hok hne (by simp), ?_⟩
    · obtain ⟨b1, b2⟩ := hok.body
      have hlo : 0 ≤ low l := by
        obtain ⟨x, hx, e⟩ := low_mem hne
        rw [e]; exact (hok.wt x hx).1
      refine ⟨?_, fun a ha => ?_⟩
      · show 0 ≤ outOf l ∧ outOf l ≤ 1048576
        unfold outOf
        split
        · have hm : (l.headD ([], 0)) ∈ l := by cases l with | nil => exact absurd rfl hne | cons x l => exact List.mem_cons_self
          have h1 := low_le hm
          have h2 := hok.wt _ hm
          omega
        · omega
      · obtain ⟨x, hx, e⟩ := (arcsF_out (stateF n) (low l) n (body l).length S (body l) (Nat.le_refl _) b1 b2).2 a ha
        have h1 := low_le (body_mem hx)
        have h2 := hok.wt x (body_mem hx)
        omega
    · obtain ⟨x, hx, e⟩ := low_mem hne
      have h2 := hok.wt x hx
      dsimp only
      rw [e]
      exact h2
def sayR (S : List StM) (r : List Int) : Option Int := if S.length = 0 then none else say S (S.length - 1) r
def followR (B : Int) (S : List StM) (r : List Int) : Int × Bool := match sayR S r with | none => (0, false) | some w => (B + w, true)
/-- where Follow stands -/
def At (B : Int) (S : List StM) (r : List Int) (i : Nat) (x6 x7 : Value) : Prop :=
  (∃ (k : Nat) (sum : Int), x6 = .int .i64 k ∧ x7 = .int .i64 sum ∧ k + i < S.length ∧ 0 ≤ sum ∧ sum ≤ 1048576 * ((i : Int) + 1) ∧ (sayR S r).map (B + ·) = (say S k (r.drop i)).map (sum + ·)) ∨
  (∃ sum : Int, x6 = .int .i64 (-1) ∧ x7 = .int .i64 sum ∧ sayR S r = none)
def fnd (c : Int) (l : List ArcM) : Option ArcM := l.find? (fun a => decide (a.label = c))
theorem fnd_snoc (c : Int) (l : List ArcM) (a : ArcM) : fnd c (l ++ [a]) = match fnd c l with | some b => some b | none => if a.label = c then some a else none := by
  unfold fnd
  rw [List.find?_append]
  cases l.find? (fun a => decide (a.label = c)) with
  | some b => rfl
  | none =>
    by_cases h : a.label = c <;> simp [h]
/-- where the arcs are gone through -/
def In (c sum : Int) (l : List ArcM) (x7 x9 : Value) : Prop :=
  (fnd c l = none ∧ x9 = .int .i64 (-1) ∧ x7 = .int .i64 sum) ∨ ∃ a, fnd c l = some a ∧ x9 = .int .i64 a.to_ ∧ x7 = .int .i64 (sum + a.out)
set_option maxRecDepth 100000 in
set_option maxHeartbeats 4000000 in
theorem follow_any (B : Int) (S : List StM) (u rv : Value) (r : List Int) (w : World) (h : StatesAre (fun _ => False) w u S) (hr : Ints w .i32 rv r) (hI : Inv S) (ho : Outs S) (hB : 0 ≤ B ∧ B ≤ 1048576) :
    Calls Tryd.prog 17 #[.agg #[.int .i64 B, u], rv] w fun e w' => e = .returned (.tuple #[.int .i64 (followR B S r).1, .bool (followR B S r).2]) ∧ Below w.heap.size w w' := by
  obtain ⟨a, c, rfl⟩ := h.slice
  have hl := h.len
  obtain ⟨ra, rc, rfl⟩ := hr.form
  have hrl := hr.1
  obtain ⟨N, hN⟩ : ∃ N, S.length = N := ⟨_, rfl⟩
  obtain ⟨n, hn⟩ : ∃ n, r.length = n := ⟨_, rfl⟩
  rw [hN] at h hl ⊢
  rw [hn] at hr hrl ⊢
  obtain ⟨Q, hQ⟩ : ∃ Q, w.heap.size = Q := ⟨_, rfl⟩
  obtain ⟨W1, hW1⟩ : ∃ W1, w.alloc (.cells #[.int .i64 B, .slice a N c] 27) = W1 := ⟨_, rfl⟩
  have hb1 : Below w.heap.size w W1 := by rw [← hW1]; exact (Below.refl _ _).alloc (Nat.le_refl _) _
  have b1 : Blk W1 Q 27 #[.int .i64 B, .slice a N c] := by rw [← hW1, ← hQ]; exact Blk.alloc_new _ _ _
  have hQ1 := b1.lt
  have p0 : W1.cell? ⟨Q, 0, none⟩ = some (.int .i64 B) := (Blk.cell b1 0).trans rfl
  have p1 : W1.cell? ⟨Q, 1, none⟩ = some (.slice a N c) := (Blk.cell b1 1).trans rfl
  have HB1 := Lib.hid hb1
  have hwN : wrap64 ((N : Int) - 1) = (N : Int) - 1 := IntWalk.wrap64_in _ (by omega)
  have hstart : At B S r 0 (.int .i64 ((N : Int) - 1)) (.int .i64 B) := by
    by_cases h0 : N = 0
    · right
      refine ⟨B, by rw [h0]; rfl, rfl, ?_⟩
      unfold sayR
      rw [if_pos (by omega)]
    · left
      refine ⟨N - 1, B, by congr 1; omega, rfl, by omega, hB.1, by omega, ?_⟩
      unfold sayR
      rw [if_neg (by omega), hN]
      rfl
  have HST := Lib.hid hstart
  clear hstart hb1
  go_enter Tryd.func17, Tryd.ntmps17
  go_wp2_with fail
  clear hwN
  go_loopw [6, 7, 8, 9, 10, 11] (fun x6 x7 x8 x9 x10 x11 wr => ∃ i : Nat, x8 = .int .i64 i ∧ i ≤ n ∧ At B S r i x6 x7 ∧ Below W1.heap.size W1 wr) (fun _ _ x8 _ _ _ _ => n - (intOf x8).toNat)
  case atStart => exact ⟨0, rfl, Nat.zero_le _, HST.out, Below.refl _ _⟩
  case round =>
    clear HST
    rename World => wa
    obtain ⟨i, rfl, hi, hat, hb⟩ := hrel
    have hbz := hb.size
    have hz1 := HB1.out.size
    have hbw : Below w.heap.size w wa := HB1.out.trans (hb.mono hz1)
    have q1 : wa.cell? ⟨Q, 1, none⟩ = some (.slice a N c) := (hb.cell (p := ⟨Q, 1, none⟩) hQ1).trans p1
    rcases hat with ⟨k, sum, rfl, rfl, hk, hs0, hs1, hsay⟩ | ⟨sum, rfl, rfl, hno⟩
    · rw [hN] at hk
      obtain ⟨s, hs⟩ : ∃ s, S[k]? = some s := ⟨_, List.getElem?_eq_getElem (by omega)⟩
      have hsat : stAt S k = s := by unfold stAt; rw [hs]; rfl
      obtain ⟨⟨o1, o2⟩, o3⟩ := ho s (List.mem_of_getElem? hs)
      obtain ⟨g, off, v, rfl, hg, _, c0, c1, c2, hu⟩ := h.at_ hs
      obtain ⟨ua, uc, rfl⟩ := hu.slice
      obtain ⟨m, hm⟩ : ∃ m, s.arcs.length = m := ⟨_, rfl⟩
      have hml : m ≤ 1000000 := by obtain ⟨_, _, _, h, _⟩ := hu; omega
      rw [hm] at hu c2
      have e0 := (hbw.cell (p := ⟨g, off + k * 3, none⟩) hg).trans c0
      have e1 := (hbw.cell (p := ⟨g, off + k * 3 + 1, none⟩) hg).trans c1
      have e2 := (hbw.cell (p := ⟨g, off + k * 3 + 2, none⟩) hg).trans c2
      have k0 : (0 : Int) ≤ (k : Int) := by omega
      have k1 : (k : Int) < (N : Int) := by omega
      by_cases hlt : (i : Int) < (n : Int)
      · obtain ⟨x, hx⟩ : ∃ x, r.getD i 0 = x := ⟨_, rfl⟩
        obtain ⟨gr, offr, rfl, hgr, f0⟩ := hr.at_ (k := i) (by omega) hx
        have i0 : (0 : Int) ≤ (i : Int) := by omega
        have hrd : r.drop i = x :: r.drop (i + 1) := by
          rw [List.drop_eq_getElem_cons (by omega : i < r.length)]
          congr 1
          rw [← hx, List.getD_eq_getElem?_getD, List.getElem?_eq_getElem (by omega : i < r.length)]; rfl
        rw [hrd] at hsay
        have hsay' : (sayR S r).map (B + ·) = (match fnd x s.arcs with | none => none | some a => (say S a.to_.toNat (r.drop (i + 1))).map fun w => a.out + w).map (sum + ·) := by
          rw [hsay]
          conv => lhs; unfold say
          rw [hsat]
          rfl
        have HSAY := Lib.hid hsay'
        have HBW := Lib.hid hbw
        have HB := Lib.hid hb
        clear hsay hsay' hrd hb hbw c0 c1 c2
        go_wp2_with fail
        go_loopw [7, 9, 10, 11] (fun x7 x9 x10 x11 wr => ∃ j : Nat, x10 = .int .i64 j ∧ j ≤ m ∧ In x sum (s.arcs.take j) x7 x9 ∧ Below wa.heap.size wa wr) (fun _ _ x10 _ _ => m - (intOf x10).toNat)
        case atStart => exact ⟨0, rfl, Nat.zero_le _, .inl ⟨rfl, rfl, rfl⟩, Below.refl _ _⟩
        case round =>
          obtain ⟨j, rfl, hj, hin, hbj⟩ := hrel
          have hbjz := hbj.size
          have q1' : wr.cell? ⟨Q, 1, none⟩ = some (.slice (some ⟨g, off, none⟩) N c) := (hbj.cell (p := ⟨Q, 1, none⟩) (by show Q < _; omega)).trans q1
          have e2' := (hbj.cell (p := ⟨g, off + k * 3 + 2, none⟩) (by show g < _; omega)).trans e2
          by_cases hjm : (j : Int) < (m : Int)
          · obtain ⟨y, hy⟩ : ∃ y, s.arcs[j]? = some y := ⟨_, List.getElem?_eq_getElem (by omega)⟩
            obtain ⟨ga, offa, ea, hga, _, hca⟩ := hu.at_ hy
            subst ea
            have hts := take_snoc hy
            have hyo := o3 y (List.mem_of_getElem? hy)
            have hyt := hI k s hs y (List.mem_of_getElem? hy)
            obtain ⟨la, ou, tt⟩ := y
            dsimp only at hyo hyt
            have hbwj : Below w.heap.size w wr := HBW.out.trans (hbj.mono HBW.out.size)
            have y0 : wr.cell? ⟨ga, offa + j * 3, none⟩ = some (.int .i32 la) := (hbwj.cell (p := ⟨ga, offa + j * 3, none⟩) hga).trans (hca 0 (by show 0 < 3; omega))
            have y1 : wr.cell? ⟨ga, offa + j * 3 + 1, none⟩ = some (.int .i64 ou) := (hbwj.cell (p := ⟨ga, offa + j * 3 + 1, none⟩) hga).trans (hca 1 (by show 1 < 3; omega))
            have y2 : wr.cell? ⟨ga, offa + j * 3 + 2, none⟩ = some (.int .i64 tt) := (hbwj.cell (p := ⟨ga, offa + j * 3 + 2, none⟩) hga).trans (hca 2 (by show 2 < 3; omega))
            have hyc := three_cells y0 y1 y2
            obtain ⟨K2, hK2⟩ : ∃ K2, wr.heap.size = K2 := ⟨_, rfl⟩
            obtain ⟨W5, hW5⟩ : ∃ W5, wr.alloc (.cells #[.int .i32 la, .int .i64 ou, .int .i64 tt] 46) = W5 := ⟨_, rfl⟩
            have hb5 : Below wr.heap.size wr W5 := by rw [← hW5]; exact (Below.refl _ _).alloc (Nat.le_refl _) _
            have bK2 : Blk W5 K2 46 #[.int .i32 la, .int .i64 ou, .int .i64 tt] := by rw [← hW5, ← hK2]; exact Blk.alloc_new _ _ _
            have z0 : W5.cell? ⟨K2, 0, none⟩ = some (.int .i32 la) := (Blk.cell bK2 0).trans rfl
            have z1 : W5.cell? ⟨K2, 1, none⟩ = some (.int .i64 ou) := (Blk.cell bK2 1).trans rfl
            have z2 : W5.cell? ⟨K2, 2, none⟩ = some (.int .i64 tt) := (Blk.cell bK2 2).trans rfl
            have f0' : W5.cell? ⟨gr, offr + i, none⟩ = some (.int .i32 x) := ((hbwj.trans (hb5.mono hbwj.size)).cell (p := ⟨gr, offr + i, none⟩) hgr).trans f0
            have HBJ5 := Lib.hid (hbj.trans (hb5.mono hbjz))
            have HTS := Lib.hid hts
            have j0 : (0 : Int) ≤ (j : Int) := by omega
            have HZ : ∀ q, (W5.drewN q).cell? ⟨K2, 2, none⟩ = some (.int .i64 tt) ∧ (W5.drewN q).cell? ⟨K2, 1, none⟩ = some (.int .i64 ou) := fun q => ⟨z2, z1⟩
            have HZZ := Lib.hid HZ
            clear hts hb5 hbj hca hbwj HZ
            by_cases hlx : la = x
            · have hlb : (la == x) = true := by rw [beq_iff_eq]; exact hlx
              rcases hin with ⟨hn0, rfl, rfl⟩ | ⟨b, hb0, rfl, rfl⟩
              · have hnew : In x sum (s.arcs.take (j + 1)) (.int .i64 (sum + ou)) (.int .i64 tt) := by
                  right
                  refine ⟨⟨la, ou, tt⟩, ?_, rfl, rfl⟩
                  rw [HTS.out, fnd_snoc, hn0]
                  dsimp only
                  rw [if_pos hlx]
                have HNEW := Lib.hid hnew
                have HLX := Lib.hid hlx
                have dlt : decide ((-1 : Int) < 0) = true := by decide
                clear hnew hlx
                go_wp2_with fail
                go_quiet (fail)
                obtain ⟨h21, h22⟩ := HZZ.out nq
                go_wp2_with fail
                refine ⟨⟨j + 1, by first | rfl | congr 1, by omega, HNEW.out, below_drewN HBJ5.out _⟩, ?_⟩
                simp [intOf]; omega
              · obtain ⟨lb, ob, tb⟩ := b
                have hbm : (⟨lb, ob, tb⟩ : ArcM) ∈ s.arcs := List.mem_of_mem_take (List.mem_of_find?_eq_some hb0)
                have hbt := hI k s hs _ hbm
                dsimp only at hbt
                have hnew : In x sum (s.arcs.take (j + 1)) (.int .i64 (sum + ob)) (.int .i64 tb) := by
                  right
                  refine ⟨⟨lb, ob, tb⟩, ?_, rfl, rfl⟩
                  rw [HTS.out, fnd_snoc, hb0]
                have HNEW := Lib.hid hnew
                have HLX := Lib.hid hlx
                have dlt : decide (tb < 0) = false := decide_eq_false (by omega)
                clear hnew hlx
                dsimp only
                go_wp2_with fail
                go_quiet (fail)
                go_wp2_with fail
                refine ⟨⟨j + 1, by first | rfl | congr 1, by omega, HNEW.out, below_drewN HBJ5.out _⟩, ?_⟩
                simp [intOf]; omega
            · have hlb : (la == x) = false := by rw [beq_eq_false_iff_ne]; exact hlx
              rcases hin with ⟨hn0, rfl, rfl⟩ | ⟨b, hb0, rfl, rfl⟩
              · have hnew : In x sum (s.arcs.take (j + 1)) (.int .i64 sum) (.int .i64 (-1)) := by
                  left
                  refine ⟨?_, rfl, rfl⟩
                  rw [HTS.out, fnd_snoc, hn0]
                  dsimp only
                  rw [if_neg hlx]
                have HNEW := Lib.hid hnew
                clear hnew
                go_wp2_with fail
                go_quiet (fail)
                go_wp2_with fail
                refine ⟨⟨j + 1, by first | rfl | congr 1, by omega, HNEW.out, below_drewN HBJ5.out _⟩, ?_⟩
                simp [intOf]; omega
              · obtain ⟨lb, ob, tb⟩ := b
                have hnew : In x sum (s.arcs.take (j + 1)) (.int .i64 (sum + ob)) (.int .i64 tb) := by
                  right
                  refine ⟨⟨lb, ob, tb⟩, ?_, rfl, rfl⟩
                  rw [HTS.out, fnd_snoc, hb0]
                have HNEW := Lib.hid hnew
                clear hnew
                dsimp only
                go_wp2_with fail
                go_quiet (fail)
                go_wp2_with fail
                refine ⟨⟨j + 1, by first | rfl | congr 1, by omega, HNEW.out, below_drewN HBJ5.out _⟩, ?_⟩
                simp [intOf]; omega
          · have hjm' : j = m := by omega
            rw [List.take_of_length_le (by omega)] at hin
            have HB2 := Lib.hid (HB.out.trans (hbj.mono hbz))
            clear hbj
            rcases hin with ⟨hn0, rfl, rfl⟩ | ⟨b, hb0, rfl, rfl⟩
            · have hno : sayR S r = none := by
                have := HSAY.out
                rw [hn0] at this
                cases hq : sayR S r with
                | none => rfl
                | some z => rw [hq] at this; cases this
              have hnew : At B S r (i + 1) (.int .i64 (-1)) (.int .i64 sum) := .inr ⟨sum, rfl, rfl, hno⟩
              have HNEW := Lib.hid hnew
              clear hnew hno
              go_wp2_with fail
              refine ⟨⟨i + 1, by first | rfl | congr 1, by omega, HNEW.out, HB2.out⟩, ?_⟩
              simp [intOf]; omega
            · have hbm : b ∈ s.arcs := List.mem_of_find?_eq_some hb0
              obtain ⟨ht0, ht1⟩ := hI k s hs b hbm
              have hbo := o3 b hbm
              obtain ⟨lb, ob, tb⟩ := b
              dsimp only at ht0 ht1 hbo ⊢
              obtain ⟨t, ht⟩ : ∃ t : Nat, tb = (t : Int) := ⟨tb.toNat, by omega⟩
              subst ht
              have hnew : At B S r (i + 1) (.int .i64 (t : Nat)) (.int .i64 (sum + ob)) := by
                left
                refine ⟨t, sum + ob, rfl, rfl, by rw [hN]; omega, by omega, by omega, ?_⟩
                have := HSAY.out
                rw [hb0] at this
                rw [this]
                dsimp only
                rw [show ((t : Int)).toNat = t by omega, Option.map_map]
                congr 1
                funext z
                show sum + (ob + z) = sum + ob + z
                omega
              have HNEW := Lib.hid hnew
              clear hnew
              go_wp2_with fail
              refine ⟨⟨i + 1, by first | rfl | congr 1, by omega, HNEW.out, HB2.out⟩, ?_⟩
              simp [intOf]; omega
      · have hin : i = n := by omega
        have hdn : r.drop i = [] := List.drop_eq_nil_of_le (by omega)
        rw [hdn] at hsay
        have hend : (sayR S r).map (B + ·) = (if s.fin then some s.out else none).map (sum + ·) := by
          rw [hsay]; conv => lhs; unfold say
          rw [hsat]
        have HEND := Lib.hid hend
        have HBW := Lib.hid hbw
        clear hsay hend hdn hbw
        obtain ⟨fin, out, arcs⟩ := s
        dsimp only at *
        cases fin
        · have hF : followR B S r = (0, false) := by
            have := HEND.out
            unfold followR
            cases hq : sayR S r with
            | none => rfl
            | some z => rw [hq] at this; cases this
          go_wp2_with fail
          go_ret2
          exact ⟨by first | rfl | (rw [hF]; rfl), by first | exact HBW.out | exact hQ ▸ HBW.out⟩
        · have hso : wrap64 (sum + out) = sum + out := IntWalk.wrap64_in _ (by omega)
          have hF : followR B S r = (sum + out, true) := by
            have := HEND.out
            unfold followR
            cases hq : sayR S r with
            | none => rw [hq] at this; cases this
            | some z =>
              rw [hq] at this
              have h1 : B + z = sum + out := by simpa using this
              rw [← h1]
          go_wp2_with fail
          go_ret2
          exact ⟨by first | rfl | (rw [hF]; rfl), by first | exact HBW.out | exact hQ ▸ HBW.out⟩
    · have hF : followR B S r = (0, false) := by unfold followR; rw [hno]
      by_cases hlt : (i : Int) < (n : Int)
      · go_wp2_with fail
        go_ret2
        exact ⟨by first | rfl | (rw [hF]; rfl), by first | exact hbw | exact hQ ▸ hbw⟩
      · go_wp2_with fail
        go_ret2
        exact ⟨by first | rfl | (rw [hF]; rfl), by first | exact hbw | exact hQ ▸ hbw⟩
end Go.Proofs.YtpbadnmfgffdlaaDoor.F
