/-
  The walk of Free.
-/
import Derived.Test.YtcpkpljeimbdiaaGreatDskRead
import Derived.Deep.RegionHeld3
namespace Go.Proofs.YtcpkpljeimbdiaaGreat.K
open Go.RowKit
open Aid
set_option linter.unusedSimpArgs false
set_option linter.unusedVariables false

/-- an area is let go -/
def dropA (st : DSt) (a : Int) : DSt := { st with F := fun x => if x = a then (fun _ => none) else st.F x, N := updN st.N a 0, A := updA st.A a false, C := if st.A a = true then st.C - 1 else st.C }
theorem DiskIn.freed {O : Nat → Prop} {w : World} {p m : Nat} {G : Int → Option Nat} {st : DSt} (h : DiskIn O w p m G st) {a : Int} (ha : (Lit.int .u64 a).wf = true) (ty : TypeId) :
    ∃ w', (Builtin.delete_ #[45, 37] ty #[.map (some m), .int .u64 a]).run Tryz.prog w = .ok (.tuple #[]) w' ∧
      DiskIn O w' p m (fun x => if x = a then none else G x) (dropA st a) ∧ Keeps O w w' := by
  obtain ⟨w', hrun, hM, ht⟩ := h.outer.drop Tryz.underlying37 Tryz.underlying45 ha ty
  refine ⟨w', hrun, ⟨blk_turned h.blk ht, h.op, h.om, ?_, fun x q hq => ?_, fun x y q hx hy => ?_, fun x hx => ?_, fun x => ?_⟩, turned_keeps ht h.om⟩
  · have e1 : ((G a).map fun g => Value.map (some g)).isSome = st.A a := by rw [h.present a]; cases G a <;> rfl
    have e2 : upd (fun a => (G a).map fun g => Value.map (some g)) a none = fun x => ((if x = a then none else G x) : Option Nat).map fun g => Value.map (some g) := by
      funext x; unfold upd; by_cases hx : x = a <;> simp [hx]
    rw [e2] at hM
    simp only [e1] at hM
    exact hM
  · by_cases hx : x = a
    · simp only [hx, if_true] at hq; cases hq
    · simp only [hx, if_false] at hq
      obtain ⟨oq, qm, S, hS, hf⟩ := h.inner x q hq
      have eN : (dropA st a).N x = st.N x := by simp [dropA, updN, hx]
      have eF : (dropA st a).F x = st.F x := by simp [dropA, hx]
      refine ⟨oq, qm, ?_⟩
      rw [eN, eF]
      refine ⟨S, hS.kept (turned_block ht qm), fun y => ⟨(hf y).1, fun s hs => ?_⟩⟩
      obtain ⟨v', e1, e2, e3⟩ := (hf y).2 s hs
      exact ⟨v', e1, e2.turned ht, e3⟩
  · by_cases e1 : x = a
    · simp only [e1, if_true] at hx; cases hx
    · by_cases e2 : y = a
      · simp only [e2, if_true] at hy; cases hy
      · simp only [e1, if_false] at hx
        simp only [e2, if_false] at hy
        exact h.inj x y q hx hy
  · by_cases e1 : x = a
    · subst e1; exact ⟨fun y => by simp [dropA], by simp [dropA, updN]⟩
    · simp only [e1, if_false] at hx
      obtain ⟨f1, f2⟩ := h.empty x hx
      exact ⟨fun y => by simp [dropA, e1, f1], by simp [dropA, updN, e1, f2]⟩
  · show updA st.A a false x = _
    unfold updA
    by_cases e1 : x = a
    · simp [e1]
    · simp [e1]; exact h.present x
theorem DiskIn.size {O : Nat → Prop} {w : World} {p m : Nat} {G : Int → Option Nat} {st : DSt} (h : DiskIn O w p m G st) (a : Int) (ty : TypeId) : (Builtin.len_ #[62] ty #[.map (G a)]).run Tryz.prog w = .ok (.int .i64 (st.N a)) w := by
  cases hg : G a with
  | none => rw [(h.empty a hg).2]; exact Maps.len_nil Tryz.underlying62 ty
  | some g =>
    obtain ⟨_, _, S, hS, _⟩ := h.inner a g hg
    exact hS.len Tryz.underlying62 ty

set_option maxRecDepth 100000 in
set_option maxHeartbeats 1000000 in
theorem free_dies (O : Nat → Prop) (p : Nat) (st : DSt) (area : Int) (w : World) (h : DiskIs O w p st) (hs : 0 ≤ st.steps ∧ st.steps ≤ 4611686018427387904) (hl : st.left ≤ 9223372036854775807) (hdie : (tickF st).dead = true) :
    Calls Tryz.prog 54 #[.pointer (some ⟨p, 0, none⟩), .int .u64 area] w fun e w' => e = .returned (.int .i64 30) ∧ DiskIs O w' p (tickF st) ∧ Keeps O w w' := by
  obtain ⟨m, G, hD⟩ := h
  obtain ⟨c0, c1, c2, c3, c4⟩ := hD.cells
  cases hd : st.dead
  · rw [hd] at c4
    have e : tickF st = stepF st := by unfold tickF; simp [hd]
    rw [e] at hdie ⊢
    go_enter Tryz.func54, Tryz.ntmps54
    go_wp2_with fail
    refine (step_in O p m G st w hD hs hl).mono ?_
    rintro e w1 ⟨rfl, D1, K1⟩
    rw [hdie]
    go_wp2_with fail
    go_ret
    exact ⟨rfl, ⟨m, G, D1⟩, K1⟩
  · rw [hd] at c4
    have e : tickF st = st := by unfold tickF; simp [hd]
    rw [e]
    go_enter Tryz.func54, Tryz.ntmps54
    go_wp2_with fail
    go_ret
    exact ⟨rfl, ⟨m, G, hD⟩, Keeps.refl _ _⟩
/-- what a well Free makes of a disk -/
def freeF (st : DSt) (a : Int) : DSt := dropA { stepF st with room := st.room + st.N a } a
set_option maxRecDepth 100000 in
set_option maxHeartbeats 2000000 in
theorem free_good (O : Nat → Prop) (p : Nat) (st : DSt) (area : Int) (w : World) (h : DiskIs O w p st) (ha : (Lit.int .u64 area).wf = true) (hs : 0 ≤ st.steps ∧ st.steps ≤ 4611686018427387904) (hl : st.left ≤ 9223372036854775807) (hd : st.dead = false) (hdie : (stepF st).dead = false)
    (hroom : 0 ≤ st.room ∧ st.room + (st.N area : Nat) ≤ 9223372036854775807) (hN : st.N area ≤ 1152921504606846976) :
    Calls Tryz.prog 54 #[.pointer (some ⟨p, 0, none⟩), .int .u64 area] w fun e w' => e = .returned (.int .i64 0) ∧ DiskIs O w' p (freeF st area) ∧ Keeps O w w' := by
  obtain ⟨m, G, hD⟩ := h
  obtain ⟨c0, c1, c2, c3, c4⟩ := hD.cells
  rw [hd] at c4
  obtain ⟨N, hNe⟩ : ∃ N, st.N area = N := ⟨_, rfl⟩
  rw [hNe] at hN hroom
  obtain ⟨s1, hs1⟩ : ∃ s1, stepF st = s1 := ⟨_, rfl⟩
  have hr1 : s1.room = st.room := by rw [← hs1]; rfl
  have hN1 : s1.N area = N := by rw [← hs1]; exact hNe
  have hfree : freeF st area = dropA { s1 with room := s1.room + (N : Int) } area := by unfold freeF; rw [hs1, hr1, hNe]
  have hstep := step_in O p m G st w hD hs hl
  rw [hs1] at hstep hdie
  have hwr : IntKind.i64.wrap (s1.room + (N : Int)) = s1.room + (N : Int) := by rw [hr1]; exact IntWalk.i64_in _ (by omega)
  have HWR := Lib.hid hwr
  have HF := Lib.hid hfree
  clear hwr hs1 hfree hr1
  go_enter Tryz.func54, Tryz.ntmps54
  go_wp2_with fail
  refine hstep.mono ?_
  rintro e w1 ⟨rfl, D1, K1⟩
  rw [hdie]
  obtain ⟨g0, hg0⟩ : ∃ g0, G area = g0 := ⟨_, rfl⟩
  have Dd : DiskIn O w1.drew p m G s1 := D1.keep (O' := fun _ => False) (Keeps.of_below ((Below.refl _ _).drew)) (fun _ _ h => h)
  obtain ⟨d0, d1, d2, d3, d4⟩ := Dd.cells
  have hL := Dd.area ha
  have hLen := Dd.size area 3
  rw [hg0] at hL hLen
  rw [hN1] at hLen
  have f0 : w1.drew.frozen? ⟨p, 0, none⟩ = false := Blk.free Dd.blk 0
  have D2 : DiskIn O (w1.drew.setCell ⟨p, 0, none⟩ (.int .i64 (s1.room + (N : Int)))) p m G { s1 with room := s1.room + (N : Int) } := Dd.turn (by have := Dd.blk.set 0 (.int .i64 (s1.room + (N : Int))); exact this) (fun k hk => Below.heap_setCell _ _ _ _ hk) (by simp) rfl rfl rfl rfl
  have K2 : Keeps O w1.drew (w1.drew.setCell ⟨p, 0, none⟩ (.int .i64 (s1.room + (N : Int)))) := set_keeps (Keeps.refl _ _) D1.op (StrRow.no_blk (show Blk w1.drew p _ _ from D1.blk) (by decide))
  have hL2 := D2.area ha
  have hLen2 := D2.size area 3
  rw [hg0] at hL2 hLen2
  have e2 : ({ s1 with room := s1.room + (N : Int) } : DSt).N area = N := hN1
  rw [e2] at hLen2
  obtain ⟨w3, hrun3, D3, K3⟩ := D2.freed ha 0
  clear hstep
  go_wp2_with fail
  refine wp_region_noPanic ?_
  refine wp_region_held_drew (S := fun w' => w'.cell? ⟨p, 2, none⟩ = some (.map (some m)) ∧ (Instr.lookup 45 (.map (some m)) (.int .u64 area) false).run Tryz.prog w' = .ok (.map g0) w' ∧ (Builtin.len_ #[62] 3 #[.map g0]).run Tryz.prog w' = .ok (.int .i64 N) w') (by kernel_rfl) ⟨d2, hL, hLen⟩ (fun hHeld => ?_)
  refine wpAnyH_take (i := 0) (v := .pointer (some ⟨p, 0, none⟩)) rfl (by kernel_rfl) (by kernel_rfl) (by kernel_rfl) (fun _ _ _ h => h) (.inl ⟨by rfl, by intro w hSw; go_simp⟩) hHeld ?_
  simp only [Act.put, List.getElem_toArray, List.getElem_cons_succ, List.getElem_cons_zero, List.setIfInBounds_toArray, List.set_cons_zero, List.set_cons_succ]
  refine wpAnyH_take (i := 1) (v := .pointer (some ⟨p, 0, none⟩)) rfl (by kernel_rfl) (by kernel_rfl) (by kernel_rfl) (fun _ _ _ h => h) (.inl ⟨by rfl, by intro w hSw; go_simp⟩) hHeld ?_
  simp only [Act.put, List.getElem_toArray, List.getElem_cons_succ, List.getElem_cons_zero, List.setIfInBounds_toArray, List.set_cons_zero, List.set_cons_succ]
  refine wpAnyH_take (i := 2) (v := .pointer (some ⟨p, 0, none⟩)) rfl (by kernel_rfl) (by kernel_rfl) (by kernel_rfl) (fun _ _ _ h => h) (.inl ⟨by rfl, by intro w hSw; go_simp⟩) hHeld ?_
  simp only [Act.put, List.getElem_toArray, List.getElem_cons_succ, List.getElem_cons_zero, List.setIfInBounds_toArray, List.set_cons_zero, List.set_cons_succ]
  refine wpAnyH_take (i := 4) (v := .pointer (some ⟨p, 0, none⟩)) rfl (by kernel_rfl) (by kernel_rfl) (by kernel_rfl) (fun _ _ _ h => h) (.inl ⟨by rfl, by intro w hSw; go_simp⟩) hHeld ?_
  simp only [Act.put, List.getElem_toArray, List.getElem_cons_succ, List.getElem_cons_zero, List.setIfInBounds_toArray, List.set_cons_zero, List.set_cons_succ]
  refine wpAnyH_take (i := 5) (v := .pointer (some ⟨p, 0, none⟩)) rfl (by kernel_rfl) (by kernel_rfl) (by kernel_rfl) (fun _ _ _ h => h) (.inl ⟨by rfl, by intro w hSw; go_simp⟩) hHeld ?_
  simp only [Act.put, List.getElem_toArray, List.getElem_cons_succ, List.getElem_cons_zero, List.setIfInBounds_toArray, List.set_cons_zero, List.set_cons_succ]
  refine wpAnyH_take (i := 6) (v := .pointer (some ⟨p, 2, none⟩)) rfl (by kernel_rfl) (by kernel_rfl) (by kernel_rfl) (fun _ _ _ h => h) (.inl ⟨by rfl, by intro w hSw; go_simp⟩) hHeld ?_
  simp only [Act.put, List.getElem_toArray, List.getElem_cons_succ, List.getElem_cons_zero, List.setIfInBounds_toArray, List.set_cons_zero, List.set_cons_succ]
  refine wpAnyH_take (i := 7) (v := .map (some m)) rfl (by kernel_rfl) (by kernel_rfl) (by kernel_rfl) (fun _ _ _ h => h) (.inl ⟨by rfl, by intro w hSw; have hx := hSw.1; go_simp⟩) hHeld ?_
  simp only [Act.put, List.getElem_toArray, List.getElem_cons_succ, List.getElem_cons_zero, List.setIfInBounds_toArray, List.set_cons_zero, List.set_cons_succ]
  refine wpAnyH_take (i := 8) (v := .int .u64 area) rfl (by kernel_rfl) (by kernel_rfl) (by kernel_rfl) (fun _ _ _ h => h) (.inl ⟨by rfl, by intro w hSw; go_simp⟩) hHeld ?_
  simp only [Act.put, List.getElem_toArray, List.getElem_cons_succ, List.getElem_cons_zero, List.setIfInBounds_toArray, List.set_cons_zero, List.set_cons_succ]
  refine wpAnyH_take (i := 9) (v := .map g0) rfl (by kernel_rfl) (by kernel_rfl) (by kernel_rfl) (fun _ _ _ h => h) (.inl ⟨by rfl, by intro w hSw; have hx := hSw.2.1; go_simp⟩) hHeld ?_
  simp only [Act.put, List.getElem_toArray, List.getElem_cons_succ, List.getElem_cons_zero, List.setIfInBounds_toArray, List.set_cons_zero, List.set_cons_succ]
  refine wpAnyH_take (i := 10) (v := .int .i64 N) rfl (by kernel_rfl) (by kernel_rfl) (by kernel_rfl) (fun _ _ _ h => h) (.inl ⟨by rfl, by intro w hSw; have hx := hSw.2.2; go_simp⟩) hHeld ?_
  simp only [Act.put, List.getElem_toArray, List.getElem_cons_succ, List.getElem_cons_zero, List.setIfInBounds_toArray, List.set_cons_zero, List.set_cons_succ]
  refine wpAnyH_ready (rs := [3]) (by kernel_rfl) (by simp) ?_
  refine AllReadyH.cons rfl (fun K hK => ?_) AllReadyH.nil
  go_simp
  refine hK.out _ _ ⟨d2, hL, hLen⟩ (fun hHeld => ?_)
  clear hK K
  refine wpAnyH_take (i := 11) (v := .int .i64 (s1.room + (N : Int))) rfl (by kernel_rfl) (by kernel_rfl) (by kernel_rfl) (fun _ _ _ h => h) (.inl ⟨by rfl, by intro w hSw; have hx := HWR.out; go_simp⟩) hHeld ?_
  simp only [Act.put, List.getElem_toArray, List.getElem_cons_succ, List.getElem_cons_zero, List.setIfInBounds_toArray, List.set_cons_zero, List.set_cons_succ]
  refine wpAnyH_take (i := 12) (v := .pointer (some ⟨p, 0, none⟩)) rfl (by kernel_rfl) (by kernel_rfl) (by kernel_rfl) (fun _ _ _ h => h) (.inl ⟨by rfl, by intro w hSw; go_simp⟩) hHeld ?_
  simp only [Act.put, List.getElem_toArray, List.getElem_cons_succ, List.getElem_cons_zero, List.setIfInBounds_toArray, List.set_cons_zero, List.set_cons_succ]
  refine wpAnyH_take (i := 13) (v := .pointer (some ⟨p, 0, none⟩)) rfl (by kernel_rfl) (by kernel_rfl) (by kernel_rfl) (fun _ _ _ h => h) (.inl ⟨by rfl, by intro w hSw; go_simp⟩) hHeld ?_
  simp only [Act.put, List.getElem_toArray, List.getElem_cons_succ, List.getElem_cons_zero, List.setIfInBounds_toArray, List.set_cons_zero, List.set_cons_succ]
  refine wpAnyH_ready (rs := [14]) (by kernel_rfl) (by simp) ?_
  refine AllReadyH.cons rfl (fun K hK => ?_) AllReadyH.nil
  go_simp
  refine hK.out _ _ ⟨D2.cells.2.2.1, hL2, hLen2⟩ (fun hHeld => ?_)
  clear hK K
  refine wpAnyH_done (by kernel_rfl) ?_ _
  refine NoPanic.normal ?_
  have k2 := D2.cells.2.2.1
  have hrun4 : (Builtin.delete_ #[45, 37] 0 #[.map (some m), .int .u64 area]).run Tryz.prog (w1.setCell ⟨p, 0, none⟩ (.int .i64 (s1.room + (N : Int)))).drew = .ok (.tuple #[]) w3 := hrun3
  go_wp2_with fail
  go_ret
  refine ⟨rfl, ⟨m, (fun x => if x = area then none else G x), ?_⟩, ?_⟩
  · rw [HF.out]; exact D3
  · exact Keeps.trans (Keeps.trans (Keeps.trans K1 (Keeps.of_below ((Below.refl w1.heap.size w1).drew) : Keeps (fun _ => False) _ _) (fun _ h => h.elim)) K2 (fun _ h => .inl h)) K3 (fun _ h => .inl h)
end Go.Proofs.YtcpkpljeimbdiaaGreat.K
