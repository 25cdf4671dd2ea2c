/-
  FstAdd.
-/
import Derived.Test.YtkibkbbjpgomlaaDoorWqFstBld
import Derived.Maps.AppendAt
import Derived.Deep.RegionHeld3
import Derived.Deep.AppendLies
namespace Go.Proofs.YtkibkbbjpgomlaaDoor.F
open Go.RowKit Go.Shelf Go.Maps
open Aid
set_option linter.unusedSimpArgs false
set_option linter.unusedVariables false
attribute [local go_sem] Oper.semAt_some

/-- what an arc may be -/
def ArcOk (a : ArcM) : Prop := i64 a.label ∧ i64 a.out ∧ i64 a.to_ ∧ (Lit.int .i32 a.label).wf = true
/-- where the arcs are gone through: what is kept -/
structure AddIn (Wl : World) (b : Bd) (K0 : Nat) (nu0 : Nums × Nat) (pre : List {x : Nat × ArcM // ArcOk x.2}) (W : World) : Prop where
  links : LinksIn W b.lm (kFold nu0 (pre.map (·.1.2))).1
  box : Blk W K0 3 #[.int .i64 ((kFold nu0 (pre.map (·.1.2))).2 : Nat)]
  turn : Turn (fun x => x = b.lm ∨ x = K0) Wl W
theorem Turn.grown {O : Nat → Prop} {a b c : World} {row : Option Nat} (h : Turn O a b) (hg : b.grownBy c row) (hr : ∀ r, row = some r → a.heap.size ≤ r) : Turn O a c :=
  ⟨Nat.le_trans h.size hg.size, hg.os.trans h.os, hg.tape.trans h.tape, hg.output.trans h.output, fun x hx hn => (hg.block x (Nat.lt_of_lt_of_le hx h.size) (fun e => by have := hr x e.symm; omega)).trans (h.kept x hx hn)⟩
theorem AddIn.own {Wl : World} {b : Bd} {K0 : Nat} {nu0 : Nums × Nat} (hlm : b.lm < Wl.heap.size) (hK : K0 < Wl.heap.size) : OwnFrom Wl.heap.size (AddIn Wl b K0 nu0) := fun s A B row hs hg hr =>
  ⟨hs.links.kept (hg.block _ hs.links.lt (fun e => by have := (hr _ e.symm).1; omega)), (hg.block _ hs.box.lt (fun e => by have := (hr _ e.symm).1; omega)).trans hs.box, hs.turn.grown hg (fun r e => (hr r e).1)⟩
theorem info_st' : ∃ i z, Tryd.prog.info? 61 = some i ∧ i.zero = some z ∧ i.size = 3 ∧ i.bytes = 40 ∧ z.cells.size = 3 := by
  have h : (Tryd.prog.info? 61).map (fun i => (i.zero.map (·.cells.size), i.size, i.bytes)) = some (some 3, 3, 40) := by kernel_rfl
  cases hq : Tryd.prog.info? 61 with
  | none => rw [hq] at h; cases h
  | some i =>
    rw [hq] at h
    simp only [Option.map_some, Option.some.injEq, Prod.mk.injEq] at h
    cases hz : i.zero with
    | none => rw [hz] at h; cases h.1
    | some z =>
      rw [hz] at h
      simp only [Option.map_some, Option.some.injEq] at h
      exact ⟨i, z, rfl, hz, h.2.1, h.2.2, h.1⟩
theorem rowS_snoc (q : List (StM × Value)) (y : StM × Value) : rowS (q ++ [y]) = rowS q ++ (stV y.1 y.2).toList := by unfold rowS; simp
theorem owns_shape {w : World} {base : Nat} {e : TypeId} {size n : Nat} {v : Value} {xs : List Value} (h : w.ownsRow base e size v n xs) : ∃ a c, v = .slice a n c := by
  rcases h.2 with ⟨e, h0⟩ | ⟨g, cap, cur, hv, _⟩
  · exact ⟨none, 0, by rw [e, h0]⟩
  · exact ⟨_, cap, hv⟩
theorem wp_append_run {P : Program} {w : World} {o : Oper} {a : Act} {K : Act → World → Prop} {Q : Exit → Act → World → Prop} (s x : Operand) (t : TypeId)
    (ho : o.op = .call { callee := .builtin .append, args := #[s, x], argTypes := #[t, t] }) (v y : Value) (hs : a.eval s = v) (hx : a.eval x = y) {v' : Value} {w' : World}
    (hr : (Builtin.append_ #[t, t] o.type #[v, y]).run P w = .ok v' w') (h : K (a.put o.dst v') w') : o.wp P a w K Q := by
  unfold Oper.wp execOp
  simp only [ho, resolve, invoke, builtin, Sem.run_bind, Sem.run_pure, Result.andThen_ok, List.map_toArray, List.map_cons, List.map_nil, hs, hx, hr]
  exact h
def addM (q : List (StM × Value)) (by_ : Int → Option Value) (k : Nat) (s : StM) (u : Value) : Value × List (StM × Value) × (Int → Option Value) :=
  match by_ (k : Nat) with
  | some n => (n, q, by_)
  | none => (.int .i64 (q.length : Nat), q ++ [(s, u)], upd by_ (k : Nat) (some (.int .i64 (q.length : Nat))))
def AddEnd (b : Bd) (q : List (StM × Value)) (nu : Nums) (by_ : Int → Option Value) (cb : Nat) (s : StM) (u : Value) (w : World) (e : Ending) (w' : World) : Prop :=
  ∃ v', e = .returned (addM q by_ (chainN nu s).2 s u).1 ∧ BIs w' { b with v := v' } (addM q by_ (chainN nu s).2 s u).2.1 (chainN nu s).1 (addM q by_ (chainN nu s).2 s u).2.2 (if (by_ ((chainN nu s).2 : Nat)).isSome then cb else cb + 1) ∧
    Turn b.O w w' ∧ ∀ x, x < w.heap.size → Bd.O { b with v := v' } x → b.O x
theorem i64_iff (x : Int) : i64 x ↔ -9223372036854775808 ≤ x ∧ x ≤ 9223372036854775807 := by
  have h1 : IntKind.i64.min = -9223372036854775808 := by decide
  have h2 : IntKind.i64.max = 9223372036854775807 := by decide
  show (decide (IntKind.i64.min ≤ x) && decide (x ≤ IntKind.i64.max)) = true ↔ _
  rw [h1, h2]
  simp
theorem i32_iff (x : Int) : (Lit.int .i32 x).wf = true ↔ -2147483648 ≤ x ∧ x ≤ 2147483647 := by
  have h1 : IntKind.i32.min = -2147483648 := by decide
  have h2 : IntKind.i32.max = 2147483647 := by decide
  show (decide (IntKind.i32.min ≤ x) && decide (x ≤ IntKind.i32.max)) = true ↔ _
  rw [h1, h2]
  simp
theorem i64_0 : i64 0 := by unfold i64; decide
theorem i64_m : i64 (-1) := by unfold i64; decide
theorem two_under (w : World) (o p : Obj) : Below w.heap.size w ((w.alloc o).alloc p) := ((Below.refl _ _).alloc (Nat.le_refl _) _).alloc (by simp) _
theorem two_blk (w : World) (o : Obj) (cs : Array Value) (t : TypeId) : Blk ((w.alloc o).alloc (.cells cs t)) (w.heap.size + 1) t cs := by
  have := Blk.alloc_new (w.alloc o) cs t
  rwa [World.size_alloc] at this
set_option maxRecDepth 100000 in
set_option maxHeartbeats 4000000 in
theorem add_any (b : Bd) (q : List (StM × Value)) (nu : Nums) (by_ : Int → Option Value) (cb : Nat) (s : StM) (u : Value) (w : World) (h : BIs w b q nu by_ cb) (hnu : NumsOk nu) (ha : ArcsAre b.O w u s.arcs)
    (hs : i64 s.out) (har : ∀ a ∈ s.arcs, ArcOk a) (hq : q.length ≤ 1000000) (hc : nu.cnt ≤ 100000000) (hcb : cb ≤ 1000000) :
    Calls Tryd.prog 30 #[.pointer (some ⟨b.p, 0, none⟩), .agg (stV s u)] w (AddEnd b q nu by_ cb s u w) := by
  have hal : s.arcs.length ≤ 1000000 := by obtain ⟨_, _, _, h, _⟩ := ha; exact h
  obtain ⟨bp, lm, bm, bv⟩ := b
  obtain ⟨av, cv, rfl⟩ := ha.slice
  obtain ⟨fin, out, arcs⟩ := s
  unfold stV
  dsimp only at *
  obtain ⟨Q, hQ⟩ : ∃ Q, w.heap.size = Q := ⟨_, rfl⟩
  obtain ⟨W1, hW1⟩ : ∃ W1, (w.alloc (.cells #[.pointer (some ⟨bp, 0, none⟩)] 51)).alloc (.cells #[.bool fin, .int .i64 out, .slice av arcs.length cv] 61) = W1 := ⟨_, rfl⟩
  have hb1 : Below w.heap.size w W1 := by rw [← hW1]; exact two_under _ _ _
  have bQ : Blk W1 Q 51 #[.pointer (some ⟨bp, 0, none⟩)] := by
    rw [← hW1, ← hQ]; exact (Blk.alloc_new _ _ _).below ((Below.refl _ _).alloc (Nat.le_refl _) _) (by simp)
  have bS : Blk W1 (Q + 1) 61 #[.bool fin, .int .i64 out, .slice av arcs.length cv] := by rw [← hW1, ← hQ]; exact two_blk _ _ _ _
  have hz1 : W1.heap.size = Q + 1 + 1 := by rw [← hW1, ← hQ]; simp
  have q0 : W1.cell? ⟨Q, 0, none⟩ = some (.pointer (some ⟨bp, 0, none⟩)) := by rw [Blk.cell bQ]; rfl
  have s0 : W1.cell? ⟨Q + 1, 0, none⟩ = some (.bool fin) := by rw [Blk.cell bS]; rfl
  have s1 : W1.cell? ⟨Q + 1, 1, none⟩ = some (.int .i64 out) := by rw [Blk.cell bS]; rfl
  have hp := h.blk.lt
  have hk0 := known_any bp lm bm bv nu (kNil ⟨fin, out, arcs⟩) W1 (h.blk.below hb1 hp) (h.links.kept (hb1.block lm (by have h1 : lm < bp := h.lmp; have h2 : bp < w.heap.size := hp; omega))) ⟨hs, i64_0, i64_0, i64_m, i64_0⟩ (by omega)
  refine (callsIn_wide (n := 6)).1 ?_
  refine callsIn_of_wp_marks Tryd.func30 rfl trivial ?_ rfl
  refine wpIn_wide.2 ?_
  simp only [Tryd.ntmps30, List.size_toArray, List.length_cons, List.length_nil, Nat.reduceAdd, Nat.reduceSub, Array.replicate_succ, Array.replicate_zero, List.push_toArray, List.append_toArray, List.nil_append, List.cons_append]
  obtain ⟨N0, hN0⟩ : ∃ N0, knownN nu (kNil ⟨fin, out, arcs⟩) = N0 := ⟨_, rfl⟩
  unfold KnownEnd at hk0
  rw [hN0] at hk0
  have hlmp : lm < bp := h.lmp
  have hpQ : bp < Q := by rw [← hQ]; exact hp
  go_wp2_with (first
    | (go_at_call 43; refine hk0.mono ?_; rintro e w2 ⟨rfl, HL2, hz2, o1, o2, o3, hk2⟩
       have T2 : Turn (fun x => x = lm) W1 w2 := ⟨hz2, o1, o2, o3, fun x hx hn => hk2 x hx hn⟩
       have bS2 := T2.blk bS (by show ¬ (Q + 1 = lm); omega)
       obtain ⟨W3, hW3⟩ : ∃ W3, w2.alloc (.cells #[.int .i64 (N0 : Nat)] 3) = W3 := ⟨_, rfl⟩
       have hb3 : Below w2.heap.size w2 W3 := by rw [← hW3]; exact (Below.refl _ _).alloc (Nat.le_refl _) _
       have bS3 := bS2.below hb3 bS2.lt
       obtain ⟨K0, hK0⟩ : ∃ K0, w2.heap.size = K0 := ⟨_, rfl⟩
       have s2 : W3.cell? ⟨Q + 1, 2, none⟩ = some (.slice av arcs.length cv) := by rw [Blk.cell bS3]; rfl)
    | (go_at_call 44; refine (backward_any _ _ _ _).mono ?_; rintro e w3 ⟨rfl, rfl⟩))
  have hAO : ∀ x, x < w.heap.size → (x = lm) → Bd.O ⟨bp, lm, bm, bv⟩ x := fun x _ e => .inr (.inl e)
  have T3 : Turn (Bd.O ⟨bp, lm, bm, bv⟩) w W3 := ((Turn.of_below (O := Bd.O ⟨bp, lm, bm, bv⟩) hb1).trans T2 hAO).trans (Turn.of_below (O := fun _ => False) hb3) (fun _ _ h => h.elim)
  obtain ⟨W4, hW4⟩ : ∃ W4, W3.alloc (.cells #[.slice av arcs.length cv] 59) = W4 := ⟨_, rfl⟩
  have hb4 : Below W3.heap.size W3 W4 := by rw [← hW4]; exact (Below.refl _ _).alloc (Nat.le_refl _) _
  obtain ⟨sb, hsb⟩ : ∃ sb, W3.heap.size = sb := ⟨_, rfl⟩
  have hz4 : W4.heap.size = sb + 1 := by rw [← hW4, ← hsb]; simp
  have hz3 : sb = K0 + 1 := by rw [← hsb, ← hK0, ← hW3]; simp
  have bB4 : Blk W4 sb 59 #[.slice av arcs.length cv] := by rw [← hW4, ← hsb]; exact Blk.alloc_new _ _ _
  have T4 : Turn (Bd.O ⟨bp, lm, bm, bv⟩) w W4 := T3.trans (Turn.of_below (O := fun _ => False) hb4) (fun _ _ h => h.elim)
  have hA4 := ha.turn T4 (fun _ _ h => h)
  have hm4 : W4.cell? ⟨sb, 0, none⟩ = some (.slice av arcs.length cv) := by rw [Blk.cell bB4]; rfl
  have hL4 : LinksIn W4 lm (knownB nu (kNil ⟨fin, out, arcs⟩)) := (HL2.kept (hb3.block lm HL2.lt)).kept (hb4.block lm (by have := HL2.lt; omega))
  have T14 : Turn (fun x => x = lm) W1 W4 := (T2.trans (Turn.of_below (O := fun _ => False) hb3) (fun _ _ h => h.elim)).trans (Turn.of_below (O := fun _ => False) hb4) (fun _ _ h => h.elim)
  have bB4' : Blk W4 bp 55 #[bv, .map (some lm), .map (some bm)] := T14.blk (h.blk.below hb1 hp) (by show ¬ bp = lm; omega)
  have bQ4 : Blk W4 Q 51 #[.pointer (some ⟨bp, 0, none⟩)] := T14.blk bQ (by show ¬ Q = lm; omega)
  have hK0Q : Q + 1 < K0 := by omega
  have bK4 : Blk W4 K0 3 #[.int .i64 (N0 : Nat)] := Blk.below (by rw [← hW3, ← hK0]; exact Blk.alloc_new _ _ _) hb4 (by omega)
  rw [hW4, hsb]
  refine wpIn_wide.1 (wpIn_rangeFunc_ownH (F := Fence.wide) (n := 6) rfl (by decide) (gf := 48) (lb := #[.pointer (some ⟨sb, 0, none⟩)]) rfl trivial (enters_of Tryd.func48 (by kernel_rfl) rfl)
    (back_stops Fence.wide 5 trivial rfl (by decide) sb (Bd.O ⟨bp, lm, bm, bv⟩) (.slice av arcs.length cv) arcs ArcOk har W4 bB4.lt hm4 hA4) (fun h k => h.trans k)
    (fun W l o o' hl ho _ _ => ⟨by simp, fun x hx => World.putObj_heap_other (by rcases hx with rfl | hx; (first | omega | (have := hz4; omega)); have := (hA4.block hx).1; omega)⟩)
    (Below.refl _ _) (fun _ => rfl) (AddIn W4 ⟨bp, lm, bm, bv⟩ K0 (knownB nu (kNil ⟨fin, out, arcs⟩), N0)) (fun _ _ _ => False) ?own (fun _ _ _ _ _ hs _ _ => hs) ?start
    (fun x a' W => ∃ g, W4.heap.size ≤ g ∧ Blk W g 63 (arcV x.1.2) ∧ a' = { tmps := #[.pointer (some ⟨bp, 0, none⟩), .agg #[.bool fin, .int .i64 out, .slice av arcs.length cv], .pointer (some ⟨Q, 0, none⟩), .pointer (some ⟨Q + 1, 0, none⟩), .int .i64 0, .pointer (some ⟨K0, 0, none⟩), undef, .pointer (some ⟨g, 0, none⟩), undef, undef, .pointer (some ⟨bp, 0, none⟩), .pointer (some ⟨Q + 1, 0, none⟩), .bool fin, .pointer (some ⟨Q + 1, 1, none⟩), .int .i64 out, .agg #[.bool fin, .int .i64 out, .int .i64 0, .int .i64 0, .int .i64 (-1), .int .i64 0], .int .i64 (N0 : Nat), .pointer (some ⟨Q + 1, 2, none⟩), .slice av arcs.length cv, .func (.func 48) #[] #[.pointer (some ⟨sb, 0, none⟩)], .int .i64 (x.1.1 : Nat), .agg (arcV x.1.2), undef, undef, undef, undef, undef, undef, undef, undef, undef, undef, undef, undef, undef, undef, undef, undef, undef, undef, undef, undef, undef, undef, undef, undef, undef, undef, undef, undef, undef, undef, undef, undef, undef, undef, undef, undef, undef, undef, undef, undef, undef, undef, undef, undef, undef], defers := [] }) ?ownx ?assign ?body ?done ?stop)
  case own => exact AddIn.own (b := ⟨bp, lm, bm, bv⟩) (by show lm < _; exact hL4.lt) bK4.lt
  case start => exact ⟨hL4, bK4, Turn.refl _ _⟩
  case ownx =>
    rintro x a' _ A B row ⟨g, hg, hb, e⟩ hgr hr
    refine ⟨g, hg, (hgr.block g hb.lt (fun e' => ?_)).trans hb, e⟩
    obtain ⟨_, o, ho, hc⟩ := hr g e'.symm
    rw [show A.heap[g]? = _ from hb] at ho
    cases ho
    cases hc
  case assign =>
    intro l pre x W K hI hK
    obtain ⟨⟨i, la, ou, tt⟩, hx⟩ := x
    unfold arcV
    gi_wp2
    have hzW := hI.turn.size
    refine hK _ _ ((KeepsOthers.alloc W _).from _) ⟨by simp, fun x hx => Below.heap_alloc _ _ _ ?_⟩ ((AddIn.own (b := ⟨bp, lm, bm, bv⟩) (by show lm < _; exact hL4.lt) bK4.lt).alloc _ hI) ⟨W.heap.size, hzW, Blk.alloc_new _ _ _, by rw [hz3]; rfl⟩
    rcases hx with rfl | hx
    · omega
    · have := (hA4.block hx).1; omega
  case body =>
    rintro l pre x a' W hl ⟨r, hr⟩ hI ⟨g, hg, bG, rfl⟩ hlt
    obtain ⟨⟨i, la, ou, tt⟩, hx⟩ := x
    obtain ⟨⟨nuW, kW⟩, hfold⟩ : ∃ p, kFold (knownB nu (kNil ⟨fin, out, arcs⟩), N0) (pre.map (·.1.2)) = p := ⟨_, rfl⟩
    have hIl := hI.links
    have hIb := hI.box
    have hIt := hI.turn
    rw [hfold] at hIl hIb
    dsimp only at hIl hIb
    have hzW := hIt.size
    have bBW : Blk W bp 55 #[bv, .map (some lm), .map (some bm)] := hIt.blk bB4' (by show ¬ (bp = lm ∨ bp = K0); omega)
    have bQW : Blk W Q 51 #[.pointer (some ⟨bp, 0, none⟩)] := hIt.blk bQ4 (by show ¬ (Q = lm ∨ Q = K0); omega)
    have c0 : W.cell? ⟨Q, 0, none⟩ = some (.pointer (some ⟨bp, 0, none⟩)) := by rw [Blk.cell bQW]; rfl
    have c1 : W.cell? ⟨K0, 0, none⟩ = some (.int .i64 (kW : Nat)) := by rw [Blk.cell hIb]; rfl
    have g0 : W.cell? ⟨g, 0, none⟩ = some (.int .i32 la) := by rw [Blk.cell bG]; rfl
    have g1 : W.cell? ⟨g, 1, none⟩ = some (.int .i64 ou) := by rw [Blk.cell bG]; rfl
    have g2 : W.cell? ⟨g, 2, none⟩ = some (.int .i64 tt) := by rw [Blk.cell bG]; rfl
    have hlen : pre.length < arcs.length := hlt
    obtain ⟨y1, y2, y3, y4⟩ := hx
    dsimp only at y1 y2 y3 y4
    have hko := known_ok hnu (kNil ⟨fin, out, arcs⟩)
    have hfo := kFold_ok (pre.map (·.1.2)) (knownB nu (kNil ⟨fin, out, arcs⟩), N0) hko.1 (by rw [← hN0]; exact hko.2.1)
    rw [hfold] at hfo
    obtain ⟨fo1, fo2, fo3⟩ := hfo
    dsimp only at fo1 fo2 fo3
    rw [List.length_map] at fo3
    have hko3 := hko.2.2.1
    have hkW : kW < 200000000 := by omega
    have hw1 : IntKind.i64.wrap ((kW : Int) + 1) = (kW : Int) + 1 := IntWalk.i64_in _ (by omega)
    have hwl : IntKind.i64.wrap la = la := IntWalk.i64_in _ ((i64_iff _).1 y1)
    have hk := known_any bp lm bm bv nuW ⟨false, 0, la, ou, tt, (kW : Int) + 1⟩ W bBW hIl ⟨i64_0, y1, y2, y3, by show i64 ((kW : Int) + 1); rw [i64_iff]; omega⟩ (by omega)
    unfold KnownEnd at hk
    obtain ⟨N1, hN1⟩ : ∃ N1, knownN nuW ⟨false, 0, la, ou, tt, (kW : Int) + 1⟩ = N1 := ⟨_, rfl⟩
    rw [hN1] at hk
    have hff : (Fence.wide.inRound l).fn 43 := trivial
    have hff2 : Fence.wide.fn 43 := trivial
    have hdd : 1 ≤ 6 - 1 - 1 := by decide
    unfold Link.v at hk
    dsimp only at hk
    gi_wp2
    refine (CallsIn.inRound l (callsIn_wide.2 hk)).mono ?_
    rintro e w5 ⟨rfl, HL5, hz5, p1, p2, p3, hk5⟩
    have T5 : Turn (fun x => x = lm) W w5 := ⟨hz5, p1, p2, p3, fun x hx hn => hk5 x hx hn⟩
    have bK5 := T5.blk hIb (by show ¬ (K0 = lm); omega)
    have d0 : w5.cell? ⟨K0, 0, none⟩ = some (.int .i64 (kW : Nat)) := by rw [Blk.cell bK5]; rfl
    have d1 : w5.frozen? ⟨K0, 0, none⟩ = false := Blk.free bK5 0
    gi_wp2
    have hlW : lm < W4.heap.size := hL4.lt
    have hKW : K0 < W4.heap.size := bK4.lt
    have hT6 : ∀ x, x < W.heap.size → x ≠ lm → x ≠ K0 → (w5.setCell ⟨K0, 0, none⟩ (.int .i64 (N1 : Nat))).heap[x]? = W.heap[x]? := fun x hx h1 h2 => (Below.heap_setCell _ _ _ _ (fun e => h2 e)).trans (hk5 x hx h1)
    refine ⟨⟨by simpa using hz5, fun k o hB hk ho => (hT6 k (Array.getElem?_eq_some_iff.1 hk).1 (by omega) (by omega)).trans hk⟩, ⟨by simpa using hz5, fun x hx => ?_⟩, ?_, ?_, ?_⟩
    · rcases hx with rfl | hx
      · exact hT6 _ (by omega) (by omega) (by omega)
      · have h1 := hA4.block hx
        have h2 : x < w.heap.size ∧ ¬ Bd.O ⟨bp, lm, bm, bv⟩ x := ha.block hx
        exact hT6 x (by omega) (fun e => h1.2 (.inr (.inl e))) (by omega)
    · rw [List.map_append, List.map_cons, List.map_nil, kFold_snoc, hfold]
      exact HL5.kept (Below.heap_setCell _ _ _ _ (by show lm ≠ K0; omega))
    · rw [List.map_append, List.map_cons, List.map_nil, kFold_snoc, hfold]
      have := bK5.set 0 (.int .i64 (N1 : Nat))
      show Blk _ _ _ #[Value.int .i64 ((knownN nuW ⟨false, 0, la, ou, tt, (kW : Int) + 1⟩ : Nat) : Int)]
      rw [hN1]
      exact this
    · refine hIt.trans ⟨by simpa using hz5, p1, p2, p3, fun x hx hn => hT6 x hx (fun e => hn (.inl e)) (fun e => hn (.inr e))⟩ (fun _ _ h => h)
  case stop => rintro D c pre W _ _ h _; exact h.elim
  case done =>
    rintro D xs W hD hxs hI hDW
    obtain ⟨⟨nuE, kE⟩, hch⟩ : ∃ p, chainN nu ⟨fin, out, arcs⟩ = p := ⟨_, rfl⟩
    have hfold : kFold (knownB nu (kNil ⟨fin, out, arcs⟩), N0) (xs.map (·.1.2)) = (nuE, kE) := by rw [hxs, ← hN0]; exact hch
    have hIl := hI.links
    have hIb := hI.box
    have hIt := hI.turn
    rw [hfold] at hIl hIb
    dsimp only at hIl hIb
    have hzW := hIt.size
    have bBW : Blk W bp 55 #[bv, .map (some lm), .map (some bm)] := hIt.blk bB4' (by show ¬ (bp = lm ∨ bp = K0); omega)
    have bQW : Blk W Q 51 #[.pointer (some ⟨bp, 0, none⟩)] := hIt.blk bQ4 (by show ¬ (Q = lm ∨ Q = K0); omega)
    have c0 : W.cell? ⟨Q, 0, none⟩ = some (.pointer (some ⟨bp, 0, none⟩)) := by rw [Blk.cell bQW]; rfl
    have c1 : W.cell? ⟨K0, 0, none⟩ = some (.int .i64 (kE : Nat)) := by rw [Blk.cell hIb]; rfl
    have c2 : W.cell? ⟨bp, 2, none⟩ = some (.map (some bm)) := by rw [Blk.cell bBW]; rfl
    have hT1W : Turn (fun x => x = lm ∨ x = K0) W1 W := (T14.more (fun _ _ h => .inl h)).trans hIt (fun _ _ h => h)
    have hbmp : bm < bp := h.bmp
    have hlbm : lm ≠ bm := h.ne
    have hM : MapF Tryd.prog 3 .i64 W bm by_ cb := h.byl.kept ((hT1W.kept bm (by omega) (by show ¬ (bm = lm ∨ bm = K0); omega)).trans (hb1.block bm (by omega)))
    have hko := known_ok hnu (kNil ⟨fin, out, arcs⟩)
    have hfo := kFold_ok (xs.map (·.1.2)) (knownB nu (kNil ⟨fin, out, arcs⟩), N0) hko.1 (by rw [← hN0]; exact hko.2.1)
    rw [hfold] at hfo
    obtain ⟨fo1, fo2, fo3⟩ := hfo
    dsimp only at fo1 fo2 fo3
    have hxl : xs.length = arcs.length := by have := congrArg List.length hxs; simpa using this
    rw [List.length_map, hxl] at fo3
    have hko3 := hko.2.2.1
    have hkE : (Lit.int .i64 ((kE : Nat) : Int)).wf = true := (i64_iff _).2 (by omega)
    have hlook : ∀ n, (Instr.lookup 53 (.map (some bm)) (.int .i64 (kE : Nat)) true).run Tryd.prog (W.drewN n) = .ok (.tuple #[(by_ (kE : Nat)).getD (.int .i64 0), .bool (by_ (kE : Nat)).isSome]) (W.drewN n) := fun n =>
      MapF.look (w := W.drewN n) Tryd.underlying3 Tryd.underlying53 hM (zero_int _) hkE
    have HCH := Lib.hid hch
    have hQD : Q < D := by have := bK4.lt; omega
    have hkeep : ∀ x, x < w.heap.size → x ≠ lm → W.heap[x]? = w.heap[x]? := fun x hx hn => (hT1W.kept x (by omega) (by show ¬ (x = lm ∨ x = K0); omega)).trans (hb1.block x hx)
    have hOB : ∀ x, bv.ownBlock = some x → bp + 1 ≤ x ∧ x < w.heap.size := fun x hx => ⟨owns_base h.own x hx, (h.own.lt x hx).2⟩
    have hTW : ∀ (o : Obj) {n : Nat}, W4.heap.size ≤ D → Turn (Bd.O ⟨bp, lm, bm, bv⟩) w ((W.drewN n).putObj D o) := fun o n hD => Turn.grown (b := W.drewN n) (row := some D) ⟨Nat.le_trans T4.size hzW, (hIt.os.trans T4.os), (hIt.tape.trans T4.tape), (hIt.output.trans T4.output), fun x hx hn => hkeep x hx (fun e => hn (.inr (.inl e)))⟩ (grownBy_putObj' _ _ _) (fun r e => by cases e; omega)
    cases hby : by_ (kE : Nat) with
    | some v =>
      rw [hby] at hlook
      simp only [Option.getD_some, Option.isSome_some] at hlook
      have HBY := Lib.hid hby
      clear hby hch hfold hI hxs
      go_wp2_with fail
      go_quiet (fail)
      go_wp2_with fail
      have hDW2 : (W.drewN nq).heap[D]? = some (.deferred (some [])) := hDW
      refine ⟨by simp, .inl ⟨_, _, rfl, run_takeDeferred hDW2, ?_⟩⟩
      refine ⟨_, results_tmp rfl _ _ _, bv, ?_, ?_, ?_, fun x _ hx => hx⟩
      · unfold addM; rw [HCH.out, HBY.out]; rfl
      · unfold addM
        rw [HCH.out, HBY.out]
        dsimp only
        rw [if_pos (by rfl)]
        refine ⟨(World.putObj_heap_other (show bp ≠ D by omega)).trans bBW, hIl.kept (World.putObj_heap_other (show lm ≠ D by omega)), hM.kept (World.putObj_heap_other (show bm ≠ D by omega)), owns_kept h.own (fun x hx => ?_), h.lmp, h.bmp, h.ne, fun x hx => (h.arcs x hx).turn (hTW _ hD) (fun _ _ h => h)⟩
        obtain ⟨y1, y2⟩ := hOB x hx
        exact (World.putObj_heap_other (show x ≠ D by omega)).trans (hkeep x y2 (by omega))
      · exact hTW _ hD
    | none =>
      rw [hby] at hlook
      simp only [Option.getD_none, Option.isSome_none] at hlook
      have HBY := Lib.hid hby
      obtain ⟨sa, sc, rfl⟩ := owns_shape h.own
      have c3 : W.cell? ⟨bp, 0, none⟩ = some (.slice sa q.length sc) := by rw [Blk.cell bBW]; rfl
      have bSW : Blk W (Q + 1) 61 #[.bool fin, .int .i64 out, .slice av arcs.length cv] := hT1W.blk bS (by show ¬ (Q + 1 = lm ∨ Q + 1 = K0); omega)
      have x0 : W.cell? ⟨Q + 1, 0, none⟩ = some (.bool fin) := by rw [Blk.cell bSW]; rfl
      have x1 : W.cell? ⟨Q + 1, 1, none⟩ = some (.int .i64 out) := by rw [Blk.cell bSW]; rfl
      have x2 : W.cell? ⟨Q + 1, 2, none⟩ = some (.slice av arcs.length cv) := by rw [Blk.cell bSW]; rfl
      have hownW : W.ownsRow (bp + 1) 61 3 (.slice sa q.length sc) q.length (rowS q) := owns_kept h.own (fun x hx => by obtain ⟨y1, y2⟩ := hOB x hx; exact hkeep x y2 (by omega))
      clear hby hch hfold hI hxs
      go_wp2_with fail
      go_quiet (fail)
      go_wp2_with fail
      obtain ⟨Wd, hWd⟩ : ∃ Wd, W.drewN nq = Wd := ⟨_, rfl⟩
      have hbd : Below W.heap.size W Wd := by rw [← hWd]; exact below_drewN (Below.refl _ _) nq
      rw [hWd]
      have hzd : Wd.heap.size = W.heap.size := by rw [← hWd]; rfl
      have k0 : Wd.cell? ⟨Q, 0, none⟩ = some (.pointer (some ⟨bp, 0, none⟩)) := (hbd.cell (p := ⟨Q, 0, none⟩) bQW.lt).trans c0
      have k1 : Wd.cell? ⟨bp, 0, none⟩ = some (.slice sa q.length sc) := (hbd.cell (p := ⟨bp, 0, none⟩) bBW.lt).trans c3
      have k3 : Wd.cell? ⟨Q + 1, 0, none⟩ = some (.bool fin) := (hbd.cell (p := ⟨Q + 1, 0, none⟩) bSW.lt).trans x0
      have k4 : Wd.cell? ⟨Q + 1, 1, none⟩ = some (.int .i64 out) := (hbd.cell (p := ⟨Q + 1, 1, none⟩) bSW.lt).trans x1
      have k5 : Wd.cell? ⟨Q + 1, 2, none⟩ = some (.slice av arcs.length cv) := (hbd.cell (p := ⟨Q + 1, 2, none⟩) bSW.lt).trans x2
      have hownD := owns_below hownW hbd
      have HWD := Lib.hid hWd
      have HBD := Lib.hid hbd
      clear hbd hWd hlook c0 c1 c2 c3 x0 x1 x2
      obtain ⟨i0, z0, hi0, hz0, hsz0, hby0, hzs0⟩ := info_st'
      obtain ⟨W5, hW5⟩ : ∃ W5, Wd.drew.alloc (.cells #[.bool fin, .int .i64 out, .slice av arcs.length cv] 61) = W5 := ⟨_, rfl⟩
      have hb5 : Below Wd.heap.size Wd W5 := by rw [← hW5]; exact ((Below.refl _ _).drew).alloc (Nat.le_refl _) _
      have hz5 : W5.heap.size = Wd.heap.size + 1 := by rw [← hW5]; simp
      have bN5 : Blk W5 W.heap.size 61 #[.bool fin, .int .i64 out, .slice av arcs.length cv] := by rw [← hzd, ← hW5]; exact Blk.alloc_new Wd.drew _ _
      have own5 := owns_below hownD hb5
      have n1 : W5.cell? ⟨bp, 0, none⟩ = some (.slice sa q.length sc) := (hb5.cell (p := ⟨bp, 0, none⟩) (by show bp < _; have := bBW.lt; omega)).trans k1
      have S5 : W5.cell? ⟨Q, 0, none⟩ = some (.pointer (some ⟨bp, 0, none⟩)) ∧ W5.cell? ⟨Q + 1, 0, none⟩ = some (.bool fin) ∧ W5.cell? ⟨Q + 1, 1, none⟩ = some (.int .i64 out) ∧ W5.cell? ⟨Q + 1, 2, none⟩ = some (.slice av arcs.length cv) :=
        ⟨(hb5.cell (p := ⟨Q, 0, none⟩) (by show Q < _; have := bQW.lt; omega)).trans k0, (hb5.cell (p := ⟨Q + 1, 0, none⟩) (by show Q + 1 < _; have := bSW.lt; omega)).trans k3, (hb5.cell (p := ⟨Q + 1, 1, none⟩) (by show Q + 1 < _; have := bSW.lt; omega)).trans k4, (hb5.cell (p := ⟨Q + 1, 2, none⟩) (by show Q + 1 < _; have := bSW.lt; omega)).trans k5⟩
      obtain ⟨v6, W6, hr6, own6, grow6, _, new6⟩ := run_append_own_at (P := Tryd.prog) W5 (bp + 1) 23 23 61 i0 z0 3 40 Tryd.underlying23 hi0 hz0 hsz0 hby0 hzs0 (by decide) (.slice sa q.length sc) q.length (rowS q) own5 ⟨W.heap.size, 0, none⟩ 1 1 (stV ⟨fin, out, arcs⟩ (.slice av arcs.length cv)).toList rfl
        (World.news_of_block bN5) (by intro y hy; simp [stV] at hy; rcases hy with rfl | rfl | rfl <;> rfl) (by unfold maxLen; omega) (by omega) (by have := bBW.lt; omega)
      obtain ⟨va, vc, rfl⟩ := owns_shape own6
      have hQo : ∀ x, x < w.heap.size ∨ x = Q ∨ x = Q + 1 → (∀ y, (Value.slice sa q.length sc).ownBlock = some y → x ≠ y) → W6.heap[x]? = W5.heap[x]? := fun x hx hn => grow6.block x (by have h1 := bSW.lt; have h2 := hz1; have h3 := hT1W.size; rcases hx with hx | rfl | rfl <;> omega) (fun e => hn x e.symm rfl)
      have hQ6 : W6.heap[Q]? = W5.heap[Q]? := hQo Q (.inr (.inl rfl)) (fun y hy => by have := (hOB y hy).2; omega)
      have hS6 : W6.heap[Q + 1]? = W5.heap[Q + 1]? := hQo (Q + 1) (.inr (.inr rfl)) (fun y hy => by have := (hOB y hy).2; omega)
      have hP6 : W6.heap[bp]? = W5.heap[bp]? := hQo bp (.inl hp) (fun y hy => by have := (hOB y hy).1; omega)
      have S6 : W6.cell? ⟨Q, 0, none⟩ = some (.pointer (some ⟨bp, 0, none⟩)) ∧ W6.cell? ⟨Q + 1, 0, none⟩ = some (.bool fin) ∧ W6.cell? ⟨Q + 1, 1, none⟩ = some (.int .i64 out) ∧ W6.cell? ⟨Q + 1, 2, none⟩ = some (.slice av arcs.length cv) := by
        unfold World.cell? at S5 ⊢
        simp only [hQ6, hS6]
        exact S5
      have bB6 : Blk W6 bp 55 #[.slice sa q.length sc, .map (some lm), .map (some bm)] := hP6.trans ((bBW.below HBD.out bBW.lt).below hb5 (by have := bBW.lt; omega))
      have m0 : W6.cell? ⟨bp, 0, none⟩ = some (.slice sa q.length sc) := by rw [Blk.cell bB6]; rfl
      have m1 : W6.frozen? ⟨bp, 0, none⟩ = false := Blk.free bB6 0
      have HR6 := Lib.hid hr6
      have HZ5 := Lib.hid hz5
      clear hr6
      have S7 : ∀ u, (W6.setCell ⟨bp, 0, none⟩ u).cell? ⟨Q, 0, none⟩ = some (.pointer (some ⟨bp, 0, none⟩)) ∧ (W6.setCell ⟨bp, 0, none⟩ u).cell? ⟨Q + 1, 0, none⟩ = some (.bool fin) ∧ (W6.setCell ⟨bp, 0, none⟩ u).cell? ⟨Q + 1, 1, none⟩ = some (.int .i64 out) ∧ (W6.setCell ⟨bp, 0, none⟩ u).cell? ⟨Q + 1, 2, none⟩ = some (.slice av arcs.length cv) := fun u => by
        have e1 : (W6.setCell ⟨bp, 0, none⟩ u).heap[Q]? = W6.heap[Q]? := Below.heap_setCell _ _ _ _ (by show Q ≠ bp; omega)
        have e2 : (W6.setCell ⟨bp, 0, none⟩ u).heap[Q + 1]? = W6.heap[Q + 1]? := Below.heap_setCell _ _ _ _ (by show Q + 1 ≠ bp; omega)
        unfold World.cell? at S6 ⊢
        simp only [e1, e2]
        exact S6
      have S4 : Wd.drew.cell? ⟨Q, 0, none⟩ = some (.pointer (some ⟨bp, 0, none⟩)) ∧ Wd.drew.cell? ⟨Q + 1, 0, none⟩ = some (.bool fin) ∧ Wd.drew.cell? ⟨Q + 1, 1, none⟩ = some (.int .i64 out) ∧ Wd.drew.cell? ⟨Q + 1, 2, none⟩ = some (.slice av arcs.length cv) := ⟨k0, k3, k4, k5⟩
      have n0 : Wd.drew.cell? ⟨bp, 0, none⟩ = some (.slice sa q.length sc) := k1
      obtain ⟨W7, hW7⟩ : ∃ W7, W6.setCell ⟨bp, 0, none⟩ (.slice va (q.length + 1) vc) = W7 := ⟨_, rfl⟩
      have hz67 : W7.heap.size = W6.heap.size := by rw [← hW7]; simp
      have h67 : ∀ x, x ≠ bp → W7.heap[x]? = W6.heap[x]? := fun x hx => by rw [← hW7]; exact Below.heap_setCell _ _ _ _ (by show x ≠ bp; exact hx)
      have hkeep7 : ∀ x, x < W.heap.size → x ≠ bp → (∀ y, (Value.slice sa q.length sc).ownBlock = some y → x ≠ y) → W7.heap[x]? = W.heap[x]? := fun x hx h1 h2 =>
        (h67 x h1).trans ((grow6.block x (by omega) (fun e => h2 x e.symm rfl)).trans ((hb5.block x (by omega)).trans (HBD.out.block x hx)))
      have bB7 : Blk W7 bp 55 #[.slice va (q.length + 1) vc, .map (some lm), .map (some bm)] := by rw [← hW7]; exact bB6.set 0 _
      have hM7 : MapF Tryd.prog 3 .i64 W7 bm by_ cb := hM.kept (hkeep7 bm hM.lt (by omega) (fun y hy => by have := (hOB y hy).1; omega))
      have hL7 : LinksIn W7 lm nuE := hIl.kept (hkeep7 lm hIl.lt (by omega) (fun y hy => by have := (hOB y hy).1; omega))
      have hK7 : Blk W7 K0 3 #[.int .i64 (kE : Nat)] := (hkeep7 K0 hIb.lt (by omega) (fun y hy => by have := (hOB y hy).2; omega)).trans hIb
      have own7 : W7.ownsRow (bp + 1) 61 3 (.slice va (q.length + 1) vc) (q.length + 1) (rowS q ++ (stV ⟨fin, out, arcs⟩ (.slice av arcs.length cv)).toList) := owns_kept own6 (fun x hx => h67 x (by have := owns_base own6 x hx; omega))
      have S7' := S7 (.slice va (q.length + 1) vc)
      rw [hW7] at S7'
      obtain ⟨w9, hs1, hs2, hs3⟩ := MapF.store (w := W7.drew) Tryd.underlying3 Tryd.underlying53 hM7 (by unfold maxLen; omega) hkE (.int .i64 (q.length : Nat))
      rw [HBY.out] at hs2
      have u0 : W7.drew.cell? ⟨Q, 0, none⟩ = some (.pointer (some ⟨bp, 0, none⟩)) := S7'.1
      have u1 : W7.drew.cell? ⟨bp, 2, none⟩ = some (.map (some bm)) := (Blk.cell bB7 2).trans rfl
      have u2 : W7.drew.cell? ⟨K0, 0, none⟩ = some (.int .i64 (kE : Nat)) := (Blk.cell hK7 0).trans rfl
      have HFin : ∀ o : Obj, BIs (w9.putObj D o) ⟨bp, lm, bm, .slice va (q.length + 1) vc⟩ (q ++ [(⟨fin, out, arcs⟩, .slice av arcs.length cv)]) nuE (upd by_ (kE : Nat) (some (.int .i64 (q.length : Nat)))) (if (none : Option Value).isSome then cb else cb + 1) ∧
          Turn (Bd.O ⟨bp, lm, bm, .slice sa q.length sc⟩) w (w9.putObj D o) ∧ ∀ x, x < w.heap.size → Bd.O ⟨bp, lm, bm, .slice va (q.length + 1) vc⟩ x → Bd.O ⟨bp, lm, bm, .slice sa q.length sc⟩ x := fun o => by
        have hk9 : ∀ x, x ≠ bm → x ≠ D → (w9.putObj D o).heap[x]? = W7.heap[x]? := fun x h1 h2 => (World.putObj_heap_other h2).trans (turned_block (w := W7.drew) hs3 h1)
        have hz9 : w9.heap.size = W7.heap.size := turned_size (w := W7.drew) hs3
        have hg6 := grow6.size
        have hall : ∀ x, x < w.heap.size → ¬ Bd.O ⟨bp, lm, bm, .slice sa q.length sc⟩ x → (w9.putObj D o).heap[x]? = w.heap[x]? := fun x hx hn =>
          (hk9 x (fun e => hn (.inr (.inr (.inl e)))) (by omega)).trans ((hkeep7 x (by omega) (fun e => hn (.inl e)) (fun y hy e => hn (.inr (.inr (.inr (e ▸ hy)))))).trans (hkeep x hx (fun e => hn (.inr (.inl e)))))
        have hT : Turn (Bd.O ⟨bp, lm, bm, .slice sa q.length sc⟩) w (w9.putObj D o) := by
          obtain ⟨es, clock, es', clock', hmb, hw9⟩ := hs3
          have e7 : w9.os = W7.os ∧ w9.tape = W7.tape ∧ w9.output = W7.output := by rw [hw9]; exact ⟨rfl, rfl, rfl⟩
          have e6 : W7.os = W6.os ∧ W7.tape = W6.tape ∧ W7.output = W6.output := by rw [← hW7]; exact ⟨rfl, rfl, rfl⟩
          have e1 := HBD.out
          refine ⟨by simp; omega, ?_, ?_, ?_, hall⟩
          · exact e7.1.trans (e6.1.trans (grow6.os.trans (hb5.os.trans (e1.os.trans (hIt.os.trans T4.os)))))
          · exact e7.2.1.trans (e6.2.1.trans (grow6.tape.trans (hb5.tape.trans (e1.tape.trans (hIt.tape.trans T4.tape)))))
          · exact e7.2.2.trans (e6.2.2.trans (grow6.output.trans (hb5.output.trans (e1.output.trans (hIt.output.trans T4.output)))))
        have hOO : ∀ x, x < w.heap.size → Bd.O ⟨bp, lm, bm, .slice va (q.length + 1) vc⟩ x → Bd.O ⟨bp, lm, bm, .slice sa q.length sc⟩ x := fun x hx h => by
          rcases h with h | h | h | h
          · exact .inl h
          · exact .inr (.inl h)
          · exact .inr (.inr (.inl h))
          · rcases new6 with e | e
            · exact .inr (.inr (.inr (e ▸ h)))
            · have h' : (Value.slice va (q.length + 1) vc).ownBlock = some x := h
              rw [e] at h'
              cases h'
              omega
        refine ⟨⟨(hk9 bp (by omega) (by omega)).trans bB7, hL7.kept (hk9 lm hlbm (by omega)), hs2.kept (World.putObj_heap_other (show bm ≠ D by omega)), ?_, h.lmp, h.bmp, h.ne, fun x hx => ?_⟩, hT, hOO⟩
        · rw [rowS_snoc, List.length_append]
          have hDlt : D < W.heap.size := (Array.getElem?_eq_some_iff.1 hDW).1
          have hgg := grow6.size
          exact owns_kept own7 (fun x hx => hk9 x (by have := owns_base own7 x hx; omega) (fun e => by
            rcases new6 with e' | e'
            · have := (hOB x (e' ▸ hx)).2; omega
            · rw [e'] at hx; cases hx; omega))
        · rcases List.mem_append.1 hx with hx | hx
          · exact (h.arcs x hx).turn hT hOO
          · simp only [List.mem_singleton] at hx
            subst hx
            exact ha.turn hT hOO
      have hD9 : w9.heap[D]? = some (.deferred (some [])) := (turned_block (w := W7.drew) hs3 (show D ≠ bm by omega)).trans ((hkeep7 D (Array.getElem?_eq_some_iff.1 hDW).1 (by omega) (fun y hy => by have := (hOB y hy).2; omega)).trans hDW)
      have U0 := Lib.hid u0
      have U1 := Lib.hid u1
      have U2 := Lib.hid u2
      have US := Lib.hid hs1
      have HS2 := Lib.hid hs2
      have HS3 := Lib.hid hs3
      have HH7 := Lib.hid hW7
      clear u0 u1 u2 hs1 hs2 hs3
      clear k0 k1 k3 k4 k5 hz5
      refine wp_region_noPanic ?_
      refine wp_region_held_drew (S := fun w' => w'.cell? ⟨Q, 0, none⟩ = some (.pointer (some ⟨bp, 0, none⟩)) ∧ w'.cell? ⟨Q + 1, 0, none⟩ = some (.bool fin) ∧ w'.cell? ⟨Q + 1, 1, none⟩ = some (.int .i64 out) ∧ w'.cell? ⟨Q + 1, 2, none⟩ = some (.slice av arcs.length cv)) (by kernel_rfl) S4 (fun hHeld => ?_)
      refine wpAnyH_take (i := 0) (v := .pointer (some ⟨bp, 0, none⟩)) rfl (by kernel_rfl) (by kernel_rfl) (by kernel_rfl) (fun _ _ _ h => h) (.inl ⟨by rfl, by intro w hSw; have hx := hSw.1; go_simp⟩) hHeld ?_
      simp only [Act.put, List.getElem_toArray, List.getElem_cons_succ, List.getElem_cons_zero, List.setIfInBounds_toArray, List.set_cons_zero, List.set_cons_succ]
      refine wpAnyH_take (i := 1) (v := .pointer (some ⟨bp, 0, none⟩)) rfl (by kernel_rfl) (by kernel_rfl) (by kernel_rfl) (fun _ _ _ h => h) (.inl ⟨by rfl, by intro w hSw; have hx := hSw.1; go_simp⟩) hHeld ?_
      simp only [Act.put, List.getElem_toArray, List.getElem_cons_succ, List.getElem_cons_zero, List.setIfInBounds_toArray, List.set_cons_zero, List.set_cons_succ]
      refine wpAnyH_take (i := 2) (v := .pointer (some ⟨bp, 0, none⟩)) rfl (by kernel_rfl) (by kernel_rfl) (by kernel_rfl) (fun _ _ _ h => h) (.inl ⟨by rfl, by intro w hSw; go_simp⟩) hHeld ?_
      simp only [Act.put, List.getElem_toArray, List.getElem_cons_succ, List.getElem_cons_zero, List.setIfInBounds_toArray, List.set_cons_zero, List.set_cons_succ]
      refine wpAnyH_take (i := 3) (v := .pointer (some ⟨bp, 0, none⟩)) rfl (by kernel_rfl) (by kernel_rfl) (by kernel_rfl) (fun _ _ _ h => h) (.inl ⟨by rfl, by intro w hSw; go_simp⟩) hHeld ?_
      simp only [Act.put, List.getElem_toArray, List.getElem_cons_succ, List.getElem_cons_zero, List.setIfInBounds_toArray, List.set_cons_zero, List.set_cons_succ]
      refine wpAnyH_take (i := 5) (v := .agg #[.bool fin, .int .i64 out, .slice av arcs.length cv]) rfl (by kernel_rfl) (by kernel_rfl) (by kernel_rfl) (fun _ _ _ h => h) (.inl ⟨by rfl, by intro w hSw; obtain ⟨hx0, hx1, hx2, hx3⟩ := hSw; go_simp⟩) hHeld ?_
      simp only [Act.put, List.getElem_toArray, List.getElem_cons_succ, List.getElem_cons_zero, List.setIfInBounds_toArray, List.set_cons_zero, List.set_cons_succ]
      refine wpAnyH_ready (rs := [4, 6]) (by kernel_rfl) (by simp) ?_
      refine AllReadyH.cons rfl (fun K hK => ?_) (AllReadyH.cons rfl (fun K hK => ?_) AllReadyH.nil)
      · go_simp
        refine hK.out _ _ S4 (fun hHeld => ?_)
        clear hK K
        refine wpAnyH_ready (rs := [6]) (by kernel_rfl) (by simp) ?_
        refine AllReadyH.cons rfl (fun K hK => ?_) AllReadyH.nil
        go_simp
        try rw [hW5]
        refine hK.out _ _ S5 (fun hHeld => ?_)
        clear hK K
        refine wpAnyH_ready (rs := [7]) (by kernel_rfl) (by simp) ?_
        refine AllReadyH.cons rfl (fun K hK => ?_) AllReadyH.nil
        rw [if_pos (by rfl)]
        refine wp_append_run _ _ 23 rfl _ _ rfl rfl (v' := .slice va (q.length + 1) vc) (w' := W6) HR6.out ?_
        refine hK.out _ _ S6 (fun hHeld => ?_)
        clear hK K
        refine wpAnyH_take (i := 8) (v := .pointer (some ⟨bp, 0, none⟩)) rfl (by kernel_rfl) (by kernel_rfl) (by kernel_rfl) (fun _ _ _ h => h) (.inl ⟨by rfl, by intro w hSw; go_simp⟩) hHeld ?_
        simp only [Act.put, List.getElem_toArray, List.getElem_cons_succ, List.getElem_cons_zero, List.setIfInBounds_toArray, List.set_cons_zero, List.set_cons_succ]
        refine wpAnyH_take (i := 9) (v := .pointer (some ⟨bp, 0, none⟩)) rfl (by kernel_rfl) (by kernel_rfl) (by kernel_rfl) (fun _ _ _ h => h) (.inl ⟨by rfl, by intro w hSw; go_simp⟩) hHeld ?_
        simp only [Act.put, List.getElem_toArray, List.getElem_cons_succ, List.getElem_cons_zero, List.setIfInBounds_toArray, List.set_cons_zero, List.set_cons_succ]
        refine wpAnyH_ready (rs := [10]) (by kernel_rfl) (by simp) ?_
        refine AllReadyH.cons rfl (fun K hK => ?_) AllReadyH.nil
        go_simp
        refine hK.out _ _ S7' (fun hHeld => ?_)
        clear hK K
        refine wpAnyH_done (by kernel_rfl) ?_ _
        refine NoPanic.normal ?_
        go_wp2_with fail
        have u0 := U0.out
        have u1 := U1.out
        have u2 := U2.out
        have us := US.out
        go_still_tail 6, (by kernel_rfl)
        change wpList _ _ _ _ _ W7.drew
        go_wp2_with fail
        refine ⟨by simp, .inl ⟨_, _, rfl, run_takeDeferred hD9, ?_⟩⟩
        refine ⟨_, results_tmp rfl _ _ _, .slice va (q.length + 1) vc, ?_, ?_, (HFin _).2.1, (HFin (.deferred (some []))).2.2⟩
        · unfold addM; rw [HCH.out, HBY.out]; rfl
        · unfold addM
          rw [HCH.out]
          dsimp only
          rw [HBY.out]
          exact (HFin _).1
      · go_simp
        try rw [hW5]
        refine hK.out _ _ S5 (fun hHeld => ?_)
        clear hK K
        refine wpAnyH_ready (rs := [4]) (by kernel_rfl) (by simp) ?_
        refine AllReadyH.cons rfl (fun K hK => ?_) AllReadyH.nil
        go_simp
        refine hK.out _ _ S5 (fun hHeld => ?_)
        clear hK K
        refine wpAnyH_ready (rs := [7]) (by kernel_rfl) (by simp) ?_
        refine AllReadyH.cons rfl (fun K hK => ?_) AllReadyH.nil
        rw [if_pos (by rfl)]
        refine wp_append_run _ _ 23 rfl _ _ rfl rfl (v' := .slice va (q.length + 1) vc) (w' := W6) HR6.out ?_
        refine hK.out _ _ S6 (fun hHeld => ?_)
        clear hK K
        refine wpAnyH_take (i := 8) (v := .pointer (some ⟨bp, 0, none⟩)) rfl (by kernel_rfl) (by kernel_rfl) (by kernel_rfl) (fun _ _ _ h => h) (.inl ⟨by rfl, by intro w hSw; go_simp⟩) hHeld ?_
        simp only [Act.put, List.getElem_toArray, List.getElem_cons_succ, List.getElem_cons_zero, List.setIfInBounds_toArray, List.set_cons_zero, List.set_cons_succ]
        refine wpAnyH_take (i := 9) (v := .pointer (some ⟨bp, 0, none⟩)) rfl (by kernel_rfl) (by kernel_rfl) (by kernel_rfl) (fun _ _ _ h => h) (.inl ⟨by rfl, by intro w hSw; go_simp⟩) hHeld ?_
        simp only [Act.put, List.getElem_toArray, List.getElem_cons_succ, List.getElem_cons_zero, List.setIfInBounds_toArray, List.set_cons_zero, List.set_cons_succ]
        refine wpAnyH_ready (rs := [10]) (by kernel_rfl) (by simp) ?_
        refine AllReadyH.cons rfl (fun K hK => ?_) AllReadyH.nil
        go_simp
        refine hK.out _ _ S7' (fun hHeld => ?_)
        clear hK K
        refine wpAnyH_done (by kernel_rfl) ?_ _
        refine NoPanic.normal ?_
        go_wp2_with fail
        have u0 := U0.out
        have u1 := U1.out
        have u2 := U2.out
        have us := US.out
        go_still_tail 6, (by kernel_rfl)
        change wpList _ _ _ _ _ W7.drew
        go_wp2_with fail
        refine ⟨by simp, .inl ⟨_, _, rfl, run_takeDeferred hD9, ?_⟩⟩
        refine ⟨_, results_tmp rfl _ _ _, .slice va (q.length + 1) vc, ?_, ?_, (HFin _).2.1, (HFin (.deferred (some []))).2.2⟩
        · unfold addM; rw [HCH.out, HBY.out]; rfl
        · unfold addM
          rw [HCH.out]
          dsimp only
          rw [HBY.out]
          exact (HFin _).1
end Go.Proofs.YtkibkbbjpgomlaaDoor.F
